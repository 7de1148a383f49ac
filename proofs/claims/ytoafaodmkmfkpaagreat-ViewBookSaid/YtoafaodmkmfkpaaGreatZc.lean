import Derived.Test.YtoafaodmkmfkpaaGreatZa
import Derived.RangeFuncLeaves
import Derived.RangeFuncRecord
import Derived.RangeFuncCalls
import Derived.RangeFuncIn
import Derived.RangeFuncSeq
import Derived.TacticsIn
import Derived.Test.YtoafaodmkmfkpaaGreatZb
import Derived.Laws.StandIn
import Derived.Lib.Bytealg
set_option linter.all false
open Go.IntKind (i64 u64 u16)
noncomputable section
namespace Go.Ab
variable{P:Program}{w:World}{l:Nat}
def Azl{o:Oper}{a:Act}{next:Act→World→Prop}{Q:Exit→Act→World→Prop}{n:Nat}(hd:∀c,o.op≠.defer c)(h:o.wp P a w next Q):o.wpIn (Fence.wide.inRound l) n P a w next Q:=by
 refine⟨fun _ _=>trivial,?_⟩;rw[Oper.semAt_eq _ _ _ hd];unfold Oper.wp at h;generalize (execOp a.eval o).run P w=r at h;have dn:(Fence.wide.inRound l).depth.isSome=true→1≤n:=fun h=>by simp[Fence.inRound,Fence.wide]at h
 cases r with
 |halt hh w'=>cases hh<;>first|exact h|exact h.elim
 |ok nx w' =>
  cases nx with
  |value v=>exact h
  |skip=>exact h
  |defer d=>exact h
  |enter f args=>exact⟨dn,(Bug.2 h:CallsIn Fence.wide _ _ _ _ _ _).inRound l⟩
  |row row args=>exact⟨dn,fun c cs _=>let ⟨v,w',r,s⟩:=h c cs;⟨v,w',r,(stepsIn_wide.2 s:StepsIn (Machine.fenced P Fence.wide) P _ _)⟩⟩
  |_=>exact h.elim
theorem Oc{P:Program}{ops:Array Oper}{Q:Exit→Act→World→Prop}{l n:Nat}(hQ:¬LetsOut Q)(hd:∀(i:Nat) o,ops[i]? = some o→∀c,o.op≠.defer c):∀(L:A6 Nat) (a:Act) (w:World),wpOps P ops Q L a w→wpOpsIn (Fence.wide.inRound l) n P ops Q L a w
 |[],a,w,h=>h
 |i::Bn4,a,w,h=>by
  unfold wpOps at h;unfold wpOpsIn;cases ho:ops[i]? with
  |none =>simp only[ho]at h⊢;exact Oc hQ hd Bn4 a w h
  |some o =>
   simp only[ho]at h⊢;split at h
   ·rename_i hw;rw[Bo3 hw];rcases h with h|h
    ·refine Azl (hd i o ho) ?_;have e:∀r,Oper.upon P o a (wpOps P ops Q Bn4) Q r→Oper.upon P o a (wpOpsIn (Fence.wide.inRound l) n P ops Q Bn4) Q r:=by
      intro r hr;have B91:=fun a w=>Oc (P:=P) (l:=l) (n:=n) hQ hd Bn4 a w
      cases r with
      |halt hh w'=>cases hh<;>first|exact hr|exact hr.elim
      |ok nx w' =>
       cases nx with
       |value v=>exact B91 _ _ hr
       |skip=>exact B91 _ _ hr
       |defer d=>exact B91 _ _ hr
       |enter f args =>
        refine Calls.mono hr ?_;intro e w'' h';cases e with
        |returned v=>exact B91 _ _ h'
        |panicked c=>exact h'
        |outgrown=>exact h'
       |row row args=>exact Rows.mono hr fun v w'' h'=>B91 _ _ h'
       |_=>exact hr.elim
     exact e _ h
    ·exact(hQ h.2).elim
   ·rename_i hw;rw[Bnv hw];exact⟨fun _ _=>trivial,Oc hQ hd Bn4 _ w h⟩
variable{nm ns:A6 Nat}{B:B8}{g:Gh}{w':World}{X:Ad}{f:Nat→Nat}{d r clock m it:Nat}
def HR.Bis(h:HR nm B g w X)(B7x:X.live=[]){ex:Nat}(hex:∀k o,X.objs.lookup k=some o→g.ρ k≠ex)(hc:∀i,w.cell? ⟨ex,i,none⟩=none)(hsh:w.shape? ex=none)(hge:B.n0≤ex)
  (hs:w.heap.size≤w'.heap.size) (hold:∀b,b<w.heap.size→b≠ex→w'.heap[b]? = w.heap[b]?) (hio:w'.os=w.os∧w'.output=w.output∧w'.tape=w.tape∧w.drawn≤w'.drawn):HR nm B g w' X:=by
 have hγ:∀i,¬i<g.γ ex:=by intro i hi;have:=h.Iw ex i hi;rw[hc i]at this;cases this
 have N0:∀b i,i<g.γ b→w'.cell? ⟨b,i,none⟩=w.cell? ⟨b,i,none⟩:=by
  intro b i hi;have hne:b≠ex:=fun e=>hγ i (e▸hi)
  exact Gl (hold b (γ_lt h (by omega)) hne) i none
 have N1:∀b s,w.shape? b=some s→w'.shape? b=some s:=by
  intro b s Hv;have hne:b≠ex:=by rintro rfl;rw[hsh]at Hv;cases Hv
  have hb:b<w.heap.size:=by
   rcases Bpt b w.heap.size with h1|h1
   ·exact h1
   ·simp[World.shape?,Bqd h1]at Hv
  rw[I2 (hold b hb hne)];exact Hv
 have hβ:∀n,g.β n=none:=by
  intro n;have:=h.live n;rw[B7x]at this;cases hb:g.β n with
  |none=>rfl
  |some x=>rw[hb]at this;simp at this
 have ht:Trans [] g w g w':=⟨⟨fun _=>Bno _,N0,N1⟩,fun _ _=>rfl,fun n ob _ he=>(by rw[hβ n]at he;cases he),fun L _ hL=>(by rw[hβ L]at hL;cases hL)⟩;refine⟨h.Cc,?_,Bop h.base hs,⟨hio.1.trans h.io.1,hio.2.1.trans h.io.2.1,hio.2.2.1.trans h.io.2.2.1,Bop h.io.2.2.2 hio.2.2.2⟩,h.le.trans ht.le,?_,?_,h.Fi,h.C1,h.Cf,h.live,h.Cq,h.Bz,h.D0,?_,.off hβ⟩
 ·intro b i hi;rw[N0 b i hi];exact h.Iw b i hi
 ·intro b hb hna;have:=h.frame b hb hna;have hne:b≠ex:=by omega
  exact⟨(hold b (Bp7 hb h.base) hne).trans this.1,this.2⟩
 ·intro k o hk;have:=h.objs k o hk;exact this.Cc ht (hold _ (Gt this) (hex k o hk)) (.inl rfl)
 ·intro n b hn;rw[hβ n]at hn;cases hn
def HR.beta(h:HR nm B g w X)(hl:X.live=[])(n:Nat):g.β n=none:=by
 have:=h.live n;rw[hl]at this;cases hb:g.β n with
 |none=>rfl
 |some x=>rw[hb]at this;simp at this
def HR.Aqy(h:HR nm B g w X)(hl:X.live=[]):HR nm (B8.of g w X) g w X :=
 ⟨fun k hk=>⟨rfl,(h.Cc k hk).2⟩,h.Iw,Bno _,⟨rfl,rfl,rfl,Bno _⟩,.refl _ _,fun _ _ _=>⟨rfl,rfl⟩,h.objs,h.Fi,h.C1,fun k o hk=>.inr (.inl ⟨k,o,hk,rfl⟩),h.live,h.Cq,h.Bz,
  fun n b hn=>.inr (.inr ⟨n,hn⟩),h.D9,.off (h.beta hl)⟩
def HR.comp{g':Gh}{X':Ad}(h:HR nm B g w X)(h':HR nm (B8.of g w X) g' w' X')(hl:X.live=[])(hl':X'.live=[]):HR nm B g' w' X':=by
 have hβ:∀n,g.β n=none:=by
  intro n;have:=h.live n;rw[hl]at this;cases hb:g.β n with
  |none=>rfl
  |some x=>rw[hb]at this;simp at this
 have Bit:∀n,g'.β n=none:=by
  intro n;have:=h'.live n;rw[hl']at this;cases hb:g'.β n with
  |none=>rfl
  |some x=>rw[hb]at this;simp at this
 have hal:∀b,(B8.of g w X).allowed b→B.n0≤b∨B.allowed b:=by
  rintro b (⟨k,o,hk,rfl⟩|⟨n,hn⟩)
  ·exact h.Cf k o hk
  ·rw[hβ n]at hn;cases hn
 refine⟨fun k hk=>⟨(h'.Cc k hk).1.trans (h.Cc k hk).1,(h'.Cc k hk).2⟩,h'.Iw,Bop h.base h'.base,⟨h'.io.1.trans h.io.1,h'.io.2.1.trans h.io.2.1,h'.io.2.2.1.trans h.io.2.2.1,Bop h.io.2.2.2 h'.io.2.2.2⟩,h.le.trans h'.le,?_,h'.objs,h'.Fi,h'.C1,?_,h'.live,h'.Cq,h'.Bz,?_,h'.D9,.off Bit⟩
 ·intro b hb hna;have h1:=h.frame b hb hna;have h2:=h'.frame b (Bp7 hb h.base) (fun ha=>(hal b ha).elim (fun h3=>by omega) hna);exact⟨h2.1.trans h1.1,h2.2.trans h1.2⟩
 ·intro k o hk;rcases h'.Cf k o hk with h1|h1
  ·exact .inl (Bop h.base h1)
  ·exact hal _ h1
 ·intro n b hn;rw[Bit n]at hn;cases hn
section
variable{P:Program}{F:Fence}{n:Nat}{ops:Array Oper}{Q:Exit→Act→World→Prop}{a:Act}{w:World}{Bn4:A6 Oper}{o:Oper}
variable{v:Value}
def C3(hF:∀f,F.fn f)(hg:o.guard=none)(hd:∀c,o.op≠.defer c)(hr:(execOp a.eval o).run P w = .ok (.value v) w')(h:wpListIn F n P ops Q Bn4 (a.put o.dst v) w'):wpListIn F n P ops Q (o::Bn4) a w :=
 Bus hg fun K hK=>⟨fun f _=>hF f,by rw[Oper.semAt_eq _ _ _ hd,hr];exact hK _ _ h⟩
def list_round(hF:∀f,F.fn f)(Bgj:F.depth=none)(hro:F.round=none){fn:FuncId}{tmps:Array Value}{assign body:Code}{R:Ending→World→Prop}(hg:o.guard=none)(hr:(execOp a.eval o).run P w = .ok (.round l fn tmps assign body) w)
  (hR:RoundIn F (n-1) P l fn tmps assign body w R) (hk:∀r w',R r w'→∃v,r = .returned v∧wpListIn F n P ops Q Bn4 (a.put o.dst v) w'):wpListIn F n P ops Q (o::Bn4) a w :=
 Bus hg fun K hK=>⟨fun f _=>hF f,by
  rw[hro,Oper.semAt_none,hr,Oper.uponIn_round];refine⟨fun h=>(by rw[Bgj]at h;cases h),hR.mono ?_⟩;intro r w' h;obtain⟨v,rfl,h2⟩:=hk r w' h;exact hK _ _ h2⟩
def Adb(hF:∀f,F.fn f)(Bgj:F.depth=none)(hro:F.round=none){f:FuncId}{args:Array Value}{R:Ending→World→Prop}(hg:o.guard=none)(hr:(execOp a.eval o).run P w = .ok (.enter f args) w)
  (hR:CallsIn F (n-1) P f args w R) (hk:∀r w',R r w'→∃v,r = .returned v∧wpListIn F n P ops Q Bn4 (a.put o.dst v) w'):wpListIn F n P ops Q (o::Bn4) a w :=
 Bus hg fun K hK=>⟨fun f _=>hF f,by
  rw[hro,Oper.semAt_none,hr,Oper.uponIn_enter];refine⟨fun h=>(by rw[Bgj]at h;cases h),hR.mono ?_⟩;intro r w' h;obtain⟨v,rfl,h2⟩:=hk r w' h;exact hK _ _ h2⟩
def A3q{f:FuncId}{args:Array Operand}{ts:Array TypeId}(ho:o.op = .call { callee:=.value (.func f),args:=args,argTypes:=ts })(hc:F6 P f):(execOp a.eval o).run P w = .ok (.enter f (args.map a.eval)) w:=by simp only[execOp,ho,resolve];simp[Act.eval,Deferred.ofValue,invoke,Dl hc]
def Cp(h:d<a.tmps.size):(a.put (some d) v).eval (.tmp d)=v:=by show(a.tmps.setIfInBounds d v).getD d undef=v;simp[Array.getD,h]
def Bl{t:Nat}(h:t≠d):(a.put (some d) v).eval (.tmp t)=a.eval (.tmp t):=by show(a.tmps.setIfInBounds d v).getD t undef=a.tmps.getD t undef;simp only[Bsh,Array.getElem?_setIfInBounds,Bnv (Bq5 h)]
def Am:(a.put (some d) v).tmps.size=a.tmps.size:=by simp[Act.put]
end
structure Ava(w:World)(m it:Nat)(es:Array MapEntry)(clock:Nat)(seen:List Nat):Prop where
 map:w.heap[m]? = some (.map es clock)
 iter:w.heap[it]? = some (.mapIter (some m) clock seen.toArray clock)
variable{o:Obj}{v:Value}{fn:FuncId}{es:Array MapEntry}{ty:TypeId}{gc:Gh}{Y:Ad}
def I5(h:w.heap[r]? = some o)(hc:∀a t f,o≠.cells a t f):(getObj r).run P w = .ok o w:=by unfold getObj;simp only[Sem.run,h]
def Aik(o':Obj)(h:w.heap[r]? = some o)(hc:∀a t f,o≠.cells a t f):(Go.setObj r o').run P w = .ok () { w with heap:=w.heap.setIfInBounds r o' }:=by unfold Go.setObj;simp only[Sem.run,h]
def Wo(es:Array MapEntry)(seen:A6 Nat):Array MapEntry:=es.filter fun e=>!(seen.toArray.contains e.born)
def Ail{seen:A6 Nat}(hold:∀e∈es,e.born<clock) :
  (Wo es seen).filter (fun e=>decide (e.born<clock))=Wo es seen∧(Wo es seen).filter (fun e=>decide (e.born≥clock))=#[] ∧
  (!seen.toArray.isEmpty && !es.isEmpty&&es.all fun e=>decide (e.born≥clock))=false:=by
 refine⟨?_,?_,?_⟩
 ·rw[Array.filter_eq_self];intro e he;exact Bnq (hold e (Bs2.1 he).1)
 ·rw[Bu8];intro e he;have:=hold e (Bs2.1 he).1;simp;omega
 ·cases hae:es.isEmpty with
  |true=>simp
  |false =>
   have Ud:0<es.size:=by
    cases hs:es.size with
    |zero =>have:es=#[]:=Bos hs;subst this;simp at hae
    |succ n=>omega
   have:(es.all fun e=>decide (e.born≥clock))=false:=by rw[Bqz];intro h;have h2:=Bu4.1 h 0 Ud;have h3:=hold es[0] (Bru Ud);simp at h2;omega
   rw[this];simp
def Am3{seen:A6 Nat}(h:Ava w m it es clock seen)(hold:∀e∈es,e.born<clock)(hl:Wo es seen=#[]) :
  (Instr.next (.pointer (some ⟨it,0,none⟩)) false ty).run P w = .ok (.tuple #[.bool false]) w:=by
 obtain⟨p1,p2,p3⟩:=Ail (seen:=seen) hold;have hg:=I5 (P:=P) h.iter (by simp);have hgm:=I5 (P:=P) h.map (by simp);have hch:=Btf P w (.mapNext 1);rw[Bo3 (by rfl)]at hch;unfold Wo at hl p1 p2;rw[hl]at p1 p2;simp only[Instr.next,Boc,hg,hgm,Bo5,p3,hl,Bon,Bpi];simp[Question.forced]
def Am4{seen:A6 Nat}(h:Ava w m it es clock seen)(hold:∀e∈es,e.born<clock)(hl:Wo es seen≠#[]) :
  ∃e∈Wo es seen,∃w1:World,(w1=w∨w1=w.drew)∧(Instr.next (.pointer (some ⟨it,0,none⟩)) false ty).run P w = .ok (.tuple #[.bool true,e.key,e.val]) { w1 with heap:=w1.heap.setIfInBounds it (.mapIter (some m) clock (seen++[e.born]).toArray clock) }:=by
 obtain⟨p1,p2,p3⟩:=Ail (seen:=seen) hold;have hg:=I5 (P:=P) h.iter (by simp);have hgm:=I5 (P:=P) h.map (by simp);have Ud:0<(Wo es seen).size:=by
  rcases Bpl (Wo es seen).size with h0|h0
  ·exact(hl (Bos h0)).elim
  ·exact h0
 have hne:(Wo es seen).isEmpty=false:=by
  cases he:(Wo es seen).isEmpty with
  |false=>rfl
  |true=>exact(hl (by simpa using he)).elim
 obtain⟨L,hL⟩:∃L,L=Wo es seen:=⟨_,rfl⟩;have hL':(es.filter fun e=>!(seen.toArray.contains e.born))=L:=hL.symm;rw[← hL]at p1 p2 Ud hne⊢;have Av2:∀(w1:World) (j:Nat) (hj:j<L.size),w1.heap=w.heap→(choose (.mapNext L.size)).run P w = .ok j w1 →
   (Instr.next (.pointer (some ⟨it,0,none⟩)) false ty).run P w = .ok (.tuple #[.bool true,L[j].key,L[j].val]) { w1 with heap:=w1.heap.setIfInBounds it (.mapIter (some m) clock (seen++[L[j].born]).toArray clock) }:=by
  intro w1 j hj hh hch;have Zr:=Aik (P:=P) (w:=w1) (o:=.mapIter (some m) clock seen.toArray clock) (.mapIter (some m) clock (seen.toArray.push L[j].born) clock) (by rw[hh];exact h.iter) (by simp);have Jq:((#[]:Array (A7 MapEntry))++(L++#[]).map some).size=L.size:=by simp
  have hs:((#[]:Array (A7 MapEntry))++(L++#[]).map some)[j]? = some (some L[j]):=by simp[hj]
  simp only[Instr.next,Boc,hg,hgm,Bo5,p3,hL',p1,p2,hne,Bon,Bpi];rw[Jq,hch];simp only[Bo5,hs,Boc,Zr,Bql];simp
 have hch:=Btf P w (.mapNext L.size);by_cases hf:(Question.mapNext L.size).forced=true
 ·rw[Bo3 hf]at hch;exact⟨L[0],Bru Ud,w,.inl rfl,Av2 w 0 Ud rfl hch⟩
 ·rw[Bnv hf]at hch;have hj:(Question.mapNext L.size).cut (w.tape w.drawn (.mapNext L.size))<L.size:=Bt0 _ Ud;exact⟨_,Bru hj,w.drew,.inr rfl,Av2 w.drew _ hj rfl hch⟩
def B50{seen:A6 Nat}{e:MapEntry}(h:Ava w m it es clock (seen++[e.born]))(he:e∈es)(hnd:(es.toList.map (·.born)).Nodup) :
  (Instr.entry (.pointer (some ⟨it,0,none⟩))).run P w = .ok (.tuple #[e.key,e.val]) w:=by
 have hg:=I5 (P:=P) h.iter (by simp);have hgm:=I5 (P:=P) h.map (by simp);have hf:es.find? (fun x=>x.born==e.born)=some e:=by
  rw[← Array.find?_toList];have:∀l:A6 MapEntry,(l.map (·.born)).Nodup→e∈l→l.find? (fun x=>x.born==e.born)=some e:=by
   intro l;induction l with
   |nil=>intro _ h;simp at h
   |cons x r ih =>
    intro hn hm;simp only[Bnh,Boi]at hn;rw[List.find?_cons];rcases Bnd.1 hm with rfl|hm
    ·simp
    ·have hne:(x.born==e.born)=false:=by simp only[Bqp];intro hx;exact hn.1 (hx▸Bnr (f:=(·.born)) hm)
     rw[hne];exact ih hn.2 hm
  exact this _ hnd (by simpa using he)
 simp only[Instr.entry,Boc,hg,Bo5];simp[hf,hgm,Result.andThen]
def J7.base{B':B8}(h:J7 B g w X)(hn:B'.n0=B.n0)(ha:∀b,B.allowed b→B'.allowed b):J7 B' g w X :=
 ⟨h.inj,h.Cv,h.obj,fun L i b hL hb=>(h.new L i b hL hb).elim (fun h1=>.inl (hn▸h1)) fun h1=>.inr (ha b h1),h.lt⟩
def HR.B2a{nm':A6 Nat}(h:HR nm B g w X)(kp:Nat→Nat)(hk:∀k∈nm',g.ρ k=kp k∧(X.objs.lookup k).isSome):HR nm' { B with Cc:=kp } g w X :=
 ⟨fun k hm=>hk k hm,h.Iw,h.base,h.io,h.le,h.frame,h.objs,h.Fi,h.C1,h.Cf,h.live,h.Cq,h.Bz,h.D0,h.D9,h.eta.base rfl fun _ h=>h⟩
mutual
def A03:AV→Bool
 |.d _=>true
 |.nm _ _=>true
 |.Cv _ _ _ _=>false
 |.tpt _ _ _=>false
 |.Er l=>Ep l
 |.agg l=>Ep l
 |.Ek _ l=>Ep l
def Ep:List AV→Bool
 |[]=>true
 |x::r=>A03 x&&Ep r
end
def Wp{l:A6 AV}(h:Ep l=true){i:Nat}{x:AV}(hx:l[i]? = some x):A03 x=true:=by
 induction l generalizing i with
 |nil=>simp at hx
 |cons y r ih =>
  simp only[Ep,Boo]at h;cases i with
  |zero=>simp at hx;subst hx;exact h.1
  |succ i=>exact ih h.2 (by simpa using hx)
def Vb:Ob→Bool
 |.cells cs _=>Ep cs
 |.Cx _ _ _ _=>false
 |_=>true
theorem RA.pull(hγ:gc.γ=g.γ)(hρ:∀k,gc.ρ k=g.ρ (f k)):∀(x:AV) (v:Value),A03 x=true→RA g w (E2 f x) v→RA gc w x v
 |.d x,v,_,h=>by
  simp only[E2]at h;cases h with
  |d _ _ h=>exact .d _ _ (hγ▸h)
 |.nm k p,v,hn,h=>by
  simp only[E2]at h;cases h with
  |nm _ _ _ h=>exact .nm k p v (by rw[hρ k];exact h)
 |.Cv n sz es ty,v,hn,h=>by simp[A03]at hn
 |.tpt n e cs,v,hn,h=>by simp[A03]at hn
 |.Er l,v,hn,h=>by
  simp only[E2,Ge]at h;cases h with
  |Er _ vs hl hx =>
   refine .Er l vs (by simpa using hl) fun i x v h1 h2=>?_
   have:SizeOf.sizeOf x<SizeOf.sizeOf l:=Bps (Boe h1);exact RA.pull hγ hρ x v (Wp (by simpa[A03]using hn) h1) (hx i _ v (by rw[Bni,h1];rfl) h2)
 |.agg l,v,hn,h=>by
  simp only[E2,Ge]at h;cases h with
  |agg _ vs hl hx =>
   refine .agg l vs (by simpa using hl) fun i x v h1 h2=>?_
   have:SizeOf.sizeOf x<SizeOf.sizeOf l:=Bps (Boe h1);exact RA.pull hγ hρ x v (Wp (by simpa[A03]using hn) h1) (hx i _ v (by rw[Bni,h1];rfl) h2)
 |.Ek c l,v,hn,h=>by
  simp only[E2,Ge]at h;cases h with
  |Ek _ _ vs hl hx =>
   refine .Ek c l vs (by simpa using hl) fun i x v h1 h2=>?_
   have:SizeOf.sizeOf x<SizeOf.sizeOf l:=Bps (Boe h1);exact RA.pull hγ hρ x v (Wp (by simpa[A03]using hn) h1) (hx i _ v (by rw[Bni,h1];rfl) h2)
termination_by x=>x
theorem Ce.pull(hγ:gc.γ=g.γ)(hρ:∀k,gc.ρ k=g.ρ (f k)){b:Nat}{o:Ob}(hn:Vb o=true)(h:Ce g w b (Ef f o)):Ce gc w b o:=by
 cases o with
 |cells cs ty =>
  simp only[Ef,Ge]at h;cases h with
  |cells _ _ arr T hb hl hc h4 =>refine .cells cs ty arr T hb (by simpa using hl) (fun i x v hx hv=>?_) h4;exact RA.pull hγ hρ x v (Wp (by simpa[Vb]using hn) hx) (hc i _ v (by rw[Bni,hx];rfl) hv)
 |map l c =>
  simp only[Ef]at h;cases h with
  |map _ _ es hb hl hc h4 h5=>exact .map l c es hb hl (fun i x e hx he=>⟨(hc i x e hx he).1,(hc i x e hx he).2.1,hγ▸(hc i x e hx he).2.2⟩) h4 h5
 |Vw s pos=>simp only[Ef]at h;cases h with|Vw _ _ hb=>exact .Vw s pos hb
 |Kn k since seen last =>
  simp only[Ef]at h;cases h with
  |Kn _ _ _ _ hb=>exact .Kn k since seen last (by rw[hρ k];exact hb)
 |E5=>simp only[Ef]at h;cases h with|E5 hb=>exact .E5 hb
 |Cx L sz l c=>simp[Vb]at hn
def Gh.pull(g:Gh)(f:Nat→Nat):Gh:={ γ:=g.γ,β:=fun _=>none,ρ:=fun k=>g.ρ (f k) }
theorem HR.pull(hr:HR nm B g w X)(hl:Y.live=[])(Uc:∀k o,Y.objs.lookup k=some o→X.objs.lookup (f k)=some (Ef f o))
  (Ap5:∀k k' o o',Y.objs.lookup k=some o→Y.objs.lookup k'=some o'→f k=f k'→k=k') (hnt:∀k o,Y.objs.lookup k=some o→Vb o=true)
  (hns:∀k∈ns,f k=k∧k∈nm∧(Y.objs.lookup k).isSome):HR ns B (g.pull f) w Y:=by
 refine⟨?_,hr.Iw,hr.base,hr.io,hr.le,hr.frame,?_,?_,?_,?_,?_,by simp[Gh.pull],by simp[Gh.pull],by simp[Gh.pull],by simp[Gh.pull],.off fun _=>rfl⟩
 ·intro k hk;obtain⟨h1,h2,h3⟩:=hns k hk;exact⟨by show g.ρ (f k)=_;rw[h1];exact(hr.Cc k h2).1,h3⟩
 ·intro k o hk;exact Ce.pull (g:=g) (gc:=g.pull f) (f:=f) rfl (fun _=>rfl) (hnt k o hk) (hr.objs _ _ (Uc k o hk))
 ·intro k o hk;exact hr.Fi _ _ (Uc k o hk)
 ·intro k k' o o' hk M1 he;exact Ap5 k k' o o' hk M1 (hr.C1 _ _ _ _ (Uc k o hk) (Uc k' o' M1) he)
 ·intro k o hk;exact hr.Cf _ _ (Uc k o hk)
 ·intro n;rw[hl];simp[Gh.pull]
def Avb(P:Program)(f:FuncId)(ns:A6 Nat)(args:A6 AV)(gs:A6 (Nat×AV))(X:Ad)(res:AV)(X':Ad):Prop :=
 ∀(g:Gh) (w:World) (vs:Array Value),HR ns (B8.of g w X) g w X→GH g w gs→args.length=vs.size →
  (∀(i:Nat) x v,args[i]? = some x→vs[i]? = some v→RA g w x v) →
  Calls P f vs w fun e w'=>∃g' v,e = .returned v∧RA g' w' res v∧HR ns (B8.of g w X) g' w' X'
structure Aqz(ns:List Nat)(X Xc Dg Y:Ad)(f:Nat→Nat)(F:List Nat):Prop where
 live:Xc.live=[]∧Dg.live=[]∧Y.live=X.live
 Ti:∀k o,Xc.objs.lookup k=some o→X.objs.lookup (f k)=some (Ef f o)
 Bl5:∀k o,Xc.objs.lookup k=some o→Vb o=true
 Biu:∀k o,Dg.objs.lookup k=some o→∃ks,J3 ks o=true∧∀j∈ks,(Dg.objs.lookup j).isSome
 inj:∀k k',(Xc.objs.lookup k).isSome∨(Dg.objs.lookup k).isSome→(Xc.objs.lookup k').isSome∨(Dg.objs.lookup k').isSome→f k=f k'→k=k'
 nsi:∀k∈ns,(Xc.objs.lookup k).isSome∧(Dg.objs.lookup k).isSome
 yin:∀k o,Dg.objs.lookup k=some o→Y.objs.lookup (f k)=some (Ef f o)
 Bl6:∀j o,Y.objs.lookup j=some o→(∃k,(Dg.objs.lookup k).isSome∧f k=j)∨(X.objs.lookup j=some o∧(∀k,(Xc.objs.lookup k).isSome→f k≠j)∧(F=[]∨Fk F o=true))
 Cc:∀j<1000,(X.objs.lookup j).isSome→(Y.objs.lookup j).isSome∧∀k,f k=j→(Dg.objs.lookup k).isSome→k∈ns
 free:∀k,(Dg.objs.lookup k).isSome→k∈ns∨f k∈F
def Wq{α:Type}{x:A7 α}(h:x.isSome):∃y,x=some y:=Boj.1 h
section
variable{P:Program}{X:Ad}
def Avb.use{xs:A6 AV}{gs:A6 (Nat×AV)}{res:AV}{Xc Dg:Ad}(hs:Avb P fn ns xs gs Xc res Dg)(hgd:Ch (gs.map (·.2))=true){F:A6 Nat}(hc:Aqz ns X Xc Dg Y f F)
  (hd:Ep xs=true) (Y6:∃ks,Cy ks res=true∧∀j∈ks,(Dg.objs.lookup j).isSome)  (G3:∀j∈nm,j<1000)   
  (hr:HR nm B g w X) (hgs:GH g w gs) {vs:Array Value} (hl:xs.length=vs.size) (Qx:∀(i:Nat) x v,(Dx f xs)[i]? = some x→vs[i]? = some v→RA g w x v) :
  Calls P fn vs w fun e w'=>∃v g',e = .returned v∧HR nm B g' w' Y∧Trans F g w g' w'∧RA g' w' (E2 f res) v:=by
 classical
 let gc:Gh:=g.pull f;have h0:HR ns (B8.of gc w Xc) gc w Xc:=by have h1:HR [] B gc w Xc:=hr.pull hc.live.1 hc.Ti (fun k k' o o' hk M1 he=>hc.inj k k' (.inl (by rw[hk];rfl)) (.inl (by rw[M1];rfl)) he) hc.Bl5 (by simp);have h2:=h1.Aqy hc.live.1;exact⟨fun k hk=>⟨rfl,(hc.nsi k hk).1⟩,h2.Iw,h2.base,h2.io,h2.le,h2.frame,h2.objs,h2.Fi,h2.C1,h2.Cf,h2.live,h2.Cq,h2.Bz,h2.D0,h2.D9,h2.eta⟩
 have hgc:GH gc w gs:=by intro p hp;have h1:=hgs p hp;obtain⟨i,hi⟩:=Btb hp;exact h1.data (N4 hgd (i:=i) (by rw[Bni,hi];rfl)) (.refl _ _)
 have:=hs gc w vs h0 hgc hl fun i x v hx hv=>RA.pull (g:=g) (gc:=g.pull f) (f:=f) rfl (fun _=>rfl) x v (Wp hd hx) (Qx i _ v (by rw[Ge,Bni,hx];rfl) hv)
 refine this.mono ?_;rintro e w' ⟨g1,v,rfl,Xt,h1⟩;let ρ':Nat→Nat:=fun j=>if h:∃k,(Dg.objs.lookup k).isSome∧f k=j then g1.ρ h.choose else g.ρ j
 have Hr:∀k,(Dg.objs.lookup k).isSome→ρ' (f k)=g1.ρ k:=by intro k hk;have h:∃k',(Dg.objs.lookup k').isSome∧f k'=f k:=⟨k,hk,rfl⟩;have:=hc.inj _ _ (.inr h.choose_spec.1) (.inr hk) h.choose_spec.2;simp only[ρ',h,Bud];rw[this]
 have Dr:∀j,(∀k,(Dg.objs.lookup k).isSome→f k≠j)→ρ' j=g.ρ j:=by
  intro j hj;have:¬ ∃k,(Dg.objs.lookup k).isSome∧f k=j:=fun⟨k,h,e⟩=>hj k h e
  simp only[ρ',this,dif_neg,not_false_iff]
 have hold:∀k∈ns,g1.ρ k=g.ρ (f k):=fun k hk=>(h1.Cc k hk).1
 have hna:∀b,(¬ ∃k o,Xc.objs.lookup k=some o∧g.ρ (f k)=b)→¬(B8.of gc w Xc).allowed b:=by
  rintro b hb (⟨k,o,hk,he⟩|⟨n,hn⟩)
  ·exact hb ⟨k,o,hk,he⟩
  ·cases hn
 have R2:∀b,b<w.heap.size→(¬ ∃k o,Xc.objs.lookup k=some o∧g.ρ (f k)=b)→w'.heap[b]? = w.heap[b]?∧g1.γ b=g.γ b:=fun b hb hn=>h1.frame b hb (hna b hn)
 have Jq:w.heap.size≤w'.heap.size:=h1.base;have hle:LeD g.γ w g1.γ w':=h1.le;have A35:∀n b,g.β n=some (some b)→w'.heap[b]? = w.heap[b]?∧g1.γ b=g.γ b:=by intro n b hn;refine R2 b (hr.D9 n b hn) ?_;rintro ⟨k,o,hk,he⟩;exact hr.Bz n b _ _ hn (hc.Ti k o hk) he.symm
 have A36:∀L i b,(g.β L).isSome→g.η L i=some b→w'.heap[b]? = w.heap[b]?∧g1.γ b=g.γ b:=by intro L i b hL hb;refine R2 b (hr.eta.lt L i b hL hb) ?_;rintro ⟨k,o,hk,he⟩;exact hr.eta.obj L i b _ _ hL hb (hc.Ti k o hk) he.symm
 have A37:∀j o,X.objs.lookup j=some o→(∀k,(Xc.objs.lookup k).isSome→f k≠j)→w'.heap[g.ρ j]? = w.heap[g.ρ j]?∧g1.γ (g.ρ j)=g.γ (g.ρ j):=by intro j o hj hne;refine R2 _ (Gt (hr.objs j o hj)) ?_;rintro ⟨k,o',hk,he⟩;exact hne k (by rw[hk];rfl) (hr.C1 _ _ _ _ (hc.Ti k o' hk) hj he)
 have Ar0:∀k o,Dg.objs.lookup k=some o→w.heap.size≤g1.ρ k∨∃k0 o0,Xc.objs.lookup k0=some o0∧g1.ρ k=g.ρ (f k0):=by
  intro k o hk;rcases h1.Cf k o hk with h|h|⟨n,hn⟩
  ·exact .inl h
  ·obtain⟨k0,o0,h2,h3⟩:=h;exact .inr ⟨k0,o0,h2,h3.symm⟩
  ·cases hn
 have ht:Trans F g w { γ:=g1.γ,β:=g.β,ρ:=ρ',η:=g.η } w':=by
  refine⟨hle,?_,fun n ob _ he=>⟨he,fun b hb=>⟨(A35 n b (hb▸he)).2,(A35 n b (hb▸he)).1⟩⟩,fun L _ hL=>⟨rfl,fun i b hb=>⟨(A36 L i b hL hb).2,(A36 L i b hL hb).1⟩⟩⟩;intro j hj;simp only;by_cases h:∃k,(Dg.objs.lookup k).isSome∧f k=j
  ·obtain⟨k,hk,rfl⟩:=h;rw[Hr k hk];rcases hc.free k hk with h|h
   ·exact hold k h
   ·exact(hj h).elim
  ·exact Dr j fun k hk e=>h ⟨k,hk,e⟩
 have hY:∀j o,Y.objs.lookup j=some o→(∃k o',Dg.objs.lookup k=some o'∧f k=j∧o=Ef f o')∨((∀k,(Dg.objs.lookup k).isSome→f k≠j)∧X.objs.lookup j=some o∧(∀k,(Xc.objs.lookup k).isSome→f k≠j)∧(F=[]∨Fk F o=true)):=by
  intro j o hj;by_cases h:∃k,(Dg.objs.lookup k).isSome∧f k=j
  ·obtain⟨k,hk,rfl⟩:=h;obtain⟨o',ho'⟩:=Wq hk;have:=hc.yin k o' ho';rw[hj]at this;exact .inl ⟨k,o',ho',rfl,by simpa using this⟩
  ·rcases hc.Bl6 j o hj with h2|h2
   ·exact(h h2).elim
   ·exact .inr ⟨fun k hk e=>h ⟨k,hk,e⟩,h2⟩
 have A1k:∀k o,Dg.objs.lookup k=some o→ρ' (f k)=g1.ρ k:=fun k o hk=>Hr k (by rw[hk];rfl)
 have mix:∀k o,Dg.objs.lookup k=some o→∀j p,X.objs.lookup j=some p→(∀k,(Xc.objs.lookup k).isSome→f k≠j)→g1.ρ k≠g.ρ j:=by
  intro k o hk j p hj hne he;rcases Ar0 k o hk with h|⟨k0,o0,h2,h3⟩
  ·have:=Gt (hr.objs j p hj);omega
  ·rw[h3]at he;exact hne k0 (by rw[h2];rfl) (hr.C1 _ _ _ _ (hc.Ti k0 o0 h2) hj he)
 refine⟨v,{ γ:=g1.γ,β:=g.β,ρ:=ρ',η:=g.η },rfl,⟨?_,h1.Iw,Bop hr.base Jq,⟨h1.io.1.trans hr.io.1,h1.io.2.1.trans hr.io.2.1,h1.io.2.2.1.trans hr.io.2.2.1,Bop hr.io.2.2.2 h1.io.2.2.2⟩,hr.le.trans hle,?_,?_,?_,?_,?_,?_,hr.Cq,?_,hr.D0,?_,hr.eta.step (fun L hL=>.inl ⟨hL,rfl⟩) Jq (fun n b hb=>.inl ⟨n,hb⟩) fun j o hj=>?_⟩,ht,?_⟩
 ·intro j hj;obtain⟨h2,h3⟩:=hr.Cc j hj;obtain⟨h4,h5⟩:=hc.Cc j (G3 j hj) h3;refine⟨?_,h4⟩;simp only;by_cases h:∃k,(Dg.objs.lookup k).isSome∧f k=j
  ·obtain⟨k,hk,rfl⟩:=h;rw[Hr k hk,hold k (h5 k rfl hk)];exact h2
  ·rw[Dr j fun k hk e=>h ⟨k,hk,e⟩];exact h2
 ·intro b hb hnb;have h2:=hr.frame b hb hnb;have h3:=R2 b (Bp7 hb hr.base) (by
   rintro ⟨k,o,hk,he⟩;rcases hr.Cf _ _ (hc.Ti k o hk)with h|h
   ·rw[he]at h;omega
   ·rw[he]at h;exact hnb h)
  exact⟨h3.1.trans h2.1,h3.2.trans h2.2⟩
 ·intro j o hj;rcases hY j o hj with ⟨k,o',hk,rfl,rfl⟩|⟨hne,H7,Ub,hfr⟩
  ·simp only;rw[A1k k o' hk];obtain⟨ks,q1,q2⟩:=hc.Biu k o' hk;exact Ce.Ams (g:={ γ:=g1.γ,β:=g.β,ρ:=ρ',η:=g.η }) (gc:=g1) rfl (fun j hj=>Hr j (q2 j hj)) q1 (h1.objs _ _ hk)
  ·simp only;rw[Dr j hne];exact(hr.objs j o H7).Cc ht (A37 j o H7 Ub).1 hfr
 ·intro j o hj;rcases hY j o hj with ⟨k,o',hk,rfl,rfl⟩|⟨hne,H7,Ub,hfr⟩
  ·simp only;rw[A1k k o' hk];exact h1.Fi _ _ hk
  ·simp only;rw[Dr j hne,(A37 j o H7 Ub).2];exact hr.Fi j o H7
 ·intro j j' o o' hj H7 he;simp only at he;rcases hY j o hj with ⟨k,p,hk,e1,_⟩|⟨hne,hj1,Bl7,_⟩<;>rcases hY j' o' H7 with ⟨k',q,M1,e2,_⟩|⟨Ub,Ats,Biv,_⟩
  ·rw[← e1,← e2]at he⊢;rw[A1k k p hk,A1k k' q M1]at he;rw[h1.C1 _ _ _ _ hk M1 he]
  ·rw[← e1,A1k k p hk,Dr j' Ub]at he;exact(mix k p hk j' o' Ats Biv he).elim
  ·rw[← e2,A1k k' q M1,Dr j hne]at he;exact(mix k' q M1 j o hj1 Bl7 he.symm).elim
  ·rw[Dr j hne,Dr j' Ub]at he;exact hr.C1 j j' o o' hj1 Ats he
 ·intro j o hj;rcases hY j o hj with ⟨k,o',hk,rfl,rfl⟩|⟨hne,H7,Ub,hfr⟩
  ·simp only;rw[A1k k o' hk];rcases Ar0 k o' hk with h|⟨k0,o0,h2,h3⟩
   ·exact .inl (Bop hr.base h)
   ·rw[h3];exact hr.Cf _ _ (hc.Ti k0 o0 h2)
  ·simp only;rw[Dr j hne];exact hr.Cf j o H7
 ·intro n;rw[hc.live.2.2];exact hr.live n
 ·intro n b j o hn hj;rcases hY j o hj with ⟨k,o',hk,rfl,rfl⟩|⟨hne,H7,Ub,hfr⟩
  ·simp only;rw[A1k k o' hk];rcases Ar0 k o' hk with h|⟨k0,o0,h2,h3⟩
   ·have:=hr.D9 n b hn;omega
   ·rw[h3];exact hr.Bz n b _ _ hn (hc.Ti k0 o0 h2)
  ·simp only;rw[Dr j hne];exact hr.Bz n b j o hn H7
 ·intro n b hn;exact Bp7 (hr.D9 n b hn) Jq
 ·rcases hY j o hj with ⟨k,o',hk,rfl,rfl⟩|⟨hne,H7,Ub,hfr⟩
  ·simp only;rw[A1k k o' hk];rcases Ar0 k o' hk with h|⟨k0,o0,h2,h3⟩
   ·exact .inr (.inl h)
   ·exact .inl ⟨f k0,_,hc.Ti k0 o0 h2,h3⟩
  ·simp only;rw[Dr j hne];exact .inl ⟨j,o,H7,rfl⟩
 ·obtain⟨ks,q1,q2⟩:=Y6;exact RA.Ams (g:={ γ:=g1.γ,β:=g.β,ρ:=ρ',η:=g.η }) (gc:=g1) rfl (fun j hj=>Hr j (q2 j hj)) Xt q1
end
end Go.Ab
namespace Go.Xl
open Go.Ab
section
variable{P:Program}
def A3r{kt vt:Ty}(b:Nat):F8 kt vt→A7 (Nat×kt.T×vt.T)
 |[]=>none
 |e::r=>cond (Nat.beq e.1 b) (some e) (A3r b r)
theorem Anh{kt vt:Ty}{b:Nat}{e:Nat×kt.T×vt.T}:∀ {l:F8 kt vt},A3r b l=some e→e.1=b∧∃i:Nat,l[i]? = some e
 |[],h=>by simp[A3r]at h
 |x::r,h=>by
  simp only[A3r]at h;cases hb:Nat.beq x.1 b with
  |true =>simp only[hb,Bna,Bnf]at h;subst h;exact⟨Bne hb,0,rfl⟩
  |false =>simp only[hb,Bnc]at h;obtain⟨h1,i,h2⟩:=Anh h;exact⟨h1,i+1,by simpa using h2⟩
def I6:A6 Nat→A7 (A6 Nat×Nat)
 |[]=>none
 |[b]=>some ([],b)
 |a::r=>match I6 r with
  |some (p,b)=>some (a::p,b)
  |none=>none
theorem Avc:∀ {l p:A6 Nat} {b:Nat},I6 l=some (p,b)→l=p++[b]
 |[],p,b,h=>by simp[I6]at h
 |[x],p,b,h=>by
  simp only[I6,Bnf,Bo2]at h;obtain⟨rfl,rfl⟩:=h;rfl
 |a::c::r,p,b,h=>by
  simp only[I6]at h;split at h
  ·rename_i p' b' h';simp only[Bnf,Bo2]at h;obtain⟨rfl,rfl⟩:=h;have:=Avc (l:=c::r) h';rw[this];rfl
  ·cases h
variable{m clock since:Nat}
def Azm{w:World}{it:Nat}{es:Array MapEntry}{seen:A6 Nat}{e:MapEntry}(hm:w.heap[m]? = some (.map es clock))(hi:w.heap[it]? = some (.mapIter (some m) since (seen++[e.born]).toArray clock))(he:e∈es)(hnd:(es.toList.map (·.born)).Nodup) :
  (Instr.entry (.pointer (some ⟨it,0,none⟩))).run P w = .ok (.tuple #[e.key,e.val]) w:=by
 have hg:=Ra (P:=P) hi;have hgm:=Bq3 (P:=P) hm;have hf:es.find? (fun x=>x.born==e.born)=some e:=by
  rw[← Array.find?_toList];have:∀l:A6 MapEntry,(l.map (·.born)).Nodup→e∈l→l.find? (fun x=>x.born==e.born)=some e:=by
   intro l;induction l with
   |nil=>intro _ h;simp at h
   |cons x r ih =>
    intro hn hm;simp only[Bnh,Boi]at hn;rw[List.find?_cons];rcases Bnd.1 hm with rfl|hm
    ·simp
    ·have hne:(x.born==e.born)=false:=by simp only[Bqp];intro hx;exact hn.1 (hx▸Bnr (f:=(·.born)) hm)
     rw[hne];exact ih hn.2 hm
  exact this _ hnd (by simpa using he)
 simp only[Instr.entry,Boc,hg,Bo5];simp[hf,hgm,Result.andThen]
variable{o:Oper}{x:Operand}
def Ar1{X:Ad}{kt vt:Ty}{k:Nat}{seen:A6 Nat}{es:F8 kt vt}{e:Nat×kt.T×vt.T}{i:Nat}(ho:o.op = .entry x)(Se:kt.key=true)
  (hm:X.objs.lookup m=some (.Kn k since (seen++[e.1]).toArray clock)) (hk:X.objs.lookup k=some (A2s kt vt es clock)) (he:es[i]? = some e) :
  Ca P o [(x,.ptr m 0)] X X [] (.Er [.d (kt.dv e.2.1),.d (vt.dv e.2.2)]) :=
 .quiet fun _ _ g w ac hr Bg=>by
  have e1:=(Lz Bg).Qy;simp only at e1;have hb:=Ad5 (hr.objs m _ hm);obtain⟨C5,hw⟩:=Va Se (hr.objs k _ hk);have hi:i<C5.size:=by have:=(Bnj.1 he).1;rw[hw.len]at this;exact this
  obtain⟨q1,q2,q3⟩:=hw.at' i e C5[i] he (by simp[hi]);have hnd:(C5.toList.map (·.born)).Nodup:=by
   have:C5.toList.map (·.born)=es.map (·.1):=by
    apply Bqy;intro j;simp only[Bni];cases h1:es[j]? with
    |none =>
     have:C5.size≤j:=by have:=List.getElem?_eq_none_iff.1 h1;rw[hw.len]at this;exact this
     rw[Bpo (by simpa using this)];rfl
    |some y =>
     have hj:j<C5.size:=by have:=(Bnj.1 h1).1;rw[hw.len]at this;exact this
     have:=(hw.at' j y C5[j] h1 (by simp[hj])).1;simp[hj,this]
   rw[this];exact hw.nodup
  refine⟨.tuple #[C5[i].key,C5[i].val],?_,?_⟩
  ·have:=Azm (P:=P) (e:=C5[i]) (seen:=seen) hw.heap (by rw[q1];exact hb) (Bru hi) hnd;simp only[execOp,ho,e1,this,Boc,Bo5,Bql]
  ·refine .Er _ _ rfl fun i c u hc hu=>?_
   rcases i with _|_|i
   ·simp at hc hu;subst hc;subst hu;refine .d _ _ ?_;rw[q2];exact kt.B20 _ Se
   ·simp at hc hu;subst hc;subst hu;exact .d _ _ q3
   ·simp at hc
def Azn(st:Ak)(x:Operand):A7 Out :=
 match Bj st x with
 |some (.nm m (.p 0))=>match lk m st.objs with
  |some (.Kn k since seen last)=>match lk k st.objs,I6 seen with
   |some (.map kt vt es clock),some (p,b)=>cond kt.key (cond (Nat.beq clock last) (match A3r b es with
    |some e=>some ⟨.look [m,k],.Er [.d (kt.xv e.2.1),.d (vt.xv e.2.2)],[(x,.nm m (.p 0))],st.objs,st.live,[],[]⟩
    |none=>none) none) none
   |_,_=>none
  |_=>none
 |_=>none
def B51{st:Ak}{out:Out}(ho:o.op = .entry x)(h:Azn st x=some out):Cr P o st out:=by
 unfold Azn at h;split at h
 rotate_left
 ·cases h
 rename_i m hx;split at h
 rotate_left
 ·cases h
 rename_i k since seen last hm;split at h
 rotate_left
 ·cases h
 rename_i kt vt es clock p b hk hl;obtain⟨Se,h1⟩:=c2 h;clear h;obtain⟨hcl,h⟩:=c2 h1;clear h1;replace hcl:=Bne hcl;subst hcl;cases he:A3r b es with
 |none=>rw[he]at h;cases h
 |some e =>
 rw[he]at h;simp only[Bnf]at h;subst h;obtain⟨e1,i,e2⟩:=Anh he;have hs:=Avc hl;rw[← e1]at hs;refine⟨Ea hx,⟨rfl,rfl,rfl,fun X hX=>?_⟩,fun _ _ _ h=>h⟩;refine Ar1 (k:=k) (i:=i) (seen:=p) (since:=since) (clock:=clock) (es:=es) ho Se ?_ ?_ e2
 ·rw[← hs];exact(hX m (by simp)).trans (Q2 hm)
 ·exact(hX k (by simp)).trans (Q1 hk)
end
def A9{α β:Type}(x:A7 α)(a:β)(f:α→β):β :=
 match x with
 |none=>a
 |some y=>f y
section
variable{P:Program}{R:Type}
def Ar2(st:Ak)(x:Operand)(K:Out→A7 R):A7 R :=
 match Bj st x with
 |some (.nm m (.p 0))=>match lk m st.objs with
  |some (.Kn k since seen last)=>match lk k st.objs with
   |some (.map kt vt es clock)=>cond kt.key (cond (Nat.beq clock last) (A9 (I6 seen) none fun p=>A9 (A3r p.2 es) none fun e =>
    K ⟨.look [m,k],.Er [.d (kt.xv e.2.1),.d (vt.xv e.2.2)],[(x,.nm m (.p 0))],st.objs,st.live,[],[]⟩) none) none
   |_=>none
  |_=>none
 |_=>none
variable{o:Oper}
def Azo{st:Ak}{x:Operand}{K:Out→A7 R}{r:R}(ho:o.op = .entry x)(h:Ar2 st x K=some r):∃out,K out=some r∧Cr P o st out:=by
 unfold Ar2 at h;split at h
 ·rename_i m hx;split at h
  ·rename_i k since seen last hm;split at h
   ·rename_i kt vt es clock hk;cases h1:kt.key with
    |false=>simp[h1]at h
    |true =>
    cases h2:Nat.beq clock last with
    |false=>simp[h1,h2]at h
    |true =>
     simp only[h1,h2,Bna]at h;cases h3:I6 seen with
     |none=>rw[h3]at h;cases h
     |some p =>
      rw[h3]at h;simp only[A9]at h;cases h4:A3r p.2 es with
      |none=>rw[h4]at h;cases h
      |some e =>rw[h4]at h;refine⟨_,h,B51 ho ?_⟩;obtain⟨p1,p2⟩:=p;simp only at h4;unfold Azn;simp only[hx,hm,hk,h3,h1,h2,Bna,h4]
   ·cases h
  ·cases h
 ·cases h
def B2b(x:A7 Out)(K:Out→A7 R):A7 R :=
 match x with
 |some out=>K out
 |none=>none
def A84{x:A7 Out}{K:Out→A7 R}{r:R}(h:B2b x K=some r):∃out,x=some out∧K out=some r:=by
 cases x with
 |none=>cases h
 |some out=>exact⟨out,rfl,h⟩
def B2c(P:Program)(t:TypeId):Bool :=
 match P.underlying t with
 |some (.slice e)=>match P.underlying e with
  |some (.map _ _)=>true
  |_=>false
 |_=>false
def B92(st:Ak)(x:Operand):Bool :=
 match Bj st x with
 |some (.nm _ (.s _ _ _))=>true
 |_=>false
def B2d(st:Ak)(c:Call):Bool :=
 match c.callee with
 |.builtin .len=>match c.args.toList with
  |[x]=>B92 st x
  |_=>false
 |_=>false
def B93(P:Program)(st:Ak)(c:Call)(K:Out→A7 R):A7 R :=
 match c.callee with
 |.builtin .len=>match c.args.toList with
  |[x]=>B2b (B8z P st c.argTypes x) K
  |_=>none
 |_=>none
def B94{st:Ak}{c:Call}{K:Out→A7 R}{r:R}(ho:o.op = .call c)(h:B93 P st c K=some r):∃out,K out=some r∧Cr P o st out:=by
 obtain⟨cal,args,ts⟩:=c;unfold B93 at h;simp only at h;split at h
 ·split at h
  ·rename_i x hl;have:=A5n (c:=⟨.builtin .len,args,ts⟩) hl;simp only at this;subst this;obtain⟨out,h1,h2⟩:=A84 h;exact⟨out,h2,B90 ho h1⟩
  ·cases h
 ·cases h
end
structure Ix(P:Program) where
 id:FuncId
 run:{R:Type}→Oper→Ak→List XV→(Out→Option R)→Option R
 ok:∀ {R:Type} (o:Oper) (st:Ak) (args:Array Operand) (ts:Array TypeId) (vs:List XV) (K:Out→Option R) (r:R),
  o.op = .call { callee:=.value (.func id),args:=args,argTypes:=ts }→Ci st args.toList=some vs→run o st vs K=some r→∃out,K out=some r∧Cr P o st out
 Bgk:{R:Type}→Oper→Ak→List XV→List XV→(Out→Option R)→Option R:=fun _ _ _ _ _=>none
 cok:∀ {R:Type} (o:Oper) (st:Ak) (t:Tmp) (Jp:List XV) (args:Array Operand) (ts:Array TypeId) (vs:List XV) (K:Out→Option R) (r:R),
  o.op = .call { callee:=.value (.tmp t),args:=args,argTypes:=ts }→Bj st (.tmp t)=some (.Ek id Jp)→Ci st args.toList=some vs→Bgk o st Jp vs K=some r→∃out,K out=some r∧Cr P o st out:=by
  intros;contradiction
def Avd{P:Program}(f:FuncId):A6 (Ix P)→A7 (Ix P)
 |[]=>none
 |e::r=>cond (Nat.beq e.id f) (some e) (Avd f r)
theorem Aim{P:Program}{f:FuncId}:∀ {l:A6 (Ix P)} {e:Ix P},Avd f l=some e→e.id=f
 |[],e,h=>by cases h
 |a::r,e,h=>by
  simp only[Avd]at h;cases hb:Nat.beq a.id f with
  |true=>simp only[hb,Bna,Bnf]at h;subst h;exact Bne hb
  |false=>simp only[hb,Bnc]at h;exact Aim h
def Rb(f:FuncId)(o:Oper):Oper :=
 match o.op with
 |.call c=>{ o with op:=.call { c with callee:=.value (.func f) } }
 |_=>o
def Out.B2e(out:Out)(p:Operand×XV):Out:={ out with rd:=p::out.rd }
variable{w:World}{m clock since k d off:Nat}{o:Oper}{X:Ad}{x:XV}{out:Out}{f:FuncId}{F ns nm kl:A6 Nat}{t:Ty}{t':TypeId}{y:Operand}{s0 s:Ak}{b:Bool}
def Q4{P:Program}{c:Operand}{args:Array Operand}{ts:Array TypeId}{rd:A6 (Operand×AV)}{X':Ad}{res:AV}
  (ho:o.op = .call { callee:=.value c,args:=args,argTypes:=ts }) (h:Ca P (Rb f o) rd X X' F res):Ca P o ((c,.Ek f [])::rd) X X' F res:=by
 intro nm G3 B g w a hr Bg next Q hn
 have e1:=Bg _ (Bnm ..);simp only at e1;have hc:a.eval c = .func (.func f) #[] #[]:=by
  generalize a.eval c=vc at e1;cases e1 with
  |Ek _ _ vs hlen Qx =>
   have:vs=#[]:=by apply Bos;simpa using hlen.symm
   rw[this]
 have hd:(Rb f o).dst=o.dst:=by unfold Rb;rw[ho]
 have h1:=h nm G3 B g w a hr (fun p hp=>Bg p (Bnl _ hp)) next Q (by rw[hd];exact hn)
 unfold Oper.wp at h1⊢;have e:execOp a.eval (Rb f o)=execOp a.eval o:=by unfold Rb;simp only[ho,execOp,resolve];simp only[hc];rfl
 rw[e]at h1;unfold Oper.upon at h1⊢;rw[hd]at h1;exact h1
theorem Cr.callee{P:Program}{o:Oper}{st:Ak}{out:Out}{t:Tmp}{f:FuncId}{args:Array Operand}{ts:Array TypeId}(ho:o.op = .call { callee:=.value (.tmp t),args:=args,argTypes:=ts })
  (hs:Bj st (.tmp t)=some (.Ek f [])) (h:Cr P (Rb f o) st out):Cr P o st (out.B2e (.tmp t,.Ek f [])):=by
 refine⟨?_,?_,h.ol⟩
 ·intro p hp;simp only[Out.B2e,Bc,Bnh,Bnd]at hp;rcases hp with rfl|hp
  ·exact Ax (x:=.tmp t) hs
  ·exact h.V8 p hp
 ·have:=h.op;have e:Bc (out.B2e (.tmp t,.Ek f [])).rd=(.tmp t,.Ek f [])::Bc out.rd:=rfl;show match out.V7 with|.none=>_|.look ks=>_|.put k c=>_|.all=>_|.lab=>_|.P9 k c=>_|.new os=>_
  cases he:out.V7 with
  |none=>rw[he]at this;exact⟨this.1,this.2.1,this.2.2.1,fun X=>Q4 ho (this.2.2.2 X)⟩
  |look ks=>rw[he]at this;exact⟨this.1,this.2.1,this.2.2.1,fun X hX=>Q4 ho (this.2.2.2 X hX)⟩
  |put k c=>rw[he]at this;exact⟨this.1,this.2.1,this.2.2.1,fun X hX=>Q4 ho (this.2.2.2 X hX)⟩
  |all=>rw[he]at this;exact Q4 ho this
  |lab=>rw[he]at this;exact⟨this.1,Q4 ho this.2⟩
  |P9 k c=>rw[he]at this;exact⟨this.1,Q4 ho this.2⟩
  |new os=>rw[he]at this;exact⟨this.1,Q4 ho this.2⟩
section
variable{P:Program}{R:Type}
def Azp(P:Program)(st:Ak)(op:BinOp)(t:TypeId)(x y:Operand)(K:Out→A7 R):A7 R :=
 match y with
 |.const (.pointer none)=>match B1y op,Aqb P t,Bj st x with
  |some neg,some _,some v=>match Aqc v with
   |some b=>K (Bu st (.d (.b (cond neg (!b) b))) [(x,v),(.const (.pointer none),.d (.v (.pointer none)))])
   |none=>none
  |_,_,_=>none
 |_=>Aq7 P st op t x y K
def B52{st:Ak}{op:BinOp}{t:TypeId}{x:Operand}{K:Out→A7 R}{r:R}(ho:o.op = .binOp op t x y t')(h:Azp P st op t x y K=some r):∃out,K out=some r∧Cr P o st out:=by
 unfold Azp at h;split at h
 ·split at h
  ·rename_i neg e v hn he hv;split at h
   ·rename_i b hb;have:=Auv hn;subst this;refine⟨_,h,Ag ?_ fun X=>Az4 neg ho (Az3 he).1 hb⟩;intro p hp;simp only[Bc,Bnh,Bo8,Bnd,Boa,Bpa]at hp;rcases hp with rfl|rfl
    ·exact Ax hv
    ·exact .const _ _ fun _ _=>.sc _
   ·cases h
  ·cases h
 ·exact Az2 ho h
end
section
variable{P:Program}{R:Type}
def Azq(P:Program)(st:Ak)(op:BinOp)(t:TypeId)(x y:Operand)(K:Out→A7 R):A7 R :=
 match y with
 |.const (.map none)=>match B1y op,P.underlying t with
  |some neg,some (.map _ _)=>match Bj st x with
   |some (.nm k .m)=>K (Bu st (.d (.b neg)) [(x,.nm k .m),(.const (.map none),.d (.v (.map none)))])
   |some (.d (.v (.map none)))=>K (Bu st (.d (.b (!neg))) [(x,.d (.v (.map none))),(.const (.map none),.d (.v (.map none)))])
   |_=>none
  |_,_=>none
 |_=>Azp P st op t x y K
def B53{st:Ak}{op:BinOp}{t:TypeId}{x:Operand}{K:Out→A7 R}{r:R}(ho:o.op = .binOp op t x y t')(h:Azq P st op t x y K=some r):∃out,K out=some r∧Cr P o st out:=by
 have hy:Fc st.im (.const (.map none)) (.d (.sc (.map none))):=Ax (st:=st) (x:=.const (.map none)) (v:=.d (.v (.map none))) rfl;unfold Azq at h;split at h
 ·split at h
  ·rename_i neg k' e hn hu;have:=Auv hn;subst this;split at h
   ·rename_i k hx;refine⟨_,h,Ag ?_ fun X=>Azg neg ho hu⟩;intro p hp;simp only[Bc,Bnh,Bo8,Bnd,Boa,Bpa]at hp;rcases hp with rfl|rfl
    ·exact Ax hx
    ·exact hy
   ·rename_i hx;refine⟨_,h,Ag ?_ fun X=>Azh neg ho hu⟩;intro p hp;simp only[Bc,Bnh,Bo8,Bnd,Boa,Bpa]at hp;rcases hp with rfl|rfl
    ·exact Ax hx
    ·exact hy
   ·cases h
  ·cases h
 ·exact B52 ho h
end
section
variable(P:Program)(Γ:A6 (Ix P))(own:A6 Nat){R:Type}
def Af6(own:A6 Nat)(o:Oper):Bool :=
 match o.dst with
 |some d=>inl d own
 |none=>false
def Ar3(st:Ak)(x:Operand):Bool :=
 match Bj st x with
 |some v=>Bge v
 |none=>false
structure XF where
 run:(P:Program)→(R:Type)→List (Ix P)→List Nat→Oper→Ak→(Out→Option R)→Option R
def B95(c:Call):XF :=
 match c.callee with
 |.builtin .len=>⟨fun P R Γ own o st K=>match c.args.toList with
  |[x]=>cond (Ar3 st x) (Aqm P st c.argTypes x K) (Aq4 P st c.argTypes x K)
  |_=>none⟩
 |.builtin .delete=>⟨fun P R Γ own o st K=>match c.args.toList with
  |[x,y]=>Aql P st c.argTypes x y K
  |_=>none⟩
 |.builtin .max=>⟨fun P R Γ own o st K=>match c.args.toList with
  |[x,y]=>Aq1 st false x y K
  |_=>none⟩
 |.builtin .append=>⟨fun P R Γ own o st K=>match c.args.toList with
  |[x,y]=>cond (Af6 own o) (Aq5 P st o c.argTypes x y K) (Aq2 P st o c.argTypes x y K)
  |_=>none⟩
 |.builtin .clear=>⟨fun P R Γ own o st K=>match c.args.toList with
  |[x]=>Az1 P st c.argTypes x K
  |_=>none⟩
 |.value (.func f)=>⟨fun P R Γ own o st K=>match Avd f Γ,Ci st c.args.toList with
  |some e,some vs=>e.run o st vs K
  |_,_=>none⟩
 |.value (.tmp t)=>⟨fun P R Γ own o st K=>match Bj st (.tmp t) with
  |some (.Ek f Jp)=>match Avd f Γ,Ci st c.args.toList with
   |some e,some vs=>match Jp with
    |[]=>e.run (Rb f o) st vs fun out=>K (out.B2e (.tmp t,.Ek f []))
    |x::r=>e.Bgk o st (x::r) vs K
   |_,_=>none
  |_=>none⟩
 |_=>⟨fun P R Γ own o st K=>none⟩
def B96(o:Oper)(st:Ak)(c:Call)(K:Out→A7 R):A7 R:=(B95 c).run P R Γ own o st K
def B97{st:Ak}{c:Call}{K:Out→A7 R}{r:R}(ho:o.op = .call c)(h:B96 P Γ own o st c K=some r):∃out,K out=some r∧Cr P o st out:=by
 obtain⟨cal,args,ts⟩:=c;unfold B96 B95 at h;dsimp only at h;split at h<;>dsimp only at h
 ·split at h
  ·rename_i x hl;have:=A5n (c:=⟨.builtin .len,args,ts⟩) hl;simp only at this;subst this;cases hm:Ar3 st x with
   |true=>rw[hm]at h;exact Azb ho h
   |false=>rw[hm]at h;exact Ayz ho h
  ·cases h
 ·split at h
  ·rename_i x y hl;have:=A5n (c:=⟨.builtin .len,args,ts⟩) hl;simp only at this;subst this;exact Aza ho h
  ·cases h
 ·split at h
  ·rename_i x y hl;have:=A5n (c:=⟨.builtin .len,args,ts⟩) hl;simp only at this;subst this;exact Bcr ho h
  ·cases h
 ·split at h
  ·rename_i x y hl;have:=A5n (c:=⟨.builtin .len,args,ts⟩) hl;simp only at this;subst this;cases hw:Af6 own o with
   |true=>simp only[hw,Bna]at h;exact Az0 ho h
   |false =>simp only[hw,Bnc]at h;exact Ayy ho h
  ·cases h
 ·split at h
  ·rename_i x hl;have:=A5n (c:=⟨.builtin .len,args,ts⟩) hl;simp only at this;subst this;exact B4l ho h
  ·cases h
 ·rename_i f;split at h
  ·rename_i e vs he Qx;have:=Aim he;subst this;exact e.ok o st args ts vs K r ho Qx h
  ·cases h
 ·rename_i t;split at h
  ·rename_i f Jp B54;split at h
   ·rename_i e vs he Qx;have:=Aim he;subst this;split at h
    ·obtain⟨out,h1,h2⟩:=e.ok (Rb e.id o) st args ts vs _ r (by unfold Rb;rw[ho]) Qx h;exact⟨_,h1,h2.callee ho B54⟩
    ·exact e.cok o st t _ args ts vs K r ho B54 Qx h
   ·cases h
  ·cases h
 ·cases h
def Adc(o:Oper)(st:Ak)(f:FuncId)(first Jp:Array Operand)(K:Out→A7 R):A7 R :=
 match first.toList with
 |[]=>match Ci st Jp.toList with
  |some vs=>K (Bu st (.Ek f vs) (Jp.toList.zip vs))
  |none=>none
 |_=>none
def Ar4{st:Ak}{first Jp:Array Operand}{K:Out→A7 R}{r:R}(ho:o.op = .makeFunc (.func f) first Jp)(h:Adc o st f first Jp K=some r):∃out,K out=some r∧Cr P o st out:=by
 unfold Adc at h;split at h
 ·rename_i hf;have hf:first=#[]:=by apply Bos;rw[← Bp2,hf];rfl
  subst hf;split at h
  ·rename_i vs hv;refine⟨_,h,Ag (Yc hv) fun X=>?_⟩;refine .quiet fun _ _ g w a _ Bg=>⟨.func (.func f) #[] (Jp.map a.eval),?_,?_⟩
   ·simp only[execOp,ho,Instr.makeFunc];simp
   ·refine .Ek f _ _ (by rw[Aq,I3 hv];simp) ?_;rw[Kd]at Bg;exact Zt Bg
  ·cases h
 ·cases h
def Bgl{R:Type}(st:Ak)(x:Operand)(K:Out→A7 R):A7 R :=
 match Bj st x with
 |some (.os k ty a n)=>match lk k st.objs with
  |some (.arr u l)=>cond (u.Jx ty) (cond (Nat.ble 1000 k) (cond (cond (Nat.ble (a+n) l.length) (J0 k st.objs) false)
    (K ⟨.all,.d (.sl u ((l.drop a).take n)),[(x,.os k ty a n)],E3 k st.objs,st.live,[],[k]⟩) none) none) none
  |_=>none
 |_=>Aue st x K
def Bcv{P:Program}{st:Ak}{x:Operand}{R:Type}{K:Out→A7 R}{r:R}(ho:o.op = .move x∨o.op = .assign x)(h:Bgl st x K=some r):∃out,K out=some r∧Cr P o st out:=by
 unfold Bgl at h;split at h
 ·rename_i k ty a n hv;split at h
  ·rename_i u l hk;cases h1:u.Jx ty with
   |false=>simp[h1]at h
   |true =>
   cases h2:Nat.ble 1000 k with
   |false=>simp[h1,h2]at h
   |true =>
   cases h4:cond (Nat.ble (a+n) l.length) (J0 k st.objs) false with
   |false=>simp[h1,h2,h4]at h
   |true =>
    obtain⟨h3,h5⟩:=Ahy h4;simp only[h1,h2,h4,Bna]at h;have e1:=Ty.Av h1;subst e1;have e2:=Bnu h2;have e3:=Bnu h3;refine⟨_,h,⟨Ea hv,?_,fun k' x' M1 hx=>?_⟩⟩
    ·show Ca P o [(x,(XV.os k u a n).a)] st.X ⟨Aa (E3 k st.objs),st.live⟩ [] (.d (.sl u.size (((l.drop a).take n).map u.ds)));have hX:Ab.B6 k st.X=⟨Aa (E3 k st.objs),st.live⟩:=by rw[Tm h5];rfl
     have hl:st.X.objs.lookup k=some (.cells ((l.map u.ds).flatten.map .d) none):=by show(Aa st.objs).lookup k=_;exact Lc hk
     intro nm Uv B g w act hr Bg next Q hn
     have hnk:k∉nm:=fun hm=>by have:=Uv k hm;omega
     obtain⟨f1,f2,f3⟩:=hr.freeze (k:=k) (sz:=u.size) (es:=l.map u.ds) hnk hl (by
      intro i cs Tg;rw[Bni,Bnn]at Tg;obtain⟨y,_,rfl⟩:=Tg;exact u.Df y)
     rw[hX]at f1;have hv':=Lz Bg;have hd:=f3 a n (act.eval x) (by simpa using e3) hv';rw[← Brr,← Br2]at hd;have he:(execOp act.eval o).run P w = .ok (.value (act.eval x)) w:=by rcases ho with ho|ho<;>simp[execOp,ho]
     unfold Oper.wp;rw[he];exact hn _ w _ f1 f2 hd
    ·simp only[Bnw]at M1;exact Wl hx
  ·cases h
 ·exact Ahz ho h
def Biw(op:Op):XF :=
 match op with
 |.move x=>⟨fun P R Γ own o st K=>Aue st x K⟩
 |.assign x=>⟨fun P R Γ own o st K=>cond (Af6 own o) (Bgl st x K) (Aue st x K)⟩
 |.pick c x y=>⟨fun P R Γ own o st K=>B8c st c x y K⟩
 |.alloc t=>⟨fun P R Γ own o st K=>Ayq P st o t K⟩
 |.box t x=>⟨fun P R Γ own o st K=>Bgc st o t x K⟩
 |.build t ps=>⟨fun P R Γ own o st K=>Ayr P st t ps K⟩
 |.buildSlice t n ps=>⟨fun P R Γ own o st K=>cond (Af6 own o) (Acw P st o t n ps K) (cond (Aad n ps.toList) (Acx P st o t K) (cond (B2c P t) (B2b (Aqw P st o t n ps) K) (A3j P st t n ps K)))⟩
 |.load t x=>⟨fun P R Γ own o st K=>B8r P st t x K⟩
 |.store t x y=>⟨fun P R Γ own o st K=>Ayo P st t x y K⟩
 |.nilCheck x=>⟨fun P R Γ own o st K=>Bg8 st x K⟩
 |.binOp op t x y _=>⟨fun P R Γ own o st K=>Azq P st op t x y K⟩
 |.unOp op _ x=>⟨fun P R Γ own o st K=>xUn st op x K⟩
 |.convert s d x=>⟨fun P R Γ own o st K=>B8h P st s d x K⟩
 |.slice t x lo hi mx=>⟨fun P R Γ own o st K=>Acv P st t x lo hi mx K⟩
 |.fieldAddr t x n=>⟨fun P R Γ own o st K=>A7z P st t x n K⟩
 |.field t x n=>⟨fun P R Γ own o st K=>Ays P st t x n K⟩
 |.indexAddr t x y=>⟨fun P R Γ own o st K=>cond (B92 st x) (B2b (Aqx P st t x y) K) (Acs P st t x y K)⟩
 |.entry x=>⟨fun P R Γ own o st K=>Ar2 st x K⟩
 |.index t x y=>⟨fun P R Γ own o st K=>Aq0 P st t x y K⟩
 |.extract x i=>⟨fun P R Γ own o st K=>Ai0 st x i K⟩
 |.call c=>⟨fun P R Γ own o st K=>cond (B2d st c) (B93 P st c K) (B96 P Γ own o st c K)⟩
 |.makeFunc (.func f) first Jp=>⟨fun P R Γ own o st K=>Adc o st f first Jp K⟩
 |.range t x=>⟨fun P R Γ own o st K=>cond (Ar3 st x) (Ad4 P st o t x K) none⟩
 |.makeMap t rs=>⟨fun P R Γ own o st K=>cond (Af6 own o) (Ad8 P st o t rs K) (Aig P st o t rs K)⟩
 |.lookup t x y ok=>⟨fun P R Γ own o st K=>cond (A5m st x) (Aii P st o t x y ok K) (Aqk P st t x y ok K)⟩
 |.mapUpdate t x y u=>⟨fun P R Γ own o st K=>cond (A5m st x) (Yf P st t x y u K) (A1j P st t x y u K)⟩
 |.insert t x y u=>⟨fun P R Γ own o st K=>cond (A5m st x) (Yf P st t x y u K) (A1j P st t x y u K)⟩
 |_=>⟨fun P R Γ own o st K=>none⟩
def xop(o:Oper)(st:Ak)(K:Out→A7 R):A7 R:=(Biw o.op).run P R Γ own o st K
def Ar5{st:Ak}{K:Out→A7 R}{r:R}(h:xop P Γ own o st K=some r):∃out,K out=some r∧Cr P o st out:=by
 unfold xop Biw at h;split at h<;>rename_i ho<;>dsimp only at h
 ·exact Ahz (.inl ho) h
 ·cases hf:Af6 own o with
  |true=>rw[hf]at h;exact Bcv (.inr ho) h
  |false=>rw[hf]at h;exact Ahz (.inr ho) h
 ·exact B8d ho h
 ·exact B4e ho h
 ·exact Bco ho h
 ·exact B4g ho h
 ·rename_i t n ps;cases hw:Af6 own o with
  |true=>simp only[hw,Bna]at h;exact Aq8 ho h
  |false =>
   simp only[hw,Bnc]at h;cases he:Aad n ps.toList with
   |true=>simp only[he,Bna]at h;exact Aq9 ho he h
   |false =>
    simp only[he,Bnc]at h;cases hq:B2c P t with
    |true =>rw[hq,Bna]at h;obtain⟨out,h1,h2⟩:=A84 h;exact⟨out,h2,Azi ho h1⟩
    |false=>rw[hq,Bnc]at h;exact Ai3 ho h
 ·exact B4r ho h
 ·exact B4d ho h
 ·exact Bck ho h
 ·exact B53 ho h
 ·exact Bg7 ho h
 ·exact B8i ho h
 ·exact Aq3 ho h
 ·exact Alw ho h
 ·exact B4h ho h
 ·rename_i t x y;cases hq:B92 st x with
  |true =>rw[hq,Bna]at h;obtain⟨out,h1,h2⟩:=A84 h;exact⟨out,h2,Azk ho h1⟩
  |false=>rw[hq,Bnc]at h;exact Apz ho h
 ·exact Azo ho h
 ·exact Ayu ho h
 ·exact Aug ho h
 ·rename_i c;cases hq:B2d st c with
  |true=>rw[hq,Bna]at h;exact B94 ho h
  |false=>rw[hq,Bnc]at h;exact B97 P Γ own ho h
 ·exact Ar4 P ho h
 ·rename_i t x;cases hm:Ar3 st x with
  |true=>rw[hm]at h;exact Aqn ho h
  |false=>rw[hm]at h;cases h
 ·cases hw:Af6 own o with
  |true=>rw[hw]at h;exact Aqs ho h
  |false=>rw[hw]at h;exact Auz ho h
 ·rename_i t x y ok;cases hm:A5m st x with
  |true=>rw[hm]at h;exact Av8 ho h
  |false=>rw[hm]at h;exact Az9 ho h
 ·rename_i t x y u;cases hm:A5m st x with
  |true=>rw[hm]at h;exact A3o (.inl ho) h
  |false=>rw[hm]at h;exact A7a (.inl ho) h
 ·rename_i t x y u;cases hm:A5m st x with
  |true=>rw[hm]at h;exact A3o (.inr ho) h
  |false=>rw[hm]at h;exact A7a (.inr ho) h
 ·cases h
def Ar6(draw:Bool)(o:Oper)(st:Ak)(K:Out→A7 R):A7 R :=
 match o.op with
 |.next x str=>cond str (xop P Γ own o st K) (cond draw none (Azd st x K))
 |_=>xop P Γ own o st K
structure Inv(s0 s:Ak):Prop where
 env:∀t x,t∉s.wl→lk t s.env=some x→lk t s0.env=some x
 objs:∀k x,k∉s.ol→lk k s.objs=some x→lk k s0.objs=some x
def Inv.refl(s:Ak):Inv s s:=⟨fun _ _ _ h=>h,fun _ _ _ h=>h⟩
def Alv.e:Alv→Ad→N5
 |.none,_=>.none
 |.look ks,_=>.look ks
 |.put k c,_=>.put k c.o
 |.all,X=>.all X
 |.lab,X=>.lab X.live
 |.P9 k c,X=>.P9 k c.o X.live
 |.new os,X=>.new (Aa os) X.live
def Out.st(out:Out)(o:Oper)(st:Ak):Ak:=⟨B89 o.dst out.res st.env,out.objs,out.live,Bcf o.dst st.wl,out.ol++st.ol⟩
def Out.it(out:Out)(o:Oper):It:=⟨o,true,Bc out.rd,out.V7.e out.X,out.F,out.res.a⟩
def A3s(o:Oper)(st:Ak):Ak:=⟨B89 o.dst (.d (.v undef)) st.env,st.objs,st.live,Bcf o.dst st.wl,st.ol⟩
def Ain(o:Oper):It:=⟨o,false,[],.none,[],.d (.sc undef)⟩
def Kf(d:Nat)(b:Bool)(st:Ak):Ak:=⟨(d,.d (.b b))::st.env,st.objs,st.live,st.wl,st.ol⟩
def Aan:XV→Bool
 |.d (.v (.tuple vs))=>Nat.beq vs.size 0
 |_=>false
def Ade(ops:Array Oper)(j:Nat):A7 Nat :=
 match ops[j]? with
 |some o=>o.dst
 |none=>none
variable(nt:Nat)
def A1l(ops:Array Oper)(draw:Bool)(Ga:A6 (Nat×XV))(K:Ak→A7 R):A6 Oper→A6 It→Ak→A7 R
 |[],Az,st=>cond draw (cond (Ap7 ops (Eo Ga) Az) (K st) none) (K st)
 |o::Bn4,Az,st =>
  cond (Jw nt o.dst)
   (match o.guard with
   |none=>Ar6 P Γ own draw o st fun out=>cond (cond draw true (Mm out.F (Eo st.env))) (A1l ops draw Ga K Bn4 (Az++[out.it o]) (out.st o st)) none
   |some (j,Bn5) =>
    match Ade ops j with
    |none=>none
    |some d =>
     match lk d st.env with
     |some (.d (.b b)) =>
      cond b
       (cond Bn5 (Ar6 P Γ own draw o (Kf d true st) fun out=>cond (cond draw true (Mm out.F (Eo (Kf d true st).env))) (A1l ops draw Ga K Bn4 (Az++[out.it o]) (out.st o (Kf d true st))) none)
        (A1l ops draw Ga K Bn4 (Az++[Ain o]) (A3s o (Kf d true st))))
       (cond Bn5 (A1l ops draw Ga K Bn4 (Az++[Ain o]) (A3s o (Kf d false st)))
        (Ar6 P Γ own draw o (Kf d false st) fun out=>cond (cond draw true (Mm out.F (Eo (Kf d false st).env))) (A1l ops draw Ga K Bn4 (Az++[out.it o]) (out.st o (Kf d false st))) none))
     |some v=>cond (Aan v) (A1l ops draw Ga K Bn4 (Az++[Ain o]) (A3s o st)) none
     |none=>none) none
end
section
variable{P:Program}{Γ:A6 (Ix P)}{own:A6 Nat}{R:Type}
def Cr.opT{st:Ak}(h:Cr P o st out):Ca P o (Bc out.rd) st.X out.X out.F out.res.a:=by
 have hop:=h.op;unfold Out.X;split at hop
 ·obtain⟨h1,h2,h3,h4⟩:=hop;rw[h1,h2,h3];exact h4 st.X
 ·obtain⟨h1,h2,h3,h4⟩:=hop;rw[h1,h2,h3];exact h4 st.X fun _ _=>rfl
 ·obtain⟨⟨h0,h1⟩,h2,h3,h4⟩:=hop;rw[h1,h2,h3,Ya h0];exact h4 st.X rfl
 ·exact hop
 ·exact hop.2
 ·exact hop.2
 ·exact hop.2
def Out.B98(out:Out)(o:Oper)(st:Ak):(out.st o st).im=⟨E6 o.dst out.res.a st.im.env,out.X⟩:=by simp only[Out.st,Ak.im,Ak.X,B8a,Out.X]
def Ani(o:Oper)(st:Ak):(A3s o st).im=⟨E6 o.dst (.d (.sc undef)) st.im.env,st.X⟩:=by simp only[A3s,Ak.im,Ak.X,B8a];rfl
def A5o(d:Nat)(b:Bool)(st:Ak):(Kf d b st).im=⟨(d,.d (.sc (.bool b)))::st.im.env,st.X⟩:=rfl
theorem Ph{st:St}:∀ {l:A6 (Operand×AV)},(∀p∈l,Fc st p.1 p.2)→L8 st l
 |[],_=>.nil
 |(x,v)::r,h=>.cons (h (x,v) Bnm) (Ph fun p hp=>h p (Bnl _ hp))
def Azr{st:Ak}{t:Nat}{y:XV}{wl:A6 Nat}(ht:t∉Bcf o.dst wl)(h:lk t (B89 o.dst x st.env)=some y):t∉wl∧lk t st.env=some y:=by
 cases hd:o.dst with
 |none=>rw[hd]at ht h;exact⟨ht,h⟩
 |some d =>rw[hd]at ht h;simp only[Bcf,Bnd,Brm]at ht;simp only[B89]at h;rw[Eb ht.1]at h;exact⟨ht.2,h⟩
def Inv.op{st:Ak}(h:Inv s0 st)(Jr:Cr P o st out):Inv s0 (out.st o st):=by
 refine⟨fun t x ht hx=>?_,fun k x hk hx=>?_⟩
 ·obtain⟨h1,h2⟩:=Azr (st:=st) ht hx;exact h.env t x h1 h2
 ·simp only[Out.st,Bnk,Brm]at hk hx;exact h.objs k x hk.2 (Jr.ol k x hk.1 hx)
def Inv.dem{st:Ak}(h:Inv s0 st)(ol:∀k x,k∉out.ol→lk k out.objs=some x→lk k st.objs=some x):Inv s0 (out.st o st):=by
 refine⟨fun t x ht hx=>?_,fun k x hk hx=>?_⟩
 ·obtain⟨h1,h2⟩:=Azr (st:=st) ht hx;exact h.env t x h1 h2
 ·simp only[Out.st,Bnk,Brm]at hk hx;exact h.objs k x hk.2 (ol k x hk.1 hx)
def Bcw{draw:Bool}{st:Ak}{K:Out→A7 R}{r:R}(h:Ar6 P Γ own draw o st K=some r):(∃out,K out=some r∧Cr P o st out)∨∃rd outs,(∀out∈outs,K out=some r)∧Bes P o st rd outs:=by
 unfold Ar6 at h;split at h
 ·rename_i x str ho;cases str with
  |true=>exact .inl (Ar5 P Γ own h)
  |false =>
   simp only[Bnc]at h;cases draw with
   |true=>cases h
   |false=>exact B4u ho h
 ·exact .inl (Ar5 P Γ own h)
def B55{st:Ak}{K:Out→A7 R}{r:R}(h:Ar6 P Γ own true o st K=some r):∃out,K out=some r∧Cr P o st out:=by
 unfold Ar6 at h;split at h
 ·rename_i x str ho;cases str with
  |true=>exact Ar5 P Γ own h
  |false=>cases h
 ·exact Ar5 P Γ own h
def Inv.skip{st:Ak}(h:Inv s0 st):Inv s0 (A3s o st):=by refine⟨fun t x ht hx=>?_,fun k x hk hx=>h.objs k x hk hx⟩;obtain⟨h1,h2⟩:=Azr (st:=st) ht hx;exact h.env t x h1 h2
def Inv.Ar7{st:Ak}(h:Inv s0 st)(hd:lk d st.env=some (.d (.b b))):Inv s0 (Kf d b st):=by
 refine⟨fun t x ht hx=>?_,fun k x hk hx=>h.objs k x hk hx⟩;simp only[Kf]at ht hx;by_cases he:t=d
 ·subst he;simp[G7]at hx;subst hx;exact h.env t _ ht hd
 ·rw[Eb he]at hx;exact h.env t x ht hx
def Pw{st:Ak}(h:lk d st.env=some x):st.im.env.lookup d=some x.a:=by show(Eo st.env).lookup d=_;rw[A7v,h];rfl
def Aio(h:Aan x=true):x.a = .d (.sc undef):=by
 unfold Aan at h;split at h
 ·rename_i vs;have:=Bne h;have:vs=#[]:=Bos this;subst this;rfl
 ·cases h
def B56(s0:Ak)(K:Ak→A7 R)(r:R)(s:St):Prop:=∃Bw,s=Bw.im∧Inv s0 Bw∧K Bw=some r
theorem A5p{S:Sig}{ops:Array Oper}{Ga:A6 (Nat×XV)}{K:Ak→A7 R}{r:R}{s0:Ak}:∀(l:A6 Oper) (i:Nat) (Az:A6 It) (st:Ak),(∀(j:Nat) o,l[j]? = some o→ops[i+j]? = some o) →
  Inv s0 st→A1l P Γ own S.N ops false Ga K l Az st=some r→Rw P S ops (List.range' i l.length) st.im (B56 s0 K r)
 |[],i,Az,st,hl,hi,h=>by
  simp only[A1l,Bnc]at h;exact Rw.done ⟨st,rfl,hi,h⟩
 |o::Bn4,i,Az,st,hl,hi,h=>by
  have ho:ops[i]? = some o:=hl 0 o rfl;have Anj:∀(j:Nat) o,Bn4[j]? = some o→ops[i+1+j]? = some o:=by intro j o' hj;have:=hl (j+1) o' (by simpa using hj);rw[show i+1+j=i+(j+1) by omega];exact this
  simp only[A1l]at h;cases hd:Jw S.N o.dst with
  |false=>simp[hd]at h
  |true =>
   simp only[hd,Bna]at h;have run:∀(st:Ak),Inv s0 st→Guard ops st.im o.guard true→(Ar6 P Γ own false o st fun out=>cond (cond false true (Mm out.F (Eo st.env))) (A1l P Γ own S.N ops false Ga K Bn4 (Az++[out.it o]) (out.st o st)) none)=some r →
     Rw P S ops (List.range' i (o::Bn4).length) st.im (B56 s0 K r):=by
    intro st hi hg h;rcases Bcw h with ⟨out,h1,Jr⟩|⟨rd,outs,Ue,Jr⟩
    ·cases hf:Mm out.F (Eo st.env) with
     |false=>simp[hf]at h1
     |true =>simp only[hf,Bnc,Bna]at h1;simp only[Bnx,Bs0];refine Rw.opg ho hg Jr.opT (Ph Jr.V8) hf hd ?_;rw[← Out.B98];exact A5p Bn4 (i+1) _ _ Anj (hi.op Jr) h1
    ·simp only[Bnx,Bs0];refine Rw.Ke ho hg Jr.op (Ph Jr.V8) hd ?_;intro p hp;obtain⟨out,Agf,rfl⟩:=Bnp.1 hp;have h1:=Ue out Agf;have hf:Mm out.F (Eo st.env)=true:=by rw[Jr.F out Agf];rfl
     simp only[hf,Bnc,Bna]at h1;show Rw P S ops _ ⟨E6 o.dst out.res.a st.im.env,out.X⟩ _;rw[← Out.B98];exact A5p Bn4 (i+1) _ _ Anj (hi.dem (fun k x=>Jr.ol out Agf k x)) h1
   have skip:∀(st:Ak),Inv s0 st→Guard ops st.im o.guard false→A1l P Γ own S.N ops false Ga K Bn4 (Az++[Ain o]) (A3s o st)=some r →
     Rw P S ops (List.range' i (o::Bn4).length) st.im (B56 s0 K r):=by
    intro st hi hg h;simp only[Bnx,Bs0];refine Rw.skip ho hg hd ?_;have:=A5p Bn4 (i+1) _ _ Anj hi.skip h;rw[Ani]at this;exact this
   split at h
   ·rename_i hg;exact run st hi (Amw hg) h
   ·rename_i j Bn5 hg;unfold Ade at h;split at h
    ·cases h
    ·rename_i d hgs;split at hgs
     ·rename_i oj hoj;split at h
      ·rename_i b hb;have P7:=Pw hb;refine Rw.cases (d:=d) P7 (fun hbt=>?_) (fun hbt=>?_)
       ·subst hbt;change Rw P S ops _ (Kf d true st).im _;have Aip:(Kf d true st).im.env.lookup d=some (.d (.sc (.bool true))):=by rw[A5o];simp
        cases Bn5 with
        |true =>simp only[Bna]at h;exact run _ (hi.Ar7 hb) (A5a hg hoj hgs Aip) h
        |false =>simp only[Bna,Bnc]at h;exact skip _ (hi.Ar7 hb) (A5b hg hoj hgs Aip rfl) h
       ·subst hbt;change Rw P S ops _ (Kf d false st).im _;have Aip:(Kf d false st).im.env.lookup d=some (.d (.sc (.bool false))):=by rw[A5o];simp
        cases Bn5 with
        |true =>simp only[Bna,Bnc]at h;exact skip _ (hi.Ar7 hb) (A5b hg hoj hgs Aip rfl) h
        |false =>simp only[Bnc]at h;exact run _ (hi.Ar7 hb) (A5a hg hoj hgs Aip) h
      ·rename_i v hv Bgm;cases hu:Aan v with
       |false=>simp[hu]at h
       |true =>simp only[hu,Bna]at h;have P7:=Pw Bgm;rw[Aio hu]at P7;exact skip st hi (Aev hg hoj hgs P7) h
      ·cases h
     ·cases hgs
theorem Ar8{S:Sig}{ops:Array Oper}{Ga:A6 (Nat×XV)}{K:Ak→A7 R}{r:R}{s0:Ak}:∀(l:A6 Oper) (i:Nat) (Az:A6 It) (st:Ak),(∀(j:Nat) o,l[j]? = some o→ops[i+j]? = some o) →
  Inv s0 st→A1l P Γ own S.N ops true Ga K l Az st=some r→Dw P S ops i l.length st.im Az (Eo Ga) (B56 s0 K r)
 |[],i,Az,st,hl,hi,h=>by
  simp only[A1l,Bna]at h;cases hd:Ap7 ops (Eo Ga) Az with
  |false=>simp[hd]at h
  |true =>simp only[hd,Bna]at h;exact Dw.fin (fun _=>Att hd) ⟨st,rfl,hi,h⟩
 |o::Bn4,i,Az,st,hl,hi,h=>by
  have ho:ops[i]? = some o:=hl 0 o rfl;have Anj:∀(j:Nat) o,Bn4[j]? = some o→ops[i+1+j]? = some o:=by intro j o' hj;have:=hl (j+1) o' (by simpa using hj);rw[show i+1+j=i+(j+1) by omega];exact this
  simp only[A1l]at h;cases hd:Jw S.N o.dst with
  |false=>simp[hd]at h
  |true =>
   simp only[hd,Bna]at h;have run:∀(st:Ak),Inv s0 st→Guard ops st.im o.guard true→(Ar6 P Γ own true o st fun out=>cond (cond true true (Mm out.F (Eo st.env))) (A1l P Γ own S.N ops true Ga K Bn4 (Az++[out.it o]) (out.st o st)) none)=some r →
     Dw P S ops i (o::Bn4).length st.im Az (Eo Ga) (B56 s0 K r):=by
    intro st hi hg h;obtain⟨out,h1,Jr⟩:=B55 h;simp only[Bna]at h1;have ih:=Ar8 Bn4 (i+1) _ _ Anj (hi.op Jr) h1;rw[Out.B98]at ih;have hop:=Jr.op;simp only[Bnx];split at hop
    ·rename_i he;obtain⟨a1,a2,a3,a4⟩:=hop;refine Dw.op ho hg a4 (Ph Jr.V8) hd ?_;have e:out.it o=⟨o,true,Bc out.rd,.none,[],out.res.a⟩:=by simp only[Out.it,he,Alv.e,a3]
     rw[e]at ih;have e2:out.X=st.im.X:=by simp only[Out.X,Ak.im,Ak.X,a1,a2]
     rw[e2]at ih;exact ih
    ·rename_i ks he;obtain⟨a1,a2,a3,a4⟩:=hop;refine Dw.look (ks:=ks) ho hg a4 (Ph Jr.V8) hd ?_;have e:out.it o=⟨o,true,Bc out.rd,.look ks,[],out.res.a⟩:=by simp only[Out.it,he,Alv.e,a3]
     rw[e]at ih;have e2:out.X=st.im.X:=by simp only[Out.X,Ak.im,Ak.X,a1,a2]
     rw[e2]at ih;exact ih
    ·rename_i k c he;obtain⟨⟨a0,a1⟩,a2,a3,a4⟩:=hop;refine Dw.put (k:=k) (c:=c.o) ho hg a4 (Ph Jr.V8) hd ?_;have e:out.it o=⟨o,true,Bc out.rd,.put k c.o,[],out.res.a⟩:=by simp only[Out.it,he,Alv.e,a3]
     rw[e]at ih;have e2:out.X=⟨Ab.setObj k c.o st.im.X.objs,st.im.X.live⟩:=by simp only[Out.X,Ak.im,Ak.X,a1,a2,Ya a0]
     rw[e2]at ih;exact ih
    ·rename_i he;refine Dw.V7 ho hg hop (Ph Jr.V8) hd ?_;have e:out.it o=⟨o,true,Bc out.rd,.all out.X,out.F,out.res.a⟩:=by simp only[Out.it,he,Alv.e]
     rw[e]at ih;exact ih
    ·rename_i he;obtain⟨a1,a4⟩:=hop;have e2:out.X=⟨st.im.X.objs,out.live⟩:=by simp only[Out.X,Ak.im,Ak.X,a1]
     rw[e2]at a4 ih;refine Dw.lab (L:=out.live) ho hg a4 (Ph Jr.V8) hd ?_;have e:out.it o=⟨o,true,Bc out.rd,.lab out.live,out.F,out.res.a⟩:=by simp only[Out.it,he,Alv.e,Out.X]
     rw[e]at ih;exact ih
    ·rename_i k c he;obtain⟨⟨a0,a1⟩,a4⟩:=hop;have e2:out.X=⟨Ab.setObj k c.o st.im.X.objs,out.live⟩:=by simp only[Out.X,Ak.im,Ak.X,a1,Ya a0]
     rw[e2]at a4 ih;refine Dw.P9 (L:=out.live) ho hg a4 (Ph Jr.V8) hd ?_;have e:out.it o=⟨o,true,Bc out.rd,.P9 k c.o out.live,out.F,out.res.a⟩:=by simp only[Out.it,he,Alv.e,Out.X]
     rw[e]at ih;exact ih
    ·rename_i os he;obtain⟨⟨a0,a1⟩,a4⟩:=hop;have e2:out.X=⟨Aa os++st.im.X.objs,out.live⟩:=by simp only[Out.X,Ak.im,Ak.X,a1,Bfy a0]
     rw[e2]at a4 ih;refine Dw.new (L:=out.live) ho hg a4 (Ph Jr.V8) hd ?_;have e:out.it o=⟨o,true,Bc out.rd,.new (Aa os) out.live,out.F,out.res.a⟩:=by simp only[Out.it,he,Alv.e,Out.X]
     rw[e]at ih;exact ih
   have skip:∀(st:Ak),Inv s0 st→Guard ops st.im o.guard false→A1l P Γ own S.N ops true Ga K Bn4 (Az++[Ain o]) (A3s o st)=some r →
     Dw P S ops i (o::Bn4).length st.im Az (Eo Ga) (B56 s0 K r):=by
    intro st hi hg h;simp only[Bnx];refine Dw.skip ho hg hd ?_;have:=Ar8 Bn4 (i+1) _ _ Anj hi.skip h;rw[Ani]at this;exact this
   split at h
   ·rename_i hg;exact run st hi (Amw hg) h
   ·rename_i j Bn5 hg;unfold Ade at h;split at h
    ·cases h
    ·rename_i d hgs;split at hgs
     ·rename_i oj hoj;split at h
      ·rename_i b hb;have P7:=Pw hb;refine Dw.cases (d:=d) P7 (fun hbt=>?_) (fun hbt=>?_)
       ·subst hbt;change Dw P S ops i _ (Kf d true st).im Az (Eo Ga) _;have Aip:(Kf d true st).im.env.lookup d=some (.d (.sc (.bool true))):=by rw[A5o];simp
        cases Bn5 with
        |true =>simp only[Bna]at h;exact run _ (hi.Ar7 hb) (A5a hg hoj hgs Aip) h
        |false =>simp only[Bna,Bnc]at h;exact skip _ (hi.Ar7 hb) (A5b hg hoj hgs Aip rfl) h
       ·subst hbt;change Dw P S ops i _ (Kf d false st).im Az (Eo Ga) _;have Aip:(Kf d false st).im.env.lookup d=some (.d (.sc (.bool false))):=by rw[A5o];simp
        cases Bn5 with
        |true =>simp only[Bna,Bnc]at h;exact skip _ (hi.Ar7 hb) (A5b hg hoj hgs Aip rfl) h
        |false =>simp only[Bnc]at h;exact run _ (hi.Ar7 hb) (A5a hg hoj hgs Aip) h
      ·rename_i v hv Bgm;cases hu:Aan v with
       |false=>simp[hu]at h
       |true =>simp only[hu,Bna]at h;have P7:=Pw Bgm;rw[Aio hu]at P7;exact skip st hi (Aev hg hoj hgs P7) h
      ·cases h
     ·cases hgs
end
def pkM:Nat:=777777777
def A04(off:Nat):PK:=cond (Nat.ble 900000000 off) (.s 0 ((off-900000000)/1000) ((off-900000000) % 1000)) (cond (Nat.beq off pkM) .m (.p off))
def B57(p:PK)(off:Nat):Bool :=
 match p with
 |.p o=>cond (Nat.ble 900000000 off) false (cond (Nat.beq off pkM) false (Nat.beq o off))
 |.m=>cond (Nat.ble 900000000 off) false (Nat.beq off pkM)
 |.s o l z=>cond (Nat.ble 900000000 off) (cond (Nat.beq o 0) (cond (Nat.beq l ((off-900000000)/1000)) (Nat.beq z ((off-900000000) % 1000)) false) false) false
 |_=>false
def B2f{p:PK}(h:B57 p off=true):p=A04 off:=by
 unfold B57 at h;unfold A04;cases hB:Nat.ble 900000000 off with
 |true =>
  split at h
  ·rw[hB]at h;cases h
  ·rw[hB]at h;cases h
  ·rename_i o l z;rw[hB,Bna]at h;cases h1:Nat.beq o 0 with
   |false=>rw[h1]at h;cases h
   |true =>
   cases h2:Nat.beq l ((off-900000000)/1000) with
   |false=>rw[h1,h2]at h;cases h
   |true =>rw[h1,h2]at h;simp only[Bna]at h⊢;rw[Bne h1,Bne h2,Bne h]
  ·cases h
 |false =>
  simp only[Bnc];split at h
  ·rw[hB,Bnc]at h;cases hb:Nat.beq off pkM with
   |true=>simp[hb]at h
   |false =>simp only[hb,Bnc]at h;rw[Bne h];rfl
  ·rw[hB,Bnc]at h;rw[h];rfl
  ·rw[hB]at h;cases h
  ·cases h
inductive VK where
 |d (t:Ty)
 |Cv (n:Nat) (t:Ty) (ty:Option TypeId)
 |p (k off:Nat)
 |z (k off:Nat)
 |os (k:Nat) (t:Ty)
 |Ld
@[reducible] def VK.T:VK→Type
 |.d t=>t.T
 |.Cv _ t _=>List t.T
 |.p _ _=>Unit
 |.z _ _=>Bool
 |.os _ _=>Nat
 |.Ld=>Unit
def VK.val:(v:VK)→v.T→XV
 |.d t,x=>.d (t.xv x)
 |.Cv n t ty,l=>.Cv n t l ty
 |.p k off,_=>.nm k (A04 off)
 |.z k off,b=>.nm k (.z b off)
 |.os k t,n=>.os k t 0 n
 |.Ld,_=>.d (.v (.map none))
def VK.cells:(v:VK)→v.T→A6 XV
 |.d t,x=>(t.enc x).map .d
 |.Cv n t ty,l=>[.Cv n t l ty]
 |.p k off,_=>[.nm k (A04 off)]
 |.z k off,b=>[.nm k (.z b off)]
 |.os k t,n=>[.os k t 0 n]
 |.Ld,_=>[.d (.v (.map none))]
def S9(t:Ty):XV→Option t.T
 |.d x=>t.A38 x
 |.Cv _ u l _=>t.A38 (.sl u l)
 |.agg cs=>match Acy cs with
  |some ds=>t.A38 (.agg ds)
  |none=>none
 |_=>none
def Bgn(k off:Nat):Z2 (XV.nm k (.p off)).a (.d XD.pp.d):=by
 intro g w v hr;simp only[XV.a]at hr;cases hr with
 |nm _ _ _ h=>exact .d _ _ (.any _ _ ⟨_,h⟩ (by rw[show v=_ from h];rfl))
def A05{y:t.T}(h:S9 t x=some y):Z2 x.a (.d (t.dv y)):=by
 unfold S9 at h;split at h
 ·exact Z2.d (t.O4 h)
 ·rename_i n u l ty;have:=t.O4 h;intro g w v hr;exact Z2.d this g w v (Z2.Cv _ _ _ _ g w v hr)
 ·rename_i cs;split at h
  ·rename_i ds hds;have h1:=Auw (.agg cs);simp only[B1z,hds]at h1;have:=t.O4 h;intro g w v hr;exact Z2.d this g w v (h1 g w v hr)
  ·cases h
 ·cases h
def Ar9(t:Ty):XV→Option t.T
 |.nm _ (.p _)=>t.A38 .pp
 |x=>S9 t x
def Ank{y:t.T}(h:Ar9 t x=some y):Z2 x.a (.d (t.dv y)):=by
 unfold Ar9 at h;split at h
 ·have:=t.O4 h;intro g w v hr;exact Z2.d this g w v (Bgn _ _ g w v hr)
 ·exact A05 h
def Bcx(Bix Bn5:A7 TypeId):Bool :=
 match Bn5 with
 |none=>true
 |some e=>match Bix with
  |some e'=>Nat.beq e' e
  |none=>false
noncomputable abbrev Lab:=A6 (Nat×A7 Nat)
def Aao(n:Nat)(t:Ty)(ty:A7 TypeId):XV→A7 (List t.T×Lab)
 |.Cv m u l Xy=>if h:u.Jx t=true then cond (Bcx Xy ty) (some (Ty.Av h▸l,[(n,some m)])) none else none
 |.d (.v (.slice none 0 0))=>some ([],[(n,none)])
 |_=>none
def Aap(k off:Nat):XV→A7 (Unit×Lab)
 |.nm k' p=>cond (Nat.beq k' k) (cond (B57 p off) (some ((),[])) none) none
 |_=>none
def Ave(k off:Nat):XV→A7 (Bool×Lab)
 |.nm k' (.p Vc)=>cond (Nat.beq k' k) (cond (Nat.beq Vc off) (some (false,[])) none) none
 |.nm k' (.z b Vc)=>cond (Nat.beq k' k) (cond (Nat.beq Vc off) (some (b,[])) none) none
 |.d (.v (.pointer none))=>some (true,[])
 |_=>none
def Aiq(k:Nat)(t:Ty):XV→A7 (Nat×Lab)
 |.os k' t' a n=>cond (Nat.beq k' k) (cond (t'.Jx t) (cond (Nat.beq a 0) (some (n,[])) none) none) none
 |_=>none
def Air:XV→A7 (Unit×Lab)
 |.d (.v (.map none))=>some ((),[])
 |_=>none
def VK.proj:(v:VK)→XV→A7 (v.T×Lab)
 |.d t=>fun x=>match S9 t x with
  |some y=>some (y,[])
  |none=>none
 |.Cv n t ty=>Aao n t ty
 |.p k off=>Aap k off
 |.z k off=>Ave k off
 |.os k t=>Aiq k t
 |.Ld=>Air
inductive OK where
 |arr (t:Ty)
 |Vw
 |map (k v:Ty)
 |Kn (m:Nat)
 |E5
 |Cx (L:Nat) (k v:Ty)
 |abs (h:Nat) (S:Sh) (ty:Option TypeId)
@[reducible] def OK.T:OK→Type
 |.arr t=>List t.T
 |.Vw=>A6 UInt8×Nat
 |.map k v=>A6 (Nat×k.T×v.T)×Nat
 |.Kn _=>Nat×A6 Nat×Nat
 |.E5=>Unit
 |.Cx _ k v=>A6 (Nat×k.T×Bool×List v.T)×Nat
 |.abs _ S _=>S.T
def OK.ob:(o:OK)→o.T→Af
 |.arr t,l=>.arr t l
 |.Vw,x=>.Vw x.1 x.2
 |.map k v,x=>.map k v x.1 x.2
 |.Kn m,x=>.Kn m x.1 x.2.1 x.2.2
 |.E5,_=>.E5
 |.Cx L k v,x=>.Cx L k v x.1 x.2
 |.abs h S ty,x=>.abs h S ty x
def OK.dec:(o:OK)→Af→Option o.T
 |.arr t,.arr u l=>if h:u.Jx t=true then some (Ty.Av h▸l)else none
 |.Vw,.Vw s p=>some (s,p)
 |.map k v,.map k' v' es c=>if h:k'.Jx k=true then if h':v'.Jx v=true then some (Ty.Av h▸Ty.Av h'▸es,c)else none else none
 |.Kn m,.Kn m' a b c=>cond (Nat.beq m' m) (some (a,b,c)) none
 |.E5,.E5=>some ()
 |.Cx L k v,.Cx L' k' v' es c=>if h:k'.Jx k=true then if h':v'.Jx v=true then cond (Nat.beq L' L) (some (Ty.Av h▸Ty.Av h'▸es,c)) none else none else none
 |.abs h S ty,.abs h' S' Xy x=>if e:S'.Jx S=true then cond (Nat.beq h' h) (cond (Xy==ty) (some (Sh.Av e▸x)) none) none else none
 |_,_=>none
def OK.Ara{o:OK}{x:Af}{y:o.T}(h:o.dec x=some y):x=o.ob y:=by
 unfold OK.dec at h;split at h
 ·split at h
  ·rename_i he;have e:=Ty.Av he;subst e;cases h;rfl
  ·cases h
 ·cases h;rfl
 ·split at h
  ·rename_i he;split at h
   ·rename_i he';have e:=Ty.Av he;have e':=Ty.Av he';subst e;subst e';cases h;rfl
   ·cases h
  ·cases h
 ·rename_i m m' a b c;cases hb:Nat.beq m' m with
  |false=>simp[hb]at h
  |true =>simp only[hb,Bna,Bnf]at h;subst h;rw[Bne hb];rfl
 ·rfl
 ·rename_i L k v L' k' v' es c;split at h
  ·rename_i he;split at h
   ·rename_i he';cases hb:Nat.beq L' L with
    |false=>simp[hb]at h
    |true =>have e:=Ty.Av he;have e':=Ty.Av he';subst e;subst e';simp only[hb,Bna,Bnf]at h;subst h;rw[Bne hb];rfl
   ·cases h
  ·cases h
 ·rename_i h1 S ty h1' S' Xy x;split at h
  ·rename_i he;have e:=Sh.Av he;cases hb:Nat.beq h1' h1 with
   |false=>simp[hb]at h
   |true =>
    cases ht:Xy==ty with
    |false=>simp[hb,ht]at h
    |true =>subst e;simp only[hb,ht,Bna,Bnf]at h;subst h;rw[Bne hb,eq_of_beq ht];rfl
  ·cases h
 ·cases h
def OK.okp(ns:A6 Nat):OK→Bool
 |.Kn m=>cond (inl m ns) false true
 |.Cx L _ _=>cond (inl L ns) false true
 |.abs _ _ _=>Xz ns
 |_=>true
def A1m(ns:A6 Nat):A6 (Nat×OK)→Bool
 |[]=>true
 |p::r=>cond (p.2.okp ns) (A1m ns r) false
structure Cut where
 vars:List (Tmp×VK)
 objs:List (Nat×List VK×Option TypeId)
 Yg:List Tmp
 Pj:List Nat
 own:List (Tmp×Nat×Ty):=[]
 Rc:List (Nat×OK):=[]
@[reducible] def Ais:A6 (Tmp×VK)→Type
 |[]=>Unit
 |p::r=>p.2.T×Ais r
@[reducible] def A85:A6 VK→Type
 |[]=>Unit
 |v::r=>v.T×A85 r
@[reducible] def Af7:A6 (Nat×A6 VK×A7 TypeId)→Type
 |[]=>Unit
 |p::r=>A85 p.2.1×Af7 r
@[reducible] def A6p:A6 (Tmp×Nat×Ty)→Type
 |[]=>Unit
 |p::r=>A7 (List p.2.2.T×Nat)×A6p r
@[reducible] def Af8:A6 (Nat×OK)→Type
 |[]=>Unit
 |p::r=>p.2.T×Af8 r
@[reducible] def Cut.T (c:Cut):Type:=Ais c.vars×Af7 c.objs×A6p c.own×Af8 c.Rc
def Vd:(l:A6 (Tmp×Nat×Ty))→A6p l→A6 (Nat×XV)
 |[],_=>[]
 |p::r,x=>(p.1,match x.1 with
  |none=>.d (.v (.slice none 0 0))
  |some y=>.os p.2.1 p.2.2 0 y.2)::Vd r x.2
def T9:(l:A6 (Tmp×Nat×Ty))→A6p l→A6 (Nat×Af)
 |[],_=>[]
 |p::r,x=>match x.1 with
  |none=>T9 r x.2
  |some y=>(p.2.1,.arr p.2.2 y.1)::T9 r x.2
def Mn:(l:A6 (Nat×OK))→Af8 l→A6 (Nat×Af)
 |[],_=>[]
 |p::r,x=>(p.1,p.2.ob x.1)::Mn r x.2
def ownNames:A6 (Tmp×Nat×Ty)→A6 Nat
 |[]=>[]
 |p::r=>p.2.1::ownNames r
def Fm:A6 (Nat×OK)→A6 Nat
 |[]=>[]
 |p::r=>p.1::Fm r
def Cut.others(c:Cut):A6 Nat:=(c.objs.map (·.1)++Fm c.Rc)++c.Pj
def Yh:(l:A6 (Tmp×VK))→Ais l→A6 (Nat×XV)
 |[],_=>[]
 |p::r,x=>(p.1,p.2.val x.1)::Yh r x.2
def M6:(l:A6 VK)→A85 l→A6 XV
 |[],_=>[]
 |v::r,x=>v.cells x.1++M6 r x.2
def Re:(l:A6 (Nat×A6 VK×A7 TypeId))→Af7 l→A6 (Nat×Af)
 |[],_=>[]
 |p::r,x=>(p.1,.cells (M6 p.2.1 x.1) p.2.2)::Re r x.2
def A1n(env:A6 (Nat×XV)):A6 Tmp→A6 (Nat×XV)
 |[]=>[]
 |t::r=>match lk t env with
  |some x=>(t,x)::A1n env r
  |none=>A1n env r
def N9(objs:A6 (Nat×Af)):A6 Nat→A6 (Nat×Af)
 |[]=>[]
 |t::r=>match lk t objs with
  |some x=>(t,x)::N9 objs r
  |none=>N9 objs r
def Na:A6 (Tmp×VK)→A6 Nat
 |[]=>[]
 |(_,.Cv n _ _)::r=>n::Na r
 |(_,.d _)::r=>Na r
 |(_,.p _ _)::r=>Na r
 |(_,.z _ _)::r=>Na r
 |(_,.os _ _)::r=>Na r
 |(_,.Ld)::r=>Na r
def Ks:A6 VK→A6 Nat
 |[]=>[]
 |.Cv n _ _::r=>n::Ks r
 |.d _::r=>Ks r
 |.p _ _::r=>Ks r
 |.z _ _::r=>Ks r
 |.os _ _::r=>Ks r
 |.Ld::r=>Ks r
def A1o:A6 (Nat×A6 VK×A7 TypeId)→A6 Nat
 |[]=>[]
 |p::r=>Ks p.2.1++A1o r
def Cut.Ej(c:Cut):A6 Nat:=Na c.vars++A1o c.objs
def Bcy(n:Nat)(live acc:A6 Nat):A6 Nat:=cond (inl n live) (cond (inl n acc) acc (n::acc)) acc
def Adf(live:A6 Nat):A6 XV→A6 Nat→A6 Nat
 |[],acc=>acc
 |.Cv n _ _ _::r,acc=>Adf live r (Bcy n live acc)
 |_::r,acc=>Adf live r acc
def Arb(live:A6 Nat):A6 (Nat×XV)→A6 Nat→A6 Nat
 |[],acc=>acc
 |(_,.Cv n _ _ _)::r,acc=>Arb live r (Bcy n live acc)
 |_::r,acc=>Arb live r acc
def Aaq(live:A6 Nat):A6 (Nat×Af)→A6 Nat→A6 Nat
 |[],acc=>acc
 |(_,.cells cs _)::r,acc=>Aaq live r (Adf live cs acc)
 |(_,.Cx L _ _ _ _)::r,acc=>Aaq live r (Bcy L live acc)
 |_::r,acc=>Aaq live r acc
def Ait(live:A6 Nat):A6 (Nat×OK)→A6 Nat→A6 Nat
 |[],acc=>acc
 |(_,.Cx L _ _)::r,acc=>Ait live r (Bcy L live acc)
 |_::r,acc=>Ait live r acc
def Wr(s0:Ak)(c:Cut):A6 Nat:=Ait s0.live c.Rc (Aaq s0.live (N9 s0.objs c.Pj) (Arb s0.live (A1n s0.env c.Yg) []))
def gen(s0:Ak)(c:Cut)(x:c.T):Ak :=
 ⟨Yh c.vars x.1++(Vd c.own x.2.2.1++A1n s0.env c.Yg),Re c.objs x.2.1++(T9 c.own x.2.2.1++(Mn c.Rc x.2.2.2++N9 s0.objs c.Pj)),c.Ej++Wr s0 c,[],[]⟩
def Tq(env:A6 (Nat×XV)):(l:A6 (Tmp×VK))→A7 (Ais l×Lab)
 |[]=>some ((),[])
 |p::r=>match lk p.1 env with
  |some v=>match p.2.proj v with
   |some (x,σ)=>match Tq env r with
    |some (xs,τ)=>some ((x,xs),σ++τ)
    |none=>none
   |none=>none
  |none=>none
def Aiu:A6 XV→A7 (A6 XD)
 |[]=>some []
 |x::r=>match x.asD,Aiu r with
  |some y,some l=>some (y::l)
  |_,_=>none
theorem Adg:∀ {cs:A6 XV} {ds:A6 XD},Aiu cs=some ds→cs.length=ds.length∧∀(i:Nat) x y,cs[i]? = some x→ds[i]? = some y→Z2 x.a (.d y.d)
 |[],ds,h=>by simp[Aiu]at h;subst h;exact⟨rfl,by simp⟩
 |x::r,ds,h=>by
  simp only[Aiu]at h;split at h
  ·rename_i y l hy hl;cases h;obtain⟨h1,h2⟩:=Adg hl;refine⟨by simp[h1],fun i a b ha hb=>?_⟩;cases i with
   |zero=>simp at ha hb;subst ha;subst hb;exact B8q hy
   |succ i=>exact h2 i a b (by simpa using ha) (by simpa using hb)
  ·cases h
def Co:(l:A6 VK)→A6 XV→A7 (A85 l×Lab)
 |[],cs=>match cs with
  |[]=>some ((),[])
  |_=>none
 |.d t::r,cs=>match Aiu (cs.take t.size) with
  |some ds=>match t.dec ds with
   |some (x,[])=>match Co r (cs.drop t.size) with
    |some (xs,τ)=>some ((x,xs),τ)
    |none=>none
   |_=>none
  |none=>none
 |.p k off::r,cs=>match cs with
  |c::Xv=>match (VK.p k off).proj c with
   |some (x,σ)=>match Co r Xv with
    |some (xs,τ)=>some ((x,xs),σ++τ)
    |none=>none
   |none=>none
  |[]=>none
 |.z k off::r,cs=>match cs with
  |c::Xv=>match (VK.z k off).proj c with
   |some (x,σ)=>match Co r Xv with
    |some (xs,τ)=>some ((x,xs),σ++τ)
    |none=>none
   |none=>none
  |[]=>none
 |.os k t::r,cs=>match cs with
  |c::Xv=>match (VK.os k t).proj c with
   |some (x,σ)=>match Co r Xv with
    |some (xs,τ)=>some ((x,xs),σ++τ)
    |none=>none
   |none=>none
  |[]=>none
 |.Ld::r,cs=>match cs with
  |c::Xv=>match VK.Ld.proj c with
   |some (x,σ)=>match Co r Xv with
    |some (xs,τ)=>some ((x,xs),σ++τ)
    |none=>none
   |none=>none
  |[]=>none
 |.Cv n t ty::r,cs=>match cs with
  |c::Xv=>match (VK.Cv n t ty).proj c with
   |some (x,σ)=>match Co r Xv with
    |some (xs,τ)=>some ((x,xs),σ++τ)
    |none=>none
   |none=>none
  |[]=>none
def Aar(a b:A7 TypeId):Bool :=
 match a,b with
 |none,none=>true
 |some x,some y=>Nat.beq x y
 |_,_=>false
def Aiv{a b:A7 TypeId}(h:Aar a b=true):a=b:=by
 unfold Aar at h;split at h
 ·rfl
 ·rw[Bne h]
 ·cases h
def Tr(objs:A6 (Nat×Af)):(l:A6 (Nat×A6 VK×A7 TypeId))→A7 (Af7 l×Lab)
 |[]=>some ((),[])
 |p::r=>match lk p.1 objs with
  |some (.cells cs ty)=>cond (Aar ty p.2.2) (match Co p.2.1 cs with
   |some (x,σ)=>match Tr objs r with
    |some (xs,τ)=>some ((x,xs),σ++τ)
    |none=>none
   |none=>none) none
  |_=>none
def K4(env:A6 (Nat×XV))(objs:A6 (Nat×Af)):(l:A6 (Tmp×Nat×Ty))→A7 (A6p l×A6 (Nat×Nat))
 |[]=>some ((),[])
 |p::r=>match lk p.1 env,K4 env objs r with
  |some (.os k ty a len),some (xs,τ)=>match lk k objs with
   |some (.arr tu l)=>if h:tu.Jx p.2.2=true then cond (ty.Jx p.2.2) (cond (Nat.beq a 0) (some ((some (Ty.Av h▸l,len),xs),(p.2.1,k)::τ)) none) none else none
   |_=>none
  |some (.d (.v (.slice none 0 0))),some (xs,τ)=>some ((none,xs),τ)
  |_,_=>none
def A3t(objs:A6 (Nat×Af)):(l:A6 (Nat×OK))→A7 (Af8 l)
 |[]=>some ()
 |p::r=>match lk p.1 objs,A3t objs r with
  |some o,some xs=>match p.2.dec o with
   |some y=>some (y,xs)
   |none=>none
  |_,_=>none
def A5q(s:Ak)(ns:A6 Nat):A6 Tmp→Bool
 |[]=>true
 |t::r=>cond (inl t s.wl) false (match lk t s.env with
  |some x=>cond (Gs ns x.a) (A5q s ns r) false
  |none=>false)
def Yi(F:A6 Nat):Af→Bool
 |.cells cs _=>C9 F (Ae cs)
 |.Kn m _ _ _=>cond (inl m F) false true
 |.Cx m _ _ _ _=>cond (inl m F) false true
 |.abs _ _ _ _=>Xz F
 |_=>true
def Aiw{o:Af}(h:Yi F o=true):Fk F o.o=true:=by
 have con:∀m,(cond (inl m F) false true)=true→(!F.contains m)=true:=by
  intro m hm;cases hc:F.contains m with
  |false=>rfl
  |true=>rw[(E7 m F).2 (Boq.1 hc)]at hm;cases hm
 cases o with
 |cells cs ty=>exact h
 |arr t l=>exact A39 F t l
 |Vw s pos=>rfl
 |map kt vt es c=>rfl
 |E5=>rfl
 |bts e l=>exact Pd F _
 |Cx m kt vt es c=>exact con m h
 |Kn m since seen last=>exact con m h
 |abs h' S ty x=>exact S.La h _ _ _
def Arc{o:Af}(h:Yi F o=true):∀p∈o.C7,Xz F=true∧Fk F p.2=true:=by
 cases o with
 |abs h' S ty x=>exact fun p hp=>⟨h,S.O6 h _ _ _ p hp⟩
 |_=>intro p hp;cases hp
def A06(s:Ak)(ns:A6 Nat):A6 Nat→Bool
 |[]=>true
 |t::r=>cond (inl t s.ol) false (match lk t s.objs with
  |some x=>cond (Yi ns x) (A06 s ns r) false
  |none=>false)
def Le:Lab→A6 Nat
 |[]=>[]
 |(_,some m)::r=>m::Le r
 |(_,none)::r=>Le r
def Am5(a b:A6 Nat):Bool :=
 match a with
 |[]=>true
 |x::r=>cond (inl x b) (Am5 r b) false
def I7:A6 Nat→Bool
 |[]=>true
 |x::r=>cond (inl x r) false (I7 r)
def slotsOf:A6 (Tmp×VK)→A6 Nat
 |[]=>[]
 |p::r=>p.1::slotsOf r
def Ir:A6 (Nat×A6 VK×A7 TypeId)→A6 Nat
 |[]=>[]
 |p::r=>p.1::Ir r
def apart(a b:A6 Nat):Bool :=
 match a with
 |[]=>true
 |x::r=>cond (inl x b) false (apart r b)
theorem apart_spec:∀ {a b:A6 Nat},apart a b=true→∀x∈a,x∉b
 |[],b,_=>by simp
 |y::r,b,h=>by
  simp only[apart]at h;cases hy:inl y b with
  |true=>simp[hy]at h
  |false =>
   simp only[hy,Bnc]at h;intro x hx;rcases Bnd.1 hx with rfl|hx
   ·intro hm;rw[(E7 _ _).2 hm]at hy;cases hy
   ·exact apart_spec h x hx
def M7:A6 (Tmp×Nat×Ty)→A6 Nat
 |[]=>[]
 |p::r=>p.1::M7 r
def VK.okp(ns:A6 Nat):VK→Bool
 |.p k _=>cond (inl k ns) false true
 |.z k _=>cond (inl k ns) false true
 |.os k _=>cond (inl k ns) false true
 |_=>true
def A3u(ns:A6 Nat):A6 (Tmp×VK)→Bool
 |[]=>true
 |p::r=>cond (p.2.okp ns) (A3u ns r) false
def Ve(ns:A6 Nat):A6 VK→Bool
 |[]=>true
 |p::r=>cond (p.okp ns) (Ve ns r) false
def A3v(ns:A6 Nat):A6 (Nat×A6 VK×A7 TypeId)→Bool
 |[]=>true
 |p::r=>cond (Ve ns p.2.1) (A3v ns r) false
def B2g{α:Type}(c:Cut)(ν:A6 (Nat×Nat))(x:A7 α):A7 α :=
 cond (I7 (ownNames c.own)) (cond (apart (ownNames c.own) c.others) (cond (I7 (ν.map (·.2))) (cond (apart (ν.map (·.2)) c.others) (cond ((ownNames c.own).all (Nat.ble 1000)) (cond (apart c.Ej (ownNames c.own)) (cond (A3u (ownNames c.own) c.vars) (cond (A3v (ownNames c.own) c.objs) (cond (A1m (c.Ej++ownNames c.own) c.Rc) x none) none) none) none) none) none) none) none) none
def proj(nm:A6 Nat)(kl:A6 Nat)(c:Cut)(s:Ak):Option c.T :=
 match Tq s.env c.vars,Tr s.objs c.objs,K4 s.env s.objs c.own,A3t s.objs c.Rc with
 |some (x,σ),some (y,τ),some (u,ν),some v =>
  cond (A5q s (c.Ej++ownNames c.own) c.Yg) (cond (A06 s (c.Ej++ownNames c.own) c.Pj) (cond (Am5 (Le (σ++τ)++kl) s.live)
   (cond (I7 (Le (σ++τ)++kl)) (cond (I7 (c.Ej++kl)) (cond (cond (Am5 nm c.others) (Pe s.objs) false) (cond (apart c.Yg (slotsOf c.vars++M7 c.own)) (cond (apart c.Pj (Ir c.objs++(ownNames c.own++Fm c.Rc))) (B2g c ν (some (x,y,u,v))) none) none) none) none) none) none) none) none
 |_,_,_,_=>none
def Biy(g:Gh)(τ:Lab)(Wr:A6 Nat)(ν:A6 (Nat×Nat)):Gh :=
 {g with ρ:=fun j=>match lk j ν with|some k=>g.ρ k|none=>g.ρ j,β:=fun n=>cond (inl n Wr) (g.β n) (match lk n τ with
  |some (some m)=>g.β m
  |some none=>some none
  |none=>none),η:=fun n=>cond (inl n Wr) (g.η n) fun _=>none }
theorem W0:∀ {a b:A6 Nat},Am5 a b=true→∀x∈a,x∈b
 |[],b,_=>by simp
 |y::r,b,h=>by
  simp only[Am5]at h;cases hy:inl y b with
  |false=>simp[hy]at h
  |true =>
   simp only[hy,Bna]at h;intro x hx;rcases Bnd.1 hx with rfl|hx
   ·exact(E7 _ _).1 hy
   ·exact W0 h x hx
theorem D1:∀ {a:A6 Nat},I7 a=true→a.Nodup
 |[],_=>.nil
 |y::r,h=>by
  simp only[I7]at h;cases hy:inl y r with
  |true=>simp[hy]at h
  |false =>simp only[hy,Bnc]at h;refine Boi.2 ⟨fun hm=>?_,D1 h⟩;rw[(E7 _ _).2 hm]at hy;cases hy
variable{c:Cut}{v:VK}{σ:Lab}{g g':Gh}{S:Sig}
def VK.A5r{y:v.T}(h:v.proj x=some (y,σ)){u:Value}(hγ:g'.γ=g.γ)(hρ:∀k,k∉ns→g'.ρ k=g.ρ k)(Jr:v.okp ns=true)
  (hσ:∀n m,(n,some m)∈σ→∀ob,g'.β n=some ob→g.β m=some ob) (hr:RA g w x.a u):RA g' w (v.val y).a u:=by
 cases v with
 |d t =>
  simp only[VK.proj]at h;split at h
  ·rename_i y' hy;cases h;have hle:Z2 x.a (.d (t.dv y)):=A05 hy;have:=hle g w u hr;cases this with
   |d _ _ h1=>exact .d _ _ (hγ▸h1)
  ·cases h
 |Cv n t ty =>
  change Aao n t ty x=some (y,σ)at h;unfold Aao at h;split at h
  ·rename_i m u' l' Bgo;split at h
   ·rename_i he;have e0:=Ty.Av he;subst e0;cases ht:Bcx Bgo ty with
    |false=>simp[ht]at h
    |true =>
     simp only[ht,Bna,Bnf,Bo2]at h;obtain⟨rfl,rfl⟩:=h;simp only[XV.a]at hr;cases hr with
     |Cv _ _ _ _ _ h1 h2 =>
      refine .Cv _ _ _ _ _ (hγ▸h1) ?_;unfold A73 at h2⊢;split at h2
      ·rename_i a len cap;intro ob My;obtain⟨a1,a2,a3,a4,a5⟩:=h2 ob (hσ n m (by simp) ob My);refine⟨a1,a2,by rw[hγ];exact a3,a4,fun e hte=>?_⟩;refine a5 e ?_;subst hte;simp only[Bcx]at ht;split at ht
       ·rw[Bne ht]
       ·cases ht
      ·trivial
   ·cases h
  ·simp only[Bnf,Bo2]at h;obtain⟨rfl,rfl⟩:=h;simp only[XV.a,XD.d]at hr;cases hr with
   |d _ _ h1 =>cases h1;exact .Cv _ _ _ _ _ (.nil _ none 0 fun _=>rfl) trivial
  ·cases h
 |p k off =>
  change Aap k off x=some (y,σ)at h;unfold Aap at h;split at h
  ·rename_i k' Vc;cases h1:Nat.beq k' k with
   |false=>simp[h1]at h
   |true =>
    cases h2:B57 Vc off with
    |false=>simp[h1,h2]at h
    |true =>
     have e1:=Bne h1;have e2:=B2f h2;subst e1;subst e2;simp only[XV.a]at hr;cases hr with
     |nm _ _ _ h=>exact .nm _ _ _ (by
       rw[hρ]
       ·exact h
       ·intro hm;simp[VK.okp,(E7 _ _).2 hm]at Jr)
  ·cases h
 |os k t =>
  change Aiq k t x=some (y,σ)at h;have hk:k∉ns:=by intro hm;simp[VK.okp,(E7 _ _).2 hm]at Jr
  unfold Aiq at h;split at h
  ·rename_i k' t' a n;cases h1:Nat.beq k' k with
   |false=>simp[h1]at h
   |true =>
    cases h2:t'.Jx t with
    |false=>simp[h1,h2]at h
    |true =>
     cases h3:Nat.beq a 0 with
     |false=>simp[h1,h2,h3]at h
     |true =>
      have e1:=Bne h1;have e2:=Ty.Av h2;have e3:=Bne h3;subst e1;subst e2;subst e3;simp only[h1,h2,h3,Bna,Bnf,Bo2]at h;obtain⟨rfl,rfl⟩:=h;simp only[XV.a]at hr;cases hr with
      |nm _ _ _ h=>exact .nm _ _ _ (by rw[hρ _ hk];exact h)
  ·cases h
 |Ld =>
  change Air x=some (y,σ)at h;unfold Air at h;split at h
  ·cases h;cases hr with
   |d _ _ h1=>exact .d _ _ (hγ▸h1)
  ·cases h
 |z k off =>
  change Ave k off x=some (y,σ)at h;have hk:k∉ns:=by intro hm;simp[VK.okp,(E7 _ _).2 hm]at Jr
  unfold Ave at h;split at h
  ·rename_i k' Vc;cases h1:Nat.beq k' k with
   |false=>simp[h1]at h
   |true =>
    cases h2:Nat.beq Vc off with
    |false=>simp[h1,h2]at h
    |true =>
     have e1:=Bne h1;have e2:=Bne h2;subst e1;subst e2;simp only[h1,h2,Bna,Bnf,Bo2]at h;obtain⟨rfl,rfl⟩:=h;simp only[XV.a]at hr;cases hr with
     |nm _ _ _ h=>exact .nm _ _ _ (by rw[hρ _ hk];exact h)
  ·rename_i k' b Vc;cases h1:Nat.beq k' k with
   |false=>simp[h1]at h
   |true =>
    cases h2:Nat.beq Vc off with
    |false=>simp[h1,h2]at h
    |true =>
     have e1:=Bne h1;have e2:=Bne h2;subst e1;subst e2;simp only[h1,h2,Bna,Bnf,Bo2]at h;obtain⟨rfl,rfl⟩:=h;simp only[XV.a]at hr;cases hr with
     |nm _ _ _ h=>exact .nm _ _ _ (by rw[hρ _ hk];exact h)
  ·cases h;simp only[XV.a,XD.d]at hr;cases hr with
   |d _ _ h1 =>cases h1;exact .nm _ _ _ rfl
  ·cases h
def Aas{n:Nat}{ty:A7 TypeId}{y:List t.T}(h:Aao n t ty x=some (y,σ)):σ.map (·.1)=[n]:=by
 unfold Aao at h;split at h
 ·split at h
  ·rename_i m u' l' Bgo he;cases ht:Bcx Bgo ty with
   |false=>simp[ht]at h
   |true=>simp only[ht,Bna,Bnf,Bo2]at h;rw[← h.2];rfl
  ·cases h
 ·simp only[Bnf,Bo2]at h;rw[← h.2];rfl
 ·cases h
def Azs{y:t.T}(h:(VK.d t).proj x=some (y,σ)):σ=[]:=by
 simp only[VK.proj]at h;split at h
 ·cases h;rfl
 ·cases h
def Aix{y:Unit}(h:(VK.p k off).proj x=some (y,σ)):σ=[]:=by
 change Aap k off x=some (y,σ)at h;unfold Aap at h;split at h
 ·rename_i k' Vc;cases h1:Nat.beq k' k with
  |false=>simp[h1]at h
  |true =>
   cases h2:B57 Vc off with
   |false=>simp[h1,h2]at h
   |true=>simp only[h1,h2,Bna,Bnf,Bo2]at h;exact h.2.symm
 ·cases h
def Aiy{y:Bool}(h:(VK.z k off).proj x=some (y,σ)):σ=[]:=by
 change Ave k off x=some (y,σ)at h;unfold Ave at h;split at h
 ·rename_i k' Vc;cases h1:Nat.beq k' k with
  |false=>simp[h1]at h
  |true =>
   cases h2:Nat.beq Vc off with
   |false=>simp[h1,h2]at h
   |true=>simp only[h1,h2,Bna,Bnf,Bo2]at h;exact h.2.symm
 ·rename_i k' b Vc;cases h1:Nat.beq k' k with
  |false=>simp[h1]at h
  |true =>
   cases h2:Nat.beq Vc off with
   |false=>simp[h1,h2]at h
   |true=>simp only[h1,h2,Bna,Bnf,Bo2]at h;exact h.2.symm
 ·cases h;rfl
 ·cases h
def Af9{y:Nat}(h:(VK.os k t).proj x=some (y,σ)):σ=[]:=by
 change Aiq k t x=some (y,σ)at h;unfold Aiq at h;split at h
 ·rename_i k' t' a n;cases h1:Nat.beq k' k<;>cases h2:t'.Jx t<;>cases h3:Nat.beq a 0<;>simp[h1,h2,h3]at h;exact h.2
 ·cases h
def Afa{y:Unit}(h:VK.Ld.proj x=some (y,σ)):σ=[]:=by
 change Air x=some (y,σ)at h;unfold Air at h;split at h
 ·cases h;rfl
 ·cases h
theorem A7d{env:A6 (Nat×XV)}:∀ {l:A6 (Tmp×VK)} {x:Ais l} {σ:Lab},Tq env l=some (x,σ)→σ.map (·.1)=Na l
 |[],x,σ,h=>by simp[Tq]at h;rw[h];rfl
 |(t,v)::r,x,σ,h=>by
  unfold Tq at h;split at h
  ·rename_i z hz;split at h
   ·rename_i y σ1 hy;split at h
    ·rename_i ys τ hys;simp only[Bnf,Bo2]at h;rw[← h.2,Bo4,A7d hys];cases v with
     |d t=>rw[Azs hy];rfl
     |Cv n t ty=>rw[Aas hy];rfl
     |p k off=>rw[Aix hy];rfl
     |z k off=>rw[Aiy hy];rfl
     |os k t=>rw[Af9 hy];rfl
     |Ld=>rw[Afa hy];rfl
    ·cases h
   ·cases h
  ·cases h
theorem I8:∀ {l:A6 VK} {cs:A6 XV} {x:A85 l} {σ:Lab},Co l cs=some (x,σ)→σ.map (·.1)=Ks l
 |[],cs,x,σ,h=>by
  unfold Co at h;split at h
  ·cases h;rfl
  ·cases h
 |.d t::r,cs,x,σ,h=>by
  unfold Co at h;split at h
  ·split at h
   ·split at h
    ·rename_i ys τ hys;cases h;exact I8 (l:=r) hys
    ·cases h
   ·cases h
  ·cases h
 |.p k off::r,cs,x,σ,h=>by
  unfold Co at h;split at h
  ·split at h
   ·rename_i y σ1 hy;split at h
    ·rename_i ys τ hys;cases h;rw[Bo4,Aix hy,I8 hys];rfl
    ·cases h
   ·cases h
  ·cases h
 |.z k off::r,cs,x,σ,h=>by
  unfold Co at h;split at h
  ·split at h
   ·rename_i y σ1 hy;split at h
    ·rename_i ys τ hys;cases h;rw[Bo4,Aiy hy,I8 hys];rfl
    ·cases h
   ·cases h
  ·cases h
 |.os k t::r,cs,x,σ,h=>by
  unfold Co at h;split at h
  ·split at h
   ·rename_i y σ1 hy;split at h
    ·rename_i ys τ hys;cases h;rw[Bo4,Af9 hy,I8 hys];rfl
    ·cases h
   ·cases h
  ·cases h
 |.Ld::r,cs,x,σ,h=>by
  unfold Co at h;split at h
  ·split at h
   ·rename_i y σ1 hy;split at h
    ·rename_i ys τ hys;cases h;rw[Bo4,Afa hy,I8 hys];rfl
    ·cases h
   ·cases h
  ·cases h
 |.Cv n t ty::r,cs,x,σ,h=>by
  unfold Co at h;split at h
  ·split at h
   ·rename_i y σ1 hy;split at h
    ·rename_i ys τ hys;cases h;rw[Bo4,Aas hy,I8 hys];rfl
    ·cases h
   ·cases h
  ·cases h
theorem A7e{objs:A6 (Nat×Af)}:∀ {l:A6 (Nat×A6 VK×A7 TypeId)} {x:Af7 l} {σ:Lab},Tr objs l=some (x,σ)→σ.map (·.1)=A1o l
 |[],x,σ,h=>by simp[Tr]at h;rw[h];rfl
 |p::r,x,σ,h=>by
  unfold Tr at h;split at h
  ·rename_i cs ty hk;cases ht:Aar ty p.2.2 with
   |false=>simp[ht]at h
   |true =>
    simp only[ht,Bna]at h;split at h
    ·rename_i y σ1 hy;split at h
     ·rename_i ys τ hys;cases h;rw[Bo4,I8 hy,A7e hys];rfl
     ·cases h
    ·cases h
  ·cases h
def Px(g:Gh)(w:World)(cs:A6 XV)(vs:A6 Value):Prop:=∀(i:Nat) x v,cs[i]? = some x→vs[i]? = some v→RA g w x.a v
theorem Px.split{g:Gh}{w:World}{a b:A6 XV}{vs:A6 Value}(h:Px g w a (vs.take a.length))(h':Px g w b (vs.drop a.length)):Px g w (a++b) vs:=by
 intro i x v hx hv;rw[Boz]at hx;split at hx
 ·rename_i By;refine h i x v hx ?_;rw[Bow,Bo3 By];exact hv
 ·refine h' (i-a.length) x v hx ?_;rw[Bp3,show a.length+(i-a.length)=i by omega];exact hv
theorem Avf:∀ {cs:A6 XV} {ds:A6 XD},A3g cs=some ds→cs=ds.map .d
 |[],ds,h=>by simp[A3g]at h;subst h;rfl
 |x::r,ds,h=>by
  cases x with
  |d x =>
   simp only[A3g]at h;split at h
   ·rename_i l hl;cases h;rw[Avf hl];rfl
   ·cases h
  |_=>simp[A3g]at h
def Fo{r:A6 VK}(h:Ve ns (v::r)=true):v.okp ns=true∧Ve ns r=true:=by
 simp only[Ve]at h;cases hv:v.okp ns with
 |false=>simp[hv]at h
 |true=>simp only[hv,Bna]at h;exact⟨rfl,h⟩
theorem Lf{g g':Gh}{w:World}{ns:A6 Nat}(hγ:g'.γ=g.γ)(hρ:∀k,k∉ns→g'.ρ k=g.ρ k):∀ {l:A6 VK} {cs:A6 XV} {x:A85 l} {σ:Lab} {vs:A6 Value},Ve ns l=true→Co l cs=some (x,σ) →
  (∀n m,(n,some m)∈σ→∀ob,g'.β n=some ob→g.β m=some ob)→Px g w cs vs→Px g' w (M6 l x) vs∧(M6 l x).length=cs.length
 |[],cs,x,σ,vs,Jr,h,hσ,hc=>by
  unfold Co at h;split at h
  ·exact⟨fun i x v hx=>by simp[M6]at hx,rfl⟩
  ·cases h
 |.d t::r,cs,x,σ,vs,Jr,h,hσ,hc=>by
  unfold Co at h;split at h
  ·rename_i ds hds;split at h
   ·rename_i y hy;split at h
    ·rename_i ys τ hys;cases h;obtain⟨zs,hz,hle⟩:=t.Wf hy;simp only[Dm,Bom]at hz;subst hz;have hm:=Adg hds;have hlen:ds.length=t.size:=by rw[← Gv,hle.length,Ty.Df]
     have Bmy:t.size≤cs.length:=by have:(cs.take t.size).length=ds.length:=hm.1;rw[Bof,hlen]at this;omega
     have ih:=Lf hγ hρ (vs:=vs.drop t.size) (Fo Jr).2 hys hσ (by
      intro i x v hx hv;rw[Bp3]at hx hv;exact hc _ x v hx hv)
     simp only[M6,VK.cells];refine⟨Px.split ?_ (by simpa[Ty.A7u]using ih.1),by simp[Ty.A7u,ih.2];omega⟩;intro i x v hx hv;rw[Bni,Bnn]at hx;obtain⟨z,hz,rfl⟩:=hx;simp only[Bo1]at hv;rw[Bow]at hv;split at hv
     ·have hd:(t.ds y)[i]? = some z.d:=by rw[← Ty.N7,Hj,Bni,hz];rfl
      obtain⟨u,hu,Bl8⟩:=hle.get hd;rw[Hj,Bni,Bnn]at hu;obtain⟨u',hu',rfl⟩:=hu;have hi:i<t.size:=by have:=(Bnj.1 hu').1;omega
      obtain⟨c0,Tg⟩:∃c0,cs[i]? = some c0:=⟨_,Bng (by omega)⟩;have hct:(cs.take t.size)[i]? = some c0:=by rw[Bow,Bo3 hi];exact Tg
      have:=hm.2 i c0 u' hct hu' g w v (hc i _ v Tg hv);have:=Z2.d Bl8 g w v this;simp only[XV.a];cases this with
      |d _ _ h1=>exact .d _ _ (hγ▸h1)
     ·cases hv
    ·cases h
   ·cases h
  ·cases h
 |.Cv n t ty::r,cs,x,σ,vs,Jr,h,hσ,hc=>by
  unfold Co at h;split at h
  ·rename_i c Xv;split at h
   ·rename_i y σ1 hy;split at h
    ·rename_i ys τ hys;cases h;have ih:=Lf hγ hρ (vs:=vs.drop 1) (Fo Jr).2 hys (fun n m hm=>hσ n m (Bnz _ hm)) (by
      intro i x v hx hv;rw[Bp3]at hv;exact hc (i+1) x v (by simpa using hx) (by rw[Bsg];exact hv))
     simp only[M6,VK.cells];refine⟨Px.split (a:=[_]) ?_ (by simpa using ih.1),by simp[ih.2]⟩;intro i x v hx hv;cases i with
     |succ i=>simp at hx
     |zero =>
      simp at hx;subst hx;have hv':vs[0]? = some v:=by rw[Bow]at hv;simpa using hv
      exact VK.A5r (v:=.Cv n t ty) hy hγ hρ (Fo Jr).1 (fun n m hm=>hσ n m (Bo0 _ hm)) (hc 0 c v rfl hv')
    ·cases h
   ·cases h
  ·cases h
 |.p k off::r,cs,x,σ,vs,Jr,h,hσ,hc=>by
  unfold Co at h;split at h
  ·rename_i c Xv;split at h
   ·rename_i y σ1 hy;split at h
    ·rename_i ys τ hys;cases h;have ih:=Lf hγ hρ (vs:=vs.drop 1) (Fo Jr).2 hys (fun n m hm=>hσ n m (Bnz _ hm)) (by
      intro i x v hx hv;rw[Bp3]at hv;exact hc (i+1) x v (by simpa using hx) (by rw[Bsg];exact hv))
     simp only[M6,VK.cells];refine⟨Px.split (a:=[_]) ?_ (by simpa using ih.1),by simp[ih.2]⟩;intro i x v hx hv;cases i with
     |succ i=>simp at hx
     |zero =>
      simp at hx;subst hx;have hv':vs[0]? = some v:=by rw[Bow]at hv;simpa using hv
      exact VK.A5r (v:=.p k off) hy hγ hρ (Fo Jr).1 (fun n m hm=>hσ n m (Bo0 _ hm)) (hc 0 c v rfl hv')
    ·cases h
   ·cases h
  ·cases h
 |.z k off::r,cs,x,σ,vs,Jr,h,hσ,hc=>by
  unfold Co at h;split at h
  ·rename_i c Xv;split at h
   ·rename_i y σ1 hy;split at h
    ·rename_i ys τ hys;cases h;have ih:=Lf hγ hρ (vs:=vs.drop 1) (Fo Jr).2 hys (fun n m hm=>hσ n m (Bnz _ hm)) (by
      intro i x v hx hv;rw[Bp3]at hv;exact hc (i+1) x v (by simpa using hx) (by rw[Bsg];exact hv))
     simp only[M6,VK.cells];refine⟨Px.split (a:=[_]) ?_ (by simpa using ih.1),by simp[ih.2]⟩;intro i x v hx hv;cases i with
     |succ i=>simp at hx
     |zero =>
      simp at hx;subst hx;have hv':vs[0]? = some v:=by rw[Bow]at hv;simpa using hv
      exact VK.A5r (v:=.z k off) hy hγ hρ (Fo Jr).1 (fun n m hm=>hσ n m (Bo0 _ hm)) (hc 0 c v rfl hv')
    ·cases h
   ·cases h
  ·cases h
 |.os k t::r,cs,x,σ,vs,Jr,h,hσ,hc=>by
  unfold Co at h;split at h
  ·rename_i c Xv;split at h
   ·rename_i y σ1 hy;split at h
    ·rename_i ys τ hys;cases h;have ih:=Lf hγ hρ (vs:=vs.drop 1) (Fo Jr).2 hys (fun n m hm=>hσ n m (Bnz _ hm)) (by
      intro i x v hx hv;rw[Bp3]at hv;exact hc (i+1) x v (by simpa using hx) (by rw[Bsg];exact hv))
     simp only[M6,VK.cells];refine⟨Px.split (a:=[_]) ?_ (by simpa using ih.1),by simp[ih.2]⟩;intro i x v hx hv;cases i with
     |succ i=>simp at hx
     |zero =>
      simp at hx;subst hx;have hv':vs[0]? = some v:=by rw[Bow]at hv;simpa using hv
      exact VK.A5r (v:=.os k t) hy hγ hρ (Fo Jr).1 (fun n m hm=>hσ n m (Bo0 _ hm)) (hc 0 c v rfl hv')
    ·cases h
   ·cases h
  ·cases h
 |.Ld::r,cs,x,σ,vs,Jr,h,hσ,hc=>by
  unfold Co at h;split at h
  ·rename_i c Xv;split at h
   ·rename_i y σ1 hy;split at h
    ·rename_i ys τ hys;cases h;have ih:=Lf hγ hρ (vs:=vs.drop 1) (Fo Jr).2 hys (fun n m hm=>hσ n m (Bnz _ hm)) (by
      intro i x v hx hv;rw[Bp3]at hv;exact hc (i+1) x v (by simpa using hx) (by rw[Bsg];exact hv))
     simp only[M6,VK.cells];refine⟨Px.split (a:=[_]) ?_ (by simpa using ih.1),by simp[ih.2]⟩;intro i x v hx hv;cases i with
     |succ i=>simp at hx
     |zero =>
      simp at hx;subst hx;have hv':vs[0]? = some v:=by rw[Bow]at hv;simpa using hv
      exact VK.A5r (v:=.Ld) hy hγ hρ (Fo Jr).1 (fun n m hm=>hσ n m (Bo0 _ hm)) (hc 0 c v rfl hv')
    ·cases h
   ·cases h
  ·cases h
theorem Gg{α:Type}{k:Nat}{x:α}:∀ {l:A6 (Nat×α)},lk k l=some x→(k,x)∈l
 |[],h=>by cases h
 |p::r,h=>by
  simp only[G7]at h;cases hb:Nat.beq p.1 k with
  |true =>simp only[hb,Bna,Bnf]at h;have:=Bne hb;subst h;subst this;exact Bnm
  |false =>simp only[hb,Bnc]at h;exact Bnl _ (Gg h)
theorem B2h{α:Type}{k:Nat}:∀ {l:A6 (Nat×α)},lk k l=none→k∉l.map (·.1)
 |[],_=>by simp
 |p::r,h=>by
  simp only[G7]at h;cases hb:Nat.beq p.1 k with
  |true=>simp[hb]at h
  |false =>simp only[hb,Bnc]at h;have:p.1≠k:=Bpv hb;simp only[Bnh,Bnd,Brm];exact⟨Bq5 this,B2h h⟩
def Adh{α:Type}{l:A6 (Nat×α)}(h:k∈l.map (·.1)):∃x,lk k l=some x:=by
 cases hl:lk k l with
 |some x=>exact⟨x,rfl⟩
 |none=>exact absurd h (B2h hl)
theorem Adi{α:Type}{k:Nat}{x:α}:∀ {l:A6 (Nat×α)},(l.map (·.1)).Nodup→(k,x)∈l→lk k l=some x
 |[],_,h=>by simp at h
 |p::r,hnd,h=>by
  simp only[Bnh,Boi]at hnd;simp only[G7];rcases Bnd.1 h with h'|h'
  ·subst h';simp
  ·have hne:p.1≠k:=fun he=>hnd.1 (he▸Bnr (f:=(·.1)) h')
   rw[nbF hne];exact Adi hnd.2 h'
def Afb{v:Tmp×VK}{r:A6 (Tmp×VK)}(h:A3u ns (v::r)=true):v.2.okp ns=true∧A3u ns r=true:=by
 simp only[A3u]at h;cases hv:v.2.okp ns with
 |false=>simp[hv]at h
 |true=>simp only[hv,Bna]at h;exact⟨rfl,h⟩
def Afc{v:Nat×A6 VK×A7 TypeId}{r:A6 (Nat×A6 VK×A7 TypeId)}(h:A3v ns (v::r)=true):Ve ns v.2.1=true∧A3v ns r=true:=by
 simp only[A3v]at h;cases hv:Ve ns v.2.1 with
 |false=>simp[hv]at h
 |true=>simp only[hv,Bna]at h;exact⟨rfl,h⟩
theorem Aat{env:A6 (Nat×XV)}:∀ {l:A6 (Tmp×VK)} {x:Ais l} {σ:Lab} {t:Nat} {y:XV},Tq env l=some (x,σ)→(t,y)∈Yh l x →
  ∃(v:VK) (z:XV) (u:v.T) (σ':Lab),lk t env=some z∧v.proj z=some (u,σ')∧y=v.val u∧(∀p∈σ',p∈σ)∧∀ns,A3u ns l=true→v.okp ns=true
 |[],x,σ,t,y,h,hm=>by simp[Yh]at hm
 |p::r,x,σ,t,y,h,hm=>by
  unfold Tq at h;split at h
  ·rename_i z hz;split at h
   ·rename_i u σ1 hu;split at h
    ·rename_i ys τ hys;cases h;simp only[Yh,Bnd]at hm;rcases hm with hm|hm
     ·cases hm;exact⟨p.2,z,u,σ1,hz,hu,rfl,fun q hq=>Bo0 _ hq,fun ns hn=>(Afb hn).1⟩
     ·obtain⟨v,z,u,σ',h1,h2,h3,h4,h5⟩:=Aat hys hm;exact⟨v,z,u,σ',h1,h2,h3,fun q hq=>Bnz _ (h4 q hq),fun ns hn=>h5 ns (Afb hn).2⟩
    ·cases h
   ·cases h
  ·cases h
theorem A1p{objs:A6 (Nat×Af)}:∀ {l:A6 (Nat×A6 VK×A7 TypeId)} {x:Af7 l} {σ:Lab} {k:Nat} {y:Af},Tr objs l=some (x,σ)→(k,y)∈Re l x →
  ∃(vs:A6 VK) (cs:A6 XV) (ty:A7 TypeId) (u:A85 vs) (σ':Lab),lk k objs=some (.cells cs ty)∧Co vs cs=some (u,σ')∧y = .cells (M6 vs u) ty∧(∀p∈σ',p∈σ)∧k∈l.map (·.1)∧∀ns,A3v ns l=true→Ve ns vs=true
 |[],x,σ,k,y,h,hm=>by simp[Re]at hm
 |p::r,x,σ,k,y,h,hm=>by
  unfold Tr at h;split at h
  ·rename_i cs ty hk;cases ht:Aar ty p.2.2 with
   |false=>simp[ht]at h
   |true =>
    simp only[ht,Bna]at h;have:=Aiv ht;split at h
    ·rename_i u σ1 hu;split at h
     ·rename_i ys τ hys;cases h;simp only[Re,Bnd]at hm;rcases hm with hm|hm
      ·cases hm;exact⟨p.2.1,cs,ty,u,σ1,hk,hu,by rw[this],fun q hq=>Bo0 _ hq,Bnm,fun ns hn=>(Afc hn).1⟩
      ·obtain⟨vs,cs,ty,u,σ',h1,h2,h3,h4,h6,h5⟩:=A1p hys hm;exact⟨vs,cs,ty,u,σ',h1,h2,h3,fun q hq=>Bnz _ (h4 q hq),Bnl _ h6,fun ns hn=>h5 ns (Afc hn).2⟩
     ·cases h
    ·cases h
  ·cases h
theorem Yj{env:A6 (Nat×XV)}:∀ {l:A6 Tmp} {t:Nat} {y:XV},(t,y)∈A1n env l→t∈l∧lk t env=some y
 |[],t,y,h=>by simp[A1n]at h
 |a::r,t,y,h=>by
  unfold A1n at h;split at h
  ·rename_i x hx;rcases Bnd.1 h with h|h
   ·cases h;exact⟨Bnm,hx⟩
   ·have:=Yj h;exact⟨Bnl _ this.1,this.2⟩
  ·have:=Yj h;exact⟨Bnl _ this.1,this.2⟩
theorem Od{objs:A6 (Nat×Af)}:∀ {l:A6 Nat} {t:Nat} {y:Af},(t,y)∈N9 objs l→t∈l∧lk t objs=some y
 |[],t,y,h=>by simp[N9]at h
 |a::r,t,y,h=>by
  unfold N9 at h;split at h
  ·rename_i x hx;rcases Bnd.1 h with h|h
   ·cases h;exact⟨Bnm,hx⟩
   ·have:=Od h;exact⟨Bnl _ this.1,this.2⟩
  ·have:=Od h;exact⟨Bnl _ this.1,this.2⟩
def B7s{a:Nat}{l:A6 Nat}(hw:inl a l=false):a∉l:=by intro hm;rw[(E7 _ _).2 hm]at hw;cases hw
theorem Aau{s:Ak}{ns:A6 Nat}:∀ {l:A6 Tmp},A5q s ns l=true→∀t∈l,t∉s.wl∧∃x,lk t s.env=some x∧Gs ns x.a=true
 |[],_=>by simp
 |a::r,h=>by
  unfold A5q at h;cases hw:inl a s.wl with
  |true=>simp[hw]at h
  |false =>
   simp only[hw,Bnc]at h;split at h
   ·rename_i x hx;cases hf:Gs ns x.a with
    |false=>simp[hf]at h
    |true =>
     simp only[hf,Bna]at h;intro t ht;rcases Bnd.1 ht with rfl|ht
     ·exact⟨B7s hw,x,hx,hf⟩
     ·exact Aau h t ht
   ·cases h
theorem A7f{s:Ak}{ns:A6 Nat}:∀ {l:A6 Nat},A06 s ns l=true→∀t∈l,t∉s.ol∧∃x,lk t s.objs=some x∧Yi ns x=true
 |[],_=>by simp
 |a::r,h=>by
  unfold A06 at h;cases hw:inl a s.ol with
  |true=>simp[hw]at h
  |false =>
   simp only[hw,Bnc]at h;split at h
   ·rename_i x hx;cases hf:Yi ns x with
    |false=>simp[hf]at h
    |true =>
     simp only[hf,Bna]at h;intro t ht;rcases Bnd.1 ht with rfl|ht
     ·exact⟨B7s hw,x,hx,hf⟩
     ·exact A7f h t ht
   ·cases h
theorem Nb:∀ {τ:Lab} {m:Nat},m∈Le τ↔∃n,(n,some m)∈τ
 |[],m=>by simp[Le]
 |(n,some k)::r,m=>by
  simp only[Le,Bnd,Nb (τ:=r),Bo2,Bnf];constructor
  ·rintro (rfl|⟨n',h⟩)
   ·exact⟨n,.inl ⟨rfl,rfl⟩⟩
   ·exact⟨n',.inr h⟩
  ·rintro ⟨n',⟨rfl,rfl⟩|h⟩
   ·exact .inl rfl
   ·exact .inr ⟨n',h⟩
 |(n,none)::r,m=>by
  simp only[Le,Bnd,Nb (τ:=r),Bo2,reduceCtorEq,and_false,Bue]
theorem A3w:∀ {τ:Lab} {n n' m:Nat},(Le τ).Nodup→(n,some m)∈τ→(n',some m)∈τ→n=n'
 |[],n,n',m,_,h,_=>by simp at h
 |(a,some k)::r,n,n',m,hnd,h,h'=>by
  simp only[Le,Boi]at hnd;rcases Bnd.1 h with h1|h1<;>rcases Bnd.1 h' with h2|h2
  ·cases h1;cases h2;rfl
  ·cases h1;exact absurd (Nb.2 ⟨n',h2⟩) hnd.1
  ·cases h2;exact absurd (Nb.2 ⟨n,h1⟩) hnd.1
  ·exact A3w hnd.2 h1 h2
 |(a,none)::r,n,n',m,hnd,h,h'=>by
  simp only[Le]at hnd;simp only[Bnd,Bo2,reduceCtorEq,and_false,Bue]at h h';exact A3w hnd h h'
def B58{l:A6 (Nat×XV)}{t:Nat}{x:AV}(h:(Eo l).lookup t=some x):∃y,lk t l=some y∧x=y.a:=by rw[A7v]at h;obtain⟨y,hy,rfl⟩:=Bnn.1 h;exact⟨y,hy,rfl⟩
theorem A1q{env:A6 (Nat×XV)}{objs:A6 (Nat×Af)}:∀ {l:A6 (Tmp×Nat×Ty)} {x:A6p l} {ν:A6 (Nat×Nat)} {t:Nat} {y:XV},K4 env objs l=some (x,ν)→(t,y)∈Vd l x →
  (y = .d (.v (.slice none 0 0))∧lk t env=some y)∨∃(n k:Nat) (ty:Ty) (len:Nat),(n,k)∈ν∧lk t env=some (.os k ty 0 len)∧y = .os n ty 0 len
 |[],x,ν,t,y,h,hm=>by simp[Vd]at hm
 |p::r,x,ν,t,y,h,hm=>by
  unfold K4 at h;split at h
  ·rename_i k ty a len xs τ hv hr;split at h
   ·rename_i tu l hk;split at h
    ·rename_i he;cases h1:ty.Jx p.2.2 with
     |false=>simp[h1]at h
     |true =>
     cases h2:Nat.beq a 0 with
     |false=>simp[h1,h2]at h
     |true =>
      simp only[h1,h2,Bna,Bnf,Bo2]at h;obtain⟨rfl,rfl⟩:=h;have e1:=Ty.Av h1;have e2:=Bne h2;subst e2;simp only[Vd,Bnd]at hm;rcases hm with hm|hm
      ·cases hm;exact .inr ⟨p.2.1,k,ty,len,Bnm,hv,by rw[e1]⟩
      ·rcases A1q hr hm with h|⟨n,k',Xy,Bl9,h1,h2,h3⟩
       ·exact .inl h
       ·exact .inr ⟨n,k',Xy,Bl9,Bnl _ h1,h2,h3⟩
    ·cases h
   ·cases h
  ·rename_i xs τ hv hr;simp only[Bnf,Bo2]at h;obtain⟨rfl,rfl⟩:=h;simp only[Vd,Bnd]at hm;rcases hm with hm|hm
   ·cases hm;exact .inl ⟨rfl,hv⟩
   ·exact A1q hr hm
  ·cases h
theorem Yk{env:A6 (Nat×XV)}{objs:A6 (Nat×Af)}:∀ {l:A6 (Tmp×Nat×Ty)} {x:A6p l} {ν:A6 (Nat×Nat)} {n k:Nat},K4 env objs l=some (x,ν)→(n,k)∈ν→∃y,lk k objs=some y
 |[],x,ν,n,k,h,hm=>by
  simp only[K4,Bnf,Bo2]at h;obtain⟨_,rfl⟩:=h;cases hm
 |p::r,x,ν,n,k,h,hm=>by
  unfold K4 at h;split at h
  ·rename_i k' ty a len xs τ hv hr;split at h
   ·rename_i tu l hk;split at h
    ·rename_i he;cases h1:ty.Jx p.2.2 with
     |false=>simp[h1]at h
     |true =>
     cases h2:Nat.beq a 0 with
     |false=>simp[h1,h2]at h
     |true =>
      simp only[h1,h2,Bna,Bnf,Bo2]at h;obtain⟨rfl,rfl⟩:=h;rcases Bnd.1 hm with hm|hm
      ·cases hm;exact⟨_,hk⟩
      ·exact Yk hr hm
    ·cases h
   ·cases h
  ·rename_i xs τ hv hr;simp only[Bnf,Bo2]at h;obtain⟨rfl,rfl⟩:=h;exact Yk hr hm
  ·cases h
theorem A1r{env:A6 (Nat×XV)}{objs:A6 (Nat×Af)}:∀ {l:A6 (Tmp×Nat×Ty)} {x:A6p l} {ν:A6 (Nat×Nat)} {n:Nat} {y:Af},K4 env objs l=some (x,ν)→(n,y)∈T9 l x →
  ∃k,(n,k)∈ν∧lk k objs=some y
 |[],x,ν,t,y,h,hm=>by simp[T9]at hm
 |p::r,x,ν,t,y,h,hm=>by
  unfold K4 at h;split at h
  ·rename_i k ty a len xs τ hv hr;split at h
   ·rename_i tu l hk;split at h
    ·rename_i he;cases h1:ty.Jx p.2.2 with
     |false=>simp[h1]at h
     |true =>
     cases h2:Nat.beq a 0 with
     |false=>simp[h1,h2]at h
     |true =>
      simp only[h1,h2,Bna,Bnf,Bo2]at h;obtain⟨rfl,rfl⟩:=h;simp only[T9,Bnd]at hm;rcases hm with hm|hm
      ·cases hm;refine⟨k,Bnm,?_⟩;rw[hk];have e0:=Ty.Av he;obtain⟨a1,a2,a3⟩:=p;simp only at he e0⊢;subst e0;rfl
      ·obtain⟨k',h1,h2⟩:=A1r hr hm;exact⟨k',Bnl _ h1,h2⟩
    ·cases h
   ·cases h
  ·rename_i xs τ hv hr;simp only[Bnf,Bo2]at h;obtain⟨rfl,rfl⟩:=h;exact A1r hr hm
  ·cases h
theorem Ta{env:A6 (Nat×XV)}{objs:A6 (Nat×Af)}:∀ {l:A6 (Tmp×Nat×Ty)} {x:A6p l} {ν:A6 (Nat×Nat)},K4 env objs l=some (x,ν)→∀p∈ν,p.1∈ownNames l
 |[],x,ν,h=>by simp[K4]at h;simp[h]
 |p::r,x,ν,h=>by
  unfold K4 at h;split at h
  ·rename_i k ty a len xs τ hv hr;split at h
   ·split at h
    ·cases h1:ty.Jx p.2.2 with
     |false=>simp[h1]at h
     |true =>
     cases h2:Nat.beq a 0 with
     |false=>simp[h1,h2]at h
     |true =>
      simp only[h1,h2,Bna,Bnf,Bo2]at h;obtain⟨rfl,rfl⟩:=h;intro q hq;rcases Bnd.1 hq with rfl|hq
      ·exact Bnm
      ·exact Bnl _ (Ta hr q hq)
    ·cases h
   ·cases h
  ·rename_i xs τ hv hr;simp only[Bnf,Bo2]at h;obtain⟨rfl,rfl⟩:=h;intro q hq;exact Bnl _ (Ta hr q hq)
  ·cases h
theorem Z6{env:A6 (Nat×XV)}{objs:A6 (Nat×Af)}:∀ {l:A6 (Tmp×Nat×Ty)} {x:A6p l} {ν:A6 (Nat×Nat)},K4 env objs l=some (x,ν)→(ownNames l).Nodup→(ν.map (·.1)).Nodup
 |[],x,ν,h,_=>by simp[K4]at h;simp[h]
 |p::r,x,ν,h,hnd=>by
  simp only[ownNames,Boi]at hnd;unfold K4 at h;split at h
  ·rename_i k ty a len xs τ hv hr;split at h
   ·split at h
    ·cases h1:ty.Jx p.2.2 with
     |false=>simp[h1]at h
     |true =>
     cases h2:Nat.beq a 0 with
     |false=>simp[h1,h2]at h
     |true =>simp only[h1,h2,Bna,Bnf,Bo2]at h;obtain⟨rfl,rfl⟩:=h;simp only[Bnh,Boi];refine⟨fun hm=>?_,Z6 hr hnd.2⟩;obtain⟨q,hq,he⟩:=Bnp.1 hm;exact hnd.1 (he▸Ta hr q hq)
    ·cases h
   ·cases h
  ·rename_i xs τ hv hr;simp only[Bnf,Bo2]at h;obtain⟨rfl,rfl⟩:=h;exact Z6 hr hnd.2
  ·cases h
theorem A1s{objs:A6 (Nat×Af)}:∀ {l:A6 (Nat×OK)} {x:Af8 l} {k:Nat} {y:Af},A3t objs l=some x→(k,y)∈Mn l x→lk k objs=some y∧k∈Fm l
 |[],x,k,y,h,hm=>by simp[Mn]at hm
 |p::r,x,k,y,h,hm=>by
  unfold A3t at h;split at h
  ·rename_i o xs hk hr;split at h
   ·rename_i z he;cases h;simp only[Mn,Bnd]at hm;rcases hm with hm|hm
    ·cases hm;refine⟨?_,Bnm⟩;rw[hk,OK.Ara he]
    ·obtain⟨h1,h2⟩:=A1s hr hm;exact⟨h1,Bnl _ h2⟩
   ·cases h
  ·cases h
def A5s{a b:A6 Nat}(h:(a++b).Nodup):a.Nodup∧b.Nodup∧∀x∈a,x∉b:=by rw[Brb]at h;exact⟨h.1,h.2.1,fun x hx hb=>h.2.2 x hx x hb rfl⟩
theorem Nc:∀ {l:A6 (Tmp×Nat×Ty)} {x:A6p l} {n:Nat} {y:Af},(n,y)∈T9 l x→n∈ownNames l∧∃t u,y = .arr t u
 |[],x,n,y,h=>by simp[T9]at h
 |p::r,x,n,y,h=>by
  unfold T9 at h;split at h
  ·exact⟨Bnl _ (Nc h).1,(Nc h).2⟩
  ·rcases Bnd.1 h with h|h
   ·cases h;exact⟨Bnm,_,_,rfl⟩
   ·exact⟨Bnl _ (Nc h).1,(Nc h).2⟩
theorem Aav{ns:A6 Nat}:∀ {l:A6 (Nat×OK)} {x:Af8 l} {n:Nat} {y:Af},A1m ns l=true→(n,y)∈Mn l x→Fk ns y.o=true
 |[],x,n,y,ho,h=>by simp[Mn]at h
 |(q,ok)::r,x,n,y,ho,h=>by
  have ho':ok.okp ns=true∧A1m ns r=true:=by
   simp only[A1m]at ho;cases hx:ok.okp ns with
   |false=>simp[hx]at ho
   |true=>simp only[hx,Bna]at ho;exact⟨rfl,ho⟩
  unfold Mn at h;rcases Bnd.1 h with h|h
  ·cases h;cases ok with
   |arr t=>exact A39 _ _ _
   |Kn m =>
    have h1:=ho'.1;simp only[OK.okp]at h1;show(!ns.contains m)=true;cases hc:ns.contains m with
    |false=>rfl
    |true=>rw[(E7 m ns).2 (Boq.1 hc)]at h1;cases h1
   |Cx m k v =>
    have h1:=ho'.1;simp only[OK.okp]at h1;show(!ns.contains m)=true;cases hc:ns.contains m with
    |false=>rfl
    |true=>rw[(E7 m ns).2 (Boq.1 hc)]at h1;cases h1
   |abs h' S ty=>exact S.La ho'.1 _ _ _
   |_=>rfl
  ·exact Aav ho'.2 h
theorem Aaw{ns:A6 Nat}:∀ {l:A6 (Nat×OK)} {x:Af8 l} {n:Nat} {y:Af},A1m ns l=true→(n,y)∈Mn l x→∀p∈y.C7,Xz ns=true∧Fk ns p.2=true
 |[],x,n,y,ho,h=>by simp[Mn]at h
 |(q,ok)::r,x,n,y,ho,h=>by
  obtain⟨h1,h2⟩:=Ap (a:=ok.okp ns) (b:=A1m ns r) ho;unfold Mn at h;rcases Bnd.1 h with h|h
  ·cases h;cases ok with
   |abs h' S ty=>exact fun p hp=>⟨h1,S.O6 h1 _ _ _ p hp⟩
   |_=>intro p hp;cases hp
  ·exact Aaw h2 h
theorem Z7:∀(l:A6 (Nat×OK)) (x:Af8 l),(Mn l x).map (·.1)=Fm l
 |[],x=>rfl
 |p::r,x=>by simp only[Mn,Bnh,Fm,Z7 r]
theorem A7g:∀(l:A6 (Nat×A6 VK×A7 TypeId)) (y:Af7 l),(Re l y).map (·.1)=l.map (·.1)
 |[],y=>rfl
 |p::r,y=>by simp only[Re,Bnh,A7g r]
def Aiz{α:Type}{ν:A6 (Nat×Nat)}{x:A7 α}{y:α}(h:B2g c ν x=some y):(ownNames c.own).Nodup∧(∀k∈ownNames c.own,k∉c.others)∧(ν.map (·.2)).Nodup∧(∀k∈ν.map (·.2),k∉c.others) ∧
  (∀k∈ownNames c.own,1000≤k)∧(∀k∈c.Ej,k∉ownNames c.own)∧A3u (ownNames c.own) c.vars=true∧A3v (ownNames c.own) c.objs=true∧A1m (c.Ej++ownNames c.own) c.Rc=true∧x=some y:=by
 unfold B2g at h;cases h1:I7 (ownNames c.own) with
 |false=>simp[h1]at h
 |true =>
 cases h2:apart (ownNames c.own) c.others with
 |false=>simp[h1,h2]at h
 |true =>
 cases h3:I7 (ν.map (·.2)) with
 |false=>simp[h1,h2,h3]at h
 |true =>
 cases h4:apart (ν.map (·.2)) c.others with
 |false=>simp[h1,h2,h3,h4]at h
 |true =>
 cases h5:(ownNames c.own).all (Nat.ble 1000) with
 |false=>simp only[h1,h2,h3,h4,h5,Bna,Bnc]at h;cases h
 |true =>
 cases h6:apart c.Ej (ownNames c.own) with
 |false=>simp only[h1,h2,h3,h4,h5,h6,Bna,Bnc]at h;cases h
 |true =>
 cases h7:A3u (ownNames c.own) c.vars with
 |false=>simp only[h1,h2,h3,h4,h5,h6,h7,Bna,Bnc]at h;cases h
 |true =>
 cases h8:A3v (ownNames c.own) c.objs with
 |false=>simp only[h1,h2,h3,h4,h5,h6,h7,h8,Bna,Bnc]at h;cases h
 |true =>
 cases h9:A1m (c.Ej++ownNames c.own) c.Rc with
 |false=>simp only[h1,h2,h3,h4,h5,h6,h7,h8,h9,Bna,Bnc]at h;cases h
 |true =>simp only[h1,h2,h3,h4,h5,h6,h7,h8,h9,Bna]at h;exact⟨D1 h1,apart_spec h2,D1 h3,apart_spec h4,fun k hk=>Bnu (Bok.1 h5 k hk),apart_spec h6,rfl,rfl,rfl,h⟩
def Anl{x:c.T}(h:proj nm kl c s=some x):∃(σ τ0:Lab) (ν:A6 (Nat×Nat)),Tq s.env c.vars=some (x.1,σ)∧Tr s.objs c.objs=some (x.2.1,τ0) ∧
  K4 s.env s.objs c.own=some (x.2.2.1,ν)∧A3t s.objs c.Rc=some x.2.2.2∧A5q s (c.Ej++ownNames c.own) c.Yg=true∧A06 s (c.Ej++ownNames c.own) c.Pj=true ∧
  (∀n∈Le (σ++τ0)++kl,n∈s.live)∧(Le (σ++τ0)++kl).Nodup∧(c.Ej++kl).Nodup∧(∀k∈nm,k∈c.others)∧(∀t∈c.Yg,t∉slotsOf c.vars++M7 c.own) ∧
  (∀k∈c.Pj,k∉Ir c.objs++(ownNames c.own++Fm c.Rc))∧B2g c ν (some x)=some x∧Pe s.objs=true:=by
 unfold proj at h;split at h
 ·rename_i x1 σ y1 τ0 u1 ν v1 hx hy hu hv;cases h1:A5q s (c.Ej++ownNames c.own) c.Yg with
  |false=>simp[h1]at h
  |true =>
  cases h2:A06 s (c.Ej++ownNames c.own) c.Pj with
  |false=>simp[h1,h2]at h
  |true =>
  cases h3:Am5 (Le (σ++τ0)++kl) s.live with
  |false=>simp only[h1,h2,h3,Bna,Bnc]at h;cases h
  |true =>
  cases h4:I7 (Le (σ++τ0)++kl) with
  |false=>simp only[h1,h2,h3,h4,Bna,Bnc]at h;cases h
  |true =>
  cases h5:I7 (c.Ej++kl) with
  |false=>simp only[h1,h2,h3,h4,h5,Bna,Bnc]at h;cases h
  |true =>
  cases h60:cond (Am5 nm c.others) (Pe s.objs) false with
  |false=>simp only[h1,h2,h3,h4,h5,h60,Bna,Bnc]at h;cases h
  |true =>
  obtain⟨h6,h61⟩:=Ap h60;cases h7:apart c.Yg (slotsOf c.vars++M7 c.own) with
  |false=>simp only[h1,h2,h3,h4,h5,h60,h7,Bna,Bnc]at h;cases h
  |true =>
  cases h8:apart c.Pj (Ir c.objs++(ownNames c.own++Fm c.Rc)) with
  |false=>simp only[h1,h2,h3,h4,h5,h60,h7,h8,Bna,Bnc]at h;cases h
  |true =>simp only[h1,h2,h3,h4,h5,h60,h7,h8,Bna]at h;have h9:=(Aiz h).2.2.2.2.2.2.2.2.2;cases h9;exact⟨σ,τ0,ν,hx,hy,hu,hv,rfl,rfl,W0 h3,D1 h4,D1 h5,W0 h6,apart_spec h7,apart_spec h8,h,h61⟩
 ·cases h
def RA.Avg{k' len sz:Nat}{v:Value}(h:RA g w (.osl k off len sz) v)(hk:g'.ρ k'=g.ρ k):RA g' w (.osl k' off len sz) v:=by
 cases h with
 |nm _ _ _ h=>exact .nm _ _ _ (by rw[hk];exact h)
def W4{x:c.T}(h:proj nm (Wr s0 c) c s=some x)(hi1:∀t∈c.Yg,∀x,t∉s.wl→lk t s.env=some x→lk t s0.env=some x)
  (hi2:∀k∈c.Pj,∀x,k∉s.ol→lk k s.objs=some x→lk k s0.objs=some x)  {B:B8}   {a:Act} (hs:SR S B g w s.im a)
  (Uv:S.names=nm):∃g',SR S B g' w (gen s0 c x).im a:=by
 generalize I1:Wr s0 c=kl at h;obtain⟨σ,τ0,ν,hx,hy,hu,hv,h1,h2,l3,l4,l5,l6,l7,l8,Biz,Bj0⟩:=Anl h;obtain⟨w1,w2,w3,w4,w5,w6,w7,w8,w9,-⟩:=Aiz Biz;generalize hτ:σ++τ0=τ at l3 l4;have k1:=Aau h1;have k2:=A7f h2;obtain⟨n4a,n4b,n4c⟩:=A5s l4;obtain⟨n5a,n5b,n5c⟩:=A5s l5;have B99:τ.map (·.1)=c.Ej:=by rw[← hτ,Bo4,A7d hx,A7e hy];rfl
 have Bla:=Z6 hu w1;have Blb:=Ta hu;have hr:=hs.hr;let g':=Biy g τ kl ν;have hβ:∀n,g'.β n=cond (inl n kl) (g.β n) (match lk n τ with|some (some m)=>g.β m|some none=>some none|none=>none):=fun n=>rfl
 have hρ:∀k,k∉ownNames c.own→g'.ρ k=g.ρ k:=by
  intro k hk;show(match lk k ν with|some k=>g.ρ k|none=>g.ρ k)=g.ρ k;cases hl:lk k ν with
  |none=>rfl
  |some z=>exact absurd (Blb _ (Gg hl)) hk
 have Bev:∀n k,(n,k)∈ν→g'.ρ n=g.ρ k:=by intro n k hm;show(match lk n ν with|some k=>g.ρ k|none=>g.ρ n)=g.ρ k;rw[Adi Bla hm]
 have βkeep:∀n,n∈kl→g'.β n=g.β n:=by intro n hn;rw[hβ,(E7 _ _).2 hn];rfl
 have βnew:∀n m,(n,some m)∈τ→g'.β n=g.β m:=by
  intro n m hm;have hn:n∈c.Ej:=by rw[← B99];exact Bnr (f:=(·.1)) hm
  have hk:inl n kl=false:=by
   cases hh:inl n kl with
   |false=>rfl
   |true=>exact absurd ((E7 _ _).1 hh) (n5c n hn)
  rw[hβ,hk,Adi (by rw[B99];exact n5a) hm];rfl
 have βother:∀n,n∉c.Ej→n∉kl→g'.β n=none:=by
  intro n hn hk;have M1:inl n kl=false:=by
   cases hh:inl n kl with
   |false=>rfl
   |true=>exact absurd ((E7 _ _).1 hh) hk
  rw[hβ,M1];cases hl:lk n τ with
  |none=>rfl
  |some z=>exact absurd (by rw[← B99];exact Bnr (f:=(·.1)) (Gg hl)) hn
 have βsrc:∀n b,g'.β n=some (some b)→(n∈kl∧g.β n=some (some b))∨∃m,(n,some m)∈τ∧g.β m=some (some b):=by
  intro n b hb;by_cases hk:n∈kl
  ·exact .inl ⟨hk,by rw[← βkeep n hk];exact hb⟩
  ·by_cases hn:n∈c.Ej
   ·rw[← B99]at hn;obtain⟨z,hz⟩:=Adh hn;cases z with
    |some m=>exact .inr ⟨m,Gg hz,by rw[← βnew n m (Gg hz)];exact hb⟩
    |none =>
     have M1:inl n kl=false:=by
      cases hh:inl n kl with
      |false=>rfl
      |true=>exact absurd ((E7 _ _).1 hh) hk
     rw[hβ,M1,hz]at hb;simp at hb
   ·rw[βother n hn hk]at hb;cases hb
 have hη:∀n,g'.η n=cond (inl n kl) (g.η n) (fun _=>none):=fun n=>rfl
 have ηkeep:∀n,n∈kl→g'.η n=g.η n:=by intro n hn;rw[hη,(E7 _ _).2 hn];rfl
 have ηoff:∀n,n∉kl→∀i,g'.η n i=none:=by
  intro n hn i;rw[hη];cases hh:inl n kl with
  |false=>rfl
  |true=>exact absurd ((E7 _ _).1 hh) hn
 have ht:Trans (c.Ej++ownNames c.own) g w g' w:=by
  refine⟨.refl _ _,fun k hk=>hρ k fun hm=>hk (Bnz _ hm),fun n ob hn he=>?_,fun L hL he=>?_⟩
  ·by_cases hk:n∈kl
   ·exact⟨by rw[← βkeep n hk];exact he,fun _ _=>⟨rfl,rfl⟩⟩
   ·rw[βother n (fun hm=>hn (Bo0 _ hm)) hk]at he;cases he
  ·by_cases hk:L∈kl
   ·exact⟨ηkeep L hk,fun _ _ _=>⟨rfl,rfl⟩⟩
   ·rw[βother L (fun hm=>hL (Bo0 _ hm)) hk]at he;cases he
 have hσ:∀n m,(n,some m)∈τ→∀ob,g'.β n=some ob→g.β m=some ob:=fun n m hm ob he=>by rw[← βnew n m hm];exact he
 have Ard:∀k,k∈c.others→k∉ownNames c.own:=fun k hk hm=>w2 k hm hk
 have A2k:∀k o,(Aa (gen s0 c x).objs).lookup k=some o→∃k0 p,s.im.X.objs.lookup k0=some p∧g'.ρ k=g.ρ k0∧Ce g' w (g.ρ k0) o∧((k,k0)∈ν∨(k0=k∧k∈c.others)∨(k0=k∧H0≤k∧∀j y,lk j s.objs=some y→j<H0)):=by
  intro k o hk;rcases A3c hk with ⟨y,hyl,rfl⟩|⟨⟨q,y⟩,hq,ho⟩
  rotate_left
  ·have hge:H0≤k:=Af.O5 (G4 ho);have src:lk q s.objs=some y∧∀p∈y.C7,Xz (c.Ej++ownNames c.own)=true∧Fk (c.Ej++ownNames c.own) p.2=true:=by
    rcases Bnk.1 hq with hm|hm
    ·obtain⟨vs,cs,ty,u,σ',e1,e2,rfl,e4,e5,e6⟩:=A1p hy hm;cases ho
    ·rcases Bnk.1 hm with hm|hm
     ·obtain⟨_,t,u,rfl⟩:=Nc hm;cases ho
     ·rcases Bnk.1 hm with hm|hm
      ·obtain⟨q1,q2⟩:=A1s hv hm;exact⟨q1,Aaw w9 hm⟩
      ·obtain⟨hk1,hk2⟩:=Od hm;obtain⟨q1,z,q2,q3⟩:=k2 q hk1;have:=hi2 q hk1 z q1 q2;rw[hk2]at this;cases this;exact⟨q2,Arc q3⟩
   have hl:s.im.X.objs.lookup k=some o:=Acm Bj0 (Gg src.1) ho;have Are:∀j y,lk j s.objs=some y→j<H0:=by
    rcases Lb Bj0 with e|e
    ·rw[Af.Hg (H9 e _ (Gg src.1))]at ho;cases ho
    ·intro j y' hj;exact e.2 _ (Gg hj)
   have hno:k∉ownNames c.own:=by intro A9m;have:=R6 (src.2 _ (G4 ho)).1 k (Bnz _ A9m);omega
   exact⟨k,_,hl,hρ k hno,(hr.objs k _ hl).Cc ht rfl (.inr (src.2 _ (G4 ho)).2),.inr (.inr ⟨rfl,hge,Are⟩)⟩
  have hm:=Gg hyl;rcases Bnk.1 hm with hm|hm
  ·obtain⟨vs,cs,ty,u,σ',e1,e2,rfl,e4,e5,e6⟩:=A1p hy hm;have A33:k∈c.others:=Bo0 _ (Bo0 _ e5);refine⟨k,_,Aui e1,hρ k (Ard k A33),?_,.inr (.inl ⟨rfl,A33⟩)⟩;have:=hr.objs k _ (Aui e1);cases this with
   |cells _ _ arr T r1 r2 r3 r4 =>
    have pc:=Lf (g:=g) (g':=g') (w:=w) (ns:=ownNames c.own) (vs:=arr.toList) rfl hρ (e6 _ w8) e2 (fun n m hm=>hσ n m (by rw[← hτ];exact Bnz _ (e4 _ hm))) (by
     intro i x v hx hv;exact r3 i x.a v (by rw[M5,hx];rfl) (by simpa using hv))
    refine .cells _ _ arr T r1 (by rw[Aq,pc.2,← Aq];exact r2) ?_ r4;intro i x v hx hv;rw[M5,Bnn]at hx;obtain⟨z,hz,rfl⟩:=hx;exact pc.1 i z v hz (by simpa using hv)
  ·rcases Bnk.1 hm with hm|hm
   ·obtain⟨k0,q1,q2⟩:=A1r hu hm;obtain⟨_,t,u,rfl⟩:=Nc hm;exact⟨k0,_,Q1 q2,Bev _ _ q1,(hr.objs k0 _ (Q1 q2)).Cc ht rfl (.inr (A39 _ _ _)),.inl q1⟩
   ·rcases Bnk.1 hm with hm|hm
    ·obtain⟨q1,q2⟩:=A1s hv hm;have A33:k∈c.others:=Bo0 _ (Bnz _ q2);exact⟨k,_,Q1 q1,hρ k (Ard k A33),(hr.objs k _ (Q1 q1)).Cc ht rfl (.inr (Aav w9 hm)),.inr (.inl ⟨rfl,A33⟩)⟩
    ·obtain⟨hk1,hk2⟩:=Od hm;obtain⟨q1,z,q2,q3⟩:=k2 k hk1;have:=hi2 k hk1 z q1 q2;rw[hk2]at this;cases this;have hl:s.im.X.objs.lookup k=some y.o:=by show(Aa s.objs).lookup k=_;exact Lc q2
     have A33:k∈c.others:=Bnz _ hk1;exact⟨k,_,hl,hρ k (Ard k A33),(hr.objs k _ hl).Cc ht rfl (.inr (Aiw q3)),.inr (.inl ⟨rfl,A33⟩)⟩
 refine⟨g',hs.defers,hs.size,?_,?_⟩
 ·refine⟨?_,hr.Iw,hr.base,hr.io,hr.le,hr.frame,?_,?_,?_,?_,?_,?_,?_,?_,?_,hr.eta.Ati (fun L hL=>?_) (Bno _) (fun n b hn=>?_) (fun k o hk=>?_)⟩
  rotate_right 3
  ·by_cases hk:L∈kl
   ·exact .inl ⟨by rw[← βkeep L hk];exact hL,ηkeep L hk⟩
   ·exact .inr (ηoff L hk)
  ·rcases βsrc n b hn with ⟨a1,a2⟩|⟨m,a1,a2⟩
   ·exact hr.eta.B76 a2
   ·exact hr.eta.B76 a2
  ·obtain⟨k0,p,hp,he,_⟩:=A2k k o hk;rw[he];exact hr.eta.B77 hp
  ·intro k hk;have M1:=l6 k (Uv▸hk);refine⟨(hρ k (Ard k M1)).trans (hr.Cc k hk).1,?_⟩;show((Aa (gen s0 c x).objs).lookup k).isSome=true;have key:k∈(gen s0 c x).objs.map (·.1):=by
    unfold gen;simp only[Bo4,A7g,Z7,Bnk];unfold Cut.others at M1;simp only[Bnk]at M1;rcases M1 with (hm|hm)|hm
    ·exact .inl hm
    ·exact .inr (.inr (.inl hm))
    ·refine .inr (.inr (.inr ?_));obtain⟨q1,z,q2,q3⟩:=k2 k hm;have hz:=hi2 k hm z q1 q2;have:∀(l:A6 Nat),k∈l→k∈(N9 s0.objs l).map (·.1):=by
      intro l;induction l with
      |nil=>simp
      |cons j r ih =>
       intro hj;unfold N9;rcases Bnd.1 hj with rfl|hj
       ·rw[hz];exact Bnm
       ·split
        ·exact Bnl _ (ih hj)
        ·exact ih hj
     exact this _ hm
   obtain⟨z,hz⟩:=Adh key;rw[Q1 hz];rfl
  ·intro k o hk;obtain⟨k0,p,hp,he,ho,_⟩:=A2k k o hk;rw[he];exact ho
  ·intro k o hk;obtain⟨k0,p,hp,he,_⟩:=A2k k o hk;show g.γ (g'.ρ k)=0;rw[he];exact hr.Fi k0 p hp
  ·intro k k' o o' hk M1 he;obtain⟨k0,p,hp,e1,_,d1⟩:=A2k k o hk;obtain⟨k0',q,hq,e2,_,d2⟩:=A2k k' o' M1;have he':g.ρ k0=g.ρ k0':=by rw[← e1,← e2];exact he
   have:=hr.C1 k0 k0' p q hp hq he';subst this;rcases d1 with d1|⟨d1,d1'⟩|⟨d1,d1',Blc⟩<;>rcases d2 with d2|⟨d2,d2'⟩|⟨d2,d2',Bld⟩
   ·have inj:∀(ν:A6 (Nat×Nat)),(ν.map (·.2)).Nodup→(k,k0)∈ν→(k',k0)∈ν→k=k':=by
     intro ν;induction ν with
     |nil=>intro _ h;simp at h
     |cons p r ih =>
      intro hnd h h';simp only[Bnh,Boi]at hnd;rcases Bnd.1 h with z|z<;>rcases Bnd.1 h' with z'|z'
      ·subst z;cases z';rfl
      ·subst z;exact absurd (Bnp.2 ⟨_,z',rfl⟩) hnd.1
      ·subst z';exact absurd (Bnp.2 ⟨_,z,rfl⟩) hnd.1
      ·exact ih hnd.2 z z'
    exact inj ν w3 d1 d2
   ·subst d2;exact absurd d2' (w4 _ (Bnr (f:=(·.2)) d1))
   ·subst d2;obtain⟨y,hy⟩:=Yk hu d1;have:=Bld _ _ hy;omega
   ·subst d1;exact absurd d1' (w4 _ (Bnr (f:=(·.2)) d2))
   ·exact d1.symm.trans d2
   ·exact d1.symm.trans d2
   ·subst d1;obtain⟨y,hy⟩:=Yk hu d2;have:=Blc _ _ hy;omega
   ·exact d1.symm.trans d2
   ·exact d1.symm.trans d2
  ·intro k o hk;obtain⟨k0,p,hp,he,_⟩:=A2k k o hk;show B.n0≤g'.ρ k∨B.allowed (g'.ρ k);rw[he];exact hr.Cf k0 p hp
  ·intro n;show n∈c.Ej++Wr s0 c↔_;rw[I1];rw[Bnk];constructor
   ·rintro (hn|hn)
    ·have Th:=hn;rw[← B99]at Th;obtain⟨z,hz⟩:=Adh Th;cases z with
     |some m =>rw[βnew n m (Gg hz)];exact(hr.live m).1 (l3 m (Bo0 _ (Nb.2 ⟨n,Gg hz⟩)))
     |none =>
      have M1:inl n kl=false:=by
       cases hh:inl n kl with
       |false=>rfl
       |true=>exact absurd ((E7 _ _).1 hh) (n5c n hn)
      rw[hβ,M1,hz];rfl
    ·rw[βkeep n hn];exact(hr.live n).1 (l3 n (Bnz _ hn))
   ·intro hn;by_cases hk:n∈kl
    ·exact .inr hk
    ·by_cases hl:n∈c.Ej
     ·exact .inl hl
     ·rw[βother n hl hk]at hn;cases hn
  ·intro n m b hn hm;rcases βsrc n b hn with ⟨a1,a2⟩|⟨p,a1,a2⟩<;>rcases βsrc m b hm with ⟨b1,b2⟩|⟨q,b1,b2⟩
   ·exact hr.Cq n m b a2 b2
   ·have:=hr.Cq n q b a2 b2;subst this;exact absurd a1 (n4c n (Nb.2 ⟨m,b1⟩))
   ·have:=hr.Cq p m b a2 b2;subst this;exact absurd b1 (n4c p (Nb.2 ⟨n,a1⟩))
   ·have:=hr.Cq p q b a2 b2;subst this;exact A3w n4a a1 b1
  ·intro n b k o hn hk;obtain⟨k0,p,hp,he,_⟩:=A2k k o hk;rw[he];rcases βsrc n b hn with ⟨a1,a2⟩|⟨m,a1,a2⟩
   ·exact hr.Bz n b k0 p a2 hp
   ·exact hr.Bz m b k0 p a2 hp
  ·intro n b hn;rcases βsrc n b hn with ⟨a1,a2⟩|⟨m,a1,a2⟩
   ·exact hr.D0 n b a2
   ·exact hr.D0 m b a2
  ·intro n b hn;rcases βsrc n b hn with ⟨a1,a2⟩|⟨m,a1,a2⟩
   ·exact hr.D9 n b a2
   ·exact hr.D9 m b a2
 ·intro t y hty;obtain⟨z,hz,rfl⟩:=B58 hty;rcases Bnk.1 (Gg hz)with hm|hm
  ·obtain⟨v,z0,u,σ',e1,e2,rfl,e4,e5⟩:=Aat hx hm;obtain⟨val,hv,Xt⟩:=hs.env t z0.a (Pw e1);exact⟨val,hv,VK.A5r (g:=g) (g':=g') (w:=w) (ns:=ownNames c.own) e2 rfl hρ (e5 _ w7) (fun n m hm=>hσ n m (by rw[← hτ];exact Bo0 _ (e4 _ hm))) Xt⟩
  ·rcases Bnk.1 hm with hm|hm
   ·rcases A1q hu hm with ⟨rfl,e1⟩|⟨n,k,ty,len,e1,e2,rfl⟩
    ·obtain⟨val,hv,Xt⟩:=hs.env t _ (Pw e1);exact⟨val,hv,Xt.mono ht (.d _)⟩
    ·obtain⟨val,hv,Xt⟩:=hs.env t _ (Pw e2);exact⟨val,hv,RA.Avg Xt (Bev _ _ e1)⟩
   ·obtain⟨hk1,hk2⟩:=Yj hm;obtain⟨q1,z1,q2,q3⟩:=k1 t hk1;have:=hi1 t hk1 z1 q1 q2;rw[hk2]at this;cases this;obtain⟨val,hv,Xt⟩:=hs.env t z.a (Pw q2);exact⟨val,hv,Xt.mono ht (Qz q3)⟩
def Azt{x:c.T}(h:proj nm kl c s=some x):(∀t∈c.Yg,t∉slotsOf c.vars++M7 c.own)∧∀k∈c.Pj,k∉Ir c.objs++(ownNames c.own++Fm c.Rc):=by obtain⟨σ,τ0,ν,hx,hy,hu,hv,h1,h2,l3,l4,l5,l6,l7,l8,Biz⟩:=Anl h;exact⟨l7,l8⟩
inductive An where
 |lf
 |seq (a b:An)
 |join (c:Cut) (a b:An)
 |cond (a b:An)
 |blk (a:An)
 |loop (c:Cut) (a:An)
 |stop
 |fg (a b:An)
 |fz (ts:List Nat) (a b:An)
 |alt (c:Cut) (a:An) (r:An)
 |rnd (a:An) (r:An)
 |sel (k:Nat) (a b:An)
def An.l:An→An
 |.seq a _=>a
 |.cond a _=>a
 |.blk a=>a
 |.join _ a _=>a
 |.loop _ a=>a
 |.lf=>.lf
 |.stop=>.lf
 |.fg a _=>a
 |.fz _ a _=>a
 |.alt _ a _=>a
 |.rnd a _=>a
 |.sel _ a _=>a
def An.r:An→An
 |.seq _ b=>b
 |.cond _ b=>b
 |.join _ _ b=>b
 |_=>.lf
def Azu{R:Type}:An→A7 R→A7 R
 |.stop,_=>none
 |_,x=>x
def Afd{R:Type}{an:An}{x:A7 R}{r:R}(h:Azu an x=some r):x=some r:=by cases an<;>first|exact h|cases h
def iter{σ:Type}{R:Type}(f:(σ→A7 R)→σ→A7 R):Nat→σ→A7 R
 |0,_=>none
 |n+1,x=>f (iter f n) x
def Ar{σ:Type}{R:Type}(k:σ→A7 R)(f:(σ→A7 R)→A7 R):A7 R:=f k
def Tb{R:Type}:(l:A6 (Tmp×Nat×Ty))→A6p l→(A6p l→A7 R)→A7 R
 |[],u,K=>K u
 |_::r,u,K=>A9 u.1 (Tb r u.2 fun v=>K (none,v)) (fun y=>Tb r u.2 fun v=>K (some y,v))
theorem Nd{R:Type}:∀(l:A6 (Tmp×Nat×Ty)) (u:A6p l) (K:A6p l→A7 R),Tb l u K=K u
 |[],u,K=>rfl
 |p::r,u,K=>by
  obtain⟨a,v⟩:=u;unfold Tb;cases a with
  |none=>exact Nd r v _
  |some y=>exact Nd r v _
def fzK{R:Type}:A6 Nat→Ak→(Ak→A7 R)→A7 R
 |[],s,K=>K s
 |t::ts,s,K=>match lk t s.env with
  |some (.os k ty a n)=>match lk k s.objs with
   |some (.arr u l)=>cond (u.Jx ty) (cond (Nat.ble 1000 k) (cond (cond (Nat.ble (a+n) l.length) (J0 k s.objs) false)
     (fzK ts ⟨(t,.d (.sl u ((l.drop a).take n)))::s.env,E3 k s.objs,s.live,t::s.wl,k::s.ol⟩ K) none) none) none
   |_=>none
  |_=>fzK ts s K
def B9a(i j:Nat):Bool:=Nat.beq i j
def base(st:Ak):Ak:=⟨st.env,st.objs,st.live,[],[]⟩
def Ux(c:Cut)(st s:Ak):Ak:=⟨s.env,s.objs,s.live,s.wl++((slotsOf c.vars++M7 c.own)++st.wl),s.ol++((Ir c.objs++(ownNames c.own++Fm c.Rc))++st.ol)⟩
def A86(st s:Ak):Ak:=⟨s.env,s.objs,s.live,s.wl++st.wl,s.ol++st.ol⟩
section
variable(P:Program)(Γ:A6 (Ix P))(own nm:A6 Nat)(nt N:Nat){R:Type}
def Jd(f:Ak→A7 R)(K:Exit→Ak→A7 R):Exit→Ak→A7 R
 |.normal,s=>f s
 |e,s=>K e s
def B2j(id:Nat)(K:Exit→Ak→A7 R):Exit→Ak→A7 R
 |.exit j,s=>cond (B9a j id) (K .normal s) (K (.exit j) s)
 |e,s=>K e s
def Rf{α β γ:Type}(x:α ⊕ β)(f:α→γ)(g:β→γ):γ :=
 match x with
 |.inl a=>f a
 |.inr b=>g b
@[reducible] def An.MT:An→Type
 |.alt c _ r=>c.T ⊕ r.MT
 |.loop c _=>c.T
 |_=>Empty
def An.Azj:An→A6 Cut
 |.alt c _ r=>c::r.Azj
 |.loop c _=>[c]
 |_=>[]
def B2k(c:Cut):A6 Cut→Bool
 |[]=>true
 |d::r=>cond (apart c.Yg (slotsOf d.vars++M7 d.own)) (cond (apart c.Pj (Ir d.objs++(ownNames d.own++Fm d.Rc))) (B2k c r) false) false
def Arf(all:A6 Cut):A6 Cut→Bool
 |[]=>true
 |c::r=>cond (B2k c all) (Arf all r) false
def Anm(nm:A6 Nat)(st s:Ak):(an:An)→Option an.MT
 |.alt c _ r=>match proj nm (Wr (base st) c) c s with
  |some z=>some (.inl z)
  |none=>match Anm nm st s r with
   |some z=>some (.inr z)
   |none=>none
 |.loop c _=>proj nm (Wr (base st) c) c s
 |.lf=>none
 |.seq _ _=>none
 |.join _ _ _=>none
 |.cond _ _=>none
 |.blk _=>none
 |.stop=>none
 |.fg _ _=>none
 |.fz _ _ _=>none
 |.rnd _ _=>none
 |.sel _ _ _=>none
def Azv{R:Type}(E:An→Ak→(Exit→Ak→A7 R)→A7 R)(Am6:Ak→A7 R)(st:Ak)(K:Exit→Ak→A7 R):(an:An)→an.MT→A7 R
 |.alt c x r,z=>Rf z (fun z=>Tb c.own z.2.2.1 fun u=>E x (gen (base st) c (z.1,z.2.1,u,z.2.2.2)) (Jd Am6 (fun e s=>K e (Ux c st s)))) (fun z=>Azv E Am6 st K r z)
 |.loop c x,z=>Tb c.own z.2.2.1 fun u=>E x (gen (base st) c (z.1,z.2.1,u,z.2.2.2)) (Jd Am6 (fun e s=>K e (Ux c st s)))
 |.lf,_=>none
 |.seq _ _,_=>none
 |.join _ _ _,_=>none
 |.cond _ _,_=>none
 |.blk _,_=>none
 |.stop,_=>none
 |.fg _ _,_=>none
 |.fz _ _ _,_=>none
 |.rnd _ _,_=>none
 |.sel _ _ _,_=>none
def rounds{R:Type}(E:An→Ak→(Exit→Ak→A7 R)→A7 R)(K:Exit→Ak→A7 R):An→Ak→A7 R
 |.rnd a r,st=>E a st (Jd (fun s=>rounds E K r s) K)
 |.lf,_=>none
 |.seq _ _,_=>none
 |.join _ _ _,_=>none
 |.cond _ _,_=>none
 |.blk _,_=>none
 |.stop,_=>none
 |.fg _ _,_=>none
 |.fz _ _ _,_=>none
 |.loop _ _,_=>none
 |.alt _ _ _,_=>none
 |.sel _ _ _,_=>none
def Blh(k:Nat)(l:A6 (Nat×Af)):Bool:=match lk k l with|some _=>true|none=>false
def Bew(l:A6 (Nat×Af)):An→An
 |.sel k a b=>cond (Blh k l) a b
 |a=>a
def An.Bcz:An→Nat
 |.rnd _ r=>r.Bcz+1
 |_=>0
def Arh(x:Operand)(b:Bool)(st:Ak):Ak :=
 match x with
 |.tmp t=>Kf t b st
 |_=>st
def exec:Code→An→Ak→(Exit→Ak→A7 R)→A7 R
 |.skip,_,st,K=>K .normal st
 |.label _,_,st,K=>K .normal st
 |.exit id,_,st,K=>K (.exit id) st
 |.ret,_,st,K=>K .ret st
 |.region _ ops draw,_,st,K=>A1l P Γ own nt ops draw st.env (K .normal) ops.toList [] st
 |.seq a b,an,st,K =>
  match an with
  |.join c x y =>
   Ar (fun z=>Tb c.own z.2.2.1 fun u=>exec b y (Ux c st (gen (base st) c (z.1,z.2.1,u,z.2.2.2))) K)
    (fun k=>exec a x (base st) (Jd (fun s=>Option.bind (proj nm (Wr (base st) c) c s) k) (fun e s=>K e (A86 st s))))
  |.fg x y=>exec a x st (Jd (fun s=>exec b y (B8x s) K) K)
  |.fz ts x y=>exec a x st (Jd (fun s=>fzK ts s fun s'=>exec b y s' K) K)
  |_=>exec a an.l st (Jd (fun s=>exec b an.r s K) K)
 |.cond c a b,an,st,K =>
  match Bj st c with
  |some (.d (.b v))=>cond v (Azu an.l (exec a an.l (Arh c true st) K)) (Azu an.r (exec b an.r (Arh c false st) K))
  |_=>none
 |.block id c,an,st,K=>exec c an.l st (B2j id K)
 |.loop b,an,st,K =>
  match Bew st.objs an with
  |.rnd x y=>rounds (exec b) K (.rnd x y) st
  |.alt c x r=>cond (Arf (An.alt c x r).Azj (An.alt c x r).Azj) (Option.bind (Anm nm st (base st) (.alt c x r)) (iter (fun rec z=>Azv (exec b) (fun s=>Option.bind (Anm nm st s (.alt c x r)) rec) st K (.alt c x r) z) N)) none
  |.loop c x=>Option.bind (proj nm (Wr (base st) c) c (base st)) (iter (fun rec z=>Tb c.own z.2.2.1 fun u=>exec b x (gen (base st) c (z.1,z.2.1,u,z.2.2.2)) (Jd (fun s=>Option.bind (proj nm (Wr (base st) c) c s) rec) (fun e s=>K e (Ux c st s)))) N)
  |_=>none
 |_,_,_,_=>none
end
section
variable{P:Program}{Γ:A6 (Ix P)}{own nm:A6 Nat}{N:Nat}{R:Type}
def Avh(s0:Ak)(K:Exit→Ak→A7 R)(r:R):Exit→St→Prop:=fun e s=>∃Bw,s=Bw.im∧Inv s0 Bw∧K e Bw=some r
theorem Aax{t:Nat}{y:XV}:∀(l:A6 (Tmp×VK)) (x:Ais l),(t,y)∈Yh l x→t∈slotsOf l
 |[],x,h=>by simp[Yh]at h
 |p::r,x,h=>by
  simp only[Yh,Bnd]at h;simp only[slotsOf,Bnd];rcases h with h|h
  ·cases h;exact .inl rfl
  ·exact .inr (Aax r _ h)
theorem Aay{t:Nat}{y:XV}:∀(l:A6 (Tmp×Nat×Ty)) (x:A6p l),(t,y)∈Vd l x→t∈M7 l
 |[],x,h=>by simp[Vd]at h
 |p::r,x,h=>by
  simp only[Vd,Bnd]at h;simp only[M7,Bnd];rcases h with h|h
  ·cases h;exact .inl rfl
  ·exact .inr (Aay r _ h)
theorem Aaz{k:Nat}{y:Af}:∀(l:A6 (Nat×A6 VK×A7 TypeId)) (x:Af7 l),(k,y)∈Re l x→k∈Ir l
 |[],x,h=>by simp[Re]at h
 |p::r,x,h=>by
  simp only[Re,Bnd]at h;simp only[Ir,Bnd];rcases h with h|h
  ·cases h;exact .inl rfl
  ·exact .inr (Aaz r _ h)
def Azw{x:c.T}{t:Nat}{y:XV}(h:lk t (gen s0 c x).env=some y):t∈slotsOf c.vars++M7 c.own∨lk t s0.env=some y:=by
 rcases Bnk.1 (Gg h)with hm|hm
 ·exact .inl (Bo0 _ (Aax _ _ hm))
 ·rcases Bnk.1 hm with hm|hm
  ·exact .inl (Bnz _ (Aay _ _ hm))
  ·exact .inr (Yj hm).2
def Ari{x:c.T}{t:Nat}{y:Af}(h:lk t (gen s0 c x).objs=some y):t∈Ir c.objs++(ownNames c.own++Fm c.Rc)∨lk t s0.objs=some y:=by
 rcases Bnk.1 (Gg h)with hm|hm
 ·exact .inl (Bo0 _ (Aaz _ _ hm))
 ·rcases Bnk.1 hm with hm|hm
  ·exact .inl (Bnz _ (Bo0 _ (Nc hm).1))
  ·rcases Bnk.1 hm with hm|hm
   ·exact .inl (Bnz _ (Bnz _ (by rw[← Z7];exact Bnr (f:=(·.1)) hm)))
   ·exact .inr (Od hm).2
theorem Inv.Ux{s0 st s:Ak}{c:Cut}{x:c.T}(h:Inv s0 st)(h':Inv (gen (base st) c x) s):Inv s0 (Ux c st s):=by
 refine⟨fun t y ht hy=>?_,fun k y hk hy=>?_⟩
 ·unfold Xl.Ux at ht hy;simp only at ht hy;rw[Bnk,Bnk (s:=slotsOf c.vars++M7 c.own),Brm,Brm]at ht;have h1:=h'.env t y ht.1 hy;rcases Azw h1 with h2|h2
  ·exact absurd h2 ht.2.1
  ·exact h.env t y ht.2.2 h2
 ·unfold Xl.Ux at hk hy;simp only at hk hy;rw[Bnk,Bnk (s:=Ir c.objs++(ownNames c.own++Fm c.Rc)),Brm,Brm]at hk;have h1:=h'.objs k y hk.1 hy;rcases Ari h1 with h2|h2
  ·exact absurd h2 hk.2.1
  ·exact h.objs k y hk.2.2 h2
theorem Inv.A86{s0 st s:Ak}(h:Inv s0 st)(h':Inv (base st) s):Inv s0 (A86 st s):=by
 refine⟨fun t y ht hy=>?_,fun k y hk hy=>?_⟩
 ·simp only[Xl.A86,Bnk,Brm]at ht hy;exact h.env t y ht.2 (h'.env t y ht.1 hy)
 ·simp only[Xl.A86,Bnk,Brm]at hk hy;exact h.objs k y hk.2 (h'.objs k y hk.1 hy)
def Inv.fg(h:Inv s0 s):Inv s0 (B8x s):=by
 refine⟨h.env,fun k x hk hx=>?_⟩;simp only[B8x,Bnk,Brm]at hk hx;rw[B25]at hx;cases hl:lk k s.objs with
 |none=>rw[hl]at hx;cases hx
 |some o =>
  rw[hl]at hx;simp only[Bol,Bnf]at hx;cases hm:Ad9 o with
  |true=>exact absurd (Af2 hl hm) hk.1
  |false =>rw[Aij hm]at hx;subst hx;exact h.objs k o hk.2 hl
theorem Arj{S:Sig}{R:Type}{K:Ak→A7 R}{r:R}{s0:Ak}:∀(ts:A6 Nat) (s:Ak),Inv s0 s→fzK ts s K=some r →
  ∃s',K s'=some r∧Inv s0 s'∧∀(B:B8) (g:Gh) (w:World) (a:Act),SR S B g w s.im a→∃g',SR S B g' w s'.im a
 |[],s,hi,h=>⟨s,h,hi,fun B g w a hs=>⟨g,hs⟩⟩
 |t::ts,s,hi,h=>by
  unfold fzK at h;split at h
  ·rename_i k ty a n ht;split at h
   ·rename_i u l hk;cases h1:u.Jx ty with
    |false=>simp[h1]at h
    |true =>
    cases h2:Nat.ble 1000 k with
    |false=>simp[h1,h2]at h
    |true =>
    cases h4:cond (Nat.ble (a+n) l.length) (J0 k s.objs) false with
    |false=>simp[h1,h2,h4]at h
    |true =>
     obtain⟨h3,h5⟩:=Ahy h4;simp only[h1,h2,h4,Bna]at h;have e1:=Ty.Av h1;subst e1;have e2:=Bnu h2;have e3:=Bnu h3;have Md:Inv s0 ⟨(t,.d (.sl u ((l.drop a).take n)))::s.env,E3 k s.objs,s.live,t::s.wl,k::s.ol⟩:=by
      refine⟨fun t' x ht' hx=>?_,fun k' x M1 hx=>?_⟩
      ·simp only[Bnd,Brm]at ht';rw[Eb ht'.1]at hx;exact hi.env t' x ht'.2 hx
      ·simp only[Bnd,Brm]at M1;exact hi.objs k' x M1.2 (Wl hx)
     obtain⟨s',q1,q2,q3⟩:=Arj ts _ Md h;refine⟨s',q1,q2,fun B g w act hs=>?_⟩;have Uv:k∉S.names:=fun hm=>by have:=S.small k hm;omega
     have ho:s.im.X.objs.lookup k=some (.cells ((l.map u.ds).flatten.map .d) none):=Q1 hk;obtain⟨f1,f2,f3⟩:=hs.hr.freeze (k:=k) (sz:=u.size) (es:=l.map u.ds) Uv ho (by
      intro i cs Tg;rw[Bni,Bnn]at Tg;obtain⟨x,_,rfl⟩:=Tg;exact u.Df x)
     have hX:Ab.B6 k s.im.X=⟨Aa (E3 k s.objs),s.live⟩:=by rw[Tm h5];rfl
     rw[hX]at f1;refine q3 B _ w act ⟨hs.defers,hs.size,f1,?_⟩;intro t' x hx;have hx:(Eo ((t,.d (.sl u ((l.drop a).take n)))::s.env)).lookup t'=some x:=hx;rw[A7v]at hx;by_cases he:t'=t
     ·subst he;simp only[G7,Br8,Bna,Bol,Bnf]at hx;subst hx;obtain⟨v,hv,hr⟩:=hs.env t' (XV.os k u a n).a (by
       show(Eo s.env).lookup t'=_;rw[A7v,ht];rfl)
      refine⟨v,hv,?_⟩;have:=f3 a n v (by simpa using e3) hr;rw[← Brr,← Br2]at this;exact this
     ·rw[Eb he,← A7v]at hx;obtain⟨v,hv,hr⟩:=hs.env t' x hx;exact⟨v,hv,hr.mono f2 (.nil _)⟩
   ·cases h
  ·exact Arj ts s hi h
def Ann{st:Ak}{x:Operand}(hx:Bj st x=some (.d (.b b)))(hi:Inv s0 st) :
  Inv s0 (Arh x b st)∧∀(B:B8) (g:Gh) (w:World) (a:Act),SR S B g w st.im a→SR S B g w (Arh x b st).im a:=by
 cases x with
 |tmp t =>replace hx:=(F7 hx).2;exact⟨hi.Ar7 hx,fun B g w a h=>h.known (Pw hx)⟩
 |const v=>exact⟨hi,fun _ _ _ _ h=>h⟩
 |func f=>exact⟨hi,fun _ _ _ _ h=>h⟩
 |global g=>exact⟨hi,fun _ _ _ _ h=>h⟩
def A1t(ops:Array Oper):∀(j:Nat) o,ops.toList[j]? = some o→ops[0+j]? = some o:=by intro j o h;rw[Bog];simpa using h
def A87{c:Code}{Q Q':Exit→St→Prop}{st:St}(h:AWp P S c Q st)(hq:∀e s,Q e s→∀(B:B8) (g:Gh) (w:World) (a:Act),SR S B g w s a→∃s' g',Q' e s'∧SR S B g' w s' a):AWp P S c Q' st:=by intro B g w a hs;refine Bsn (h B g w a hs) ?_;rintro e a' w' ⟨s,g',q,Hv⟩;exact hq e s q B g' w' a' Hv
theorem Aj0{c:Cut}:∀ {l:A6 Cut},B2k c l=true→∀d∈l,(∀t∈c.Yg,t∉slotsOf d.vars++M7 d.own)∧∀k∈c.Pj,k∉Ir d.objs++(ownNames d.own++Fm d.Rc)
 |[],_,d,hd=>by cases hd
 |e::r,h,d,hd=>by
  obtain⟨h1,h⟩:=Ap h;obtain⟨h2,h⟩:=Ap h;rcases Bnd.1 hd with rfl|hd
  ·exact⟨apart_spec h1,apart_spec h2⟩
  ·exact Aj0 h d hd
theorem Afe{all:A6 Cut}:∀ {l:A6 Cut},Arf all l=true→∀c∈l,B2k c all=true
 |[],_,c,hc=>by cases hc
 |e::r,h,c,hc=>by
  obtain⟨h1,h⟩:=Ap h;rcases Bnd.1 hc with rfl|hc
  ·exact h1
  ·exact Afe h c hc
structure B9b(nm:List Nat)(st:Ak)(an:An)(z:an.MT)(c:Cut)(x:An)(y:c.T):Prop where
 mem:c∈an.Azj
 run:∀(R:Type) (E:An→Ak→(Exit→Ak→Option R)→Option R) (Am6:Ak→Option R) (K:Exit→Ak→Option R),Azv E Am6 st K an z=E x (gen (base st) c y) (Jd Am6 (fun e s=>K e (Ux c st s)))
theorem Aj1{nm:A6 Nat}{st s:Ak}:∀(an:An) (z:an.MT),Anm nm st s an=some z→∃c x y,proj nm (Wr (base st) c) c s=some y∧B9b nm st an z c x y
 |.alt c x r,z,h=>by
  unfold Anm at h;split at h
  ·rename_i y hy;cases h;exact⟨c,x,y,hy,⟨Bnm,fun R E Am6 K=>by simp only[Azv,Rf];exact Nd _ _ _⟩⟩
  ·split at h
   ·rename_i w hw;cases h;obtain⟨c',x',y,h1,h2⟩:=Aj1 r w hw;exact⟨c',x',y,h1,⟨Bnl _ h2.mem,fun R E Am6 K=>by simp only[Azv,Rf];exact h2.run R E Am6 K⟩⟩
   ·cases h
 |.loop c x,z,h=>⟨c,x,z,h,⟨Bnm,fun R E Am6 K=>by simp only[Azv];exact Nd _ _ _⟩⟩
 |.lf,_,h=>by cases h
 |.seq _ _,_,h=>by cases h
 |.join _ _ _,_,h=>by cases h
 |.cond _ _,_,h=>by cases h
 |.blk _,_,h=>by cases h
 |.stop,_,h=>by cases h
 |.fg _ _,_,h=>by cases h
 |.fz _ _ _,_,h=>by cases h
 |.rnd _ _,_,h=>by cases h
 |.sel _ _ _,_,h=>by cases h
def Ws(hm:P.follows .mixedOrders=true)(Uv:S.names=nm):∀(c:Code) (an:An) (st s0:Ak) (K:Exit→Ak→A7 R) (r:R),Inv s0 st →
  exec P Γ own nm S.N N c an st K=some r→AWp P S c (Avh s0 K r) st.im:=by
 intro c;induction c with
 |skip=>intro an st s0 K r hi h;exact B78 ⟨st,rfl,hi,h⟩
 |label l=>intro an st s0 K r hi h;exact B3q ⟨st,rfl,hi,h⟩
 |exit id=>intro an st s0 K r hi h;exact B79 ⟨st,rfl,hi,h⟩
 |ret=>intro an st s0 K r hi h;exact Bbw ⟨st,rfl,hi,h⟩
 |region id ops draw =>
  intro an st s0 K r hi h;simp only[exec]at h;cases draw with
  |false =>have:=A5p (S:=S) ops.toList 0 [] st (A1t ops) hi h;refine Bfq (n:=ops.toList.length) (by simp) ?_;rw[Bsi];exact this
  |true =>have:=Ar8 (S:=S) ops.toList 0 [] st (A1t ops) hi h;exact Bfr ops.toList.length hm this
 |seq a b iha ihb =>
  intro an st s0 K r hi h;have plain:exec P Γ own nm S.N N a an.l st (Jd (fun s=>exec P Γ own nm S.N N b an.r s K) K)=some r→AWp P S (.seq a b) (Avh s0 K r) st.im:=by
   intro h;refine Agr (A2z (iha _ st s0 _ r hi h) ?_);rintro e s ⟨Bw,rfl,Md,hk⟩;cases e with
   |normal=>exact ihb _ Bw s0 K r Md hk
   |_=>exact⟨Bw,rfl,Md,hk⟩
  unfold exec at h;split at h
  ·rename_i cut x y;unfold Ar at h;refine Agr (A2z (iha x (base st) (base st) _ r (.refl _) h) ?_);rintro e s ⟨Bw,rfl,Md,hk⟩;cases e with
   |normal =>simp only[Jd,Bor]at hk;obtain⟨z,hz,hk⟩:=hk;rw[Nd]at hk;intro B g w act hs;obtain⟨g',Hv⟩:=W4 (s0:=base st) hz (fun t _=>Md.env t) (fun k _=>Md.objs k) hs Uv;refine ihb y (Ux cut st (gen (base st) cut z)) s0 K r (hi.Ux (.refl _)) hk B g' w act Hv
   |_=>exact⟨A86 st Bw,rfl,hi.A86 Md,hk⟩
  ·rename_i x y;refine Agr (A2z (iha x st s0 _ r hi h) ?_);rintro e s ⟨Bw,rfl,Md,hk⟩;cases e with
   |normal=>exact fun B g w act hs=>ihb y (B8x Bw) s0 K r Md.fg hk B g w act (SR.fg hs)
   |_=>exact⟨Bw,rfl,Md,hk⟩
  ·rename_i ts x y;refine Agr (A2z (iha x st s0 _ r hi h) ?_);rintro e s ⟨Bw,rfl,Md,hk⟩;cases e with
   |normal =>obtain⟨s',q1,q2,q3⟩:=Arj (S:=S) ts Bw Md hk;exact fun B g w act hs=>let ⟨g',Hv⟩:=q3 B g w act hs;ihb y s' s0 K r q2 q1 B g' w act Hv
   |_=>exact⟨Bw,rfl,Md,hk⟩
  ·exact plain h
 |cond c a b iha ihb =>
  intro an st s0 K r hi h;unfold exec at h;split at h
  ·rename_i v hv;have A9n:=Ax hv;refine B7a (b:=v) A9n (fun hb=>?_) (fun hb=>?_)
   ·subst hb;simp only[Bna]at h;replace h:=Afd h;obtain⟨k1,k2⟩:=Ann (S:=S) hv hi;intro B g w act hs;exact iha _ _ s0 K r k1 h B g w act (k2 B g w act hs)
   ·subst hb;simp only[Bnc]at h;replace h:=Afd h;obtain⟨k1,k2⟩:=Ann (S:=S) hv hi;intro B g w act hs;exact ihb _ _ s0 K r k1 h B g w act (k2 B g w act hs)
  ·cases h
 |block id c ih =>
  intro an st s0 K r hi h;simp only[exec]at h;refine B3r (A2z (ih _ st s0 _ r hi h) ?_);rintro e s ⟨Bw,rfl,Md,hk⟩;cases e with
  |exit j =>
   simp only[B2j,B9a]at hk;simp only[Axw];cases hb:Nat.beq j id with
   |true =>simp only[hb,Bna]at hk;rw[Bo3 (Bne hb)];exact⟨Bw,rfl,Md,hk⟩
   |false =>simp only[hb,Bnc]at hk;rw[Bnv (Bpv hb)];exact⟨Bw,rfl,Md,hk⟩
  |_=>exact⟨Bw,rfl,Md,hk⟩
 |loop b ih =>
  intro an st s0 K r hi h;unfold exec at h;generalize Bew st.objs an=an at h;split at h
  ·rename_i x0 y0;generalize An.rnd x0 y0=all at h;refine Ah7 (fun n s=>∃an Bw,an.Bcz=n∧Inv s0 Bw∧rounds (fun an st K=>exec P Γ own nm S.N N b an st K) K an Bw=some r∧s=Bw.im) all.Bcz ⟨all,st,rfl,hi,h,rfl⟩ ?_;rintro n s ⟨an,Bw,hn,Md,hr,rfl⟩;cases an with
   |rnd x y =>
    refine A87 (ih x Bw s0 _ r Md hr) ?_;rintro e s ⟨st2,rfl,hi2,hk⟩ B g w act hs;cases e with
    |normal=>exact⟨_,g,⟨y.Bcz,by rw[← hn];exact Br5 _,y,st2,rfl,hi2,hk,rfl⟩,hs⟩
    |_=>exact⟨_,g,⟨st2,rfl,hi2,hk⟩,hs⟩
   |_=>cases hr
  ·rename_i Bli x0 r0;generalize Ue:An.alt Bli x0 r0=all at h;cases hap:Arf all.Azj all.Azj with
   |false=>rw[hap]at h;cases h
   |true =>
   rw[hap,Bna]at h;obtain⟨z0,hz0,h⟩:=Bor.1 h;obtain⟨cut,x,y0,hy0,hat⟩:=Aj1 all z0 hz0;intro B g w act hs;obtain⟨g',Hv⟩:=W4 (s0:=base st) hy0 (fun _ _ _ _ h=>h) (fun _ _ _ _ h=>h) hs Uv;generalize hf:(fun(rec:all.MT→A7 R) (z:all.MT)=>Azv (fun an st K=>exec P Γ own nm S.N N b an st K) (fun s=>Option.bind (Anm nm st s all) rec) st K all z)=f at h;have key:∀(n:Nat) (z:all.MT) (cut:Cut) (x:An) (y:cut.T),B9b nm st all z cut x y→iter f n z=some r→AWp P S (.loop b) (Avh s0 K r) (gen (base st) cut y).im:=by
    intro n z cut x y hat hn;refine Ah7 (fun n s=>∃z cut x,∃y:cut.T,B9b nm st all z cut x y∧iter f n z=some r∧s=(gen (base st) cut y).im) n ⟨z,cut,x,y,hat,hn,rfl⟩ ?_;rintro n s ⟨z,cut,x,y,hat,hn,rfl⟩;cases n with
    |zero=>simp[iter]at hn
    |succ n =>
     simp only[iter]at hn;rw[← hf]at hn;replace hn:=(hat.run R _ _ _).symm.trans hn;refine A87 (ih x _ (gen (base st) cut y) _ r (.refl _) hn) ?_;rintro e s ⟨Bw,rfl,Md,hk⟩ B g w act hs;cases e with
     |normal =>simp only[Jd,Bor]at hk;obtain⟨z',hz',hk⟩:=hk;obtain⟨Bj3,x',y',hy',Bj4⟩:=Aj1 all z' hz';obtain⟨ap1,ap2⟩:=Aj0 (Afe hap Bj3 Bj4.mem) cut hat.mem;obtain⟨g',Hv⟩:=W4 (s:=Bw) (s0:=base st) hy' (fun t ht y hw hy=>(Azw (Md.env t y hw hy)).resolve_left (ap1 t ht)) (fun k hk y hw hy=>(Ari (Md.objs k y hw hy)).resolve_left (ap2 k hk)) hs Uv;exact⟨_,g',⟨n,Br5 n,z',Bj3,x',y',Bj4,by rw[hf]at hk;exact hk,rfl⟩,Hv⟩
     |_=>exact⟨_,g,⟨Ux cut st Bw,rfl,hi.Ux Md,hk⟩,hs⟩
   exact key N z0 cut x y0 hat h B g' w act Hv
  ·rename_i cut x;obtain⟨z0,hz0,h⟩:=Bor.1 h;intro B g w act hs;obtain⟨g',Hv⟩:=W4 (s0:=base st) hz0 (fun _ _ _ _ h=>h) (fun _ _ _ _ h=>h) hs Uv;generalize hf:(fun(rec:cut.T→A7 R) (z:cut.T)=>Tb cut.own z.2.2.1 fun u=>exec P Γ own nm S.N N b x (gen (base st) cut (z.1,z.2.1,u,z.2.2.2)) (Jd (fun s=>Option.bind (proj nm (Wr (base st) cut) cut s) rec) (fun e s=>K e (Ux cut st s))))=f at h;have key:∀(n:Nat) (z:cut.T),iter f n z=some r→AWp P S (.loop b) (Avh s0 K r) (gen (base st) cut z).im:=by
    intro n z hn;refine Ah7 (fun n s=>∃z,iter f n z=some r∧s=(gen (base st) cut z).im) n ⟨z,hn,rfl⟩ ?_;rintro n s ⟨z,hn,rfl⟩;cases n with
    |zero=>simp[iter]at hn
    |succ n =>
     simp only[iter]at hn;rw[← hf]at hn;replace hn:=(Nd _ _ _).symm.trans hn;refine A87 (ih x _ (gen (base st) cut z) _ r (.refl _) hn) ?_;rintro e s ⟨Bw,rfl,Md,hk⟩ B g w act hs;cases e with
     |normal =>simp only[Jd,Bor]at hk;obtain⟨z',hz',hk⟩:=hk;obtain⟨ap1,ap2⟩:=Azt hz';obtain⟨g',Hv⟩:=W4 (s:=Bw) (s0:=base st) hz' (fun t ht y hw hy=>(Azw (Md.env t y hw hy)).resolve_left (ap1 t ht)) (fun k hk y hw hy=>(Ari (Md.objs k y hw hy)).resolve_left (ap2 k hk)) hs Uv;exact⟨_,g',⟨n,Br5 n,z',by rw[hf]at hk;exact hk,rfl⟩,Hv⟩
     |_=>exact⟨_,g,⟨Ux cut st Bw,rfl,hi.Ux Md,hk⟩,hs⟩
   exact key N z0 h B g' w act Hv
  ·cases h
 |_ =>
  intros
  simp_all [exec]
end
end Go.Xl
abbrev A4:Go.Xl.Ty:=.int .i64
abbrev A5:Go.Xl.An→Go.Xl.An:=.seq .lf
namespace Go.Xl
open Go.Ab
@[reducible] def Cw:A6 Ty→Type→Type
 |[],R=>R
 |t::r,R=>t.T→Cw r R
@[reducible] def Bd:A6 Ty→Type
 |[]=>Unit
 |[t]=>t.T
 |t::u::r=>t.T×Bd (u::r)
def Azx:(ts:A6 Ty)→Bd ts→A6 XV
 |[],_=>[]
 |[t],x=>[.d (t.xv x)]
 |t::u::r,x=>.d (t.xv x.1)::Azx (u::r) x.2
def Ml:A6 XV→XV
 |[x]=>x
 |l=>.Er l
def A3x(ts:A6 Ty)(x:Bd ts):XV:=Ml (Azx ts x)
def Sg(l:A6 XV):(Ml l).a=A12 (Ae l):=by
 cases l with
 |nil=>rfl
 |cons x r=>cases r<;>rfl
def Z8:(ts:A6 Ty)→A6 XV→A7 (Bd ts)
 |[],[]=>some ()
 |[t],[x]=>Ar9 t x
 |t::u::r,x::xs=>match Ar9 t x,Z8 (u::r) xs with
  |some y,some ys=>some (y,ys)
  |_,_=>none
 |_,_=>none
inductive S0:List AV→List AV→Prop
 |nil:S0 [] []
 |cons {x y:AV} {r s:List AV}:Z2 x y→S0 r s→S0 (x::r) (y::s)
theorem S0.length{a b:A6 AV}(h:S0 a b):a.length=b.length:=by
 induction h with
 |nil=>rfl
 |cons _ _ ih=>simp[ih]
def S0.get{a b:A6 AV}(h:S0 a b):∀ {i:Nat} {y:AV},b[i]? = some y→∃x,a[i]? = some x∧Z2 x y:=by
 induction h with
 |nil=>intro i y hy;simp at hy
 |cons h1 _ ih =>
  intro i y hy;cases i with
  |zero=>simp at hy;subst hy;exact⟨_,rfl,h1⟩
  |succ i=>simp at hy;simpa using ih hy
theorem S0.Er{a b:A6 AV}(h:S0 a b):Z2 (.Er a) (.Er b):=by
 intro g w v hr;cases hr with
 |Er _ vs hl hc =>
  refine .Er b vs (h.length▸hl) fun i c u hb hu=>?_
  obtain⟨x,hx,hle⟩:=h.get hb;exact hle _ _ _ (hc i x u hx hu)
theorem Ano:∀ {ts:A6 Ty} {xs:A6 XV} {y:Bd ts},Z8 ts xs=some y→S0 (Ae xs) (Ae (Azx ts y))
 |[],xs,y,h=>by
  cases xs with
  |nil=>exact .nil
  |cons _ _=>simp[Z8]at h
 |[t],xs,y,h=>by
  cases xs with
  |nil=>simp[Z8]at h
  |cons x r =>
   cases r with
   |nil=>exact .cons (Ank h) .nil
   |cons _ _=>simp[Z8]at h
 |t::u::r,xs,y,h=>by
  cases xs with
  |nil=>simp[Z8]at h
  |cons x xs =>
   simp only[Z8]at h;split at h
   ·rename_i y1 ys h1 h2;cases h;exact .cons (Ank h1) (Ano h2)
   ·cases h
variable{a b xs vs c d:A6 XV}{m N r k off j h n':Nat}{own nm F ls:A6 Nat}{f fl b':Nat→Nat}{res:AV}{x v:XV}{t:Ty}{τ:A6 (Nat×Nat)}
def B9c{ts:A6 Ty}{y:Bd ts}(h:Z8 ts xs=some y):Z2 (Ml xs).a (A3x ts y).a:=by
 have hl:=Ano h;unfold A3x;rw[Sg,Sg];generalize Ae xs=a at hl;generalize Ae (Azx ts y)=b at hl;cases hl with
 |nil=>exact .refl _
 |cons h1 h2 =>
  cases h2 with
  |nil=>exact h1
  |cons h3 h4=>exact(S0.cons h1 (.cons h3 h4)).Er
def Ab0(P:Program)(st:Ak):A6 ResultVar→A7 (A6 XV)
 |[]=>some []
 |.tmp t::r=>match Bj st (.tmp t),Ab0 P st r with
  |some x,some l=>some (x::l)
  |_,_=>none
 |.cell a ty::r=>match Bj st (.tmp a),tyI P ty,Ab0 P st r with
  |some (.nm k (.p off)),some (agg,sz),some l=>match lk k st.objs with
   |some (.cells cs _)=>cond agg (cond (Nat.ble (off+sz) cs.length) (some (Auh ((cs.drop off).take sz)::l)) none)
     (cond (Nat.beq sz 1) (match cs[off]? with
      |some v=>some (v::l)
      |none=>none) none)
   |_=>none
  |_,_,_=>none
theorem Vf{P:Program}{st:Ak}:∀ {rs:A6 ResultVar} {xs:A6 XV},Ab0 P st rs=some xs→RVs P st.im rs (Ae xs)
 |[],xs,h=>by simp[Ab0]at h;subst h;exact .nil
 |.tmp t::r,xs,h=>by
  simp only[Ab0]at h;split at h
  ·rename_i x l hx hl;cases h;exact .cons _ _ _ _ (.tmp t _ (F7 hx).1 (.eq _ (Pw (F7 hx).2))) (Vf hl)
  ·cases h
 |.cell a ty::r,xs,h=>by
  simp only[Ab0]at h;split at h
  ·rename_i k off agg sz l ha ht hl;have hT:=Uw ht;split at h
   ·rename_i cs oty hk;have M1:=Aui hk;cases agg with
    |true =>
     simp only[Bna]at h;cases hb:Nat.ble (off+sz) cs.length with
     |false=>simp[hb]at h
     |true =>simp only[hb,Bna,Bnf]at h;subst h;simp only[Ae];refine .cons _ _ _ _ (.cell a ty k off _ (F7 ha).1 (.eq _ (Pw (F7 ha).2)) (.agg sz (Ae cs) oty _ hT M1 (by rw[Aq];exact Bnu hb) ?_)) (Vf hl);rw[Aps,Aco,Acp]
    |false =>
     simp only[Bnc]at h;cases hb:Nat.beq sz 1 with
     |false=>simp[hb]at h
     |true =>
      have:=Bne hb;subst this;simp only[hb,Bna]at h;split at h
      ·rename_i v hv;cases h;exact .cons _ _ _ _ (.cell a ty k off _ (F7 ha).1 (.eq _ (Pw (F7 ha).2)) (.one (Ae cs) oty _ hT M1 (by rw[M5,hv];rfl))) (Vf hl)
      ·cases h
   ·cases h
  ·cases h
def Adj:Nat→A6 XV→A6 (Nat×XV)
 |_,[]=>[]
 |n,x::r=>(n,x)::Adj (n+1) r
def Ab1(n:Nat)(l:A6 XV):Eo (Adj n l)=A30 n (Ae l):=by
 induction l generalizing n with
 |nil=>rfl
 |cons x r ih=>simp only[Adj,Eo,Bnh,Ae,A30]at ih⊢;rw[ih]
def frz:A6 XV→A6 (Nat×Af)→A7 (A6 XV×A6 (Nat×Af))
 |[],objs=>some ([],objs)
 |.os k t a len::r,objs=>match lk k objs with
  |some (.arr u l)=>cond (u.Jx t) (cond (cond (Nat.ble (a+len) l.length) (J0 k objs) false) (match frz r (E3 k objs) with
   |some (ys,o)=>some (.d (.sl u ((l.drop a).take len))::ys,o)
   |none=>none) none) none
  |_=>none
 |x::r,objs=>match frz r objs with
  |some (ys,o)=>some (x::ys,o)
  |none=>none
inductive A88(g:Gh)(g':Gh)(w:World):List XV→List XV→Prop
 |nil:A88 g g' w [] []
 |cons {x y:XV} {r s:List XV}:(∀v,RA g w x.a v→RA g' w y.a v)→A88 g g' w r s→A88 g g' w (x::r) (y::s)
variable{g g':Gh}{w:World}{l objs Km:A6 (Nat×Af)}{P:Program}{st:Ak}
def A88.pre{g1:Gh}{l m:A6 XV}(h:A88 g1 g' w l m)(ht:Trans [] g w g1 w):A88 g g' w l m:=by
 induction h with
 |nil=>exact .nil
 |cons h1 _ ih=>exact .cons (fun v hv=>h1 v (hv.mono ht (.nil _))) ih
theorem A88.length{l m:A6 XV}(h:A88 g g' w l m):l.length=m.length:=by
 induction h with
 |nil=>rfl
 |cons _ _ ih=>simp[ih]
def A88.get{l m:A6 XV}(h:A88 g g' w l m):∀ {i:Nat} {y:XV},m[i]? = some y→∃x,l[i]? = some x∧∀v,RA g w x.a v→RA g' w y.a v:=by
 induction h with
 |nil=>intro i y hy;simp at hy
 |cons h1 _ ih =>
  intro i y hy;cases i with
  |zero=>simp at hy;subst hy;exact⟨_,rfl,h1⟩
  |succ i=>simp at hy;simpa using ih hy
theorem A88.Ml{g g':Gh}{w:World}{l m:A6 XV}(h:A88 g g' w l m){v:Value}(hr:RA g w (Ml l).a v):RA g' w (Ml m).a v:=by
 have Er:∀l m:A6 XV,A88 g g' w l m→RA g w (.Er (Ae l)) v→RA g' w (.Er (Ae m)) v:=by
  intro l m h hr;cases hr with
  |Er _ vs hl hc =>
   refine .Er _ vs (by rw[Aq,← h.length,← Aq];exact hl) fun i c u hb hu=>?_
   rw[M5,Bnn]at hb;obtain⟨y,hy,rfl⟩:=hb;obtain⟨x,hx,hxy⟩:=h.get hy;exact hxy u (hc i x.a u (by rw[M5,hx];rfl) hu)
 cases h with
 |nil=>exact Er [] [] .nil hr
 |cons h1 h2 =>
  cases h2 with
  |nil=>exact h1 v hr
  |cons h3 h4=>exact Er _ _ (.cons h1 (.cons h3 h4)) hr
theorem Azy{B:B8}{w:World}{live:A6 Nat}:∀ {xs ys:A6 XV} {objs Anp:A6 (Nat×Af)},frz xs objs=some (ys,Anp)→∀g,HR [] B g w ⟨Aa objs,live⟩ →
  ∃g',HR [] B g' w ⟨Aa Anp,live⟩∧Trans [] g w g' w∧A88 g g' w xs ys
 |[],ys,objs,Anp,h,g,hr=>by
  simp only[frz,Bnf,Bo2]at h;obtain⟨rfl,rfl⟩:=h;exact⟨g,hr,.refl _ _ _,.nil⟩
 |x::r,ys,objs,Anp,h,g,hr=>by
  have other:(match frz r objs with|some (ys,o)=>some (x::ys,o)|none=>none)=some (ys,Anp)→∃g',HR [] B g' w ⟨Aa Anp,live⟩∧Trans [] g w g' w∧A88 g g' w (x::r) ys:=by
   intro h;split at h
   ·rename_i zs o hz;cases h;obtain⟨g',h1,h2,h3⟩:=Azy hz g hr;exact⟨g',h1,h2,.cons (fun v hv=>hv.mono h2 (.nil _)) h3⟩
   ·cases h
  cases x with
  |os k t a len =>
   simp only[frz]at h;split at h
   ·rename_i u l hk;cases h1:u.Jx t with
    |false=>simp[h1]at h
    |true =>
    cases h4:cond (Nat.ble (a+len) l.length) (J0 k objs) false with
    |false=>simp[h1,h4]at h
    |true =>
     obtain⟨h2,h6⟩:=Ahy h4;simp only[h1,h4,Bna]at h;split at h
     ·rename_i zs o hz;cases h;have:=Ty.Av h1;subst this;have ho:=Q1 hk;obtain⟨f1,f2,f3⟩:=hr.freeze (k:=k) (sz:=u.size) (es:=l.map u.ds) (ty:=none) (by simp) ho (by
       intro i cs hc;rw[Bni,Bnn]at hc;obtain⟨y,_,rfl⟩:=hc;exact u.Df y)
      have e:Ab.B6 k ⟨Aa objs,live⟩=⟨Aa (E3 k objs),live⟩:=by rw[Tm h6];rfl
      rw[e]at f1;obtain⟨g',h3,h4,h5⟩:=Azy hz _ f1;refine⟨g',h3,f2.trans h4,.cons (fun v hv=>?_) (h5.pre f2)⟩;have hle:=Bnu h2;have:=f3 a len v (by simpa using hle) hv;have:=this.mono h4 (.nil _);simp only[XV.a,XD.d];rw[Br2,Brr];exact this
     ·cases h
   ·cases h
  |_=>exact other h
def B59{R:Type}:A6 XV→A6 (Nat×Af)→(A6 XV→A7 R)→A7 R
 |[],_,K=>K []
 |.os k t a len::r,objs,K=>match lk k objs with
  |some (.arr u l)=>cond (u.Jx t) (cond (cond (Nat.ble (a+len) l.length) (J0 k objs) false) (B59 r (E3 k objs) fun ys=>K (.d (.sl u ((l.drop a).take len))::ys)) none) none
  |_=>none
 |x::r,objs,K=>B59 r objs fun ys=>K (x::ys)
theorem Adk{R:Type}{y:R}:∀ {xs:A6 XV} {objs:A6 (Nat×Af)} {K:A6 XV→A7 R},B59 xs objs K=some y→∃ys o,frz xs objs=some (ys,o)∧K ys=some y
 |[],objs,K,h=>⟨[],objs,rfl,h⟩
 |x::r,objs,K,h=>by
  have other:(B59 r objs fun ys=>K (x::ys))=some y→∃ys o,(match frz r objs with|some (ys,o)=>some (x::ys,o)|none=>none)=some (ys,o)∧K ys=some y:=by intro h;obtain⟨ys,o,h1,h2⟩:=Adk h;exact⟨x::ys,o,by rw[h1],h2⟩
  cases x with
  |os k t a len =>
   simp only[B59]at h;split at h
   ·rename_i u l hk;cases h1:u.Jx t with
    |false=>simp[h1]at h
    |true =>
    cases h2:cond (Nat.ble (a+len) l.length) (J0 k objs) false with
    |false=>simp[h1,h2]at h
    |true =>simp only[h1,h2,Bna]at h;obtain⟨ys,o,h3,h4⟩:=Adk h;exact⟨.d (.sl u ((l.drop a).take len))::ys,o,by simp only[frz,hk,h1,h2,h3,Bna],h4⟩
   ·cases h
  |_=>exact other h
def Agy(P:Program)(fn:Func)(res:A6 Ty)(s:Ak):A7 (Bd res) :=
 match Ab0 P s fn.results.toList with
 |some xs=>B59 xs s.objs fun ys=>Z8 res ys
 |none=>none
def finish(P:Program)(fn:Func)(res:A6 Ty):Exit→Ak→A7 (Bd res)
 |.ret,s=>Agy P fn res s
 |.normal,s=>Agy P fn res s
 |_,_=>none
def B5a(P:Program)(Γ:A6 (Ix P))(own:A6 Nat)(N:Nat)(fn:Func)(an:An)(res:A6 Ty)(xs:A6 XV):A7 (Bd res) :=
 match fn.body with
 |some c=>cond (Nat.ble fn.ntmps GB) (exec P Γ own [] fn.ntmps N c an ⟨Adj 0 xs,[],[],[],[]⟩ (finish P fn res)) none
 |none=>none
def Avi{α:Type}{n:Nat}{x:A7 α}{y:α}(h:cond (Nat.ble n GB) x none=some y):n≤GB∧x=some y:=by
 cases hb:Nat.ble n GB with
 |false=>simp[hb]at h
 |true=>exact⟨Bnu hb,by simpa[hb]using h⟩
variable{fn:Func}{an:An}
def Aj2{Γ:A6 (Ix P)}{f:FuncId}{res:A6 Ty}{y:Bd res}(hm:P.follows .mixedOrders=true)(hf:P.funcs[f]? = some fn)
  (hn:Nat.ble xs.length fn.ntmps=true) (h:B5a P Γ own N fn an res xs=some y):Does P f (Ae xs) X0 (A3x res y).a X0:=by
 unfold B5a at h;split at h
 ·rename_i c hc;obtain⟨hG,h⟩:=Avi h;have hs:=Ws (S:=⟨fn.ntmps,[],by simp⟩) hm rfl c an ⟨Adj 0 xs,[],[],[],[]⟩ ⟨Adj 0 xs,[],[],[],[]⟩ _ _ (.refl _) h;have key:∀s',∀zs,Ab0 P s' fn.results.toList=some zs→Z8 res zs=some y→True:=fun _ _ _ _=>trivial
  intro g w vs hr hl ha;refine Btq hf hc (Bsn (hs (B8.of g w X0) g w _ ?_) ?_)
  ·refine⟨rfl,?_,hr,?_⟩
   ·have:=Bnu hn;rw[Aq]at hl;simp;omega
   ·intro t x hx;have hx':(A30 0 (Ae xs)).lookup t=some x:=by rw[← Ab1];exact hx
    obtain⟨_,hx'⟩:=R0 hx';rw[Bpy]at hx';have By:t<vs.size:=by have:=(Bnj.1 hx').1;omega
    refine⟨vs[t],?_,ha t x _ hx' (by simp[By])⟩;have:=Bnu hn;rw[Aq]at hl;rw[Qj (by omega)];simp[Brq,By]
  ·rintro e a' w' ⟨s,g',⟨Bw,rfl,hi,hk⟩,Hv⟩;have fin:Agy P fn res Bw=some y →
     a'.defers=[]∧∃v,(results fn a'.tmps).run P w' = .ok v w'∧∃g' v_1,Ending.returned v=Ending.returned v_1∧RA g' w' (A3x res y).a v_1∧HR (X0.objs.map (·.1)) (B8.of g w X0) g' w' X0:=by
    intro h;unfold Agy at h;split at h
    ·rename_i zs h1;obtain⟨ys,o,h2,h⟩:=Adk h
     ·obtain⟨v,hv,Xt⟩:=Qk (Vf h1) Hv;obtain⟨g1,hr1,ht1,has⟩:=Azy h2 g' Hv.hr;have hs1:SR ⟨fn.ntmps,[],by simp⟩ (B8.of g w X0) g1 w' ⟨[],⟨Aa o,Bw.live⟩⟩ a':=⟨Hv.defers,Hv.size,hr1,by simp⟩;have hw:Axx [] ⟨[],⟨Aa o,Bw.live⟩⟩ ⟨[],X0⟩:=⟨by simp,by simp[X0],by simp[X0],by simp⟩;obtain⟨g'',ht,Aj3⟩:=hs1.Ags hw;rw[← Sg]at Xt;have Ark:=(has.Ml Xt).mono ht (.nil _);exact⟨Hv.defers,v,hv,g'',v,rfl,B9c h g'' w' v Ark,Aj3.hr⟩
    ·cases h
   cases e with
   |ret=>exact fin hk
   |normal=>exact fin hk
   |_=>simp[finish]at hk
 ·cases h
def Aj4{α:Type}:(ts:A6 Ty)→(A6 XV→α)→A6 XV→Cw ts α
 |[],f,acc=>f acc
 |t::r,f,acc=>fun x=>Aj4 r f (acc++[.d (t.xv x)])
def Am7(P:Program)(Γ:A6 (Ix P))(own:A6 Nat)(N:Nat)(fn:Func)(an:An)(args res:A6 Ty):Cw args (A7 (Bd res)) :=
 Aj4 args (fun xs=>B5a P Γ own N fn an res xs) []
def A89(P:Program)(f:FuncId)(res:A6 Ty):(args:A6 Ty)→Cw args (A7 (Bd res))→A6 XV→Prop
 |[],F,acc=>∀y,F=some y→Does P f (Ae acc) X0 (A3x res y).a X0
 |t::r,F,acc=>∀x:t.T,A89 P f res r (F x) (acc++[.d (t.xv x)])
theorem A3y{P:Program}{Γ:A6 (Ix P)}{own:A6 Nat}{N:Nat}{f:FuncId}{fn:Func}{an:An}{res:A6 Ty}(hm:P.follows .mixedOrders=true)(hf:P.funcs[f]? = some fn) :
  ∀(args:A6 Ty) (acc:A6 XV),Nat.ble (acc.length+args.length) fn.ntmps=true→A89 P f res args (Aj4 args (fun xs=>B5a P Γ own N fn an res xs) acc) acc
 |[],acc,hn=>fun y hy=>Aj2 hm hf (by simpa using hn) hy
 |t::r,acc,hn=>fun x=>A3y hm hf r (acc++[.d (t.xv x)]) (by
   have:=Bnu hn;refine Bp0 ?_;simp at this⊢;omega)
def Si{Γ:A6 (Ix P)}{f:FuncId}{args res:A6 Ty}(hm:P.follows .mixedOrders=true)(hf:P.funcs[f]? = some fn)
  (hn:Nat.ble args.length fn.ntmps=true):A89 P f res args (Am7 P Γ own N fn an args res) [] :=
 A3y hm hf args [] (by simpa using hn)
def Avj{β R:Type}:(ts:A6 Ty)→Cw ts (A7 β)→A6 Operand→A6 XV→A6 (Operand×XV)→(A7 β→A6 (Operand×XV)→A7 R)→A7 R
 |[],F,[],[],acc,K=>K F acc
 |t::r,F,x::ops,v::vs,acc,K=>match S9 t v with
  |some y=>Avj r (F y) ops vs (acc++[(x,.d (t.xv y))]) K
  |none=>none
 |_,_,_,_,_,_=>none
def Cj(o:Oper):A6 Operand :=
 match o.op with
 |.call c=>c.args.toList
 |_=>[]
def B2l{R:Type}(args res:A6 Ty)(F:Cw args (A7 (Bd res)))(o:Oper)(st:Ak)(vs:A6 XV)(K:Out→A7 R):A7 R :=
 Avj args F (Cj o) vs [] fun Fv rd=>Option.bind Fv fun y=>K (Bu st (A3x res y) rd)
theorem Anq:∀(ts:A6 Ty) (y:Bd ts),Ch (Ae (Azx ts y))=true
 |[],_=>rfl
 |[t],y=>rfl
 |t::u::r,y=>by simp only[Azx,Ae,Ch,Anq (u::r) y.2];rfl
def Aj5(ts:A6 Ty)(y:Bd ts):N3 (A3x ts y).a=true:=by
 unfold A3x;rw[Sg];have:=Anq ts y;cases h:Ae (Azx ts y) with
 |nil=>rfl
 |cons x r =>
  rw[h]at this;cases r with
  |nil=>simp only[A12];simp only[Ch,Bq2]at this;exact this
  |cons z s=>simp only[A12,N3];exact this
def Ht{x:Operand}{ops:A6 Operand}(h:Ci st (x::ops)=some (v::vs)):Bj st x=some v∧Ci st ops=some vs:=by
 simp only[Ci]at h;split at h
 ·rename_i a l ha hl;cases h;exact⟨ha,hl⟩
 ·cases h
def Sj{x:Operand}{y:t.T}(h:Bj st x=some v)(hd:S9 t v=some y):Fc st.im x (.d (t.dv y)):=by
 cases v with
 |d u=>exact Apn h (t.O4 hd)
 |Cv n u l ty=>exact Aa1 (a:=.sl u l) (by simp[xd,h,XV.asD]) (t.O4 hd)
 |agg cs =>
  have hle:=A05 hd;cases x with
  |tmp t=>exact .tmp t _ (F7 h).1 (A3e (F7 h).2 hle)
  |const u=>simp[Bj]at h
  |func f=>simp[Bj]at h
  |global k=>exact .Ali k _ (A3e h hle)
 |_=>simp[S9]at hd
theorem B2m{P:Program}{R:Type}{f:FuncId}{res:A6 Ty}{st:Ak}{K:A7 (Bd res)→A6 (Operand×XV)→A7 R}{r:R}:∀(ts:A6 Ty) (F:Cw ts (A7 (Bd res))) (ops:A6 Operand) (vs:A6 XV) (acc:A6 (Operand×XV)) (Cm:A6 Operand) (axs:A6 XV),
  A89 P f res ts F axs→Ci st ops=some vs→acc=Cm.zip axs→Cm.length=axs.length→(∀p∈Bc acc,Fc st.im p.1 p.2)→Ch (Ae axs)=true→Avj ts F ops vs acc K=some r →
  ∃(Fv:A7 (Bd res)) (xs:A6 XV),xs.length=(Cm++ops).length∧(∀y,Fv=some y→Does P f (Ae xs) X0 (A3x res y).a X0)∧Ch (Ae xs)=true ∧
   (∀p∈Bc ((Cm++ops).zip xs),Fc st.im p.1 p.2)∧K Fv ((Cm++ops).zip xs)=some r
 |[],F,ops,vs,acc,Cm,axs,hs,hv,Arl,hlen,Agi,hda,h=>by
  cases ops with
  |nil =>
   cases vs with
   |nil =>subst Arl;exact⟨F,axs,by simp[hlen],hs,hda,by simpa using Agi,by rw[Bom];exact h⟩
   |cons _ _=>simp[Avj]at h
  |cons _ _=>simp[Avj]at h
 |t::ts,F,ops,vs,acc,Cm,axs,hs,hv,Arl,hlen,Agi,hda,h=>by
  cases ops with
  |nil=>simp[Avj]at h
  |cons x ops =>
   cases vs with
   |nil=>simp[Avj]at h
   |cons v vs =>
    simp only[Avj]at h;obtain⟨hx,Qx⟩:=Ht hv;split at h
    ·rename_i y hy;have:=B2m ts (F y) ops vs _ (Cm++[x]) (axs++[.d (t.xv y)]) (hs y) Qx (by rw[Arl,Bst hlen];rfl) (by simp[hlen]) (by
      intro p hp;rw[Hs]at hp;rcases Bnk.1 hp with hp|hp
      ·exact Agi p hp
      ·simp only[Bc,Bnh,Bo8,Bnw]at hp;subst hp;exact Sj hx hy) (by
      have:∀l:A6 AV,Ch l=true→Ch (l++[.d (t.dv y)])=true:=by
       intro l;induction l with
       |nil=>intro _;rfl
       |cons a r ih=>intro h;simp only[Ch,Boo,Bpw]at h⊢;exact⟨h.1,ih h.2⟩
      rw[Eg];exact this _ hda) h
     simpa using this
    ·cases h
def Bex{P:Program}(id:FuncId)(args res:A6 Ty)(F:Cw args (A7 (Bd res)))(hc:F6 P id)(hs:A89 P id res args F []):Ix P where
 id:=id
 run:=B2l args res F
 ok:=by
  intro R o st Cm ts vs K r ho hv h;unfold B2l at h;have e:Cj o=Cm.toList:=by simp[Cj,ho]
  rw[e]at h;obtain⟨Fv,xs,h1,h2,h3,h4,h5⟩:=B2m (st:=st) args F Cm.toList vs [] [] [] hs hv rfl rfl (by simp[Bc]) rfl h;obtain⟨y,hy,hK⟩:=Bor.1 h5;simp only[Bou]at h1 h4 hK;refine⟨_,hK,Ag h4 fun X=>?_⟩;have:=Ap3 (X:=X) (xs:=Ae xs) ho hc (h2 y hy) (by rw[Aq,h1];simp) h3 (Aj5 res y);rw[Kd];exact this
def B5b{P:Program}{Γ:A6 (Ix P)}{own:A6 Nat}{N:Nat}(id:FuncId)(fn:Func)(an:An)(args res:A6 Ty)(F:Cw args (A7 (Bd res)))(hm:P.follows .mixedOrders=true)(hf:P.funcs[id]? = some fn)
  (hc:F6 P id) (hn:Nat.ble args.length fn.ntmps=true) (hE:Am7 P Γ own N fn an args res=F):Ix P :=
 Bex id args res F hc (hE▸Si hm hf hn)
def Cn {P : Program} (Γ : List (Ix P)) (own : List Nat) (N : Nat) (id : FuncId) {fn : Func} (an : An) (args res : List Ty) (F : Cw args (Option (Bd res))) (hm : P.follows .mixedOrders = true) (hf : P.funcs[id]? = some fn) (hb : fn.body.isSome = true) (Uv : (fn.name == "runtime.NumGoroutine") = false) (hn : Nat.ble args.length fn.ntmps = true) (hE : Am7 P Γ own N fn an args res = F) : Ix P := B5b id fn an args res F hm hf (.mk' hf hb Uv) hn hE
inductive AK where
 |d (t:Ty)
 |c (f:Nat)
@[reducible] def Mx:A6 AK→Type→Type
 |[],R=>R
 |.d t::r,R=>t.T→Mx r R
 |.c _::r,R=>Mx r R
inductive RK where
 |d (t:Ty)
 |s
@[reducible] def RK.T:RK→Type
 |.d t=>t.T
 |.s=>Nat
@[reducible] def Sk:A6 RK→Type
 |[]=>Unit
 |[r]=>r.T
 |r::u::rs=>r.T×Sk (u::rs)
def RK.val(k:Nat)(t:Ty):(r:RK)→r.T→XV
 |.d u,x=>.d (u.xv x)
 |.s,n=>.os k t 0 n
def Rg(k:Nat)(t:Ty):(rs:A6 RK)→Sk rs→A6 XV
 |[],_=>[]
 |[r],x=>[r.val k t x]
 |r::u::rs,x=>r.val k t x.1::Rg k t (u::rs) x.2
def B9d(t:Ty):XV→A7 Nat
 |.os k t' a n=>cond (Nat.beq k 1) (cond (t'.Jx t) (cond (Nat.beq a 0) (some n) none) none) none
 |_=>none
def RK.dec(t:Ty):(r:RK)→XV→Option r.T
 |.d u,x=>S9 u x
 |.s,x=>B9d t x
def Avk(t:Ty):(rs:A6 RK)→A6 XV→A7 (Sk rs)
 |[],[]=>some ()
 |[r],[x]=>r.dec t x
 |r::u::rs,x::xs=>match r.dec t x,Avk t (u::rs) xs with
  |some y,some ys=>some (y,ys)
  |_,_=>none
 |_,_=>none
def RK.B9e{r:RK}{y:r.T}(h:r.dec t x=some y):Z2 x.a (r.val 1 t y).a:=by
 cases r with
 |d u=>exact A05 h
 |s =>
  change B9d t x=some y at h;unfold B9d at h;split at h
  ·rename_i k t' a n;cases h1:Nat.beq k 1 with
   |false=>simp[h1]at h
   |true =>
   cases h2:t'.Jx t with
   |false=>simp[h1,h2]at h
   |true =>
   cases h3:Nat.beq a 0 with
   |false=>simp[h1,h2,h3]at h
   |true =>simp only[h1,h2,h3,Bna,Bnf]at h;have e1:=Bne h1;have e2:=Ty.Av h2;have e3:=Bne h3;subst e1;subst e2;subst e3;subst h;exact .refl _
  ·cases h
theorem B2n{t:Ty}:∀ {rs:A6 RK} {xs:A6 XV} {y:Sk rs},Avk t rs xs=some y→S0 (Ae xs) (Ae (Rg 1 t rs y))
 |[],xs,y,h=>by
  cases xs with
  |nil=>exact .nil
  |cons _ _=>simp[Avk]at h
 |[r],xs,y,h=>by
  cases xs with
  |nil=>simp[Avk]at h
  |cons x xs =>
   cases xs with
   |nil=>exact .cons (RK.B9e h) .nil
   |cons _ _=>simp[Avk]at h
 |r::u::rs,xs,y,h=>by
  cases xs with
  |nil=>simp[Avk]at h
  |cons x xs =>
   simp only[Avk]at h;split at h
   ·rename_i y1 ys h1 h2;cases h;exact .cons (RK.B9e h1) (B2n h2)
   ·cases h
theorem S0.Ml(hl:S0 (Ae a) (Ae b)):Z2 (Xl.Ml a).a (Xl.Ml b).a:=by
 rw[Sg,Sg];generalize Ae a=a at hl;generalize Ae b=b at hl;cases hl with
 |nil=>exact .refl _
 |cons h1 h2 =>
  cases h2 with
  |nil=>exact h1
  |cons h3 h4=>exact(S0.cons h1 (.cons h3 h4)).Er
def Bd0(P:Program)(fn:Func)(t:Ty)(rs:A6 RK)(s:Ak):A7 (List t.T×Sk rs) :=
 match lk 1 s.objs with
 |some (.arr u l)=>if h:u.Jx t=true then match Ab0 P s fn.results.toList with
  |some xs=>match Avk t rs xs with
   |some y=>some ((Ty.Av h▸l:List t.T),y)
   |none=>none
  |none=>none else none
 |_=>none
def B2o(P:Program)(fn:Func)(t:Ty)(rs:A6 RK):Exit→Ak→A7 (List t.T×Sk rs)
 |.ret,s=>Bd0 P fn t rs s
 |.normal,s=>Bd0 P fn t rs s
 |_,_=>none
def B2p(P:Program)(Γ:A6 (Ix P))(own:A6 Nat)(N:Nat)(fn:Func)(an:An)(t:Ty)(rs:A6 RK)(l:List t.T)(n:Nat)(xs:A6 XV):A7 (List t.T×Sk rs) :=
 match fn.body with
 |some c=>cond (Nat.ble fn.ntmps GB) (exec P Γ own [1] fn.ntmps N c an ⟨Adj 0 (.os 1 t 0 n::xs),[(1,.arr t l)],[],[],[]⟩ (B2o P fn t rs)) none
 |none=>none
def O1(t:Ty)(l:List t.T):Ad:=⟨[(1,(Af.arr t l).o)],[]⟩
variable{rs:A6 RK}{ks:A6 AK}{o:Oper}{X' X Y Xc Dg:Ad}
def Avl{Γ:A6 (Ix P)}{f:FuncId}{l:List t.T}{n:Nat}{y:List t.T×Sk rs}(hm:P.follows .mixedOrders=true)(hf:P.funcs[f]? = some fn)
  (hn:Nat.ble (xs.length+1) fn.ntmps=true) (h:B2p P Γ own N fn an t rs l n xs=some y):Does P f (Ae (.os 1 t 0 n::xs)) (O1 t l) (Ml (Rg 1 t rs y.2)).a (O1 t y.1):=by
 unfold B2p at h;split at h
 ·rename_i c hc;obtain⟨hG,h⟩:=Avi h;have hs:=Ws (S:=⟨fn.ntmps,[1],by simp⟩) hm rfl c an _ _ _ _ (.refl _) h;intro g w vs hr hl ha;refine Btq hf hc (Bsn (hs (B8.of g w (O1 t l)) g w _ ?_) ?_)
  ·refine⟨rfl,?_,hr,?_⟩
   ·have:=Bnu hn;rw[Aq]at hl;simp at hl⊢;omega
   ·intro s x hx;have hx':(A30 0 (Ae (.os 1 t 0 n::xs))).lookup s=some x:=by rw[← Ab1];exact hx
    obtain⟨_,hx'⟩:=R0 hx';rw[Bpy]at hx';have By:s<vs.size:=by have:=(Bnj.1 hx').1;omega
    refine⟨vs[s],?_,ha s x _ hx' (by simp[By])⟩;have:=Bnu hn;rw[Aq,Bnx]at hl;rw[Qj (by omega)];simp[Brq,By]
  ·rintro e a' w' ⟨s,g',⟨Bw,rfl,hi,hk⟩,Hv⟩;have fin:Bd0 P fn t rs Bw=some y →
     a'.defers=[]∧∃v,(results fn a'.tmps).run P w' = .ok v w'∧∃g' v_1,Ending.returned v=Ending.returned v_1∧RA g' w' (Ml (Rg 1 t rs y.2)).a v_1∧HR ((O1 t l).objs.map (·.1)) (B8.of g w (O1 t l)) g' w' (O1 t y.1):=by
    intro h;unfold Bd0 at h;split at h
    ·rename_i u l' hk1;split at h
     ·rename_i hu;have:=Ty.Av hu;subst this;split at h
      ·rename_i zs h1;split at h
       ·rename_i z h2;cases h;obtain⟨v,hv,Xt⟩:=Qk (Vf h1) Hv;have hw:Axx [1] Bw.im ⟨[],O1 u l'⟩:=⟨by simp,by
         intro p hp;simp only[O1,Bnw]at hp;subst hp;exact Q1 hk1,by simp[O1],by simp[O1]⟩
        obtain⟨g'',ht,Aj3⟩:=Hv.Ags hw;have Ark:=Xt.mono ht (.nil _);rw[← Sg]at Ark;exact⟨Hv.defers,v,hv,g'',v,rfl,(S0.Ml (B2n h2)) g'' w' v Ark,Aj3.hr⟩
       ·cases h
      ·cases h
     ·cases h
    ·cases h
   cases e with
   |ret=>exact fin hk
   |normal=>exact fin hk
   |_=>simp[B2o]at hk
 ·cases h
def Aff{α:Type}:(ks:A6 AK)→(A6 XV→α)→A6 XV→Mx ks α
 |[],f,acc=>f acc
 |.d t::r,f,acc=>fun x=>Aff r f (acc++[.d (t.xv x)])
 |.c g::r,f,acc=>Aff r f (acc++[.Ek g []])
def Arm(P:Program)(Γ:A6 (Ix P))(own:A6 Nat)(N:Nat)(fn:Func)(an:An)(t:Ty)(ks:A6 AK)(rs:A6 RK)(l:List t.T)(n:Nat):Mx ks (A7 (List t.T×Sk rs)) :=
 Aff ks (fun xs=>B2p P Γ own N fn an t rs l n xs) []
def A6q{β:Type}(Q:β→A6 XV→Prop):(ks:A6 AK)→Mx ks (A7 β)→A6 XV→Prop
 |[],F,acc=>∀y,F=some y→Q y acc
 |.d u::r,F,acc=>∀x:u.T,A6q Q r (F x) (acc++[.d (u.xv x)])
 |.c g::r,F,acc=>A6q Q r F (acc++[.Ek g []])
def Aj6(P:Program)(f:FuncId)(t:Ty)(rs:A6 RK)(l:List t.T)(n:Nat)(ks:A6 AK)(F:Mx ks (A7 (List t.T×Sk rs)))(acc:A6 XV):Prop :=
 A6q (fun y acc=>Does P f (Ae (.os 1 t 0 n::acc)) (O1 t l) (Ml (Rg 1 t rs y.2)).a (O1 t y.1)) ks F acc
theorem A07{β:Type}{Q:β→A6 XV→Prop}{B:A6 XV→A7 β}(m:Nat)(hB:∀acc,acc.length≤m→∀y,B acc=some y→Q y acc) :
  ∀(ks:A6 AK) (acc:A6 XV),acc.length+ks.length≤m→A6q Q ks (Aff ks B acc) acc
 |[],acc,hn=>fun y hy=>hB acc (by simpa using hn) y hy
 |.d u::r,acc,hn=>fun x=>A07 m hB r _ (by simp at hn⊢;omega)
 |.c g::r,acc,hn=>by
  simp only[A6q,Aff];exact A07 m hB r (acc++[.Ek g []]) (by simp at hn⊢;omega)
def A1u{Γ:A6 (Ix P)}{f:FuncId}(hm:P.follows .mixedOrders=true)(hf:P.funcs[f]? = some fn)
  (hn:Nat.ble (ks.length+1) fn.ntmps=true) (l:List t.T) (n:Nat):Aj6 P f t rs l n ks (Arm P Γ own N fn an t ks rs l n) [] :=
by
 have h1:=Bnu hn;unfold Aj6 Arm;have hB:∀acc:A6 XV,acc.length≤fn.ntmps-1→∀y,B2p P Γ own N fn an t rs l n acc=some y→Does P f (Ae (.os 1 t 0 n::acc)) (O1 t l) (Ml (Rg 1 t rs y.2)).a (O1 t y.1) :=
  fun acc hl y hy=>Avl hm hf (Bp0 (by omega)) hy
 exact A07 (Q:=fun(y:List t.T×Sk rs) acc=>Does P f (Ae (.os 1 t 0 n::acc)) (O1 t l) (Ml (Rg 1 t rs y.2)).a (O1 t y.1)) (fn.ntmps-1) hB ks [] (by simp;omega)
def B9f:XV→A7 Nat
 |.Ek g []=>some g
 |_=>none
def B9g{g:Nat}(h:B9f v=some g):v = .Ek g []:=by
 unfold B9f at h;split at h
 ·cases h;rfl
 ·cases h
def Ab2{β R:Type}:(ks:A6 AK)→Mx ks (A7 β)→A6 Operand→A6 XV→A6 (Operand×XV)→(A7 β→A6 (Operand×XV)→A7 R)→A7 R
 |[],F,[],[],acc,K=>K F acc
 |.d t::r,F,x::ops,v::vs,acc,K=>match S9 t v with
  |some y=>Ab2 r (F y) ops vs (acc++[(x,.d (t.xv y))]) K
  |none=>none
 |.c g::r,F,x::ops,v::vs,acc,K=>match B9f v with
  |some g'=>cond (Nat.beq g' g) (Ab2 r F ops vs (acc++[(x,.Ek g [])]) K) none
  |none=>none
 |_,_,_,_,_,_=>none
def Aj7:XV→Bool
 |.d _=>true
 |.Ek _ []=>true
 |_=>false
def Yl:A6 XV→Bool
 |[]=>true
 |x::r=>cond (Aj7 x) (Yl r) false
def Anr(ha:Yl a=true)(hb:Yl b=true):Yl (a++b)=true:=by
 induction a with
 |nil=>exact hb
 |cons x r ih =>
  simp only[Yl,Bpw]at ha⊢;cases hx:Aj7 x with
  |false=>simp[hx]at ha
  |true=>simp only[hx,Bna]at ha⊢;exact ih ha
def B9h(h:Aj7 x=true):E2 f x.a=x.a:=by unfold Aj7 at h;split at h<;>first|rfl|cases h
theorem Adl{f:Nat→Nat}:∀ {l:A6 XV},Yl l=true→Dx f (Ae l)=Ae l
 |[],_=>rfl
 |x::r,h=>by
  simp only[Yl]at h;cases hx:Aj7 x with
  |false=>simp[hx]at h
  |true =>simp only[hx,Bna]at h;simp only[Ae,Dx,B9h hx,Adl h]
theorem A3z{ks:A6 Nat}:∀ {l:A6 XV},Yl l=true→C2 ks (Ae l)=true
 |[],_=>rfl
 |x::r,h=>by
  simp only[Yl]at h;cases hx:Aj7 x with
  |false=>simp[hx]at h
  |true =>
   simp only[hx,Bna]at h;have:Cy ks x.a=true:=by unfold Aj7 at hx;split at hx<;>first|rfl|cases hx
   simp only[Ae,C2,this,A3z h,Bpe]
theorem Ab3{β R:Type}{Q:β→A6 XV→Prop}{st:Ak}{K:A7 β→A6 (Operand×XV)→A7 R}{r:R}:∀(ks:A6 AK) (F:Mx ks (A7 β)) (ops:A6 Operand) (vs:A6 XV) (acc:A6 (Operand×XV)) (Cm:A6 Operand) (axs:A6 XV),
  A6q Q ks F axs→Ci st ops=some vs→acc=Cm.zip axs→Cm.length=axs.length→(∀p∈Bc acc,Fc st.im p.1 p.2)→Yl axs=true→Ab2 ks F ops vs acc K=some r →
  ∃(Fv:A7 β) (xs:A6 XV),xs.length=(Cm++ops).length∧(∀y,Fv=some y→Q y xs)∧Yl xs=true ∧
   (∀p∈Bc ((Cm++ops).zip xs),Fc st.im p.1 p.2)∧K Fv ((Cm++ops).zip xs)=some r
 |[],F,ops,vs,acc,Cm,axs,hs,hv,Arl,hlen,Agi,hda,h=>by
  cases ops with
  |nil =>
   cases vs with
   |nil =>subst Arl;exact⟨F,axs,by simp[hlen],hs,hda,by simpa using Agi,by rw[Bom];exact h⟩
   |cons _ _=>simp[Ab2]at h
  |cons _ _=>simp[Ab2]at h
 |.d u::ts,F,ops,vs,acc,Cm,axs,hs,hv,Arl,hlen,Agi,hda,h=>by
  cases ops with
  |nil=>simp[Ab2]at h
  |cons x ops =>
   cases vs with
   |nil=>simp[Ab2]at h
   |cons v vs =>
    simp only[Ab2]at h;obtain⟨hx,Qx⟩:=Ht hv;split at h
    ·rename_i y hy;have:=Ab3 ts (F y) ops vs _ (Cm++[x]) (axs++[.d (u.xv y)]) (hs y) Qx (by rw[Arl,Bst hlen];rfl) (by simp[hlen]) (by
      intro p hp;rw[Hs]at hp;rcases Bnk.1 hp with hp|hp
      ·exact Agi p hp
      ·simp only[Bc,Bnh,Bo8,Bnw]at hp;subst hp;exact Sj hx hy) (Anr hda rfl) h
     simpa using this
    ·cases h
 |.c g::ts,F,ops,vs,acc,Cm,axs,hs,hv,Arl,hlen,Agi,hda,h=>by
  cases ops with
  |nil=>simp[Ab2]at h
  |cons x ops =>
   cases vs with
   |nil=>simp[Ab2]at h
   |cons v vs =>
    simp only[Ab2]at h;obtain⟨hx,Qx⟩:=Ht hv;split at h
    ·rename_i g' hg;cases h1:Nat.beq g' g with
     |false=>simp[h1]at h
     |true =>
      simp only[h1,Bna]at h;have:=Bne h1;subst this;have:=B9g hg;subst this;have:=Ab3 ts F ops vs _ (Cm++[x]) (axs++[.Ek g' []]) hs Qx (by rw[Arl,Bst hlen];rfl) (by simp[hlen]) (by
       intro p hp;rw[Hs]at hp;rcases Bnk.1 hp with hp|hp
       ·exact Agi p hp
       ·simp only[Bc,Bnh,Bo8,Bnw]at hp;subst hp;exact Ax hx) (Anr hda rfl) h
      simpa using this
    ·cases h
def Adm(f:Nat→Nat)(t:Ty)(l:List t.T):Ef f (Af.arr t l).o=(Af.arr t l).o:=by
 show Ob.cells (Dx f _) none=_;congr 1;generalize (l.map t.ds).flatten=ds;induction ds with
 |nil=>rfl
 |cons x r ih=>simp only[Bnh,Dx,E2,ih]
theorem A40(ks:A6 Nat):∀(l:A6 D),C2 ks (l.map .d)=true
 |[]=>rfl
 |x::r=>by simp only[Bnh,C2,Cy,A40 ks r,Bpe]
def Adn(ks:A6 Nat)(t:Ty)(l:List t.T):J3 ks (Af.arr t l).o=true:=A40 ks _
theorem Ans(k:Nat)(t:Ty):∀(rs:A6 RK) (y:Sk rs),Dx (nf [(1,k)]) (Ae (Rg 1 t rs y))=Ae (Rg k t rs y)
 |[],_=>rfl
 |[r],y=>by cases r<;>rfl
 |r::u::rs,y=>by
  simp only[Rg,Ae,Dx,Ans k t (u::rs) y.2];congr 1;cases r<;>rfl
def B5c(k:Nat)(t:Ty)(rs:A6 RK)(y:Sk rs):E2 (nf [(1,k)]) (Ml (Rg 1 t rs y)).a=(Ml (Rg k t rs y)).a:=by
 rw[Sg,Sg];have h:=Ans k t rs y;generalize Ae (Rg k t rs y)=m at h⊢;subst h;generalize Ae (Rg 1 t rs y)=l;cases l with
 |nil=>rfl
 |cons x r=>cases r<;>rfl
theorem Afg(t:Ty):∀(rs:A6 RK) (y:Sk rs),C2 [1] (Ae (Rg 1 t rs y))=true
 |[],_=>rfl
 |[r],y=>by cases r<;>rfl
 |r::u::rs,y=>by
  have:Cy [1] (r.val 1 t y.1).a=true:=by cases r<;>rfl
  simp only[Rg,Ae,C2,this,Afg t (u::rs) y.2,Bpe]
def Arn(t:Ty)(rs:A6 RK)(y:Sk rs):Cy [1] (Ml (Rg 1 t rs y)).a=true:=by
 rw[Sg];have:=Afg t rs y;generalize Ae (Rg 1 t rs y)=l at this⊢;cases l with
 |nil=>rfl
 |cons x r =>
  cases r with
  |nil=>simp only[C2,Bq2]at this;exact this
  |cons z s=>exact this
def B9i{P:Program}{R:Type}(t:Ty)(ks:A6 AK)(rs:A6 RK)(F:List t.T→Nat→Mx ks (A7 (List t.T×Sk rs)))(o:Oper)(st:Ak)(vs:A6 XV)(K:Out→A7 R):A7 R :=
 match Cj o,vs with
 |x::ops,.os k t' a n::vs=>match lk k st.objs with
  |some (.arr u l)=>if h:u.Jx t=true then cond (t'.Jx t) (cond (Nat.beq a 0)
    (Ab2 ks (F (Ty.Av h▸l:List t.T) n) ops vs [] fun Fv rd=>Option.bind Fv fun y =>
     K ⟨.put k (.arr t y.1),Ml (Rg k t rs y.2),(x,.os k t 0 n)::rd,Mw k (.arr t y.1) st.objs,st.live,[],[k]⟩) none) none else none
  |_=>none
 |_,_=>none
variable{ts:Array TypeId}{Cm:Array Operand}{ex:Bool}{acc:A6 (Nat×Ob)}
def Aro{R:Type}{f:FuncId}{F:List t.T→Nat→Mx ks (A7 (List t.T×Sk rs))}(hc:F6 P f)(hs:∀l n,Aj6 P f t rs l n ks (F l n) []){K:Out→A7 R}{r:R}
  (ho:o.op = .call { callee:=.value (.func f),args:=Cm,argTypes:=ts }) (hv:Ci st Cm.toList=some vs) (h:B9i (P:=P) t ks rs F o st vs K=some r):∃out,K out=some r∧Cr P o st out:=by
 have e:Cj o=Cm.toList:=by simp[Cj,ho]
 unfold B9i at h;rw[e]at h;split at h
 ·rename_i x ops k t' a n vs' hl;rw[hl]at hv;obtain⟨hx,Qx⟩:=Ht hv;split at h
  ·rename_i u l hk;split at h
   ·rename_i hu;have e2:=Ty.Av hu;subst e2;cases h2:t'.Jx u with
    |false=>simp[h2]at h
    |true =>
    cases h3:Nat.beq a 0 with
    |false=>simp[h2,h3]at h
    |true =>
     simp only[h2,h3,Bna]at h;have e3:=Ty.Av h2;have e4:=Bne h3;subst e3;subst e4;obtain⟨Fv,xs,h1,h2,h3,h4,h5⟩:=Ab3 (st:=st) ks (F l n) ops vs' [] [] [] (hs l n) Qx rfl rfl (by simp[Bc]) rfl h;obtain⟨y,hy,hK⟩:=Bor.1 h5;simp only[Bou]at h1 h4 hK;refine⟨_,hK,⟨?_,⟨⟨Kc hk rfl rfl,rfl⟩,rfl,rfl,fun X hX=>?_⟩,?_⟩⟩
     ·intro p hp;rcases Bnd.1 hp with rfl|hp
      ·exact Ax hx
      ·exact h4 p hp
     ·have P7:X.objs.lookup k=some (Af.arr t' l).o:=by rw[hX];exact Q1 hk
      have hoc:Agt X (O1 t' l) (O1 t' y.1) (nf [(1,k)]) []:=by
       refine⟨⟨rfl,rfl⟩,?_,?_,?_,by simp[O1],by simp[O1],?_,?_,by simp[Br]⟩
       ·intro p hp;simp only[O1,Bnw]at hp;subst hp;simp only[Adm];exact P7
       ·simp[O1,Adn]
       ·simp[O1,Adn]
       ·intro p hp;simp only[O1,Bnw]at hp;subst hp;exact .inl (by simp[O1])
       ·intro p hp;simp only[O1,Bnw]at hp;subst hp;simp[O1]
      have We:=Aes (X:=X) [(1,k)] [] ho hc (h2 y hy) hoc (by
        have hl':Cm.size=ops.length+1:=by rw[← Bp2,hl];rfl
        simp only[Ae,Bnx,Aq,hl',h1]) (by
        simp only[Ae,C2,A3z h3,Bq2];rfl) (Arn t' rs y.2)
      rw[hl]at We;rw[B5c]at We;have e5:Dx (nf [(1,k)]) (Ae (.os 1 t' 0 n::xs))=Ae (.os k t' 0 n::xs):=by simp only[Ae,Dx,Adl h3];rfl
      rw[e5]at We;have e6:Bc ((x,.os k t' 0 n)::ops.zip xs)=(x::ops).zip (Ae (.os k t' 0 n::xs)):=by rw[Ae,Bqe,← Kd];rfl
      rw[e6];have e7:Pv (nf [(1,k)]) (O1 t' y.1).objs X.objs=Ab.setObj k (Af.arr t' y.1).o X.objs:=by simp only[O1,Pv,Adm];rfl
      rw[e7]at We;exact We
     ·intro j z hj hz;simp only[Bnw]at hj;rw[O9 _ _ _ _ hj]at hz;exact hz
   ·cases h
  ·cases h
 ·cases h
def mkO{P:Program}{Γ:A6 (Ix P)}{own:A6 Nat}{N:Nat}(id:FuncId)(fn:Func)(an:An)(t:Ty)(ks:A6 AK)(rs:A6 RK)(F:List t.T→Nat→Mx ks (A7 (List t.T×Sk rs)))(hm:P.follows .mixedOrders=true)(hf:P.funcs[id]? = some fn)
  (hc:F6 P id) (hn:Nat.ble (ks.length+1) fn.ntmps=true) (hE:Arm P Γ own N fn an t ks rs=F):Ix P where
 id:=id
 run:=B9i (P:=P) t ks rs F
 ok:=by intro R o st Cm ts vs K r ho hv h;exact Aro hc (fun l n=>hE▸A1u hm hf hn l n) ho hv h
def Vg {P : Program} (Γ : List (Ix P)) (own : List Nat) (N : Nat) (id : FuncId) {fn : Func} (an : An) (t : Ty) (ks : List AK) (rs : List RK) (F : List t.T → Nat → Mx ks (Option (List t.T × Sk rs))) (hm : P.follows .mixedOrders = true) (hf : P.funcs[id]? = some fn) (hb : fn.body.isSome = true) (Uv : (fn.name == "runtime.NumGoroutine") = false) (hn : Nat.ble (ks.length + 1) fn.ntmps = true) (hE : Arm P Γ own N fn an t ks rs = F) : Ix P := mkO id fn an t ks rs F hm hf (.mk' hf hb Uv) hn hE
@[reducible] def RK.ty (t:Ty):RK→Ty
 |.d u=>u
 |.s=>.sl t
@[reducible] def Wt (t:Ty):A6 RK→A6 Ty
 |[]=>[]
 |r::rs=>r.ty t::Wt t rs
def Ant(P:Program)(Γ:A6 (Ix P))(own:A6 Nat)(N:Nat)(fn:Func)(an:An)(t:Ty)(ks:A6 AK)(rs:A6 RK):Mx ks (A7 (Bd (Wt t rs))) :=
 Aff ks (fun xs=>B5a P Γ own N fn an (Wt t rs) (.d (.sl t [])::xs)) []
def Aj8(P:Program)(f:FuncId)(t:Ty)(rs:A6 RK)(y:Bd (Wt t rs))(acc:A6 XV):Prop :=
 Does P f (Ae (.d (.sl t [])::acc)) X0 (A3x (Wt t rs) y).a X0
def A41{Γ:A6 (Ix P)}{f:FuncId}(hm:P.follows .mixedOrders=true)(hf:P.funcs[f]? = some fn)
  (hn:Nat.ble (ks.length+1) fn.ntmps=true):A6q (Aj8 P f t rs) ks (Ant P Γ own N fn an t ks rs) []:=by
 have h1:=Bnu hn;have hB:∀acc:A6 XV,acc.length≤fn.ntmps-1→∀y,B5a P Γ own N fn an (Wt t rs) (.d (.sl t [])::acc)=some y→Aj8 P f t rs y acc :=
  fun acc hl y hy=>Aj2 hm hf (Bp0 (by simp;omega)) hy
 exact A07 (Q:=Aj8 P f t rs) (fn.ntmps-1) hB ks [] (by simp;omega)
def Bj5:XV→Bool
 |.os _ _ _ _=>true
 |_=>false
def B2q{P:Program}{R:Type}(t:Ty)(ks:A6 AK)(rs:A6 RK)(F:List t.T→Nat→Mx ks (A7 (List t.T×Sk rs)))(F0:Mx ks (A7 (Bd (Wt t rs))))(o:Oper)(st:Ak)(vs:A6 XV)(K:Out→A7 R):A7 R :=
 match Cj o,vs with
 |x::ops,v::vs'=>cond (Bj5 v) (B9i (P:=P) t ks rs F o st vs K) (match S9 (.sl t) v with
  |some []=>Ab2 ks F0 ops vs' [] fun Fv rd=>Option.bind Fv fun y=>K (Bu st (A3x (Wt t rs) y) ((x,.d (.sl t []))::rd))
  |_=>none)
 |_,_=>none
theorem Aj9:∀ {xs:A6 XV},Yl xs=true→Ch (Ae xs)=true
 |[],_=>rfl
 |x::r,h=>by
  simp only[Yl]at h;cases hx:Aj7 x with
  |false=>simp[hx]at h
  |true =>
   simp only[hx,Bna]at h;have:N3 x.a=true:=by unfold Aj7 at hx;split at hx<;>first|rfl|cases hx
   simp only[Ae,Ch,this,Aj9 h,Bpe]
def Avm{R:Type}{f:FuncId}{F:List t.T→Nat→Mx ks (A7 (List t.T×Sk rs))}{F0:Mx ks (A7 (Bd (Wt t rs)))}(hc:F6 P f)(hs:∀l n,Aj6 P f t rs l n ks (F l n) [])(hs0:A6q (Aj8 P f t rs) ks F0 []){K:Out→A7 R}{r:R}
  (ho:o.op = .call { callee:=.value (.func f),args:=Cm,argTypes:=ts }) (hv:Ci st Cm.toList=some vs) (h:B2q (P:=P) t ks rs F F0 o st vs K=some r):∃out,K out=some r∧Cr P o st out:=by
 have e:Cj o=Cm.toList:=by simp[Cj,ho]
 unfold B2q at h;rw[e]at h;split at h
 ·rename_i x ops v vs' hl;cases hos:Bj5 v with
  |true =>simp only[hos,Bna]at h;exact Aro hc hs ho hv h
  |false =>
   simp only[hos,Bnc]at h;rw[hl]at hv;obtain⟨hx,Qx⟩:=Ht hv;split at h
   ·rename_i hd;obtain⟨Fv,xs,h1,h2,h3,h4,h5⟩:=Ab3 (st:=st) ks F0 ops vs' [] [] [] hs0 Qx rfl rfl (by simp[Bc]) rfl h;obtain⟨y,hy,hK⟩:=Bor.1 h5;simp only[Bou]at h1 h4 hK;refine⟨_,hK,Ag ?_ fun X=>?_⟩
    ·intro p hp;rcases Bnd.1 hp with rfl|hp
     ·exact Sj hx hd
     ·exact h4 p hp
    ·have hl':Cm.size=ops.length+1:=by rw[← Bp2,hl];rfl
     have:=Ap3 (X:=X) (xs:=Ae (.d (.sl t [])::xs)) ho hc (h2 y hy) (by simp only[Ae,Bnx,Aq,hl',h1]) (by
      simp only[Ae,Ch,Aj9 h3,Bq2];rfl) (Aj5 _ y)
     have e6:Bc ((x,.d (.sl t []))::ops.zip xs)=(x::ops).zip (Ae (.d (.sl t [])::xs)):=by rw[Ae,Bqe,← Kd];rfl
     rw[hl]at this;rw[e6];exact this
   ·cases h
 ·cases h
def Blj{P:Program}{Γ:A6 (Ix P)}{own:A6 Nat}{N:Nat}(id:FuncId)(fn:Func)(an an0:An)(t:Ty)(ks:A6 AK)(rs:A6 RK)(F:List t.T→Nat→Mx ks (A7 (List t.T×Sk rs)))(F0:Mx ks (A7 (Bd (Wt t rs))))(hm:P.follows .mixedOrders=true)(hf:P.funcs[id]? = some fn)
  (hc:F6 P id) (hn:Nat.ble (ks.length+1) fn.ntmps=true) (hE:Arm P Γ own N fn an t ks rs=F) (hE0:Ant P Γ own N fn an0 t ks rs=F0):Ix P where
 id:=id
 run:=B2q (P:=P) t ks rs F F0
 ok:=by intro R o st Cm ts vs K r ho hv h;exact Avm hc (fun l n=>hE▸A1u hm hf hn l n) (hE0▸A41 hm hf hn) ho hv h
def Afh {P : Program} (Γ : List (Ix P)) (own : List Nat) (N : Nat) (id : FuncId) {fn : Func} (an an0 : An) (t : Ty) (ks : List AK) (rs : List RK) (F : List t.T → Nat → Mx ks (Option (List t.T × Sk rs))) (F0 : Mx ks (Option (Bd (Wt t rs)))) (hm : P.follows .mixedOrders = true) (hf : P.funcs[id]? = some fn) (hb : fn.body.isSome = true) (Uv : (fn.name == "runtime.NumGoroutine") = false) (hn : Nat.ble (ks.length + 1) fn.ntmps = true) (hE : Arm P Γ own N fn an t ks rs = F) (hE0 : Ant P Γ own N fn an0 t ks rs = F0) : Ix P := Blj id fn an an0 t ks rs F F0 hm hf (.mk' hf hb Uv) hn hE hE0
def B9j(P:Program)(fn:Func)(t:Ty)(s:Ak):A7 (A7 (List t.T×Nat)) :=
 match Ab0 P s fn.results.toList with
 |some [.os k t' a n]=>match lk k s.objs with
  |some (.arr u l)=>if h:u.Jx t=true then cond (t'.Jx t) (cond (Nat.beq a 0) (cond (Nat.ble 1000 k) (some (some ((Ty.Av h▸l:List t.T),n))) none) none) none else none
  |_=>none
 |some [x]=>match S9 (.sl t) x with
  |some l=>Fl l (some none) fun _ _=>none
  |none=>none
 |_=>none
def Ab4(P:Program)(fn:Func)(t:Ty):Exit→Ak→A7 (A7 (List t.T×Nat))
 |.ret,s=>B9j P fn t s
 |.normal,s=>B9j P fn t s
 |_,_=>none
def Afi(P:Program)(Γ:A6 (Ix P))(own:A6 Nat)(N:Nat)(fn:Func)(an:An)(t:Ty)(xs:A6 XV):A7 (A7 (List t.T×Nat)) :=
 match fn.body with
 |some c=>cond (Nat.ble fn.ntmps GB) (exec P Γ own [] fn.ntmps N c an ⟨Adj 0 xs,[],[],[],[]⟩ (Ab4 P fn t)) none
 |none=>none
def Ab5(P:Program)(f:FuncId)(t:Ty)(y:A7 (List t.T×Nat))(xs:A6 XV):Prop :=
 match y with
 |none=>Does P f (Ae xs) X0 (.d (.sl t.size [])) X0
 |some z=>Does P f (Ae xs) X0 (.osl 1 0 z.2 t.size) (O1 t z.1)
def Afj{R:Type}{f:FuncId}{c:Code}{G3:∀j∈nm,j<1000}{s0:Ak}{K:Exit→Ak→A7 R}{r:R}
  (hf:P.funcs[f]? = some fn) (hc:fn.body=some c) (hn:xs.length≤fn.ntmps) (hG:fn.ntmps≤GB) (Uv:(Aa objs).map (·.1)=nm) (hs:AWp P ⟨fn.ntmps,nm,G3⟩ c (Avh s0 K r) (Ak.im ⟨Adj 0 xs,objs,[],[],[]⟩))
  (Avn:∀e Bw,K e Bw=some r→e = .ret∨e = .normal)
  (fin:∀B e Bw a' w' g',K e Bw=some r→SR ⟨fn.ntmps,nm,G3⟩ B g' w' Bw.im a'→∃v g'',(results fn a'.tmps).run P w' = .ok v w'∧RA g'' w' res v∧HR nm B g'' w' X') :
  Does P f (Ae xs) ⟨Aa objs,[]⟩ res X':=by
 subst Uv;intro g w vs hr hl ha;refine Btq hf hc (Bsn (hs (B8.of g w ⟨Aa objs,[]⟩) g w _ ?_) ?_)
 ·refine⟨rfl,?_,hr,?_⟩
  ·rw[Aq]at hl;simp;omega
  ·intro t x hx;have hx':(A30 0 (Ae xs)).lookup t=some x:=by rw[← Ab1];exact hx
   obtain⟨_,hx'⟩:=R0 hx';rw[Bpy]at hx';have By:t<vs.size:=by have:=(Bnj.1 hx').1;omega
   refine⟨vs[t],?_,ha t x _ hx' (by simp[By])⟩;rw[Aq]at hl;rw[Qj (by omega)];simp[Brq,By]
 ·rintro e a' w' ⟨s,g',⟨Bw,rfl,hi,hk⟩,Hv⟩;obtain⟨v,g'',h1,h2,h3⟩:=fin _ e Bw a' w' g' hk Hv;have key:a'.defers=[]∧∃v,(results fn a'.tmps).run P w' = .ok v w'∧∃g' v_1,Ending.returned v=Ending.returned v_1∧RA g' w' res v_1∧HR ((Aa objs).map (·.1)) (B8.of g w ⟨Aa objs,[]⟩) g' w' X' :=
   ⟨Hv.defers,v,h1,g'',v,rfl,h2,h3⟩
  rcases Avn e Bw hk with rfl|rfl
  ·exact key
  ·exact key
def Ym{Γ:A6 (Ix P)}{f:FuncId}{y:A7 (List t.T×Nat)}(hm:P.follows .mixedOrders=true)(hf:P.funcs[f]? = some fn)
  (hn:Nat.ble xs.length fn.ntmps=true) (h:Afi P Γ own N fn an t xs=some y):Ab5 P f t y xs:=by
 unfold Afi at h;split at h
 ·rename_i c hc;obtain⟨hG,h⟩:=Avi h;have hs:=Ws (S:=⟨fn.ntmps,[],by simp⟩) hm rfl c an _ _ _ _ (.refl _) h;have Avn:∀e Bw,Ab4 P fn t e Bw=some y→e = .ret∨e = .normal:=by intro e Bw hk;cases e<;>simp_all [Ab4]
  have Se:∀e Bw,Ab4 P fn t e Bw=some y→B9j P fn t Bw=some y:=by intro e Bw hk;cases e<;>simp_all [Ab4]
  cases y with
  |none =>
   refine Afj (objs:=[]) (G3:=by simp[Aa,Cz,D4]) hf hc (Bnu hn) hG rfl hs Avn fun B e Bw a' w' g' hk Hv=>?_
   have h:=Se e Bw hk;unfold B9j at h;split at h
   ·split at h
    ·split at h
     ·rename_i k t' a n _ _ _ _ _ _;cases h2:t'.Jx t<;>cases h3:Nat.beq a 0<;>cases h4:Nat.ble 1000 k<;>simp[h2,h3,h4]at h
     ·cases h
    ·cases h
   ·rename_i x _ hx;split at h
    ·rename_i l hd;cases l with
     |cons _ _=>simp[Fl]at h
     |nil =>
     obtain⟨v,hv,Xt⟩:=Qk (Vf hx) Hv;have hw:Axx [] Bw.im ⟨[],X0⟩:=⟨by simp,by simp[X0],by simp[X0],by simp⟩;obtain⟨g'',ht,Aj3⟩:=Hv.Ags hw;have Ark:=Xt.mono ht (.nil _);exact⟨v,g'',hv,A05 hd g'' w' v Ark,Aj3.hr⟩
    ·cases h
   ·cases h
  |some z =>
   refine Afj (objs:=[]) (G3:=by simp[Aa,Cz,D4]) hf hc (Bnu hn) hG rfl hs Avn fun B e Bw a' w' g' hk Hv=>?_
   have h:=Se e Bw hk;unfold B9j at h;split at h
   ·rename_i k t' a n hx;split at h
    ·rename_i u l I1;split at h
     ·rename_i hu;have:=Ty.Av hu;subst this;cases h2:t'.Jx u with
      |false=>simp[h2]at h
      |true =>
      cases h3:Nat.beq a 0 with
      |false=>simp[h2,h3]at h
      |true =>
      cases h4:Nat.ble 1000 k with
      |false=>simp[h2,h3,h4]at h
      |true =>
       simp only[h2,h3,h4,Bna,Bnf]at h;subst h;have e1:=Ty.Av h2;have e2:=Bne h3;have e3:=Bnu h4;subst e1;subst e2;obtain⟨v,hv,Xt⟩:=Qk (Vf hx) Hv;have hw:Axx [] Bw.im ⟨[],⟨[(k,(Af.arr t' l).o)],[]⟩⟩:=⟨by simp,by
        intro p hp;simp only[Bnw]at hp;subst hp;exact Q1 I1,by simp,by simp⟩
       obtain⟨g'',ht,Aj3⟩:=Hv.Ags hw;have Ark:=Xt.mono ht (.nil _);obtain⟨hr2,ht2⟩:=Aj3.hr.Zv (k:=k) (m:=1) (o:=(Af.arr t' l).o) (by simp[Aa,Cz,D4]) (by simp[Aa,Cz,D4]) (by
        have:=A39 [1] t' l;simp[Br,this]) (by simp) (by omega)
       refine⟨v,_,hv,?_,hr2.alike ⟨fun j=>?_,rfl⟩⟩
       ·refine RA.Avg (g:=g'') (k:=k) ?_ (show O3 g''.ρ 1 (g''.ρ k) 1=g''.ρ k from Ah _ _ _);simp only[Ae,A12,XV.a,Bqv]at Ark;exact Ark
       ·simp only[O1,Bot,Ab.B6];by_cases hj:j=1
        ·subst hj;simp
        ·simp
     ·cases h
    ·cases h
   ·split at h
    ·rename_i l _;cases l<;>simp[Fl]at h
    ·cases h
   ·cases h
 ·cases h
def Azz{Γ:A6 (Ix P)}{f:FuncId}(hm:P.follows .mixedOrders=true)(hf:P.funcs[f]? = some fn)
  (hn:Nat.ble ks.length fn.ntmps=true):A6q (Ab5 P f t) ks (Aff ks (fun xs=>Afi P Γ own N fn an t xs) []) []:=by
 have h1:=Bnu hn;have hB:∀acc:A6 XV,acc.length≤fn.ntmps→∀y,Afi P Γ own N fn an t acc=some y→Ab5 P f t y acc :=
  fun acc hl y hy=>Ym hm hf (Bp0 hl) hy
 exact A07 (Q:=Ab5 P f t) fn.ntmps hB ks [] (by simpa using h1)
def runN(P:Program)(Γ:A6 (Ix P))(own:A6 Nat)(N:Nat)(fn:Func)(an:An)(t:Ty)(ks:A6 AK):Mx ks (A7 (A7 (List t.T×Nat))) :=
 Aff ks (fun xs=>Afi P Γ own N fn an t xs) []
def Bd1{P:Program}{R:Type}(t:Ty)(ks:A6 AK)(F:Mx ks (A7 (A7 (List t.T×Nat))))(o:Oper)(st:Ak)(vs:A6 XV)(K:Out→A7 R):A7 R :=
 match newName o with
 |some m=>Ab2 ks F (Cj o) vs [] fun Fv rd=>Option.bind Fv fun y=>A9 y (K (Bu st (.d (.sl t [])) rd)) fun z =>cond (J4 [m] st) (K ⟨.all,.os m t 0 z.2,rd,(m,.arr t z.1)::E3 m st.objs,st.live,[m],[m]⟩) none
 |none=>none
def Ca.drop{rd:A6 (Operand×AV)}(h:Ca P o rd (Ab.B6 m X) X' F res)(hm:1000≤m):Ca P o rd X X' F res:=by intro nm G3 B g w a hr Bg;exact h nm G3 B g w a (hr.B6 fun hh=>by have:=G3 m hh;omega) Bg
def Ca.Bgp{rd:A6 (Operand×AV)}(h:Ca P o rd X X' F res)(e:Ab.Alike X' Y):Ca P o rd X Y F res:=by
 intro nm G3 B g w a hr Bg next Q hn
 exact h nm G3 B g w a hr Bg next Q fun g' w' v h1 h2 h3=>hn g' w' v (h1.alike e) h2 h3
def B2r{R:Type}{f:FuncId}{F:Mx ks (A7 (A7 (List t.T×Nat)))}(hc:F6 P f)(hs:A6q (Ab5 P f t) ks F []){K:Out→A7 R}{r:R}
  (ho:o.op = .call { callee:=.value (.func f),args:=Cm,argTypes:=ts }) (hv:Ci st Cm.toList=some vs) (h:Bd1 (P:=P) t ks F o st vs K=some r):∃out,K out=some r∧Cr P o st out:=by
 have e:Cj o=Cm.toList:=by simp[Cj,ho]
 unfold Bd1 at h;rw[e]at h;split at h
 ·rename_i m hm;obtain⟨Fv,xs,h1,h2,h3,h4,h5⟩:=Ab3 (st:=st) ks F Cm.toList vs [] [] [] hs hv rfl rfl (by simp[Bc]) rfl h;obtain⟨y,hy,hK⟩:=Bor.1 h5;simp only[Bou]at h1 h4 hK;have hd:=h2 y hy;cases y with
  |none =>
   simp only[A9]at hK;refine⟨_,hK,Ag h4 fun X=>?_⟩;have hda:Ch (Ae xs)=true:=by
    clear h1 h2 h4 h5 hd hK hy;induction xs with
    |nil=>rfl
    |cons x r ih =>
     simp only[Yl]at h3;cases hx:Aj7 x with
     |false=>simp[hx]at h3
     |true =>
      simp only[hx,Bna]at h3;have:N3 x.a=true:=by unfold Aj7 at hx;split at hx<;>first|rfl|cases hx
      simp only[Ae,Ch,this,ih h3,Bpe]
   have:=Ap3 (X:=X) (xs:=Ae xs) ho hc hd (by rw[Aq,h1];simp) hda rfl;rw[Kd];exact this
  |some z =>
   simp only[A9]at hK;cases h6:J4 [m] st with
   |false=>simp[h6]at hK
   |true =>
    simp only[h6,Bna]at hK;have hm1:=A1f hm;refine⟨_,hK,⟨h4,?_,fun j x hj hx=>?_⟩⟩
    ·refine Ca.drop (m:=m) ?_ hm1;have h6x:=h6;have hoc:Agt (Ab.B6 m st.X) X0 (O1 t z.1) (nf [(1,m)]) [m]:=by
      refine⟨⟨rfl,rfl⟩,by simp[X0],by simp[X0],by simp[O1,Adn],by simp[O1],by simp[X0],?_,by simp[X0],?_⟩
      ·intro p hp;simp only[O1,Bnw]at hp;subst hp;exact .inr ⟨by simp[nf],by simp[nf,Ab.B6,En]⟩
      ·have h6:=O8 h6x;unfold Br at h6⊢;simp only[Brt,Bs6]at h6⊢;rw[Bok]at h6⊢;intro p hp;simp only[Ab.B6,Bo9]at hp;exact h6 p hp.1
     have We:=Aes (X:=Ab.B6 m st.X) [(1,m)] [m] ho hc hd hoc (by rw[Aq,h1];simp) (A3z h3) rfl;rw[Adl h3,← Kd]at We;have e7:Pv (nf [(1,m)]) (O1 t z.1).objs (Ab.B6 m st.X).objs=Ab.setObj m (Af.arr t z.1).o (Ab.B6 m st.X).objs:=by simp only[O1,Pv,Adm];rfl
     rw[e7]at We;have e8:E2 (nf [(1,m)]) (.osl 1 0 z.2 t.size)=(XV.os m t 0 z.2).a:=by simp only[XV.a,Bqv];rfl
     rw[e8]at We;refine Ca.Bgp We ⟨fun j=>?_,rfl⟩;show(Ab.setObj m (Af.arr t z.1).o (Ab.B6 m st.X).objs).lookup j=(Aa ((m,Af.arr t z.1)::E3 m st.objs)).lookup j;rw[show Aa ((m,Af.arr t z.1)::E3 m st.objs)=(m,(Af.arr t z.1).o)::Aa (E3 m st.objs)from rfl,B5,Bot,Tm (Tn h6x)];by_cases hj:j=m
     ·subst hj;simp
     ·have:(j==m)=false:=by simpa using hj
      rw[Bnv hj,this];rfl
    ·simp only[Bnd,Boa,Bpa]at hj;rw[Eb hj]at hx;exact Wl hx
 ·cases h
def mkN{P:Program}{Γ:A6 (Ix P)}{own:A6 Nat}{N:Nat}(id:FuncId)(fn:Func)(an:An)(t:Ty)(ks:A6 AK)(F:Mx ks (A7 (A7 (List t.T×Nat))))(hm:P.follows .mixedOrders=true)(hf:P.funcs[id]? = some fn)
  (hc:F6 P id) (hn:Nat.ble ks.length fn.ntmps=true) (hE:runN P Γ own N fn an t ks=F):Ix P where
 id:=id
 run:=Bd1 (P:=P) t ks F
 ok:=by intro R o st Cm ts vs K r ho hv h;exact B2r hc (hE▸Azz hm hf hn) ho hv h
def Blk{P:Program}(id:FuncId)(t:Ty)(ks:A6 AK)(F:Mx ks (A7 (A7 (List t.T×Nat))))(hc:F6 P id)(hs:A6q (Ab5 P id t) ks F []):Ix P where
 id:=id
 run:=Bd1 (P:=P) t ks F
 ok:=by intro R o st Cm ts vs K r ho hv h;exact B2r hc hs ho hv h
open Go.Sort Go.Proofs
def Ty.Arp:(t:Ty)→t.T
 |.int _=>(0:Int)
 |.u8=>(0:UInt8)
 |.bool=>false
 |.str=>([]:A6 UInt8)
 |.sl _=>[]
 |.unit=>()
 |.pair a b=>(a.Arp,b.Arp)
 |.st1 a=>a.Arp
 |.tab _=>[]
 |.err=>false
 |.ic _ _=>none
 |.ptr=>()
def Bgq:D→Value
 |.sc v=>v
 |_=>undef
def A1v:A6 D→Bool
 |[]=>true
 |.sc _::r=>A1v r
 |_::_=>false
theorem Aja:∀ {l:A6 D},A1v l=true→(l.map Bgq).map .sc=l
 |[],_=>rfl
 |.sc v::r,h=>by simp only[Bnh,Bgq];rw[Aja (l:=r) h]
 |.agg _::r,h=>by simp[A1v]at h
 |.sl _ _::r,h=>by simp[A1v]at h
 |.ep _::r,h=>by simp[A1v]at h
 |.any _::r,h=>by simp[A1v]at h
def Ty.Uh(t:Ty)(x:t.T):A6 Value:=(t.ds x).map Bgq
structure Ty.Plain(t:Ty):Prop where
 ok:∀x:t.T,A1v (t.ds x)=true
theorem Ty.Plain.Uh(h:t.Plain)(x:t.T):(t.Uh x).map D.sc=t.ds x:=Aja (h.ok x)
def Ty.A42(t:Ty)(x:t.T):(t.Uh x).length=t.size:=by simp[Ty.Uh,Ty.Df]
def Ty.Plain.flat(h:t.Plain)(l:List t.T):((l.map t.Uh).flatten.map fun v=>AV.d (.sc v))=((l.map t.ds).flatten.map .d):=by
 induction l with
 |nil=>rfl
 |cons x r ih =>simp only[Bnh,Bph,Bo4,ih];rw[← h.Uh x,Bq6];rfl
@[reducible] def Anu (T:Ty):Inhabited T.T:=⟨T.Arp⟩
structure Anv(P:Program)(f c:FuncId)(T:Ty)(φ:List T.T→List T.T):Prop where
 plain:T.Plain
 ci:F6 P f
 len:∀d,(φ d).length=d.length
 none:∀p cap w,Calls P f #[.slice p 0 cap,.func (.func c) #[] #[]] w fun e w'=>e = .returned (.tuple #[])∧w'=w
 some:letI:=Anu T;∀(l:List T.T) blk cap w,l.length≤4611686018427387903→HoldsK T.Uh T.size w blk 0 l.toArray→blk<w.heap.size →
  Calls P f #[.slice (some ⟨blk,0,.none⟩) l.length cap,.func (.func c) #[] #[]] w fun e w'=>e = .returned (.tuple #[])∧∃n os,w'=sortWorldK T.Uh T.size w blk 0 n (φ l).toArray os
def Ab6{P:Program}{R:Type}(c:FuncId)(T:Ty)(φ:A6 T.T→A6 T.T)(o:Oper)(st:Ak)(vs:A6 XV)(K:Out→A7 R):A7 R :=
 match Cj o,vs with
 |[s,x],[v,.Ek c' []]=>cond (Nat.beq c' c) (match v with
  |.os k t a len=>match lk k st.objs with
   |some (.arr u l)=>if h:u.Jx T=true then cond (t.Jx T) (cond (Nat.beq a 0) (cond (Nat.ble len l.length) (cond (Nat.ble len 4611686018427387903)
     (K ⟨.put k (.arr T (φ ((Ty.Av h▸l:A6 T.T).take len)++(Ty.Av h▸l:A6 T.T).drop len)),.Er [],[(s,.os k T 0 len),(x,.Ek c [])],
      Mw k (.arr T (φ ((Ty.Av h▸l:A6 T.T).take len)++(Ty.Av h▸l:A6 T.T).drop len)) st.objs,st.live,[],[k]⟩) none) none) none) none else none
   |_=>none
  |v=>match S9 (.sl T) v with
   |some []=>K (Bu st (.Er []) [(s,.d (.sl T [])),(x,.Ek c [])])
   |_=>none) none
 |_,_=>none
def B00{R:Type}{f c:FuncId}{T:Ty}{φ:A6 T.T→A6 T.T}(hS:Anv P f c T φ){K:Out→A7 R}{r:R}
  (ho:o.op = .call { callee:=.value (.func f),args:=Cm,argTypes:=ts }) (hv:Ci st Cm.toList=some vs) (h:Ab6 (P:=P) c T φ o st vs K=some r):∃out,K out=some r∧Cr P o st out:=by
 have e:Cj o=Cm.toList:=by simp[Cj,ho]
 unfold Ab6 at h;rw[e]at h;split at h
 ·rename_i s x v c' hl;have ho':o.op = .call { callee:=.value (.func f),args:=#[s,x],argTypes:=ts }:=by rw[ho,← hl]
  rw[hl]at hv;obtain⟨hs,hv⟩:=Ht hv;obtain⟨hx,_⟩:=Ht hv;cases h1:Nat.beq c' c with
  |false=>simp[h1]at h
  |true =>
  have e1:=Bne h1;subst e1;simp only[h1,Bna]at h;have sx:Fc st.im x (.Ek c' []):=Ax hx;split at h
  ·rename_i k t a len;split at h
   ·rename_i u l hk;split at h
    ·rename_i hu;have e2:=Ty.Av hu;subst e2;cases h2:t.Jx u with
     |false=>simp[h2]at h
     |true =>
     cases h3:Nat.beq a 0 with
     |false=>simp[h2,h3]at h
     |true =>
     cases h4:Nat.ble len l.length with
     |false=>simp[h2,h3,h4]at h
     |true =>
     cases h5:Nat.ble len 4611686018427387903 with
     |false=>simp only[h2,h3,h4,h5,Bna,Bnc]at h;cases h
     |true =>
      simp only[h2,h3,h4,h5,Bna]at h;have e3:=Ty.Av h2;have e4:=Bne h3;have e5:=Bnu h4;have e6:=Bnu h5;subst e3;subst e4;refine⟨_,h,⟨?_,⟨⟨Kc hk rfl rfl,rfl⟩,rfl,rfl,fun X hX=>?_⟩,?_⟩⟩
      ·intro p hp;simp only[Bc,Bnh,Bo8,Bnd,Boa,Bpa]at hp;rcases hp with rfl|rfl
       ·exact Ax hs
       ·exact sx
      ·have P7:X.objs.lookup k=some (.cells ((l.map t.Uh).flatten.map fun v=>.d (.sc v)) none):=by rw[hX,show st.X.objs.lookup k=_ from Q1 hk,hS.plain.flat];rfl
       have key:Ca P o (Bc [(s,.os k t 0 len),(x,.Ek c' [])]) X ⟨Ab.setObj k (Af.arr t (φ (l.take len)++l.drop len)).o X.objs,X.live⟩ [] (XV.Er []).a:=by
        letI:=Anu t;have:=B7y (X:=X) (enc:=t.Uh) (sz:=t.size) t.A42 φ ho' hS.ci P7 e5 hS.len hS.none (fun blk cap w hH hb=>by
         have hd:(l.take len).length=len:=by simp;omega
         have:=hS.some (l.take len) blk cap w (by omega) hH hb;rw[hd]at this;exact this)
        rw[hS.plain.flat]at this;simp only[Bc,Bnh,Bo8,XV.a,Bqv,Ae];exact this
       exact key
      ·intro j y hj hy;simp only[Bnw]at hj;rw[O9 _ _ _ _ hj]at hy;exact hy
    ·cases h
   ·cases h
  ·rename_i v hne;split at h
   ·rename_i hd;refine⟨_,h,Ag ?_ fun X=>?_⟩
    ·intro p hp;simp only[Bc,Bnh,Bo8,Bnd,Boa,Bpa]at hp;rcases hp with rfl|rfl
     ·exact Sj hs hd
     ·exact sx
    ·exact Aey ho' hS.ci hS.none
   ·cases h
 ·cases h
def mkSort{P:Program}{f c:FuncId}{T:Ty}{φ:A6 T.T→A6 T.T}(hS:Anv P f c T φ):Ix P where
 id:=f
 run:=Ab6 (P:=P) c T φ
 ok:=by intro R o st Cm ts vs K r ho hv h;exact B00 hS ho hv h
def A8a(t:Ty)(bytes:Nat)(l:List t.T):A7 (A7 (List t.T×Nat)) :=
 Fl l (some none) fun y r=>cond (Au (y::r).length bytes) (some (some (y::r,(y::r).length))) none
def Ab5.empty{f:FuncId}(h:Ab5 P f t (some ([],0)) xs):Ab5 P f t none xs:=by
 intro g w vs hr hl ha;refine(h g w vs hr hl ha).mono ?_;rintro e w' ⟨g',v,rfl,h1,h2⟩;refine⟨g',v,rfl,?_,?_⟩
 ·obtain⟨cap,o,_,hv,_⟩:=RA.T6 h1;rw[hv];exact .d _ _ (.nil _ _ _ (by simp))
 ·refine(h2.B6 (k:=1) (by simp[X0])).alike ⟨fun j=>?_,rfl⟩;simp only[O1,Ab.B6,X0];by_cases hj:j=1
  ·subst hj;rfl
  ·rfl
def Avo{f:FuncId}{bytes:Nat}(hm:P.follows .mixedOrders=true)(hf:P.funcs[f]? = some fn)(hn:Nat.ble 1 fn.ntmps=true)
  (h1:∀y r,Afi P [] own N fn an t [.d (.sl t (y::r))]=cond (Au (0+(y::r).length) bytes) (some (some ([]++y::r,0+(y::r).length))) none)
  (h2:Afi P [] own N fn an t [.d (.v (.slice none 0 0))]=some none) (h3:∀a cap,Afi P [] own N fn an t [.d (.v (.slice (some a) 0 cap))]=some (some ([],0))) :
  A6q (Ab5 P f t) [.d (.sl t)] (A8a t bytes) []:=by
 intro l y hy;cases l with
 |cons x r =>simp only[A8a,Fl]at hy;have h1':=h1 x r;rw[Bog,Bou]at h1';rw[← h1']at hy;exact Ym hm hf hn hy
 |nil =>
  simp only[A8a,Fl,Bnf]at hy;subst hy;have k2:=Ym (xs:=[.d (.v (.slice none 0 0))]) hm hf hn h2;have k3:=fun a cap=>(Ym (xs:=[.d (.v (.slice (some a) 0 cap))]) hm hf hn (h3 a cap)).empty
  intro g w vs hr hl ha;have Jq:vs.size=1:=by rw[← hl];rfl
  have e0:=ha 0 _ vs[0] rfl (by simp[Jq]);generalize hv:vs[0]=v at e0;have hp:∃p cap,v = .slice p 0 cap∧(p=none→cap=0):=by
   cases e0 with
   |d _ _ h =>
    cases h with
    |nil _ p cap h0=>exact⟨_,_,rfl,h0⟩
    |sl _ _ b off len cap hl=>subst hl;exact⟨_,_,rfl,by simp⟩
  obtain⟨p,cap,rfl,h0⟩:=hp;have args:∀x:XV,RA g w x.a (.slice p 0 cap)→∀(i:Nat) z u,(Ae [x])[i]? = some z→vs[i]? = some u→RA g w z u:=by
   intro x hx i z u hz hu;cases i with
   |zero =>
    simp only[Ae,Bre,Bnf]at hz;subst hz;have:u=vs[0]:=by rw[Bob (by omega)]at hu;exact(Br6 hu).symm
    rw[this,hv];exact hx
   |succ i=>simp[Ae]at hz
  cases p with
  |none =>have:=h0 rfl;subst this;exact k2 g w vs hr (by simpa[Ae]using hl) (args _ (.d _ _ (.sc _)))
  |some a=>exact k3 a cap g w vs hr (by simpa[Ae]using hl) (args _ (.d _ _ (.sc _)))
def Ab5.frozen{f:FuncId}{z:List t.T×Nat}(h:Ab5 P f t (some z) xs)(hz:z.2≤z.1.length):Does P f (Ae xs) X0 (.d (.sl t.size ((z.1.take z.2).map t.ds))) X0:=by
 intro g w vs hr hl ha;refine(h g w vs hr hl ha).mono ?_;rintro e w' ⟨g',v,rfl,h1,h2⟩;obtain⟨f1,f2,f3⟩:=HR.freeze (k:=1) (sz:=t.size) (es:=z.1.map t.ds) (ty:=none) h2 (by simp[X0]) rfl (by
  intro i cs hc;rw[Bni,Bnn]at hc;obtain⟨y,_,rfl⟩:=hc;exact t.Df y)
 refine⟨_,v,rfl,?_,f1.alike ⟨fun j=>?_,rfl⟩⟩
 ·have:=f3 0 z.2 v (by simpa using hz) (by simpa using h1);rw[Bqk,← Br2]at this;exact this
 ·simp only[O1,Ab.B6,X0];by_cases hj:j=1
  ·subst hj;rfl
  ·rfl
def Ajb(t:Ty)(bytes:Nat)(l:List t.T):A7 (List t.T) :=
 Fl l (some []) fun y r=>cond (Au (y::r).length bytes) (some (y::r)) none
def Arq{f:FuncId}{bytes:Nat}(h:A6q (Ab5 P f t) [.d (.sl t)] (A8a t bytes) []):A89 P f [.sl t] [.sl t] (Ajb t bytes) []:=by
 intro l y hy;cases l with
 |nil =>simp only[Ajb,Fl,Bnf]at hy;subst hy;exact h [] none rfl
 |cons x r =>
  simp only[Ajb,Fl]at hy;cases hb:Au (x::r).length bytes with
  |false=>simp only[hb,Bnc]at hy;cases hy
  |true =>simp only[hb,Bna,Bnf]at hy;subst hy;have:=h (x::r) (some (x::r,(x::r).length)) (by simp only[A8a,Fl,hb,Bna]);have:=this.frozen (Bno _);rw[Boh]at this;exact this
theorem A43:∀ {l:A6 AV} (ks:A6 Nat),Ch l=true→Ch ((ks.zip l).map (·.2))=true
 |[],ks,_=>by cases ks<;>rfl
 |x::r,[],_=>rfl
 |x::r,k::ks,h=>by
  simp only[Ch,Boo]at h;simp only[Bqe,Bnh,Ch,Boo];exact⟨h.1,A43 ks h.2⟩
def glE:A6 Nat→A6 XV→A6 (Nat×XV)
 |k::ks,x::r=>(GB+k,x)::glE ks r
 |_,_=>[]
theorem Arr:∀ {M8:A6 Nat} {xs:A6 XV} {t:Nat} {x:AV},(t,x)∈Eo (glE M8 xs)→∃k,t=GB+k∧(k,x)∈M8.zip (Ae xs)
 |[],xs,t,x,h=>by simp[glE,Eo]at h
 |k::ks,[],t,x,h=>by simp[glE,Eo]at h
 |k::ks,y::r,t,x,h=>by
  simp only[glE,Eo,Bnh,Bnd,Bo2]at h;rcases h with ⟨rfl,rfl⟩|h
  ·exact⟨k,rfl,by simp[Ae]⟩
  ·obtain⟨k',h1,h2⟩:=Arr (M8:=ks) (xs:=r) (t:=t) (x:=x) (by simpa[Eo]using h);exact⟨k',h1,by simp only[Ae,Bqe];exact Bnl _ h2⟩
def B01:A6 Nat→A6 Operand
 |[]=>[]
 |k::r=>.global k::B01 r
def Ab7(l:A6 Nat):B01 l=l.map Operand.global:=by
 induction l with
 |nil=>rfl
 |cons k r ih=>simp[B01,ih]
def B02{α:Type}:A6 α→A6 α→A6 α
 |[],b=>b
 |x::r,b=>x::B02 r b
def Agz{α:Type}(a b:A6 α):B02 a b=a++b:=by
 induction a with
 |nil=>rfl
 |cons x r ih=>simp[B02,ih]
theorem Pk{st:Ak}:∀ {a b:A6 Operand} {u v:A6 XV},Ci st a=some u→Ci st b=some v→Ci st (a++b)=some (u++v)
 |[],b,u,v,h,h'=>by simp[Ci]at h;subst h;exact h'
 |x::a,b,u,v,h,h'=>by
  simp only[Ci]at h;split at h
  ·rename_i y l hy hl;cases h;simp only[Bpw,Ci,hy,Pk hl h']
  ·cases h
mutual
def XV.mp(f fl:Nat→Nat):XV→XV
 |.d x=>.d x
 |.nm k p=>.nm (f k) p
 |.Cv n t l ty=>.Cv (fl n) t l ty
 |.Er l=>.Er (mpL f fl l)
 |.agg l=>.agg (mpL f fl l)
 |.Ek g l=>.Ek g (mpL f fl l)
 |.os k t a len=>.os (f k) t a len
 |.el k t i fo=>.el (f k) t i fo
 |.tpt n e x l=>.tpt (fl n) e x l
def mpL(f fl:Nat→Nat):List XV→List XV
 |[]=>[]
 |x::r=>x.mp f fl::mpL f fl r
end
mutual
theorem XV.Bgr(f fl:Nat→Nat):∀x:XV,(x.mp f fl).a=Sc f fl x.a
 |.d x=>rfl
 |.nm k p=>rfl
 |.Cv n t l ty=>rfl
 |.Er l=>by simp only[XV.mp,XV.a,Sc,Afk f fl l]
 |.agg l=>by simp only[XV.mp,XV.a,Sc,Afk f fl l]
 |.Ek g l=>by simp only[XV.mp,XV.a,Sc,Afk f fl l]
 |.os k t a len=>rfl
 |.el k t i fo=>rfl
 |.tpt n e x l=>rfl
theorem Afk(f fl:Nat→Nat):∀l:List XV,Ae (mpL f fl l)=Pa f fl (Ae l)
 |[]=>rfl
 |x::r=>by simp only[mpL,Ae,Pa,XV.Bgr f fl x,Afk f fl r]
end
def Ab8(f fl:Nat→Nat)(l:A6 XV):mpL f fl l=l.map (XV.mp f fl):=by
 induction l with
 |nil=>rfl
 |cons x r ih=>simp[mpL,ih]
mutual
def XV.nms(ks ls:List Nat):XV→Bool
 |.d _=>true
 |.nm k _=>inl k ks
 |.Cv n _ _ _=>inl n ls
 |.Er l=>A8b ks ls l
 |.agg l=>A8b ks ls l
 |.Ek _ l=>A8b ks ls l
 |.os k _ _ _=>inl k ks
 |.el k _ _ _=>inl k ks
 |.tpt n _ _ _=>inl n ls
def A8b(ks ls:List Nat):List XV→Bool
 |[]=>true
 |x::r=>cond (x.nms ks ls) (A8b ks ls r) false
end
def A5t{l:A6 Nat}(h:inl k l=true):l.contains k=true:=Boq.2 ((E7 k l).1 h)
mutual
theorem XV.B9k{ks ls:List Nat}:∀ {x:XV},x.nms ks ls=true→Hf ks ls x.a=true
 |.d x,h=>rfl
 |.nm k p,h=>A5t h
 |.Cv n t l ty,h=>A5t h
 |.Er l,h=>by simp only[XV.nms]at h;simp only[XV.a,Hf];exact A8c h
 |.agg l,h=>by simp only[XV.nms]at h;simp only[XV.a,Hf];exact A8c h
 |.Ek g l,h=>by simp only[XV.nms]at h;simp only[XV.a,Hf];exact A8c h
 |.os k t a len,h=>A5t h
 |.el k t i fo,h=>A5t h
 |.tpt n e x l,h=>A5t h
theorem A8c{ks ls:List Nat}:∀ {l:List XV},A8b ks ls l=true→L9 ks ls (Ae l)=true
 |[],h=>rfl
 |x::r,h=>by
  simp only[A8b]at h;cases hx:x.nms ks ls with
  |false=>simp[hx]at h
  |true =>simp only[hx,Bna]at h;simp only[Ae,L9,XV.B9k hx,A8c h,Bpe]
end
def Af.mp(f fl:Nat→Nat):Af→Af
 |.cells cs ty=>.cells (mpL f fl cs) ty
 |.arr t l=>.arr t l
 |.Vw s p=>.Vw s p
 |.map kt vt es c=>.map kt vt es c
 |.Kn m a b c=>.Kn (f m) a b c
 |.E5=>.E5
 |.bts e l=>.bts e l
 |.Cx L kt vt es c=>.Cx L kt vt es c
 |.abs h S ty x=>.abs h S ty x
def Af.B9l(f fl:Nat→Nat)(o:Af):(o.mp f fl).plain=o.plain:=by cases o<;>rfl
theorem A44(f fl:Nat→Nat):∀l:A6 D,Pa f fl (l.map .d)=l.map .d
 |[]=>rfl
 |x::r=>by simp only[Bnh,Pa,Sc,A44 f fl r]
def Af.Bgs(f fl:Nat→Nat){o:Af}(h:o.plain=true):(o.mp f fl).o=Mj f fl o.o:=by
 cases o with
 |abs=>cases h
 |cells cs ty=>simp only[Af.mp,Af.o,Mj,Afk]
 |arr t l=>simp only[Af.mp,Af.o,Mj,A44]
 |bts e l=>simp only[Af.mp,Af.o,Mj,A44]
 |_=>rfl
def Af.nms(ks ls:A6 Nat):Af→Bool
 |.cells cs _=>A8b ks ls cs
 |.Kn m _ _ _=>inl m ks
 |.Cx _ _ _ _ _=>false
 |.abs _ _ _ _=>false
 |_=>true
def Af.Anw{ks:A6 Nat}{o:Af}(h:o.nms ks ls=true):o.plain=true:=by cases o<;>first|rfl|cases h
theorem Z9(ks ls:A6 Nat):∀l:A6 D,L9 ks ls (l.map .d)=true
 |[]=>rfl
 |x::r=>by simp only[Bnh,L9,Hf,Z9 ks ls r,Bpe]
def Af.Bj6{ks:A6 Nat}{o:Af}(h:o.nms ks ls=true):Kb ks ls o.o=true:=by
 cases o with
 |cells cs ty=>simp only[Af.nms]at h;simp only[Af.o,Kb];exact A8c h
 |arr t l=>simp only[Af.o,Kb];exact Z9 _ _ _
 |bts e l=>simp only[Af.o,Kb];exact Z9 _ _ _
 |Kn m a b c=>exact A5t h
 |Cx L kt vt es c=>simp[Af.nms]at h
 |abs=>cases h
 |_=>rfl
def Vh(ks ls:A6 Nat):A6 (Nat×Af)→Bool
 |[]=>true
 |p::r=>cond (p.2.nms ks ls) (Vh ks ls r) false
theorem Mf{ks ls:A6 Nat}:∀ {l:A6 (Nat×Af)},Vh ks ls l=true→E9 l=true
 |[],_=>rfl
 |p::r,h=>by
  obtain⟨h1,h2⟩:=Ap (a:=p.2.nms ks ls) (b:=Vh ks ls r) h;simp only[E9,Af.Anw h1,Bna];exact Mf h2
theorem A8d{ks ls:A6 Nat}:∀ {l:A6 (Nat×Af)},Vh ks ls l=true→((Aa l).all fun p=>Kb ks ls p.2)=true
 |[],_=>rfl
 |p::r,h=>by
  simp only[Vh]at h;cases hx:p.2.nms ks ls with
  |false=>simp[hx]at h
  |true =>simp only[hx,Bna]at h;have:=A8d h;rw[Auc (by simp only[E9,Af.Anw hx,Bna];exact Mf h)];simp only[Btv,Af.Bj6 hx,Bqb];exact this
def Ab9(f fl:Nat→Nat):A6 (Nat×Af)→A6 (Nat×Af)→A6 (Nat×Af)
 |[],acc=>acc
 |p::r,acc=>Ab9 f fl r (Mw (f p.1) (p.2.mp f fl) acc)
theorem Ajc(f fl:Nat→Nat):∀ {l acc:A6 (Nat×Af)},E9 l=true→E9 acc=true→Aa (Ab9 f fl l acc)=Da f fl (Aa l) (Aa acc)
 |[],acc,_,_=>rfl
 |p::r,acc,hl,ha=>by
  obtain⟨h1,h2⟩:=Ap (a:=p.2.plain) (b:=E9 r) hl;have hp:(p.2.mp f fl).plain=true:=by rw[Af.B9l];exact h1
  have:=Ajc f fl (l:=r) (acc:=Mw (f p.1) (p.2.mp f fl) acc) h2 (A7w hp ha);rw[B88 hp ha,Af.Bgs f fl h1]at this;rw[Auc hl];exact this
theorem Afl(f fl:Nat→Nat):∀(l acc:A6 (Nat×Af)) (j:Nat),(∀p∈l,f p.1≠j)→lk j (Ab9 f fl l acc)=lk j acc
 |[],acc,j,h=>rfl
 |p::r,acc,j,h=>by
  simp only[Ab9];rw[Afl f fl r _ j (fun q hq=>h q (Bnl _ hq)),O9 _ _ _ _ (fun e=>h p (Bnm ..) e.symm)]
inductive Agj:Ob→Ob→Prop
 |refl (o:Ob):Agj o o
 |cells {cs Xv:List AV} {ty Xy:Option TypeId}:cs.length=Xv.length→(∀(i:Nat) x y,cs[i]? = some x→Xv[i]? = some y→Z2 x y)→(Xy=ty∨Xy=none)→Agj (.cells cs ty) (.cells Xv Xy)
 |Cx (L sz:Nat) (l:List (Nat×Value×Bool×List (List D))) (c:Nat):Agj (.Cx L sz l c) (.map (Uf sz l) c)
def Ajd{b:Nat}{o o':Ob}(h:Ce g w b o)(hle:Agj o o'):Ce g w b o':=by
 cases hle with
 |refl=>exact h
 |Cx L sz l c =>
  cases h with
  |Cx _ _ _ _ es a1 a2 a3 a4 a5 =>
   refine .map _ c es a1 (by simpa[Uf]using a2) ?_ ?_ ?_
   ·intro i x e hx he;simp only[Uf,Bni,Bnn]at hx;obtain⟨y,hy,rfl⟩:=hx;obtain⟨b1,b2,b3,_⟩:=a3 i y e hy he;exact⟨b1,b2,b3⟩
   ·intro q hq;simp only[Uf,Bnp]at hq;obtain⟨y,hy,rfl⟩:=hq;exact a4 y hy
   ·simpa[Uf,Bq6,Bqr]using a5
 |cells hl hc ht =>
  cases h with
  |cells _ _ arr T h1 h2 h3 h4 =>
   refine .cells _ _ arr T h1 (hl▸h2) ?_ ?_
   ·intro i y v hy hv;have By:=(Bnj.1 hy).1;obtain⟨x,hx⟩:∃x,_=some x:=⟨_,Bng (l:=_) (i:=i) (by rw[hl];exact By)⟩;exact hc i x y hx hy g w v (h3 i x v hx hv)
   ·intro t hh;rcases ht with e|e
    ·exact h4 t (e▸hh)
    ·rw[e]at hh;cases hh
def B2s{B:B8}(h:HR nm B g w X)(hle:∀k o',Y.objs.lookup k=some o'→∃o,X.objs.lookup k=some o∧Agj o o')
  (hk:∀k,(X.objs.lookup k).isSome→(Y.objs.lookup k).isSome) (hl:Y.live=X.live):HR nm B g w Y where
 Cc k hm:=⟨(h.Cc k hm).1,hk k (h.Cc k hm).2⟩
 Iw:=h.Iw
 base:=h.base
 io:=h.io
 le:=h.le
 frame:=h.frame
 objs k o' ho:=by obtain⟨o,h1,h2⟩:=hle k o' ho;exact Ajd (h.objs k o h1) h2
 Fi k o' ho:=by obtain⟨o,h1,h2⟩:=hle k o' ho;exact h.Fi k o h1
 C1 k k' o o' ho ho':=by obtain⟨_,h1,_⟩:=hle k o ho;obtain⟨_,h2,_⟩:=hle k' o' ho';exact h.C1 k k' _ _ h1 h2
 Cf k o' ho:=by obtain⟨o,h1,h2⟩:=hle k o' ho;exact h.Cf k o h1
 live n:=by rw[hl];exact h.live n
 Cq:=h.Cq
 Bz n b k o' hn ho:=by obtain⟨o,h1,h2⟩:=hle k o' ho;exact h.Bz n b k o hn h1
 D0:=h.D0
 D9:=h.D9
 eta:=h.eta.same (Bno _) fun k o' ho=>let ⟨o,h1,_⟩:=hle k o' ho;⟨o,h1⟩
def B9m{rd:A6 (Operand×AV)}(h:Ca P o rd Y X' F res)(hle:∀k o',Y.objs.lookup k=some o'→∃o,X.objs.lookup k=some o∧Agj o o')
  (hk:∀k,(X.objs.lookup k).isSome→(Y.objs.lookup k).isSome) (hl:Y.live=X.live):Ca P o rd X X' F res :=
 fun nm G3 B g w a hr=>h nm G3 B g w a (B2s hr hle hk hl)
variable{args:Array Operand}
def Agk{fn:FuncId}{c:Operand}{xs Jp:A6 AV}(f fl:Nat→Nat)(F:A6 Nat)
  (ho:o.op = .call { callee:=.value c,args:=args,argTypes:=ts }) (hf:F6 P fn) (hs:Does P fn (xs++Jp) Xc res Dg) (hc:A17 X Xc Dg f fl F)
  (hl:xs.length=args.size) (hd:L9 (Xc.objs.map (·.1)) Xc.live (xs++Jp)=true) (Y6:Hf (Dg.objs.map (·.1)) Dg.live res=true) :
  Ca P o ((c,.Ek fn (Pa f fl Jp))::args.toList.zip (Pa f fl xs)) X ⟨Da f fl Dg.objs X.objs,Hx fl X Xc Dg⟩ F (Sc f fl res):=by
 intro nm G3 B g w a hr Bg next Q hn
 have e1:=Lz Bg;simp only at e1;unfold Oper.wp;generalize hcv:a.eval c=vc at e1;cases e1 with
 |Ek _ _ vs hlen Qx =>
  have:(execOp a.eval o).run P w = .ok (.enter fn (args.map a.eval++vs)) w:=by simp only[execOp,ho,resolve];simp[hcv,Deferred.ofValue,invoke,Dl hf]
  rw[this];have hm:∀l m:A6 AV,Pa f fl (l++m)=Pa f fl l++Pa f fl m:=fun l m=>by rw[Jc,Jc,Jc,Bo4]
  have hml:(Pa f fl xs).length=args.size:=by rw[Jc,Bo1,hl]
  have hmc:Jp.length=vs.size:=by rw[Jc,Bo1]at hlen;exact hlen
  refine(hs.Ape hc hd Y6 hr (vs:=args.map a.eval++vs) (by simp[hl,hmc]) ?_).mono ?_
  ·intro i x v hx hv;rw[hm,Boz]at hx;split at hx
   ·rename_i By;rw[Bqj (by simp;omega)]at hv;exact Zt (fun p hp=>Bg p (Bnl _ hp)) i x v hx hv
   ·rename_i hge;rw[Brn (by simp;omega)]at hv;refine Qx _ x v hx ?_;rw[hml];simpa using hv
  ·rintro e w' ⟨v,g',rfl,h1,h2,h3⟩;exact hn g' w' v h1 h2 h3
def Am8{fn:FuncId}{M8:A6 Nat}{xs ys:A6 AV}(f fl:Nat→Nat)(F:A6 Nat)
  (ho:o.op = .call { callee:=.value (.func fn),args:=args,argTypes:=ts }) (hf:F6 P fn) (hs:Aex P fn xs (M8.zip ys) Xc res Dg) (hc:A17 X Xc Dg f fl F)
  (hl:xs.length=args.size) (hd:L9 (Xc.objs.map (·.1)) Xc.live xs=true) (hy:Ch ys=true) (Y6:Hf (Dg.objs.map (·.1)) Dg.live res=true) :
  Ca P o (args.toList.zip (Pa f fl xs)++(M8.map Operand.global).zip ys) X ⟨Da f fl Dg.objs X.objs,Hx fl X Xc Dg⟩ F (Sc f fl res):=by
 intro nm G3 B g w a hr Bg next Q hn
 unfold Oper.wp;have:(execOp a.eval o).run P w = .ok (.enter fn (args.map a.eval)) w:=by simp only[execOp,ho,resolve];simp[Act.eval,Deferred.ofValue,invoke,Dl hf]
 rw[this];have hG:GH g w (M8.zip ys):=by
  intro p hp;have h1:(Operand.global p.1,p.2)∈(M8.map Operand.global).zip ys:=by rw[List.zip_map_left,Bnp];exact⟨p,hp,rfl⟩
  exact Bg _ (Bnz _ h1)
 refine(hs.Ape (A43 _ hy) hc hd Y6 hr hG (by simpa using hl) (Zt fun p hp=>Bg p (Bo0 _ hp))).mono ?_;rintro e w' ⟨v,g',rfl,h1,h2,h3⟩;exact hn g' w' v h1 h2 h3
inductive AS where
 |d (t:Ty)
 |p (k off:Nat)
 |os (k:Nat) (t:Ty)
 |Ek (f:Nat) (ps:List (Nat×Nat))
 |oa (k a:Nat) (t:Ty)
 |g (k:Nat) (t:Ty)
 |nil (p:Bool)
def Ars:A6 AS→A6 Nat
 |[]=>[]
 |.g k _::r=>k::Ars r
 |_::r=>Ars r
def A8e:A6 AS→Nat
 |[]=>0
 |.g _ _::_=>0
 |_::r=>A8e r+1
structure H8 where
 args:List AS
 objs:List (Nat×List VK×Option TypeId)
 Rc:List (Nat×OK)
 out:Cut
def H8.names(S:H8):A6 Nat:=Ir S.objs++Fm S.Rc
def H8.Ej(S:H8):A6 Nat:=A1o S.objs
def H8.M8(S:H8):A6 Nat:=Ars S.args
def H8.n(S:H8):Nat:=A8e S.args
def H8.s0(S:H8)(xs:A6 XV)(objs:A6 (Nat×Af)):Ak:=⟨Adj 0 (xs.take S.n)++glE S.M8 (xs.drop S.n),objs,S.Ej,[],[]⟩
def Avp(p:Bool):XV:=.d (.v (cond p (.pointer none) (.map none)))
def Art(p:Bool):XV→Bool
 |.d (.v (.pointer none))=>p
 |.d (.v (.map none))=>!p
 |_=>false
def B5d{p:Bool}(h:Art p v=true):v=Avp p:=by
 unfold Art at h;split at h
 ·subst h;rfl
 ·cases p with
  |false=>rfl
  |true=>cases h
 ·cases h
@[reducible] def Ado:A6 AS→Type→Type
 |[],R=>R
 |.d t::r,R=>t.T→Ado r R
 |.p _ _::r,R=>Ado r R
 |.os _ _::r,R=>Nat→Ado r R
 |.oa _ _ _::r,R=>Nat→Ado r R
 |.Ek _ _::r,R=>Ado r R
 |.g _ t::r,R=>t.T→Ado r R
 |.nil _::r,R=>Ado r R
@[reducible] def Aje:A6 VK→Type→Type
 |[],R=>R
 |.d t::r,R=>t.T→Aje r R
 |.p _ _::r,R=>Aje r R
 |.z _ _::r,R=>Bool→Aje r R
 |.os _ _::r,R=>Nat→Aje r R
 |.Ld::r,R=>Aje r R
 |.Cv _ t _::r,R=>List t.T→Aje r R
@[reducible] def B5e:A6 (Nat×A6 VK×A7 TypeId)→Type→Type
 |[],R=>R
 |p::r,R=>Aje p.2.1 (B5e r R)
@[reducible] def B5f:A6 (Nat×OK)→Type→Type
 |[],R=>R
 |p::r,R=>p.2.T→B5f r R
@[reducible] def H8.Cw (S:H8) (R:Type):Type:=Ado S.args (B5e S.objs (B5f S.Rc R))
def psX(ps:A6 (Nat×Nat)):A6 XV:=ps.map fun p=>.nm p.1 (A04 p.2)
def A45{α:Type}:(l:A6 AS)→(A6 XV→α)→A6 XV→Ado l α
 |[],f,acc=>f acc
 |.d t::r,f,acc=>fun y=>A45 r f (acc++[.d (t.xv y)])
 |.p k off::r,f,acc=>A45 r f (acc++[.nm k (A04 off)])
 |.os k t::r,f,acc=>fun n=>A45 r f (acc++[.os k t 0 n])
 |.oa k a t::r,f,acc=>fun n=>A45 r f (acc++[.os k t a n])
 |.Ek g ps::r,f,acc=>A45 r f (acc++[.Ek g (psX ps)])
 |.g _ t::r,f,acc=>fun y=>A45 r f (acc++[.d (t.xv y)])
 |.nil p::r,f,acc=>A45 r f (acc++[Avp p])
def Am9{α:Type}:(l:A6 VK)→(A6 XV→α)→A6 XV→Aje l α
 |[],f,acc=>f acc
 |.d t::r,f,acc=>fun y=>Am9 r f (acc++(t.enc y).map .d)
 |.p k off::r,f,acc=>Am9 r f (acc++[.nm k (A04 off)])
 |.z k off::r,f,acc=>fun b=>Am9 r f (acc++[.nm k (.z b off)])
 |.os k t::r,f,acc=>fun n=>Am9 r f (acc++[.os k t 0 n])
 |.Ld::r,f,acc=>Am9 r f (acc++[.d (.v (.map none))])
 |.Cv n t ty::r,f,acc=>fun l=>Am9 r f (acc++[.Cv n t l ty])
def Bgt{α:Type}:(l:A6 (Nat×A6 VK×A7 TypeId))→(A6 (Nat×Af)→α)→A6 (Nat×Af)→B5e l α
 |[],f,acc=>f acc
 |p::r,f,acc=>Am9 p.2.1 (fun cs=>Bgt r f (acc++[(p.1,.cells cs p.2.2)])) []
def Bgu{α:Type}:(l:A6 (Nat×OK))→(A6 (Nat×Af)→α)→A6 (Nat×Af)→B5f l α
 |[],f,acc=>f acc
 |p::r,f,acc=>fun l=>Bgu r f (acc++[(p.1,p.2.ob l)])
def A2t{β:Type}(Q:β→A6 XV→Prop):(l:A6 AS)→Ado l β→A6 XV→Prop
 |[],F,acc=>Q F acc
 |.d t::r,F,acc=>∀y:t.T,A2t Q r (F y) (acc++[.d (t.xv y)])
 |.p k off::r,F,acc=>A2t Q r F (acc++[.nm k (A04 off)])
 |.os k t::r,F,acc=>∀n:Nat,A2t Q r (F n) (acc++[.os k t 0 n])
 |.oa k a t::r,F,acc=>∀n:Nat,A2t Q r (F n) (acc++[.os k t a n])
 |.Ek g ps::r,F,acc=>A2t Q r F (acc++[.Ek g (psX ps)])
 |.g _ t::r,F,acc=>∀y:t.T,A2t Q r (F y) (acc++[.d (t.xv y)])
 |.nil p::r,F,acc=>A2t Q r F (acc++[Avp p])
def Ajf{β:Type}(Q:β→A6 XV→Prop):(l:A6 VK)→Aje l β→A6 XV→Prop
 |[],F,acc=>Q F acc
 |.d t::r,F,acc=>∀y:t.T,Ajf Q r (F y) (acc++(t.enc y).map .d)
 |.p k off::r,F,acc=>Ajf Q r F (acc++[.nm k (A04 off)])
 |.z k off::r,F,acc=>∀b:Bool,Ajf Q r (F b) (acc++[.nm k (.z b off)])
 |.os k t::r,F,acc=>∀n:Nat,Ajf Q r (F n) (acc++[.os k t 0 n])
 |.Ld::r,F,acc=>Ajf Q r F (acc++[.d (.v (.map none))])
 |.Cv n t ty::r,F,acc=>∀l:List t.T,Ajf Q r (F l) (acc++[.Cv n t l ty])
def Bd2{β:Type}(Q:β→A6 (Nat×Af)→Prop):(l:A6 (Nat×A6 VK×A7 TypeId))→B5e l β→A6 (Nat×Af)→Prop
 |[],F,acc=>Q F acc
 |p::r,F,acc=>Ajf (fun F' cs=>Bd2 Q r F' (acc++[(p.1,.cells cs p.2.2)])) p.2.1 F []
def Bd3{β:Type}(Q:β→A6 (Nat×Af)→Prop):(l:A6 (Nat×OK))→B5f l β→A6 (Nat×Af)→Prop
 |[],F,acc=>Q F acc
 |p::r,F,acc=>∀l:p.2.T,Bd3 Q r (F l) (acc++[(p.1,p.2.ob l)])
theorem Ts{α:Type}{Q:α→A6 XV→Prop}{f:A6 XV→α}(m:Nat)(h:∀acc,acc.length=m→Q (f acc) acc):∀(l:A6 AS) (acc:A6 XV),acc.length+l.length=m→A2t Q l (A45 l f acc) acc
 |[],acc,hm=>h acc (by simpa using hm)
 |.d t::r,acc,hm=>fun y=>Ts m h r _ (by simp at hm⊢;omega)
 |.p k off::r,acc,hm=>by
  simp only[A2t,A45];exact Ts m h r (acc++[.nm k (A04 off)]) (by simp at hm⊢;omega)
 |.os k t::r,acc,hm=>fun n=>Ts m h r _ (by simp at hm⊢;omega)
 |.oa k a t::r,acc,hm=>fun n=>Ts m h r _ (by simp at hm⊢;omega)
 |.Ek g ps::r,acc,hm=>by
  simp only[A2t,A45];exact Ts m h r (acc++[.Ek g (psX ps)]) (by simp at hm⊢;omega)
 |.g _ t::r,acc,hm=>fun y=>Ts m h r _ (by simp at hm⊢;omega)
 |.nil p::r,acc,hm=>by
  simp only[A2t,A45];exact Ts m h r (acc++[Avp p]) (by simp at hm⊢;omega)
theorem Wu{α:Type}{Q:α→A6 XV→Prop}{f:A6 XV→α}(h:∀acc,Q (f acc) acc):∀(l:A6 VK) (acc:A6 XV),Ajf Q l (Am9 l f acc) acc
 |[],acc=>h acc
 |.d t::r,acc=>fun y=>Wu h r _
 |.p k off::r,acc=>by
  simp only[Ajf,Am9];exact Wu h r (acc++[.nm k (A04 off)])
 |.z k off::r,acc=>fun b=>Wu h r _
 |.os k t::r,acc=>fun n=>Wu h r _
 |.Ld::r,acc=>by
  simp only[Ajf,Am9];exact Wu h r (acc++[.d (.v (.map none))])
 |.Cv n t ty::r,acc=>fun l=>Wu h r _
theorem Avq{α:Type}{Q:α→A6 (Nat×Af)→Prop}{f:A6 (Nat×Af)→α}(ns:A6 Nat)(h:∀acc,acc.map (·.1)=ns→Q (f acc) acc):∀(l:A6 (Nat×A6 VK×A7 TypeId)) (acc:A6 (Nat×Af)),acc.map (·.1)++Ir l=ns→Bd2 Q l (Bgt l f acc) acc
 |[],acc,hm=>h acc (by simpa[Ir]using hm)
 |p::r,acc,hm=>Wu (fun cs=>Avq ns h r _ (by simpa[Ir]using hm)) p.2.1 []
theorem Avr{α:Type}{Q:α→A6 (Nat×Af)→Prop}{f:A6 (Nat×Af)→α}(ns:A6 Nat)(h:∀acc,acc.map (·.1)=ns→Q (f acc) acc):∀(l:A6 (Nat×OK)) (acc:A6 (Nat×Af)),acc.map (·.1)++Fm l=ns→Bd3 Q l (Bgu l f acc) acc
 |[],acc,hm=>h acc (by simpa[Fm]using hm)
 |p::r,acc,hm=>fun l=>Avr ns h r _ (by simpa[Fm]using hm)
section
variable(P:Program)(Γ:A6 (Ix P))(own:A6 Nat)(N:Nat)(fn:Func)(an:An)(S:H8)
def Bd4(S:H8)(xs:A6 XV)(objs:A6 (Nat×Af))(s:Ak):A7 S.out.T:=proj S.names (Wr (S.s0 xs objs) S.out) S.out s
def Bj7(S:H8)(xs:A6 XV)(objs:A6 (Nat×Af)):Exit→Ak→A7 S.out.T
 |.ret,s=>Bd4 S xs objs s
 |.normal,s=>Bd4 S xs objs s
 |_,_=>none
def B9n(xs:A6 XV)(objs:A6 (Nat×Af)):A7 S.out.T :=
 match fn.body with
 |some c=>cond (Nat.ble fn.ntmps GB) (cond (E9 objs) (exec P Γ own S.names fn.ntmps N c an (S.s0 xs objs) (Bj7 S xs objs)) none) none
 |none=>none
def Bd5:S.Cw (A7 S.out.T):=A45 S.args (fun xs=>Bgt S.objs (fun os=>Bgu S.Rc (fun os'=>B9n P Γ own N fn an S xs os') os) []) []
end
def B9o(P:Program)(f:FuncId)(fn:Func)(S:H8)(y:S.out.T)(xs:A6 XV)(objs:A6 (Nat×Af)):Prop :=
 objs.map (·.1)=S.names∧E9 objs=true∧∀rs,Ab0 P (gen (S.s0 xs objs) S.out y) fn.results.toList=some rs→Aex P f (Ae (xs.take S.n)) (S.M8.zip (Ae (xs.drop S.n))) ⟨Aa objs,S.Ej⟩ (Ml rs).a (gen (S.s0 xs objs) S.out y).X
def B9p(P:Program)(f:FuncId)(fn:Func)(S:H8)(F:S.Cw (A7 S.out.T)):Prop :=
 A2t (fun F' xs=>Bd2 (fun F'' os=>Bd3 (fun F3 os'=>∀y,F3=some y→B9o P f fn S y xs os') S.Rc F'' os) S.objs F' []) S.args F []
def A8f:A6 Nat→Bool
 |[]=>true
 |n::r=>cond (Nat.blt n 1000) (A8f r) false
theorem Afm:∀ {l:A6 Nat},A8f l=true→∀j∈l,j<1000
 |[],_=>by simp
 |n::r,h=>by
  simp only[A8f]at h;cases hb:Nat.blt n 1000 with
  |false=>simp[hb]at h
  |true =>
   simp only[hb,Bna]at h;intro j hj;rcases Bnd.1 hj with rfl|hj
   ·simpa[Bpb]using hb
   ·exact Afm h j hj
def Aba(S:H8):Bool:=match S.out.Yg with
 |[]=>true
 |_=>false
def Hp(h:E9 l=true):(Aa l).map (·.1)=l.map (·.1):=by rw[A3b h];simp
variable{S:H8}
def Avs{Γ:A6 (Ix P)}{f:FuncId}{y:S.out.T}(hm:P.follows .mixedOrders=true)(hf:P.funcs[f]? = some fn)
  (hn:xs.length≤fn.ntmps) (G3:A8f S.names=true) (hks:Aba S=true) (A46:objs.map (·.1)=S.names) (h:B9n P Γ own N fn an S xs objs=some y):B9o P f fn S y xs objs:=by
 unfold B9n at h;split at h
 ·rename_i c hc;obtain⟨hG,h⟩:=Avi h;cases hna:E9 objs with
  |false=>rw[hna]at h;cases h
  |true =>
  rw[hna,Bna]at h;have hs:=Ws (S:=⟨fn.ntmps,S.names,Afm G3⟩) hm rfl c an _ _ _ _ (.refl _) h;have Blm:S.out.Yg=[]:=by
   unfold Aba at hks;split at hks
   ·assumption
   ·cases hks
  refine⟨A46,hna,fun rs hrs=>?_⟩;intro g w vs hr hgs hl ha;have Uv:(Aa objs).map (·.1)=S.names:=by rw[Hp hna,A46]
  refine Btq hf hc (Bsn (hs (B8.of g w ⟨Aa objs,S.Ej⟩) g w _ ?_) ?_)
  ·rw[Aq,Bof]at hl;refine⟨rfl,?_,?_,?_⟩
   ·simp;omega
   ·have:=hr;rw[Uv]at this;exact this
   ·intro s x hx;have hx':(Eo (Adj 0 (xs.take S.n))++Eo (glE S.M8 (xs.drop S.n))).lookup s=some x:=by rw[Eo,Eo,← Bo4];exact hx
    rw[Bpp,Ab1]at hx';cases h1:(A30 0 (Ae (xs.take S.n))).lookup s with
    |some x1 =>
     rw[h1]at hx';simp only[Brh,Bnf]at hx';subst hx';obtain⟨_,hx'⟩:=R0 h1;rw[Bpy]at hx';have By:s<vs.size:=by have:=(Bnj.1 hx').1;rw[Aq,Bof]at this;omega
     refine⟨vs[s],?_,ha s x1 _ hx' (by simp[By])⟩;rw[Qj (by omega)];simp[Brq,By]
    |none =>rw[h1]at hx';simp only[Brx]at hx';obtain⟨k,rfl,hk⟩:=Arr (D3 hx');exact⟨_,A7n k,hgs _ hk⟩
  ·rintro e a' w' ⟨s,g',⟨Bw,rfl,hi,hk⟩,Hv⟩;have fin:Bd4 S xs objs Bw=some y →
     a'.defers=[]∧∃v,(results fn a'.tmps).run P w' = .ok v w'∧∃g' v_1,Ending.returned v=Ending.returned v_1∧RA g' w' (Ml rs).a v_1∧HR ((Aa objs).map (·.1)) (B8.of g w ⟨Aa objs,S.Ej⟩) g' w' (gen (S.s0 xs objs) S.out y).X:=by
    intro h;unfold Bd4 at h;obtain⟨g'',Aj3⟩:=W4 h (by rw[Blm];simp) (fun k _ x hk hx=>hi.objs k x hk hx) Hv rfl;obtain⟨v,hv,Xt⟩:=Qk (Vf hrs) Aj3;rw[← Sg]at Xt;exact⟨Aj3.defers,v,hv,g'',v,rfl,Xt,by rw[Uv];exact Aj3.hr⟩
   cases e with
   |ret=>exact fin hk
   |normal=>exact fin hk
   |_=>simp[Bj7]at hk
 ·cases h
def B03{Γ:A6 (Ix P)}{f:FuncId}(hm:P.follows .mixedOrders=true)(hf:P.funcs[f]? = some fn)
  (hn:Nat.ble S.args.length fn.ntmps=true) (G3:A8f S.names=true) (hks:Aba S=true):B9p P f fn S (Bd5 P Γ own N fn an S):=by
 unfold B9p Bd5;refine Ts S.args.length (fun xs hxs=>?_) S.args [] (by simp);refine Avq (Ir S.objs) (fun os hos=>?_) S.objs [] (by simp);refine Avr S.names (fun os' Bln=>?_) S.Rc os (by rw[hos];rfl);intro y hy;exact Avs hm hf (by have:=Bnu hn;omega) G3 hks Bln hy
def Afn(k off:Nat):XV→Bool
 |.nm k' p=>cond (Nat.beq k' k) (B57 p off) false
 |_=>false
def Ajg(h:Afn k off v=true):v = .nm k (A04 off):=by
 unfold Afn at h;split at h
 ·rename_i k' Vc;cases h1:Nat.beq k' k with
  |false=>simp[h1]at h
  |true =>simp only[h1,Bna]at h;rw[Bne h1,B2f h]
 ·cases h
def Bd6(k:Nat)(t:Ty):XV→A7 Nat
 |.os k' t' a n=>cond (Nat.beq k' k) (cond (t'.Jx t) (cond (Nat.beq a 0) (some n) none) none) none
 |_=>none
def B2t{n:Nat}(h:Bd6 k t v=some n):v = .os k t 0 n:=by
 unfold Bd6 at h;split at h
 ·rename_i k' t' a m;cases h1:Nat.beq k' k with
  |false=>simp[h1]at h
  |true =>
  cases h2:t'.Jx t with
  |false=>simp[h1,h2]at h
  |true =>
  cases h3:Nat.beq a 0 with
  |false=>simp[h1,h2,h3]at h
  |true =>simp only[h1,h2,h3,Bna,Bnf]at h;rw[Bne h1,Ty.Av h2,Bne h3,h]
 ·cases h
def B9q(k a:Nat)(t:Ty):XV→A7 Nat
 |.os k' t' a' n=>cond (Nat.beq k' k) (cond (t'.Jx t) (cond (Nat.beq a' a) (some n) none) none) none
 |_=>none
def B9r{a:Nat}{n:Nat}(h:B9q k a t v=some n):v = .os k t a n:=by
 unfold B9q at h;split at h
 ·rename_i k' t' a' m;cases h1:Nat.beq k' k with
  |false=>simp[h1]at h
  |true =>
  cases h2:t'.Jx t with
  |false=>simp[h1,h2]at h
  |true =>
  cases h3:Nat.beq a' a with
  |false=>simp[h1,h2,h3]at h
  |true =>simp only[h1,h2,h3,Bna,Bnf]at h;rw[Bne h1,Ty.Av h2,Bne h3,h]
 ·cases h
def Adp(f:Nat→Nat):A6 (Nat×Nat)→A6 XV→Bool
 |[],[]=>true
 |p::ps,c::cs=>cond (Afn (f p.1) p.2 c) (Adp f ps cs) false
 |_,_=>false
theorem Anx{f fl:Nat→Nat}:∀ {ps:A6 (Nat×Nat)} {cs:A6 XV},Adp f ps cs=true→cs=mpL f fl (psX ps)
 |[],[],_=>rfl
 |[],_::_,h=>by simp[Adp]at h
 |_::_,[],h=>by simp[Adp]at h
 |p::ps,c::cs,h=>by
  simp only[Adp]at h;cases h1:Afn (f p.1) p.2 c with
  |false=>simp[h1]at h
  |true =>simp only[h1,Bna]at h;have e:=Anx (fl:=fl) h;rw[Ajg h1,e];rfl
def Aru(f:Nat→Nat)(g:Nat)(ps:A6 (Nat×Nat)):XV→Bool
 |.Ek g' Jp=>cond (Nat.beq g' g) (Adp f ps Jp) false
 |_=>false
def B5g{g:Nat}{ps:A6 (Nat×Nat)}(h:Aru f g ps v=true):v=(XV.Ek g (psX ps)).mp f fl:=by
 unfold Aru at h;split at h
 ·rename_i g' Jp;cases h1:Nat.beq g' g with
  |false=>simp[h1]at h
  |true =>simp only[h1,Bna]at h;rw[Bne h1,Anx (fl:=fl) h];rfl
 ·cases h
inductive Tt(f fl:Nat→Nat):List XV→List XV→Prop
 |nil:Tt f fl [] []
 |dat {t:Ty} {v:XV} {y:t.T} {vs xs:List XV}:S9 t v=some y→Tt f fl vs xs→Tt f fl (v::vs) (.d (t.xv y)::xs)
 |same {v x:XV} {vs xs:List XV}:v=x.mp f fl→Tt f fl vs xs→Tt f fl (v::vs) (x::xs)
def Tt.app(h:Tt f fl a b)(h':Tt f fl c d):Tt f fl (a++c) (b++d):=by
 induction h with
 |nil=>exact h'
 |dat h1 _ ih=>exact .dat h1 ih
 |same h1 _ ih=>exact .same h1 ih
theorem Tt.length(h:Tt f fl a b):a.length=b.length:=by
 induction h with
 |nil=>rfl
 |dat _ _ ih=>simp[ih]
 |same _ _ ih=>simp[ih]
theorem Tt.split:∀ {a c xs:A6 XV},Tt f fl (a++c) xs→∃b d,xs=b++d∧Tt f fl a b∧Tt f fl c d
 |[],c,xs,h=>⟨[],xs,rfl,.nil,h⟩
 |v::a,c,xs,h=>by
  rw[Bpw]at h;cases h with
  |dat h1 h2 =>obtain⟨b,d,rfl,h3,h4⟩:=Tt.split h2;exact⟨_::b,d,rfl,.dat h1 h3,h4⟩
  |same h1 h2 =>obtain⟨b,d,rfl,h3,h4⟩:=Tt.split h2;exact⟨_::b,d,rfl,.same h1 h3,h4⟩
def Adq:A6 XV→Bool
 |[]=>true
 |.nm _ _::r=>Adq r
 |_::_=>false
theorem Tt.Jp:∀ {cs xs:A6 XV},Tt f fl cs xs→Adq cs=true→cs=mpL f fl xs
 |[],xs,h,_=>by cases h;rfl
 |v::cs,xs,h,hn=>by
  cases v with
  |nm k p =>
   simp only[Adq]at hn;cases h with
   |dat h1 h2=>simp[S9]at h1
   |same h1 h2=>rw[h1,Tt.Jp h2 hn];rfl
  |_=>simp[Adq]at hn
theorem Tt.V8:∀ {ops:A6 Operand} {vs xs:A6 XV},Ci st ops=some vs→Tt f fl vs xs→∀p∈Bc (ops.zip (mpL f fl xs)),Fc st.im p.1 p.2
 |[],vs,xs,hv,h=>by simp[Bc]
 |x::ops,[],xs,hv,h=>by have:=I3 hv;simp at this
 |x::ops,v::vs,xs,hv,h=>by
  obtain⟨hx,Qx⟩:=Ht hv;cases h with
  |dat h1 h2 =>
   intro p hp;simp only[mpL,Bqe,Bc,Bnh,Bnd]at hp;rcases hp with rfl|hp
   ·exact Sj hx h1
   ·exact Tt.V8 Qx h2 p hp
  |same h1 h2 =>
   intro p hp;simp only[mpL,Bqe,Bc,Bnh,Bnd]at hp;rcases hp with rfl|hp
   ·rw[← h1];exact Ax hx
   ·exact Tt.V8 Qx h2 p hp
def M9{β R:Type}(f:Nat→Nat):(l:A6 AS)→Ado l β→A6 XV→A6 XV→(β→A6 XV→A7 R)→A7 R
 |[],F,[],acc,K=>K F acc
 |.d t::r,F,v::vs,acc,K=>match S9 t v with
  |some y=>M9 f r (F y) vs (acc++[.d (t.xv y)]) K
  |none=>none
 |.p k off::r,F,v::vs,acc,K=>cond (Afn (f k) off v) (M9 f r F vs (acc++[.nm k (A04 off)]) K) none
 |.os k t::r,F,v::vs,acc,K=>match Bd6 (f k) t v with
  |some n=>M9 f r (F n) vs (acc++[.os k t 0 n]) K
  |none=>none
 |.oa k a t::r,F,v::vs,acc,K=>match B9q (f k) a t v with
  |some n=>M9 f r (F n) vs (acc++[.os k t a n]) K
  |none=>none
 |.Ek g ps::r,F,v::vs,acc,K=>cond (Aru f g ps v) (M9 f r F vs (acc++[.Ek g (psX ps)]) K) none
 |.g _ t::r,F,v::vs,acc,K=>match S9 t v with
  |some y=>M9 f r (F y) vs (acc++[.d (t.xv y)]) K
  |none=>none
 |.nil p::r,F,v::vs,acc,K=>cond (Art p v) (M9 f r F vs (acc++[Avp p]) K) none
 |_,_,_,_,_=>none
theorem Pl{β R:Type}{Q:β→A6 XV→Prop}{f fl:Nat→Nat}{K:β→A6 XV→A7 R}{r:R}:∀(l:A6 AS) (F:Ado l β) (vs us acc:A6 XV),A2t Q l F acc→Tt f fl us acc→M9 f l F vs acc K=some r →
  ∃F' xs,Q F' xs∧Tt f fl (us++vs) xs∧K F' xs=some r
 |[],F,[],us,acc,hg,hr,h=>⟨F,acc,hg,by simpa using hr,h⟩
 |[],F,_::_,us,acc,hg,hr,h=>by simp[M9]at h
 |.d t::l,F,[],us,acc,hg,hr,h=>by simp[M9]at h
 |.p k off::l,F,[],us,acc,hg,hr,h=>by simp[M9]at h
 |.os k t::l,F,[],us,acc,hg,hr,h=>by simp[M9]at h
 |.Ek g ps::l,F,[],us,acc,hg,hr,h=>by simp[M9]at h
 |.g k t::l,F,[],us,acc,hg,hr,h=>by simp[M9]at h
 |.oa k a t::l,F,[],us,acc,hg,hr,h=>by simp[M9]at h
 |.nil p::l,F,[],us,acc,hg,hr,h=>by simp[M9]at h
 |.nil p::l,F,v::vs,us,acc,hg,hr,h=>by
  simp only[M9]at h;cases hp:Art p v with
  |false=>simp[hp]at h
  |true =>simp only[hp,Bna]at h;obtain⟨F',xs,h1,h2,h3⟩:=Pl l F vs (us++[v]) (acc++[Avp p]) hg (hr.app (.same (x:=Avp p) (by rw[B5d hp];rfl) .nil)) h;exact⟨F',xs,h1,by simpa using h2,h3⟩
 |.oa k a t::l,F,v::vs,us,acc,hg,hr,h=>by
  simp only[M9]at h;split at h
  ·rename_i n hn;obtain⟨F',xs,h1,h2,h3⟩:=Pl l (F n) vs (us++[v]) _ (hg n) (hr.app (.same (x:=.os k t a n) (B9r hn) .nil)) h;exact⟨F',xs,h1,by simpa using h2,h3⟩
  ·cases h
 |.g k t::l,F,v::vs,us,acc,hg,hr,h=>by
  simp only[M9]at h;split at h
  ·rename_i y hy;obtain⟨F',xs,h1,h2,h3⟩:=Pl l (F y) vs (us++[v]) _ (hg y) (hr.app (.dat hy .nil)) h;exact⟨F',xs,h1,by simpa using h2,h3⟩
  ·cases h
 |.d t::l,F,v::vs,us,acc,hg,hr,h=>by
  simp only[M9]at h;split at h
  ·rename_i y hy;obtain⟨F',xs,h1,h2,h3⟩:=Pl l (F y) vs (us++[v]) _ (hg y) (hr.app (.dat hy .nil)) h;exact⟨F',xs,h1,by simpa using h2,h3⟩
  ·cases h
 |.p k off::l,F,v::vs,us,acc,hg,hr,h=>by
  simp only[M9]at h;cases hp:Afn (f k) off v with
  |false=>simp[hp]at h
  |true =>simp only[hp,Bna]at h;obtain⟨F',xs,h1,h2,h3⟩:=Pl l F vs (us++[v]) (acc++[.nm k (A04 off)]) hg (hr.app (.same (x:=.nm k (A04 off)) (Ajg hp) .nil)) h;exact⟨F',xs,h1,by simpa using h2,h3⟩
 |.os k t::l,F,v::vs,us,acc,hg,hr,h=>by
  simp only[M9]at h;split at h
  ·rename_i n hn;obtain⟨F',xs,h1,h2,h3⟩:=Pl l (F n) vs (us++[v]) _ (hg n) (hr.app (.same (x:=.os k t 0 n) (B2t hn) .nil)) h;exact⟨F',xs,h1,by simpa using h2,h3⟩
  ·cases h
 |.Ek g ps::l,F,v::vs,us,acc,hg,hr,h=>by
  simp only[M9]at h;cases hp:Aru f g ps v with
  |false=>simp[hp]at h
  |true =>simp only[hp,Bna]at h;obtain⟨F',xs,h1,h2,h3⟩:=Pl l F vs (us++[v]) (acc++[.Ek g (psX ps)]) hg (hr.app (.same (B5g hp) .nil)) h;exact⟨F',xs,h1,by simpa using h2,h3⟩
def Za:XD→Bool
 |.v _=>false
 |.ic _ _ _=>false
 |_=>true
def Is:A6 XD→Bool
 |[]=>true
 |x::r=>cond (Za x) (Is r) false
def Hq{x:XD}{r:A6 XD}(h:Is (x::r)=true):Za x=true∧Is r=true:=by
 simp only[Is]at h;cases hx:Za x with
 |false=>simp[hx]at h
 |true=>simp only[hx,Bna]at h;exact⟨rfl,h⟩
def B5h:∀(t:Ty) {cs:A6 XD} {x:t.T} {r:A6 XD},Is cs=true→t.dec cs=some (x,r)→Dm cs=t.ds x++Dm r∧Is r=true:=by
 intro t;induction t with
 |int k =>
  intro cs x r hp h;simp only[Ty.dec]at h;unfold Bc6 at h;split at h
  ·rename_i k' n r';cases hk:M4 k' k with
   |false=>simp[hk]at h
   |true =>have:=Hi hk;subst this;simp only[hk,Bna,Bnf,Bo2]at h;obtain⟨rfl,rfl⟩:=h;exact⟨rfl,(Hq hp).2⟩
  ·rename_i x' r';cases hk:M4 .u8 k with
   |false=>simp[hk]at h
   |true =>have:=Hi hk;subst this;simp only[hk,Bna,Bnf,Bo2]at h;obtain⟨rfl,rfl⟩:=h;exact⟨rfl,(Hq hp).2⟩
  ·cases h
 |u8 =>
  intro cs x r hp h;simp only[Ty.dec]at h;unfold B1n at h;split at h
  ·cases h;exact⟨rfl,(Hq hp).2⟩
  ·cases h
 |bool =>
  intro cs x r hp h;simp only[Ty.dec]at h;unfold Bc7 at h;split at h
  ·cases h;exact⟨rfl,(Hq hp).2⟩
  ·cases h
 |str =>
  intro cs x r hp h;simp only[Ty.dec]at h;unfold Bc8 at h;split at h
  ·cases h;exact⟨rfl,(Hq hp).2⟩
  ·cases h
 |sl t ih =>
  intro cs x r hp h;simp only[Ty.dec]at h;unfold Bc9 at h;split at h
  ·rename_i t' l r';split at h
   ·rename_i ht;have e:=Ty.Av ht;subst e;cases h;exact⟨rfl,(Hq hp).2⟩
   ·cases h
  ·simp[Is,Za]at hp
  ·simp[Is,Za]at hp
  ·cases h
 |unit =>intro cs x r hp h;simp[Ty.dec]at h;subst h;exact⟨rfl,hp⟩
 |pair a b iha ihb =>
  intro cs x r hp h;unfold Ty.dec at h;split at h
  ·rename_i p hpa;split at h
   ·rename_i q hq;cases h;obtain⟨h1,h2⟩:=iha (x:=p.1) (r:=p.2) hp hpa;obtain⟨h3,h4⟩:=ihb (x:=q.1) (r:=q.2) h2 hq;exact⟨by rw[h1,h3];simp[Ty.ds],h4⟩
   ·cases h
  ·cases h
 |st1 a iha =>intro cs x r hp h;exact iha hp h
 |tab t ih =>
  intro cs x r hp h;simp only[Ty.dec]at h;unfold Bca at h;split at h
  ·rename_i t' l r';split at h
   ·rename_i ht;have e:=Ty.Av ht;subst e;cases h;exact⟨rfl,(Hq hp).2⟩
   ·cases h
  ·cases h
 |err =>
  intro cs x r hp h;simp only[Ty.dec]at h;unfold Bcb at h;split at h
  ·cases h;exact⟨rfl,(Hq hp).2⟩
  ·simp[Is,Za]at hp
  ·simp[Is,Za]at hp
  ·cases h
 |ic t k =>
  intro cs x r hp h;simp only[Ty.dec]at h;unfold B1o at h;split at h
  ·simp[Is,Za]at hp
  ·simp[Is,Za]at hp
  ·cases h
 |ptr =>
  intro cs x r hp h;simp only[Ty.dec]at h;unfold Bcc at h;split at h
  ·cases h;exact⟨rfl,(Hq hp).2⟩
  ·simp[Is,Za]at hp
  ·cases h
def B9s(m:Nat)(t:Ty)(ty:A7 TypeId):XV→A7 (List t.T)
 |.Cv m' t' l Xy=>cond (Nat.beq m' m) (cond (Aar Xy ty) (if h:t'.Jx t=true then some (Ty.Av h▸l)else none) none) none
 |_=>none
def B9t{ty:A7 TypeId}{l:List t.T}(h:B9s m t ty v=some l):v = .Cv m t l ty:=by
 unfold B9s at h;split at h
 ·rename_i m' t' l' Xy;cases h1:Nat.beq m' m with
  |false=>simp[h1]at h
  |true =>
  cases h2:Aar Xy ty with
  |false=>simp[h1,h2]at h
  |true =>
   simp only[h1,h2,Bna]at h;split at h
   ·rename_i ht;have e:=Ty.Av ht;subst e;cases h;rw[Bne h1,Aiv h2]
   ·cases h
 ·cases h
def zOf(m off:Nat)(ex:Bool):XV→A7 Bool
 |.nm k' (.z b Vc)=>cond (Nat.beq k' m) (cond (Nat.beq Vc off) (some b) none) none
 |.nm k' (.p Vc)=>cond ex none (cond (Nat.beq k' m) (cond (Nat.beq Vc off) (some false) none) none)
 |.d (.v (.pointer none))=>cond ex none (some true)
 |_=>none
def A08(f fl:Nat→Nat)(ex:Bool)(cs xs:A6 XV):Prop:=S0 (Ae cs) (Ae (mpL f fl xs))∧(ex=true→Ae cs=Ae (mpL f fl xs))
theorem S0.refl:∀(l:A6 AV),S0 l l
 |[]=>.nil
 |x::r=>.cons (.refl x) (S0.refl r)
def S0.append{a b c d:A6 AV}(h:S0 a b)(h':S0 c d):S0 (a++c) (b++d):=by
 induction h with
 |nil=>exact h'
 |cons h1 _ ih=>exact .cons h1 ih
def Wv(f fl:Nat→Nat)(a b:A6 XV):mpL f fl (a++b)=mpL f fl a++mpL f fl b:=by simp[Ab8]
def A08.app(h:A08 f fl ex a b)(h':A08 f fl ex c d):A08 f fl ex (a++c) (b++d):=by
 refine⟨?_,fun e=>?_⟩
 ·rw[Eg,Wv,Eg];exact h.1.append h'.1
 ·rw[Eg,Wv,Eg,h.2 e,h'.2 e]
def A08.same(h:v=x.mp f fl):A08 f fl ex [v] [x]:=by subst h;exact⟨.refl _,fun _=>rfl⟩
def Yn(l:A6 XD):Ae (l.map .d)=(Dm l).map .d:=by rw[R4,Hj];simp[XV.a]
def Anz(f fl:Nat→Nat)(l:A6 XD):mpL f fl (l.map .d)=l.map .d:=by rw[Ab8];simp[XV.mp]
def Mk.as{a b:A6 D}(h:Mk a b):S0 (a.map .d) (b.map .d):=by
 induction h with
 |nil=>exact .nil
 |cons h1 _ ih=>exact .cons (Z2.d h1) ih
def A08.data{ds:A6 XD}{y:t.T}(h:t.dec ds=some (y,[]))(hex:ex=true→Is ds=true):A08 f fl ex (ds.map .d) ((t.enc y).map .d):=by
 refine⟨?_,fun e=>?_⟩
 ·obtain⟨ds',h1,h2⟩:=t.Wf h;rw[Anz,Yn,Yn,t.N7];simp only[Dm,Bom]at h1;rw[h1];exact h2.as
 ·obtain⟨h1,_⟩:=B5h t (hex e) h;rw[Anz,Yn,Yn,t.N7,h1];simp[Dm]
def Bd7{b:Bool}(h:zOf (f k) off ex v=some b):A08 f fl ex [v] [.nm k (.z b off)]:=by
 have mk:(∀(g:Gh) (w:World) (u:Value),RA g w v.a u→RA g w (XV.nm (f k) (.z b off)).a u)→(ex=true→v = .nm (f k) (.z b off))→A08 f fl ex [v] [.nm k (.z b off)]:=by intro h1 h2;refine⟨.cons h1 .nil,fun he=>?_⟩;rw[h2 he];rfl
 unfold zOf at h;split at h
 ·rename_i k' b' Vc;cases h1:Nat.beq k' (f k) with
  |false=>simp[h1]at h
  |true =>
   cases h2:Nat.beq Vc off with
   |false=>simp[h1,h2]at h
   |true =>simp only[h1,h2,Bna,Bnf]at h;have e1:=Bne h1;have e2:=Bne h2;subst e1;subst e2;subst h;exact mk (fun _ _ _ h=>h) (fun _=>rfl)
 ·rename_i k' Vc;cases hx:ex with
  |true=>simp[hx]at h
  |false =>
   rw[hx]at mk;cases h1:Nat.beq k' (f k) with
   |false=>simp[h1,hx]at h
   |true =>
    cases h2:Nat.beq Vc off with
    |false=>simp[h1,h2,hx]at h
    |true =>
     simp only[h1,h2,hx,Bna,Bnc,Bnf]at h;have e1:=Bne h1;have e2:=Bne h2;subst e1;subst e2;subst h;refine mk (fun g w u hr=>?_) (fun e=>by cases e);simp only[XV.a]at hr⊢;cases hr with
     |nm _ _ _ h=>exact .nm _ _ _ h
 ·cases hx:ex with
  |true=>simp[hx]at h
  |false =>
   rw[hx]at mk;simp only[hx,Bnc,Bnf]at h;subst h;refine mk (fun g w u hr=>?_) (fun e=>by cases e);simp only[XV.a,XD.d]at hr⊢;cases hr with
   |d _ _ h1=>cases h1;exact .nm _ _ _ rfl
 ·cases h
def Arv:XV→Bool
 |.d (.v (.map none))=>true
 |_=>false
def B5i(h:Arv v=true):v = .d (.v (.map none)):=by
 unfold Arv at h;split at h
 ·rfl
 ·cases h
def Pm{β R:Type}(f fl:Nat→Nat)(ex:Bool):(l:A6 VK)→Aje l β→A6 XV→A6 XV→(β→A6 XV→A7 R)→A7 R
 |[],F,[],acc,K=>K F acc
 |.d t::r,F,cs,acc,K=>match A3g (cs.take t.size) with
  |some ds=>cond (cond ex (Is ds) true) (match t.dec ds with
   |some (y,[])=>Pm f fl ex r (F y) (cs.drop t.size) (acc++(t.enc y).map .d) K
   |_=>none) none
  |none=>none
 |.p k off::r,F,c::cs,acc,K=>cond (Afn (f k) off c) (Pm f fl ex r F cs (acc++[.nm k (A04 off)]) K) none
 |.z k off::r,F,c::cs,acc,K=>match zOf (f k) off ex c with
  |some b=>Pm f fl ex r (F b) cs (acc++[.nm k (.z b off)]) K
  |none=>none
 |.Ld::r,F,c::cs,acc,K=>cond (Arv c) (Pm f fl ex r F cs (acc++[.d (.v (.map none))]) K) none
 |.os k t::r,F,c::cs,acc,K=>match Bd6 (f k) t c with
  |some n=>Pm f fl ex r (F n) cs (acc++[.os k t 0 n]) K
  |none=>none
 |.Cv n t ty::r,F,c::cs,acc,K=>match B9s (fl n) t ty c with
  |some l=>Pm f fl ex r (F l) cs (acc++[.Cv n t l ty]) K
  |none=>none
 |_,_,_,_,_=>none
theorem Ww{β R:Type}{Q:β→A6 XV→Prop}{f fl:Nat→Nat}{ex:Bool}{K:β→A6 XV→A7 R}{r:R}:∀(l:A6 VK) (F:Aje l β) (cs us acc:A6 XV),Ajf Q l F acc→A08 f fl ex us acc→Pm f fl ex l F cs acc K=some r →
  ∃F' xs,Q F' xs∧A08 f fl ex (us++cs) xs∧K F' xs=some r
 |[],F,[],us,acc,hg,hr,h=>⟨F,acc,hg,by simpa using hr,h⟩
 |[],F,_::_,us,acc,hg,hr,h=>by simp[Pm]at h
 |.p k off::l,F,[],us,acc,hg,hr,h=>by simp[Pm]at h
 |.Cv n t ty::l,F,[],us,acc,hg,hr,h=>by simp[Pm]at h
 |.z k off::l,F,[],us,acc,hg,hr,h=>by simp[Pm]at h
 |.os k t::l,F,[],us,acc,hg,hr,h=>by simp[Pm]at h
 |.Ld::l,F,[],us,acc,hg,hr,h=>by simp[Pm]at h
 |.Ld::l,F,c::cs,us,acc,hg,hr,h=>by
  simp only[Pm]at h;cases hp:Arv c with
  |false=>simp[hp]at h
  |true =>simp only[hp,Bna]at h;obtain⟨F',xs,h1,h2,h3⟩:=Ww l F cs (us++[c]) (acc++[.d (.v (.map none))]) hg (hr.app (.same (x:=.d (.v (.map none))) (by rw[B5i hp];rfl))) h;exact⟨F',xs,h1,by simpa using h2,h3⟩
 |.d t::l,F,cs,us,acc,hg,hr,h=>by
  unfold Pm at h;split at h
  ·rename_i ds hds;have hex:ex=true→Is ds=true:=by
    intro e;subst e;cases hp:Is ds with
    |true=>rfl
    |false=>simp[hp]at h
   have h:(match t.dec ds with
    |some (y,[])=>Pm f fl ex l (F y) (cs.drop t.size) (acc++(t.enc y).map .d) K
    |_=>none)=some r:=by
    cases hc:(cond ex (Is ds) true) with
    |true=>simpa[hc]using h
    |false=>simp[hc]at h
   split at h
   ·rename_i y hy;have e1:=Avf hds;have Bj8:=A08.data (f:=f) (fl:=fl) (ex:=ex) hy hex;rw[← e1]at Bj8;obtain⟨F',xs,h1,h2,h3⟩:=Ww l (F y) (cs.drop t.size) (us++cs.take t.size) _ (hg y) (hr.app Bj8) h;refine⟨F',xs,h1,?_,h3⟩;rw[Bqx,Bqs]at h2;exact h2
   ·cases h
  ·cases h
 |.p k off::l,F,c::cs,us,acc,hg,hr,h=>by
  simp only[Pm]at h;cases hp:Afn (f k) off c with
  |false=>simp[hp]at h
  |true =>simp only[hp,Bna]at h;obtain⟨F',xs,h1,h2,h3⟩:=Ww l F cs (us++[c]) (acc++[.nm k (A04 off)]) hg (hr.app (.same (x:=.nm k (A04 off)) (Ajg hp))) h;exact⟨F',xs,h1,by simpa using h2,h3⟩
 |.z k off::l,F,c::cs,us,acc,hg,hr,h=>by
  simp only[Pm]at h;split at h
  ·rename_i b hb;obtain⟨F',xs,h1,h2,h3⟩:=Ww l (F b) cs (us++[c]) _ (hg b) (hr.app (Bd7 hb)) h;exact⟨F',xs,h1,by simpa using h2,h3⟩
  ·cases h
 |.os k t::l,F,c::cs,us,acc,hg,hr,h=>by
  simp only[Pm]at h;split at h
  ·rename_i n hn;obtain⟨F',xs,h1,h2,h3⟩:=Ww l (F n) cs (us++[c]) _ (hg n) (hr.app (.same (x:=.os k t 0 n) (B2t hn))) h;exact⟨F',xs,h1,by simpa using h2,h3⟩
  ·cases h
 |.Cv n t ty::l,F,c::cs,us,acc,hg,hr,h=>by
  simp only[Pm]at h;split at h
  ·rename_i u hu;obtain⟨F',xs,h1,h2,h3⟩:=Ww l (F u) cs (us++[c]) _ (hg u) (hr.app (.same (x:=.Cv n t u ty) (B9t hu))) h;exact⟨F',xs,h1,by simpa using h2,h3⟩
  ·cases h
def InR(f fl:Nat→Nat)(ko:A6 Nat)(objs:A6 (Nat×Af))(p:Nat×Af):Prop :=
 ∃o,lk (f p.1) objs=some o∧Agj o.o (p.2.mp f fl).o∧(inl p.1 ko=true→o.o=(p.2.mp f fl).o)
def B2u{β R:Type}(f fl:Nat→Nat)(ko:A6 Nat)(objs:A6 (Nat×Af)):(l:A6 (Nat×A6 VK×A7 TypeId))→B5e l β→A6 (Nat×Af)→(β→A6 (Nat×Af)→A7 R)→A7 R
 |[],F,acc,K=>K F acc
 |p::r,F,acc,K=>match lk (f p.1) objs with
  |some (.cells cs ty)=>cond (Aar ty p.2.2) (Pm f fl (inl p.1 ko) p.2.1 F cs [] fun F' xs=>B2u f fl ko objs r F' (acc++[(p.1,.cells xs p.2.2)]) K) none
  |_=>none
def S0.obs{a b:A6 AV}{ty:A7 TypeId}(h:S0 a b):Agj (.cells a ty) (.cells b ty):=by refine .cells h.length (fun i x y hx hy=>?_) (.inl rfl);obtain⟨x',hx',hle⟩:=h.get hy;rw[hx]at hx';cases hx';exact hle
theorem Ajh{β R:Type}{Q:β→A6 (Nat×Af)→Prop}{f fl:Nat→Nat}{ko:A6 Nat}{objs:A6 (Nat×Af)}{K:β→A6 (Nat×Af)→A7 R}{r:R}:∀(l:A6 (Nat×A6 VK×A7 TypeId)) (F:B5e l β) (acc:A6 (Nat×Af)),Bd2 Q l F acc→(∀p∈acc,InR f fl ko objs p)→B2u f fl ko objs l F acc K=some r →
  ∃F' os,Q F' os∧(∀p∈os,InR f fl ko objs p)∧K F' os=some r
 |[],F,acc,hg,hr,h=>⟨F,acc,hg,hr,h⟩
 |q::l,F,acc,hg,hr,h=>by
  simp only[B2u]at h;split at h
  ·rename_i cs ty hk;cases ht:Aar ty q.2.2 with
   |false=>simp[ht]at h
   |true =>
    simp only[ht,Bna]at h;have e:=Aiv ht;subst e;obtain⟨F',xs,h1,h2,h3⟩:=Ww q.2.1 F cs [] [] hg ⟨.nil,fun _=>rfl⟩ h;refine Ajh l F' _ h1 ?_ h3;intro p hp;rcases Bnk.1 hp with hp|hp
    ·exact hr p hp
    ·simp only[Bnw]at hp;subst hp;refine⟨_,hk,?_,fun hh=>?_⟩
     ·simp only[Af.o,Af.mp];exact S0.obs h2.1
     ·simp only[Af.o,Af.mp];have:=h2.2 hh;rw[Bou]at this;rw[this]
  ·cases h
def OK.okc(f:Nat→Nat):OK→Bool
 |.Kn m=>Nat.beq (f m) m
 |.Cx _ _ _=>false
 |_=>true
def OK.B9u{o:OK}{y:o.T}(h:o.okc f=true):(o.ob y).mp f fl=o.ob y:=by
 cases o with
 |Kn m=>show Af.Kn (f m) _ _ _=_;rw[Bne h];rfl
 |Cx L k v=>simp[OK.okc]at h
 |_=>rfl
def B2v{β R:Type}(f:Nat→Nat)(objs:A6 (Nat×Af)):(l:A6 (Nat×OK))→B5f l β→A6 (Nat×Af)→(β→A6 (Nat×Af)→A7 R)→A7 R
 |[],F,acc,K=>K F acc
 |p::r,F,acc,K=>match lk (f p.1) objs with
  |some o=>match p.2.dec o with
   |some y=>cond (p.2.okc f) (B2v f objs r (F y) (acc++[(p.1,p.2.ob y)]) K) none
   |none=>none
  |none=>none
theorem Aji{β R:Type}{Q:β→A6 (Nat×Af)→Prop}{f fl:Nat→Nat}{ko:A6 Nat}{objs:A6 (Nat×Af)}{K:β→A6 (Nat×Af)→A7 R}{r:R}:∀(l:A6 (Nat×OK)) (F:B5f l β) (acc:A6 (Nat×Af)),Bd3 Q l F acc→(∀p∈acc,InR f fl ko objs p)→B2v f objs l F acc K=some r →
  ∃F' os,Q F' os∧(∀p∈os,InR f fl ko objs p)∧K F' os=some r
 |[],F,acc,hg,hr,h=>⟨F,acc,hg,hr,h⟩
 |q::l,F,acc,hg,hr,h=>by
  obtain⟨qk,qt⟩:=q;simp only[B2v]at h;split at h
  ·rename_i o hk;split at h
   ·rename_i y hy;cases hc:qt.okc f with
    |false=>simp[hc]at h
    |true =>
    simp only[hc,Bna]at h;refine Aji l _ _ (hg y) ?_ h;intro p hp;rcases Bnk.1 hp with hp|hp
    ·exact hr p hp
    ·simp only[Bnw]at hp;subst hp;refine⟨_,hk,?_,fun _=>?_⟩
     ·rw[OK.B9u hc,OK.Ara hy];exact .refl _
     ·rw[OK.B9u hc,OK.Ara hy]
   ·cases h
  ·cases h
def A6r(c:Cut)(y:c.T):A6 (Nat×Af):=Re c.objs y.2.1++(T9 c.own y.2.2.1++Mn c.Rc y.2.2.2)
def Avt(s0:Ak)(c:Cut)(y:c.T):(gen s0 c y).objs=A6r c y++N9 s0.objs c.Pj:=by simp[gen,A6r]
def Avu(ns:A6 Nat)(f:Nat→Nat)(F:A6 Nat)(objs:A6 (Nat×Af)):A6 (Nat×Af)→Bool
 |[]=>true
 |p::r=>cond (cond (inl p.1 ns) true (cond (inl (f p.1) F) (match lk (f p.1) objs with
  |none=>true
  |some _=>false) false)) (Avu ns f F objs r) false
theorem Ajj{ns:A6 Nat}{f:Nat→Nat}{F:A6 Nat}{objs:A6 (Nat×Af)}:∀ {l:A6 (Nat×Af)},Avu ns f F objs l=true→∀p∈l,p.1∈ns∨(f p.1∈F∧lk (f p.1) objs=none)
 |[],_=>by simp
 |q::r,h=>by
  simp only[Avu]at h;have hr:Avu ns f F objs r=true∧(q.1∈ns∨(f q.1∈F∧lk (f q.1) objs=none)):=by
   cases h1:inl q.1 ns with
   |true=>simp only[h1,Bna]at h;exact⟨h,.inl ((E7 _ _).1 h1)⟩
   |false =>
    cases h2:inl (f q.1) F with
    |false=>simp[h1,h2]at h
    |true =>
     cases h3:lk (f q.1) objs with
     |some _=>simp[h1,h2,h3]at h
     |none=>simp only[h1,h2,h3,Bna,Bnc]at h;exact⟨h,.inr ⟨(E7 _ _).1 h2,rfl⟩⟩
  intro p hp;rcases Bnd.1 hp with rfl|hp
  ·exact hr.2
  ·exact Ajj hr.1 p hp
def Arw(fl:Nat→Nat)(Ej live:A6 Nat):A6 Nat→Bool
 |[]=>true
 |n::r=>cond (cond (inl (fl n) live) (inl (fl n) (Ej.map fl)) true) (Arw fl Ej live r) false
theorem A47{fl:Nat→Nat}{Ej live:A6 Nat}:∀ {l:A6 Nat},Arw fl Ej live l=true→∀n∈l,fl n∈live→fl n∈Ej.map fl
 |[],_=>by simp
 |m::r,h=>by
  simp only[Arw]at h;intro n hn hl;cases h1:inl (fl m) live with
  |false =>
   simp only[h1,Bnc,Bna]at h;rcases Bnd.1 hn with rfl|hn
   ·rw[(E7 _ _).2 hl]at h1;cases h1
   ·exact A47 h n hn hl
  |true =>
   cases h2:inl (fl m) (Ej.map fl) with
   |false=>simp[h1,h2]at h
   |true =>
    simp only[h1,h2,Bna]at h;rcases Bnd.1 hn with rfl|hn
    ·exact(E7 _ _).1 h2
    ·exact A47 h n hn hl
def Bd8(S:H8)(f fl:Nat→Nat)(F:A6 Nat)(st:Ak)(xs:A6 XV)(Km s1o:A6 (Nat×Af))(s1l:A6 Nat)(res:XV):Bool :=
 cond (E9 st.objs) (cond (I7 S.names) (cond (I7 (S.names.map f)) (cond (Vh S.names S.Ej Km) (cond (Vh (s1o.map (·.1)) s1l s1o) (cond (I7 (s1o.map fun p=>f p.1)) (cond (Avu S.names f F st.objs s1o)
 (cond (Am5 S.names (s1o.map (·.1))) (cond (Fw F (Ab9 f fl Km st.objs)) (cond (Am5 (S.Ej.map fl) st.live) (cond (I7 (S.Ej.map fl)) (cond (I7 (s1l.map fl)) (cond (Am5 (s1l.map fl) F)
 (cond (Arw fl S.Ej st.live s1l) (cond (A8b S.names S.Ej xs) (res.nms (s1o.map (·.1)) s1l) false) false) false) false) false) false) false) false) false) false) false) false) false) false) false
structure Bj9(S:H8)(f fl:Nat→Nat)(F:List Nat)(st:Ak)(xs:List XV)(Km s1o:List (Nat×Af))(s1l:List Nat)(res:XV):Prop where
 Bgv:E9 st.objs=true
 nd1:S.names.Nodup
 nd2:(S.names.map f).Nodup
 Bja:Vh S.names S.Ej Km=true
 B2w:Vh (s1o.map (·.1)) s1l s1o=true
 nd3:(s1o.map fun p=>f p.1).Nodup
 new:∀p∈s1o,p.1∈S.names∨(f p.1∈F∧lk (f p.1) st.objs=none)
 sub:∀x∈S.names,x∈s1o.map (·.1)
 free:Fw F (Ab9 f fl Km st.objs)=true
 l1:∀x∈S.Ej.map fl,x∈st.live
 l2:(S.Ej.map fl).Nodup
 l3:(s1l.map fl).Nodup
 l4:∀x∈s1l.map fl,x∈F
 l5:∀n∈s1l,fl n∈st.live→fl n∈S.Ej.map fl
 xsn:A8b S.names S.Ej xs=true
 Blo:res.nms (s1o.map (·.1)) s1l=true
def B5j{s1o:A6 (Nat×Af)}{s1l:A6 Nat}{res:XV}(h:Bd8 S f fl F st xs Km s1o s1l res=true):Bj9 S f fl F st xs Km s1o s1l res:=by
 unfold Bd8 at h;have c:∀ {a b:Bool},cond a b false=true→a=true∧b=true:=by intro a b h;cases a<;>simp at h;exact⟨rfl,h⟩
 obtain⟨h0,h⟩:=c h;obtain⟨h1,h⟩:=c h;obtain⟨h2,h⟩:=c h;obtain⟨h3,h⟩:=c h;obtain⟨h4,h⟩:=c h;obtain⟨h5,h⟩:=c h;obtain⟨h6,h⟩:=c h;obtain⟨h7,h⟩:=c h;obtain⟨h8,h⟩:=c h;obtain⟨h9,h⟩:=c h;obtain⟨h10,h⟩:=c h;obtain⟨h11,h⟩:=c h;obtain⟨h12,h⟩:=c h;obtain⟨h13,h⟩:=c h;obtain⟨h14,h⟩:=c h;exact⟨h0,D1 h1,D1 h2,h3,h4,D1 h5,Ajj h6,W0 h7,h8,W0 h9,D1 h10,D1 h11,W0 h12,A47 h13,h14,h⟩
def Arx{p:Nat×Ob}(hl:E9 l=true)(h:p∈Aa l):∃q∈l,p=(q.1,q.2.o):=by rw[A3b hl]at h;obtain⟨q,hq,rfl⟩:=Bnp.1 h;exact⟨q,hq,rfl⟩
def Mo(hl:E9 l=true)(h:∀p∈l,f p.1≠j):(Da f fl (Aa l) acc).lookup j=acc.lookup j:=by
 refine N6 _ _ j fun p hp=>?_
 obtain⟨q,hq,rfl⟩:=Arx hl hp;exact h q hq
def Ui{p:Nat×Af}(hl:E9 l=true)(hn:(l.map fun p=>f p.1).Nodup)(h:p∈l):(Da f fl (Aa l) acc).lookup (f p.1)=some (p.2.mp f fl).o:=by have:=V9 (f:=f) (fl:=fl) (Aa l) acc (p.1,p.2.o) (by rw[A3b hl];simpa[Bqr]using hn) (by rw[A3b hl];exact Bnr (f:=fun p:Nat×Af=>(p.1,p.2.o)) h);rw[Af.Bgs f fl (H9 hl p h)];exact this
def Ao0{α:Type}{l:A6 α}{f:α→Nat}(h:(l.map f).Nodup){x y:α}(hx:x∈l)(hy:y∈l)(e:f x=f y):x=y:=Gm h hx hy e
def B5k{rd:A6 (Operand×AV)}{y:S.out.T}{res:XV}
  (hc:Bj9 S f fl F st xs Km (gen (S.s0 xs Km) S.out y).objs (gen (S.s0 xs Km) S.out y).live res) (Uv:Km.map (·.1)=S.names)
  (Uc:∀p∈Km,∃o,X.objs.lookup (f p.1)=some o∧Agj o (p.2.mp f fl).o∧(inl p.1 S.out.Pj=true→o=(p.2.mp f fl).o))
  (A7o:∀p∈(gen (S.s0 xs Km) S.out y).objs,p.1∈S.names∨(f p.1∈F∧X.objs.lookup (f p.1)=none))
  (Ql:Br F ⟨Da f fl (Aa Km) X.objs,X.live⟩=true) (hl1:∀x∈S.Ej.map fl,x∈X.live) (hl5:∀n∈(gen (S.s0 xs Km) S.out y).live,fl n∈X.live→fl n∈S.Ej.map fl)
  (H:∀Y,A17 Y ⟨Aa Km,S.Ej⟩ (gen (S.s0 xs Km) S.out y).X f fl F→Ca P o rd Y ⟨Da f fl (gen (S.s0 xs Km) S.out y).X.objs Y.objs,Hx fl Y ⟨Aa Km,S.Ej⟩ (gen (S.s0 xs Km) S.out y).X⟩ F (res.mp f fl).a) :
  Ca P o rd X ⟨Da f fl (Aa (A6r S.out y)) X.objs,Hx fl X ⟨Aa Km,S.Ej⟩ (gen (S.s0 xs Km) S.out y).X⟩ F (res.mp f fl).a:=by
 generalize hs1:gen (S.s0 xs Km) S.out y=s1 at *;have B2x:s1.objs=A6r S.out y++N9 Km S.out.Pj:=by rw[← hs1,Avt];rfl
 have nIn:E9 Km=true:=Mf hc.Bja;have B5l:E9 s1.objs=true:=Mf hc.B2w;have nW:E9 (A6r S.out y)=true:=Au8 fun p hp=>H9 B5l p (by rw[B2x];exact Bo0 _ hp)
 have nd2:(Km.map fun p=>f p.1).Nodup:=by have:=hc.nd2;rw[← Uv,Bq6]at this;exact this
 let Y:Ad:=⟨Da f fl (Aa Km) X.objs,X.live⟩;have yIn:∀p∈Km,Y.objs.lookup (f p.1)=some (p.2.mp f fl).o:=fun p hp=>Ui nIn nd2 hp
 have Ary:∀j,(∀p∈Km,f p.1≠j)→Y.objs.lookup j=X.objs.lookup j:=fun j hj=>Mo nIn hj
 have B9v:∀j,(∃p∈Km,f p.1=j)∨∀p∈Km,f p.1≠j:=by
  intro j;by_cases h:∃p∈Km,f p.1=j
  ·exact .inl h
  ·exact .inr fun p hp e=>h ⟨p,hp,e⟩
 have hle:∀k o',Y.objs.lookup k=some o'→∃o,X.objs.lookup k=some o∧Agj o o':=by
  intro k o' ho;rcases B9v k with ⟨p,hp,rfl⟩|hn
  ·rw[yIn p hp]at ho;cases ho;obtain⟨o,h1,h2,_⟩:=Uc p hp;exact⟨o,h1,h2⟩
  ·rw[Ary k hn]at ho;exact⟨o',ho,.refl _⟩
 have hkk:∀k,(X.objs.lookup k).isSome→(Y.objs.lookup k).isSome:=by
  intro k hk;rcases B9v k with ⟨p,hp,rfl⟩|hn
  ·rw[yIn p hp];rfl
  ·rw[Ary k hn];exact hk
 have hXn:s1.X.objs.map (·.1)=s1.objs.map (·.1):=Hp B5l;have B9w:A17 Y ⟨Aa Km,S.Ej⟩ s1.X f fl F:=by
  refine⟨?_,?_,?_,?_,?_,?_,?_,fun j o hj _=>Ja Ql hj,?_,hc.l2,hc.l3,fun n hn=>hc.l4 _ (Bnr hn),hl5⟩
  ·intro p hp;obtain⟨q,hq,rfl⟩:=Arx nIn hp;rw[yIn q hq,Af.Bgs f fl (H9 nIn q hq)]
  ·simp only[Hp nIn,Uv];exact A8d hc.Bja
  ·rw[hXn];exact A8d hc.B2w
  ·have:=hc.nd3;show((Aa s1.objs).map _).Nodup;rw[A3b B5l];simpa[Bqr]using this
  ·simp only[Hp nIn,Uv];exact hc.nd1
  ·intro p hp;obtain⟨q,hq,rfl⟩:=Arx B5l hp;simp only[Hp nIn,Uv];rcases A7o q hq with h|⟨h1,h2⟩
   ·exact .inl h
   ·refine .inr ⟨h1,?_⟩;rw[Ary]
    ·exact h2
    ·intro p hp e;obtain⟨o,h3,_⟩:=Uc p hp;rw[e,h2]at h3;cases h3
  ·intro p hp;obtain⟨q,hq,rfl⟩:=Arx nIn hp;rw[hXn];exact hc.sub _ (by rw[← Uv];exact Bnr (f:=fun p:Nat×Af=>p.1) hq)
  ·intro n hn;exact hl1 _ (Bnr hn)
 have h1:=B9m (H Y B9w) hle hkk rfl;have ndo:=hc.nd3;rw[B2x]at ndo;have same:∀j,(Da f fl (Aa (A6r S.out y)) X.objs).lookup j=(Da f fl s1.X.objs Y.objs).lookup j:=by
  intro j;by_cases hj:∃p∈s1.objs,f p.1=j
  ·obtain⟨p,hp,rfl⟩:=hj;have e1:(Da f fl s1.X.objs Y.objs).lookup (f p.1)=some (p.2.mp f fl).o:=Ui B5l hc.nd3 hp;rw[e1];rw[B2x]at hp;rcases Bnk.1 hp with hp|hp
   ·exact Ui nW (by
     rw[Bo4]at ndo;exact(A5s ndo).1) hp
   ·rw[Mo nW]
    ·obtain⟨hk1,hk2⟩:=Od hp;have A9m:p∈Km:=Gg hk2;obtain⟨o,h3,_,h4⟩:=Uc p A9m;rw[h3,h4 ((E7 _ _).2 hk1)]
    ·intro q hq e;rw[Bo4]at ndo;exact(A5s ndo).2.2 (f q.1) (Bnr (f:=fun p:Nat×Af=>f p.1) hq) (by rw[e];exact Bnr (f:=fun p:Nat×Af=>f p.1) hp)
  ·have hn:∀p∈s1.objs,f p.1≠j:=fun p hp e=>hj ⟨p,hp,e⟩
   have e1:(Da f fl s1.X.objs Y.objs).lookup j=Y.objs.lookup j:=Mo B5l hn;rw[e1,Ary j ?_,Mo nW ?_]
   ·intro p hp;exact hn p (by rw[B2x];exact Bo0 _ hp)
   ·intro p hp e;have:=hc.sub p.1 (by rw[← Uv];exact Bnr (f:=fun p:Nat×Af=>p.1) hp);obtain⟨q,hq,hqe⟩:=Bnp.1 this;exact hn q hq (by rw[hqe];exact e)
 intro nm G3 B g w a hr Bg next Q hn
 refine h1 nm G3 B g w a hr Bg next Q fun g' w' v hr' ht hv=>hn g' w' v ?_ ht hv
 refine B2s hr' (fun k o' ho=>⟨o',?_,.refl _⟩) (fun k hk=>?_) rfl
 ·rw[← same k];exact ho
 ·rw[same k];exact hk
def Adr(o:Oper):Nat:=match o.dst with
 |some d=>1000000+1000*d
 |none=>999000
def B9x:A6 (Nat×Nat)→A6 XV→A6 (Nat×Nat)→A6 (Nat×Nat)
 |p::ps,.nm k _::cs,σ=>B9x ps cs ((p.1,k)::σ)
 |_::ps,_::cs,σ=>B9x ps cs σ
 |_,_,σ=>σ
def Afo:A6 AS→A6 XV→A6 (Nat×Nat)→A6 (Nat×Nat)
 |.p k _::r,.nm k' _::vs,σ=>Afo r vs ((k,k')::σ)
 |.os k _::r,.os k' _ _ _::vs,σ=>Afo r vs ((k,k')::σ)
 |.oa k _ _::r,.os k' _ _ _::vs,σ=>Afo r vs ((k,k')::σ)
 |.Ek _ ps::r,.Ek _ Jp::vs,σ=>Afo r vs (B9x ps Jp σ)
 |_::r,_::vs,σ=>Afo r vs σ
 |_,_,σ=>σ
def Avv:A6 VK→A6 XV→A6 (Nat×Nat)×A6 (Nat×Nat)→A6 (Nat×Nat)×A6 (Nat×Nat)
 |.d t::r,cs,σ=>Avv r (cs.drop t.size) σ
 |.p k _::r,.nm k' _::cs,σ=>Avv r cs ((k,k')::σ.1,σ.2)
 |.Cv n _ _::r,.Cv n' _ _ _::cs,σ=>Avv r cs (σ.1,(n,n')::σ.2)
 |_::r,_::cs,σ=>Avv r cs σ
 |_,_,σ=>σ
def B9y(objs:A6 (Nat×Af)):A6 (Nat×A6 VK×A7 TypeId)→A6 (Nat×Nat)×A6 (Nat×Nat)→A6 (Nat×Nat)×A6 (Nat×Nat)
 |[],σ=>σ
 |p::r,σ=>match lk (nf σ.1 p.1) objs with
  |some (.cells cs _)=>B9y objs r (Avv p.2.1 cs σ)
  |_=>B9y objs r σ
def B9z(ns:A6 Nat)(b:Nat):A6 Nat→A6 (Nat×Nat)
 |[]=>[]
 |k::r=>cond (inl k ns) (B9z ns b r) ((k,b+k)::B9z ns b r)
def Bey(b:Nat):A6 Nat→A6 (Nat×Nat)
 |[]=>[]
 |n::r=>(n,b)::Bey (b+1) r
def Bjb(S:H8)(o:Oper):A6 (Nat×Nat):=B9z S.names (Adr o) (Ir S.out.objs++(ownNames S.out.own++Fm S.out.Rc))
def Ao1(S:H8)(o:Oper)(st:Ak)(vs:A6 XV):A6 (Nat×Nat)×A6 (Nat×Nat) :=
 let σ:=B9y st.objs S.objs (Afo S.args vs [],[])
 (σ.1++Bjb S o,σ.2++Bey (3000000+Adr o) S.out.Ej)
def Uj{α:Type}:A6 α→Bool
 |[]=>true
 |_=>false
def Wx:A6 XV→Bool
 |[]=>true
 |.d _::r=>Wx r
 |_=>false
theorem Arz{f fl:Nat→Nat}:∀ {l:A6 XV},Wx l=true→mpL f fl l=l
 |[],_=>rfl
 |.d x::r,h=>by
  have:=Arz (f:=f) (fl:=fl) (l:=r) h;simp only[mpL,XV.mp,this]
 |.nm _ _::_,h=>by simp[Wx]at h
 |.Cv _ _ _ _::_,h=>by simp[Wx]at h
 |.Er _::_,h=>by simp[Wx]at h
 |.agg _::_,h=>by simp[Wx]at h
 |.Ek _ _::_,h=>by simp[Wx]at h
 |.os _ _ _ _::_,h=>by simp[Wx]at h
 |.el _ _ _ _::_,h=>by simp[Wx]at h
 |.tpt _ _ _ _::_,h=>by simp[Wx]at h
theorem A1w:∀ {l:A6 XV},Wx l=true→Ch (Ae l)=true
 |[],_=>rfl
 |.d x::r,h=>by
  have:=A1w (l:=r) h;simp only[Ae,XV.a,Ch,N3,this,Bpe]
 |.nm _ _::_,h=>by simp[Wx]at h
 |.Cv _ _ _ _::_,h=>by simp[Wx]at h
 |.Er _::_,h=>by simp[Wx]at h
 |.agg _::_,h=>by simp[Wx]at h
 |.Ek _ _::_,h=>by simp[Wx]at h
 |.os _ _ _ _::_,h=>by simp[Wx]at h
 |.el _ _ _ _::_,h=>by simp[Wx]at h
 |.tpt _ _ _ _::_,h=>by simp[Wx]at h
def Bgw{R:Type}(P:Program)(fn:Func)(S:H8)(f fl:Nat→Nat)(nw:A6 Nat)(st:Ak)(rd:A6 (Operand×XV))(xs:A6 XV)(Km:A6 (Nat×Af))(K:Out→A7 R)(y:S.out.T):A7 R :=
 match Ab0 P (gen (S.s0 xs Km) S.out y) fn.results.toList with
 |some rs=>cond (Wx (xs.drop S.n)) (
  cond (Bd8 S f fl (nw++(gen (S.s0 xs Km) S.out y).live.map fl) st xs Km (gen (S.s0 xs Km) S.out y).objs (gen (S.s0 xs Km) S.out y).live (Ml rs))
   (cond (cond (Uj (A6r S.out y)) (cond (Uj (nw++(gen (S.s0 xs Km) S.out y).live.map fl)) (Uj S.Ej) false) false)
    (K ⟨.look (S.names.map f),(Ml rs).mp f fl,rd,st.objs,st.live,[],[]⟩)
    (K ⟨.all,(Ml rs).mp f fl,rd,Ab9 f fl (A6r S.out y) st.objs,Hx fl st.X ⟨[],S.Ej⟩ ⟨[],(gen (S.s0 xs Km) S.out y).live⟩,nw++(gen (S.s0 xs Km) S.out y).live.map fl,(A6r S.out y).map fun p=>f p.1⟩)) none) none
 |none=>none
def Ads{R:Type}:A6 (Nat×Nat)→(A6 (Nat×Nat)→R)→R
 |[],K=>K []
 |p::r,K=>Ads r fun r'=>K ((p.1,p.2)::r')
theorem W5{R:Type}:∀(l:A6 (Nat×Nat)) (K:A6 (Nat×Nat)→R),Ads l K=K l
 |[],K=>rfl
 |p::r,K=>by
  simp only[Ads];rw[W5 r]
def B2y{R:Type}(P:Program)(fn:Func)(S:H8)(F:S.Cw (A7 S.out.T))(o:Oper)(st:Ak)(rd:A6 XV→A6 (Operand×XV))(vs:A6 XV)(K:Out→A7 R):A7 R :=
 Ads (Ao1 S o st vs).1 fun σ=>Ads (Ao1 S o st vs).2 fun τ =>
  M9 (nf σ) S.args F vs [] fun F' xs =>
   B2u (nf σ) (nf τ) S.out.Pj st.objs S.objs F' [] fun F'' os =>B2v (nf σ) st.objs S.Rc F'' os fun F3 os' =>Option.bind F3 fun y=>Tb S.out.own y.2.2.1 fun u=>Bgw P fn S (nf σ) (nf τ) ((Bjb S o).map (·.2)) st (rd (mpL (nf σ) (nf τ) xs)) xs os' K (y.1,y.2.1,u,y.2.2.2)
def Bgx{R:Type}(P:Program)(fn:Func)(S:H8)(F:S.Cw (A7 S.out.T))(o:Oper)(st:Ak)(vs:A6 XV)(K:Out→A7 R):A7 R :=
 cond (Nat.beq (Cj o).length S.n) (match Ci st (B01 S.M8) with
  |some us=>B2y P fn S F o st (fun ms=>(B02 (Cj o) (B01 S.M8)).zip ms) (B02 vs us) K
  |none=>none) none
def Ajk(o:Oper):Operand :=
 match o.op with
 |.call c=>match c.callee with
  |.value x=>x
  |_=>.const undef
 |_=>.const undef
def Ba0{R:Type}(P:Program)(id:FuncId)(fn:Func)(S:H8)(F:S.Cw (A7 S.out.T))(o:Oper)(st:Ak)(Jp vs:A6 XV)(K:Out→A7 R):A7 R :=
 cond (cond (Adq Jp) (cond (Uj S.M8) (Nat.beq S.n (vs.length+Jp.length)) false) false) (B2y P fn S F o st (fun ms=>(Ajk o,.Ek id Jp)::(Cj o).zip ms) (vs++Jp) K) none
def A5u{α:Type}{l:A6 α}(h:Uj l=true):l=[]:=by cases l<;>simp[Uj]at h;rfl
def B2z{R:Type}{id:FuncId}{nw:A6 Nat}{rd:A6 (Operand×XV)}{K:Out→A7 R}{y:S.out.T}{r:R}
  (hg:B9o P id fn S y xs Km) (Uc:∀p∈Km,InR f fl S.out.Pj st.objs p) (Agi:∀p∈Bc rd,Fc st.im p.1 p.2)
  (H:∀(rs:A6 XV) (F:A6 Nat) (Y:Ad),Wx (xs.drop S.n)=true→Aex P id (Ae (xs.take S.n)) (S.M8.zip (Ae (xs.drop S.n))) ⟨Aa Km,S.Ej⟩ (Ml rs).a (gen (S.s0 xs Km) S.out y).X→A8b S.names S.Ej xs=true→Km.map (·.1)=S.names→(E9 Km=true∧E9 (gen (S.s0 xs Km) S.out y).objs=true)→(Ml rs).nms ((gen (S.s0 xs Km) S.out y).objs.map (·.1)) (gen (S.s0 xs Km) S.out y).live=true→A17 Y ⟨Aa Km,S.Ej⟩ (gen (S.s0 xs Km) S.out y).X f fl F →
   Ca P o (Bc rd) Y ⟨Da f fl (gen (S.s0 xs Km) S.out y).X.objs Y.objs,Hx fl Y ⟨Aa Km,S.Ej⟩ (gen (S.s0 xs Km) S.out y).X⟩ F ((Ml rs).mp f fl).a)
  (h:Bgw P fn S f fl nw st rd xs Km K y=some r):∃out,K out=some r∧Cr P o st out:=by
 unfold Bgw at h;split at h
 ·rename_i rs hrs;cases Ama:Wx (xs.drop S.n) with
  |false=>rw[Ama]at h;cases h
  |true =>
  rw[Ama,Bna]at h;generalize Ba1:Bd8 S f fl (nw++(gen (S.s0 xs Km) S.out y).live.map fl) st xs Km (gen (S.s0 xs Km) S.out y).objs (gen (S.s0 xs Km) S.out y).live (Ml rs)=b at h;cases b with
  |false=>cases h
  |true =>
   have hc:=B5j Ba1;simp only[Bna]at h;obtain⟨Uv,nIn,Ba2⟩:=hg;have hd:=Ba2 rs hrs;have core:∀X:Ad,(∀p∈Km,∃o,X.objs.lookup (f p.1)=some o∧Agj o (p.2.mp f fl).o∧(inl p.1 S.out.Pj=true→o=(p.2.mp f fl).o)) →
     (∀p∈(gen (S.s0 xs Km) S.out y).objs,p.1∈S.names∨(f p.1∈(nw++(gen (S.s0 xs Km) S.out y).live.map fl)∧X.objs.lookup (f p.1)=none)) →
     Br (nw++(gen (S.s0 xs Km) S.out y).live.map fl) ⟨Da f fl (Aa Km) X.objs,X.live⟩=true→(∀x∈S.Ej.map fl,x∈X.live)→(∀n∈(gen (S.s0 xs Km) S.out y).live,fl n∈X.live→fl n∈S.Ej.map fl) →
     Ca P o (Bc rd) X ⟨Da f fl (Aa (A6r S.out y)) X.objs,Hx fl X ⟨Aa Km,S.Ej⟩ (gen (S.s0 xs Km) S.out y).X⟩ (nw++(gen (S.s0 xs Km) S.out y).live.map fl) ((Ml rs).mp f fl).a:=by
    intro X h1 h2 h3 h4 h5;exact B5k hc Uv h1 h2 h3 h4 h5 (fun Y hY=>H rs _ Y Ama hd hc.xsn Uv ⟨nIn,Mf hc.B2w⟩ hc.Blo hY)
   cases Aeu:(cond (Uj (A6r S.out y)) (cond (Uj (nw++(gen (S.s0 xs Km) S.out y).live.map fl)) (Uj S.Ej) false) false) with
   |true =>
    rw[Aeu]at h;simp only[Bna]at h;have hl:A6r S.out y=[]∧nw++(gen (S.s0 xs Km) S.out y).live.map fl=[]∧S.Ej=[]:=by
     cases e1:Uj (A6r S.out y) with
     |false=>simp[e1]at Aeu
     |true =>
      cases e2:Uj (nw++(gen (S.s0 xs Km) S.out y).live.map fl) with
      |false=>simp[e1,e2]at Aeu
      |true=>simp only[e1,e2,Bna]at Aeu;exact⟨A5u e1,A5u e2,A5u Aeu⟩
    obtain⟨w1,w2,w3⟩:=hl;refine⟨_,h,⟨Agi,⟨rfl,rfl,rfl,fun X hX=>?_⟩,fun _ _ _ h=>h⟩⟩;have hlv:(gen (S.s0 xs Km) S.out y).live=[]:=by have:=(List.append_eq_nil_iff.1 w2).2;simpa using this
    have P7:∀p∈Km,X.objs.lookup (f p.1)=st.X.objs.lookup (f p.1):=fun p hp=>hX _ (Bnp.2 ⟨p.1,by rw[← Uv];exact Bnr (f:=fun p:Nat×Af=>p.1) hp,rfl⟩)
    have c1:=core X (fun p hp=>by
      obtain⟨o,h1,h2,h3⟩:=Uc p hp;exact⟨o.o,by rw[P7 p hp];exact Q1 h1,h2,h3⟩) (fun p hp=>by
      rcases hc.new p hp with h|⟨h,_⟩
      ·exact .inl h
      ·rw[w2]at h;cases h) (by rw[w2];rfl) (by rw[w3];simp) (by rw[hlv];simp)
    rw[w2,w1]at c1;have e:Hx fl X ⟨Aa Km,S.Ej⟩ (gen (S.s0 xs Km) S.out y).X=X.live:=by unfold Hx;show(gen (S.s0 xs Km) S.out y).live.map fl++_=_;rw[hlv,w3];simp
    rw[e]at c1;exact c1
   |false =>
    rw[Aeu]at h;simp only[Bnc]at h;refine⟨_,h,⟨Agi,?_,fun j x hj hx=>?_⟩⟩
    ·have c1 := core st.X (fun p hp => by
       obtain⟨o,h1,h2,h3⟩:=Uc p hp;exact⟨o.o,Q1 h1,h2,h3⟩) (fun p hp=>by
       rcases hc.new p hp with h|⟨h,h'⟩
       ·exact .inl h
       ·refine .inr ⟨h,?_⟩;show(Aa st.objs).lookup _=none;rw[Bcd hc.Bgv,h'];rfl) (by
       have:=O7 (live:=st.live) hc.free;rw[Ajc f fl nIn hc.Bgv]at this;exact this) hc.l1 hc.l5
     have e1:Aa (Ab9 f fl (A6r S.out y) st.objs)=Da f fl (Aa (A6r S.out y)) st.X.objs:=Ajc f fl (Au8 fun p hp=>H9 (Mf hc.B2w) p (by rw[Avt];exact Bo0 _ hp)) hc.Bgv;show Ca P o (Bc rd) st.X ⟨Aa (Ab9 f fl (A6r S.out y) st.objs),_⟩ _ _;rw[e1];exact c1
    ·rw[Afl]at hx
     ·exact hx
     ·intro p hp e;exact hj (Bnp.2 ⟨p,hp,e⟩)
 ·cases h
theorem Avw{α β:Type}:∀(a:A6 α) (b c:A6 β),a.length=b.length→a.zip (b++c)=a.zip b
 |[],b,c,h=>by simp
 |x::a,[],c,h=>by simp at h
 |x::a,y::b,c,h=>by simp only[Bpw,Bqe];rw[Avw a b c (by simpa using h)]
theorem Ao2{ks ls:A6 Nat}:∀ {l:A6 XV} (n:Nat),A8b ks ls l=true→A8b ks ls (l.take n)=true
 |[],n,_=>by simp[A8b]
 |x::r,0,_=>rfl
 |x::r,n+1,h=>by
  simp only[A8b]at h;cases hx:x.nms ks ls with
  |false=>simp[hx]at h
  |true =>simp only[hx,Bna]at h;simp only[Btn,A8b,hx,Bna];exact Ao2 n h
def Bd9{R:Type}{id:FuncId}{F:S.Cw (A7 S.out.T)}(hc:F6 P id)(hs:B9p P id fn S F){K:Out→A7 R}{r:R}
  (ho:o.op = .call { callee:=.value (.func id),args:=Cm,argTypes:=ts }) (hv:Ci st Cm.toList=some vs) (h:Bgx P fn S F o st vs K=some r):∃out,K out=some r∧Cr P o st out:=by
 have e:Cj o=Cm.toList:=by simp[Cj,ho]
 unfold Bgx at h;rw[e]at h;cases hb:Nat.beq Cm.toList.length S.n with
 |false=>rw[hb]at h;cases h
 |true =>
 have hn:Cm.toList.length=S.n:=Bne hb;rw[hb,Bna]at h;split at h
 ·rename_i us hus;rw[Agz,Agz,Ab7]at h;rw[Ab7]at hus;unfold B2y at h;rw[W5,W5]at h;generalize (Ao1 S o st (vs++us)).1=σ at h;generalize (Ao1 S o st (vs++us)).2=τ at h;obtain⟨F',xs,q1,a1,h⟩:=Pl (fl:=nf τ) S.args F (vs++us) [] [] hs .nil h;obtain⟨F'',os,q2,a2,h⟩:=Ajh S.objs F' [] q1 (by simp) h;obtain⟨F3,os',q3,a3,h⟩:=Aji (fl:=nf τ) (ko:=S.out.Pj) S.Rc F'' os q2 a2 h;obtain⟨y,hy,h⟩:=Bor.1 h;rw[Nd]at h;rw[Bou]at a1;refine B2z (q3 y hy) a3 (a1.V8 (Pk hv hus)) ?_ h;intro rs Fr Y Ama hd hx Uv hna hr B9w;have hxl:xs.length=Cm.toList.length+(S.M8.map Operand.global).length:=by have h1:=a1.length;have h2:=I3 (Pk hv hus);rw[@List.length_append _ Cm.toList]at h2;omega
  have htk:(xs.take S.n).length=Cm.size:=by
   rw[Bof,hxl];have:Cm.toList.length=Cm.size:=by simp
   omega
  have:=Am8 (X:=Y) (M8:=S.M8) (ys:=Ae (xs.drop S.n)) (nf σ) (nf τ) Fr ho hc hd B9w (by rw[Aq,htk]) (by
    simp only[Hp hna.1,Uv];refine A8c ?_;exact Ao2 _ hx) (A1w Ama) (by
    have e:(gen (S.s0 xs os') S.out y).X.objs.map (·.1)=(gen (S.s0 xs os') S.out y).objs.map (·.1):=Hp hna.2;rw[e];exact XV.B9k hr)
  have hz:Bc ((Cm.toList++S.M8.map Operand.global).zip (mpL (nf σ) (nf τ) xs))=Cm.toList.zip (Pa (nf σ) (nf τ) (Ae (xs.take S.n)))++(S.M8.map Operand.global).zip (Ae (xs.drop S.n)):=by
   conv=>lhs;rw[← Bqs S.n xs]
   rw[Wv,Arz Ama,Bst (by rw[Ab8,Bo1,htk];simp),Hs,Kd,Kd,Afk]
  rw[hz,← XV.Bgr]at *;exact this
 ·cases h
def Ba3{R:Type}{id:FuncId}{F:S.Cw (A7 S.out.T)}(hc:F6 P id)(hs:B9p P id fn S F){t:Tmp}{Jp:A6 XV}{K:Out→A7 R}{r:R}
  (ho:o.op = .call { callee:=.value (.tmp t),args:=Cm,argTypes:=ts }) (B54:Bj st (.tmp t)=some (.Ek id Jp)) (hv:Ci st Cm.toList=some vs) (h:Ba0 P id fn S F o st Jp vs K=some r):∃out,K out=some r∧Cr P o st out:=by
 have e:Cj o=Cm.toList:=by simp[Cj,ho]
 have e2:Ajk o = .tmp t:=by simp[Ajk,ho]
 unfold Ba0 B2y at h;cases Ba4:Adq Jp with
 |false=>simp[Ba4]at h
 |true =>
 cases hgn:Uj S.M8 with
 |false=>simp[Ba4,hgn]at h
 |true =>
 have Bjc:=A5u hgn;cases hbn:Nat.beq S.n (vs.length+Jp.length) with
 |false=>simp[Ba4,hgn,hbn]at h
 |true =>
 simp only[Ba4,hgn,hbn,Bna]at h;rw[e,e2,W5,W5]at h;generalize (Ao1 S o st (vs++Jp)).1=σ at h;generalize (Ao1 S o st (vs++Jp)).2=τ at h;obtain⟨F',xs,q1,a1,h⟩:=Pl (fl:=nf τ) S.args F (vs++Jp) [] [] hs .nil h;obtain⟨F'',os,q2,a2,h⟩:=Ajh S.objs F' [] q1 (by simp) h;obtain⟨F3,os',q3,a3,h⟩:=Aji (fl:=nf τ) (ko:=S.out.Pj) S.Rc F'' os q2 a2 h;obtain⟨y,hy,h⟩:=Bor.1 h;rw[Nd]at h;rw[Bou]at a1;have a1':=a1;obtain⟨xa,xc,rfl,a4,a5⟩:=a1.split;have Bjd:=a5.Jp Ba4;have hlen:Cm.toList.length=(mpL (nf σ) (nf τ) xa).length:=by rw[Ab8,Bo1,← a4.length,I3 hv]
 rw[Wv,Avw _ _ _ hlen]at h;have hSn:S.n=(xa++xc).length:=by have h1:=a1.length;have h2:=Bne hbn;simp only[Bp4]at h1⊢;omega
 refine B2z (q3 y hy) a3 ?_ ?_ h
 ·intro p hp;simp only[Bc,Bnh,Bnd]at hp;rcases hp with rfl|hp
  ·exact Ax (x:=.tmp t) B54
  ·exact a4.V8 hv p hp
 ·intro rs Fr Y Ama hd hx Uv hna hr B9w;rw[hSn,Boh,Brj,Bjc]at hd;rw[Eg]at hd;have:=Agk (X:=Y) (nf σ) (nf τ) Fr ho hc hd.plain B9w (by
    have h1:=a4.length;have h2:=I3 hv;rw[Aq,← h1,h2];simp) (by
    simp only[Hp hna.1,Uv];have:=A8c hx;rw[Eg]at this;exact this) (by
    have e:(gen (S.s0 (xa++xc) os') S.out y).X.objs.map (·.1)=(gen (S.s0 (xa++xc) os') S.out y).objs.map (·.1):=Hp hna.2;rw[e];exact XV.B9k hr)
  rw[← Afk,← Afk,← Bjd,← Kd,← XV.Bgr]at this;exact this
def Blp{P:Program}(id:FuncId)(fn:Func)(S:H8)(F:S.Cw (A7 S.out.T))(hc:F6 P id)(hs:B9p P id fn S F):Ix P where
 id:=id
 run:=Bgx P fn S F
 ok:=by intro R o st Cm ts vs K r ho hv h;exact Bd9 hc hs ho hv h
 Bgk:=Ba0 P id fn S F
 cok:=by intro R o st t Jp Cm ts vs K r ho B54 hv h;exact Ba3 hc hs ho B54 hv h
def mkC{P:Program}{Γ:A6 (Ix P)}{own:A6 Nat}{N:Nat}(id:FuncId)(fn:Func)(an:An)(S:H8)(F:S.Cw (A7 S.out.T))(hm:P.follows .mixedOrders=true)(hf:P.funcs[id]? = some fn)
  (hc:F6 P id) (hn:Nat.ble S.args.length fn.ntmps=true) (G3:A8f S.names=true) (hks:Aba S=true) (hE:Bd5 P Γ own N fn an S=F):Ix P :=
 Blp id fn S F hc (hE▸B03 hm hf hn G3 hks)
def K1 {P : Program} (Γ : List (Ix P)) (own : List Nat) (N : Nat) (id : FuncId) {fn : Func} (an : An) (S : H8) (F : S.Cw (Option S.out.T)) (hm : P.follows .mixedOrders = true) (hf : P.funcs[id]? = some fn) (hb : fn.body.isSome = true) (Uv : (fn.name == "runtime.NumGoroutine") = false) (hn : Nat.ble S.args.length fn.ntmps = true) (G3 : A8f S.names = true) (hks : Aba S = true) (hE : Bd5 P Γ own N fn an S = F) : Ix P := mkC id fn an S F hm hf (.mk' hf hb Uv) hn G3 hks hE
def Sh.len:Sh→Nat
 |.nil=>0
 |.d _ r=>r.len+1
 |.m _ _ r=>r.len+1
 |.s _ _ r=>r.len+1
 |.z _ _ r=>r.len+1
def Sh.Ds(b:Nat→Nat):(i:Nat)→(S:Sh)→S.T→A6 XV
 |_,.nil,_=>[]
 |i,.d t r,x=>(t.enc x.1).map .d++r.Ds b (i+1) x.2
 |i,.m _ _ r,x=>(match x.1 with
  |none=>.d (.v (.map none))
  |some _=>.nm (b i) .m)::r.Ds b (i+1) x.2
 |i,.s _ _ r,x=>.nm (b i) (.p 0)::r.Ds b (i+1) x.2
 |i,.z _ _ r,x=>(match x.1 with
  |none=>.d (.v (.pointer none))
  |some _=>.nm (b i) (.p 0))::r.Ds b (i+1) x.2
def Sh.kids(b:Nat→Nat):(i:Nat)→(S:Sh)→S.T→A6 (Nat×Af)
 |_,.nil,_=>[]
 |i,.d _ r,x=>r.kids b (i+1) x.2
 |i,.m kt vt r,x=>(match x.1 with
  |none=>[]
  |some y=>[(b i,.map kt vt y.1 y.2)])++r.kids b (i+1) x.2
 |i,.s a ty r,x=>(b i,.abs (b i) a ty x.1)::r.kids b (i+1) x.2
 |i,.z a ty r,x=>(match x.1 with
  |none=>[]
  |some y=>[(b i,.abs (b i) a ty y)])++r.kids b (i+1) x.2
theorem Sh.I9(h:Nat):∀(S:Sh) (i:Nat) (x:S.T),S.cells h i x=S.Ds (Fu h) i x
 |.nil,i,x=>rfl
 |.d t r,i,x=>by simp only[Sh.cells,Sh.Ds,Sh.I9 h r]
 |.m kt vt r,i,x=>by simp only[Sh.cells,Sh.Ds,Sh.I9 h r];cases x.1<;>rfl
 |.s a ty r,i,x=>by simp only[Sh.cells,Sh.Ds,Sh.I9 h r]
 |.z a ty r,i,x=>by simp only[Sh.cells,Sh.Ds,Sh.I9 h r];cases x.1<;>rfl
theorem Sh.Oe(h:Nat):∀(S:Sh) (i:Nat) (x:S.T) (p:Nat×Ob),p∈S.C7 h i x↔∃q∈S.kids (Fu h) i x,p=(q.1,q.2.o)∨p∈q.2.C7
 |.nil,i,x,p=>by simp[Sh.C7,Sh.kids]
 |.d t r,i,x,p=>Sh.Oe h r (i+1) x.2 p
 |.m kt vt r,i,x,p=>by
  simp only[Sh.C7,Sh.kids,Bnk,Sh.Oe h r];constructor
  ·rintro (hp|⟨q,hq,h⟩)
   ·cases hx:x.1 with
    |none=>rw[hx]at hp;cases hp
    |some y=>rw[hx]at hp;rw[Bnw]at hp;exact⟨_,.inl (Bnw.2 rfl),.inl hp⟩
   ·exact⟨q,.inr hq,h⟩
  ·rintro ⟨q,hq|hq,h⟩
   ·cases hx:x.1 with
    |none=>rw[hx]at hq;cases hq
    |some y =>
     rw[hx]at hq;rw[Bnw]at hq;subst hq;rcases h with h|h
     ·exact .inl (Bnw.2 h)
     ·cases h
   ·exact .inr ⟨q,hq,h⟩
 |.s a ty r,i,x,p=>by
  simp only[Sh.C7,Sh.kids,Bnk,Bnd,Sh.Oe h r];constructor
  ·rintro ((hp|hp)|⟨q,hq,h⟩)
   ·exact⟨_,.inl rfl,.inl hp⟩
   ·exact⟨_,.inl rfl,.inr hp⟩
   ·exact⟨q,.inr hq,h⟩
  ·rintro ⟨q,rfl|hq,h⟩
   ·exact .inl h
   ·exact .inr ⟨q,hq,h⟩
 |.z a ty r,i,x,p=>by
  simp only[Sh.C7,Sh.kids,Bnk,Sh.Oe h r];constructor
  ·rintro (hp|⟨q,hq,h⟩)
   ·cases hx:x.1 with
    |none=>rw[hx]at hp;cases hp
    |some y =>
     rw[hx]at hp;refine⟨_,.inl (Bnw.2 rfl),?_⟩;rcases Bnd.1 hp with hp|hp
     ·exact .inl hp
     ·exact .inr hp
   ·exact⟨q,.inr hq,h⟩
  ·rintro ⟨q,hq|hq,h⟩
   ·cases hx:x.1 with
    |none=>rw[hx]at hq;cases hq
    |some y =>rw[hx]at hq;rw[Bnw]at hq;subst hq;exact .inl (Bnd.2 h)
   ·exact .inr ⟨q,hq,h⟩
theorem Sh.W6(b:Nat→Nat):∀(S:Sh) (i:Nat) (x:S.T),S.small i=true→∀q∈S.kids b i x,∃j,i≤j∧j<1000∧q.1=b j∧((∃kt vt es c,q.2 = .map kt vt es c)∨∃a ty y,q.2 = .abs (b j) a ty y∧a.small 0=true)
 |.nil,i,x,hs,q,hq=>by cases hq
 |.d t r,i,x,hs,q,hq=>by
  obtain⟨j,h1,h2⟩:=Sh.W6 b r (i+1) x.2 (Ap hs).2 q hq;exact⟨j,by omega,h2⟩
 |.m kt vt r,i,x,hs,q,hq=>by
  have hi:i<1000:=by simpa[Bpb] using(Ap hs).1
  rcases Bnk.1 hq with hq|hq
  ·cases hx:x.1 with
   |none=>rw[hx]at hq;cases hq
   |some y=>rw[hx]at hq;rw[Bnw]at hq;subst hq;exact⟨i,Bno _,hi,rfl,.inl ⟨_,_,_,_,rfl⟩⟩
  ·obtain⟨j,h1,h2⟩:=Sh.W6 b r (i+1) x.2 (Ap hs).2 q hq;exact⟨j,by omega,h2⟩
 |.s a ty r,i,x,hs,q,hq=>by
  have hi:i<1000:=by simpa[Bpb] using(Ap hs).1
  have h2:=Ap (Ap hs).2;rcases Bnd.1 hq with rfl|hq
  ·exact⟨i,Bno _,hi,rfl,.inr ⟨_,_,_,rfl,h2.1⟩⟩
  ·obtain⟨j,h3,h4⟩:=Sh.W6 b r (i+1) x.2 h2.2 q hq;exact⟨j,by omega,h4⟩
 |.z a ty r,i,x,hs,q,hq=>by
  have hi:i<1000:=by simpa[Bpb] using(Ap hs).1
  have h2:=Ap (Ap hs).2;rcases Bnk.1 hq with hq|hq
  ·cases hx:x.1 with
   |none=>rw[hx]at hq;cases hq
   |some y=>rw[hx]at hq;rw[Bnw]at hq;subst hq;exact⟨i,Bno _,hi,rfl,.inr ⟨_,_,_,rfl,h2.1⟩⟩
  ·obtain⟨j,h3,h4⟩:=Sh.W6 b r (i+1) x.2 h2.2 q hq;exact⟨j,by omega,h4⟩
def Db.lt{a n:Nat}(h:Db a n):a<n:=by
 induction h with
 |here i hi=>unfold Fu H0;omega
 |deep i hi _ ih=>unfold Fu H0;omega
def Db.two{a b n:Nat}(h:Db a n)(h':Db b n):a=b∨Db a b∨Db b a:=by
 induction h generalizing b with
 |here i hi =>
  generalize hn:Fu a i=n at h';cases h' with
  |here j hj=>exact .inl (Ha hi hj hn).1
  |deep j hj h2=>have:=(Ha hi hj hn).1;subst this;exact .inr (.inr h2)
 |deep i hi h1 ih =>
  rename_i m;generalize hn:Fu m i=n at h';cases h' with
  |here j hj=>have:=(Ha hi hj hn).1;subst this;exact .inr (.inl h1)
  |deep j hj h2=>have:=(Ha hi hj hn).1;subst this;exact ih h2
def Uk{α:Type}{a b:A6 α}(h1:a.Nodup)(h2:b.Nodup)(h3:∀x∈a,x∉b):(a++b).Nodup:=Brb.2 ⟨h1,h2,fun x hx y hy e=>h3 x hx (e▸hy)⟩
def Sh.As0:∀(S:Sh) (h i:Nat) (x:S.T) (p:Nat×Ob),S.small i=true→p∈S.C7 h i x→∃j,i≤j∧j<1000∧(p.1=Fu h j∨Db (Fu h j) p.1):=by
 intro S h i x p hs hp;obtain⟨q,hq,hh⟩:=(Sh.Oe h S i x p).1 hp;obtain⟨j,h1,h2,h3,h4⟩:=S.W6 (Fu h) i x hs q hq;refine⟨j,h1,h2,?_⟩;rcases hh with rfl|hh
 ·exact .inl h3
 ·right;rcases h4 with ⟨kt,vt,es,c,e⟩|⟨a,ty,y,e,G3⟩
  ·rw[e]at hh;cases hh
  ·rw[e]at hh;exact a.D5 _ 0 y p G3 hh
theorem Sh.Ia:∀(S:Sh) (h i:Nat) (x:S.T),S.small i=true→((S.C7 h i x).map (·.1)).Nodup
 |.nil,h,i,x,hs=>by simp[Sh.C7]
 |.d t r,h,i,x,hs=>Sh.Ia r h (i+1) x.2 (Ap hs).2
 |.m kt vt r,h,i,x,hs=>by
  have hi:i<1000:=by simpa[Bpb] using(Ap hs).1
  simp only[Sh.C7,Bo4];refine Uk (by cases x.1<;>simp) (Sh.Ia r h (i+1) x.2 (Ap hs).2) ?_;intro n hn Th;obtain⟨p,hp,rfl⟩:=Bnp.1 hn;obtain⟨q,hq,e⟩:=Bnp.1 Th;obtain⟨j,h1,h2,h3⟩:=r.As0 h (i+1) x.2 q (Ap hs).2 hq;have hp1:p.1=Fu h i:=by
   cases hx:x.1 with
   |none=>rw[hx]at hp;cases hp
   |some y=>rw[hx]at hp;rw[Bnw]at hp;rw[hp]
  rw[e,hp1]at h3;rcases h3 with h3|h3
  ·have:=(Ha hi h2 h3).2;omega
  ·rcases(Db.here (k:=h) i hi).two h3 with h5|h5|h5
   ·have:=R5 h j;have:=h3.lt;unfold Fu at *;omega
   ·have:=h5.lt;have:=h3.lt;unfold Fu at *;omega
   ·have:=h5.lt;unfold Fu H0 at *;omega
 |.s a ty r,h,i,x,hs=>by
  have hi:i<1000:=by simpa[Bpb] using(Ap hs).1
  have h2:=Ap (Ap hs).2;simp only[Sh.C7,Bo4,Bnh];refine Uk (Boi.2 ⟨?_,Sh.Ia a _ 0 x.1 h2.1⟩) (Sh.Ia r h (i+1) x.2 h2.2) ?_
  ·intro hm;obtain⟨q,hq,e⟩:=Bnp.1 hm;have:=(a.D5 _ 0 x.1 q h2.1 hq).lt;omega
  ·intro n hn Th;obtain⟨q,hq,e⟩:=Bnp.1 Th;obtain⟨j,k1,k2,k3⟩:=r.As0 h (i+1) x.2 q h2.2 hq;have hn1:n=Fu h i∨Db (Fu h i) n:=by
    rcases Bnd.1 hn with rfl|hn
    ·exact .inl rfl
    ·obtain⟨p,hp,rfl⟩:=Bnp.1 hn;exact .inr (a.D5 _ 0 x.1 p h2.1 hp)
   rw[e]at k3;exact Sh.Abb hi k2 (by omega) hn1 k3
 |.z a ty r,h,i,x,hs=>by
  have hi:i<1000:=by simpa[Bpb] using(Ap hs).1
  have h2:=Ap (Ap hs).2;simp only[Sh.C7,Bo4];refine Uk ?_ (Sh.Ia r h (i+1) x.2 h2.2) ?_
  ·cases hx:x.1 with
   |none=>simp
   |some y =>simp only[Bnh];refine Boi.2 ⟨?_,Sh.Ia a _ 0 y h2.1⟩;intro hm;obtain⟨q,hq,e⟩:=Bnp.1 hm;have:=(a.D5 _ 0 y q h2.1 hq).lt;omega
  ·intro n hn Th;obtain⟨q,hq,e⟩:=Bnp.1 Th;obtain⟨j,k1,k2,k3⟩:=r.As0 h (i+1) x.2 q h2.2 hq;have hn1:n=Fu h i∨Db (Fu h i) n:=by
    cases hx:x.1 with
    |none=>rw[hx]at hn;cases hn
    |some y =>
     rw[hx]at hn;rcases Bnd.1 hn with rfl|hn
     ·exact .inl rfl
     ·obtain⟨p,hp,rfl⟩:=Bnp.1 hn;exact .inr (a.D5 _ 0 y p h2.1 hp)
   rw[e]at k3;exact Sh.Abb hi k2 (by omega) hn1 k3
where
 Sh.Abb {h i j n:Nat} (hi:i<1000) (hj:j<1000) (hne:i≠j) (h1:n=Fu h i∨Db (Fu h i) n) (h2:n=Fu h j∨Db (Fu h j) n):False:=by
  have key:∀ {i j:Nat},i<1000→j<1000→i≠j→¬Db (Fu h i) (Fu h j):=by
   intro i j hi hj hne hu;generalize hm:Fu h j=m at hu;cases hu with
   |here l hl=>have:=(Ha hj hl hm).1;unfold Fu H0 at this;omega
   |deep l hl h3=>have:=(Ha hj hl hm).1;subst this;have:=h3.lt;unfold Fu H0 at this;omega
  rcases h1 with rfl|h1<;>rcases h2 with e|h2
  ·exact hne (Ha hi hj e).2
  ·exact key hj hi (Bq5 hne) h2
  ·subst e;exact key hi hj hne h1
  ·rcases h1.two h2 with e|e|e
   ·exact hne (Ha hi hj e).2
   ·exact key hi hj hne e
   ·exact key hj hi (Bq5 hne) e
def B04(f:Nat→Nat)(a b:A6 AV):Dx f (a++b)=Dx f a++Dx f b:=by simp[Ge]
def Ba5(f:Nat→Nat)(l:A6 D):Dx f (l.map .d)=l.map .d:=by
 induction l with
 |nil=>rfl
 |cons x r ih=>simp only[Bnh,Dx,E2,ih]
def Qp(f:Nat→Nat)(cs:A6 AV)(ty:A7 TypeId):Ef f (.cells cs ty) = .cells (Dx f cs) ty:=rfl
def A6s(f:Nat→Nat)(h:Nat):Prop:=∀m j,j<1000→(m=h∨Db h m)→f (Fu m j)=Fu (f m) j
def A6s.sub(he:A6s f h)(hj:j<1000):A6s f (Fu h j):=by
 intro m l hl hm;refine he m l hl (.inr ?_);rcases hm with rfl|hm
 ·exact .here j hj
 ·exact(Db.here j hj).trans hm
theorem Sh.A09:∀(S:Sh) (i:Nat),S.small i=true→i≤1000→i+S.len≤1000
 |.nil,i,h,hi=>by simpa[Sh.len]using hi
 |.d t r,i,h,hi=>by
  have h1:i<1000:=by simpa[Bpb] using(Ap h).1
  have:=Sh.A09 r (i+1) (Ap h).2 h1;simp only[Sh.len];omega
 |.m _ _ r,i,h,hi=>by
  have h1:i<1000:=by simpa[Bpb] using(Ap h).1
  have:=Sh.A09 r (i+1) (Ap h).2 h1;simp only[Sh.len];omega
 |.s _ _ r,i,h,hi=>by
  have h1:i<1000:=by simpa[Bpb] using(Ap h).1
  have:=Sh.A09 r (i+1) (Ap (Ap h).2).2 h1;simp only[Sh.len];omega
 |.z _ _ r,i,h,hi=>by
  have h1:i<1000:=by simpa[Bpb] using(Ap h).1
  have:=Sh.A09 r (i+1) (Ap (Ap h).2).2 h1;simp only[Sh.len];omega
theorem Sh.Q5{b:Nat→Nat}:∀(S:Sh) (i:Nat) (x:S.T),(∀j,j<i+S.len→f (b j)=b' j)→Dx f (Ae (S.Ds b i x))=Ae (S.Ds b' i x)
 |.nil,i,x,hb=>rfl
 |.d t r,i,x,hb=>by
  have Iy:∀j,j<i+1+r.len→f (b j)=b' j:=fun j hj=>hb j (by simp only[Sh.len];omega)
  simp only[Sh.Ds,Eg,B04,Wg,Ba5,Sh.Q5 r (i+1) x.2 Iy]
 |.m kt vt r,i,x,hb=>by
  have Iy:∀j,j<i+1+r.len→f (b j)=b' j:=fun j hj=>hb j (by simp only[Sh.len];omega)
  have hi:f (b i)=b' i:=hb i (by simp only[Sh.len];omega);simp only[Sh.Ds,Ae,Dx,Sh.Q5 r (i+1) x.2 Iy];cases x.1 with
  |none=>rfl
  |some y=>simp only[XV.a,E2,hi]
 |.s a ty r,i,x,hb=>by
  have Iy:∀j,j<i+1+r.len→f (b j)=b' j:=fun j hj=>hb j (by simp only[Sh.len];omega)
  have hi:f (b i)=b' i:=hb i (by simp only[Sh.len];omega);simp only[Sh.Ds,Ae,Dx,Sh.Q5 r (i+1) x.2 Iy,XV.a,E2,hi]
 |.z a ty r,i,x,hb=>by
  have Iy:∀j,j<i+1+r.len→f (b j)=b' j:=fun j hj=>hb j (by simp only[Sh.len];omega)
  have hi:f (b i)=b' i:=hb i (by simp only[Sh.len];omega);simp only[Sh.Ds,Ae,Dx,Sh.Q5 r (i+1) x.2 Iy];cases x.1 with
  |none=>rfl
  |some y=>simp only[XV.a,E2,hi]
def Sh.A5v(S:Sh)(x:S.T)(hs:S.small 0=true)(he:A6s f h):Dx f (Ae (S.cells h 0 x))=Ae (S.cells (f h) 0 x):=by rw[S.I9,S.I9];exact S.Q5 0 x fun j hj=>he h j (by have:=S.A09 0 hs (by omega);omega) (.inl rfl)
theorem Sh.Rh:∀(S:Sh) (h i:Nat) (x:S.T),S.small i=true→A6s f h→(S.C7 h i x).map (fun p=>(f p.1,Ef f p.2))=S.C7 (f h) i x
 |.nil,h,i,x,hs,he=>rfl
 |.d t r,h,i,x,hs,he=>Sh.Rh r h (i+1) x.2 (Ap hs).2 he
 |.m kt vt r,h,i,x,hs,he=>by
  have hi:i<1000:=by simpa[Bpb] using(Ap hs).1
  simp only[Sh.C7,Bo4,Sh.Rh r h (i+1) x.2 (Ap hs).2 he];cases x.1 with
  |none=>rfl
  |some y=>simp only[Bnh,Bo8,he h i hi (.inl rfl),B86,Ef]
 |.s a ty r,h,i,x,hs,he=>by
  have hi:i<1000:=by simpa[Bpb] using(Ap hs).1
  have h2:=Ap (Ap hs).2;have e1:=he h i hi (.inl rfl);have e2:=Sh.Rh a (Fu h i) 0 x.1 h2.1 (he.sub hi);rw[e1]at e2;have e3:=a.A5v x.1 h2.1 (he.sub hi);rw[e1]at e3;simp only[Sh.C7,Bo4,Bnh,Sh.Rh r h (i+1) x.2 h2.2 he,e1,e2,Qp,e3]
 |.z a ty r,h,i,x,hs,he=>by
  have hi:i<1000:=by simpa[Bpb] using(Ap hs).1
  have h2:=Ap (Ap hs).2;have e1:=he h i hi (.inl rfl);simp only[Sh.C7,Bo4,Sh.Rh r h (i+1) x.2 h2.2 he];cases x.1 with
  |none=>rfl
  |some y =>have e2:=Sh.Rh a (Fu h i) 0 y h2.1 (he.sub hi);rw[e1]at e2;have e3:=a.A5v y h2.1 (he.sub hi);rw[e1]at e3;simp only[Bnh,e1,e2,Qp,e3]
def Af.re(f:Nat→Nat):Af→Af
 |.abs h S ty x=>.abs (f h) S ty x
 |o=>o
def Af.Ba6(n:Nat)(o:Af):Prop:=(∃kt vt es c,o = .map kt vt es c)∨∃a ty y,o = .abs n a ty y∧a.small 0=true
def Af.Bgy{n:Nat}{o:Af}(hk:o.Ba6 n)(he:A6s f n):(o.re f).o=Ef f o.o:=by
 rcases hk with ⟨kt,vt,es,c,rfl⟩|⟨a,ty,y,rfl,hs⟩
 ·rfl
 ·simp only[Af.re,Af.o,Qp,a.A5v y hs he]
def Af.As1{n:Nat}{o:Af}(hk:o.Ba6 n)(he:A6s f n):(o.re f).C7=o.C7.map (fun p=>(f p.1,Ef f p.2)):=by
 rcases hk with ⟨kt,vt,es,c,rfl⟩|⟨a,ty,y,rfl,hs⟩
 ·rfl
 ·simp only[Af.re,Af.C7,a.Rh n 0 y hs he]
theorem Sh.A0a{b:Nat→Nat}:∀(S:Sh) (i:Nat) (x:S.T),(∀j,j<i+S.len→f (b j)=b' j)→(S.kids b i x).map (fun q=>(f q.1,q.2.re f))=S.kids b' i x
 |.nil,i,x,hb=>rfl
 |.d t r,i,x,hb=>Sh.A0a r (i+1) x.2 fun j hj=>hb j (by simp only[Sh.len];omega)
 |.m kt vt r,i,x,hb=>by
  have Iy:∀j,j<i+1+r.len→f (b j)=b' j:=fun j hj=>hb j (by simp only[Sh.len];omega)
  have hi:f (b i)=b' i:=hb i (by simp only[Sh.len];omega);simp only[Sh.kids,Bo4,Sh.A0a r (i+1) x.2 Iy];cases x.1 with
  |none=>rfl
  |some y=>simp only[Bnh,Bo8,hi,Af.re]
 |.s a ty r,i,x,hb=>by
  have Iy:∀j,j<i+1+r.len→f (b j)=b' j:=fun j hj=>hb j (by simp only[Sh.len];omega)
  have hi:f (b i)=b' i:=hb i (by simp only[Sh.len];omega);have:=Sh.A0a r (i+1) x.2 Iy;simp only[Sh.kids,Bnh,this];rw[hi,show(Af.abs (b i) a ty x.1).re f = .abs (f (b i)) a ty x.1 from rfl,hi]
 |.z a ty r,i,x,hb=>by
  have Iy:∀j,j<i+1+r.len→f (b j)=b' j:=fun j hj=>hb j (by simp only[Sh.len];omega)
  have hi:f (b i)=b' i:=hb i (by simp only[Sh.len];omega);simp only[Sh.kids,Bo4,Sh.A0a r (i+1) x.2 Iy];cases x.1 with
  |none=>rfl
  |some y=>simp only[Bnh,Bo8,hi,Af.re]
def Sh.A5w(b:Nat→Nat)(S:Sh)(i:Nat)(x:S.T)(hs:S.small i=true):∀q∈S.kids b i x,q.2.Ba6 q.1:=by
 intro q hq;obtain⟨j,h1,h2,h3,h4⟩:=S.W6 b i x hs q hq;rcases h4 with h4|⟨a,ty,y,h5,h6⟩
 ·exact .inl h4
 ·exact .inr ⟨a,ty,y,by rw[h3];exact h5,h6⟩
theorem Sh.A0b(b:Nat→Nat):∀(S:Sh) (i:Nat) (x:S.T),∀q∈S.kids b i x,∃j,i≤j∧j<i+S.len∧q.1=b j
 |.nil,i,x,q,hq=>by cases hq
 |.d t r,i,x,q,hq=>by
  obtain⟨j,h1,h2,h3⟩:=Sh.A0b b r (i+1) x.2 q hq;exact⟨j,by omega,by simp only[Sh.len];omega,h3⟩
 |.m kt vt r,i,x,q,hq=>by
  rcases Bnk.1 hq with hq|hq
  ·cases hx:x.1 with
   |none=>rw[hx]at hq;cases hq
   |some y=>rw[hx]at hq;rw[Bnw]at hq;subst hq;exact⟨i,Bno _,by simp only[Sh.len];omega,rfl⟩
  ·obtain⟨j,h1,h2,h3⟩:=Sh.A0b b r (i+1) x.2 q hq;exact⟨j,by omega,by simp only[Sh.len];omega,h3⟩
 |.s a ty r,i,x,q,hq=>by
  rcases Bnd.1 hq with rfl|hq
  ·exact⟨i,Bno _,by simp only[Sh.len];omega,rfl⟩
  ·obtain⟨j,h1,h2,h3⟩:=Sh.A0b b r (i+1) x.2 q hq;exact⟨j,by omega,by simp only[Sh.len];omega,h3⟩
 |.z a ty r,i,x,q,hq=>by
  rcases Bnk.1 hq with hq|hq
  ·cases hx:x.1 with
   |none=>rw[hx]at hq;cases hq
   |some y=>rw[hx]at hq;rw[Bnw]at hq;subst hq;exact⟨i,Bno _,by simp only[Sh.len];omega,rfl⟩
  ·obtain⟨j,h1,h2,h3⟩:=Sh.A0b b r (i+1) x.2 q hq;exact⟨j,by omega,by simp only[Sh.len];omega,h3⟩
def Abc(τ:A6 (Nat×Nat)):Nat→Nat→Nat
 |0,n=>n
 |fuel+1,n=>match lk n τ with
  |some j=>j
  |none=>cond (Nat.blt n H0) n (Fu (Abc τ fuel ((n-H0)/1000)) ((n-H0) % 1000))
def ren(τ:A6 (Nat×Nat))(n:Nat):Nat:=Abc τ (n+1) n
def Ba7{n:Nat}(h:H0≤n):(n-H0)/1000<n:=by unfold H0 at *;omega
def A0c{a b:Nat}(h:a<b):Nat.blt a b=true:=by rw[Bpb];exact h
def A5x{a b:Nat}(h:b≤a):Nat.blt a b=false:=by
 cases hb:Nat.blt a b with
 |false=>rfl
 |true=>rw[Bpb]at hb;omega
def A8g{f n:Nat}(h:lk n τ=some j):Abc τ (f+1) n=j:=by show(match lk n τ with|some j=>j|none=>cond (Nat.blt n H0) n (Fu (Abc τ f ((n-H0)/1000)) ((n-H0) % 1000)))=j;rw[h]
def A8h{f n:Nat}(h:lk n τ=none):Abc τ (f+1) n=cond (Nat.blt n H0) n (Fu (Abc τ f ((n-H0)/1000)) ((n-H0) % 1000)):=by show(match lk n τ with|some j=>j|none=>cond (Nat.blt n H0) n (Fu (Abc τ f ((n-H0)/1000)) ((n-H0) % 1000)))=_;rw[h]
def B05(τ:A6 (Nat×Nat)):∀(n f g:Nat),n<f→n<g→Abc τ f n=Abc τ g n:=by
 intro n;induction n using Nat.strongRecOn with
 |ind n ih =>
  intro f g hf hg;obtain⟨f,rfl⟩:∃f',f=f'+1:=⟨f-1,by omega⟩;obtain⟨g,rfl⟩:∃g',g=g'+1:=⟨g-1,by omega⟩;cases hl:lk n τ with
  |some j=>rw[A8g hl,A8g hl]
  |none =>
   rw[A8h hl,A8h hl];by_cases By:n<H0
   ·rw[A0c By,Bna,Bna]
   ·have hp:=Ba7 (Bry By);rw[A5x (Bry By),Bnc,Bnc,ih _ hp f g (by omega) (by omega)]
def B30{n:Nat}(h:lk n τ=some j):ren τ n=j:=A8g h
def B31(hj:j<1000)(h:lk (Fu m j) τ=none):ren τ (Fu m j)=Fu (ren τ m) j:=by
 have e1:(Fu m j-H0)/1000=m:=by unfold Fu;omega
 have e2:(Fu m j-H0) % 1000=j:=by unfold Fu;omega
 have By:m<Fu m j:=by unfold Fu H0;omega
 unfold ren;rw[A8h h,A5x (R5 m j),Bnc,e1,e2,B05 τ m (Fu m j) (m+1) By (by omega)]
def Ao3(base:Nat→Nat):Nat→Nat→Nat
 |0,n=>n
 |fuel+1,n=>cond (Nat.blt n H0) (base n) (Fu (Ao3 base fuel ((n-H0)/1000)) ((n-H0) % 1000))
def Ou(base:Nat→Nat)(n:Nat):Nat:=Ao3 base (n+1) n
def A1x(base:Nat→Nat)(f n:Nat):Ao3 base (f+1) n=cond (Nat.blt n H0) (base n) (Fu (Ao3 base f ((n-H0)/1000)) ((n-H0) % 1000)):=rfl
def B06(base:Nat→Nat):∀(n f g:Nat),n<f→n<g→Ao3 base f n=Ao3 base g n:=by
 intro n;induction n using Nat.strongRecOn with
 |ind n ih =>
  intro f g hf hg;obtain⟨f,rfl⟩:∃f',f=f'+1:=⟨f-1,by omega⟩;obtain⟨g,rfl⟩:∃g',g=g'+1:=⟨g-1,by omega⟩;rw[A1x,A1x];by_cases By:n<H0
  ·rw[A0c By,Bna,Bna]
  ·have hp:=Ba7 (Bry By);rw[A5x (Bry By),Bnc,Bnc,ih _ hp f g (by omega) (by omega)]
def Wy{base:Nat→Nat}{n:Nat}(hn:n<H0):Ou base n=base n:=by unfold Ou;rw[A1x,A0c hn,Bna]
def Ba8{base:Nat→Nat}(hj:j<1000):Ou base (Fu m j)=Fu (Ou base m) j:=by
 have e1:(Fu m j-H0)/1000=m:=by unfold Fu;omega
 have e2:(Fu m j-H0) % 1000=j:=by unfold Fu;omega
 have By:m<Fu m j:=by unfold Fu H0;omega
 unfold Ou;rw[A1x,A5x (R5 m j),Bnc,e1,e2,B06 base m (Fu m j) (m+1) By (by omega)]
def Db.map{n:Nat}(h:Db r n)(he:A6s f r):Db (f r) (f n):=by
 induction h with
 |here i hi=>rw[he r i hi (.inl rfl)];exact .here i hi
 |deep i hi h1 ih=>rw[he _ i hi (.inr h1)];exact .deep i hi ih
def B5m{n:Nat}(he:A6s f r)(h:Db r n)(h':Db r n')(e:f n=f n'):n=n':=by
 induction h generalizing n' with
 |here i hi =>
  cases h' with
  |here j hj =>rw[he r i hi (.inl rfl),he r j hj (.inl rfl)]at e;rw[(Ha hi hj e).2]
  |deep j hj h2 =>rw[he r i hi (.inl rfl),he _ j hj (.inr h2)]at e;have:=(Ha hi hj e).1;have:=(h2.map he).lt;omega
 |deep i hi h1 ih =>
  cases h' with
  |here j hj =>rw[he _ i hi (.inr h1),he r j hj (.inl rfl)]at e;have:=(Ha hi hj e).1;have:=(h1.map he).lt;omega
  |deep j hj h2 =>rw[he _ i hi (.inr h1),he _ j hj (.inr h2)]at e;obtain⟨e1,e2⟩:=Ha hi hj e;rw[ih h2 e1,e2]
def As2{R A:Nat→Prop}(hA:∀r,A r→A6s f r)(h1:∀r r',R r→R r'→f r=f r'→r=r')(h2:∀r r',R r→R r'→A r'→¬Db (f r') (f r)){n:Nat}
  (hn:R n∨∃r,R r∧A r∧Db r n) (Th:R n'∨∃r,R r∧A r∧Db r n') (e:f n=f n'):n=n':=by
 rcases hn with hn|⟨r,a1,a2,a3⟩<;>rcases Th with Th|⟨r',b1,b2,b3⟩
 ·exact h1 _ _ hn Th e
 ·have:=b3.map (hA r' b2);rw[← e]at this;exact(h2 _ _ hn b1 b2 this).elim
 ·have:=a3.map (hA r a2);rw[e]at this;exact(h2 _ _ Th a1 a2 this).elim
 ·have u:=a3.map (hA r a2);have v:=b3.map (hA r' b2);rw[e]at u;rcases u.two v with h|h|h
  ·have:=h1 _ _ a1 b1 h;subst this;exact B5m (hA r a2) a3 b3 e
  ·exact(h2 _ _ b1 a1 a2 h).elim
  ·exact(h2 _ _ a1 b1 b2 h).elim
end Go.Xl
