import Derived.Test.YtoafaodmkmfkpaaGreatZa
import Derived.Shelf.SlSortCmp.NoneTotal
import Derived.LaidEqlPtr
import Derived.MapKept
import Derived.WideKeyRuns
set_option linter.all false
open Go.IntKind (i64 u64 u16)
noncomputable section
namespace Go.Ab
open Go.Sort Go.Proofs
section
variable{P:Program}{o:Oper}{X:Ad}
def B81{g:Gh}{w w':World}(hs:∀b i,i<g.γ b→(w.cell? ⟨b,i,none⟩).isSome)(hc:∀b,g.γ b≠0→w'.heap[b]? = w.heap[b]?)(hsh:∀b s,w.shape? b=some s→w'.shape? b=some s):LeD g.γ w (full w').γ w':=by
 refine⟨fun b=>?_,fun b i hi=>Gl (hc b (by omega)) i none,hsh⟩;rcases Bpl (g.γ b)with h0|h0
 ·omega
 ·have h1:=hs b (g.γ b-1) (by omega);have h2:=hc b (by omega);simp only[full,Ug,h2];unfold World.cell? at h1;split at h1
  ·rename_i c T fr he;simp only at he;rw[he];simp only[Option.isSome_none,Bon,Bpi]at h1;have:=(Boj.1 h1);obtain⟨v,hv⟩:=this;have:=(Bny.1 hv).1;show g.γ b≤c.size;omega
  ·simp at h1
abbrev El{τ:Type}(ds:τ→A6 D)(sz:Nat)(g:Gh)(w:World):Type:={ p:τ×A6 Value // p.2.length=sz∧∀(i:Nat) d v,(ds p.1)[i]? = some d→p.2[i]? = some v→RD g.γ w d v }
def Au4(P:Program)(f c:FuncId)(sz:Nat):Prop :=
 ∀(α:Type) [Inhabited α] (enc:α→A6 Value),(∀x,(enc x).length=sz)→(∀x,∀v∈enc x,v.oneCell'=true)→∀(cf:α→α→Int),SWO (ltOf cf)→∀(blk cap:Nat) (d:Array α) (w:World),
  CmpLays P c #[] enc sz cf blk 0 d.size w→HoldsK enc sz w blk 0 d→blk<w.heap.size→d.size<4611686018427387904 →
  Calls P f #[.slice (some ⟨blk,0,none⟩) d.size cap,.func (.func c) #[] #[]] w fun e w'=>e = .returned (.tuple #[])∧∃d' n os,PermIn 0 d.size d d'∧SortedIn (ltOf cf) 0 d.size d'∧w'=sortWorldK enc sz w blk 0 n d' os
theorem B1m{τ:Type}{ds:τ→A6 D}{sz:Nat}(hk:∀x,(ds x).length=sz){g:Gh}{w:World}{l:A6 τ}{arr:Array Value}(hl:l.length*sz≤arr.size)
  (hcc:∀(j:Nat) d v,(l.map ds).flatten[j]? = some d→arr[j]? = some v→RD g.γ w d v):∀n,n≤l.length→∃row:A6 (El ds sz g w),row.length=n∧row.map (·.1.1)=l.take n∧∀j,j<n*sz→(row.map (·.1.2)).flatten[j]? = arr[j]?
 |0,_=>⟨[],rfl,by simp,by simp⟩
 |n+1,hn=>by
  obtain⟨row,r1,r2,r3⟩:=B1m hk hl hcc n (by omega);have hln:n<l.length:=by omega
  have hle:n*sz+sz≤arr.size:=by have:=Bpn sz hn;rw[Bpx]at this;omega
  let vs:A6 Value:=(arr.toList.drop (n*sz)).take sz;have hvl:vs.length=sz:=by simp[vs];omega
  have hv:∀i,i<sz→vs[i]? = arr[n*sz+i]?:=by intro i hi;simp[vs,hi,Bp3]
  have A9s:∀i,i<sz→(l.map ds).flatten[n*sz+i]? = (ds l[n])[i]?:=by
   intro i hi;have h0:=Ho (enc:=fun x=>(ds x).map fun _=>undef) (sz:=sz) (by simp[hk]);have key:∀(m:A6 τ) (n:Nat) (hn:n<m.length),(m.map ds).flatten[n*sz+i]? = (ds m[n])[i]?:=by
    intro m;induction m with
    |nil=>intro n hn;simp at hn
    |cons x m ih =>
     intro n hn;simp only[Bnh,Bph,Boz,hk];cases n with
     |zero=>rw[Bo3 (by omega)];simp
     |succ n =>rw[Bnv (by rw[Bpx];omega),show(n+1)*sz+i-sz=n*sz+i by rw[Bpx];omega,ih n (by simpa using hn)];simp
   exact key l n hln
  have hel:∀(i:Nat) d v,(ds l[n])[i]? = some d→vs[i]? = some v→RD g.γ w d v:=by
   intro i d v hd hvv;have hi:i<sz:=by have:=(Bnj.1 hd).1;simp only[hk]at this;exact this
   refine hcc (n*sz+i) d v ?_ ?_
   ·rw[A9s i hi];exact hd
   ·rw[← hv i hi];exact hvv
  refine⟨row++[⟨(l[n],vs),hvl,hel⟩],by rw[Bp4,r1];rfl,?_,?_⟩
  ·rw[Bo4,r2,Bp9,Bng hln];rfl
  ·intro j hj;have hlen:(row.map (·.1.2)).flatten.length=n*sz:=by have:=Ho (enc:=fun x:El ds sz g w=>x.1.2) (sz:=sz) (fun x=>x.2.1) row;rw[r1]at this;exact this
   rw[Bo4,Br4,Boz,hlen];split
   ·rename_i h;exact r3 j h
   ·rename_i h;rw[Bpx]at hj;have:=hv (j-n*sz) (by omega);simp only[Bnh,Bo8,Bph,List.flatten_nil,Bom];rw[this,show n*sz+(j-n*sz)=j by omega]
def B82{τ:Type}{f c:FuncId}{s x:Operand}{ts:Array TypeId}{k len sz:Nat}{ds:τ→A6 D}(hk:∀x,(ds x).length=sz)(K0:∀x,∀d∈ds x,A2l d=true){l:A6 τ}{ty:A7 TypeId}{cf:τ→τ→Int}(φ:A6 τ)
  (ho:o.op = .call { callee:=.value (.func f),args:=#[s,x],argTypes:=ts }) (hf:F6 P f) (P7:X.objs.lookup k=some (.cells ((l.map ds).flatten.map .d) ty)) (hlen:len≤l.length) (A2n:len<4611686018427387904)
  (hφ:∀r:A6 τ,r.Perm (l.take len)→r.Pairwise (fun x y=>ltOf cf y x=false)→r=φ)
  (hN:∀p cap w,Calls P f #[.slice p 0 cap,.func (.func c) #[] #[]] w fun e w'=>e = .returned (.tuple #[])∧w'=w)
  (hO:SWO (ltOf cf)) (hc:∀x y,Does P c [.d (.agg (ds x)),.d (.agg (ds y))] X0 (.d (.sc (.int .i64 (cf x y)))) X0) (hS:Au4 P f c sz) :
  Ca P o [(s,.osl k 0 len sz),(x,.Ek c [])] X ⟨setObj k (.cells (((φ++l.drop len).map ds).flatten.map .d) ty) X.objs,X.live⟩ [] (.Er []):=by
 intro nm G3 B g w a hr Bg next Q Gu
 have e1:=Lz Bg;have e2:=Bg (x,.Ek c []) (by simp);simp only at e1 e2;obtain⟨cap,q,Yw,hv,hq,T,c',hsh,Tg⟩:=e1.T6;generalize hfv:a.eval x=fv at e2;cases e2 with
 |Ek _ _ vs hl0 _ =>
 have Qx:vs=#[]:=by apply Bos;rw[← hl0];rfl
 subst Qx;unfold Oper.wp;have Fj:(execOp a.eval o).run P w = .ok (.enter f #[.slice (some ⟨g.ρ k,q,none⟩) len cap,.func (.func c) #[] #[]]) w:=by
  have h1:(execOp a.eval o).run P w = .ok (.enter f (#[s,x].map a.eval)) w:=by simp only[execOp,ho,resolve];simp[Act.eval,Deferred.ofValue,invoke,Dl hf]
  rw[h1];have h2:#[s,x].map a.eval=#[.slice (some ⟨g.ρ k,q,none⟩) len cap,.func (.func c) #[] #[]]:=by
   have h3:#[s,x].map a.eval=#[a.eval s,a.eval x]:=by simp only[Brz,Bnh,Bo8]
   rw[h3,hv,hfv]
  rw[h2]
 rw[Fj];cases hr.objs k _ P7 with
 |cells _ _ arr T' hb hl hcc hty =>
 rw[Bo1]at hl;have hfl:∀m:A6 τ,(m.map ds).flatten.length=m.length*sz:=by
  intro m;induction m with
  |nil=>simp
  |cons x m ih=>simp only[Bnh,Bph,Bp4,ih,hk,Bnx,Bpx];omega
 have Apl:l.length*sz≤arr.size:=by rw[← hfl];exact hl
 have Bib:∀(j:Nat) d v,(l.map ds).flatten[j]? = some d→arr[j]? = some v→RD g.γ w d v:=by
  intro j d v hd hvv;have:=hcc j (.d d) v (by rw[Bni,hd];rfl) hvv;cases this with
  |d _ _ h=>exact h
 have hd:(l.take len).length=len:=by simp;omega
 by_cases B7z:len=0
 ·subst B7z;refine(hN _ _ _).mono ?_;rintro e w' ⟨rfl,rfl⟩;have he:φ++l.drop 0=l:=by rw[← hφ [] (by simp) (by simp)];simp
  rw[he]at Gu;obtain⟨hw1,hw2⟩:=hr.write P7 (w':=w') (o':=.cells ((l.map ds).flatten.map .d) ty) rfl ⟨rfl,rfl,rfl,Bno _⟩ (fun _ _=>rfl) (fun _=>.cells _ _ arr T' hb (by rw[Bo1];exact hl) hcc hty) (fun s h=>h);exact Gu g w' _ hw1 hw2 (.Er _ _ rfl (by simp))
 ·have hq0:q=0:=hq.resolve_left (by omega);subst hq0;have Bn7:g.ρ k<w.heap.size:=Gt (hr.objs k _ P7);obtain⟨row,r1,r2,r3⟩:=B1m (g:=g) (w:=w) hk Apl Bib len hlen;let enc:El ds sz g w→A6 Value:=fun p=>p.1.2
  have hek:∀p,(enc p).length=sz:=fun p=>p.2.1
  have Bic:∀p,∀v∈enc p,v.oneCell'=true:=by
   intro p v hvm;obtain⟨i,hi,rfl⟩:=List.mem_iff_getElem.1 hvm;have hi2:i<(ds p.1.1).length:=by rw[hk,← p.2.1];exact hi
   exact Ahf (p.2.2 i _ _ (Bng hi2) (Bng hi)) (K0 _ _ (Bp5 hi2))
  have hne:row≠[]:=by intro h;rw[h]at r1;simp at r1;omega
  letI:Inhabited (El ds sz g w):=⟨row.head hne⟩;let cf':El ds sz g w→El ds sz g w→Int:=fun p q=>cf p.1.1 q.1.1
  have By:∀p q,ltOf cf' p q=ltOf cf p.1.1 q.1.1:=fun _ _=>rfl
  have hO':SWO (ltOf cf'):=⟨fun x=>hO.irrefl _,fun x y z=>hO.trans _ _ _,fun x y z=>hO.ntrans _ _ _⟩;have hrs:row.toArray.size=len:=by simp[r1]
  have hH:HoldsK enc sz w (g.ρ k) 0 row.toArray:=by
   intro j hj;have H7:j<len*sz:=by rw[size_flatK,hrs]at hj;exact hj
   have h1:=Acj hek row j (by rw[r1];exact H7);have h2:=r3 j H7;have h3:arr[j]? = some (flatK enc sz row.toArray)[j]!:=by rw[← h2];exact h1
   constructor
   ·rw[Cg hb,Bog,h3];rfl
   ·simp[World.frozen?,hb]
  have Bfx:∀m dk os (hdk:dk.size=row.toArray.size),(∀b,g.γ b≠0→(sortWorldK enc sz w (g.ρ k) 0 m dk os).heap[b]? = w.heap[b]?)∧∀b s,w.shape? b=some s→(sortWorldK enc sz w (g.ρ k) 0 m dk os).shape? b=some s:=by
   intro m dk os hdk;have hold:∀b,b<w.heap.size→(sortWorldK enc sz w (g.ρ k) 0 m dk os).heap[b]? = (putRowK enc sz (Sort.ahead w m) (g.ρ k) 0 dk).heap[b]?:=by intro b hbl;exact heap_grow_old _ _ (by simpa[putRowK]using hbl)
   have A33:∀b,b≠g.ρ k→(putRowK enc sz (Sort.ahead w m) (g.ρ k) 0 dk).heap[b]? = w.heap[b]?:=by intro b B80;simp only[putRowK,putRow,mapBlock,Bq7,Btd];rw[Bnv (Bq5 B80)]
   refine⟨fun b hγ=>?_,fun b s hs=>?_⟩
   ·have hbl:=γ_lt hr (show 0<g.γ b by omega);rw[hold b hbl,A33 b (by rintro rfl;exact hγ (hr.Fi k _ P7))]
   ·have hbl:b<w.heap.size:=by
     rcases Bpt b w.heap.size with h|h
     ·exact h
     ·simp[World.shape?,Bqd h]at hs
    by_cases hbk:b=g.ρ k
    ·subst hbk;have Iy:(putRowK enc sz (Sort.ahead w m) (g.ρ k) 0 dk).heap[g.ρ k]? = some (.cells (putCells id 0 (flatK enc sz dk) arr) T' (0,0)):=by simp only[putRowK,putRow,mapBlock,Bq7,Btd,hb];simp[onCells]
     simp only[World.shape?,hb]at hs;simp only[World.shape?,hold _ hbl,Iy];simpa[putCells]using hs
    ·simp only[World.shape?,hold b hbl,A33 b hbk]at hs⊢;exact hs
  have Au5:CmpLays P c #[] enc sz cf' (g.ρ k) 0 row.toArray.size w:=by
   intro m os dk hdk p q;obtain⟨w1,w2⟩:=Bfx m dk os hdk;have hle:=B81 (w':=sortWorldK enc sz w (g.ρ k) 0 m dk os) hr.Iw w1 w2;have Xt:∀p:El ds sz g w,RA (full (sortWorldK enc sz w (g.ρ k) 0 m dk os)) (sortWorldK enc sz w (g.ρ k) 0 m dk os) (.d (.agg (ds p.1.1))) (.agg (enc p).toArray):=by intro p;refine .d _ _ (.agg _ _ (by simp[enc,hk,p.2.1]) ?_);intro i d v hdd hvv;exact(p.2.2 i d v hdd (by simpa[enc]using hvv)).mono hle
   have:=(hc p.1.1 q.1.1).grown (w:=sortWorldK enc sz w (g.ρ k) 0 m dk os) (vs:=#[.agg (enc p).toArray,.agg (enc q).toArray]) rfl (by
    intro i z v hz hvv
    match i with
    |0=>simp at hz hvv;subst hz;subst hvv;exact Xt p
    |1=>simp at hz hvv;subst hz;subst hvv;exact Xt q
    |n+2=>simp at hz)
   simpa using this
  have We:=hS (El ds sz g w) enc hek Bic cf' hO' (g.ρ k) cap row.toArray w Au5 hH Bn7 (by rw[hrs];exact A2n);rw[hrs]at We;refine We.mono ?_;rintro e w' ⟨rfl,d',n,os,Ot,B83,rfl⟩;obtain⟨p1,_,p3⟩:=Ot;rw[hrs]at p1;have B40:d'.size=len:=p1;have hpm:d'.toList.Perm row:=by
   have h4:d'.extract 0 len=d':=by rw[← B40];simp
   have h5:row.toArray.extract 0 len=row.toArray:=by rw[← hrs];simp
   rw[h4,h5]at p3;simpa using p3
  have Bid:d'.toList.map (·.1.1)=φ:=by
   refine hφ _ ?_ ?_
   ·rw[← r2];exact hpm.map _
   ·rw[Bra,Bp6];intro i j hi hj hij;have Md:i<d'.size:=by simpa using hi
    have H7:j<d'.size:=by simpa using hj
    have:=B83 i j (Bq9 _) hij (by omega);rw[Bsw d' i Md,Bsw d' j H7]at this;simpa[By]using this
  let Dq:=putCells id 0 (flatK enc sz d') arr;have Iy:(putRowK enc sz (Sort.ahead w n) (g.ρ k) 0 d').heap[g.ρ k]? = some (.cells Dq T' (0,0)):=by simp only[putRowK,putRow,mapBlock,Bq7,Btd,hb];simp[onCells,Dq]
  have Au2:Dq.size=arr.size:=by simp[Dq,putCells]
  have Mi:∀j (hj:j<arr.size),Dq[j]? = some (if j<len*sz then (flatK enc sz d')[j]! else arr[j]):=by intro j hj;simp only[Dq,putCells,Buq,Bob hj,Bol,size_flatK,B40,Bq9,Bsy,Bog,Bpy,id]
  have B84:φ.length=len:=by rw[← Bid];simp[B40]
  have A9x:(φ++l.drop len).length=l.length:=by simp[B84];omega
  have hwr:HR nm B g (putRowK enc sz (Sort.ahead w n) (g.ρ k) 0 d') ⟨setObj k (.cells (((φ++l.drop len).map ds).flatten.map .d) ty) X.objs,X.live⟩∧Trans [] g w g (putRowK enc sz (Sort.ahead w n) (g.ρ k) 0 d'):=by
   refine hr.write P7 (by simp[putRowK]) ⟨rfl,rfl,rfl,by simp[putRowK]⟩ (fun b B80=>?_) (fun htr=>?_) (fun s hs=>?_)
   ·simp only[putRowK,putRow,mapBlock,Bq7,Btd];rw[Bnv (Bq5 B80)]
   ·refine .cells _ _ Dq T' Iy (by rw[Au2,Bo1,hfl,A9x];exact Apl) ?_ hty;intro j y v hy hv';rw[Bni,Bnn]at hy;obtain⟨u,hu,rfl⟩:=hy;have Bby:j<l.length*sz:=by have:=(Bnj.1 hu).1;rw[hfl,A9x]at this;exact this
    have hja:j<arr.size:=by omega
    rw[Mi j hja]at hv';simp only[Bnf]at hv';rw[Bo4,Br4,Boz,hfl,B84]at hu;refine .d _ _ (RD.mono ?_ htr.le);by_cases hj:j<len*sz
    ·rw[Bo3 hj]at hu hv';have hs0:0<sz:=by
      rcases Bpl sz with h|h
      ·rw[h]at hj;omega
      ·exact h
     have hq1:j/sz<len:=by rw[Bt9 hs0];exact hj
     have hq2:j % sz<sz:=Bt0 _ hs0;have hq3:j/sz<d'.size:=by omega
     rw[get_flatK enc sz _ _ (by rw[B40];exact hj),Bsw d' _ hq3]at hv';have hel:=d'[j/sz].2;have Bky:φ[j/sz]? = some d'[j/sz].1.1:=by rw[← Bid,Bni,Bpd,Bob hq3];rfl
     have hu2:(φ.map ds).flatten[j]? = (ds d'[j/sz].1.1)[j % sz]?:=by
      have key:∀(m:A6 τ) (j:Nat),(m.map ds).flatten[j]? = (m[j/sz]?).bind fun x=>(ds x)[j % sz]?:=by
       intro m;induction m with
       |nil=>intro j;simp
       |cons x m ih =>
        intro j;simp only[Bnh,Bph,Boz,hk];split
        ·rename_i h;rw[Nat.div_eq_of_lt h,Buf h];simp
        ·rename_i h;rw[ih,← Nat.sub_add_cancel (show sz≤j by omega)];simp only[Bsx,Nat.add_mod_right,Nat.add_div_right _ hs0];simp
      rw[key,Bky];rfl
     rw[hu2]at hu;have hq4:j % sz<(enc d'[j/sz]).length:=by rw[hek];exact hq2
     rw[Btc,Bng hq4]at hv';refine hel.2 (j % sz) u v hu ?_;rw[← hv'];exact Bng hq4
    ·rw[Bnv hj]at hu hv';have h4:(l.map ds).flatten[j]? = some u:=by
      have:(l.map ds).flatten=((l.take len).map ds).flatten++((l.drop len).map ds).flatten:=by rw[← Br4,← Bo4,Bqs]
      rw[this,Bqi (by rw[hfl,hd];omega),hfl,hd];exact hu
     refine Bib j u v h4 ?_;rw[Bob hja,hv']
   ·simp only[World.shape?,hb]at hs;simp only[World.shape?,Iy,Au2];exact hs
  obtain⟨h6,h7⟩:=hwr;have Au3:HR nm B g (sortWorldK enc sz w (g.ρ k) 0 n d' os) _∧Trans [] g (putRowK enc sz (Sort.ahead w n) (g.ρ k) 0 d') g (sortWorldK enc sz w (g.ρ k) 0 n d' os) :=
   h6.grow (by simp[sortWorldK]) (fun b hbl=>heap_grow_old _ _ hbl) ⟨rfl,rfl,rfl,Bno _⟩
  exact Gu g _ _ Au3.1 (h7.trans Au3.2) (.Er _ _ rfl (by simp))
end
end Go.Ab
namespace Go.Xl
open Go.Ab
inductive Ty where
 |int (k:IntKind)
 |u8
 |bool
 |str
 |sl (t:Ty)
 |unit
 |pair (a b:Ty)
 |st1 (a:Ty)
 |tab (a:Ty)
 |err
 |ic (t:TypeId) (k:IntKind)
 |ptr
@[reducible] def Ty.T:Ty→Type
 |.int _=>Int
 |.u8=>UInt8
 |.bool=>Bool
 |.str=>A6 UInt8
 |.sl t=>List t.T
 |.unit=>Unit
 |.pair a b=>a.T×b.T
 |.st1 a=>a.T
 |.tab a=>List a.T
 |.err=>Bool
 |.ic _ _=>A7 Int
 |.ptr=>Unit
def M4:IntKind→IntKind→Bool
 |.i8,.i8|.i16,.i16|.i32,.i32|.i64,.i64|.u8,.u8|.u16,.u16|.u32,.u32|.u64,.u64=>true
 |_,_=>false
def Hi{a b:IntKind}(h:M4 a b=true):a=b:=by cases a<;>cases b<;>first|rfl|(simp[M4]at h)
def Ty.Jx:Ty→Ty→Bool
 |.int k,.int k'=>M4 k k'
 |.u8,.u8=>true
 |.bool,.bool=>true
 |.str,.str=>true
 |.sl a,.sl b=>a.Jx b
 |.unit,.unit=>true
 |.pair a b,.pair c d=>cond (a.Jx c) (b.Jx d) false
 |.st1 a,.st1 b=>a.Jx b
 |.tab a,.tab b=>a.Jx b
 |.err,.err=>true
 |.ic t k,.ic t' k'=>cond (Nat.beq t t') (M4 k k') false
 |.ptr,.ptr=>true
 |_,_=>false
def Ty.Av:∀ {a b:Ty},a.Jx b=true→a=b:=by
 intro a;induction a with
 |int k=>intro b h;cases b<;>simp[Ty.Jx]at h;rw[Hi h]
 |u8=>intro b h;cases b<;>simp[Ty.Jx]at h;rfl
 |bool=>intro b h;cases b<;>simp[Ty.Jx]at h;rfl
 |str=>intro b h;cases b<;>simp[Ty.Jx]at h;rfl
 |sl t ih=>intro b h;cases b<;>simp[Ty.Jx]at h;rw[ih h]
 |unit=>intro b h;cases b<;>simp[Ty.Jx]at h;rfl
 |pair x y ihx ihy=>intro b h;cases b<;>simp[Ty.Jx]at h;rw[ihx h.1,ihy h.2]
 |st1 t ih=>intro b h;cases b<;>simp[Ty.Jx]at h;rw[ih h]
 |tab t ih=>intro b h;cases b<;>simp[Ty.Jx]at h;rw[ih h]
 |err=>intro b h;cases b<;>simp[Ty.Jx]at h;rfl
 |ptr=>intro b h;cases b<;>simp[Ty.Jx]at h;rfl
 |ic t k =>
  intro b h;cases b with
  |ic t' k' =>
   simp only[Ty.Jx]at h;cases hb:Nat.beq t t' with
   |false=>simp[hb]at h
   |true=>simp only[hb,Bna]at h;rw[Bne hb,Hi h]
  |_=>simp[Ty.Jx]at h
def Ty.size:Ty→Nat
 |.unit=>0
 |.pair a b=>a.size+b.size
 |.st1 a=>a.size
 |_=>1
inductive XD where
 |i (k:IntKind) (n:Int)
 |u8 (b:UInt8)
 |b (b:Bool)
 |s (l:List UInt8)
 |v (v:Value)
 |agg (cs:List XD)
 |sl (t:Ty) (l:List t.T)
 |ep (cs:List XD)
 |pa (t:Ty) (l:List t.T)
 |er (b:Bool)
 |pp
 |ic (t:TypeId) (k:IntKind) (x:Option Int)
 |ag (t:Ty) (l:List t.T)
def Ty.enc:(t:Ty)→t.T→A6 XD
 |.int k,n=>[.i k n]
 |.u8,x=>[.u8 x]
 |.bool,x=>[.b x]
 |.str,x=>[.s x]
 |.sl t,l=>[.sl t l]
 |.unit,_=>[]
 |.pair a b,x=>a.enc x.1++b.enc x.2
 |.st1 a,x=>a.enc x
 |.tab t,l=>[.pa t l]
 |.err,b=>[.er b]
 |.ic t k,x=>[.ic t k x]
 |.ptr,_=>[.pp]
def Ty.xv:(t:Ty)→t.T→XD
 |.int k,n=>.i k n
 |.u8,x=>.u8 x
 |.bool,x=>.b x
 |.str,x=>.s x
 |.sl t,l=>.sl t l
 |.unit,_=>.agg []
 |.pair a b,x=>.agg (a.enc x.1++b.enc x.2)
 |.st1 a,x=>.agg (a.enc x)
 |.tab t,l=>.pa t l
 |.err,b=>.er b
 |.ic t k,x=>.ic t k x
 |.ptr,_=>.pp
def B85(v:Value):Prop:=∃a,v = .pointer a
def isIface(v:Value):Prop:=∃t u,v = .iface t u
def erD(b:Bool):D:=cond b (.any isIface) (.sc .nilIface)
def Bc4(b:Bool):A2l (erD b)=true:=by cases b<;>rfl
def icV(t:TypeId)(k:IntKind):A7 Int→Value
 |none=>.nilIface
 |some n=>.iface t (.int k n)
def Bc5(t:TypeId)(k:IntKind)(x:A7 Int):(icV t k x).oneCell'=true:=by cases x<;>rfl
def Ty.ds:(t:Ty)→t.T→A6 D
 |.int k,n=>[.int k n]
 |.u8,x=>[.sc (.int .u8 (x.toNat:Int))]
 |.bool,x=>[.bool x]
 |.str,x=>[.bs x]
 |.sl t,l=>[.sl t.size (l.map t.ds)]
 |.unit,_=>[]
 |.pair a b,x=>a.ds x.1++b.ds x.2
 |.st1 a,x=>a.ds x
 |.tab t,l=>[.ep ((l.map t.ds).flatten)]
 |.err,b=>[erD b]
 |.ic t k,x=>[.sc (icV t k x)]
 |.ptr,_=>[.any B85]
def XD.isAgg:XD→Bool
 |.agg _=>true
 |.ag _ _=>true
 |_=>false
mutual
def XD.d:XD→D
 |.i k n=>.int k n
 |.u8 x=>.sc (.int .u8 (x.toNat:Int))
 |.b x=>.bool x
 |.s l=>.bs l
 |.v u=>.sc u
 |.agg cs=>.agg (Dm cs)
 |.sl t l=>.sl t.size (l.map t.ds)
 |.ep cs=>.ep (Dm cs)
 |.pa t l=>.ep ((l.map t.ds).flatten)
 |.er b=>erD b
 |.ic t k x=>.sc (icV t k x)
 |.pp=>.any B85
 |.ag t l=>.agg ((l.map t.ds).flatten)
def Dm:List XD→List D
 |[]=>[]
 |x::r=>x.d::Dm r
end
def Hj(l:A6 XD):Dm l=l.map XD.d:=by
 induction l with
 |nil=>rfl
 |cons x r ih=>simp[Dm,ih]
def Y9(a b:A6 XD):Dm (a++b)=Dm a++Dm b:=by simp[Hj]
def Gv(l:A6 XD):(Dm l).length=l.length:=by simp[Hj]
theorem Ty.N7:∀(t:Ty) (x:t.T),Dm (t.enc x)=t.ds x
 |.int k,n=>rfl
 |.u8,x=>rfl
 |.bool,x=>rfl
 |.str,x=>rfl
 |.sl t,l=>rfl
 |.unit,_=>rfl
 |.pair a b,x=>by simp only[Ty.enc,Ty.ds,Y9,Ty.N7 a,Ty.N7 b]
 |.st1 a,x=>by simp only[Ty.enc,Ty.ds,Ty.N7 a]
 |.tab t,l=>rfl
 |.err,b=>rfl
 |.ic t k,x=>rfl
 |.ptr,_=>rfl
theorem Ty.Df:∀(t:Ty) (x:t.T),(t.ds x).length=t.size
 |.int k,n=>rfl
 |.u8,x=>rfl
 |.bool,x=>rfl
 |.str,x=>rfl
 |.sl t,l=>rfl
 |.unit,_=>rfl
 |.pair a b,x=>by simp only[Ty.ds,Ty.size,Bp4,Ty.Df a,Ty.Df b]
 |.st1 a,x=>by simp only[Ty.ds,Ty.size,Ty.Df a]
 |.tab t,l=>rfl
 |.err,b=>rfl
 |.ic t k,x=>rfl
 |.ptr,_=>rfl
def Ty.A7u(t:Ty)(x:t.T):(t.enc x).length=t.size:=by rw[← Gv,Ty.N7,Ty.Df]
theorem Ty.Z1:∀(t:Ty) (x:t.T),∀c∈t.ds x,A2l c=true
 |.int k,n=>by simp[Ty.ds,A2l,Value.oneCell']
 |.u8,x=>by simp[Ty.ds,A2l,Value.oneCell']
 |.bool,x=>by simp[Ty.ds,A2l,Value.oneCell']
 |.str,x=>by simp[Ty.ds,A2l,Value.oneCell']
 |.sl t,l=>by simp[Ty.ds,A2l]
 |.unit,_=>by simp[Ty.ds]
 |.pair a b,x=>by
  intro c hc;simp only[Ty.ds,Bnk]at hc;rcases hc with h|h
  ·exact Ty.Z1 a _ c h
  ·exact Ty.Z1 b _ c h
 |.st1 a,x=>by simp only[Ty.ds];exact Ty.Z1 a x
 |.tab t,l=>by simp[Ty.ds,A2l]
 |.err,b=>by simp only[Ty.ds,Bnw];rintro c rfl;exact Bc4 b
 |.ic t k,x=>by simp only[Ty.ds,Bnw];rintro c rfl;exact Bc5 t k x
 |.ptr,_=>by simp only[Ty.ds,Bnw];rintro c rfl;rfl
def DLe(x y:D):Prop:=∀(γ:Nat→Nat) (w:World) (v:Value),RD γ w x v→RD γ w y v
def DLe.refl(x:D):DLe x x:=fun _ _ _ h=>h
inductive Mk:List D→List D→Prop
 |nil:Mk [] []
 |cons {x y:D} {r s:List D}:DLe x y→Mk r s→Mk (x::r) (y::s)
theorem Mk.refl:∀(l:A6 D),Mk l l
 |[]=>.nil
 |x::r=>.cons (.refl x) (Mk.refl r)
variable{b k j n sz fo len m clock since last L:Nat}{c:A6 D}{cs r xs:A6 XD}{t k' e s t':TypeId}{F live nm:A6 Nat}{ty kt vt:Ty}{γ:Nat→Nat}{w:World}{fs:A6 (A6 D)}{h:Int}{zv:Value}{ok:Bool}
def Mk.append{a b d:A6 D}(h:Mk a b)(h':Mk c d):Mk (a++c) (b++d):=by
 induction h with
 |nil=>exact h'
 |cons h1 _ ih=>exact .cons h1 ih
theorem Mk.length{a b:A6 D}(h:Mk a b):a.length=b.length:=by
 induction h with
 |nil=>rfl
 |cons _ _ ih=>simp[ih]
def Mk.get{a b:A6 D}(h:Mk a b):∀ {i:Nat} {y:D},b[i]? = some y→∃x,a[i]? = some x∧DLe x y:=by
 induction h with
 |nil=>intro i y hy;simp at hy
 |cons h1 _ ih =>
  intro i y hy;cases i with
  |zero=>simp at hy;subst hy;exact⟨_,rfl,h1⟩
  |succ i=>simp at hy;simpa using ih hy
theorem Mk.agg{a b:A6 D}(h:Mk a b):DLe (.agg a) (.agg b):=by
 intro γ w v hr;cases hr with
 |agg _ vs hl hc =>
  refine .agg b vs (h.length▸hl) fun i c u hb hu=>?_
  obtain⟨x,hx,hle⟩:=h.get hb;exact hle _ _ _ (hc i x u hx hu)
def DLe.Bie(sz:Nat)(a:Addr)(cap:Nat):DLe (.sc (.slice (some a) 0 cap)) (.sl sz []):=by intro γ w v h;cases h;exact .nil sz (some a) cap (by simp)
theorem DLe.nil(sz:Nat):DLe (.sc (.slice none 0 0)) (.sl sz []):=by intro γ w v hr;cases hr;exact .nil sz none 0 fun _=>rfl
def Bc6(k:IntKind):A6 XD→A7 (Int×A6 XD)
 |.i k' n::r=>cond (M4 k' k) (some (n,r)) none
 |.u8 x::r=>cond (M4 .u8 k) (some (((x.toNat:Nat):Int),r)) none
 |_=>none
def B1n:A6 XD→A7 (UInt8×A6 XD)
 |.u8 x::r=>some (x,r)
 |_=>none
def Bc7:A6 XD→A7 (Bool×A6 XD)
 |.b x::r=>some (x,r)
 |_=>none
def Bc8:A6 XD→A7 (A6 UInt8×A6 XD)
 |.s x::r=>some (x,r)
 |_=>none
def Bc9(t:Ty):A6 XD→A7 (List t.T×A6 XD)
 |.sl t' l::r=>if h:t'.Jx t=true then some (Ty.Av h▸l,r)else none
 |.v (.slice none 0 0)::r=>some ([],r)
 |.v (.slice (some _) 0 _)::r=>some ([],r)
 |_=>none
def Bca(t:Ty):A6 XD→A7 (List t.T×A6 XD)
 |.pa t' l::r=>if h:t'.Jx t=true then some (Ty.Av h▸l,r)else none
 |_=>none
def Bcb:A6 XD→A7 (Bool×A6 XD)
 |.er b::r=>some (b,r)
 |.ic t k x::r=>some (x.isSome,r)
 |.v .nilIface::r=>some (false,r)
 |_=>none
def B1o(t:TypeId)(k:IntKind):A6 XD→A7 (A7 Int×A6 XD)
 |.ic t' k' x::r=>cond (Nat.beq t' t) (cond (M4 k' k) (some (x,r)) none) none
 |.v .nilIface::r=>some (none,r)
 |_=>none
def Bcc:A6 XD→A7 (Unit×A6 XD)
 |.pp::r=>some ((),r)
 |.v (.pointer _)::r=>some ((),r)
 |_=>none
def Ty.dec:(t:Ty)→A6 XD→A7 (t.T×A6 XD)
 |.int k=>Bc6 k
 |.u8=>B1n
 |.bool=>Bc7
 |.str=>Bc8
 |.sl t=>Bc9 t
 |.unit=>fun r=>some ((),r)
 |.pair a b=>fun cs=>match a.dec cs with
  |some p=>match b.dec p.2 with
   |some q=>some ((p.1,q.1),q.2)
   |none=>none
  |none=>none
 |.st1 a=>a.dec
 |.tab t=>Bca t
 |.err=>Bcb
 |.ic t k=>B1o t k
 |.ptr=>Bcc
def B41{k:IntKind}{x:Int}(h:Bc6 k cs=some (x,r)):∃ds,Dm cs=ds++Dm r∧Mk ds [.int k x]:=by
 unfold Bc6 at h;split at h
 ·rename_i k' n r';cases hk:M4 k' k<;>simp[hk]at h;have:=Hi hk;subst this;obtain⟨rfl,rfl⟩:=h;exact⟨[_],by simp[Dm,XD.d],.refl _⟩
 ·rename_i x' r';cases hk:M4 .u8 k<;>simp[hk]at h;have:=Hi hk;subst this;obtain⟨rfl,rfl⟩:=h;exact⟨[_],by simp[Dm,XD.d],.refl _⟩
 ·cases h
def Ayi{x:UInt8}(h:B1n cs=some (x,r)):∃ds,Dm cs=ds++Dm r∧Mk ds (Ty.u8.ds x):=by
 unfold B1n at h;split at h
 ·cases h;exact⟨[_],by simp[Dm,XD.d],.refl _⟩
 ·cases h
def B42{x:Bool}(h:Bc7 cs=some (x,r)):∃ds,Dm cs=ds++Dm r∧Mk ds (Ty.bool.ds x):=by
 unfold Bc7 at h;split at h
 ·cases h;exact⟨[_],by simp[Dm,XD.d],.refl _⟩
 ·cases h
def B43{x:A6 UInt8}(h:Bc8 cs=some (x,r)):∃ds,Dm cs=ds++Dm r∧Mk ds (Ty.str.ds x):=by
 unfold Bc8 at h;split at h
 ·cases h;exact⟨[_],by simp[Dm,XD.d],.refl _⟩
 ·cases h
def B44{t:Ty}{x:List t.T}(h:Bc9 t cs=some (x,r)):∃ds,Dm cs=ds++Dm r∧Mk ds (Ty.ds (.sl t) x):=by
 unfold Bc9 at h;split at h
 ·rename_i t' l r';split at h
  ·rename_i ht;simp only[Bnf,Bo2]at h;obtain⟨rfl,rfl⟩:=h;have e:=Ty.Av ht;subst e;exact⟨[_],by simp[Dm,XD.d],.refl _⟩
  ·cases h
 ·cases h;exact⟨[_],by simp[Dm,XD.d],.cons (.nil _) .nil⟩
 ·cases h;exact⟨[_],rfl,.cons (.Bie _ _ _) .nil⟩
 ·cases h
def B45{t:Ty}{x:List t.T}(h:Bca t cs=some (x,r)):∃ds,Dm cs=ds++Dm r∧Mk ds (Ty.ds (.tab t) x):=by
 unfold Bca at h;split at h
 ·rename_i t' l r';split at h
  ·rename_i ht;simp only[Bnf,Bo2]at h;obtain⟨rfl,rfl⟩:=h;have e:=Ty.Av ht;subst e;exact⟨[_],by simp[Dm,XD.d],.refl _⟩
  ·cases h
 ·cases h
def B46{x:Bool}(h:Bcb cs=some (x,r)):∃ds,Dm cs=ds++Dm r∧Mk ds (Ty.err.ds x):=by
 unfold Bcb at h;split at h
 ·cases h;exact⟨[_],rfl,.refl _⟩
 ·rename_i t k x r;cases h;refine⟨[_],rfl,.cons ?_ .nil⟩;intro γ w v hr;cases hr;cases x with
  |none=>exact .sc _
  |some n=>exact .any _ _ ⟨t,_,rfl⟩ rfl
 ·cases h;exact⟨[_],rfl,.refl _⟩
 ·cases h
def Ayj{k:IntKind}{x:A7 Int}(h:B1o t k cs=some (x,r)):∃ds,Dm cs=ds++Dm r∧Mk ds ((Ty.ic t k).ds x):=by
 unfold B1o at h;split at h
 ·rename_i t' k' y r';cases hb:Nat.beq t' t with
  |false=>simp[hb]at h
  |true =>
   cases hk:M4 k' k with
   |false=>simp[hb,hk]at h
   |true =>simp only[hb,hk,Bna,Bnf,Bo2]at h;obtain⟨rfl,rfl⟩:=h;rw[Bne hb,Hi hk];exact⟨[_],rfl,.refl _⟩
 ·cases h;exact⟨[_],rfl,.refl _⟩
 ·cases h
def B47{x:Unit}(h:Bcc cs=some (x,r)):∃ds,Dm cs=ds++Dm r∧Mk ds (Ty.ptr.ds x):=by
 unfold Bcc at h;split at h
 ·cases h;exact⟨[_],rfl,.refl _⟩
 ·rename_i a r';cases h;refine⟨[_],rfl,.cons ?_ .nil⟩;intro γ w v hr;cases hr;exact .any _ _ ⟨a,rfl⟩ rfl
 ·cases h
def Ty.Wf:∀(t:Ty) {cs:A6 XD} {x:t.T} {r:A6 XD},t.dec cs=some (x,r)→∃ds,Dm cs=ds++Dm r∧Mk ds (t.ds x):=by
 intro t;induction t with
 |int k=>intro cs x r h;exact B41 h
 |u8=>intro cs x r h;exact Ayi h
 |bool=>intro cs x r h;exact B42 h
 |str=>intro cs x r h;exact B43 h
 |sl t ih=>intro cs x r h;exact B44 h
 |unit =>intro cs x r h;simp[Ty.dec]at h;exact⟨[],by simp[h],.nil⟩
 |pair a b iha ihb =>
  intro cs x r h;unfold Ty.dec at h;split at h
  ·rename_i p hp;split at h
   ·rename_i q hq;cases h;obtain⟨d1,h1,l1⟩:=iha (x:=p.1) (r:=p.2) hp;obtain⟨d2,h2,l2⟩:=ihb (x:=q.1) (r:=q.2) hq;exact⟨d1++d2,by rw[h1,h2];simp,by simpa[Ty.ds]using l1.append l2⟩
   ·cases h
  ·cases h
 |st1 a iha =>intro cs x r h;exact iha h
 |tab t ih=>intro cs x r h;exact B45 h
 |err=>intro cs x r h;exact B46 h
 |ic t k=>intro cs x r h;exact Ayj h
 |ptr=>intro cs x r h;exact B47 h
def XD.cells:XD→A6 XD
 |.agg cs=>cs
 |.ag t l=>(l.map t.enc).flatten
 |x=>[x]
theorem Au6(t:Ty):∀(l:List t.T),Dm ((l.map t.enc).flatten)=(l.map t.ds).flatten
 |[]=>rfl
 |x::r=>by rw[Bnh,Bph,Y9,Au6 t r,t.N7];rfl
def XD.Beo{x:XD}(h:x.isAgg=true):x.d = .agg (Dm x.cells):=by
 cases x with
 |agg cs=>rfl
 |ag t l=>simp only[XD.d,XD.cells,Au6]
 |_=>simp[XD.isAgg]at h
def Ty.agg:Ty→Bool
 |.unit=>true
 |.pair _ _=>true
 |.st1 _=>true
 |_=>false
def Ty.A38(t:Ty)(x:XD):Option t.T :=
 cond (cond t.agg x.isAgg (cond x.isAgg false true)) (match t.dec x.cells with
  |some (y,[])=>some y
  |_=>none) none
def Ty.dv(t:Ty)(x:t.T):D:=(t.xv x).d
def Ty.A19(t:Ty)(x:t.T)(h:t.agg=true):t.dv x = .agg (t.ds x):=by cases t<;>simp[Ty.agg]at h<;>simp[Ty.dv,Ty.xv,XD.d,Dm,Ty.ds,Y9,Ty.N7]
def Ty.A1a(t:Ty)(x:t.T)(h:t.agg=false):t.ds x=[t.dv x]:=by cases t<;>simp[Ty.agg]at h<;>rfl
def Ty.O4(t:Ty){x:XD}{y:t.T}(h:t.A38 x=some y):DLe x.d (t.dv y):=by
 unfold Ty.A38 at h;cases ht:t.agg with
 |true =>
  simp only[ht,Bna]at h;cases hx:x.isAgg with
  |false=>simp[hx]at h
  |true =>
   simp only[hx,Bna]at h;split at h
   ·rename_i y' hd;cases h;obtain⟨ds,h1,h2⟩:=t.Wf hd;rw[t.A19 _ ht,XD.Beo hx];simp only[Dm,Bom]at h1;rw[h1];exact h2.agg
   ·cases h
 |false =>
  simp only[ht,Bnc]at h;cases hx:x.isAgg with
  |true=>simp[hx]at h
  |false =>
   simp only[hx,Bnc,Bna]at h;have hc:x.cells=[x]:=by cases x<;>first|rfl|(simp[XD.isAgg]at hx)
   rw[hc]at h;split at h
   ·rename_i y' hd;cases h;obtain⟨ds,h1,h2⟩:=t.Wf hd;rw[t.A1a _ ht]at h2;simp only[Dm,Bom]at h1;subst h1;cases h2 with
    |cons h3 _=>exact h3
   ·cases h
inductive XV where
 |d (x:XD)
 |nm (k:Nat) (p:PK)
 |Cv (n:Nat) (t:Ty) (l:List t.T) (ty:Option TypeId)
 |Er (l:List XV)
 |agg (l:List XV)
 |Ek (f:Nat) (Jp:List XV)
 |os (k:Nat) (t:Ty) (a len:Nat)
 |el (k:Nat) (t:Ty) (i fo:Nat)
 |tpt (n e:Nat) (x:UInt8) (l:List UInt8)
mutual
def XV.a:XV→AV
 |.d x=>.d x.d
 |.nm k p=>.nm k p
 |.Cv n t l ty=>.Cv n t.size (l.map t.ds) ty
 |.Er l=>.Er (Ae l)
 |.agg l=>.agg (Ae l)
 |.Ek f l=>.Ek f (Ae l)
 |.os k t a len=>.nm k (.s (a*t.size) len t.size)
 |.el k t i fo=>.nm k (.p (i*t.size+fo))
 |.tpt n e x l=>.tpt n e (Bfu (x::l))
def Ae:List XV→List AV
 |[]=>[]
 |x::r=>x.a::Ae r
end
def R4(l:A6 XV):Ae l=l.map XV.a:=by
 induction l with
 |nil=>rfl
 |cons x r ih=>simp[Ae,ih]
def Aq(l:A6 XV):(Ae l).length=l.length:=by simp[R4]
def M5(l:A6 XV)(i:Nat):(Ae l)[i]? = (l[i]?).map XV.a:=by simp[R4]
def Eg(a b:A6 XV):Ae (a++b)=Ae a++Ae b:=by simp[R4]
def A2q:D→Value
 |.sc v=>v
 |.agg cs=>.agg (B1p cs).toArray
 |_=>undef
where B1p:A6 D→A6 Value
 |[]=>[]
 |x::r=>A2q x::B1p r
inductive Sh where
 |nil
 |d (t:Ty) (r:Sh)
 |m (kt vt:Ty) (r:Sh)
 |s (a:Sh) (ty:Option TypeId) (r:Sh)
 |z (a:Sh) (ty:Option TypeId) (r:Sh)
@[reducible] def Sh.T:Sh→Type
 |.nil=>Unit
 |.d t r=>t.T×r.T
 |.m kt vt r=>A7 (A6 (Nat×kt.T×vt.T)×Nat)×r.T
 |.s a _ r=>a.T×r.T
 |.z a _ r=>Option a.T×r.T
def Sh.Jx:Sh→Sh→Bool
 |.nil,.nil=>true
 |.d t r,.d t' r'=>cond (t.Jx t') (r.Jx r') false
 |.m k v r,.m k' v' r'=>cond (k.Jx k') (cond (v.Jx v') (r.Jx r') false) false
 |.s a ty r,.s a' Xy r'=>cond (a.Jx a') (cond (ty==Xy) (r.Jx r') false) false
 |.z a ty r,.z a' Xy r'=>cond (a.Jx a') (cond (ty==Xy) (r.Jx r') false) false
 |_,_=>false
theorem Sh.Av:∀ {a b:Sh},a.Jx b=true→a=b:=by
 have cc:∀ {a b:Bool},cond a b false=true→a=true∧b=true:=by intro a b h;cases a<;>first|exact⟨rfl,h⟩|cases h
 intro a;induction a with
 |nil=>intro b h;cases b<;>first|rfl|cases h
 |d t r ih =>
  intro b h;cases b<;>first|(cases h;done)|skip
  obtain⟨h1,h2⟩:=cc h;rw[Ty.Av h1,ih h2]
 |m k v r ih =>
  intro b h;cases b<;>first|(cases h;done)|skip
  obtain⟨h1,h2⟩:=cc h;obtain⟨h2,h3⟩:=cc h2;rw[Ty.Av h1,Ty.Av h2,ih h3]
 |s a ty r ih1 ih2 =>
  intro b h;cases b<;>first|(cases h;done)|skip
  obtain⟨h1,h2⟩:=cc h;obtain⟨h2,h3⟩:=cc h2;rw[ih1 h1,eq_of_beq h2,ih2 h3]
 |z a ty r ih1 ih2 =>
  intro b h;cases b<;>first|(cases h;done)|skip
  obtain⟨h1,h2⟩:=cc h;obtain⟨h2,h3⟩:=cc h2;rw[ih1 h1,eq_of_beq h2,ih2 h3]
def H0:Nat:=1000000000000000000
def Fu(h i:Nat):Nat:=H0+(h*1000+i)
def R5(h i:Nat):H0≤Fu h i:=Nat.le_add_right _ _
inductive Af where
 |cells (cs:List XV) (ty:Option TypeId)
 |arr (t:Ty) (l:List t.T)
 |Vw (s:List UInt8) (pos:Nat)
 |map (kt vt:Ty) (es:List (Nat×kt.T×vt.T)) (clock:Nat)
 |Kn (m since:Nat) (seen:List Nat) (last:Nat)
 |E5
 |bts (e:TypeId) (l:List UInt8)
 |Cx (L:Nat) (kt vt:Ty) (es:List (Nat×kt.T×Bool×List vt.T)) (clock:Nat)
 |abs (h:Nat) (S:Sh) (ty:Option TypeId) (x:S.T)
def Sh.cells(h:Nat):(i:Nat)→(S:Sh)→S.T→A6 XV
 |_,.nil,_=>[]
 |i,.d t r,x=>(t.enc x.1).map .d++r.cells h (i+1) x.2
 |i,.m _ _ r,x=>(match x.1 with
  |none=>.d (.v (.map none))
  |some _=>.nm (Fu h i) .m)::r.cells h (i+1) x.2
 |i,.s _ _ r,x=>.nm (Fu h i) (.p 0)::r.cells h (i+1) x.2
 |i,.z _ _ r,x=>(match x.1 with
  |none=>.d (.v (.pointer none))
  |some _=>.nm (Fu h i) (.p 0))::r.cells h (i+1) x.2
def B86(kt vt:Ty)(es:A6 (Nat×kt.T×vt.T))(clock:Nat):Ob:=.map (es.map fun e=>(e.1,A2q (kt.dv e.2.1),vt.dv e.2.2)) clock
def Sh.C7(h:Nat):(i:Nat)→(S:Sh)→S.T→A6 (Nat×Ob)
 |_,.nil,_=>[]
 |i,.d _ r,x=>r.C7 h (i+1) x.2
 |i,.m kt vt r,x=>(match x.1 with
  |none=>[]
  |some y=>[(Fu h i,B86 kt vt y.1 y.2)])++r.C7 h (i+1) x.2
 |i,.s a ty r,x=>((Fu h i,.cells (Ae (a.cells (Fu h i) 0 x.1)) ty)::a.C7 (Fu h i) 0 x.1)++r.C7 h (i+1) x.2
 |i,.z a ty r,x=>(match x.1 with
  |none=>[]
  |some y=>(Fu h i,.cells (Ae (a.cells (Fu h i) 0 y)) ty)::a.C7 (Fu h i) 0 y)++r.C7 h (i+1) x.2
theorem Sh.O5:∀(S:Sh) (h i:Nat) (x:S.T) (p:Nat×Ob),p∈S.C7 h i x→H0≤p.1
 |.nil,h,i,x,p,hp=>by simp[Sh.C7]at hp
 |.d t r,h,i,x,p,hp=>Sh.O5 r h (i+1) x.2 p hp
 |.m kt vt r,h,i,x,p,hp=>by
  rcases Bnk.1 hp with hp|hp
  ·split at hp
   ·cases hp
   ·rw[Bnw]at hp;subst hp;exact R5 _ _
  ·exact Sh.O5 r h (i+1) x.2 p hp
 |.s a ty r,h,i,x,p,hp=>by
  rcases Bnk.1 hp with hp|hp
  ·rcases Bnd.1 hp with rfl|hp
   ·exact R5 _ _
   ·exact Sh.O5 a _ 0 x.1 p hp
  ·exact Sh.O5 r h (i+1) x.2 p hp
 |.z a ty r,h,i,x,p,hp=>by
  rcases Bnk.1 hp with hp|hp
  ·split at hp
   ·cases hp
   ·rename_i y _;rcases Bnd.1 hp with rfl|hp
    ·exact R5 _ _
    ·exact Sh.O5 a _ 0 y p hp
  ·exact Sh.O5 r h (i+1) x.2 p hp
def Af.o:Af→Ob
 |.cells cs ty=>.cells (Ae cs) ty
 |.arr t l=>.cells ((l.map t.ds).flatten.map .d) none
 |.Vw s pos=>.Vw ⟨s.toArray⟩ pos
 |.map kt vt es clock=>.map (es.map fun e=>(e.1,A2q (kt.dv e.2.1),vt.dv e.2.2)) clock
 |.Kn m since seen last=>.Kn m since seen.toArray last
 |.E5=>.E5
 |.bts e l=>.cells ((A18 l).flatten.map .d) (some e)
 |.Cx L kt vt es clock=>.Cx L vt.size (es.map fun e=>(e.1,A2q (kt.dv e.2.1),e.2.2.1,e.2.2.2.map vt.ds)) clock
 |.abs h S ty x=>.cells (Ae (S.cells h 0 x)) ty
def Af.C7:Af→A6 (Nat×Ob)
 |.abs h S _ x=>S.C7 h 0 x
 |_=>[]
def Af.plain:Af→Bool
 |.abs _ _ _ _=>false
 |_=>true
def Af.Hg{o:Af}(h:o.plain=true):o.C7=[]:=by cases o<;>first|rfl|cases h
variable{p:Nat×Ob}{l objs:A6 (Nat×Af)}{v:XV}{res:AV}{o1:Ob}
theorem Af.O5{o:Af}(h:p∈o.C7):H0≤p.1:=by
 cases o with
 |abs h' S ty x=>exact S.O5 _ _ _ _ h
 |_=>cases h
theorem Pd(F:A6 Nat):∀(l:A6 D),C9 F (l.map .d)=true
 |[]=>rfl
 |x::r=>by simp only[Bnh,C9,Gs,Pd F r,Bpe]
def A39(F:A6 Nat)(t:Ty)(u:List t.T):Fk F (Af.arr t u).o=true:=Pd F _
def inl(k:Nat)(l:A6 Nat):Bool :=
 List.rec (motive:=fun _=>Bool) false (fun j _ ih=>Bool.rec (motive:=fun _=>Bool) ih true (Nat.beq j k)) l
def B1q(k:Nat):inl k []=false:=rfl
def Au7(k j:Nat)(r:A6 Nat):inl k (j::r)=cond (Nat.beq j k) true (inl k r):=by unfold inl;cases h:Nat.beq j k<;>simp[h]
def E7(k:Nat)(l:A6 Nat):inl k l=true↔k∈l:=by
 induction l with
 |nil=>simp[B1q]
 |cons j r ih =>
  simp only[Au7,Bnd];cases h:Nat.beq j k with
  |true=>simp[Bne h]
  |false =>have:j≠k:=Bpv h;simp[ih,Bq5 this]
def Xz:A6 Nat→Bool
 |[]=>true
 |k::r=>cond (Nat.ble H0 k) false (Xz r)
theorem R6:∀ {l:A6 Nat},Xz l=true→∀k∈l,k<H0
 |[],_,k,hk=>by simp at hk
 |j::r,h,k,hk=>by
  simp only[Xz]at h;cases hb:Nat.ble H0 j with
  |true=>simp[hb]at h
  |false =>
   simp only[hb,Bnc]at h;rcases Bnd.1 hk with rfl|hk
   ·exact Nat.lt_of_not_le fun hle=>by rw[Bp0 hle]at hb;cases hb
   ·exact R6 h k hk
def Ack(h:Xz F=true)(a i:Nat):F.contains (Fu a i)=false:=by
 cases hc:F.contains (Fu a i) with
 |false=>rfl
 |true=>have:=R6 h _ (Boq.1 hc);have:=R5 a i;omega
theorem A3a{F:A6 Nat}:∀ {a b:A6 AV},C9 F a=true→C9 F b=true→C9 F (a++b)=true
 |[],b,_,h=>h
 |x::r,b,h,h'=>by
  simp only[C9,Boo,Bpw]at h⊢;exact⟨h.1,A3a h.2 h'⟩
def Wg(l:A6 XD):Ae (l.map .d)=(l.map XD.d).map .d:=by simp[R4,XV.a]
theorem Sh.La(hF:Xz F=true):∀(S:Sh) (h i:Nat) (x:S.T),C9 F (Ae (S.cells h i x))=true
 |.nil,h,i,x=>rfl
 |.d t r,h,i,x=>by
  simp only[Sh.cells,Eg,Wg];exact A3a (Pd _ _) (Sh.La hF r h (i+1) x.2)
 |.m kt vt r,h,i,x=>by
  simp only[Sh.cells,Ae,C9,Sh.La hF r h (i+1) x.2,Bq2];split
  ·rfl
  ·simp only[XV.a,Gs,Ack hF,Bpf]
 |.s a ty r,h,i,x=>by
  simp only[Sh.cells,Ae,C9,Sh.La hF r h (i+1) x.2,Bq2,XV.a,Gs,Ack hF,Bpf]
 |.z a ty r,h,i,x=>by
  simp only[Sh.cells,Ae,C9,Sh.La hF r h (i+1) x.2,Bq2];split
  ·rfl
  ·simp only[XV.a,Gs,Ack hF,Bpf]
theorem Sh.O6(hF:Xz F=true):∀(S:Sh) (h i:Nat) (x:S.T) (p:Nat×Ob),p∈S.C7 h i x→Fk F p.2=true
 |.nil,h,i,x,p,hp=>by simp[Sh.C7]at hp
 |.d t r,h,i,x,p,hp=>Sh.O6 hF r h (i+1) x.2 p hp
 |.m kt vt r,h,i,x,p,hp=>by
  rcases Bnk.1 hp with hp|hp
  ·split at hp
   ·cases hp
   ·rw[Bnw]at hp;subst hp;rfl
  ·exact Sh.O6 hF r h (i+1) x.2 p hp
 |.s a ty r,h,i,x,p,hp=>by
  rcases Bnk.1 hp with hp|hp
  ·rcases Bnd.1 hp with rfl|hp
   ·exact Sh.La hF a _ _ _
   ·exact Sh.O6 hF a _ 0 x.1 p hp
  ·exact Sh.O6 hF r h (i+1) x.2 p hp
 |.z a ty r,h,i,x,p,hp=>by
  rcases Bnk.1 hp with hp|hp
  ·split at hp
   ·cases hp
   ·rename_i y _;rcases Bnd.1 hp with rfl|hp
    ·exact Sh.La hF a _ _ _
    ·exact Sh.O6 hF a _ 0 y p hp
  ·exact Sh.O6 hF r h (i+1) x.2 p hp
def Fw(F:A6 Nat):A6 (Nat×Af)→Bool
 |[]=>true
 |p::r=>cond (match p.2 with
  |.cells cs _=>C9 F (Ae cs)
  |.Kn m _ _ _=>cond (inl m F) false true
  |.Cx m _ _ _ _=>cond (inl m F) false true
  |.abs _ _ _ _=>cond (inl p.1 F) false (Xz F)
  |_=>true) (Fw F r) false
structure Ak where
 env:List (Nat×XV)
 objs:List (Nat×Af)
 live:List Nat
 wl:List Nat
 ol:List Nat
def Eo(l:A6 (Nat×XV)):A6 (Nat×AV):=l.map fun p=>(p.1,p.2.a)
def Cz(l:A6 (Nat×Af)):A6 (Nat×Ob):=l.map fun p=>(p.1,p.2.o)
def D4:A6 (Nat×Af)→A6 (Nat×Ob)
 |[]=>[]
 |p::r=>p.2.C7++D4 r
def Aa(l:A6 (Nat×Af)):A6 (Nat×Ob):=Cz l++D4 l
theorem Amz:∀ {l:A6 (Nat×Af)} {p:Nat×Ob},p∈D4 l→H0≤p.1
 |[],p,h=>by simp[D4]at h
 |q::r,p,h=>by
  rcases Bnk.1 h with h|h
  ·exact Af.O5 h
  ·exact Amz h
def Alu(a b:A6 (Nat×Af)):D4 (a++b)=D4 a++D4 b:=by
 induction a with
 |nil=>rfl
 |cons p r ih=>simp[D4,ih]
def Ahx(a b:A6 (Nat×Af)):Cz (a++b)=Cz a++Cz b:=Bo4
def E9:A6 (Nat×Af)→Bool
 |[]=>true
 |p::r=>cond p.2.plain (E9 r) false
theorem Wh:∀ {l:A6 (Nat×Af)},E9 l=true→D4 l=[]
 |[],_=>rfl
 |p::r,h=>by
  simp only[E9]at h;cases hp:p.2.plain with
  |false=>simp[hp]at h
  |true=>simp only[hp,Bna]at h;simp only[D4,Af.Hg hp,Wh h,Bom]
def A3b(h:E9 l=true):Aa l=l.map fun p=>(p.1,p.2.o):=by unfold Aa Cz;rw[Wh h,Bom]
def Bfy{a b:A6 (Nat×Af)}(h:E9 a=true):Aa (a++b)=Aa a++Aa b:=by unfold Aa;rw[Ahx,Alu,Wh h,Bom,Bou,Bqx]
theorem H9:∀ {l:A6 (Nat×Af)},E9 l=true→∀p∈l,p.2.plain=true
 |[],_,p,hp=>by simp at hp
 |q::r,h,p,hp=>by
  simp only[E9]at h;cases hq:q.2.plain with
  |false=>simp[hq]at h
  |true =>
   simp only[hq,Bna]at h;rcases Bnd.1 hp with rfl|hp
   ·exact hq
   ·exact H9 h p hp
def Au8(h:∀p∈l,p.2.plain=true):E9 l=true:=by
 induction l with
 |nil=>rfl
 |cons q r ih=>simp only[E9,h q Bnm,Bna];exact ih fun p hp=>h p (Bnl _ hp)
def Ak.X(st:Ak):Ad:=⟨Aa st.objs,st.live⟩
def Ak.im(st:Ak):St:=⟨Eo st.env,st.X⟩
def O7:∀ {l:A6 (Nat×Af)},Fw F l=true→Br F ⟨Aa l,live⟩=true:=by
 intro l h;unfold Br;rw[Bpc];right;rw[Bok]
 suffices hh:(∀p∈Cz l,Fk F p.2=true)∧∀p∈D4 l,Fk F p.2=true by
  intro p hp;rcases Bnk.1 hp with hp|hp
  ·exact hh.1 p hp
  ·exact hh.2 p hp
 induction l with
 |nil=>exact⟨by simp[Cz],by simp[D4]⟩
 |cons p r ih =>
  simp only[Fw]at h;have hs:Fk F p.2.o=true∧(∀q∈p.2.C7,Fk F q.2=true)∧Fw F r=true:=by
   have Aez:∀q∈([]:A6 (Nat×Ob)),Fk F q.2=true:=by simp
   cases ho:p.2 with
   |cells cs ty =>
    rw[ho]at h;simp only at h;cases hx:C9 F (Ae cs) with
    |false=>simp[hx]at h
    |true=>simp only[hx,Bna]at h;exact⟨hx,Aez,h⟩
   |arr t l =>rw[ho]at h;simp only[Bna]at h;exact⟨A39 F t l,Aez,h⟩
   |Vw s pos=>rw[ho]at h;exact⟨rfl,Aez,h⟩
   |map kt vt es c=>rw[ho]at h;exact⟨rfl,Aez,h⟩
   |E5=>rw[ho]at h;exact⟨rfl,Aez,h⟩
   |bts e l=>rw[ho]at h;exact⟨Pd F _,Aez,h⟩
   |abs h' S ty x =>
    rw[ho]at h;simp only at h;cases hi:inl p.1 F with
    |true=>simp[hi]at h
    |false =>
    simp only[hi,Bnc]at h;cases hF:Xz F with
    |false=>simp[hF]at h
    |true=>simp only[hF,Bna]at h;exact⟨S.La hF _ _ _,S.O6 hF _ _ _,h⟩
   |Cx m kt vt es c =>
    rw[ho]at h;simp only at h;cases hm:inl m F with
    |true=>simp[hm]at h
    |false =>
     simp only[hm,Bnc,Bna]at h;refine⟨?_,Aez,h⟩;show(!F.contains m)=true;cases hc:F.contains m with
     |false=>rfl
     |true=>rw[(E7 m F).2 (Boq.1 hc)]at hm;cases hm
   |Kn m since seen last =>
    rw[ho]at h;simp only at h;cases hm:inl m F with
    |true=>simp[hm]at h
    |false =>
     simp only[hm,Bnc,Bna]at h;refine⟨?_,Aez,h⟩;show(!F.contains m)=true;cases hc:F.contains m with
     |false=>rfl
     |true=>rw[(E7 m F).2 (Boq.1 hc)]at hm;cases hm
  obtain⟨i1,i2⟩:=ih hs.2.2;refine⟨fun q hq=>?_,fun q hq=>?_⟩
  ·rcases Bnd.1 hq with rfl|hq
   ·exact hs.1
   ·exact i1 q hq
  ·rcases Bnk.1 hq with hq|hq
   ·exact hs.2.1 q hq
   ·exact i2 q hq
def J4(F:A6 Nat)(st:Ak):Bool:=Fw F st.objs
variable{st:Ak}
def O8(h:J4 F st=true):Br F st.X=true:=O7 h
def nbF{a:Nat}(h:a≠b):Nat.beq a b=false:=by
 cases hh:Nat.beq a b with
 |false=>rfl
 |true=>exact absurd (Bne hh) h
def nbS(a b:Nat):Nat.beq a b=(b==a):=by
 by_cases h:a=b
 ·subst h;simp
 ·rw[nbF h];symm;simpa using Bq5 h
def lk{α:Type}(k:Nat)(l:A6 (Nat×α)):A7 α :=
 List.rec (motive:=fun _=>A7 α) none (fun p _ ih=>Bool.rec (motive:=fun _=>A7 α) ih (some p.2) (Nat.beq p.1 k)) l
def Ayk{α:Type}(k:Nat):lk k ([]:A6 (Nat×α))=none:=rfl
def G7{α:Type}(k:Nat)(p:Nat×α)(r:A6 (Nat×α)):lk k (p::r)=cond (Nat.beq p.1 k) (some p.2) (lk k r):=by unfold lk;cases h:Nat.beq p.1 k<;>simp[h]
def Au9{α:Type}(k:Nat)(l:A6 (Nat×α)):lk k l=l.lookup k:=by
 induction l with
 |nil=>rfl
 |cons p r ih =>obtain⟨j,x⟩:=p;rw[Bot];simp only[G7,ih];rw[nbS];cases k==j<;>rfl
def A7v(l:A6 (Nat×XV))(k:Nat):(Eo l).lookup k=(lk k l).map XV.a:=by
 induction l with
 |nil=>rfl
 |cons p r ih =>
  obtain⟨j,x⟩:=p;simp only[Eo,Bnh,Bot]at ih⊢;rw[Au9]at ih⊢;rw[Bot];cases k==j with
  |true=>rfl
  |false=>simpa[Eo]using ih
inductive Db(k:Nat):Nat→Prop
 |here (i:Nat) (hi:i<1000):Db k (Fu k i)
 |deep {m:Nat} (i:Nat) (hi:i<1000) (h:Db k m):Db k (Fu m i)
def Ha{a i:Nat}(hi:i<1000)(hj:j<1000)(h:Fu a i=Fu b j):a=b∧i=j:=by unfold Fu at h;omega
def Db.ge(h:Db k n):H0≤n:=by cases h<;>exact R5 _ _
def Db.one{k':Nat}(h:Db k n)(h':Db k' n)(hk:k<H0)(M1:k'<H0):k=k':=by
 induction h with
 |here i hi =>
  generalize hn:Fu k i=n at h';cases h' with
  |here j hj=>exact(Ha hi hj hn).1
  |deep j hj h2=>have:=(Ha hi hj hn).1;subst this;have:=h2.ge;omega
 |deep i hi h1 ih =>
  rename_i m;generalize hn:Fu m i=n at h';cases h' with
  |here j hj=>have:=(Ha hi hj hn).1;subst this;have:=h1.ge;omega
  |deep j hj h2=>have:=(Ha hi hj hn).1;subst this;exact ih h2
def Db.trans{a:Nat}(h:Db a b)(h':Db b n):Db a n:=by
 induction h' with
 |here i hi=>exact .deep i hi h
 |deep i hi _ ih=>exact .deep i hi ih
def Sh.small:Sh→Nat→Bool
 |.nil,_=>true
 |.d _ r,i=>cond (Nat.blt i 1000) (r.small (i+1)) false
 |.m _ _ r,i=>cond (Nat.blt i 1000) (r.small (i+1)) false
 |.s a _ r,i=>cond (Nat.blt i 1000) (cond (a.small 0) (r.small (i+1)) false) false
 |.z a _ r,i=>cond (Nat.blt i 1000) (cond (a.small 0) (r.small (i+1)) false) false
def Ap{a b:Bool}(h:cond a b false=true):a=true∧b=true:=by cases a<;>first|exact⟨rfl,h⟩|cases h
theorem Sh.D5:∀(S:Sh) (h i:Nat) (x:S.T) (p:Nat×Ob),S.small i=true→p∈S.C7 h i x→Db h p.1
 |.nil,h,i,x,p,hs,hp=>by simp[Sh.C7]at hp
 |.d t r,h,i,x,p,hs,hp=>Sh.D5 r h (i+1) x.2 p (Ap hs).2 hp
 |.m kt vt r,h,i,x,p,hs,hp=>by
  have hi:i<1000:=by simpa[Bpb] using(Ap hs).1
  rcases Bnk.1 hp with hp|hp
  ·split at hp
   ·cases hp
   ·rw[Bnw]at hp;subst hp;exact .here i hi
  ·exact Sh.D5 r h (i+1) x.2 p (Ap hs).2 hp
 |.s a ty r,h,i,x,p,hs,hp=>by
  have hi:i<1000:=by simpa[Bpb] using(Ap hs).1
  have h2:=Ap (Ap hs).2;rcases Bnk.1 hp with hp|hp
  ·rcases Bnd.1 hp with rfl|hp
   ·exact .here i hi
   ·exact(Db.here i hi).trans (Sh.D5 a _ 0 x.1 p h2.1 hp)
  ·exact Sh.D5 r h (i+1) x.2 p h2.2 hp
 |.z a ty r,h,i,x,p,hs,hp=>by
  have hi:i<1000:=by simpa[Bpb] using(Ap hs).1
  have h2:=Ap (Ap hs).2;rcases Bnk.1 hp with hp|hp
  ·split at hp
   ·cases hp
   ·rename_i y _;rcases Bnd.1 hp with rfl|hp
    ·exact .here i hi
    ·exact(Db.here i hi).trans (Sh.D5 a _ 0 y p h2.1 hp)
  ·exact Sh.D5 r h (i+1) x.2 p h2.2 hp
def A76(k:Nat):A6 (Nat×Af)→Bool
 |[]=>false
 |p::r=>cond p.2.plain (A76 k r) (cond (Nat.beq p.1 k) true (A76 k r))
theorem A5c{k:Nat}:∀ {l:A6 (Nat×Af)} {p:Nat×Af},p∈l→p.2.plain=false→p.1=k→A76 k l=true
 |[],p,h,_,_=>by simp at h
 |q::r,p,h,hp,hk=>by
  simp only[A76];rcases Bnd.1 h with rfl|h
  ·rw[hp,hk];simp
  ·rw[A5c h hp hk];cases q.2.plain<;>simp
def Af.tagged(k:Nat):Af→Bool
 |.abs h S _ _=>cond (Nat.beq h k) (S.small 0) false
 |_=>true
def Af.Acl{o:Af}(h:o.tagged k=true)(hp:p∈o.C7):Db k p.1:=by
 cases o with
 |abs h' S ty x =>have:=Ap h;rw[← Bne this.1];exact S.D5 _ 0 x p this.2 hp
 |_=>cases hp
def A9y:A6 (Nat×Af)→Bool
 |[]=>true
 |p::r=>cond p.2.plain (A9y r) (cond (p.2.tagged p.1) (cond (A76 p.1 r) false (A9y r)) false)
def Pe(l:A6 (Nat×Af)):Bool:=cond (E9 l) true (cond (Xz (l.map (·.1))) (A9y l) false)
def G4{l:A6 (Nat×Ob)}{o:Ob}(h:l.lookup k=some o):(k,o)∈l:=by
 induction l with
 |nil=>cases h
 |cons p r ih =>
  obtain⟨j,x⟩:=p;rw[Bot]at h;cases hb:k==j with
  |true =>rw[hb]at h;simp only[Bnf]at h;rw[eq_of_beq hb,h];exact Bnm
  |false=>rw[hb]at h;exact Bnl _ (ih h)
theorem R7:∀ {l:A6 (Nat×Af)},A9y l=true→∀p∈l,p.2.tagged p.1=true
 |[],_,p,hp=>by simp at hp
 |q::r,h,p,hp=>by
  simp only[A9y]at h;cases hq:q.2.plain with
  |true =>
   simp only[hq,Bna]at h;rcases Bnd.1 hp with rfl|hp
   ·revert hq;cases p.2<;>intro hq<;>first|rfl|cases hq
   ·exact R7 h p hp
  |false =>
   simp only[hq,Bnc]at h;obtain⟨h1,h2⟩:=Ap h;rcases Bnd.1 hp with rfl|hp
   ·exact h1
   ·cases ha:A76 q.1 r with
    |true=>simp[ha]at h2
    |false=>simp only[ha,Bnc]at h2;exact R7 h2 p hp
theorem An0{j:Nat}{o:Ob}:∀ {l:A6 (Nat×Af)},A9y l=true→(∀p∈l,p.1<H0)→∀p∈l,p.2.C7.lookup j=some o→(D4 l).lookup j=some o
 |[],_,_,p,hp,_=>by simp at hp
 |q::r,h,hl,p,hp,ho=>by
  simp only[D4,Bpp];rcases Bnd.1 hp with rfl|Vx
  ·rw[ho];rfl
  ·have hr:A9y r=true∧(q.2.plain=false→A76 q.1 r=false):=by
    simp only[A9y]at h;cases hq:q.2.plain with
    |true=>simp only[hq,Bna]at h;exact⟨h,by simp⟩
    |false =>
     simp only[hq,Bnc]at h;have h2:=(Ap h).2;cases ha:A76 q.1 r with
     |true=>simp[ha]at h2
     |false=>simp only[ha,Bnc]at h2;exact⟨h2,fun _=>rfl⟩
   have ih:=An0 hr.1 (fun p hp=>hl p (Bnl _ hp)) p Vx ho;cases hq:q.2.C7.lookup j with
   |none=>exact ih
   |some o' =>
    exfalso;have hqp:q.2.plain=false:=by
     cases hh:q.2.plain with
     |false=>rfl
     |true=>rw[Af.Hg hh]at hq;cases hq
    have hpp:p.2.plain=false:=by
     cases hh:p.2.plain with
     |false=>rfl
     |true=>rw[Af.Hg hh]at ho;cases ho
    have u1:=Af.Acl (R7 h q Bnm) (G4 hq);have u2:=Af.Acl (R7 h p hp) (G4 ho);have e:=u1.one u2 (hl q Bnm) (hl p hp);have:=A5c Vx hpp e.symm;rw[hr.2 hqp]at this;cases this
def Lb(h:Pe l=true):E9 l=true∨(A9y l=true∧∀p∈l,p.1<H0):=by
 unfold Pe at h;cases hn:E9 l with
 |true=>exact .inl rfl
 |false =>simp only[hn,Bnc]at h;obtain⟨h1,h2⟩:=Ap h;exact .inr ⟨h2,fun p hp=>R6 h1 _ (Bnr (f:=(·.1)) hp)⟩
theorem Aua{j:Nat}{o:Ob}:∀ {l:A6 (Nat×Af)},(D4 l).lookup j=some o→∃p∈l,p.2.C7.lookup j=some o
 |[],h=>by cases h
 |q::r,h=>by
  simp only[D4,Bpp]at h;cases hq:q.2.C7.lookup j with
  |some o'=>rw[hq]at h;exact⟨q,Bnm,by rw[hq];exact h⟩
  |none =>rw[hq]at h;obtain⟨p,hp,h2⟩:=Aua h;exact⟨p,Bnl _ hp,h2⟩
def Wi(l:A6 (Nat×Af))(k:Nat):(Cz l).lookup k=(lk k l).map Af.o:=by
 induction l with
 |nil=>rfl
 |cons p r ih =>
  obtain⟨j,x⟩:=p;simp only[Cz,Bnh,Bot]at ih⊢;rw[Au9]at ih⊢;rw[Bot];cases k==j with
  |true=>rfl
  |false=>simpa[Cz]using ih
def Lc{y:Af}(h:lk k l=some y):(Aa l).lookup k=some y.o:=by unfold Aa;rw[Bpp,Wi,h];rfl
def Wj{l:A6 (Nat×Ob)}(h:∀p∈l,p.1≠k):l.lookup k=none:=by
 induction l with
 |nil=>rfl
 |cons p r ih =>
  obtain⟨j,x⟩:=p;rw[Bot];have:(k==j)=false:=by simpa using(h (j,x) Bnm).symm
  rw[this];exact ih fun q hq=>h q (Bnl _ hq)
def B87(hk:k<H0):(Aa l).lookup k=(lk k l).map Af.o:=by
 unfold Aa;rw[Bpp,Wi];cases lk k l with
 |some y=>rfl
 |none =>simp only[Bro,Brx];exact Wj fun p hp he=>by have:=Amz hp;omega
def Bcd(h:E9 l=true)(k:Nat):(Aa l).lookup k=(lk k l).map Af.o:=by rw[← Wi];unfold Aa;rw[Wh h,Bom]
def A3c{o:Ob}(h:(Aa l).lookup k=some o):(∃y,lk k l=some y∧o=y.o)∨∃p∈l,p.2.C7.lookup k=some o:=by
 unfold Aa at h;rw[Bpp,Wi]at h;cases hl:lk k l with
 |some y=>rw[hl]at h;simp only[Bol,Brh,Bnf]at h;exact .inl ⟨y,rfl,h.symm⟩
 |none=>rw[hl]at h;exact .inr (Aua h)
def Acm(h:Pe l=true){p:Nat×Af}(hp:p∈l){o:Ob}(ho:p.2.C7.lookup k=some o):(Aa l).lookup k=some o:=by
 rcases Lb h with h1|⟨h1,h2⟩
 ·rw[Af.Hg (H9 h1 p hp)]at ho;cases ho
 ·unfold Aa;rw[Bpp];have hk:H0≤k:=Af.O5 (G4 ho);have:(Cz l).lookup k=none:=by
   refine Wj fun q hq he=>?_
   obtain⟨z,hz,rfl⟩:=Bnp.1 hq;have:=h2 z hz;simp only at he;omega
  rw[this,Brx];exact An0 h1 h2 p hp ho
def Aub{a b:Bool}(h:cond a b false=true):b=true:=by cases a<;>first|exact h|cases h
def Ahy{a b:Bool}(h:cond a b false=true):a=true∧b=true:=by cases a<;>first|exact⟨rfl,h⟩|cases h
def Bce(h:lk k l=none)(hf:Fw [k] l=true):(Aa l).lookup k=none:=by
 unfold Aa;rw[Bpp,Wi,h];simp only[Bro,Brx];refine Wj ?_;clear h;induction l with
 |nil=>simp[D4]
 |cons q r ih =>
  simp only[Fw]at hf;have:(∀p∈q.2.C7,p.1≠k)∧Fw [k] r=true:=by
   cases ho:q.2 with
   |abs h' S ty x =>
    rw[ho]at hf;simp only at hf;cases hi:inl q.1 [k] with
    |true=>simp[hi]at hf
    |false =>
    simp only[hi,Bnc]at hf;cases hF:Xz [k] with
    |false=>simp[hF]at hf
    |true =>simp only[hF,Bna]at hf;exact⟨fun p hp he=>by have h1:=Af.O5 hp;have h2:=R6 hF k (by simp);omega,hf⟩
   |_=>exact⟨by simp[Af.C7],Aub hf⟩
  intro p hp;rcases Bnk.1 hp with hp|hp
  ·exact this.1 p hp
  ·exact ih this.2 p hp
def Mw(k:Nat)(o:Af)(l:A6 (Nat×Af)):A6 (Nat×Af) :=
 List.rec (motive:=fun _=>A6 (Nat×Af)) [(k,o)] (fun p r ih=>Bool.rec (motive:=fun _=>A6 (Nat×Af)) (p::ih) ((k,o)::r) (Nat.beq p.1 k)) l
def A9z(k:Nat)(o:Af):Mw k o []=[(k,o)]:=rfl
def Vy(k:Nat)(o:Af)(p:Nat×Af)(r:A6 (Nat×Af)):Mw k o (p::r)=cond (Nat.beq p.1 k) ((k,o)::r) (p::Mw k o r):=by unfold Mw;cases h:Nat.beq p.1 k<;>simp[h]
def Zx(k:Nat)(o:Af)(l:A6 (Nat×Af)):Bool :=
 match lk k l with
 |some y=>cond y.plain o.plain false
 |none=>false
def Kc{o y:Af}(h:lk k l=some y)(hy:y.plain=true)(ho:o.plain=true):Zx k o l=true:=by unfold Zx;rw[h];simp only[hy,ho,Bna]
def Ya{o:Af}(hp:Zx k o l=true):Aa (Mw k o l)=Ab.setObj k o.o (Aa l):=by
 have key:∀(t:A6 (Nat×Ob)),Cz (Mw k o l)++t=Ab.setObj k o.o (Cz l++t)∧D4 (Mw k o l)=D4 l:=by
  intro t;induction l with
  |nil=>simp[Zx,Ayk]at hp
  |cons p r ih =>
   obtain⟨j,x⟩:=p;simp only[Vy];cases h:Nat.beq j k with
   |true =>
    have e:=Bne h;subst e;have:x.plain=true∧o.plain=true:=by
     simp only[Zx,G7,Br8,Bna]at hp;cases hx:x.plain with
     |false=>simp[hx]at hp
     |true=>simp only[hx,Bna]at hp;exact⟨rfl,hp⟩
    refine⟨by simp[Cz,Ab.setObj],by simp[D4,Af.Hg this.1,Af.Hg this.2]⟩
   |false =>
    have hne:j≠k:=Bpv h;have Vx:Zx k o r=true:=by simpa[Zx,G7,h]using hp
    obtain⟨i1,i2⟩:=ih Vx;refine⟨?_,by simp[D4,i2]⟩;simp only[Bnc,Cz,Bnh,Bpw,Ab.setObj,hne,Bpi]at i1⊢;rw[i1]
 unfold Aa;rw[(key (D4 (Mw k o l))).1,(key []).2]
def Ayl(k:Nat)(o:Af)(l:A6 (Nat×Af)):Cz (Mw k o l)=Ab.setObj k o.o (Cz l):=by
 induction l with
 |nil=>rfl
 |cons p r ih =>
  obtain⟨j,x⟩:=p;simp only[Vy,Cz,Bnh,Ab.setObj];cases h:Nat.beq j k with
  |true=>simp[Bne h]
  |false =>have:j≠k:=Bpv h;simp[this];exact ih
theorem A7w{k:Nat}{o:Af}(ho:o.plain=true):∀ {l:A6 (Nat×Af)},E9 l=true→E9 (Mw k o l)=true
 |[],_=>by simp[A9z,E9,ho]
 |p::r,h=>by
  simp only[Vy];obtain⟨h1,h2⟩:=Ap (a:=p.2.plain) (b:=E9 r) h;cases hb:Nat.beq p.1 k with
  |true=>simp only[Bna,E9,ho,h2]
  |false=>simp only[Bnc,E9,h1,Bna];exact A7w ho h2
def Aa0(h:E9 l=true):Aa l=Cz l:=by unfold Aa;rw[Wh h,Bom]
def B88{o:Af}(ho:o.plain=true)(h:E9 l=true):Aa (Mw k o l)=Ab.setObj k o.o (Aa l):=by rw[Aa0 h,Aa0 (A7w ho h),Ayl]
def Auc{p:Nat×Af}(h:E9 (p::l)=true):Aa (p::l)=(p.1,p.2.o)::Aa l:=by obtain⟨h1,h2⟩:=Ap (a:=p.2.plain) (b:=E9 l) h;rw[Aa0 h,Aa0 h2];rfl
def Apm{o:Af}(l:A6 (Nat×Af)):lk k (Mw k o l)=some o:=by
 induction l with
 |nil=>simp[A9z,G7,Ayk]
 |cons p r ih =>
  obtain⟨i,x⟩:=p;simp only[Vy];cases hi:Nat.beq i k with
  |true=>simp[G7]
  |false=>simp[G7,hi,ih]
def O9(k:Nat)(o:Af)(l:A6 (Nat×Af))(j:Nat)(h:j≠k):lk j (Mw k o l)=lk j l:=by
 induction l with
 |nil =>have:Nat.beq k j=false:=nbF (Bq5 h);simp[A9z,G7,Ayk,this]
 |cons p r ih =>
  obtain⟨i,x⟩:=p;simp only[Vy];cases hi:Nat.beq i k with
  |true =>have e:=Bne hi;subst e;have:Nat.beq i j=false:=nbF (Bq5 h);simp[G7,this]
  |false=>simp[G7,ih]
def B89(dst:A7 Tmp)(x:XV)(env:A6 (Nat×XV)):A6 (Nat×XV) :=
 match dst with
 |some d=>(d,x)::env
 |none=>env
def B8a(dst:A7 Tmp)(x:XV)(env:A6 (Nat×XV)):Eo (B89 dst x env)=E6 dst x.a (Eo env):=by cases dst<;>rfl
def Bcf(dst:A7 Tmp)(wl:A6 Nat):A6 Nat :=
 match dst with
 |some d=>d::wl
 |none=>wl
def A1b:Value→XD
 |.int .u8 n=>cond (decide (0≤n∧n<256)) (.u8 (UInt8.ofNat n.toNat)) (.v (.int .u8 n))
 |.int k n=>.i k n
 |.bool b=>.b b
 |.string s=>.s s.data.toList
 |v=>.v v
def A3d(v:Value):(A1b v).d = .sc v:=by
 unfold A1b;split
 ·rename_i n;by_cases h:0≤n∧n<256
  ·simp only[h,Bun,Bna,XD.d,and_self];congr 2;have:(UInt8.ofNat n.toNat).toNat=n.toNat:=by rw[Bs7];omega
   rw[this];omega
  ·simp only[h,decide_false,Bnc,XD.d]
 ·rfl
 ·rfl
 ·rename_i s;simp only[XD.d,D.bs]
 ·rfl
def Bj(st:Ak):Operand→A7 XV
 |.tmp t=>cond (Nat.blt t GB) (lk t st.env) none
 |.const v=>some (.d (A1b v))
 |.func f=>some (.Ek f [])
 |.global k=>lk (GB+k) st.env
def F7{t:Nat}(h:Bj st (.tmp t)=some v):t<GB∧lk t st.env=some v:=by
 simp only[Bj]at h;cases hb:Nat.blt t GB with
 |false=>simp[hb]at h
 |true=>exact⟨by simpa[Bpb]using hb,by simpa[hb]using h⟩
def A3e{t:Nat}{y:AV}(h:lk t st.env=some v)(hle:∀(g:Gh) (w:World) (u:Value),RA g w v.a u→RA g w y u):Has st.im.env t y :=
 .le _ _ (by show(Eo st.env).lookup t=some v.a;rw[A7v,h];rfl) hle
def B1r{t:Nat}(h:lk t st.env=some v):Has st.im.env t v.a :=
 .eq _ (by show(Eo st.env).lookup t=some v.a;rw[A7v,h];rfl)
variable{x y u:Operand}{g:Gh}{lo hi mx rs:A7 Operand}{r1 r2:A6 (Operand×XV)}
def Ax(h:Bj st x=some v):Fc st.im x v.a:=by
 cases x with
 |tmp t=>exact .tmp t _ (F7 h).1 (B1r (F7 h).2)
 |const u =>
  simp only[Bj,Bnf]at h;subst h;simp only[XV.a,A3d];exact .const _ _ fun _ _=>.sc _
 |func f =>simp only[Bj,Bnf]at h;subst h;exact .func f
 |global k=>exact .Ali k _ (B1r h)
def Z2(x y:AV):Prop:=∀(g:Gh) (w:World) (v:Value),RA g w x v→RA g w y v
def Z2.refl(x:AV):Z2 x x:=fun _ _ _ h=>h
theorem Z2.d{x y:D}(h:DLe x y):Z2 (.d x) (.d y):=by
 intro g w v hr;cases hr with
 |d _ _ hr=>exact .d _ _ (h _ _ _ hr)
theorem Z2.Cv(n sz:Nat)(es:A6 (A6 D))(ty:A7 TypeId):Z2 (.Cv n sz es ty) (.d (.sl sz es)):=by
 intro g w v hr;cases hr with
 |Cv _ _ _ _ _ h _=>exact .d _ _ h
def Apn{a:XD}{y:D}(h:Bj st x=some (.d a))(hle:DLe a.d y):Fc st.im x (.d y):=by
 cases x with
 |tmp t=>exact .tmp t _ (F7 h).1 (A3e (F7 h).2 (Z2.d hle))
 |const u =>
  simp only[Bj,Bnf,XV.d.injEq]at h;subst h;rw[A3d]at hle;exact .const _ _ fun γ w=>hle γ w u (.sc u)
 |func f=>simp[Bj]at h
 |global k=>exact .Ali k _ (A3e h (Z2.d hle))
def B48{t:Ty}{l:List t.T}{ty:A7 TypeId}(h:Bj st x=some (.Cv n t l ty)):Fc st.im x (.d (.sl t.size (l.map t.ds))):=by
 cases x with
 |tmp t=>exact .tmp t _ (F7 h).1 (A3e (F7 h).2 (Z2.Cv _ _ _ _))
 |const u=>simp[Bj]at h
 |func f=>simp[Bj]at h
 |global k=>exact .Ali k _ (A3e h (Z2.Cv _ _ _ _))
def XV.asD:XV→A7 XD
 |.d x=>some x
 |.Cv n t l ty=>some (.sl t l)
 |_=>none
def xd(st:Ak)(x:Operand):A7 XD :=
 match Bj st x with
 |some v=>v.asD
 |none=>none
def Aa1{a:XD}{y:D}(h:xd st x=some a)(hle:DLe a.d y):Fc st.im x (.d y):=by
 unfold xd at h;split at h
 ·rename_i v hv;cases v with
  |d u=>simp only[XV.asD,Bnf]at h;subst h;exact Apn hv hle
  |Cv n t l ty =>
   simp only[XV.asD,Bnf]at h;subst h;have:=B48 hv;cases x with
   |tmp i=>exact .tmp i _ (F7 hv).1 (A3e (F7 hv).2 fun g w v hr=>Z2.d hle g w v (Z2.Cv _ _ _ _ g w v hr))
   |const u=>simp[Bj]at hv
   |func f=>simp[Bj]at hv
   |global k=>exact .Ali k _ (A3e hv fun g w v hr=>Z2.d hle g w v (Z2.Cv _ _ _ _ g w v hr))
  |_=>simp[XV.asD]at h
 ·cases h
def Aa2{a:XD}(h:xd st x=some a):Fc st.im x (.d a.d):=Aa1 h (.refl _)
def Q1{y:Af}(h:lk k objs=some y):(Aa objs).lookup k=some y.o:=by exact Lc h
inductive Alv where
 |none
 |look (ks:List Nat)
 |put (k:Nat) (c:Af)
 |all
 |lab
 |P9 (k:Nat) (c:Af)
 |new (os:List (Nat×Af))
structure Out where
 V7:Alv
 res:XV
 rd:List (Operand×XV)
 objs:List (Nat×Af)
 live:List Nat
 F:List Nat
 ol:List Nat
def Bc(l:A6 (Operand×XV)):A6 (Operand×AV):=l.map fun p=>(p.1,p.2.a)
def Out.X(out:Out):Ad:=⟨Aa out.objs,out.live⟩
structure Cr(P:Program)(o:Oper)(st:Ak)(out:Out):Prop where
 V8:∀p∈Bc out.rd,Fc st.im p.1 p.2
 op:match out.V7 with
  |.none=>out.objs=st.objs∧out.live=st.live∧out.F=[]∧∀X,Ca P o (Bc out.rd) X X [] out.res.a
  |.look ks=>out.objs=st.objs∧out.live=st.live∧out.F=[]∧∀X:Ad,(∀k∈ks,X.objs.lookup k=st.X.objs.lookup k)→Ca P o (Bc out.rd) X X [] out.res.a
  |.put k c=>(Zx k c st.objs=true∧out.objs=Mw k c st.objs)∧out.live=st.live∧out.F=[]∧∀X:Ad,X.objs.lookup k=st.X.objs.lookup k→Ca P o (Bc out.rd) X ⟨Ab.setObj k c.o X.objs,X.live⟩ [] out.res.a
  |.all=>Ca P o (Bc out.rd) st.X out.X out.F out.res.a
  |.lab=>out.objs=st.objs∧Ca P o (Bc out.rd) st.X out.X out.F out.res.a
  |.P9 k c=>(Zx k c st.objs=true∧out.objs=Mw k c st.objs)∧Ca P o (Bc out.rd) st.X out.X out.F out.res.a
  |.new os=>(E9 os=true∧out.objs=os++st.objs)∧Ca P o (Bc out.rd) st.X out.X out.F out.res.a
 ol:∀k x,k∉out.ol→lk k out.objs=some x→lk k st.objs=some x
def Bu(st:Ak)(res:XV)(rd:A6 (Operand×XV)):Out:=⟨.none,res,rd,st.objs,st.live,[],[]⟩
variable{P:Program}
def Ag{o:Oper}{res:XV}{rd:A6 (Operand×XV)}(hs:∀p∈Bc rd,Fc st.im p.1 p.2)(h:∀X,Ca P o (Bc rd) X X [] res.a):Cr P o st (Bu st res rd) :=
 ⟨hs,⟨rfl,rfl,rfl,h⟩,fun _ _ _ h=>h⟩
def A77{a:XD}(h:xd st x=some a):∀p∈Bc [(x,.d a)],Fc st.im p.1 p.2:=by intro p hp;simp only[Bc,Bnh,Bo8,Bnw]at hp;subst hp;exact Aa2 h
def Aud{a b:XD}(h:xd st x=some a)(h':xd st y=some b):∀p∈Bc [(x,.d a),(y,.d b)],Fc st.im p.1 p.2:=by
 intro p hp;simp only[Bc,Bnh,Bo8,Bnd,Boa,Bpa]at hp;rcases hp with rfl|rfl
 ·exact Aa2 h
 ·exact Aa2 h'
def at?{α:Type}(l:A6 α):Int→A7 α
 |.ofNat n=>l[n]?
 |.negSucc _=>none
def Aa3{α:Type}{l:A6 α}{n:Int}{x:α}(h:at? l n=some x):0≤n∧l[n.toNat]? = some x:=by
 cases n with
 |ofNat m=>exact⟨Int.natCast_nonneg m,h⟩
 |negSucc m=>cases h
def Age(n:Int):UInt8:=UInt8.ofNat (n % 256).toNat
def A5d(n:Int):((Age n).toNat:Int)=IntKind.u8.wrap n:=by unfold Age IntKind.wrap;rw[Bs7];simp[IntKind.bits,IntKind.signed];omega
def Bfz(op:BinOp)(k:IntKind)(a b:Int):A7 XD :=
 match op with
 |.add=>some (.i k (k.wrap (a+b)))
 |.sub=>some (.i k (k.wrap (a-b)))
 |.mul=>some (.i k (k.wrap (a*b)))
 |.eql=>some (.b (a==b))
 |.neq=>some (.b (a != b))
 |.lss=>some (.b (decide (a<b)))
 |.leq=>some (.b (decide (a≤b)))
 |.gtr=>some (.b (decide (b<a)))
 |.geq=>some (.b (decide (b≤a)))
 |.and=>some (.i k (bits .and k a b))
 |.or=>some (.i k (bits .or k a b))
 |.xor=>some (.i k (bits .xor k a b))
 |_=>none
variable{op:BinOp}
def B8b{k:IntKind}{a b:Int}{x:XD}(h:Bfz op k a b=some x):∃v,x.d = .sc v∧Ahb op k a b=some v:=by cases op<;>simp[Bfz]at h<;>subst h<;>exact⟨_,rfl,rfl⟩
def Bep(op:BinOp)(a b:UInt8):A7 XD :=
 match op with
 |.add=>some (.u8 (a+b))
 |.sub=>some (.u8 (a-b))
 |.mul=>some (.u8 (a*b))
 |.eql=>some (.b (a==b))
 |.neq=>some (.b (a != b))
 |.lss=>some (.b (decide (a<b)))
 |.leq=>some (.b (decide (a≤b)))
 |.gtr=>some (.b (decide (b<a)))
 |.geq=>some (.b (decide (b≤a)))
 |.and=>some (.u8 (Age (bits .and .u8 (a.toNat:Int) (b.toNat:Int))))
 |.or=>some (.u8 (Age (bits .or .u8 (a.toNat:Int) (b.toNat:Int))))
 |.xor=>some (.u8 (Age (bits .xor .u8 (a.toNat:Int) (b.toNat:Int))))
 |_=>none
def Zy(k:IntKind)(n:Int):k.wrap (k.wrap n)=k.wrap n:=by unfold IntKind.wrap;cases k<;>simp[IntKind.bits,IntKind.signed]<;>(try split)<;>(try split)<;>omega
section
variable{P:Program}{R:Type}
def Gb(P:Program)(t:TypeId):A7 (TypeId×Nat×Nat) :=
 match P.underlying t with
 |some (.slice e) =>
  match P.info? e with
  |some i=>cond (match i.zero with|some z=>Nat.beq z.cells.size i.size|none=>false) (some (e,i.size,i.bytes)) none
  |none=>none
 |_=>none
def Cs{t e bytes:Nat}(h:Gb P t=some (e,sz,bytes)):Q0 P t e sz bytes:=by
 unfold Gb at h;split at h
 ·rename_i e' ht;split at h
  ·rename_i i hi;cases hz:i.zero with
   |none=>simp[hz]at h
   |some z =>
    simp only[hz]at h;cases hb:Nat.beq z.cells.size i.size with
    |false=>simp[hb]at h
    |true =>simp only[hb,Bna,Bnf,Bo2]at h;obtain⟨rfl,rfl,rfl⟩:=h;exact⟨ht,i,z,hi,rfl,rfl,hz,Bne hb⟩
  ·cases h
 ·cases h
def tyI(P:Program)(t:TypeId):A7 (Bool×Nat) :=
 match P.underlying t,P.info? t with
 |some d,some i=>some (A9e d,i.size)
 |_,_=>none
def Uw{agg:Bool}(h:tyI P t=some (agg,sz)):TyI P t agg sz:=by
 unfold tyI at h;split at h
 ·rename_i d i hd hi;cases h;exact⟨⟨d,hd,rfl⟩,⟨i,hi,rfl⟩⟩
 ·cases h
def Apo(P:Program)(s n:Nat):A7 (Nat×Nat×Bool) :=
 match P.underlying s with
 |some (.struct fs) =>
  match fs[n]? with
  |some f =>
   match tyI P f.type with
   |some (agg,sz)=>cond (Nat.beq sz 0) none (some (f.offset,sz,agg))
   |none=>none
  |none=>none
 |_=>none
def A3f{s off:Nat}{agg:Bool}(h:Apo P s n=some (off,sz,agg)):Ahc P s n off sz agg:=by
 unfold Apo at h;split at h
 ·rename_i fs hfs;split at h
  ·rename_i f hf;split at h
   ·rename_i ag sz' ht;cases hz:Nat.beq sz' 0 with
    |true=>simp[hz]at h
    |false =>simp only[hz,Bnc,Bnf,Bo2]at h;obtain⟨rfl,rfl,rfl⟩:=h;exact⟨⟨fs,f,hfs,hf,rfl,Uw ht⟩,Bpv hz⟩
   ·cases h
  ·cases h
 ·cases h
def Aue(st:Ak)(x:Operand)(K:Out→A7 R):A7 R :=
 match Bj st x with
 |some v=>K (Bu st v [(x,v)])
 |none=>none
def Ea(h:Bj st x=some v):∀p∈Bc [(x,v)],Fc st.im p.1 p.2:=by intro p hp;simp only[Bc,Bnh,Bo8,Bnw]at hp;subst hp;exact Ax h
def Ahz{o:Oper}{K:Out→A7 R}{r:R}(ho:o.op = .move x∨o.op = .assign x)(h:Aue st x K=some r):∃out,K out=some r∧Cr P o st out:=by
 unfold Aue at h;split at h
 ·rename_i v hv;refine⟨_,h,Ag (Ea hv) fun X=>?_⟩;rcases ho with ho|ho
  ·exact Bbx ho
  ·exact B3s ho
 ·cases h
def B8c(st:Ak)(c x y:Operand)(K:Out→A7 R):A7 R :=
 match Bj st c with
 |some (.d (.b b)) =>
  cond b (match Bj st x with|some v=>K (Bu st v [(c,.d (.b true)),(x,v)])|none=>none)
   (match Bj st y with|some v=>K (Bu st v [(c,.d (.b false)),(y,v)])|none=>none)
 |_=>none
def B8d{o:Oper}{c:Operand}{K:Out→A7 R}{r:R}(ho:o.op = .pick c x y)(h:B8c st c x y K=some r):∃out,K out=some r∧Cr P o st out:=by
 unfold B8c at h;split at h
 ·rename_i b hb;cases b with
  |true =>
   simp only[Bna]at h;split at h
   ·rename_i v hv;refine⟨_,h,Ag ?_ fun X=>Aow ho⟩;intro p hp;simp only[Bc,Bnh,Bo8,Bnd,Boa,Bpa]at hp;rcases hp with rfl|rfl
    ·exact Ax hb
    ·exact Ax hv
   ·cases h
  |false =>
   simp only[Bnc]at h;split at h
   ·rename_i v hv;refine⟨_,h,Ag ?_ fun X=>Alj ho⟩;intro p hp;simp only[Bc,Bnh,Bo8,Bnd,Boa,Bpa]at hp;rcases hp with rfl|rfl
    ·exact Ax hb
    ·exact Ax hv
   ·cases h
 ·cases h
end
section
variable{P:Program}{o:Oper}{X:Ad}
def Bg0{k j:IntKind}{a b:Int}(ho:o.op = .binOp .shl t x y t')(hb:0≤b) :
  Ca P o [(x,.d (.int k a)),(y,.d (.int j b))] X X [] (.d (.int k (k.wrap (a*2 ^ (min b.toNat k.bits))))) :=
 .quiet fun _ _ g w ac _ Bg=>by
  have h1:=(Lz Bg).Be;have h2:=(rd1 Bg).Be;simp only at h1 h2;refine⟨_,?_,.Jz _ _ _⟩;have hg:eqGuard .shl t x y (.int k a) (.int j b)=pure ():=rfl;simp only[execOp,ho,h1,h2,hg];simp[binOp,Op.shift,show ¬b<0 by omega]
def Bg1{k j:IntKind}{a b:Int}(ho:o.op = .binOp .shr t x y t')(hb:0≤b) :
  Ca P o [(x,.d (.int k a)),(y,.d (.int j b))] X X [] (.d (.int k (a.fdiv (2 ^ (min b.toNat k.bits))))) :=
 .quiet fun _ _ g w ac _ Bg=>by
  have h1:=(Lz Bg).Be;have h2:=(rd1 Bg).Be;simp only at h1 h2;refine⟨_,?_,.Jz _ _ _⟩;have hg:eqGuard .shr t x y (.int k a) (.int j b)=pure ():=rfl;simp only[execOp,ho,h1,h2,hg];simp[binOp,Op.shift,show ¬b<0 by omega]
def B49{k:IntKind}{a b:Int}(ho:o.op = .binOp .andNot t x y t') :
  Ca P o [(x,.d (.int k a)),(y,.d (.int k b))] X X [] (.d (.int k (bits .andNot k a b))) :=
 .quiet fun _ _ g w ac _ Bg=>by
  have h1:=(Lz Bg).Be;have h2:=(rd1 Bg).Be;simp only at h1 h2;refine⟨_,?_,.Jz _ _ _⟩;have hg:eqGuard .andNot t x y (.int k a) (.int k b)=pure ():=rfl;simp only[execOp,ho,h1,h2,hg];simp[binOp,Op.intBits,bits]
def Bg2(op:BinOp)(a b:A6 UInt8):A7 Bool :=
 match op with
 |.eql=>some (a==b)
 |.neq=>some (a != b)
 |.lss=>some (Op.bytesLess a b)
 |.leq=>some (Op.bytesLess a b||a==b)
 |.gtr=>some (!(Op.bytesLess a b||a==b))
 |.geq=>some (!(Op.bytesLess a b))
 |_=>none
def Bcg{a b:A6 UInt8}{c:Bool}(ho:o.op = .binOp op t x y t')(hc:Bg2 op a b=some c) :
  Ca P o [(x,.d (.bs a)),(y,.d (.bs b))] X X [] (.d (.bool c)) :=
 .quiet fun _ _ g w ac _ Bg=>by
  have h1:=(Lz Bg).Be;have h2:=(rd1 Bg).Be;simp only at h1 h2;refine⟨_,?_,.Jz _ _ _⟩;have e1:(⟨a.toArray⟩:ByteArray).toList=a:=by simp[Btl]
  have e2:(⟨b.toArray⟩:ByteArray).toList=b:=by simp[Btl]
  cases op<;>simp only[Bg2,Bnf,reduceCtorEq]at hc<;>subst hc <;>
   simp[execOp,ho,h1,h2,eqGuard,binOp,Op.stringOp,e1,e2,bne]
def eqS(P:Program):Nat→TypeId→A6 XD→A6 XD→A7 Bool
 |0,_,_,_=>none
 |d+1,t,xs,ys =>
  match P.underlying t with
  |some (.int _) =>
   match xs,ys with
   |[.i k a],[.i k' b]=>cond (M4 k k') (some (a==b)) none
   |[.u8 a],[.u8 b]=>some (a==b)
   |[.u8 a],[.i .u8 b]=>some (((a.toNat:Nat):Int)==b)
   |[.i .u8 a],[.u8 b]=>some (a==((b.toNat:Nat):Int))
   |_,_=>none
  |some .bool =>
   match xs,ys with
   |[.b a],[.b b]=>some (a==b)
   |_,_=>none
  |some .string =>
   match xs,ys with
   |[.s a],[.s b]=>some (a==b)
   |_,_=>none
  |some (.struct fs)=>cond (P.stoodInHeld t) none (Aym P (eqS P d) xs ys fs.toList)
  |_=>none
where
 Aym (P:Program) (rec:TypeId→A6 XD→A6 XD→A7 Bool) (xs ys:A6 XD):A6 Field→A7 Bool
 |[]=>some true
 |f::fs =>
  match tyI P f.type with
  |some (_,sz) =>
   cond (decide (f.name = "_")) none (match rec f.type ((xs.drop f.offset).take sz) ((ys.drop f.offset).take sz) with
    |some a=>match fs with
     |[]=>some a
     |_=>match Aym P rec xs ys fs with
      |some b=>some (a&&b)
      |none=>none
    |none=>none)
  |none=>none
def VR(γ:Nat→Nat)(w:World)(xs:A6 XD)(vs:Array Value):Prop :=
 xs.length=vs.size∧∀(i:Nat) x v,xs[i]? = some x→vs[i]? = some v→RD γ w x.d v
def L6(agg:Bool)(vs:Array Value):Value:=if agg then .agg vs else vs.getD 0 undef
def VR.sub{vs:Array Value}(h:VR γ w xs vs)(off sz:Nat):VR γ w ((xs.drop off).take sz) (vs.extract off (off+sz)):=by
 refine⟨by simp[h.1];omega,?_⟩;intro i x v hx hv;rw[Bow]at hx;split at hx
 ·rw[Bp3]at hx;rw[Brk]at hv;split at hv
  ·exact h.2 _ x v hx hv
  ·cases hv
 ·cases hx
def Wk{agg:Bool}(ht:TyI P t agg sz)(vs:Array Value)(off:Nat)(w:World)(h1:agg=false→off<vs.size∧0<sz) :
  (part t vs off).run P w = .ok (L6 agg (vs.extract off (off+sz))) w:=by
 unfold part;rw[Boc,A57 ht,Bo5];cases agg with
 |true=>simp[ht.Zp,L6]
 |false =>
  obtain⟨h0,h2⟩:=h1 rfl;have:0<min (off+sz) vs.size-off:=by omega
  simp[h0,L6,Array.getD,this]
theorem Apq{γ:Nat→Nat}{w:World}:∀(d:Nat) (t:TypeId) (xs ys:A6 XD) (b:Bool) (vs us:Array Value) (e:Nat) (dd:TypeDesc),eqS P d t xs ys=some b→P.underlying t=some dd→VR γ w xs vs→VR γ w ys us →
  (Op.equalIn (d+e) t (L6 (A9e dd) vs) (L6 (A9e dd) us)).run P w = .ok b w
 |0,t,xs,ys,b,vs,us,e,dd,h,hd,hx,hy=>by simp[eqS]at h
 |d+1,t,xs,ys,b,vs,us,e,dd,h,hd,hx,hy=>by
  have one:∀ {xs:A6 XD} {vs:Array Value} {x:XD},VR γ w xs vs→xs=[x]→∃v,vs=#[v]∧RD γ w x.d v:=by
   intro xs vs x h he;subst he;obtain⟨h1,h2⟩:=h;have:vs.size=1:=by simpa using h1.symm
   refine⟨vs[0],?_,h2 0 x _ rfl (by simp[this])⟩;apply Array.ext
   ·simp[this]
   ·intro i h1 h2;have:i=0:=by simp at h2;omega
    subst this;rfl
  have A2h:∀ {v u:Value},RD γ w (.sc u) v→v=u:=by intro v u h;cases h;rfl
  unfold eqS at h;rw[show d+1+e=(d+e)+1 by omega];rw[hd]at h;cases dd with
  |int k0 =>
   simp only[A9e,L6];simp only at h;split at h
   ·rename_i k a k' b';cases hk:M4 k k'<;>simp[hk]at h;have:=Hi hk;subst this;subst h;obtain⟨v,rfl,hv⟩:=one hx rfl;obtain⟨u,rfl,hu⟩:=one hy rfl;have:=A2h hv;subst this;have:=A2h hu;subst this;simpa using Bss w (d+e) t k k0 a b' hd
   ·rename_i a b';simp at h;subst h;obtain⟨v,rfl,hv⟩:=one hx rfl;obtain⟨u,rfl,hu⟩:=one hy rfl;have:=A2h hv;subst this;have:=A2h hu;subst this;have e1:=Bss (P:=P) w (d+e) t .u8 k0 (a.toNat:Int) (b'.toNat:Int) hd;have e2:(((a.toNat:Nat):Int)==((b'.toNat:Nat):Int))=(a==b'):=by rw[Box];simp only[Brv];exact Aph
    rw[e2]at e1;simpa using e1
   ·rename_i a b';simp at h;subst h;obtain⟨v,rfl,hv⟩:=one hx rfl;obtain⟨u,rfl,hu⟩:=one hy rfl;have:=A2h hv;subst this;have:=A2h hu;subst this;simpa using Bss (P:=P) w (d+e) t .u8 k0 (a.toNat:Int) b' hd
   ·rename_i a b';simp at h;subst h;obtain⟨v,rfl,hv⟩:=one hx rfl;obtain⟨u,rfl,hu⟩:=one hy rfl;have:=A2h hv;subst this;have:=A2h hu;subst this;simpa using Bss (P:=P) w (d+e) t .u8 k0 a (b'.toNat:Int) hd
   ·cases h
  |bool =>
   simp only[A9e,L6];simp only at h;split at h
   ·rename_i a b';simp at h;subst h;obtain⟨v,rfl,hv⟩:=one hx rfl;obtain⟨u,rfl,hu⟩:=one hy rfl;have:=A2h hv;subst this;have:=A2h hu;subst this;simpa using run_equalIn_bool' (P:=P) w (d+e) t a b' hd
   ·cases h
  |string =>
   simp only[A9e,L6];simp only at h;split at h
   ·rename_i a b';simp at h;subst h;obtain⟨v,rfl,hv⟩:=one hx rfl;obtain⟨u,rfl,hu⟩:=one hy rfl;have:=A2h hv;subst this;have:=A2h hu;subst this;have:=run_equalIn_string (P:=P) w (d+e) t ⟨a.toArray⟩ ⟨b'.toArray⟩ hd;simp only[Btl]at this;simpa using this
   ·cases h
  |struct fs =>
   simp only[A9e,L6];simp only at h;cases hs:P.stoodInHeld t with
   |true=>simp[hs]at h
   |false =>
    simp only[hs,Bnc]at h;have hf:P.fieldsOf t=fs:=by simp[Program.fieldsOf,hd]
    have:=run_equalIn_agg (P:=P) w (d+e) t vs us (by rw[hf];exact hd) hs;rw[hf]at this;simp only[Bpz];rw[this];clear this hf hd hs;generalize fs.toList=fl at h;induction fl generalizing b with
    |nil=>simp[eqS.Aym]at h;subst h;rfl
    |cons f fl ih =>
     unfold eqS.Aym at h;split at h
     ·rename_i ag sz B3t;have hT:=Uw B3t
      by_cases hn : f.name = "_"
      ·simp[hn]at h
      ·simp only[hn,decide_false,Bnc]at h;split at h
       ·rename_i a ha;obtain⟨⟨d1,hd1,hag⟩,_⟩:=id hT;have key:=Apq d f.type _ _ a _ _ e d1 ha hd1 (hx.sub f.offset sz) (hy.sub f.offset sz);rw[hag]at key;have Uc:∀ {zs:A6 XD} {ws:Array Value},VR γ w zs ws→(∃q,(zs.drop f.offset).take sz=q∧q≠[])→f.offset<ws.size∧0<sz:=by
         intro zs ws hz ⟨q,hq,hne⟩;have:0<((zs.drop f.offset).take sz).length:=by rw[hq];exact Bsp.2 hne
         simp at this;rw[← hz.1];omega
        have hne:ag=false→((xs.drop f.offset).take sz≠[])∧((ys.drop f.offset).take sz≠[]):=by
         intro hg;subst hg;refine⟨fun h0=>?_,fun h0=>?_⟩
         ·rw[h0]at ha;cases d with
          |zero=>simp[eqS]at ha
          |succ d =>unfold eqS at ha;rw[hd1]at ha;cases d1<;>simp[A9e]at hag<;>simp at ha
         ·rw[h0]at ha;cases d with
          |zero=>simp[eqS]at ha
          |succ d =>
           unfold eqS at ha;rw[hd1]at ha;cases d1<;>simp[A9e]at hag<;>simp at ha
           all_goals (split at ha<;>simp_all)
        have p1:=Wk hT vs f.offset w (fun hg=>Uc hx ⟨_,rfl,(hne hg).1⟩);have p2:=Wk hT us f.offset w (fun hg=>Uc hy ⟨_,rfl,(hne hg).2⟩);simp only[Op.eqFields,ne_eq,hn,not_false_eq_true,Bpz,Boc,p1,p2,Bo5,key];split at h
        ·cases h;cases b<;>simp[Op.eqFields]
        ·rename_i hfl;split at h
         ·rename_i b2 hb2;cases h;have:=ih b2 hb2;cases a with
          |true=>simpa using this
          |false=>simp
         ·cases h
       ·cases h
     ·cases h
  |_=>simp at h
def B8e{ys:A6 XD}{b:Bool}(hop:op = .eql∨op = .neq)(ho:o.op = .binOp op t x y t')(hb:eqS P 9 t xs ys=some b)
  (ht:(P.underlying t).map A9e=some true) (hm:P.eqGuardType P.depth t=false) :
  Ca P o [(x,.d (.agg (Dm xs))),(y,.d (.agg (Dm ys)))] X X [] (.d (.bool (if op = .eql then b else !b))) :=
 .quiet fun _ _ g w ac _ Bg=>by
  have h1:=Lz Bg;have h2:=rd1 Bg;simp only at h1 h2;have ag:∀ {zs:A6 XD} {v:Value},RA g w (.d (.agg (Dm zs))) v→∃vs,v = .agg vs∧VR g.γ w zs vs:=by
   intro zs v h;cases h with
   |d _ _ h =>
    cases h with
    |agg _ vs hl hc =>refine⟨vs,rfl,by simpa[Gv]using hl,fun i x u hx hu=>hc i x.d u ?_ hu⟩;rw[Hj,Bni,hx];rfl
  obtain⟨vs,hv,hvr⟩:=ag h1;obtain⟨us,hu,hur⟩:=ag h2;obtain⟨dd,hd,hag⟩:=Bnn.1 ht;have key:=Apq (P:=P) (w:=w) 9 t xs ys b vs us 9991 dd hb hd hvr hur;rw[hag]at key;simp only[L6,Bpz]at key;refine⟨_,?_,.Jz _ _ _⟩;rcases hop with rfl|rfl
  ·simp only[execOp,ho,hv,hu];simp[run_eqGuard_agg (P:=P) w .eql t x y vs us hm,run_eql_struct,key]
  ·simp only[execOp,ho,hv,hu];simp[run_eqGuard_agg (P:=P) w .neq t x y vs us hm,run_neq_struct,key]
end
section
variable{P:Program}{R:Type}
def Bch(k:IntKind)(n:Int):XD :=
 match k with
 |.u8=>.u8 (Age n)
 |k=>.i k n
def An1(k:IntKind)(n:Int)(h:k = .u8→IntKind.u8.wrap n=n):(Bch k n).d = .int k n:=by
 unfold Bch;split
 ·simp only[XD.d];rw[A5d,h rfl]
 ·rfl
def Ayn(op:BinOp)(k:IntKind)(a b:Int)(K:XD→A7 R):A7 R :=
 match op with
 |.quo=>cond (b==0) none (K (.i k (k.wrap (a.tdiv b))))
 |.rem=>cond (b==0) none (K (.i k (a.tmod b)))
 |.andNot=>K (.i k (bits .andNot k a b))
 |op=>match Bfz op k a b with
  |some x=>K x
  |none=>none
def Apr(op:BinOp)(a b:UInt8)(K:XD→A7 R):A7 R :=
 match op with
 |.quo=>cond (b==0) none (K (.u8 (a/b)))
 |.rem=>cond (b==0) none (K (.u8 (a % b)))
 |op=>match Bep op a b with
  |some x=>K x
  |none=>none
def Acn(op:BinOp)(k:IntKind)(a b:Int)(K:XD→A7 R):A7 R :=
 match op with
 |.shl=>cond (decide (0≤b)) (K (Bch k (k.wrap (a*2 ^ (min b.toNat k.bits))))) none
 |.shr=>cond (decide (0≤b)) (match k with
  |.u8=>none
  |k=>K (.i k (a.fdiv (2 ^ (min b.toNat k.bits))))) none
 |_=>none
def Yb:BinOp→Bool
 |.shl|.shr=>true
 |_=>false
def Bif(op:BinOp)(a b:A6 UInt8)(K:XD→A7 R):A7 R :=
 match op with
 |.add=>cond (decide (a.length+b.length≤4611686018427387904)) (K (.s (a++b))) none
 |op=>match Bg2 op a b with
  |some c=>K (.b c)
  |none=>none
def B8f(P:Program)(op:BinOp)(t:TypeId)(xs ys:A6 XD)(K:XD→A7 R):A7 R :=
 match eqS P 9 t xs ys,P.underlying t with
 |some b,some (.struct _)=>cond (P.eqGuardType P.depth t) none (match op with
  |.eql=>K (.b b)
  |.neq=>K (.b (!b))
  |_=>none)
 |_,_=>none
def Big(P:Program)(op:BinOp)(t:TypeId)(a b:Bool)(K:XD→A7 R):A7 R :=
 match P.underlying t with
 |some .bool=>match op with
  |.eql=>K (.b (a==b))
  |.neq=>K (.b (!(a==b)))
  |_=>none
 |_=>none
def Bg3(P:Program)(op:BinOp)(t:TypeId)(x y:XD)(K:XD→A7 R):A7 R :=
 match x,y with
 |.i k a,.i k' b=>cond (Yb op) (Acn op k a b K) (cond (M4 k k') (Ayn op k a b K) none)
 |.i k a,.u8 b=>cond (Yb op) (Acn op k a (b.toNat:Int) K) none
 |.u8 a,.i k b=>cond (Yb op) (Acn op .u8 (a.toNat:Int) b K) none
 |.u8 a,.u8 b=>cond (Yb op) (Acn op .u8 (a.toNat:Int) (b.toNat:Int) K) (Apr op a b K)
 |.s a,.s b=>Bif op a b K
 |.b a,.b b=>Big P op t a b K
 |.agg xs,.agg ys=>B8f P op t xs ys K
 |_,_=>none
def A5e{o:Oper}{k j:IntKind}{a b:Int}{K:XD→A7 R}{r:R}(ho:o.op = .binOp op t x y t')(h:Acn op k a b K=some r) :
  ∃z,K z=some r∧∀X,Ca P o [(x,.d (.int k a)),(y,.d (.int j b))] X X [] (.d z.d):=by
 unfold Acn at h;split at h
 ·by_cases hb:0≤b
  ·simp only[hb,Bun,Bna]at h;refine⟨_,h,fun X=>?_⟩;rw[An1 k _ (fun hk=>by subst hk;exact Zy _ _)];exact Bg0 ho hb
  ·simp[hb]at h
 ·by_cases hb:0≤b
  ·simp only[hb,Bun,Bna]at h;split at h
   ·cases h
   ·exact⟨_,h,fun X=>Bg1 ho hb⟩
  ·simp[hb]at h
 ·cases h
def B4a{o:Oper}{k:IntKind}{a b:Int}{K:XD→A7 R}{r:R}(ho:o.op = .binOp op t x y t')(h:Ayn op k a b K=some r) :
  ∃z,K z=some r∧∀X,Ca P o [(x,.d (.int k a)),(y,.d (.int k b))] X X [] (.d z.d):=by
 unfold Ayn at h;split at h
 ·by_cases hb:b=0
  ·simp[hb]at h
  ·have:(b==0)=false:=by simpa using hb
   simp only[this,Bnc]at h;exact⟨_,h,fun X=>B7m ho hb rfl⟩
 ·by_cases hb:b=0
  ·simp[hb]at h
  ·have:(b==0)=false:=by simpa using hb
   simp only[this,Bnc]at h;exact⟨_,h,fun X=>B7l ho hb rfl⟩
 ·exact⟨_,h,fun X=>B49 ho⟩
 ·split at h
  ·rename_i z hz;obtain⟨v,hv,hr⟩:=B8b hz;refine⟨z,h,fun X=>?_⟩;rw[hv];exact B7c ho hr
  ·cases h
def B1s(b:UInt8):IntKind.u8.wrap (b.toNat:Int)=(b.toNat:Int):=by have:=b.toNat_lt;unfold IntKind.wrap;simp[IntKind.bits,IntKind.signed];omega
def B8g{o:Oper}{a b:UInt8}{K:XD→A7 R}{r:R}(ho:o.op = .binOp op t x y t')(h:Apr op a b K=some r) :
  ∃z,K z=some r∧∀X,Ca P o [(x,.d (.int .u8 (a.toNat:Int))),(y,.d (.int .u8 (b.toNat:Int)))] X X [] (.d z.d):=by
 have ha:=a.toNat_lt;have hb:=b.toNat_lt;unfold Apr at h;split at h
 ·by_cases hb:b=0
  ·simp[hb]at h
  ·have Iy:(b==0)=false:=by simpa using hb
   simp only[Iy,Bnc]at h;refine⟨_,h,fun X=>?_⟩;have h0:((b.toNat:Nat):Int)≠0:=by intro h0;apply hb;apply Brp.1;simpa using h0
   refine B7m ho h0 ?_;rw[show(((a/b:UInt8).toNat:Nat):Int)=((a.toNat:Nat):Int).tdiv ((b.toNat:Nat):Int) by rw[UInt8.toNat_div];rfl];have:(((a/b:UInt8).toNat:Nat):Int)=((a.toNat:Nat):Int).tdiv ((b.toNat:Nat):Int):=by rw[UInt8.toNat_div];rfl
   rw[← this];exact B1s _
 ·by_cases hb:b=0
  ·simp[hb]at h
  ·have Iy:(b==0)=false:=by simpa using hb
   simp only[Iy,Bnc]at h;refine⟨_,h,fun X=>?_⟩;have h0:((b.toNat:Nat):Int)≠0:=by intro h0;apply hb;apply Brp.1;simpa using h0
   exact B7l ho h0 (by rw[UInt8.toNat_mod];rfl)
 ·split at h
  ·rename_i z hz;refine⟨z,h,fun X=>?_⟩;have mk:∀ {v:Value},Ahb op .u8 (a.toNat:Int) (b.toNat:Int)=some v→z.d = .sc v→Ca P o [(x,.d (.int .u8 (a.toNat:Int))),(y,.d (.int .u8 (b.toNat:Int)))] X X [] (.d z.d):=by intro v h1 h2;rw[h2];exact B7c ho h1
   unfold Bep at hz;split at hz<;>simp only[Bnf,reduceCtorEq]at hz<;>subst hz
   ·refine mk rfl ?_;simp only[XD.d];congr 2
   ·refine mk rfl ?_;simp only[XD.d];congr 2;rw[UInt8.toNat_sub];unfold IntKind.wrap;simp[IntKind.bits,IntKind.signed];omega
   ·refine mk rfl ?_;simp only[XD.d];congr 2
   ·refine mk rfl ?_;simp only[XD.d,D.bool];congr 2;rw[Box];simp only[Brv];exact Aph.symm
   ·refine mk rfl ?_;simp only[XD.d,D.bool];congr 2;rw[Box];simp only[bne_iff_ne,ne_eq];exact not_congr Aph.symm
   ·refine mk rfl ?_;simp only[XD.d,D.bool];congr 2;rw[Box];simp[Bq8]
   ·refine mk rfl ?_;simp only[XD.d,D.bool];congr 2;rw[Box];simp[Bsf]
   ·refine mk rfl ?_;simp only[XD.d,D.bool];congr 2;rw[Box];simp[Bq8]
   ·refine mk rfl ?_;simp only[XD.d,D.bool];congr 2;rw[Box];simp[Bsf]
   ·refine mk rfl ?_;simp only[XD.d];congr 2;rw[A5d];unfold bits;exact Zy _ _
   ·refine mk rfl ?_;simp only[XD.d];congr 2;rw[A5d];unfold bits;exact Zy _ _
   ·refine mk rfl ?_;simp only[XD.d];congr 2;rw[A5d];unfold bits;exact Zy _ _
  ·cases h
def Bci{o:Oper}{a b:XD}{K:XD→A7 R}{r:R}(ho:o.op = .binOp op t x y t')(h:Bg3 P op t a b K=some r) :
  ∃z,K z=some r∧∀X,Ca P o [(x,.d a.d),(y,.d b.d)] X X [] (.d z.d):=by
 unfold Bg3 at h;split at h
 ·rename_i k a k' b;cases hs:Yb op with
  |true=>simp only[hs,Bna]at h;exact A5e ho h
  |false =>
   simp only[hs,Bnc]at h;cases hk:M4 k k' with
   |false=>simp[hk]at h
   |true =>have:=Hi hk;subst this;simp only[hk,Bna]at h;exact B4a ho h
 ·cases hs:Yb op with
  |true=>simp only[hs,Bna]at h;exact A5e ho h
  |false=>simp[hs]at h
 ·cases hs:Yb op with
  |true=>simp only[hs,Bna]at h;exact A5e ho h
  |false=>simp[hs]at h
 ·cases hs:Yb op with
  |true=>simp only[hs,Bna]at h;exact A5e ho h
  |false=>simp only[hs,Bnc]at h;exact B8g ho h
 ·rename_i a b;unfold Bif at h;split at h
  ·by_cases hl:a.length+b.length≤4611686018427387904
   ·simp only[hl,Bun,Bna]at h;exact⟨_,h,fun X=>B7u ho hl⟩
   ·simp[hl]at h
  ·split at h
   ·rename_i c hc;exact⟨_,h,fun X=>Bcg ho hc⟩
   ·cases h
 ·unfold Big at h;split at h
  ·rename_i ht;split at h
   ·exact⟨_,h,fun X=>Atj ho ht⟩
   ·exact⟨_,h,fun X=>Atk ho ht⟩
   ·cases h
  ·cases h
 ·unfold B8f at h;split at h
  ·rename_i b fs hb ht;cases hm:P.eqGuardType P.depth t with
   |true=>simp[hm]at h
   |false =>
    simp only[hm,Bnc]at h;have hag:(P.underlying t).map A9e=some true:=by rw[ht];rfl
    split at h
    ·refine⟨_,h,fun X=>?_⟩;exact B8e (X:=X) (.inl rfl) ho hb hag hm
    ·refine⟨_,h,fun X=>?_⟩;exact B8e (X:=X) (.inr rfl) ho hb hag hm
    ·cases h
  ·cases h
 ·cases h
end
section
variable{P:Program}{R:Type}
def Bg5(P:Program)(st:Ak)(op:BinOp)(t:TypeId)(x y:Operand)(K:Out→A7 R):A7 R :=
 match xd st x,xd st y with
 |some a,some b=>Bg3 P op t a b fun z=>K (Bu st (.d z) [(x,.d a),(y,.d b)])
 |_,_=>none
def Bcj{o:Oper}{K:Out→A7 R}{r:R}(ho:o.op = .binOp op t x y t')(h:Bg5 P st op t x y K=some r):∃out,K out=some r∧Cr P o st out:=by
 unfold Bg5 at h;split at h
 ·rename_i a b ha hb;obtain⟨z,hz,hop⟩:=Bci ho h;exact⟨_,hz,Ag (Aud ha hb) hop⟩
 ·cases h
def xUn(st:Ak)(op:UnOp)(x:Operand)(K:Out→A7 R):A7 R :=
 match op,xd st x with
 |.not,some (.b b)=>K (Bu st (.d (.b (!b))) [(x,.d (.b b))])
 |.neg,some (.i k n)=>K (Bu st (.d (.i k (k.wrap (0-n)))) [(x,.d (.i k n))])
 |_,_=>none
def Bg6{o:Oper}{k:IntKind}{n:Int}{X:Ad}(ho:o.op = .unOp .neg t x):Ca P o [(x,.d (.int k n))] X X [] (.d (.int k (k.wrap (0-n)))) :=
 .quiet fun _ _ g w ac _ Bg=>by
  have h1:=(Lz Bg).Be;simp only at h1;refine⟨_,?_,.Jz _ _ _⟩;simp[execOp,ho,h1,Op.unary,Op.intArith]
def Bg7{o:Oper}{op:UnOp}{K:Out→A7 R}{r:R}(ho:o.op = .unOp op t x)(h:xUn st op x K=some r):∃out,K out=some r∧Cr P o st out:=by
 unfold xUn at h;split at h
 ·rename_i b hb;exact⟨_,h,Ag (A77 hb) fun X=>Bfe ho⟩
 ·rename_i k n hb;exact⟨_,h,Ag (A77 hb) fun X=>Bg6 ho⟩
 ·cases h
def B8h(P:Program)(st:Ak)(s d:TypeId)(x:Operand)(K:Out→A7 R):A7 R :=
 match xd st x,P.underlying s,P.underlying d with
 |some (.i j n),some _,some (.int k)=>K (Bu st (.d (Bch k (k.wrap n))) [(x,.d (.i j n))])
 |some (.u8 b),some _,some (.int k) =>
  K (Bu st (.d (match k with
   |.u8=>.u8 b
   |.i8=>.i .i8 (IntKind.i8.wrap (b.toNat:Int))
   |k=>.i k (b.toNat:Int))) [(x,.d (.u8 b))])
 |some (.sl .u8 l),some (.slice e),some .string =>
  match P.underlying e with
  |some (.int .u8)=>K (Bu st (.d (.s l)) [(x,.d (.sl .u8 l))])
  |_=>none
 |some (.s l),some .string,some .string=>K (Bu st (.d (.s l)) [(x,.d (.s l))])
 |_,_,_=>none
def u8_in(b:UInt8)(k:IntKind)(h:k≠.i8):k.wrap (b.toNat:Int)=(b.toNat:Int):=by have:=b.toNat_lt;unfold IntKind.wrap;cases k<;>simp[IntKind.bits,IntKind.signed]at h⊢<;>(try split)<;>omega
def Auf{o:Oper}{d:TypeId}{l:A6 UInt8}{X:Ad}(ho:o.op = .convert s d x)(hs:P.underlying s=some .string)(hd:P.underlying d=some .string):Ca P o [(x,.d (.bs l))] X X [] (.d (.bs l)) :=
 .quiet fun _ _ g w ac _ Bg=>by
  have h1:=(Lz Bg).Be;simp only at h1;refine⟨_,?_,.Jz _ _ _⟩;simp[execOp,ho,h1,convert,Bns hs,Bns hd]
def B8i{o:Oper}{d:TypeId}{K:Out→A7 R}{r:R}(ho:o.op = .convert s d x)(h:B8h P st s d x K=some r):∃out,K out=some r∧Cr P o st out:=by
 unfold B8h at h;split at h
 ·rename_i j n sd k hx hs hd;refine⟨_,h,Ag (A77 hx) fun X=>?_⟩;simp only[XV.a];rw[An1 k _ (fun hk=>by subst hk;exact Zy _ _)];exact Aen ho (by rw[hs];rfl) hd
 ·rename_i b sd k hx hs hd;refine⟨_,h,Ag (A77 hx) fun X=>?_⟩;have:=Aen (P:=P) (X:=X) (j:=.u8) (k:=k) (n:=(b.toNat:Int)) ho (by rw[hs];rfl) hd;simp only[XV.a];split
  ·rw[u8_in b _ (by decide)]at this;exact this
  ·exact this
  ·rw[u8_in b _ (by assumption)]at this;exact this
 ·rename_i l e hx hs hd;split at h
  ·rename_i he;refine⟨_,h,Ag (A77 hx) fun X=>?_⟩;have:=Ahu (P:=P) (X:=X) (l:=l) ho hs he hd;exact this
  ·cases h
 ·rename_i l hx hs hd;exact⟨_,h,Ag (A77 hx) fun X=>Auf ho hs hd⟩
 ·cases h
def Ai0(st:Ak)(x:Operand)(i:Nat)(K:Out→A7 R):A7 R :=
 match Bj st x with
 |some (.Er l) =>
  match l[i]? with
  |some v=>K (Bu st v [(x,.Er l)])
  |none=>none
 |_=>none
def Aug{o:Oper}{i:Nat}{K:Out→A7 R}{r:R}(ho:o.op = .extract x i)(h:Ai0 st x i K=some r):∃out,K out=some r∧Cr P o st out:=by
 unfold Ai0 at h;split at h
 ·rename_i l hl;split at h
  ·rename_i v hv;exact⟨_,h,Ag (Ea hl) fun X=>Ay2 ho (by rw[M5,hv];rfl)⟩
  ·cases h
 ·cases h
def Bg8(st:Ak)(x:Operand)(K:Out→A7 R):A7 R :=
 match Bj st x with
 |some (.nm k (.p off))=>K (Bu st (.nm k (.p off)) [(x,.nm k (.p off))])
 |some (.d (.ep cs))=>K (Bu st (.d (.ep cs)) [(x,.d (.ep cs))])
 |_=>none
def Ai1{o:Oper}{cs:A6 D}{X:Ad}(ho:o.op = .nilCheck x):Ca P o [(x,.d (.ep cs))] X X [] (.d (.ep cs)) :=
 .quiet fun _ _ g w ac _ Bg=>by
  have h1:=Lz Bg;simp only at h1;cases h1 with
  |d _ _ h =>
   generalize hv:ac.eval x=v at h;have h':=h;cases h with
   |ep _ b off h1 h2 =>refine⟨_,?_,.d _ _ h'⟩;simp[execOp,ho,hv]
def Bck{o:Oper}{K:Out→A7 R}{r:R}(ho:o.op = .nilCheck x)(h:Bg8 st x K=some r):∃out,K out=some r∧Cr P o st out:=by
 unfold Bg8 at h;split at h
 ·rename_i k off hx;exact⟨_,h,Ag (Ea hx) fun X=>Agb ho⟩
 ·rename_i cs hx;exact⟨_,h,Ag (Ea hx) fun X=>Ai1 ho⟩
 ·cases h
end
section
variable{P:Program}{R:Type}
def A3g:A6 XV→A7 (A6 XD)
 |[]=>some []
 |.d x::r=>match A3g r with
  |some l=>some (x::l)
  |none=>none
 |_::_=>none
def Auh(cs:A6 XV):XV :=
 match A3g cs with
 |some ds=>.d (.agg ds)
 |none=>.agg cs
theorem B8j:∀(cs:A6 XV),Ah8 (Ae cs)=(A3g cs).map Dm
 |[]=>rfl
 |x::r=>by
  cases x with
  |d x =>simp only[Ae,XV.a,Ah8,A3g,B8j r];cases A3g r<;>rfl
  |_=>simp[Ae,XV.a,Ah8,A3g]
theorem An2:∀ {cs:A6 XV} {ds:A6 XD},A3g cs=some ds→cs=ds.map .d
 |[],ds,h=>by simp[A3g]at h;subst h;rfl
 |x::r,ds,h=>by
  cases x with
  |d x =>
   simp only[A3g]at h;split at h
   ·rename_i l hl;cases h;rw[An2 hl];rfl
   ·cases h
  |_=>simp[A3g]at h
def Aps(cs:A6 XV):(Auh cs).a=Y3 (Ae cs):=by unfold Auh Y3;rw[B8j];cases A3g cs<;>rfl
def XV.cells:XV→A6 XV
 |.d x=>x.cells.map .d
 |.agg cs=>cs
 |x=>[x]
def Bcl(x:XD):x.d.cells=Dm x.cells:=by
 cases hx:x.isAgg with
 |true=>rw[XD.Beo hx];rfl
 |false=>cases x<;>first|rfl|(simp[XD.isAgg]at hx;done)|(rename_i b;cases b<;>rfl)
def An3(l:A6 XD):Ae (l.map .d)=(Dm l).map .d:=by simp[R4,Hj,XV.a]
def A5f(x:XV):x.a.cells=Ae x.cells:=by
 cases x with
 |d x=>simp only[XV.a,AV.cells,XV.cells,Bcl,An3]
 |_=>rfl
def B1t(P:Program)(st:Ak)(t:TypeId)(x:Operand)(K:Out→A7 R):A7 R :=
 match Bj st x,tyI P t with
 |some (.el k t i fo),some (agg,sz) =>
  match lk k st.objs with
  |some (.arr u l) =>
   if h:u.Jx t=true then
    cond agg (cond (Nat.ble (fo+sz) t.size) (Option.bind ((Ty.Av h▸l:List t.T)[i]?) fun e=>K ⟨.look [k],.d (.agg (((t.enc e).drop fo).take sz)),[(x,.el k t i fo)],st.objs,st.live,[],[]⟩) none)
     (cond (Nat.beq sz 1) (Option.bind ((Ty.Av h▸l:List t.T)[i]?) fun e=>match (t.enc e)[fo]? with
      |some v=>K ⟨.look [k],.d v,[(x,.el k t i fo)],st.objs,st.live,[],[]⟩
      |none=>none) none)
   else none
  |_=>none
 |some (.nm k (.p off)),some (agg,sz) =>
  match lk k st.objs with
  |some (.cells cs ty) =>
   cond agg (cond (Nat.ble (off+sz) cs.length) (K ⟨.look [k],Auh ((cs.drop off).take sz),[(x,.nm k (.p off))],st.objs,st.live,[],[]⟩) none)
    (cond (Nat.beq sz 1) (match cs[off]? with
     |some v=>K ⟨.look [k],v,[(x,.nm k (.p off))],st.objs,st.live,[],[]⟩
     |none=>none) none)
  |_=>none
 |some (.d (.pa ty l)),some (agg,sz) =>cond agg (cond (Nat.beq (l.length*ty.size) sz) (K (Bu st (.d (.ag ty l)) [(x,.d (.pa ty l))])) none) none
 |some (.d (.ep cs)),some (agg,sz) =>
  cond agg (cond (Nat.ble sz cs.length) (K (Bu st (.d (.agg (cs.take sz))) [(x,.d (.ep cs))])) none)
   (cond (Nat.beq sz 1) (match cs with
    |c::r=>K (Bu st (.d c) [(x,.d (.ep (c::r)))])
    |[]=>none) none)
 |_,_=>none
def Aui{cs:A6 XV}{ty:A7 TypeId}(h:lk k st.objs=some (.cells cs ty)):st.X.objs.lookup k=some (.cells (Ae cs) ty):=by show(Aa st.objs).lookup k=_;exact Lc h
def A5g(l:A6 XD)(n:Nat):Dm (l.take n)=(Dm l).take n:=by simp[Hj,Br2]
def Aco(l:A6 XV)(n:Nat):Ae (l.take n)=(Ae l).take n:=by simp[R4,Br2]
def Acp(l:A6 XV)(n:Nat):Ae (l.drop n)=(Ae l).drop n:=by simp[R4,Brr]
def A5h(l:A6 XD)(n:Nat):Dm (l.drop n)=(Dm l).drop n:=by simp[Hj,Brr]
def Aa4(t:Ty)(l:List t.T):∀(i:Nat) cs,(l.map t.ds)[i]? = some cs→cs.length=t.size:=by intro i cs h;rw[Bni,Bnn]at h;obtain⟨x,_,rfl⟩:=h;exact t.Df x
def B4b(l:A6 D):Ah8 (l.map .d)=some l:=by
 induction l with
 |nil=>rfl
 |cons x r ih=>simp[Ah8,ih]
def B4c(l:A6 D):Y3 (l.map .d) = .d (.agg l):=by unfold Y3;rw[B4b]
def Beq(hs:∀(i:Nat) cs,fs[i]? = some cs→cs.length=sz){p:Nat}(hp:fs[p]? = some c)(h:fo+n≤c.length) :
  p*sz+fo+n≤(fs.flatten.map AV.d).length:=by
 rw[Bo1,Kr fs hs];have h1:p<fs.length:=(Bnj.1 hp).1;have h2:=hs p c hp;have h3:(p+1)*sz≤fs.length*sz:=Bpn sz h1;rw[Bpx]at h3;omega
def Bcm(hs:∀(i:Nat) cs,fs[i]? = some cs→cs.length=sz){p:Nat}(hp:fs[p]? = some c)(h:fo+n≤c.length) :
  ((fs.flatten.map AV.d).drop (p*sz+fo)).take n=((c.drop fo).take n).map .d:=by
 rw[← Brr,← Br2];congr 1;apply Bqy;intro i;simp only[Bow,Bp3];split
 ·rename_i hi;have By:fo+i<c.length:=by omega
  rw[show p*sz+fo+i=p*sz+(fo+i) by omega,A9t fs hs p (fo+i) c c[fo+i] hp (by simp[By])];simp[By]
 ·rfl
def Auj{o:Oper}{K:Out→A7 R}{r:R}(ho:o.op = .load t x)(h:B1t P st t x K=some r):∃out,K out=some r∧Cr P o st out:=by
 unfold B1t at h;split at h
 ·rename_i k u i fo agg sz hx ht;have hT:=Uw ht;split at h
  ·rename_i u' l hk;split at h
   ·rename_i he;have e0:=Ty.Av he;subst e0;have M1:st.X.objs.lookup k=some (.cells ((l.map u'.ds).flatten.map .d) none):=by show(Aa st.objs).lookup k=_;exact Lc hk
    have Jq:=Aa4 u' l;cases agg with
    |true =>
     simp only[Bna]at h;cases hb:Nat.ble (fo+sz) u'.size with
     |false=>simp[hb]at h
     |true =>
      simp only[hb,Bna]at h;have hle:=Bnu hb;obtain⟨e,he1,h⟩:=Bor.1 h;have hp:(l.map u'.ds)[i]? = some (u'.ds e):=by rw[Bni,he1];rfl
      refine⟨_,h,⟨Ea hx,⟨rfl,rfl,rfl,fun X hX=>?_⟩,fun _ _ _ h=>h⟩⟩;refine Y4 ho (.agg sz _ none _ hT ((hX k Bnm).trans M1) (Beq Jq hp (by rw[Ty.Df];exact hle)) ?_);rw[Bcm Jq hp (by rw[Ty.Df];exact hle),B4c];simp only[XV.a,XD.d,A5g,A5h,Ty.N7]
    |false =>
     simp only[Bnc]at h;cases hb:Nat.beq sz 1 with
     |false=>simp[hb]at h
     |true =>
      have:=Bne hb;subst this;simp only[hb,Bna]at h;obtain⟨e,he1,h⟩:=Bor.1 h;have hp:(l.map u'.ds)[i]? = some (u'.ds e):=by rw[Bni,he1];rfl
      split at h
      ·rename_i v hv;refine⟨_,h,⟨Ea hx,⟨rfl,rfl,rfl,fun X hX=>?_⟩,fun _ _ _ h=>h⟩⟩;refine Y4 ho (.one _ none _ hT ((hX k Bnm).trans M1) ?_);rw[Bni,A9t _ Jq i fo (u'.ds e) v.d hp (by rw[← Ty.N7,Hj,Bni,hv];rfl)];rfl
      ·cases h
   ·cases h
  ·cases h
 ·rename_i k off agg sz hx ht;have hT:=Uw ht;split at h
  ·rename_i cs ty hk;have M1:=Aui hk;cases agg with
   |true =>
    simp only[Bna]at h;cases hb:Nat.ble (off+sz) cs.length with
    |false=>simp[hb]at h
    |true =>simp only[hb,Bna]at h;refine⟨_,h,⟨Ea hx,⟨rfl,rfl,rfl,fun X hX=>?_⟩,fun _ _ _ h=>h⟩⟩;refine Y4 ho (.agg sz (Ae cs) ty _ hT ((hX k Bnm).trans M1) (by rw[Aq];exact Bnu hb) ?_);rw[Aps,Aco,Acp]
   |false =>
    simp only[Bnc]at h;cases hb:Nat.beq sz 1 with
    |false=>simp[hb]at h
    |true =>
     have:=Bne hb;subst this;simp only[hb,Bna]at h;split at h
     ·rename_i v hv;refine⟨_,h,⟨Ea hx,⟨rfl,rfl,rfl,fun X hX=>?_⟩,fun _ _ _ h=>h⟩⟩;exact Y4 ho (.one (Ae cs) ty _ hT ((hX k Bnm).trans M1) (by rw[M5,hv];rfl))
     ·cases h
  ·cases h
 ·rename_i ty l agg sz hx ht;have hT:=Uw ht;cases agg with
  |false=>simp at h
  |true =>
   simp only[Bna]at h;cases hb:Nat.beq (l.length*ty.size) sz with
   |false=>simp[hb]at h
   |true =>
    simp only[hb,Bna]at h;have e:=Bne hb;refine⟨_,h,Ag (Ea hx) fun X=>?_⟩;have hlen:((l.map ty.ds).flatten).length=l.length*ty.size:=by
     rw[List.length_flatten,Bq6];have:(List.length∘ty.ds)=fun _=>ty.size:=by funext y;exact ty.Df y
     rw[this];simp[List.map_const']
    have:=Aeo (P:=P) (X:=X) (cs:=(l.map ty.ds).flatten) ho hT (by omega) trivial;rw[Bpg (by omega)]at this;exact this
 ·rename_i cs agg sz hx ht;have hT:=Uw ht;cases agg with
  |true =>
   simp only[Bna]at h;cases hb:Nat.ble sz cs.length with
   |false=>simp[hb]at h
   |true =>simp only[hb,Bna]at h;refine⟨_,h,Ag (Ea hx) fun X=>?_⟩;have:=Aeo (P:=P) (X:=X) (cs:=Dm cs) ho hT (by rw[Gv];exact Bnu hb) trivial;rw[← A5g]at this;exact this
  |false =>
   simp only[Bnc]at h;cases hb:Nat.beq sz 1 with
   |false=>simp[hb]at h
   |true =>
    have:=Bne hb;subst this;simp only[hb,Bna]at h;split at h
    ·exact⟨_,h,Ag (Ea hx) fun X=>Aep ho hT⟩
    ·cases h
 ·cases h
def B8k:XV→Bool
 |.d (.v u)=>u.oneCell'
 |.d (.agg _)=>false
 |.d (.ag _ _)=>false
 |.Er _=>false
 |.agg _=>false
 |_=>true
def Bg9{x:XV}(h:B8k x=true):Atl x.a=true:=by
 cases x with
 |d x=>cases x<;>first|rfl|(simp[B8k]at h;done)|exact h|(rename_i b;cases b<;>rfl)
 |_=>first|rfl|(simp[B8k]at h)
def Aa5:A6 XV→Bool
 |[]=>true
 |x::r=>cond (B8k x) (Aa5 r) false
theorem Agw:∀ {l:A6 XV},Aa5 l=true→(Ae l).all Atl=true
 |[],_=>rfl
 |x::r,h=>by
  simp only[Aa5]at h;cases hx:B8k x with
  |false=>simp[hx]at h
  |true =>simp only[hx,Bna]at h;simp only[Ae,Btv,Bg9 hx,Agw h,Bpe]
def T8:XV→Bool
 |.d (.v (.agg _))=>false
 |_=>true
def A5i{x:XV}(h:T8 x=true):A6k x.a=true:=by
 cases x with
 |d x =>
  cases x with
  |v u=>cases u<;>first|rfl|(simp[T8]at h)
  |er b=>cases b<;>rfl
  |ic t k z=>cases z<;>rfl
  |_=>rfl
 |_=>rfl
def Aa6(cs:A6 XV)(off:Nat)(vs:A6 XV):A6 XV:=cs.take off++vs++cs.drop (off+vs.length)
def An4(cs:A6 XV)(off:Nat)(vs:A6 XV):Ae (Aa6 cs off vs)=Wb (Ae cs) off (Ae vs):=by simp[Aa6,Wb,Eg,Aco,Acp,Aq]
theorem A3h{sz:Nat}:∀(fs:A6 (A6 D)),(∀(i:Nat) cs,fs[i]? = some cs→cs.length=sz)→∀(p:Nat) (c:A6 D) (fo:Nat) (vs:A6 D),fs[p]? = some c→fo+vs.length≤sz →
  fs.flatten.take (p*sz+fo)++vs++fs.flatten.drop (p*sz+fo+vs.length)=(fs.set p (c.take fo++vs++c.drop (fo+vs.length))).flatten
 |[],_,p,c,fo,vs,hp,_=>by simp at hp
 |a::r,hs,p,c,fo,vs,hp,hle=>by
  have ha:=hs 0 a rfl;cases p with
  |zero =>simp only[Bre,Bnf]at hp;subst hp;simp only[Bph,Bqv,Bog,List.set_cons_zero];rw[Bsa (by omega),Bsb (by omega)];simp[Bqx]
  |succ p =>
   have ih:=A3h r (fun i cs hi=>hs (i+1) cs (by simpa using hi)) p c fo vs (by simpa using hp) hle;simp only[Bph,List.set_cons_succ];rw[← ih,Bpx];have e1:p*sz+sz+fo=a.length+(p*sz+fo):=by omega
   have e2:p*sz+sz+fo+vs.length=a.length+(p*sz+fo+vs.length):=by omega
   rw[e1,Btu,show a.length+(p*sz+fo)+vs.length=a.length+(p*sz+fo+vs.length) by omega,List.drop_length_add_append];simp[Bqx]
def HR.Bga{B:B8}{objs:A6 (Nat×Ob)}{o2:Ob}(h:HR nm B g w ⟨Ab.setObj k o1 objs,live⟩)(hle:∀b,Ce g w b o1→Ce g w b o2) :
  HR nm B g w ⟨Ab.setObj k o2 objs,live⟩:=by
 have hl:∀j o,(Ab.setObj k o2 objs).lookup j=some o→∃p,(Ab.setObj k o1 objs).lookup j=some p∧∀b,Ce g w b p→Ce g w b o:=by
  intro j o hj;rw[B5]at hj⊢;split at hj
  ·cases hj;rw[Bo3 ‹_›];exact⟨o1,rfl,hle⟩
  ·rw[Bnv ‹_›];exact⟨o,hj,fun _ h=>h⟩
 refine⟨?_,h.Iw,h.base,h.io,h.le,h.frame,?_,?_,?_,?_,h.live,h.Cq,?_,h.D0,h.D9,h.eta.same (Bno _) fun j o hj=>let ⟨p,hp,_⟩:=hl j o hj;⟨p,hp⟩⟩
 ·intro j hj;refine⟨(h.Cc j hj).1,?_⟩;have:=(h.Cc j hj).2;simp only[B5]at this⊢;split
  ·rfl
  ·rw[Bnv ‹_›]at this;exact this
 ·intro j o hj;obtain⟨p,hp,hq⟩:=hl j o hj;exact hq _ (h.objs j p hp)
 ·intro j o hj;obtain⟨p,hp,_⟩:=hl j o hj;exact h.Fi j p hp
 ·intro j j' o o' hj H7 he;obtain⟨p,hp,_⟩:=hl j o hj;obtain⟨q,hq,_⟩:=hl j' o' H7;exact h.C1 j j' p q hp hq he
 ·intro j o hj;obtain⟨p,hp,_⟩:=hl j o hj;exact h.Cf j p hp
 ·intro n b j o hn hj;obtain⟨p,hp,_⟩:=hl j o hj;exact h.Bz n b j p hn hp
theorem Ca.Bga{o:Oper}{rd:A6 (Operand×AV)}{X:Ad}{o2:Ob}(h:Ca P o rd X ⟨Ab.setObj k o1 X.objs,X.live⟩ [] res)(hle:∀g w b,Ce g w b o1→Ce g w b o2) :
  Ca P o rd X ⟨Ab.setObj k o2 X.objs,X.live⟩ [] res:=by
 intro nm G3 B g w a hr Bg next Q hn
 exact h nm G3 B g w a hr Bg next Q fun g' w' v h1 h2 h3=>hn g' w' v (HR.Bga h1 (hle g' w')) h2 h3
def Ce.Bcn{l l':A6 D}{ty:A7 TypeId}(h:Ce g w b (.cells (l.map .d) ty))(hle:Mk l l'):Ce g w b (.cells (l'.map .d) ty):=by
 cases h with
 |cells _ _ arr T h1 h2 h3 h4 =>refine .cells _ ty arr T h1 (by simpa[hle.length]using h2) ?_ h4;intro i x v hx hv;rw[Bni,Bnn]at hx;obtain⟨y,hy,rfl⟩:=hx;obtain⟨z,hz,hzy⟩:=hle.get hy;exact Z2.d hzy g w v (h3 i (.d z) v (by rw[Bni,hz];rfl) hv)
theorem Mk.A3h:∀(fs:A6 (A6 D)) (p:Nat) (c c':A6 D),Mk c c'→Mk (fs.set p c).flatten (fs.set p c').flatten
 |[],p,c,c',_=>by simpa using Mk.nil
 |a::r,0,c,c',h=>by simpa using h.append (.refl _)
 |a::r,p+1,c,c',h=>by simpa using(Mk.refl a).append (Mk.A3h r p c c' h)
def Apt(cs:A6 XD)(off:Nat)(vs:A6 XD):A6 XD:=cs.take off++vs++cs.drop (off+vs.length)
def Ayo(P:Program)(st:Ak)(t:TypeId)(x y:Operand)(K:Out→A7 R):A7 R :=
 match Bj st x,Bj st y,tyI P t with
 |some (.el k u i fo),some v,some (agg,sz) =>
  match lk k st.objs,A3g v.cells with
  |some (.arr u' l),some vs =>
   if h:u'.Jx u=true then
    cond (Nat.beq v.cells.length sz) (cond (Aa5 v.cells) (cond (T8 v) (cond (Nat.ble (fo+sz) u.size)
     (Option.bind ((Ty.Av h▸l:List u.T)[i]?) fun e=>match u.dec (Apt (u.enc e) fo vs) with
      |some (e',[])=>K ⟨.put k (.arr u ((Ty.Av h▸l:List u.T).set i e')),.d (.v undef),[(x,.el k u i fo),(y,v)],Mw k (.arr u ((Ty.Av h▸l:List u.T).set i e')) st.objs,st.live,[],[k]⟩
      |_=>none) none) none) none) none
   else none
  |_,_=>none
 |some (.nm k (.p off)),some v,some (agg,sz) =>
  match lk k st.objs with
  |some (.cells cs ty) =>
   cond (Nat.beq v.cells.length sz) (cond (Aa5 v.cells) (cond (T8 v) (cond (Nat.ble (off+sz) cs.length)
    (K ⟨.put k (.cells (Aa6 cs off v.cells) ty),.d (.v undef),[(x,.nm k (.p off)),(y,v)],Mw k (.cells (Aa6 cs off v.cells) ty) st.objs,st.live,[],[k]⟩) none) none) none) none
  |_=>none
 |_,_,_=>none
def B8l{a b:XV}(h:Bj st x=some a)(h':Bj st y=some b):∀p∈Bc [(x,a),(y,b)],Fc st.im p.1 p.2:=by
 intro p hp;simp only[Bc,Bnh,Bo8,Bnd,Boa,Bpa]at hp;rcases hp with rfl|rfl
 ·exact Ax h
 ·exact Ax h'
def B4d{o:Oper}{K:Out→A7 R}{r:R}(ho:o.op = .store t x y)(h:Ayo P st t x y K=some r):∃out,K out=some r∧Cr P o st out:=by
 unfold Ayo at h;split at h
 ·rename_i k u i fo v agg sz hx hy ht;have hT:=Uw ht;split at h
  ·rename_i u' l vs hk Qx;split at h
   ·rename_i he;have e0:=Ty.Av he;subst e0;cases h1:Nat.beq v.cells.length sz with
    |false=>simp[h1]at h
    |true =>
    cases h2:Aa5 v.cells with
    |false=>simp[h1,h2]at h
    |true =>
    cases h3:T8 v with
    |false=>simp[h1,h2,h3]at h
    |true =>
    cases h4:Nat.ble (fo+sz) u'.size with
    |false=>simp[h1,h2,h3,h4]at h
    |true =>
     simp only[h1,h2,h3,h4,Bna]at h;have e1:=Bne h1;have hle:=Bnu h4;obtain⟨e,he1,h⟩:=Bor.1 h;split at h
     ·rename_i e' Bgb;have M1:st.X.objs.lookup k=some (.cells ((l.map u'.ds).flatten.map .d) none):=by show(Aa st.objs).lookup k=_;exact Lc hk
      have Jq:=Aa4 u' l;have hp:(l.map u'.ds)[i]? = some (u'.ds e):=by rw[Bni,he1];rfl
      have hm:=An2 Qx;have hvl:vs.length=sz:=by rw[← e1,hm];simp
      have hca:v.a.cells=(Dm vs).map .d:=by rw[A5f,hm,An3]
      obtain⟨zs,hz,Bkz⟩:=u'.Wf Bgb;simp only[Dm,Bom]at hz;subst hz;refine⟨_,h,⟨B8l hx hy,⟨⟨Kc hk rfl rfl,rfl⟩,rfl,rfl,fun X hX=>?_⟩,fun j z hj hz=>?_⟩⟩
      ·have:=Atm (P:=P) (X:=X) (x:=x) (y:=y) (v:=v.a) (k:=k) (off:=i*u'.size+fo) (cs:=(l.map u'.ds).flatten.map .d) (ty:=none) ho hT (hX.trans M1)
        (by rw[hca];simp[Gv,hvl]) (by rw[A5f];exact Agw h2) (A5i h3) (Beq Jq hp (by rw[Ty.Df];exact hle))
       refine Ca.Bga this ?_;intro g w b My;have e2:Wb ((l.map u'.ds).flatten.map AV.d) (i*u'.size+fo) v.a.cells=((l.map u'.ds).set i (Dm (Apt (u'.enc e) fo vs))).flatten.map AV.d:=by rw[hca,Wb,← Br2,Bo1,← Brr,← Bo4,← Bo4,A3h _ Jq i (u'.ds e) fo (Dm vs) hp (by rw[Gv];omega)];simp only[Apt,Y9,A5g,A5h,Ty.N7,Gv]
       rw[e2]at My;have:=Ce.Bcn My (Mk.A3h (l.map u'.ds) i _ _ Bkz);show Ce g w b (.cells (((l.set i e').map u'.ds).flatten.map .d) none);rw[List.map_set];exact this
      ·rw[O9 _ _ _ _ (by simpa using hj)]at hz;exact hz
     ·cases h
   ·cases h
  ·cases h
 ·rename_i k off v agg sz hx hy ht;have hT:=Uw ht;split at h
  ·rename_i cs ty hk;cases h1:Nat.beq v.cells.length sz with
   |false=>simp[h1]at h
   |true =>
    cases h2:Aa5 v.cells with
    |false=>simp[h1,h2]at h
    |true =>
     cases h3:T8 v with
     |false=>simp[h1,h2,h3]at h
     |true =>
      cases h4:Nat.ble (off+sz) cs.length with
      |false=>simp[h1,h2,h3,h4]at h
      |true =>
       simp only[h1,h2,h3,h4,Bna]at h;have e1:=Bne h1;refine⟨_,h,⟨B8l hx hy,⟨⟨Kc hk rfl rfl,rfl⟩,rfl,rfl,fun X hX=>?_⟩,fun j z hj hz=>?_⟩⟩
       ·have hc:=A5f v;have:=Atm (P:=P) (X:=X) (x:=x) (y:=y) (v:=v.a) (cs:=Ae cs) (ty:=ty) ho hT (hX.trans (Aui hk)) (by rw[hc,Aq];exact e1) (by rw[hc];exact Agw h2)
         (A5i h3) (by rw[Aq];exact Bnu h4)
        rw[hc,← An4]at this;exact this
       ·rw[O9 _ _ _ _ (by simpa using hj)]at hz;exact hz
  ·cases h
 ·cases h
end
section
variable{P:Program}{R:Type}
def newName(o:Oper):A7 Nat :=
 match o.dst with
 |some d=>some (1000+d)
 |none=>none
def fresh(k:Nat)(st:Ak):Bool :=
 match lk k st.objs with
 |some _=>false
 |none=>J4 [k] st
def B8m(k:Nat)(st:Ak):Prop:=lk k st.objs=none∧Fw [k] st.objs=true
def Tj(h:fresh k st=true):B8m k st∧Br [k] st.X=true:=by
 unfold fresh at h;split at h
 ·cases h
 ·exact⟨⟨‹_›,h⟩,O8 h⟩
def Tk(h:B8m k st):st.X.objs.lookup k=none:=Bce h.1 h.2
def zeroOf(P:Program)(t:TypeId):A7 (A6 XV) :=
 match P.info? t with
 |some i=>match i.zero with
  |some z=>some (z.cells.toList.map fun v=>.d (A1b v))
  |none=>none
 |none=>none
theorem Ayp:∀(l:A6 Value),Wc (Ae (l.map fun v=>XV.d (A1b v))) l
 |[]=>.nil
 |v::r=>by
  simp only[Bnh,Ae,XV.a,A3d];exact .sc v (Ayp r)
def Auk{cs:A6 XV}(h:zeroOf P t=some cs):Atn P t (Ae cs):=by
 unfold zeroOf at h;split at h
 ·rename_i i hi;split at h
  ·rename_i z hz;cases h;exact⟨⟨i,z,hi,hz,Ayp _⟩⟩
  ·cases h
 ·cases h
def Ayq(P:Program)(st:Ak)(o:Oper)(t:TypeId)(K:Out→A7 R):A7 R :=
 match newName o,zeroOf P t with
 |some k,some cs=>cond (fresh k st) (K ⟨.new [(k,.cells cs (some t))],.nm k (.p 0),[],(k,.cells cs (some t))::st.objs,st.live,[k],[k]⟩) none
 |_,_=>none
def Eb{α:Type}{x:α}{l:A6 (Nat×α)}(h:j≠k):lk j ((k,x)::l)=lk j l:=by simp[G7,nbF (Bq5 h)]
def B4e{o:Oper}{K:Out→A7 R}{r:R}(ho:o.op = .alloc t)(h:Ayq P st o t K=some r):∃out,K out=some r∧Cr P o st out:=by
 unfold Ayq at h;split at h
 ·rename_i k cs hk hz;cases hf:fresh k st with
  |false=>simp[hf]at h
  |true =>
   simp only[hf,Bna]at h;obtain⟨h1,h2⟩:=Tj hf;refine⟨_,h,⟨by simp[Bc],?_,fun j z hj hz=>?_⟩⟩
   ·exact⟨⟨rfl,rfl⟩,Bc1 k ho (Auk hz) (Tk h1) h2⟩
   ·rw[Eb (by simpa using hj)]at hz;exact hz
 ·cases h
def Bgc(st:Ak)(o:Oper)(t:TypeId)(x:Operand)(K:Out→A7 R):A7 R :=
 match newName o,Bj st x with
 |some k,some v=>cond (fresh k st) (cond (C9 [k] (Ae v.cells)) (cond (T8 v)
   (K ⟨.new [(k,.cells v.cells (some t))],.nm k (.p 0),[(x,v)],(k,.cells v.cells (some t))::st.objs,st.live,[k],[k]⟩) none) none) none
 |_,_=>none
def Bco{o:Oper}{K:Out→A7 R}{r:R}(ho:o.op = .box t x)(h:Bgc st o t x K=some r):∃out,K out=some r∧Cr P o st out:=by
 unfold Bgc at h;split at h
 ·rename_i k v hk hv;cases hf:fresh k st with
  |false=>simp[hf]at h
  |true =>
   cases ha:C9 [k] (Ae v.cells) with
   |false=>simp[hf,ha]at h
   |true =>
    cases hn:T8 v with
    |false=>simp[hf,ha,hn]at h
    |true =>
     simp only[hf,ha,hn,Bna]at h;obtain⟨h1,h2⟩:=Tj hf;refine⟨_,h,⟨Ea hv,?_,fun j z hj hz=>?_⟩⟩
     ·have:=Bfg (P:=P) (X:=st.X) (x:=x) (v:=v.a) k ho (Tk h1) h2 (by rw[A5f];exact ha) (A5i hn);rw[A5f]at this;exact⟨⟨rfl,rfl⟩,this⟩
     ·rw[Eb (by simpa using hj)]at hz;exact hz
 ·cases h
def Ci(st:Ak):A6 Operand→A7 (A6 XV)
 |[]=>some []
 |x::r=>match Bj st x,Ci st r with
  |some v,some l=>some (v::l)
  |_,_=>none
theorem I3{st:Ak}:∀ {l:A6 Operand} {vs:A6 XV},Ci st l=some vs→vs.length=l.length
 |[],vs,h=>by simp[Ci]at h;subst h;rfl
 |x::r,vs,h=>by
  unfold Ci at h;split at h
  ·rename_i v l hv hl;cases h;simp[I3 hl]
  ·cases h
theorem Yc{st:Ak}:∀ {l:A6 Operand} {vs:A6 XV},Ci st l=some vs→∀p∈Bc (l.zip vs),Fc st.im p.1 p.2
 |[],vs,h=>by simp[Bc]
 |x::r,vs,h=>by
  unfold Ci at h;split at h
  ·rename_i v l hv hl;cases h;intro p hp;simp only[Bc,Bqe,Bnh,Bnd]at hp;rcases hp with rfl|hp
   ·exact Ax hv
   ·exact Yc hl p hp
  ·cases h
def Kd(l:A6 Operand)(vs:A6 XV):Bc (l.zip vs)=l.zip (Ae vs):=by
 induction l generalizing vs with
 |nil=>rfl
 |cons x r ih =>
  cases vs with
  |nil=>rfl
  |cons v vs=>simp only[Bc,Bqe,Bnh,Ae]at ih⊢;rw[ih]
def A5j(P:Program)(t:TypeId):A7 (A6 (Nat×Nat)) :=
 match P.underlying t with
 |some (.struct fs)=>Aa7 P fs.toList
 |_=>none
where
 Aa7 (P:Program):A6 Field→A7 (A6 (Nat×Nat))
 |[]=>some []
 |f::r=>match P.info? f.type,Aa7 P r with
  |some i,some l=>some ((f.offset,i.size)::l)
  |_,_=>none
theorem Aa8:∀ {fs:A6 Field} {pl:A6 (Nat×Nat)},A5j.Aa7 P fs=some pl→fs.map (fun f=>(f.offset,(P.info? f.type).map (·.size)))=pl.map fun p=>(p.1,some p.2)
 |[],pl,h=>by simp[A5j.Aa7]at h;subst h;rfl
 |f::r,pl,h=>by
  unfold A5j.Aa7 at h;split at h
  ·rename_i i l hi hl;cases h;simp[Aa8 hl,hi]
  ·cases h
def B4f{pl:A6 (Nat×Nat)}(h:A5j P t=some pl):B1i P t pl:=by
 unfold A5j at h;split at h
 ·rename_i fs hfs;exact⟨⟨fs,hfs,Aa8 h⟩⟩
 ·cases h
def An5(pl:A6 (Nat×Nat)):A6 XV→A6 (Nat×XV)→A7 (A6 XV)
 |cs,[]=>some cs
 |cs,p::r =>
  match pl[p.1]? with
  |none=>none
  |some (off,sz)=>cond (Nat.beq p.2.cells.length sz) (cond (Nat.ble (off+sz) cs.length) (An5 pl (Aa6 cs off p.2.cells) r) none) none
theorem Apu{pl:A6 (Nat×Nat)}:∀ {Bn3:A6 (Nat×XV)} {cs out:A6 XV},An5 pl cs Bn3=some out →
  Y5 (fun i=>pl[i]?) (Ae cs) (Bn3.map fun p=>(p.1,p.2.a))=some (Ae out)
 |[],cs,out,h=>by simp[An5]at h;subst h;rfl
 |p::r,cs,out,h=>by
  unfold An5 at h;split at h
  ·cases h
  ·rename_i off sz hp;cases h1:Nat.beq p.2.cells.length sz with
   |false=>simp[h1]at h
   |true =>
    cases h2:Nat.ble (off+sz) cs.length with
    |false=>simp[h1,h2]at h
    |true =>simp only[h1,h2,Bna]at h;have e1:=Bne h1;have e2:=Bnu h2;simp only[Bnh,Y5,hp,A5f,Aq];rw[Bo3 ⟨e1,by rw[e1];exact e2⟩,← An4];exact Apu h
def Sd:A6 XV→Bool
 |[]=>true
 |x::r=>cond (T8 x) (Sd r) false
theorem A3i:∀ {l:A6 XV},Sd l=true→(Ae l).all A6k=true
 |[],_=>rfl
 |x::r,h=>by
  simp only[Sd]at h;cases hx:T8 x with
  |false=>simp[hx]at h
  |true =>simp only[hx,Bna]at h;simp only[Ae,Btv,A5i hx,A3i h,Bpe]
def Ayr(P:Program)(st:Ak)(t:TypeId)(Bn3:Array (Nat×Operand))(K:Out→A7 R):A7 R :=
 match A5j P t,zeroOf P t,Ci st (Bn3.toList.map (·.2)) with
 |some pl,some zs,some vs =>
  cond (Sd vs) (match An5 pl zs ((Bn3.toList.map (·.1)).zip vs) with
   |some out=>K (Bu st (Auh out) ((Bn3.toList.map (·.2)).zip vs))
   |none=>none) none
 |_,_,_=>none
def Ber(l:A6 Nat)(vs:A6 XV):(l.zip vs).map (fun p=>(p.1,p.2.a))=l.zip (Ae vs):=by
 induction l generalizing vs with
 |nil=>rfl
 |cons x r ih=>cases vs with
  |nil=>rfl
  |cons v vs=>simp[Ae,ih]
variable{Bn3:Array (Nat×Operand)}
def B4g{o:Oper}{K:Out→A7 R}{r:R}(ho:o.op = .build t Bn3)(h:Ayr P st t Bn3 K=some r):∃out,K out=some r∧Cr P o st out:=by
 unfold Ayr at h;split at h
 ·rename_i pl zs vs hpl hz Qx;cases hn:Sd vs with
  |false=>simp[hn]at h
  |true =>
   simp only[hn,Bna]at h;split at h
   ·rename_i out Agf;refine⟨_,h,Ag (Yc Qx) fun X=>?_⟩;have hl:=I3 Qx;have hf:=Apu Agf;rw[Ber]at hf;have:=B7f (P:=P) (X:=X) (xs:=Ae vs) ho (B4f hpl) (Auk hz) (by rw[Aq,hl];simp) (A3i hn) hf;rw[Kd,Aps];exact this
   ·cases h
 ·cases h
def Aul(P:Program):Nat→TypeId→A7 Ty
 |0,_=>none
 |d+1,t =>
  match P.underlying t with
  |some (.int .u8)=>some .u8
  |some (.int k)=>some (.int k)
  |some .bool=>some .bool
  |some .string=>some .str
  |some (.slice e)=>match Aul P d e with
   |some a=>some (.sl a)
   |none=>none
  |some (.struct fs)=>match Bih P (Aul P d) fs.toList with
   |some []=>some .unit
   |some [a]=>some (.st1 a)
   |some (a::b::r)=>some (.pair a (B1u b r))
   |none=>none
  |some (.array n e)=>match Aul P d e with
   |some a=>match n with
    |0=>some .unit
    |1=>some (.st1 a)
    |n+2=>some (Bii a (n+1))
   |none=>none
  |_=>none
where
 Bih (P:Program) (rec:TypeId→A7 Ty):A6 Field→A7 (A6 Ty)
 |[]=>some []
 |f::r=>match rec f.type,Bih P rec r with
  |some a,some l=>some (a::l)
  |_,_=>none
 B1u:Ty→A6 Ty→Ty
 |a,[]=>a
 |a,b::r=>.pair a (B1u b r)
 Bii (a:Ty):Nat→Ty
 |0=>a
 |n+1=>.pair a (Bii a n)
def A7x(t:Ty):A6 XV→A7 (List t.T)
 |[]=>some []
 |.d x::r=>match t.A38 x,A7x t r with
  |some y,some l=>some (y::l)
  |_,_=>none
 |.Cv n u l ty::r=>match t.A38 (.sl u l),A7x t r with
  |some y,some l=>some (y::l)
  |_,_=>none
 |_::_=>none
def A1c:Nat→A6 Nat→Bool
 |_,[]=>true
 |k,j::r=>cond (Nat.beq j k) (A1c (k+1) r) false
theorem A7y:∀ {k:Nat} {l:A6 Nat},A1c k l=true→l=List.range' k l.length
 |_,[],_=>rfl
 |k,j::r,h=>by
  simp only[A1c]at h;cases hj:Nat.beq j k with
  |false=>simp[hj]at h
  |true =>simp only[hj,Bna]at h;have:=Bne hj;subst this;simp only[Bnx,Bs0];rw[← A7y h]
def Aa9(t:Ty)(st:Ak):A6 Operand→List t.T→Prop
 |[],[]=>True
 |x::r,y::l=>Fc st.im x (.d (t.dv y))∧Aa9 t st r l
 |_,_=>False
theorem Yd{t:Ty}{st:Ak}:∀ {ops:A6 Operand} {vs:A6 XV} {l:List t.T},Ci st ops=some vs→A7x t vs=some l→Aa9 t st ops l
 |[],vs,l,h,h'=>by
  simp[Ci]at h;subst h;simp[A7x]at h';subst h';trivial
 |x::r,vs,l,h,h'=>by
  unfold Ci at h;split at h
  ·rename_i v vs' hv Qx;cases h;unfold A7x at h';split at h'
   ·rename_i heq;cases heq
   ·rename_i heq;cases heq;split at h'
    ·rename_i y l' hy hl;cases h';exact⟨Apn hv (t.O4 hy),Yd Qx hl⟩
    ·cases h'
   ·rename_i heq;cases heq;split at h'
    ·rename_i y l' hy hl;cases h';refine⟨Aa1 (a:=.sl _ _) (by simp[xd,hv,XV.asD]) (t.O4 hy),Yd Qx hl⟩
    ·cases h'
   ·cases h'
  ·cases h
theorem A1d{t:Ty}{st:Ak}:∀ {ops:A6 Operand} {l:List t.T},Aa9 t st ops l→ops.length=l.length
 |[],[],_=>rfl
 |x::r,y::l,h=>by simp[A1d h.2]
 |[],_::_,h=>h.elim
 |_::_,[],h=>h.elim
theorem Z3{t:Ty}{st:Ak}:∀ {ops:A6 Operand} {l:List t.T},Aa9 t st ops l→∀p∈ops.zip (l.map fun y=>AV.d (t.dv y)),Fc st.im p.1 p.2
 |[],[],_=>by simp
 |x::r,y::l,h=>by
  intro p hp;simp only[Bnh,Bqe,Bnd]at hp;rcases hp with rfl|hp
  ·exact h.1
  ·exact Z3 h.2 p hp
 |[],_::_,h=>h.elim
 |_::_,[],h=>h.elim
def Aaa(t:Ty)(x:t.T):(t.dv x).cells=t.ds x:=by
 cases h:t.agg with
 |true=>rw[t.A19 x h];rfl
 |false =>rw[t.A1a x h];cases t<;>simp[Ty.agg]at h<;>first|rfl|(change Bool at x;cases x<;>rfl)|(rename_i a b;change A7 Int at x;cases x<;>rfl)
def B1v(t:Ty)(x:t.T):A6k (.d (t.dv x))=true:=by cases t<;>first|rfl|(change Bool at x;cases x<;>rfl)|(rename_i a b;change A7 Int at x;cases x<;>rfl)
def Ai2(t:Ty):A6 Operand→List t.T→A6 (Operand×XV)
 |x::r,y::l=>(x,.d (t.xv y))::Ai2 t r l
 |_,_=>[]
theorem Aab(t:Ty):∀(ops:A6 Operand) (l:List t.T),Bc (Ai2 t ops l)=ops.zip (l.map fun y=>AV.d (t.dv y))
 |[],l=>by simp[Ai2,Bc]
 |x::r,[]=>by simp[Ai2,Bc]
 |x::r,y::l=>by
  have:=Aab t r l;simp only[Bc]at this;simp only[Ai2,Bc,Bnh,Bqe,this];rfl
def A3j(P:Program)(st:Ak)(t:TypeId)(n:Nat)(Bn3:Array (Nat×Operand))(K:Out→A7 R):A7 R :=
 match Gb P t with
 |some (e,sz,bytes) =>
  match Aul P 9 e,Ci st (Bn3.toList.map (·.2)) with
  |some ty,some vs =>
   match A7x ty vs with
   |some l=>cond (Nat.beq ty.size sz) (cond (Nat.beq vs.length n) (cond (A1c 0 (Bn3.toList.map (·.1))) (cond (Nat.ble (n*sz) 16777216)
     (K (Bu st (.d (.sl ty l)) (Ai2 ty (Bn3.toList.map (·.2)) l))) none) none) none) none
   |none=>none
  |_,_=>none
 |none=>none
def Ai3{o:Oper}{K:Out→A7 R}{r:R}(ho:o.op = .buildSlice t n Bn3)(h:A3j P st t n Bn3 K=some r):∃out,K out=some r∧Cr P o st out:=by
 unfold A3j at h;split at h
 ·rename_i e sz bytes hsl;split at h
  ·rename_i ty vs hty Qx;split at h
   ·rename_i l hl;cases h1:Nat.beq ty.size sz with
    |false=>simp[h1]at h
    |true =>
    cases h2:Nat.beq vs.length n with
    |false=>simp[h1,h2]at h
    |true =>
    cases h3:A1c 0 (Bn3.toList.map (·.1)) with
    |false=>simp[h1,h2,h3]at h
    |true =>
    cases h4:Nat.ble (n*sz) 16777216 with
    |false=>simp[h1,h2,h3,h4]at h
    |true =>
     simp only[h1,h2,h3,h4,Bna]at h;have e1:=Bne h1;have e2:=Bne h2;have hto:=Yd Qx hl;have hlen:=A1d hto;have hvl:=I3 Qx;refine⟨_,h,Ag (by rw[Aab];exact Z3 hto) fun X=>?_⟩;have:=Apb (P:=P) (X:=X) (xs:=l.map ty.dv) ho (Cs hsl) (by simp;omega) (by
      rw[A7y h3,Bsi];congr 1;simp at hvl hlen⊢;omega) (by
      rw[Bok];intro x hx;obtain⟨y,_,rfl⟩:=Bnp.1 hx;simp only[B1v,Aaa,Ty.Df,e1,Bqb,Bt5]) (Bnu h4)
     rw[Aab];simp only[Bq6]at this;have e3:(List.map (D.cells∘ty.dv) l)=l.map ty.ds:=by apply Btm;intro y _;exact Aaa ty y
     rw[e3]at this;show Ca P o _ X X [] (.d (.sl ty.size (l.map ty.ds)));rw[e1];exact this
   ·cases h
  ·cases h
 ·cases h
end
section
variable{P:Program}{R:Type}
def A7z(P:Program)(st:Ak)(s:TypeId)(x:Operand)(n:Nat)(K:Out→A7 R):A7 R :=
 match Bj st x,Apo P s n with
 |some (.nm k (.p off)),some (fo,_,_)=>K (Bu st (.nm k (.p (off+fo))) [(x,.nm k (.p off))])
 |some (.el k t i o),some (fo,_,_)=>K (Bu st (.el k t i (o+fo)) [(x,.el k t i o)])
 |some (.d (.ep cs)),some (fo,_,_)=>cond (Nat.ble fo cs.length) (K (Bu st (.d (.ep (cs.drop fo))) [(x,.d (.ep cs))])) none
 |_,_=>none
def Alw{o:Oper}{K:Out→A7 R}{r:R}(ho:o.op = .fieldAddr s x n)(h:A7z P st s x n K=some r):∃out,K out=some r∧Cr P o st out:=by
 unfold A7z at h;split at h
 ·rename_i k off fo sz ag hx hf;exact⟨_,h,Ag (Ea hx) fun X=>Zq ho (A3f hf)⟩
 ·rename_i k t i o' fo sz ag hx hf;refine⟨_,h,Ag (Ea hx) fun X=>?_⟩;have:=Zq (P:=P) (X:=X) (k:=k) (off:=i*t.size+o') ho (A3f hf);rw[Bqa]at this;exact this
 ·rename_i cs fo sz ag hx hf;cases hb:Nat.ble fo cs.length with
  |false=>simp[hb]at h
  |true =>simp only[hb,Bna]at h;refine⟨_,h,Ag (Ea hx) fun X=>?_⟩;have:=Aga (P:=P) (X:=X) (cs:=Dm cs) ho (A3f hf) (by rw[Gv];exact Bnu hb);rw[← A5h]at this;exact this
 ·cases h
def Ays(P:Program)(st:Ak)(s:TypeId)(x:Operand)(n:Nat)(K:Out→A7 R):A7 R :=
 match Bj st x,Apo P s n with
 |some (.d (.agg cs)),some (fo,sz,true)=>cond (Nat.ble (fo+sz) cs.length) (K (Bu st (.d (.agg ((cs.drop fo).take sz))) [(x,.d (.agg cs))])) none
 |some (.d (.agg cs)),some (fo,1,false)=>match cs[fo]? with
  |some c=>K (Bu st (.d c) [(x,.d (.agg cs))])
  |none=>none
 |_,_=>none
def B4h{o:Oper}{K:Out→A7 R}{r:R}(ho:o.op = .field s x n)(h:Ays P st s x n K=some r):∃out,K out=some r∧Cr P o st out:=by
 unfold Ays at h;split at h
 ·rename_i cs fo sz hx hf;cases hb:Nat.ble (fo+sz) cs.length with
  |false=>simp[hb]at h
  |true =>simp only[hb,Bna]at h;refine⟨_,h,Ag (Ea hx) fun X=>?_⟩;have:=Ap1 (P:=P) (X:=X) (cs:=Dm cs) ho (A3f hf) (by rw[Gv];exact Bnu hb);rw[← A5h,← A5g]at this;exact this
 ·rename_i cs fo hx hf;split at h
  ·rename_i c hc;exact⟨_,h,Ag (Ea hx) fun X=>Ap0 (cs:=Dm cs) ho (A3f hf) (by rw[Hj,Bni,hc];rfl)⟩
  ·cases h
 ·cases h
def Alx(st:Ak)(x:Operand):A7 Int :=
 match xd st x with
 |some (.i _ n)=>some n
 |some (.u8 b)=>some (b.toNat:Int)
 |_=>none
def Qm{n:Int}(h:Alx st x=some n):∃a k,xd st x=some a∧a.d = .int k n:=by
 unfold Alx at h;split at h
 ·rename_i k m ha;cases h;exact⟨_,k,ha,rfl⟩
 ·rename_i b ha;cases h;exact⟨_,.u8,ha,rfl⟩
 ·cases h
def inB(n:Int)(len:Nat):Bool:=decide (0≤n)&&decide (n<(len:Int))
def B1w{n:Int}(h:inB n len=true):0≤n∧n<(len:Int):=by simpa[inB]using h
def A1e(P:Program)(st:Ak)(t:TypeId)(x y:Operand)(K:Out→A7 R):A7 R :=
 match xd st x,xd st y,Alx st y,Gb P t with
 |some (.sl ty l),some b,some n,some (_,sz,_)=>cond (Nat.beq ty.size sz) (Option.bind (at? l n) fun e=>K (Bu st (.d (.ep (ty.enc e))) [(x,.d (.sl ty l)),(y,.d b)])) none
 |_,_,_,_=>none
def Apv{b:XD}(hx:Bj st x=some v)(hy:xd st y=some b):∀p∈Bc [(x,v),(y,.d b)],Fc st.im p.1 p.2:=by
 intro p hp;simp only[Bc,Bnh,Bo8,Bnd,Boa,Bpa]at hp;rcases hp with rfl|rfl
 ·exact Ax hx
 ·exact Aa2 hy
def Ai4(P:Program)(st:Ak)(t:TypeId)(x y:Operand)(k:Nat)(ty:Ty)(a len:Nat)(K:Out→A7 R):A7 R :=
 match xd st y,Alx st y,Gb P t with
 |some b,some n,some (_,sz,_)=>cond (Nat.beq ty.size sz) (cond (inB n len) (K (Bu st (.el k ty (a+n.toNat) 0) [(x,.os k ty a len),(y,.d b)])) none) none
 |_,_,_=>none
def Aum{o:Oper}{a:Nat}{K:Out→A7 R}{r:R}(ho:o.op = .indexAddr t x y)(hx:Bj st x=some (.os k ty a len))(h:Ai4 P st t x y k ty a len K=some r):∃out,K out=some r∧Cr P o st out:=by
 unfold Ai4 at h;split at h
 ·rename_i b n e0 sz by0 hy hn hsl;cases hb:Nat.beq ty.size sz with
  |false=>simp[hb]at h
  |true =>
  cases hc:inB n len with
  |false=>simp[hb,hc]at h
  |true =>simp only[hb,hc,Bna]at h;have e1:=Bne hb;subst e1;obtain⟨h0,h1⟩:=B1w hc;obtain⟨z,j,ha,had⟩:=Qm hn;rw[hy]at ha;cases ha;refine⟨_,h,Ag (Apv hx hy) fun X=>?_⟩;have:=Zu (P:=P) (X:=X) (x:=x) (y:=y) (j:=j) (i:=n) (k:=k) (off:=a*ty.size) (len:=len) ho (Cs hsl) h0 h1;show Ca P o [(x,.nm k (.s (a*ty.size) len ty.size)),(y,.d b.d)] X X [] (.nm k (.p ((a+n.toNat)*ty.size+0)));rw[had];rw[Br0,Bqh];exact this
 ·cases h
def A78{o:Oper}{K:Out→A7 R}{r:R}(ho:o.op = .indexAddr t x y)(h:A1e P st t x y K=some r):∃out,K out=some r∧Cr P o st out:=by
 unfold A1e at h;split at h
 ·rename_i ty l b n e0 sz by0 hx hy hn hsl;cases hb:Nat.beq ty.size sz with
  |false=>simp[hb]at h
  |true =>simp only[hb,Bna]at h;have e1:=Bne hb;obtain⟨e,he,hK⟩:=Bor.1 h;obtain⟨h0,h1⟩:=Aa3 he;obtain⟨a,k,ha,had⟩:=Qm hn;rw[hy]at ha;cases ha;refine⟨_,hK,Ag (Aud hx hy) fun X=>?_⟩;have:=Atu (P:=P) (X:=X) (x:=x) (y:=y) (k:=k) (i:=n) (es:=l.map ty.ds) (cs:=ty.ds e) ho (Cs hsl) h0 (by rw[Bni,h1];rfl);show Ca P o [(x,.d (.sl ty.size (l.map ty.ds))),(y,.d b.d)] X X [] (.d (.ep (Dm (ty.enc e))));rw[had,Ty.N7,e1];exact this
 ·cases h
def Apw(P:Program)(t:TypeId):A7 (TypeId×Nat×Nat) :=
 match P.underlying t with
 |some (.array n e)=>match P.info? e with
  |some i=>some (e,n,i.size)
  |none=>none
 |_=>none
def Aun{t e:Nat}(h:Apw P t=some (e,n,sz)):Bfw P t e n sz:=by
 unfold Apw at h;split at h
 ·rename_i n' e' ht;split at h
  ·rename_i i hi;cases h;exact⟨ht,i,hi,rfl⟩
  ·cases h
 ·cases h
def Acq(P:Program)(st:Ak)(t:TypeId)(x y:Operand)(ty:Ty)(l:List ty.T)(K:Out→A7 R):A7 R :=
 match xd st y,Alx st y,Apw P t with
 |some b,some n,some (_,m,sz)=>cond (Nat.beq ty.size sz) (cond (Nat.ble l.length m) (Option.bind (at? l n) fun e=>K (Bu st (.d (.ep (ty.enc e))) [(x,.d (.pa ty l)),(y,.d b)])) none) none
 |_,_,_=>none
def Apx{o:Oper}{l:List ty.T}{K:Out→A7 R}{r:R}(ho:o.op = .indexAddr t x y)(hx:Bj st x=some (.d (.pa ty l)))(h:Acq P st t x y ty l K=some r):∃out,K out=some r∧Cr P o st out:=by
 unfold Acq at h;split at h
 ·rename_i b n e0 m sz hy hn har;cases hb:Nat.beq ty.size sz with
  |false=>simp[hb]at h
  |true =>
  cases hc:Nat.ble l.length m with
  |false=>simp[hb,hc]at h
  |true =>
   simp only[hb,hc,Bna]at h;have e1:=Bne hb;subst e1;obtain⟨e,he,hK⟩:=Bor.1 h;obtain⟨h0,h1⟩:=Aa3 he;obtain⟨a,k,ha,had⟩:=Qm hn;rw[hy]at ha;cases ha;refine⟨_,hK,Ag (Apv hx hy) fun X=>?_⟩;have:=Aci (P:=P) (X:=X) (x:=x) (y:=y) (k:=k) (i:=n) (es:=l.map ty.ds) (cs:=ty.ds e) ho (Aun har) (by
    intro i cs hc;rw[Bni,Bnn]at hc;obtain⟨z,_,rfl⟩:=hc;exact ty.Df z) (by simpa using Bnu hc) h0 (by rw[Bni,h1];rfl)
   show Ca P o [(x,.d (.ep (l.map ty.ds).flatten)),(y,.d b.d)] X X [] (.d (.ep (Dm (ty.enc e))));rw[had,Ty.N7];exact this
 ·cases h
def Acr(P:Program)(st:Ak)(t:TypeId)(x y:Operand)(k:Nat)(ty:Ty)(K:Out→A7 R):A7 R :=
 match xd st y,Alx st y,Apw P t with
 |some b,some n,some (_,m,sz)=>cond (Nat.beq ty.size sz) (cond (inB n m) (K (Bu st (.el k ty n.toNat 0) [(x,.nm k (.p 0)),(y,.d b)])) none) none
 |_,_,_=>none
def Apy{o:Oper}{K:Out→A7 R}{r:R}(ho:o.op = .indexAddr t x y)(hx:Bj st x=some (.nm k (.p 0)))(h:Acr P st t x y k ty K=some r):∃out,K out=some r∧Cr P o st out:=by
 unfold Acr at h;split at h
 ·rename_i b n e0 m sz hy hn har;cases hb:Nat.beq ty.size sz with
  |false=>simp[hb]at h
  |true =>
  cases hc:inB n m with
  |false=>simp[hb,hc]at h
  |true =>simp only[hb,hc,Bna]at h;have e1:=Bne hb;subst e1;obtain⟨h0,h1⟩:=B1w hc;obtain⟨z,j,ha,had⟩:=Qm hn;rw[hy]at ha;cases ha;refine⟨_,h,Ag (Apv hx hy) fun X=>?_⟩;have:=A9u (P:=P) (X:=X) (x:=x) (y:=y) (k:=j) (i:=n) (j:=k) ho (Aun har) h0 h1;show Ca P o [(x,.nm k (.p 0)),(y,.d b.d)] X X [] (.nm k (.p (n.toNat*ty.size+0)));rw[had];rw[Br0];exact this
 ·cases h
def Acs(P:Program)(st:Ak)(t:TypeId)(x y:Operand)(K:Out→A7 R):A7 R :=
 match Bj st x with
 |some (.os k ty a len)=>Ai4 P st t x y k ty a len K
 |some (.d (.pa ty l))=>Acq P st t x y ty l K
 |some (.nm k (.p 0))=>match lk k st.objs with
  |some (.arr ty _)=>Acr P st t x y k ty K
  |_=>A1e P st t x y K
 |_=>A1e P st t x y K
def Apz{o:Oper}{K:Out→A7 R}{r:R}(ho:o.op = .indexAddr t x y)(h:Acs P st t x y K=some r):∃out,K out=some r∧Cr P o st out:=by
 unfold Acs at h;split at h
 ·rename_i k ty a len hx;exact Aum ho hx h
 ·rename_i ty l hx;exact Apx ho hx h
 ·rename_i k hx;split at h
  ·exact Apy ho hx h
  ·exact A78 ho h
 ·exact A78 ho h
def Auo{o:Oper}{X:Ad}{k:IntKind}{i:Int}{ds:A6 D}{c:D}(ho:o.op = .index t x y)(ht:P.underlying t=some (.array n e))(he:TyI P e false 1)(h0:0≤i)(hn:i.toNat<n)(hc:ds[i.toNat]? = some c) :
  Ca P o [(x,.d (.agg ds)),(y,.d (.int k i))] X X [] (.d c) :=
 .quiet fun _ _ g w ac hr Bg=>by
  have h1:=Lz Bg;have h2:=(rd1 Bg).Be;simp only at h1 h2;generalize hv:ac.eval x=v at h1;cases h1 with
  |d _ _ h1 =>
   cases h1 with
   |agg _ vs hl Tg =>
    obtain⟨u,hu⟩:∃u,vs[i.toNat]? = some u:=⟨_,Bob (by have:=(Bnj.1 hc).1;omega)⟩;refine⟨u,?_,.d _ _ (Tg _ _ _ hc hu)⟩;obtain⟨⟨d,hd,hd2⟩,ii,hi,Jq⟩:=he;have Md:i<(n:Int):=by omega
    have hp:(part e vs i.toNat).run P w = .ok u w:=by
     have:=Wk (P:=P) (t:=e) (agg:=false) (sz:=1) ⟨⟨d,hd,hd2⟩,ii,hi,Jq⟩ vs i.toNat w (fun _=>⟨by have:=(Bny.1 hu).1;exact this,by omega⟩);rw[this];obtain⟨By,rfl⟩:=Bny.1 hu;congr 1;show(vs.extract i.toNat (i.toNat+1)).getD 0 undef=_;have h5:0<(vs.extract i.toNat (i.toNat+1)).size:=by simp;omega
     rw[Array.getD,Bud h5];simp
    simp only[execOp,ho,hv,h2];simp only[Instr.index,asIntOf];simp[Bns ht,h0,Md,sizeOf,typeInfo,hi,Jq,hp]
def Ayt(P:Program)(st:Ak)(t:TypeId)(x y:Operand)(K:Out→A7 R):A7 R :=
 match xd st x,xd st y,Alx st y,P.underlying t with
 |some (.s l),some b,some n,some .string=>Option.bind (at? l n) fun c=>K (Bu st (.d (.u8 c)) [(x,.d (.s l)),(y,.d b)])
 |_,_,_,_=>none
def B4i{o:Oper}{K:Out→A7 R}{r:R}(ho:o.op = .index t x y)(h:Ayt P st t x y K=some r):∃out,K out=some r∧Cr P o st out:=by
 unfold Ayt at h;split at h
 ·rename_i l b n hx hy hn ht;obtain⟨c,hc,hK⟩:=Bor.1 h;obtain⟨h0,h1⟩:=Aa3 hc;obtain⟨a,k,ha,had⟩:=Qm hn;rw[hy]at ha;cases ha;refine⟨_,hK,Ag (Aud hx hy) fun X=>?_⟩;have By:n.toNat<l.length:=(Bnj.1 h1).1;have:=Ayf (P:=P) (X:=X) (x:=x) (y:=y) (k:=k) (i:=n) (l:=l) ho ht h0 (by omega);show Ca P o [(x,.d (.bs l)),(y,.d b.d)] X X [] (.d (.sc (.int .u8 (c.toNat:Int))));rw[had];rw[Bqu,h1]at this;exact this
 ·cases h
def Aq0(P:Program)(st:Ak)(t:TypeId)(x y:Operand)(K:Out→A7 R):A7 R :=
 match Bj st x with
 |some (.d (.ag ty l))=>match xd st y,Alx st y,P.underlying t with
  |some b,some n,some (.array m e)=>match tyI P e with
   |some (agg,sz)=>cond agg none (cond (Nat.beq sz 1) (cond ty.agg none (cond (Nat.beq l.length m) (Option.bind (at? l n) fun z=>K (Bu st (.d (ty.xv z)) [(x,.d (.ag ty l)),(y,.d b)])) none)) none)
   |none=>none
  |_,_,_=>none
 |_=>Ayt P st t x y K
theorem Aup(ty:Ty)(h:ty.agg=false):∀(l:List ty.T),(l.map ty.ds).flatten=l.map ty.dv
 |[]=>rfl
 |x::r=>by rw[Bnh,Bph,Aup ty h r,ty.A1a x h];rfl
def Ayu{o:Oper}{K:Out→A7 R}{r:R}(ho:o.op = .index t x y)(h:Aq0 P st t x y K=some r):∃out,K out=some r∧Cr P o st out:=by
 unfold Aq0 at h;split at h
 ·rename_i ty l hx;split at h
  ·rename_i b n m e hy hn ht;split at h
   ·rename_i agg sz he;cases agg with
    |true=>simp at h
    |false =>
    cases h1:Nat.beq sz 1 with
    |false=>simp[h1]at h
    |true =>
    cases h2:ty.agg with
    |true=>simp[h1,h2]at h
    |false =>
    cases h3:Nat.beq l.length m with
    |false=>simp[h1,h2,h3]at h
    |true =>
     simp only[h1,h2,h3,Bna,Bnc]at h;obtain⟨z,hz,hK⟩:=Bor.1 h;obtain⟨h0,h4⟩:=Aa3 hz;obtain⟨a,k,ha,had⟩:=Qm hn;rw[hy]at ha;cases ha;have e1:=Bne h1;have e3:=Bne h3;subst e1;have hxd:xd st x=some (.ag ty l):=by unfold xd;rw[hx];rfl
     refine⟨_,hK,Ag (Aud hxd hy) fun X=>?_⟩;have By:n.toNat<l.length:=(Bnj.1 h4).1;have:=Auo (P:=P) (X:=X) (x:=x) (y:=y) (k:=k) (i:=n) (ds:=l.map ty.dv) (c:=ty.dv z) ho ht (Uw he) h0 (by omega) (by rw[Bni,h4];rfl);rw[← Aup ty h2,← had]at this;exact this
   ·cases h
  ·cases h
 ·exact B4i ho h
def Ew(lo hi:Int)(len:Nat):Bool:=decide (0≤lo)&&decide (lo≤hi)&&decide (hi≤(len:Int))
def Acu{lo hi:Int}(h:Ew lo hi len=true):0≤lo∧lo≤hi∧hi≤(len:Int):=by simp only[Ew,Boo,Bpk]at h;exact⟨h.1.1,h.1.2,h.2⟩
def A3k{α:Type}(lo hi:Int)(l:A6 α):A6 α:=(l.drop lo.toNat).take (hi.toNat-lo.toNat)
def Auq{o:Oper}{X:Ad}{es:A6 (A6 D)}{l:Int}{rd:A6 (Operand×AV)}{i:TypeInfo}(ho:o.op = .slice t x lo hi none)(ht:P.underlying t=some (.slice e))
  (Md:P.info? e=some i) (Jq:i.size=sz) (h0:0≤l) (h1:l≤h) (h2:h≤es.length)
  (hlo:match lo with|some y=>∃k,(y,AV.d (.int k l))∈rd|none=>l=0) (hhi:match hi with|some y=>∃k,(y,AV.d (.int k h))∈rd|none=>h=es.length) :
  Ca P o ((x,.d (.sl sz es))::rd) X X [] (.d (.sl sz (A3k l h es))) :=
 .quiet fun _ _ g w ac _ Bg=>by
  have h3:=Bg (x,.d (.sl sz es)) Bnm;simp only at h3;generalize hx:ac.eval x=v at h3;have key:∃a len cap,v = .slice a len cap∧len=es.length∧len≤cap∧RD g.γ w (.sl sz (A3k l h es)) (.slice (if cap=l.toNat then a else a.map (·.add (l.toNat*sz))) (h.toNat-l.toNat) (cap-l.toNat)):=by
   cases h3 with
   |d _ _ h3 =>
    cases h3 with
    |nil _ a cap hn =>
     have hl:l=0:=by simp at h2;omega
     have hh:h=0:=by simp at h2;omega
     subst hl;subst hh;refine⟨a,0,cap,rfl,rfl,Bq9 _,?_⟩;have:A3k 0 0 ([]:A6 (A6 D))=[]:=rfl;rw[this];simp only[Int.toNat_zero,Bpy,Bqv];cases a with
     |none=>simp only[Bro,ite_self];rw[hn rfl];exact .nil sz none 0 fun _=>rfl
     |some a=>simp only[Bol];split<;>exact .nil sz _ cap (by simp)
    |sl _ _ b off len cap hlen hγ Yw Bl0 hc =>
     refine⟨_,len,cap,rfl,hlen,by omega,?_⟩;have hln:(A3k l h es).length=h.toNat-l.toNat:=by simp[A3k];omega
     by_cases hz:h.toNat-l.toNat=0
     ·have:A3k l h es=[]:=Br3.1 (hln.trans hz);rw[this,hz];split
      ·exact .nil sz _ _ (by simp)
      ·exact .nil sz _ _ (by simp)
     ·have hne:¬cap=l.toNat:=by omega
      rw[Bnv hne];simp only[Bol,addr_add];refine .sl sz _ b (off+l.toNat*sz) _ _ (by rw[hln]) ?_ (by rw[hln];omega) ?_ ?_
      ·have:l.toNat+(A3k l h es).length≤es.length:=by rw[hln];omega
       have h6:=Bpn sz this;rw[Bqh]at h6;omega
      ·intro i cs Tg;simp only[A3k,Bow,Bp3]at Tg;split at Tg
       ·exact Bl0 _ cs Tg
       ·cases Tg
      ·intro i cs j c u Tg hj hu;simp only[A3k,Bow,Bp3]at Tg;split at Tg
       ·refine hc (l.toNat+i) cs j c u Tg hj ?_;rw[show off+(l.toNat+i)*sz+j=off+l.toNat*sz+i*sz+j by rw[Bqh];omega];exact hu
       ·cases Tg
  obtain⟨a,len,cap,rfl,hlen,Yw,Ahh⟩:=key;refine⟨_,?_,.d _ _ Ahh⟩;have hsa:∀lo hi,(Instr.sliceAt t (.slice a len cap) lo hi none).run P w=(Instr.slice t (.slice a len cap) lo hi none).run P w:=by intro lo hi;simp[Instr.sliceAt,Bns ht]
  simp only[execOp,ho,hx];have eh:∀y,hi=some y→∃k,ac.eval y = .int k h:=by intro y hy;subst hy;obtain⟨k,hk⟩:=hhi;exact⟨k,(Bg _ (Bnl _ hk)).Be⟩
  have el:∀y,lo=some y→∃k,ac.eval y = .int k l:=by intro y hy;subst hy;obtain⟨k,hk⟩:=hlo;exact⟨k,(Bg _ (Bnl _ hk)).Be⟩
  have bh:∀(y:Nat) (c:BoundsCode) (k:IntKind),h≤(y:Int)→(Instr.sliceBound (.int k h) y c).run P w = .ok h.toNat w:=by intro y c k hy;simp[Instr.sliceBound,asIntOf,show 0≤h by omega,hy]
  have bl:∀(y:Nat) (c:BoundsCode) (k:IntKind),l≤(y:Int)→(Instr.sliceBound (.int k l) y c).run P w = .ok l.toNat w:=by intro y c k hy;simp[Instr.sliceBound,asIntOf,h0,hy]
  have A2f:(sizeOf e).run P w = .ok sz w:=by rw[Ab.run_sizeOf Md,Jq]
  cases hi with
  |none =>
   simp only at hhi;subst hhi;have e5:((es.length:Nat):Int).toNat=len:=by omega
   cases lo with
   |none =>simp only at hlo;subst hlo;simp[hsa,Instr.slice,Instr.sliceBounds,Bns ht,A2f,← hlen]
   |some y =>obtain⟨k,hk⟩:=el y rfl;have b1:=bl len .sliceB k (by omega);simp[hsa,Instr.slice,Instr.sliceBounds,Bns ht,A2f,hk,b1,← hlen]
  |some y' =>
   obtain⟨k',M1⟩:=eh y' rfl;have b2:=bh cap .sliceAcap k' (by omega);cases lo with
   |none =>simp only at hlo;subst hlo;simp[hsa,Instr.slice,Instr.sliceBounds,Bns ht,A2f,M1,b2]
   |some y =>obtain⟨k,hk⟩:=el y rfl;have b1:=bl h.toNat .sliceB k (by omega);simp[hsa,Instr.slice,Instr.sliceBounds,Bns ht,A2f,hk,M1,b1,b2]
end
section
variable{P:Program}{R:Type}
def Tl(st:Ak)(d:Int):A7 Operand→A7 (Int×A6 (Operand×XV))
 |none=>some (d,[])
 |some y=>match xd st y,Alx st y with
  |some b,some n=>some (n,[(y,.d b)])
  |_,_=>none
def Me{d n:Int}{y:A7 Operand}{rd:A6 (Operand×XV)}(h:Tl st d y=some (n,rd)):(∀p∈Bc rd,Fc st.im p.1 p.2) ∧
  (match y with|some y=>∃k,(y,AV.d (.int k n))∈Bc rd|none=>n=d)∧(match y with|some y=>∃k,Bc rd=[(y,AV.d (.int k n))]|none=>rd=[]):=by
 cases y with
 |none=>cases h;exact⟨by simp[Bc],rfl,rfl⟩
 |some y =>
  unfold Tl at h;simp only at h;split at h
  ·rename_i b m hb hm;cases h;obtain⟨a,k,ha,had⟩:=Qm hm;rw[hb]at ha;cases ha;exact⟨A77 hb,⟨k,by simp[Bc,XV.a,had]⟩,⟨k,by simp[Bc,XV.a,had]⟩⟩
  ·cases h
def Ayv{α:Type}(lo hi:A7 Operand)(l h:Int)(xs:A6 α):A6 α :=
 match lo,hi with
 |none,none=>xs
 |some _,none=>xs.drop l.toNat
 |none,some _=>xs.take h.toNat
 |some _,some _=>A3k l h xs
def Bcp{α:Type}{l:Int}{xs:A6 α}(hlo:lo=none→l=0)(hhi:hi=none→h=xs.length)(h0:0≤l)(h2:h≤xs.length):Ayv lo hi l h xs=A3k l h xs:=by
 cases lo with
 |none =>
  have:=hlo rfl;subst this;cases hi with
  |none=>have:=hhi rfl;subst this;simp[Ayv,A3k]
  |some y=>simp[Ayv,A3k]
 |some x =>
  cases hi with
  |none=>have:=hhi rfl;subst this;simp only[Ayv,A3k,Bo6];rw[Bpg];simp
  |some y=>rfl
def Ayw(P:Program)(st:Ak)(t:TypeId)(x:Operand)(lo hi mx:A7 Operand)(K:Out→A7 R):A7 R :=
 match mx,xd st x with
 |none,some (.s s) =>
  match P.underlying t,Tl st 0 lo,Tl st s.length hi with
  |some .string,some (l,r1),some (h,r2)=>cond (Ew l h s.length) (K (Bu st (.d (.s (Ayv lo hi l h s))) ((x,.d (.s s))::(r1++r2)))) none
  |_,_,_=>none
 |none,some (.sl ty s) =>
  match Gb P t,Tl st 0 lo,Tl st s.length hi with
  |some (_,sz,_),some (l,r1),some (h,r2)=>cond (Nat.beq ty.size sz) (cond (Ew l h s.length) (K (Bu st (.d (.sl ty (Ayv lo hi l h s))) ((x,.d (.sl ty s))::(r1++r2)))) none) none
  |_,_,_=>none
 |_,_=>none
def Hs(a b:A6 (Operand×XV)):Bc (a++b)=Bc a++Bc b:=by simp[Bc]
def Aur{a:XD}(hx:xd st x=some a)(h1:∀p∈Bc r1,Fc st.im p.1 p.2)(h2:∀p∈Bc r2,Fc st.im p.1 p.2) :
  ∀p∈Bc ((x,.d a)::(r1++r2)),Fc st.im p.1 p.2:=by
 intro p hp;simp only[Bc,Bnh,Bo4,Bnd,Bnk]at hp;rcases hp with rfl|hp|hp
 ·exact Aa2 hx
 ·exact h1 p hp
 ·exact h2 p hp
def Agg{o:Oper}{X:Ad}{s:A6 UInt8}(ho:o.op = .slice t x none none none)(ht:P.underlying t=some .string) :
  Ca P o [(x,.d (.bs s))] X X [] (.d (.bs s)) :=
 .quiet fun _ _ g w ac _ Bg=>by
  have e1:=(Lz Bg).Be;simp only at e1;refine⟨_,?_,.Jz _ _ _⟩;simp only[execOp,ho,Bro,e1];simp[Bsv w t _ _ _ _ ht,Instr.slice,Bns ht,Instr.sliceBounds]
def B4j{o:Oper}{K:Out→A7 R}{r:R}(ho:o.op = .slice t x lo hi mx)(h:Ayw P st t x lo hi mx K=some r):∃out,K out=some r∧Cr P o st out:=by
 unfold Ayw at h;split at h
 ·rename_i s hx;split at h
  ·rename_i l r1 hh r2 ht hlo hhi;cases hc:Ew l hh s.length with
   |false=>simp[hc]at h
   |true =>
    simp only[hc,Bna]at h;obtain⟨c0,c1,c2⟩:=Acu hc;obtain⟨s1,m1,f1⟩:=Me hlo;obtain⟨s2,m2,f2⟩:=Me hhi;refine⟨_,h,Ag (Aur hx s1 s2) fun X=>?_⟩;cases lo with
    |none =>
     simp only at m1 f1;subst m1;subst f1;cases hi with
     |none =>simp only at m2 f2;subst m2;subst f2;exact Agg ho ht
     |some y =>obtain⟨k,hk⟩:=f2;have:=Alp (P:=P) (X:=X) (k:=k) ho ht c1 c2;simp only[Bou];show Ca P o ((x,.d (.bs s))::Bc r2) X X [] _;rw[hk];exact this
    |some y0 =>
     obtain⟨k0,hk0⟩:=f1;cases hi with
     |none =>simp only at m2 f2;subst m2;subst f2;have:=Alo (P:=P) (X:=X) (k:=k0) ho ht c0 c1;simp only[Bom];show Ca P o ((x,.d (.bs s))::Bc r1) X X [] _;rw[hk0];exact this
     |some y =>obtain⟨k,hk⟩:=f2;have:=Ayg (P:=P) (X:=X) (k:=k0) (k':=k) ho ht c0 c1 c2;show Ca P o ((x,.d (.bs s))::Bc (r1++r2)) X X [] _;rw[Hs,hk0,hk];exact this
  ·cases h
 ·rename_i ty s hx;split at h
  ·rename_i e sz by0 l r1 hh r2 ht hlo hhi;cases hb:Nat.beq ty.size sz with
   |false=>simp[hb]at h
   |true =>
   cases hc:Ew l hh s.length with
   |false=>simp[hb,hc]at h
   |true =>
    simp only[hb,hc,Bna]at h;have e1:=Bne hb;obtain⟨c0,c1,c2⟩:=Acu hc;obtain⟨s1,m1,f1⟩:=Me hlo;obtain⟨s2,m2,f2⟩:=Me hhi;obtain⟨hu,i,z,Md,Hv,Iy,hz',Bl1⟩:=Cs ht;refine⟨_,h,Ag (Aur hx s1 s2) fun X=>?_⟩;have:=Auq (P:=P) (X:=X) (es:=s.map ty.ds) (rd:=Bc (r1++r2)) (l:=l) (h:=hh) ho hu Md Hv c0 c1 (by simpa using c2) (by
     cases lo with
     |none=>exact m1
     |some y=>obtain⟨k,hk⟩:=m1;exact⟨k,by rw[Hs];exact Bo0 _ hk⟩) (by
     cases hi with
     |none=>simpa using m2
     |some y=>obtain⟨k,hk⟩:=m2;exact⟨k,by rw[Hs];exact Bnz _ hk⟩)
    show Ca P o ((x,.d (.sl ty.size (s.map ty.ds)))::Bc (r1++r2)) X X [] (.d (.sl ty.size ((Ayv lo hi l hh s).map ty.ds)));rw[Bcp (by intro hl;subst hl;exact m1) (by intro hl;subst hl;exact m2) c0 c2];rw[e1];have e2:(A3k l hh s).map ty.ds=A3k l hh (s.map ty.ds):=by simp[A3k,Br2,Brr]
    rw[e2];exact this
  ·cases h
 ·cases h
def Bgd(P:Program)(st:Ak)(ts:Array TypeId)(x:Operand)(K:Out→A7 R):A7 R :=
 match ts[0]? with
 |some t =>
  match xd st x,P.underlying t with
  |some (.s l),some .string=>K (Bu st (.d (.i .i64 (l.length:Int))) [(x,.d (.s l))])
  |some (.sl ty l),some (.slice _)=>K (Bu st (.d (.i .i64 (l.length:Int))) [(x,.d (.sl ty l))])
  |some (.v (.slice none 0 0)),some (.slice _)=>match Gb P t with
   |some _=>K (Bu st (.d (.i .i64 0)) [(x,.d (.v (.slice none 0 0)))])
   |none=>none
  |_,_=>none
 |none=>none
variable{ts:Array TypeId}
def Bcq{o:Oper}{K:Out→A7 R}{r:R}(ho:o.op = .call { callee:=.builtin .len,args:=#[x],argTypes:=ts })(h:Bgd P st ts x K=some r):∃out,K out=some r∧Cr P o st out:=by
 unfold Bgd at h;split at h
 ·rename_i t ht0;split at h
  ·rename_i l hx ht;exact⟨_,h,Ag (A77 hx) fun X=>B7t ho ht0 ht⟩
  ·rename_i ty l e hx ht;refine⟨_,h,Ag (A77 hx) fun X=>?_⟩;have:=A9f (P:=P) (X:=X) (x:=x) (sz:=ty.size) (es:=l.map ty.ds) ho ht0 ht;rw[Bo1]at this;exact this
  ·rename_i e hx ht;split at h
   ·rename_i q hq;obtain⟨q1,q2,q3⟩:=q;exact⟨_,h,Ag (A77 hx) fun X=>Aye ho ht0 (Cs hq)⟩
   ·cases h
  ·cases h
 ·cases h
def Aq1(st:Ak)(Bij:Bool)(x y:Operand)(K:Out→A7 R):A7 R :=
 match xd st x,xd st y with
 |some (.i k a),some (.i k' b)=>cond (M4 k k') (K (Bu st (.d (.i k (cond Bij (if b<a then b else a) (if b>a then b else a)))) [(x,.d (.i k a)),(y,.d (.i k' b))])) none
 |_,_=>none
def Bcr{o:Oper}{K:Out→A7 R}{r:R}(ho:o.op = .call { callee:=.builtin .max,args:=#[x,y],argTypes:=ts })(h:Aq1 st false x y K=some r):∃out,K out=some r∧Cr P o st out:=by
 unfold Aq1 at h;split at h
 ·rename_i k a k' b hx hy;cases hk:M4 k k' with
  |false=>simp[hk]at h
  |true =>simp only[hk,Bna,Bnc]at h;have:=Hi hk;subst this;exact⟨_,h,Ag (Aud hx hy) fun X=>Bff ho⟩
 ·cases h
def Ayx(o:Oper):A7 Nat :=
 match o.dst with
 |some d=>some (100000+d)
 |none=>none
def Au(n bytes:Nat):Bool:=decide (n*bytes≤140737488355328)&&decide (n≤4611686018427387904)
def A5k{bytes:Nat}(h:Au n bytes=true):n*bytes≤140737488355328∧n≤4611686018427387904:=by simpa[Au]using h
def A58(n:Nat)(l:A6 Nat):A6 Nat:=l.filter (· != n)
def Z4(m:Nat)(live:A6 Nat)(st:Ak):Bool:=cond (inl m live) false (J4 [m] st)
def A5l(h:Z4 m live st=true):m∉live∧Br [m] st.X=true:=by
 unfold Z4 at h;cases hm:inl m live with
 |true=>simp[hm]at h
 |false =>simp only[hm,Bnc]at h;refine⟨fun hh=>?_,O8 h⟩;rw[(E7 m live).2 hh]at hm;cases hm
def B1x(ty:A7 TypeId)(e:TypeId):Bool :=
 match ty with
 |none=>true
 |some t=>Nat.beq t e
def B8n{ty:A7 TypeId}(h:B1x ty e=true):(ty==none||ty==some e)=true:=by
 cases ty with
 |none=>rfl
 |some t=>simp only[B1x]at h;rw[Bne h];simp
def Aq2(P:Program)(st:Ak)(o:Oper)(ts:Array TypeId)(s x:Operand)(K:Out→A7 R):A7 R :=
 match ts[0]?,ts[1]?,Ayx o with
 |some t,some u,some m =>
  match Gb P t,Gb P u,Bj st s,xd st x with
  |some (e,sz,bytes),some _,some (.Cv n ty l oty),some (.sl Xy l') =>
   if h:Xy.Jx ty=true then
    cond (Nat.beq ty.size sz) (cond (inl n st.live) (cond (Z4 m (A58 n st.live) st) (cond (B1x oty e)
     (cond (Au (l.length+l'.length) bytes) (K ⟨.lab,.Cv m ty (l++(Ty.Av h▸l':List ty.T)) oty,[(s,.Cv n ty l oty),(x,.d (.sl Xy l'))],st.objs,m::A58 n st.live,[m],[]⟩) none) none) none) none) none
   else none
  |some (e,sz,bytes),some _,some (.d (.v (.slice none 0 0))),some (.sl ty l) =>
   cond (Nat.beq ty.size sz) (cond (Z4 m st.live st)
     (cond (Au l.length bytes) (K ⟨.lab,.Cv m ty l (some e),[(s,.d (.v (.slice none 0 0))),(x,.d (.sl ty l))],st.objs,m::st.live,[m],[]⟩) none) none) none
  |_,_,_,_=>none
 |_,_,_=>none
def Ayy{o:Oper}{s:Operand}{K:Out→A7 R}{r:R}(ho:o.op = .call { callee:=.builtin .append,args:=#[s,x],argTypes:=ts })(h:Aq2 P st o ts s x K=some r):∃out,K out=some r∧Cr P o st out:=by
 unfold Aq2 at h;split at h
 ·rename_i t u m ht hu hm;split at h
  ·rename_i e sz bytes q n ty l oty Xy l' hsl hsu hs hx;split at h
   ·rename_i he;have e0:=Ty.Av he;subst e0;cases h1:Nat.beq Xy.size sz with
    |false=>simp[h1]at h
    |true =>
    cases h2:inl n st.live with
    |false=>simp[h1,h2]at h
    |true =>
    cases h3:Z4 m (A58 n st.live) st with
    |false=>simp[h1,h2,h3]at h
    |true =>
    cases h4:B1x oty e with
    |false=>simp[h1,h2,h3,h4]at h
    |true =>
    cases h5:Au (l.length+l'.length) bytes with
    |false=>simp[h1,h2,h3,h4,h5]at h
    |true =>
     simp only[h1,h2,h3,h4,h5,Bna]at h;have e1:=Bne h1;subst e1;obtain⟨f1,f2⟩:=A5l h3;obtain⟨b1,b2⟩:=A5k h5;obtain⟨q1,q2,q3⟩:=q;refine⟨_,h,⟨?_,?_,fun _ _ _ h=>h⟩⟩
     ·intro p hp;simp only[Bc,Bnh,Bo8,Bnd,Boa,Bpa]at hp;rcases hp with rfl|rfl
      ·exact Ax hs
      ·exact Aa2 hx
     ·have:=Atw (P:=P) (X:=st.X) (s:=s) (x:=x) (n:=n) (es:=l.map Xy.ds) (fs:=l'.map Xy.ds) (ty:=oty) m ho ht hu (Cs hsu) (Cs hsl) ((E7 _ _).1 h2) f1 f2
       (by intro cs Tg c hc;obtain⟨y,_,rfl⟩:=Bnp.1 Tg;exact Xy.Z1 y c hc) (by simpa using b1) (by simpa using b2) (B8n h4)
      rw[← Bo4]at this;exact⟨rfl,this⟩
   ·cases h
  ·rename_i e sz bytes q ty l hsl hsu hs hx;cases h1:Nat.beq ty.size sz with
   |false=>simp[h1]at h
   |true =>
   cases h3:Z4 m st.live st with
   |false=>simp[h1,h3]at h
   |true =>
   cases h5:Au l.length bytes with
   |false=>simp[h1,h3,h5]at h
   |true =>
    simp only[h1,h3,h5,Bna]at h;have e1:=Bne h1;subst e1;obtain⟨f1,f2⟩:=A5l h3;obtain⟨b1,b2⟩:=A5k h5;obtain⟨q1,q2,q3⟩:=q;refine⟨_,h,⟨?_,?_,fun _ _ _ h=>h⟩⟩
    ·intro p hp;simp only[Bc,Bnh,Bo8,Bnd,Boa,Bpa]at hp;rcases hp with rfl|rfl
     ·exact Ax hs
     ·exact Aa2 hx
    ·have := Apg (P := P) (X := st.X) (s := s) (x := x) (fs := l.map ty.ds) (ty := some e) m ho ht hu (Cs hsu) (Cs hsl) f1 f2
       (by intro cs Tg c hc;obtain⟨y,_,rfl⟩:=Bnp.1 Tg;exact ty.Z1 y c hc) (by simpa using b1) (by simpa using b2) (by simp)
     exact⟨rfl,this⟩
  ·cases h
 ·cases h
end
section
variable{P:Program}{R:Type}
def B4k(hx:Bj st x=some v)(h1:∀p∈Bc r1,Fc st.im p.1 p.2)(h2:∀p∈Bc r2,Fc st.im p.1 p.2) :
  ∀p∈Bc ((x,v)::(r1++r2)),Fc st.im p.1 p.2:=by
 intro p hp;simp only[Bc,Bnh,Bo4,Bnd,Bnk]at hp;rcases hp with rfl|hp|hp
 ·exact Ax hx
 ·exact h1 p hp
 ·exact h2 p hp
def Ai5(P:Program)(st:Ak)(t:TypeId)(x:Operand)(lo hi:A7 Operand)(k:Nat)(ty:Ty)(a len:Nat)(K:Out→A7 R):A7 R :=
 match Gb P t,Tl st 0 lo,Tl st len hi with
 |some (_,sz,_),some (l,r1),some (h,r2)=>cond (Nat.beq ty.size sz) (cond (Ew l h len) (K (Bu st (.os k ty (a+l.toNat) (h.toNat-l.toNat)) ((x,.os k ty a len)::(r1++r2)))) none) none
 |_,_,_=>none
def Aus{o:Oper}{a:Nat}{K:Out→A7 R}{r:R}(ho:o.op = .slice t x lo hi none)(hx:Bj st x=some (.os k ty a len))
  (h:Ai5 P st t x lo hi k ty a len K=some r):∃out,K out=some r∧Cr P o st out:=by
 unfold Ai5 at h;split at h
 ·rename_i e sz by0 l r1 hh r2 ht hlo hhi;cases hb:Nat.beq ty.size sz with
  |false=>simp[hb]at h
  |true =>
  cases hc:Ew l hh len with
  |false=>simp[hb,hc]at h
  |true =>
   simp only[hb,hc,Bna]at h;have e1:=Bne hb;subst e1;obtain⟨c0,c1,c2⟩:=Acu hc;obtain⟨s1,m1,f1⟩:=Me hlo;obtain⟨s2,m2,f2⟩:=Me hhi;obtain⟨hu,i,z,Md,Hv,Iy,hz',Bl1⟩:=Cs ht;refine⟨_,h,Ag (B4k hx s1 s2) fun X=>?_⟩;have:=Api (P:=P) (X:=X) (k:=k) (off:=a*ty.size) (len:=len) (rd:=Bc (r1++r2)) (l:=l) (h:=hh) ho hu Md Hv c0 c1 c2 (by
    cases lo with
    |none=>exact m1
    |some y=>obtain⟨j,hj⟩:=m1;exact⟨j,by rw[Hs];exact Bo0 _ hj⟩) (by
    cases hi with
    |none=>exact m2
    |some y=>obtain⟨j,hj⟩:=m2;exact⟨j,by rw[Hs];exact Bnz _ hj⟩)
   show Ca P o ((x,.nm k (.s (a*ty.size) len ty.size))::Bc (r1++r2)) X X [] (.nm k (.s ((a+l.toNat)*ty.size) (hh.toNat-l.toNat) ty.size));rw[Bqh];exact this
 ·cases h
def Acv(P:Program)(st:Ak)(t:TypeId)(x:Operand)(lo hi mx:A7 Operand)(K:Out→A7 R):A7 R :=
 match mx,Bj st x with
 |none,some (.os k ty a len)=>Ai5 P st t x lo hi k ty a len K
 |_,_=>Ayw P st t x lo hi mx K
def Aq3{o:Oper}{K:Out→A7 R}{r:R}(ho:o.op = .slice t x lo hi mx)(h:Acv P st t x lo hi mx K=some r):∃out,K out=some r∧Cr P o st out:=by
 unfold Acv at h;split at h
 ·rename_i k ty a len hx;exact Aus ho hx h
 ·exact B4j ho h
def Aq4(P:Program)(st:Ak)(ts:Array TypeId)(x:Operand)(K:Out→A7 R):A7 R :=
 match Bj st x with
 |some (.os k ty a len)=>match ts[0]? with
  |some t=>match P.underlying t with
   |some (.slice _)=>K (Bu st (.d (.i .i64 (len:Int))) [(x,.os k ty a len)])
   |_=>none
  |none=>none
 |_=>Bgd P st ts x K
variable{ts:Array TypeId}
def Ayz{o:Oper}{K:Out→A7 R}{r:R}(ho:o.op = .call { callee:=.builtin .len,args:=#[x],argTypes:=ts })(h:Aq4 P st ts x K=some r):∃out,K out=some r∧Cr P o st out:=by
 unfold Aq4 at h;split at h
 ·rename_i k ty a len hx;split at h
  ·rename_i t ht0;split at h
   ·rename_i e ht;exact⟨_,h,Ag (Ea hx) fun X=>Ahv ho ht0 ht⟩
   ·cases h
  ·cases h
 ·exact Bcq ho h
def E3(k:Nat):A6 (Nat×Af)→A6 (Nat×Af)
 |[]=>[]
 |p::r=>cond (Nat.beq p.1 k) (E3 k r) (p::E3 k r)
def J0(k:Nat):A6 (Nat×Af)→Bool
 |[]=>true
 |p::r=>cond p.2.plain (J0 k r) (cond (Nat.beq p.1 k) false (cond (Nat.ble H0 k) false (J0 k r)))
def Aut(k:Nat)(l:A6 (Nat×Af)):Cz (E3 k l)=(Cz l).filter (fun p=>p.1 != k):=by
 induction l with
 |nil=>rfl
 |cons p r ih =>
  simp only[E3];cases hb:Nat.beq p.1 k with
  |true =>have:=Bne hb;simp only[Bna,Cz,Bnh,Bq0,this,Bu3,Bon,Bpi]at ih⊢;exact ih
  |false =>
   have h1:(p.1 != k)=true:=by simpa using Bpv hb
   simp only[Bnc,Cz,Bnh,Bq0,h1,Bpz]at ih⊢;rw[ih]
theorem A80{k:Nat}:∀ {l:A6 (Nat×Af)},J0 k l=true→D4 (E3 k l)=(D4 l).filter (fun p=>p.1 != k)
 |[],_=>rfl
 |p::r,h=>by
  simp only[J0]at h;simp only[E3];cases hp:p.2.plain with
  |true =>
   simp only[hp,Bna]at h;have ih:=A80 h;cases hb:Nat.beq p.1 k with
   |true=>simp only[Bna,D4,Af.Hg hp,Bou];exact ih
   |false=>simp only[Bnc,D4,Af.Hg hp,Bou];exact ih
  |false =>
   simp only[hp,Bnc]at h;cases hb:Nat.beq p.1 k with
   |true=>simp[hb]at h
   |false =>
    simp only[hb,Bnc]at h;cases hk:Nat.ble H0 k with
    |true=>simp[hk]at h
    |false =>
     simp only[hk,Bnc]at h;have ih:=A80 h;have By:k<H0:=Nat.lt_of_not_le fun hle=>by rw[Bp0 hle]at hk;cases hk
     simp only[Bnc,D4,Bpm,ih];congr 1;symm;rw[List.filter_eq_self];intro q hq;have:=Af.O5 hq;have hne:q.1≠k:=by omega
     simpa using hne
def Tm(h:J0 k l=true):Aa (E3 k l)=(Aa l).filter (fun p=>p.1 != k):=by unfold Aa;rw[Aut,A80 h,Bpm]
theorem Tn{k:Nat}:∀ {l:A6 (Nat×Af)},Fw [k] l=true→J0 k l=true
 |[],_=>rfl
 |p::r,h=>by
  simp only[Fw]at h;have ih:=Tn (Aub h);simp only[J0,ih];cases hp:p.2 with
  |abs h' S ty x =>
   rw[hp]at h;simp only at h;cases hn:Nat.beq p.1 k with
   |true=>simp[Au7,B1q,Bne hn]at h
   |false =>
    have:Xz [k]=true:=by
     cases hl:Xz [k] with
     |true=>rfl
     |false=>simp[hl]at h
    have:=R6 this k (by simp);have hb:Nat.ble H0 k=false:=by
     cases hb:Nat.ble H0 k with
     |false=>rfl
     |true=>have:=Bnu hb;omega
    simp[Af.plain,hb]
  |_=>simp[Af.plain]
theorem Af0{k m:Nat}:∀ {l:A6 (Nat×Af)},J0 m l=true→J0 m (E3 k l)=true
 |[],_=>rfl
 |p::r,h=>by
  simp only[J0]at h;simp only[E3];have:J0 m r=true:=by
   cases hp:p.2.plain with
   |true=>simpa[hp]using h
   |false =>
    simp only[hp,Bnc]at h;cases hb:Nat.beq p.1 m with
    |true=>simp[hb]at h
    |false =>
     simp only[hb,Bnc]at h;cases hk:Nat.ble H0 m with
     |true=>simp[hk]at h
     |false=>simpa[hk]using h
  have ih:=Af0 (k:=k) this;cases hb:Nat.beq p.1 k with
  |true=>simpa using ih
  |false=>simp only[Bnc,J0,ih];simp only[this]at h;exact h
def Aac(m k:Nat)(st:Ak):Bool:=cond (J4 [m] st) (J0 k st.objs) false
def A3l(h:Aac m k st=true):J4 [m] st=true∧J0 k st.objs=true:=by
 unfold Aac at h;cases h1:J4 [m] st with
 |false=>simp[h1]at h
 |true=>exact⟨rfl,by simpa[h1]using h⟩
def Wl{x:Af}(h:lk j (E3 k l)=some x):lk j l=some x:=by
 induction l with
 |nil=>exact h
 |cons p r ih =>
  simp only[E3]at h;cases hb:Nat.beq p.1 k with
  |true =>
   simp only[hb,Bna]at h;have hj:j≠k:=by
    rintro rfl;have:∀(l:A6 (Nat×Af)),lk j (E3 j l)=none:=by
     intro l;induction l with
     |nil=>rfl
     |cons q s ih2 =>
      simp only[E3];cases hq:Nat.beq q.1 j with
      |true=>simpa using ih2
      |false=>simp[G7,hq];exact ih2
    rw[this]at h;cases h
   have:=Bne hb;simp only[G7];rw[this,nbF (Bq5 hj)];exact ih h
  |false =>
   simp only[hb,Bnc,G7]at h⊢;cases hq:Nat.beq p.1 j with
   |true=>simp only[hq,Bna]at h⊢;exact h
   |false=>simp only[hq,Bnc]at h⊢;exact ih h
def Bl2:A7 XV→Ty
 |some (.os _ ty _ _)=>ty
 |_=>.unit
def xdS(st:Ak)(ty:Ty)(x:Operand):A7 XD :=
 match xd st x with
 |some (.v (.slice (some _) 0 _))=>some (.sl ty [])
 |r=>r
def B8o{a:XD}(h:xdS st ty x=some a):Fc st.im x (XV.d a).a:=by
 unfold xdS at h;split at h
 ·rename_i p c hx;cases h;exact Aa1 hx (.Bie _ _ _)
 ·exact Aa2 h
def Aq5(P:Program)(st:Ak)(o:Oper)(ts:Array TypeId)(s x:Operand)(K:Out→A7 R):A7 R :=
 match ts[0]?,ts[1]?,newName o with
 |some t,some u,some m =>
  match Gb P t,Gb P u,Bj st s,xdS st (Bl2 (Bj st s)) x with
  |some (e,sz,bytes),some _,some (.os k ty a len),some (.sl Xy l') =>
   match lk k st.objs with
   |some (.arr tu l) =>
    if h:Xy.Jx ty=true then if h':tu.Jx ty=true then
     cond (Nat.beq ty.size sz) (cond (Nat.beq a 0) (cond (Nat.ble 1000 k) (cond (Nat.beq m k) none (cond (Aac m k st) (cond (Nat.beq l.length len) (cond (Au (len+l'.length) bytes)
      (K ⟨.all,.os m ty 0 (len+l'.length),[(s,.os k ty a len),(x,.d (.sl Xy l'))],(m,.arr ty ((Ty.Av h'▸l:List ty.T)++(Ty.Av h▸l':List ty.T)))::E3 m (E3 k st.objs),st.live,[m],[m,k]⟩) none) none) none)) none) none) none
    else none else none
   |_=>none
  |some (e,sz,bytes),some _,some (.d (.v (.slice none 0 0))),some (.sl ty l) =>
   match l with
   |[]=>none
   | y :: l => cond (Nat.beq ty.size sz) (cond (J4 [m] st) (cond (Nat.ble 1000 m) (cond (Au (y :: l).length bytes)
      (K ⟨.all,.os m ty 0 (y::l).length,[(s,.d (.v (.slice none 0 0))),(x,.d (.sl ty (y::l)))],(m,.arr ty (y::l))::E3 m st.objs,st.live,[m],[m]⟩) none) none) none) none
  |_,_,_,_=>none
 |_,_,_=>none
def A1f{o:Oper}(h:newName o=some m):1000≤m:=by
 unfold newName at h;split at h
 ·cases h;omega
 ·cases h
def Az0{o:Oper}{s:Operand}{K:Out→A7 R}{r:R}(ho:o.op = .call { callee:=.builtin .append,args:=#[s,x],argTypes:=ts })(h:Aq5 P st o ts s x K=some r):∃out,K out=some r∧Cr P o st out:=by
 unfold Aq5 at h;split at h
 ·rename_i t u m ht hu hm;split at h
  ·rename_i e sz bytes q k ty a len Xy l' hsl hsu hs hx;split at h
   ·rename_i tu l hk;split at h
    ·rename_i he;split at h
     ·rename_i he';have e0:=Ty.Av he;subst e0;have e0':=Ty.Av he';subst e0';cases h1:Nat.beq tu.size sz with
      |false=>simp[h1]at h
      |true =>
      cases h2:Nat.beq a 0 with
      |false=>simp[h1,h2]at h
      |true =>
      cases h3:Nat.ble 1000 k with
      |false=>simp[h1,h2,h3]at h
      |true =>
      cases h4:Nat.beq m k with
      |true=>simp[h1,h2,h3,h4]at h
      |false =>
      cases h5:Aac m k st with
      |false=>simp[h1,h2,h3,h4,h5]at h
      |true =>
      cases h6:Nat.beq l.length len with
      |false=>simp[h1,h2,h3,h4,h5,h6]at h
      |true =>
      cases h7:Au (len+l'.length) bytes with
      |false=>simp[h1,h2,h3,h4,h5,h6,h7]at h
      |true =>
       simp only[h1,h2,h3,h4,h5,h6,h7,Bna,Bnc]at h;have e1:=Bne h1;have e2:=Bne h2;have e6:=Bne h6;subst e1;subst e2;subst e6;obtain⟨b1,b2⟩:=A5k h7;obtain⟨q1,q2,q3⟩:=q;have M1:st.X.objs.lookup k=some (.cells ((l.map tu.ds).flatten.map .d) none):=by show(Aa st.objs).lookup k=_;exact Lc hk
       refine⟨_,h,⟨?_,?_,fun j z hj hz=>?_⟩⟩
       ·intro p hp;simp only[Bc,Bnh,Bo8,Bnd,Boa,Bpa]at hp;rcases hp with rfl|rfl
        ·exact Ax hs
        ·exact B8o hx
       ·have:=Alr (P:=P) (X:=st.X) (s:=s) (x:=x) (k:=k) (len:=l.length) (cs:=(l.map tu.ds).flatten.map .d) (cty:=none) (fs:=l'.map tu.ds) m ho ht hu (Cs hsu) (Cs hsl) M1
         (by rw[Bo1,Kr _ (Aa4 tu l)];simp) (Bnu h3) (A1f hm) (Bpv h4) (O8 (A3l h5).1)
         (by
          rw[Bok];intro y hy;obtain⟨d,hd,rfl⟩:=Bnp.1 hy;obtain⟨c,hc,hdc⟩:=List.mem_flatten.1 hd;obtain⟨v,_,rfl⟩:=Bnp.1 hc;have:=tu.Z1 v d hdc;cases d<;>first|exact this|rfl)
         (by intro c hc d hd;obtain⟨v,_,rfl⟩:=Bnp.1 hc;exact tu.Z1 v d hd) (by simpa using b1) (by simpa using b2)
        show Ca P o _ st.X ⟨Aa ((m,Af.arr tu (l++l'))::E3 m (E3 k st.objs)),st.live⟩ [m] _;have e3:Aa ((m,Af.arr tu (l++l'))::E3 m (E3 k st.objs))=(m,Ob.cells ((l.map tu.ds).flatten.map AV.d++(l'.map tu.ds).flatten.map AV.d) none)::(Ab.B6 m (Ab.B6 k st.X)).objs:=by rw[show Aa ((m,Af.arr tu (l++l'))::E3 m (E3 k st.objs))=(m,Af.o (.arr tu (l++l')))::Aa (E3 m (E3 k st.objs))from rfl,Tm (Af0 (Tn (A3l h5).1)),Tm (A3l h5).2];simp only[Af.o,Bo4,Br4,Ab.B6];rfl
        rw[e3];simp only[Bo1]at this;have e4:Bc [(s,XV.os k tu 0 l.length),(x,XV.d (XD.sl tu l'))]=[(s,.osl k 0 l.length tu.size),(x,.d (.sl tu.size (l'.map tu.ds)))]:=by simp only[Bc,Bnh,Bo8,XV.a,Bqv];rfl
        rw[e4];have e5:(XV.os m tu 0 (l.length+l'.length)).a = .osl m 0 (l.length+l'.length) tu.size:=by simp only[XV.a,Bqv]
        rw[e5];exact this
       ·simp only[Bnd,Boa,Bpa,Brm]at hj;rw[Eb hj.1]at hz;exact Wl (Wl hz)
     ·cases h
    ·cases h
   ·cases h
  ·rename_i e sz bytes q ty l hsl hsu hs hx;split at h
   ·cases h
   ·rename_i y l;cases h1:Nat.beq ty.size sz with
    |false=>simp[h1]at h
    |true =>
    cases h5:J4 [m] st with
    |false=>simp[h1,h5]at h
    |true =>
    cases h3:Nat.ble 1000 m with
    |false=>simp[h1,h5,h3]at h
    |true =>
    cases h7:Au (y::l).length bytes with
    |false=>simp only[h1,h5,h3,h7,Bna,Bnc,reduceCtorEq]at h
    |true =>
     simp only[h1,h5,h3,h7,Bna]at h;have e1:=Bne h1;subst e1;obtain⟨b1,b2⟩:=A5k h7;obtain⟨q1,q2,q3⟩:=q;refine⟨_,h,⟨?_,?_,fun j z hj hz=>?_⟩⟩
     ·intro p hp;simp only[Bc,Bnh,Bo8,Bnd,Boa,Bpa]at hp;rcases hp with rfl|rfl
      ·exact Ax hs
      ·exact B8o hx
     ·have:=A9v (P:=P) (X:=st.X) (s:=s) (x:=x) (fs:=(y::l).map ty.ds) m ho ht hu (Cs hsu) (Cs hsl) (A1f hm) (O8 h5) (by simp)
       (by intro c hc d hd;obtain⟨v,_,rfl⟩:=Bnp.1 hc;exact ty.Z1 v d hd) (by simpa using b1) (by simpa using b2)
      show Ca P o _ st.X ⟨Aa ((m,Af.arr ty (y::l))::E3 m st.objs),st.live⟩ [m] _;have e3:Aa ((m,Af.arr ty (y::l))::E3 m st.objs)=(m,Ob.cells (((y::l).map ty.ds).flatten.map AV.d) none)::(Ab.B6 m st.X).objs:=by rw[show Aa ((m,Af.arr ty (y::l))::E3 m st.objs)=(m,Af.o (.arr ty (y::l)))::Aa (E3 m st.objs)from rfl,Tm (Tn h5)];rfl
      rw[e3];have e4:Bc [(s,XV.d (.v (.slice none 0 0))),(x,XV.d (XD.sl ty (y::l)))]=[(s,.d (.sc (.slice none 0 0))),(x,.d (.sl ty.size ((y::l).map ty.ds)))]:=rfl;rw[e4];have e5:(XV.os m ty 0 (y::l).length).a = .osl m 0 (y::l).length ty.size:=by simp only[XV.a,Bqv]
      rw[e5];rw[Bo1]at this;exact this
     ·simp only[Bnd,Boa,Bpa]at hj;rw[Eb hj]at hz;exact Wl hz
  ·cases h
 ·cases h
def Az1(P:Program)(st:Ak)(ts:Array TypeId)(x:Operand)(K:Out→A7 R):A7 R :=
 match ts[0]?,Bj st x with
 |some t,some (.os k ty a len) =>
  match Gb P t,lk k st.objs with
  |some (e,sz,_),some (.arr tu l) =>
   if h:tu.Jx ty=true then
    match zeroOf P e with
    |some zs=>cond (Nat.beq ty.size sz) (cond (Aa5 zs)
      (K ⟨.put k (.arr ty ((Ty.Av h▸l:List ty.T).take a)),.Er [],[(x,.os k ty a len)],Mw k (.arr ty ((Ty.Av h▸l:List ty.T).take a)) st.objs,st.live,[],[k]⟩) none) none
    |none=>none
   else none
  |_,_=>none
 |some t,some (.d (.v (.slice none 0 0)))=>none
 |_,_=>none
theorem Ai6{sz:Nat}:∀(fs:A6 (A6 D)),(∀(i:Nat) cs,fs[i]? = some cs→cs.length=sz)→∀a,fs.flatten.take (a*sz)=(fs.take a).flatten
 |[],_,a=>by simp
 |c::r,h,0=>by simp
 |c::r,h,a+1=>by
  have h0:=h 0 c rfl;have ih:=Ai6 r (fun i cs hi=>h (i+1) cs (by simpa using hi)) a;simp only[Bph,Btn,Bpx];rw[show a*sz+sz=c.length+a*sz by omega,Btu,ih]
def B4l{o:Oper}{K:Out→A7 R}{r:R}(ho:o.op = .call { callee:=.builtin .clear,args:=#[x],argTypes:=ts })(h:Az1 P st ts x K=some r):∃out,K out=some r∧Cr P o st out:=by
 unfold Az1 at h;split at h
 ·rename_i t k ty a len ht hx;split at h
  ·rename_i e sz bytes tu l hsl hk;split at h
   ·rename_i he;have e0:=Ty.Av he;subst e0;split at h
    ·rename_i zs hz;cases h1:Nat.beq tu.size sz with
     |false=>simp[h1]at h
     |true =>
     cases h2:Aa5 zs with
     |false=>simp[h1,h2]at h
     |true =>
      simp only[h1,h2,Bna]at h;have e1:=Bne h1;subst e1;have M1:st.X.objs.lookup k=some (.cells ((l.map tu.ds).flatten.map .d) none):=by show(Aa st.objs).lookup k=_;exact Lc hk
      have K0:∀z,(P.info? e).bind (·.zero)=some z→∀v∈z.cells.toList,v.oneCell'=true:=by
       intro z hzz v hv;unfold zeroOf at hz;split at hz
       ·rename_i i hi;split at hz
        ·rename_i z' hz';cases hz;have:z=z':=by rw[hi]at hzz;simp only[Bnb,hz',Bnf]at hzz;exact hzz.symm
         subst this;have Ue:=Agw h2;rw[Bok]at Ue;have:=Ue (.d (.sc v)) (by
          rw[R4,Bnp];exact⟨.d (A1b v),Bnp.2 ⟨v,hv,rfl⟩,by simp only[XV.a,A3d]⟩)
         exact this
        ·cases hz
       ·cases hz
      refine⟨_,h,⟨Ea hx,⟨⟨Kc hk rfl rfl,rfl⟩,rfl,rfl,fun X hX=>?_⟩,fun j z hj hz=>?_⟩⟩
      ·have:=Apj (P:=P) (X:=X) (x:=x) (k:=k) (off:=a*tu.size) (len:=len) (cs:=(l.map tu.ds).flatten.map .d) (ty:=none) ho ht (Cs hsl) (hX.trans M1) K0;rw[← Br2,Ai6 _ (Aa4 tu l),← Br2]at this;exact this
      ·rw[O9 _ _ _ _ (by simpa using hj)]at hz;exact hz
    ·cases h
   ·cases h
  ·cases h
 ·cases h
 ·cases h
end
section
variable{P:Program}{R:Type}
def Ai7:XV→A7 Bool
 |.d (.v (.slice none 0 0))=>some true
 |.d (.v (.slice (some _) _ _))=>some false
 |.d (.sl _ l)=>match l with
  |[]=>none
  |_::_=>some false
 |.os _ _ _ _=>some false
 |_=>none
def B4m{x:XV}{b:Bool}(h:Ai7 x=some b){v:Value}(hr:RA g w x.a v):∃p n c,v = .slice p n c∧p.isNone=b:=by
 unfold Ai7 at h;split at h
 ·cases h;cases hr with
  |d _ _ h=>cases h;exact⟨_,_,_,rfl,rfl⟩
 ·cases h;cases hr with
  |d _ _ h=>cases h;exact⟨_,_,_,rfl,rfl⟩
 ·split at h
  ·cases h
  ·cases h;cases hr with
   |d _ _ h=>cases h;exact⟨_,_,_,rfl,rfl⟩
 ·cases h;obtain⟨cap,o,_,hv,_⟩:=RA.T6 hr;exact⟨_,_,_,hv,rfl⟩
 ·cases h
def Ai8(ht:P.underlying t=some (.slice e))(p:A7 Addr)(n c:Nat)(w:World):(Op.equal t (.slice p n c) (.slice none 0 0)).run P w = .ok p.isNone w:=by
 have h:∀d:Nat,(Op.equalIn (d+1) t (.slice p n c) (.slice none 0 0)).run P w = .ok p.isNone w:=by intro d;cases p<;>simp[Op.equalIn,Bns ht]
 exact h 9999
def An6{o:Oper}{X:Ad}{op:BinOp}{b:Bool}(neg:Bool)(ho:o.op = .binOp (cond neg .neq .eql) t x y t')(ht:P.underlying t=some (.slice e))(hb:Ai7 v=some b) :
  Ca P o [(x,v.a),(y,.d (.sc (.slice none 0 0)))] X X [] (.d (.sc (.bool (cond neg (!b) b)))) :=
 .quiet fun _ _ g w ac _ Bg=>by
  have h1:=Lz Bg;have h2:=(rd1 Bg).Be;simp only at h1 h2;obtain⟨p,n,c,hv,hp⟩:=B4m hb h1;refine⟨_,?_,.Jz _ _ _⟩;simp only[execOp,ho,hv,h2];cases neg with
  |true =>
   have hg:∀p:A7 Addr,eqGuard .neq t x y (.slice p n c) (.slice none 0 0)=pure ():=fun _=>rfl
   simp[hg,binOp,Ai8 ht,hp]
  |false =>
   have hg:∀p:A7 Addr,eqGuard .eql t x y (.slice p n c) (.slice none 0 0)=pure ():=fun _=>rfl
   simp[hg,binOp,Ai8 ht,hp]
def Aq6:Operand→Bool
 |.const (.slice none 0 0)=>true
 |_=>false
def B4n(h:Aq6 x=true):x = .const (.slice none 0 0):=by
 unfold Aq6 at h;split at h
 ·rfl
 ·cases h
def Aq7(P:Program)(st:Ak)(op:BinOp)(t:TypeId)(x y:Operand)(K:Out→A7 R):A7 R :=
 cond (Aq6 y) (match op with
  |.eql=>match Gb P t,Bj st x with
   |some _,some v=>match Ai7 v with
    |some b=>K (Bu st (.d (.b b)) [(x,v),(y,.d (.v (.slice none 0 0)))])
    |none=>none
   |_,_=>none
  |.neq=>match Gb P t,Bj st x with
   |some _,some v=>match Ai7 v with
    |some b=>K (Bu st (.d (.b (!b))) [(x,v),(y,.d (.v (.slice none 0 0)))])
    |none=>none
   |_,_=>none
  |_=>none) (Bg5 P st op t x y K)
def Az2{o:Oper}{K:Out→A7 R}{r:R}(ho:o.op = .binOp op t x y t')(h:Aq7 P st op t x y K=some r):∃out,K out=some r∧Cr P o st out:=by
 unfold Aq7 at h;cases hy:Aq6 y with
 |false=>simp only[hy,Bnc]at h;exact Bcj ho h
 |true =>
  have:=B4n hy;subst this;simp only[hy,Bna]at h;have V8:∀v,Bj st x=some v→∀p∈Bc [(x,v),(Operand.const (.slice none 0 0),XV.d (.v (.slice none 0 0)))],Fc st.im p.1 p.2:=by
   intro v hv p hp;simp only[Bc,Bnh,Bo8,Bnd,Boa,Bpa]at hp;rcases hp with rfl|rfl
   ·exact Ax hv
   ·exact .const _ _ fun _ _=>.sc _
  split at h
  ·split at h
   ·rename_i e v hs hv;split at h
    ·rename_i b hb;obtain⟨e1,e2,e3⟩:=e;refine⟨_,h,Ag (V8 v hv) fun X=>?_⟩;exact An6 (op:=.eql) false ho (Cs hs).und hb
    ·cases h
   ·cases h
  ·split at h
   ·rename_i e v hs hv;split at h
    ·rename_i b hb;obtain⟨e1,e2,e3⟩:=e;refine⟨_,h,Ag (V8 v hv) fun X=>?_⟩;exact An6 (op:=.neq) true ho (Cs hs).und hb
    ·cases h
   ·cases h
  ·cases h
def Acw(P:Program)(st:Ak)(o:Oper)(t:TypeId)(n:Nat)(Bn3:Array (Nat×Operand))(K:Out→A7 R):A7 R :=
 match Gb P t,newName o with
 |some (e,sz,bytes),some m =>
  match Aul P 9 e,Ci st (Bn3.toList.map (·.2)) with
  |some ty,some vs =>
   match A7x ty vs with
   |some l=>cond (Nat.beq ty.size sz) (cond (Nat.beq vs.length n) (cond (A1c 0 (Bn3.toList.map (·.1))) (cond (Nat.ble (n*sz) 16777216) (cond (J4 [m] st)
     (K ⟨.all,.os m ty 0 n,Ai2 ty (Bn3.toList.map (·.2)) l,(m,.arr ty l)::E3 m st.objs,st.live,[m],[m]⟩) none) none) none) none) none
   |none=>none
  |_,_=>none
 |_,_=>none
def Aq8{o:Oper}{Bn3:Array (Nat×Operand)}{K:Out→A7 R}{r:R}(ho:o.op = .buildSlice t n Bn3)(h:Acw P st o t n Bn3 K=some r):∃out,K out=some r∧Cr P o st out:=by
 unfold Acw at h;split at h
 ·rename_i e sz bytes m hsl hm;split at h
  ·rename_i ty vs hty Qx;split at h
   ·rename_i l hl;cases h1:Nat.beq ty.size sz with
    |false=>simp[h1]at h
    |true =>
    cases h2:Nat.beq vs.length n with
    |false=>simp[h1,h2]at h
    |true =>
    cases h3:A1c 0 (Bn3.toList.map (·.1)) with
    |false=>simp[h1,h2,h3]at h
    |true =>
    cases h4:Nat.ble (n*sz) 16777216 with
    |false=>simp[h1,h2,h3,h4]at h
    |true =>
    cases h5:J4 [m] st with
    |false=>simp[h1,h2,h3,h4,h5]at h
    |true =>
     simp only[h1,h2,h3,h4,h5,Bna]at h;have e1:=Bne h1;have e2:=Bne h2;have hto:=Yd Qx hl;have hlen:=A1d hto;have hvl:=I3 Qx;refine⟨_,h,⟨by rw[Aab];exact Z3 hto,?_,fun j z hj hz=>?_⟩⟩
     ·obtain⟨hu',i',z,hi,hs,hb,hz,hzs⟩:=Cs hsl;have:=A9w (P:=P) (X:=st.X) (xs:=l.map ty.dv) m ho hu' hi hz hs (by simp;omega) (by
       rw[A7y h3,Bsi];congr 1;simp at hvl hlen⊢;omega) (by
       rw[Bok];intro x hx;obtain⟨y,_,rfl⟩:=Bnp.1 hx;simp only[B1v,Aaa,Ty.Df,e1,Bqb,Bt5]) (Bnu h4) (A1f hm) (O8 h5)
      simp only[Bq6]at this;have e3:(List.map (D.cells∘ty.dv) l)=l.map ty.ds:=by apply Btm;intro y _;exact Aaa ty y
      rw[e3]at this;show Ca P o _ st.X ⟨Aa ((m,Af.arr ty l)::E3 m st.objs),st.live⟩ [m] _;have e4:Aa ((m,Af.arr ty l)::E3 m st.objs)=(m,Ob.cells ((l.map ty.ds).flatten.map AV.d) none)::(Ab.B6 m st.X).objs:=by rw[show Aa ((m,Af.arr ty l)::E3 m st.objs)=(m,Af.o (.arr ty l))::Aa (E3 m st.objs)from rfl,Tm (Tn h5)];rfl
      rw[e4,Aab];have e5:(XV.os m ty 0 n).a = .osl m 0 n sz:=by simp only[XV.a,Bqv,e1]
      rw[e5];exact this
     ·simp only[Bnd,Boa,Bpa]at hj;rw[Eb hj]at hz;exact Wl hz
   ·cases h
  ·cases h
 ·cases h
end
section
variable(P:Program){R:Type}
def Acx(st:Ak)(o:Oper)(t:TypeId)(K:Out→A7 R):A7 R :=
 match Gb P t,Ayx o with
 |some (e,sz,bytes),some m =>
  match Aul P 9 e with
  |some ty=>cond (Nat.beq ty.size sz) (cond (Z4 m st.live st) (K ⟨.lab,.Cv m ty [] (some e),[],st.objs,m::st.live,[m],[]⟩) none) none
  |none=>none
 |_,_=>none
def Aad{α:Type}(n:Nat)(l:A6 α):Bool :=
 match n,l with
 |0,[]=>true
 |_,_=>false
variable{P}
def Aq9{o:Oper}{Bn3:Array (Nat×Operand)}{K:Out→A7 R}{r:R}(ho:o.op = .buildSlice t n Bn3)(he:Aad n Bn3.toList=true)(h:Acx P st o t K=some r):∃out,K out=some r∧Cr P o st out:=by
 have hn:n=0∧Bn3=#[]:=by
  unfold Aad at he;split at he
  ·rename_i hp;exact⟨rfl,by apply Bos;rw[← Bp2,hp];rfl⟩
  ·cases he
 obtain⟨rfl,rfl⟩:=hn;unfold Acx at h;split at h
 ·rename_i e sz bytes m hsl hm;split at h
  ·rename_i ty hty;cases h1:Nat.beq ty.size sz with
   |false=>simp[h1]at h
   |true =>
   cases h3:Z4 m st.live st with
   |false=>simp[h1,h3]at h
   |true =>simp only[h1,h3,Bna]at h;have e1:=Bne h1;subst e1;obtain⟨f1,f2⟩:=A5l h3;refine⟨_,h,⟨by simp[Bc],⟨rfl,?_⟩,fun _ _ _ h=>h⟩⟩;obtain⟨hu,i,z,hi,hs,_⟩:=Cs hsl;have:=A6m (P:=P) (X:=st.X) m ho hu hi f1 f2;rw[hs]at this;exact this
  ·cases h
 ·cases h
end
section
variable{P:Program}{R:Type}
def Aqa(P:Program)(t:TypeId):A7 (A6 Value) :=
 match P.info? t with
 |some i=>match i.zero with
  |some z=>some z.cells.toList
  |none=>none
 |none=>none
end
open Go.Lib
def Fl{α β:Type}(l:A6 α)(a:β)(f:α→A6 α→β):β :=
 match l with
 |[]=>a
 |y::r=>f y r
section
variable{P:Program}{R:Type}
def Aqb(P:Program)(t:TypeId):A7 TypeId :=
 match P.underlying t with
 |some (.pointer e)=>match P.info? e with
  |some i=>cond (Nat.beq i.size 0) none (some e)
  |none=>none
 |_=>none
def Az3(h:Aqb P t=some e):P.underlying t=some (.pointer e)∧∃i,P.info? e=some i∧i.size≠0:=by
 unfold Aqb at h;split at h
 ·rename_i e' ht;split at h
  ·rename_i i hi;cases hz:Nat.beq i.size 0 with
   |true=>simp[hz]at h
   |false =>simp only[hz,Bnc,Bnf]at h;subst h;exact⟨ht,i,hi,Bpv hz⟩
  ·cases h
 ·cases h
def Aqc:XV→A7 Bool
 |.nm _ (.p _)=>some false
 |.nm _ (.z b _)=>some b
 |.el _ _ _ _=>some false
 |.d (.v (.pointer none))=>some true
 |_=>none
def B4o{x:XV}{b:Bool}{v:Value}(h:Aqc x=some b)(hr:RA g w x.a v):∃p,v = .pointer p∧p.isNone=b:=by
 unfold Aqc at h;split at h
 ·cases h;simp only[XV.a]at hr;cases hr with
  |nm _ _ _ h=>exact⟨_,h,rfl⟩
 ·rename_i k b' off;cases h;simp only[XV.a]at hr;cases hr with
  |nm _ _ _ h =>
   cases b with
   |true=>exact⟨_,h,rfl⟩
   |false=>exact⟨_,h,rfl⟩
 ·cases h;simp only[XV.a]at hr;cases hr with
  |nm _ _ _ h=>exact⟨_,h,rfl⟩
 ·cases h;simp only[XV.a,XD.d]at hr;cases hr with
  |d _ _ h=>cases h;exact⟨_,rfl,rfl⟩
 ·cases h
def Aew(ht:P.underlying t=some (.pointer e))(p:A7 Addr)(w:World):(Op.equal t (.pointer p) (.pointer none)).run P w = .ok p.isNone w:=by
 have h:∀d:Nat,(Op.equalIn (d+1) t (.pointer p) (.pointer none)).run P w = .ok p.isNone w:=by intro d;cases p<;>simp[Op.equalIn,Bns ht]
 exact h 9999
def Aae(neg:Bool):BinOp:=cond neg .neq .eql
def Auu(neg:Bool)(t:TypeId)(x y:Operand)(p q:A7 Addr):eqGuard (Aae neg) t x y (.pointer p) (.pointer q)=pure ():=by cases neg<;>rfl
def Az4{o:Oper}{X:Ad}{b:Bool}(neg:Bool)(ho:o.op = .binOp (Aae neg) t x y t')(ht:P.underlying t=some (.pointer e))(hb:Aqc v=some b) :
  Ca P o [(x,v.a),(y,.d (.sc (.pointer none)))] X X [] (.d (.sc (.bool (cond neg (!b) b)))) :=
 .quiet fun _ _ g w ac _ Bg=>by
  have h1:=Lz Bg;have h2:=(rd1 Bg).Be;simp only at h1 h2;obtain⟨p,hv,hp⟩:=B4o hb h1;refine⟨_,?_,.Jz _ _ _⟩;simp only[execOp,ho,hv,h2];rw[Auu];cases neg<;>simp[Aae,binOp,Aew ht,hp]
def B1y:BinOp→A7 Bool
 |.eql=>some false
 |.neq=>some true
 |_=>none
def Auv{neg:Bool}(h:B1y op=some neg):op=Aae neg:=by
 unfold B1y at h;split at h
 ·cases h;rfl
 ·cases h;rfl
 ·cases h
inductive Bmw where
 |ptr
 |iface
 |none
end
section
variable{P:Program}{R:Type}
end
section
variable{P:Program}{R:Type}
def Bik(P:Program)(t:TypeId):Bool :=
 match P.underlying t with
 |some d=>A9e d
 |none=>true
def Az5(P:Program)(st:Ak)(t:TypeId)(x:Operand)(ty:Ty)(l:List ty.T)(K:Out→A7 R):A7 R :=
 match tyI P t with
 |some (agg,sz)=>cond agg none (cond (Nat.beq sz 1) (cond ty.agg none (Fl l none fun z r=>K (Bu st (.d (ty.xv z)) [(x,.d (.pa ty (z::r)))]))) none)
 |none=>none
def Az6(P:Program)(st:Ak)(t:TypeId)(x:Operand)(K:Out→A7 R):A7 R :=
 match Bj st x with
 |some (.d (.pa ty l))=>cond (Bik P t) (B1t P st t x K) (Az5 P st t x ty l K)
 |_=>B1t P st t x K
def B4p{o:Oper}{l:List ty.T}{K:Out→A7 R}{r:R}(ho:o.op = .load t x)(hx:Bj st x=some (.d (.pa ty l)))(h:Az5 P st t x ty l K=some r):∃out,K out=some r∧Cr P o st out:=by
 unfold Az5 at h;split at h
 ·rename_i agg sz ht;cases ha0:agg with
  |true=>simp only[ha0,Bna]at h;cases h
  |false =>
  cases hs:Nat.beq sz 1 with
  |false=>simp only[ha0,hs,Bnc]at h;cases h
  |true =>
  cases ha:ty.agg with
  |true=>simp only[ha0,hs,ha,Bnc,Bna]at h;cases h
  |false =>
   simp only[ha0,hs,ha,Bnc,Bna]at h;have:=Bne hs;subst this;subst ha0;cases l with
   |nil=>simp only[Fl]at h;cases h
   |cons z r' =>
    simp only[Fl]at h;refine⟨_,h,Ag (Ea hx) fun X=>?_⟩;have:=Aep (P:=P) (X:=X) (x:=x) (c:=ty.dv z) (cs:=(r'.map ty.ds).flatten) ho (Uw ht);have e:(XV.d (.pa ty (z::r'))).a = .d (.ep (ty.dv z::(r'.map ty.ds).flatten)):=by show AV.d (.ep (((z::r').map ty.ds).flatten))=_;rw[Bnh,Bph,ty.A1a z ha];rfl
    show Ca P o [(x,(XV.d (.pa ty (z::r'))).a)] X X [] _;rw[e];exact this
 ·cases h
def B4q{o:Oper}{K:Out→A7 R}{r:R}(ho:o.op = .load t x)(h:Az6 P st t x K=some r):∃out,K out=some r∧Cr P o st out:=by
 unfold Az6 at h;split at h
 ·rename_i ty l hx;cases ha:Bik P t with
  |true=>simp only[ha,Bna]at h;exact Auj ho h
  |false=>simp only[ha,Bnc]at h;exact B4p ho hx h
 ·exact Auj ho h
end
section
variable{P:Program}{R:Type}
def Ai9(P:Program)(e:TypeId)(ty:Ty):A7 (A6 Value×ty.T) :=
 match Aqa P e with
 |some l=>match ty.dec (l.map A1b) with
  |some (x,[])=>some (l,x)
  |_=>none
 |none=>none
theorem Aia:∀(l:A6 Value),Dm (l.map A1b)=l.map D.sc
 |[]=>rfl
 |v::r=>by simp only[Bnh,Dm,A3d,Aia r]
def B8p{l:A6 Value}{x:ty.T}(h:Ai9 P e ty=some (l,x)):Aqa P e=some l∧Mk (l.map D.sc) (ty.ds x):=by
 unfold Ai9 at h;split at h
 ·rename_i l' hl;split at h
  ·rename_i y hd;cases h;obtain⟨ds,h1,h2⟩:=Ty.Wf ty hd;simp only[Dm,Bom]at h1;rw[Aia]at h1;exact⟨hl,h1▸h2⟩
  ·cases h
 ·cases h
def Aqd{l:A6 Value}(h:Aqa P e=some l):∃i z,P.info? e=some i∧i.zero=some z∧z.cells.toList=l:=by
 unfold Aqa at h;split at h
 ·rename_i i hi;split at h
  ·rename_i z hz;cases h;exact⟨i,z,hi,hz,rfl⟩
  ·cases h
 ·cases h
end
def Acy:A6 XV→A7 (A6 XD)
 |[]=>some []
 |x::r=>match x.asD,Acy r with
  |some y,some l=>some (y::l)
  |_,_=>none
def B8q{x:XV}{y:XD}(h:x.asD=some y):Z2 x.a (.d y.d):=by
 cases x with
 |d u=>simp only[XV.asD,Bnf]at h;subst h;exact .refl _
 |Cv n t l ty=>simp only[XV.asD,Bnf]at h;subst h;exact Z2.Cv _ _ _ _
 |_=>simp[XV.asD]at h
theorem Aib:∀ {cs:A6 XV} {ds:A6 XD},Acy cs=some ds→cs.length=ds.length∧∀(i:Nat) x y,cs[i]? = some x→ds[i]? = some y→Z2 x.a (.d y.d)
 |[],ds,h=>by simp[Acy]at h;subst h;exact⟨rfl,by simp⟩
 |x::r,ds,h=>by
  simp only[Acy]at h;split at h
  ·rename_i y l hy hl;cases h;obtain⟨h1,h2⟩:=Aib hl;refine⟨by simp[h1],fun i a b ha hb=>?_⟩;cases i with
   |zero=>simp at ha hb;subst ha;subst hb;exact B8q hy
   |succ i=>exact h2 i a b (by simpa using ha) (by simpa using hb)
  ·cases h
def B1z:XV→XV
 |.agg cs=>match Acy cs with
  |some ds=>.d (.agg ds)
  |none=>.agg cs
 |x=>x
def Auw(x:XV):Z2 x.a (B1z x).a:=by
 cases x with
 |agg cs =>
  simp only[B1z];split
  ·rename_i ds hd;obtain⟨hl,hc⟩:=Aib hd;intro g w v hr;simp only[XV.a,XD.d]at hr⊢;cases hr with
   |agg _ vs hl2 hx =>
    refine .d _ _ (.agg _ vs (by rw[Gv,← hl,← Aq];exact hl2) fun i c u hi hu=>?_);rw[Hj,Bni,Bnn]at hi;obtain⟨y,hy,rfl⟩:=hi;have By:i<cs.length:=by rw[hl];exact(Bnj.1 hy).1
    have h1:=hc i cs[i] y (Bng By) hy g w u (hx i cs[i].a u (by rw[M5,Bng By];rfl) hu);cases h1 with
    |d _ _ h=>exact h
  ·exact .refl _
 |_=>exact .refl _
def Out.tidy(out:Out):Out:={ out with res:=B1z out.res }
def A1g{o:Oper}{rd:A6 (Operand×AV)}{X X':Ad}{Bil:AV}(h:Ca P o rd X X' F res)(hle:Z2 res Bil):Ca P o rd X X' F Bil :=
 fun nm G3 B g w a hr Bg next Q hn=>h nm G3 B g w a hr Bg next Q fun g' w' v h1 h2 h3=>hn g' w' v h1 h2 (hle g' w' v h3)
theorem Cr.tidy{o:Oper}{out:Out}(h:Cr P o st out):Cr P o st out.tidy:=by
 refine⟨h.V8,?_,h.ol⟩;have:=h.op;have hle:=Auw out.res;show match out.V7 with|.none=>_|.look ks=>_|.put k c=>_|.all=>_|.lab=>_|.P9 k c=>_|.new os=>_
 cases he:out.V7 with
 |none=>rw[he]at this;exact⟨this.1,this.2.1,this.2.2.1,fun X=>A1g (this.2.2.2 X) hle⟩
 |look ks=>rw[he]at this;exact⟨this.1,this.2.1,this.2.2.1,fun X hX=>A1g (this.2.2.2 X hX) hle⟩
 |put k c=>rw[he]at this;exact⟨this.1,this.2.1,this.2.2.1,fun X hX=>A1g (this.2.2.2 X hX) hle⟩
 |all=>rw[he]at this;exact A1g this hle
 |lab=>rw[he]at this;exact⟨this.1,A1g this.2 hle⟩
 |P9 k c=>rw[he]at this;exact⟨this.1,A1g this.2 hle⟩
 |new os=>rw[he]at this;exact⟨this.1,A1g this.2 hle⟩
section
variable{P:Program}{R:Type}
def B8r(P:Program)(st:Ak)(t:TypeId)(x:Operand)(K:Out→A7 R):A7 R:=Az6 P st t x fun out=>K out.tidy
def B4r{o:Oper}{K:Out→A7 R}{r:R}(ho:o.op = .load t x)(h:B8r P st t x K=some r):∃out,K out=some r∧Cr P o st out:=by obtain⟨out,h1,h2⟩:=B4q ho h;exact⟨_,h1,h2.tidy⟩
end
section
variable{P:Program}{R:Type}
end
def Ty.eqv:(t:Ty)→t.T→t.T→Bool
 |.int _,a,b=>decide ((a:Int)=b)
 |.u8,a,b=>decide ((a:UInt8)=b)
 |.str,a,b=>decide ((a:A6 UInt8)=b)
 |.pair s t,a,b=>s.eqv a.1 b.1&&t.eqv a.2 b.2
 |.st1 t,a,b=>t.eqv a b
 |_,_,_=>false
def Ty.key:Ty→Bool
 |.int _=>true
 |.u8=>true
 |.str=>true
 |.pair s t=>cond s.key t.key false
 |.st1 t=>t.key
 |_=>false
theorem Ty.Gp:∀(t:Ty) (a b:t.T),t.key=true→(t.eqv a b=true↔a=b)
 |.int _,a,b,_=>by simp[Ty.eqv]
 |.u8,a,b,_=>by simp[Ty.eqv]
 |.str,a,b,_=>by simp[Ty.eqv]
 |.pair s t,a,b,h=>by
  simp only[Ty.key]at h;cases hs:s.key with
  |false=>simp[hs]at h
  |true =>simp only[hs,Bna]at h;simp only[Ty.eqv,Boo,s.Gp _ _ hs,t.Gp _ _ h,Prod.ext_iff]
 |.st1 t,a,b,h=>t.Gp a b h
 |.bool,_,_,h=>by simp[Ty.key]at h
 |.sl _,_,_,h=>by simp[Ty.key]at h
 |.unit,_,_,h=>by simp[Ty.key]at h
 |.tab _,_,_,h=>by simp[Ty.key]at h
 |.err,_,_,h=>by simp[Ty.key]at h
 |.ic _ _,_,_,h=>by simp[Ty.key]at h
 |.ptr,_,_,h=>by simp[Ty.key]at h
def Ty.U9:(t:Ty)→t.T→A6 Value
 |.int k,a=>[.int k a]
 |.u8,a=>[.int .u8 (a.toNat:Int)]
 |.str,a=>[.string ⟨a.toArray⟩]
 |.pair s t,a=>s.U9 a.1++t.U9 a.2
 |.st1 t,a=>t.U9 a
 |_,_=>[]
theorem Ty.Z5:∀(t:Ty) (a:t.T),t.key=true→t.ds a=(t.U9 a).map .sc
 |.int _,a,_=>rfl
 |.u8,a,_=>rfl
 |.str,a,_=>rfl
 |.pair s t,a,h=>by
  simp only[Ty.key]at h;cases hs:s.key with
  |false=>simp[hs]at h
  |true =>simp only[hs,Bna]at h;simp only[Ty.ds,Ty.U9,s.Z5 _ hs,t.Z5 _ h,Bo4]
 |.st1 t,a,h=>by simp only[Ty.ds,Ty.U9];exact t.Z5 a h
 |.bool,_,h=>by simp[Ty.key]at h
 |.sl _,_,h=>by simp[Ty.key]at h
 |.unit,_,h=>by simp[Ty.key]at h
 |.tab _,_,h=>by simp[Ty.key]at h
 |.err,_,h=>by simp[Ty.key]at h
 |.ic _ _,_,h=>by simp[Ty.key]at h
 |.ptr,_,h=>by simp[Ty.key]at h
theorem Ty.Aaf:∀(t:Ty) (a:t.T),∀v∈t.U9 a,v.oneCell'=true
 |.int _,a=>by simp[Ty.U9,Value.oneCell']
 |.u8,a=>by simp[Ty.U9,Value.oneCell']
 |.str,a=>by simp[Ty.U9,Value.oneCell']
 |.pair s t,a=>by
  intro v hv;simp only[Ty.U9,Bnk]at hv;rcases hv with h|h
  ·exact s.Aaf _ v h
  ·exact t.Aaf _ v h
 |.st1 t,a=>by simp only[Ty.U9];exact t.Aaf a
 |.bool,_=>by simp[Ty.U9]
 |.sl _,_=>by simp[Ty.U9]
 |.unit,_=>by simp[Ty.U9]
 |.tab _,_=>by simp[Ty.U9]
 |.err,_=>by simp[Ty.U9]
 |.ic _ _,_=>by simp[Ty.U9]
 |.ptr,_=>by simp[Ty.U9]
def Ty.Ei(t:Ty)(a:t.T):Value:=if t.agg then .agg (t.U9 a).toArray else (t.U9 a).headD undef
theorem Aux:∀l:A6 Value,A2q.B1p (l.map .sc)=l
 |[]=>rfl
 |v::r=>by simp[A2q.B1p,A2q,Aux r]
def Ty.Agx(t:Ty)(a:t.T)(h:t.key=true):A2q (t.dv a)=t.Ei a:=by
 unfold Ty.Ei;cases hg:t.agg with
 |true =>rw[t.A19 a hg,t.Z5 a h];simp[A2q,Aux]
 |false =>
  have h1:=t.A1a a hg;rw[t.Z5 a h]at h1;cases hk:t.U9 a with
  |nil=>rw[hk]at h1;simp at h1
  |cons v r =>rw[hk]at h1;simp only[Bnh,Br7]at h1;rw[← h1.1];rfl
def Ty.B20(t:Ty)(a:t.T)(h:t.key=true):RD γ w (t.dv a) (t.Ei a):=by
 unfold Ty.Ei;cases hg:t.agg with
 |true =>
  rw[t.A19 a hg,t.Z5 a h];simp only[Bpz];refine .agg _ _ (by simp) fun i c v hc hv=>?_
  rw[Bni]at hc;rw[Bqf]at hv;rw[hv]at hc;simp at hc;subst hc;exact .sc _
 |false =>
  have h1:=t.A1a a hg;rw[t.Z5 a h]at h1;cases hk:t.U9 a with
  |nil=>rw[hk]at h1;simp at h1
  |cons v r =>rw[hk]at h1;simp only[Bnh,Br7]at h1;rw[← h1.1];exact .sc _
def Bim{u v:Value}(h:RD γ w (.sc u) v):v=u:=by cases h;rfl
def Ty.Wm{t:Ty}{a:t.T}{v:Value}(h:t.key=true)(hr:RD γ w (t.dv a) v):v=t.Ei a:=by
 unfold Ty.Ei;cases hg:t.agg with
 |true =>
  rw[t.A19 a hg,t.Z5 a h]at hr;simp only[Bpz];cases hr with
  |agg _ vs hl hc =>
   congr 1;apply Array.ext
   ·simpa using hl.symm
   ·intro i h1 h2;have h3:i<(t.U9 a).length:=by simpa using h2
    have:=Bim (hc i (.sc (t.U9 a)[i]) vs[i] (by simp[h3]) (by simp[h1]));simpa using this
 |false =>
  have h1:=t.A1a a hg;rw[t.Z5 a h]at h1;cases hk:t.U9 a with
  |nil=>rw[hk]at h1;simp at h1
  |cons u r =>rw[hk]at h1;simp only[Bnh,Br7]at h1;rw[← h1.1]at hr;cases hr;rfl
section
variable{P:Program}
def Qn(P:Program)(t:TypeId)(kt:Ty):Bool :=
 match P.underlying t with
 |some (.int k)=>match kt with
  |.int k'=>M4 k' k
  |.u8=>M4 .u8 k
  |_=>false
 |some .string=>match kt with
  |.str=>true
  |_=>false
 |_=>false
def Pf(P:Program):Nat→Ty→A6 Field→Bool
 | off, kt, [f] => cond (Nat.beq f.offset off) (cond (decide (f.name = "_")) false (cond (Qn P f.type kt) (match tyI P f.type with | some (ag, sz) => cond (Nat.beq sz 1) (!ag) false | none => false) false)) false
 |off,kt,f::g::r=>match kt with
  | .pair a b => cond (Nat.beq f.offset off) (cond (decide (f.name = "_")) false (cond (Qn P f.type a) (match tyI P f.type with | some (ag, sz) => cond (Nat.beq sz 1) (cond ag false (Pf P (off + 1) b (g :: r))) false | none => false) false)) false
  |_=>false
 |_,_,[]=>false
def Aic(P:Program)(t:TypeId)(kt:Ty):Bool :=
 cond (Qn P t kt) true (match P.underlying t with
  |some (.struct fs)=>cond (P.stoodInHeld t) false (cond (P.eqGuardType P.depth t) false (match fs.toList with
   |[f]=>match kt with
    |.st1 a=>Pf P 0 a [f]
    |_=>false
   |l=>Pf P 0 kt l))
  |some (.array 2 e)=>match P.underlying e,tyI P e,kt with
   |some (.int k),some (false,1),.pair (.int k1) (.int k2)=>cond (M4 k1 k) (M4 k2 k) false
   |_,_,_=>false
  |_=>false)
def Oa(h:Qn P t kt=true):kt.key=true∧kt.agg=false:=by
 unfold Qn at h;split at h
 ·split at h<;>first|exact⟨rfl,rfl⟩|cases h
 ·split at h<;>first|exact⟨rfl,rfl⟩|cases h
 ·cases h
def A81(h:Qn P t kt=true):kt.size=1:=by
 unfold Qn at h;split at h
 ·split at h<;>first|rfl|cases h
 ·split at h<;>first|rfl|cases h
 ·cases h
def An7(h:Qn P t kt=true)(d:Nat)(a b:kt.T):eqS P (d+1) t (kt.enc a) (kt.enc b)=some (kt.eqv a b):=by
 unfold Qn at h;split at h
 ·rename_i k hu;split at h
  ·rename_i k';have:=Hi h;subst this;simp only[eqS,hu,Ty.enc];rw[show M4 k' k'=true by cases k'<;>rfl,Bna];simp[Ty.eqv,BEq.beq]
  ·simp only[eqS,hu,Ty.enc];simp[Ty.eqv,BEq.beq]
  ·cases h
 ·rename_i hu;split at h
  ·simp only[eqS,hu,Ty.enc,Ty.eqv];congr 1;rw[Box];simp
  ·cases h
 ·cases h
def Aid(h:kt.size=1)(a:kt.T):(kt.enc a).length=1:=by rw[Ty.A7u,h]
theorem An8(d:Nat):∀(fl:A6 Field) (off:Nat) (kt:Ty) (a b:kt.T) (xs ys:A6 XD),Pf P off kt fl=true→xs.drop off=kt.enc a→ys.drop off=kt.enc b →
  eqS.Aym P (eqS P (d+1)) xs ys fl=some (kt.eqv a b)
 |[],_,_,_,_,_,_,h,_,_=>by simp[Pf]at h
 |[f],off,kt,a,b,xs,ys,h,hx,hy=>by
  simp only[Pf]at h;cases h1:Nat.beq f.offset off with
  |false=>simp[h1]at h
  |true =>
  have e1:=Bne h1;simp only[h1,Bna]at h
  cases h2 : decide (f.name = "_") with
  |true=>simp[h2]at h
  |false =>
  simp only[h2,Bnc]at h;cases h3:Qn P f.type kt with
  |false=>simp[h3]at h
  |true =>
  simp only[h3,Bna]at h;split at h
  ·rename_i ag sz ht;cases h4:Nat.beq sz 1 with
   |false=>simp[h4]at h
   |true =>
   have e4:=Bne h4;subst e4;unfold eqS.Aym;have e5:(xs.drop off).take 1=kt.enc a:=by rw[hx,Bpg (by rw[Aid (A81 h3)];exact Bno _)]
   have e6:(ys.drop off).take 1=kt.enc b:=by rw[hy,Bpg (by rw[Aid (A81 h3)];exact Bno _)]
   simp only[ht,h2,Bnc,e1,e5,e6,An7 h3]
  ·cases h
 |f::g::r,off,kt,a,b,xs,ys,h,hx,hy=>by
  cases kt with
  |pair s t =>
   simp only[Pf]at h;cases h1:Nat.beq f.offset off with
   |false=>simp[h1]at h
   |true =>
   have e1:=Bne h1;simp only[h1,Bna]at h
   cases h2 : decide (f.name = "_") with
   |true=>simp[h2]at h
   |false =>
   simp only[h2,Bnc]at h;cases h3:Qn P f.type s with
   |false=>simp[h3]at h
   |true =>
   simp only[h3,Bna]at h;split at h
   ·rename_i ag sz ht;cases h4:Nat.beq sz 1 with
    |false=>simp[h4]at h
    |true =>
    have e4:=Bne h4;subst e4;simp only[h4,Bna]at h;cases ag with
    |true=>simp at h
    |false =>
    simp only[Bnc]at h;have hs1:=Aid (A81 h3);have e5:(xs.drop off).take 1=s.enc a.1:=by rw[hx,Ty.enc,Bsa (by rw[hs1];exact Bno _),Bpg (by rw[hs1];exact Bno _)]
    have e6:(ys.drop off).take 1=s.enc b.1:=by rw[hy,Ty.enc,Bsa (by rw[hs1];exact Bno _),Bpg (by rw[hs1];exact Bno _)]
    have d1:xs.drop (off+1)=t.enc a.2:=by rw[← Bur,hx,Ty.enc,Bsb (by rw[hs1];exact Bno _),Buo (by rw[hs1];exact Bno _)];rfl
    have d2:ys.drop (off+1)=t.enc b.2:=by rw[← Bur,hy,Ty.enc,Bsb (by rw[hs1];exact Bno _),Buo (by rw[hs1];exact Bno _)];rfl
    have ih:=An8 d (g::r) (off+1) t a.2 b.2 xs ys h d1 d2;unfold eqS.Aym;simp only[ht,h2,Bnc,e1,e5,e6,An7 h3,ih,Ty.eqv]
   ·cases h
  |_=>simp[Pf]at h
theorem Acz:∀(fl:A6 Field) (off:Nat) (kt:Ty),Pf P off kt fl=true→kt.key=true
 |[],_,_,h=>by simp[Pf]at h
 |[f],off,kt,h=>by
  simp only[Pf]at h;cases h1:Nat.beq f.offset off with
  |false=>simp[h1]at h
  |true =>
  simp only[h1,Bna]at h
  cases h2 : decide (f.name = "_") with
  |true=>simp[h2]at h
  |false =>
  simp only[h2,Bnc]at h;cases h3:Qn P f.type kt with
  |false=>simp[h3]at h
  |true=>exact(Oa h3).1
 |f::g::r,off,kt,h=>by
  cases kt with
  |pair s t =>
   simp only[Pf]at h;cases h1:Nat.beq f.offset off with
   |false=>simp[h1]at h
   |true =>
   simp only[h1,Bna]at h
   cases h2 : decide (f.name = "_") with
   |true=>simp[h2]at h
   |false =>
   simp only[h2,Bnc]at h;cases h3:Qn P f.type s with
   |false=>simp[h3]at h
   |true =>
   simp only[h3,Bna]at h;split at h
   ·rename_i ag sz ht;cases h4:Nat.beq sz 1 with
    |false=>simp[h4]at h
    |true =>
    simp only[h4,Bna]at h;cases ag with
    |true=>simp at h
    |false =>
    simp only[Bnc]at h;simp only[Ty.key,(Oa h3).1,Bna];exact Acz (g::r) (off+1) t h
   ·cases h
  |_=>simp[Pf]at h
end
section
variable{P:Program}
def Zz(h:Qn P t kt=true)(a:kt.T):∃kd v,P.underlying t=some kd∧kt.U9 a=[v]∧MapKept.IsKey kd v∧(∀b:kt.T,∃u,kt.U9 b=[u]∧Instr.sameNow kd v u=some (kt.eqv a b)):=by
 unfold Qn at h;split at h
 ·rename_i k hu;split at h
  ·rename_i k';have:=Hi h;subst this;refine⟨_,_,hu,rfl,?_,fun b=>⟨_,rfl,?_⟩⟩
   ·simp[MapKept.IsKey]
   ·simp[Instr.sameNow,Ty.eqv,BEq.beq]
  ·have:=Hi h;subst this;refine⟨_,_,hu,rfl,?_,fun b=>⟨_,rfl,?_⟩⟩
   ·simp[MapKept.IsKey]
   ·simp only[Instr.sameNow,Ty.eqv,Bpz];congr 1;rw[Box];simp only[Brv,Bpk];exact Aph
  ·cases h
 ·rename_i hu;split at h
  ·refine⟨_,_,hu,rfl,?_,fun b=>⟨_,rfl,?_⟩⟩
   ·simp[MapKept.IsKey]
   ·simp only[Instr.sameNow,Ty.eqv];congr 1;rw[Box,MapKept.bytes_beq];simp
  ·cases h
 ·cases h
theorem Aie(w:World):∀(fl:A6 Field) (off:Nat) (kt:Ty) (a:kt.T) (cs:Array Value),Pf P off kt fl=true→cs.toList.drop off=kt.U9 a →
  ∀ f ∈ fl, f.name ≠ "_" ∧ ∃ v kd, (part f.type cs f.offset).run P w = .ok v w ∧ P.underlying f.type = some kd ∧ MapKept.IsKey kd v
 |[],_,_,_,_,h,_=>by simp[Pf]at h
 |[f],off,kt,a,cs,h,hx=>by
  simp only[Pf]at h;cases h1:Nat.beq f.offset off with
  |false=>simp[h1]at h
  |true =>
  have e1:=Bne h1;simp only[h1,Bna]at h
  cases h2 : decide (f.name = "_") with
  |true=>simp[h2]at h
  |false =>
  simp only[h2,Bnc]at h;cases h3:Qn P f.type kt with
  |false=>simp[h3]at h
  |true =>
  simp only[h3,Bna]at h;split at h
  ·rename_i ag sz ht;cases h4:Nat.beq sz 1 with
   |false=>simp[h4]at h
   |true =>
   have e4:=Bne h4;subst e4;simp only[h4,Bna,Bqq]at h;subst h;obtain⟨kd,v,k1,k2,k3,_⟩:=Zz h3 a;intro g hg;simp only[Bnw]at hg;subst hg;rw[k2]at hx;have By:off<cs.size:=by have:=Bo7 List.length hx;simp at this;omega
   have hv:cs[off]=v:=by have:=Bqo (l:=cs.toList) (i:=off) (by simpa using By);rw[hx]at this;simpa using(Buw this).1.symm
   refine⟨of_decide_eq_false h2,v,kd,?_,k1,k3⟩;have:=Wk (Uw ht) cs off w (fun _=>⟨By,by omega⟩);rw[e1,this];congr 1;simp[L6,Array.getD,hv,show 0<min (off+1) cs.size-off by omega]
  ·cases h
 |f::g::r,off,kt,a,cs,h,hx=>by
  cases kt with
  |pair s t =>
   simp only[Pf]at h;cases h1:Nat.beq f.offset off with
   |false=>simp[h1]at h
   |true =>
   have e1:=Bne h1;simp only[h1,Bna]at h
   cases h2 : decide (f.name = "_") with
   |true=>simp[h2]at h
   |false =>
   simp only[h2,Bnc]at h;cases h3:Qn P f.type s with
   |false=>simp[h3]at h
   |true =>
   simp only[h3,Bna]at h;split at h
   ·rename_i ag sz ht;cases h4:Nat.beq sz 1 with
    |false=>simp[h4]at h
    |true =>
    have e4:=Bne h4;subst e4;simp only[h4,Bna]at h;cases ag with
    |true=>simp at h
    |false =>
    simp only[Bnc]at h;obtain⟨kd,v,k1,k2,k3,_⟩:=Zz h3 a.1;rw[Ty.U9,k2]at hx;have By:off<cs.size:=by have:=Bo7 List.length hx;simp at this;omega
    have hc:=Bqo (l:=cs.toList) (i:=off) (by simpa using By);rw[hx,Bta]at hc;have hv:cs[off]=v:=by simpa using(Buw hc).1.symm
    intro q hq;rcases Bnd.1 hq with rfl|hq
    ·refine⟨of_decide_eq_false h2,v,kd,?_,k1,k3⟩;have:=Wk (Uw ht) cs off w (fun _=>⟨By,by omega⟩);rw[e1,this];congr 1;simp[L6,Array.getD,hv,show 0<min (off+1) cs.size-off by omega]
    ·exact Aie w (g::r) (off+1) t a.2 cs h (Buw hc).2.symm q hq
   ·cases h
  |_=>simp[Pf]at h
inductive A2r(P:Program)(t:TypeId)(kt:Ty):Prop where
 |sc:Qn P t kt=true→A2r P t kt
 |st (fs:Array Field) (k:Ty) (e:kt.T=k.T):P.underlying t=some (.struct fs)→P.stoodInHeld t=false→P.eqGuardType P.depth t=false→Pf P 0 k fs.toList=true→kt.agg=true →
   (∀a:kt.T,kt.U9 a=k.U9 (cast e a))→(∀a:kt.T,kt.enc a=k.enc (cast e a))→(∀a b:kt.T,kt.eqv a b=k.eqv (cast e a) (cast e b))→kt.key=true→A2r P t kt
 |ar (e:TypeId) (k:IntKind):P.underlying t=some (.array 2 e)→P.underlying e=some (.int k)→TyI P e false 1→kt = .pair (.int k) (.int k)→A2r P t kt
def B8s(h:Aic P t kt=true):A2r P t kt:=by
 unfold Aic at h;cases hs:Qn P t kt with
 |true=>exact .sc hs
 |false =>
  simp only[hs,Bnc]at h;split at h
  ·rename_i fs hu;cases h1:P.stoodInHeld t with
   |true=>simp[h1]at h
   |false =>
   cases h2:P.eqGuardType P.depth t with
   |true=>simp[h1,h2]at h
   |false =>
   simp only[h1,h2,Bnc]at h;split at h
   ·rename_i f hf;split at h
    ·rename_i a;exact .st fs a rfl hu h1 h2 (by rw[hf];exact h) rfl (fun _=>rfl) (fun _=>rfl) (fun _ _=>rfl) (by simp only[Ty.key];exact Acz _ _ _ h)
    ·cases h
   ·rename_i l hl;have hg:kt.agg=true:=by
     cases hfl:fs.toList with
     |nil=>rw[hfl]at h;simp[Pf]at h
     |cons f r =>
      cases r with
      |nil=>exact absurd hfl (hl f)
      |cons g r =>rw[hfl]at h;cases kt<;>simp[Pf]at h;rfl
    exact .st fs kt rfl hu h1 h2 h hg (fun _=>rfl) (fun _=>rfl) (fun _ _=>rfl) (Acz _ _ _ h)
  ·rename_i e hu;split at h
   ·rename_i k k1 k2 hk ht;cases h1:M4 k1 k with
    |false=>simp[h1]at h
    |true =>simp only[h1,Bna]at h;have e1:=Hi h1;have e2:=Hi h;subst e1;subst e2;exact .ar e _ hu hk (Uw ht) rfl
   ·cases h
  ·cases h
theorem A2r.key(h:A2r P t kt):kt.key=true:=by
 cases h with
 |sc h=>exact(Oa h).1
 |st fs k e hu h1 h2 h3 hg hk he hq Se=>exact Se
 |ar e k hu hk ht h=>subst h;rfl
def Ad0(ht:TyI P e false 1)(a b:Value)(w:World):(part e #[a,b] 0).run P w = .ok a w∧(part e #[a,b] 1).run P w = .ok b w:=by
 refine⟨?_,?_⟩
 ·have:=Wk ht #[a,b] 0 w (fun _=>⟨by simp,by simp⟩);rw[this];rfl
 ·have:=Wk ht #[a,b] 1 w (fun _=>⟨by simp,by simp⟩);rw[this];rfl
def A2r.check(h:A2r P t kt)(em:Bool)(n:Nat)(a:kt.T)(w:World):(Instr.checkKey em (n+2) t (kt.Ei a)).run P w = .ok () w:=by
 cases h with
 |sc h =>
  obtain⟨kd,v,k1,k2,k3,_⟩:=Zz h a;have:kt.Ei a=v:=by unfold Ty.Ei;rw[(Oa h).2,k2];rfl
  rw[this];exact Bte k1 k3 em (n+1)
 |st fs k e hu h1 h2 h3 hg hk he hq Se =>
  have:kt.Ei a = .agg (k.U9 (cast e a)).toArray:=by unfold Ty.Ei;rw[hg,hk];rfl
  rw[this,show n+2=(n+1)+1 from rfl,Instr.checkKey];simp only[Boc,Bns hu,Bo5];rw[← Array.forIn_toList];have each:=Aie (P:=P) w fs.toList 0 k (cast e a) (k.U9 (cast e a)).toArray h3 (by simp);generalize fs.toList=L at each;induction L with
  |nil=>simp
  |cons f L ih =>obtain⟨hn,v,kd,p1,k1,k3⟩:=each f (by simp);have p2:=Bte (w:=w) k1 k3 em n;simp only[Buk,Boc,hn,ne_eq,not_false_eq_true,Bpz,Bo5,p1,p2,Bql];exact ih (fun y hy=>each y (by simp[hy]))
 |ar e k hu hk ht h =>
  subst h;obtain⟨a1,a2⟩:=a;have e1:(Ty.pair (.int k) (.int k)).Ei (a1,a2) = .agg #[.int k a1,.int k a2]:=rfl;obtain⟨p1,p2⟩:=Ad0 ht (.int k a1) (.int k a2) w;have c1:∀x,(Instr.checkKey em (n+1) e (.int k x)).run P w = .ok () w:=fun x=>Bte (d:=.int k) hk (by simp[MapKept.IsKey]) em n
  have hs:(sizeOf e).run P w = .ok 1 w:=ht.Zp w;rw[e1,show n+2=(n+1)+1 from rfl,Instr.checkKey];simp only[Boc,Bns hu,Bo5];simp only[Bsq,Std.Legacy.Range.size,Bpy,Bsx,Nat.div_one,Bs0,List.range'_zero,Buk,List.forIn_nil];simp[hs,p1,p2,c1]
def I4(kt:Ty)(a:kt.T):List kt.T→A7 Nat
 |[]=>none
 |b::r=>if kt.eqv a b then some 0 else (I4 kt a r).map (· + 1)
theorem Ye{kt:Ty}{a:kt.T}:∀ {l:List kt.T} {i:Nat},I4 kt a l=some i→i<l.length
 |[],i,h=>by simp[I4]at h
 |b::r,i,h=>by
  simp only[I4]at h;split at h
  ·cases h;simp
  ·obtain⟨j,hj,rfl⟩:=Bnn.1 h;have:=Ye hj;simp;omega
theorem Aqe{kt:Ty}{a:kt.T}(hk:kt.key=true):∀ {l:List kt.T} {i:Nat},I4 kt a l=some i→l[i]? = some a
 |[],i,h=>by simp[I4]at h
 |b::r,i,h=>by
  simp only[I4]at h;split at h
  ·rename_i hb;cases h;rw[(kt.Gp a b hk).1 hb];rfl
  ·obtain⟨j,hj,rfl⟩:=Bnn.1 h;simpa using Aqe hk hj
theorem A2r.equal(h:A2r P t kt)(a b:kt.T)(w:World)(γ:Nat→Nat):kt.agg=true→(Op.equal t (kt.Ei a) (kt.Ei b)).run P w = .ok (kt.eqv a b) w:=by
 intro A6n;cases h with
 |sc h=>rw[(Oa h).2]at A6n;cases A6n
 |st fs k e hu h1 h2 h3 hg hk he hq Se =>
  have hs:eqS P 2 t (kt.enc a) (kt.enc b)=some (kt.eqv a b):=by unfold eqS;rw[hu];simp only[h1,Bnc];rw[he,he,hq];exact An8 0 fs.toList 0 k _ _ _ _ h3 rfl rfl
  have vr:∀c:kt.T,VR γ w (kt.enc c) (kt.U9 c).toArray:=fun c=>by
   have e1:=kt.N7 c;rw[kt.Z5 c Se,Hj]at e1;have hl:=Bo7 List.length e1;simp only[Bo1]at hl;refine⟨by simpa using hl,fun i x v hx hv=>?_⟩;have e2:=Bo7 (·[i]?) e1;simp only[Bni,hx,Bol]at e2;rw[Bqf]at hv;rw[hv]at e2;simp only[Bol,Bnf]at e2;rw[e2];exact .sc _
  have:=Apq (P:=P) (γ:=γ) (w:=w) 2 t (kt.enc a) (kt.enc b) _ _ _ 9998 _ hs hu (vr a) (vr b);simp only[A9e,L6,Bpz]at this;have kv:∀c:kt.T,kt.Ei c = .agg (kt.U9 c).toArray:=fun c=>by unfold Ty.Ei;rw[hg];rfl
  rw[kv,kv];exact this
 |ar e k hu hk ht h =>
  subst h;obtain⟨a1,a2⟩:=a;obtain⟨b1,b2⟩:=b;have e1:∀x y,(Ty.pair (.int k) (.int k)).Ei (x,y) = .agg #[.int k x,.int k y]:=fun _ _=>rfl
  have hs:(sizeOf e).run P w = .ok 1 w:=ht.Zp w;obtain⟨p1,p2⟩:=Ad0 ht (.int k a1) (.int k a2) w;obtain⟨q1,q2⟩:=Ad0 ht (.int k b1) (.int k b2) w;have c:∀x y,(Op.equalIn 9999 e (.int k x) (.int k y)).run P w = .ok (x==y) w:=fun x y=>Bss w 9998 e k k x y hk
  rw[e1,e1];show(Op.equalIn (9999+1) t _ _).run P w=_;rw[Op.equalIn];simp only[Boc,Bns hu,Bo5];simp only[Bsq,Std.Legacy.Range.size,Bpy,Bsx,Nat.div_one,Bs0,List.range'_zero,Buk,List.forIn_nil];simp[hs,p1,p2,q1,q2,c,Ty.eqv];cases h1:decide (a1=b1)<;>cases h2:decide (a2=b2)<;>simp_all
theorem A79{t:TypeId}{kt:Ty}(h:Qn P t kt=true)(a:kt.T){kd:TypeDesc}(hu:P.underlying t=some kd):∀(ks:List kt.T) (es:A6 MapEntry) (i:Nat),es.map (·.key)=ks.map kt.Ei →
  Instr.findNow kd (kt.Ei a) es i=some ((I4 kt a ks).bind fun j=>es[j]?.map fun e=>(i+j,e.val))
 |[],[],i,_=>rfl
 |[],_::_,_,he=>by simp at he
 |_::_,[],_,he=>by simp at he
 |b::ks,e::es,i,he=>by
  simp only[Bnh,Br7]at he;obtain⟨kd',v,k1,k2,k3,k4⟩:=Zz h a;have:=Br6 (hu.symm.trans k1);subst this;obtain⟨u,k5,k6⟩:=k4 b;have e1:kt.Ei a=v:=by unfold Ty.Ei;rw[(Oa h).2,k2];rfl
  have e2:e.key=u:=by rw[he.1];unfold Ty.Ei;rw[(Oa h).2,k5];rfl
  unfold Instr.findNow I4;rw[e1,e2,k6];cases hq:kt.eqv a b with
  |true=>simp
  |false =>
   have ih:=A79 h a hu ks es (i+1) he.2;rw[e1]at ih;simp only[ih];cases I4 kt a ks with
   |none=>rfl
   |some j=>simp[Bqa,Bsg 1 j]
theorem A00{t:TypeId}{kt:Ty}(h:A2r P t kt)(hg:kt.agg=true)(a:kt.T)(w:World):∀(ks:List kt.T) (es:A6 MapEntry) (i:Nat),es.map (·.key)=ks.map kt.Ei →
  (Instr.findAsking t (kt.Ei a) es i).run P w = .ok ((I4 kt a ks).bind fun j=>es[j]?.map fun e=>(i+j,e.val)) w
 |[],[],i,_=>by simp[Instr.findAsking,I4]
 |[],_::_,_,he=>by simp at he
 |_::_,[],_,he=>by simp at he
 |b::ks,e::es,i,he=>by
  simp only[Bnh,Br7]at he;have hq:=h.equal a b w (fun _=>0) hg;unfold Instr.findAsking I4;rw[he.1,Boc,hq,Bo5];cases hb:kt.eqv a b with
  |true=>simp
  |false =>
   have ih:=A00 h hg a w ks es (i+1) he.2;simp only[Bon,Bpi,ih];cases I4 kt a ks with
   |none=>rfl
   |some j=>simp[Bqa,Bsg 1 j]
def A2r.find(h:A2r P t kt)(a:kt.T)(w:World)(ks:List kt.T)(es:A6 MapEntry)(he:es.map (·.key)=ks.map kt.Ei) :
  (Instr.findKey t (kt.Ei a) es).run P w = .ok ((I4 kt a ks).bind fun j=>es[j]?.map fun e=>(j,e.val)) w:=by
 cases hg:kt.agg with
 |true =>
  have hw:(match P.underlying t with|some (.array _ _)|some (.struct _)=>true|_=>false)=true:=by
   cases h with
   |sc h=>rw[(Oa h).2]at hg;cases hg
   |st fs k e hu _ _ _ _ _ _ _ _=>rw[hu]
   |ar e k hu _ _ _=>rw[hu]
  rw[run_findKey_eq w hw];have:=A00 h hg a w ks es 0 he;simpa using this
 |false =>
  cases h with
  |sc h =>obtain⟨kd,v,k1,k2,k3,k4⟩:=Zz h a;have:=A79 h a k1 ks es 0 he;have:=MapKept.run_findKey (w:=w) k1 this;simpa using this
  |st fs k e hu h1 h2 h3 hg' hk he' hq Se=>rw[hg']at hg;cases hg
  |ar e k hu hk ht h=>subst h;cases hg
def Aag:∀(n:Nat) (v:Value),v.oneCell'=true→(∃k x,v = .int k x)∨(∃s,v = .string s)→Instr.sameBits n v v=true
 |n,v,_,h=>by
  rcases h with ⟨k,x,rfl⟩|⟨s,rfl⟩
  ·cases n<;>simp[Instr.sameBits]
  ·cases n<;>simp[Instr.sameBits,MapKept.bytes_beq]
theorem Ty.Aif:∀(t:Ty) (a:t.T),∀v∈t.U9 a,(∃k x,v = .int k x)∨(∃s,v = .string s)
 |.int k,a=>by simp[Ty.U9]
 |.u8,a=>by simp[Ty.U9]
 |.str,a=>by simp[Ty.U9]
 |.pair s t,a=>by
  intro v hv;simp only[Ty.U9,Bnk]at hv;rcases hv with h|h
  ·exact s.Aif _ v h
  ·exact t.Aif _ v h
 |.st1 t,a=>by simp only[Ty.U9];exact t.Aif a
 |.bool,_=>by simp[Ty.U9]
 |.sl _,_=>by simp[Ty.U9]
 |.unit,_=>by simp[Ty.U9]
 |.tab _,_=>by simp[Ty.U9]
 |.err,_=>by simp[Ty.U9]
 |.ic _ _,_=>by simp[Ty.U9]
 |.ptr,_=>by simp[Ty.U9]
def A2r.stays(h:A2r P t kt)(a:kt.T)(w:World):(Instr.keyThatStays (kt.Ei a) (kt.Ei a)).run P w = .ok (kt.Ei a) w:=by
 have hb:Instr.sameBits 10000 (kt.Ei a) (kt.Ei a)=true:=by
  cases hg:kt.agg with
  |true =>
   have:kt.Ei a = .agg (kt.U9 a).toArray:=by unfold Ty.Ei;rw[hg];rfl
   rw[this];show Instr.sameBits (9999+1) _ _=true;simp only[Instr.sameBits,Bt5,Bqb,Bok];intro p hp;obtain⟨i,hi,e⟩:=List.getElem_of_mem hp;rw[List.getElem_zip]at e;rw[← e];simp only[];have hm:(kt.U9 a).toArray.toList[i]'(by simpa using hi)∈kt.U9 a:=by simp
   exact Aag 9999 _ (kt.Aaf a _ hm) (kt.Aif a _ hm)
  |false =>
   cases h with
   |sc h =>
    obtain⟨kd,v,k1,k2,k3,_⟩:=Zz h a;have:kt.Ei a=v:=by unfold Ty.Ei;rw[(Oa h).2,k2];rfl
    rw[this];exact Aag _ _ (kt.Aaf a v (by rw[k2];simp)) (kt.Aif a v (by rw[k2];simp))
   |st fs k e hu h1 h2 h3 hg' hk he' hq Se=>rw[hg']at hg;cases hg
   |ar e k hu hk ht h=>subst h;cases hg
 simp[Instr.keyThatStays,hb]
end
noncomputable abbrev F8(kt vt:Ty):Type:=A6 (Nat×kt.T×vt.T)
def Sf{kt vt:Ty}(a:kt.T):F8 kt vt→Option vt.T
 |[]=>none
 |e::r=>bif kt.eqv a e.2.1 then some e.2.2 else Sf a r
def N8{kt vt:Ty}(a:kt.T)(v:vt.T)(clock:Nat):F8 kt vt→F8 kt vt
 |[]=>[(clock,a,v)]
 |e::r=>bif kt.eqv a e.2.1 then (e.1,a,v)::r else e::N8 a v clock r
def Ry{kt vt:Ty}(a:kt.T)(es:F8 kt vt)(clock:Nat):Nat:=match Sf a es with|some _=>clock|none=>clock+1
def Aqf{kt vt:Ty}(a:kt.T):F8 kt vt→F8 kt vt
 |[]=>[]
 |e::r=>bif kt.eqv a e.2.1 then r else e::Aqf a r
section
variable{kt vt:Ty}
theorem Ad1(a:kt.T):∀es:F8 kt vt,Sf a es=(I4 kt a (es.map (·.2.1))).bind fun j=>es[j]?.map (·.2.2)
 |[]=>rfl
 |e::r=>by
  simp only[Sf,Bnh,I4];cases kt.eqv a e.2.1 with
  |true=>rfl
  |false =>simp only[Bnc,Bon,Bpi,Ad1 a r];cases I4 kt a (r.map (·.2.1))<;>simp
theorem Ad2{a:kt.T}{v:vt.T}{clock:Nat}:∀ {es:F8 kt vt},I4 kt a (es.map (·.2.1))=none→N8 a v clock es=es++[(clock,a,v)]
 |[],_=>rfl
 |e::r,h=>by
  simp only[Bnh,I4]at h;split at h
  ·cases h
  ·rename_i hq;simp only[Bup]at h;simp only[N8,Bt6]at hq⊢;rw[hq,Bnc,Ad2 h];rfl
theorem Ad3{a:kt.T}{v:vt.T}{clock:Nat}:∀ {es:F8 kt vt} {j:Nat},I4 kt a (es.map (·.2.1))=some j→N8 a v clock es=es.modify j fun e=>(e.1,a,v)
 |[],j,h=>by simp[I4]at h
 |e::r,j,h=>by
  simp only[Bnh,I4]at h;split at h
  ·rename_i hq;cases h;simp only[N8,hq,Bna];rfl
  ·rename_i hq;obtain⟨i,hi,rfl⟩:=Bnn.1 h;simp only[N8,Bt6]at hq⊢;rw[hq,Bnc,Ad3 hi];rfl
theorem An9{a:kt.T}:∀ {es:F8 kt vt},I4 kt a (es.map (·.2.1))=none→Aqf a es=es
 |[],_=>rfl
 |e::r,h=>by
  simp only[Bnh,I4]at h;split at h
  ·cases h
  ·rename_i hq;simp only[Bup]at h;simp only[Aqf,Bt6]at hq⊢;rw[hq,Bnc,An9 h]
theorem Ana{a:kt.T}:∀ {es:F8 kt vt} {j:Nat},I4 kt a (es.map (·.2.1))=some j→Aqf a es=es.eraseIdx j
 |[],j,h=>by simp[I4]at h
 |e::r,j,h=>by
  simp only[Bnh,I4]at h;split at h
  ·rename_i hq;cases h;simp only[Aqf,hq,Bna];rfl
  ·rename_i hq;obtain⟨i,hi,rfl⟩:=Bnn.1 h;simp only[Aqf,Bt6]at hq⊢;rw[hq,Bnc,Ana hi];rfl
def Anb(a:kt.T)(es:F8 kt vt)(clock:Nat):Ry a es clock=match I4 kt a (es.map (·.2.1)) with|some _=>clock|none=>clock+1:=by
 unfold Ry;rw[Ad1];cases h:I4 kt a (es.map (·.2.1)) with
 |none=>rfl
 |some j =>have hj:=Ye h;simp only[Bo1]at hj;simp[hj]
noncomputable abbrev A2s(kt vt:Ty)(es:F8 kt vt)(clock:Nat):Ob:=(Af.map kt vt es clock).o
structure A6o(kt vt:Ty)(g:Gh)(w:World)(b:Nat)(es:F8 kt vt)(clock:Nat)(C5:Array MapEntry):Prop where
 heap:w.heap[b]? = some (.map C5 clock)
 len:es.length=C5.size
 keys:C5.toList.map (·.key)=(es.map (·.2.1)).map kt.Ei
 at':∀(i:Nat) x e,es[i]? = some x→C5[i]? = some e→e.born=x.1∧e.key=kt.Ei x.2.1∧RD g.γ w (vt.dv x.2.2) e.val
 lt:∀p∈es,p.1<clock
 nodup:(es.map (·.1)).Nodup
def Va{es:F8 kt vt}(hk:kt.key=true)(h:Ce g w b (A2s kt vt es clock)):∃C5,A6o kt vt g w b es clock C5:=by
 cases h with
 |map l c C5 h1 h2 h3 h4 h5 =>
  have hat:∀(i:Nat) x e,es[i]? = some x→C5[i]? = some e→e.born=x.1∧e.key=kt.Ei x.2.1∧RD g.γ w (vt.dv x.2.2) e.val:=by intro i x e hx he;have:=h3 i (x.1,A2q (kt.dv x.2.1),vt.dv x.2.2) e (by rw[Bni,hx];rfl) he;rw[kt.Agx _ hk]at this;exact this
  have hlen:es.length=C5.size:=by simpa using h2
  refine⟨C5,h1,hlen,?_,hat,?_,?_⟩
  ·apply Bqy;intro i;rw[Bni,Bni,Bni,Bpd];by_cases hi:i<C5.size
   ·have Md:i<es.length:=by omega
    rw[Bob hi,Bng Md];have:=(hat i es[i] C5[i] (by simp[Md]) (by simp[hi])).2.1;simp[this]
   ·rw[Bqd (by omega),Bpo (by omega)];rfl
  ·intro p hp;exact h4 (p.1,A2q (kt.dv p.2.1),vt.dv p.2.2) (Bnr (f:=fun e:Nat×kt.T×vt.T=>(e.1,A2q (kt.dv e.2.1),vt.dv e.2.2)) hp)
  ·simpa[Bq6,Bqr]using h5
def A6o.rel{es:F8 kt vt}{C5:Array MapEntry}(hk:kt.key=true)(h:A6o kt vt g w b es clock C5):Ce g w b (A2s kt vt es clock):=by
 refine .map _ clock C5 h.heap (by simpa using h.len) ?_ ?_ ?_
 ·intro i x e hx he;rw[Bni,Bnn]at hx;obtain⟨y,hy,rfl⟩:=hx;have:=h.at' i y e hy he;simp only[kt.Agx _ hk];exact this
 ·intro p hp;rw[Bnp]at hp;obtain⟨y,hy,rfl⟩:=hp;exact h.lt y hy
 ·simpa[Bq6,Bqr]using h.nodup
end
section
variable{P:Program}{o:Oper}{X:Ad}{kt vt:Ty}
def Az7(k:Nat)(ho:o.op = .makeMap t none)(hk:X.objs.lookup k=none)(hX:Br [k] X=true) :
  Ca P o [] X ⟨(k,A2s kt vt [] 0)::X.objs,X.live⟩ [k] (.mp k):=by
 intro nm G3 B g w a hr Bg next Q hn
 obtain⟨h1,h2⟩:=hr.newObj hk hX (.map #[] 0) (A2s kt vt [] 0) (by
  intro g' w' _ hw;exact .map [] 0 #[] hw rfl (by simp) (by simp) (by simp))
 unfold Oper.wp;have:(execOp a.eval o).run P w = .ok (.value (.map (some w.heap.size))) (w.alloc (.map #[] 0)):=by simp[execOp,ho,Instr.makeMap]
 rw[this];refine hn _ _ _ h1 h2 (.nm _ _ _ ?_);show Value.map (some w.heap.size) = .map (some (O3 g.ρ k w.heap.size k));rw[Ah]
structure Aly(P:Program)(t:TypeId)(kt vt:Ty)(e:TypeId):Prop where
 und:∃k,P.underlying t=some (.map k e)∧A2r P k kt
variable{C5:Array MapEntry}{i:TypeInfo}{ts:Array TypeId}
theorem A6o.find{es:F8 kt vt}{k:TypeId}(h:A6o kt vt g w b es clock C5)(hk:A2r P k kt)(a:kt.T) :
  (Instr.findKey k (kt.Ei a) C5.toList).run P w = .ok ((I4 kt a (es.map (·.2.1))).bind fun j=>C5[j]?.map fun e=>(j,e.val)) w:=by
 have:=hk.find a w (es.map (·.2.1)) C5.toList h.keys;simpa[Bpd]using this
def A1h:Value→Bool
 |.agg _=>true
 |_=>false
def B21{l:A6 Value}{z:vt.T}(h:Ai9 P e vt=some (l,z))(hi:P.info? e=some i)(hz:i.zero=some zv)(hg:A1h zv=vt.agg):RD γ w (vt.dv z) zv:=by
 obtain⟨h1,h2⟩:=B8p h;obtain⟨i',zv',e1,e2,e3⟩:=Aqd h1;rw[hi]at e1;cases e1;rw[hz]at e2;cases e2;cases hv:vt.agg with
 |true =>
  rw[vt.A19 z hv];rw[hv]at hg;cases zv with
  |agg vs =>
   have e4:vs.toList=l:=e3;have hl:=h2.length;refine .agg _ vs ?_ fun j c u hc hu=>?_
   ·rw[← hl,Bo1,← e4,Bp2]
   ·obtain⟨x,hx,hle⟩:=h2.get hc;rw[Bni,← e4,Bpd,hu]at hx;simp only[Bol,Bnf]at hx;subst hx;exact hle _ _ _ (.sc u)
  |_=>simp[A1h]at hg
 |false =>
  rw[hv]at hg;have hc:zv.cells=#[zv]:=M3 fun cs he=>by subst he;simp[A1h]at hg
  rw[hc]at e3;have e4:l=[zv]:=by simpa using e3.symm
  subst e4;have h3:=vt.A1a z hv;rw[h3]at h2;cases h2 with
  |cons h4 _=>exact h4 _ _ _ (.sc zv)
def Aqg{vt:Ty}(ok:Bool)(x:Option vt.T)(z:vt.T):AV:=match x with
 |some v=>if ok then .Er [.d (vt.dv v),.d (.bool true)]else .d (vt.dv v)
 |none=>if ok then .Er [.d (vt.dv z),.d (.bool false)]else .d (vt.dv z)
def A82{v:vt.T}{u:Value}{b:Bool}(h:RD g.γ w (vt.dv v) u):RA g w (if ok then .Er [.d (vt.dv v),.d (.bool b)]else .d (vt.dv v)) (if ok then .tuple #[u,.bool b]else u):=by
 cases ok with
 |false=>exact .d _ _ h
 |true =>
  refine .Er _ _ rfl fun i c x hc hx=>?_
  rcases i with _|_|i
  ·simp at hc hx;subst hc;subst hx;exact .d _ _ h
  ·simp at hc hx;subst hc;subst hx;exact .Jz _ _ _
  ·simp at hc
def B4s{es:F8 kt vt}{a:kt.T}{l:A6 Value}{z:vt.T}(ho:o.op = .lookup t x y ok)(hm:Aly P t kt vt e)
  (hz:Ai9 P e vt=some (l,z)) (hi:P.info? e=some i) (hzv:i.zero=some zv) (hg:A1h zv=vt.agg) (hk:X.objs.lookup k=some (A2s kt vt es clock)) :
  Ca P o [(x,.mp k),(y,.d (kt.dv a))] X X [] (Aqg ok (Sf a es) z) :=
 .quiet fun _ _ g w ac hr Bg=>by
  obtain⟨kty,hu,hK⟩:=hm.und;have h1:=(Lz Bg).A11;have h2:ac.eval y=kt.Ei a:=by
   have:=rd1 Bg;cases this with
   |d _ _ h=>exact kt.Wm hK.key h
  simp only at h1;obtain⟨C5,hw⟩:=Va hK.key (hr.objs k _ hk);have hf:=hw.find hK a;have hc:=hK.check C5.isEmpty 9998 a w;have Mi:=Bq3 (P:=P) hw.heap;rw[Ad1];cases hj:I4 kt a (es.map (·.2.1)) with
  |none =>rw[hj]at hf;simp only[Bri]at hf;refine⟨if ok then .tuple #[zv,.bool false]else zv,?_,A82 (B21 hz hi hzv hg)⟩;simp only[execOp,ho,h1,h2,Instr.lookup,Boc,Bns hu,Bo5,Bql,Mi,hc,hf];simp[zeroValue,typeInfo,hi,hzv]
  |some j =>
   have H7:=Ye hj;rw[Bo1]at H7;have hja:j<C5.size:=by rw[← hw.len];exact H7
   rw[hj]at hf;simp only[Bnb,Bob hja,Bol]at hf;simp only[Bnb,Bng H7,Bol];refine⟨if ok then .tuple #[C5[j].val,.bool true]else C5[j].val,?_,A82 (hw.at' j es[j] C5[j] (by simp[H7]) (by simp[hja])).2.2⟩;simp[execOp,ho,h1,h2,Instr.lookup,Boc,Bns hu,Bo5,Bql,Mi,hc,hf]
theorem A6o.mono{g':Gh}{w':World}{es:F8 kt vt}(h:A6o kt vt g w b es clock C5)(hb:w'.heap[b]? = w.heap[b]?)(hle:LeD g.γ w g'.γ w'):A6o kt vt g' w' b es clock C5 :=
 ⟨hb.trans h.heap,h.len,h.keys,fun i x e hx he=>⟨(h.at' i x e hx he).1,(h.at' i x e hx he).2.1,(h.at' i x e hx he).2.2.mono hle⟩,h.lt,h.nodup⟩
def A1i(hb:w.heap[b]? = some (.map C5 clock))(ob:Obj):(setObj b ob).run P w = .ok () { w with heap:=w.heap.setIfInBounds b ob }:=MapKept.run_setObj_map ob hb
def HR.Aah{B:B8}(hr:HR nm B g w X){es es':F8 kt vt}{clock':Nat}{as':Array MapEntry}(Se:kt.key=true)(hk:X.objs.lookup k=some (A2s kt vt es clock))
  (hw:A6o kt vt g w (g.ρ k) es clock C5)
  (hn:∀w',Trans [] g w g w'→w'.heap[g.ρ k]? = some (.map as' clock')→A6o kt vt g w' (g.ρ k) es' clock' as') :
  HR nm B g { w with heap:=w.heap.setIfInBounds (g.ρ k) (.map as' clock') } ⟨Ab.setObj k (A2s kt vt es' clock') X.objs,X.live⟩∧Trans [] g w g { w with heap:=w.heap.setIfInBounds (g.ρ k) (.map as' clock') }:=by
 have By:g.ρ k<w.heap.size:=(Bny.1 hw.heap).1;exact hr.write (w':={ w with heap:=w.heap.setIfInBounds (g.ρ k) (.map as' clock') }) (o':=A2s kt vt es' clock') hk (by simp) ⟨rfl,rfl,rfl,Bno _⟩
  (by intro b Iy;simp[Bq5 Iy]) (fun ht=>(hn _ ht (by simp[By])).rel Se) (by
   intro sh hsh;simp[World.shape?,hw.heap]at hsh)
theorem Pg{α β:Type}(f:α→β):∀(l:A6 α) (k:Nat),(l.map f).eraseIdx k=(l.eraseIdx k).map f
 |[],k=>by cases k<;>rfl
 |x::r,0=>rfl
 |x::r,k+1=>by simp[Pg f r k]
theorem R8{α:Type}(f:α→Nat)(g:α→α)(hfg:∀x,f (g x)=f x):∀(l:A6 α) (j:Nat),((l.modify j g).map f)=l.map f
 |[],j=>by cases j<;>rfl
 |x::r,0=>by simp[hfg]
 |x::r,j+1=>by simp[R8 f g hfg r j]
def Aqh{es:F8 kt vt}{a:kt.T}{v:vt.T}(ho:o.op = .mapUpdate t x y u∨o.op = .insert t x y u)(hm:Aly P t kt vt e)
  (hk:X.objs.lookup k=some (A2s kt vt es clock)) :
  Ca P o [(x,.mp k),(y,.d (kt.dv a)),(u,.d (vt.dv v))] X ⟨Ab.setObj k (A2s kt vt (N8 a v clock es) (Ry a es clock)) X.objs,X.live⟩ [] (.d (.sc undef)):=by
 intro nm G3 B g w ac hr Bg next Q hn
 obtain⟨kty,hu,hK⟩:=hm.und;have h1:=(Lz Bg).A11;have h2:ac.eval y=kt.Ei a:=by
  have:=rd1 Bg;cases this with
  |d _ _ h=>exact kt.Wm hK.key h
 have h3:RD g.γ w (vt.dv v) (ac.eval u):=by
  have:=rd2 Bg;cases this with
  |d _ _ h=>exact h
 simp only at h1;obtain⟨C5,hw⟩:=Va hK.key (hr.objs k _ hk);have hf:=hw.find hK a;have hc:=hK.check false 9998 a w;have hst:=hK.stays a w;have Mi:=Bq3 (P:=P) hw.heap;have Zr:=A1i (P:=P) hw.heap;have Fj:∀w',(Instr.mapUpdate t (ac.eval x) (ac.eval y) (ac.eval u)).run P w = .ok () w'→(execOp ac.eval o).run P w = .ok .skip w':=by intro w' h;rcases ho with ho|ho<;>simp[execOp,ho,h]
 unfold Oper.wp;have ec:=Anb a es clock;cases hj:I4 kt a (es.map (·.2.1)) with
 |none =>
  rw[hj]at hf;simp only[Bri]at hf;rw[hj]at ec;simp only at ec;rw[ec,Ad2 hj]at hn;obtain⟨r1,r2⟩:=HR.Aah hr (es':=es++[(clock,a,v)]) (clock':=clock+1) (as':=C5.push { key:=kt.Ei a,val:=ac.eval u,born:=clock }) hK.key hk hw (by
   intro w' ht Iy;refine⟨Iy,by simp[hw.len],by simp[hw.keys],?_,?_,?_⟩
   ·intro i q m hq Ut;by_cases hi:i<es.length
    ·rw[Bqm hi]at hq;rw[Bto,Bnv (by rw[← hw.len];omega)]at Ut;have:=hw.at' i q m hq Ut;exact⟨this.1,this.2.1,this.2.2.mono ht.le⟩
    ·rw[Bqi (by omega)]at hq;have hi0:i=es.length:=by
      by_cases h0:i-es.length=0
      ·omega
      ·rw[Bpo (by simp;omega)]at hq;cases hq
     subst hi0;simp at hq;rw[hw.len]at Ut;simp at Ut;subst hq;subst Ut;exact⟨rfl,rfl,h3.mono ht.le⟩
   ·intro p hp;rcases Bnk.1 hp with hp|hp
    ·have:=hw.lt p hp;omega
    ·simp at hp;subst hp;exact Br5 _
   ·rw[Bo4,Brb];refine⟨hw.nodup,by simp,?_⟩;intro p hp q hq;simp at hq;subst hq;obtain⟨y',hy',rfl⟩:=Bnp.1 hp;have:=hw.lt y' hy';omega)
  have e1:(Instr.mapUpdate t (ac.eval x) (ac.eval y) (ac.eval u)).run P w = .ok () { w with heap:=w.heap.setIfInBounds (g.ρ k) (.map (C5.push { key:=kt.Ei a,val:=ac.eval u,born:=clock }) (clock+1)) }:=by simp only[Instr.mapUpdate,h1,h2,Boc,Bns hu,Bo5,Mi,hc,hf,Zr]
  rw[Fj _ e1];exact hn g _ undef r1 r2 (.Jz _ _ _)
 |some j =>
  have H7:=Ye hj;rw[Bo1]at H7;have hja:j<C5.size:=by rw[← hw.len];exact H7
  have hat:=Aqe hK.key hj;rw[Bni,Bng H7]at hat;simp only[Bol,Bnf]at hat;have hkj:C5[j].key=kt.Ei a:=by rw[(hw.at' j es[j] C5[j] (by simp[H7]) (by simp[hja])).2.1,hat]
  rw[hj]at hf;simp only[Bnb,Bob hja,Bol]at hf;rw[hj]at ec;simp only at ec;rw[ec,Ad3 hj]at hn;obtain⟨r1,r2⟩:=HR.Aah hr (es':=es.modify j fun q=>(q.1,a,v)) (clock':=clock) (as':=C5.modify j fun q=>{ q with key:=kt.Ei a,val:=ac.eval u }) hK.key hk hw (by
   intro w' ht Iy;have Aqi:∀(i:Nat) q m,(es.modify j fun q=>(q.1,a,v))[i]? = some q→(C5.modify j fun q=>{ q with key:=kt.Ei a,val:=ac.eval u })[i]? = some m→m.born=q.1∧m.key=kt.Ei q.2.1∧RD g.γ w' (vt.dv q.2.2) m.val:=by
    intro i q m hq Ut;rw[List.getElem?_modify]at hq;rw[Bq7]at Ut;by_cases hij:j=i
    ·subst hij;rw[Bng H7]at hq;rw[Bob hja]at Ut;simp at hq Ut;subst hq;subst Ut;exact⟨(hw.at' j es[j] C5[j] (by simp[H7]) (by simp[hja])).1,rfl,h3.mono ht.le⟩
    ·rw[Bnv hij]at Ut;simp only[hij,Bpi]at hq;have:=hw.at' i q m (by simpa using hq) Ut;exact⟨this.1,this.2.1,this.2.2.mono ht.le⟩
   refine⟨Iy,by simp[hw.len],?_,Aqi,?_,?_⟩
   ·apply Bqy;intro i;rw[Bni,Bni,Bni,Bpd];by_cases hi:i<C5.size
    ·have Md:i<es.length:=by rw[hw.len];exact hi
     have hA:i<(C5.modify j fun q=>{ q with key:=kt.Ei a,val:=ac.eval u }).size:=by simpa using hi
     have hE:i<(es.modify j fun q=>(q.1,a,v)).length:=by simpa using Md
     rw[Bob hA,Bng hE];have:=(Aqi i _ _ (Bng hE) (Bob hA)).2.1;simp only[Bol,this]
    ·rw[Bqd (by simpa using hi),Bpo (by simp[hw.len];omega)];rfl
   ·intro p hp;have h5:p.1∈((es.modify j fun q=>(q.1,a,v)).map (·.1)):=Bnr (f:=(·.1)) hp;rw[R8 (fun q:Nat×kt.T×vt.T=>q.1) (fun q:Nat×kt.T×vt.T=>(q.1,a,v)) (fun _=>rfl) es j]at h5;obtain⟨q,hq,he⟩:=Bnp.1 h5;rw[← he];exact hw.lt q hq
   ·rw[R8 (fun q:Nat×kt.T×vt.T=>q.1) (fun q:Nat×kt.T×vt.T=>(q.1,a,v)) (fun _=>rfl) es j];exact hw.nodup)
  have e1:(Instr.mapUpdate t (ac.eval x) (ac.eval y) (ac.eval u)).run P w = .ok () { w with heap:=w.heap.setIfInBounds (g.ρ k) (.map (C5.modify j fun q=>{ q with key:=kt.Ei a,val:=ac.eval u }) clock) }:=by simp only[Instr.mapUpdate,h1,h2,Boc,Bns hu,Bo5,Mi,hc,hf,Bob hja,Bol,Bs1,hkj,hst,Zr]
  rw[Fj _ e1];exact hn g _ undef r1 r2 (.Jz _ _ _)
def B4t{es:F8 kt vt}{a:kt.T}(ho:o.op = .call { callee:=.builtin .delete,args:=#[x,y],argTypes:=ts })(h0:ts[0]? = some t)(hm:Aly P t kt vt e)
  (hk:X.objs.lookup k=some (A2s kt vt es clock)) :
  Ca P o [(x,.mp k),(y,.d (kt.dv a))] X ⟨Ab.setObj k (A2s kt vt (Aqf a es) clock) X.objs,X.live⟩ [] (.Er []):=by
 intro nm G3 B g w ac hr Bg next Q hn
 obtain⟨kty,hu,hK⟩:=hm.und;have h1:=(Lz Bg).A11;have h2:ac.eval y=kt.Ei a:=by
  have:=rd1 Bg;cases this with
  |d _ _ h=>exact kt.Wm hK.key h
 simp only at h1;obtain⟨C5,hw⟩:=Va hK.key (hr.objs k _ hk);have hf:=hw.find hK a;have hc:=hK.check C5.isEmpty 9998 a w;have Mi:=Bq3 (P:=P) hw.heap;have Zr:=A1i (P:=P) hw.heap;have Fj:∀w',(Builtin.delete_ ts o.type #[ac.eval x,ac.eval y]).run P w = .ok (.tuple #[]) w'→(execOp ac.eval o).run P w = .ok (.value (.tuple #[])) w':=by intro w' h;simp[execOp,ho,resolve,invoke,builtin,h]
 unfold Oper.wp;cases hj:I4 kt a (es.map (·.2.1)) with
 |none =>
  rw[hj]at hf;simp only[Bri]at hf;rw[An9 hj]at hn;obtain⟨r1,r2⟩:=HR.Aah hr (es':=es) (clock':=clock) (as':=C5) hK.key hk hw (by
   intro w' ht Iy;exact hw.mono (Iy.trans hw.heap.symm) ht.le)
  have e1:(Builtin.delete_ ts o.type #[ac.eval x,ac.eval y]).run P w = .ok (.tuple #[]) { w with heap:=w.heap.setIfInBounds (g.ρ k) (.map C5 clock) }:=by simp only[Builtin.delete_,h0,h1,h2,Bqf,Bre,Bt3,Boc,Bns hu,Bo5,Mi,hc,hf,Zr,Bql]
  rw[Fj _ e1];exact hn g _ _ r1 r2 (.Er [] #[] rfl (by simp))
 |some j =>
  have H7:=Ye hj;rw[Bo1]at H7;have hja:j<C5.size:=by rw[← hw.len];exact H7
  rw[hj]at hf;simp only[Bnb,Bob hja,Bol]at hf;rw[Ana hj]at hn;have hE:(C5.eraseIdxIfInBounds j).toList=C5.toList.eraseIdx j:=by simp[Array.eraseIdxIfInBounds,hja]
  obtain⟨r1,r2⟩:=HR.Aah hr (es':=es.eraseIdx j) (clock':=clock) (as':=C5.eraseIdxIfInBounds j) hK.key hk hw (by
   intro w' ht Iy;refine⟨Iy,?_,?_,?_,?_,?_⟩
   ·have:=Bo7 List.length hE;simp only[Bp2]at this;rw[this,List.length_eraseIdx,List.length_eraseIdx];have:=hw.len;simp only[Bp2,this]
   ·rw[hE,show(C5.toList.eraseIdx j).map (·.key)=(C5.toList.map (·.key)).eraseIdx j from(Pg ..).symm,hw.keys,Pg,Pg]
   ·intro i q m hq Ut;rw[← Bpd,hE]at Ut;rw[List.getElem?_eraseIdx]at hq Ut;split at hq
    ·rw[Bo3 ‹_›,Bpd]at Ut;have:=hw.at' i q m hq Ut;exact⟨this.1,this.2.1,this.2.2.mono ht.le⟩
    ·rw[Bnv ‹_›,Bpd]at Ut;have:=hw.at' (i+1) q m hq Ut;exact⟨this.1,this.2.1,this.2.2.mono ht.le⟩
   ·intro p hp;exact hw.lt p (List.mem_of_mem_eraseIdx hp)
   ·rw[← Pg];exact hw.nodup.sublist (List.eraseIdx_sublist _ _))
  have e1:(Builtin.delete_ ts o.type #[ac.eval x,ac.eval y]).run P w = .ok (.tuple #[]) { w with heap:=w.heap.setIfInBounds (g.ρ k) (.map (C5.eraseIdxIfInBounds j) clock) }:=by simp only[Builtin.delete_,h0,h1,h2,Bqf,Bre,Bt3,Boc,Bns hu,Bo5,Mi,hc,hf,Zr,Bql]
  rw[Fj _ e1];exact hn g _ _ r1 r2 (.Er [] #[] rfl (by simp))
def Az8{es:F8 kt vt}(ho:o.op = .call { callee:=.builtin .len,args:=#[x],argTypes:=ts })(h0:ts[0]? = some t)(hm:Aly P t kt vt e)
  (hk:X.objs.lookup k=some (A2s kt vt es clock)):Ca P o [(x,.mp k)] X X [] (.d (.sc (.int .i64 es.length))) :=
 .quiet fun _ _ g w ac hr Bg=>by
  obtain⟨kty,hu,hK⟩:=hm.und;have h1:=(Lz Bg).A11;simp only at h1;obtain⟨C5,hw⟩:=Va hK.key (hr.objs k _ hk);have Mi:=Bq3 (P:=P) hw.heap;refine⟨.int .i64 es.length,?_,.Jz _ _ _⟩;simp only[execOp,ho,resolve];simp[h1,invoke,builtin,Builtin.len_,h0,Bns hu,Mi,goInt,hw.len]
def Aqj{es:F8 kt vt}(ho:o.op = .range t x)(hm:Aly P t kt vt e)(hk:X.objs.lookup k=some (A2s kt vt es clock))(hmn:X.objs.lookup m=none)(hX:Br [m] X=true)(hne:k≠m) :
  Ca P o [(x,.mp k)] X ⟨(m,.Kn k clock #[] clock)::X.objs,X.live⟩ [m] (.ptr m 0):=by
 intro nm G3 B g w ac hr Bg next Q hn
 obtain⟨kty,hu,hK⟩:=hm.und;have h1:=(Lz Bg).A11;simp only at h1;obtain⟨C5,hw⟩:=Va hK.key (hr.objs k _ hk);have Mi:=Bq3 (P:=P) hw.heap;obtain⟨r1,r2⟩:=hr.newObj hmn hX (.mapIter (some (g.ρ k)) clock #[] clock) (.Kn k clock #[] clock) (by
  intro g' w' ht hw';refine .Kn k clock #[] clock ?_;rw[hw',ht.names k (by simpa using hne)])
 unfold Oper.wp;have:(execOp ac.eval o).run P w = .ok (.value (.pointer (some ⟨w.heap.size,0,none⟩))) (w.alloc (.mapIter (some (g.ρ k)) clock #[] clock)):=by simp only[execOp,ho,h1];simp[Instr.range,Bns hu,Mi]
 rw[this];refine hn _ _ _ r1 r2 ?_;have:=RA.ptr (g:={ g with ρ:=O3 g.ρ m w.heap.size }) (w:=w.alloc (.mapIter (some (g.ρ k)) clock #[] clock)) m 0;simpa[Ah]using this
end
section
variable{P:Program}{R:Type}
def A3m(P:Program)(t:TypeId):A7 (Ty×Ty) :=
 match P.underlying t with
 |some (.map k e)=>match Aul P 9 k,Aul P 9 e with
  |some kt,some vt=>cond (Aic P k kt) (some (kt,vt)) none
  |_,_=>none
 |_=>none
def Wn(P:Program)(t:TypeId)(kt:Ty):A7 TypeId :=
 match P.underlying t with
 |some (.map k e)=>cond (Aic P k kt) (some e) none
 |_=>none
def R9(h:Wn P t kt=some e):Aly P t kt vt e:=by
 unfold Wn at h;split at h
 ·rename_i k e' hu;cases hk:Aic P k kt with
  |false=>simp[hk]at h
  |true =>simp only[hk,Bna,Bnf]at h;subst h;exact⟨_,hu,B8s hk⟩
 ·cases h
def Q2{y:Af}(h:lk k objs=some y):(Aa objs).lookup k=some y.o:=by exact Lc h
def zeroV(P:Program)(e:TypeId)(vt:Ty):Option vt.T :=
 match P.info? e with
 |some i=>match i.zero with
  |some zv=>match Ai9 P e vt with
   |some lz=>cond (A1h zv) (cond vt.agg (some lz.2) none) (cond vt.agg none (some lz.2))
   |none=>none
  |none=>none
 |none=>none
def Auy{z:vt.T}(h:zeroV P e vt=some z):∃l i zv,Ai9 P e vt=some (l,z)∧P.info? e=some i∧i.zero=some zv∧A1h zv=vt.agg:=by
 unfold zeroV at h;split at h
 ·rename_i i hi;split at h
  ·rename_i zv hz;split at h
   ·rename_i lz hl;refine⟨lz.1,i,zv,?_,hi,hz,?_⟩
    ·cases ha:A1h zv<;>cases hg:vt.agg<;>simp[ha,hg]at h<;>(subst h;exact hl)
    ·cases ha:A1h zv<;>cases hg:vt.agg<;>simp[ha,hg]at h<;>rfl
   ·cases h
  ·cases h
 ·cases h
def Aig(P:Program)(st:Ak)(o:Oper)(t:TypeId)(r:A7 Operand)(K:Out→A7 R):A7 R :=
 match r with
 |none=>match A3m P t,newName o with
  |some ts,some m=>cond (fresh m st) (K ⟨.new [(m,.map ts.1 ts.2 [] 0)],.nm m .m,[],(m,.map ts.1 ts.2 [] 0)::st.objs,st.live,[m],[m]⟩) none
  |_,_=>none
 |some _=>none
def Auz{o:Oper}{K:Out→A7 R}{r:R}(ho:o.op = .makeMap t rs)(h:Aig P st o t rs K=some r):∃out,K out=some r∧Cr P o st out:=by
 unfold Aig at h;split at h
 ·split at h
  ·rename_i ts m hm hn;cases hf:fresh m st with
   |false=>simp[hf]at h
   |true =>
    simp only[hf,Bna]at h;obtain⟨h1,h2⟩:=Tj hf;refine⟨_,h,⟨by simp[Bc],?_,fun j z hj hz=>?_⟩⟩
    ·exact⟨⟨rfl,rfl⟩,Az7 (kt:=ts.1) (vt:=ts.2) m ho (Tk h1) h2⟩
    ·rw[Eb (by simpa using hj)]at hz;exact hz
  ·cases h
 ·cases h
def B8t{vt:Ty}(ok:Bool)(x:Option vt.T)(z:vt.T):XV:=cond ok (.Er [.d (vt.xv (x.getD z)),.d (.b x.isSome)]) (.d (vt.xv (x.getD z)))
def B22(ok:Bool)(x:Option vt.T)(z:vt.T):(B8t ok x z).a=Aqg ok x z:=by cases ok<;>cases x<;>rfl
def Alz{o:Oper}{X:Ad}{a:kt.T}{l:A6 Value}{z:vt.T}{i:TypeInfo}(ho:o.op = .lookup t x y ok)(hm:Aly P t kt vt e)
  (hz:Ai9 P e vt=some (l,z)) (hi:P.info? e=some i) (hzv:i.zero=some zv) (hg:A1h zv=vt.agg) :
  Ca P o [(x,.d (.sc (.map none))),(y,.d (kt.dv a))] X X [] (Aqg ok (none:Option vt.T) z) :=
 .quiet fun _ _ g w ac hr Bg=>by
  obtain⟨kty,hu,hK⟩:=hm.und;have h1:=(Lz Bg).Be;have h2:ac.eval y=kt.Ei a:=by
   have:=rd1 Bg;cases this with
   |d _ _ h=>exact kt.Wm hK.key h
  simp only at h1;have hf:=hK.find a w [] [] rfl;have hc:=hK.check true 9998 a w;simp only[I4,Bri]at hf;refine⟨if ok then .tuple #[zv,.bool false]else zv,?_,A82 (B21 hz hi hzv hg)⟩;simp[execOp,ho,h1,h2,Instr.lookup,Boc,Bns hu,Bo5,Bql,hc,hf,zeroValue,typeInfo,hi,hzv]
def Aqk(P:Program)(st:Ak)(t:TypeId)(x y:Operand)(ok:Bool)(K:Out→A7 R):A7 R :=
 match Bj st x with
 |some (.nm k .m)=>match lk k st.objs with
  |some (.map kt vt es c)=>match Wn P t kt,xd st y with
   |some e,some a=>match kt.A38 a,zeroV P e vt with
    |some a,some z=>K ⟨.look [k],B8t ok (Sf a es) z,[(x,.nm k .m),(y,.d (kt.xv a))],st.objs,st.live,[],[]⟩
    |_,_=>none
   |_,_=>none
  |_=>none
 |some (.d (.v (.map none)))=>match A3m P t,xd st y with
  |some ts,some a=>match Wn P t ts.1 with
   |some e=>match ts.1.A38 a,zeroV P e ts.2 with
    |some a,some z=>K (Bu st (B8t ok none z) [(x,.d (.v (.map none))),(y,.d (ts.1.xv a))])
    |_,_=>none
   |none=>none
  |_,_=>none
 |_=>none
def To{x:XD}{a:kt.T}(h:xd st y=some x)(hd:kt.A38 x=some a):Fc st.im y (.d (kt.dv a)):=Aa1 h (kt.O4 hd)
def Az9{o:Oper}{K:Out→A7 R}{r:R}(ho:o.op = .lookup t x y ok)(h:Aqk P st t x y ok K=some r):∃out,K out=some r∧Cr P o st out:=by
 unfold Aqk at h;split at h
 ·rename_i k hx;split at h
  ·rename_i kt vt es c hk;split at h
   ·rename_i e a0 hm hy;split at h
    ·rename_i a z ha hz;obtain⟨l,i,zv,z1,z2,z3,z4⟩:=Auy hz;refine⟨_,h,⟨?_,⟨rfl,rfl,rfl,fun X hX=>?_⟩,fun _ _ _ h=>h⟩⟩
     ·intro p hp;simp only[Bc,Bnh,Bo8,Bnd,Boa,Bpa]at hp;rcases hp with rfl|rfl
      ·exact Ax hx
      ·exact To hy ha
     ·have:=B4s (P:=P) (X:=X) (k:=k) (es:=es) (clock:=c) (a:=a) ho (R9 hm) z1 z2 z3 z4 ((hX k (by simp)).trans (Q2 hk));rw[B22];exact this
    ·cases h
   ·cases h
  ·cases h
 ·rename_i hx;split at h
  ·rename_i ts a0 hm hy;split at h
   ·rename_i e he;split at h
    ·rename_i a z ha hz;obtain⟨l,i,zv,z1,z2,z3,z4⟩:=Auy hz;refine⟨_,h,Ag ?_ fun X=>?_⟩
     ·intro p hp;simp only[Bc,Bnh,Bo8,Bnd,Boa,Bpa]at hp;rcases hp with rfl|rfl
      ·exact Ax hx
      ·exact To hy ha
     ·rw[B22];exact Alz (a:=a) ho (R9 he) z1 z2 z3 z4
    ·cases h
   ·cases h
  ·cases h
 ·cases h
def A1j(P:Program)(st:Ak)(t:TypeId)(x y u:Operand)(K:Out→A7 R):A7 R :=
 match Bj st x with
 |some (.nm k .m)=>match lk k st.objs with
  |some (.map kt vt es c)=>match Wn P t kt,xd st y,xd st u with
   |some e,some a,some v=>match kt.A38 a,vt.A38 v with
    |some a,some v=>K ⟨.put k (.map kt vt (N8 a v c es) (Ry a es c)),.d (.v undef),[(x,.nm k .m),(y,.d (kt.xv a)),(u,.d (vt.xv v))],Mw k (.map kt vt (N8 a v c es) (Ry a es c)) st.objs,st.live,[],[k]⟩
    |_,_=>none
   |_,_,_=>none
  |_=>none
 |_=>none
def A7a{o:Oper}{K:Out→A7 R}{r:R}(ho:o.op = .mapUpdate t x y u∨o.op = .insert t x y u)(h:A1j P st t x y u K=some r):∃out,K out=some r∧Cr P o st out:=by
 unfold A1j at h;split at h
 ·rename_i k hx;split at h
  ·rename_i kt vt es c hk;split at h
   ·rename_i e a0 v0 hm hy hu;split at h
    ·rename_i a v ha hv;refine⟨_,h,⟨?_,⟨⟨Kc hk rfl rfl,rfl⟩,rfl,rfl,fun X hX=>?_⟩,fun j z hj hz=>?_⟩⟩
     ·intro p hp;simp only[Bc,Bnh,Bo8,Bnd,Boa,Bpa]at hp;rcases hp with rfl|rfl|rfl
      ·exact Ax hx
      ·exact To hy ha
      ·exact To hu hv
     ·exact Aqh (P:=P) (X:=X) (k:=k) (es:=es) (clock:=c) (a:=a) (v:=v) ho (R9 (vt:=vt) hm) (hX.trans (Q2 hk))
     ·simp only[Bnd,Boa,Bpa]at hj
      rwa [O9 _ _ _ _ hj]at hz
    ·cases h
   ·cases h
  ·cases h
 ·cases h
def Aql(P:Program)(st:Ak)(ts:Array TypeId)(x y:Operand)(K:Out→A7 R):A7 R :=
 match ts[0]? with
 |some t=>match Bj st x with
  |some (.nm k .m)=>match lk k st.objs with
   |some (.map kt vt es c)=>match Wn P t kt,xd st y with
    |some e,some a=>match kt.A38 a with
     |some a=>K ⟨.put k (.map kt vt (Aqf a es) c),.Er [],[(x,.nm k .m),(y,.d (kt.xv a))],Mw k (.map kt vt (Aqf a es) c) st.objs,st.live,[],[k]⟩
     |none=>none
    |_,_=>none
   |_=>none
  |some (.d (.v (.map none)))=>match A3m P t,xd st y with
   |some ks,some a=>match Wn P t ks.1,ks.1.A38 a with
    |some e,some a=>K (Bu st (.Er []) [(x,.d (.v (.map none))),(y,.d (ks.1.xv a))])
    |_,_=>none
   |_,_=>none
  |_=>none
 |none=>none
variable{ts:Array TypeId}
def Am0{o:Oper}{X:Ad}{a:kt.T}(ho:o.op = .call { callee:=.builtin .delete,args:=#[x,y],argTypes:=ts })(h0:ts[0]? = some t)(hm:Aly P t kt vt e) :
  Ca P o [(x,.d (.sc (.map none))),(y,.d (kt.dv a))] X X [] (.Er []) :=
 .quiet fun _ _ g w ac hr Bg=>by
  obtain⟨kty,hu,hK⟩:=hm.und;have h1:=(Lz Bg).Be;have h2:ac.eval y=kt.Ei a:=by
   have:=rd1 Bg;cases this with
   |d _ _ h=>exact kt.Wm hK.key h
  simp only at h1;have hc:=hK.check true 9998 a w;refine⟨.tuple #[],?_,.Er [] #[] rfl (by simp)⟩;simp[execOp,ho,resolve,invoke,builtin,Builtin.delete_,h0,h1,h2,Bns hu,hc]
def Aza{o:Oper}{K:Out→A7 R}{r:R}(ho:o.op = .call { callee:=.builtin .delete,args:=#[x,y],argTypes:=ts })(h:Aql P st ts x y K=some r):∃out,K out=some r∧Cr P o st out:=by
 unfold Aql at h;split at h
 ·rename_i t h0;split at h
  ·rename_i k hx;split at h
   ·rename_i kt vt es c hk;split at h
    ·rename_i e a0 hm hy;split at h
     ·rename_i a ha;refine⟨_,h,⟨?_,⟨⟨Kc hk rfl rfl,rfl⟩,rfl,rfl,fun X hX=>?_⟩,fun j z hj hz=>?_⟩⟩
      ·intro p hp;simp only[Bc,Bnh,Bo8,Bnd,Boa,Bpa]at hp;rcases hp with rfl|rfl
       ·exact Ax hx
       ·exact To hy ha
      ·exact B4t (P:=P) (X:=X) (k:=k) (es:=es) (clock:=c) (a:=a) ho h0 (R9 (vt:=vt) hm) (hX.trans (Q2 hk))
      ·simp only[Bnd,Boa,Bpa]at hj
       rwa [O9 _ _ _ _ hj]at hz
     ·cases h
    ·cases h
   ·cases h
  ·rename_i hx;split at h
   ·rename_i ks a0 hm hy;split at h
    ·rename_i e a he ha;refine⟨_,h,Ag ?_ fun X=>?_⟩
     ·intro p hp;simp only[Bc,Bnh,Bo8,Bnd,Boa,Bpa]at hp;rcases hp with rfl|rfl
      ·exact Ax hx
      ·exact To hy ha
     ·exact Am0 (a:=a) ho h0 (R9 (vt:=ks.2) he)
    ·cases h
   ·cases h
  ·cases h
 ·cases h
def Bge:XV→Bool
 |.nm _ .m=>true
 |.d (.v (.map none))=>true
 |_=>false
def Aqm(P:Program)(st:Ak)(ts:Array TypeId)(x:Operand)(K:Out→A7 R):A7 R :=
 match ts[0]? with
 |some t=>match Bj st x with
  |some (.nm k .m)=>match lk k st.objs with
   |some (.map kt vt es c)=>match Wn P t kt with
    |some e=>K ⟨.look [k],.d (.i .i64 es.length),[(x,.nm k .m)],st.objs,st.live,[],[]⟩
    |none=>none
   |_=>none
  |some (.d (.v (.map none)))=>match A3m P t with
   |some ks=>K (Bu st (.d (.i .i64 0)) [(x,.d (.v (.map none)))])
   |none=>none
  |_=>none
 |none=>none
def Aih{ks:Ty×Ty}(h:A3m P t=some ks):∃k e,P.underlying t=some (.map k e):=by
 unfold A3m at h;split at h
 ·rename_i k e hu;exact⟨k,e,hu⟩
 ·cases h
def Azb{o:Oper}{K:Out→A7 R}{r:R}(ho:o.op = .call { callee:=.builtin .len,args:=#[x],argTypes:=ts })(h:Aqm P st ts x K=some r):∃out,K out=some r∧Cr P o st out:=by
 unfold Aqm at h;split at h
 ·rename_i t h0;split at h
  ·rename_i k hx;split at h
   ·rename_i kt vt es c hk;split at h
    ·rename_i e hm;refine⟨_,h,⟨Ea hx,⟨rfl,rfl,rfl,fun X hX=>?_⟩,fun _ _ _ h=>h⟩⟩;exact Az8 (P:=P) (X:=X) (k:=k) (es:=es) (clock:=c) ho h0 (R9 (vt:=vt) hm) ((hX k (by simp)).trans (Q2 hk))
    ·cases h
   ·cases h
  ·rename_i hx;split at h
   ·rename_i ks hm;obtain⟨kk,e,hu⟩:=Aih hm;refine⟨_,h,Ag (Ea hx) fun X=>?_⟩;refine .quiet fun _ _ g w ac hr Bg=>?_
    have h1:=(Lz Bg).Be;simp only at h1;refine⟨.int .i64 0,?_,.Jz _ _ _⟩;simp[execOp,ho,resolve,invoke,builtin,Builtin.len_,h0,h1,Bns hu,goInt]
   ·cases h
  ·cases h
 ·cases h
def Ad4(P:Program)(st:Ak)(o:Oper)(t:TypeId)(x:Operand)(K:Out→A7 R):A7 R :=
 match Bj st x,newName o with
 |some (.nm k .m),some m=>match lk k st.objs with
  |some (.map kt vt es c)=>match Wn P t kt with
   |some e=>cond (Nat.beq k m) none (cond (fresh m st) (K ⟨.all,.nm m (.p 0),[(x,.nm k .m)],(m,.Kn k c [] c)::st.objs,st.live,[m],[m]⟩) none)
   |none=>none
  |_=>none
 |some (.d (.v (.map none))),some m=>match A3m P t with
  |some ks=>cond (fresh m st) (K ⟨.all,.nm m (.p 0),[(x,.d (.v (.map none)))],(m,.E5)::st.objs,st.live,[m],[m]⟩) none
  |none=>none
 |_,_=>none
def Aqn{o:Oper}{K:Out→A7 R}{r:R}(ho:o.op = .range t x)(h:Ad4 P st o t x K=some r):∃out,K out=some r∧Cr P o st out:=by
 unfold Ad4 at h;split at h
 ·rename_i k m hx hm;split at h
  ·rename_i kt vt es c hk;split at h
   ·rename_i e he;cases hne:Nat.beq k m with
    |true=>simp[hne]at h
    |false =>
    cases hf:fresh m st with
    |false=>simp[hne,hf]at h
    |true =>
     simp only[hne,hf,Bna,Bnc]at h;obtain⟨h1,h2⟩:=Tj hf;refine⟨_,h,⟨Ea hx,?_,fun j z hj hz=>?_⟩⟩
     ·exact Aqj (P:=P) (X:=st.X) (k:=k) (m:=m) (es:=es) (clock:=c) ho (R9 (vt:=vt) he) (Q2 hk) (Tk h1) h2 (Bpv hne)
     ·rw[Eb (by simpa using hj)]at hz;exact hz
   ·cases h
  ·cases h
 ·rename_i m hx hm;split at h
  ·rename_i ks hks;cases hf:fresh m st with
   |false=>simp[hf]at h
   |true =>
    simp only[hf,Bna]at h;obtain⟨h1,h2⟩:=Tj hf;obtain⟨kk,e,hu⟩:=Aih hks;refine⟨_,h,⟨Ea hx,?_,fun j z hj hz=>?_⟩⟩
    ·intro nm G3 B g w ac hr Bg next Q hn
     have e1:=(Lz Bg).Be;simp only at e1;obtain⟨r1,r2⟩:=hr.newObj (Tk h1) h2 (.mapIter none 0 #[] 0) .E5 (by
      intro g' w' _ hw;exact .E5 hw)
     unfold Oper.wp;have:(execOp ac.eval o).run P w = .ok (.value (.pointer (some ⟨w.heap.size,0,none⟩))) (w.alloc (.mapIter none 0 #[] 0)):=by simp only[execOp,ho,e1];simp[Instr.range,Bns hu]
     rw[this];refine hn _ _ _ r1 r2 ?_;show RA _ _ (.ptr m 0) _;have:=RA.ptr (g:={ g with ρ:=O3 g.ρ m w.heap.size }) (w:=w.alloc (.mapIter none 0 #[] 0)) m 0;simpa[Ah]using this
    ·rw[Eb (by simpa using hj)]at hz;exact hz
  ·cases h
 ·cases h
def Ke{α R:Type}(l:A6 α)(z:A7 R)(f:α→A7 R):A7 R :=
 open Classical in if l = [] then z else if h : ∃ r, ∀ x ∈ l, f x = some r then some h.choose else none
def Vz{α R:Type}(z:A7 R)(f:α→A7 R):Ke [] z f=z:=by simp[Ke]
def Azc{α R:Type}{l:A6 α}{z:A7 R}{f:α→A7 R}{r:R}(h:Ke l z f=some r):(l=[]∧z=some r)∨(l≠[]∧∀x∈l,f x=some r):=by
 unfold Ke at h;split at h
 ·rename_i hl;exact .inl ⟨hl,h⟩
 ·rename_i hl;split at h
  ·rename_i hx;right;refine⟨hl,?_⟩;have:=hx.choose_spec;cases h;exact this
  ·cases h
def A01{α R:Type}{l:A6 α}{z:A7 R}{f:α→A7 R}{r:R}(hl:l≠[])(h:∀x∈l,f x=some r):Ke l z f=some r:=by unfold Ke;rw[Bnv hl];have hx:∃r,∀x∈l,f x=some r:=⟨r,h⟩;rw[Bud hx];obtain⟨a,ha⟩:=List.exists_mem_of_ne_nil l hl;have h1:=hx.choose_spec a ha;rw[h a ha]at h1;exact h1.symm
def OpD(P:Program)(o:Oper)(rd:A6 (Operand×AV))(X:Ad)(outs:A6 (AV×Ad)):Prop :=
 ∀(nm:A6 Nat),(∀j∈nm,j<1000)→∀(B:B8) (g:Gh) (w:World) (a:Act),HR nm B g w X→(∀p∈rd,RA g w p.2 (a.eval p.1)) →
  ∀(next:Act→World→Prop) (Q:Exit→Act→World→Prop),
   (∀p∈outs,∀g' w' v,HR nm B g' w' p.2→Trans [] g w g' w'→RA g' w' p.1 v→next (a.put o.dst v) w')→o.wp P a w next Q
def Rw.Ke{S:Sig}{ops:Array Oper}{i:Nat}{Bn4:A6 Nat}{st:St}{K:St→Prop}{o:Oper}{rd:A6 (Operand×AV)}{outs:A6 (AV×Ad)}(ho:ops[i]? = some o)(hg:Guard ops st o.guard true)(ht:OpD P o rd st.X outs)(hs:L8 st rd)(hd:Jw S.N o.dst=true)
  (h:∀p∈outs,Rw P S ops Bn4 ⟨E6 o.dst p.1 st.env,p.2⟩ K):Rw P S ops (i::Bn4) st K:=by
 intro B g w a Q hsr hq;unfold wpOps;simp only[ho,hg.wanted hsr,Bpz];refine .inl (ht S.names S.small B g w a hsr.hr (fun p hp=>(hs.all p hp).ra hsr) _ Q ?_);intro p hp g' w' v hX htr hv;exact h p hp B g' w' _ Q (hsr.put htr rfl hX hd hv) hq
def Bx{α:Type}(seen:A6 Nat)(es:A6 (Nat×α)):A6 (Nat×α):=es.filter fun e=>!seen.contains e.1
def Rz{α:Type}(since last:Nat)(es:A6 (Nat×α)):Bool:=es.all fun e=>decide (e.1<since)&&decide (e.1<last)
section
variable{o:Oper}{X:Ad}{kt vt:Ty}
def Ra{r:Nat}{x:A7 Nat}{a c:Nat}{s:Array Nat}(hr:w.heap[r]? = some (.mapIter x a s c)):(getObj r).run P w = .ok (.mapIter x a s c) w:=by simp[getObj,Sem.run,hr]
def A3n{r:Nat}{x:A7 Nat}{a c:Nat}{s:Array Nat}(hr:w.heap[r]? = some (.mapIter x a s c))(o':Obj):(setObj r o').run P w = .ok () { w with heap:=w.heap.setIfInBounds r o' }:=by simp[setObj,Sem.run,hr]
def Ad5{seen:Array Nat}(h:Ce g w b (.Kn k since seen last)):w.heap[b]? = some (.mapIter (some (g.ρ k)) since seen last):=by
 cases h with
 |Kn _ _ _ _ h=>exact h
def Anc{es:F8 kt vt}{C5:Array MapEntry}{seen:A6 Nat}(hw:A6o kt vt g w b es clock C5)(hold:Rz since last es=true) :
  (C5.filter fun e=>!(seen.toArray.contains e.born)).size=(Bx seen es).length ∧
  (∀(i:Nat) x e,(Bx seen es)[i]? = some x→(C5.filter fun e=>!(seen.toArray.contains e.born))[i]? = some e→e.born=x.1∧e.key=kt.Ei x.2.1∧RD g.γ w (vt.dv x.2.2) e.val) ∧
  (∀e∈C5,e.born<since∧e.born<last):=by
 have hb:∀e∈C5.toList,∃x∈es,e.born=x.1∧e.key=kt.Ei x.2.1∧RD g.γ w (vt.dv x.2.2) e.val:=by
  intro e he;obtain⟨i,hi⟩:=Bpu.1 he;have By:i<es.length:=by have:=(Bnj.1 hi).1;rw[hw.len];simpa using this
  exact⟨es[i],Bp5 By,hw.at' i es[i] e (by simp[By]) (by simpa using hi)⟩
 have Ue:∀e∈C5,e.born<since∧e.born<last:=by intro e he;obtain⟨x,hx,h1,_⟩:=hb e (by simpa using he);have:=Bok.1 hold x hx;simp only[Boo,Bpk]at this;rw[h1];exact this
 have B1u:∀(l:A6 MapEntry) (m:A6 (Nat×kt.T×vt.T)),l.length=m.length→(∀(i:Nat) x e,m[i]? = some x→l[i]? = some e→e.born=x.1∧e.key=kt.Ei x.2.1∧RD g.γ w (vt.dv x.2.2) e.val) →
   (l.filter fun e=>!(seen.toArray.contains e.born)).length=(Bx seen m).length ∧
   ∀(i:Nat) x e,(Bx seen m)[i]? = some x→(l.filter fun e=>!(seen.toArray.contains e.born))[i]? = some e→e.born=x.1∧e.key=kt.Ei x.2.1∧RD g.γ w (vt.dv x.2.2) e.val:=by
  intro l;induction l with
  |nil =>
   intro m hm _;cases m with
   |nil=>exact⟨rfl,by simp[Bx]⟩
   |cons _ _=>simp at hm
  |cons e l ih =>
   intro m hm hr;cases m with
   |nil=>simp at hm
   |cons x m =>
    obtain⟨i1,i2⟩:=ih m (by simpa using hm) (fun i y q h1 h2=>hr (i+1) y q (by simpa using h1) (by simpa using h2));have h0:=hr 0 x e rfl rfl;have hc:seen.toArray.contains e.born=seen.contains x.1:=by rw[h0.1];simp
    unfold Bx;rw[Bq0,Bq0,hc];cases seen.contains x.1 with
    |true=>simpa[Bx]using And.intro i1 i2
    |false =>
     simp only[Bpf,Bpz,Bnx];refine⟨by simpa[Bx]using i1,?_⟩;intro i y q h1 h2;cases i with
     |zero=>simp at h1 h2;subst h1;subst h2;exact h0
     |succ i=>exact i2 i y q (by simpa[Bx]using h1) (by simpa using h2)
 obtain⟨p1,p2⟩:=B1u C5.toList es (by simpa using hw.len.symm) (fun i x e hx he=>hw.at' i x e hx (by simpa using he));refine⟨?_,?_,Ue⟩
 ·rw[← p1,← Bp2,Array.toList_filter]
 ·intro i x e hx he;refine p2 i x e hx ?_;rw[← Bpd,Array.toList_filter]at he;exact he
def Av0{seen:A6 Nat}{es:F8 kt vt}(ho:o.op = .next x false)(Se:kt.key=true)(hm:X.objs.lookup m=some (.Kn k since seen.toArray last))(hk:X.objs.lookup k=some (A2s kt vt es clock))
  (hold:Rz since last es=true) (hne:Bx seen es≠[]) :
  OpD P o [(x,.ptr m 0)] X ((Bx seen es).map fun e=>(.Er [.d (.sc (.bool true)),.d (kt.dv e.2.1),.d (vt.dv e.2.2)],⟨Ab.setObj m (.Kn k since (seen++[e.1]).toArray clock) X.objs,X.live⟩)):=by
 intro nm G3 B g w ac hr Bg next Q hn
 have e1:=(Lz Bg).Qy;simp only at e1;have hb:=Ad5 (hr.objs m _ hm);obtain⟨C5,hw⟩:=Va Se (hr.objs k _ hk);obtain⟨f1,f2,f3⟩:=Anc (seen:=seen) hw hold;have Mi:=Ra (P:=P) hb;have B8u:=Bq3 (P:=P) hw.heap;have Zr:=A3n (P:=P) hb;have By:g.ρ m<w.heap.size:=(Bny.1 hb).1;obtain⟨L,hL⟩:∃L,L=C5.filter fun e=>!(seen.toArray.contains e.born):=⟨_,rfl⟩
 rw[← hL]at f1 f2;have Av1:0<L.size:=by rw[f1];exact Bsp.2 hne
 have Bin:L.filter (fun e=>decide (e.born<since))=L:=by rw[Array.filter_eq_self];intro e he;rw[hL]at he;exact Bnq (f3 e (Bs2.1 he).1).1
 have Bio:L.filter (fun e=>decide (e.born≥since))=#[]:=by rw[Bu8];intro e he;rw[hL]at he;have:=(f3 e (Bs2.1 he).1).1;simp;omega
 have Bgf:(!seen.toArray.isEmpty && !C5.isEmpty&&C5.all fun e=>decide (e.born≥last))=false:=by
  cases hae:C5.isEmpty with
  |true=>simp
  |false =>
   have Ud:0<C5.size:=by
    cases hs:C5.size with
    |zero =>have:C5=#[]:=Bos hs;subst this;simp at hae
    |succ n=>omega
   have:(C5.all fun e=>decide (e.born≥last))=false:=by rw[Bqz];intro h;have h2:=Bu4.1 h 0 Ud;have h3:=(f3 C5[0] (Bru Ud)).2;simp at h2;omega
   rw[this];simp
 have pick:∀(j:Nat) (hj:j<L.size) (w1:World),(HR nm B g w1 X∧Trans [] g w g w1∧w1.heap=w.heap)→
   ∀(Fj:(execOp ac.eval o).run P w = .ok (.value (.tuple #[.bool true,L[j].key,L[j].val])) { w1 with heap:=w1.heap.setIfInBounds (g.ρ m) (.mapIter (some (g.ρ k)) since (seen.toArray.push L[j].born) clock) }),Oper.upon P o ac next Q ((execOp ac.eval o).run P w):=by
  intro j hj w1 ⟨hr1,ht1,hh⟩ Fj;have hju:j<(Bx seen es).length:=by rw[← f1];exact hj
  obtain⟨q1,q2,q3⟩:=f2 j (Bx seen es)[j] L[j] (by simp[hju]) (by simp[hj]);have hb1:w1.heap[g.ρ m]? = some (.mapIter (some (g.ρ k)) since seen.toArray last):=by rw[hh];exact hb
  obtain⟨r1,r2⟩:=hr1.write (w':={ w1 with heap:=w1.heap.setIfInBounds (g.ρ m) (.mapIter (some (g.ρ k)) since (seen.toArray.push L[j].born) clock) }) (o':=.Kn k since (seen++[(Bx seen es)[j].1]).toArray clock) hm (by simp) ⟨rfl,rfl,rfl,Bno _⟩
   (by intro b Iy;simp[Bq5 Iy]) (fun _=>.Kn _ _ _ _ (by simp[hh,By,q1])) (by
    intro sh hsh;simp[World.shape?,hb1]at hsh)
  rw[Fj];refine hn _ (Bnr (f:=fun e:Nat×kt.T×vt.T=>((.Er [.d (.sc (.bool true)),.d (kt.dv e.2.1),.d (vt.dv e.2.2)],⟨Ab.setObj m (.Kn k since (seen++[e.1]).toArray clock) X.objs,X.live⟩):AV×Ad)) (Bp5 hju)) g _ _ r1 (ht1.trans r2) ?_;have hle:=(ht1.trans r2).le;refine .Er _ _ rfl fun i c u hc hu=>?_
  rcases i with _|_|_|i
  ·simp at hc hu;subst hc;subst hu;exact .Jz _ _ _
  ·simp at hc hu;subst hc;subst hu;refine .d _ _ ?_;rw[q2];exact kt.B20 _ Se
  ·simp at hc hu;subst hc;subst hu;exact .d _ _ (q3.mono hle)
  ·simp at hc
 have N2:∀(j:Nat) (hj:j<L.size),((#[]:Array (A7 MapEntry))++(L++#[]).map some)[j]? = some (some L[j]):=by intro j hj;simp[hj]
 have Bl4:L.isEmpty=false:=by
  cases h:L.isEmpty with
  |false=>rfl
  |true =>
   have:L=#[]:=by simpa using h
   rw[this]at Av1;simp at Av1
 unfold Oper.wp;have Av2:∀(w1:World) (j:Nat) (hj:j<L.size),w1.heap=w.heap→(choose (.mapNext L.size)).run P w = .ok j w1 →
   (execOp ac.eval o).run P w = .ok (.value (.tuple #[.bool true,L[j].key,L[j].val])) { w1 with heap:=w1.heap.setIfInBounds (g.ρ m) (.mapIter (some (g.ρ k)) since (seen.toArray.push L[j].born) clock) }:=by
  intro w1 j hj hh hch;have Bip:=A3n (P:=P) (w:=w1) (r:=g.ρ m) (by rw[hh];exact hb);simp only[execOp,ho,e1,Instr.next,Boc,Mi,B8u,Bo5,Bgf,← hL,Bin,Bio,Bl4,Bon,Bpi,Bql];have Jq:((#[]:Array (A7 MapEntry))++(L++#[]).map some).size=L.size:=by simp
  rw[Jq,hch];simp only[Bo5,N2 j hj,Boc,Bip,Bql]
 have hch:=Btf P w (.mapNext L.size);by_cases hf:(Question.mapNext L.size).forced=true
 ·rw[Bo3 hf]at hch;exact pick 0 Av1 w ⟨hr,.refl _ _ _,rfl⟩ (Av2 w 0 Av1 rfl hch)
 ·rw[Bnv hf]at hch;have hj:(Question.mapNext L.size).cut (w.tape w.drawn (.mapNext L.size))<L.size:=Bt0 _ Av1;obtain⟨d1,d2⟩:=hr.drew;exact pick _ hj w.drew ⟨d1,d2,rfl⟩ (Av2 w.drew _ hj rfl hch)
def Aqo{seen:A6 Nat}{es:F8 kt vt}(ho:o.op = .next x false)(Se:kt.key=true)(hm:X.objs.lookup m=some (.Kn k since seen.toArray last))(hk:X.objs.lookup k=some (A2s kt vt es clock))
  (hold:Rz since last es=true) (hne:Bx seen es=[]):Ca P o [(x,.ptr m 0)] X X [] (.Er [.d (.sc (.bool false))]) :=
 .quiet fun _ _ g w ac hr Bg=>by
  have e1:=(Lz Bg).Qy;simp only at e1;have hb:=Ad5 (hr.objs m _ hm);obtain⟨C5,hw⟩:=Va Se (hr.objs k _ hk);obtain⟨f1,f2,f3⟩:=Anc (seen:=seen) hw hold;have Mi:=Ra (P:=P) hb;have B8u:=Bq3 (P:=P) hw.heap;have hL:(C5.filter fun e=>!(seen.toArray.contains e.born))=#[]:=Bos (by rw[f1,hne];rfl);have Bgf:(!seen.toArray.isEmpty && !C5.isEmpty&&C5.all fun e=>decide (e.born≥last))=false:=by
   cases hae:C5.isEmpty with
   |true=>simp
   |false =>
    have Ud:0<C5.size:=by
     cases hs:C5.size with
     |zero =>have:C5=#[]:=Bos hs;subst this;simp at hae
     |succ n=>omega
    have:(C5.all fun e=>decide (e.born≥last))=false:=by rw[Bqz];intro h;have h2:=Bu4.1 h 0 Ud;have h3:=(f3 C5[0] (Bru Ud)).2;simp at h2;omega
    rw[this];simp
  refine⟨.tuple #[.bool false],?_,?_⟩
  ·simp only[execOp,ho,e1,Instr.next,Boc,Mi,B8u,Bo5,Bgf,hL,Bon,Bpi,Bql];have hch:=Btf P w (.mapNext 1);rw[Bo3 (by rfl)]at hch;simp[Question.forced]
  ·refine .Er _ _ rfl fun i c u hc hu=>?_
   rcases i with _|i
   ·simp at hc hu;subst hc;subst hu;exact .Jz _ _ _
   ·simp at hc
def Av3(ho:o.op = .next x false)(hm:X.objs.lookup m=some .E5):Ca P o [(x,.ptr m 0)] X X [] (.Er [.d (.sc (.bool false))]) :=
 .quiet fun _ _ g w ac hr Bg=>by
  have e1:=(Lz Bg).Qy;simp only at e1;have hb:w.heap[g.ρ m]? = some (.mapIter none 0 #[] 0):=by
   cases hr.objs m _ hm with
   |E5 h=>exact h
  have Mi:=Ra (P:=P) hb;refine⟨.tuple #[.bool false],?_,?_⟩
  ·simp only[execOp,ho,e1,Instr.next,Boc,Mi,Bo5,Bql]
  ·refine .Er _ _ rfl fun i c u hc hu=>?_
   rcases i with _|i
   ·simp at hc hu;subst hc;subst hu;exact .Jz _ _ _
   ·simp at hc
end
def Af1(st:Ak)(x:Operand)(m k since clock:Nat)(seen:A6 Nat)(kt vt:Ty)(e:Nat×kt.T×vt.T):Out :=
 ⟨.all,.Er [.d (.b true),.d (kt.xv e.2.1),.d (vt.xv e.2.2)],[(x,.nm m (.p 0))],Mw m (.Kn k since (seen++[e.1]) clock) st.objs,st.live,[],[m]⟩
def Azd(st:Ak)(x:Operand)(K:Out→A7 R):A7 R :=
 match Bj st x with
 |some (.nm m (.p 0))=>match lk m st.objs with
  |some (.Kn k since seen last)=>match lk k st.objs with
   |some (.map kt vt es clock)=>cond kt.key (cond (Rz since last es)
     (Ke (Bx seen es) (K ⟨.look [m,k],.Er [.d (.b false)],[(x,.nm m (.p 0))],st.objs,st.live,[],[]⟩) fun e=>K (Af1 st x m k since clock seen kt vt e)) none) none
   |_=>none
  |some .E5=>K ⟨.look [m],.Er [.d (.b false)],[(x,.nm m (.p 0))],st.objs,st.live,[],[]⟩
  |_=>none
 |_=>none
structure Bes(P:Program)(o:Oper)(st:Ak)(rd:List (Operand×XV))(outs:List Out):Prop where
 V8:∀p∈Bc rd,Fc st.im p.1 p.2
 F:∀out∈outs,out.F=[]
 op:OpD P o (Bc rd) st.X (outs.map fun out=>(out.res.a,out.X))
 ol:∀out∈outs,∀k x,k∉out.ol→lk k out.objs=some x→lk k st.objs=some x
def B4u{o:Oper}{K:Out→A7 R}{r:R}(ho:o.op = .next x false)(h:Azd st x K=some r):(∃out,K out=some r∧Cr P o st out)∨∃rd outs,(∀out∈outs,K out=some r)∧Bes P o st rd outs:=by
 unfold Azd at h;split at h
 ·rename_i m hx;split at h
  ·rename_i k since seen last hm;split at h
   ·rename_i kt vt es clock hk;cases Se:kt.key with
    |false=>simp[Se]at h
    |true =>
    cases hold:Rz since last es with
    |false=>simp[Se,hold]at h
    |true =>
     simp only[Se,hold,Bna]at h;have Ut:st.X.objs.lookup m=some (.Kn k since seen.toArray last):=Q2 hm;have M1:st.X.objs.lookup k=some (A2s kt vt es clock):=Q2 hk;rcases Azc h with ⟨hl,hz⟩|⟨hl,hf⟩
     ·left;refine⟨_,hz,⟨Ea hx,⟨rfl,rfl,rfl,fun X hX=>?_⟩,fun _ _ _ h=>h⟩⟩;exact Aqo ho Se ((hX m (by simp)).trans Ut) ((hX k (by simp)).trans M1) hold hl
     ·right;refine⟨[(x,.nm m (.p 0))],(Bx seen es).map (Af1 st x m k since clock seen kt vt),?_,⟨Ea hx,?_,?_,?_⟩⟩
      ·intro out Agf;obtain⟨e,he,rfl⟩:=Bnp.1 Agf;exact hf e he
      ·intro out Agf;obtain⟨e,he,rfl⟩:=Bnp.1 Agf;rfl
      ·have:=Av0 (P:=P) ho Se Ut M1 hold hl;rw[Bq6];have e2:(fun e:Nat×kt.T×vt.T=>(((Af1 st x m k since clock seen kt vt e).res.a,(Af1 st x m k since clock seen kt vt e).X):AV×Ad))=fun e=>(.Er [.d (.sc (.bool true)),.d (kt.dv e.2.1),.d (vt.dv e.2.2)],⟨Ab.setObj m (.Kn k since (seen++[e.1]).toArray clock) st.X.objs,st.X.live⟩):=by funext e;have hp:Zx m (.Kn k since (seen++[e.1]) clock) st.objs=true:=Kc hm rfl rfl;simp only[Af1,Out.X,Ya hp];rfl
       show OpD P o _ st.X ((Bx seen es).map fun e=>((Af1 st x m k since clock seen kt vt e).res.a,(Af1 st x m k since clock seen kt vt e).X));rw[e2];exact this
      ·intro out Agf j z hj hz;obtain⟨e,he,rfl⟩:=Bnp.1 Agf;simp only[Af1,Bnd,Boa,Bpa]at hj hz
       rwa [O9 _ _ _ _ hj]at hz
   ·cases h
  ·rename_i hm;left;refine⟨_,h,⟨Ea hx,⟨rfl,rfl,rfl,fun X hX=>?_⟩,fun _ _ _ h=>h⟩⟩;exact Av3 ho ((hX m (by simp)).trans (Q2 hm))
  ·cases h
 ·cases h
end
noncomputable abbrev Av4(kt vt:Ty):Type:=Nat×kt.T×Bool×List vt.T
noncomputable abbrev J1(kt vt:Ty):Type:=A6 (Av4 kt vt)
def P8{kt vt:Ty}(es:J1 kt vt):F8 kt (.sl vt):=es.map fun e=>(e.1,e.2.1,e.2.2.2)
def Q3{kt vt:Ty}(a:kt.T):J1 kt vt→A7 (Nat×Bool×List vt.T)
 |[]=>none
 |e::r=>bif kt.eqv a e.2.1 then some (e.1,e.2.2)else Q3 a r
def Hk{kt vt:Ty}(a:kt.T)(v:List vt.T)(f:Bool)(clock:Nat):J1 kt vt→J1 kt vt
 |[]=>[(clock,a,f,v)]
 |e::r=>bif kt.eqv a e.2.1 then (e.1,a,f,v)::r else e::Hk a v f clock r
def Ko{kt vt:Ty}(a:kt.T):J1 kt vt→J1 kt vt
 |[]=>[]
 |e::r=>bif kt.eqv a e.2.1 then (e.1,e.2.1,false,e.2.2.2)::r else e::Ko a r
def A83{kt vt:Ty}(a:kt.T)(es:J1 kt vt):List vt.T:=match Q3 a es with|some e=>e.2.2|none=>[]
def A7b{kt vt:Ty}(a:kt.T)(es:J1 kt vt):Bool:=match Q3 a es with|some e=>e.2.1|none=>true
def B4v{kt vt:Ty}(a:kt.T)(es:J1 kt vt):Bool:=match Q3 a es with|some _=>true|none=>false
def Qo{kt vt:Ty}(a:kt.T)(es:J1 kt vt)(clock:Nat):Nat:=match Q3 a es with|some e=>e.1|none=>clock
section
variable{kt vt:Ty}
def Aai(es:J1 kt vt):(P8 es).map (·.2.1)=es.map (·.2.1):=by simp[P8,Bq6,Bqr]
theorem Aqp(a:kt.T)(v:List vt.T)(f:Bool)(c:Nat):∀es:J1 kt vt,P8 (Hk a v f c es)=N8 a (vt:=.sl vt) v c (P8 es)
 |[]=>rfl
 |e::r=>by
  have ih:=Aqp a v f c r;simp only[Hk,P8,Bnh,N8]at ih⊢;cases kt.eqv a e.2.1 with
  |true=>rfl
  |false=>simp only[Bnc,Bnh,ih]
theorem Aqq(a:kt.T):∀es:J1 kt vt,P8 (Ko a es)=P8 es
 |[]=>rfl
 |e::r=>by
  have ih:=Aqq a r;simp only[Ko,P8,Bnh]at ih⊢;cases kt.eqv a e.2.1 with
  |true=>rfl
  |false=>simp only[Bnc,Bnh,ih]
theorem Ad6(a:kt.T):∀es:J1 kt vt,Q3 a es=(I4 kt a (es.map (·.2.1))).bind fun j=>es[j]?.map fun e=>(e.1,e.2.2)
 |[]=>rfl
 |e::r=>by
  simp only[Q3,Bnh,I4];cases kt.eqv a e.2.1 with
  |true=>rfl
  |false =>simp only[Bnc,Bon,Bpi,Ad6 a r];cases I4 kt a (r.map (·.2.1))<;>simp
def Am1(a:kt.T)(es:J1 kt vt):Nat:=(I4 kt a (es.map (·.2.1))).getD es.length
def Ane(a:kt.T)(e:Nat×kt.T×Bool×List vt.T)(r:J1 kt vt):Am1 a (e::r)=bif kt.eqv a e.2.1 then 0 else Am1 a r+1:=by
 simp only[Am1,Bnh,I4];cases kt.eqv a e.2.1 with
 |true=>rfl
 |false =>simp only[Bon,Bpi,Bnc,Bnx];cases I4 kt a (r.map (·.2.1))<;>simp
theorem B23(a:kt.T):∀es:J1 kt vt,(Ko a es).length=es.length∧∀(j:Nat) (x':Av4 kt vt),(Ko a es)[j]? = some x'→∃x:Av4 kt vt,es[j]? = some x∧x'.1=x.1∧x'.2.1=x.2.1∧x'.2.2.2=x.2.2.2∧(x'.2.2.1=true→x.2.2.1=true∧j≠Am1 a es)
 |[]=>⟨rfl,by simp[Ko]⟩
 |e::r=>by
  obtain⟨i1,i2⟩:=B23 a r;rw[Ane];simp only[Ko];cases kt.eqv a e.2.1 with
  |true =>
   simp only[Bna,Bnx,Bsy];intro j x' hx;cases j with
   |zero=>simp at hx;subst hx;exact⟨e,rfl,rfl,rfl,rfl,by simp⟩
   |succ j=>simp at hx;exact⟨x',by simpa using hx,rfl,rfl,rfl,fun h=>⟨h,by omega⟩⟩
  |false =>
   simp only[Bnc,Bnx,i1,Bsy];intro j x' hx;cases j with
   |zero=>simp at hx;subst hx;exact⟨e,rfl,rfl,rfl,rfl,fun h=>⟨h,by omega⟩⟩
   |succ j =>obtain⟨x,a1,a2,a3,a4,a5⟩:=i2 j x' (by simpa using hx);exact⟨x,by simpa using a1,a2,a3,a4,fun h=>⟨(a5 h).1,by have:=(a5 h).2;omega⟩⟩
theorem Aaj(a:kt.T)(v:List vt.T)(f:Bool)(c:Nat):∀(es:J1 kt vt) (j:Nat) (x:Av4 kt vt),(Hk a v f c es)[j]? = some x→(j=Am1 a es∧x.2.2.1=f∧x.1=Qo a es c)∨(j≠Am1 a es∧es[j]? = some x)
 |[],j,x,h=>by
  cases j with
  |zero=>simp[Hk]at h;subst h;exact .inl ⟨rfl,rfl,rfl⟩
  |succ j=>simp[Hk]at h
 |e::r,j,x,h=>by
  rw[Ane];simp only[Hk]at h;cases he:kt.eqv a e.2.1 with
  |true =>
   rw[he]at h;simp only[Bna]at h⊢;cases j with
   |zero=>simp at h;subst h;exact .inl ⟨rfl,rfl,by simp[Qo,Q3,he]⟩
   |succ j=>exact .inr ⟨by omega,by simpa using h⟩
  |false =>
   rw[he]at h;simp only[Bnc]at h⊢;have hb:Qo a (e::r) c=Qo a r c:=by simp[Qo,Q3,he]
   rw[hb];cases j with
   |zero=>exact .inr ⟨by omega,by simpa using h⟩
   |succ j =>
    rcases Aaj a v f c r j x (by simpa using h)with ⟨h1,h2,h3⟩|⟨h1,h2⟩
    ·exact .inl ⟨by omega,h2,h3⟩
    ·exact .inr ⟨by omega,by simpa using h2⟩
theorem Anf(a:kt.T)(v:List vt.T)(f f':Bool)(c:Nat):∀es:J1 kt vt,(Hk a v f' c es).length=(Hk a v f c es).length∧∀(j:Nat) (x':Av4 kt vt),(Hk a v f' c es)[j]? = some x'→∃x:Av4 kt vt,(Hk a v f c es)[j]? = some x∧x'.1=x.1∧x'.2.1=x.2.1∧x'.2.2.2=x.2.2.2
 |[]=>by
  refine⟨rfl,fun j x' h=>?_⟩;cases j with
  |zero=>simp[Hk]at h;subst h;exact⟨_,rfl,rfl,rfl,rfl⟩
  |succ j=>simp[Hk]at h
 |e::r=>by
  obtain⟨i1,i2⟩:=Anf a v f f' c r;simp only[Hk];cases kt.eqv a e.2.1 with
  |true =>
   simp only[Bna,Bnx,Bsy];intro j x' h;cases j with
   |zero=>simp at h;subst h;exact⟨_,rfl,rfl,rfl,rfl⟩
   |succ j=>simp at h;exact⟨x',by simpa using h,rfl,rfl,rfl⟩
  |false =>
   simp only[Bnc,Bnx,i1,Bsy];intro j x' h;cases j with
   |zero=>simp at h;subst h;exact⟨_,rfl,rfl,rfl,rfl⟩
   |succ j =>obtain⟨x,a1,a2⟩:=i2 j x' (by simpa using h);exact⟨x,by simpa using a1,a2⟩
def B24{a:kt.T}{es:J1 kt vt}{x:Nat×kt.T×Bool×List vt.T}(hx:es[j]? = some x)(hj:j≠Am1 a es)(By:∀p∈es,p.1<clock)(hnd:(es.map (·.1)).Nodup):x.1≠Qo a es clock:=by
 unfold Qo;rw[Ad6];unfold Am1 at hj;cases hk:I4 kt a (es.map (·.2.1)) with
 |none =>have:=By x (Boe hx);simp only[Bri];omega
 |some i =>
  rw[hk]at hj;simp only[Bs1]at hj;have hi:=Ye hk;rw[Bo1]at hi;simp only[Bnb,Bng hi,Bol];intro he;obtain⟨hjl,hje⟩:=Bnj.1 hx;have hp:=Bp6.1 hnd;rcases Bu5 j i with h1|h1|h1
  ·have:=hp j i (by simpa using hjl) (by simpa using hi) h1;simp[hje,he]at this
  ·exact hj h1
  ·have:=hp i j (by simpa using hi) (by simpa using hjl) h1;simp[hje,he]at this
noncomputable abbrev Tp(L:Nat)(kt vt:Ty)(es:J1 kt vt)(clock:Nat):Ob:=(Af.Cx L kt vt es clock).o
def lT(es:J1 kt vt):B3z:=es.map fun e=>(e.1,A2q (kt.dv e.2.1),e.2.2.1,e.2.2.2.map vt.ds)
structure Av5(kt vt:Ty)(L:Nat)(g:Gh)(w:World)(b:Nat)(es:J1 kt vt)(clock:Nat)(C5:Array MapEntry):Prop where
 m:A6o kt (.sl vt) g w b (P8 es) clock C5
 t:∀(j:Nat) x e,es[j]? = some x→C5[j]? = some e→x.2.2.1=true→(g.β L).isSome→Acd g w L x.1 vt.size e.val
def Aqr{es:J1 kt vt}(hk:kt.key=true)(h:Ce g w b (Tp L kt vt es clock)):∃C5,Av5 kt vt L g w b es clock C5:=by
 cases h with
 |Cx _ _ l c C5 h1 h2 h3 h4 h5 =>
  have Mi:∀(i:Nat) x,es[i]? = some x→(es.map fun e=>(e.1,A2q (kt.dv e.2.1),e.2.2.1,e.2.2.2.map vt.ds))[i]? = some (x.1,A2q (kt.dv x.2.1),x.2.2.1,x.2.2.2.map vt.ds):=fun i x hx=>by rw[Bni,hx];rfl
  have hat:∀(i:Nat) x e,es[i]? = some x→C5[i]? = some e→e.born=x.1∧e.key=kt.Ei x.2.1∧RD g.γ w (.sl vt.size (x.2.2.2.map vt.ds)) e.val:=by intro i x e hx he;obtain⟨a1,a2,a3,_⟩:=h3 i _ e (Mi i x hx) he;rw[kt.Agx _ hk]at a2;exact⟨a1,a2,a3⟩
  have hlen:es.length=C5.size:=by simpa using h2
  refine⟨C5,⟨h1,by simpa[P8]using hlen,?_,?_,?_,?_⟩,?_⟩
  ·rw[Aai];apply Bqy;intro i;rw[Bni,Bni,Bni,Bpd];by_cases hi:i<C5.size
   ·have Md:i<es.length:=by omega
    rw[Bob hi,Bng Md];have:=(hat i es[i] C5[i] (by simp[Md]) (by simp[hi])).2.1;simp[this]
   ·rw[Bqd (by omega),Bpo (by omega)];rfl
  ·intro i x e hx he;simp only[P8,Bni,Bnn]at hx;obtain⟨y,hy,rfl⟩:=hx;exact hat i y e hy he
  ·intro p hp;simp only[P8,Bnp]at hp;obtain⟨y,hy,rfl⟩:=hp;exact h4 _ (Bnr (f:=fun e:Nat×kt.T×Bool×List vt.T=>(e.1,A2q (kt.dv e.2.1),e.2.2.1,e.2.2.2.map vt.ds)) hy)
  ·simpa[P8,Bq6,Bqr]using h5
  ·intro j x e hx he hf hL;exact(h3 j _ e (Mi j x hx) he).2.2.2 hf hL
variable{C5:Array MapEntry}
def Av5.rel{es:J1 kt vt}(hk:kt.key=true)(h:Av5 kt vt L g w b es clock C5):Ce g w b (Tp L kt vt es clock):=by
 have hf:∀(i:Nat) x,es[i]? = some x→(P8 es)[i]? = some (x.1,x.2.1,x.2.2.2):=fun i x hx=>by simp[P8,hx]
 refine .Cx L vt.size _ clock C5 h.m.heap (by have:=h.m.len;simpa[P8]using this) ?_ ?_ ?_
 ·intro i x e hx he;rw[Bni,Bnn]at hx;obtain⟨y,hy,rfl⟩:=hx;obtain⟨a1,a2,a3⟩:=h.m.at' i _ e (hf i y hy) he;simp only[kt.Agx _ hk];exact⟨a1,a2,a3,fun h1 h2=>h.t i y e hy he h1 h2⟩
 ·intro p hp;rw[Bnp]at hp;obtain⟨y,hy,rfl⟩:=hp;exact h.m.lt _ (Bnr (f:=fun e:Nat×kt.T×Bool×List vt.T=>(e.1,e.2.1,e.2.2.2)) hy)
 ·have:=h.m.nodup;simpa[P8,Bq6,Bqr]using this
theorem Av5.lt{es:J1 kt vt}(h:Av5 kt vt L g w b es clock C5):∀p∈es,p.1<clock:=fun y hy=>h.m.lt _ (Bnr (f:=fun e:Nat×kt.T×Bool×List vt.T=>(e.1,e.2.1,e.2.2.2)) hy)
theorem Av5.nodup{es:J1 kt vt}(h:Av5 kt vt L g w b es clock C5):(es.map (·.1)).Nodup:=by have:=h.m.nodup;simpa[P8,Bq6,Bqr]using this
def Av6{es es':J1 kt vt}(hl:es'.length=es.length)(h:∀(j:Nat) (x':Av4 kt vt),es'[j]? = some x'→∃x:Av4 kt vt,es[j]? = some x∧x'.1=x.1∧x'.2.1=x.2.1∧x'.2.2.2=x.2.2.2):Au0 (lT es) (lT es'):=by
 refine⟨by simp[lT,hl],fun j x' hx=>?_⟩;simp only[lT,Bni,Bnn]at hx;obtain⟨y,hy,rfl⟩:=hx;obtain⟨x,a1,a2,a3,a4⟩:=h j y hy;refine⟨(x.1,A2q (kt.dv x.2.1),x.2.2.1,x.2.2.2.map vt.ds),by simp[lT,a1],a2,?_,?_⟩
 ·simp only[a3]
 ·simp only[a4]
end
section
variable{P:Program}{o:Oper}{X:Ad}{kt vt:Ty}
def Av7(k L:Nat)(ho:o.op = .makeMap t none)(hk:X.objs.lookup k=none)(hX:Br [k] X=true)(hL:L∉X.live)(hXL:Br [L] X=true) :
  Ca P o [] X ⟨(k,Tp L kt vt [] 0)::X.objs,L::X.live⟩ [L,k] (.mp k):=by
 intro nm G3 B g w a hr Bg next Q hn
 obtain⟨hr1,ht1⟩:=hr.A13 hL none hXL (by simp);obtain⟨h1,h2⟩:=hr1.newObj (k:=k) hk hX (.map #[] 0) (Tp L kt vt [] 0) (by
  intro g' w' _ hw;exact .Cx L vt.size [] 0 #[] hw rfl (by simp) (by simp) (by simp))
 unfold Oper.wp;have:(execOp a.eval o).run P w = .ok (.value (.map (some w.heap.size))) (w.alloc (.map #[] 0)):=by simp[execOp,ho,Instr.makeMap]
 rw[this];refine hn _ _ _ h1 (ht1.trans h2) (.nm _ _ _ ?_);show Value.map (some w.heap.size) = .map (some (O3 g.ρ k w.heap.size k));rw[Ah]
def Aze{vt:Ty}(ok:Bool)(n:Nat)(l:List vt.T)(b:Bool):AV:=if ok then .Er [.Cv n vt.size (l.map vt.ds),.d (.bool b)]else .Cv n vt.size (l.map vt.ds)
def B4w{l:List vt.T}{u:Value}{b:Bool}(h:RA g w (.Cv n vt.size (l.map vt.ds)) u):RA g w (Aze ok n l b) (if ok then .tuple #[u,.bool b]else u):=by
 cases ok with
 |false=>exact h
 |true =>
  refine .Er _ _ rfl fun i c x hc hx=>?_
  rcases i with _|_|i
  ·simp at hc hx;subst hc;subst hx;exact h
  ·simp at hc hx;subst hc;subst hx;exact .Jz _ _ _
  ·simp at hc
def Aak:Value→A7 Nat
 |.slice (some a) _ _=>some a.block
 |_=>none
def Azf{es:J1 kt vt}{a:kt.T}{i:TypeInfo}(ho:o.op = .lookup t x y ok)(hm:Aly P t kt (.sl vt) e)(hi:P.info? e=some i)(hz:i.zero=some (.slice none 0 0))
  (hk:X.objs.lookup k=some (Tp L kt vt es clock)) (Ql:Zw k L X) (hf:A7b a es=true) (hn:n∉X.live) (hnX:Br [n] ⟨Ab.setObj k (Tp L kt vt (Ko a es) clock) X.objs,X.live⟩=true) (hL:L∈X.live) :
  Ca P o [(x,.mp k),(y,.d (kt.dv a))] X ⟨Ab.setObj k (Tp L kt vt (Ko a es) clock) X.objs,n::X.live⟩ [L,n] (Aze ok n (A83 a es) (B4v a es)):=by
 intro nm G3 B g w ac hr Bg next Q Gu
 obtain⟨kty,hu,hK⟩:=hm.und;have h1:=(Lz Bg).A11;have h2:ac.eval y=kt.Ei a:=by
  have:=rd1 Bg;cases this with
  |d _ _ h=>exact kt.Wm hK.key h
 simp only at h1;obtain⟨C5,hw⟩:=Aqr hK.key (hr.objs k _ hk);have hLs:(g.β L).isSome:=(hr.live L).1 hL;have hfd:=hw.m.find hK a;have hc:=hK.check C5.isEmpty 9998 a w;have Mi:=Bq3 (P:=P) hw.m.heap;have hlen:es.length=C5.size:=by have:=hw.m.len;simpa[P8]using this
 obtain⟨val,Fj,hval,Ag7⟩:∃val,(execOp ac.eval o).run P w = .ok (.value (if ok then .tuple #[val,.bool (B4v a es)]else val)) w∧RD g.γ w (.sl vt.size ((A83 a es).map vt.ds)) val∧Acd g w L (Qo a es clock) vt.size val:=by
  rw[Aai]at hfd;have hth:=Ad6 a es;cases hj:I4 kt a (es.map (·.2.1)) with
  |none =>
   rw[hj]at hfd hth;simp only[Bri]at hfd hth;refine⟨.slice none 0 0,?_,?_,trivial⟩
   ·simp only[execOp,ho,h1,h2,Instr.lookup,Boc,Bns hu,Bo5,Bql,Mi,hc,hfd];simp[zeroValue,typeInfo,hi,hz,B4v,hth]
   ·simp only[A83,hth,Bo8];exact .nil _ _ _ fun _=>rfl
  |some j =>
   have H7:=Ye hj;rw[Bo1]at H7;have hja:j<C5.size:=by omega
   rw[hj]at hfd hth;simp only[Bnb,Bob hja,Bol]at hfd;simp only[Bnb,Bng H7,Bol]at hth;refine⟨C5[j].val,?_,?_,?_⟩
   ·simp only[execOp,ho,h1,h2,Instr.lookup,Boc,Bns hu,Bo5,Bql,Mi,hc,hfd];simp[B4v,hth]
   ·have:=(hw.m.at' j (es[j].1,es[j].2.1,es[j].2.2.2) C5[j] (by simp[P8,H7]) (by simp[hja])).2.2;simp only[A83,hth];exact this
   ·have hfl:es[j].2.2.1=true:=by simpa[A7b,hth]using hf
    have:=hw.t j es[j] C5[j] (by simp[H7]) (by simp[hja]) hfl hLs;simp only[Qo,hth];exact this
 have B8v:=B23 a es;obtain⟨hr1,ht1⟩:=hr.Bi8 (i:=Qo a es clock) (l:=lT es) (l':=lT (Ko a es)) hk Ql (Av6 B8v.1 fun j x' hx=>by
   obtain⟨x,a1,a2,a3,a4,_⟩:=B8v.2 j x' hx;exact⟨x,a1,a2,a3,a4⟩) (by
  intro j x' x hx' hx B8w;simp only[lT,Bni,Bnn]at hx hx';obtain⟨y',hy',rfl⟩:=hx';obtain⟨y0,hy,rfl⟩:=hx;obtain⟨x,a1,a2,a3,a4,a5⟩:=B8v.2 j y' hy';rw[hy]at a1;cases a1;obtain⟨b1,b2⟩:=a5 B8w;exact⟨b1,B24 hy b2 hw.lt hw.nodup⟩)
 obtain⟨hr2,ht2⟩:=hr1.A13 (m:=n) hn (Aak val) hnX (by
  intro b hb;cases val with
  |slice ad len cap =>
   cases ad with
   |none=>simp[Aak]at hb
   |some ad =>
    simp only[Aak,Bnf]at hb;subst hb;obtain⟨q1,q2,q3,q4⟩:=Ag7;refine⟨hr.eta.lt L _ _ hLs q2,hr.eta.new L _ _ hLs q2,fun j p hj=>?_,fun m hm=>hr.eta.Cv L _ _ m hLs q2 hm,fun L' i' hL' he=>?_⟩
    ·obtain⟨q,hq⟩:=Y8 hk hj;exact hr.eta.obj L _ _ j q hLs q2 hq
    ·simp only at he hL';by_cases hl:L'=L
     ·subst hl;rw[Ah]at he;by_cases Md:i'=Qo a es clock
      ·subst Md;rw[Ah]at he;cases he
      ·rw[Ai _ _ Md]at he;exact Md (hr.eta.inj _ _ _ _ _ hLs hLs he q2).2
     ·rw[Ai _ _ hl]at he;exact hl (hr.eta.inj _ _ _ _ _ hL' hLs he q2).1
  |_=>simp[Aak]at hb)
 unfold Oper.wp;rw[Fj];refine Gu _ w _ hr2 (ht1.trans ht2) (B4w (.Cv n vt.size _ none _ hval ?_));cases val with
 |slice ad len cap =>
  cases ad with
  |none=>trivial
  |some ad =>obtain⟨q1,q2,q3,q4⟩:=Ag7;intro ob' A2o;simp only[Ah,Bnf]at A2o;exact⟨q1,A2o.symm,q3,q4,by simp⟩
 |_=>trivial
theorem A7c(k:Nat)(o o':Ob):∀l:A6 (Nat×Ob),Ab.setObj k o (Ab.setObj k o' l)=Ab.setObj k o l
 |[]=>by simp[Ab.setObj]
 |(j,p)::r=>by
  simp only[Ab.setObj];by_cases h:j=k
  ·simp[h,Ab.setObj]
  ·simp only[Bnv h,Ab.setObj,A7c k o o' r]
def A6o.update{es:F8 kt vt}{C5:Array MapEntry}{kty:TypeId}(hw:A6o kt vt g w b es clock C5)(hu:P.underlying t=some (.map kty e))(hK:A2r P kty kt)(a:kt.T)(v:vt.T)(val:Value)(h3:RD g.γ w (vt.dv v) val) :
  ∃as',(Instr.mapUpdate t (.map (some b)) (kt.Ei a) val).run P w = .ok () { w with heap:=w.heap.setIfInBounds b (.map as' (Ry a es clock)) } ∧
   (∀w',w'.heap[b]? = some (.map as' (Ry a es clock))→LeD g.γ w g.γ w'→A6o kt vt g w' b (N8 a v clock es) (Ry a es clock) as') ∧
   ∀(j:Nat) e',as'[j]? = some e'→(j=(I4 kt a (es.map (·.2.1))).getD es.length∧e'.val=val)∨(j≠(I4 kt a (es.map (·.2.1))).getD es.length∧C5[j]? = some e'):=by
 have hf:=hw.find hK a;have hc:=hK.check false 9998 a w;have hst:=hK.stays a w;have Mi:=Bq3 (P:=P) hw.heap;have Zr:=A1i (P:=P) hw.heap;have ec:=Anb a es clock;cases hj:I4 kt a (es.map (·.2.1)) with
 |none =>
  rw[hj]at hf;simp only[Bri]at hf;rw[hj]at ec;simp only at ec;rw[ec,Ad2 hj];refine⟨C5.push { key:=kt.Ei a,val:=val,born:=clock },?_,?_,?_⟩
  ·simp only[Instr.mapUpdate,Boc,Bns hu,Bo5,Mi,hc,hf,Zr]
  ·intro w' Iy hle;refine⟨Iy,by simp[hw.len],by simp[hw.keys],?_,?_,?_⟩
   ·intro i q m hq Ut;by_cases hi:i<es.length
    ·rw[Bqm hi]at hq;rw[Bto,Bnv (by rw[← hw.len];omega)]at Ut;have:=hw.at' i q m hq Ut;exact⟨this.1,this.2.1,this.2.2.mono hle⟩
    ·rw[Bqi (by omega)]at hq;have hi0:i=es.length:=by
      by_cases h0:i-es.length=0
      ·omega
      ·rw[Bpo (by simp;omega)]at hq;cases hq
     subst hi0;simp at hq;rw[hw.len]at Ut;simp at Ut;subst hq;subst Ut;exact⟨rfl,rfl,h3.mono hle⟩
   ·intro p hp;rcases Bnk.1 hp with hp|hp
    ·have:=hw.lt p hp;omega
    ·simp at hp;subst hp;exact Br5 _
   ·rw[Bo4,Brb];refine⟨hw.nodup,by simp,?_⟩;intro p hp q hq;simp at hq;subst hq;obtain⟨y',hy',rfl⟩:=Bnp.1 hp;have:=hw.lt y' hy';omega
  ·intro j e' he;simp only[Option.getD_none];rw[Bto,← hw.len]at he;split at he
   ·rename_i hjj;cases he;exact .inl ⟨hjj,rfl⟩
   ·rename_i hjj;exact .inr ⟨hjj,he⟩
 |some j =>
  have H7:=Ye hj;rw[Bo1]at H7;have hja:j<C5.size:=by rw[← hw.len];exact H7
  have hat:=Aqe hK.key hj;rw[Bni,Bng H7]at hat;simp only[Bol,Bnf]at hat;have hkj:C5[j].key=kt.Ei a:=by rw[(hw.at' j es[j] C5[j] (by simp[H7]) (by simp[hja])).2.1,hat]
  rw[hj]at hf;simp only[Bnb,Bob hja,Bol]at hf;rw[hj]at ec;simp only at ec;rw[ec,Ad3 hj];refine⟨C5.modify j fun q=>{ q with key:=kt.Ei a,val:=val },?_,?_,?_⟩
  ·simp only[Instr.mapUpdate,Boc,Bns hu,Bo5,Mi,hc,hf,Bob hja,Bol,Bs1,hkj,hst,Zr]
  ·intro w' Iy hle;have Aqi:∀(i:Nat) q m,(es.modify j fun q=>(q.1,a,v))[i]? = some q→(C5.modify j fun q=>{ q with key:=kt.Ei a,val:=val })[i]? = some m→m.born=q.1∧m.key=kt.Ei q.2.1∧RD g.γ w' (vt.dv q.2.2) m.val:=by
    intro i q m hq Ut;rw[List.getElem?_modify]at hq;rw[Bq7]at Ut;by_cases hij:j=i
    ·subst hij;rw[Bng H7]at hq;rw[Bob hja]at Ut;simp at hq Ut;subst hq;subst Ut;exact⟨(hw.at' j es[j] C5[j] (by simp[H7]) (by simp[hja])).1,rfl,h3.mono hle⟩
    ·rw[Bnv hij]at Ut;simp only[hij,Bpi]at hq;have:=hw.at' i q m (by simpa using hq) Ut;exact⟨this.1,this.2.1,this.2.2.mono hle⟩
   refine⟨Iy,by simp[hw.len],?_,Aqi,?_,?_⟩
   ·apply Bqy;intro i;rw[Bni,Bni,Bni,Bpd];by_cases hi:i<C5.size
    ·have Md:i<es.length:=by rw[hw.len];exact hi
     have hA:i<(C5.modify j fun q=>{ q with key:=kt.Ei a,val:=val }).size:=by simpa using hi
     have hE:i<(es.modify j fun q=>(q.1,a,v)).length:=by simpa using Md
     rw[Bob hA,Bng hE];have:=(Aqi i _ _ (Bng hE) (Bob hA)).2.1;simp only[Bol,this]
    ·rw[Bqd (by simpa using hi),Bpo (by simp[hw.len];omega)];rfl
   ·intro p hp;have h5:p.1∈((es.modify j fun q=>(q.1,a,v)).map (·.1)):=Bnr (f:=(·.1)) hp;rw[R8 (fun q:Nat×kt.T×vt.T=>q.1) (fun q:Nat×kt.T×vt.T=>(q.1,a,v)) (fun _=>rfl) es j]at h5;obtain⟨q,hq,he⟩:=Bnp.1 h5;rw[← he];exact hw.lt q hq
   ·rw[R8 (fun q:Nat×kt.T×vt.T=>q.1) (fun q:Nat×kt.T×vt.T=>(q.1,a,v)) (fun _=>rfl) es j];exact hw.nodup
  ·intro i e' he;simp only[Bs1];rw[Bq7]at he;by_cases hij:j=i
   ·subst hij;rw[Bo3 rfl,Bob hja]at he;simp at he;subst he;exact .inl ⟨rfl,rfl⟩
   ·rw[Bnv hij]at he;exact .inr ⟨Bq5 hij,he⟩
def Am2{es:J1 kt vt}{a:kt.T}{v:List vt.T}{ty:A7 TypeId}(ho:o.op = .mapUpdate t x y u∨o.op = .insert t x y u)(hm:Aly P t kt (.sl vt) e)
  (hk:X.objs.lookup k=some (Tp L kt vt es clock)) (Ql:Zw k L X) (hnl:n∈X.live) :
  Ca P o [(x,.mp k),(y,.d (kt.dv a)),(u,.Cv n vt.size (v.map vt.ds) ty)] X ⟨Ab.setObj k (Tp L kt vt (Hk a v true clock es) (Ry a (P8 es) clock)) X.objs,X.live.filter (· != n)⟩ [L] (.d (.sc undef)):=by
 intro nm G3 B g w ac hr Bg next Q hn
 obtain⟨kty,hu,hK⟩:=hm.und;have h1:=(Lz Bg).A11;have h2:ac.eval y=kt.Ei a:=by
  have:=rd1 Bg;cases this with
  |d _ _ h=>exact kt.Wm hK.key h
 obtain⟨h3,h4⟩:RD g.γ w ((Ty.sl vt).dv v) (ac.eval u)∧A73 g w n vt.size ty (ac.eval u):=by
  have:=rd2 Bg;cases this with
  |Cv _ _ _ _ _ h h'=>exact⟨h,h'⟩
 simp only at h1;obtain⟨C5,hw⟩:=Aqr hK.key (hr.objs k _ hk);obtain⟨as',e1,e2,e3⟩:=hw.m.update hu hK a v (ac.eval u) h3;rw[Aai]at e3;have hJ:(I4 kt a (es.map (·.2.1))).getD (P8 es).length=Am1 a es:=by simp[Am1,P8]
 rw[hJ]at e3;have By:g.ρ k<w.heap.size:=(Bny.1 hw.m.heap).1;obtain⟨w1,hw1⟩:∃w1:World,w1 = { w with heap:=w.heap.setIfInBounds (g.ρ k) (.map as' (Ry a (P8 es) clock)) }:=⟨_,rfl⟩;have hb1:w1.heap[g.ρ k]? = some (.map as' (Ry a (P8 es) clock)):=by rw[hw1];simp[By]
 obtain⟨hr1,ht1⟩:=hr.write (w':=w1) (o':=Tp L kt vt (Hk a v false clock es) (Ry a (P8 es) clock)) hk (by rw[hw1];simp) (by rw[hw1];exact⟨rfl,rfl,rfl,Bno _⟩)
  (by intro b Iy;rw[hw1];simp[Bq5 Iy]) (fun ht=>Av5.rel hK.key (C5:=as') ⟨by rw[Aqp];exact e2 w1 hb1 ht.le,by
   intro j q m hq Ut hfl hL;rcases Aaj a v false clock es j q hq with ⟨p1,p2,p3⟩|⟨p1,p2⟩
   ·rw[p2]at hfl;cases hfl
   ·rcases e3 j m Ut with ⟨r1,r2⟩|⟨r1,r2⟩
    ·exact(p1 r1).elim
    ·exact(hw.t j q m p2 r2 hfl hL).Cc ht (by simp) hL⟩) (by
   intro sh hsh;simp[World.shape?,hw.m.heap]at hsh)
 obtain⟨ob,My⟩:∃ob,g.β n=some ob:=Boj.1 ((hr.live n).1 hnl);have h4':A73 g w1 n vt.size ty (ac.eval u):=h4.Cc ht1 (by simp);obtain⟨hr2,ht2⟩:=hr1.B1j n;have hk2:(Ab.setObj k (Tp L kt vt (Hk a v false clock es) (Ry a (P8 es) clock)) X.objs).lookup k=some (Tp L kt vt (Hk a v false clock es) (Ry a (P8 es) clock)):=by rw[B5,Bo3 rfl]
 have Amv:=Anf a v false true clock es;obtain⟨hr3,ht3⟩:=hr2.Bia (i:=Qo a es clock) (ob:=Aak (ac.eval u)) (l:=lT (Hk a v false clock es)) (l':=lT (Hk a v true clock es)) (L:=L) hk2 (by
   intro j p hj hp;simp only at hp;rw[B5,Bnv hj]at hp;exact Ql j p hj hp) (by
   intro b hb;have Aln:g.β n=some (some b):=by
    generalize ac.eval u=val at hb h4;cases val with
    |slice ad len cap =>
     cases ad with
     |none=>simp[Aak]at hb
     |some ad =>simp only[Aak,Bnf]at hb;subst hb;rw[My,(h4 ob My).2.1]
    |_=>simp[Aak]at hb
   refine⟨hr1.D9 n b Aln,hr1.D0 n b Aln,fun j p hj=>hr1.Bz n b j p Aln hj,fun m hm=>?_,hr1.eta.Ato Aln⟩;by_cases he:m=n
   ·subst he;simp[Ah]at hm
   ·simp only[Ai _ _ he]at hm;exact he (hr1.Cq m n b hm Aln)) (Av6 Amv.1 Amv.2) (by
   intro j x' x0 hx' hx B8w;simp only[lT,Bni,Bnn]at hx hx';obtain⟨y',hy',rfl⟩:=hx';obtain⟨y0,hy0,rfl⟩:=hx;rcases Aaj a v true clock es j y' hy' with ⟨p1,p2,p3⟩|⟨p1,p2⟩
   ·right;rcases Aaj a v false clock es j y0 hy0 with ⟨r1,r2,r3⟩|⟨r1,r2⟩
    ·refine⟨r3,?_⟩;intro bs m hbs Ut;simp only at hbs;rw[hb1]at hbs;cases hbs;rcases e3 j m Ut with ⟨s1,s2⟩|⟨s1,s2⟩
     ·rw[s2];generalize ac.eval u=val at h4';cases val with
      |slice ad len cap =>
       cases ad with
       |none=>trivial
       |some ad =>obtain⟨q1,q2,q3,q4,_⟩:=h4' ob My;refine⟨q1,?_,q3,q4⟩;simp only[Ah,Aak]
      |_=>trivial
     ·exact(s1 p1).elim
    ·exact(r1 p1).elim
   ·left;rcases Aaj a v false clock es j y0 hy0 with ⟨r1,r2,r3⟩|⟨r1,r2⟩
    ·exact(p1 r1).elim
    ·rw[p2]at r2;cases r2;exact⟨B8w,B24 p2 p1 hw.lt hw.nodup⟩)
 have Fj:(execOp ac.eval o).run P w = .ok .skip w1:=by rw[hw1];rcases ho with ho|ho<;>simp[execOp,ho,h1,h2,e1]
 unfold Oper.wp;rw[Fj];have hX:Ab.setObj k (Tp L kt vt (Hk a v true clock es) (Ry a (P8 es) clock)) (Ab.setObj k (Tp L kt vt (Hk a v false clock es) (Ry a (P8 es) clock)) X.objs)=Ab.setObj k (Tp L kt vt (Hk a v true clock es) (Ry a (P8 es) clock)) X.objs:=A7c _ _ _ _;have Biq:HR nm B _ w1 ⟨Ab.setObj k (Tp L kt vt (Hk a v true clock es) (Ry a (P8 es) clock)) (Ab.setObj k (Tp L kt vt (Hk a v false clock es) (Ry a (P8 es) clock)) X.objs),X.live.filter (· != n)⟩:=hr3;rw[hX]at Biq;exact hn _ _ undef Biq ((ht1.trans ht2).trans ht3) (.Jz _ _ _)
end
section
variable{P:Program}{R:Type}
def Ad7(m:Nat):Nat:=500000+m
def Bcs(P:Program)(t:TypeId):A7 (Ty×Ty) :=
 match A3m P t with
 |some (kt,.sl vt)=>some (kt,vt)
 |_=>none
def Ad8(P:Program)(st:Ak)(o:Oper)(t:TypeId)(r:A7 Operand)(K:Out→A7 R):A7 R :=
 match r with
 |none=>match Bcs P t,newName o with
  |some ts,some m=>cond (fresh m st) (cond (Z4 (Ad7 m) st.live st) (K ⟨.all,.nm m .m,[],(m,.Cx (Ad7 m) ts.1 ts.2 [] 0)::st.objs,Ad7 m::st.live,[Ad7 m,m],[m]⟩) none) none
  |_,_=>none
 |some _=>none
def Aqs{o:Oper}{K:Out→A7 R}{r:R}(ho:o.op = .makeMap t rs)(h:Ad8 P st o t rs K=some r):∃out,K out=some r∧Cr P o st out:=by
 unfold Ad8 at h;split at h
 ·split at h
  ·rename_i ts m hm hn;cases hf:fresh m st with
   |false=>simp[hf]at h
   |true =>
   cases hl:Z4 (Ad7 m) st.live st with
   |false=>simp[hf,hl]at h
   |true =>
    simp only[hf,hl,Bna]at h;obtain⟨h1,h2⟩:=Tj hf;obtain⟨h3,h4⟩:=A5l hl;refine⟨_,h,⟨by simp[Bc],?_,fun j z hj hz=>?_⟩⟩
    ·exact Av7 (kt:=ts.1) (vt:=ts.2) m (Ad7 m) ho (Tk h1) h2 h3 h4
    ·rw[Eb (by simpa using hj)]at hz;exact hz
  ·cases h
 ·cases h
def A02(k L:Nat)(st:Ak):Bool:=Fw [L] (Mw k (.Vw [] 0) st.objs)
def Aal(hp:Zx k (.Vw [] 0) st.objs=true)(h:A02 k L st=true):Zw k L st.X:=by
 have h1:=O7 (live:=st.live) h;intro j o hj ho;have h2:(Aa (Mw k (.Vw [] 0) st.objs)).lookup j=some o:=by rw[Ya hp,B5,Bnv hj];exact ho
 rcases Ja h1 h2 with h3|h3
 ·cases h3
 ·exact h3
def Aqt(P:Program)(e:TypeId):Bool :=
 match P.info? e with
 |some i=>match i.zero with
  |some (.slice none 0 0)=>true
  |_=>false
 |none=>false
def B4x(h:Aqt P e=true):∃i,P.info? e=some i∧i.zero=some (.slice none 0 0):=by
 unfold Aqt at h;split at h
 ·rename_i i hi;split at h
  ·rename_i hz;exact⟨i,hi,hz⟩
  ·cases h
 ·cases h
def Bgg{vt:Ty}(ok:Bool)(n:Nat)(l:List vt.T)(b:Bool):XV:=cond ok (.Er [.Cv n vt l none,.d (.b b)]) (.Cv n vt l none)
def Bgh(ok:Bool)(n:Nat)(l:List vt.T)(b:Bool):(Bgg ok n l b).a=Aze ok n l b:=by cases ok<;>rfl
def Aii(P:Program)(st:Ak)(o:Oper)(t:TypeId)(x y:Operand)(ok:Bool)(K:Out→A7 R):A7 R :=
 match Bj st x with
 |some (.nm k .m)=>match lk k st.objs with
  |some (.Cx L kt vt es c)=>match Wn P t kt,xd st y,Ayx o with
   |some e,some a,some n=>match kt.A38 a with
    |some a=>cond (Aqt P e) (cond (inl L st.live) (cond (inl n st.live) none (cond (A02 k L st) (cond (Fw [n] (Mw k (.Cx L kt vt (Ko a es) c) st.objs)) (cond (A7b a es)
      (K ⟨.P9 k (.Cx L kt vt (Ko a es) c),Bgg ok n (A83 a es) (B4v a es),[(x,.nm k .m),(y,.d (kt.xv a))],Mw k (.Cx L kt vt (Ko a es) c) st.objs,n::st.live,[L,n],[k]⟩) none) none) none)) none) none
    |_=>none
   |_,_,_=>none
  |_=>none
 |_=>none
def Av8{o:Oper}{K:Out→A7 R}{r:R}(ho:o.op = .lookup t x y ok)(h:Aii P st o t x y ok K=some r):∃out,K out=some r∧Cr P o st out:=by
 unfold Aii at h;split at h
 ·rename_i k hx;split at h
  ·rename_i L kt vt es c hk;split at h
   ·rename_i e a0 n hm hy hn;split at h
    ·rename_i a ha;cases h1:Aqt P e with
     |false=>simp[h1]at h
     |true =>
     cases h2:inl L st.live with
     |false=>simp[h1,h2]at h
     |true =>
     cases h3:inl n st.live with
     |true=>simp[h1,h2,h3]at h
     |false =>
     cases h4:A02 k L st with
     |false=>simp[h1,h2,h3,h4]at h
     |true =>
     cases h5:Fw [n] (Mw k (.Cx L kt vt (Ko a es) c) st.objs) with
     |false=>simp[h1,h2,h3,h4,h5]at h
     |true =>
     cases h6:A7b a es with
     |false=>simp[h1,h2,h3,h4,h5,h6]at h
     |true =>
      simp only[h1,h2,h3,h4,h5,h6,Bna,Bnc]at h;obtain⟨i,z1,z2⟩:=B4x h1;refine⟨_,h,⟨?_,?_,fun j z hj hz=>?_⟩⟩
      ·intro p hp;simp only[Bc,Bnh,Bo8,Bnd,Boa,Bpa]at hp;rcases hp with rfl|rfl
       ·exact Ax hx
       ·exact To hy ha
      ·have hfr:=O7 (live:=st.live) h5;have hp:Zx k (.Cx L kt vt (Ko a es) c) st.objs=true:=Kc hk rfl rfl;rw[Ya hp]at hfr;have:=Azf (P:=P) (X:=st.X) (k:=k) (L:=L) (n:=n) (es:=es) (clock:=c) (a:=a) ho (R9 (vt:=.sl vt) hm) z1 z2 (Q2 hk) (Aal (Kc hk rfl rfl) h4) h6 (fun hh=>by rw[(E7 n st.live).2 hh]at h3;cases h3) hfr ((E7 L st.live).1 h2);refine⟨⟨hp,rfl⟩,?_⟩;show Ca P o _ st.X ⟨Aa (Mw k (.Cx L kt vt (Ko a es) c) st.objs),n::st.live⟩ [L,n] (Bgg ok n (A83 a es) (B4v a es)).a;rw[Ya hp,Bgh];exact this
      ·simp only[Bnd,Boa,Bpa]at hj
       rwa [O9 _ _ _ _ hj]at hz
    ·cases h
   ·cases h
  ·cases h
 ·cases h
def Yf(P:Program)(st:Ak)(t:TypeId)(x y u:Operand)(K:Out→A7 R):A7 R :=
 match Bj st x with
 |some (.nm k .m)=>match lk k st.objs with
  |some (.Cx L kt vt es c)=>match Wn P t kt,xd st y,Bj st u with
   |some e,some a,some (.Cv n vt' l ty)=>match kt.A38 a with
    |some a=>if h:vt'.Jx vt=true then
      cond (inl n st.live) (cond (A02 k L st)
       (K ⟨.P9 k (.Cx L kt vt (Hk a (Ty.Av h▸l:List vt.T) true c es) (Ry a (P8 es) c)),.d (.v undef),[(x,.nm k .m),(y,.d (kt.xv a)),(u,.Cv n vt' l ty)],Mw k (.Cx L kt vt (Hk a (Ty.Av h▸l:List vt.T) true c es) (Ry a (P8 es) c)) st.objs,A58 n st.live,[L],[k]⟩) none) none
      else none
    |_=>none
   |_,_,_=>none
  |_=>none
 |_=>none
def A3o{o:Oper}{K:Out→A7 R}{r:R}(ho:o.op = .mapUpdate t x y u∨o.op = .insert t x y u)(h:Yf P st t x y u K=some r):∃out,K out=some r∧Cr P o st out:=by
 unfold Yf at h;split at h
 ·rename_i k hx;split at h
  ·rename_i L kt vt es c hk;split at h
   ·rename_i e a0 n vt' l ty hm hy hu;split at h
    ·rename_i a ha;split at h
     ·rename_i he;have e0:=Ty.Av he;subst e0;cases h1:inl n st.live with
      |false=>simp[h1]at h
      |true =>
      cases h2:A02 k L st with
      |false=>simp[h1,h2]at h
      |true =>
       simp only[h1,h2,Bna]at h;refine⟨_,h,⟨?_,?_,fun j z hj hz=>?_⟩⟩
       ·intro p hp;simp only[Bc,Bnh,Bo8,Bnd,Boa,Bpa]at hp;rcases hp with rfl|rfl|rfl
        ·exact Ax hx
        ·exact To hy ha
        ·exact Ax hu
       ·have:=Am2 (P:=P) (X:=st.X) (k:=k) (L:=L) (n:=n) (es:=es) (clock:=c) (a:=a) (v:=l) (ty:=ty) ho (R9 (vt:=.sl vt') hm) (Q2 hk) (Aal (Kc hk rfl rfl) h2) ((E7 n st.live).1 h1);have hp:Zx k (.Cx L kt vt' (Hk a l true c es) (Ry a (P8 es) c)) st.objs=true:=Kc hk rfl rfl;refine⟨⟨hp,rfl⟩,?_⟩;show Ca P o _ st.X ⟨Aa (Mw k _ st.objs),_⟩ [L] _;rw[Ya hp];exact this
       ·simp only[Bnd,Boa,Bpa]at hj
        rwa [O9 _ _ _ _ hj]at hz
     ·cases h
    ·cases h
   ·cases h
  ·cases h
 ·cases h
def A5m(st:Ak)(x:Operand):Bool :=
 match Bj st x with
 |some (.nm k .m)=>match lk k st.objs with
  |some (.Cx _ _ _ _ _)=>true
  |_=>false
 |_=>false
def Bct:Af→Af
 |.Cx _ kt vt es c=>.map kt (.sl vt) (P8 es) c
 |o=>o
def Ad9:Af→Bool
 |.Cx _ _ _ _ _=>true
 |_=>false
def A3p:A6 (Nat×Af)→A6 (Nat×Af)
 |[]=>[]
 |p::r=>(p.1,Bct p.2)::A3p r
def Aam:A6 (Nat×Af)→A6 Nat
 |[]=>[]
 |p::r=>cond (Ad9 p.2) (p.1::Aam r) (Aam r)
def B8x(st:Ak):Ak:=⟨st.env,A3p st.objs,st.live,st.wl,Aam st.objs++st.ol⟩
theorem B25(k:Nat):∀l:A6 (Nat×Af),lk k (A3p l)=(lk k l).map Bct
 |[]=>rfl
 |p::r=>by
  simp only[A3p,G7];cases Nat.beq p.1 k with
  |true=>rfl
  |false=>exact B25 k r
def B4y(o:Af):(Bct o).C7=o.C7:=by cases o<;>rfl
theorem Aqu:∀l:A6 (Nat×Af),D4 (A3p l)=D4 l
 |[]=>rfl
 |p::r=>by simp only[A3p,D4,B4y,Aqu r]
theorem Af2{k:Nat}{o:Af}:∀ {l:A6 (Nat×Af)},lk k l=some o→Ad9 o=true→k∈Aam l
 |[],h,_=>by cases h
 |p::r,h,hm=>by
  simp only[G7]at h;simp only[Aam];cases hb:Nat.beq p.1 k with
  |true =>rw[hb]at h;simp only[Bna,Bnf]at h;rw[h,hm,Bna,Bne hb];exact Bnm
  |false =>
   rw[hb]at h;simp only[Bnc]at h;have:=Af2 h hm;cases Ad9 p.2 with
   |true=>exact Bnl _ this
   |false=>exact this
def Aij{o:Af}(h:Ad9 o=false):Bct o=o:=by cases o<;>first|rfl|cases h
def B4z(es:J1 kt vt):Uf vt.size (lT es)=(P8 es).map fun e=>(e.1,A2q (kt.dv e.2.1),(Ty.sl vt).dv e.2.2):=by simp only[Uf,lT,P8,Bq6];rfl
def SR.fg{S:Sig}{B:B8}{a:Act}(h:SR S B g w st.im a):SR S B g w (B8x st).im a:=by
 refine⟨h.defers,h.size,?_,h.env⟩;refine h.hr.plain rfl ?_ ?_
 ·intro k hk;show((Aa (A3p st.objs)).lookup k).isSome;have hk:((Aa st.objs).lookup k).isSome:=hk;unfold Aa at hk⊢;rw[Bpp,Wi]at hk⊢;rw[B25,Aqu];cases hl:lk k st.objs with
  |none=>rw[hl]at hk;exact hk
  |some o=>rfl
 ·intro k o' hk;have hk:(Aa (A3p st.objs)).lookup k=some o':=hk;show(Aa st.objs).lookup k=some o'∨∃L sz l c,(Aa st.objs).lookup k=_∧_;unfold Aa at hk⊢;rw[Bpp,Wi]at hk⊢;rw[B25,Aqu]at hk;cases hl:lk k st.objs with
  |none=>rw[hl]at hk;exact .inl hk
  |some o =>
   rw[hl]at hk;simp only[Bol,Brh,Bnf]at hk⊢;subst hk;cases hm:Ad9 o with
   |false=>left;rw[Aij hm]
   |true =>
    right;cases o with
    |Cx L kt vt es c =>refine⟨L,vt.size,lT es,c,rfl,?_⟩;rw[B4z];rfl
    |_=>cases hm
end
section
variable(kt vt:Ty)
@[reducible] def Agh (es:J1 kt vt):F8 kt (.sl vt):=P8 es
@[reducible] def Bet (a:kt.T) (v:List vt.T) (f:Bool) (clock:Nat) (es:J1 kt vt):J1 kt vt:=Hk a v f clock es
@[reducible] def B26 (a:kt.T) (es:J1 kt vt):J1 kt vt:=Ko a es
@[reducible] def Af3 (a:kt.T) (es:J1 kt vt):List vt.T:=A83 a es
@[reducible] def Aqv (a:kt.T) (es:J1 kt vt):Bool:=A7b a es
@[reducible] def B27 (a:kt.T) (es:F8 kt vt):Option vt.T:=Sf a es
@[reducible] def Beu (a:kt.T) (v:vt.T) (clock:Nat) (es:F8 kt vt):F8 kt vt:=N8 a v clock es
@[reducible] def B28 (a:kt.T) (es:F8 kt vt) (clock:Nat):Nat:=Ry a es clock
end
def Af4{k:TypeId}(ht:P.underlying t=some (.map k e))(p:A7 Nat)(w:World):(Op.equal t (.map p) (.map none)).run P w = .ok p.isNone w:=by
 have h:∀d:Nat,(Op.equalIn (d+1) t (.map p) (.map none)).run P w = .ok p.isNone w:=by intro d;cases p<;>simp[Op.equalIn,Bns ht]
 exact h 9999
def Af5(neg:Bool)(t:TypeId)(x y:Operand)(p q:A7 Nat):eqGuard (Aae neg) t x y (.map p) (.map q)=pure ():=by cases neg<;>rfl
def Azg{o:Oper}{X:Ad}(neg:Bool)(ho:o.op = .binOp (Aae neg) t x y t')(ht:P.underlying t=some (.map k' e)) :
  Ca P o [(x,.nm k .m),(y,.d (.sc (.map none)))] X X [] (.d (.sc (.bool neg))) :=
 .quiet fun _ _ g w ac _ Bg=>by
  have h1:=Lz Bg;have h2:=(rd1 Bg).Be;simp only at h1 h2;have hv:ac.eval x = .map (some (g.ρ k)):=by cases h1 with|nm _ _ _ h=>exact h
  refine⟨_,?_,.Jz _ _ _⟩;simp only[execOp,ho,hv,h2];rw[Af5];cases neg<;>simp[Aae,binOp,Af4 ht]
def Azh{o:Oper}{X:Ad}(neg:Bool)(ho:o.op = .binOp (Aae neg) t x y t')(ht:P.underlying t=some (.map k' e)) :
  Ca P o [(x,.d (.sc (.map none))),(y,.d (.sc (.map none)))] X X [] (.d (.sc (.bool (!neg)))) :=
 .quiet fun _ _ g w ac _ Bg=>by
  have h1:=(Lz Bg).Be;have h2:=(rd1 Bg).Be;simp only at h1 h2;refine⟨_,?_,.Jz _ _ _⟩;simp only[execOp,ho,h1,h2];rw[Af5];cases neg<;>simp[Aae,binOp,Af4 ht]
section
variable{P:Program}{R:Type}
end
def A5n{c:Call}{l:A6 Operand}(h:c.args.toList=l):c.args=l.toArray:=by rw[← h]
def o2{α:Type}{b:Bool}{x:A7 α}{r:α}(h:cond b x none=some r):b=true∧x=some r:=by
 cases b with
 |true=>exact⟨rfl,h⟩
 |false=>cases h
end Go.Xl
namespace Go.Ab
section
variable{P:Program}{o:Oper}{X:Ad}
theorem Ang{α:Type}(zs:A6 α):∀(n:Nat) (j:Nat),j<n*zs.length→((List.replicate n zs).flatten)[j]? = zs[j % zs.length]?
 |0,j,h=>by omega
 |n+1,j,h=>by
  rw[List.replicate_succ,Bph,Boz];split
  ·rename_i By;rw[Buf By]
  ·rename_i hge;rw[Ang zs n (j-zs.length) (by rw[Bpx]at h;omega)];congr 1;exact(Nat.mod_eq_sub_mod (by omega)).symm
def Ada(m:Nat){t e:TypeId}{n:Nat}{Bn3:Array (Nat×Operand)}{zs out xs:A6 AV}{i:TypeInfo}{z:Value}(ho:o.op = .buildSlice t n Bn3)(ht:P.underlying t=some (.slice e))
  (hi:P.info? e=some i) (hz:i.zero=some z) (hzs:Wc zs z.cells.toList) (hzl:z.cells.size=i.size) (hx:xs.length=Bn3.size) (Jr:xs.all A6k=true)
  (hf:Y5 (fun j=>some (j*i.size,i.size)) ((List.replicate n zs).flatten) ((Bn3.toList.map (·.1)).zip xs)=some out)
  (A2n:n*i.size≤16777216) (hk:X.objs.lookup m=none) (hX:Br [m] X=true) (hfr:C9 [m] out=true) :
  Ca P o ((Bn3.toList.map (·.2)).zip xs) X ⟨(m,.cells out (some e))::X.objs,X.live⟩ [m] (.nm m (.s 0 n i.size)):=by
 intro nm G3 B g w a hr Bg next Q hn
 unfold Oper.wp;have Bgi:zs.length=i.size:=by have h1:zs.length=z.cells.toList.length:=(hzs.ra g w).1;rw[h1,Bp2,hzl]
 generalize A2g:((Array.range (n*i.size)).map fun x=>(if n*i.size=0 then #[]else z.cells)[x % (if n*i.size=0 then #[]else z.cells).size]!)=A9i;have Ahl:A9i.size=n*i.size:=by subst A2g;simp
 have hfl:((List.replicate n zs).flatten).length=n*i.size:=by simp[Bgi]
 obtain⟨Dq,A74,Hv,hc'⟩:=Ahe (g:=g) (w:=w) (place:=fun j=>some (j*i.size,i.size)) ((Bn3.toList.map (·.1)).zip xs) (Bn3.toList.map fun p=>(p.1,a.eval p.2)) ((List.replicate n zs).flatten) A9i out
  (by simp[hx]) (by
   intro j p q hp hq;rw[Bni,Bnn]at hq;obtain⟨r,hr',rfl⟩:=hq;rw[Bqn]at hp;obtain⟨h1,h2⟩:=hp;rw[Bni,hr']at h1;refine⟨by simpa using h1.symm,?_⟩;exact Bg (r.2,p.2) (Boe (i:=j) (by
    rw[Bqn];exact⟨by rw[Bni,hr'];rfl,h2⟩))) (by
   rw[Bok];intro p hp;exact Bok.1 Jr p.2 (Buh hp).2) (by rw[hfl,Ahl]) (by
   intro j x v hx' hv;have By:j<n*i.size:=by have:=(Bnj.1 hx').1;omega
   have h0:¬(n*i.size=0):=by omega
   have Ud:0<i.size:=by
    rcases Bpl i.size with h|h
    ·rw[h]at By;simp at By
    ·exact h
   rw[Ang zs n j (by rw[Bgi];exact By)]at hx';rw[← A2g,Array.getElem?_map]at hv;simp only[h0,Bpi]at hv;rw[Array.getElem?_range,Bo3 By]at hv;simp only[Bol,Bnf]at hv;have hm:j % z.cells.size<z.cells.size:=Bt0 _ (by omega);refine(hzs.ra g w).2 (j % zs.length) x v hx' ?_;rw[Bpd,Bgi,← hzl,← hv];rw[Bsw z.cells _ hm];simp[hm]) hf
 have Fj:(execOp a.eval o).run P w = .ok (.value (.slice (some ⟨w.heap.size,0,none⟩) n n)) (w.alloc (.cells Dq e)):=by
  simp only[execOp,ho,Instr.buildSlice];have h24:¬(n*i.size>2 ^ 24):=by omega
  by_cases h0:n*i.size=0
  ·have e0:A9i=#[]:=Bos (by omega);subst e0;have Pz:Instr.fill (fun j=>some (j*i.size,i.size)) #[] (Bn3.toList.map fun p=>(p.1,a.eval p.2))=some Dq:=A74;simp only[Boc,Bns ht,Bo5,run_sizeOf hi,h0,Bpz];simp[Bt4,Pz,Go.newRow]
  ·simp only[h0,Bpi]at A2g;have Pz:Instr.fill (fun j=>some (j*i.size,i.size)) A9i (Bn3.toList.map fun p=>(p.1,a.eval p.2))=some Dq:=A74;simp only[Boc,Bns ht,Bo5,run_sizeOf hi,h24,Bpi,h0];simp[zeroValue,typeInfo,hi,hz,A2g,Pz,Go.newRow]
 have hlen:∀(Bn3:A6 (Nat×AV)) (cs out:A6 AV),Y5 (fun j=>some (j*i.size,i.size)) cs Bn3=some out→out.length=cs.length:=by
  intro Bn3;induction Bn3 with
  |nil=>intro cs out h;simp[Y5]at h;rw[h]
  |cons p r ih =>
   intro cs out h;simp only[Y5]at h;split at h
   ·rename_i hc;rw[ih _ _ h,Yx (by omega)]
   ·cases h
 have Bir:=hlen _ _ _ hf;rw[hfl]at Bir;obtain⟨hr2,ht2⟩:=hr.newObj (k:=m) hk hX (.cells Dq e) (.cells out (some e)) (by
  intro g' w' ht' hw';exact .cells _ _ Dq e hw' (Buy Hv) (fun j y v hy hv=>(hc' j y v hy hv).mono ht' (Qz (Mz hfr hy))) (fun _ e=>(Br6 e).symm))
 rw[Fj];refine hn _ _ _ hr2 ht2 (.nm _ _ _ ?_);simp only[Ah];exact⟨n,0,Bno _,rfl,.inr rfl,e,Dq.size,by unfold World.shape?;rw[Bqw],by omega⟩
end
end Go.Ab
namespace Go.Xl
open Go.Ab
section
variable{P:Program}
def c2{α:Type}{b:Bool}{x:A7 α}{y:α}(h:cond b x none=some y):b=true∧x=some y:=by cases b<;>simp at h⊢;exact h
def Bcu(n:Nat)(zs:A6 XV):A6 XV:=match n with
 |0=>[]
 |n+1=>zs++Bcu n zs
theorem B8y(zs:A6 XV):∀n,Ae (Bcu n zs)=(List.replicate n (Ae zs)).flatten
 |0=>rfl
 |n+1=>by simp only[Bcu,Eg,B8y zs n,List.replicate_succ,Bph]
def plN(sz:Nat):Nat→Nat→A6 (Nat×Nat)
 |_,0=>[]
 |j,n+1=>(j*sz,sz)::plN sz (j+1) n
theorem B29(sz:Nat):∀(n j k:Nat) p,(plN sz j n)[k]? = some p→p=((j+k)*sz,sz)
 |0,j,k,p,h=>by simp[plN]at h
 |n+1,j,k,p,h=>by
  cases k with
  |zero=>simp[plN]at h;rw[← h];rfl
  |succ k =>simp only[plN,Bt3]at h;rw[B29 sz n (j+1) k p h];congr 2;omega
theorem Av9{f g:Nat→A7 (Nat×Nat)}(h:∀i p,f i=some p→g i=some p):∀(Bn3:A6 (Nat×AV)) (cs out:A6 AV),Y5 f cs Bn3=some out→Y5 g cs Bn3=some out
 |[],cs,out,hf=>hf
 |p::r,cs,out,hf=>by
  simp only[Y5]at hf⊢;cases hp:f p.1 with
  |none=>rw[hp]at hf;cases hf
  |some q =>
   rw[hp]at hf;rw[h _ _ hp];simp only at hf⊢;split at hf
   ·rename_i hc;rw[Bo3 hc];exact Av9 h r _ _ hf
   ·cases hf
def Aqw(P:Program)(st:Ak)(o:Oper)(t:TypeId)(n:Nat)(Bn3:Array (Nat×Operand)):A7 Out :=
 match P.underlying t with
 |some (.slice e)=>match P.info? e with
  |some i=>match i.zero with
   |some z=>match newName o,Ci st (Bn3.toList.map (·.2)) with
    |some m,some vs =>
     cond (Nat.beq z.cells.size i.size) (cond (Sd vs) (match An5 (plN i.size 0 n) (Bcu n (z.cells.toList.map fun v=>.d (A1b v))) ((Bn3.toList.map (·.1)).zip vs) with
      |some out=>cond (Nat.ble (n*i.size) 16777216) (cond (fresh m st) (cond (C9 [m] (Ae out)) (some ⟨.all,.nm m (.s 0 n i.size),(Bn3.toList.map (·.2)).zip vs,(m,.cells out (some e))::st.objs,st.live,[m],[m]⟩) none) none) none
      |none=>none) none) none
    |_,_=>none
   |none=>none
  |none=>none
 |_=>none
variable{o:Oper}{st:Ak}{t:TypeId}{out:Out}{x:Operand}
def Azi{n:Nat}{Bn3:Array (Nat×Operand)}(ho:o.op = .buildSlice t n Bn3)(h:Aqw P st o t n Bn3=some out):Cr P o st out:=by
 unfold Aqw at h;split at h
 ·rename_i e ht;split at h
  ·rename_i i hi;split at h
   ·rename_i z hz;split at h
    ·rename_i m vs hm Qx;cases h1:Nat.beq z.cells.size i.size with
     |false=>simp[h1]at h
     |true =>
     cases h2:Sd vs with
     |false=>simp[h1,h2]at h
     |true =>
     simp only[h1,h2,Bna]at h;split at h
     ·rename_i cs Tg;cases h3:Nat.ble (n*i.size) 16777216 with
      |false=>simp[h3]at h
      |true =>
      cases h4:fresh m st with
      |false=>simp[h3,h4]at h
      |true =>
      cases h5:C9 [m] (Ae cs) with
      |false=>simp[h3,h4,h5]at h
      |true =>
      simp only[h3,h4,h5,Bna,Bnf]at h;subst h;obtain⟨f1,f2⟩:=Tj h4;refine⟨Yc Qx,?_,fun j z hj hz=>?_⟩
      ·have hf:=Apu Tg;rw[Ber,B8y]at hf;have:=Ada (P:=P) (X:=st.X) (xs:=Ae vs) m ho ht hi hz (Ayp z.cells.toList) (Bne h1) (by rw[Aq,I3 Qx];simp) (A3i h2)
        (Av9 (fun j p hp=>by have:=B29 _ _ _ _ _ hp;rw[Bog]at this;rw[this]) _ _ _ hf) (Bnu h3) (Tk f1) f2 h5
       rw[Kd];exact this
      ·rw[Eb (by simpa using hj)]at hz;exact hz
     ·cases h
    ·cases h
   ·cases h
  ·cases h
 ·cases h
def B8z(P:Program)(st:Ak)(ts:Array TypeId)(x:Operand):A7 Out :=
 match Bj st x with
 |some (.nm k (.s off len sz))=>match ts[0]? with
  |some t=>match P.underlying t with
   |some (.slice _)=>some (Bu st (.d (.i .i64 (len:Int))) [(x,.nm k (.s off len sz))])
   |_=>none
  |none=>none
 |_=>none
def B90{ts:Array TypeId}(ho:o.op = .call { callee:=.builtin .len,args:=#[x],argTypes:=ts })(h:B8z P st ts x=some out):Cr P o st out:=by
 unfold B8z at h;split at h
 ·rename_i k off len sz hx;split at h
  ·rename_i t ht0;split at h
   ·rename_i e ht;cases h;exact Ag (Ea hx) fun X=>Ahv ho ht0 ht
   ·cases h
  ·cases h
 ·cases h
def Aqx(P:Program)(st:Ak)(t:TypeId)(x y:Operand):A7 Out :=
 match Bj st x with
 |some (.nm k (.s off len sz))=>match Gb P t,xd st y,Alx st y with
  |some (_,sz',_),some b,some n=>cond (Nat.beq sz' sz) (cond (decide (0≤n∧n<(len:Int))) (some (Bu st (.nm k (.p (off+n.toNat*sz))) [(x,.nm k (.s off len sz)),(y,.d b)])) none) none
  |_,_,_=>none
 |_=>none
def Azk{y:Operand}(ho:o.op = .indexAddr t x y)(h:Aqx P st t x y=some out):Cr P o st out:=by
 unfold Aqx at h;split at h
 ·rename_i k off len sz hx;split at h
  ·rename_i e sz' by0 b n hs hb hn;cases h1:Nat.beq sz' sz with
   |false=>simp[h1]at h
   |true =>
   cases h2:decide (0≤n∧n<(len:Int)) with
   |false=>simp[h1,h2]at h
   |true =>
   simp only[h1,h2,Bna,Bnf]at h;subst h;have e1:=Bne h1;subst e1;obtain⟨c0,c1⟩:=of_decide_eq_true h2;obtain⟨a,kk,ha,had⟩:=Qm hn;rw[hb]at ha;cases ha;refine Ag ?_ fun X=>?_
   ·intro p hp;simp only[Bc,Bnh,Bo8,Bnd,Boa,Bpa]at hp;rcases hp with rfl|rfl
    ·exact Ax hx
    ·exact Aa2 hb
   ·have:=Zu (P:=P) (X:=X) (k:=k) (off:=off) (j:=kk) ho (Cs hs) c0 c1;simp only[Bc,Bnh,Bo8,XV.a,had];exact this
  ·cases h
 ·cases h
structure XG where
 run:Program→Oper→Ak→Option Out
end
end Go.Xl
