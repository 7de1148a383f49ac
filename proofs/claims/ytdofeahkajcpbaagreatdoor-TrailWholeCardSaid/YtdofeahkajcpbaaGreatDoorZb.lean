import Derived.Test.YtdofeahkajcpbaaGreatDoorZa
import Derived.Lib.BufferWrite
import Derived.Laws.MakeOwn
import Derived.Laws.AppendOwn
import Derived.Lib.ConvBytes
import Derived.Laws.CopyRow
import Derived.Below
import Derived.ProofKit
import Derived.Sort.Grow
import Derived.Shelf.GgSortFunc.InsertionK
import Derived.Shelf.SlSortCmp.NoneTotal
import Derived.Lib.Builder
import Derived.LaidEqlPtr
import Derived.MapKept
import Derived.WideKeyRuns
set_option linter.unusedVariables false
set_option linter.unusedSimpArgs false
set_option linter.unnecessarySimpa false
open Go.IntKind (i64 u64 u16)
noncomputable section
namespace Go.Ab
open Go Go.RowKit Go.Lib
theorem Ap4{α:Type}{n j:Nat}{x y:α}(h:(List.replicate n x)[j]? = some y):y=x:=List.eq_of_mem_replicate (Bln h)
section
variable{P:Program}{o:Oper}{X:A7}
theorem Ap5(m:Nat){t e:TypeId}{x y:Operand}{kl kc:IntKind}{n:Nat}{i:TypeInfo}{z:Value}{zds:A2 D}(ho:o.op = .makeSlice t x y)(ht:P.underlying t=some (.slice e))
  (hi:P.info? e=some i) (hz:i.zero=some z) (G9:i.size=zds.length) (hzs:z.cells.size=zds.length) (hzc:∀(γ:Nat→Nat) (w:World) (j:Nat) c v,zds[j]? = some c→z.cells[j]? = some v→RD γ w c v)
  (A5k:0<zds.length) (Wg:i.bytes*n≤281474976710656) (h63:n≤9223372036854775807) (hm:X.objs.lookup m=none) (hX:B7 [m] X=true) (ty:A3 TypeId) (Yl:∀t',ty=some t'→t'=e) :
  Bp P o [(x,.d (.sc (.int kl n))),(y,.d (.sc (.int kc n)))] X ⟨(m,.cells ((List.replicate n zds).flatten.map .d) ty)::X.objs,X.live⟩ [m] (.osl m 0 n zds.length):=by
 intro nm Ek B g w a hr Aq next Q hn
 have h1:=(H9 Aq).Al;have h2:=(T9 Aq).Al;simp only at h1 h2;have hfl:(List.replicate n zds).flatten.length=n*zds.length:=by rw[F1 (sz:=zds.length) _ (fun j cs hj=>by rw[Ap4 hj]),List.length_replicate]
 have C2:=run_make (P:=P) w t e i z ht hi hz kl kc (n:Int) (n:Int) (by omega) (Bpz _) (by rw[← Int.natCast_mul];generalize i.bytes*n=q at Wg⊢;omega) (by omega);rw[Bpx]at C2;obtain⟨r1,r2⟩:=hr.newObj (k:=m) hm hX (.cells (madeCells z.cells (n*i.size)) e) (.cells ((List.replicate n zds).flatten.map .d) ty) (by
  intro g' w' ht' hw';refine .cells _ ty _ e hw' (by rw[Blb,hfl,size_madeCells,G9];exact Bl1 _) ?_ Yl;intro j c v hc hv;rw[Bkt,Bky]at hc;obtain⟨d,hd,rfl⟩:=hc;obtain⟨p,q,ds,rfl,hp,hq⟩:=Yr (sz:=zds.length) _ (fun j cs hj=>by rw[Ap4 hj]) j d hd;have hds:ds=zds:=Ap4 hp;subst hds;have hql:q<ds.length:=(Bku.1 hq).1;have Bs:p*ds.length+q<n*i.size:=by have:=(Bku.1 hd).1;rw[hfl]at this;rw[G9];exact this
  unfold madeCells at hv;simp only[Bqp,Array.getElem?_range,Bs,Bn5,Blq,Bks]at hv;have Bik:(p*ds.length+q) % z.cells.size=q:=by rw[hzs,Nat.mul_comm,Nat.mul_add_mod,Bq1 hql]
  rw[Bik,Bpe z.cells q (by omega)]at hv;exact .d _ _ (hzc _ _ q d v hq (by rw[← hv];exact Bli (by omega))))
 unfold Oper.wp;have:(execOp a.eval o).run P w = .ok (.value (.slice (some ⟨w.heap.size,0,none⟩) n n)) (w.alloc (.cells (madeCells z.cells (n*i.size)) e)):=by simp[execOp,ho,h1,h2,C2]
 rw[this];refine hn _ _ _ r1 r2 (.nm _ _ _ ?_);simp only[Aa];exact⟨n,0,Bl1 _,rfl,.inr rfl,e,n*zds.length,by unfold World.shape?;rw[Bni];simp[size_madeCells,G9],by omega⟩
theorem Wx{w:World}{b:Nat}{arr:Array Value}{T:TypeId}{fr:Nat×Nat}(h:w.heap[b]? = some (.cells arr T fr)):w.shape? b=some (T,arr.size):=by simp[World.shape?,h]
theorem Atg{ts:Array TypeId}{x y:Operand}{dT sT e:TypeId}{i:TypeInfo}{k:Nat}{l s:A2 UInt8}{ty:A3 TypeId}(ho:o.op = .call { callee:=.builtin .copy,args:=#[x,y],argTypes:=ts })(hts:ts=#[dT,sT])
  (hu:P.underlying dT=some (.slice e)) (hi:P.info? e=some i) (G9:i.size=1) (hk:X.objs.lookup k=some (.cells ((Cv l).flatten.map .d) ty)) (hl:l.length=s.length) :
  Bp P o [(x,.osl k 0 l.length 1),(y,.d (.sc (.string ⟨s.toArray⟩)))] X ⟨setObj k (.cells ((Cv s).flatten.map .d) ty) X.objs,X.live⟩ [] (.d (.sc (.int .i64 s.length))):=by
 subst hts;intro nm Ek B g w a hr Aq next Q hn
 have h1:=(H9 Aq).Q1;have h2:=(T9 Aq).Al;simp only at h1 h2;obtain⟨cap,q,Sc,hv,hq,T,c,hsh,hc⟩:=h1;cases hr.objs k _ hk with
 |cells _ _ arr T' hb hlen hcc Yl =>
 have hbl:(Cv l).flatten.length=l.length:=by rw[F1 (sz:=1) _ (fun j cs hj=>by obtain⟨b,_,rfl⟩:=Km hj;rfl),D0,Bp1]
 have hbs:(Cv s).flatten.length=s.length:=by rw[F1 (sz:=1) _ (fun j cs hj=>by obtain⟨b,_,rfl⟩:=Km hj;rfl),D0,Bp1]
 rw[Blb,hbl]at hlen;rw[Wx hb]at hsh;simp only[Bks,Bld]at hsh;obtain⟨rfl,rfl⟩:=hsh;have hss:(⟨s.toArray⟩:ByteArray).size=s.length:=by show s.toArray.size=_;simp
 have hdl:(⟨s.toArray⟩:ByteArray).data.toList=s:=by simp
 have C2:=Lib.run_copy_row_string (P:=P) w dT sT o.type e (g.ρ k) q l.length cap ⟨s.toArray⟩ arr T' hu (by rw[hi];simp[G9]) hb (by rw[hss,hl];exact Bl1 _) (by rw[hss];omega);rw[hss,hdl]at C2;have hq0:s.length=0∨q=0:=by
  rcases hq with h|h
  ·left;omega
  ·exact .inr h
 generalize hY:(arr.toList.take q++Lib.byteCells s++arr.toList.drop (q+s.length)).toArray=Y at C2;have G0:(w.setRow (g.ρ k) Y).heap[g.ρ k]? = some (.cells Y T' (0,0)):=setRow_heap _ _ arr _ T' (0,0) hb;have hYs:Y.size=arr.size:=by rw[← hY];simp[Lib.byteCells_length];omega
 obtain⟨r1,r2⟩:=hr.write (w':=w.setRow (g.ρ k) Y) hk (o':=.cells ((Cv s).flatten.map .d) ty) (by simp) ⟨rfl,rfl,rfl,Bl1 _⟩ (fun b hb2=>setRow_other _ _ _ _ hb2) (by
  intro ht';refine .cells _ ty Y T' G0 (by rw[Blb,hbs,hYs];omega) ?_ Yl;intro j z u hz hu;rw[Bkt,Bky]at hz;obtain⟨d,hd,rfl⟩:=hz;have hjl:j<s.length:=by have:=(Bku.1 hd).1;rw[hbs]at this;exact this
  have hq':q=0:=by
   rcases hq0 with h|h
   ·omega
   ·exact h
  subst hq';obtain⟨p,r,ds,rfl,hp,hr'⟩:=Yr (sz:=1) _ (fun j cs hj=>by obtain⟨b,_,rfl⟩:=Km hj;rfl) j d hd;obtain⟨b,hb0,rfl⟩:=Km hp;have hr0:r=0:=by have:=(Bku.1 hr').1;simp at this;exact this
  subst hr0;simp only[Bo3,Bks]at hr';subst hr';rw[← hY]at hu;simp only[List.take_zero,Bm0,Bn8,Bp1,Bnr]at hu hjl;rw[Bnl (by rw[Lib.byteCells_length];exact hjl)]at hu;unfold Lib.byteCells at hu;rw[Bkt,hb0]at hu;simp only[Blq,Bks]at hu;subst hu;exact .Fh _ _ _) (by
   intro sh hs0;rw[Wx hb]at hs0;rw[Wx G0,hYs];exact hs0)
 unfold Oper.wp;have:(execOp a.eval o).run P w = .ok (.value (goInt s.length)) (w.setRow (g.ρ k) Y):=by simp[execOp,ho,resolve,hv,h2,invoke,builtin,C2]
 rw[this];exact hn _ _ _ r1 r2 (.Fh _ _ _)
theorem Akw{x y:Operand}{pt it e k:Nat}{l:A2 UInt8}(ho:o.op = .call { callee:=.builtin .unsafeString,args:=#[x,y],argTypes:=#[pt,it] })(hk:X.objs.lookup k=some (.cells ((Cv l).flatten.map .d) (some e)))(hk1:1000≤k)(hl:l≠[])
  (hp:P.underlying pt=some (.pointer e)) (hc:P.cellsOf e=1) (hlen:l.length≤9223372036854775807) :
  Bp P o [(x,.ptr k 0),(y,.d (.sc (.int .i64 l.length)))] X (B1 k X) [] (.d (.sc (.string ⟨l.toArray⟩))):=by
 intro nm Ek B g w a hr Aq next Q Eo
 have h1:=(H9 Aq).Is;have h2:=(T9 Aq).Al;simp only at h1 h2;have hkn:k∉nm:=fun hh=>by have:=Ek k hh;omega
 have hbl:(Cv l).flatten.length=l.length:=by rw[F1 (sz:=1) _ (fun j cs hj=>by obtain⟨b,_,rfl⟩:=Km hj;rfl),D0,Bp1]
 cases hr.objs k _ hk with
 |cells _ _ arr T hb hle hcc Yl =>
 have:=Yl e rfl;subst this;rw[Blb,hbl]at hle;have Jv:∀j u,l[j]? = some u→w.cell? ((⟨g.ρ k,0,none⟩:Addr).add j)=some (.int .u8 u.toNat):=by
  intro j u hu;rw[addr_add,Blx];have hjl:j<l.length:=(Bku.1 hu).1;rw[Bg hb];have hja:j<arr.size:=by omega
  have hd:(Cv l).flatten[j]? = some (.sc (.int .u8 u.toNat)):=by have:=A48 (sz:=1) (Cv l) (fun j cs hj=>by obtain⟨b,_,rfl⟩:=Km hj;rfl) j 0 [.sc (.int .u8 u.toNat)] (.sc (.int .u8 u.toNat)) (by simp[Cv,hu]) rfl;simpa using this
  have:=hcc j (.d (.sc (.int .u8 u.toNat))) arr[j] (by rw[Bkt,hd];rfl) (Bli hja);have:=this.Al;simp[hja,this]
 have C2:=run_unsafeString_row (P:=P) w pt it o.type e hp hc (g.ρ k) arr.size (Wx hb) l hl hle hlen Jv;have Yk:=hr.B1 hkn;have hfz:∀b',b'≠g.ρ k→(w.freeze ⟨g.ρ k,0,none⟩ l.length).heap[b']? = w.heap[b']?:=by
  intro b' G0;unfold World.freeze;split
  ·rfl
  ·simp only[Bm7];rw[Blj (by simpa using G0.symm)]
 have Kz:∀j ob,(Ab.B1 k X).objs.lookup j=some ob→j≠k∧X.objs.lookup j=some ob:=by
  intro j ob hj;simp only[Ab.B1,Dr]at hj;split at hj
  ·cases hj
  ·exact⟨‹_›,hj⟩
 have hγ:g.γ (g.ρ k)=0:=hr.Fx k _ hk;obtain⟨Xx,V4⟩:=Yk.raise (w':=w.freeze ⟨g.ρ k,0,none⟩ l.length) (b:=g.ρ k) (n:=g.γ (g.ρ k)) (Blf.1 hb).1 (hr.Ce k _ hk) (fun j ob hj he=>by
   obtain⟨e1,e2⟩:=Kz j ob hj;exact e1 (hr.C0 j k _ _ e2 hk he.symm)) (fun m hm=>hr.Bo m _ k _ hm hk rfl)
  (hr.eta.B2h hk) (by unfold World.freeze;split<;>simp) (by unfold World.freeze;split<;>exact⟨rfl,rfl,rfl,Bl1 _⟩) hfz (fun i hi=>by omega) (Bl1 _) (fun i hi=>by omega) (by
   intro s hs0;unfold World.freeze;split
   ·exact hs0
   ·simp only[World.shape?,Bm7,Bn5]at hs0⊢;cases hh:w.heap[g.ρ k]? with
    |none=>rw[hh]at hs0;exact hs0
    |some o=>rw[hh]at hs0;cases o<;>exact hs0)
 unfold Oper.wp;have:(execOp a.eval o).run P w = .ok (.value (.string ⟨l.toArray⟩)) (w.freeze ⟨g.ρ k,0,none⟩ l.length):=by simp[execOp,ho,resolve,h1,h2,invoke,builtin,C2]
 rw[this];exact Eo _ _ _ Xx V4 (.Fh _ _ _)
theorem Afg{x:Operand}{sT dT e:TypeId}{s:A2 UInt8}(ho:o.op = .convert sT dT x)(hs:P.underlying sT=some .string)(hd:P.underlying dT=some (.slice e))(he:P.underlying e=some (.int .u8)) :
  Bp P o [(x,.d (.sc (.string ⟨s.toArray⟩)))] X X [] (.d (.sl 1 (Cv s))):=by
 intro nm Ek B g w a hr Aq next Q hn
 have h1:=(H9 Aq).Al;simp only at h1;have C2:=Lib.run_convert_string_bytes (P:=P) w sT dT e ⟨s.toArray⟩ hs hd he;have hss:(⟨s.toArray⟩:ByteArray).size=s.length:=by show s.toArray.size=_;simp
 rw[hss]at C2;generalize hW:Lib.bytesWorld w e ⟨s.toArray⟩=w' at C2;have G9:w'.heap.size=w.heap.size+1:=by rw[← hW];exact Lib.bytesWorld_size _ _ _
 have hold:∀b,b<w.heap.size→w'.heap[b]? = w.heap[b]?:=fun b hb=>by rw[← hW];exact Lib.bytesWorld_at_old _ _ _ _ hb
 have A1r:=Lib.bytesWorld_at_new w e ⟨s.toArray⟩;rw[hW]at A1r;have hio:w'.os=w.os∧w'.output=w.output∧w'.tape=w.tape∧w.drawn≤w'.drawn:=by
  rw[← hW];unfold Lib.bytesWorld World.freeze;split
  ·exact⟨rfl,rfl,rfl,Nat.le_succ _⟩
  ·exact⟨rfl,rfl,rfl,Nat.le_succ _⟩
 have Sc:s.length≤grownCap w s.length 0 e:=Bqn _ _ _ _;have Q2:s.length≤(Lib.bytesCells w e ⟨s.toArray⟩).size:=by unfold Lib.bytesCells;simp
 obtain⟨r1,t1⟩:=hr.grow (w':=w') (by omega) hold hio;have Jv:∀j u,s[j]? = some u→w'.cell? ⟨w.heap.size,j,none⟩=some (.int .u8 u.toNat):=by intro j u hu;have hj:=(Bku.1 hu).1;have:=Lib.bytesWorld_cell w e ⟨s.toArray⟩ j (by rw[hss];exact hj);rw[hW]at this;rw[this];simp[List.getD,hu]
 obtain⟨r2,t2⟩:=r1.raise (w':=w') (b:=w.heap.size) (n:=s.length) (by omega) (.inl hr.base) (fun k ob hk he'=>by
  have:=Ey (hr.objs k ob hk);omega) (fun m hm=>by have:=hr.Cd m _ hm;omega) (hr.eta.Yj (Bl1 _)) rfl ⟨rfl,rfl,rfl,Bl1 _⟩ (fun _ _=>rfl) (fun _ _=>rfl) (by rw[γ_top hr (Bl1 _)];omega) (fun i hi=>by
  rw[Jv i s[i] (by simp[hi])];rfl) (fun _ h=>h)
 unfold Oper.wp;have:(execOp a.eval o).run P w = .ok (.value (.slice (some ⟨w.heap.size,0,none⟩) s.length (grownCap w s.length 0 e))) w':=by simp[execOp,ho,h1,C2]
 rw[this];refine hn _ _ _ r2 (t1.trans t2) (.d _ _ (.O3 (D0 s).symm (by simp only[Aa];omega) Sc ?_ ?_))
 ·intro j cs hj;obtain⟨b,_,rfl⟩:=Km hj;rfl
 ·intro p q cs c u hp hq hu;obtain⟨b,hb,rfl⟩:=Km hp;have hq0:q=0:=by have:=(Bku.1 hq).1;simp at this;exact this
  subst hq0;simp only[Bo3,Bks]at hq;subst hq;rw[show 0+(p*1+0)=p by omega,Jv p b hb]at hu;cases hu;exact .sc _
end
def A18(l:A2 UInt8):A2 (A2 D):=l.map fun c=>[.sc (.int .u8 ((c.toNat:Nat):Int))]
theorem A76{P:Program}(l:A2 UInt8)(w:World):(Builtin.firstCells 1 l.length (.string ⟨l.toArray⟩)).run P w = .ok (l.map fun c=>Value.int .u8 ((c.toNat:Nat):Int)).toArray w:=by
 have h:((⟨l.toArray⟩:ByteArray).extract 0 l.length).data=l.toArray:=by rw[Brl];simp
 simp[Builtin.firstCells]
theorem Baa{P:Program}{g:Gh}{w:World}{l:A2 UInt8}{fs:A2 (A2 D)}{sz:Nat}{vx:Value}(hs1:sz=1)(hfs:fs=A18 l)(h:RD g.γ w (.bs l) vx) :
  vx = .string ⟨l.toArray⟩∧(∀(i:Nat) cs,fs[i]? = some cs→cs.length=sz)∧∃Bkf:A2 Value,Bkf.length=fs.length*sz ∧
   (∀w':World,(∀b k,k<g.γ b→w'.cell? ⟨b,k,none⟩=w.cell? ⟨b,k,none⟩)→(Builtin.firstCells sz fs.length (.string ⟨l.toArray⟩)).run P w' = .ok Bkf.toArray w') ∧
   ∀(p q:Nat) cs c v,fs[p]? = some cs→cs[q]? = some c→Bkf[p*sz+q]? = some v→RD g.γ w c v:=by
 subst hs1;subst hfs;have hlen:(A18 l).length=l.length:=by rw[A18,Blb]
 refine⟨by cases h;rfl,?_,l.map fun c=>Value.int .u8 ((c.toNat:Nat):Int),by rw[Blb,hlen,Bp1],?_,?_⟩
 ·intro i cs Q2;rw[A18,Bkt,Bky]at Q2;obtain⟨c,_,rfl⟩:=Q2;rfl
 ·intro w' _;rw[hlen];exact A76 l w'
 ·intro p q cs c v hp hq hv;rw[A18,Bkt,Bky]at hp;obtain⟨d,hd,rfl⟩:=hp;cases q with
  |succ q=>simp at hq
  |zero =>simp at hq;subst hq;rw[Bp1,Bnr,Bkt,hd]at hv;simp at hv;subst hv;exact .sc _
theorem N7{P:Program}{w w':World}{ts:Array TypeId}{ty t e u:TypeId}{i:TypeInfo}(h0:ts[0]? = some t)(h1:ts[1]? = some u)(hu:P.underlying u=some .string)
  (ht:P.underlying t=some (.slice e)) (hi:P.info? e=some i)
  {base:A3 Addr} {len cap n:Nat} {l:A2 UInt8} {Bkf:A2 Value} (hl:n=l.length) (hx:(Builtin.firstCells i.size n (.string ⟨l.toArray⟩)).run P w = .ok Bkf.toArray w) (G6:len+n≤cap)
  (hst:(base=none∧w'=w)∨∃a,base=some a∧(storeCells (a.add (len*i.size)) Bkf).run P w = .ok () w') :
  (Builtin.append_ ts ty #[.slice base len cap,.string ⟨l.toArray⟩]).run P w = .ok (.slice base (len+n) cap) w':=by
 have hz:(⟨l.toArray⟩:ByteArray).size=n:=by rw[hl];show l.toArray.size=_;simp
 rcases hst with ⟨rfl,rfl⟩|⟨a,rfl,hst⟩
 ·simp[Builtin.append_,h0,h1,Bl0 ht,Bl0 hu,sizeOf,typeInfo,hi,Builtin.lenOf,hz,G6,hx]
 ·simp[Builtin.append_,h0,h1,Bl0 ht,Bl0 hu,sizeOf,typeInfo,hi,Builtin.lenOf,hz,G6,hx,hst]
theorem A9g{P:Program}{w:World}{ts:Array TypeId}{ty t e u:TypeId}{i:TypeInfo}{z:Value}(h0:ts[0]? = some t)(h1:ts[1]? = some u)(hu:P.underlying u=some .string)
  (ht:P.underlying t=some (.slice e)) (hi:P.info? e=some i) (hz:i.zero=some z)
  {base:A3 Addr} {len cap n:Nat} {l:A2 UInt8} {Bkf olds:A2 Value} (hl:n=l.length) (hx:(Builtin.firstCells i.size n (.string ⟨l.toArray⟩)).run P w.drew = .ok Bkf.toArray w.drew)
  (ho:(Builtin.firstCells i.size len (.slice base len cap)).run P w.drew = .ok olds.toArray w.drew) (G6:¬len+n≤cap)
  (h63:((len+n:Nat):Int)≤9223372036854775807) (h48:(len+n)*i.bytes≤140737488355328) :
  (Builtin.append_ ts ty #[.slice base len cap,.string ⟨l.toArray⟩]).run P w =
   .ok (.slice (some ⟨w.heap.size,0,none⟩) (len+n) (grownCap w (len+n) cap e))
    (w.drew.alloc (.cells (olds.toArray++Bkf.toArray++Builtin.zeroCells z.cells (grownCap w (len+n) cap e-(len+n))) e)):=by
 have hzz:(⟨l.toArray⟩:ByteArray).size=n:=by rw[hl];show l.toArray.size=_;simp
 have Bdk:¬(9223372036854775807<((len:Int)+(n:Int))):=by omega
 have A6y:=growslice_fits (need:=len+n) (old:=cap) (by omega) h48;have Bdl:¬(281474976710656<Builtin.nextslicecap (len+n) cap*i.bytes):=by omega
 simp[Builtin.append_,h0,h1,Bl0 ht,Bl0 hu,sizeOf,typeInfo,zeroValue,hi,hz,Builtin.lenOf,hzz,G6,Bdk,Bdl,Question.forced,hx,ho,Go.newRow,grownCap];congr 2;apply Array.ext';simp[Bnx]
section
variable{P:Program}{o:Oper}{X:A7}
theorem Akx{ty:A3 TypeId}{ts:Array TypeId}{s x:Operand}{n sz:Nat}{es fs:A2 (A2 D)}{l:A2 UInt8}{t u e:TypeId}{i:TypeInfo}{z:Value}(m:Nat)
  (ho:o.op = .call { callee:=.builtin .append,args:=#[s,x],argTypes:=ts }) (h0:ts[0]? = some t) (h1:ts[1]? = some u) (hu:P.underlying u=some .string)
  (ht:P.underlying t=some (.slice e)) (hi:P.info? e=some i) (hz:i.zero=some z) (hzs:z.cells.size=sz) (G9:i.size=sz) (hs1:i.size=1) (hfs:fs=A18 l) (hn:n∈X.live) (hm:m∉X.live.filter (· != n)) (hX:B7 [m] X=true)
  (Iu:∀cs∈fs,∀c∈cs,Zw c=true) (Wg:(es.length+fs.length)*i.bytes≤140737488355328) (hlen:es.length+fs.length≤4611686018427387904)
  (Yl:∀e',ty=some e'→e'=e) :
  Bp P o [(s,.Bu n sz es ty),(x,.d (.bs l))] X ⟨X.objs,m::X.live.filter (· != n)⟩ [m] (.Bu m sz (es++fs) ty):=by
 subst G9;intro nm Ek B g w a hr Aq next Q Eo
 have e1:=H9 Aq;have e2:=T9 Aq;simp only at e1 e2;unfold Oper.wp;have C2:∀r,(Builtin.append_ ts o.type #[a.eval s,a.eval x]).run P w=r→(execOp a.eval o).run P w=r.andThen fun v w'=>.ok (.value v) w':=by intro r hr';simp only[execOp,ho,resolve];simp[invoke,builtin,hr']
 generalize a.eval s=vs at e1 C2;generalize a.eval x=vx at e2 C2;cases e1 with
 |Bu _ _ _ _ _ e1 A8y =>
 cases e2 with
 |d _ _ e2 =>
 obtain⟨base,cap,rfl,Sc,hbn,Bdm,olds,hol,At3,hoc⟩:=e1.Zv (P:=P) hr.Ik;obtain⟨rfl,A6z,Bkf,hnl,A21,hnc⟩:=Baa (P:=P) (g:=g) hs1 hfs e2;have hfl:fs.length=l.length:=by rw[hfs,A18,Blb]
 have Yp:=Rc Bdm A6z;have Gg:∃ob,g.β n=some ob:=Blm.1 ((hr.live n).1 hn);obtain⟨ob,Gg⟩:=Gg;obtain⟨Yk,ht1⟩:=hr.Afr n;have Agf:∀v∈Bkf,v.oneCell'=true:=by
  intro v hv;obtain⟨k,hk⟩:=Bn1.1 hv;have Bdo:k<fs.length*i.size:=by have:=(Bku.1 hk).1;omega
  obtain⟨p,q,cs,c,rfl,hp,hq⟩:=A1t A6z Bdo;exact A92 (hnc p q cs c v hp hq hk) (Iu cs (Bln hp) c (Bln hq))
 by_cases G6:es.length+fs.length≤cap
 ·
  have same:fs=[]→(Builtin.append_ ts o.type #[.slice base es.length cap,.string ⟨l.toArray⟩]).run P w = .ok (.slice base es.length cap) w →
    base=none →
    Oper.upon P o a next Q ((execOp a.eval o).run P w):=by
   intro hf hrn B5y;obtain⟨Xx,V4⟩:=Yk.P1 (m:=m) hm none hX (by simp);rw[C2 _ hrn];subst hf;simp only[Blt]at *;refine Eo _ w _ Xx (ht1.trans V4) (.Bu m i.size es ty _ (e1.mono (ht1.trans V4).le) ?_);subst B5y;trivial
  cases hb:base with
  |none =>
   have h0':cap=0:=hbn hb;have hf:fs=[]:=by cases fs with
    |nil=>rfl
    |cons _ _=>simp at G6;omega
   have hrn:=N7 (hl:=hfl) (P:=P) (w:=w) (w':=w) (ty:=o.type) h0 h1 hu ht hi (base:=base) (A21 w fun _ _ _=>rfl) G6 (.inl ⟨hb,rfl⟩);subst hb;refine same hf ?_ rfl;rw[hrn];subst hf;rfl
  |some b0 =>
   subst hb;obtain⟨b,off,sp⟩:=b0;obtain⟨hsp,htp⟩:=A8y ob Gg;simp only at hsp;subst hsp;by_cases hfe:fs=[]
   ·subst hfe;have hn0:Bkf=[]:=by simpa using hnl
    subst hn0;have hrn:=N7 (hl:=hfl) (P:=P) (w:=w) (w':=w) (ty:=o.type) h0 h1 hu ht hi (base:=some ⟨b,off,none⟩) (A21 w fun _ _ _=>rfl) G6 (.inr ⟨_,rfl,rfl⟩);obtain⟨N6,hγ,V5,Agg⟩:=htp
    ·
     subst N6;obtain⟨Xx,V4⟩:=Yk.P1 (m:=m) hm (some b) hX (by
      intro b' G0;cases G0;refine⟨hr.Cd n b Gg,hr.Ca n b Gg,fun k p hk=>hr.Bo n b k p Gg hk,fun n' L0=>?_,hr.eta.A6b Gg⟩;by_cases he:n'=n
      ·subst he;simp[Aa]at L0
      ·simp only[Ae _ _ he]at L0;exact he (hr.C4 n' n b L0 Gg))
     rw[C2 _ hrn];simp only[Blt]at Eo;refine Eo _ w _ Xx (ht1.trans V4) (.Bu m i.size es ty _ (e1.mono (ht1.trans V4).le) ?_)
     ·intro ob' N6;simp only[Aa,Bks]at N6;exact⟨rfl,N6.symm,hγ,V5,Agg⟩
   ·have A5k:0<fs.length:=Bol.2 hfe;obtain⟨N6,hγ,V5,Agg⟩:=htp;subst N6;simp only at hγ V5;have B2l:=hr.Cd n b Gg;have Bkj:(es.length+fs.length)*i.size=es.length*i.size+fs.length*i.size:=Bmz _ _ _;have Bft:(es.length+fs.length)*i.size≤cap*i.size:=Bmm _ G6;have Bki:fs.length*i.size=0∨∃arr T fr,w.heap[b]? = some (.cells arr T fr)∧off+cap*i.size≤arr.size:=by
     rcases Bmu (fs.length*i.size)with h|h
     ·exact .inl h
     ·right;have Agh:=V5 (off+cap*i.size-1) (by omega) (by omega);obtain⟨v,hv⟩:=Blm.1 Agh.1;unfold World.cell? at hv;simp only at hv;split at hv
      ·rename_i arr T fr hh;refine⟨arr,T,fr,hh,?_⟩;simp at hv;have:=(Blf.1 hv).1;omega
      ·cases hv
    rcases Bki with Bkk|⟨arr,T,fr,Bki,Pp⟩
    ·
     have hn0:Bkf=[]:=Bnq.1 (by omega);subst hn0;have hrn:=N7 (hl:=hfl) (P:=P) (w:=w) (w':=w) (ty:=o.type) h0 h1 hu ht hi (base:=some ⟨b,off,none⟩) (A21 w fun _ _ _=>rfl) G6 (.inr ⟨_,rfl,rfl⟩);obtain⟨Xx,V4⟩:=Yk.P1 (m:=m) hm (some b) hX (by
      intro b' G0;cases G0;refine⟨hr.Cd n b Gg,hr.Ca n b Gg,fun k p hk=>hr.Bo n b k p Gg hk,fun n' L0=>?_,hr.eta.A6b Gg⟩;by_cases he:n'=n
      ·subst he;simp[Aa]at L0
      ·simp only[Ae _ _ he]at L0;exact he (hr.C4 n' n b L0 Gg))
     rw[C2 _ hrn];refine Eo _ w _ Xx (ht1.trans V4) (.Bu m i.size _ ty _ ?_ ?_)
     ·refine .O3 Bme.symm (by simp only;omega) G6 Yp ?_;intro p q cs c v hp hq hv;have h2:q<cs.length:=(Bku.1 hq).1;rw[Yp p cs hp]at h2;have:i.size=0:=by
       rcases Nat.mul_eq_zero.1 Bkk with h|h
       ·omega
       ·exact h
      omega
     ·intro ob' N6;simp only[Aa,Bks]at N6;refine⟨rfl,N6.symm,?_,?_,Agg⟩
      ·simp only;omega
      ·intro p h3 h4;exact V5 p (by simp only at h3;omega) h4
    ·obtain⟨w',Ch,hst,G0,H4,hp',hz',Wh,Lp⟩:=L4 (P:=P) (off:=off+es.length*i.size) Bkf 0 w arr Bki Agf (by omega) (by
      intro j h3 h4;exact(V5 j (by omega) (by omega)).2)
     have hrn:=N7 (hl:=hfl) (P:=P) (w:=w) (w':=w') (ty:=o.type) h0 h1 hu ht hi (base:=some ⟨b,off,none⟩) (A21 w fun _ _ _=>rfl) G6 (.inr ⟨_,rfl,by rw[addr_add];exact hst⟩);simp only[Bnr]at hp';have At4:∀k,k<off+es.length*i.size→w'.cell? ⟨b,k,none⟩=w.cell? ⟨b,k,none⟩:=by intro k hk;rw[Bg G0,Bg Bki,hp' k,Blj (by omega)]
     have Ax3:∀k,k<off+(es.length+fs.length)*i.size→(w'.cell? ⟨b,k,none⟩).isSome:=by
      intro k hk;rw[Bg G0];have:k<Ch.size:=by omega
      simp[this]
     obtain⟨Xx,V4⟩:=Yk.raise (w':=w') (b:=b) (n:=off+(es.length+fs.length)*i.size) B2l (hr.Ca n b Gg) (fun k p hk=>hr.Bo n b k p Gg hk) (by
      intro n' L0;by_cases he:n'=n
      ·subst he;simp[Aa]at L0
      ·simp only[Ae _ _ he]at L0;exact he (hr.C4 n' n b L0 Gg)) (hr.eta.A6b Gg) hz' Lp Wh (by intro k hk;exact At4 k (by simp only at hk;omega)) (by simp only;omega) Ax3 (by
      intro s hs0;simp only[World.shape?,Bki]at hs0;simp only[World.shape?,G0,H4];exact hs0)
     obtain⟨hr3,ht3⟩:=Xx.P1 (m:=m) hm (some b) hX (by
      intro b' G0;cases G0;refine⟨by rw[hz'];exact B2l,hr.Ca n b Gg,fun k p hk=>hr.Bo n b k p Gg hk,fun n' L0=>?_,hr.eta.A6b Gg⟩;by_cases he:n'=n
      ·subst he;simp[Aa]at L0
      ·simp only[Ae _ _ he]at L0;exact he (hr.C4 n' n b L0 Gg))
     have hT:=(ht1.trans V4).trans ht3;rw[C2 _ hrn];refine Eo _ w' _ hr3 hT (.Bu m i.size _ ty _ ?_ ?_)
     ·refine .O3 Bme.symm (by simp only[Aa];omega) G6 Yp ?_;intro p q cs c v hp hq hv;have h2:q<cs.length:=(Bku.1 hq).1;rw[Yp p cs hp]at h2;rw[Bm2]at hp;split at hp
      ·rename_i A70;have Bs:=S1 A70 h2;rw[At4 _ (by omega)]at hv;have hold:=At3 w fun _ _ _=>rfl
       cases e1 with
       |nil=>simp at hp
       |sl _ _ _ _ _ _ _ _ _ _ hc =>exact(hc p cs q c v hp hq (by rw[Bo0];exact hv)).mono hT.le
      ·rename_i Bdp;have A70:p-es.length<fs.length:=by have:=(Bku.1 hp).1;omega
       have Bs:=S1 A70 h2;have hpq:p*i.size+q=es.length*i.size+((p-es.length)*i.size+q):=by
        have:p=es.length+(p-es.length):=by omega
        conv=>lhs;rw[this,Bmz]
        omega
       rw[Bg G0,hp',Blv (by omega)]at hv;refine(hnc (p-es.length) q cs c v hp hq ?_).mono hT.le;rw[← hv];congr 1;omega
     ·intro ob' N6;simp only[Aa,Bks]at N6;refine⟨rfl,N6.symm,by simp only[Aa],?_,?_⟩
      rotate_left
      ·intro e1 he1;obtain⟨h1,c,h2⟩:=Agg e1 he1;refine⟨h1,Ch.size,?_⟩;simp only[World.shape?,Bki]at h2;simp only[World.shape?,G0];simp only[Bks,Bld]at h2;rw[h2.1]
      intro p h3 h4;simp only at h3 h4;have h5:=V5 p (by omega) h4;refine⟨?_,?_⟩
      ·rw[Bg G0];have:p<Ch.size:=by omega
       simp[this]
      ·have:=h5.2;simp only[World.frozen?,Bki]at this;simp only[World.frozen?,G0];exact this
 ·
  obtain⟨A1u,htd⟩:=Yk.drew;have hdc:∀b k,k<g.γ b→(w.drew).cell? ⟨b,k,none⟩=w.cell? ⟨b,k,none⟩:=fun _ _ _=>rfl
  have hrn:=A9g (hl:=hfl) (P:=P) (w:=w) (ty:=o.type) h0 h1 hu ht hi hz (A21 w.drew hdc) (At3 w.drew hdc) G6 (by omega) Wg;have hge:=Bqn w (es.length+fs.length) cap e;generalize grownCap w (es.length+fs.length) cap e=nc at hrn hge;have Bkj:(es.length+fs.length)*i.size=es.length*i.size+fs.length*i.size:=Bmz _ _ _;have Akl:(olds.toArray++Bkf.toArray++Builtin.zeroCells z.cells (nc-(es.length+fs.length))).size=nc*i.size:=by simp only[Box,Bnc,Bps,hol,hnl,hzs];rw[← Bkj,← Bmz];congr 1;omega
  have Bdq:(es.length+fs.length)*i.size≤nc*i.size:=Bmm _ hge;generalize A93:olds.toArray++Bkf.toArray++Builtin.zeroCells z.cells (nc-(es.length+fs.length))=arr at hrn Akl;obtain⟨Xx,V4⟩:=A1u.newRow arr e ((es.length+fs.length)*i.size) (by omega);obtain⟨hr3,ht3⟩:=Xx.P1 (m:=m) hm (some w.drew.heap.size) hX (by
   intro b' G0;cases G0;refine⟨by simp,.inl A1u.base,fun k p hk=>?_,fun n' L0=>?_,A1u.eta.Yj (Bl1 _)⟩
   ·have:=Ey (A1u.objs k p hk);simp only at this⊢;omega
   ·have:=A1u.Cd n' _ L0;omega)
  have hT:=((ht1.trans htd).trans V4).trans ht3;rw[C2 _ hrn];have Agi:∀k,(w.drew.alloc (.cells arr e)).cell? ⟨w.drew.heap.size,k,none⟩=arr[k]?:=fun k=>Bg (Bni w.drew (.cells arr e)) k
  refine Eo _ _ _ hr3 hT (.Bu m i.size _ ty _ ?_ ?_)
  ·have hww:w.heap.size=w.drew.heap.size:=rfl;rw[hww];refine .O3 Bme.symm (by simp only[Aa];omega) hge Yp ?_;intro p q cs c v hp hq hv;have h2:q<cs.length:=(Bku.1 hq).1;rw[Yp p cs hp]at h2;rw[Blx,Agi,← A93]at hv;rw[Bm2]at hp;split at hp
   ·rename_i A70;have Bs:=S1 A70 h2;rw[Bqo,Bn6 (by simp;omega)]at hv;exact(hoc p q cs c v hp hq (by simpa using hv)).mono hT.le
   ·rename_i Bdp;have A70:p-es.length<fs.length:=by have:=(Bku.1 hp).1;omega
    have Bs:=S1 A70 h2;have hpq:p*i.size+q=es.length*i.size+((p-es.length)*i.size+q):=by
     have:p=es.length+(p-es.length):=by omega
     conv=>lhs;rw[this,Bmz]
     omega
    rw[Bn6 (by simp;omega),Bo9 (by simp;omega)]at hv;refine(hnc (p-es.length) q cs c v hp hq ?_).mono hT.le;rw[← hv];simp only[Bnc,Bn8];congr 1;omega
  ·intro ob' N6;simp only[Aa,Bks]at N6;subst N6;have hww:w.heap.size=w.drew.heap.size:=rfl;refine⟨rfl,by rw[hww],by rw[hww];simp only[Aa,Blx],?_,?_⟩
   rotate_left
   ·intro e1 he1;rw[Yl e1 he1];refine⟨rfl,arr.size,?_⟩;have:=Bni w.drew (.cells arr e);simp only[World.shape?];rw[hww,this]
   intro p h3 h4;simp only[Blx]at h3 h4;rw[hww];refine⟨by rw[Agi];simp;omega,?_⟩;exact frozen_of_row _ _ _ arr e (Bni w.drew (.cells arr e))
end
theorem K8.sub{B:Bl}{g g':Gh}{w w':World}{X X':A7}(h:K8 B g w X)
  (hη:∀L i b,(g'.β L).isSome→g'.η L i=some b→(g.β L).isSome∧g.η L i=some b) (hs:w.heap.size≤w'.heap.size)
  (A8y:∀n b,g'.β n=some (some b)→g.β n=some (some b))
  (A1e:∀k o,X'.objs.lookup k=some o→∃o',X.objs.lookup k=some o'∧g'.ρ k=g.ρ k):K8 B g' w' X':=by
 refine⟨?_,?_,?_,?_,?_⟩
 ·intro L L' i i' b hL hL' hb G0;obtain⟨a1,a2⟩:=hη L i b hL hb;obtain⟨a3,a4⟩:=hη L' i' b hL' G0;exact h.inj L L' i i' b a1 a3 a2 a4
 ·intro L i b n hL hb hn;obtain⟨a1,a2⟩:=hη L i b hL hb;exact h.Bu L i b n a1 a2 (A8y n b hn)
 ·intro L i b k o hL hb hk he;obtain⟨a1,a2⟩:=hη L i b hL hb;obtain⟨o',h1,h2⟩:=A1e k o hk;exact h.obj L i b k o' a1 a2 h1 (he.trans h2)
 ·intro L i b hL hb;obtain⟨a1,a2⟩:=hη L i b hL hb;exact h.new L i b a1 a2
 ·intro L i b hL hb;obtain⟨a1,a2⟩:=hη L i b hL hb;exact Bmn (h.lt L i b a1 a2) hs
def Ys(k L:Nat)(X:A7):Prop:=∀j o,j≠k→X.objs.lookup j=some o→F9 [L] o=true
theorem Wy{k:Nat}{o o':Ob}{l:A2 (Nat×Ob)}(hk:l.lookup k=some o){j:Nat}{p:Ob}(hj:(setObj k o' l).lookup j=some p):∃q,l.lookup j=some q:=by
 rw[B3]at hj;split at hj
 ·rename_i he;subst he;exact⟨o,hk⟩
 ·exact⟨p,hj⟩
theorem HR.B6f{nm:A2 Nat}{B:Bl}{g:Gh}{w:World}{X:A7}(h:HR nm B g w X){k L:Nat}{o o':Ob}(hk:X.objs.lookup k=some o)(Pq:Ys k L X)(e:Nat→A3 Nat)
  (hE:K8 B { g with η:=Nj g.η L e } w ⟨setObj k o' X.objs,X.live⟩)
  (A1r:Trans [L] g w { g with η:=Nj g.η L e } w→C3 { g with η:=Nj g.η L e } w (g.ρ k) o') :
  HR nm B { g with η:=Nj g.η L e } w ⟨setObj k o' X.objs,X.live⟩∧Trans [L] g w { g with η:=Nj g.η L e } w:=by
 have ht:Trans [L] g w { g with η:=Nj g.η L e } w:=⟨.refl _ _,fun _ _=>rfl,fun n ob _ he=>⟨he,fun _ _=>⟨rfl,rfl⟩⟩,fun L' hL' _=>⟨Ae _ _ (by simpa using hL'),fun _ _ _=>⟨rfl,rfl⟩⟩⟩;have M5:∀j p,(setObj k o' X.objs).lookup j=some p→∃q,X.objs.lookup j=some q:=fun j p hj=>Wy hk hj
 refine⟨⟨?_,h.Ik,h.base,h.io,h.le,h.frame,?_,?_,?_,?_,h.live,h.C4,?_,h.Ca,h.Cd,hE⟩,ht⟩
 ·intro j hj;obtain⟨h1,h2⟩:=h.Dc j hj;refine⟨h1,?_⟩;simp only[B3];split
  ·rfl
  ·exact h2
 ·intro j p hj;simp only[B3]at hj;split at hj
  ·rename_i he;cases hj;subst he;exact A1r ht
  ·rename_i he;exact(h.objs j p hj).Dc ht rfl (.inr (Pq j p he hj))
 ·intro j p hj;obtain⟨q,hq⟩:=M5 j p hj;exact h.Fx j q hq
 ·intro j j' p p' hj Gf he;obtain⟨q,hq⟩:=M5 j p hj;obtain⟨q',hq'⟩:=M5 j' p' Gf;exact h.C0 j j' q q' hq hq' he
 ·intro j p hj;obtain⟨q,hq⟩:=M5 j p hj;exact h.Ce j q hq
 ·intro n b j p hn hj;obtain⟨q,hq⟩:=M5 j p hj;exact h.Bo n b j q hn hq
theorem Abq.eta{g:Gh}{w:World}{L i sz:Nat}{v:Value}{e:Nat→A3 Nat}(h:Abq g w L i sz v)(he:e i=g.η L i):Abq { g with η:=Nj g.η L e } w L i sz v:=by
 unfold Abq at h⊢;split at h
 ·exact⟨h.1,by simp only[Aa,he];exact h.2.1,h.2.2⟩
 ·trivial
abbrev B6g:Type:=Nat×Value×Bool×A2 (A2 D)
abbrev B2s:Type:=A2 B6g
def Ath(l l':B2s):Prop:=l'.length=l.length∧∀(j:Nat) (x':B6g),l'[j]? = some x'→∃x:B6g,l[j]? = some x∧x'.1=x.1∧x'.2.1=x.2.1∧x'.2.2.2=x.2.2.2
theorem Ath.Ap6{l l':B2s}(h:Ath l l'):l'.map (·.1)=l.map (·.1):=by
 apply Bny;intro i;rw[Bkt,Bkt];by_cases hi:i<l'.length
 ·obtain⟨x,h1,h2,_⟩:=h.2 i l'[i] (by simp[hi]);rw[h1,Bl8 hi];simp[h2]
 ·rw[Bmp (by omega),Bmp (by have:=h.1;omega)]
theorem HR.Bg5{nm:A2 Nat}{B:Bl}{g:Gh}{w:World}{X:A7}(h:HR nm B g w X){k L sz i c:Nat}{l l':B2s}(hk:X.objs.lookup k=some (.Ck L sz l c))(Pq:Ys k L X)
  (hs:Ath l l') (hl':∀(j:Nat) (x' x:B6g),l'[j]? = some x'→l[j]? = some x→x'.2.2.1=true→x.2.2.1=true∧x.1≠i) :
  HR nm B { g with η:=Nj g.η L (Nj (g.η L) i none) } w ⟨setObj k (.Ck L sz l' c) X.objs,X.live⟩∧Trans [L] g w { g with η:=Nj g.η L (Nj (g.η L) i none) } w:=by
 refine h.B6f hk Pq _ (h.eta.sub ?_ (Bl1 _) (fun n b hn=>hn) ?_) ?_
 ·intro L' i' b hL hb;refine⟨hL,?_⟩;simp only at hb;by_cases he:L'=L
  ·subst he;rw[Aa]at hb;by_cases hi:i'=i
   ·subst hi;rw[Aa]at hb;cases hb
   ·rwa [Ae _ _ hi]at hb
  ·rwa [Ae _ _ he]at hb
 ·intro j o hj;obtain⟨q,hq⟩:=Wy hk hj;exact⟨q,hq,rfl⟩
 ·intro ht;have h0:=h.objs k _ hk;cases h0 with
  |Ck _ _ _ _ es h1 h2 h3 h4 h5 =>
   refine .Ck L sz l' c es h1 (hs.1.trans h2) ?_ ?_ (by rw[hs.Ap6];exact h5)
   ·intro j x' e hx he;obtain⟨x,hx0,a1,a2,a3⟩:=hs.2 j x' hx;obtain⟨b1,b2,b3,b4⟩:=h3 j x e hx0 he;refine⟨b1.trans a1.symm,b2.trans a2.symm,by rw[a3];exact b3,fun hf hL=>?_⟩;obtain⟨c1,c2⟩:=hl' j x' x hx hx0 hf;rw[a1];exact(b4 c1 hL).eta (Ae _ _ c2)
   ·intro p hp;have:p.1∈l.map (·.1):=by rw[← hs.Ap6];exact Bl3 (f:=(·.1)) hp
    obtain⟨q,hq,he⟩:=Bl2.1 this;rw[← he];exact h4 q hq
def Bg6(B:Bl)(g:Gh)(w:World)(X:A7)(b:Nat):Prop :=
 b<w.heap.size∧(B.n0≤b∨B.allowed b)∧(∀k o,X.objs.lookup k=some o→b≠g.ρ k)∧(∀n,g.β n≠some (some b))∧∀L i,(g.β L).isSome→g.η L i≠some b
theorem HR.Bg7{nm:A2 Nat}{B:Bl}{g:Gh}{w:World}{X:A7}(h:HR nm B g w X){k L sz i c:Nat}{ob:A3 Nat}{l l':B2s}(hk:X.objs.lookup k=some (.Ck L sz l c))(Pq:Ys k L X)
  (hb:∀b,ob=some b→Bg6 B g w X b)
  (hs:Ath l l') (hl':∀(j:Nat) (x' x:B6g),l'[j]? = some x'→l[j]? = some x→x'.2.2.1=true→(x.2.2.1=true∧x.1≠i)∨(x.1=i∧∀By e,w.heap[g.ρ k]? = some (.map By c)→By[j]? = some e→Abq { g with η:=Nj g.η L (Nj (g.η L) i ob) } w L i sz e.val)) :
  HR nm B { g with η:=Nj g.η L (Nj (g.η L) i ob) } w ⟨setObj k (.Ck L sz l' c) X.objs,X.live⟩∧Trans [L] g w { g with η:=Nj g.η L (Nj (g.η L) i ob) } w:=by
 have old:∀L' i' b,Nj g.η L (Nj (g.η L) i ob) L' i'=some b→(L'=L∧i'=i∧ob=some b)∨(¬(L'=L∧i'=i)∧g.η L' i'=some b):=by
  intro L' i' b he;by_cases hL:L'=L
  ·subst hL;rw[Aa]at he;by_cases hi:i'=i
   ·subst hi;rw[Aa]at he;exact .inl ⟨rfl,rfl,he⟩
   ·rw[Ae _ _ hi]at he;exact .inr ⟨fun hh=>hi hh.2,he⟩
  ·rw[Ae _ _ hL]at he;exact .inr ⟨fun hh=>hL hh.1,he⟩
 refine h.B6f hk Pq _ ⟨?_,?_,?_,?_,?_⟩ ?_
 ·intro L1 L2 i1 i2 b h1 h2 e1 e2;rcases old L1 i1 b e1 with ⟨a1,a2,a3⟩|⟨a1,a2⟩<;>rcases old L2 i2 b e2 with ⟨c1,c2,c3⟩|⟨c1,c2⟩
  ·exact⟨a1.trans c1.symm,a2.trans c2.symm⟩
  ·exact((hb b a3).2.2.2.2 L2 i2 h2 c2).elim
  ·exact((hb b c3).2.2.2.2 L1 i1 h1 a2).elim
  ·exact h.eta.inj L1 L2 i1 i2 b h1 h2 a2 c2
 ·intro L1 i1 b n h1 e1 hn;rcases old L1 i1 b e1 with ⟨a1,a2,a3⟩|⟨a1,a2⟩
  ·exact(hb b a3).2.2.2.1 n hn
  ·exact h.eta.Bu L1 i1 b n h1 a2 hn
 ·intro L1 i1 b j o h1 e1 hj;obtain⟨q,hq⟩:=Wy hk hj;rcases old L1 i1 b e1 with ⟨a1,a2,a3⟩|⟨a1,a2⟩
  ·exact(hb b a3).2.2.1 j q hq
  ·exact h.eta.obj L1 i1 b j q h1 a2 hq
 ·intro L1 i1 b h1 e1;rcases old L1 i1 b e1 with ⟨a1,a2,a3⟩|⟨a1,a2⟩
  ·exact(hb b a3).2.1
  ·exact h.eta.new L1 i1 b h1 a2
 ·intro L1 i1 b h1 e1;rcases old L1 i1 b e1 with ⟨a1,a2,a3⟩|⟨a1,a2⟩
  ·exact(hb b a3).1
  ·exact h.eta.lt L1 i1 b h1 a2
 ·intro ht;have h0:=h.objs k _ hk;cases h0 with
  |Ck _ _ _ _ es h1 h2 h3 h4 h5 =>
   refine .Ck L sz l' c es h1 (hs.1.trans h2) ?_ ?_ (by rw[hs.Ap6];exact h5)
   ·intro j x' e hx he;obtain⟨x,hx0,a1,a2,a3⟩:=hs.2 j x' hx;obtain⟨b1,b2,b3,b4⟩:=h3 j x e hx0 he;refine⟨b1.trans a1.symm,b2.trans a2.symm,by rw[a3];exact b3,fun hf hL=>?_⟩;rw[a1];rcases hl' j x' x hx hx0 hf with ⟨c1,c2⟩|⟨c1,c2⟩
    ·exact(b4 c1 hL).eta (Ae _ _ c2)
    ·rw[c1];exact c2 es e h1 he
   ·intro p hp;have:p.1∈l.map (·.1):=by rw[← hs.Ap6];exact Bl3 (f:=(·.1)) hp
    obtain⟨q,hq,he⟩:=Bl2.1 this;rw[← he];exact h4 q hq
def Tb(sz:Nat)(l:B2s):A2 (Nat×Value×D):=l.map fun e=>(e.1,e.2.1,.sl sz e.2.2.2)
theorem HR.plain{nm:A2 Nat}{B:Bl}{g:Gh}{w:World}{X X':A7}(h:HR nm B g w X)(Bg8:X'.live=X.live)(Up:∀k,(X.objs.lookup k).isSome→(X'.objs.lookup k).isSome)
  (Gg:∀k o',X'.objs.lookup k=some o'→X.objs.lookup k=some o'∨∃L sz l c,X.objs.lookup k=some (.Ck L sz l c)∧o' = .map (Tb sz l) c):HR nm B g w X':=by
 have M5:∀j p,X'.objs.lookup j=some p→∃q,X.objs.lookup j=some q:=by intro j p hj;rcases Gg j p hj with h1|⟨L,sz,l,c,h1,_⟩<;>exact⟨_,h1⟩
 refine⟨?_,h.Ik,h.base,h.io,h.le,h.frame,?_,?_,?_,?_,by rw[Bg8];exact h.live,h.C4,?_,h.Ca,h.Cd,h.eta.same (Bl1 _) fun j p hj=>M5 j p hj⟩
 ·intro j hj;obtain⟨h1,h2⟩:=h.Dc j hj;exact⟨h1,Up j h2⟩
 ·intro j p hj;rcases Gg j p hj with h1|⟨L,sz,l,c,h1,rfl⟩
  ·exact h.objs j p h1
  ·have h0:=h.objs j _ h1;cases h0 with
   |Ck _ _ _ _ es a1 a2 a3 a4 a5 =>
    refine .map _ c es a1 (by simpa[Tb]using a2) ?_ ?_ ?_
    ·intro i x e hx he;simp only[Tb,Bkt,Bky]at hx;obtain⟨y,hy,rfl⟩:=hx;obtain⟨b1,b2,b3,_⟩:=a3 i y e hy he;exact⟨b1,b2,b3⟩
    ·intro q hq;simp only[Tb,Bl2]at hq;obtain⟨y,hy,rfl⟩:=hq;exact a4 y hy
    ·simpa[Tb,Bnh,Bnz]using a5
 ·intro j p hj;obtain⟨q,hq⟩:=M5 j p hj;exact h.Fx j q hq
 ·intro j j' p p' hj Gf he;obtain⟨q,hq⟩:=M5 j p hj;obtain⟨q',hq'⟩:=M5 j' p' Gf;exact h.C0 j j' q q' hq hq' he
 ·intro j p hj;obtain⟨q,hq⟩:=M5 j p hj;exact h.Ce j q hq
 ·intro n b j p hn hj;obtain⟨q,hq⟩:=M5 j p hj;exact h.Bo n b j q hn hq
section
variable{P:Program}{o:Oper}{X:A7}
end
def Q6(w:World)(b:Nat):Nat :=
 match w.heap[b]? with
 |some (.cells c _ _)=>c.size
 |_=>0
def full(w:World):Gh:={ γ:=Q6 w,β:=fun _=>none,ρ:=fun _=>0 }
theorem B0m(w:World):HR [] (Bl.of (full w) w X0) (full w) w X0:=by
 refine⟨by simp,?_,Bl1 _,⟨rfl,rfl,rfl,Bl1 _⟩,.refl _ _,fun _ _ _=>⟨rfl,rfl⟩,by simp[X0],by simp[X0],by simp[X0],by simp[X0],by simp[X0,full],by simp[full],by simp[full],by simp[full],by simp[full],.off fun _=>rfl⟩;intro b i hi;simp only[full,Q6]at hi;split at hi
 ·rename_i c T fr h;rw[Bg h];simp[hi]
 ·omega
inductive RAs(g:Gh)(w:World):List AV→List Value→Prop
 |nil:RAs g w [] []
 |cons {x:AV} {v:Value} {r:List AV} {rs:List Value}:RA g w x v→RAs g w r rs→RAs g w (x::r) (v::rs)
theorem RAs.get{g:Gh}{w:World}{l:A2 AV}{vs:A2 Value}(h:RAs g w l vs):l.length=vs.length∧∀(i:Nat) x v,l[i]? = some x→vs[i]? = some v→RA g w x v:=by
 induction h with
 |nil=>exact⟨rfl,by simp⟩
 |cons h _ ih =>
  refine⟨by simp[ih.1],?_⟩;intro i x u hx hu;cases i with
  |zero=>simp at hx hu;subst hx;subst hu;exact h
  |succ i=>exact ih.2 i x u (by simpa using hx) (by simpa using hu)
theorem Ati{w:World}{b i:Nat}{v:Value}(h:w.cell? ⟨b,i,none⟩=some v):i<Q6 w b:=by
 unfold World.cell? at h;unfold Q6;simp only at h;split at h
 ·rename_i c T fr hh;rw[hh];simp at h;exact(Blf.1 h).1
 ·cases h
open Go.Sort Go.Proofs
section
variable{P:Program}{o:Oper}{X:A7}
theorem Hj{α:Type}{sz:Nat}{enc:α→A2 Value}(hk:∀x,(enc x).length=sz)(l:A2 α):(l.map enc).flatten.length=l.length*sz:=by
 induction l with
 |nil=>simp
 |cons x r ih=>simp only[Bkv,Bmj,Bme,ih,hk,Blg,Bna];omega
theorem Am7{α:Type}{sz:Nat}{enc:α→A2 Value}(hk:∀x,(enc x).length=sz):∀(l:A2 α) (j:Nat),(l.map enc).flatten[j]? = (l[j/sz]?).bind fun x=>(enc x)[j % sz]?
 |[],j=>by simp
 |x::r,j=>by
  have h0:=hk x;simp only[Bkv,Bmj,Bm2];by_cases hj:j<(enc x).length
  ·rw[Blv hj,Nat.div_eq_of_lt (by omega),Bq1 (by omega)];simp
  ·rw[Blj hj,Am7 hk r,h0];by_cases hz:sz=0
   ·subst hz;simp;have:∀y,enc y=[]:=fun y=>Bok (hk y)
    cases r<;>simp[this]
   ·have hle:sz≤j:=by omega
    rw[← Nat.sub_add_cancel hle];simp only[Bpr,Nat.add_mod_right,Nat.add_div_right _ (by omega:0<sz)];simp
theorem Aby{α:Type}[Inhabited α]{sz:Nat}{enc:α→A2 Value}(hk:∀x,(enc x).length=sz)(l:A2 α)(j:Nat)(hj:j<l.length*sz):(l.map enc).flatten[j]? = some (flatK enc sz l.toArray)[j]!:=by
 have hs:0<sz:=by
  rcases Bmu sz with h|h
  ·rw[h]at hj;omega
  ·exact h
 have h1:j/sz<l.length:=by rw[Bq8 hs];exact hj
 have h2:j % sz<sz:=Bqb _ hs;rw[Am7 hk,get_flatK enc sz _ _ (by simpa using hj)];have e1:l[j/sz]? = some l[j/sz]:=Bl8 h1;have e2:l.toArray[j/sz]! = l[j/sz]:=by rw[Bpe _ _ (by simpa using h1)];simp
 rw[e1,e2];simp only[Bkp];have h3:j % sz<(enc l[j/sz]).length:=by rw[hk];exact h2
 rw[Bqc,Bl8 h3];rfl
theorem Bcp{g:Gh}{w:World}{v u:Value}(h:RA g w (.d (.sc v)) u):u=v:=by
 cases h with
 |d _ _ h=>cases h;rfl
theorem B6h{α:Type}[Inhabited α]{f c:FuncId}{s x:Operand}{ts:Array TypeId}{k len sz:Nat}{enc:α→A2 Value}(hk:∀x,(enc x).length=sz){l:A2 α}{ty:A3 TypeId}(φ:A2 α→A2 α)
  (ho:o.op = .call { callee:=.value (.func f),args:=#[s,x],argTypes:=ts }) (hf:Ez P f) (Kz:X.objs.lookup k=some (.cells ((l.map enc).flatten.map fun v=>.d (.sc v)) ty)) (hlen:len≤l.length) (hφ:∀d,(φ d).length=d.length)
  (hN:∀p cap w,Calls P f #[.slice p 0 cap,.func (.func c) #[] #[]] w fun e w'=>e = .returned (.tuple #[])∧w'=w)
  (hC:∀blk cap w,HoldsK enc sz w blk 0 (l.take len).toArray→blk<w.heap.size→Calls P f #[.slice (some ⟨blk,0,none⟩) len cap,.func (.func c) #[] #[]] w fun e w'=>e = .returned (.tuple #[])∧∃n os,w'=sortWorldK enc sz w blk 0 n (φ (l.take len)).toArray os) :
  Bp P o [(s,.osl k 0 len sz),(x,.Ff c [])] X ⟨setObj k (.cells (((φ (l.take len)++l.drop len).map enc).flatten.map fun v=>.d (.sc v)) ty) X.objs,X.live⟩ [] (.E2 []):=by
 intro nm Ek B g w a hr Aq next Q Eo
 have e1:=H9 Aq;have e2:=Aq (x,.Ff c []) (by simp);simp only at e1 e2;obtain⟨cap,q,Sc,hv,hq,T,c',hsh,hc⟩:=e1.Q1;generalize hfv:a.eval x=fv at e2;cases e2 with
 |Ff _ _ vs hl0 _ =>
 have Nz:vs=#[]:=by apply Bm8;rw[← hl0];rfl
 subst Nz;unfold Oper.wp;have C2:(execOp a.eval o).run P w = .ok (.enter f #[.slice (some ⟨g.ρ k,q,none⟩) len cap,.func (.func c) #[] #[]]) w:=by
  have h1:(execOp a.eval o).run P w = .ok (.enter f (#[s,x].map a.eval)) w:=by simp only[execOp,ho,resolve];simp[Act.eval,Deferred.ofValue,invoke,D5 hf]
  rw[h1];have h2:#[s,x].map a.eval=#[.slice (some ⟨g.ρ k,q,none⟩) len cap,.func (.func c) #[] #[]]:=by
   have h3:#[s,x].map a.eval=#[a.eval s,a.eval x]:=by simp only[Bq2,Bkv,Bll]
   rw[h3,hv,hfv]
  rw[h2]
 rw[C2];cases hr.objs k _ Kz with
 |cells _ _ arr T' hb hl hcc Yl =>
 have hval:∀(j:Nat) (v:Value),(l.map enc).flatten[j]? = some v→arr[j]? = some v:=by
  intro j v hj;have Bs:j<arr.size:=by have:=(Bku.1 hj).1;rw[Blb]at hl;omega
  have hr':=hcc j (.d (.sc v)) arr[j] (by rw[Bkt,hj];rfl) (by simp[Bs]);rw[← Bcp hr'];simp[Bs]
 have G9:(l.map enc).flatten.length=l.length*sz:=Hj hk l;have Ap7:l.length*sz≤arr.size:=by rw[← G9];rw[Blb]at hl;exact hl
 by_cases B6i:len=0
 ·subst B6i;refine(hN _ _ _).mono ?_;rintro e w' ⟨rfl,rfl⟩;have he:φ (l.take 0)++l.drop 0=l:=by have:φ (l.take 0)=[]:=Bok (by rw[hφ];simp);rw[this];simp
  rw[he]at Eo;obtain⟨hw1,hw2⟩:=hr.write Kz (w':=w') (o':=.cells ((l.map enc).flatten.map fun v=>.d (.sc v)) ty) rfl ⟨rfl,rfl,rfl,Bl1 _⟩ (fun _ _=>rfl) (fun _=>.cells _ _ arr T' hb hl hcc Yl) (fun s h=>h);exact Eo g w' _ hw1 hw2 (.E2 _ _ rfl (by simp))
 ·have hq0:q=0:=hq.resolve_left (by omega);subst hq0;have Bki:g.ρ k<w.heap.size:=Ey (hr.objs k _ Kz);have hd:(l.take len).length=len:=by simp;omega
  have hH:HoldsK enc sz w (g.ρ k) 0 (l.take len).toArray:=by
   intro j hj;have Gf:j<len*sz:=by rw[size_flatK]at hj;simpa[Nat.min_eq_left hlen]using hj
   have hfl:((l.take len).map enc).flatten[j]? = (l.map enc).flatten[j]?:=by
    have:(l.map enc).flatten=((l.take len).map enc).flatten++((l.drop len).map enc).flatten:=by rw[← Boa,← Ble,Bmt]
    rw[this,Bnl (by rw[Hj hk,hd];exact Gf)]
   have:=Aby hk (l.take len) j (by rw[hd];exact Gf);rw[hfl]at this;have h3:=hval j _ this;constructor
   ·rw[Bg hb,Blx,h3];rfl
   ·simp[World.frozen?,hb]
  refine(hC _ cap w hH Bki).mono ?_;rintro e w' ⟨rfl,n,os,rfl⟩;generalize hd':(φ (l.take len)).toArray=d';have B2t:d'.size=len:=by rw[← hd'];simp[hφ,hd]
  have A9h:(φ (l.take len)++l.drop len).length=l.length:=by simp[hφ];omega
  let Ch:=putCells id 0 (flatK enc sz d') arr;have G0:(putRowK enc sz (Sort.ahead w n) (g.ρ k) 0 d').heap[g.ρ k]? = some (.cells Ch T' (0,0)):=by simp only[putRowK,putRow,mapBlock,Bm7,Bqd,hb];simp[onCells,Ch]
  have Agx:Ch.size=arr.size:=by simp[Ch,putCells]
  have N5:∀j (hj:j<arr.size),Ch[j]? = some (if j<len*sz then (flatK enc sz d')[j]! else arr[j]):=by intro j hj;simp only[Ch,putCells,Brr,Bli hj,Blq,size_flatK,B2t,Bnm,Bq3,Blx,Bnu,id]
  have hwr:HR nm B g (putRowK enc sz (Sort.ahead w n) (g.ρ k) 0 d') ⟨setObj k (.cells (((φ (l.take len)++l.drop len).map enc).flatten.map fun v=>.d (.sc v)) ty) X.objs,X.live⟩∧Trans [] g w g (putRowK enc sz (Sort.ahead w n) (g.ρ k) 0 d'):=by
   refine hr.write Kz (by simp[putRowK]) ⟨rfl,rfl,rfl,by simp[putRowK]⟩ (fun b B6j=>?_) (fun _=>?_) (fun s hs=>?_)
   ·simp only[putRowK,putRow,mapBlock,Bm7,Bqd];rw[Blj (Bnf B6j)]
   ·refine .cells _ _ Ch T' G0 (by rw[Agx];simp only[Blb];rw[Hj hk,A9h];exact Ap7) ?_ Yl;intro j y v hy hv';rw[Bkt,Bky]at hy;obtain⟨u,hu,rfl⟩:=hy;have Ba4:j<l.length*sz:=by have:=(Bku.1 hu).1;rw[Hj hk,A9h]at this;exact this
    have hja:j<arr.size:=by omega
    rw[N5 j hja]at hv';simp only[Bks]at hv';rw[Ble,Boa]at hu;have hl1:((φ (l.take len)).map enc).flatten.length=len*sz:=by rw[Hj hk,hφ,hd]
    rw[Bm2,hl1]at hu;by_cases hj:j<len*sz
    ·rw[Blv hj]at hu hv';rw[Aby hk _ _ (by rw[hφ,hd];exact hj),hd']at hu;simp only[Bks]at hu;rw[← hv',hu];exact .d _ _ (.sc _)
    ·rw[Blj hj]at hu hv';have h4:(l.map enc).flatten[j]? = some u:=by
      have:(l.map enc).flatten=((l.take len).map enc).flatten++((l.drop len).map enc).flatten:=by rw[← Boa,← Ble,Bmt]
      rw[this,Bnj (by rw[Hj hk,hd];omega),Hj hk,hd];exact hu
     have h5:=hval j u h4;rw[Bli hja]at h5;simp only[Bks]at h5;rw[← hv',h5];exact .d _ _ (.sc _)
   ·simp only[World.shape?,hb]at hs;simp only[World.shape?,G0,Agx];exact hs
  obtain⟨h6,h7⟩:=hwr;have Atj:HR nm B g (sortWorldK enc sz w (g.ρ k) 0 n d' os) _∧Trans [] g (putRowK enc sz (Sort.ahead w n) (g.ρ k) 0 d') g (sortWorldK enc sz w (g.ρ k) 0 n d' os) :=
   h6.grow (by simp[sortWorldK]) (fun b hbl=>heap_grow_old _ _ hbl) ⟨rfl,rfl,rfl,Bl1 _⟩
  exact Eo g _ _ Atj.1 (h7.trans Atj.2) (.E2 _ _ rfl (by simp))
theorem Ae5{f c:FuncId}{s x:Operand}{ts:Array TypeId}{sz:Nat}(ho:o.op = .call { callee:=.value (.func f),args:=#[s,x],argTypes:=ts })(hf:Ez P f)
  (hN:∀p cap w,Calls P f #[.slice p 0 cap,.func (.func c) #[] #[]] w fun e w'=>e = .returned (.tuple #[])∧w'=w) :
  Bp P o [(s,.d (.sl sz [])),(x,.Ff c [])] X X [] (.E2 []):=by
 intro nm Ek B g w a hr Aq next Q Eo
 have e1:=H9 Aq;have e2:=Aq (x,.Ff c []) (by simp);simp only at e1 e2;have hv:∃p cap,a.eval s = .slice p 0 cap:=by
  generalize a.eval s=v at e1;cases e1 with
  |d _ _ h =>
   cases h with
   |nil=>exact⟨_,_,rfl⟩
   |sl _ _ b off len cap hl=>subst hl;exact⟨_,_,rfl⟩
 obtain⟨p,cap,hv⟩:=hv;generalize hfv:a.eval x=fv at e2;cases e2 with
 |Ff _ _ vs hl0 _ =>
 have Nz:vs=#[]:=by apply Bm8;rw[← hl0];rfl
 subst Nz;unfold Oper.wp;have C2:(execOp a.eval o).run P w = .ok (.enter f #[.slice p 0 cap,.func (.func c) #[] #[]]) w:=by
  have h1:(execOp a.eval o).run P w = .ok (.enter f (#[s,x].map a.eval)) w:=by simp only[execOp,ho,resolve];simp[Act.eval,Deferred.ofValue,invoke,D5 hf]
  rw[h1];have h2:#[s,x].map a.eval=#[.slice p 0 cap,.func (.func c) #[] #[]]:=by
   have h3:#[s,x].map a.eval=#[a.eval s,a.eval x]:=by simp only[Bq2,Bkv,Bll]
   rw[h3,hv,hfv]
  rw[h2]
 rw[C2];refine(hN _ _ _).mono ?_;rintro e w' ⟨rfl,rfl⟩;exact Eo g w' _ hr (.refl _ _ _) (.E2 _ _ rfl (by simp))
theorem Lz.grown{f:FuncId}{args:A2 AV}{rv:Value}(h:Lz P f args X0 (.d (.sc rv)) X0){w:World}{vs:Array Value}(hl:args.length=vs.size)
  (ha:∀(i:Nat) x v,args[i]? = some x→vs[i]? = some v→RA (full w) w x v) :
  Calls P f vs w fun e w'=>e = .returned rv∧∃q os',w'=Sort.grow (w.drewN q) os':=by
 refine(h (full w) w vs (B0m w) hl ha).mono ?_;rintro e w' ⟨g',v,rfl,hr,h1⟩;rw[Bcp hr];refine⟨rfl,w'.drawn-w.drawn,w'.heap.extract w.heap.size w'.heap.size,?_⟩;have hna:∀b,¬(Bl.of (full w) w X0).allowed b:=by
  rintro b (⟨k,o,hk,_⟩|⟨n,hn⟩)
  ·simp[X0]at hk
  ·simp[full]at hn
 have hb:w.heap.size≤w'.heap.size:=h1.base;have Bcq:w'.heap=w.heap++w'.heap.extract w.heap.size w'.heap.size:=by
  apply Array.ext_getElem?;intro b;rw[Bog];split
  ·rename_i Bs;exact(h1.frame b Bs (hna b)).1
  ·rename_i hge;simp only[Boo];split
   ·congr 1;omega
   ·rw[Bnv];omega
 have hio:=h1.io;have hd:w.drawn+(w'.drawn-w.drawn)=w'.drawn:=Nat.add_sub_cancel' hio.2.2.2;obtain⟨hp,tp,dr,os,ou⟩:=w';obtain⟨hp0,tp0,dr0,os0,ou0⟩:=w;simp only at Bcq hd⊢;obtain⟨i1,i2,i3,_⟩:=hio;change os=os0 at i1;change ou=ou0 at i2;change tp=tp0 at i3;subst i1 i2 i3;unfold Sort.grow World.drewN;simp only[hd];rw[← Bcq]
end
section
variable{P:Program}{o:Oper}{X:A7}
theorem B6k{g:Gh}{w w':World}(hs:∀b i,i<g.γ b→(w.cell? ⟨b,i,none⟩).isSome)(hc:∀b,g.γ b≠0→w'.heap[b]? = w.heap[b]?)(hsh:∀b s,w.shape? b=some s→w'.shape? b=some s):LeD g.γ w (full w').γ w':=by
 refine⟨fun b=>?_,fun b i hi=>O0 (hc b (by omega)) i none,hsh⟩;rcases Bmu (g.γ b)with h0|h0
 ·omega
 ·have h1:=hs b (g.γ b-1) (by omega);have h2:=hc b (by omega);simp only[full,Q6,h2];unfold World.cell? at h1;split at h1
  ·rename_i c T fr he;simp only at he;rw[he];simp only[Option.isSome_none,Bmi,Bn2]at h1;have:=(Blm.1 h1);obtain⟨v,hv⟩:=this;have:=(Blf.1 hv).1;show g.γ b≤c.size;omega
  ·simp at h1
abbrev El{τ:Type}(ds:τ→A2 D)(sz:Nat)(g:Gh)(w:World):Type:={ p:τ×A2 Value // p.2.length=sz∧∀(i:Nat) d v,(ds p.1)[i]? = some d→p.2[i]? = some v→RD g.γ w d v }
def Atk(P:Program)(f c:FuncId)(sz:Nat):Prop :=
 ∀(α:Type) [Inhabited α] (enc:α→A2 Value),(∀x,(enc x).length=sz)→(∀x,∀v∈enc x,v.oneCell'=true)→∀(cf:α→α→Int),SWO (ltOf cf)→∀(blk cap:Nat) (d:Array α) (w:World),
  CmpLays P c #[] enc sz cf blk 0 d.size w→HoldsK enc sz w blk 0 d→blk<w.heap.size→d.size<4611686018427387904 →
  Calls P f #[.slice (some ⟨blk,0,none⟩) d.size cap,.func (.func c) #[] #[]] w fun e w'=>e = .returned (.tuple #[])∧∃d' n os,PermIn 0 d.size d d'∧SortedIn (ltOf cf) 0 d.size d'∧w'=sortWorldK enc sz w blk 0 n d' os
theorem B0n{τ:Type}{ds:τ→A2 D}{sz:Nat}(hk:∀x,(ds x).length=sz){g:Gh}{w:World}{l:A2 τ}{arr:Array Value}(hl:l.length*sz≤arr.size)
  (hcc:∀(j:Nat) d v,(l.map ds).flatten[j]? = some d→arr[j]? = some v→RD g.γ w d v):∀n,n≤l.length→∃row:A2 (El ds sz g w),row.length=n∧row.map (·.1.1)=l.take n∧∀j,j<n*sz→(row.map (·.1.2)).flatten[j]? = arr[j]?
 |0,_=>⟨[],rfl,by simp,by simp⟩
 |n+1,hn=>by
  obtain⟨row,r1,r2,r3⟩:=B0n hk hl hcc n (by omega);have hln:n<l.length:=by omega
  have hle:n*sz+sz≤arr.size:=by have:=Bmm sz hn;rw[Bna]at this;omega
  let vs:A2 Value:=(arr.toList.drop (n*sz)).take sz;have hvl:vs.length=sz:=by simp[vs];omega
  have hv:∀i,i<sz→vs[i]? = arr[n*sz+i]?:=by intro i hi;simp[vs,hi,Bm9]
  have A9c:∀i,i<sz→(l.map ds).flatten[n*sz+i]? = (ds l[n])[i]?:=by
   intro i hi;have h0:=Hj (enc:=fun x=>(ds x).map fun _=>undef) (sz:=sz) (by simp[hk]);have key:∀(m:A2 τ) (n:Nat) (hn:n<m.length),(m.map ds).flatten[n*sz+i]? = (ds m[n])[i]?:=by
    intro m;induction m with
    |nil=>intro n hn;simp at hn
    |cons x m ih =>
     intro n hn;simp only[Bkv,Bmj,Bm2,hk];cases n with
     |zero=>rw[Blv (by omega)];simp
     |succ n =>rw[Blj (by rw[Bna];omega),show(n+1)*sz+i-sz=n*sz+i by rw[Bna];omega,ih n (by simpa using hn)];simp
   exact key l n hln
  have hel:∀(i:Nat) d v,(ds l[n])[i]? = some d→vs[i]? = some v→RD g.γ w d v:=by
   intro i d v hd hvv;have hi:i<sz:=by have:=(Bku.1 hd).1;simp only[hk]at this;exact this
   refine hcc (n*sz+i) d v ?_ ?_
   ·rw[A9c i hi];exact hd
   ·rw[← hv i hi];exact hvv
  refine⟨row++[⟨(l[n],vs),hvl,hel⟩],by rw[Bme,r1];rfl,?_,?_⟩
  ·rw[Ble,r2,Bmy,Bl8 hln];rfl
  ·intro j hj;have hlen:(row.map (·.1.2)).flatten.length=n*sz:=by have:=Hj (enc:=fun x:El ds sz g w=>x.1.2) (sz:=sz) (fun x=>x.2.1) row;rw[r1]at this;exact this
   rw[Ble,Boa,Bm2,hlen];split
   ·rename_i h;exact r3 j h
   ·rename_i h;rw[Bna]at hj;have:=hv (j-n*sz) (by omega);simp only[Bkv,Bll,Bmj,List.flatten_nil,Blt];rw[this,show n*sz+(j-n*sz)=j by omega]
theorem B6l{τ:Type}{f c:FuncId}{s x:Operand}{ts:Array TypeId}{k len sz:Nat}{ds:τ→A2 D}(hk:∀x,(ds x).length=sz)(Iu:∀x,∀d∈ds x,Zw d=true){l:A2 τ}{ty:A3 TypeId}{cf:τ→τ→Int}(φ:A2 τ)
  (ho:o.op = .call { callee:=.value (.func f),args:=#[s,x],argTypes:=ts }) (hf:Ez P f) (Kz:X.objs.lookup k=some (.cells ((l.map ds).flatten.map .d) ty)) (hlen:len≤l.length) (Wg:len<4611686018427387904)
  (hφ:∀r:A2 τ,r.Perm (l.take len)→r.Pairwise (fun x y=>ltOf cf y x=false)→r=φ)
  (hN:∀p cap w,Calls P f #[.slice p 0 cap,.func (.func c) #[] #[]] w fun e w'=>e = .returned (.tuple #[])∧w'=w)
  (hO:SWO (ltOf cf)) (hc:∀x y,Lz P c [.d (.agg (ds x)),.d (.agg (ds y))] X0 (.d (.sc (.int .i64 (cf x y)))) X0) (hS:Atk P f c sz) :
  Bp P o [(s,.osl k 0 len sz),(x,.Ff c [])] X ⟨setObj k (.cells (((φ++l.drop len).map ds).flatten.map .d) ty) X.objs,X.live⟩ [] (.E2 []):=by
 intro nm Ek B g w a hr Aq next Q Eo
 have e1:=H9 Aq;have e2:=Aq (x,.Ff c []) (by simp);simp only at e1 e2;obtain⟨cap,q,Sc,hv,hq,T,c',hsh,Q2⟩:=e1.Q1;generalize hfv:a.eval x=fv at e2;cases e2 with
 |Ff _ _ vs hl0 _ =>
 have Nz:vs=#[]:=by apply Bm8;rw[← hl0];rfl
 subst Nz;unfold Oper.wp;have C2:(execOp a.eval o).run P w = .ok (.enter f #[.slice (some ⟨g.ρ k,q,none⟩) len cap,.func (.func c) #[] #[]]) w:=by
  have h1:(execOp a.eval o).run P w = .ok (.enter f (#[s,x].map a.eval)) w:=by simp only[execOp,ho,resolve];simp[Act.eval,Deferred.ofValue,invoke,D5 hf]
  rw[h1];have h2:#[s,x].map a.eval=#[.slice (some ⟨g.ρ k,q,none⟩) len cap,.func (.func c) #[] #[]]:=by
   have h3:#[s,x].map a.eval=#[a.eval s,a.eval x]:=by simp only[Bq2,Bkv,Bll]
   rw[h3,hv,hfv]
  rw[h2]
 rw[C2];cases hr.objs k _ Kz with
 |cells _ _ arr T' hb hl hcc Yl =>
 rw[Blb]at hl;have hfl:∀m:A2 τ,(m.map ds).flatten.length=m.length*sz:=by
  intro m;induction m with
  |nil=>simp
  |cons x m ih=>simp only[Bkv,Bmj,Bme,ih,hk,Blg,Bna];omega
 have Ap7:l.length*sz≤arr.size:=by rw[← hfl];exact hl
 have Bg9:∀(j:Nat) d v,(l.map ds).flatten[j]? = some d→arr[j]? = some v→RD g.γ w d v:=by
  intro j d v hd hvv;have:=hcc j (.d d) v (by rw[Bkt,hd];rfl) hvv;cases this with
  |d _ _ h=>exact h
 have hd:(l.take len).length=len:=by simp;omega
 by_cases B6i:len=0
 ·subst B6i;refine(hN _ _ _).mono ?_;rintro e w' ⟨rfl,rfl⟩;have he:φ++l.drop 0=l:=by rw[← hφ [] (by simp) (by simp)];simp
  rw[he]at Eo;obtain⟨hw1,hw2⟩:=hr.write Kz (w':=w') (o':=.cells ((l.map ds).flatten.map .d) ty) rfl ⟨rfl,rfl,rfl,Bl1 _⟩ (fun _ _=>rfl) (fun _=>.cells _ _ arr T' hb (by rw[Blb];exact hl) hcc Yl) (fun s h=>h);exact Eo g w' _ hw1 hw2 (.E2 _ _ rfl (by simp))
 ·have hq0:q=0:=hq.resolve_left (by omega);subst hq0;have Bki:g.ρ k<w.heap.size:=Ey (hr.objs k _ Kz);obtain⟨row,r1,r2,r3⟩:=B0n (g:=g) (w:=w) hk Ap7 Bg9 len hlen;let enc:El ds sz g w→A2 Value:=fun p=>p.1.2
  have hek:∀p,(enc p).length=sz:=fun p=>p.2.1
  have Bga:∀p,∀v∈enc p,v.oneCell'=true:=by
   intro p v hvm;obtain⟨i,hi,rfl⟩:=List.mem_iff_getElem.1 hvm;have hi2:i<(ds p.1.1).length:=by rw[hk,← p.2.1];exact hi
   exact A92 (p.2.2 i _ _ (Bl8 hi2) (Bl8 hi)) (Iu _ _ (Bmc hi2))
  have hne:row≠[]:=by intro h;rw[h]at r1;simp at r1;omega
  letI:Inhabited (El ds sz g w):=⟨row.head hne⟩;let cf':El ds sz g w→El ds sz g w→Int:=fun p q=>cf p.1.1 q.1.1
  have Bs:∀p q,ltOf cf' p q=ltOf cf p.1.1 q.1.1:=fun _ _=>rfl
  have hO':SWO (ltOf cf'):=⟨fun x=>hO.irrefl _,fun x y z=>hO.trans _ _ _,fun x y z=>hO.ntrans _ _ _⟩;have hrs:row.toArray.size=len:=by simp[r1]
  have hH:HoldsK enc sz w (g.ρ k) 0 row.toArray:=by
   intro j hj;have Gf:j<len*sz:=by rw[size_flatK,hrs]at hj;exact hj
   have h1:=Aby hek row j (by rw[r1];exact Gf);have h2:=r3 j Gf;have h3:arr[j]? = some (flatK enc sz row.toArray)[j]!:=by rw[← h2];exact h1
   constructor
   ·rw[Bg hb,Blx,h3];rfl
   ·simp[World.frozen?,hb]
  have Bdy:∀m dk os (hdk:dk.size=row.toArray.size),(∀b,g.γ b≠0→(sortWorldK enc sz w (g.ρ k) 0 m dk os).heap[b]? = w.heap[b]?)∧∀b s,w.shape? b=some s→(sortWorldK enc sz w (g.ρ k) 0 m dk os).shape? b=some s:=by
   intro m dk os hdk;have hold:∀b,b<w.heap.size→(sortWorldK enc sz w (g.ρ k) 0 m dk os).heap[b]? = (putRowK enc sz (Sort.ahead w m) (g.ρ k) 0 dk).heap[b]?:=by intro b hbl;exact heap_grow_old _ _ (by simpa[putRowK]using hbl)
   have Wh:∀b,b≠g.ρ k→(putRowK enc sz (Sort.ahead w m) (g.ρ k) 0 dk).heap[b]? = w.heap[b]?:=by intro b B6j;simp only[putRowK,putRow,mapBlock,Bm7,Bqd];rw[Blj (Bnf B6j)]
   refine⟨fun b hγ=>?_,fun b s hs=>?_⟩
   ·have hbl:=γ_lt hr (show 0<g.γ b by omega);rw[hold b hbl,Wh b (by rintro rfl;exact hγ (hr.Fx k _ Kz))]
   ·have hbl:b<w.heap.size:=by
     rcases Bng b w.heap.size with h|h
     ·exact h
     ·simp[World.shape?,Bnv h]at hs
    by_cases hbk:b=g.ρ k
    ·subst hbk;have G0:(putRowK enc sz (Sort.ahead w m) (g.ρ k) 0 dk).heap[g.ρ k]? = some (.cells (putCells id 0 (flatK enc sz dk) arr) T' (0,0)):=by simp only[putRowK,putRow,mapBlock,Bm7,Bqd,hb];simp[onCells]
     simp only[World.shape?,hb]at hs;simp only[World.shape?,hold _ hbl,G0];simpa[putCells]using hs
    ·simp only[World.shape?,hold b hbl,Wh b hbk]at hs⊢;exact hs
  have Atl:CmpLays P c #[] enc sz cf' (g.ρ k) 0 row.toArray.size w:=by
   intro m os dk hdk p q;obtain⟨w1,w2⟩:=Bdy m dk os hdk;have hle:=B6k (w':=sortWorldK enc sz w (g.ρ k) 0 m dk os) hr.Ik w1 w2;have T8:∀p:El ds sz g w,RA (full (sortWorldK enc sz w (g.ρ k) 0 m dk os)) (sortWorldK enc sz w (g.ρ k) 0 m dk os) (.d (.agg (ds p.1.1))) (.agg (enc p).toArray):=by intro p;refine .d _ _ (.agg _ _ (by simp[enc,hk,p.2.1]) ?_);intro i d v hdd hvv;exact(p.2.2 i d v hdd (by simpa[enc]using hvv)).mono hle
   have:=(hc p.1.1 q.1.1).grown (w:=sortWorldK enc sz w (g.ρ k) 0 m dk os) (vs:=#[.agg (enc p).toArray,.agg (enc q).toArray]) rfl (by
    intro i z v hz hvv
    match i with
    |0=>simp at hz hvv;subst hz;subst hvv;exact T8 p
    |1=>simp at hz hvv;subst hz;subst hvv;exact T8 q
    |n+2=>simp at hz)
   simpa using this
  have Tq:=hS (El ds sz g w) enc hek Bga cf' hO' (g.ρ k) cap row.toArray w Atl hH Bki (by rw[hrs];exact Wg);rw[hrs]at Tq;refine Tq.mono ?_;rintro e w' ⟨rfl,d',n,os,Hp,Bgb,rfl⟩;obtain⟨p1,_,p3⟩:=Hp;rw[hrs]at p1;have B2t:d'.size=len:=p1;have hpm:d'.toList.Perm row:=by
   have h4:d'.extract 0 len=d':=by rw[← B2t];simp
   have h5:row.toArray.extract 0 len=row.toArray:=by rw[← hrs];simp
   rw[h4,h5]at p3;simpa using p3
  have Bgc:d'.toList.map (·.1.1)=φ:=by
   refine hφ _ ?_ ?_
   ·rw[← r2];exact hpm.map _
   ·rw[Bo8,Bmg];intro i j hi hj hij;have Lp:i<d'.size:=by simpa using hi
    have Gf:j<d'.size:=by simpa using hj
    have:=Bgb i j (Bnm _) hij (by omega);rw[Bpe d' i Lp,Bpe d' j Gf]at this;simpa[Bs]using this
  let Ch:=putCells id 0 (flatK enc sz d') arr;have G0:(putRowK enc sz (Sort.ahead w n) (g.ρ k) 0 d').heap[g.ρ k]? = some (.cells Ch T' (0,0)):=by simp only[putRowK,putRow,mapBlock,Bm7,Bqd,hb];simp[onCells,Ch]
  have Agx:Ch.size=arr.size:=by simp[Ch,putCells]
  have N5:∀j (hj:j<arr.size),Ch[j]? = some (if j<len*sz then (flatK enc sz d')[j]! else arr[j]):=by intro j hj;simp only[Ch,putCells,Brr,Bli hj,Blq,size_flatK,B2t,Bnm,Bq3,Blx,Bnu,id]
  have B6m:φ.length=len:=by rw[← Bgc];simp[B2t]
  have A9h:(φ++l.drop len).length=l.length:=by simp[B6m];omega
  have hwr:HR nm B g (putRowK enc sz (Sort.ahead w n) (g.ρ k) 0 d') ⟨setObj k (.cells (((φ++l.drop len).map ds).flatten.map .d) ty) X.objs,X.live⟩∧Trans [] g w g (putRowK enc sz (Sort.ahead w n) (g.ρ k) 0 d'):=by
   refine hr.write Kz (by simp[putRowK]) ⟨rfl,rfl,rfl,by simp[putRowK]⟩ (fun b B6j=>?_) (fun htr=>?_) (fun s hs=>?_)
   ·simp only[putRowK,putRow,mapBlock,Bm7,Bqd];rw[Blj (Bnf B6j)]
   ·refine .cells _ _ Ch T' G0 (by rw[Agx,Blb,hfl,A9h];exact Ap7) ?_ Yl;intro j y v hy hv';rw[Bkt,Bky]at hy;obtain⟨u,hu,rfl⟩:=hy;have Ba4:j<l.length*sz:=by have:=(Bku.1 hu).1;rw[hfl,A9h]at this;exact this
    have hja:j<arr.size:=by omega
    rw[N5 j hja]at hv';simp only[Bks]at hv';rw[Ble,Boa,Bm2,hfl,B6m]at hu;refine .d _ _ (RD.mono ?_ htr.le);by_cases hj:j<len*sz
    ·rw[Blv hj]at hu hv';have hs0:0<sz:=by
      rcases Bmu sz with h|h
      ·rw[h]at hj;omega
      ·exact h
     have hq1:j/sz<len:=by rw[Bq8 hs0];exact hj
     have hq2:j % sz<sz:=Bqb _ hs0;have hq3:j/sz<d'.size:=by omega
     rw[get_flatK enc sz _ _ (by rw[B2t];exact hj),Bpe d' _ hq3]at hv';have hel:=d'[j/sz].2;have Bil:φ[j/sz]? = some d'[j/sz].1.1:=by rw[← Bgc,Bkt,Bml,Bli hq3];rfl
     have hu2:(φ.map ds).flatten[j]? = (ds d'[j/sz].1.1)[j % sz]?:=by
      have key:∀(m:A2 τ) (j:Nat),(m.map ds).flatten[j]? = (m[j/sz]?).bind fun x=>(ds x)[j % sz]?:=by
       intro m;induction m with
       |nil=>intro j;simp
       |cons x m ih =>
        intro j;simp only[Bkv,Bmj,Bm2,hk];split
        ·rename_i h;rw[Nat.div_eq_of_lt h,Bq1 h];simp
        ·rename_i h;rw[ih,← Nat.sub_add_cancel (show sz≤j by omega)];simp only[Bpr,Nat.add_mod_right,Nat.add_div_right _ hs0];simp
      rw[key,Bil];rfl
     rw[hu2]at hu;have hq4:j % sz<(enc d'[j/sz]).length:=by rw[hek];exact hq2
     rw[Bqc,Bl8 hq4]at hv';refine hel.2 (j % sz) u v hu ?_;rw[← hv'];exact Bl8 hq4
    ·rw[Blj hj]at hu hv';have h4:(l.map ds).flatten[j]? = some u:=by
      have:(l.map ds).flatten=((l.take len).map ds).flatten++((l.drop len).map ds).flatten:=by rw[← Boa,← Ble,Bmt]
      rw[this,Bnj (by rw[hfl,hd];omega),hfl,hd];exact hu
     refine Bg9 j u v h4 ?_;rw[Bli hja,hv']
   ·simp only[World.shape?,hb]at hs;simp only[World.shape?,G0,Agx];exact hs
  obtain⟨h6,h7⟩:=hwr;have Atj:HR nm B g (sortWorldK enc sz w (g.ρ k) 0 n d' os) _∧Trans [] g (putRowK enc sz (Sort.ahead w n) (g.ρ k) 0 d') g (sortWorldK enc sz w (g.ρ k) 0 n d' os) :=
   h6.grow (by simp[sortWorldK]) (fun b hbl=>heap_grow_old _ _ hbl) ⟨rfl,rfl,rfl,Bl1 _⟩
  exact Eo g _ _ Atj.1 (h7.trans Atj.2) (.E2 _ _ rfl (by simp))
end
def B6n(P:Program)(f:FuncId)(t:TypeId):Prop :=
 ∀(b n:Nat) (arr:Array Value) (T:TypeId) (w:World),w.heap[b]? = some (.cells arr T (0,0))→arr[1]? = some (.slice none 0 0)→n≤140737488355328 →
  Calls P f #[.pointer (some ⟨b,0,none⟩),.int .i64 n] w fun e w'=>e = .returned (.tuple #[])∧∃cs:Array Value,n≤cs.size ∧
   w'=((w.setCell ⟨b,1,none⟩ (.slice (some ⟨w.heap.size,0,none⟩) 0 cs.size)).alloc (.cells cs t)).drew.drew.drew
theorem Bab{P:Program}{o:Oper}{X:A7}{f:FuncId}{s x:Operand}{ts:Array TypeId}{t:TypeId}{k m n:Nat}{c0:AV}{ty:A3 TypeId}
  (ho:o.op = .call { callee:=.value (.func f),args:=#[s,x],argTypes:=ts }) (hf:Ez P f) (hC:B6n P f t) (hn:n≤140737488355328)
  (hk:X.objs.lookup k=some (.cells [c0,.d (.sc (.slice none 0 0))] ty)) (hm:m∉X.live) (hX:B7 [m] X=true) :
  Bp P o [(s,.ptr k 0),(x,.d (.sc (.int .i64 n)))] X ⟨setObj k (.cells [c0,.Bu m 1 [] (some t)] ty) X.objs,m::X.live⟩ [m] (.E2 []):=by
 intro nm Ek B g w a hr Aq next Q Eo
 have e1:=(H9 Aq).Is;have e2:=(T9 Aq).Al;simp only at e1 e2;unfold Oper.wp;have C2:(execOp a.eval o).run P w = .ok (.enter f #[.pointer (some ⟨g.ρ k,0,none⟩),.int .i64 n]) w:=by
  have h1:(execOp a.eval o).run P w = .ok (.enter f (#[s,x].map a.eval)) w:=by simp only[execOp,ho,resolve];simp[Act.eval,Deferred.ofValue,invoke,D5 hf]
  rw[h1];have h3:#[s,x].map a.eval=#[a.eval s,a.eval x]:=by simp only[Bq2,Bkv,Bll]
  rw[h3,e1,e2]
 rw[C2];cases hr.objs k _ hk with
 |cells _ _ arr T hb hlen hc Yl =>
 have G9:2≤arr.size:=by simpa using hlen
 have h1:arr[1]? = some (.slice none 0 0):=by rw[Bli (by omega)];have:=hc 1 _ _ rfl (Bli (by omega));rw[this.Al]
 refine(hC (g.ρ k) n arr T w hb h1 hn).mono ?_;rintro e w' ⟨rfl,cs,Q2,rfl⟩;have Bs:g.ρ k<w.heap.size:=Ey (hr.objs k _ hk);generalize hv:Value.slice (some ⟨w.heap.size,0,none⟩) 0 cs.size=v;let wA:World:=(w.alloc (.cells cs t)).drew.drew.drew;have hAs:wA.heap.size=w.heap.size+1:=by simp[wA]
 have Bcr:∀b,b<w.heap.size→wA.heap[b]? = w.heap[b]?:=fun b hb=>O2 w _ hb
 have Bgd:wA.heap[w.heap.size]? = some (.cells cs t (0,0)):=by show(w.heap.push (.cells cs t))[w.heap.size]? = _;rw[Array.getElem?_push_size]
 have B5v:((w.setCell ⟨g.ρ k,1,none⟩ v).alloc (.cells cs t)).drew.drew.drew=wA.setCell ⟨g.ρ k,1,none⟩ v:=by
  have:(w.setCell ⟨g.ρ k,1,none⟩ v).alloc (.cells cs t)=(w.alloc (.cells cs t)).setCell ⟨g.ρ k,1,none⟩ v:=by
   unfold World.setCell World.alloc;simp only;congr 1;apply Array.ext_getElem?;intro i;rw[Bp5,Bm7,Bm7,Bp5,Array.size_modify];by_cases hi:i=w.heap.size
   ·subst hi;have:¬g.ρ k=w.heap.size:=by omega
    simp[this]
   ·simp[hi]
  rw[this];rfl
 rw[B5v];obtain⟨Yk,ht1⟩:=hr.grow (w':=wA) (by omega) Bcr ⟨rfl,rfl,rfl,by show w.drawn≤w.drawn+1+1+1;omega⟩;have hγ:g.γ w.heap.size=0:=by
  rcases Bmu (g.γ w.heap.size)with h|h
  ·exact h
  ·exact absurd (γ_lt hr h) (Bmr _)
 obtain⟨Xx,V4⟩:=Yk.P1 hm (some w.heap.size) hX (by
  intro b hb;cases hb;refine⟨by omega,.inl hr.base,?_,?_,?_⟩
  ·intro j ob hj he;have:=Ey (hr.objs j ob hj);omega
  ·intro q hq;have:=hr.Cd q _ hq;omega
  ·intro L i hL he;have:=hr.eta.lt L i _ hL he;omega)
 let g2:Gh:={ g with β:=Nj g.β m (some (some w.heap.size)),η:=Nj g.η m fun _=>none };have hbA:wA.heap[g.ρ k]? = some (.cells arr T (0,0)):=(Bcr _ Bs).trans hb;have Xv:(wA.setCell ⟨g.ρ k,1,none⟩ v).heap[g.ρ k]? = some (.cells (arr.setIfInBounds 1 v) T (0,0)):=by simp[World.setCell,Bm7,hbA]
 have Wh:∀b,b≠g.ρ k→(wA.setCell ⟨g.ρ k,1,none⟩ v).heap[b]? = wA.heap[b]?:=by intro b hb;simp[World.setCell,Bm7,Bnf hb]
 obtain⟨hr3,ht3⟩:=Xx.write (w':=wA.setCell ⟨g.ρ k,1,none⟩ v) (k:=k) hk (o':=.cells [c0,.Bu m 1 [] (some t)] ty) (by simp[World.setCell]) ⟨rfl,rfl,rfl,Bl1 _⟩ Wh (by
  intro ht';refine .cells _ ty (arr.setIfInBounds 1 v) T Xv (by simpa using G9) ?_ Yl;intro i z u hz hu
  match i,hz with
  |0,hz =>
   cases hz;have hf0:Xu [m] c0:=by
    rcases Hh hX hk with h|h
    ·cases h
    ·simp only[F9,Bz,Bls]at h;exact Ot h.1
   rw[Array.getElem?_setIfInBounds_ne (by omega)]at hu;exact((((hc 0 _ _ rfl hu).mono ht1 (.nil _)).mono V4 hf0)).mono ht' (.nil _)
  |1,hz =>
   cases hz;have hu':u=v:=by rw[Array.getElem?_setIfInBounds_self_of_lt (by omega)]at hu;exact(Bor hu).symm
   rw[hu',← hv];refine .Bu _ _ _ _ _ (.sl 1 [] w.heap.size 0 0 cs.size rfl (by simp) (by simp) (by simp) (by simp)) ?_;intro ob Gg;have:ob=some w.heap.size:=by simp only[Aa]at Gg;exact(Bor Gg).symm
   subst this;have hnb:(wA.setCell ⟨g.ρ k,1,none⟩ v).heap[w.heap.size]? = some (.cells cs t (0,0)):=(Wh _ (by omega)).trans Bgd;rw[hv];refine⟨rfl,rfl,by simpa using hγ,?_,?_⟩
   ·intro j _ hj;refine⟨?_,Lib.frozen_of_heap hnb j⟩;rw[Brb hnb];have Gf:j<cs.size:=by simpa using hj
    rw[Bli Gf];rfl
   ·intro e he;cases he;exact⟨rfl,cs.size,by simp only[World.shape?,hnb]⟩
  |i+2,hz=>simp at hz) (by
  intro s' H4;simp only[World.shape?,hbA]at H4;simp only[World.shape?,Xv];simpa using H4)
 exact Eo g2 _ _ hr3 (by simpa using(ht1.trans V4).trans ht3) (.E2 _ _ rfl (by simp))
end Go.Ab
namespace Go.Xl
open Go.Ab
inductive Ty where
 |int (k:IntKind)
 |u8
 |bool
 |str
 |sl (t:Ty)
 |unit
 |pair (a b:Ty)
 |st1 (a:Ty)
 |tab (a:Ty)
 |err
 |ic (t:TypeId) (k:IntKind)
 |ptr
@[reducible] def Ty.T:Ty→Type
 |.int _=>Int
 |.u8=>UInt8
 |.bool=>Bool
 |.str=>A2 UInt8
 |.sl t=>List t.T
 |.unit=>Unit
 |.pair a b=>a.T×b.T
 |.st1 a=>a.T
 |.tab a=>List a.T
 |.err=>Bool
 |.ic _ _=>A3 Int
 |.ptr=>Unit
def Il:IntKind→IntKind→Bool
 |.i8,.i8|.i16,.i16|.i32,.i32|.i64,.i64|.u8,.u8|.u16,.u16|.u32,.u32|.u64,.u64=>true
 |_,_=>false
theorem Fi{a b:IntKind}(h:Il a b=true):a=b:=by cases a<;>cases b<;>first|rfl|(simp[Il]at h)
def Ty.Ji:Ty→Ty→Bool
 |.int k,.int k'=>Il k k'
 |.u8,.u8=>true
 |.bool,.bool=>true
 |.str,.str=>true
 |.sl a,.sl b=>a.Ji b
 |.unit,.unit=>true
 |.pair a b,.pair c d=>cond (a.Ji c) (b.Ji d) false
 |.st1 a,.st1 b=>a.Ji b
 |.tab a,.tab b=>a.Ji b
 |.err,.err=>true
 |.ic t k,.ic t' k'=>cond (Nat.beq t t') (Il k k') false
 |.ptr,.ptr=>true
 |_,_=>false
theorem Ty.Au:∀ {a b:Ty},a.Ji b=true→a=b:=by
 intro a;induction a with
 |int k=>intro b h;cases b<;>simp[Ty.Ji]at h;rw[Fi h]
 |u8=>intro b h;cases b<;>simp[Ty.Ji]at h;rfl
 |bool=>intro b h;cases b<;>simp[Ty.Ji]at h;rfl
 |str=>intro b h;cases b<;>simp[Ty.Ji]at h;rfl
 |sl t ih=>intro b h;cases b<;>simp[Ty.Ji]at h;rw[ih h]
 |unit=>intro b h;cases b<;>simp[Ty.Ji]at h;rfl
 |pair x y ihx ihy=>intro b h;cases b<;>simp[Ty.Ji]at h;rw[ihx h.1,ihy h.2]
 |st1 t ih=>intro b h;cases b<;>simp[Ty.Ji]at h;rw[ih h]
 |tab t ih=>intro b h;cases b<;>simp[Ty.Ji]at h;rw[ih h]
 |err=>intro b h;cases b<;>simp[Ty.Ji]at h;rfl
 |ptr=>intro b h;cases b<;>simp[Ty.Ji]at h;rfl
 |ic t k =>
  intro b h;cases b with
  |ic t' k' =>
   simp only[Ty.Ji]at h;cases hb:Nat.beq t t' with
   |false=>simp[hb]at h
   |true=>simp only[hb,Bkn]at h;rw[Bkr hb,Fi h]
  |_=>simp[Ty.Ji]at h
def Ty.size:Ty→Nat
 |.unit=>0
 |.pair a b=>a.size+b.size
 |.st1 a=>a.size
 |_=>1
inductive XD where
 |i (k:IntKind) (n:Int)
 |u8 (b:UInt8)
 |b (b:Bool)
 |s (l:List UInt8)
 |v (v:Value)
 |agg (cs:List XD)
 |sl (t:Ty) (l:List t.T)
 |ep (cs:List XD)
 |pa (t:Ty) (l:List t.T)
 |er (b:Bool)
 |pp
 |ic (t:TypeId) (k:IntKind) (x:Option Int)
 |ag (t:Ty) (l:List t.T)
def Ty.enc:(t:Ty)→t.T→A2 XD
 |.int k,n=>[.i k n]
 |.u8,x=>[.u8 x]
 |.bool,x=>[.b x]
 |.str,x=>[.s x]
 |.sl t,l=>[.sl t l]
 |.unit,_=>[]
 |.pair a b,x=>a.enc x.1++b.enc x.2
 |.st1 a,x=>a.enc x
 |.tab t,l=>[.pa t l]
 |.err,b=>[.er b]
 |.ic t k,x=>[.ic t k x]
 |.ptr,_=>[.pp]
def Ty.xv:(t:Ty)→t.T→XD
 |.int k,n=>.i k n
 |.u8,x=>.u8 x
 |.bool,x=>.b x
 |.str,x=>.s x
 |.sl t,l=>.sl t l
 |.unit,_=>.agg []
 |.pair a b,x=>.agg (a.enc x.1++b.enc x.2)
 |.st1 a,x=>.agg (a.enc x)
 |.tab t,l=>.pa t l
 |.err,b=>.er b
 |.ic t k,x=>.ic t k x
 |.ptr,_=>.pp
def Ap8(v:Value):Prop:=∃a,v = .pointer a
def isIface(v:Value):Prop:=∃t u,v = .iface t u
def erD(b:Bool):D:=cond b (.any isIface) (.sc .nilIface)
theorem Bac(b:Bool):Zw (erD b)=true:=by cases b<;>rfl
def icV(t:TypeId)(k:IntKind):A3 Int→Value
 |none=>.nilIface
 |some n=>.iface t (.int k n)
theorem Bad(t:TypeId)(k:IntKind)(x:A3 Int):(icV t k x).oneCell'=true:=by cases x<;>rfl
def Ty.ds:(t:Ty)→t.T→A2 D
 |.int k,n=>[.int k n]
 |.u8,x=>[.sc (.int .u8 (x.toNat:Int))]
 |.bool,x=>[.bool x]
 |.str,x=>[.bs x]
 |.sl t,l=>[.sl t.size (l.map t.ds)]
 |.unit,_=>[]
 |.pair a b,x=>a.ds x.1++b.ds x.2
 |.st1 a,x=>a.ds x
 |.tab t,l=>[.ep ((l.map t.ds).flatten)]
 |.err,b=>[erD b]
 |.ic t k,x=>[.sc (icV t k x)]
 |.ptr,_=>[.any Ap8]
def XD.isAgg:XD→Bool
 |.agg _=>true
 |.ag _ _=>true
 |_=>false
mutual
def XD.d:XD→D
 |.i k n=>.int k n
 |.u8 x=>.sc (.int .u8 (x.toNat:Int))
 |.b x=>.bool x
 |.s l=>.bs l
 |.v u=>.sc u
 |.agg cs=>.agg (D6 cs)
 |.sl t l=>.sl t.size (l.map t.ds)
 |.ep cs=>.ep (D6 cs)
 |.pa t l=>.ep ((l.map t.ds).flatten)
 |.er b=>erD b
 |.ic t k x=>.sc (icV t k x)
 |.pp=>.any Ap8
 |.ag t l=>.agg ((l.map t.ds).flatten)
def D6:List XD→List D
 |[]=>[]
 |x::r=>x.d::D6 r
end
theorem Ha(l:A2 XD):D6 l=l.map XD.d:=by
 induction l with
 |nil=>rfl
 |cons x r ih=>simp[D6,ih]
theorem Wz(a b:A2 XD):D6 (a++b)=D6 a++D6 b:=by simp[Ha]
theorem Gn(l:A2 XD):(D6 l).length=l.length:=by simp[Ha]
theorem Ty.M8:∀(t:Ty) (x:t.T),D6 (t.enc x)=t.ds x
 |.int k,n=>rfl
 |.u8,x=>rfl
 |.bool,x=>rfl
 |.str,x=>rfl
 |.sl t,l=>rfl
 |.unit,_=>rfl
 |.pair a b,x=>by simp only[Ty.enc,Ty.ds,Wz,Ty.M8 a,Ty.M8 b]
 |.st1 a,x=>by simp only[Ty.enc,Ty.ds,Ty.M8 a]
 |.tab t,l=>rfl
 |.err,b=>rfl
 |.ic t k,x=>rfl
 |.ptr,_=>rfl
theorem Ty.Cf:∀(t:Ty) (x:t.T),(t.ds x).length=t.size
 |.int k,n=>rfl
 |.u8,x=>rfl
 |.bool,x=>rfl
 |.str,x=>rfl
 |.sl t,l=>rfl
 |.unit,_=>rfl
 |.pair a b,x=>by simp only[Ty.ds,Ty.size,Bme,Ty.Cf a,Ty.Cf b]
 |.st1 a,x=>by simp only[Ty.ds,Ty.size,Ty.Cf a]
 |.tab t,l=>rfl
 |.err,b=>rfl
 |.ic t k,x=>rfl
 |.ptr,_=>rfl
theorem Ty.A77(t:Ty)(x:t.T):(t.enc x).length=t.size:=by rw[← Gn,Ty.M8,Ty.Cf]
theorem Ty.V7:∀(t:Ty) (x:t.T),∀c∈t.ds x,Zw c=true
 |.int k,n=>by simp[Ty.ds,Zw,Value.oneCell']
 |.u8,x=>by simp[Ty.ds,Zw,Value.oneCell']
 |.bool,x=>by simp[Ty.ds,Zw,Value.oneCell']
 |.str,x=>by simp[Ty.ds,Zw,Value.oneCell']
 |.sl t,l=>by simp[Ty.ds,Zw]
 |.unit,_=>by simp[Ty.ds]
 |.pair a b,x=>by
  intro c hc;simp only[Ty.ds,Bkw]at hc;rcases hc with h|h
  ·exact Ty.V7 a _ c h
  ·exact Ty.V7 b _ c h
 |.st1 a,x=>by simp only[Ty.ds];exact Ty.V7 a x
 |.tab t,l=>by simp[Ty.ds,Zw]
 |.err,b=>by simp only[Ty.ds,Bl7];rintro c rfl;exact Bac b
 |.ic t k,x=>by simp only[Ty.ds,Bl7];rintro c rfl;exact Bad t k x
 |.ptr,_=>by simp only[Ty.ds,Bl7];rintro c rfl;rfl
def DLe(x y:D):Prop:=∀(γ:Nat→Nat) (w:World) (v:Value),RD γ w x v→RD γ w y v
theorem DLe.refl(x:D):DLe x x:=fun _ _ _ h=>h
inductive Lm:List D→List D→Prop
 |nil:Lm [] []
 |cons {x y:D} {r s:List D}:DLe x y→Lm r s→Lm (x::r) (y::s)
theorem Lm.refl:∀(l:A2 D),Lm l l
 |[]=>.nil
 |x::r=>.cons (.refl x) (Lm.refl r)
theorem Lm.append{a b c d:A2 D}(h:Lm a b)(h':Lm c d):Lm (a++c) (b++d):=by
 induction h with
 |nil=>exact h'
 |cons h1 _ ih=>exact .cons h1 ih
theorem Lm.length{a b:A2 D}(h:Lm a b):a.length=b.length:=by
 induction h with
 |nil=>rfl
 |cons _ _ ih=>simp[ih]
theorem Lm.get{a b:A2 D}(h:Lm a b):∀ {i:Nat} {y:D},b[i]? = some y→∃x,a[i]? = some x∧DLe x y:=by
 induction h with
 |nil=>intro i y hy;simp at hy
 |cons h1 _ ih =>
  intro i y hy;cases i with
  |zero=>simp at hy;subst hy;exact⟨_,rfl,h1⟩
  |succ i=>simp at hy;simpa using ih hy
theorem Lm.agg{a b:A2 D}(h:Lm a b):DLe (.agg a) (.agg b):=by
 intro γ w v hr;cases hr with
 |agg _ vs hl hc =>
  refine .agg b vs (h.length▸hl) fun i c u hb hu=>?_
  obtain⟨x,hx,hle⟩:=h.get hb;exact hle _ _ _ (hc i x u hx hu)
theorem DLe.Bge(sz:Nat)(a:Addr)(cap:Nat):DLe (.sc (.slice (some a) 0 cap)) (.sl sz []):=by intro γ w v h;cases h;exact .nil sz (some a) cap (by simp)
theorem DLe.nil(sz:Nat):DLe (.sc (.slice none 0 0)) (.sl sz []):=by intro γ w v hr;cases hr;exact .nil sz none 0 fun _=>rfl
def Bae(k:IntKind):A2 XD→A3 (Int×A2 XD)
 |.i k' n::r=>cond (Il k' k) (some (n,r)) none
 |.u8 x::r=>cond (Il .u8 k) (some (((x.toNat:Nat):Int),r)) none
 |_=>none
def B0o:A2 XD→A3 (UInt8×A2 XD)
 |.u8 x::r=>some (x,r)
 |_=>none
def Baf:A2 XD→A3 (Bool×A2 XD)
 |.b x::r=>some (x,r)
 |_=>none
def Bag:A2 XD→A3 (A2 UInt8×A2 XD)
 |.s x::r=>some (x,r)
 |_=>none
def Bah(t:Ty):A2 XD→A3 (List t.T×A2 XD)
 |.sl t' l::r=>if h:t'.Ji t=true then some (Ty.Au h▸l,r)else none
 |.v (.slice none 0 0)::r=>some ([],r)
 |.v (.slice (some _) 0 _)::r=>some ([],r)
 |_=>none
def Bai(t:Ty):A2 XD→A3 (List t.T×A2 XD)
 |.pa t' l::r=>if h:t'.Ji t=true then some (Ty.Au h▸l,r)else none
 |_=>none
def Baj:A2 XD→A3 (Bool×A2 XD)
 |.er b::r=>some (b,r)
 |.ic t k x::r=>some (x.isSome,r)
 |.v .nilIface::r=>some (false,r)
 |_=>none
def B0p(t:TypeId)(k:IntKind):A2 XD→A3 (A3 Int×A2 XD)
 |.ic t' k' x::r=>cond (Nat.beq t' t) (cond (Il k' k) (some (x,r)) none) none
 |.v .nilIface::r=>some (none,r)
 |_=>none
def Bak:A2 XD→A3 (Unit×A2 XD)
 |.pp::r=>some ((),r)
 |.v (.pointer _)::r=>some ((),r)
 |_=>none
def Ty.dec:(t:Ty)→A2 XD→A3 (t.T×A2 XD)
 |.int k=>Bae k
 |.u8=>B0o
 |.bool=>Baf
 |.str=>Bag
 |.sl t=>Bah t
 |.unit=>fun r=>some ((),r)
 |.pair a b=>fun cs=>match a.dec cs with
  |some p=>match b.dec p.2 with
   |some q=>some ((p.1,q.1),q.2)
   |none=>none
  |none=>none
 |.st1 a=>a.dec
 |.tab t=>Bai t
 |.err=>Baj
 |.ic t k=>B0p t k
 |.ptr=>Bak
theorem B2u{k:IntKind}{cs r:A2 XD}{x:Int}(h:Bae k cs=some (x,r)):∃ds,D6 cs=ds++D6 r∧Lm ds [.int k x]:=by
 unfold Bae at h;split at h
 ·rename_i k' n r';cases hk:Il k' k<;>simp[hk]at h;have:=Fi hk;subst this;obtain⟨rfl,rfl⟩:=h;exact⟨[_],by simp[D6,XD.d],.refl _⟩
 ·rename_i x' r';cases hk:Il .u8 k<;>simp[hk]at h;have:=Fi hk;subst this;obtain⟨rfl,rfl⟩:=h;exact⟨[_],by simp[D6,XD.d],.refl _⟩
 ·cases h
theorem Axj{cs r:A2 XD}{x:UInt8}(h:B0o cs=some (x,r)):∃ds,D6 cs=ds++D6 r∧Lm ds (Ty.u8.ds x):=by
 unfold B0o at h;split at h
 ·cases h;exact⟨[_],by simp[D6,XD.d],.refl _⟩
 ·cases h
theorem B2v{cs r:A2 XD}{x:Bool}(h:Baf cs=some (x,r)):∃ds,D6 cs=ds++D6 r∧Lm ds (Ty.bool.ds x):=by
 unfold Baf at h;split at h
 ·cases h;exact⟨[_],by simp[D6,XD.d],.refl _⟩
 ·cases h
theorem B2w{cs r:A2 XD}{x:A2 UInt8}(h:Bag cs=some (x,r)):∃ds,D6 cs=ds++D6 r∧Lm ds (Ty.str.ds x):=by
 unfold Bag at h;split at h
 ·cases h;exact⟨[_],by simp[D6,XD.d],.refl _⟩
 ·cases h
theorem B2x{t:Ty}{cs r:A2 XD}{x:List t.T}(h:Bah t cs=some (x,r)):∃ds,D6 cs=ds++D6 r∧Lm ds (Ty.ds (.sl t) x):=by
 unfold Bah at h;split at h
 ·rename_i t' l r';split at h
  ·rename_i ht;simp only[Bks,Bld]at h;obtain⟨rfl,rfl⟩:=h;have e:=Ty.Au ht;subst e;exact⟨[_],by simp[D6,XD.d],.refl _⟩
  ·cases h
 ·cases h;exact⟨[_],by simp[D6,XD.d],.cons (.nil _) .nil⟩
 ·cases h;exact⟨[_],rfl,.cons (.Bge _ _ _) .nil⟩
 ·cases h
theorem B2y{t:Ty}{cs r:A2 XD}{x:List t.T}(h:Bai t cs=some (x,r)):∃ds,D6 cs=ds++D6 r∧Lm ds (Ty.ds (.tab t) x):=by
 unfold Bai at h;split at h
 ·rename_i t' l r';split at h
  ·rename_i ht;simp only[Bks,Bld]at h;obtain⟨rfl,rfl⟩:=h;have e:=Ty.Au ht;subst e;exact⟨[_],by simp[D6,XD.d],.refl _⟩
  ·cases h
 ·cases h
theorem B2z{cs r:A2 XD}{x:Bool}(h:Baj cs=some (x,r)):∃ds,D6 cs=ds++D6 r∧Lm ds (Ty.err.ds x):=by
 unfold Baj at h;split at h
 ·cases h;exact⟨[_],rfl,.refl _⟩
 ·rename_i t k x r;cases h;refine⟨[_],rfl,.cons ?_ .nil⟩;intro γ w v hr;cases hr;cases x with
  |none=>exact .sc _
  |some n=>exact .any _ _ ⟨t,_,rfl⟩ rfl
 ·cases h;exact⟨[_],rfl,.refl _⟩
 ·cases h
theorem Axk{t:TypeId}{k:IntKind}{cs r:A2 XD}{x:A3 Int}(h:B0p t k cs=some (x,r)):∃ds,D6 cs=ds++D6 r∧Lm ds ((Ty.ic t k).ds x):=by
 unfold B0p at h;split at h
 ·rename_i t' k' y r';cases hb:Nat.beq t' t with
  |false=>simp[hb]at h
  |true =>
   cases hk:Il k' k with
   |false=>simp[hb,hk]at h
   |true =>simp only[hb,hk,Bkn,Bks,Bld]at h;obtain⟨rfl,rfl⟩:=h;rw[Bkr hb,Fi hk];exact⟨[_],rfl,.refl _⟩
 ·cases h;exact⟨[_],rfl,.refl _⟩
 ·cases h
theorem B30{cs r:A2 XD}{x:Unit}(h:Bak cs=some (x,r)):∃ds,D6 cs=ds++D6 r∧Lm ds (Ty.ptr.ds x):=by
 unfold Bak at h;split at h
 ·cases h;exact⟨[_],rfl,.refl _⟩
 ·rename_i a r';cases h;refine⟨[_],rfl,.cons ?_ .nil⟩;intro γ w v hr;cases hr;exact .any _ _ ⟨a,rfl⟩ rfl
 ·cases h
theorem Ty.V8:∀(t:Ty) {cs:A2 XD} {x:t.T} {r:A2 XD},t.dec cs=some (x,r)→∃ds,D6 cs=ds++D6 r∧Lm ds (t.ds x):=by
 intro t;induction t with
 |int k=>intro cs x r h;exact B2u h
 |u8=>intro cs x r h;exact Axj h
 |bool=>intro cs x r h;exact B2v h
 |str=>intro cs x r h;exact B2w h
 |sl t ih=>intro cs x r h;exact B2x h
 |unit =>intro cs x r h;simp[Ty.dec]at h;exact⟨[],by simp[h],.nil⟩
 |pair a b iha ihb =>
  intro cs x r h;unfold Ty.dec at h;split at h
  ·rename_i p hp;split at h
   ·rename_i q hq;cases h;obtain⟨d1,h1,l1⟩:=iha (x:=p.1) (r:=p.2) hp;obtain⟨d2,h2,l2⟩:=ihb (x:=q.1) (r:=q.2) hq;exact⟨d1++d2,by rw[h1,h2];simp,by simpa[Ty.ds]using l1.append l2⟩
   ·cases h
  ·cases h
 |st1 a iha =>intro cs x r h;exact iha h
 |tab t ih=>intro cs x r h;exact B2y h
 |err=>intro cs x r h;exact B2z h
 |ic t k=>intro cs x r h;exact Axk h
 |ptr=>intro cs x r h;exact B30 h
def XD.cells:XD→A2 XD
 |.agg cs=>cs
 |.ag t l=>(l.map t.enc).flatten
 |x=>[x]
theorem Atm(t:Ty):∀(l:List t.T),D6 ((l.map t.enc).flatten)=(l.map t.ds).flatten
 |[]=>rfl
 |x::r=>by rw[Bkv,Bmj,Wz,Atm t r,t.M8];rfl
theorem XD.Bcs{x:XD}(h:x.isAgg=true):x.d = .agg (D6 x.cells):=by
 cases x with
 |agg cs=>rfl
 |ag t l=>simp only[XD.d,XD.cells,Atm]
 |_=>simp[XD.isAgg]at h
def Ty.agg:Ty→Bool
 |.unit=>true
 |.pair _ _=>true
 |.st1 _=>true
 |_=>false
def Ty.A22(t:Ty)(x:XD):Option t.T :=
 cond (cond t.agg x.isAgg (cond x.isAgg false true)) (match t.dec x.cells with
  |some (y,[])=>some y
  |_=>none) none
def Ty.dv(t:Ty)(x:t.T):D:=(t.xv x).d
theorem Ty.A01(t:Ty)(x:t.T)(h:t.agg=true):t.dv x = .agg (t.ds x):=by cases t<;>simp[Ty.agg]at h<;>simp[Ty.dv,Ty.xv,XD.d,D6,Ty.ds,Wz,Ty.M8]
theorem Ty.A02(t:Ty)(x:t.T)(h:t.agg=false):t.ds x=[t.dv x]:=by cases t<;>simp[Ty.agg]at h<;>rfl
theorem Ty.N8(t:Ty){x:XD}{y:t.T}(h:t.A22 x=some y):DLe x.d (t.dv y):=by
 unfold Ty.A22 at h;cases ht:t.agg with
 |true =>
  simp only[ht,Bkn]at h;cases hx:x.isAgg with
  |false=>simp[hx]at h
  |true =>
   simp only[hx,Bkn]at h;split at h
   ·rename_i y' hd;cases h;obtain⟨ds,h1,h2⟩:=t.V8 hd;rw[t.A01 _ ht,XD.Bcs hx];simp only[D6,Blt]at h1;rw[h1];exact h2.agg
   ·cases h
 |false =>
  simp only[ht,Bko]at h;cases hx:x.isAgg with
  |true=>simp[hx]at h
  |false =>
   simp only[hx,Bko,Bkn]at h;have hc:x.cells=[x]:=by cases x<;>first|rfl|(simp[XD.isAgg]at hx)
   rw[hc]at h;split at h
   ·rename_i y' hd;cases h;obtain⟨ds,h1,h2⟩:=t.V8 hd;rw[t.A02 _ ht]at h2;simp only[D6,Blt]at h1;subst h1;cases h2 with
    |cons h3 _=>exact h3
   ·cases h
inductive XV where
 |d (x:XD)
 |nm (k:Nat) (p:PK)
 |Bu (n:Nat) (t:Ty) (l:List t.T) (ty:Option TypeId)
 |E2 (l:List XV)
 |agg (l:List XV)
 |Ff (f:Nat) (J9:List XV)
 |os (k:Nat) (t:Ty) (a len:Nat)
 |el (k:Nat) (t:Ty) (i fo:Nat)
 |Uo (n e:Nat) (x:UInt8) (l:List UInt8)
mutual
def XV.a:XV→AV
 |.d x=>.d x.d
 |.nm k p=>.nm k p
 |.Bu n t l ty=>.Bu n t.size (l.map t.ds) ty
 |.E2 l=>.E2 (A9 l)
 |.agg l=>.agg (A9 l)
 |.Ff f l=>.Ff f (A9 l)
 |.os k t a len=>.nm k (.s (a*t.size) len t.size)
 |.el k t i fo=>.nm k (.p (i*t.size+fo))
 |.Uo n e x l=>.Uo n e (A20 (x::l))
def A9:List XV→List AV
 |[]=>[]
 |x::r=>x.a::A9 r
end
theorem Q7(l:A2 XV):A9 l=l.map XV.a:=by
 induction l with
 |nil=>rfl
 |cons x r ih=>simp[A9,ih]
theorem Ag(l:A2 XV):(A9 l).length=l.length:=by simp[Q7]
theorem L5(l:A2 XV)(i:Nat):(A9 l)[i]? = (l[i]?).map XV.a:=by simp[Q7]
theorem Dk(a b:A2 XV):A9 (a++b)=A9 a++A9 b:=by simp[Q7]
def A1g:D→Value
 |.sc v=>v
 |.agg cs=>.agg (B0q cs).toArray
 |_=>undef
where B0q:A2 D→A2 Value
 |[]=>[]
 |x::r=>A1g x::B0q r
inductive Sh where
 |nil
 |d (t:Ty) (r:Sh)
 |m (kt vt:Ty) (r:Sh)
 |s (a:Sh) (ty:Option TypeId) (r:Sh)
 |z (a:Sh) (ty:Option TypeId) (r:Sh)
@[reducible] def Sh.T:Sh→Type
 |.nil=>Unit
 |.d t r=>t.T×r.T
 |.m kt vt r=>A3 (A2 (Nat×kt.T×vt.T)×Nat)×r.T
 |.s a _ r=>a.T×r.T
 |.z a _ r=>Option a.T×r.T
def Sh.Ji:Sh→Sh→Bool
 |.nil,.nil=>true
 |.d t r,.d t' r'=>cond (t.Ji t') (r.Ji r') false
 |.m k v r,.m k' v' r'=>cond (k.Ji k') (cond (v.Ji v') (r.Ji r') false) false
 |.s a ty r,.s a' Wl r'=>cond (a.Ji a') (cond (ty==Wl) (r.Ji r') false) false
 |.z a ty r,.z a' Wl r'=>cond (a.Ji a') (cond (ty==Wl) (r.Ji r') false) false
 |_,_=>false
theorem Sh.Au:∀ {a b:Sh},a.Ji b=true→a=b:=by
 have cc:∀ {a b:Bool},cond a b false=true→a=true∧b=true:=by intro a b h;cases a<;>first|exact⟨rfl,h⟩|cases h
 intro a;induction a with
 |nil=>intro b h;cases b<;>first|rfl|cases h
 |d t r ih =>
  intro b h;cases b<;>first|(cases h;done)|skip
  obtain⟨h1,h2⟩:=cc h;rw[Ty.Au h1,ih h2]
 |m k v r ih =>
  intro b h;cases b<;>first|(cases h;done)|skip
  obtain⟨h1,h2⟩:=cc h;obtain⟨h2,h3⟩:=cc h2;rw[Ty.Au h1,Ty.Au h2,ih h3]
 |s a ty r ih1 ih2 =>
  intro b h;cases b<;>first|(cases h;done)|skip
  obtain⟨h1,h2⟩:=cc h;obtain⟨h2,h3⟩:=cc h2;rw[ih1 h1,eq_of_beq h2,ih2 h3]
 |z a ty r ih1 ih2 =>
  intro b h;cases b<;>first|(cases h;done)|skip
  obtain⟨h1,h2⟩:=cc h;obtain⟨h2,h3⟩:=cc h2;rw[ih1 h1,eq_of_beq h2,ih2 h3]
def H0:Nat:=1000000000000000000
def Fo(h i:Nat):Nat:=H0+(h*1000+i)
theorem Q8(h i:Nat):H0≤Fo h i:=Nat.le_add_right _ _
inductive Ac where
 |cells (cs:List XV) (ty:Option TypeId)
 |arr (t:Ty) (l:List t.T)
 |Oy (s:List UInt8) (pos:Nat)
 |map (kt vt:Ty) (es:List (Nat×kt.T×vt.T)) (clock:Nat)
 |Jg (m since:Nat) (seen:List Nat) (last:Nat)
 |Dt
 |bts (e:TypeId) (l:List UInt8)
 |Ck (L:Nat) (kt vt:Ty) (es:List (Nat×kt.T×Bool×List vt.T)) (clock:Nat)
 |abs (h:Nat) (S:Sh) (ty:Option TypeId) (x:S.T)
def Sh.cells(h:Nat):(i:Nat)→(S:Sh)→S.T→A2 XV
 |_,.nil,_=>[]
 |i,.d t r,x=>(t.enc x.1).map .d++r.cells h (i+1) x.2
 |i,.m _ _ r,x=>(match x.1 with
  |none=>.d (.v (.map none))
  |some _=>.nm (Fo h i) .m)::r.cells h (i+1) x.2
 |i,.s _ _ r,x=>.nm (Fo h i) (.p 0)::r.cells h (i+1) x.2
 |i,.z _ _ r,x=>(match x.1 with
  |none=>.d (.v (.pointer none))
  |some _=>.nm (Fo h i) (.p 0))::r.cells h (i+1) x.2
def B6o(kt vt:Ty)(es:A2 (Nat×kt.T×vt.T))(clock:Nat):Ob:=.map (es.map fun e=>(e.1,A1g (kt.dv e.2.1),vt.dv e.2.2)) clock
def Sh.C9(h:Nat):(i:Nat)→(S:Sh)→S.T→A2 (Nat×Ob)
 |_,.nil,_=>[]
 |i,.d _ r,x=>r.C9 h (i+1) x.2
 |i,.m kt vt r,x=>(match x.1 with
  |none=>[]
  |some y=>[(Fo h i,B6o kt vt y.1 y.2)])++r.C9 h (i+1) x.2
 |i,.s a ty r,x=>((Fo h i,.cells (A9 (a.cells (Fo h i) 0 x.1)) ty)::a.C9 (Fo h i) 0 x.1)++r.C9 h (i+1) x.2
 |i,.z a ty r,x=>(match x.1 with
  |none=>[]
  |some y=>(Fo h i,.cells (A9 (a.cells (Fo h i) 0 y)) ty)::a.C9 (Fo h i) 0 y)++r.C9 h (i+1) x.2
theorem Sh.N9:∀(S:Sh) (h i:Nat) (x:S.T) (p:Nat×Ob),p∈S.C9 h i x→H0≤p.1
 |.nil,h,i,x,p,hp=>by simp[Sh.C9]at hp
 |.d t r,h,i,x,p,hp=>Sh.N9 r h (i+1) x.2 p hp
 |.m kt vt r,h,i,x,p,hp=>by
  rcases Bkw.1 hp with hp|hp
  ·split at hp
   ·cases hp
   ·rw[Bl7]at hp;subst hp;exact Q8 _ _
  ·exact Sh.N9 r h (i+1) x.2 p hp
 |.s a ty r,h,i,x,p,hp=>by
  rcases Bkw.1 hp with hp|hp
  ·rcases Bkq.1 hp with rfl|hp
   ·exact Q8 _ _
   ·exact Sh.N9 a _ 0 x.1 p hp
  ·exact Sh.N9 r h (i+1) x.2 p hp
 |.z a ty r,h,i,x,p,hp=>by
  rcases Bkw.1 hp with hp|hp
  ·split at hp
   ·cases hp
   ·rename_i y _;rcases Bkq.1 hp with rfl|hp
    ·exact Q8 _ _
    ·exact Sh.N9 a _ 0 y p hp
  ·exact Sh.N9 r h (i+1) x.2 p hp
def Ac.o:Ac→Ob
 |.cells cs ty=>.cells (A9 cs) ty
 |.arr t l=>.cells ((l.map t.ds).flatten.map .d) none
 |.Oy s pos=>.Oy ⟨s.toArray⟩ pos
 |.map kt vt es clock=>.map (es.map fun e=>(e.1,A1g (kt.dv e.2.1),vt.dv e.2.2)) clock
 |.Jg m since seen last=>.Jg m since seen.toArray last
 |.Dt=>.Dt
 |.bts e l=>.cells ((Cv l).flatten.map .d) (some e)
 |.Ck L kt vt es clock=>.Ck L vt.size (es.map fun e=>(e.1,A1g (kt.dv e.2.1),e.2.2.1,e.2.2.2.map vt.ds)) clock
 |.abs h S ty x=>.cells (A9 (S.cells h 0 x)) ty
def Ac.C9:Ac→A2 (Nat×Ob)
 |.abs h S _ x=>S.C9 h 0 x
 |_=>[]
def Ac.plain:Ac→Bool
 |.abs _ _ _ _=>false
 |_=>true
theorem Ac.H6{o:Ac}(h:o.plain=true):o.C9=[]:=by cases o<;>first|rfl|cases h
theorem Ac.N9{o:Ac}{p:Nat×Ob}(h:p∈o.C9):H0≤p.1:=by
 cases o with
 |abs h' S ty x=>exact S.N9 _ _ _ _ h
 |_=>cases h
theorem O6(F:A2 Nat):∀(l:A2 D),Bz F (l.map .d)=true
 |[]=>rfl
 |x::r=>by simp only[Bkv,Bz,Gm,O6 F r,Bmo]
theorem A23(F:A2 Nat)(t:Ty)(u:List t.T):F9 F (Ac.arr t u).o=true:=O6 F _
def inl(k:Nat)(l:A2 Nat):Bool :=
 List.rec (motive:=fun _=>Bool) false (fun j _ ih=>Bool.rec (motive:=fun _=>Bool) ih true (Nat.beq j k)) l
theorem B0r(k:Nat):inl k []=false:=rfl
theorem Atn(k j:Nat)(r:A2 Nat):inl k (j::r)=cond (Nat.beq j k) true (inl k r):=by unfold inl;cases h:Nat.beq j k<;>simp[h]
theorem D3(k:Nat)(l:A2 Nat):inl k l=true↔k∈l:=by
 induction l with
 |nil=>simp[B0r]
 |cons j r ih =>
  simp only[Atn,Bkq];cases h:Nat.beq j k with
  |true=>simp[Bkr h]
  |false =>have:j≠k:=Bmw h;simp[ih,Bnf this]
def Wm:A2 Nat→Bool
 |[]=>true
 |k::r=>cond (Nat.ble H0 k) false (Wm r)
theorem Q9:∀ {l:A2 Nat},Wm l=true→∀k∈l,k<H0
 |[],_,k,hk=>by simp at hk
 |j::r,h,k,hk=>by
  simp only[Wm]at h;cases hb:Nat.ble H0 j with
  |true=>simp[hb]at h
  |false =>
   simp only[hb,Bko]at h;rcases Bkq.1 hk with rfl|hk
   ·exact Nat.lt_of_not_le fun hle=>by rw[Bm3 hle]at hb;cases hb
   ·exact Q9 h k hk
theorem Abz{F:A2 Nat}(h:Wm F=true)(a i:Nat):F.contains (Fo a i)=false:=by
 cases hc:F.contains (Fo a i) with
 |false=>rfl
 |true=>have:=Q9 h _ (Blz.1 hc);have:=Q8 a i;omega
theorem A24{F:A2 Nat}:∀ {a b:A2 AV},Bz F a=true→Bz F b=true→Bz F (a++b)=true
 |[],b,_,h=>h
 |x::r,b,h,h'=>by
  simp only[Bz,Bls,Bmx]at h⊢;exact⟨h.1,A24 h.2 h'⟩
theorem V9(l:A2 XD):A9 (l.map .d)=(l.map XD.d).map .d:=by simp[Q7,XV.a]
theorem Sh.Kn{F:A2 Nat}(hF:Wm F=true):∀(S:Sh) (h i:Nat) (x:S.T),Bz F (A9 (S.cells h i x))=true
 |.nil,h,i,x=>rfl
 |.d t r,h,i,x=>by
  simp only[Sh.cells,Dk,V9];exact A24 (O6 _ _) (Sh.Kn hF r h (i+1) x.2)
 |.m kt vt r,h,i,x=>by
  simp only[Sh.cells,A9,Bz,Sh.Kn hF r h (i+1) x.2,Bnd];split
  ·rfl
  ·simp only[XV.a,Gm,Abz hF,Bno]
 |.s a ty r,h,i,x=>by
  simp only[Sh.cells,A9,Bz,Sh.Kn hF r h (i+1) x.2,Bnd,XV.a,Gm,Abz hF,Bno]
 |.z a ty r,h,i,x=>by
  simp only[Sh.cells,A9,Bz,Sh.Kn hF r h (i+1) x.2,Bnd];split
  ·rfl
  ·simp only[XV.a,Gm,Abz hF,Bno]
theorem Sh.Na{F:A2 Nat}(hF:Wm F=true):∀(S:Sh) (h i:Nat) (x:S.T) (p:Nat×Ob),p∈S.C9 h i x→F9 F p.2=true
 |.nil,h,i,x,p,hp=>by simp[Sh.C9]at hp
 |.d t r,h,i,x,p,hp=>Sh.Na hF r h (i+1) x.2 p hp
 |.m kt vt r,h,i,x,p,hp=>by
  rcases Bkw.1 hp with hp|hp
  ·split at hp
   ·cases hp
   ·rw[Bl7]at hp;subst hp;rfl
  ·exact Sh.Na hF r h (i+1) x.2 p hp
 |.s a ty r,h,i,x,p,hp=>by
  rcases Bkw.1 hp with hp|hp
  ·rcases Bkq.1 hp with rfl|hp
   ·exact Sh.Kn hF a _ _ _
   ·exact Sh.Na hF a _ 0 x.1 p hp
  ·exact Sh.Na hF r h (i+1) x.2 p hp
 |.z a ty r,h,i,x,p,hp=>by
  rcases Bkw.1 hp with hp|hp
  ·split at hp
   ·cases hp
   ·rename_i y _;rcases Bkq.1 hp with rfl|hp
    ·exact Sh.Kn hF a _ _ _
    ·exact Sh.Na hF a _ 0 y p hp
  ·exact Sh.Na hF r h (i+1) x.2 p hp
def Fp(F:A2 Nat):A2 (Nat×Ac)→Bool
 |[]=>true
 |p::r=>cond (match p.2 with
  |.cells cs _=>Bz F (A9 cs)
  |.Jg m _ _ _=>cond (inl m F) false true
  |.Ck m _ _ _ _=>cond (inl m F) false true
  |.abs _ _ _ _=>cond (inl p.1 F) false (Wm F)
  |_=>true) (Fp F r) false
structure Ad where
 env:List (Nat×XV)
 objs:List (Nat×Ac)
 live:List Nat
 wl:List Nat
 ol:List Nat
def E0(l:A2 (Nat×XV)):A2 (Nat×AV):=l.map fun p=>(p.1,p.2.a)
def Dv(l:A2 (Nat×Ac)):A2 (Nat×Ob):=l.map fun p=>(p.1,p.2.o)
def Dx:A2 (Nat×Ac)→A2 (Nat×Ob)
 |[]=>[]
 |p::r=>p.2.C9++Dx r
def A6(l:A2 (Nat×Ac)):A2 (Nat×Ob):=Dv l++Dx l
theorem Am8:∀ {l:A2 (Nat×Ac)} {p:Nat×Ob},p∈Dx l→H0≤p.1
 |[],p,h=>by simp[Dx]at h
 |q::r,p,h=>by
  rcases Bkw.1 h with h|h
  ·exact Ac.N9 h
  ·exact Am8 h
theorem Aky(a b:A2 (Nat×Ac)):Dx (a++b)=Dx a++Dx b:=by
 induction a with
 |nil=>rfl
 |cons p r ih=>simp[Dx,ih]
theorem Agy(a b:A2 (Nat×Ac)):Dv (a++b)=Dv a++Dv b:=Ble
def E1:A2 (Nat×Ac)→Bool
 |[]=>true
 |p::r=>cond p.2.plain (E1 r) false
theorem Va:∀ {l:A2 (Nat×Ac)},E1 l=true→Dx l=[]
 |[],_=>rfl
 |p::r,h=>by
  simp only[E1]at h;cases hp:p.2.plain with
  |false=>simp[hp]at h
  |true=>simp only[hp,Bkn]at h;simp only[Dx,Ac.H6 hp,Va h,Blt]
theorem A25{l:A2 (Nat×Ac)}(h:E1 l=true):A6 l=l.map fun p=>(p.1,p.2.o):=by unfold A6 Dv;rw[Va h,Blt]
theorem Bdz{a b:A2 (Nat×Ac)}(h:E1 a=true):A6 (a++b)=A6 a++A6 b:=by unfold A6;rw[Agy,Aky,Va h,Blt,Bm0,Bnx]
theorem Gw:∀ {l:A2 (Nat×Ac)},E1 l=true→∀p∈l,p.2.plain=true
 |[],_,p,hp=>by simp at hp
 |q::r,h,p,hp=>by
  simp only[E1]at h;cases hq:q.2.plain with
  |false=>simp[hq]at h
  |true =>
   simp only[hq,Bkn]at h;rcases Bkq.1 hp with rfl|hp
   ·exact hq
   ·exact Gw h p hp
theorem Ato{l:A2 (Nat×Ac)}(h:∀p∈l,p.2.plain=true):E1 l=true:=by
 induction l with
 |nil=>rfl
 |cons q r ih=>simp only[E1,h q Bkz,Bkn];exact ih fun p hp=>h p (Bkx _ hp)
def Ad.X(st:Ad):A7:=⟨A6 st.objs,st.live⟩
def Ad.im(st:Ad):St:=⟨E0 st.env,st.X⟩
theorem U5{F:A2 Nat}{live:A2 Nat}:∀ {l:A2 (Nat×Ac)},Fp F l=true→B7 F ⟨A6 l,live⟩=true:=by
 intro l h;unfold B7;rw[Bms];right;rw[Bly]
 suffices hh:(∀p∈Dv l,F9 F p.2=true)∧∀p∈Dx l,F9 F p.2=true by
  intro p hp;rcases Bkw.1 hp with hp|hp
  ·exact hh.1 p hp
  ·exact hh.2 p hp
 induction l with
 |nil=>exact⟨by simp[Dv],by simp[Dx]⟩
 |cons p r ih =>
  simp only[Fp]at h;have hs:F9 F p.2.o=true∧(∀q∈p.2.C9,F9 F q.2=true)∧Fp F r=true:=by
   have Ae6:∀q∈([]:A2 (Nat×Ob)),F9 F q.2=true:=by simp
   cases ho:p.2 with
   |cells cs ty =>
    rw[ho]at h;simp only at h;cases hx:Bz F (A9 cs) with
    |false=>simp[hx]at h
    |true=>simp only[hx,Bkn]at h;exact⟨hx,Ae6,h⟩
   |arr t l =>rw[ho]at h;simp only[Bkn]at h;exact⟨A23 F t l,Ae6,h⟩
   |Oy s pos=>rw[ho]at h;exact⟨rfl,Ae6,h⟩
   |map kt vt es c=>rw[ho]at h;exact⟨rfl,Ae6,h⟩
   |Dt=>rw[ho]at h;exact⟨rfl,Ae6,h⟩
   |bts e l=>rw[ho]at h;exact⟨O6 F _,Ae6,h⟩
   |abs h' S ty x =>
    rw[ho]at h;simp only at h;cases hi:inl p.1 F with
    |true=>simp[hi]at h
    |false =>
    simp only[hi,Bko]at h;cases hF:Wm F with
    |false=>simp[hF]at h
    |true=>simp only[hF,Bkn]at h;exact⟨S.Kn hF _ _ _,S.Na hF _ _ _,h⟩
   |Ck m kt vt es c =>
    rw[ho]at h;simp only at h;cases hm:inl m F with
    |true=>simp[hm]at h
    |false =>
     simp only[hm,Bko,Bkn]at h;refine⟨?_,Ae6,h⟩;show(!F.contains m)=true;cases hc:F.contains m with
     |false=>rfl
     |true=>rw[(D3 m F).2 (Blz.1 hc)]at hm;cases hm
   |Jg m since seen last =>
    rw[ho]at h;simp only at h;cases hm:inl m F with
    |true=>simp[hm]at h
    |false =>
     simp only[hm,Bko,Bkn]at h;refine⟨?_,Ae6,h⟩;show(!F.contains m)=true;cases hc:F.contains m with
     |false=>rfl
     |true=>rw[(D3 m F).2 (Blz.1 hc)]at hm;cases hm
  obtain⟨i1,i2⟩:=ih hs.2.2;refine⟨fun q hq=>?_,fun q hq=>?_⟩
  ·rcases Bkq.1 hq with rfl|hq
   ·exact hs.1
   ·exact i1 q hq
  ·rcases Bkw.1 hq with hq|hq
   ·exact hs.2.1 q hq
   ·exact i2 q hq
def Iq(F:A2 Nat)(st:Ad):Bool:=Fp F st.objs
theorem Nb{F:A2 Nat}{st:Ad}(h:Iq F st=true):B7 F st.X=true:=U5 h
theorem nbF{a b:Nat}(h:a≠b):Nat.beq a b=false:=by
 cases hh:Nat.beq a b with
 |false=>rfl
 |true=>exact absurd (Bkr hh) h
theorem nbS(a b:Nat):Nat.beq a b=(b==a):=by
 by_cases h:a=b
 ·subst h;simp
 ·rw[nbF h];symm;simpa using Bnf h
def lk{α:Type}(k:Nat)(l:A2 (Nat×α)):A3 α :=
 List.rec (motive:=fun _=>A3 α) none (fun p _ ih=>Bool.rec (motive:=fun _=>A3 α) ih (some p.2) (Nat.beq p.1 k)) l
theorem Axl{α:Type}(k:Nat):lk k ([]:A2 (Nat×α))=none:=rfl
theorem G1{α:Type}(k:Nat)(p:Nat×α)(r:A2 (Nat×α)):lk k (p::r)=cond (Nat.beq p.1 k) (some p.2) (lk k r):=by unfold lk;cases h:Nat.beq p.1 k<;>simp[h]
theorem Atp{α:Type}(k:Nat)(l:A2 (Nat×α)):lk k l=l.lookup k:=by
 induction l with
 |nil=>rfl
 |cons p r ih =>obtain⟨j,x⟩:=p;rw[Blw];simp only[G1,ih];rw[nbS];cases k==j<;>rfl
theorem A78(l:A2 (Nat×XV))(k:Nat):(E0 l).lookup k=(lk k l).map XV.a:=by
 induction l with
 |nil=>rfl
 |cons p r ih =>
  obtain⟨j,x⟩:=p;simp only[E0,Bkv,Blw]at ih⊢;rw[Atp]at ih⊢;rw[Blw];cases k==j with
  |true=>rfl
  |false=>simpa[E0]using ih
inductive Cw(k:Nat):Nat→Prop
 |here (i:Nat) (hi:i<1000):Cw k (Fo k i)
 |deep {m:Nat} (i:Nat) (hi:i<1000) (h:Cw k m):Cw k (Fo m i)
theorem Gx{a b i j:Nat}(hi:i<1000)(hj:j<1000)(h:Fo a i=Fo b j):a=b∧i=j:=by unfold Fo at h;omega
theorem Cw.ge{k n:Nat}(h:Cw k n):H0≤n:=by cases h<;>exact Q8 _ _
theorem Cw.one{k k' n:Nat}(h:Cw k n)(h':Cw k' n)(hk:k<H0)(Lk:k'<H0):k=k':=by
 induction h with
 |here i hi =>
  generalize hn:Fo k i=n at h';cases h' with
  |here j hj=>exact(Gx hi hj hn).1
  |deep j hj h2=>have:=(Gx hi hj hn).1;subst this;have:=h2.ge;omega
 |deep i hi h1 ih =>
  rename_i m;generalize hn:Fo m i=n at h';cases h' with
  |here j hj=>have:=(Gx hi hj hn).1;subst this;have:=h1.ge;omega
  |deep j hj h2=>have:=(Gx hi hj hn).1;subst this;exact ih h2
theorem Cw.trans{a b n:Nat}(h:Cw a b)(h':Cw b n):Cw a n:=by
 induction h' with
 |here i hi=>exact .deep i hi h
 |deep i hi _ ih=>exact .deep i hi ih
def Sh.small:Sh→Nat→Bool
 |.nil,_=>true
 |.d _ r,i=>cond (Nat.blt i 1000) (r.small (i+1)) false
 |.m _ _ r,i=>cond (Nat.blt i 1000) (r.small (i+1)) false
 |.s a _ r,i=>cond (Nat.blt i 1000) (cond (a.small 0) (r.small (i+1)) false) false
 |.z a _ r,i=>cond (Nat.blt i 1000) (cond (a.small 0) (r.small (i+1)) false) false
theorem Ap{a b:Bool}(h:cond a b false=true):a=true∧b=true:=by cases a<;>first|exact⟨rfl,h⟩|cases h
theorem Sh.Cp:∀(S:Sh) (h i:Nat) (x:S.T) (p:Nat×Ob),S.small i=true→p∈S.C9 h i x→Cw h p.1
 |.nil,h,i,x,p,hs,hp=>by simp[Sh.C9]at hp
 |.d t r,h,i,x,p,hs,hp=>Sh.Cp r h (i+1) x.2 p (Ap hs).2 hp
 |.m kt vt r,h,i,x,p,hs,hp=>by
  have hi:i<1000:=by simpa[Bmk] using(Ap hs).1
  rcases Bkw.1 hp with hp|hp
  ·split at hp
   ·cases hp
   ·rw[Bl7]at hp;subst hp;exact .here i hi
  ·exact Sh.Cp r h (i+1) x.2 p (Ap hs).2 hp
 |.s a ty r,h,i,x,p,hs,hp=>by
  have hi:i<1000:=by simpa[Bmk] using(Ap hs).1
  have h2:=Ap (Ap hs).2;rcases Bkw.1 hp with hp|hp
  ·rcases Bkq.1 hp with rfl|hp
   ·exact .here i hi
   ·exact(Cw.here i hi).trans (Sh.Cp a _ 0 x.1 p h2.1 hp)
  ·exact Sh.Cp r h (i+1) x.2 p h2.2 hp
 |.z a ty r,h,i,x,p,hs,hp=>by
  have hi:i<1000:=by simpa[Bmk] using(Ap hs).1
  have h2:=Ap (Ap hs).2;rcases Bkw.1 hp with hp|hp
  ·split at hp
   ·cases hp
   ·rename_i y _;rcases Bkq.1 hp with rfl|hp
    ·exact .here i hi
    ·exact(Cw.here i hi).trans (Sh.Cp a _ 0 y p h2.1 hp)
  ·exact Sh.Cp r h (i+1) x.2 p h2.2 hp
def A6d(k:Nat):A2 (Nat×Ac)→Bool
 |[]=>false
 |p::r=>cond p.2.plain (A6d k r) (cond (Nat.beq p.1 k) true (A6d k r))
theorem A49{k:Nat}:∀ {l:A2 (Nat×Ac)} {p:Nat×Ac},p∈l→p.2.plain=false→p.1=k→A6d k l=true
 |[],p,h,_,_=>by simp at h
 |q::r,p,h,hp,hk=>by
  simp only[A6d];rcases Bkq.1 h with rfl|h
  ·rw[hp,hk];simp
  ·rw[A49 h hp hk];cases q.2.plain<;>simp
def Ac.tagged(k:Nat):Ac→Bool
 |.abs h S _ _=>cond (Nat.beq h k) (S.small 0) false
 |_=>true
theorem Ac.Ac0{k:Nat}{o:Ac}(h:o.tagged k=true){p:Nat×Ob}(hp:p∈o.C9):Cw k p.1:=by
 cases o with
 |abs h' S ty x =>have:=Ap h;rw[← Bkr this.1];exact S.Cp _ 0 x p this.2 hp
 |_=>cases hp
def A9i:A2 (Nat×Ac)→Bool
 |[]=>true
 |p::r=>cond p.2.plain (A9i r) (cond (p.2.tagged p.1) (cond (A6d p.1 r) false (A9i r)) false)
def O7(l:A2 (Nat×Ac)):Bool:=cond (E1 l) true (cond (Wm (l.map (·.1))) (A9i l) false)
theorem Fy{l:A2 (Nat×Ob)}{k:Nat}{o:Ob}(h:l.lookup k=some o):(k,o)∈l:=by
 induction l with
 |nil=>cases h
 |cons p r ih =>
  obtain⟨j,x⟩:=p;rw[Blw]at h;cases hb:k==j with
  |true =>rw[hb]at h;simp only[Bks]at h;rw[eq_of_beq hb,h];exact Bkz
  |false=>rw[hb]at h;exact Bkx _ (ih h)
theorem Qa:∀ {l:A2 (Nat×Ac)},A9i l=true→∀p∈l,p.2.tagged p.1=true
 |[],_,p,hp=>by simp at hp
 |q::r,h,p,hp=>by
  simp only[A9i]at h;cases hq:q.2.plain with
  |true =>
   simp only[hq,Bkn]at h;rcases Bkq.1 hp with rfl|hp
   ·revert hq;cases p.2<;>intro hq<;>first|rfl|cases hq
   ·exact Qa h p hp
  |false =>
   simp only[hq,Bko]at h;obtain⟨h1,h2⟩:=Ap h;rcases Bkq.1 hp with rfl|hp
   ·exact h1
   ·cases ha:A6d q.1 r with
    |true=>simp[ha]at h2
    |false=>simp only[ha,Bko]at h2;exact Qa h2 p hp
theorem Am9{j:Nat}{o:Ob}:∀ {l:A2 (Nat×Ac)},A9i l=true→(∀p∈l,p.1<H0)→∀p∈l,p.2.C9.lookup j=some o→(Dx l).lookup j=some o
 |[],_,_,p,hp,_=>by simp at hp
 |q::r,h,hl,p,hp,ho=>by
  simp only[Dx,Bmq];rcases Bkq.1 hp with rfl|hp'
  ·rw[ho];rfl
  ·have hr:A9i r=true∧(q.2.plain=false→A6d q.1 r=false):=by
    simp only[A9i]at h;cases hq:q.2.plain with
    |true=>simp only[hq,Bkn]at h;exact⟨h,by simp⟩
    |false =>
     simp only[hq,Bko]at h;have h2:=(Ap h).2;cases ha:A6d q.1 r with
     |true=>simp[ha]at h2
     |false=>simp only[ha,Bko]at h2;exact⟨h2,fun _=>rfl⟩
   have ih:=Am9 hr.1 (fun p hp=>hl p (Bkx _ hp)) p hp' ho;cases hq:q.2.C9.lookup j with
   |none=>exact ih
   |some o' =>
    exfalso;have hqp:q.2.plain=false:=by
     cases hh:q.2.plain with
     |false=>rfl
     |true=>rw[Ac.H6 hh]at hq;cases hq
    have hpp:p.2.plain=false:=by
     cases hh:p.2.plain with
     |false=>rfl
     |true=>rw[Ac.H6 hh]at ho;cases ho
    have u1:=Ac.Ac0 (Qa h q Bkz) (Fy hq);have u2:=Ac.Ac0 (Qa h p hp) (Fy ho);have e:=u1.one u2 (hl q Bkz) (hl p hp);have:=A49 hp' hpp e.symm;rw[hr.2 hqp]at this;cases this
theorem Ko{l:A2 (Nat×Ac)}(h:O7 l=true):E1 l=true∨(A9i l=true∧∀p∈l,p.1<H0):=by
 unfold O7 at h;cases hn:E1 l with
 |true=>exact .inl rfl
 |false =>simp only[hn,Bko]at h;obtain⟨h1,h2⟩:=Ap h;exact .inr ⟨h2,fun p hp=>Q9 h1 _ (Bl3 (f:=(·.1)) hp)⟩
theorem Atq{j:Nat}{o:Ob}:∀ {l:A2 (Nat×Ac)},(Dx l).lookup j=some o→∃p∈l,p.2.C9.lookup j=some o
 |[],h=>by cases h
 |q::r,h=>by
  simp only[Dx,Bmq]at h;cases hq:q.2.C9.lookup j with
  |some o'=>rw[hq]at h;exact⟨q,Bkz,by rw[hq];exact h⟩
  |none =>rw[hq]at h;obtain⟨p,hp,h2⟩:=Atq h;exact⟨p,Bkx _ hp,h2⟩
theorem Vb(l:A2 (Nat×Ac))(k:Nat):(Dv l).lookup k=(lk k l).map Ac.o:=by
 induction l with
 |nil=>rfl
 |cons p r ih =>
  obtain⟨j,x⟩:=p;simp only[Dv,Bkv,Blw]at ih⊢;rw[Atp]at ih⊢;rw[Blw];cases k==j with
  |true=>rfl
  |false=>simpa[Dv]using ih
theorem H7{l:A2 (Nat×Ac)}{k:Nat}{y:Ac}(h:lk k l=some y):(A6 l).lookup k=some y.o:=by unfold A6;rw[Bmq,Vb,h];rfl
theorem Vc{l:A2 (Nat×Ob)}{k:Nat}(h:∀p∈l,p.1≠k):l.lookup k=none:=by
 induction l with
 |nil=>rfl
 |cons p r ih =>
  obtain⟨j,x⟩:=p;rw[Blw];have:(k==j)=false:=by simpa using(h (j,x) Bkz).symm
  rw[this];exact ih fun q hq=>h q (Bkx _ hq)
theorem B6p{l:A2 (Nat×Ac)}{k:Nat}(hk:k<H0):(A6 l).lookup k=(lk k l).map Ac.o:=by
 unfold A6;rw[Bmq,Vb];cases lk k l with
 |some y=>rfl
 |none =>simp only[Boq,Bom];exact Vc fun p hp he=>by have:=Am8 hp;omega
theorem Bal{l:A2 (Nat×Ac)}(h:E1 l=true)(k:Nat):(A6 l).lookup k=(lk k l).map Ac.o:=by rw[← Vb];unfold A6;rw[Va h,Blt]
theorem A26{l:A2 (Nat×Ac)}{k:Nat}{o:Ob}(h:(A6 l).lookup k=some o):(∃y,lk k l=some y∧o=y.o)∨∃p∈l,p.2.C9.lookup k=some o:=by
 unfold A6 at h;rw[Bmq,Vb]at h;cases hl:lk k l with
 |some y=>rw[hl]at h;simp only[Blq,Boh,Bks]at h;exact .inl ⟨y,rfl,h.symm⟩
 |none=>rw[hl]at h;exact .inr (Atq h)
theorem Ac1{l:A2 (Nat×Ac)}(h:O7 l=true){p:Nat×Ac}(hp:p∈l){k:Nat}{o:Ob}(ho:p.2.C9.lookup k=some o):(A6 l).lookup k=some o:=by
 rcases Ko h with h1|⟨h1,h2⟩
 ·rw[Ac.H6 (Gw h1 p hp)]at ho;cases ho
 ·unfold A6;rw[Bmq];have hk:H0≤k:=Ac.N9 (Fy ho);have:(Dv l).lookup k=none:=by
   refine Vc fun q hq he=>?_
   obtain⟨z,hz,rfl⟩:=Bl2.1 hq;have:=h2 z hz;simp only at he;omega
  rw[this,Bom];exact Am9 h1 h2 p hp ho
theorem Atr{a b:Bool}(h:cond a b false=true):b=true:=by cases a<;>first|exact h|cases h
theorem Agz{a b:Bool}(h:cond a b false=true):a=true∧b=true:=by cases a<;>first|exact⟨rfl,h⟩|cases h
theorem Bam{k:Nat}{l:A2 (Nat×Ac)}(h:lk k l=none)(hf:Fp [k] l=true):(A6 l).lookup k=none:=by
 unfold A6;rw[Bmq,Vb,h];simp only[Boq,Bom];refine Vc ?_;clear h;induction l with
 |nil=>simp[Dx]
 |cons q r ih =>
  simp only[Fp]at hf;have:(∀p∈q.2.C9,p.1≠k)∧Fp [k] r=true:=by
   cases ho:q.2 with
   |abs h' S ty x =>
    rw[ho]at hf;simp only at hf;cases hi:inl q.1 [k] with
    |true=>simp[hi]at hf
    |false =>
    simp only[hi,Bko]at hf;cases hF:Wm [k] with
    |false=>simp[hF]at hf
    |true =>simp only[hF,Bkn]at hf;exact⟨fun p hp he=>by have h1:=Ac.N9 hp;have h2:=Q9 hF k (by simp);omega,hf⟩
   |_=>exact⟨by simp[Ac.C9],Atr hf⟩
  intro p hp;rcases Bkw.1 hp with hp|hp
  ·exact this.1 p hp
  ·exact ih this.2 p hp
def K6(k:Nat)(o:Ac)(l:A2 (Nat×Ac)):A2 (Nat×Ac) :=
 List.rec (motive:=fun _=>A2 (Nat×Ac)) [(k,o)] (fun p r ih=>Bool.rec (motive:=fun _=>A2 (Nat×Ac)) (p::ih) ((k,o)::r) (Nat.beq p.1 k)) l
theorem A9j(k:Nat)(o:Ac):K6 k o []=[(k,o)]:=rfl
theorem Ur(k:Nat)(o:Ac)(p:Nat×Ac)(r:A2 (Nat×Ac)):K6 k o (p::r)=cond (Nat.beq p.1 k) ((k,o)::r) (p::K6 k o r):=by unfold K6;cases h:Nat.beq p.1 k<;>simp[h]
def X2(k:Nat)(o:Ac)(l:A2 (Nat×Ac)):Bool :=
 match lk k l with
 |some y=>cond y.plain o.plain false
 |none=>false
theorem Hb{k:Nat}{o y:Ac}{l:A2 (Nat×Ac)}(h:lk k l=some y)(hy:y.plain=true)(ho:o.plain=true):X2 k o l=true:=by unfold X2;rw[h];simp only[hy,ho,Bkn]
theorem U6{k:Nat}{o:Ac}{l:A2 (Nat×Ac)}(hp:X2 k o l=true):A6 (K6 k o l)=Ab.setObj k o.o (A6 l):=by
 have key:∀(t:A2 (Nat×Ob)),Dv (K6 k o l)++t=Ab.setObj k o.o (Dv l++t)∧Dx (K6 k o l)=Dx l:=by
  intro t;induction l with
  |nil=>simp[X2,Axl]at hp
  |cons p r ih =>
   obtain⟨j,x⟩:=p;simp only[Ur];cases h:Nat.beq j k with
   |true =>
    have e:=Bkr h;subst e;have:x.plain=true∧o.plain=true:=by
     simp only[X2,G1,Bob,Bkn]at hp;cases hx:x.plain with
     |false=>simp[hx]at hp
     |true=>simp only[hx,Bkn]at hp;exact⟨rfl,hp⟩
    refine⟨by simp[Dv,Ab.setObj],by simp[Dx,Ac.H6 this.1,Ac.H6 this.2]⟩
   |false =>
    have hne:j≠k:=Bmw h;have hp':X2 k o r=true:=by simpa[X2,G1,h]using hp
    obtain⟨i1,i2⟩:=ih hp';refine⟨?_,by simp[Dx,i2]⟩;simp only[Bko,Dv,Bkv,Bmx,Ab.setObj,hne,Bn2]at i1⊢;rw[i1]
 unfold A6;rw[(key (Dx (K6 k o l))).1,(key []).2]
theorem Axm(k:Nat)(o:Ac)(l:A2 (Nat×Ac)):Dv (K6 k o l)=Ab.setObj k o.o (Dv l):=by
 induction l with
 |nil=>rfl
 |cons p r ih =>
  obtain⟨j,x⟩:=p;simp only[Ur,Dv,Bkv,Ab.setObj];cases h:Nat.beq j k with
  |true=>simp[Bkr h]
  |false =>have:j≠k:=Bmw h;simp[this];exact ih
theorem A79{k:Nat}{o:Ac}(ho:o.plain=true):∀ {l:A2 (Nat×Ac)},E1 l=true→E1 (K6 k o l)=true
 |[],_=>by simp[A9j,E1,ho]
 |p::r,h=>by
  simp only[Ur];obtain⟨h1,h2⟩:=Ap (a:=p.2.plain) (b:=E1 r) h;cases hb:Nat.beq p.1 k with
  |true=>simp only[Bkn,E1,ho,h2]
  |false=>simp only[Bko,E1,h1,Bkn];exact A79 ho h2
theorem A9k{l:A2 (Nat×Ac)}(h:E1 l=true):A6 l=Dv l:=by unfold A6;rw[Va h,Blt]
theorem B6q{k:Nat}{o:Ac}{l:A2 (Nat×Ac)}(ho:o.plain=true)(h:E1 l=true):A6 (K6 k o l)=Ab.setObj k o.o (A6 l):=by rw[A9k h,A9k (A79 ho h),Axm]
theorem Ats{p:Nat×Ac}{l:A2 (Nat×Ac)}(h:E1 (p::l)=true):A6 (p::l)=(p.1,p.2.o)::A6 l:=by obtain⟨h1,h2⟩:=Ap (a:=p.2.plain) (b:=E1 l) h;rw[A9k h,A9k h2];rfl
theorem Ap9{k:Nat}{o:Ac}(l:A2 (Nat×Ac)):lk k (K6 k o l)=some o:=by
 induction l with
 |nil=>simp[A9j,G1,Axl]
 |cons p r ih =>
  obtain⟨i,x⟩:=p;simp only[Ur];cases hi:Nat.beq i k with
  |true=>simp[G1]
  |false=>simp[G1,hi,ih]
theorem Jl(k:Nat)(o:Ac)(l:A2 (Nat×Ac))(j:Nat)(h:j≠k):lk j (K6 k o l)=lk j l:=by
 induction l with
 |nil =>have:Nat.beq k j=false:=nbF (Bnf h);simp[A9j,G1,Axl,this]
 |cons p r ih =>
  obtain⟨i,x⟩:=p;simp only[Ur];cases hi:Nat.beq i k with
  |true =>have e:=Bkr hi;subst e;have:Nat.beq i j=false:=nbF (Bnf h);simp[G1,this]
  |false=>simp[G1,ih]
def B6r(dst:A3 Tmp)(x:XV)(env:A2 (Nat×XV)):A2 (Nat×XV) :=
 match dst with
 |some d=>(d,x)::env
 |none=>env
theorem B6s(dst:A3 Tmp)(x:XV)(env:A2 (Nat×XV)):E0 (B6r dst x env)=Du dst x.a (E0 env):=by cases dst<;>rfl
def Ban(dst:A3 Tmp)(wl:A2 Nat):A2 Nat :=
 match dst with
 |some d=>d::wl
 |none=>wl
def Vd:Value→XD
 |.int .u8 n=>cond (decide (0≤n∧n<256)) (.u8 (UInt8.ofNat n.toNat)) (.v (.int .u8 n))
 |.int k n=>.i k n
 |.bool b=>.b b
 |.string s=>.s s.data.toList
 |v=>.v v
theorem A27(v:Value):(Vd v).d = .sc v:=by
 unfold Vd;split
 ·rename_i n;by_cases h:0≤n∧n<256
  ·simp only[h,Brm,Bkn,XD.d,and_self];congr 2;have:(UInt8.ofNat n.toNat).toNat=n.toNat:=by rw[Bqs];omega
   rw[this];omega
  ·simp only[h,decide_false,Bko,XD.d]
 ·rfl
 ·rfl
 ·rename_i s;simp only[XD.d,D.bs]
 ·rfl
def Av(st:Ad):Operand→A3 XV
 |.tmp t=>cond (Nat.blt t GB) (lk t st.env) none
 |.const v=>some (.d (Vd v))
 |.func f=>some (.Ff f [])
 |.global k=>lk (GB+k) st.env
theorem Dy{st:Ad}{t:Nat}{v:XV}(h:Av st (.tmp t)=some v):t<GB∧lk t st.env=some v:=by
 simp only[Av]at h;cases hb:Nat.blt t GB with
 |false=>simp[hb]at h
 |true=>exact⟨by simpa[Bmk]using hb,by simpa[hb]using h⟩
theorem Y0{st:Ad}{t:Nat}{v:XV}{y:AV}(h:lk t st.env=some v)(hle:∀(g:Gh) (w:World) (u:Value),RA g w v.a u→RA g w y u):Has st.im.env t y :=
 .le _ _ (by show(E0 st.env).lookup t=some v.a;rw[A78,h];rfl) hle
theorem B0s{st:Ad}{t:Nat}{v:XV}(h:lk t st.env=some v):Has st.im.env t v.a :=
 .eq _ (by show(E0 st.env).lookup t=some v.a;rw[A78,h];rfl)
theorem Aj{st:Ad}{x:Operand}{v:XV}(h:Av st x=some v):E3 st.im x v.a:=by
 cases x with
 |tmp t=>exact .tmp t _ (Dy h).1 (B0s (Dy h).2)
 |const u =>
  simp only[Av,Bks]at h;subst h;simp only[XV.a,A27];exact .const _ _ fun _ _=>.sc _
 |func f =>simp only[Av,Bks]at h;subst h;exact .func f
 |global k=>exact .Ag6 k _ (B0s h)
def Wn(x y:AV):Prop:=∀(g:Gh) (w:World) (v:Value),RA g w x v→RA g w y v
theorem Wn.refl(x:AV):Wn x x:=fun _ _ _ h=>h
theorem Wn.d{x y:D}(h:DLe x y):Wn (.d x) (.d y):=by
 intro g w v hr;cases hr with
 |d _ _ hr=>exact .d _ _ (h _ _ _ hr)
theorem Wn.Bu(n sz:Nat)(es:A2 (A2 D))(ty:A3 TypeId):Wn (.Bu n sz es ty) (.d (.sl sz es)):=by
 intro g w v hr;cases hr with
 |Bu _ _ _ _ _ h _=>exact .d _ _ h
theorem Apa{st:Ad}{x:Operand}{a:XD}{y:D}(h:Av st x=some (.d a))(hle:DLe a.d y):E3 st.im x (.d y):=by
 cases x with
 |tmp t=>exact .tmp t _ (Dy h).1 (Y0 (Dy h).2 (Wn.d hle))
 |const u =>
  simp only[Av,Bks,XV.d.injEq]at h;subst h;rw[A27]at hle;exact .const _ _ fun γ w=>hle γ w u (.sc u)
 |func f=>simp[Av]at h
 |global k=>exact .Ag6 k _ (Y0 h (Wn.d hle))
theorem B31{st:Ad}{x:Operand}{n:Nat}{t:Ty}{l:List t.T}{ty:A3 TypeId}(h:Av st x=some (.Bu n t l ty)):E3 st.im x (.d (.sl t.size (l.map t.ds))):=by
 cases x with
 |tmp t=>exact .tmp t _ (Dy h).1 (Y0 (Dy h).2 (Wn.Bu _ _ _ _))
 |const u=>simp[Av]at h
 |func f=>simp[Av]at h
 |global k=>exact .Ag6 k _ (Y0 h (Wn.Bu _ _ _ _))
def XV.asD:XV→A3 XD
 |.d x=>some x
 |.Bu n t l ty=>some (.sl t l)
 |_=>none
def xd(st:Ad)(x:Operand):A3 XD :=
 match Av st x with
 |some v=>v.asD
 |none=>none
theorem A9l{st:Ad}{x:Operand}{a:XD}{y:D}(h:xd st x=some a)(hle:DLe a.d y):E3 st.im x (.d y):=by
 unfold xd at h;split at h
 ·rename_i v hv;cases v with
  |d u=>simp only[XV.asD,Bks]at h;subst h;exact Apa hv hle
  |Bu n t l ty =>
   simp only[XV.asD,Bks]at h;subst h;have:=B31 hv;cases x with
   |tmp i=>exact .tmp i _ (Dy hv).1 (Y0 (Dy hv).2 fun g w v hr=>Wn.d hle g w v (Wn.Bu _ _ _ _ g w v hr))
   |const u=>simp[Av]at hv
   |func f=>simp[Av]at hv
   |global k=>exact .Ag6 k _ (Y0 hv fun g w v hr=>Wn.d hle g w v (Wn.Bu _ _ _ _ g w v hr))
  |_=>simp[XV.asD]at h
 ·cases h
theorem X3{st:Ad}{x:Operand}{a:XD}(h:xd st x=some a):E3 st.im x (.d a.d):=A9l h (.refl _)
theorem P3{objs:A2 (Nat×Ac)}{k:Nat}{y:Ac}(h:lk k objs=some y):(A6 objs).lookup k=some y.o:=by exact H7 h
inductive Akz where
 |none
 |look (ks:List Nat)
 |put (k:Nat) (c:Ac)
 |all
 |lab
 |Nl (k:Nat) (c:Ac)
 |new (os:List (Nat×Ac))
structure Out where
 U3:Akz
 res:XV
 rd:List (Operand×XV)
 objs:List (Nat×Ac)
 live:List Nat
 F:List Nat
 ol:List Nat
def B0(l:A2 (Operand×XV)):A2 (Operand×AV):=l.map fun p=>(p.1,p.2.a)
def Out.X(out:Out):A7:=⟨A6 out.objs,out.live⟩
structure Br(P:Program)(o:Oper)(st:Ad)(out:Out):Prop where
 Ri:∀p∈B0 out.rd,E3 st.im p.1 p.2
 op:match out.U3 with
  |.none=>out.objs=st.objs∧out.live=st.live∧out.F=[]∧∀X,Bp P o (B0 out.rd) X X [] out.res.a
  |.look ks=>out.objs=st.objs∧out.live=st.live∧out.F=[]∧∀X:A7,(∀k∈ks,X.objs.lookup k=st.X.objs.lookup k)→Bp P o (B0 out.rd) X X [] out.res.a
  |.put k c=>(X2 k c st.objs=true∧out.objs=K6 k c st.objs)∧out.live=st.live∧out.F=[]∧∀X:A7,X.objs.lookup k=st.X.objs.lookup k→Bp P o (B0 out.rd) X ⟨Ab.setObj k c.o X.objs,X.live⟩ [] out.res.a
  |.all=>Bp P o (B0 out.rd) st.X out.X out.F out.res.a
  |.lab=>out.objs=st.objs∧Bp P o (B0 out.rd) st.X out.X out.F out.res.a
  |.Nl k c=>(X2 k c st.objs=true∧out.objs=K6 k c st.objs)∧Bp P o (B0 out.rd) st.X out.X out.F out.res.a
  |.new os=>(E1 os=true∧out.objs=os++st.objs)∧Bp P o (B0 out.rd) st.X out.X out.F out.res.a
 ol:∀k x,k∉out.ol→lk k out.objs=some x→lk k st.objs=some x
def B5(st:Ad)(res:XV)(rd:A2 (Operand×XV)):Out:=⟨.none,res,rd,st.objs,st.live,[],[]⟩
theorem A8{P:Program}{o:Oper}{st:Ad}{res:XV}{rd:A2 (Operand×XV)}(hs:∀p∈B0 rd,E3 st.im p.1 p.2)(h:∀X,Bp P o (B0 rd) X X [] res.a):Br P o st (B5 st res rd) :=
 ⟨hs,⟨rfl,rfl,rfl,h⟩,fun _ _ _ h=>h⟩
theorem A19{st:Ad}{x:Operand}{a:XD}(h:xd st x=some a):∀p∈B0 [(x,.d a)],E3 st.im p.1 p.2:=by intro p hp;simp only[B0,Bkv,Bll,Bl7]at hp;subst hp;exact X3 h
theorem Ama{st:Ad}{x y:Operand}{a b:XD}(h:xd st x=some a)(h':xd st y=some b):∀p∈B0 [(x,.d a),(y,.d b)],E3 st.im p.1 p.2:=by
 intro p hp;simp only[B0,Bkv,Bll,Bkq,Blh,Bma]at hp;rcases hp with rfl|rfl
 ·exact X3 h
 ·exact X3 h'
def at?{α:Type}(l:A2 α):Int→A3 α
 |.ofNat n=>l[n]?
 |.negSucc _=>none
theorem A9m{α:Type}{l:A2 α}{n:Int}{x:α}(h:at? l n=some x):0≤n∧l[n.toNat]? = some x:=by
 cases n with
 |ofNat m=>exact⟨Bqt m,h⟩
 |negSucc m=>cases h
def B32(n:Int):UInt8:=UInt8.ofNat (n % 256).toNat
theorem A4a(n:Int):((B32 n).toNat:Int)=IntKind.u8.wrap n:=by unfold B32 IntKind.wrap;rw[Bqs];simp[IntKind.bits,IntKind.signed];omega
def Be0(op:BinOp)(k:IntKind)(a b:Int):A3 XD :=
 match op with
 |.add=>some (.i k (k.wrap (a+b)))
 |.sub=>some (.i k (k.wrap (a-b)))
 |.mul=>some (.i k (k.wrap (a*b)))
 |.eql=>some (.b (a==b))
 |.neq=>some (.b (a != b))
 |.lss=>some (.b (decide (a<b)))
 |.leq=>some (.b (decide (a≤b)))
 |.gtr=>some (.b (decide (b<a)))
 |.geq=>some (.b (decide (b≤a)))
 |.and=>some (.i k (bits .and k a b))
 |.or=>some (.i k (bits .or k a b))
 |.xor=>some (.i k (bits .xor k a b))
 |_=>none
theorem B6t{op:BinOp}{k:IntKind}{a b:Int}{x:XD}(h:Be0 op k a b=some x):∃v,x.d = .sc v∧Aga op k a b=some v:=by cases op<;>simp[Be0]at h<;>subst h<;>exact⟨_,rfl,rfl⟩
def Bct(op:BinOp)(a b:UInt8):A3 XD :=
 match op with
 |.add=>some (.u8 (a+b))
 |.sub=>some (.u8 (a-b))
 |.mul=>some (.u8 (a*b))
 |.eql=>some (.b (a==b))
 |.neq=>some (.b (a != b))
 |.lss=>some (.b (decide (a<b)))
 |.leq=>some (.b (decide (a≤b)))
 |.gtr=>some (.b (decide (b<a)))
 |.geq=>some (.b (decide (b≤a)))
 |.and=>some (.u8 (B32 (bits .and .u8 (a.toNat:Int) (b.toNat:Int))))
 |.or=>some (.u8 (B32 (bits .or .u8 (a.toNat:Int) (b.toNat:Int))))
 |.xor=>some (.u8 (B32 (bits .xor .u8 (a.toNat:Int) (b.toNat:Int))))
 |_=>none
theorem Yt(k:IntKind)(n:Int):k.wrap (k.wrap n)=k.wrap n:=by unfold IntKind.wrap;cases k<;>simp[IntKind.bits,IntKind.signed]<;>(try split)<;>(try split)<;>omega
section
variable{P:Program}{R:Type}
def Fj(P:Program)(t:TypeId):A3 (TypeId×Nat×Nat) :=
 match P.underlying t with
 |some (.slice e) =>
  match P.info? e with
  |some i=>cond (match i.zero with|some z=>Nat.beq z.cells.size i.size|none=>false) (some (e,i.size,i.bytes)) none
  |none=>none
 |_=>none
theorem Cb{t e sz bytes:Nat}(h:Fj P t=some (e,sz,bytes)):P2 P t e sz bytes:=by
 unfold Fj at h;split at h
 ·rename_i e' ht;split at h
  ·rename_i i hi;cases hz:i.zero with
   |none=>simp[hz]at h
   |some z =>
    simp only[hz]at h;cases hb:Nat.beq z.cells.size i.size with
    |false=>simp[hb]at h
    |true =>simp only[hb,Bkn,Bks,Bld]at h;obtain⟨rfl,rfl,rfl⟩:=h;exact⟨ht,i,z,hi,rfl,rfl,hz,Bkr hb⟩
  ·cases h
 ·cases h
def tyI(P:Program)(t:TypeId):A3 (Bool×Nat) :=
 match P.underlying t,P.info? t with
 |some d,some i=>some (A90 d,i.size)
 |_,_=>none
theorem X4{t:TypeId}{agg:Bool}{sz:Nat}(h:tyI P t=some (agg,sz)):TyI P t agg sz:=by
 unfold tyI at h;split at h
 ·rename_i d i hd hi;cases h;exact⟨⟨d,hd,rfl⟩,⟨i,hi,rfl⟩⟩
 ·cases h
def Apb(P:Program)(s n:Nat):A3 (Nat×Nat×Bool) :=
 match P.underlying s with
 |some (.struct fs) =>
  match fs[n]? with
  |some f =>
   match tyI P f.type with
   |some (agg,sz)=>cond (Nat.beq sz 0) none (some (f.offset,sz,agg))
   |none=>none
  |none=>none
 |_=>none
theorem A28{s n off sz:Nat}{agg:Bool}(h:Apb P s n=some (off,sz,agg)):Agb P s n off sz agg:=by
 unfold Apb at h;split at h
 ·rename_i fs hfs;split at h
  ·rename_i f hf;split at h
   ·rename_i ag sz' ht;cases hz:Nat.beq sz' 0 with
    |true=>simp[hz]at h
    |false =>simp only[hz,Bko,Bks,Bld]at h;obtain⟨rfl,rfl,rfl⟩:=h;exact⟨⟨fs,f,hfs,hf,rfl,X4 ht⟩,Bmw hz⟩
   ·cases h
  ·cases h
 ·cases h
def Att(st:Ad)(x:Operand)(K:Out→A3 R):A3 R :=
 match Av st x with
 |some v=>K (B5 st v [(x,v)])
 |none=>none
theorem Cg{st:Ad}{x:Operand}{v:XV}(h:Av st x=some v):∀p∈B0 [(x,v)],E3 st.im p.1 p.2:=by intro p hp;simp only[B0,Bkv,Bll,Bl7]at hp;subst hp;exact Aj h
theorem Ah0{o:Oper}{st:Ad}{x:Operand}{K:Out→A3 R}{r:R}(ho:o.op = .move x∨o.op = .assign x)(h:Att st x K=some r):∃out,K out=some r∧Br P o st out:=by
 unfold Att at h;split at h
 ·rename_i v hv;refine⟨_,h,A8 (Cg hv) fun X=>?_⟩;rcases ho with ho|ho
  ·exact Ba2 ho
  ·exact B2k ho
 ·cases h
def B6u(st:Ad)(c x y:Operand)(K:Out→A3 R):A3 R :=
 match Av st c with
 |some (.d (.b b)) =>
  cond b (match Av st x with|some v=>K (B5 st v [(c,.d (.b true)),(x,v)])|none=>none)
   (match Av st y with|some v=>K (B5 st v [(c,.d (.b false)),(y,v)])|none=>none)
 |_=>none
theorem B6v{o:Oper}{st:Ad}{c x y:Operand}{K:Out→A3 R}{r:R}(ho:o.op = .pick c x y)(h:B6u st c x y K=some r):∃out,K out=some r∧Br P o st out:=by
 unfold B6u at h;split at h
 ·rename_i b hb;cases b with
  |true =>
   simp only[Bkn]at h;split at h
   ·rename_i v hv;refine⟨_,h,A8 ?_ fun X=>Aoc ho⟩;intro p hp;simp only[B0,Bkv,Bll,Bkq,Blh,Bma]at hp;rcases hp with rfl|rfl
    ·exact Aj hb
    ·exact Aj hv
   ·cases h
  |false =>
   simp only[Bko]at h;split at h
   ·rename_i v hv;refine⟨_,h,A8 ?_ fun X=>Akj ho⟩;intro p hp;simp only[B0,Bkv,Bll,Bkq,Blh,Bma]at hp;rcases hp with rfl|rfl
    ·exact Aj hb
    ·exact Aj hv
   ·cases h
 ·cases h
end
section
variable{P:Program}{o:Oper}{X:A7}
theorem Be1{t t':TypeId}{x y:Operand}{k j:IntKind}{a b:Int}(ho:o.op = .binOp .shl t x y t')(hb:0≤b) :
  Bp P o [(x,.d (.int k a)),(y,.d (.int j b))] X X [] (.d (.int k (k.wrap (a*2 ^ (min b.toNat k.bits))))) :=
 .quiet fun _ _ g w ac _ Aq=>by
  have h1:=(H9 Aq).Al;have h2:=(T9 Aq).Al;simp only at h1 h2;refine⟨_,?_,.Fh _ _ _⟩;have hg:eqGuard .shl t x y (.int k a) (.int j b)=pure ():=rfl;simp only[execOp,ho,h1,h2,hg];simp[binOp,Op.shift,show ¬b<0 by omega]
theorem Be2{t t':TypeId}{x y:Operand}{k j:IntKind}{a b:Int}(ho:o.op = .binOp .shr t x y t')(hb:0≤b) :
  Bp P o [(x,.d (.int k a)),(y,.d (.int j b))] X X [] (.d (.int k (a.fdiv (2 ^ (min b.toNat k.bits))))) :=
 .quiet fun _ _ g w ac _ Aq=>by
  have h1:=(H9 Aq).Al;have h2:=(T9 Aq).Al;simp only at h1 h2;refine⟨_,?_,.Fh _ _ _⟩;have hg:eqGuard .shr t x y (.int k a) (.int j b)=pure ():=rfl;simp only[execOp,ho,h1,h2,hg];simp[binOp,Op.shift,show ¬b<0 by omega]
theorem B33{t t':TypeId}{x y:Operand}{k:IntKind}{a b:Int}(ho:o.op = .binOp .andNot t x y t') :
  Bp P o [(x,.d (.int k a)),(y,.d (.int k b))] X X [] (.d (.int k (bits .andNot k a b))) :=
 .quiet fun _ _ g w ac _ Aq=>by
  have h1:=(H9 Aq).Al;have h2:=(T9 Aq).Al;simp only at h1 h2;refine⟨_,?_,.Fh _ _ _⟩;have hg:eqGuard .andNot t x y (.int k a) (.int k b)=pure ():=rfl;simp only[execOp,ho,h1,h2,hg];simp[binOp,Op.intBits,bits]
def Be3(op:BinOp)(a b:A2 UInt8):A3 Bool :=
 match op with
 |.eql=>some (a==b)
 |.neq=>some (a != b)
 |.lss=>some (Op.bytesLess a b)
 |.leq=>some (Op.bytesLess a b||a==b)
 |.gtr=>some (!(Op.bytesLess a b||a==b))
 |.geq=>some (!(Op.bytesLess a b))
 |_=>none
theorem Bao{op:BinOp}{t t':TypeId}{x y:Operand}{a b:A2 UInt8}{c:Bool}(ho:o.op = .binOp op t x y t')(hc:Be3 op a b=some c) :
  Bp P o [(x,.d (.bs a)),(y,.d (.bs b))] X X [] (.d (.bool c)) :=
 .quiet fun _ _ g w ac _ Aq=>by
  have h1:=(H9 Aq).Al;have h2:=(T9 Aq).Al;simp only at h1 h2;refine⟨_,?_,.Fh _ _ _⟩;have e1:(⟨a.toArray⟩:ByteArray).toList=a:=by simp[Bqj]
  have e2:(⟨b.toArray⟩:ByteArray).toList=b:=by simp[Bqj]
  cases op<;>simp only[Be3,Bks,reduceCtorEq]at hc<;>subst hc <;>
   simp[execOp,ho,h1,h2,eqGuard,binOp,Op.stringOp,e1,e2,bne]
def eqS(P:Program):Nat→TypeId→A2 XD→A2 XD→A3 Bool
 |0,_,_,_=>none
 |d+1,t,xs,ys =>
  match P.underlying t with
  |some (.int _) =>
   match xs,ys with
   |[.i k a],[.i k' b]=>cond (Il k k') (some (a==b)) none
   |[.u8 a],[.u8 b]=>some (a==b)
   |[.u8 a],[.i .u8 b]=>some (((a.toNat:Nat):Int)==b)
   |[.i .u8 a],[.u8 b]=>some (a==((b.toNat:Nat):Int))
   |_,_=>none
  |some .bool =>
   match xs,ys with
   |[.b a],[.b b]=>some (a==b)
   |_,_=>none
  |some .string =>
   match xs,ys with
   |[.s a],[.s b]=>some (a==b)
   |_,_=>none
  |some (.struct fs)=>cond (P.stoodInHeld t) none (Axn P (eqS P d) xs ys fs.toList)
  |_=>none
where
 Axn (P:Program) (rec:TypeId→A2 XD→A2 XD→A3 Bool) (xs ys:A2 XD):A2 Field→A3 Bool
 |[]=>some true
 |f::fs =>
  match tyI P f.type with
  |some (_,sz) =>
   cond (decide (f.name = "_")) none (match rec f.type ((xs.drop f.offset).take sz) ((ys.drop f.offset).take sz) with
    |some a=>match fs with
     |[]=>some a
     |_=>match Axn P rec xs ys fs with
      |some b=>some (a&&b)
      |none=>none
    |none=>none)
  |none=>none
def VR(γ:Nat→Nat)(w:World)(xs:A2 XD)(vs:Array Value):Prop :=
 xs.length=vs.size∧∀(i:Nat) x v,xs[i]? = some x→vs[i]? = some v→RD γ w x.d v
def Kh(agg:Bool)(vs:Array Value):Value:=if agg then .agg vs else vs.getD 0 undef
theorem VR.sub{γ:Nat→Nat}{w:World}{xs:A2 XD}{vs:Array Value}(h:VR γ w xs vs)(off sz:Nat):VR γ w ((xs.drop off).take sz) (vs.extract off (off+sz)):=by
 refine⟨by simp[h.1];omega,?_⟩;intro i x v hx hv;rw[Bm5]at hx;split at hx
 ·rw[Bm9]at hx;rw[Boo]at hv;split at hv
  ·exact h.2 _ x v hx hv
  ·cases hv
 ·cases hx
theorem Ve{t:TypeId}{agg:Bool}{sz:Nat}(ht:TyI P t agg sz)(vs:Array Value)(off:Nat)(w:World)(h1:agg=false→off<vs.size∧0<sz) :
  (part t vs off).run P w = .ok (Kh agg (vs.extract off (off+sz))) w:=by
 unfold part;rw[Blo,A44 ht,Blk];cases agg with
 |true=>simp[ht.Yn,Kh]
 |false =>
  obtain⟨h0,h2⟩:=h1 rfl;have:0<min (off+sz) vs.size-off:=by omega
  simp[h0,Kh,Array.getD,this]
theorem Apc{γ:Nat→Nat}{w:World}:∀(d:Nat) (t:TypeId) (xs ys:A2 XD) (b:Bool) (vs us:Array Value) (e:Nat) (dd:TypeDesc),eqS P d t xs ys=some b→P.underlying t=some dd→VR γ w xs vs→VR γ w ys us →
  (Op.equalIn (d+e) t (Kh (A90 dd) vs) (Kh (A90 dd) us)).run P w = .ok b w
 |0,t,xs,ys,b,vs,us,e,dd,h,hd,hx,hy=>by simp[eqS]at h
 |d+1,t,xs,ys,b,vs,us,e,dd,h,hd,hx,hy=>by
  have one:∀ {xs:A2 XD} {vs:Array Value} {x:XD},VR γ w xs vs→xs=[x]→∃v,vs=#[v]∧RD γ w x.d v:=by
   intro xs vs x h he;subst he;obtain⟨h1,h2⟩:=h;have:vs.size=1:=by simpa using h1.symm
   refine⟨vs[0],?_,h2 0 x _ rfl (by simp[this])⟩;apply Array.ext
   ·simp[this]
   ·intro i h1 h2;have:i=0:=by simp at h2;omega
    subst this;rfl
  have A1a:∀ {v u:Value},RD γ w (.sc u) v→v=u:=by intro v u h;cases h;rfl
  unfold eqS at h;rw[show d+1+e=(d+e)+1 by omega];rw[hd]at h;cases dd with
  |int k0 =>
   simp only[A90,Kh];simp only at h;split at h
   ·rename_i k a k' b';cases hk:Il k k'<;>simp[hk]at h;have:=Fi hk;subst this;subst h;obtain⟨v,rfl,hv⟩:=one hx rfl;obtain⟨u,rfl,hu⟩:=one hy rfl;have:=A1a hv;subst this;have:=A1a hu;subst this;simpa using Bpo w (d+e) t k k0 a b' hd
   ·rename_i a b';simp at h;subst h;obtain⟨v,rfl,hv⟩:=one hx rfl;obtain⟨u,rfl,hu⟩:=one hy rfl;have:=A1a hv;subst this;have:=A1a hu;subst this;have e1:=Bpo (P:=P) w (d+e) t .u8 k0 (a.toNat:Int) (b'.toNat:Int) hd;have e2:(((a.toNat:Nat):Int)==((b'.toNat:Nat):Int))=(a==b'):=by rw[Bmb];simp only[Bp8];exact Ap0
    rw[e2]at e1;simpa using e1
   ·rename_i a b';simp at h;subst h;obtain⟨v,rfl,hv⟩:=one hx rfl;obtain⟨u,rfl,hu⟩:=one hy rfl;have:=A1a hv;subst this;have:=A1a hu;subst this;simpa using Bpo (P:=P) w (d+e) t .u8 k0 (a.toNat:Int) b' hd
   ·rename_i a b';simp at h;subst h;obtain⟨v,rfl,hv⟩:=one hx rfl;obtain⟨u,rfl,hu⟩:=one hy rfl;have:=A1a hv;subst this;have:=A1a hu;subst this;simpa using Bpo (P:=P) w (d+e) t .u8 k0 a (b'.toNat:Int) hd
   ·cases h
  |bool =>
   simp only[A90,Kh];simp only at h;split at h
   ·rename_i a b';simp at h;subst h;obtain⟨v,rfl,hv⟩:=one hx rfl;obtain⟨u,rfl,hu⟩:=one hy rfl;have:=A1a hv;subst this;have:=A1a hu;subst this;simpa using run_equalIn_bool' (P:=P) w (d+e) t a b' hd
   ·cases h
  |string =>
   simp only[A90,Kh];simp only at h;split at h
   ·rename_i a b';simp at h;subst h;obtain⟨v,rfl,hv⟩:=one hx rfl;obtain⟨u,rfl,hu⟩:=one hy rfl;have:=A1a hv;subst this;have:=A1a hu;subst this;have:=run_equalIn_string (P:=P) w (d+e) t ⟨a.toArray⟩ ⟨b'.toArray⟩ hd;simp only[Bqj]at this;simpa using this
   ·cases h
  |struct fs =>
   simp only[A90,Kh];simp only at h;cases hs:P.stoodInHeld t with
   |true=>simp[hs]at h
   |false =>
    simp only[hs,Bko]at h;have hf:P.fieldsOf t=fs:=by simp[Program.fieldsOf,hd]
    have:=run_equalIn_agg (P:=P) w (d+e) t vs us (by rw[hf];exact hd) hs;rw[hf]at this;simp only[Bn5];rw[this];clear this hf hd hs;generalize fs.toList=fl at h;induction fl generalizing b with
    |nil=>simp[eqS.Axn]at h;subst h;rfl
    |cons f fl ih =>
     unfold eqS.Axn at h;split at h
     ·rename_i ag sz Agg;have hT:=X4 Agg
      by_cases hn : f.name = "_"
      ·simp[hn]at h
      ·simp only[hn,decide_false,Bko]at h;split at h
       ·rename_i a ha;obtain⟨⟨d1,hd1,hag⟩,_⟩:=id hT;have key:=Apc d f.type _ _ a _ _ e d1 ha hd1 (hx.sub f.offset sz) (hy.sub f.offset sz);rw[hag]at key;have Up:∀ {zs:A2 XD} {ws:Array Value},VR γ w zs ws→(∃q,(zs.drop f.offset).take sz=q∧q≠[])→f.offset<ws.size∧0<sz:=by
         intro zs ws hz ⟨q,hq,hne⟩;have:0<((zs.drop f.offset).take sz).length:=by rw[hq];exact Bol.2 hne
         simp at this;rw[← hz.1];omega
        have hne:ag=false→((xs.drop f.offset).take sz≠[])∧((ys.drop f.offset).take sz≠[]):=by
         intro hg;subst hg;refine⟨fun h0=>?_,fun h0=>?_⟩
         ·rw[h0]at ha;cases d with
          |zero=>simp[eqS]at ha
          |succ d =>unfold eqS at ha;rw[hd1]at ha;cases d1<;>simp[A90]at hag<;>simp at ha
         ·rw[h0]at ha;cases d with
          |zero=>simp[eqS]at ha
          |succ d =>
           unfold eqS at ha;rw[hd1]at ha;cases d1<;>simp[A90]at hag<;>simp at ha
           all_goals (split at ha<;>simp_all)
        have p1:=Ve hT vs f.offset w (fun hg=>Up hx ⟨_,rfl,(hne hg).1⟩);have p2:=Ve hT us f.offset w (fun hg=>Up hy ⟨_,rfl,(hne hg).2⟩);simp only[Op.eqFields,ne_eq,hn,not_false_eq_true,Bn5,Blo,p1,p2,Blk,key];split at h
        ·cases h;cases b<;>simp[Op.eqFields]
        ·rename_i hfl;split at h
         ·rename_i b2 hb2;cases h;have:=ih b2 hb2;cases a with
          |true=>simpa using this
          |false=>simp
         ·cases h
       ·cases h
     ·cases h
  |_=>simp at h
theorem B6w{op:BinOp}{t t':TypeId}{x y:Operand}{xs ys:A2 XD}{b:Bool}(hop:op = .eql∨op = .neq)(ho:o.op = .binOp op t x y t')(hb:eqS P 9 t xs ys=some b)
  (ht:(P.underlying t).map A90=some true) (hm:P.eqGuardType P.depth t=false) :
  Bp P o [(x,.d (.agg (D6 xs))),(y,.d (.agg (D6 ys)))] X X [] (.d (.bool (if op = .eql then b else !b))) :=
 .quiet fun _ _ g w ac _ Aq=>by
  have h1:=H9 Aq;have h2:=T9 Aq;simp only at h1 h2;have ag:∀ {zs:A2 XD} {v:Value},RA g w (.d (.agg (D6 zs))) v→∃vs,v = .agg vs∧VR g.γ w zs vs:=by
   intro zs v h;cases h with
   |d _ _ h =>
    cases h with
    |agg _ vs hl hc =>refine⟨vs,rfl,by simpa[Gn]using hl,fun i x u hx hu=>hc i x.d u ?_ hu⟩;rw[Ha,Bkt,hx];rfl
  obtain⟨vs,hv,hvr⟩:=ag h1;obtain⟨us,hu,hur⟩:=ag h2;obtain⟨dd,hd,hag⟩:=Bky.1 ht;have key:=Apc (P:=P) (w:=w) 9 t xs ys b vs us 9991 dd hb hd hvr hur;rw[hag]at key;simp only[Kh,Bn5]at key;refine⟨_,?_,.Fh _ _ _⟩;rcases hop with rfl|rfl
  ·simp only[execOp,ho,hv,hu];simp[run_eqGuard_agg (P:=P) w .eql t x y vs us hm,run_eql_struct,key]
  ·simp only[execOp,ho,hv,hu];simp[run_eqGuard_agg (P:=P) w .neq t x y vs us hm,run_neq_struct,key]
end
section
variable{P:Program}{R:Type}
def Bap(k:IntKind)(n:Int):XD :=
 match k with
 |.u8=>.u8 (B32 n)
 |k=>.i k n
theorem Amb(k:IntKind)(n:Int)(h:k = .u8→IntKind.u8.wrap n=n):(Bap k n).d = .int k n:=by
 unfold Bap;split
 ·simp only[XD.d];rw[A4a,h rfl]
 ·rfl
def Axo(op:BinOp)(k:IntKind)(a b:Int)(K:XD→A3 R):A3 R :=
 match op with
 |.quo=>cond (b==0) none (K (.i k (k.wrap (a.tdiv b))))
 |.rem=>cond (b==0) none (K (.i k (a.tmod b)))
 |.andNot=>K (.i k (bits .andNot k a b))
 |op=>match Be0 op k a b with
  |some x=>K x
  |none=>none
def Apd(op:BinOp)(a b:UInt8)(K:XD→A3 R):A3 R :=
 match op with
 |.quo=>cond (b==0) none (K (.u8 (a/b)))
 |.rem=>cond (b==0) none (K (.u8 (a % b)))
 |op=>match Bct op a b with
  |some x=>K x
  |none=>none
def Ac2(op:BinOp)(k:IntKind)(a b:Int)(K:XD→A3 R):A3 R :=
 match op with
 |.shl=>cond (decide (0≤b)) (K (Bap k (k.wrap (a*2 ^ (min b.toNat k.bits))))) none
 |.shr=>cond (decide (0≤b)) (match k with
  |.u8=>none
  |k=>K (.i k (a.fdiv (2 ^ (min b.toNat k.bits))))) none
 |_=>none
def X5:BinOp→Bool
 |.shl|.shr=>true
 |_=>false
def Bgf(op:BinOp)(a b:A2 UInt8)(K:XD→A3 R):A3 R :=
 match op with
 |.add=>cond (decide (a.length+b.length≤4611686018427387904)) (K (.s (a++b))) none
 |op=>match Be3 op a b with
  |some c=>K (.b c)
  |none=>none
def B6x(P:Program)(op:BinOp)(t:TypeId)(xs ys:A2 XD)(K:XD→A3 R):A3 R :=
 match eqS P 9 t xs ys,P.underlying t with
 |some b,some (.struct _)=>cond (P.eqGuardType P.depth t) none (match op with
  |.eql=>K (.b b)
  |.neq=>K (.b (!b))
  |_=>none)
 |_,_=>none
def Bgg(P:Program)(op:BinOp)(t:TypeId)(a b:Bool)(K:XD→A3 R):A3 R :=
 match P.underlying t with
 |some .bool=>match op with
  |.eql=>K (.b (a==b))
  |.neq=>K (.b (!(a==b)))
  |_=>none
 |_=>none
def Be4(P:Program)(op:BinOp)(t:TypeId)(x y:XD)(K:XD→A3 R):A3 R :=
 match x,y with
 |.i k a,.i k' b=>cond (X5 op) (Ac2 op k a b K) (cond (Il k k') (Axo op k a b K) none)
 |.i k a,.u8 b=>cond (X5 op) (Ac2 op k a (b.toNat:Int) K) none
 |.u8 a,.i k b=>cond (X5 op) (Ac2 op .u8 (a.toNat:Int) b K) none
 |.u8 a,.u8 b=>cond (X5 op) (Ac2 op .u8 (a.toNat:Int) (b.toNat:Int) K) (Apd op a b K)
 |.s a,.s b=>Bgf op a b K
 |.b a,.b b=>Bgg P op t a b K
 |.agg xs,.agg ys=>B6x P op t xs ys K
 |_,_=>none
theorem A4b{o:Oper}{op:BinOp}{t t':TypeId}{x y:Operand}{k j:IntKind}{a b:Int}{K:XD→A3 R}{r:R}(ho:o.op = .binOp op t x y t')(h:Ac2 op k a b K=some r) :
  ∃z,K z=some r∧∀X,Bp P o [(x,.d (.int k a)),(y,.d (.int j b))] X X [] (.d z.d):=by
 unfold Ac2 at h;split at h
 ·by_cases hb:0≤b
  ·simp only[hb,Brm,Bkn]at h;refine⟨_,h,fun X=>?_⟩;rw[Amb k _ (fun hk=>by subst hk;exact Yt _ _)];exact Be1 ho hb
  ·simp[hb]at h
 ·by_cases hb:0≤b
  ·simp only[hb,Brm,Bkn]at h;split at h
   ·cases h
   ·exact⟨_,h,fun X=>Be2 ho hb⟩
  ·simp[hb]at h
 ·cases h
theorem B34{o:Oper}{op:BinOp}{t t':TypeId}{x y:Operand}{k:IntKind}{a b:Int}{K:XD→A3 R}{r:R}(ho:o.op = .binOp op t x y t')(h:Axo op k a b K=some r) :
  ∃z,K z=some r∧∀X,Bp P o [(x,.d (.int k a)),(y,.d (.int k b))] X X [] (.d z.d):=by
 unfold Axo at h;split at h
 ·by_cases hb:b=0
  ·simp[hb]at h
  ·have:(b==0)=false:=by simpa using hb
   simp only[this,Bko]at h;exact⟨_,h,fun X=>B66 ho hb rfl⟩
 ·by_cases hb:b=0
  ·simp[hb]at h
  ·have:(b==0)=false:=by simpa using hb
   simp only[this,Bko]at h;exact⟨_,h,fun X=>B65 ho hb rfl⟩
 ·exact⟨_,h,fun X=>B33 ho⟩
 ·split at h
  ·rename_i z hz;obtain⟨v,hv,hr⟩:=B6t hz;refine⟨z,h,fun X=>?_⟩;rw[hv];exact B5t ho hr
  ·cases h
theorem Baq(b:UInt8):IntKind.u8.wrap (b.toNat:Int)=(b.toNat:Int):=by have:=b.toNat_lt;unfold IntKind.wrap;simp[IntKind.bits,IntKind.signed];omega
theorem B6y{o:Oper}{op:BinOp}{t t':TypeId}{x y:Operand}{a b:UInt8}{K:XD→A3 R}{r:R}(ho:o.op = .binOp op t x y t')(h:Apd op a b K=some r) :
  ∃z,K z=some r∧∀X,Bp P o [(x,.d (.int .u8 (a.toNat:Int))),(y,.d (.int .u8 (b.toNat:Int)))] X X [] (.d z.d):=by
 have ha:=a.toNat_lt;have hb:=b.toNat_lt;unfold Apd at h;split at h
 ·by_cases hb:b=0
  ·simp[hb]at h
  ·have G0:(b==0)=false:=by simpa using hb
   simp only[G0,Bko]at h;refine⟨_,h,fun X=>?_⟩;have h0:((b.toNat:Nat):Int)≠0:=by intro h0;apply hb;apply Brh.1;simpa using h0
   refine B66 ho h0 ?_;rw[show(((a/b:UInt8).toNat:Nat):Int)=((a.toNat:Nat):Int).tdiv ((b.toNat:Nat):Int) by rw[UInt8.toNat_div];rfl];have:(((a/b:UInt8).toNat:Nat):Int)=((a.toNat:Nat):Int).tdiv ((b.toNat:Nat):Int):=by rw[UInt8.toNat_div];rfl
   rw[← this];exact Baq _
 ·by_cases hb:b=0
  ·simp[hb]at h
  ·have G0:(b==0)=false:=by simpa using hb
   simp only[G0,Bko]at h;refine⟨_,h,fun X=>?_⟩;have h0:((b.toNat:Nat):Int)≠0:=by intro h0;apply hb;apply Brh.1;simpa using h0
   exact B65 ho h0 (by rw[UInt8.toNat_mod];rfl)
 ·split at h
  ·rename_i z hz;refine⟨z,h,fun X=>?_⟩;have mk:∀ {v:Value},Aga op .u8 (a.toNat:Int) (b.toNat:Int)=some v→z.d = .sc v→Bp P o [(x,.d (.int .u8 (a.toNat:Int))),(y,.d (.int .u8 (b.toNat:Int)))] X X [] (.d z.d):=by intro v h1 h2;rw[h2];exact B5t ho h1
   unfold Bct at hz;split at hz<;>simp only[Bks,reduceCtorEq]at hz<;>subst hz
   ·refine mk rfl ?_;simp only[XD.d];congr 2
   ·refine mk rfl ?_;simp only[XD.d];congr 2;rw[UInt8.toNat_sub];unfold IntKind.wrap;simp[IntKind.bits,IntKind.signed];omega
   ·refine mk rfl ?_;simp only[XD.d];congr 2
   ·refine mk rfl ?_;simp only[XD.d,D.bool];congr 2;rw[Bmb];simp only[Bp8];exact Ap0.symm
   ·refine mk rfl ?_;simp only[XD.d,D.bool];congr 2;rw[Bmb];simp only[bne_iff_ne,ne_eq];exact not_congr Ap0.symm
   ·refine mk rfl ?_;simp only[XD.d,D.bool];congr 2;rw[Bmb];simp[Brs]
   ·refine mk rfl ?_;simp only[XD.d,D.bool];congr 2;rw[Bmb];simp[Brt]
   ·refine mk rfl ?_;simp only[XD.d,D.bool];congr 2;rw[Bmb];simp[Brs]
   ·refine mk rfl ?_;simp only[XD.d,D.bool];congr 2;rw[Bmb];simp[Brt]
   ·refine mk rfl ?_;simp only[XD.d];congr 2;rw[A4a];unfold bits;exact Yt _ _
   ·refine mk rfl ?_;simp only[XD.d];congr 2;rw[A4a];unfold bits;exact Yt _ _
   ·refine mk rfl ?_;simp only[XD.d];congr 2;rw[A4a];unfold bits;exact Yt _ _
  ·cases h
theorem Bar{o:Oper}{op:BinOp}{t t':TypeId}{x y:Operand}{a b:XD}{K:XD→A3 R}{r:R}(ho:o.op = .binOp op t x y t')(h:Be4 P op t a b K=some r) :
  ∃z,K z=some r∧∀X,Bp P o [(x,.d a.d),(y,.d b.d)] X X [] (.d z.d):=by
 unfold Be4 at h;split at h
 ·rename_i k a k' b;cases hs:X5 op with
  |true=>simp only[hs,Bkn]at h;exact A4b ho h
  |false =>
   simp only[hs,Bko]at h;cases hk:Il k k' with
   |false=>simp[hk]at h
   |true =>have:=Fi hk;subst this;simp only[hk,Bkn]at h;exact B34 ho h
 ·cases hs:X5 op with
  |true=>simp only[hs,Bkn]at h;exact A4b ho h
  |false=>simp[hs]at h
 ·cases hs:X5 op with
  |true=>simp only[hs,Bkn]at h;exact A4b ho h
  |false=>simp[hs]at h
 ·cases hs:X5 op with
  |true=>simp only[hs,Bkn]at h;exact A4b ho h
  |false=>simp only[hs,Bko]at h;exact B6y ho h
 ·rename_i a b;unfold Bgf at h;split at h
  ·by_cases hl:a.length+b.length≤4611686018427387904
   ·simp only[hl,Brm,Bkn]at h;exact⟨_,h,fun X=>B6e ho hl⟩
   ·simp[hl]at h
  ·split at h
   ·rename_i c hc;exact⟨_,h,fun X=>Bao ho hc⟩
   ·cases h
 ·unfold Bgg at h;split at h
  ·rename_i ht;split at h
   ·exact⟨_,h,fun X=>Asz ho ht⟩
   ·exact⟨_,h,fun X=>At0 ho ht⟩
   ·cases h
  ·cases h
 ·unfold B6x at h;split at h
  ·rename_i b fs hb ht;cases hm:P.eqGuardType P.depth t with
   |true=>simp[hm]at h
   |false =>
    simp only[hm,Bko]at h;have hag:(P.underlying t).map A90=some true:=by rw[ht];rfl
    split at h
    ·refine⟨_,h,fun X=>?_⟩;exact B6w (X:=X) (.inl rfl) ho hb hag hm
    ·refine⟨_,h,fun X=>?_⟩;exact B6w (X:=X) (.inr rfl) ho hb hag hm
    ·cases h
  ·cases h
 ·cases h
end
section
variable{P:Program}{R:Type}
def Be6(P:Program)(st:Ad)(op:BinOp)(t:TypeId)(x y:Operand)(K:Out→A3 R):A3 R :=
 match xd st x,xd st y with
 |some a,some b=>Be4 P op t a b fun z=>K (B5 st (.d z) [(x,.d a),(y,.d b)])
 |_,_=>none
theorem Bas{o:Oper}{st:Ad}{op:BinOp}{t t':TypeId}{x y:Operand}{K:Out→A3 R}{r:R}(ho:o.op = .binOp op t x y t')(h:Be6 P st op t x y K=some r):∃out,K out=some r∧Br P o st out:=by
 unfold Be6 at h;split at h
 ·rename_i a b ha hb;obtain⟨z,hz,hop⟩:=Bar ho h;exact⟨_,hz,A8 (Ama ha hb) hop⟩
 ·cases h
def xUn(st:Ad)(op:UnOp)(x:Operand)(K:Out→A3 R):A3 R :=
 match op,xd st x with
 |.not,some (.b b)=>K (B5 st (.d (.b (!b))) [(x,.d (.b b))])
 |.neg,some (.i k n)=>K (B5 st (.d (.i k (k.wrap (0-n)))) [(x,.d (.i k n))])
 |_,_=>none
theorem Be7{o:Oper}{t:TypeId}{x:Operand}{k:IntKind}{n:Int}{X:A7}(ho:o.op = .unOp .neg t x):Bp P o [(x,.d (.int k n))] X X [] (.d (.int k (k.wrap (0-n)))) :=
 .quiet fun _ _ g w ac _ Aq=>by
  have h1:=(H9 Aq).Al;simp only at h1;refine⟨_,?_,.Fh _ _ _⟩;simp[execOp,ho,h1,Op.unary,Op.intArith]
theorem Be8{o:Oper}{st:Ad}{op:UnOp}{t:TypeId}{x:Operand}{K:Out→A3 R}{r:R}(ho:o.op = .unOp op t x)(h:xUn st op x K=some r):∃out,K out=some r∧Br P o st out:=by
 unfold xUn at h;split at h
 ·rename_i b hb;exact⟨_,h,A8 (A19 hb) fun X=>Bde ho⟩
 ·rename_i k n hb;exact⟨_,h,A8 (A19 hb) fun X=>Be7 ho⟩
 ·cases h
def B6z(P:Program)(st:Ad)(s d:TypeId)(x:Operand)(K:Out→A3 R):A3 R :=
 match xd st x,P.underlying s,P.underlying d with
 |some (.i j n),some _,some (.int k)=>K (B5 st (.d (Bap k (k.wrap n))) [(x,.d (.i j n))])
 |some (.u8 b),some _,some (.int k) =>
  K (B5 st (.d (match k with
   |.u8=>.u8 b
   |.i8=>.i .i8 (IntKind.i8.wrap (b.toNat:Int))
   |k=>.i k (b.toNat:Int))) [(x,.d (.u8 b))])
 |some (.sl .u8 l),some (.slice e),some .string =>
  match P.underlying e with
  |some (.int .u8)=>K (B5 st (.d (.s l)) [(x,.d (.sl .u8 l))])
  |_=>none
 |some (.s l),some .string,some .string=>K (B5 st (.d (.s l)) [(x,.d (.s l))])
 |_,_,_=>none
theorem u8_in(b:UInt8)(k:IntKind)(h:k≠.i8):k.wrap (b.toNat:Int)=(b.toNat:Int):=by have:=b.toNat_lt;unfold IntKind.wrap;cases k<;>simp[IntKind.bits,IntKind.signed]at h⊢<;>(try split)<;>omega
theorem Atu{o:Oper}{s d:TypeId}{x:Operand}{l:A2 UInt8}{X:A7}(ho:o.op = .convert s d x)(hs:P.underlying s=some .string)(hd:P.underlying d=some .string):Bp P o [(x,.d (.bs l))] X X [] (.d (.bs l)) :=
 .quiet fun _ _ g w ac _ Aq=>by
  have h1:=(H9 Aq).Al;simp only at h1;refine⟨_,?_,.Fh _ _ _⟩;simp[execOp,ho,h1,convert,Bl0 hs,Bl0 hd]
theorem B70{o:Oper}{st:Ad}{s d:TypeId}{x:Operand}{K:Out→A3 R}{r:R}(ho:o.op = .convert s d x)(h:B6z P st s d x K=some r):∃out,K out=some r∧Br P o st out:=by
 unfold B6z at h;split at h
 ·rename_i j n sd k hx hs hd;refine⟨_,h,A8 (A19 hx) fun X=>?_⟩;simp only[XV.a];rw[Amb k _ (fun hk=>by subst hk;exact Yt _ _)];exact Adw ho (by rw[hs];rfl) hd
 ·rename_i b sd k hx hs hd;refine⟨_,h,A8 (A19 hx) fun X=>?_⟩;have:=Adw (P:=P) (X:=X) (j:=.u8) (k:=k) (n:=(b.toNat:Int)) ho (by rw[hs];rfl) hd;simp only[XV.a];split
  ·rw[u8_in b _ (by decide)]at this;exact this
  ·exact this
  ·rw[u8_in b _ (by assumption)]at this;exact this
 ·rename_i l e hx hs hd;split at h
  ·rename_i he;refine⟨_,h,A8 (A19 hx) fun X=>?_⟩;have:=Agu (P:=P) (X:=X) (l:=l) ho hs he hd;exact this
  ·cases h
 ·rename_i l hx hs hd;exact⟨_,h,A8 (A19 hx) fun X=>Atu ho hs hd⟩
 ·cases h
def Ah1(st:Ad)(x:Operand)(i:Nat)(K:Out→A3 R):A3 R :=
 match Av st x with
 |some (.E2 l) =>
  match l[i]? with
  |some v=>K (B5 st v [(x,.E2 l)])
  |none=>none
 |_=>none
theorem Atv{o:Oper}{st:Ad}{x:Operand}{i:Nat}{K:Out→A3 R}{r:R}(ho:o.op = .extract x i)(h:Ah1 st x i K=some r):∃out,K out=some r∧Br P o st out:=by
 unfold Ah1 at h;split at h
 ·rename_i l hl;split at h
  ·rename_i v hv;exact⟨_,h,A8 (Cg hl) fun X=>Ax2 ho (by rw[L5,hv];rfl)⟩
  ·cases h
 ·cases h
def Be9(st:Ad)(x:Operand)(K:Out→A3 R):A3 R :=
 match Av st x with
 |some (.nm k (.p off))=>K (B5 st (.nm k (.p off)) [(x,.nm k (.p off))])
 |some (.d (.ep cs))=>K (B5 st (.d (.ep cs)) [(x,.d (.ep cs))])
 |_=>none
theorem Ah2{o:Oper}{x:Operand}{cs:A2 D}{X:A7}(ho:o.op = .nilCheck x):Bp P o [(x,.d (.ep cs))] X X [] (.d (.ep cs)) :=
 .quiet fun _ _ g w ac _ Aq=>by
  have h1:=H9 Aq;simp only at h1;cases h1 with
  |d _ _ h =>
   generalize hv:ac.eval x=v at h;have h':=h;cases h with
   |ep _ b off h1 h2 =>refine⟨_,?_,.d _ _ h'⟩;simp[execOp,ho,hv]
theorem Bat{o:Oper}{st:Ad}{x:Operand}{K:Out→A3 R}{r:R}(ho:o.op = .nilCheck x)(h:Be9 st x K=some r):∃out,K out=some r∧Br P o st out:=by
 unfold Be9 at h;split at h
 ·rename_i k off hx;exact⟨_,h,A8 (Cg hx) fun X=>Afd ho⟩
 ·rename_i cs hx;exact⟨_,h,A8 (Cg hx) fun X=>Ah2 ho⟩
 ·cases h
end
section
variable{P:Program}{R:Type}
def A29:A2 XV→A3 (A2 XD)
 |[]=>some []
 |.d x::r=>match A29 r with
  |some l=>some (x::l)
  |none=>none
 |_::_=>none
def Atw(cs:A2 XV):XV :=
 match A29 cs with
 |some ds=>.d (.agg ds)
 |none=>.agg cs
theorem B71:∀(cs:A2 XV),Ag8 (A9 cs)=(A29 cs).map D6
 |[]=>rfl
 |x::r=>by
  cases x with
  |d x =>simp only[A9,XV.a,Ag8,A29,B71 r];cases A29 r<;>rfl
  |_=>simp[A9,XV.a,Ag8,A29]
theorem Amc:∀ {cs:A2 XV} {ds:A2 XD},A29 cs=some ds→cs=ds.map .d
 |[],ds,h=>by simp[A29]at h;subst h;rfl
 |x::r,ds,h=>by
  cases x with
  |d x =>
   simp only[A29]at h;split at h
   ·rename_i l hl;cases h;rw[Amc hl];rfl
   ·cases h
  |_=>simp[A29]at h
theorem Ape(cs:A2 XV):(Atw cs).a=Wt (A9 cs):=by unfold Atw Wt;rw[B71];cases A29 cs<;>rfl
def XV.cells:XV→A2 XV
 |.d x=>x.cells.map .d
 |.agg cs=>cs
 |x=>[x]
theorem Bau(x:XD):x.d.cells=D6 x.cells:=by
 cases hx:x.isAgg with
 |true=>rw[XD.Bcs hx];rfl
 |false=>cases x<;>first|rfl|(simp[XD.isAgg]at hx;done)|(rename_i b;cases b<;>rfl)
theorem Amd(l:A2 XD):A9 (l.map .d)=(D6 l).map .d:=by simp[Q7,Ha,XV.a]
theorem A4c(x:XV):x.a.cells=A9 x.cells:=by
 cases x with
 |d x=>simp only[XV.a,AV.cells,XV.cells,Bau,Amd]
 |_=>rfl
def B0t(P:Program)(st:Ad)(t:TypeId)(x:Operand)(K:Out→A3 R):A3 R :=
 match Av st x,tyI P t with
 |some (.el k t i fo),some (agg,sz) =>
  match lk k st.objs with
  |some (.arr u l) =>
   if h:u.Ji t=true then
    cond agg (cond (Nat.ble (fo+sz) t.size) (Option.bind ((Ty.Au h▸l:List t.T)[i]?) fun e=>K ⟨.look [k],.d (.agg (((t.enc e).drop fo).take sz)),[(x,.el k t i fo)],st.objs,st.live,[],[]⟩) none)
     (cond (Nat.beq sz 1) (Option.bind ((Ty.Au h▸l:List t.T)[i]?) fun e=>match (t.enc e)[fo]? with
      |some v=>K ⟨.look [k],.d v,[(x,.el k t i fo)],st.objs,st.live,[],[]⟩
      |none=>none) none)
   else none
  |_=>none
 |some (.nm k (.p off)),some (agg,sz) =>
  match lk k st.objs with
  |some (.cells cs ty) =>
   cond agg (cond (Nat.ble (off+sz) cs.length) (K ⟨.look [k],Atw ((cs.drop off).take sz),[(x,.nm k (.p off))],st.objs,st.live,[],[]⟩) none)
    (cond (Nat.beq sz 1) (match cs[off]? with
     |some v=>K ⟨.look [k],v,[(x,.nm k (.p off))],st.objs,st.live,[],[]⟩
     |none=>none) none)
  |_=>none
 |some (.d (.pa ty l)),some (agg,sz) =>cond agg (cond (Nat.beq (l.length*ty.size) sz) (K (B5 st (.d (.ag ty l)) [(x,.d (.pa ty l))])) none) none
 |some (.d (.ep cs)),some (agg,sz) =>
  cond agg (cond (Nat.ble sz cs.length) (K (B5 st (.d (.agg (cs.take sz))) [(x,.d (.ep cs))])) none)
   (cond (Nat.beq sz 1) (match cs with
    |c::r=>K (B5 st (.d c) [(x,.d (.ep (c::r)))])
    |[]=>none) none)
 |_,_=>none
theorem Ame{st:Ad}{k:Nat}{cs:A2 XV}{ty:A3 TypeId}(h:lk k st.objs=some (.cells cs ty)):st.X.objs.lookup k=some (.cells (A9 cs) ty):=by show(A6 st.objs).lookup k=_;exact H7 h
theorem A4d(l:A2 XD)(n:Nat):D6 (l.take n)=(D6 l).take n:=by simp[Ha,Bo5]
theorem A4e(l:A2 XV)(n:Nat):A9 (l.take n)=(A9 l).take n:=by simp[Q7,Bo5]
theorem A4f(l:A2 XV)(n:Nat):A9 (l.drop n)=(A9 l).drop n:=by simp[Q7,Boi]
theorem A4g(l:A2 XD)(n:Nat):D6 (l.drop n)=(D6 l).drop n:=by simp[Ha,Boi]
theorem A9n(t:Ty)(l:List t.T):∀(i:Nat) cs,(l.map t.ds)[i]? = some cs→cs.length=t.size:=by intro i cs h;rw[Bkt,Bky]at h;obtain⟨x,_,rfl⟩:=h;exact t.Cf x
theorem B35(l:A2 D):Ag8 (l.map .d)=some l:=by
 induction l with
 |nil=>rfl
 |cons x r ih=>simp[Ag8,ih]
theorem B36(l:A2 D):Wt (l.map .d) = .d (.agg l):=by unfold Wt;rw[B35]
theorem Bcu{fs:A2 (A2 D)}{sz:Nat}(hs:∀(i:Nat) cs,fs[i]? = some cs→cs.length=sz){p:Nat}{c:A2 D}(hp:fs[p]? = some c){fo n:Nat}(h:fo+n≤c.length) :
  p*sz+fo+n≤(fs.flatten.map AV.d).length:=by
 rw[Blb,F1 fs hs];have h1:p<fs.length:=(Bku.1 hp).1;have h2:=hs p c hp;have h3:(p+1)*sz≤fs.length*sz:=Bmm sz h1;rw[Bna]at h3;omega
theorem Bav{fs:A2 (A2 D)}{sz:Nat}(hs:∀(i:Nat) cs,fs[i]? = some cs→cs.length=sz){p:Nat}{c:A2 D}(hp:fs[p]? = some c){fo n:Nat}(h:fo+n≤c.length) :
  ((fs.flatten.map AV.d).drop (p*sz+fo)).take n=((c.drop fo).take n).map .d:=by
 rw[← Boi,← Bo5];congr 1;apply Bny;intro i;simp only[Bm5,Bm9];split
 ·rename_i hi;have Bs:fo+i<c.length:=by omega
  rw[show p*sz+fo+i=p*sz+(fo+i) by omega,A48 fs hs p (fo+i) c c[fo+i] hp (by simp[Bs])];simp[Bs]
 ·rfl
theorem Atx{o:Oper}{st:Ad}{t:TypeId}{x:Operand}{K:Out→A3 R}{r:R}(ho:o.op = .load t x)(h:B0t P st t x K=some r):∃out,K out=some r∧Br P o st out:=by
 unfold B0t at h;split at h
 ·rename_i k u i fo agg sz hx ht;have hT:=X4 ht;split at h
  ·rename_i u' l hk;split at h
   ·rename_i he;have e0:=Ty.Au he;subst e0;have Lk:st.X.objs.lookup k=some (.cells ((l.map u'.ds).flatten.map .d) none):=by show(A6 st.objs).lookup k=_;exact H7 hk
    have G9:=A9n u' l;cases agg with
    |true =>
     simp only[Bkn]at h;cases hb:Nat.ble (fo+sz) u'.size with
     |false=>simp[hb]at h
     |true =>
      simp only[hb,Bkn]at h;have hle:=Bl5 hb;obtain⟨e,he1,h⟩:=Blr.1 h;have hp:(l.map u'.ds)[i]? = some (u'.ds e):=by rw[Bkt,he1];rfl
      refine⟨_,h,⟨Cg hx,⟨rfl,rfl,rfl,fun X hX=>?_⟩,fun _ _ _ h=>h⟩⟩;refine Wu ho (.agg sz _ none _ hT ((hX k Bkz).trans Lk) (Bcu G9 hp (by rw[Ty.Cf];exact hle)) ?_);rw[Bav G9 hp (by rw[Ty.Cf];exact hle),B36];simp only[XV.a,XD.d,A4d,A4g,Ty.M8]
    |false =>
     simp only[Bko]at h;cases hb:Nat.beq sz 1 with
     |false=>simp[hb]at h
     |true =>
      have:=Bkr hb;subst this;simp only[hb,Bkn]at h;obtain⟨e,he1,h⟩:=Blr.1 h;have hp:(l.map u'.ds)[i]? = some (u'.ds e):=by rw[Bkt,he1];rfl
      split at h
      ·rename_i v hv;refine⟨_,h,⟨Cg hx,⟨rfl,rfl,rfl,fun X hX=>?_⟩,fun _ _ _ h=>h⟩⟩;refine Wu ho (.one _ none _ hT ((hX k Bkz).trans Lk) ?_);rw[Bkt,A48 _ G9 i fo (u'.ds e) v.d hp (by rw[← Ty.M8,Ha,Bkt,hv];rfl)];rfl
      ·cases h
   ·cases h
  ·cases h
 ·rename_i k off agg sz hx ht;have hT:=X4 ht;split at h
  ·rename_i cs ty hk;have Lk:=Ame hk;cases agg with
   |true =>
    simp only[Bkn]at h;cases hb:Nat.ble (off+sz) cs.length with
    |false=>simp[hb]at h
    |true =>simp only[hb,Bkn]at h;refine⟨_,h,⟨Cg hx,⟨rfl,rfl,rfl,fun X hX=>?_⟩,fun _ _ _ h=>h⟩⟩;refine Wu ho (.agg sz (A9 cs) ty _ hT ((hX k Bkz).trans Lk) (by rw[Ag];exact Bl5 hb) ?_);rw[Ape,A4e,A4f]
   |false =>
    simp only[Bko]at h;cases hb:Nat.beq sz 1 with
    |false=>simp[hb]at h
    |true =>
     have:=Bkr hb;subst this;simp only[hb,Bkn]at h;split at h
     ·rename_i v hv;refine⟨_,h,⟨Cg hx,⟨rfl,rfl,rfl,fun X hX=>?_⟩,fun _ _ _ h=>h⟩⟩;exact Wu ho (.one (A9 cs) ty _ hT ((hX k Bkz).trans Lk) (by rw[L5,hv];rfl))
     ·cases h
  ·cases h
 ·rename_i ty l agg sz hx ht;have hT:=X4 ht;cases agg with
  |false=>simp at h
  |true =>
   simp only[Bkn]at h;cases hb:Nat.beq (l.length*ty.size) sz with
   |false=>simp[hb]at h
   |true =>
    simp only[hb,Bkn]at h;have e:=Bkr hb;refine⟨_,h,A8 (Cg hx) fun X=>?_⟩;have hlen:((l.map ty.ds).flatten).length=l.length*ty.size:=by
     rw[List.length_flatten,Bnh];have:(List.length∘ty.ds)=fun _=>ty.size:=by funext y;exact ty.Cf y
     rw[this];simp[List.map_const']
    have:=Adx (P:=P) (X:=X) (cs:=(l.map ty.ds).flatten) ho hT (by omega) trivial;rw[Bn3 (by omega)]at this;exact this
 ·rename_i cs agg sz hx ht;have hT:=X4 ht;cases agg with
  |true =>
   simp only[Bkn]at h;cases hb:Nat.ble sz cs.length with
   |false=>simp[hb]at h
   |true =>simp only[hb,Bkn]at h;refine⟨_,h,A8 (Cg hx) fun X=>?_⟩;have:=Adx (P:=P) (X:=X) (cs:=D6 cs) ho hT (by rw[Gn];exact Bl5 hb) trivial;rw[← A4d]at this;exact this
  |false =>
   simp only[Bko]at h;cases hb:Nat.beq sz 1 with
   |false=>simp[hb]at h
   |true =>
    have:=Bkr hb;subst this;simp only[hb,Bkn]at h;split at h
    ·exact⟨_,h,A8 (Cg hx) fun X=>Ady ho hT⟩
    ·cases h
 ·cases h
def B72:XV→Bool
 |.d (.v u)=>u.oneCell'
 |.d (.agg _)=>false
 |.d (.ag _ _)=>false
 |.E2 _=>false
 |.agg _=>false
 |_=>true
theorem Bea{x:XV}(h:B72 x=true):At1 x.a=true:=by
 cases x with
 |d x=>cases x<;>first|rfl|(simp[B72]at h;done)|exact h|(rename_i b;cases b<;>rfl)
 |_=>first|rfl|(simp[B72]at h)
def A9o:A2 XV→Bool
 |[]=>true
 |x::r=>cond (B72 x) (A9o r) false
theorem Afv:∀ {l:A2 XV},A9o l=true→(A9 l).all At1=true
 |[],_=>rfl
 |x::r,h=>by
  simp only[A9o]at h;cases hx:B72 x with
  |false=>simp[hx]at h
  |true =>simp only[hx,Bkn]at h;simp only[A9,Bqv,Bea hx,Afv h,Bmo]
def S3:XV→Bool
 |.d (.v (.agg _))=>false
 |_=>true
theorem A4h{x:XV}(h:S3 x=true):A5j x.a=true:=by
 cases x with
 |d x =>
  cases x with
  |v u=>cases u<;>first|rfl|(simp[S3]at h)
  |er b=>cases b<;>rfl
  |ic t k z=>cases z<;>rfl
  |_=>rfl
 |_=>rfl
def A9p(cs:A2 XV)(off:Nat)(vs:A2 XV):A2 XV:=cs.take off++vs++cs.drop (off+vs.length)
theorem Amf(cs:A2 XV)(off:Nat)(vs:A2 XV):A9 (A9p cs off vs)=V1 (A9 cs) off (A9 vs):=by simp[A9p,V1,Dk,A4e,A4f,Ag]
theorem A2a{sz:Nat}:∀(fs:A2 (A2 D)),(∀(i:Nat) cs,fs[i]? = some cs→cs.length=sz)→∀(p:Nat) (c:A2 D) (fo:Nat) (vs:A2 D),fs[p]? = some c→fo+vs.length≤sz →
  fs.flatten.take (p*sz+fo)++vs++fs.flatten.drop (p*sz+fo+vs.length)=(fs.set p (c.take fo++vs++c.drop (fo+vs.length))).flatten
 |[],_,p,c,fo,vs,hp,_=>by simp at hp
 |a::r,hs,p,c,fo,vs,hp,hle=>by
  have ha:=hs 0 a rfl;cases p with
  |zero =>simp only[Bo3,Bks]at hp;subst hp;simp only[Bmj,Bnt,Blx,List.set_cons_zero];rw[Bpa (by omega),Bo7 (by omega)];simp[Bnx]
  |succ p =>
   have ih:=A2a r (fun i cs hi=>hs (i+1) cs (by simpa using hi)) p c fo vs (by simpa using hp) hle;simp only[Bmj,List.set_cons_succ];rw[← ih,Bna];have e1:p*sz+sz+fo=a.length+(p*sz+fo):=by omega
   have e2:p*sz+sz+fo+vs.length=a.length+(p*sz+fo+vs.length):=by omega
   rw[e1,Bqu,show a.length+(p*sz+fo)+vs.length=a.length+(p*sz+fo+vs.length) by omega,List.drop_length_add_append];simp[Bnx]
theorem HR.Beb{nm:A2 Nat}{B:Bl}{g:Gh}{w:World}{objs:A2 (Nat×Ob)}{live:A2 Nat}{k:Nat}{o1 o2:Ob}(h:HR nm B g w ⟨Ab.setObj k o1 objs,live⟩)(hle:∀b,C3 g w b o1→C3 g w b o2) :
  HR nm B g w ⟨Ab.setObj k o2 objs,live⟩:=by
 have hl:∀j o,(Ab.setObj k o2 objs).lookup j=some o→∃p,(Ab.setObj k o1 objs).lookup j=some p∧∀b,C3 g w b p→C3 g w b o:=by
  intro j o hj;rw[B3]at hj⊢;split at hj
  ·cases hj;rw[Blv ‹_›];exact⟨o1,rfl,hle⟩
  ·rw[Blj ‹_›];exact⟨o,hj,fun _ h=>h⟩
 refine⟨?_,h.Ik,h.base,h.io,h.le,h.frame,?_,?_,?_,?_,h.live,h.C4,?_,h.Ca,h.Cd,h.eta.same (Bl1 _) fun j o hj=>let ⟨p,hp,_⟩:=hl j o hj;⟨p,hp⟩⟩
 ·intro j hj;refine⟨(h.Dc j hj).1,?_⟩;have:=(h.Dc j hj).2;simp only[B3]at this⊢;split
  ·rfl
  ·rw[Blj ‹_›]at this;exact this
 ·intro j o hj;obtain⟨p,hp,hq⟩:=hl j o hj;exact hq _ (h.objs j p hp)
 ·intro j o hj;obtain⟨p,hp,_⟩:=hl j o hj;exact h.Fx j p hp
 ·intro j j' o o' hj Gf he;obtain⟨p,hp,_⟩:=hl j o hj;obtain⟨q,hq,_⟩:=hl j' o' Gf;exact h.C0 j j' p q hp hq he
 ·intro j o hj;obtain⟨p,hp,_⟩:=hl j o hj;exact h.Ce j p hp
 ·intro n b j o hn hj;obtain⟨p,hp,_⟩:=hl j o hj;exact h.Bo n b j p hn hp
theorem Bp.Beb{o:Oper}{rd:A2 (Operand×AV)}{X:A7}{k:Nat}{o1 o2:Ob}{res:AV}(h:Bp P o rd X ⟨Ab.setObj k o1 X.objs,X.live⟩ [] res)(hle:∀g w b,C3 g w b o1→C3 g w b o2) :
  Bp P o rd X ⟨Ab.setObj k o2 X.objs,X.live⟩ [] res:=by
 intro nm Ek B g w a hr Aq next Q hn
 exact h nm Ek B g w a hr Aq next Q fun g' w' v h1 h2 h3=>hn g' w' v (HR.Beb h1 (hle g' w')) h2 h3
theorem C3.Baw{g:Gh}{w:World}{b:Nat}{l l':A2 D}{ty:A3 TypeId}(h:C3 g w b (.cells (l.map .d) ty))(hle:Lm l l'):C3 g w b (.cells (l'.map .d) ty):=by
 cases h with
 |cells _ _ arr T h1 h2 h3 h4 =>refine .cells _ ty arr T h1 (by simpa[hle.length]using h2) ?_ h4;intro i x v hx hv;rw[Bkt,Bky]at hx;obtain⟨y,hy,rfl⟩:=hx;obtain⟨z,hz,hzy⟩:=hle.get hy;exact Wn.d hzy g w v (h3 i (.d z) v (by rw[Bkt,hz];rfl) hv)
theorem Lm.A2a:∀(fs:A2 (A2 D)) (p:Nat) (c c':A2 D),Lm c c'→Lm (fs.set p c).flatten (fs.set p c').flatten
 |[],p,c,c',_=>by simpa using Lm.nil
 |a::r,0,c,c',h=>by simpa using h.append (.refl _)
 |a::r,p+1,c,c',h=>by simpa using(Lm.refl a).append (Lm.A2a r p c c' h)
def Apf(cs:A2 XD)(off:Nat)(vs:A2 XD):A2 XD:=cs.take off++vs++cs.drop (off+vs.length)
def Axp(P:Program)(st:Ad)(t:TypeId)(x y:Operand)(K:Out→A3 R):A3 R :=
 match Av st x,Av st y,tyI P t with
 |some (.el k u i fo),some v,some (agg,sz) =>
  match lk k st.objs,A29 v.cells with
  |some (.arr u' l),some vs =>
   if h:u'.Ji u=true then
    cond (Nat.beq v.cells.length sz) (cond (A9o v.cells) (cond (S3 v) (cond (Nat.ble (fo+sz) u.size)
     (Option.bind ((Ty.Au h▸l:List u.T)[i]?) fun e=>match u.dec (Apf (u.enc e) fo vs) with
      |some (e',[])=>K ⟨.put k (.arr u ((Ty.Au h▸l:List u.T).set i e')),.d (.v undef),[(x,.el k u i fo),(y,v)],K6 k (.arr u ((Ty.Au h▸l:List u.T).set i e')) st.objs,st.live,[],[k]⟩
      |_=>none) none) none) none) none
   else none
  |_,_=>none
 |some (.nm k (.p off)),some v,some (agg,sz) =>
  match lk k st.objs with
  |some (.cells cs ty) =>
   cond (Nat.beq v.cells.length sz) (cond (A9o v.cells) (cond (S3 v) (cond (Nat.ble (off+sz) cs.length)
    (K ⟨.put k (.cells (A9p cs off v.cells) ty),.d (.v undef),[(x,.nm k (.p off)),(y,v)],K6 k (.cells (A9p cs off v.cells) ty) st.objs,st.live,[],[k]⟩) none) none) none) none
  |_=>none
 |_,_,_=>none
theorem B73{st:Ad}{x y:Operand}{a b:XV}(h:Av st x=some a)(h':Av st y=some b):∀p∈B0 [(x,a),(y,b)],E3 st.im p.1 p.2:=by
 intro p hp;simp only[B0,Bkv,Bll,Bkq,Blh,Bma]at hp;rcases hp with rfl|rfl
 ·exact Aj h
 ·exact Aj h'
theorem B37{o:Oper}{st:Ad}{t:TypeId}{x y:Operand}{K:Out→A3 R}{r:R}(ho:o.op = .store t x y)(h:Axp P st t x y K=some r):∃out,K out=some r∧Br P o st out:=by
 unfold Axp at h;split at h
 ·rename_i k u i fo v agg sz hx hy ht;have hT:=X4 ht;split at h
  ·rename_i u' l vs hk Nz;split at h
   ·rename_i he;have e0:=Ty.Au he;subst e0;cases h1:Nat.beq v.cells.length sz with
    |false=>simp[h1]at h
    |true =>
    cases h2:A9o v.cells with
    |false=>simp[h1,h2]at h
    |true =>
    cases h3:S3 v with
    |false=>simp[h1,h2,h3]at h
    |true =>
    cases h4:Nat.ble (fo+sz) u'.size with
    |false=>simp[h1,h2,h3,h4]at h
    |true =>
     simp only[h1,h2,h3,h4,Bkn]at h;have e1:=Bkr h1;have hle:=Bl5 h4;obtain⟨e,he1,h⟩:=Blr.1 h;split at h
     ·rename_i e' Bec;have Lk:st.X.objs.lookup k=some (.cells ((l.map u'.ds).flatten.map .d) none):=by show(A6 st.objs).lookup k=_;exact H7 hk
      have G9:=A9n u' l;have hp:(l.map u'.ds)[i]? = some (u'.ds e):=by rw[Bkt,he1];rfl
      have hm:=Amc Nz;have hvl:vs.length=sz:=by rw[← e1,hm];simp
      have hca:v.a.cells=(D6 vs).map .d:=by rw[A4c,hm,Amd]
      obtain⟨zs,hz,Bim⟩:=u'.V8 Bec;simp only[D6,Blt]at hz;subst hz;refine⟨_,h,⟨B73 hx hy,⟨⟨Hb hk rfl rfl,rfl⟩,rfl,rfl,fun X hX=>?_⟩,fun j z hj hz=>?_⟩⟩
      ·have:=At2 (P:=P) (X:=X) (x:=x) (y:=y) (v:=v.a) (k:=k) (off:=i*u'.size+fo) (cs:=(l.map u'.ds).flatten.map .d) (ty:=none) ho hT (hX.trans Lk)
        (by rw[hca];simp[Gn,hvl]) (by rw[A4c];exact Afv h2) (A4h h3) (Bcu G9 hp (by rw[Ty.Cf];exact hle))
       refine Bp.Beb this ?_;intro g w b Gg;have e2:V1 ((l.map u'.ds).flatten.map AV.d) (i*u'.size+fo) v.a.cells=((l.map u'.ds).set i (D6 (Apf (u'.enc e) fo vs))).flatten.map AV.d:=by rw[hca,V1,← Bo5,Blb,← Boi,← Ble,← Ble,A2a _ G9 i (u'.ds e) fo (D6 vs) hp (by rw[Gn];omega)];simp only[Apf,Wz,A4d,A4g,Ty.M8,Gn]
       rw[e2]at Gg;have:=C3.Baw Gg (Lm.A2a (l.map u'.ds) i _ _ Bim);show C3 g w b (.cells (((l.set i e').map u'.ds).flatten.map .d) none);rw[List.map_set];exact this
      ·rw[Jl _ _ _ _ (by simpa using hj)]at hz;exact hz
     ·cases h
   ·cases h
  ·cases h
 ·rename_i k off v agg sz hx hy ht;have hT:=X4 ht;split at h
  ·rename_i cs ty hk;cases h1:Nat.beq v.cells.length sz with
   |false=>simp[h1]at h
   |true =>
    cases h2:A9o v.cells with
    |false=>simp[h1,h2]at h
    |true =>
     cases h3:S3 v with
     |false=>simp[h1,h2,h3]at h
     |true =>
      cases h4:Nat.ble (off+sz) cs.length with
      |false=>simp[h1,h2,h3,h4]at h
      |true =>
       simp only[h1,h2,h3,h4,Bkn]at h;have e1:=Bkr h1;refine⟨_,h,⟨B73 hx hy,⟨⟨Hb hk rfl rfl,rfl⟩,rfl,rfl,fun X hX=>?_⟩,fun j z hj hz=>?_⟩⟩
       ·have hc:=A4c v;have:=At2 (P:=P) (X:=X) (x:=x) (y:=y) (v:=v.a) (cs:=A9 cs) (ty:=ty) ho hT (hX.trans (Ame hk)) (by rw[hc,Ag];exact e1) (by rw[hc];exact Afv h2)
         (A4h h3) (by rw[Ag];exact Bl5 h4)
        rw[hc,← Amf]at this;exact this
       ·rw[Jl _ _ _ _ (by simpa using hj)]at hz;exact hz
  ·cases h
 ·cases h
end
section
variable{P:Program}{R:Type}
def newName(o:Oper):A3 Nat :=
 match o.dst with
 |some d=>some (1000+d)
 |none=>none
def fresh(k:Nat)(st:Ad):Bool :=
 match lk k st.objs with
 |some _=>false
 |none=>Iq [k] st
def B74(k:Nat)(st:Ad):Prop:=lk k st.objs=none∧Fp [k] st.objs=true
theorem M9{k:Nat}{st:Ad}(h:fresh k st=true):B74 k st∧B7 [k] st.X=true:=by
 unfold fresh at h;split at h
 ·cases h
 ·exact⟨⟨‹_›,h⟩,Nb h⟩
theorem Ma{k:Nat}{st:Ad}(h:B74 k st):st.X.objs.lookup k=none:=Bam h.1 h.2
def zeroOf(P:Program)(t:TypeId):A3 (A2 XV) :=
 match P.info? t with
 |some i=>match i.zero with
  |some z=>some (z.cells.toList.map fun v=>.d (Vd v))
  |none=>none
 |none=>none
theorem Apg:∀(l:A2 Value),V2 (A9 (l.map fun v=>XV.d (Vd v))) l
 |[]=>.nil
 |v::r=>by
  simp only[Bkv,A9,XV.a,A27];exact .sc v (Apg r)
theorem Aty{t:TypeId}{cs:A2 XV}(h:zeroOf P t=some cs):Agd P t (A9 cs):=by
 unfold zeroOf at h;split at h
 ·rename_i i hi;split at h
  ·rename_i z hz;cases h;exact⟨⟨i,z,hi,hz,Apg _⟩⟩
  ·cases h
 ·cases h
def Axq(P:Program)(st:Ad)(o:Oper)(t:TypeId)(K:Out→A3 R):A3 R :=
 match newName o,zeroOf P t with
 |some k,some cs=>cond (fresh k st) (K ⟨.new [(k,.cells cs (some t))],.nm k (.p 0),[],(k,.cells cs (some t))::st.objs,st.live,[k],[k]⟩) none
 |_,_=>none
theorem Cq{α:Type}{k j:Nat}{x:α}{l:A2 (Nat×α)}(h:j≠k):lk j ((k,x)::l)=lk j l:=by simp[G1,nbF (Bnf h)]
theorem B38{o:Oper}{st:Ad}{t:TypeId}{K:Out→A3 R}{r:R}(ho:o.op = .alloc t)(h:Axq P st o t K=some r):∃out,K out=some r∧Br P o st out:=by
 unfold Axq at h;split at h
 ·rename_i k cs hk hz;cases hf:fresh k st with
  |false=>simp[hf]at h
  |true =>
   simp only[hf,Bkn]at h;obtain⟨h1,h2⟩:=M9 hf;refine⟨_,h,⟨by simp[B0],?_,fun j z hj hz=>?_⟩⟩
   ·exact⟨⟨rfl,rfl⟩,B0k k ho (Aty hz) (Ma h1) h2⟩
   ·rw[Cq (by simpa using hj)]at hz;exact hz
 ·cases h
def Bed(st:Ad)(o:Oper)(t:TypeId)(x:Operand)(K:Out→A3 R):A3 R :=
 match newName o,Av st x with
 |some k,some v=>cond (fresh k st) (cond (Bz [k] (A9 v.cells)) (cond (S3 v)
   (K ⟨.new [(k,.cells v.cells (some t))],.nm k (.p 0),[(x,v)],(k,.cells v.cells (some t))::st.objs,st.live,[k],[k]⟩) none) none) none
 |_,_=>none
theorem Bax{o:Oper}{st:Ad}{t:TypeId}{x:Operand}{K:Out→A3 R}{r:R}(ho:o.op = .box t x)(h:Bed st o t x K=some r):∃out,K out=some r∧Br P o st out:=by
 unfold Bed at h;split at h
 ·rename_i k v hk hv;cases hf:fresh k st with
  |false=>simp[hf]at h
  |true =>
   cases ha:Bz [k] (A9 v.cells) with
   |false=>simp[hf,ha]at h
   |true =>
    cases hn:S3 v with
    |false=>simp[hf,ha,hn]at h
    |true =>
     simp only[hf,ha,hn,Bkn]at h;obtain⟨h1,h2⟩:=M9 hf;refine⟨_,h,⟨Cg hv,?_,fun j z hj hz=>?_⟩⟩
     ·have:=Bdh (P:=P) (X:=st.X) (x:=x) (v:=v.a) k ho (Ma h1) h2 (by rw[A4c];exact ha) (A4h hn);rw[A4c]at this;exact⟨⟨rfl,rfl⟩,this⟩
     ·rw[Cq (by simpa using hj)]at hz;exact hz
 ·cases h
def C5(st:Ad):A2 Operand→A3 (A2 XV)
 |[]=>some []
 |x::r=>match Av st x,C5 st r with
  |some v,some l=>some (v::l)
  |_,_=>none
theorem Hw{st:Ad}:∀ {l:A2 Operand} {vs:A2 XV},C5 st l=some vs→vs.length=l.length
 |[],vs,h=>by simp[C5]at h;subst h;rfl
 |x::r,vs,h=>by
  unfold C5 at h;split at h
  ·rename_i v l hv hl;cases h;simp[Hw hl]
  ·cases h
theorem X6{st:Ad}:∀ {l:A2 Operand} {vs:A2 XV},C5 st l=some vs→∀p∈B0 (l.zip vs),E3 st.im p.1 p.2
 |[],vs,h=>by simp[B0]
 |x::r,vs,h=>by
  unfold C5 at h;split at h
  ·rename_i v l hv hl;cases h;intro p hp;simp only[B0,Bnn,Bkv,Bkq]at hp;rcases hp with rfl|hp
   ·exact Aj hv
   ·exact X6 hl p hp
  ·cases h
theorem Iy(l:A2 Operand)(vs:A2 XV):B0 (l.zip vs)=l.zip (A9 vs):=by
 induction l generalizing vs with
 |nil=>rfl
 |cons x r ih =>
  cases vs with
  |nil=>rfl
  |cons v vs=>simp only[B0,Bnn,Bkv,A9]at ih⊢;rw[ih]
def A4i(P:Program)(t:TypeId):A3 (A2 (Nat×Nat)) :=
 match P.underlying t with
 |some (.struct fs)=>A9q P fs.toList
 |_=>none
where
 A9q (P:Program):A2 Field→A3 (A2 (Nat×Nat))
 |[]=>some []
 |f::r=>match P.info? f.type,A9q P r with
  |some i,some l=>some ((f.offset,i.size)::l)
  |_,_=>none
theorem A9r:∀ {fs:A2 Field} {pl:A2 (Nat×Nat)},A4i.A9q P fs=some pl→fs.map (fun f=>(f.offset,(P.info? f.type).map (·.size)))=pl.map fun p=>(p.1,some p.2)
 |[],pl,h=>by simp[A4i.A9q]at h;subst h;rfl
 |f::r,pl,h=>by
  unfold A4i.A9q at h;split at h
  ·rename_i i l hi hl;cases h;simp[A9r hl,hi]
  ·cases h
theorem B39{t:TypeId}{pl:A2 (Nat×Nat)}(h:A4i P t=some pl):B0i P t pl:=by
 unfold A4i at h;split at h
 ·rename_i fs hfs;exact⟨⟨fs,hfs,A9r h⟩⟩
 ·cases h
def Amg(pl:A2 (Nat×Nat)):A2 XV→A2 (Nat×XV)→A3 (A2 XV)
 |cs,[]=>some cs
 |cs,p::r =>
  match pl[p.1]? with
  |none=>none
  |some (off,sz)=>cond (Nat.beq p.2.cells.length sz) (cond (Nat.ble (off+sz) cs.length) (Amg pl (A9p cs off p.2.cells) r) none) none
theorem Aph{pl:A2 (Nat×Nat)}:∀ {Bke:A2 (Nat×XV)} {cs out:A2 XV},Amg pl cs Bke=some out →
  Wv (fun i=>pl[i]?) (A9 cs) (Bke.map fun p=>(p.1,p.2.a))=some (A9 out)
 |[],cs,out,h=>by simp[Amg]at h;subst h;rfl
 |p::r,cs,out,h=>by
  unfold Amg at h;split at h
  ·cases h
  ·rename_i off sz hp;cases h1:Nat.beq p.2.cells.length sz with
   |false=>simp[h1]at h
   |true =>
    cases h2:Nat.ble (off+sz) cs.length with
    |false=>simp[h1,h2]at h
    |true =>simp only[h1,h2,Bkn]at h;have e1:=Bkr h1;have e2:=Bl5 h2;simp only[Bkv,Wv,hp,A4c,Ag];rw[Blv ⟨e1,by rw[e1];exact e2⟩,← Amf];exact Aph h
def Rm:A2 XV→Bool
 |[]=>true
 |x::r=>cond (S3 x) (Rm r) false
theorem A2b:∀ {l:A2 XV},Rm l=true→(A9 l).all A5j=true
 |[],_=>rfl
 |x::r,h=>by
  simp only[Rm]at h;cases hx:S3 x with
  |false=>simp[hx]at h
  |true =>simp only[hx,Bkn]at h;simp only[A9,Bqv,A4h hx,A2b h,Bmo]
def Axr(P:Program)(st:Ad)(t:TypeId)(Bke:Array (Nat×Operand))(K:Out→A3 R):A3 R :=
 match A4i P t,zeroOf P t,C5 st (Bke.toList.map (·.2)) with
 |some pl,some zs,some vs =>
  cond (Rm vs) (match Amg pl zs ((Bke.toList.map (·.1)).zip vs) with
   |some out=>K (B5 st (Atw out) ((Bke.toList.map (·.2)).zip vs))
   |none=>none) none
 |_,_,_=>none
theorem Bcv(l:A2 Nat)(vs:A2 XV):(l.zip vs).map (fun p=>(p.1,p.2.a))=l.zip (A9 vs):=by
 induction l generalizing vs with
 |nil=>rfl
 |cons x r ih=>cases vs with
  |nil=>rfl
  |cons v vs=>simp[A9,ih]
theorem B3a{o:Oper}{st:Ad}{t:TypeId}{Bke:Array (Nat×Operand)}{K:Out→A3 R}{r:R}(ho:o.op = .build t Bke)(h:Axr P st t Bke K=some r):∃out,K out=some r∧Br P o st out:=by
 unfold Axr at h;split at h
 ·rename_i pl zs vs hpl hz Nz;cases hn:Rm vs with
  |false=>simp[hn]at h
  |true =>
   simp only[hn,Bkn]at h;split at h
   ·rename_i out Afh;refine⟨_,h,A8 (X6 Nz) fun X=>?_⟩;have hl:=Hw Nz;have hf:=Aph Afh;rw[Bcv]at hf;have:=B5x (P:=P) (X:=X) (xs:=A9 vs) ho (B39 hpl) (Aty hz) (by rw[Ag,hl];simp) (A2b hn) hf;rw[Iy,Ape];exact this
   ·cases h
 ·cases h
def Api(P:Program):Nat→TypeId→A3 Ty
 |0,_=>none
 |d+1,t =>
  match P.underlying t with
  |some (.int .u8)=>some .u8
  |some (.int k)=>some (.int k)
  |some .bool=>some .bool
  |some .string=>some .str
  |some (.slice e)=>match Api P d e with
   |some a=>some (.sl a)
   |none=>none
  |some (.struct fs)=>match Bgh P (Api P d) fs.toList with
   |some []=>some .unit
   |some [a]=>some (.st1 a)
   |some (a::b::r)=>some (.pair a (B0u b r))
   |none=>none
  |some (.array n e)=>match Api P d e with
   |some a=>match n with
    |0=>some .unit
    |1=>some (.st1 a)
    |n+2=>some (Bgi a (n+1))
   |none=>none
  |_=>none
where
 Bgh (P:Program) (rec:TypeId→A3 Ty):A2 Field→A3 (A2 Ty)
 |[]=>some []
 |f::r=>match rec f.type,Bgh P rec r with
  |some a,some l=>some (a::l)
  |_,_=>none
 B0u:Ty→A2 Ty→Ty
 |a,[]=>a
 |a,b::r=>.pair a (B0u b r)
 Bgi (a:Ty):Nat→Ty
 |0=>a
 |n+1=>.pair a (Bgi a n)
def A7a(t:Ty):A2 XV→A3 (List t.T)
 |[]=>some []
 |.d x::r=>match t.A22 x,A7a t r with
  |some y,some l=>some (y::l)
  |_,_=>none
 |.Bu n u l ty::r=>match t.A22 (.sl u l),A7a t r with
  |some y,some l=>some (y::l)
  |_,_=>none
 |_::_=>none
def A03:Nat→A2 Nat→Bool
 |_,[]=>true
 |k,j::r=>cond (Nat.beq j k) (A03 (k+1) r) false
theorem A7b:∀ {k:Nat} {l:A2 Nat},A03 k l=true→l=List.range' k l.length
 |_,[],_=>rfl
 |k,j::r,h=>by
  simp only[A03]at h;cases hj:Nat.beq j k with
  |false=>simp[hj]at h
  |true =>simp only[hj,Bkn]at h;have:=Bkr hj;subst this;simp only[Blg,Bp2];rw[← A7b h]
def A9s(t:Ty)(st:Ad):A2 Operand→List t.T→Prop
 |[],[]=>True
 |x::r,y::l=>E3 st.im x (.d (t.dv y))∧A9s t st r l
 |_,_=>False
theorem X7{t:Ty}{st:Ad}:∀ {ops:A2 Operand} {vs:A2 XV} {l:List t.T},C5 st ops=some vs→A7a t vs=some l→A9s t st ops l
 |[],vs,l,h,h'=>by
  simp[C5]at h;subst h;simp[A7a]at h';subst h';trivial
 |x::r,vs,l,h,h'=>by
  unfold C5 at h;split at h
  ·rename_i v vs' hv Nz;cases h;unfold A7a at h';split at h'
   ·rename_i heq;cases heq
   ·rename_i heq;cases heq;split at h'
    ·rename_i y l' hy hl;cases h';exact⟨Apa hv (t.N8 hy),X7 Nz hl⟩
    ·cases h'
   ·rename_i heq;cases heq;split at h'
    ·rename_i y l' hy hl;cases h';refine⟨A9l (a:=.sl _ _) (by simp[xd,hv,XV.asD]) (t.N8 hy),X7 Nz hl⟩
    ·cases h'
   ·cases h'
  ·cases h
theorem A04{t:Ty}{st:Ad}:∀ {ops:A2 Operand} {l:List t.T},A9s t st ops l→ops.length=l.length
 |[],[],_=>rfl
 |x::r,y::l,h=>by simp[A04 h.2]
 |[],_::_,h=>h.elim
 |_::_,[],h=>h.elim
theorem Y1{t:Ty}{st:Ad}:∀ {ops:A2 Operand} {l:List t.T},A9s t st ops l→∀p∈ops.zip (l.map fun y=>AV.d (t.dv y)),E3 st.im p.1 p.2
 |[],[],_=>by simp
 |x::r,y::l,h=>by
  intro p hp;simp only[Bkv,Bnn,Bkq]at hp;rcases hp with rfl|hp
  ·exact h.1
  ·exact Y1 h.2 p hp
 |[],_::_,h=>h.elim
 |_::_,[],h=>h.elim
theorem A9t(t:Ty)(x:t.T):(t.dv x).cells=t.ds x:=by
 cases h:t.agg with
 |true=>rw[t.A01 x h];rfl
 |false =>rw[t.A02 x h];cases t<;>simp[Ty.agg]at h<;>first|rfl|(change Bool at x;cases x<;>rfl)|(rename_i a b;change A3 Int at x;cases x<;>rfl)
theorem B0v(t:Ty)(x:t.T):A5j (.d (t.dv x))=true:=by cases t<;>first|rfl|(change Bool at x;cases x<;>rfl)|(rename_i a b;change A3 Int at x;cases x<;>rfl)
def Ah3(t:Ty):A2 Operand→List t.T→A2 (Operand×XV)
 |x::r,y::l=>(x,.d (t.xv y))::Ah3 t r l
 |_,_=>[]
theorem A9u(t:Ty):∀(ops:A2 Operand) (l:List t.T),B0 (Ah3 t ops l)=ops.zip (l.map fun y=>AV.d (t.dv y))
 |[],l=>by simp[Ah3,B0]
 |x::r,[]=>by simp[Ah3,B0]
 |x::r,y::l=>by
  have:=A9u t r l;simp only[B0]at this;simp only[Ah3,B0,Bkv,Bnn,this];rfl
def A2c(P:Program)(st:Ad)(t:TypeId)(n:Nat)(Bke:Array (Nat×Operand))(K:Out→A3 R):A3 R :=
 match Fj P t with
 |some (e,sz,bytes) =>
  match Api P 9 e,C5 st (Bke.toList.map (·.2)) with
  |some ty,some vs =>
   match A7a ty vs with
   |some l=>cond (Nat.beq ty.size sz) (cond (Nat.beq vs.length n) (cond (A03 0 (Bke.toList.map (·.1))) (cond (Nat.ble (n*sz) 16777216)
     (K (B5 st (.d (.sl ty l)) (Ah3 ty (Bke.toList.map (·.2)) l))) none) none) none) none
   |none=>none
  |_,_=>none
 |none=>none
theorem Ah4{o:Oper}{st:Ad}{t:TypeId}{n:Nat}{Bke:Array (Nat×Operand)}{K:Out→A3 R}{r:R}(ho:o.op = .buildSlice t n Bke)(h:A2c P st t n Bke K=some r):∃out,K out=some r∧Br P o st out:=by
 unfold A2c at h;split at h
 ·rename_i e sz bytes hsl;split at h
  ·rename_i ty vs Yl Nz;split at h
   ·rename_i l hl;cases h1:Nat.beq ty.size sz with
    |false=>simp[h1]at h
    |true =>
    cases h2:Nat.beq vs.length n with
    |false=>simp[h1,h2]at h
    |true =>
    cases h3:A03 0 (Bke.toList.map (·.1)) with
    |false=>simp[h1,h2,h3]at h
    |true =>
    cases h4:Nat.ble (n*sz) 16777216 with
    |false=>simp[h1,h2,h3,h4]at h
    |true =>
     simp only[h1,h2,h3,h4,Bkn]at h;have e1:=Bkr h1;have e2:=Bkr h2;have hto:=X7 Nz hl;have hlen:=A04 hto;have hvl:=Hw Nz;refine⟨_,h,A8 (by rw[A9u];exact Y1 hto) fun X=>?_⟩;have:=Aor (P:=P) (X:=X) (xs:=l.map ty.dv) ho (Cb hsl) (by simp;omega) (by
      rw[A7b h3,Bqe];congr 1;simp at hvl hlen⊢;omega) (by
      rw[Bly];intro x hx;obtain⟨y,_,rfl⟩:=Bl2.1 hx;simp only[B0v,A9t,Ty.Cf,e1,Bp7,Brc]) (Bl5 h4)
     rw[A9u];simp only[Bnh]at this;have e3:(List.map (D.cells∘ty.dv) l)=l.map ty.ds:=by apply List.map_congr_left;intro y _;exact A9t ty y
     rw[e3]at this;show Bp P o _ X X [] (.d (.sl ty.size (l.map ty.ds)));rw[e1];exact this
   ·cases h
  ·cases h
 ·cases h
end
section
variable{P:Program}{R:Type}
def A7c(P:Program)(st:Ad)(s:TypeId)(x:Operand)(n:Nat)(K:Out→A3 R):A3 R :=
 match Av st x,Apb P s n with
 |some (.nm k (.p off)),some (fo,_,_)=>K (B5 st (.nm k (.p (off+fo))) [(x,.nm k (.p off))])
 |some (.el k t i o),some (fo,_,_)=>K (B5 st (.el k t i (o+fo)) [(x,.el k t i o)])
 |some (.d (.ep cs)),some (fo,_,_)=>cond (Nat.ble fo cs.length) (K (B5 st (.d (.ep (cs.drop fo))) [(x,.d (.ep cs))])) none
 |_,_=>none
theorem Al0{o:Oper}{st:Ad}{s:TypeId}{x:Operand}{n:Nat}{K:Out→A3 R}{r:R}(ho:o.op = .fieldAddr s x n)(h:A7c P st s x n K=some r):∃out,K out=some r∧Br P o st out:=by
 unfold A7c at h;split at h
 ·rename_i k off fo sz ag hx hf;exact⟨_,h,A8 (Cg hx) fun X=>Yo ho (A28 hf)⟩
 ·rename_i k t i o' fo sz ag hx hf;refine⟨_,h,A8 (Cg hx) fun X=>?_⟩;have:=Yo (P:=P) (X:=X) (k:=k) (off:=i*t.size+o') ho (A28 hf);rw[Bo0]at this;exact this
 ·rename_i cs fo sz ag hx hf;cases hb:Nat.ble fo cs.length with
  |false=>simp[hb]at h
  |true =>simp only[hb,Bkn]at h;refine⟨_,h,A8 (Cg hx) fun X=>?_⟩;have:=Afc (P:=P) (X:=X) (cs:=D6 cs) ho (A28 hf) (by rw[Gn];exact Bl5 hb);rw[← A4g]at this;exact this
 ·cases h
def Axs(P:Program)(st:Ad)(s:TypeId)(x:Operand)(n:Nat)(K:Out→A3 R):A3 R :=
 match Av st x,Apb P s n with
 |some (.d (.agg cs)),some (fo,sz,true)=>cond (Nat.ble (fo+sz) cs.length) (K (B5 st (.d (.agg ((cs.drop fo).take sz))) [(x,.d (.agg cs))])) none
 |some (.d (.agg cs)),some (fo,1,false)=>match cs[fo]? with
  |some c=>K (B5 st (.d c) [(x,.d (.agg cs))])
  |none=>none
 |_,_=>none
theorem B3b{o:Oper}{st:Ad}{s:TypeId}{x:Operand}{n:Nat}{K:Out→A3 R}{r:R}(ho:o.op = .field s x n)(h:Axs P st s x n K=some r):∃out,K out=some r∧Br P o st out:=by
 unfold Axs at h;split at h
 ·rename_i cs fo sz hx hf;cases hb:Nat.ble (fo+sz) cs.length with
  |false=>simp[hb]at h
  |true =>simp only[hb,Bkn]at h;refine⟨_,h,A8 (Cg hx) fun X=>?_⟩;have:=Aoh (P:=P) (X:=X) (cs:=D6 cs) ho (A28 hf) (by rw[Gn];exact Bl5 hb);rw[← A4g,← A4d]at this;exact this
 ·rename_i cs fo hx hf;split at h
  ·rename_i c hc;exact⟨_,h,A8 (Cg hx) fun X=>Aog (cs:=D6 cs) ho (A28 hf) (by rw[Ha,Bkt,hc];rfl)⟩
  ·cases h
 ·cases h
def Al1(st:Ad)(x:Operand):A3 Int :=
 match xd st x with
 |some (.i _ n)=>some n
 |some (.u8 b)=>some (b.toNat:Int)
 |_=>none
theorem Pr{st:Ad}{x:Operand}{n:Int}(h:Al1 st x=some n):∃a k,xd st x=some a∧a.d = .int k n:=by
 unfold Al1 at h;split at h
 ·rename_i k m ha;cases h;exact⟨_,k,ha,rfl⟩
 ·rename_i b ha;cases h;exact⟨_,.u8,ha,rfl⟩
 ·cases h
def inB(n:Int)(len:Nat):Bool:=decide (0≤n)&&decide (n<(len:Int))
theorem B0w{n:Int}{len:Nat}(h:inB n len=true):0≤n∧n<(len:Int):=by simpa[inB]using h
def A05(P:Program)(st:Ad)(t:TypeId)(x y:Operand)(K:Out→A3 R):A3 R :=
 match xd st x,xd st y,Al1 st y,Fj P t with
 |some (.sl ty l),some b,some n,some (_,sz,_)=>cond (Nat.beq ty.size sz) (Option.bind (at? l n) fun e=>K (B5 st (.d (.ep (ty.enc e))) [(x,.d (.sl ty l)),(y,.d b)])) none
 |_,_,_,_=>none
theorem Apj{st:Ad}{x y:Operand}{v:XV}{b:XD}(hx:Av st x=some v)(hy:xd st y=some b):∀p∈B0 [(x,v),(y,.d b)],E3 st.im p.1 p.2:=by
 intro p hp;simp only[B0,Bkv,Bll,Bkq,Blh,Bma]at hp;rcases hp with rfl|rfl
 ·exact Aj hx
 ·exact X3 hy
def Ah5(P:Program)(st:Ad)(t:TypeId)(x y:Operand)(k:Nat)(ty:Ty)(a len:Nat)(K:Out→A3 R):A3 R :=
 match xd st y,Al1 st y,Fj P t with
 |some b,some n,some (_,sz,_)=>cond (Nat.beq ty.size sz) (cond (inB n len) (K (B5 st (.el k ty (a+n.toNat) 0) [(x,.os k ty a len),(y,.d b)])) none) none
 |_,_,_=>none
theorem Atz{o:Oper}{st:Ad}{t:TypeId}{x y:Operand}{k:Nat}{ty:Ty}{a len:Nat}{K:Out→A3 R}{r:R}(ho:o.op = .indexAddr t x y)(hx:Av st x=some (.os k ty a len))(h:Ah5 P st t x y k ty a len K=some r):∃out,K out=some r∧Br P o st out:=by
 unfold Ah5 at h;split at h
 ·rename_i b n e0 sz by0 hy hn hsl;cases hb:Nat.beq ty.size sz with
  |false=>simp[hb]at h
  |true =>
  cases hc:inB n len with
  |false=>simp[hb,hc]at h
  |true =>simp only[hb,hc,Bkn]at h;have e1:=Bkr hb;subst e1;obtain⟨h0,h1⟩:=B0w hc;obtain⟨z,j,ha,had⟩:=Pr hn;rw[hy]at ha;cases ha;refine⟨_,h,A8 (Apj hx hy) fun X=>?_⟩;have:=Yq (P:=P) (X:=X) (x:=x) (y:=y) (j:=j) (i:=n) (k:=k) (off:=a*ty.size) (len:=len) ho (Cb hsl) h0 h1;show Bp P o [(x,.nm k (.s (a*ty.size) len ty.size)),(y,.d b.d)] X X [] (.nm k (.p ((a+n.toNat)*ty.size+0)));rw[had];rw[Bnr,Bmz];exact this
 ·cases h
theorem A6e{o:Oper}{st:Ad}{t:TypeId}{x y:Operand}{K:Out→A3 R}{r:R}(ho:o.op = .indexAddr t x y)(h:A05 P st t x y K=some r):∃out,K out=some r∧Br P o st out:=by
 unfold A05 at h;split at h
 ·rename_i ty l b n e0 sz by0 hx hy hn hsl;cases hb:Nat.beq ty.size sz with
  |false=>simp[hb]at h
  |true =>simp only[hb,Bkn]at h;have e1:=Bkr hb;obtain⟨e,he,hK⟩:=Blr.1 h;obtain⟨h0,h1⟩:=A9m he;obtain⟨a,k,ha,had⟩:=Pr hn;rw[hy]at ha;cases ha;refine⟨_,hK,A8 (Ama hx hy) fun X=>?_⟩;have:=At8 (P:=P) (X:=X) (x:=x) (y:=y) (k:=k) (i:=n) (es:=l.map ty.ds) (cs:=ty.ds e) ho (Cb hsl) h0 (by rw[Bkt,h1];rfl);show Bp P o [(x,.d (.sl ty.size (l.map ty.ds))),(y,.d b.d)] X X [] (.d (.ep (D6 (ty.enc e))));rw[had,Ty.M8,e1];exact this
 ·cases h
def Ah6(P:Program)(t:TypeId):A3 (TypeId×Nat×Nat) :=
 match P.underlying t with
 |some (.array n e)=>match P.info? e with
  |some i=>some (e,n,i.size)
  |none=>none
 |_=>none
theorem Ah7{t e n sz:Nat}(h:Ah6 P t=some (e,n,sz)):Ba9 P t e n sz:=by
 unfold Ah6 at h;split at h
 ·rename_i n' e' ht;split at h
  ·rename_i i hi;cases h;exact⟨ht,i,hi,rfl⟩
  ·cases h
 ·cases h
def Ac3(P:Program)(st:Ad)(t:TypeId)(x y:Operand)(ty:Ty)(l:List ty.T)(K:Out→A3 R):A3 R :=
 match xd st y,Al1 st y,Ah6 P t with
 |some b,some n,some (_,m,sz)=>cond (Nat.beq ty.size sz) (cond (Nat.ble l.length m) (Option.bind (at? l n) fun e=>K (B5 st (.d (.ep (ty.enc e))) [(x,.d (.pa ty l)),(y,.d b)])) none) none
 |_,_,_=>none
theorem Apk{o:Oper}{st:Ad}{t:TypeId}{x y:Operand}{ty:Ty}{l:List ty.T}{K:Out→A3 R}{r:R}(ho:o.op = .indexAddr t x y)(hx:Av st x=some (.d (.pa ty l)))(h:Ac3 P st t x y ty l K=some r):∃out,K out=some r∧Br P o st out:=by
 unfold Ac3 at h;split at h
 ·rename_i b n e0 m sz hy hn har;cases hb:Nat.beq ty.size sz with
  |false=>simp[hb]at h
  |true =>
  cases hc:Nat.ble l.length m with
  |false=>simp[hb,hc]at h
  |true =>
   simp only[hb,hc,Bkn]at h;have e1:=Bkr hb;subst e1;obtain⟨e,he,hK⟩:=Blr.1 h;obtain⟨h0,h1⟩:=A9m he;obtain⟨a,k,ha,had⟩:=Pr hn;rw[hy]at ha;cases ha;refine⟨_,hK,A8 (Apj hx hy) fun X=>?_⟩;have:=Abw (P:=P) (X:=X) (x:=x) (y:=y) (k:=k) (i:=n) (es:=l.map ty.ds) (cs:=ty.ds e) ho (Ah7 har) (by
    intro i cs hc;rw[Bkt,Bky]at hc;obtain⟨z,_,rfl⟩:=hc;exact ty.Cf z) (by simpa using Bl5 hc) h0 (by rw[Bkt,h1];rfl)
   show Bp P o [(x,.d (.ep (l.map ty.ds).flatten)),(y,.d b.d)] X X [] (.d (.ep (D6 (ty.enc e))));rw[had,Ty.M8];exact this
 ·cases h
def Ac4(P:Program)(st:Ad)(t:TypeId)(x y:Operand)(k:Nat)(ty:Ty)(K:Out→A3 R):A3 R :=
 match xd st y,Al1 st y,Ah6 P t with
 |some b,some n,some (_,m,sz)=>cond (Nat.beq ty.size sz) (cond (inB n m) (K (B5 st (.el k ty n.toNat 0) [(x,.nm k (.p 0)),(y,.d b)])) none) none
 |_,_,_=>none
theorem Apl{o:Oper}{st:Ad}{t:TypeId}{x y:Operand}{k:Nat}{ty:Ty}{K:Out→A3 R}{r:R}(ho:o.op = .indexAddr t x y)(hx:Av st x=some (.nm k (.p 0)))(h:Ac4 P st t x y k ty K=some r):∃out,K out=some r∧Br P o st out:=by
 unfold Ac4 at h;split at h
 ·rename_i b n e0 m sz hy hn har;cases hb:Nat.beq ty.size sz with
  |false=>simp[hb]at h
  |true =>
  cases hc:inB n m with
  |false=>simp[hb,hc]at h
  |true =>simp only[hb,hc,Bkn]at h;have e1:=Bkr hb;subst e1;obtain⟨h0,h1⟩:=B0w hc;obtain⟨z,j,ha,had⟩:=Pr hn;rw[hy]at ha;cases ha;refine⟨_,h,A8 (Apj hx hy) fun X=>?_⟩;have:=A9d (P:=P) (X:=X) (x:=x) (y:=y) (k:=j) (i:=n) (j:=k) ho (Ah7 har) h0 h1;show Bp P o [(x,.nm k (.p 0)),(y,.d b.d)] X X [] (.nm k (.p (n.toNat*ty.size+0)));rw[had];rw[Bnr];exact this
 ·cases h
def Ac5(P:Program)(st:Ad)(t:TypeId)(x y:Operand)(K:Out→A3 R):A3 R :=
 match Av st x with
 |some (.os k ty a len)=>Ah5 P st t x y k ty a len K
 |some (.d (.pa ty l))=>Ac3 P st t x y ty l K
 |some (.nm k (.p 0))=>match lk k st.objs with
  |some (.arr ty _)=>Ac4 P st t x y k ty K
  |_=>A05 P st t x y K
 |_=>A05 P st t x y K
theorem Apm{o:Oper}{st:Ad}{t:TypeId}{x y:Operand}{K:Out→A3 R}{r:R}(ho:o.op = .indexAddr t x y)(h:Ac5 P st t x y K=some r):∃out,K out=some r∧Br P o st out:=by
 unfold Ac5 at h;split at h
 ·rename_i k ty a len hx;exact Atz ho hx h
 ·rename_i ty l hx;exact Apk ho hx h
 ·rename_i k hx;split at h
  ·exact Apl ho hx h
  ·exact A6e ho h
 ·exact A6e ho h
theorem Au0{o:Oper}{X:A7}{t e:TypeId}{n:Nat}{x y:Operand}{k:IntKind}{i:Int}{ds:A2 D}{c:D}(ho:o.op = .index t x y)(ht:P.underlying t=some (.array n e))(he:TyI P e false 1)(h0:0≤i)(hn:i.toNat<n)(hc:ds[i.toNat]? = some c) :
  Bp P o [(x,.d (.agg ds)),(y,.d (.int k i))] X X [] (.d c) :=
 .quiet fun _ _ g w ac hr Aq=>by
  have h1:=H9 Aq;have h2:=(T9 Aq).Al;simp only at h1 h2;generalize hv:ac.eval x=v at h1;cases h1 with
  |d _ _ h1 =>
   cases h1 with
   |agg _ vs hl Q2 =>
    obtain⟨u,hu⟩:∃u,vs[i.toNat]? = some u:=⟨_,Bli (by have:=(Bku.1 hc).1;omega)⟩;refine⟨u,?_,.d _ _ (Q2 _ _ _ hc hu)⟩;obtain⟨⟨d,hd,hd2⟩,ii,hi,G9⟩:=he;have Lp:i<(n:Int):=by omega
    have hp:(part e vs i.toNat).run P w = .ok u w:=by
     have:=Ve (P:=P) (t:=e) (agg:=false) (sz:=1) ⟨⟨d,hd,hd2⟩,ii,hi,G9⟩ vs i.toNat w (fun _=>⟨by have:=(Blf.1 hu).1;exact this,by omega⟩);rw[this];obtain⟨Bs,rfl⟩:=Blf.1 hu;congr 1;show(vs.extract i.toNat (i.toNat+1)).getD 0 undef=_;have h5:0<(vs.extract i.toNat (i.toNat+1)).size:=by simp;omega
     rw[Array.getD,dif_pos h5];simp
    simp only[execOp,ho,hv,h2];simp only[Instr.index,asIntOf];simp[Bl0 ht,h0,Lp,sizeOf,typeInfo,hi,G9,hp]
def Axt(P:Program)(st:Ad)(t:TypeId)(x y:Operand)(K:Out→A3 R):A3 R :=
 match xd st x,xd st y,Al1 st y,P.underlying t with
 |some (.s l),some b,some n,some .string=>Option.bind (at? l n) fun c=>K (B5 st (.d (.u8 c)) [(x,.d (.s l)),(y,.d b)])
 |_,_,_,_=>none
theorem B3c{o:Oper}{st:Ad}{t:TypeId}{x y:Operand}{K:Out→A3 R}{r:R}(ho:o.op = .index t x y)(h:Axt P st t x y K=some r):∃out,K out=some r∧Br P o st out:=by
 unfold Axt at h;split at h
 ·rename_i l b n hx hy hn ht;obtain⟨c,hc,hK⟩:=Blr.1 h;obtain⟨h0,h1⟩:=A9m hc;obtain⟨a,k,ha,had⟩:=Pr hn;rw[hy]at ha;cases ha;refine⟨_,hK,A8 (Ama hx hy) fun X=>?_⟩;have Bs:n.toNat<l.length:=(Bku.1 h1).1;have:=Axg (P:=P) (X:=X) (x:=x) (y:=y) (k:=k) (i:=n) (l:=l) ho ht h0 (by omega);show Bp P o [(x,.d (.bs l)),(y,.d b.d)] X X [] (.d (.sc (.int .u8 (c.toNat:Int))));rw[had];rw[Bo4,h1]at this;exact this
 ·cases h
def Apn(P:Program)(st:Ad)(t:TypeId)(x y:Operand)(K:Out→A3 R):A3 R :=
 match Av st x with
 |some (.d (.ag ty l))=>match xd st y,Al1 st y,P.underlying t with
  |some b,some n,some (.array m e)=>match tyI P e with
   |some (agg,sz)=>cond agg none (cond (Nat.beq sz 1) (cond ty.agg none (cond (Nat.beq l.length m) (Option.bind (at? l n) fun z=>K (B5 st (.d (ty.xv z)) [(x,.d (.ag ty l)),(y,.d b)])) none)) none)
   |none=>none
  |_,_,_=>none
 |_=>Axt P st t x y K
theorem Au1(ty:Ty)(h:ty.agg=false):∀(l:List ty.T),(l.map ty.ds).flatten=l.map ty.dv
 |[]=>rfl
 |x::r=>by rw[Bkv,Bmj,Au1 ty h r,ty.A02 x h];rfl
theorem Axu{o:Oper}{st:Ad}{t:TypeId}{x y:Operand}{K:Out→A3 R}{r:R}(ho:o.op = .index t x y)(h:Apn P st t x y K=some r):∃out,K out=some r∧Br P o st out:=by
 unfold Apn at h;split at h
 ·rename_i ty l hx;split at h
  ·rename_i b n m e hy hn ht;split at h
   ·rename_i agg sz he;cases agg with
    |true=>simp at h
    |false =>
    cases h1:Nat.beq sz 1 with
    |false=>simp[h1]at h
    |true =>
    cases h2:ty.agg with
    |true=>simp[h1,h2]at h
    |false =>
    cases h3:Nat.beq l.length m with
    |false=>simp[h1,h2,h3]at h
    |true =>
     simp only[h1,h2,h3,Bkn,Bko]at h;obtain⟨z,hz,hK⟩:=Blr.1 h;obtain⟨h0,h4⟩:=A9m hz;obtain⟨a,k,ha,had⟩:=Pr hn;rw[hy]at ha;cases ha;have e1:=Bkr h1;have e3:=Bkr h3;subst e1;have hxd:xd st x=some (.ag ty l):=by unfold xd;rw[hx];rfl
     refine⟨_,hK,A8 (Ama hxd hy) fun X=>?_⟩;have Bs:n.toNat<l.length:=(Bku.1 h4).1;have:=Au0 (P:=P) (X:=X) (x:=x) (y:=y) (k:=k) (i:=n) (ds:=l.map ty.dv) (c:=ty.dv z) ho ht (X4 he) h0 (by omega) (by rw[Bkt,h4];rfl);rw[← Au1 ty h2,← had]at this;exact this
   ·cases h
  ·cases h
 ·exact B3c ho h
def Lq(lo hi:Int)(len:Nat):Bool:=decide (0≤lo)&&decide (lo≤hi)&&decide (hi≤(len:Int))
theorem A4j{lo hi:Int}{len:Nat}(h:Lq lo hi len=true):0≤lo∧lo≤hi∧hi≤(len:Int):=by simp only[Lq,Bls,Bnp]at h;exact⟨h.1.1,h.1.2,h.2⟩
def A2d{α:Type}(lo hi:Int)(l:A2 α):A2 α:=(l.drop lo.toNat).take (hi.toNat-lo.toNat)
theorem Au2{o:Oper}{X:A7}{t e:TypeId}{sz:Nat}{x:Operand}{lo hi:A3 Operand}{es:A2 (A2 D)}{l h:Int}{rd:A2 (Operand×AV)}{i:TypeInfo}(ho:o.op = .slice t x lo hi none)(ht:P.underlying t=some (.slice e))
  (Lp:P.info? e=some i) (G9:i.size=sz) (h0:0≤l) (h1:l≤h) (h2:h≤es.length)
  (hlo:match lo with|some y=>∃k,(y,AV.d (.int k l))∈rd|none=>l=0) (hhi:match hi with|some y=>∃k,(y,AV.d (.int k h))∈rd|none=>h=es.length) :
  Bp P o ((x,.d (.sl sz es))::rd) X X [] (.d (.sl sz (A2d l h es))) :=
 .quiet fun _ _ g w ac _ Aq=>by
  have h3:=Aq (x,.d (.sl sz es)) Bkz;simp only at h3;generalize hx:ac.eval x=v at h3;have key:∃a len cap,v = .slice a len cap∧len=es.length∧len≤cap∧RD g.γ w (.sl sz (A2d l h es)) (.slice (if cap=l.toNat then a else a.map (·.add (l.toNat*sz))) (h.toNat-l.toNat) (cap-l.toNat)):=by
   cases h3 with
   |d _ _ h3 =>
    cases h3 with
    |nil _ a cap hn =>
     have hl:l=0:=by simp at h2;omega
     have hh:h=0:=by simp at h2;omega
     subst hl;subst hh;refine⟨a,0,cap,rfl,rfl,Bnm _,?_⟩;have:A2d 0 0 ([]:A2 (A2 D))=[]:=rfl;rw[this];simp only[Int.toNat_zero,Bnu,Bnt];cases a with
     |none=>simp only[Boq,ite_self];rw[hn rfl];exact .nil sz none 0 fun _=>rfl
     |some a=>simp only[Blq];split<;>exact .nil sz _ cap (by simp)
    |sl _ _ b off len cap hlen hγ Sc Bin hc =>
     refine⟨_,len,cap,rfl,hlen,by omega,?_⟩;have hln:(A2d l h es).length=h.toNat-l.toNat:=by simp[A2d];omega
     by_cases hz:h.toNat-l.toNat=0
     ·have:A2d l h es=[]:=Bnq.1 (hln.trans hz);rw[this,hz];split
      ·exact .nil sz _ _ (by simp)
      ·exact .nil sz _ _ (by simp)
     ·have hne:¬cap=l.toNat:=by omega
      rw[Blj hne];simp only[Blq,addr_add];refine .sl sz _ b (off+l.toNat*sz) _ _ (by rw[hln]) ?_ (by rw[hln];omega) ?_ ?_
      ·have:l.toNat+(A2d l h es).length≤es.length:=by rw[hln];omega
       have h6:=Bmm sz this;rw[Bmz]at h6;omega
      ·intro i cs Q2;simp only[A2d,Bm5,Bm9]at Q2;split at Q2
       ·exact Bin _ cs Q2
       ·cases Q2
      ·intro i cs j c u Q2 hj hu;simp only[A2d,Bm5,Bm9]at Q2;split at Q2
       ·refine hc (l.toNat+i) cs j c u Q2 hj ?_;rw[show off+(l.toNat+i)*sz+j=off+l.toNat*sz+i*sz+j by rw[Bmz];omega];exact hu
       ·cases Q2
  obtain⟨a,len,cap,rfl,hlen,Sc,A1u⟩:=key;refine⟨_,?_,.d _ _ A1u⟩;have hsa:∀lo hi,(Instr.sliceAt t (.slice a len cap) lo hi none).run P w=(Instr.slice t (.slice a len cap) lo hi none).run P w:=by intro lo hi;simp[Instr.sliceAt,Bl0 ht]
  simp only[execOp,ho,hx];have eh:∀y,hi=some y→∃k,ac.eval y = .int k h:=by intro y hy;subst hy;obtain⟨k,hk⟩:=hhi;exact⟨k,(Aq _ (Bkx _ hk)).Al⟩
  have el:∀y,lo=some y→∃k,ac.eval y = .int k l:=by intro y hy;subst hy;obtain⟨k,hk⟩:=hlo;exact⟨k,(Aq _ (Bkx _ hk)).Al⟩
  have bh:∀(y:Nat) (c:BoundsCode) (k:IntKind),h≤(y:Int)→(Instr.sliceBound (.int k h) y c).run P w = .ok h.toNat w:=by intro y c k hy;simp[Instr.sliceBound,asIntOf,show 0≤h by omega,hy]
  have bl:∀(y:Nat) (c:BoundsCode) (k:IntKind),l≤(y:Int)→(Instr.sliceBound (.int k l) y c).run P w = .ok l.toNat w:=by intro y c k hy;simp[Instr.sliceBound,asIntOf,h0,hy]
  have Pp:(sizeOf e).run P w = .ok sz w:=by rw[Ab.run_sizeOf Lp,G9]
  cases hi with
  |none =>
   simp only at hhi;subst hhi;have e5:((es.length:Nat):Int).toNat=len:=by omega
   cases lo with
   |none =>simp only at hlo;subst hlo;simp[hsa,Instr.slice,Instr.sliceBounds,Bl0 ht,Pp,← hlen]
   |some y =>obtain⟨k,hk⟩:=el y rfl;have b1:=bl len .sliceB k (by omega);simp[hsa,Instr.slice,Instr.sliceBounds,Bl0 ht,Pp,hk,b1,← hlen]
  |some y' =>
   obtain⟨k',Lk⟩:=eh y' rfl;have b2:=bh cap .sliceAcap k' (by omega);cases lo with
   |none =>simp only at hlo;subst hlo;simp[hsa,Instr.slice,Instr.sliceBounds,Bl0 ht,Pp,Lk,b2]
   |some y =>obtain⟨k,hk⟩:=el y rfl;have b1:=bl h.toNat .sliceB k (by omega);simp[hsa,Instr.slice,Instr.sliceBounds,Bl0 ht,Pp,hk,Lk,b1,b2]
end
section
variable{P:Program}{R:Type}
def O8(st:Ad)(d:Int):A3 Operand→A3 (Int×A2 (Operand×XV))
 |none=>some (d,[])
 |some y=>match xd st y,Al1 st y with
  |some b,some n=>some (n,[(y,.d b)])
  |_,_=>none
theorem Hq{st:Ad}{d n:Int}{y:A3 Operand}{rd:A2 (Operand×XV)}(h:O8 st d y=some (n,rd)):(∀p∈B0 rd,E3 st.im p.1 p.2) ∧
  (match y with|some y=>∃k,(y,AV.d (.int k n))∈B0 rd|none=>n=d)∧(match y with|some y=>∃k,B0 rd=[(y,AV.d (.int k n))]|none=>rd=[]):=by
 cases y with
 |none=>cases h;exact⟨by simp[B0],rfl,rfl⟩
 |some y =>
  unfold O8 at h;simp only at h;split at h
  ·rename_i b m hb hm;cases h;obtain⟨a,k,ha,had⟩:=Pr hm;rw[hb]at ha;cases ha;exact⟨A19 hb,⟨k,by simp[B0,XV.a,had]⟩,⟨k,by simp[B0,XV.a,had]⟩⟩
  ·cases h
def Axv{α:Type}(lo hi:A3 Operand)(l h:Int)(xs:A2 α):A2 α :=
 match lo,hi with
 |none,none=>xs
 |some _,none=>xs.drop l.toNat
 |none,some _=>xs.take h.toNat
 |some _,some _=>A2d l h xs
theorem Bay{α:Type}{lo hi:A3 Operand}{l h:Int}{xs:A2 α}(hlo:lo=none→l=0)(hhi:hi=none→h=xs.length)(h0:0≤l)(h2:h≤xs.length):Axv lo hi l h xs=A2d l h xs:=by
 cases lo with
 |none =>
  have:=hlo rfl;subst this;cases hi with
  |none=>have:=hhi rfl;subst this;simp[Axv,A2d]
  |some y=>simp[Axv,A2d]
 |some x =>
  cases hi with
  |none=>have:=hhi rfl;subst this;simp only[Axv,A2d,Bpx];rw[Bn3];simp
  |some y=>rfl
def Axw(P:Program)(st:Ad)(t:TypeId)(x:Operand)(lo hi mx:A3 Operand)(K:Out→A3 R):A3 R :=
 match mx,xd st x with
 |none,some (.s s) =>
  match P.underlying t,O8 st 0 lo,O8 st s.length hi with
  |some .string,some (l,r1),some (h,r2)=>cond (Lq l h s.length) (K (B5 st (.d (.s (Axv lo hi l h s))) ((x,.d (.s s))::(r1++r2)))) none
  |_,_,_=>none
 |none,some (.sl ty s) =>
  match Fj P t,O8 st 0 lo,O8 st s.length hi with
  |some (_,sz,_),some (l,r1),some (h,r2)=>cond (Nat.beq ty.size sz) (cond (Lq l h s.length) (K (B5 st (.d (.sl ty (Axv lo hi l h s))) ((x,.d (.sl ty s))::(r1++r2)))) none) none
  |_,_,_=>none
 |_,_=>none
theorem F2(a b:A2 (Operand×XV)):B0 (a++b)=B0 a++B0 b:=by simp[B0]
theorem Au3{st:Ad}{x:Operand}{a:XD}{r1 r2:A2 (Operand×XV)}(hx:xd st x=some a)(h1:∀p∈B0 r1,E3 st.im p.1 p.2)(h2:∀p∈B0 r2,E3 st.im p.1 p.2) :
  ∀p∈B0 ((x,.d a)::(r1++r2)),E3 st.im p.1 p.2:=by
 intro p hp;simp only[B0,Bkv,Ble,Bkq,Bkw]at hp;rcases hp with rfl|hp|hp
 ·exact X3 hx
 ·exact h1 p hp
 ·exact h2 p hp
theorem Afi{o:Oper}{X:A7}{t:TypeId}{x:Operand}{s:A2 UInt8}(ho:o.op = .slice t x none none none)(ht:P.underlying t=some .string) :
  Bp P o [(x,.d (.bs s))] X X [] (.d (.bs s)) :=
 .quiet fun _ _ g w ac _ Aq=>by
  have e1:=(H9 Aq).Al;simp only at e1;refine⟨_,?_,.Fh _ _ _⟩;simp only[execOp,ho,Boq,e1];simp[Bpq w t _ _ _ _ ht,Instr.slice,Bl0 ht,Instr.sliceBounds]
theorem B3d{o:Oper}{st:Ad}{t:TypeId}{x:Operand}{lo hi mx:A3 Operand}{K:Out→A3 R}{r:R}(ho:o.op = .slice t x lo hi mx)(h:Axw P st t x lo hi mx K=some r):∃out,K out=some r∧Br P o st out:=by
 unfold Axw at h;split at h
 ·rename_i s hx;split at h
  ·rename_i l r1 hh r2 ht hlo hhi;cases hc:Lq l hh s.length with
   |false=>simp[hc]at h
   |true =>
    simp only[hc,Bkn]at h;obtain⟨c0,c1,c2⟩:=A4j hc;obtain⟨s1,m1,f1⟩:=Hq hlo;obtain⟨s2,m2,f2⟩:=Hq hhi;refine⟨_,h,A8 (Au3 hx s1 s2) fun X=>?_⟩;cases lo with
    |none =>
     simp only at m1 f1;subst m1;subst f1;cases hi with
     |none =>simp only at m2 f2;subst m2;subst f2;exact Afi ho ht
     |some y =>obtain⟨k,hk⟩:=f2;have:=Aks (P:=P) (X:=X) (k:=k) ho ht c1 c2;simp only[Bm0];show Bp P o ((x,.d (.bs s))::B0 r2) X X [] _;rw[hk];exact this
    |some y0 =>
     obtain⟨k0,hk0⟩:=f1;cases hi with
     |none =>simp only at m2 f2;subst m2;subst f2;have:=Akr (P:=P) (X:=X) (k:=k0) ho ht c0 c1;simp only[Blt];show Bp P o ((x,.d (.bs s))::B0 r1) X X [] _;rw[hk0];exact this
     |some y =>obtain⟨k,hk⟩:=f2;have:=Axh (P:=P) (X:=X) (k:=k0) (k':=k) ho ht c0 c1 c2;show Bp P o ((x,.d (.bs s))::B0 (r1++r2)) X X [] _;rw[F2,hk0,hk];exact this
  ·cases h
 ·rename_i ty s hx;split at h
  ·rename_i e sz by0 l r1 hh r2 ht hlo hhi;cases hb:Nat.beq ty.size sz with
   |false=>simp[hb]at h
   |true =>
   cases hc:Lq l hh s.length with
   |false=>simp[hb,hc]at h
   |true =>
    simp only[hb,hc,Bkn]at h;have e1:=Bkr hb;obtain⟨c0,c1,c2⟩:=A4j hc;obtain⟨s1,m1,f1⟩:=Hq hlo;obtain⟨s2,m2,f2⟩:=Hq hhi;obtain⟨hu,i,z,Lp,H4,G0,hz',Bio⟩:=Cb ht;refine⟨_,h,A8 (Au3 hx s1 s2) fun X=>?_⟩;have:=Au2 (P:=P) (X:=X) (es:=s.map ty.ds) (rd:=B0 (r1++r2)) (l:=l) (h:=hh) ho hu Lp H4 c0 c1 (by simpa using c2) (by
     cases lo with
     |none=>exact m1
     |some y=>obtain⟨k,hk⟩:=m1;exact⟨k,by rw[F2];exact Bla _ hk⟩) (by
     cases hi with
     |none=>simpa using m2
     |some y=>obtain⟨k,hk⟩:=m2;exact⟨k,by rw[F2];exact Bl9 _ hk⟩)
    show Bp P o ((x,.d (.sl ty.size (s.map ty.ds)))::B0 (r1++r2)) X X [] (.d (.sl ty.size ((Axv lo hi l hh s).map ty.ds)));rw[Bay (by intro hl;subst hl;exact m1) (by intro hl;subst hl;exact m2) c0 c2];rw[e1];have e2:(A2d l hh s).map ty.ds=A2d l hh (s.map ty.ds):=by simp[A2d,Bo5,Boi]
    rw[e2];exact this
  ·cases h
 ·cases h
def Bee(P:Program)(st:Ad)(ts:Array TypeId)(x:Operand)(K:Out→A3 R):A3 R :=
 match ts[0]? with
 |some t =>
  match xd st x,P.underlying t with
  |some (.s l),some .string=>K (B5 st (.d (.i .i64 (l.length:Int))) [(x,.d (.s l))])
  |some (.sl ty l),some (.slice _)=>K (B5 st (.d (.i .i64 (l.length:Int))) [(x,.d (.sl ty l))])
  |some (.v (.slice none 0 0)),some (.slice _)=>match Fj P t with
   |some _=>K (B5 st (.d (.i .i64 0)) [(x,.d (.v (.slice none 0 0)))])
   |none=>none
  |_,_=>none
 |none=>none
theorem Baz{o:Oper}{st:Ad}{ts:Array TypeId}{x:Operand}{K:Out→A3 R}{r:R}(ho:o.op = .call { callee:=.builtin .len,args:=#[x],argTypes:=ts })(h:Bee P st ts x K=some r):∃out,K out=some r∧Br P o st out:=by
 unfold Bee at h;split at h
 ·rename_i t ht0;split at h
  ·rename_i l hx ht;exact⟨_,h,A8 (A19 hx) fun X=>B6d ho ht0 ht⟩
  ·rename_i ty l e hx ht;refine⟨_,h,A8 (A19 hx) fun X=>?_⟩;have:=A91 (P:=P) (X:=X) (x:=x) (sz:=ty.size) (es:=l.map ty.ds) ho ht0 ht;rw[Blb]at this;exact this
  ·rename_i e hx ht;split at h
   ·rename_i q hq;obtain⟨q1,q2,q3⟩:=q;exact⟨_,h,A8 (A19 hx) fun X=>Axe ho ht0 (Cb hq)⟩
   ·cases h
  ·cases h
 ·cases h
def A4k(st:Ad)(Bgj:Bool)(x y:Operand)(K:Out→A3 R):A3 R :=
 match xd st x,xd st y with
 |some (.i k a),some (.i k' b)=>cond (Il k k') (K (B5 st (.d (.i k (cond Bgj (if b<a then b else a) (if b>a then b else a)))) [(x,.d (.i k a)),(y,.d (.i k' b))])) none
 |_,_=>none
theorem Bb0{o:Oper}{st:Ad}{ts:Array TypeId}{x y:Operand}{K:Out→A3 R}{r:R}(ho:o.op = .call { callee:=.builtin .min,args:=#[x,y],argTypes:=ts })(h:A4k st true x y K=some r):∃out,K out=some r∧Br P o st out:=by
 unfold A4k at h;split at h
 ·rename_i k a k' b hx hy;cases hk:Il k k' with
  |false=>simp[hk]at h
  |true =>simp only[hk,Bkn]at h;have:=Fi hk;subst this;exact⟨_,h,A8 (Ama hx hy) fun X=>Bdf ho⟩
 ·cases h
theorem Bb1{o:Oper}{st:Ad}{ts:Array TypeId}{x y:Operand}{K:Out→A3 R}{r:R}(ho:o.op = .call { callee:=.builtin .max,args:=#[x,y],argTypes:=ts })(h:A4k st false x y K=some r):∃out,K out=some r∧Br P o st out:=by
 unfold A4k at h;split at h
 ·rename_i k a k' b hx hy;cases hk:Il k k' with
  |false=>simp[hk]at h
  |true =>simp only[hk,Bkn,Bko]at h;have:=Fi hk;subst this;exact⟨_,h,A8 (Ama hx hy) fun X=>Bdg ho⟩
 ·cases h
def Ah8(o:Oper):A3 Nat :=
 match o.dst with
 |some d=>some (100000+d)
 |none=>none
def Aw(n bytes:Nat):Bool:=decide (n*bytes≤140737488355328)&&decide (n≤4611686018427387904)
theorem Yu{n bytes:Nat}(h:Aw n bytes=true):n*bytes≤140737488355328∧n≤4611686018427387904:=by simpa[Aw]using h
def Q4(n:Nat)(l:A2 Nat):A2 Nat:=l.filter (· != n)
def Qb(m:Nat)(live:A2 Nat)(st:Ad):Bool:=cond (inl m live) false (Iq [m] st)
theorem Us{m:Nat}{live:A2 Nat}{st:Ad}(h:Qb m live st=true):m∉live∧B7 [m] st.X=true:=by
 unfold Qb at h;cases hm:inl m live with
 |true=>simp[hm]at h
 |false =>simp only[hm,Bko]at h;refine⟨fun hh=>?_,Nb h⟩;rw[(D3 m live).2 hh]at hm;cases hm
def Ah9(ty:A3 TypeId)(e:TypeId):Bool :=
 match ty with
 |none=>true
 |some t=>Nat.beq t e
theorem B75{ty:A3 TypeId}{e:TypeId}(h:Ah9 ty e=true):(ty==none||ty==some e)=true:=by
 cases ty with
 |none=>rfl
 |some t=>simp only[Ah9]at h;rw[Bkr h];simp
def Apo(P:Program)(st:Ad)(o:Oper)(ts:Array TypeId)(s x:Operand)(K:Out→A3 R):A3 R :=
 match ts[0]?,ts[1]?,Ah8 o with
 |some t,some u,some m =>
  match Fj P t,Fj P u,Av st s,xd st x with
  |some (e,sz,bytes),some _,some (.Bu n ty l oty),some (.sl Wl l') =>
   if h:Wl.Ji ty=true then
    cond (Nat.beq ty.size sz) (cond (inl n st.live) (cond (Qb m (Q4 n st.live) st) (cond (Ah9 oty e)
     (cond (Aw (l.length+l'.length) bytes) (K ⟨.lab,.Bu m ty (l++(Ty.Au h▸l':List ty.T)) oty,[(s,.Bu n ty l oty),(x,.d (.sl Wl l'))],st.objs,m::Q4 n st.live,[m],[]⟩) none) none) none) none) none
   else none
  |some (e,sz,bytes),some _,some (.d (.v (.slice none 0 0))),some (.sl ty l) =>
   cond (Nat.beq ty.size sz) (cond (Qb m st.live st)
     (cond (Aw l.length bytes) (K ⟨.lab,.Bu m ty l (some e),[(s,.d (.v (.slice none 0 0))),(x,.d (.sl ty l))],st.objs,m::st.live,[m],[]⟩) none) none) none
  |_,_,_,_=>none
 |_,_,_=>none
theorem Axx{o:Oper}{st:Ad}{ts:Array TypeId}{s x:Operand}{K:Out→A3 R}{r:R}(ho:o.op = .call { callee:=.builtin .append,args:=#[s,x],argTypes:=ts })(h:Apo P st o ts s x K=some r):∃out,K out=some r∧Br P o st out:=by
 unfold Apo at h;split at h
 ·rename_i t u m ht hu hm;split at h
  ·rename_i e sz bytes q n ty l oty Wl l' hsl hsu hs hx;split at h
   ·rename_i he;have e0:=Ty.Au he;subst e0;cases h1:Nat.beq Wl.size sz with
    |false=>simp[h1]at h
    |true =>
    cases h2:inl n st.live with
    |false=>simp[h1,h2]at h
    |true =>
    cases h3:Qb m (Q4 n st.live) st with
    |false=>simp[h1,h2,h3]at h
    |true =>
    cases h4:Ah9 oty e with
    |false=>simp[h1,h2,h3,h4]at h
    |true =>
    cases h5:Aw (l.length+l'.length) bytes with
    |false=>simp[h1,h2,h3,h4,h5]at h
    |true =>
     simp only[h1,h2,h3,h4,h5,Bkn]at h;have e1:=Bkr h1;subst e1;obtain⟨f1,f2⟩:=Us h3;obtain⟨b1,b2⟩:=Yu h5;obtain⟨q1,q2,q3⟩:=q;refine⟨_,h,⟨?_,?_,fun _ _ _ h=>h⟩⟩
     ·intro p hp;simp only[B0,Bkv,Bll,Bkq,Blh,Bma]at hp;rcases hp with rfl|rfl
      ·exact Aj hs
      ·exact X3 hx
     ·have:=Ata (P:=P) (X:=st.X) (s:=s) (x:=x) (n:=n) (es:=l.map Wl.ds) (fs:=l'.map Wl.ds) (ty:=oty) m ho ht hu (Cb hsu) (Cb hsl) ((D3 _ _).1 h2) f1 f2
       (by intro cs Q2 c hc;obtain⟨y,_,rfl⟩:=Bl2.1 Q2;exact Wl.V7 y c hc) (by simpa using b1) (by simpa using b2) (B75 h4)
      rw[← Ble]at this;exact⟨rfl,this⟩
   ·cases h
  ·rename_i e sz bytes q ty l hsl hsu hs hx;cases h1:Nat.beq ty.size sz with
   |false=>simp[h1]at h
   |true =>
   cases h3:Qb m st.live st with
   |false=>simp[h1,h3]at h
   |true =>
   cases h5:Aw l.length bytes with
   |false=>simp[h1,h3,h5]at h
   |true =>
    simp only[h1,h3,h5,Bkn]at h;have e1:=Bkr h1;subst e1;obtain⟨f1,f2⟩:=Us h3;obtain⟨b1,b2⟩:=Yu h5;obtain⟨q1,q2,q3⟩:=q;refine⟨_,h,⟨?_,?_,fun _ _ _ h=>h⟩⟩
    ·intro p hp;simp only[B0,Bkv,Bll,Bkq,Blh,Bma]at hp;rcases hp with rfl|rfl
     ·exact Aj hs
     ·exact X3 hx
    ·have := Aow (P := P) (X := st.X) (s := s) (x := x) (fs := l.map ty.ds) (ty := some e) m ho ht hu (Cb hsu) (Cb hsl) f1 f2
       (by intro cs Q2 c hc;obtain⟨y,_,rfl⟩:=Bl2.1 Q2;exact ty.V7 y c hc) (by simpa using b1) (by simpa using b2) (by simp)
     exact⟨rfl,this⟩
  ·cases h
 ·cases h
end
section
variable{P:Program}{R:Type}
theorem Amh{st:Ad}{x:Operand}{v:XV}{r1 r2:A2 (Operand×XV)}(hx:Av st x=some v)(h1:∀p∈B0 r1,E3 st.im p.1 p.2)(h2:∀p∈B0 r2,E3 st.im p.1 p.2) :
  ∀p∈B0 ((x,v)::(r1++r2)),E3 st.im p.1 p.2:=by
 intro p hp;simp only[B0,Bkv,Ble,Bkq,Bkw]at hp;rcases hp with rfl|hp|hp
 ·exact Aj hx
 ·exact h1 p hp
 ·exact h2 p hp
def Aha(P:Program)(st:Ad)(t:TypeId)(x:Operand)(lo hi:A3 Operand)(k:Nat)(ty:Ty)(a len:Nat)(K:Out→A3 R):A3 R :=
 match Fj P t,O8 st 0 lo,O8 st len hi with
 |some (_,sz,_),some (l,r1),some (h,r2)=>cond (Nat.beq ty.size sz) (cond (Lq l h len) (K (B5 st (.os k ty (a+l.toNat) (h.toNat-l.toNat)) ((x,.os k ty a len)::(r1++r2)))) none) none
 |_,_,_=>none
theorem Au4{o:Oper}{st:Ad}{t:TypeId}{x:Operand}{lo hi:A3 Operand}{k:Nat}{ty:Ty}{a len:Nat}{K:Out→A3 R}{r:R}(ho:o.op = .slice t x lo hi none)(hx:Av st x=some (.os k ty a len))
  (h:Aha P st t x lo hi k ty a len K=some r):∃out,K out=some r∧Br P o st out:=by
 unfold Aha at h;split at h
 ·rename_i e sz by0 l r1 hh r2 ht hlo hhi;cases hb:Nat.beq ty.size sz with
  |false=>simp[hb]at h
  |true =>
  cases hc:Lq l hh len with
  |false=>simp[hb,hc]at h
  |true =>
   simp only[hb,hc,Bkn]at h;have e1:=Bkr hb;subst e1;obtain⟨c0,c1,c2⟩:=A4j hc;obtain⟨s1,m1,f1⟩:=Hq hlo;obtain⟨s2,m2,f2⟩:=Hq hhi;obtain⟨hu,i,z,Lp,H4,G0,hz',Bio⟩:=Cb ht;refine⟨_,h,A8 (Amh hx s1 s2) fun X=>?_⟩;have:=Ap1 (P:=P) (X:=X) (k:=k) (off:=a*ty.size) (len:=len) (rd:=B0 (r1++r2)) (l:=l) (h:=hh) ho hu Lp H4 c0 c1 c2 (by
    cases lo with
    |none=>exact m1
    |some y=>obtain⟨j,hj⟩:=m1;exact⟨j,by rw[F2];exact Bla _ hj⟩) (by
    cases hi with
    |none=>exact m2
    |some y=>obtain⟨j,hj⟩:=m2;exact⟨j,by rw[F2];exact Bl9 _ hj⟩)
   show Bp P o ((x,.nm k (.s (a*ty.size) len ty.size))::B0 (r1++r2)) X X [] (.nm k (.s ((a+l.toNat)*ty.size) (hh.toNat-l.toNat) ty.size));rw[Bmz];exact this
 ·cases h
def Ac6(P:Program)(st:Ad)(t:TypeId)(x:Operand)(lo hi mx:A3 Operand)(K:Out→A3 R):A3 R :=
 match mx,Av st x with
 |none,some (.os k ty a len)=>Aha P st t x lo hi k ty a len K
 |_,_=>Axw P st t x lo hi mx K
theorem Apq{o:Oper}{st:Ad}{t:TypeId}{x:Operand}{lo hi mx:A3 Operand}{K:Out→A3 R}{r:R}(ho:o.op = .slice t x lo hi mx)(h:Ac6 P st t x lo hi mx K=some r):∃out,K out=some r∧Br P o st out:=by
 unfold Ac6 at h;split at h
 ·rename_i k ty a len hx;exact Au4 ho hx h
 ·exact B3d ho h
def Apr(P:Program)(st:Ad)(ts:Array TypeId)(x:Operand)(K:Out→A3 R):A3 R :=
 match Av st x with
 |some (.os k ty a len)=>match ts[0]? with
  |some t=>match P.underlying t with
   |some (.slice _)=>K (B5 st (.d (.i .i64 (len:Int))) [(x,.os k ty a len)])
   |_=>none
  |none=>none
 |_=>Bee P st ts x K
theorem Axy{o:Oper}{st:Ad}{ts:Array TypeId}{x:Operand}{K:Out→A3 R}{r:R}(ho:o.op = .call { callee:=.builtin .len,args:=#[x],argTypes:=ts })(h:Apr P st ts x K=some r):∃out,K out=some r∧Br P o st out:=by
 unfold Apr at h;split at h
 ·rename_i k ty a len hx;split at h
  ·rename_i t ht0;split at h
   ·rename_i e ht;exact⟨_,h,A8 (Cg hx) fun X=>Agv ho ht0 ht⟩
   ·cases h
  ·cases h
 ·exact Baz ho h
def Df(k:Nat):A2 (Nat×Ac)→A2 (Nat×Ac)
 |[]=>[]
 |p::r=>cond (Nat.beq p.1 k) (Df k r) (p::Df k r)
def H8(k:Nat):A2 (Nat×Ac)→Bool
 |[]=>true
 |p::r=>cond p.2.plain (H8 k r) (cond (Nat.beq p.1 k) false (cond (Nat.ble H0 k) false (H8 k r)))
theorem Au5(k:Nat)(l:A2 (Nat×Ac)):Dv (Df k l)=(Dv l).filter (fun p=>p.1 != k):=by
 induction l with
 |nil=>rfl
 |cons p r ih =>
  simp only[Df];cases hb:Nat.beq p.1 k with
  |true =>have:=Bkr hb;simp only[Bkn,Dv,Bkv,Bnk,this,Br1,Bmi,Bn2]at ih⊢;exact ih
  |false =>
   have h1:(p.1 != k)=true:=by simpa using Bmw hb
   simp only[Bko,Dv,Bkv,Bnk,h1,Bn5]at ih⊢;rw[ih]
theorem A7d{k:Nat}:∀ {l:A2 (Nat×Ac)},H8 k l=true→Dx (Df k l)=(Dx l).filter (fun p=>p.1 != k)
 |[],_=>rfl
 |p::r,h=>by
  simp only[H8]at h;simp only[Df];cases hp:p.2.plain with
  |true =>
   simp only[hp,Bkn]at h;have ih:=A7d h;cases hb:Nat.beq p.1 k with
   |true=>simp only[Bkn,Dx,Ac.H6 hp,Bm0];exact ih
   |false=>simp only[Bko,Dx,Ac.H6 hp,Bm0];exact ih
  |false =>
   simp only[hp,Bko]at h;cases hb:Nat.beq p.1 k with
   |true=>simp[hb]at h
   |false =>
    simp only[hb,Bko]at h;cases hk:Nat.ble H0 k with
    |true=>simp[hk]at h
    |false =>
     simp only[hk,Bko]at h;have ih:=A7d h;have Bs:k<H0:=Nat.lt_of_not_le fun hle=>by rw[Bm3 hle]at hk;cases hk
     simp only[Bko,Dx,Bo2,ih];congr 1;symm;rw[List.filter_eq_self];intro q hq;have:=Ac.N9 hq;have hne:q.1≠k:=by omega
     simpa using hne
theorem Qc{k:Nat}{l:A2 (Nat×Ac)}(h:H8 k l=true):A6 (Df k l)=(A6 l).filter (fun p=>p.1 != k):=by unfold A6;rw[Au5,A7d h,Bo2]
theorem Se{k:Nat}:∀ {l:A2 (Nat×Ac)},Fp [k] l=true→H8 k l=true
 |[],_=>rfl
 |p::r,h=>by
  simp only[Fp]at h;have ih:=Se (Atr h);simp only[H8,ih];cases hp:p.2 with
  |abs h' S ty x =>
   rw[hp]at h;simp only at h;cases hn:Nat.beq p.1 k with
   |true=>simp[Atn,B0r,Bkr hn]at h
   |false =>
    have:Wm [k]=true:=by
     cases hl:Wm [k] with
     |true=>rfl
     |false=>simp[hl]at h
    have:=Q9 this k (by simp);have hb:Nat.ble H0 k=false:=by
     cases hb:Nat.ble H0 k with
     |false=>rfl
     |true=>have:=Bl5 hb;omega
    simp[Ac.plain,hb]
  |_=>simp[Ac.plain]
theorem Ae7{k m:Nat}:∀ {l:A2 (Nat×Ac)},H8 m l=true→H8 m (Df k l)=true
 |[],_=>rfl
 |p::r,h=>by
  simp only[H8]at h;simp only[Df];have:H8 m r=true:=by
   cases hp:p.2.plain with
   |true=>simpa[hp]using h
   |false =>
    simp only[hp,Bko]at h;cases hb:Nat.beq p.1 m with
    |true=>simp[hb]at h
    |false =>
     simp only[hb,Bko]at h;cases hk:Nat.ble H0 m with
     |true=>simp[hk]at h
     |false=>simpa[hk]using h
  have ih:=Ae7 (k:=k) this;cases hb:Nat.beq p.1 k with
  |true=>simpa using ih
  |false=>simp only[Bko,H8,ih];simp only[this]at h;exact h
def A9v(m k:Nat)(st:Ad):Bool:=cond (Iq [m] st) (H8 k st.objs) false
theorem A2e{m k:Nat}{st:Ad}(h:A9v m k st=true):Iq [m] st=true∧H8 k st.objs=true:=by
 unfold A9v at h;cases h1:Iq [m] st with
 |false=>simp[h1]at h
 |true=>exact⟨rfl,by simpa[h1]using h⟩
theorem Sf{k j:Nat}{l:A2 (Nat×Ac)}{x:Ac}(h:lk j (Df k l)=some x):lk j l=some x:=by
 induction l with
 |nil=>exact h
 |cons p r ih =>
  simp only[Df]at h;cases hb:Nat.beq p.1 k with
  |true =>
   simp only[hb,Bkn]at h;have hj:j≠k:=by
    rintro rfl;have:∀(l:A2 (Nat×Ac)),lk j (Df j l)=none:=by
     intro l;induction l with
     |nil=>rfl
     |cons q s ih2 =>
      simp only[Df];cases hq:Nat.beq q.1 j with
      |true=>simpa using ih2
      |false=>simp[G1,hq];exact ih2
    rw[this]at h;cases h
   have:=Bkr hb;simp only[G1];rw[this,nbF (Bnf hj)];exact ih h
  |false =>
   simp only[hb,Bko,G1]at h⊢;cases hq:Nat.beq p.1 j with
   |true=>simp only[hq,Bkn]at h⊢;exact h
   |false=>simp only[hq,Bko]at h⊢;exact ih h
def Bip:A3 XV→Ty
 |some (.os _ ty _ _)=>ty
 |_=>.unit
def xdS(st:Ad)(ty:Ty)(x:Operand):A3 XD :=
 match xd st x with
 |some (.v (.slice (some _) 0 _))=>some (.sl ty [])
 |r=>r
theorem B76{st:Ad}{ty:Ty}{x:Operand}{a:XD}(h:xdS st ty x=some a):E3 st.im x (XV.d a).a:=by
 unfold xdS at h;split at h
 ·rename_i p c hx;cases h;exact A9l hx (.Bge _ _ _)
 ·exact X3 h
def Aps(P:Program)(st:Ad)(o:Oper)(ts:Array TypeId)(s x:Operand)(K:Out→A3 R):A3 R :=
 match ts[0]?,ts[1]?,newName o with
 |some t,some u,some m =>
  match Fj P t,Fj P u,Av st s,xdS st (Bip (Av st s)) x with
  |some (e,sz,bytes),some _,some (.os k ty a len),some (.sl Wl l') =>
   match lk k st.objs with
   |some (.arr tu l) =>
    if h:Wl.Ji ty=true then if h':tu.Ji ty=true then
     cond (Nat.beq ty.size sz) (cond (Nat.beq a 0) (cond (Nat.ble 1000 k) (cond (Nat.beq m k) none (cond (A9v m k st) (cond (Nat.beq l.length len) (cond (Aw (len+l'.length) bytes)
      (K ⟨.all,.os m ty 0 (len+l'.length),[(s,.os k ty a len),(x,.d (.sl Wl l'))],(m,.arr ty ((Ty.Au h'▸l:List ty.T)++(Ty.Au h▸l':List ty.T)))::Df m (Df k st.objs),st.live,[m],[m,k]⟩) none) none) none)) none) none) none
    else none else none
   |_=>none
  |some (e,sz,bytes),some _,some (.d (.v (.slice none 0 0))),some (.sl ty l) =>
   match l with
   |[]=>none
   | y :: l => cond (Nat.beq ty.size sz) (cond (Iq [m] st) (cond (Nat.ble 1000 m) (cond (Aw (y :: l).length bytes)
      (K ⟨.all,.os m ty 0 (y::l).length,[(s,.d (.v (.slice none 0 0))),(x,.d (.sl ty (y::l)))],(m,.arr ty (y::l))::Df m st.objs,st.live,[m],[m]⟩) none) none) none) none
  |_,_,_,_=>none
 |_,_,_=>none
theorem A06{o:Oper}{m:Nat}(h:newName o=some m):1000≤m:=by
 unfold newName at h;split at h
 ·cases h;omega
 ·cases h
theorem Axz{o:Oper}{st:Ad}{ts:Array TypeId}{s x:Operand}{K:Out→A3 R}{r:R}(ho:o.op = .call { callee:=.builtin .append,args:=#[s,x],argTypes:=ts })(h:Aps P st o ts s x K=some r):∃out,K out=some r∧Br P o st out:=by
 unfold Aps at h;split at h
 ·rename_i t u m ht hu hm;split at h
  ·rename_i e sz bytes q k ty a len Wl l' hsl hsu hs hx;split at h
   ·rename_i tu l hk;split at h
    ·rename_i he;split at h
     ·rename_i he';have e0:=Ty.Au he;subst e0;have e0':=Ty.Au he';subst e0';cases h1:Nat.beq tu.size sz with
      |false=>simp[h1]at h
      |true =>
      cases h2:Nat.beq a 0 with
      |false=>simp[h1,h2]at h
      |true =>
      cases h3:Nat.ble 1000 k with
      |false=>simp[h1,h2,h3]at h
      |true =>
      cases h4:Nat.beq m k with
      |true=>simp[h1,h2,h3,h4]at h
      |false =>
      cases h5:A9v m k st with
      |false=>simp[h1,h2,h3,h4,h5]at h
      |true =>
      cases h6:Nat.beq l.length len with
      |false=>simp[h1,h2,h3,h4,h5,h6]at h
      |true =>
      cases h7:Aw (len+l'.length) bytes with
      |false=>simp[h1,h2,h3,h4,h5,h6,h7]at h
      |true =>
       simp only[h1,h2,h3,h4,h5,h6,h7,Bkn,Bko]at h;have e1:=Bkr h1;have e2:=Bkr h2;have e6:=Bkr h6;subst e1;subst e2;subst e6;obtain⟨b1,b2⟩:=Yu h7;obtain⟨q1,q2,q3⟩:=q;have Lk:st.X.objs.lookup k=some (.cells ((l.map tu.ds).flatten.map .d) none):=by show(A6 st.objs).lookup k=_;exact H7 hk
       refine⟨_,h,⟨?_,?_,fun j z hj hz=>?_⟩⟩
       ·intro p hp;simp only[B0,Bkv,Bll,Bkq,Blh,Bma]at hp;rcases hp with rfl|rfl
        ·exact Aj hs
        ·exact B76 hx
       ·have:=Aku (P:=P) (X:=st.X) (s:=s) (x:=x) (k:=k) (len:=l.length) (cs:=(l.map tu.ds).flatten.map .d) (cty:=none) (fs:=l'.map tu.ds) m ho ht hu (Cb hsu) (Cb hsl) Lk
         (by rw[Blb,F1 _ (A9n tu l)];simp) (Bl5 h3) (A06 hm) (Bmw h4) (Nb (A2e h5).1)
         (by
          rw[Bly];intro y hy;obtain⟨d,hd,rfl⟩:=Bl2.1 hy;obtain⟨c,hc,hdc⟩:=List.mem_flatten.1 hd;obtain⟨v,_,rfl⟩:=Bl2.1 hc;have:=tu.V7 v d hdc;cases d<;>first|exact this|rfl)
         (by intro c hc d hd;obtain⟨v,_,rfl⟩:=Bl2.1 hc;exact tu.V7 v d hd) (by simpa using b1) (by simpa using b2)
        show Bp P o _ st.X ⟨A6 ((m,Ac.arr tu (l++l'))::Df m (Df k st.objs)),st.live⟩ [m] _;have e3:A6 ((m,Ac.arr tu (l++l'))::Df m (Df k st.objs))=(m,Ob.cells ((l.map tu.ds).flatten.map AV.d++(l'.map tu.ds).flatten.map AV.d) none)::(Ab.B1 m (Ab.B1 k st.X)).objs:=by rw[show A6 ((m,Ac.arr tu (l++l'))::Df m (Df k st.objs))=(m,Ac.o (.arr tu (l++l')))::A6 (Df m (Df k st.objs))from rfl,Qc (Ae7 (Se (A2e h5).1)),Qc (A2e h5).2];simp only[Ac.o,Ble,Boa,Ab.B1];rfl
        rw[e3];simp only[Blb]at this;have e4:B0 [(s,XV.os k tu 0 l.length),(x,XV.d (XD.sl tu l'))]=[(s,.osl k 0 l.length tu.size),(x,.d (.sl tu.size (l'.map tu.ds)))]:=by simp only[B0,Bkv,Bll,XV.a,Bnt];rfl
        rw[e4];have e5:(XV.os m tu 0 (l.length+l'.length)).a = .osl m 0 (l.length+l'.length) tu.size:=by simp only[XV.a,Bnt]
        rw[e5];exact this
       ·simp only[Bkq,Blh,Bma,Bop]at hj;rw[Cq hj.1]at hz;exact Sf (Sf hz)
     ·cases h
    ·cases h
   ·cases h
  ·rename_i e sz bytes q ty l hsl hsu hs hx;split at h
   ·cases h
   ·rename_i y l;cases h1:Nat.beq ty.size sz with
    |false=>simp[h1]at h
    |true =>
    cases h5:Iq [m] st with
    |false=>simp[h1,h5]at h
    |true =>
    cases h3:Nat.ble 1000 m with
    |false=>simp[h1,h5,h3]at h
    |true =>
    cases h7:Aw (y::l).length bytes with
    |false=>simp only[h1,h5,h3,h7,Bkn,Bko,reduceCtorEq]at h
    |true =>
     simp only[h1,h5,h3,h7,Bkn]at h;have e1:=Bkr h1;subst e1;obtain⟨b1,b2⟩:=Yu h7;obtain⟨q1,q2,q3⟩:=q;refine⟨_,h,⟨?_,?_,fun j z hj hz=>?_⟩⟩
     ·intro p hp;simp only[B0,Bkv,Bll,Bkq,Blh,Bma]at hp;rcases hp with rfl|rfl
      ·exact Aj hs
      ·exact B76 hx
     ·have:=A9e (P:=P) (X:=st.X) (s:=s) (x:=x) (fs:=(y::l).map ty.ds) m ho ht hu (Cb hsu) (Cb hsl) (A06 hm) (Nb h5) (by simp)
       (by intro c hc d hd;obtain⟨v,_,rfl⟩:=Bl2.1 hc;exact ty.V7 v d hd) (by simpa using b1) (by simpa using b2)
      show Bp P o _ st.X ⟨A6 ((m,Ac.arr ty (y::l))::Df m st.objs),st.live⟩ [m] _;have e3:A6 ((m,Ac.arr ty (y::l))::Df m st.objs)=(m,Ob.cells (((y::l).map ty.ds).flatten.map AV.d) none)::(Ab.B1 m st.X).objs:=by rw[show A6 ((m,Ac.arr ty (y::l))::Df m st.objs)=(m,Ac.o (.arr ty (y::l)))::A6 (Df m st.objs)from rfl,Qc (Se h5)];rfl
      rw[e3];have e4:B0 [(s,XV.d (.v (.slice none 0 0))),(x,XV.d (XD.sl ty (y::l)))]=[(s,.d (.sc (.slice none 0 0))),(x,.d (.sl ty.size ((y::l).map ty.ds)))]:=rfl;rw[e4];have e5:(XV.os m ty 0 (y::l).length).a = .osl m 0 (y::l).length ty.size:=by simp only[XV.a,Bnt]
      rw[e5];rw[Blb]at this;exact this
     ·simp only[Bkq,Blh,Bma]at hj;rw[Cq hj]at hz;exact Sf hz
  ·cases h
 ·cases h
def Ay0(P:Program)(st:Ad)(ts:Array TypeId)(x:Operand)(K:Out→A3 R):A3 R :=
 match ts[0]?,Av st x with
 |some t,some (.os k ty a len) =>
  match Fj P t,lk k st.objs with
  |some (e,sz,_),some (.arr tu l) =>
   if h:tu.Ji ty=true then
    match zeroOf P e with
    |some zs=>cond (Nat.beq ty.size sz) (cond (A9o zs)
      (K ⟨.put k (.arr ty ((Ty.Au h▸l:List ty.T).take a)),.E2 [],[(x,.os k ty a len)],K6 k (.arr ty ((Ty.Au h▸l:List ty.T).take a)) st.objs,st.live,[],[k]⟩) none) none
    |none=>none
   else none
  |_,_=>none
 |some t,some (.d (.v (.slice none 0 0)))=>none
 |_,_=>none
theorem Ahb{sz:Nat}:∀(fs:A2 (A2 D)),(∀(i:Nat) cs,fs[i]? = some cs→cs.length=sz)→∀a,fs.flatten.take (a*sz)=(fs.take a).flatten
 |[],_,a=>by simp
 |c::r,h,0=>by simp
 |c::r,h,a+1=>by
  have h0:=h 0 c rfl;have ih:=Ahb r (fun i cs hi=>h (i+1) cs (by simpa using hi)) a;simp only[Bmj,Bpl,Bna];rw[show a*sz+sz=c.length+a*sz by omega,Bqu,ih]
theorem B3e{o:Oper}{st:Ad}{ts:Array TypeId}{x:Operand}{K:Out→A3 R}{r:R}(ho:o.op = .call { callee:=.builtin .clear,args:=#[x],argTypes:=ts })(h:Ay0 P st ts x K=some r):∃out,K out=some r∧Br P o st out:=by
 unfold Ay0 at h;split at h
 ·rename_i t k ty a len ht hx;split at h
  ·rename_i e sz bytes tu l hsl hk;split at h
   ·rename_i he;have e0:=Ty.Au he;subst e0;split at h
    ·rename_i zs hz;cases h1:Nat.beq tu.size sz with
     |false=>simp[h1]at h
     |true =>
     cases h2:A9o zs with
     |false=>simp[h1,h2]at h
     |true =>
      simp only[h1,h2,Bkn]at h;have e1:=Bkr h1;subst e1;have Lk:st.X.objs.lookup k=some (.cells ((l.map tu.ds).flatten.map .d) none):=by show(A6 st.objs).lookup k=_;exact H7 hk
      have Iu:∀z,(P.info? e).bind (·.zero)=some z→∀v∈z.cells.toList,v.oneCell'=true:=by
       intro z hzz v hv;unfold zeroOf at hz;split at hz
       ·rename_i i hi;split at hz
        ·rename_i z' hz';cases hz;have:z=z':=by rw[hi]at hzz;simp only[Bkp,hz',Bks]at hzz;exact hzz.symm
         subst this;have hall:=Afv h2;rw[Bly]at hall;have:=hall (.d (.sc v)) (by
          rw[Q7,Bl2];exact⟨.d (Vd v),Bl2.2 ⟨v,hv,rfl⟩,by simp only[XV.a,A27]⟩)
         exact this
        ·cases hz
       ·cases hz
      refine⟨_,h,⟨Cg hx,⟨⟨Hb hk rfl rfl,rfl⟩,rfl,rfl,fun X hX=>?_⟩,fun j z hj hz=>?_⟩⟩
      ·have:=Ap2 (P:=P) (X:=X) (x:=x) (k:=k) (off:=a*tu.size) (len:=len) (cs:=(l.map tu.ds).flatten.map .d) (ty:=none) ho ht (Cb hsl) (hX.trans Lk) Iu;rw[← Bo5,Ahb _ (A9n tu l),← Bo5]at this;exact this
      ·rw[Jl _ _ _ _ (by simpa using hj)]at hz;exact hz
    ·cases h
   ·cases h
  ·cases h
 ·cases h
 ·cases h
end
section
variable{P:Program}{R:Type}
def Ahc:XV→A3 Bool
 |.d (.v (.slice none 0 0))=>some true
 |.d (.v (.slice (some _) _ _))=>some false
 |.d (.sl _ l)=>match l with
  |[]=>none
  |_::_=>some false
 |.os _ _ _ _=>some false
 |_=>none
theorem B3f{x:XV}{b:Bool}(h:Ahc x=some b){g:Gh}{w:World}{v:Value}(hr:RA g w x.a v):∃p n c,v = .slice p n c∧p.isNone=b:=by
 unfold Ahc at h;split at h
 ·cases h;cases hr with
  |d _ _ h=>cases h;exact⟨_,_,_,rfl,rfl⟩
 ·cases h;cases hr with
  |d _ _ h=>cases h;exact⟨_,_,_,rfl,rfl⟩
 ·split at h
  ·cases h
  ·cases h;cases hr with
   |d _ _ h=>cases h;exact⟨_,_,_,rfl,rfl⟩
 ·cases h;obtain⟨cap,o,_,hv,_⟩:=RA.Q1 hr;exact⟨_,_,_,hv,rfl⟩
 ·cases h
theorem Ahd{t e:TypeId}(ht:P.underlying t=some (.slice e))(p:A3 Addr)(n c:Nat)(w:World):(Op.equal t (.slice p n c) (.slice none 0 0)).run P w = .ok p.isNone w:=by
 have h:∀d:Nat,(Op.equalIn (d+1) t (.slice p n c) (.slice none 0 0)).run P w = .ok p.isNone w:=by intro d;cases p<;>simp[Op.equalIn,Bl0 ht]
 exact h 9999
theorem Ami{o:Oper}{X:A7}{op:BinOp}{t t' e:TypeId}{x y:Operand}{v:XV}{b:Bool}(neg:Bool)(ho:o.op = .binOp (cond neg .neq .eql) t x y t')(ht:P.underlying t=some (.slice e))(hb:Ahc v=some b) :
  Bp P o [(x,v.a),(y,.d (.sc (.slice none 0 0)))] X X [] (.d (.sc (.bool (cond neg (!b) b)))) :=
 .quiet fun _ _ g w ac _ Aq=>by
  have h1:=H9 Aq;have h2:=(T9 Aq).Al;simp only at h1 h2;obtain⟨p,n,c,hv,hp⟩:=B3f hb h1;refine⟨_,?_,.Fh _ _ _⟩;simp only[execOp,ho,hv,h2];cases neg with
  |true =>
   have hg:∀p:A3 Addr,eqGuard .neq t x y (.slice p n c) (.slice none 0 0)=pure ():=fun _=>rfl
   simp[hg,binOp,Ahd ht,hp]
  |false =>
   have hg:∀p:A3 Addr,eqGuard .eql t x y (.slice p n c) (.slice none 0 0)=pure ():=fun _=>rfl
   simp[hg,binOp,Ahd ht,hp]
def Apt:Operand→Bool
 |.const (.slice none 0 0)=>true
 |_=>false
theorem B3g{x:Operand}(h:Apt x=true):x = .const (.slice none 0 0):=by
 unfold Apt at h;split at h
 ·rfl
 ·cases h
def Apu(P:Program)(st:Ad)(op:BinOp)(t:TypeId)(x y:Operand)(K:Out→A3 R):A3 R :=
 cond (Apt y) (match op with
  |.eql=>match Fj P t,Av st x with
   |some _,some v=>match Ahc v with
    |some b=>K (B5 st (.d (.b b)) [(x,v),(y,.d (.v (.slice none 0 0)))])
    |none=>none
   |_,_=>none
  |.neq=>match Fj P t,Av st x with
   |some _,some v=>match Ahc v with
    |some b=>K (B5 st (.d (.b (!b))) [(x,v),(y,.d (.v (.slice none 0 0)))])
    |none=>none
   |_,_=>none
  |_=>none) (Be6 P st op t x y K)
theorem Ay1{o:Oper}{st:Ad}{op:BinOp}{t t':TypeId}{x y:Operand}{K:Out→A3 R}{r:R}(ho:o.op = .binOp op t x y t')(h:Apu P st op t x y K=some r):∃out,K out=some r∧Br P o st out:=by
 unfold Apu at h;cases hy:Apt y with
 |false=>simp only[hy,Bko]at h;exact Bas ho h
 |true =>
  have:=B3g hy;subst this;simp only[hy,Bkn]at h;have Ri:∀v,Av st x=some v→∀p∈B0 [(x,v),(Operand.const (.slice none 0 0),XV.d (.v (.slice none 0 0)))],E3 st.im p.1 p.2:=by
   intro v hv p hp;simp only[B0,Bkv,Bll,Bkq,Blh,Bma]at hp;rcases hp with rfl|rfl
   ·exact Aj hv
   ·exact .const _ _ fun _ _=>.sc _
  split at h
  ·split at h
   ·rename_i e v hs hv;split at h
    ·rename_i b hb;obtain⟨e1,e2,e3⟩:=e;refine⟨_,h,A8 (Ri v hv) fun X=>?_⟩;exact Ami (op:=.eql) false ho (Cb hs).und hb
    ·cases h
   ·cases h
  ·split at h
   ·rename_i e v hs hv;split at h
    ·rename_i b hb;obtain⟨e1,e2,e3⟩:=e;refine⟨_,h,A8 (Ri v hv) fun X=>?_⟩;exact Ami (op:=.neq) true ho (Cb hs).und hb
    ·cases h
   ·cases h
  ·cases h
def Ac7(P:Program)(st:Ad)(o:Oper)(t:TypeId)(n:Nat)(Bke:Array (Nat×Operand))(K:Out→A3 R):A3 R :=
 match Fj P t,newName o with
 |some (e,sz,bytes),some m =>
  match Api P 9 e,C5 st (Bke.toList.map (·.2)) with
  |some ty,some vs =>
   match A7a ty vs with
   |some l=>cond (Nat.beq ty.size sz) (cond (Nat.beq vs.length n) (cond (A03 0 (Bke.toList.map (·.1))) (cond (Nat.ble (n*sz) 16777216) (cond (Iq [m] st)
     (K ⟨.all,.os m ty 0 n,Ah3 ty (Bke.toList.map (·.2)) l,(m,.arr ty l)::Df m st.objs,st.live,[m],[m]⟩) none) none) none) none) none
   |none=>none
  |_,_=>none
 |_,_=>none
theorem Apv{o:Oper}{st:Ad}{t:TypeId}{n:Nat}{Bke:Array (Nat×Operand)}{K:Out→A3 R}{r:R}(ho:o.op = .buildSlice t n Bke)(h:Ac7 P st o t n Bke K=some r):∃out,K out=some r∧Br P o st out:=by
 unfold Ac7 at h;split at h
 ·rename_i e sz bytes m hsl hm;split at h
  ·rename_i ty vs Yl Nz;split at h
   ·rename_i l hl;cases h1:Nat.beq ty.size sz with
    |false=>simp[h1]at h
    |true =>
    cases h2:Nat.beq vs.length n with
    |false=>simp[h1,h2]at h
    |true =>
    cases h3:A03 0 (Bke.toList.map (·.1)) with
    |false=>simp[h1,h2,h3]at h
    |true =>
    cases h4:Nat.ble (n*sz) 16777216 with
    |false=>simp[h1,h2,h3,h4]at h
    |true =>
    cases h5:Iq [m] st with
    |false=>simp[h1,h2,h3,h4,h5]at h
    |true =>
     simp only[h1,h2,h3,h4,h5,Bkn]at h;have e1:=Bkr h1;have e2:=Bkr h2;have hto:=X7 Nz hl;have hlen:=A04 hto;have hvl:=Hw Nz;refine⟨_,h,⟨by rw[A9u];exact Y1 hto,?_,fun j z hj hz=>?_⟩⟩
     ·obtain⟨hu',i',z,hi,hs,hb,hz,hzs⟩:=Cb hsl;have:=A9f (P:=P) (X:=st.X) (xs:=l.map ty.dv) m ho hu' hi hz hs (by simp;omega) (by
       rw[A7b h3,Bqe];congr 1;simp at hvl hlen⊢;omega) (by
       rw[Bly];intro x hx;obtain⟨y,_,rfl⟩:=Bl2.1 hx;simp only[B0v,A9t,Ty.Cf,e1,Bp7,Brc]) (Bl5 h4) (A06 hm) (Nb h5)
      simp only[Bnh]at this;have e3:(List.map (D.cells∘ty.dv) l)=l.map ty.ds:=by apply List.map_congr_left;intro y _;exact A9t ty y
      rw[e3]at this;show Bp P o _ st.X ⟨A6 ((m,Ac.arr ty l)::Df m st.objs),st.live⟩ [m] _;have e4:A6 ((m,Ac.arr ty l)::Df m st.objs)=(m,Ob.cells ((l.map ty.ds).flatten.map AV.d) none)::(Ab.B1 m st.X).objs:=by rw[show A6 ((m,Ac.arr ty l)::Df m st.objs)=(m,Ac.o (.arr ty l))::A6 (Df m st.objs)from rfl,Qc (Se h5)];rfl
      rw[e4,A9u];have e5:(XV.os m ty 0 n).a = .osl m 0 n sz:=by simp only[XV.a,Bnt,e1]
      rw[e5];exact this
     ·simp only[Bkq,Blh,Bma]at hj;rw[Cq hj]at hz;exact Sf hz
   ·cases h
  ·cases h
 ·cases h
end
section
variable{P:Program}{R:Type}
theorem Ay2{o:Oper}{X:A7}{ts:Array TypeId}{t:TypeId}{x:Operand}{e:Nat}(ho:o.op = .call { callee:=.builtin .cap,args:=#[x],argTypes:=ts })
  (h0:ts[0]? = some t) (ht:P.underlying t=some (.slice e)):Bp P o [(x,.d (.sc (.slice none 0 0)))] X X [] (.d (.sc (.int .i64 0))) :=
 .quiet fun _ _ g w a _ Aq=>by
  have e1:=(H9 Aq).Al;simp only at e1;refine⟨.int .i64 0,?_,.Fh _ _ _⟩;have:(Builtin.cap_ ts o.type #[.slice none 0 0]).run P w = .ok (goInt 0) w:=by simp[Builtin.cap_,h0,Bl0 ht]
  simp only[execOp,ho,resolve];simp[invoke,builtin,e1,this,Result.andThen,goInt]
def Bef(P:Program)(st:Ad)(ts:Array TypeId)(x:Operand)(K:Out→A3 R):A3 R :=
 match ts[0]? with
 |some t=>match xd st x,P.underlying t with
  |some (.v (.slice none 0 0)),some (.slice _)=>K (B5 st (.d (.i .i64 0)) [(x,.d (.v (.slice none 0 0)))])
  |_,_=>none
 |none=>none
theorem Bb2{o:Oper}{st:Ad}{ts:Array TypeId}{x:Operand}{K:Out→A3 R}{r:R}(ho:o.op = .call { callee:=.builtin .cap,args:=#[x],argTypes:=ts })(h:Bef P st ts x K=some r):∃out,K out=some r∧Br P o st out:=by
 unfold Bef at h;split at h
 ·rename_i t ht0;split at h
  ·rename_i e hx ht;exact⟨_,h,A8 (A19 hx) fun X=>Ay2 ho ht0 ht⟩
  ·cases h
 ·cases h
end
section
variable(P:Program){R:Type}
def Ac8(st:Ad)(o:Oper)(t:TypeId)(K:Out→A3 R):A3 R :=
 match Fj P t,Ah8 o with
 |some (e,sz,bytes),some m =>
  match Api P 9 e with
  |some ty=>cond (Nat.beq ty.size sz) (cond (Qb m st.live st) (K ⟨.lab,.Bu m ty [] (some e),[],st.objs,m::st.live,[m],[]⟩) none) none
  |none=>none
 |_,_=>none
def A9w{α:Type}(n:Nat)(l:A2 α):Bool :=
 match n,l with
 |0,[]=>true
 |_,_=>false
variable{P}
theorem Apw{o:Oper}{st:Ad}{t:TypeId}{n:Nat}{Bke:Array (Nat×Operand)}{K:Out→A3 R}{r:R}(ho:o.op = .buildSlice t n Bke)(he:A9w n Bke.toList=true)(h:Ac8 P st o t K=some r):∃out,K out=some r∧Br P o st out:=by
 have hn:n=0∧Bke=#[]:=by
  unfold A9w at he;split at he
  ·rename_i hp;exact⟨rfl,by apply Bm8;rw[← Bmv,hp];rfl⟩
  ·cases he
 obtain⟨rfl,rfl⟩:=hn;unfold Ac8 at h;split at h
 ·rename_i e sz bytes m hsl hm;split at h
  ·rename_i ty Yl;cases h1:Nat.beq ty.size sz with
   |false=>simp[h1]at h
   |true =>
   cases h3:Qb m st.live st with
   |false=>simp[h1,h3]at h
   |true =>simp only[h1,h3,Bkn]at h;have e1:=Bkr h1;subst e1;obtain⟨f1,f2⟩:=Us h3;refine⟨_,h,⟨by simp[B0],⟨rfl,?_⟩,fun _ _ _ h=>h⟩⟩;obtain⟨hu,i,z,hi,hs,_⟩:=Cb hsl;have:=A5n (P:=P) (X:=st.X) m ho hu hi f1 f2;rw[hs]at this;exact this
  ·cases h
 ·cases h
end
section
variable{P:Program}{R:Type}
def Au6:A2 Value→Bool
 |[]=>true
 |.int .u8 (.ofNat 0)::r=>Au6 r
 |_::_=>false
theorem Au7:∀ {l:A2 Value},Au6 l=true→A9 (l.map fun v=>XV.d (Vd v))=((List.replicate l.length (0:UInt8)).map Ty.u8.ds).flatten.map AV.d
 |[],_=>rfl
 |v::r,h=>by
  unfold Au6 at h;split at h
  ·rename_i heq;cases heq
  ·rename_i r' heq;cases heq;have:=Au7 (l:=r) h;simp only[Bkv,A9,Blg,Bqk,Bmj,Ble,this];rfl
  ·cases h
def A7e(P:Program)(t:TypeId):A3 (A2 Value) :=
 match P.info? t with
 |some i=>match i.zero with
  |some z=>some z.cells.toList
  |none=>none
 |none=>none
theorem B77{t:TypeId}{l:A2 Value}(h:A7e P t=some l):Agd P t (A9 (l.map fun v=>XV.d (Vd v))):=by
 unfold A7e at h;split at h
 ·rename_i i hi;split at h
  ·rename_i z hz;cases h;exact⟨⟨i,z,hi,hz,Apg _⟩⟩
  ·cases h
 ·cases h
def Ac9(P:Program)(st:Ad)(o:Oper)(t:TypeId)(K:Out→A3 R):A3 R :=
 match newName o,A7e P t with
 |some k,some l=>cond (fresh k st) (cond (Au6 l) (K ⟨.all,.nm k (.p 0),[],(k,.arr .u8 (List.replicate l.length (0:UInt8)))::st.objs,st.live,[k],[k]⟩) none) none
 |_,_=>none
theorem Apx{o:Oper}{st:Ad}{t:TypeId}{K:Out→A3 R}{r:R}(ho:o.op = .alloc t)(h:Ac9 P st o t K=some r):∃out,K out=some r∧Br P o st out:=by
 unfold Ac9 at h;split at h
 ·rename_i k l hk hz;cases hf:fresh k st with
  |false=>simp[hf]at h
  |true =>
  cases ha:Au6 l with
  |false=>simp[hf,ha]at h
  |true =>
   simp only[hf,ha,Bkn]at h;obtain⟨h1,h2⟩:=M9 hf;refine⟨_,h,⟨by simp[B0],?_,fun j z hj hz=>?_⟩⟩
   ·have:=Atf (P:=P) (X:=st.X) k ho (B77 hz) (Ma h1) h2;rw[Au7 ha]at this;exact this
   ·rw[Cq (by simpa using hj)]at hz;exact hz
 ·cases h
def Amj(P:Program)(own:Bool)(st:Ad)(o:Oper)(t:TypeId)(K:Out→A3 R):A3 R :=
 cond own (Ac9 P st o t K) (Axq P st o t K)
theorem Apy{own:Bool}{o:Oper}{st:Ad}{t:TypeId}{K:Out→A3 R}{r:R}(ho:o.op = .alloc t)(h:Amj P own st o t K=some r):∃out,K out=some r∧Br P o st out:=by
 cases own with
 |true=>exact Apx ho h
 |false=>exact B38 ho h
def Aca(P:Program)(st:Ad)(t:TypeId)(x:Operand)(lo hi:A3 Operand)(k:Nat)(ty:Ty)(cs:List ty.T)(K:Out→A3 R):A3 R :=
 match Ah6 P t with
 |some (_,n,sz)=>match O8 st 0 lo,O8 st n hi with
  |some (l,r1),some (h,r2)=>cond (Nat.beq ty.size sz) (cond (Nat.ble n cs.length) (cond (Lq l h n)
    (K ⟨.look [k],.os k ty l.toNat (h.toNat-l.toNat),(x,.nm k (.p 0))::(r1++r2),st.objs,st.live,[],[]⟩) none) none) none
  |_,_=>none
 |none=>none
theorem Apz{o:Oper}{st:Ad}{t:TypeId}{x:Operand}{lo hi:A3 Operand}{k:Nat}{ty:Ty}{cs:List ty.T}{K:Out→A3 R}{r:R}(ho:o.op = .slice t x lo hi none)(hx:Av st x=some (.nm k (.p 0)))
  (hk:lk k st.objs=some (.arr ty cs)) (h:Aca P st t x lo hi k ty cs K=some r):∃out,K out=some r∧Br P o st out:=by
 unfold Aca at h;split at h
 ·rename_i e n sz hat;split at h
  ·rename_i l r1 hh r2 hlo hhi;cases hb:Nat.beq ty.size sz with
   |false=>simp[hb]at h
   |true =>
   cases hn:Nat.ble n cs.length with
   |false=>simp[hb,hn]at h
   |true =>
   cases hc:Lq l hh n with
   |false=>simp[hb,hn,hc]at h
   |true =>
    simp only[hb,hn,hc,Bkn]at h;have e1:=Bkr hb;subst e1;have L0:=Bl5 hn;obtain⟨c0,c1,c2⟩:=A4j hc;obtain⟨s1,m1,f1⟩:=Hq hlo;obtain⟨s2,m2,f2⟩:=Hq hhi;refine⟨_,h,⟨Amh hx s1 s2,⟨rfl,rfl,rfl,fun X hX=>?_⟩,fun _ _ _ h=>h⟩⟩;have hkX:X.objs.lookup k=some (.cells ((cs.map ty.ds).flatten.map .d) none):=by rw[hX k (by simp)];exact(by show(A6 st.objs).lookup k=_;exact H7 hk)
    have hlen:((cs.map ty.ds).flatten.map AV.d).length=cs.length*ty.size:=by
     rw[Blb,F1 (sz:=ty.size) _ (by
      intro i c hc;rw[Bkt,Bky]at hc;obtain⟨z,_,rfl⟩:=hc;exact ty.Cf z),Blb]
    have:=Ap3 (P:=P) (X:=X) (k:=k) (rd:=B0 (r1++r2)) (l:=l) (h:=hh) ho (Ah7 hat) hkX (by rw[hlen];exact Bmm _ L0) c0 c1 c2 (by
     cases lo with
     |none=>exact m1
     |some y=>obtain⟨j,hj⟩:=m1;exact⟨j,by rw[F2];exact Bla _ hj⟩) (by
     cases hi with
     |none=>exact m2
     |some y=>obtain⟨j,hj⟩:=m2;exact⟨j,by rw[F2];exact Bl9 _ hj⟩)
    exact this
  ·cases h
 ·cases h
def Acb(P:Program)(st:Ad)(t:TypeId)(x:Operand)(lo hi mx:A3 Operand)(K:Out→A3 R):A3 R :=
 match mx,Av st x with
 |none,some (.nm k (.p 0))=>match lk k st.objs with
  |some (.arr ty cs)=>Aca P st t x lo hi k ty cs K
  |_=>none
 |_,_=>Ac6 P st t x lo hi mx K
theorem Aq0{o:Oper}{st:Ad}{t:TypeId}{x:Operand}{lo hi mx:A3 Operand}{K:Out→A3 R}{r:R}(ho:o.op = .slice t x lo hi mx)(h:Acb P st t x lo hi mx K=some r):∃out,K out=some r∧Br P o st out:=by
 unfold Acb at h;split at h
 ·rename_i k hx;split at h
  ·rename_i ty cs hk;exact Apz ho hx hk h
  ·cases h
 ·exact Apq ho h
def Ahe(P:Program)(st:Ad)(s d:TypeId)(x:Operand)(K:Out→A3 R):A3 R :=
 match Av st x with
 |some (.os k .u8 a len)=>match lk k st.objs with
  |some (.arr .u8 l)=>match P.underlying s,P.underlying d with
   |some (.slice e),some .string=>match P.underlying e with
    |some (.int .u8)=>cond (Nat.ble (a+len) l.length) (K ⟨.look [k],.d (.s ((l.drop a).take len)),[(x,.os k .u8 a len)],st.objs,st.live,[],[]⟩) none
    |_=>none
   |_,_=>none
  |_=>none
 |_=>B6z P st s d x K
theorem Au8{o:Oper}{st:Ad}{s d:TypeId}{x:Operand}{K:Out→A3 R}{r:R}(ho:o.op = .convert s d x)(h:Ahe P st s d x K=some r):∃out,K out=some r∧Br P o st out:=by
 unfold Ahe at h;split at h
 ·rename_i k a len hx;split at h
  ·rename_i l hk;split at h
   ·rename_i e hs hd;split at h
    ·rename_i he;cases hb:Nat.ble (a+len) l.length with
     |false=>simp[hb]at h
     |true =>simp only[hb,Bkn]at h;refine⟨_,h,⟨Cg hx,⟨rfl,rfl,rfl,fun X hX=>?_⟩,fun _ _ _ h=>h⟩⟩;exact A5o ho hs he hd (by rw[hX k (by simp)];exact(by show(A6 st.objs).lookup k=_;exact H7 hk)) (Bl5 hb)
    ·cases h
   ·cases h
  ·cases h
 ·exact B70 ho h
end
open Go.Lib
def Ee{α β:Type}(l:A2 α)(a:β)(f:α→A2 α→β):β :=
 match l with
 |[]=>a
 |y::r=>f y r
section
variable{P:Program}{R:Type}
def A4l(P:Program)(t:TypeId):A3 TypeId :=
 match P.underlying t with
 |some (.pointer e)=>match P.info? e with
  |some i=>cond (Nat.beq i.size 0) none (some e)
  |none=>none
 |_=>none
theorem A07{t e:TypeId}(h:A4l P t=some e):P.underlying t=some (.pointer e)∧∃i,P.info? e=some i∧i.size≠0:=by
 unfold A4l at h;split at h
 ·rename_i e' ht;split at h
  ·rename_i i hi;cases hz:Nat.beq i.size 0 with
   |true=>simp[hz]at h
   |false =>simp only[hz,Bko,Bks]at h;subst h;exact⟨ht,i,hi,Bmw hz⟩
  ·cases h
 ·cases h
def Aq1:XV→A3 Bool
 |.nm _ (.p _)=>some false
 |.nm _ (.z b _)=>some b
 |.el _ _ _ _=>some false
 |.d (.v (.pointer none))=>some true
 |_=>none
theorem B3h{g:Gh}{w:World}{x:XV}{b:Bool}{v:Value}(h:Aq1 x=some b)(hr:RA g w x.a v):∃p,v = .pointer p∧p.isNone=b:=by
 unfold Aq1 at h;split at h
 ·cases h;simp only[XV.a]at hr;cases hr with
  |nm _ _ _ h=>exact⟨_,h,rfl⟩
 ·rename_i k b' off;cases h;simp only[XV.a]at hr;cases hr with
  |nm _ _ _ h =>
   cases b with
   |true=>exact⟨_,h,rfl⟩
   |false=>exact⟨_,h,rfl⟩
 ·cases h;simp only[XV.a]at hr;cases hr with
  |nm _ _ _ h=>exact⟨_,h,rfl⟩
 ·cases h;simp only[XV.a,XD.d]at hr;cases hr with
  |d _ _ h=>cases h;exact⟨_,rfl,rfl⟩
 ·cases h
theorem A1z{t e:TypeId}(ht:P.underlying t=some (.pointer e))(p:A3 Addr)(w:World):(Op.equal t (.pointer p) (.pointer none)).run P w = .ok p.isNone w:=by
 have h:∀d:Nat,(Op.equalIn (d+1) t (.pointer p) (.pointer none)).run P w = .ok p.isNone w:=by intro d;cases p<;>simp[Op.equalIn,Bl0 ht]
 exact h 9999
theorem Aq2{t e:TypeId}(ht:P.underlying t=some (.pointer e))(p:A3 Addr)(w:World):(Op.equal t (.pointer none) (.pointer p)).run P w = .ok p.isNone w:=by
 have h:∀d:Nat,(Op.equalIn (d+1) t (.pointer none) (.pointer p)).run P w = .ok p.isNone w:=by intro d;cases p<;>simp[Op.equalIn,Bl0 ht]
 exact h 9999
def Qd(neg:Bool):BinOp:=cond neg .neq .eql
theorem X8(neg:Bool)(t:TypeId)(x y:Operand)(p q:A3 Addr):eqGuard (Qd neg) t x y (.pointer p) (.pointer q)=pure ():=by cases neg<;>rfl
theorem Ay3{o:Oper}{X:A7}{t t' e:TypeId}{x y:Operand}{v:XV}{b:Bool}(neg:Bool)(ho:o.op = .binOp (Qd neg) t x y t')(ht:P.underlying t=some (.pointer e))(hb:Aq1 v=some b) :
  Bp P o [(x,v.a),(y,.d (.sc (.pointer none)))] X X [] (.d (.sc (.bool (cond neg (!b) b)))) :=
 .quiet fun _ _ g w ac _ Aq=>by
  have h1:=H9 Aq;have h2:=(T9 Aq).Al;simp only at h1 h2;obtain⟨p,hv,hp⟩:=B3h hb h1;refine⟨_,?_,.Fh _ _ _⟩;simp only[execOp,ho,hv,h2];rw[X8];cases neg<;>simp[Qd,binOp,A1z ht,hp]
theorem Ae8{o:Oper}{X:A7}{t t' e:TypeId}{x y:Operand}{k off:Nat}{b c:Bool}(neg:Bool)(ho:o.op = .binOp (Qd neg) t x y t')(ht:P.underlying t=some (.pointer e))(hi:∃i,P.info? e=some i)(hbc:b=false∨c=false) :
  Bp P o [(x,.nm k (.z b off)),(y,.nm k (.z c off))] X X [] (.d (.sc (.bool (cond neg (b||c) (!(b||c)))))) :=
 .quiet fun _ _ g w ac _ Aq=>by
  obtain⟨i,hi⟩:=hi;have h1:=H9 Aq;have h2:=T9 Aq;simp only at h1 h2;have e1:ac.eval x=cond b (.pointer none) (.pointer (some ⟨g.ρ k,off,none⟩)):=by cases h1 with|nm _ _ _ h=>exact h
  have e2:ac.eval y=cond c (.pointer none) (.pointer (some ⟨g.ρ k,off,none⟩)):=by cases h2 with|nm _ _ _ h=>exact h
  refine⟨_,?_,.Fh _ _ _⟩;simp only[execOp,ho,e1,e2];have hs:=fun a=>run_eql_ptr_same (P:=P) w (tp:=t) a ht hi
  have hn:=fun a=>run_neq_ptr_same (P:=P) w (tp:=t) a ht hi
  cases b with
  |true =>
   rcases hbc with h|h
   ·cases h
   ·subst h;simp only[Bkn,Bko];rw[X8];cases neg<;>simp[Qd,binOp,Aq2 ht]
  |false =>
   cases c with
   |true =>simp only[Bkn,Bko];rw[X8];cases neg<;>simp[Qd,binOp,A1z ht]
   |false =>
    simp only[Bko];rw[X8];cases neg with
    |true=>simp[Qd,hn]
    |false=>simp[Qd,hs]
def Ay4:XV→A3 (Bool×Nat×Nat)
 |.nm k (.p off)=>some (false,k,off)
 |.nm k (.z b off)=>some (b,k,off)
 |_=>none
theorem B0x{x:XV}{b:Bool}{k off:Nat}(h:Ay4 x=some (b,k,off)):Wn x.a (.nm k (.z b off)):=by
 unfold Ay4 at h;split at h
 ·cases h;intro g w v hr;simp only[XV.a]at hr;cases hr with
  |nm _ _ _ h=>exact .nm _ _ _ h
 ·cases h;exact .refl _
 ·cases h
def Aq3:XV→A3 Bool
 |.d (.er b)=>some (!b)
 |.d (.v .nilIface)=>some true
 |.d (.ic _ _ a)=>some a.isNone
 |_=>none
theorem B3i{g:Gh}{w:World}{x:XV}{b:Bool}{v:Value}(h:Aq3 x=some b)(hr:RA g w x.a v):(b=true→v = .nilIface)∧(b=false→∃t u,v = .iface t u):=by
 unfold Aq3 at h;split at h
 ·rename_i c;simp only[Bks]at h;subst h;simp only[XV.a,XD.d]at hr;cases c with
  |true =>
   cases hr with
   |d _ _ h =>
    cases h with
    |any _ _ h1 h2=>exact⟨by simp,fun _=>h1⟩
  |false =>
   cases hr with
   |d _ _ h =>cases h;exact⟨fun _=>rfl,by simp⟩
 ·cases h;simp only[XV.a,XD.d]at hr;cases hr with
  |d _ _ h=>cases h;exact⟨fun _=>rfl,by simp⟩
 ·rename_i u k a;cases h;simp only[XV.a,XD.d]at hr;cases hr with
  |d _ _ h =>
   cases h;cases a with
   |none=>exact⟨fun _=>rfl,by simp[Option.isNone]⟩
   |some n=>exact⟨by simp[Option.isNone],fun _=>⟨u,_,rfl⟩⟩
 ·cases h
theorem Ay5{t:TypeId}{ms:Array (String×TypeId)}(ht:P.underlying t=some (.interface ms)){v:Value}{b:Bool}(hv:(b=true→v = .nilIface)∧(b=false→∃t u,v = .iface t u))(w:World):(Op.equal t v .nilIface).run P w = .ok b w:=by
 have h:∀d:Nat,(Op.equalIn (d+1) t v .nilIface).run P w = .ok b w:=by
  intro d;cases b with
  |true=>rw[hv.1 rfl];simp[Op.equalIn,Bl0 ht]
  |false =>obtain⟨t',u,rfl⟩:=hv.2 rfl;simp[Op.equalIn,Bl0 ht]
 exact h 9999
theorem Ay6(neg:Bool)(t:TypeId)(x:Operand)(c:Value)(v:Value){b:Bool}(hv:(b=true→v = .nilIface)∧(b=false→∃t u,v = .iface t u)):eqGuard (Qd neg) t x (.const c) v .nilIface=pure ():=by
 cases b with
 |true=>rw[hv.1 rfl];cases neg<;>cases x<;>rfl
 |false=>obtain⟨t',u,rfl⟩:=hv.2 rfl;cases neg<;>rfl
theorem B3j{o:Oper}{X:A7}{t t':TypeId}{ms:Array (String×TypeId)}{x:Operand}{c:Value}{v:XV}{b:Bool}(neg:Bool)(ho:o.op = .binOp (Qd neg) t x (.const c) t')(ht:P.underlying t=some (.interface ms))(hb:Aq3 v=some b) :
  Bp P o [(x,v.a),(.const c,.d (.sc .nilIface))] X X [] (.d (.sc (.bool (cond neg (!b) b)))) :=
 .quiet fun _ _ g w ac _ Aq=>by
  have h1:=H9 Aq;have h2:=(T9 Aq).Al;simp only at h1 h2;have hv:=B3i hb h1;refine⟨_,?_,.Fh _ _ _⟩;simp only[execOp,ho,h2];rw[Ay6 neg t x c _ hv];cases neg<;>simp[Qd,binOp,Ay5 ht hv]
def Ahf:BinOp→A3 Bool
 |.eql=>some false
 |.neq=>some true
 |_=>none
theorem A2f{op:BinOp}{neg:Bool}(h:Ahf op=some neg):op=Qd neg:=by
 unfold Ahf at h;split at h
 ·cases h;rfl
 ·cases h;rfl
 ·cases h
inductive Biq where
 |ptr
 |iface
 |none
def Beg:Operand→Biq
 |.const (.pointer none)=>.ptr
 |.const .nilIface=>.iface
 |_=>.none
def B78(P:Program)(st:Ad)(op:BinOp)(t:TypeId)(x y:Operand)(K:Out→A3 R):A3 R :=
 match Beg y with
 |.ptr=>match Ahf op,A4l P t,Av st x with
  |some neg,some _,some v=>match Aq1 v with
   |some b=>K (B5 st (.d (.b (cond neg (!b) b))) [(x,v),(y,.d (.v (.pointer none)))])
   |none=>none
  |_,_,_=>none
 |.iface=>match Ahf op,P.underlying t,Av st x with
  |some neg,some (.interface _),some v=>match Aq3 v with
   |some b=>K (B5 st (.d (.b (cond neg (!b) b))) [(x,v),(y,.d (.v .nilIface))])
   |none=>none
  |_,_,_=>none
 |.none=>match Ahf op,A4l P t with
  |some neg,some _=>match Av st x,Av st y with
   |some v,some u=>match Ay4 v,Ay4 u with
    |some (b,k,off),some (c,k',R8)=>cond (Nat.beq k k') (cond (Nat.beq off R8) (cond b (cond c none
      (K (B5 st (.d (.b (cond neg true false))) [(x,.nm k (.z true off)),(y,.nm k (.z false off))])))
      (K (B5 st (.d (.b (cond neg c (!c)))) [(x,.nm k (.z false off)),(y,.nm k (.z c off))]))) none) none
    |_,_=>none
   |_,_=>none
  |_,_=>Apu P st op t x y K
theorem Au9{st:Ad}{x:Operand}{v y:XV}(h:Av st x=some v)(hle:Wn v.a y.a)(hnc:Ay4 v≠none):E3 st.im x y.a:=by
 cases x with
 |tmp t=>exact .tmp t _ (Dy h).1 (Y0 (Dy h).2 hle)
 |const u =>simp only[Av,Bks]at h;subst h;simp[Ay4]at hnc
 |func f =>simp only[Av,Bks]at h;subst h;simp[Ay4]at hnc
 |global k=>exact .Ag6 k _ (Y0 h hle)
theorem B79{o:Oper}{st:Ad}{op:BinOp}{t t':TypeId}{x y:Operand}{K:Out→A3 R}{r:R}(ho:o.op = .binOp op t x y t')(h:B78 P st op t x y K=some r):∃out,K out=some r∧Br P o st out:=by
 unfold B78 at h;have Bcw:∀(c:Value),y = .const c→∀v,Av st x=some v→∀p∈B0 [(x,v),(y,XV.d (.v c))],E3 st.im p.1 p.2:=by
  intro c hy v hv p hp;simp only[B0,Bkv,Bll,Bkq,Blh,Bma]at hp;rcases hp with rfl|rfl
  ·exact Aj hv
  ·rw[hy];exact .const _ _ fun _ _=>.sc _
 split at h
 ·rename_i hy;have hy:y = .const (.pointer none):=by unfold Beg at hy;split at hy<;>first|rfl|cases hy
  split at h
  ·rename_i neg e v hn he hv;split at h
   ·rename_i b hb;have:=A2f hn;subst this;exact⟨_,h,A8 (Bcw _ hy v hv) fun X=>Ay3 neg ho (A07 he).1 hb⟩
   ·cases h
  ·cases h
 ·rename_i hy;have hy:y = .const .nilIface:=by unfold Beg at hy;split at hy<;>first|rfl|cases hy
  split at h
  ·rename_i neg ms v hn he hv;split at h
   ·rename_i b hb;have:=A2f hn;subst this;subst hy;exact⟨_,h,A8 (Bcw _ rfl v hv) fun X=>B3j neg ho he hb⟩
   ·cases h
  ·cases h
 ·split at h
  ·rename_i neg e hn he;split at h
   ·rename_i v u hv hu;split at h
    ·rename_i b k off c k' R8 hpv hpu;cases h1:Nat.beq k k' with
     |false=>simp[h1]at h
     |true =>
     cases h2:Nat.beq off R8 with
     |false=>simp[h1,h2]at h
     |true =>
      have e1:=Bkr h1;have e2:=Bkr h2;subst e1;subst e2;have:=A2f hn;subst this;obtain⟨ht,i,hi,_⟩:=A07 he;have Ri:∀p∈B0 [(x,XV.nm k (.z b off)),(y,XV.nm k (.z c off))],E3 st.im p.1 p.2:=by
       intro p hp;simp only[B0,Bkv,Bll,Bkq,Blh,Bma]at hp;rcases hp with rfl|rfl
       ·exact Au9 hv (B0x hpv) (by rw[hpv];simp)
       ·exact Au9 hu (B0x hpu) (by rw[hpu];simp)
      cases b with
      |true =>
       cases c with
       |true=>simp at h
       |false =>simp only[h1,h2,Bkn,Bko]at h;refine⟨_,h,A8 Ri fun X=>?_⟩;have:=Ae8 (X:=X) neg ho ht ⟨i,hi⟩ (k:=k) (off:=off) (b:=true) (c:=false) (.inr rfl);simp only[Bool.true_or,Bn7]at this;exact this
      |false =>simp only[h1,h2,Bkn,Bko]at h;refine⟨_,h,A8 Ri fun X=>?_⟩;have:=Ae8 (X:=X) neg ho ht ⟨i,hi⟩ (k:=k) (off:=off) (b:=false) (c:=c) (.inl rfl);simp only[Bou]at this;exact this
    ·cases h
   ·cases h
  ·exact Ay1 ho h
def Ay7(P:Program)(st:Ad)(s d:TypeId)(x:Operand)(K:Out→A3 R):A3 R :=
 match Av st x with
 |some (.nm k (.p off))=>match lk k st.objs with
  |some (.cells cs (some T))=>match P.underlying d with
   |some .unsafePointer=>match A4l P s with
    |some t=>cond (Nat.ble (off+1) cs.length) (K ⟨.look [k],.nm k (.p off),[(x,.nm k (.p off))],st.objs,st.live,[],[]⟩) none
    |none=>none
   |_=>match P.underlying s,A4l P d with
    |some .unsafePointer,some t=>cond (Nat.beq t T) (cond (Nat.beq off 0) (cond (Nat.beq (P.cellsOf T) cs.length) (cond (Nat.beq cs.length 0) none (K ⟨.look [k],.nm k (.p 0),[(x,.nm k (.p 0))],st.objs,st.live,[],[]⟩)) none) none) none
    |_,_=>none
  |_=>none
 |_=>Ahe P st s d x K
theorem B3k{o:Oper}{st:Ad}{s d:TypeId}{x:Operand}{K:Out→A3 R}{r:R}(ho:o.op = .convert s d x)(h:Ay7 P st s d x K=some r):∃out,K out=some r∧Br P o st out:=by
 unfold Ay7 at h;split at h
 ·rename_i k off hx;split at h
  ·rename_i cs T hk;have Kz:st.X.objs.lookup k=some (.cells (A9 cs) (some T)):=by show(A6 st.objs).lookup k=_;exact H7 hk
   split at h
   ·rename_i hd;split at h
    ·rename_i t ht;cases hb:Nat.ble (off+1) cs.length with
     |false=>simp[hb]at h
     |true =>simp only[hb,Bkn]at h;obtain⟨h1,h2⟩:=A07 ht;refine⟨_,h,⟨Cg hx,⟨rfl,rfl,rfl,fun X hX=>?_⟩,fun _ _ _ h=>h⟩⟩;exact Akp ho (by rw[hX k (by simp)];exact Kz) (by rw[Ag];exact Bl5 hb) h1 hd h2
    ·cases h
   ·split at h
    ·rename_i t hs ht;cases h1:Nat.beq t T with
     |false=>simp[h1]at h
     |true =>
     cases h2:Nat.beq off 0 with
     |false=>simp[h1,h2]at h
     |true =>
     cases h3:Nat.beq (P.cellsOf T) cs.length with
     |false=>simp[h1,h2,h3]at h
     |true =>
     cases h4:Nat.beq cs.length 0 with
     |true=>simp[h1,h2,h3,h4]at h
     |false =>simp only[h1,h2,h3,h4,Bkn,Bko]at h;have e1:=Bkr h1;have e2:=Bkr h2;subst e1;subst e2;obtain⟨g1,g2⟩:=A07 ht;refine⟨_,h,⟨Cg hx,⟨rfl,rfl,rfl,fun X hX=>?_⟩,fun _ _ _ h=>h⟩⟩;exact Aff ho (by rw[hX k (by simp)];exact Kz) hs g1 g2 (by rw[Ag];exact Bkr h3) (by rw[Ag];exact Bmw h4)
    ·cases h
  ·cases h
 ·exact Au8 ho h
theorem A7f{o:Oper}{X:A7}{ts:Array TypeId}{x:Operand}{n e e':Nat}(ho:o.op = .call { callee:=.builtin .unsafeSliceData,args:=#[x],argTypes:=ts })(hn:n∈X.live)(ht:P.underlying o.type=some (.pointer e')) :
  Bp P o [(x,.Bu n 1 [] (some e))] X X [] (.d (.any Ap8)):=by
 intro nm Ek B g w a hr Aq next Q Eo
 have h1:=H9 Aq;simp only at h1;obtain⟨ob,Gg⟩:=Blm.1 ((hr.live n).1 hn);have done:∀p w',(execOp a.eval o).run P w = .ok (.value (.pointer p)) w'→HR nm B g w' X→Trans [] g w g w'→o.wp P a w next Q:=by intro p w' C2 h2 h3;unfold Oper.wp;rw[C2];exact Eo g w' _ h2 h3 (.d _ _ (.any _ _ ⟨p,rfl⟩ rfl))
 generalize hv:a.eval x=v at h1;cases h1 with
 |Bu _ _ _ _ _ h1 h2 =>
  have hsl:∃ad len cap,v = .slice ad len cap:=by
   generalize hE:([]:A2 (A2 D))=E at h1;cases h1 with
   |nil=>exact⟨_,_,_,rfl⟩
   |sl=>exact⟨_,_,_,rfl⟩
  obtain⟨ad,len,cap,rfl⟩:=hsl;cases ad with
  |none =>refine done none w ?_ hr (.refl _ _ _);simp[execOp,ho,resolve,hv,invoke,builtin,run_unsafeSliceData_nil]
  |some ad =>
   obtain⟨_,_,_,_,h5⟩:=h2 ob Gg;obtain⟨_,c,h6⟩:=h5 e rfl;by_cases hc:cap=0
   ·subst hc;have hg:=hr.grow (w':=w.alloc (.view ad e')) (by simp) (fun b hb=>O2 w _ hb) ⟨rfl,rfl,rfl,Bl1 _⟩;refine done (some ⟨w.heap.size,0,none⟩) _ ?_ hg.1 hg.2;simp[execOp,ho,resolve,hv,invoke,builtin,run_unsafeSliceData_zero w ts o.type e' ht ad len _ h6]
   ·refine done (some ad) w ?_ hr (.refl _ _ _);simp[execOp,ho,resolve,hv,invoke,builtin,run_unsafeSliceData_row w _ _ _ _ _ hc]
theorem A2g(w:World){pt it ty e:TypeId}(hp:P.underlying pt=some (.pointer e))(p:A3 Addr):(Builtin.unsafeString_ #[pt,it] ty #[.pointer p,.int .i64 0]).run P w = .ok (.string .empty) w:=by
 cases p with
 |none=>rfl
 |some a=>rfl
theorem Al2{o:Oper}{X:A7}{x y:Operand}{pt it e:TypeId}(ho:o.op = .call { callee:=.builtin .unsafeString,args:=#[x,y],argTypes:=#[pt,it] })(hp:P.underlying pt=some (.pointer e)) :
  Bp P o [(x,.d (.any Ap8)),(y,.d (.sc (.int .i64 0)))] X X [] (.d (.sc (.string .empty))) :=
 .quiet fun _ _ g w ac hr Aq=>by
  have h1:=H9 Aq;have h2:=(T9 Aq).Al;simp only at h1 h2;have h3:∃p,ac.eval x = .pointer p:=by
   cases h1 with
   |d _ _ h=>cases h with
    |any _ _ h _=>exact h
  obtain⟨p,h3⟩:=h3;refine⟨.string .empty,?_,.Fh _ _ _⟩;simp[execOp,ho,resolve,h3,h2,invoke,builtin,A2g w hp]
def A7g(P:Program)(st:Ad)(o:Oper)(x:Operand)(K:Out→A3 R):A3 R :=
 match Av st x with
 |some (.Bu n .u8 l (some e))=>Ee l
   (match P.underlying o.type with
   |some (.pointer _)=>cond (inl n st.live) (K ⟨.lab,.d .pp,[(x,.Bu n .u8 [] (some e))],st.objs,st.live,[],[]⟩) none
   |_=>none)
   fun a r=>K (B5 st (.Uo n e a r) [(x,.Bu n .u8 (a::r) (some e))])
 |some (.d (.v (.slice none 0 0)))=>K (B5 st (.d (.v (.pointer none))) [(x,.d (.v (.slice none 0 0)))])
 |_=>none
theorem Al3{o:Oper}{st:Ad}{ts:Array TypeId}{x:Operand}{K:Out→A3 R}{r:R}(ho:o.op = .call { callee:=.builtin .unsafeSliceData,args:=#[x],argTypes:=ts })(h:A7g P st o x K=some r):∃out,K out=some r∧Br P o st out:=by
 unfold A7g at h;split at h
 ·rename_i n l e hx;cases l with
  |nil =>
   simp only[Ee]at h;split at h
   ·rename_i e' he;cases hb:inl n st.live with
    |false=>simp[hb]at h
    |true =>simp only[hb,Bkn]at h;refine⟨_,h,⟨Cg hx,⟨rfl,?_⟩,fun _ _ _ h=>h⟩⟩;exact A7f ho ((D3 _ _).1 hb) he
   ·cases h
  |cons a l =>simp only[Ee]at h;exact⟨_,h,A8 (Cg hx) fun X=>Aoz (l:=a::l) ho (by simp)⟩
 ·rename_i hx;exact⟨_,h,A8 (Cg hx) fun X=>Abu ho⟩
 ·cases h
def Y2(P:Program)(st:Ad)(ts:Array TypeId)(x y:Operand)(K:Out→A3 R):A3 R :=
 match ts.toList with
 |[pt,it]=>match P.underlying pt with
  |some (.pointer e')=>match Av st x,xd st y with
   |some (.Uo n e a l),some (.i .i64 m)=>cond (m==(((a::l).length:Nat):Int)) (cond (inl n st.live) (cond (Nat.beq e' e) (cond (Nat.beq (P.cellsOf e) 1) (cond (decide ((a::l).length≤9223372036854775807))
     (K ⟨.lab,.d (.s (a::l)),[(x,.Uo n e a l),(y,.d (.i .i64 m))],st.objs,Q4 n st.live,[],[]⟩) none) none) none) none) none
   |some (.d .pp),some (.i .i64 m)=>cond (m==0) (K (B5 st (.d (.s [])) [(x,.d .pp),(y,.d (.i .i64 m))])) none
   |some (.d (.v (.pointer none))),some (.i .i64 m)=>cond (m==0) (K (B5 st (.d (.s [])) [(x,.d (.v (.pointer none))),(y,.d (.i .i64 m))])) none
   |_,_=>none
  |_=>none
 |_=>none
theorem Ahg{st:Ad}{x y:Operand}{v:XV}{b:XD}(h:Av st x=some v)(h':xd st y=some b):∀p∈B0 [(x,v),(y,.d b)],E3 st.im p.1 p.2:=by
 intro p hp;simp only[B0,Bkv,Bll,Bkq,Blh,Bma]at hp;rcases hp with rfl|rfl
 ·exact Aj h
 ·exact X3 h'
theorem Acd{o:Oper}{st:Ad}{ts:Array TypeId}{x y:Operand}{K:Out→A3 R}{r:R}(ho:o.op = .call { callee:=.builtin .unsafeString,args:=#[x,y],argTypes:=ts })(h:Y2 P st ts x y K=some r):∃out,K out=some r∧Br P o st out:=by
 unfold Y2 at h;split at h
 ·rename_i pt it hts;have:ts=#[pt,it]:=Bq4.1 hts;subst this;split at h
  ·rename_i e' hp;split at h
   ·rename_i n e a l m hx hy;cases h1:(m==(((a::l).length:Nat):Int)) with
    |false=>simp only[h1,Bko]at h;cases h
    |true =>
    cases h2:inl n st.live with
    |false=>simp[h2]at h
    |true =>
    cases h3:Nat.beq e' e with
    |false=>simp[h2,h3]at h
    |true =>
    cases h4:Nat.beq (P.cellsOf e) 1 with
    |false=>simp[h2,h3,h4]at h
    |true =>
    cases h5:decide ((a::l).length≤9223372036854775807) with
    |false=>simp only[h1,h2,h3,h4,h5,Bkn,Bko]at h;cases h
    |true =>simp only[h1,h2,h3,h4,h5,Bkn]at h;have e1:=Bkr h3;subst e1;have hm:=eq_of_beq h1;subst hm;refine⟨_,h,⟨Ahg hx hy,⟨rfl,?_⟩,fun _ _ _ h=>h⟩⟩;exact B2q (l:=a::l) ho ((D3 _ _).1 h2) (by simp) hp (Bkr h4) (Bpb h5)
   ·rename_i m hx hy;cases h1:(m==0) with
    |false=>simp[h1]at h
    |true =>simp only[h1,Bkn]at h;have hm:=eq_of_beq h1;subst hm;exact⟨_,h,A8 (Ahg hx hy) fun X=>Al2 ho hp⟩
   ·rename_i m hx hy;cases h1:(m==0) with
    |false=>simp[h1]at h
    |true =>simp only[h1,Bkn]at h;have hm:=eq_of_beq h1;subst hm;exact⟨_,h,A8 (Ahg hx hy) fun X=>Akq ho⟩
   ·cases h
  ·cases h
 ·cases h
end
def Al4(s:A2 UInt8)(pos:Nat):Int×Nat:=((Utf8.decode ⟨s.toArray⟩ pos).1,(Utf8.decode ⟨s.toArray⟩ pos).2)
section
variable{P:Program}{R:Type}
theorem Al5{w:World}{r:Nat}{s:ByteArray}{p:Nat}(hr:w.heap[r]? = some (.stringIter s p))(o':Obj):(setObj r o').run P w = .ok () { w with heap:=w.heap.setIfInBounds r o' }:=by simp[setObj,Sem.run,hr]
theorem A6f{w:World}{r:Nat}{s:ByteArray}{p:Nat}(hr:w.heap[r]? = some (.stringIter s p)):(getObj r).run P w = .ok (.stringIter s p) w:=by simp[getObj,Sem.run,hr]
theorem Aq4{o:Oper}{X:A7}{t:TypeId}{x:Operand}{s:A2 UInt8}(k:Nat)(ho:o.op = .range t x)(ht:P.underlying t=some .string)(hk:X.objs.lookup k=none)(hX:B7 [k] X=true) :
  Bp P o [(x,.d (.bs s))] X ⟨(k,.Oy ⟨s.toArray⟩ 0)::X.objs,X.live⟩ [k] (.ptr k 0):=by
 intro nm Ek B g w a hr Aq next Q hn
 have e1:=(H9 Aq).Al;simp only at e1;obtain⟨h1,h2⟩:=hr.newObj hk hX (.stringIter ⟨s.toArray⟩ 0) (.Oy ⟨s.toArray⟩ 0) (by
  intro g' w' _ hw;exact .Oy _ _ hw)
 unfold Oper.wp;have:(execOp a.eval o).run P w = .ok (.value (.pointer (some ⟨w.heap.size,0,none⟩))) (w.alloc (.stringIter ⟨s.toArray⟩ 0)):=by simp only[execOp,ho,e1];simp[Instr.range,Bl0 ht]
 rw[this];refine hn _ _ _ h1 h2 ?_;have:=RA.ptr (g:={ g with ρ:=Nj g.ρ k w.heap.size }) (w:=w.alloc (.stringIter ⟨s.toArray⟩ 0)) k 0;simpa[Aa]using this
theorem Aua{o:Oper}{X:A7}{x:Operand}{k:Nat}{s:A2 UInt8}{pos:Nat}(ho:o.op = .next x true)(hk:X.objs.lookup k=some (.Oy ⟨s.toArray⟩ pos))(hp:pos<s.length) :
  Bp P o [(x,.ptr k 0)] X ⟨Ab.setObj k (.Oy ⟨s.toArray⟩ (pos+(Al4 s pos).2)) X.objs,X.live⟩ [] (.E2 [.d (.sc (.bool true)),.d (.sc (.int .i64 (pos:Int))),.d (.sc (.int .i32 (Al4 s pos).1))]):=by
 intro nm Ek B g w a hr Aq next Q hn
 have e1:=(H9 Aq).Is;simp only at e1;have hb:w.heap[g.ρ k]? = some (.stringIter ⟨s.toArray⟩ pos):=by
  cases hr.objs k _ hk with
  |Oy _ _ h=>exact h
 have Bs:g.ρ k<w.heap.size:=(Blf.1 hb).1;obtain⟨h1,h2⟩:=hr.write (w':={ w with heap:=w.heap.setIfInBounds (g.ρ k) (.stringIter ⟨s.toArray⟩ (pos+(Al4 s pos).2)) }) (o':=.Oy ⟨s.toArray⟩ (pos+(Al4 s pos).2)) hk (by simp) ⟨rfl,rfl,rfl,Bl1 _⟩
  (by intro b G0;simp[Bnf G0]) (fun _=>.Oy _ _ (by simp[Bs])) (by
   intro sh hsh;simp[World.shape?,hb]at hsh)
 unfold Oper.wp;have:(execOp a.eval o).run P w = .ok (.value (.tuple #[.bool true,goInt pos,.int .i32 (Al4 s pos).1])) { w with heap:=w.heap.setIfInBounds (g.ρ k) (.stringIter ⟨s.toArray⟩ (pos+(Al4 s pos).2)) }:=by
  have G9:pos<(⟨s.toArray⟩:ByteArray).size:=by show pos<s.toArray.size;simpa using hp
  simp only[execOp,ho,e1,Instr.next,Blo,A6f hb,Result.andThen,G9,Bn5,Al5 hb,Al4];simp
 rw[this];refine hn _ _ _ h1 h2 ?_;refine .E2 _ _ rfl fun i c u hc hu=>?_
 rcases i with _|_|_|i
 ·simp at hc hu;subst hc;subst hu;exact .Fh _ _ _
 ·simp at hc hu;subst hc;subst hu;exact .Fh _ _ _
 ·simp at hc hu;subst hc;subst hu;exact .Fh _ _ _
 ·simp at hc
theorem Aq5{o:Oper}{X:A7}{x:Operand}{k:Nat}{s:A2 UInt8}{pos:Nat}(ho:o.op = .next x true)(hk:X.objs.lookup k=some (.Oy ⟨s.toArray⟩ pos))(hp:¬pos<s.length) :
  Bp P o [(x,.ptr k 0)] X X [] (.E2 [.d (.sc (.bool false))]) :=
 .quiet fun _ _ g w ac hr Aq=>by
  have e1:=(H9 Aq).Is;simp only at e1;have hb:w.heap[g.ρ k]? = some (.stringIter ⟨s.toArray⟩ pos):=by
   cases hr.objs k _ hk with
   |Oy _ _ h=>exact h
  have G9:¬pos<(⟨s.toArray⟩:ByteArray).size:=by show ¬pos<s.toArray.size;simpa using hp
  refine⟨.tuple #[.bool false],?_,?_⟩
  ·simp only[execOp,ho,e1,Instr.next,Blo,A6f hb,Result.andThen,G9,Bn2];simp
  ·refine .E2 _ _ rfl fun i c u hc hu=>?_
   rcases i with _|i
   ·simp at hc hu;subst hc;subst hu;exact .Fh _ _ _
   ·simp at hc
def Ay8(P:Program)(st:Ad)(o:Oper)(t:TypeId)(x:Operand)(K:Out→A3 R):A3 R :=
 match P.underlying t with
 |some .string=>match xd st x,newName o with
  |some (.s l),some m=>cond (fresh m st) (K ⟨.all,.nm m (.p 0),[(x,.d (.s l))],(m,.Oy l 0)::st.objs,st.live,[m],[m]⟩) none
  |_,_=>none
 |_=>none
theorem B3l{o:Oper}{st:Ad}{t:TypeId}{x:Operand}{K:Out→A3 R}{r:R}(ho:o.op = .range t x)(h:Ay8 P st o t x K=some r):∃out,K out=some r∧Br P o st out:=by
 unfold Ay8 at h;split at h
 ·rename_i ht;split at h
  ·rename_i l m hx hm;cases hf:fresh m st with
   |false=>simp[hf]at h
   |true =>
    simp only[hf,Bkn]at h;obtain⟨h1,h2⟩:=M9 hf;refine⟨_,h,⟨A19 hx,?_,fun j z hj hz=>?_⟩⟩
    ·exact Aq4 m ho ht (Ma h1) h2
    ·rw[Cq (by simpa using hj)]at hz;exact hz
  ·cases h
 ·cases h
def B7a(st:Ad)(x:Operand)(str:Bool)(K:Out→A3 R):A3 R :=
 cond str (match Av st x with
  |some (.nm k (.p 0))=>match lk k st.objs with
   |some (.Oy s pos)=>cond (Nat.blt pos s.length)
     (K ⟨.put k (.Oy s (pos+(Al4 s pos).2)),.E2 [.d (.b true),.d (.i .i64 (pos:Int)),.d (.i .i32 (Al4 s pos).1)],[(x,.nm k (.p 0))],K6 k (.Oy s (pos+(Al4 s pos).2)) st.objs,st.live,[],[k]⟩)
     (K ⟨.look [k],.E2 [.d (.b false)],[(x,.nm k (.p 0))],st.objs,st.live,[],[]⟩)
   |_=>none
  |_=>none) none
theorem B7b{o:Oper}{st:Ad}{x:Operand}{str:Bool}{K:Out→A3 R}{r:R}(ho:o.op = .next x str)(h:B7a st x str K=some r):∃out,K out=some r∧Br P o st out:=by
 unfold B7a at h;cases str with
 |false=>cases h
 |true =>
  simp only[Bkn]at h;split at h
  ·rename_i k hx;split at h
   ·rename_i s pos hk;have Kz:st.X.objs.lookup k=some (.Oy ⟨s.toArray⟩ pos):=by show(A6 st.objs).lookup k=_;exact H7 hk
    cases hb:Nat.blt pos s.length with
    |true =>
     simp only[hb,Bkn]at h;refine⟨_,h,⟨Cg hx,⟨⟨Hb hk rfl rfl,rfl⟩,rfl,rfl,fun X hX=>?_⟩,fun j z hj hz=>?_⟩⟩
     ·exact Aua ho (hX.trans Kz) (by simpa[Bmk]using hb)
     ·simp only[Bkq,Blh,Bma]at hj
      rwa [Jl _ _ _ _ hj]at hz
    |false =>
     simp only[hb,Bko]at h;refine⟨_,h,⟨Cg hx,⟨rfl,rfl,rfl,fun X hX=>?_⟩,fun _ _ _ h=>h⟩⟩;exact Aq5 ho ((hX k (by simp)).trans Kz) (by
      intro Bs;have:Nat.blt pos s.length=true:=by simpa[Bmk]using Bs
      rw[hb]at this;cases this)
   ·cases h
  ·cases h
end
section
variable{P:Program}{R:Type}
def A9x(P:Program)(t:TypeId):Bool :=
 match P.underlying t with
 |some (.interface _)=>false
 |some _=>true
 |none=>false
theorem run_makeInterface{t:TypeId}(h:A9x P t=true)(v:Value)(w:World):(Instr.makeInterface t v).run P w = .ok (.iface t v) w:=by
 unfold A9x at h;split at h
 ·cases h
 ·rename_i d hd hne;have:∀d',P.underlying t=some d'→(∀ms,d'≠.interface ms)→(Instr.makeInterface t v).run P w = .ok (.iface t v) w:=by
   intro d' h1 h2;simp only[Instr.makeInterface,Blo,Bl0 h1,Result.andThen];cases d' with
   |interface ms=>exact absurd rfl (h2 _)
   |_=>rfl
  exact this _ hne (fun ms e=>hd ms e)
 ·cases h
def Vf(P:Program)(st:Ad)(t:TypeId)(x:Operand)(K:Out→A3 R):A3 R :=
 cond (A9x P t) (match Av st x with
  |some (.d (.i k n))=>K (B5 st (.d (.ic t k (some n))) [(x,.d (.i k n))])
  |some v=>K (B5 st (.d (.er true)) [(x,v)])
  |none=>none) none
theorem A9y{o:Oper}{st:Ad}{t:TypeId}{x:Operand}{K:Out→A3 R}{r:R}(ho:o.op = .makeInterface t x)(h:Vf P st t x K=some r):∃out,K out=some r∧Br P o st out:=by
 unfold Vf at h;cases hn:A9x P t with
 |false=>simp[hn]at h
 |true =>
  simp only[hn,Bkn]at h;split at h
  ·rename_i k n hx;refine⟨_,h,A8 (Cg hx) fun X=>?_⟩;refine .quiet fun _ _ g w a _ Aq=>⟨.iface t (.int k n),?_,.Fh _ _ _⟩
   have h1:=(H9 Aq).Al;simp only at h1;simp only[execOp,ho,h1];simp[run_makeInterface hn]
  ·rename_i v _ hx;refine⟨_,h,A8 (Cg hx) fun X=>?_⟩;refine .quiet fun _ _ g w a _ Aq=>⟨.iface t (a.eval x),?_,?_⟩
   ·simp only[execOp,ho];simp[run_makeInterface hn]
   ·exact .d _ _ (.any _ _ ⟨t,_,rfl⟩ rfl)
  ·cases h
theorem B3m{t:TypeId}{ms:Array (String×TypeId)}(ht:P.underlying t=some (.interface ms)){u:TypeId}{k:IntKind}{i:TypeInfo}(hi:P.info? u=some i)(hc:i.comparable=true)(hu:P.underlying u=some (.int k))(a:A3 Int)(n:Int)(w:World) :
  (Op.equal t (icV u k a) (.iface u (.int k n))).run P w = .ok (a==some n) w:=by
 have h:∀d:Nat,(Op.equalIn (d+2) t (icV u k a) (.iface u (.int k n))).run P w = .ok (a==some n) w:=by
  intro d;cases a with
  |none=>simp[icV,Op.equalIn,Bl0 ht]
  |some m=>simp[icV,Op.equalIn,Bl0 ht,typeInfo,hi,hc,Bl0 hu]
 exact h 9998
def icT(P:Program)(u:TypeId)(k:IntKind):Bool :=
 match P.underlying u,P.info? u with
 |some (.int k'),some i=>cond (Il k' k) i.comparable false
 |_,_=>false
def Ay9(P:Program)(st:Ad)(op:BinOp)(t:TypeId)(x y:Operand)(K:Out→A3 R):A3 R :=
 match Ahf op,P.underlying t,Av st x,Av st y with
 |some neg,some (.interface _),some (.d (.ic u k a)),some (.d (.ic u' k' (some n)))=>cond (Nat.beq u u') (cond (Il k k') (cond (icT P u k)
   (K (B5 st (.d (.b (cond neg (!(a==some n)) (a==some n)))) [(x,.d (.ic u k a)),(y,.d (.ic u' k' (some n)))])) none) none) none
 |_,_,_,_=>B78 P st op t x y K
theorem Aya(neg:Bool)(t:TypeId)(x y:Operand)(v:Value)(u:TypeId)(z:Value):eqGuard (Qd neg) t x y v (.iface u z)=pure ():=by cases neg<;>cases v<;>rfl
theorem B3n{o:Oper}{st:Ad}{op:BinOp}{t t':TypeId}{x y:Operand}{K:Out→A3 R}{r:R}(ho:o.op = .binOp op t x y t')(h:Ay9 P st op t x y K=some r):∃out,K out=some r∧Br P o st out:=by
 unfold Ay9 at h;split at h
 ·rename_i neg ms u k a u' k' n hn ht hx hy;cases h1:Nat.beq u u' with
  |false=>simp[h1]at h
  |true =>
  cases h2:Il k k' with
  |false=>simp[h1,h2]at h
  |true =>
  cases h3:icT P u k with
  |false=>simp[h1,h2,h3]at h
  |true =>
   simp only[h1,h2,h3,Bkn]at h;have e1:=Bkr h1;have e2:=Fi h2;subst e1;subst e2;have:=A2f hn;subst this;obtain⟨i,hu,hi,hc⟩:∃i,P.underlying u=some (.int k)∧P.info? u=some i∧i.comparable=true:=by
    unfold icT at h3;split at h3
    ·rename_i k'' i hu hi;cases hk:Il k'' k with
     |false=>simp[hk]at h3
     |true =>simp only[hk,Bkn]at h3;rw[Fi hk]at hu;exact⟨i,hu,hi,h3⟩
    ·cases h3
   refine⟨_,h,A8 ?_ fun X=>?_⟩
   ·intro p hp;simp only[B0,Bkv,Bll,Bkq,Blh,Bma]at hp;rcases hp with rfl|rfl
    ·exact Aj hx
    ·exact Aj hy
   ·refine .quiet fun _ _ g w ac _ Aq=>?_
    have h4:=(H9 Aq).Al;have h5:=(T9 Aq).Al;simp only at h4 h5;refine⟨_,?_,.Fh _ _ _⟩;simp only[execOp,ho,h4,h5];rw[show icV u k (some n) = .iface u (.int k n)from rfl,Aya];cases neg<;>simp[Qd,binOp,B3m ht hi hc hu]
 ·exact B79 ho h
def Bgk(P:Program)(t:TypeId):Bool :=
 match P.underlying t with
 |some d=>A90 d
 |none=>true
def Ayb(P:Program)(st:Ad)(t:TypeId)(x:Operand)(ty:Ty)(l:List ty.T)(K:Out→A3 R):A3 R :=
 match tyI P t with
 |some (agg,sz)=>cond agg none (cond (Nat.beq sz 1) (cond ty.agg none (Ee l none fun z r=>K (B5 st (.d (ty.xv z)) [(x,.d (.pa ty (z::r)))]))) none)
 |none=>none
def Ayc(P:Program)(st:Ad)(t:TypeId)(x:Operand)(K:Out→A3 R):A3 R :=
 match Av st x with
 |some (.d (.pa ty l))=>cond (Bgk P t) (B0t P st t x K) (Ayb P st t x ty l K)
 |_=>B0t P st t x K
theorem B3o{o:Oper}{st:Ad}{t:TypeId}{x:Operand}{ty:Ty}{l:List ty.T}{K:Out→A3 R}{r:R}(ho:o.op = .load t x)(hx:Av st x=some (.d (.pa ty l)))(h:Ayb P st t x ty l K=some r):∃out,K out=some r∧Br P o st out:=by
 unfold Ayb at h;split at h
 ·rename_i agg sz ht;cases ha0:agg with
  |true=>simp only[ha0,Bkn]at h;cases h
  |false =>
  cases hs:Nat.beq sz 1 with
  |false=>simp only[ha0,hs,Bko]at h;cases h
  |true =>
  cases ha:ty.agg with
  |true=>simp only[ha0,hs,ha,Bko,Bkn]at h;cases h
  |false =>
   simp only[ha0,hs,ha,Bko,Bkn]at h;have:=Bkr hs;subst this;subst ha0;cases l with
   |nil=>simp only[Ee]at h;cases h
   |cons z r' =>
    simp only[Ee]at h;refine⟨_,h,A8 (Cg hx) fun X=>?_⟩;have:=Ady (P:=P) (X:=X) (x:=x) (c:=ty.dv z) (cs:=(r'.map ty.ds).flatten) ho (X4 ht);have e:(XV.d (.pa ty (z::r'))).a = .d (.ep (ty.dv z::(r'.map ty.ds).flatten)):=by show AV.d (.ep (((z::r').map ty.ds).flatten))=_;rw[Bkv,Bmj,ty.A02 z ha];rfl
    show Bp P o [(x,(XV.d (.pa ty (z::r'))).a)] X X [] _;rw[e];exact this
 ·cases h
theorem B3p{o:Oper}{st:Ad}{t:TypeId}{x:Operand}{K:Out→A3 R}{r:R}(ho:o.op = .load t x)(h:Ayc P st t x K=some r):∃out,K out=some r∧Br P o st out:=by
 unfold Ayc at h;split at h
 ·rename_i ty l hx;cases ha:Bgk P t with
  |true=>simp only[ha,Bkn]at h;exact Atx ho h
  |false=>simp only[ha,Bko]at h;exact B3o ho hx h
 ·exact Atx ho h
end
section
variable{P:Program}{R:Type}
def A6g(P:Program)(e:TypeId)(ty:Ty):A3 (A2 Value×ty.T) :=
 match A7e P e with
 |some l=>match ty.dec (l.map Vd) with
  |some (x,[])=>some (l,x)
  |_=>none
 |none=>none
theorem Ahh:∀(l:A2 Value),D6 (l.map Vd)=l.map D.sc
 |[]=>rfl
 |v::r=>by simp only[Bkv,D6,A27,Ahh r]
theorem Aub{e:TypeId}{ty:Ty}{l:A2 Value}{x:ty.T}(h:A6g P e ty=some (l,x)):A7e P e=some l∧Lm (l.map D.sc) (ty.ds x):=by
 unfold A6g at h;split at h
 ·rename_i l' hl;split at h
  ·rename_i y hd;cases h;obtain⟨ds,h1,h2⟩:=Ty.V8 ty hd;simp only[D6,Blt]at h1;rw[Ahh]at h1;exact⟨hl,h1▸h2⟩
  ·cases h
 ·cases h
theorem A9z{e:TypeId}{l:A2 Value}(h:A7e P e=some l):∃i z,P.info? e=some i∧i.zero=some z∧z.cells.toList=l:=by
 unfold A7e at h;split at h
 ·rename_i i hi;split at h
  ·rename_i z hz;cases h;exact⟨i,z,hi,hz,rfl⟩
  ·cases h
 ·cases h
def Amk(P:Program)(e:TypeId)(n:Nat):A3 Nat :=
 match P.info? e with
 |some i=>cond (Nat.beq i.size n) (some i.bytes) none
 |none=>none
theorem Auc{e n b:Nat}(h:Amk P e n=some b):∃i,P.info? e=some i∧i.size=n∧i.bytes=b:=by
 unfold Amk at h;split at h
 ·rename_i i hi;cases hb:Nat.beq i.size n with
  |false=>simp[hb]at h
  |true=>simp only[hb,Bkn,Bks]at h;exact⟨i,hi,Bkr hb,h⟩
 ·cases h
def Bir(z:UInt8)(n:Nat):A2 UInt8:=List.replicate n z
def Ace:Operand→Operand→Bool
 |.tmp a,.tmp b=>Nat.beq a b
 |_,_=>false
theorem Aml{x y:Operand}(h:Ace x y=true):x=y:=by
 unfold Ace at h;split at h
 ·rw[Bkr h]
 ·cases h
def roomFor(b:Nat)(n:Int):Bool:=decide (0≤n)&&(decide (b*n.toNat≤281474976710656)&&decide (n≤9223372036854775807))
def Bgl(own:A2 Nat)(o:Oper):Bool :=
 match o.dst with
 |some d=>inl (1000000+d) own
 |none=>false
theorem Aa0{o:Oper}{X:A7}{m:Nat}{t e:TypeId}{x y:Operand}{kl kc:IntKind}{n:Int}{ty:Ty}{l:A2 Value}{z:ty.T}{b:Nat}(ho:o.op = .makeSlice t x y)(ht:P.underlying t=some (.slice e))
  (hz:A6g P e ty=some (l,z)) (hb:Amk P e ty.size=some b) (h0:Nat.beq ty.size 0=false) (hr:roomFor b n=true) (hm:X.objs.lookup m=none) (hX:B7 [m] X=true) (tt:A3 TypeId) (htt:∀t',tt=some t'→t'=e) :
  Bp P o [(x,.d (.sc (.int kl n))),(y,.d (.sc (.int kc n)))] X ⟨(m,.cells (((List.replicate n.toNat z).map ty.ds).flatten.map .d) tt)::X.objs,X.live⟩ [m] (.osl m (0*ty.size) n.toNat ty.size):=by
 rw[Bnt];obtain⟨h1,h2⟩:=Aub hz;obtain⟨i,v,h3,h4,h5⟩:=A9z h1;obtain⟨i',h6,h7,h8⟩:=Auc hb;rw[h3]at h6;cases h6;unfold roomFor at hr;simp only[Bls,Bnp]at hr;obtain⟨r1,r2,r3⟩:=hr;obtain⟨k,rfl⟩:=Int.eq_ofNat_of_zero_le r1;rw[Bpx]at r2⊢;have hl:=Ty.Cf ty z;have Nz:v.cells.size=(ty.ds z).length:=by have:=h2.length;rw[Blb,← h5]at this;simpa using this
 have:=Ap5 (P:=P) (o:=o) (X:=X) m (x:=x) (y:=y) (kl:=kl) (kc:=kc) (n:=k) (zds:=ty.ds z) ho ht h3 h4 (h7.trans hl.symm) Nz (by
  intro γ w j c u hc hu;obtain⟨c',hc',hle⟩:=h2.get hc;rw[Bkt,← h5,Bml,hu]at hc';simp only[Blq,Bks]at hc';subst hc';exact hle _ _ _ (.sc u)) (by rw[hl];exact Nat.pos_of_ne_zero (Bmw h0)) (by rw[h8];exact r2) (by omega) hm hX tt htt
 rw[hl]at this;rw[List.map_replicate];exact this
def Ahi(P:Program)(st:Ad)(o:Oper)(t:TypeId)(x y:Operand)(K:Out→A3 R):A3 R :=
 match P.underlying t with
 |some (.slice e)=>match Api P 9 e,newName o with
  |some ty,some m=>match A6g P e ty,Amk P e ty.size,xd st x with
   | some (l, z), some b, some (.i kl n) => cond (Ace x y) (cond (Nat.beq (ty).size 0) none (cond (roomFor b n) (cond (fresh m st)
      (K ⟨.all,.os m ty 0 n.toNat,[(x,.d (.i kl n)),(y,.d (.i kl n))],(m,.arr ty (List.replicate n.toNat z))::st.objs,st.live,[m],[m]⟩) none) none)) none
   |_,_,_=>none
  |_,_=>none
 |_=>none
theorem Aud{o:Oper}{st:Ad}{t:TypeId}{x y:Operand}{K:Out→A3 R}{r:R}(ho:o.op = .makeSlice t x y)(h:Ahi P st o t x y K=some r):∃out,K out=some r∧Br P o st out:=by
 unfold Ahi at h;split at h
 ·rename_i e ht;split at h
  ·rename_i ty m Yl hm;split at h
   ·rename_i l z b kl n hz hb hx;cases h1:Ace x y with
    |false=>simp only[h1,Bko]at h;cases h
    |true =>
    cases h2:Nat.beq (ty).size 0 with
    |true=>simp only[h1,h2,Bkn]at h;cases h
    |false =>
    cases h3:roomFor b n with
    |false=>simp only[h1,h2,h3,Bkn,Bko]at h;cases h
    |true =>
    cases h4:fresh m st with
    |false=>simp only[h1,h2,h3,h4,Bkn,Bko]at h;cases h
    |true =>
    simp only[h1,h2,h3,h4,Bkn,Bko]at h;obtain⟨f1,f2⟩:=M9 h4;have hxy:=Aml h1;subst hxy;refine⟨_,h,⟨?_,?_,fun j w hj hw=>?_⟩⟩
    ·intro p hp;simp only[B0,Bkv,Bll,Bkq,Blh,Bma,or_self]at hp;subst hp;exact X3 hx
    ·exact Aa0 (X:=st.X) (x:=x) (y:=x) (kl:=kl) (kc:=kl) (n:=n) (ty:=ty) ho ht hz hb h2 h3 (Ma f1) f2 none (by simp)
    ·rw[Cq (by simpa using hj)]at hw;exact hw
   ·cases h
  ·cases h
 ·cases h
def Ayd(P:Program)(st:Ad)(o:Oper)(t:TypeId)(x y:Operand)(K:Out→A3 R):A3 R :=
 match P.underlying t with
 |some (.slice e)=>match newName o with
  |some m=>match A6g P e .u8,Amk P e Ty.u8.size,xd st x with
   | some (l, z), some b, some (.i kl n) => cond (Ace x y) (cond (Nat.beq (Ty.u8).size 0) none (cond (roomFor b n) (cond (fresh m st)
      (K ⟨.all,.os m .u8 0 n.toNat,[(x,.d (.i kl n)),(y,.d (.i kl n))],(m,.bts e (Bir z n.toNat))::st.objs,st.live,[m],[m]⟩) none) none)) none
   |_,_,_=>none
  |_=>none
 |_=>none
theorem B3q{o:Oper}{st:Ad}{t:TypeId}{x y:Operand}{K:Out→A3 R}{r:R}(ho:o.op = .makeSlice t x y)(h:Ayd P st o t x y K=some r):∃out,K out=some r∧Br P o st out:=by
 unfold Ayd at h;split at h
 ·rename_i e ht;split at h
  ·rename_i m hm;split at h
   ·rename_i l z b kl n hz hb hx;cases h1:Ace x y with
    |false=>simp only[h1,Bko]at h;cases h
    |true =>
    cases h2:Nat.beq (Ty.u8).size 0 with
    |true=>simp only[h1,h2,Bkn]at h;cases h
    |false =>
    cases h3:roomFor b n with
    |false=>simp only[h1,h2,h3,Bkn,Bko]at h;cases h
    |true =>
    cases h4:fresh m st with
    |false=>simp only[h1,h2,h3,h4,Bkn,Bko]at h;cases h
    |true =>
    simp only[h1,h2,h3,h4,Bkn,Bko]at h;obtain⟨f1,f2⟩:=M9 h4;have hxy:=Aml h1;subst hxy;refine⟨_,h,⟨?_,?_,fun j w hj hw=>?_⟩⟩
    ·intro p hp;simp only[B0,Bkv,Bll,Bkq,Blh,Bma,or_self]at hp;subst hp;exact X3 hx
    ·exact Aa0 (X:=st.X) (x:=x) (y:=x) (kl:=kl) (kc:=kl) (n:=n) (ty:=Ty.u8) ho ht hz hb h2 h3 (Ma f1) f2 (some e) (by simp)
    ·rw[Cq (by simpa using hj)]at hw;exact hw
   ·cases h
  ·cases h
 ·cases h
def A7h(P:Program)(own:A2 Nat)(st:Ad)(o:Oper)(t:TypeId)(x y:Operand)(K:Out→A3 R):A3 R :=
 cond (Bgl own o) (Ayd P st o t x y K) (Ahi P st o t x y K)
theorem Al6{own:A2 Nat}{o:Oper}{st:Ad}{t:TypeId}{x y:Operand}{K:Out→A3 R}{r:R}(ho:o.op = .makeSlice t x y)(h:A7h P own st o t x y K=some r):∃out,K out=some r∧Br P o st out:=by
 unfold A7h at h;cases hb:Bgl own o with
 |true=>simp only[hb,Bkn]at h;exact B3q ho h
 |false=>simp only[hb,Bko]at h;exact Aud ho h
def B7c(P:Program)(st:Ad)(ts:Array TypeId)(x y:Operand)(K:Out→A3 R):A3 R :=
 match ts.toList with
 |[dT,sT]=>match P.underlying dT with
  |some (.slice e)=>match Amk P e 1,Av st x,xd st y with
   |some _,some (.os k .u8 0 len),some (.s s)=>match lk k st.objs with
    |some (.bts e' l)=>cond (Nat.beq len l.length) (cond (Nat.beq l.length s.length)
      (K ⟨.put k (.bts e' s),.d (.i .i64 ((s.length:Nat):Int)),[(x,.os k .u8 0 len),(y,.d (.s s))],K6 k (.bts e' s) st.objs,st.live,[],[k]⟩) none) none
    |_=>none
   |_,_,_=>none
  |_=>none
 |_=>none
theorem B7d{o:Oper}{st:Ad}{ts:Array TypeId}{x y:Operand}{K:Out→A3 R}{r:R}(ho:o.op = .call { callee:=.builtin .copy,args:=#[x,y],argTypes:=ts })(h:B7c P st ts x y K=some r):∃out,K out=some r∧Br P o st out:=by
 unfold B7c at h;split at h
 ·rename_i dT sT hts;have:ts=#[dT,sT]:=Bq4.1 hts;subst this;split at h
  ·rename_i e hu;split at h
   ·rename_i b k len s hb hx hy;split at h
    ·rename_i e' l hk;cases h1:Nat.beq len l.length with
     |false=>simp only[h1,Bko]at h;cases h
     |true =>
     cases h2:Nat.beq l.length s.length with
     |false=>simp only[h1,h2,Bkn,Bko]at h;cases h
     |true =>
     simp only[h1,h2,Bkn]at h;have e1:=Bkr h1;subst e1;obtain⟨i,i1,i2,_⟩:=Auc hb;have Kz:st.X.objs.lookup k=some (Ac.bts e' l).o:=by show(A6 st.objs).lookup k=_;exact H7 hk
     refine⟨_,h,⟨Ahg hx hy,⟨⟨Hb hk rfl rfl,rfl⟩,rfl,rfl,fun X hX=>?_⟩,fun j z hj hz=>?_⟩⟩
     ·exact Atg ho rfl hu i1 i2 (hX.trans Kz) (Bkr h2)
     ·simp only[Bkq,Blh,Bma]at hj
      rwa [Jl _ _ _ _ hj]at hz
    ·cases h
   ·cases h
  ·cases h
 ·cases h
def A7i(P:Program)(st:Ad)(ts:Array TypeId)(x y:Operand)(k:Nat)(e:TypeId)(l:A2 UInt8)(v:XV)(K:Out→A3 R):A3 R :=
 match ts.toList with
 |[pt,it]=>match P.underlying pt with
  |some (.pointer e')=>match xd st y with
   |some (.i .i64 m)=>cond (Nat.beq l.length 0) none (cond (m==((l.length:Nat):Int)) (cond (Nat.ble 1000 k) (cond (Nat.beq e' e) (cond (Nat.beq (P.cellsOf e) 1) (cond (cond (decide (l.length≤9223372036854775807)) (H8 k st.objs) false)
     (K ⟨.all,.d (.s l),[(x,v),(y,.d (.i .i64 m))],Df k st.objs,st.live,[],[]⟩) none) none) none) none) none)
   |_=>none
  |_=>none
 |_=>none
theorem Al7{o:Oper}{st:Ad}{ts:Array TypeId}{x y:Operand}{k:Nat}{e:TypeId}{l:A2 UInt8}{v:XV}{K:Out→A3 R}{r:R}(ho:o.op = .call { callee:=.builtin .unsafeString,args:=#[x,y],argTypes:=ts })(hx:Av st x=some v)(hv:v.a = .ptr k 0)
  (hk:lk k st.objs=some (.bts e l)) (h:A7i P st ts x y k e l v K=some r):∃out,K out=some r∧Br P o st out:=by
 unfold A7i at h;split at h
 ·rename_i pt it hts;have:ts=#[pt,it]:=Bq4.1 hts;subst this;split at h
  ·rename_i e' hp;split at h
   ·rename_i m hy;cases h0:Nat.beq l.length 0 with
    |true=>simp only[h0,Bkn]at h;cases h
    |false =>
    cases h1:(m==((l.length:Nat):Int)) with
    |false=>simp only[h0,h1,Bko]at h;cases h
    |true =>
    cases h2:Nat.ble 1000 k with
    |false=>simp only[h0,h1,h2,Bkn,Bko]at h;cases h
    |true =>
    cases h3:Nat.beq e' e with
    |false=>simp only[h0,h1,h2,h3,Bkn,Bko]at h;cases h
    |true =>
    cases h4:Nat.beq (P.cellsOf e) 1 with
    |false=>simp only[h0,h1,h2,h3,h4,Bkn,Bko]at h;cases h
    |true =>
    cases h5:cond (decide (l.length≤9223372036854775807)) (H8 k st.objs) false with
    |false=>simp only[h0,h1,h2,h3,h4,h5,Bkn,Bko]at h;cases h
    |true =>
    simp only[h0,h1,h2,h3,h4,h5,Bkn,Bko]at h;have h6:H8 k st.objs=true∧decide (l.length≤9223372036854775807)=true:=by
     cases hd:decide (l.length≤9223372036854775807) with
     |false=>rw[hd]at h5;cases h5
     |true=>rw[hd]at h5;exact⟨h5,rfl⟩
    have e1:=Bkr h3;subst e1;have hm:=eq_of_beq h1;subst hm;have Kz:st.X.objs.lookup k=some (Ac.bts e' l).o:=by show(A6 st.objs).lookup k=_;exact H7 hk
    refine⟨_,h,⟨Ahg hx hy,?_,fun j z _ hz=>Sf hz⟩⟩;have hop:=Akw (X:=st.X) ho Kz (Bl5 h2) (by rintro rfl;simp at h0) hp (Bkr h4) (Bpb h6.2);have e2:Ab.B1 k st.X=⟨A6 (Df k st.objs),st.live⟩:=by rw[Qc h6.1];rfl
    rw[e2]at hop;simp only[B0,Bkv,Bll,hv];exact hop
   ·cases h
  ·cases h
 ·cases h
def A2h(P:Program)(st:Ad)(ts:Array TypeId)(x y:Operand)(K:Out→A3 R):A3 R :=
 match Av st x with
 |some (.el k .u8 0 0)=>match lk k st.objs with
  |some (.bts e l)=>A7i P st ts x y k e l (.el k .u8 0 0) K
  |_=>none
 |_=>Y2 P st ts x y K
theorem Ahj{o:Oper}{st:Ad}{ts:Array TypeId}{x y:Operand}{K:Out→A3 R}{r:R}(ho:o.op = .call { callee:=.builtin .unsafeString,args:=#[x,y],argTypes:=ts })(h:A2h P st ts x y K=some r):∃out,K out=some r∧Br P o st out:=by
 unfold A2h at h;split at h
 ·rename_i k hx;split at h
  ·rename_i e l hk;exact Al7 ho hx rfl hk h
  ·cases h
 ·exact Acd ho h
def Afw(P:Program)(e:TypeId):Bool :=
 match P.underlying e with
 |some (.int .u8)=>true
 |_=>false
theorem Aye{e:TypeId}(h:Afw P e=true):P.underlying e=some (.int .u8):=by
 unfold Afw at h;split at h
 ·assumption
 ·cases h
def Ayf(P:Program)(st:Ad)(s d:TypeId)(x:Operand)(K:Out→A3 R):A3 R :=
 match P.underlying s,P.underlying d with
 |some .string,some (.slice e)=>match xd st x with
  |some (.s l)=>cond (Afw P e) (K (B5 st (.d (.sl .u8 l)) [(x,.d (.s l))])) none
  |_=>none
 |_,_=>Ay7 P st s d x K
theorem B3r{o:Oper}{st:Ad}{s d:TypeId}{x:Operand}{K:Out→A3 R}{r:R}(ho:o.op = .convert s d x)(h:Ayf P st s d x K=some r):∃out,K out=some r∧Br P o st out:=by
 unfold Ayf at h;split at h
 ·rename_i e hs hd;split at h
  ·rename_i l hx;cases hb:Afw P e with
   |false=>simp only[hb,Bko]at h;cases h
   |true =>
   simp only[hb,Bkn]at h;refine⟨_,h,A8 ?_ fun X=>Afg ho hs hd (Aye hb)⟩;intro p hp;simp only[B0,Bkv,Bll,Bkq,Blh,Bma]at hp;subst hp;exact X3 hx
  ·cases h
 ·exact B3k ho h
end
def Acf:A2 XV→A3 (A2 XD)
 |[]=>some []
 |x::r=>match x.asD,Acf r with
  |some y,some l=>some (y::l)
  |_,_=>none
theorem B7e{x:XV}{y:XD}(h:x.asD=some y):Wn x.a (.d y.d):=by
 cases x with
 |d u=>simp only[XV.asD,Bks]at h;subst h;exact .refl _
 |Bu n t l ty=>simp only[XV.asD,Bks]at h;subst h;exact Wn.Bu _ _ _ _
 |_=>simp[XV.asD]at h
theorem Ahk:∀ {cs:A2 XV} {ds:A2 XD},Acf cs=some ds→cs.length=ds.length∧∀(i:Nat) x y,cs[i]? = some x→ds[i]? = some y→Wn x.a (.d y.d)
 |[],ds,h=>by simp[Acf]at h;subst h;exact⟨rfl,by simp⟩
 |x::r,ds,h=>by
  simp only[Acf]at h;split at h
  ·rename_i y l hy hl;cases h;obtain⟨h1,h2⟩:=Ahk hl;refine⟨by simp[h1],fun i a b ha hb=>?_⟩;cases i with
   |zero=>simp at ha hb;subst ha;subst hb;exact B7e hy
   |succ i=>exact h2 i a b (by simpa using ha) (by simpa using hb)
  ·cases h
def B0y:XV→XV
 |.agg cs=>match Acf cs with
  |some ds=>.d (.agg ds)
  |none=>.agg cs
 |x=>x
theorem Aue(x:XV):Wn x.a (B0y x).a:=by
 cases x with
 |agg cs =>
  simp only[B0y];split
  ·rename_i ds hd;obtain⟨hl,hc⟩:=Ahk hd;intro g w v hr;simp only[XV.a,XD.d]at hr⊢;cases hr with
   |agg _ vs hl2 hx =>
    refine .d _ _ (.agg _ vs (by rw[Gn,← hl,← Ag];exact hl2) fun i c u hi hu=>?_);rw[Ha,Bkt,Bky]at hi;obtain⟨y,hy,rfl⟩:=hi;have Bs:i<cs.length:=by rw[hl];exact(Bku.1 hy).1
    have h1:=hc i cs[i] y (Bl8 Bs) hy g w u (hx i cs[i].a u (by rw[L5,Bl8 Bs];rfl) hu);cases h1 with
    |d _ _ h=>exact h
  ·exact .refl _
 |_=>exact .refl _
def Out.tidy(out:Out):Out:={ out with res:=B0y out.res }
theorem A08{P:Program}{o:Oper}{rd:A2 (Operand×AV)}{X X':A7}{F:A2 Nat}{res Bgm:AV}(h:Bp P o rd X X' F res)(hle:Wn res Bgm):Bp P o rd X X' F Bgm :=
 fun nm Ek B g w a hr Aq next Q hn=>h nm Ek B g w a hr Aq next Q fun g' w' v h1 h2 h3=>hn g' w' v h1 h2 (hle g' w' v h3)
theorem Br.tidy{P:Program}{o:Oper}{st:Ad}{out:Out}(h:Br P o st out):Br P o st out.tidy:=by
 refine⟨h.Ri,?_,h.ol⟩;have:=h.op;have hle:=Aue out.res;show match out.U3 with|.none=>_|.look ks=>_|.put k c=>_|.all=>_|.lab=>_|.Nl k c=>_|.new os=>_
 cases he:out.U3 with
 |none=>rw[he]at this;exact⟨this.1,this.2.1,this.2.2.1,fun X=>A08 (this.2.2.2 X) hle⟩
 |look ks=>rw[he]at this;exact⟨this.1,this.2.1,this.2.2.1,fun X hX=>A08 (this.2.2.2 X hX) hle⟩
 |put k c=>rw[he]at this;exact⟨this.1,this.2.1,this.2.2.1,fun X hX=>A08 (this.2.2.2 X hX) hle⟩
 |all=>rw[he]at this;exact A08 this hle
 |lab=>rw[he]at this;exact⟨this.1,A08 this.2 hle⟩
 |Nl k c=>rw[he]at this;exact⟨this.1,A08 this.2 hle⟩
 |new os=>rw[he]at this;exact⟨this.1,A08 this.2 hle⟩
section
variable{P:Program}{R:Type}
def B7f(P:Program)(st:Ad)(t:TypeId)(x:Operand)(K:Out→A3 R):A3 R:=Ayc P st t x fun out=>K out.tidy
theorem B3s{o:Oper}{st:Ad}{t:TypeId}{x:Operand}{K:Out→A3 R}{r:R}(ho:o.op = .load t x)(h:B7f P st t x K=some r):∃out,K out=some r∧Br P o st out:=by obtain⟨out,h1,h2⟩:=B3p ho h;exact⟨_,h1,h2.tidy⟩
end
section
variable{P:Program}{R:Type}
def Afx(P:Program)(ts:Array TypeId):Bool :=
 match ts[1]? with
 |some u=>match P.underlying u with
  |some .string=>true
  |_=>false
 |none=>false
def Aq6(P:Program)(st:Ad)(o:Oper)(ts:Array TypeId)(s x:Operand)(K:Out→A3 R):A3 R :=
 match ts[0]?,Ah8 o with
 |some t,some m =>
  match Fj P t,Av st s,xd st x with
  |some (e,sz,bytes),some (.Bu n .u8 l oty),some (.s l') =>
    cond (Nat.beq sz 1) (cond (inl n st.live) (cond (Qb m (Q4 n st.live) st) (cond (Ah9 oty e)
     (cond (Aw (l.length+l'.length) bytes) (K ⟨.lab,.Bu m .u8 (l++l') oty,[(s,.Bu n .u8 l oty),(x,.d (.s l'))],st.objs,m::Q4 n st.live,[m],[]⟩) none) none) none) none) none
  |_,_,_=>none
 |_,_=>none
theorem Ayg{o:Oper}{st:Ad}{ts:Array TypeId}{s x:Operand}{K:Out→A3 R}{r:R}(ho:o.op = .call { callee:=.builtin .append,args:=#[s,x],argTypes:=ts })(hb:Afx P ts=true)(h:Aq6 P st o ts s x K=some r):∃out,K out=some r∧Br P o st out:=by
 have hu:∃u,ts[1]? = some u∧P.underlying u=some .string:=by
  unfold Afx at hb;split at hb
  ·rename_i u h1;split at hb
   ·rename_i h2;exact⟨u,h1,h2⟩
   ·cases hb
  ·cases hb
 obtain⟨u,hu1,hu2⟩:=hu;unfold Aq6 at h;split at h
 ·rename_i t m ht hm;split at h
  ·rename_i e sz bytes n l oty l' hsl hs hx;cases h1:Nat.beq sz 1 with
   |false=>simp[h1]at h
   |true =>
   cases h2:inl n st.live with
   |false=>simp[h1,h2]at h
   |true =>
   cases h3:Qb m (Q4 n st.live) st with
   |false=>simp[h1,h2,h3]at h
   |true =>
   cases h4:Ah9 oty e with
   |false=>simp[h1,h2,h3,h4]at h
   |true =>
   cases h5:Aw (l.length+l'.length) bytes with
   |false=>simp[h1,h2,h3,h4,h5]at h
   |true =>
    simp only[h1,h2,h3,h4,h5,Bkn]at h;have e1:=Bkr h1;subst e1;obtain⟨f1,f2⟩:=Us h3;obtain⟨b1,b2⟩:=Yu h5;obtain⟨hte,i,z,hi,G9,hby,hz,hzs⟩:=Cb hsl;have Yl:∀e',oty=some e'→e'=e:=by intro e' he;subst he;simp only[Ah9]at h4;exact Bkr h4
    refine⟨_,h,⟨?_,?_,fun _ _ _ h=>h⟩⟩
    ·intro p hp;simp only[B0,Bkv,Bll,Bkq,Blh,Bma]at hp;rcases hp with rfl|rfl
     ·exact Aj hs
     ·exact X3 hx
    ·have := Akx (P := P) (X := st.X) (s := s) (x := x) (n := n) (sz := 1) (es := l.map Ty.u8.ds) (fs := A18 l') (l := l') (ty := oty) m ho ht hu1 hu2 hte hi hz hzs G9 G9 rfl ((D3 _ _).1 h2) f1 f2
       (by intro cs Q2 c hc;rw[A18]at Q2;obtain⟨y,_,rfl⟩:=Bl2.1 Q2;exact Ty.u8.V7 y c hc) (by rw[A18,Blb,Blb,hby];exact b1) (by rw[A18,Blb,Blb];exact b2) Yl
     have e:l.map Ty.u8.ds++A18 l'=(l++l').map Ty.u8.ds:=by rw[Ble];rfl
     rw[e]at this;exact⟨rfl,this⟩
  ·cases h
 ·cases h
end
def Ty.eqv:(t:Ty)→t.T→t.T→Bool
 |.int _,a,b=>decide ((a:Int)=b)
 |.u8,a,b=>decide ((a:UInt8)=b)
 |.str,a,b=>decide ((a:A2 UInt8)=b)
 |.pair s t,a,b=>s.eqv a.1 b.1&&t.eqv a.2 b.2
 |.st1 t,a,b=>t.eqv a b
 |_,_,_=>false
def Ty.key:Ty→Bool
 |.int _=>true
 |.u8=>true
 |.str=>true
 |.pair s t=>cond s.key t.key false
 |.st1 t=>t.key
 |_=>false
theorem Ty.Lr:∀(t:Ty) (a b:t.T),t.key=true→(t.eqv a b=true↔a=b)
 |.int _,a,b,_=>by simp[Ty.eqv]
 |.u8,a,b,_=>by simp[Ty.eqv]
 |.str,a,b,_=>by simp[Ty.eqv]
 |.pair s t,a,b,h=>by
  simp only[Ty.key]at h;cases hs:s.key with
  |false=>simp[hs]at h
  |true =>simp only[hs,Bkn]at h;simp only[Ty.eqv,Bls,s.Lr _ _ hs,t.Lr _ _ h,Prod.ext_iff]
 |.st1 t,a,b,h=>t.Lr a b h
 |.bool,_,_,h=>by simp[Ty.key]at h
 |.sl _,_,_,h=>by simp[Ty.key]at h
 |.unit,_,_,h=>by simp[Ty.key]at h
 |.tab _,_,_,h=>by simp[Ty.key]at h
 |.err,_,_,h=>by simp[Ty.key]at h
 |.ic _ _,_,_,h=>by simp[Ty.key]at h
 |.ptr,_,_,h=>by simp[Ty.key]at h
def Ty.T5:(t:Ty)→t.T→A2 Value
 |.int k,a=>[.int k a]
 |.u8,a=>[.int .u8 (a.toNat:Int)]
 |.str,a=>[.string ⟨a.toArray⟩]
 |.pair s t,a=>s.T5 a.1++t.T5 a.2
 |.st1 t,a=>t.T5 a
 |_,_=>[]
theorem Ty.Y3:∀(t:Ty) (a:t.T),t.key=true→t.ds a=(t.T5 a).map .sc
 |.int _,a,_=>rfl
 |.u8,a,_=>rfl
 |.str,a,_=>rfl
 |.pair s t,a,h=>by
  simp only[Ty.key]at h;cases hs:s.key with
  |false=>simp[hs]at h
  |true =>simp only[hs,Bkn]at h;simp only[Ty.ds,Ty.T5,s.Y3 _ hs,t.Y3 _ h,Ble]
 |.st1 t,a,h=>by simp only[Ty.ds,Ty.T5];exact t.Y3 a h
 |.bool,_,h=>by simp[Ty.key]at h
 |.sl _,_,h=>by simp[Ty.key]at h
 |.unit,_,h=>by simp[Ty.key]at h
 |.tab _,_,h=>by simp[Ty.key]at h
 |.err,_,h=>by simp[Ty.key]at h
 |.ic _ _,_,h=>by simp[Ty.key]at h
 |.ptr,_,h=>by simp[Ty.key]at h
theorem Ty.Aa1:∀(t:Ty) (a:t.T),∀v∈t.T5 a,v.oneCell'=true
 |.int _,a=>by simp[Ty.T5,Value.oneCell']
 |.u8,a=>by simp[Ty.T5,Value.oneCell']
 |.str,a=>by simp[Ty.T5,Value.oneCell']
 |.pair s t,a=>by
  intro v hv;simp only[Ty.T5,Bkw]at hv;rcases hv with h|h
  ·exact s.Aa1 _ v h
  ·exact t.Aa1 _ v h
 |.st1 t,a=>by simp only[Ty.T5];exact t.Aa1 a
 |.bool,_=>by simp[Ty.T5]
 |.sl _,_=>by simp[Ty.T5]
 |.unit,_=>by simp[Ty.T5]
 |.tab _,_=>by simp[Ty.T5]
 |.err,_=>by simp[Ty.T5]
 |.ic _ _,_=>by simp[Ty.T5]
 |.ptr,_=>by simp[Ty.T5]
def Ty.Ea(t:Ty)(a:t.T):Value:=if t.agg then .agg (t.T5 a).toArray else (t.T5 a).headD undef
theorem Auf:∀l:A2 Value,A1g.B0q (l.map .sc)=l
 |[]=>rfl
 |v::r=>by simp[A1g.B0q,A1g,Auf r]
theorem Ty.Afy(t:Ty)(a:t.T)(h:t.key=true):A1g (t.dv a)=t.Ea a:=by
 unfold Ty.Ea;cases hg:t.agg with
 |true =>rw[t.A01 a hg,t.Y3 a h];simp[A1g,Auf]
 |false =>
  have h1:=t.A02 a hg;rw[t.Y3 a h]at h1;cases hk:t.T5 a with
  |nil=>rw[hk]at h1;simp at h1
  |cons v r =>rw[hk]at h1;simp only[Bkv,Bos]at h1;rw[← h1.1];rfl
theorem Ty.B0z{γ:Nat→Nat}{w:World}(t:Ty)(a:t.T)(h:t.key=true):RD γ w (t.dv a) (t.Ea a):=by
 unfold Ty.Ea;cases hg:t.agg with
 |true =>
  rw[t.A01 a hg,t.Y3 a h];simp only[Bn5];refine .agg _ _ (by simp) fun i c v hc hv=>?_
  rw[Bkt]at hc;rw[Bn8]at hv;rw[hv]at hc;simp at hc;subst hc;exact .sc _
 |false =>
  have h1:=t.A02 a hg;rw[t.Y3 a h]at h1;cases hk:t.T5 a with
  |nil=>rw[hk]at h1;simp at h1
  |cons v r =>rw[hk]at h1;simp only[Bkv,Bos]at h1;rw[← h1.1];exact .sc _
theorem Bgn{γ:Nat→Nat}{w:World}{u v:Value}(h:RD γ w (.sc u) v):v=u:=by cases h;rfl
theorem Ty.Vg{γ:Nat→Nat}{w:World}{t:Ty}{a:t.T}{v:Value}(h:t.key=true)(hr:RD γ w (t.dv a) v):v=t.Ea a:=by
 unfold Ty.Ea;cases hg:t.agg with
 |true =>
  rw[t.A01 a hg,t.Y3 a h]at hr;simp only[Bn5];cases hr with
  |agg _ vs hl hc =>
   congr 1;apply Array.ext
   ·simpa using hl.symm
   ·intro i h1 h2;have h3:i<(t.T5 a).length:=by simpa using h2
    have:=Bgn (hc i (.sc (t.T5 a)[i]) vs[i] (by simp[h3]) (by simp[h1]));simpa using this
 |false =>
  have h1:=t.A02 a hg;rw[t.Y3 a h]at h1;cases hk:t.T5 a with
  |nil=>rw[hk]at h1;simp at h1
  |cons u r =>rw[hk]at h1;simp only[Bkv,Bos]at h1;rw[← h1.1]at hr;cases hr;rfl
section
variable{P:Program}
def Ps(P:Program)(t:TypeId)(kt:Ty):Bool :=
 match P.underlying t with
 |some (.int k)=>match kt with
  |.int k'=>Il k' k
  |.u8=>Il .u8 k
  |_=>false
 |some .string=>match kt with
  |.str=>true
  |_=>false
 |_=>false
def O9(P:Program):Nat→Ty→A2 Field→Bool
 | off, kt, [f] => cond (Nat.beq f.offset off) (cond (decide (f.name = "_")) false (cond (Ps P f.type kt) (match tyI P f.type with | some (ag, sz) => cond (Nat.beq sz 1) (!ag) false | none => false) false)) false
 |off,kt,f::g::r=>match kt with
  | .pair a b => cond (Nat.beq f.offset off) (cond (decide (f.name = "_")) false (cond (Ps P f.type a) (match tyI P f.type with | some (ag, sz) => cond (Nat.beq sz 1) (cond ag false (O9 P (off + 1) b (g :: r))) false | none => false) false)) false
  |_=>false
 |_,_,[]=>false
def Ahl(P:Program)(t:TypeId)(kt:Ty):Bool :=
 cond (Ps P t kt) true (match P.underlying t with
  |some (.struct fs)=>cond (P.stoodInHeld t) false (cond (P.eqGuardType P.depth t) false (match fs.toList with
   |[f]=>match kt with
    |.st1 a=>O9 P 0 a [f]
    |_=>false
   |l=>O9 P 0 kt l))
  |some (.array 2 e)=>match P.underlying e,tyI P e,kt with
   |some (.int k),some (false,1),.pair (.int k1) (.int k2)=>cond (Il k1 k) (Il k2 k) false
   |_,_,_=>false
  |_=>false)
theorem Nc{t:TypeId}{kt:Ty}(h:Ps P t kt=true):kt.key=true∧kt.agg=false:=by
 unfold Ps at h;split at h
 ·split at h<;>first|exact⟨rfl,rfl⟩|cases h
 ·split at h<;>first|exact⟨rfl,rfl⟩|cases h
 ·cases h
theorem A7j{t:TypeId}{kt:Ty}(h:Ps P t kt=true):kt.size=1:=by
 unfold Ps at h;split at h
 ·split at h<;>first|rfl|cases h
 ·split at h<;>first|rfl|cases h
 ·cases h
theorem Amm{t:TypeId}{kt:Ty}(h:Ps P t kt=true)(d:Nat)(a b:kt.T):eqS P (d+1) t (kt.enc a) (kt.enc b)=some (kt.eqv a b):=by
 unfold Ps at h;split at h
 ·rename_i k hu;split at h
  ·rename_i k';have:=Fi h;subst this;simp only[eqS,hu,Ty.enc];rw[show Il k' k'=true by cases k'<;>rfl,Bkn];simp[Ty.eqv,BEq.beq]
  ·simp only[eqS,hu,Ty.enc];simp[Ty.eqv,BEq.beq]
  ·cases h
 ·rename_i hu;split at h
  ·simp only[eqS,hu,Ty.enc,Ty.eqv];congr 1;rw[Bmb];simp
  ·cases h
 ·cases h
theorem Ahm{kt:Ty}(h:kt.size=1)(a:kt.T):(kt.enc a).length=1:=by rw[Ty.A77,h]
theorem Amn(d:Nat):∀(fl:A2 Field) (off:Nat) (kt:Ty) (a b:kt.T) (xs ys:A2 XD),O9 P off kt fl=true→xs.drop off=kt.enc a→ys.drop off=kt.enc b →
  eqS.Axn P (eqS P (d+1)) xs ys fl=some (kt.eqv a b)
 |[],_,_,_,_,_,_,h,_,_=>by simp[O9]at h
 |[f],off,kt,a,b,xs,ys,h,hx,hy=>by
  simp only[O9]at h;cases h1:Nat.beq f.offset off with
  |false=>simp[h1]at h
  |true =>
  have e1:=Bkr h1;simp only[h1,Bkn]at h
  cases h2 : decide (f.name = "_") with
  |true=>simp[h2]at h
  |false =>
  simp only[h2,Bko]at h;cases h3:Ps P f.type kt with
  |false=>simp[h3]at h
  |true =>
  simp only[h3,Bkn]at h;split at h
  ·rename_i ag sz ht;cases h4:Nat.beq sz 1 with
   |false=>simp[h4]at h
   |true =>
   have e4:=Bkr h4;subst e4;unfold eqS.Axn;have e5:(xs.drop off).take 1=kt.enc a:=by rw[hx,Bn3 (by rw[Ahm (A7j h3)];exact Bl1 _)]
   have e6:(ys.drop off).take 1=kt.enc b:=by rw[hy,Bn3 (by rw[Ahm (A7j h3)];exact Bl1 _)]
   simp only[ht,h2,Bko,e1,e5,e6,Amm h3]
  ·cases h
 |f::g::r,off,kt,a,b,xs,ys,h,hx,hy=>by
  cases kt with
  |pair s t =>
   simp only[O9]at h;cases h1:Nat.beq f.offset off with
   |false=>simp[h1]at h
   |true =>
   have e1:=Bkr h1;simp only[h1,Bkn]at h
   cases h2 : decide (f.name = "_") with
   |true=>simp[h2]at h
   |false =>
   simp only[h2,Bko]at h;cases h3:Ps P f.type s with
   |false=>simp[h3]at h
   |true =>
   simp only[h3,Bkn]at h;split at h
   ·rename_i ag sz ht;cases h4:Nat.beq sz 1 with
    |false=>simp[h4]at h
    |true =>
    have e4:=Bkr h4;subst e4;simp only[h4,Bkn]at h;cases ag with
    |true=>simp at h
    |false =>
    simp only[Bko]at h;have hs1:=Ahm (A7j h3);have e5:(xs.drop off).take 1=s.enc a.1:=by rw[hx,Ty.enc,Bpa (by rw[hs1];exact Bl1 _),Bn3 (by rw[hs1];exact Bl1 _)]
    have e6:(ys.drop off).take 1=s.enc b.1:=by rw[hy,Ty.enc,Bpa (by rw[hs1];exact Bl1 _),Bn3 (by rw[hs1];exact Bl1 _)]
    have d1:xs.drop (off+1)=t.enc a.2:=by rw[← Bru,hx,Ty.enc,Bo7 (by rw[hs1];exact Bl1 _),Brn (by rw[hs1];exact Bl1 _)];rfl
    have d2:ys.drop (off+1)=t.enc b.2:=by rw[← Bru,hy,Ty.enc,Bo7 (by rw[hs1];exact Bl1 _),Brn (by rw[hs1];exact Bl1 _)];rfl
    have ih:=Amn d (g::r) (off+1) t a.2 b.2 xs ys h d1 d2;unfold eqS.Axn;simp only[ht,h2,Bko,e1,e5,e6,Amm h3,ih,Ty.eqv]
   ·cases h
  |_=>simp[O9]at h
theorem Acg:∀(fl:A2 Field) (off:Nat) (kt:Ty),O9 P off kt fl=true→kt.key=true
 |[],_,_,h=>by simp[O9]at h
 |[f],off,kt,h=>by
  simp only[O9]at h;cases h1:Nat.beq f.offset off with
  |false=>simp[h1]at h
  |true =>
  simp only[h1,Bkn]at h
  cases h2 : decide (f.name = "_") with
  |true=>simp[h2]at h
  |false =>
  simp only[h2,Bko]at h;cases h3:Ps P f.type kt with
  |false=>simp[h3]at h
  |true=>exact(Nc h3).1
 |f::g::r,off,kt,h=>by
  cases kt with
  |pair s t =>
   simp only[O9]at h;cases h1:Nat.beq f.offset off with
   |false=>simp[h1]at h
   |true =>
   simp only[h1,Bkn]at h
   cases h2 : decide (f.name = "_") with
   |true=>simp[h2]at h
   |false =>
   simp only[h2,Bko]at h;cases h3:Ps P f.type s with
   |false=>simp[h3]at h
   |true =>
   simp only[h3,Bkn]at h;split at h
   ·rename_i ag sz ht;cases h4:Nat.beq sz 1 with
    |false=>simp[h4]at h
    |true =>
    simp only[h4,Bkn]at h;cases ag with
    |true=>simp at h
    |false =>
    simp only[Bko]at h;simp only[Ty.key,(Nc h3).1,Bkn];exact Acg (g::r) (off+1) t h
   ·cases h
  |_=>simp[O9]at h
end
end Go.Xl
