import Derived.Test.YtpcmeokokojkiaaGreatDoorZb
import Derived.Test.YtpcmeokokojkiaaGreatDoorZa
import Derived.LaidEqlPtr
import Derived.Lib.BufferWrite
import Derived.Laws.MakeOwn
import Derived.Laws.AppendOwn
import Derived.Lib.ConvBytes
import Derived.MapKept
import Derived.WideKeyRuns
set_option linter.unusedVariables false
set_option linter.unusedSimpArgs false
set_option linter.unnecessarySimpa false
namespace Go.Xl
open Go.Ab
section
variable {P:Program} {R:Type}
noncomputable def Qdx:XV→Option Bool
 | .d (.v (.slice none 0 0))=>some true
 | .d (.v (.slice (some _) _ _))=>some false
 | .d (.sl _ l)=>match l with
  | []=>none
  | _ :: _=>some false
 | .os _ _ _ _=>some false
 | _=>none
theorem Qvh {x:XV} {b:Bool} (h:Qdx x=some b) {g:Gh} {w:World} {v:Value} (hr:RA g w x.a v):∃p n c,v = .slice p n c∧p.isNone=b:=by
 unfold Qdx at h
 split at h
 ·cases h
  cases hr with
  | d _ _ h=>cases h; exact⟨_,_,_,rfl,rfl⟩
 ·cases h
  cases hr with
  | d _ _ h=>cases h; exact⟨_,_,_,rfl,rfl⟩
 ·split at h
  ·cases h
  ·cases h
   cases hr with
   | d _ _ h=>cases h; exact⟨_,_,_,rfl,rfl⟩
 ·cases h
  obtain⟨cap,o,_,hv,_⟩:=RA.osl_inv hr
  exact⟨_,_,_,hv,rfl⟩
 ·cases h
theorem Qk4 {t e:TypeId} (ht:P.underlying t=some (.slice e)) (p:Option Addr) (n c:Nat) (w:World):(Op.equal t (.slice p n c) (.slice none 0 0)).run P w = .ok p.isNone w:=by
 have h:∀d:Nat,(Op.equalIn (d+1) t (.slice p n c) (.slice none 0 0)).run P w = .ok p.isNone w:=by
  intro d
  cases p <;> simp[Op.equalIn,run_underlying ht]
 exact h 9999
theorem Qmq {o:Oper} {X:Store} {op:BinOp} {t t' e:TypeId} {x y:Operand} {v:XV} {b:Bool} (neg:Bool) (ho:o.op = .binOp (cond neg .neq .eql) t x y t') (ht:P.underlying t=some (.slice e)) (hb:Qdx v=some b) :
  OpT P o [(x,v.a),(y,.d (.sc (.slice none 0 0)))] X X [] (.d (.sc (.bool (cond neg (!b) b)))) :=
 .quiet fun _ _ g w ac _ hrd=>by
  have h1:=rd0 hrd
  have h2:=(rd1 hrd).sc_inv
  simp only at h1 h2
  obtain⟨p,n,c,hv,hp⟩:=Qvh hb h1
  refine⟨_,?_,.ofSc _ _ _⟩
  simp only[execOp,ho,hv,h2]
  cases neg with
  | true =>
   have hg:∀p:Option Addr,eqGuard .neq t x y (.slice p n c) (.slice none 0 0)=pure ():=fun _=>rfl
   simp[hg,binOp,Qk4 ht,hp]
  | false =>
   have hg:∀p:Option Addr,eqGuard .eql t x y (.slice p n c) (.slice none 0 0)=pure ():=fun _=>rfl
   simp[hg,binOp,Qk4 ht,hp]
noncomputable def Qjc:Operand→Bool
 | .const (.slice none 0 0)=>true
 | _=>false
theorem Qv2 {x:Operand} (h:Qjc x=true):x = .const (.slice none 0 0):=by
 unfold Qjc at h
 split at h
 ·rfl
 ·cases h
noncomputable def Qlc (P:Program) (st:XSt) (op:BinOp) (t:TypeId) (x y:Operand) (K:Out→Option R):Option R :=
 cond (Qjc y) (match op with
  | .eql=>match Qv P t,xeval st x with
   | some _,some v=>match Qdx v with
    | some b=>K (Q9 st (.d (.b b)) [(x,v),(y,.d (.v (.slice none 0 0)))])
    | none=>none
   | _,_=>none
  | .neq=>match Qv P t,xeval st x with
   | some _,some v=>match Qdx v with
    | some b=>K (Q9 st (.d (.b (!b))) [(x,v),(y,.d (.v (.slice none 0 0)))])
    | none=>none
   | _,_=>none
  | _=>none) (xBin P st op t x y K)
theorem Qtj {o:Oper} {st:XSt} {op:BinOp} {t t' : TypeId} {x y:Operand} {K:Out→Option R} {r:R} (ho:o.op = .binOp op t x y t') (h:Qlc P st op t x y K=some r):∃out,K out=some r∧OpOk P o st out:=by
 unfold Qlc at h
 cases hy:Qjc y with
 | false=>simp only[hy,cond_false] at h; exact Qz9 ho h
 | true =>
  have:=Qv2 hy
  subst this
  simp only[hy,cond_true] at h
  have sees:∀v,xeval st x=some v→∀p ∈ imRd [(x,v),(Operand.const (.slice none 0 0),XV.d (.v (.slice none 0 0)))],Sees st.im p.1 p.2:=by
   intro v hv p hp
   simp only[imRd,List.map_cons,List.map_nil,List.mem_cons,List.not_mem_nil,or_false] at hp
   rcases hp with rfl | rfl
   ·exact Q5 hv
   ·exact .const _ _ fun _ _=>.sc _
  split at h
  ·split at h
   ·rename_i e v hs hv
    split at h
    ·rename_i b hb
     obtain⟨e1,e2,e3⟩:=e
     refine⟨_,h,Q4 (sees v hv) fun X=>?_⟩
     exact Qmq (op:=.eql) false ho (Qd hs).und hb
    ·cases h
   ·cases h
  ·split at h
   ·rename_i e v hs hv
    split at h
    ·rename_i b hb
     obtain⟨e1,e2,e3⟩:=e
     refine⟨_,h,Q4 (sees v hv) fun X=>?_⟩
     exact Qmq (op:=.neq) true ho (Qd hs).und hb
    ·cases h
   ·cases h
  ·cases h
noncomputable def Qev (P:Program) (st:XSt) (o:Oper) (t:TypeId) (n:Nat) (parts:Array (Nat×Operand)) (K:Out→Option R):Option R :=
 match Qv P t,newName o with
 | some (e,sz,bytes),some m =>
  match tyOf P 9 e,Qh st (parts.toList.map (·.2)) with
  | some ty,some vs =>
   match Q9k ty vs with
   | some l=>cond (Nat.beq ty.size sz) (cond (Nat.beq vs.length n) (cond (Q7d 0 (parts.toList.map (·.1))) (cond (Nat.ble (n*sz) 16777216) (cond (Q3l [m] st)
     (K ⟨.all,.os m ty 0 n,zipXv ty (parts.toList.map (·.2)) l,(m,.arr ty l) :: dropX m st.objs,st.live,[m],[m]⟩) none) none) none) none) none
   | none=>none
  | _,_=>none
 | _,_=>none
theorem Qo1 {o:Oper} {st:XSt} {t:TypeId} {n:Nat} {parts:Array (Nat×Operand)} {K:Out→Option R} {r:R} (ho:o.op = .buildSlice t n parts) (h:Qev P st o t n parts K=some r):∃out,K out=some r∧OpOk P o st out:=by
 unfold Qev at h
 split at h
 ·rename_i e sz bytes m hsl hm
  split at h
  ·rename_i ty vs hty hvs
   split at h
   ·rename_i l hl
    cases h1:Nat.beq ty.size sz with
    | false=>simp[h1] at h
    | true =>
    cases h2:Nat.beq vs.length n with
    | false=>simp[h1,h2] at h
    | true =>
    cases h3:Q7d 0 (parts.toList.map (·.1)) with
    | false=>simp[h1,h2,h3] at h
    | true =>
    cases h4:Nat.ble (n*sz) 16777216 with
    | false=>simp[h1,h2,h3,h4] at h
    | true =>
    cases h5:Q3l [m] st with
    | false=>simp[h1,h2,h3,h4,h5] at h
    | true =>
     simp only[h1,h2,h3,h4,h5,cond_true] at h
     have e1:=Nat.eq_of_beq_eq_true h1
     have e2:=Nat.eq_of_beq_eq_true h2
     have hto:=Q7v hvs hl
     have hlen:=Q9s hto
     have hvl:=Q1k hvs
     refine⟨_,h,⟨by rw[Qb5]; exact Q8k hto,?_,fun j z hj hz=>?_⟩⟩
     ·obtain⟨hu',i',z,hi,hs,hb,hz,hzs⟩:=Qd hsl
      have:=Qgd (P:=P) (X:=st.X) (xs:=l.map ty.dv) m ho hu' hi hz hs (by simp; omega) (by
       rw[Qcf h3,List.range_eq_range']; congr 1
       simp at hvl hlen ⊢; omega) (by
       rw[List.all_eq_true]
       intro x hx
       obtain⟨y,_,rfl⟩:=List.mem_map.1 hx
       simp only[Qs4,Qcq,Ty.ds_length,e1,Bool.true_and,beq_self_eq_true]) (Nat.le_of_ble_eq_true h4) (Qc7 hm) (Q58 h5)
      simp only[List.map_map] at this
      have e3:(List.map (D.cells ∘ ty.dv) l)=l.map ty.ds:=by
       apply List.map_congr_left; intro y _; exact Qcq ty y
      rw[e3] at this
      show OpT P o _ st.X ⟨Q0 ((m,XOb.arr ty l) :: dropX m st.objs),st.live⟩ [m] _
      have e4:Q0 ((m,XOb.arr ty l) :: dropX m st.objs)=(m,Ob.cells ((l.map ty.ds).flatten.map AV.d) none) :: (Ab.dropObj m st.X).objs:=by
       show(m,XOb.o (.arr ty l)) :: Q0 (dropX m st.objs)=_
       rw[Q5b]
       rfl
      rw[e4,Qb5]
      have e5:(XV.os m ty 0 n).a = .osl m 0 n sz:=by simp only[XV.a,Nat.zero_mul,e1]
      rw[e5]
      exact this
     ·simp only[List.mem_cons,List.not_mem_nil,or_false] at hj
      rw[Qo hj] at hz
      exact Q67 hz
   ·cases h
  ·cases h
 ·cases h
end
end Go.Xl
namespace Go.Ab
theorem Qdp {P:Program} {o:Oper} {X:Store} {t e:TypeId} {i:TypeInfo} (m:Nat) (ho:o.op = .buildSlice t 0 #[]) (ht:P.underlying t=some (.slice e)) (hi:P.info? e=some i)
  (hm:m ∉ X.live) (hX:Qa [m] X=true):OpT P o [] X ⟨X.objs,m :: X.live⟩ [m] (.tip m i.size [] (some e)):=by
 intro nm hsm B g w a hr hrd next Q hn
 unfold Oper.wp
 have hrun:(execOp a.eval o).run P w = .ok (.value (.slice (some ⟨w.heap.size,0,none⟩) 0 0)) (w.alloc (.cells #[] e)):=by
  simp only[execOp,ho,Instr.buildSlice]
  have h0:0*i.size=0:=by omega
  have h24' : ¬(0 > 2 ^ 24):=by omega
  have hfill' : Instr.fill (fun j=>some (j*i.size,i.size)) #[] [] = some #[]:=rfl
  simp only[Sem.run_bind,run_underlying ht,Result.andThen_ok,run_sizeOf hi,h0,if_true]
  simp[Array.range_zero',hfill',Go.newRow]
 rw[hrun]
 obtain⟨h1,h2⟩:=hr.newRow #[] e 0 (Nat.le_refl _)
 have hsz:(w.alloc (.cells #[] e)).heap.size=w.heap.size+1:=by simp
 obtain⟨h3,h4⟩:=h1.addTip hm (some w.heap.size) hX (by
  intro b hb
  cases hb
  refine⟨by omega,.inl hr.base,fun k ob hk he=>?_,fun n hn=>?_,hr.eta.ltN (Nat.le_refl _)⟩
  ·have hob:=hr.objs k ob hk
   have:g.ρ k < w.heap.size:=by
    cases hob with
    | cells _ _ _ _ hh=>exact(Array.getElem?_eq_some_iff.1 hh).1
    | map _ _ _ hh=>exact(Array.getElem?_eq_some_iff.1 hh).1
    | sit _ _ hh=>exact(Array.getElem?_eq_some_iff.1 hh).1
    | mit _ _ _ _ hh=>exact(Array.getElem?_eq_some_iff.1 hh).1
    | mitn hh=>exact(Array.getElem?_eq_some_iff.1 hh).1
    | mapt _ _ _ _ _ hh=>exact(Array.getElem?_eq_some_iff.1 hh).1
   simp only at he
   omega
  ·have:=hr.tiplt n _ hn
   omega)
 refine hn _ _ _ h3 (by simpa using h2.trans h4) (.tip m i.size [] (some e) _ (.nil _ _ _ (by simp)) ?_)
 intro ob hob
 simp only[upd_same,Option.some.injEq] at hob
 subst hob
 refine⟨rfl,rfl,by show upd g.γ w.heap.size 0 w.heap.size=0+0*i.size; rw[upd_same,Nat.zero_mul],fun j h5 h6=>by simp at h5 h6,fun e' he'=>?_⟩
 cases he'
 exact⟨rfl,_,by simp only[World.shape?,heap_alloc_new]; rfl⟩
end Go.Ab
namespace Go.Xl
open Go.Ab
section
variable (P:Program) {R:Type}
noncomputable def Qec (st:XSt) (o:Oper) (t:TypeId) (K:Out→Option R):Option R :=
 match Qv P t,Q6y o with
 | some (e,sz,bytes),some m =>
  match tyOf P 9 e with
  | some ty=>cond (Nat.beq ty.size sz) (cond (Q26 m st.live st) (K ⟨.lab,.tip m ty [] (some e),[],st.objs,m :: st.live,[m],[]⟩) none) none
  | none=>none
 | _,_=>none
noncomputable def Qd4 {α:Type} (n:Nat) (l:List α):Bool :=
 match n,l with
 | 0,[]=>true
 | _,_=>false
variable {P}
theorem Qny {o:Oper} {st:XSt} {t:TypeId} {n:Nat} {parts:Array (Nat×Operand)} {K:Out→Option R} {r:R} (ho:o.op = .buildSlice t n parts) (he:Qd4 n parts.toList=true) (h:Qec P st o t K=some r):∃out,K out=some r∧OpOk P o st out:=by
 have hn:n=0∧parts = #[]:=by
  unfold Qd4 at he
  split at he
  ·rename_i hp
   exact⟨rfl,by apply Array.eq_empty_of_size_eq_zero; rw[← Array.length_toList,hp]; rfl⟩
  ·cases he
 obtain⟨rfl,rfl⟩:=hn
 unfold Qec at h
 split at h
 ·rename_i e sz bytes m hsl hm
  split at h
  ·rename_i ty hty
   cases h1:Nat.beq ty.size sz with
   | false=>simp[h1] at h
   | true =>
   cases h3:Q26 m st.live st with
   | false=>simp[h1,h3] at h
   | true =>
    simp only[h1,h3,cond_true] at h
    have e1:=Nat.eq_of_beq_eq_true h1
    subst e1
    obtain⟨f1,f2⟩:=Q39 h3
    refine⟨_,h,⟨by simp[imRd],⟨rfl,?_⟩,fun _ _ _ h=>h⟩⟩
    obtain⟨hu,i,z,hi,hs,_⟩:=Qd hsl
    have:=Qdp (P:=P) (X:=st.X) m ho hu hi f1 f2
    rw[hs] at this
    exact this
  ·cases h
 ·cases h
end
end Go.Xl
namespace Go.Ab
theorem HR.reob {nm:List Nat} {B:Base} {g:Gh} {w:World} {X Y:Store} (h:HR nm B g w X) (hl:Y.live=X.live) (ho:∀j o,Y.objs.lookup j=some o→∃o',X.objs.lookup j=some o'∧(ObRel g w (g.ρ j) o'→ObRel g w (g.ρ j) o))
  (hk:∀j ∈ nm,(Y.objs.lookup j).isSome):HR nm B g w Y:=by
 refine⟨fun j hj=>⟨(h.keep j hj).1,hk j hj⟩,h.sane,h.base,h.io,h.le,h.frame,?_,?_,?_,?_,fun n=>by rw[hl]; exact h.live n,h.tipinj,?_,h.tipnew,h.tiplt,h.eta.same (Nat.le_refl _) fun j o hj=>let ⟨o',h1,_⟩:=ho j o hj; ⟨o',h1⟩⟩
 ·intro j o hj
  obtain⟨o',h1,h2⟩:=ho j o hj
  exact h2 (h.objs j o' h1)
 ·intro j o hj
  obtain⟨o',h1,h2⟩:=ho j o hj
  exact h.objγ j o' h1
 ·intro j j' o o' hj hj' he
  obtain⟨p,h1,_⟩:=ho j o hj
  obtain⟨p',h1',_⟩:=ho j' o' hj'
  exact h.objinj j j' p p' h1 h1' he
 ·intro j o hj
  obtain⟨o',h1,h2⟩:=ho j o hj
  exact h.objnew j o' h1
 ·intro n b j o hn hj
  obtain⟨o',h1,h2⟩:=ho j o hj
  exact h.tipobj n b j o' hn h1
section
variable {P:Program} {o:Oper} {X:Store}
theorem Qrh {t:TypeId} {cs:List AV} (k:Nat) (ho:o.op = .alloc t) (hz:ZeroI P t cs) (hk:X.objs.lookup k=none) (hX:Qa [k] X=true) :
  OpT P o [] X ⟨(k,.cells cs none) :: X.objs,X.live⟩ [k] (.ptr k 0):=by
 intro nm hsm B g w a hr hrd next Q hn
 refine Qsp k ho hz hk hX nm hsm B g w a hr hrd next Q ?_
 intro g' w' v h1 h2 h3
 refine hn g' w' v (h1.reob rfl ?_ ?_) h2 h3
 ·intro j ob hj
  simp only[List.lookup_cons] at hj ⊢
  split at hj
  ·cases hj
   refine⟨_,rfl,fun h=>?_⟩
   cases h with
   | cells _ _ arr T a1 a2 a3 a4=>exact .cells _ _ arr T a1 a2 a3 (by simp)
  ·exact⟨ob,hj,id⟩
 ·intro j hj
  have:=(h1.keep j hj).2
  simp only[List.lookup_cons] at this ⊢
  split
  ·rfl
  ·rename_i he
   rw[he] at this
   exact this
theorem Qpr {t e n sz:Nat} {x:Operand} {lo hi:Option Operand} {k:Nat} {l h:Int} {rd:List (Operand×AV)} {cs:List AV} {ty:Option TypeId} (ho:o.op = .slice t x lo hi none) (ht:ArrI P t e n sz)
  (hk:X.objs.lookup k=some (.cells cs ty)) (hn:n*sz≤cs.length) (h0:0≤l) (h1:l≤h) (h2:h≤(n:Int))
  (hlo:match lo with | some y=>∃j,(y,AV.d (.int j l)) ∈ rd | none=>l=0) (hhi:match hi with | some y=>∃j,(y,AV.d (.int j h)) ∈ rd | none=>h=(n:Int)) :
  OpT P o ((x,.ptr k 0) :: rd) X X [] (.osl k (l.toNat*sz) (h.toNat - l.toNat) sz) :=
 .quiet fun _ _ g w ac hr hrd=>by
  have h3:=hrd (x,.ptr k 0) List.mem_cons_self
  simp only at h3
  have hx:=h3.ptr_inv
  obtain⟨hu,i,hi',hsz⟩:=ht
  obtain⟨T,c,hsh,hc⟩:∃T c,w.shape? (g.ρ k)=some (T,c)∧n*sz≤c:=by
   cases hr.objs k _ hk with
   | cells _ _ arr T hb hl hc h4=>exact⟨T,arr.size,by simp[World.shape?,hb],by omega⟩
  have key:RA g w (.osl k (l.toNat*sz) (h.toNat - l.toNat) sz) (.slice (some (if n=l.toNat then ⟨g.ρ k,0,none⟩ else (⟨g.ρ k,0,none⟩:Addr).add (l.toNat*sz))) (h.toNat - l.toNat) (n - l.toNat)):=by
   refine .nm _ _ _ ?_
   by_cases hz:n=l.toNat
   ·rw[if_pos hz]
    refine⟨n - l.toNat,0,by omega,rfl,.inl (by omega),T,c,hsh,?_⟩
    rw[← hz,Nat.sub_self,Nat.zero_mul]; omega
   ·rw[if_neg hz]
    refine⟨n - l.toNat,l.toNat*sz,by omega,by simp[addr_add],.inr rfl,T,c,hsh,?_⟩
    have:l.toNat*sz+(n - l.toNat)*sz=n*sz:=by rw[← Nat.add_mul]; congr 1; omega
    omega
  refine⟨_,?_,key⟩
  simp only[execOp,ho,hx]
  have eh:∀y,hi=some y→∃j,ac.eval y = .int j h:=by
   intro y hy
   subst hy
   obtain⟨j,hj⟩:=hhi
   exact⟨j,(hrd _ (List.mem_cons_of_mem _ hj)).sc_inv⟩
  have el:∀y,lo=some y→∃j,ac.eval y = .int j l:=by
   intro y hy
   subst hy
   obtain⟨j,hj⟩:=hlo
   exact⟨j,(hrd _ (List.mem_cons_of_mem _ hj)).sc_inv⟩
  have bh:∀(y:Nat) (c:BoundsCode) (k:IntKind),h≤(y:Int)→(Instr.sliceBound (.int k h) y c).run P w = .ok h.toNat w:=by
   intro y c k hy
   simp[Instr.sliceBound,asIntOf,show 0≤h by omega,hy]
  have bl:∀(y:Nat) (c:BoundsCode) (k:IntKind),l≤(y:Int)→(Instr.sliceBound (.int k l) y c).run P w = .ok l.toNat w:=by
   intro y c k hy
   simp[Instr.sliceBound,asIntOf,h0,hy]
  have hsize:(sizeOf e).run P w = .ok sz w:=by rw[run_sizeOf hi',hsz]
  cases hi with
  | none =>
   simp only at hhi
   subst hhi
   have e5:((n:Nat):Int).toNat=n:=by omega
   cases lo with
   | none =>
    simp only at hlo
    subst hlo
    simp[Instr.sliceAt,Instr.sureAddr,Instr.sliceBounds,run_underlying hu,hsize]
   | some y =>
    obtain⟨j,hj⟩:=el y rfl
    have b1:=bl n .sliceB j (by omega)
    simp[Instr.sliceAt,Instr.sureAddr,Instr.sliceBounds,run_underlying hu,hsize,hj,b1]
  | some y' =>
   obtain⟨j',hj'⟩:=eh y' rfl
   have b2:=bh n .sliceAlen j' (by omega)
   have b3:=bh n .sliceAcap j' (by omega)
   cases lo with
   | none =>
    simp only at hlo
    subst hlo
    simp[Instr.sliceAt,Instr.sureAddr,Instr.sliceBounds,run_underlying hu,hsize,hj',b2,b3]
   | some y =>
    obtain⟨j,hj⟩:=el y rfl
    have b1:=bl h.toNat .sliceB j (by omega)
    simp[Instr.sliceAt,Instr.sureAddr,Instr.sliceBounds,run_underlying hu,hsize,hj,hj',b1,b2,b3]
theorem Qhl {γ:Nat→Nat} {w:World} {s d e:TypeId} {l:List UInt8} {v:Value} (hsane:∀b i,i < γ b→(w.cell? ⟨b,i,none⟩).isSome) (h1:RD γ w (.sl 1 (Qq l)) v)
  (hs:P.underlying s=some (.slice e)) (he:P.underlying e=some (.int .u8)) (hd:P.underlying d=some .string):(convert s d v).run P w = .ok (.string ⟨l.toArray⟩) w:=by
 obtain⟨base,cap,rfl,hle,hb,_,cells,hcl,hrun,hc⟩:=h1.slCells (P:=P) hsane
 have hcells:cells=(l.map fun b=>(b.toNat:Int)).map (Value.int .u8):=by
  refine List.ext_getElem? fun i=>?_
  by_cases hi:i < l.length
  ·have h2:i < cells.length:=by rw[hcl,Q16]; omega
   have h3:=hc i 0 [.sc (.int .u8 l[i].toNat)] (.sc (.int .u8 l[i].toNat)) cells[i] (by simp[Qq,hi]) rfl (by simp[h2])
   have h4:cells[i] = Value.int .u8 l[i].toNat:=RA.sc_inv (g:=⟨γ,fun _=>none,fun _=>0,fun _ _=>none⟩) (w:=w) (.d _ _ h3)
   simp[h2,h4,hi]
  ·have h2 : ¬i < cells.length:=by rw[hcl,Q16]; omega
   simp[Nat.le_of_not_lt hi,Nat.le_of_not_lt h2]
 rw[run_convert_bytes_string w s d e base (Qq l).length cap hs he hd]
 cases base with
 | none =>
  have hl0:l = []:=by
   have:cap=0:=hb rfl
   have:=Q16 l
   exact List.length_eq_zero_iff.1 (by omega)
  subst hl0
  rfl
 | some a =>
  have hl:=hrun w fun _ _ _=>rfl
  have hfc:(Builtin.firstCells 1 (Qq l).length (.slice (some a) (Qq l).length cap))=loadCells a ((Qq l).length*1):=rfl
  rw[hfc,Nat.mul_one] at hl
  rw[run_bytesToString w a _ cap (l.map fun b=>(b.toNat:Int)) (by rw[hl,hcells]),Qc3]
  simp
theorem Qdm {s d e:TypeId} {x:Operand} {k a len:Nat} {l:List UInt8} {ty:Option TypeId} (ho:o.op = .convert s d x) (hs:P.underlying s=some (.slice e)) (he:P.underlying e=some (.int .u8)) (hd:P.underlying d=some .string)
  (hk:X.objs.lookup k=some (.cells ((Qq l).flatten.map .d) ty)) (hle:a+len≤l.length) :
  OpT P o [(x,.osl k (a*1) len 1)] X X [] (.d (.bs ((l.drop a).take len))) :=
 .quiet fun _ _ g w ac hr hrd=>by
  have h1:=rd0 hrd
  simp only at h1
  have h' : HR [] _ g w X:=⟨by simp,hr.sane,hr.base,hr.io,hr.le,hr.frame,hr.objs,hr.objγ,hr.objinj,hr.objnew,hr.live,hr.tipinj,hr.tipobj,hr.tipnew,hr.tiplt,hr.eta⟩
  obtain⟨f1,f2,f3⟩:=h'.freeze (k:=k) (sz:=1) (es:=Qq l) (by simp) hk (by
   intro i cs hc
   obtain⟨b,_,rfl⟩:=Q38 hc
   rfl)
  have f4:=f3 a len _ (by simpa[Q16] using hle) h1
  have e1:((Qq l).drop a).take len=Qq ((l.drop a).take len):=by simp[Qq,List.map_take,List.map_drop]
  rw[e1] at f4
  cases f4 with
  | d _ _ f4 =>
   refine⟨_,?_,.ofSc _ _ _⟩
   simp only[execOp,ho]
   rw[Sem.run_bind,Qhl f1.sane f4 hs he hd]
   rfl
end
end Go.Ab
namespace Go.Xl
open Go.Ab
section
variable {P:Program} {R:Type}
noncomputable def allZ8:List Value→Bool
 | []=>true
 | .int .u8 (.ofNat 0) :: r=>allZ8 r
 | _ :: _=>false
theorem Qqk:∀ {l:List Value},allZ8 l=true→asOf (l.map fun v=>XV.d (Q2r v))=((List.replicate l.length (0:UInt8)).map Ty.u8.ds).flatten.map AV.d
 | [],_=>rfl
 | v :: r,h=>by
  unfold allZ8 at h
  split at h
  ·rename_i heq; cases heq
  ·rename_i r' heq
   cases heq
   have:=Qqk (l:=r) h
   simp only[List.map_cons,asOf,List.length_cons,List.replicate_succ,List.flatten_cons,List.map_append,this]
   rfl
  ·cases h
noncomputable def Q9e (P:Program) (t:TypeId):Option (List Value) :=
 match P.info? t with
 | some i=>match i.zero with
  | some z=>some z.cells.toList
  | none=>none
 | none=>none
theorem Qxw {t:TypeId} {l:List Value} (h:Q9e P t=some l):ZeroI P t (asOf (l.map fun v=>XV.d (Q2r v))):=by
 unfold Q9e at h
 split at h
 ·rename_i i hi
  split at h
  ·rename_i z hz
   cases h
   exact⟨⟨i,z,hi,hz,Qj5 _⟩⟩
  ·cases h
 ·cases h
noncomputable def Qe9 (P:Program) (st:XSt) (o:Oper) (t:TypeId) (K:Out→Option R):Option R :=
 match newName o,Q9e P t with
 | some k,some l=>cond (fresh k st) (cond (allZ8 l) (K ⟨.all,.nm k (.p 0),[],(k,.arr .u8 (List.replicate l.length (0:UInt8))) :: st.objs,st.live,[k],[k]⟩) none) none
 | _,_=>none
theorem Qq2 {o:Oper} {st:XSt} {t:TypeId} {K:Out→Option R} {r:R} (ho:o.op = .alloc t) (h:Qe9 P st o t K=some r):∃out,K out=some r∧OpOk P o st out:=by
 unfold Qe9 at h
 split at h
 ·rename_i k l hk hz
  cases hf:fresh k st with
  | false=>simp[hf] at h
  | true =>
  cases ha:allZ8 l with
  | false=>simp[hf,ha] at h
  | true =>
   simp only[hf,ha,cond_true] at h
   obtain⟨h1,h2⟩:=Q32 hf
   refine⟨_,h,⟨by simp[imRd],?_,fun j z hj hz=>?_⟩⟩
   ·have:=Qrh (P:=P) (X:=st.X) k ho (Qxw hz) (Q31 h1) h2
    rw[Qqk ha] at this
    exact this
   ·rw[Qo (by simpa using hj)] at hz; exact hz
 ·cases h
noncomputable def Qm7 (P:Program) (own:Bool) (st:XSt) (o:Oper) (t:TypeId) (K:Out→Option R):Option R :=
 cond own (Qe9 P st o t K) (Qof P st o t K)
theorem Qpc {own:Bool} {o:Oper} {st:XSt} {t:TypeId} {K:Out→Option R} {r:R} (ho:o.op = .alloc t) (h:Qm7 P own st o t K=some r):∃out,K out=some r∧OpOk P o st out:=by
 cases own with
 | true=>exact Qq2 ho h
 | false=>exact Qxb ho h
noncomputable def Qet (P:Program) (st:XSt) (t:TypeId) (x:Operand) (lo hi:Option Operand) (k:Nat) (ty:Ty) (cs:List ty.T) (K:Out→Option R):Option R :=
 match Q8h P t with
 | some (_,n,sz)=>match Q28 st 0 lo,Q28 st n hi with
  | some (l,r1),some (h,r2)=>cond (Nat.beq ty.size sz) (cond (Nat.ble n cs.length) (cond (cutOk l h n)
    (K ⟨.look [k],.os k ty l.toNat (h.toNat - l.toNat),(x,.nm k (.p 0)) :: (r1++r2),st.objs,st.live,[],[]⟩) none) none) none
  | _,_=>none
 | none=>none
theorem Qqn {o:Oper} {st:XSt} {t:TypeId} {x:Operand} {lo hi:Option Operand} {k:Nat} {ty:Ty} {cs:List ty.T} {K:Out→Option R} {r:R} (ho:o.op = .slice t x lo hi none) (hx:xeval st x=some (.nm k (.p 0)))
  (hk:lk k st.objs=some (.arr ty cs)) (h:Qet P st t x lo hi k ty cs K=some r):∃out,K out=some r∧OpOk P o st out:=by
 unfold Qet at h
 split at h
 ·rename_i e n sz hat
  split at h
  ·rename_i l r1 hh r2 hlo hhi
   cases hb:Nat.beq ty.size sz with
   | false=>simp[hb] at h
   | true =>
   cases hn:Nat.ble n cs.length with
   | false=>simp[hb,hn] at h
   | true =>
   cases hc:cutOk l hh n with
   | false=>simp[hb,hn,hc] at h
   | true =>
    simp only[hb,hn,hc,cond_true] at h
    have e1:=Nat.eq_of_beq_eq_true hb
    subst e1
    have hn':=Nat.le_of_ble_eq_true hn
    obtain⟨c0,c1,c2⟩:=Q8a hc
    obtain⟨s1,m1,f1⟩:=Q1a hlo
    obtain⟨s2,m2,f2⟩:=Q1a hhi
    refine⟨_,h,⟨Qah hx s1 s2,⟨rfl,rfl,rfl,fun X hX=>?_⟩,fun _ _ _ h=>h⟩⟩
    have hkX:X.objs.lookup k=some (.cells ((cs.map ty.ds).flatten.map .d) none):=by
     rw[hX k (by simp)]; exact(by show(Q0 st.objs).lookup k=_; rw[Qt,hk]; rfl)
    have hlen:((cs.map ty.ds).flatten.map AV.d).length=cs.length*ty.size:=by
     rw[List.length_map,Q1h (sz:=ty.size) _ (by
      intro i c hc
      rw[List.getElem?_map,Option.map_eq_some_iff] at hc
      obtain⟨z,_,rfl⟩:=hc
      exact ty.ds_length z),List.length_map]
    have:=Qpr (P:=P) (X:=X) (k:=k) (rd:=imRd (r1++r2)) (l:=l) (h:=hh) ho (Q7q hat) hkX (by rw[hlen]; exact Nat.mul_le_mul_right _ hn') c0 c1 c2 (by
     cases lo with
     | none=>exact m1
     | some y=>obtain⟨j,hj⟩:=m1; exact⟨j,by rw[Qw]; exact List.mem_append_left _ hj⟩) (by
     cases hi with
     | none=>exact m2
     | some y=>obtain⟨j,hj⟩:=m2; exact⟨j,by rw[Qw]; exact List.mem_append_right _ hj⟩)
    exact this
  ·cases h
 ·cases h
noncomputable def Qeq (P:Program) (st:XSt) (t:TypeId) (x:Operand) (lo hi mx:Option Operand) (K:Out→Option R):Option R :=
 match mx,xeval st x with
 | none,some (.nm k (.p 0))=>match lk k st.objs with
  | some (.arr ty cs)=>Qet P st t x lo hi k ty cs K
  | _=>none
 | _,_=>Qfs P st t x lo hi mx K
theorem Qoj {o:Oper} {st:XSt} {t:TypeId} {x:Operand} {lo hi mx:Option Operand} {K:Out→Option R} {r:R} (ho:o.op = .slice t x lo hi mx) (h:Qeq P st t x lo hi mx K=some r):∃out,K out=some r∧OpOk P o st out:=by
 unfold Qeq at h
 split at h
 ·rename_i k hx
  split at h
  ·rename_i ty cs hk; exact Qqn ho hx hk h
  ·cases h
 ·exact Qpt ho h
noncomputable def Qi2 (P:Program) (st:XSt) (s d:TypeId) (x:Operand) (K:Out→Option R):Option R :=
 match xeval st x with
 | some (.os k .u8 a len)=>match lk k st.objs with
  | some (.arr .u8 l)=>match P.underlying s,P.underlying d with
   | some (.slice e),some .string=>match P.underlying e with
    | some (.int .u8)=>cond (Nat.ble (a+len) l.length) (K ⟨.look [k],.d (.s ((l.drop a).take len)),[(x,.os k .u8 a len)],st.objs,st.live,[],[]⟩) none
    | _=>none
   | _,_=>none
  | _=>none
 | _=>xConv P st s d x K
theorem Qr2 {o:Oper} {st:XSt} {s d:TypeId} {x:Operand} {K:Out→Option R} {r:R} (ho:o.op = .convert s d x) (h:Qi2 P st s d x K=some r):∃out,K out=some r∧OpOk P o st out:=by
 unfold Qi2 at h
 split at h
 ·rename_i k a len hx
  split at h
  ·rename_i l hk
   split at h
   ·rename_i e hs hd
    split at h
    ·rename_i he
     cases hb:Nat.ble (a+len) l.length with
     | false=>simp[hb] at h
     | true =>
      simp only[hb,cond_true] at h
      refine⟨_,h,⟨Qi hx,⟨rfl,rfl,rfl,fun X hX=>?_⟩,fun _ _ _ h=>h⟩⟩
      exact Qdm ho hs he hd (by rw[hX k (by simp)]; exact(by show(Q0 st.objs).lookup k=_; rw[Qt,hk]; rfl)) (Nat.le_of_ble_eq_true hb)
    ·cases h
   ·cases h
  ·cases h
 ·exact Qy6 ho h
end
end Go.Xl
namespace Go.Xl
open Go.Ab Go.Lib
noncomputable def Q1q {α β:Type} (l:List α) (a:β) (f:α→List α→β):β :=
 match l with
 | []=>a
 | y :: r=>f y r
section
variable {P:Program} {R:Type}
noncomputable def Q95 (P:Program) (t:TypeId):Option TypeId :=
 match P.underlying t with
 | some (.pointer e)=>match P.info? e with
  | some i=>cond (Nat.beq i.size 0) none (some e)
  | none=>none
 | _=>none
theorem Q8w {t e:TypeId} (h:Q95 P t=some e):P.underlying t=some (.pointer e)∧∃i,P.info? e=some i∧i.size≠0:=by
 unfold Q95 at h
 split at h
 ·rename_i e' ht
  split at h
  ·rename_i i hi
   cases hz:Nat.beq i.size 0 with
   | true=>simp[hz] at h
   | false =>
    simp only[hz,cond_false,Option.some.injEq] at h
    subst h
    exact⟨ht,i,hi,Nat.ne_of_beq_eq_false hz⟩
  ·cases h
 ·cases h
noncomputable def Qjo:XV→Option Bool
 | .nm _ (.p _)=>some false
 | .nm _ (.z b _)=>some b
 | .el _ _ _ _=>some false
 | .d (.v (.pointer none))=>some true
 | _=>none
theorem Qwu {g:Gh} {w:World} {x:XV} {b:Bool} {v:Value} (h:Qjo x=some b) (hr:RA g w x.a v):∃p,v = .pointer p∧p.isNone=b:=by
 unfold Qjo at h
 split at h
 ·cases h
  simp only[XV.a] at hr
  cases hr with
  | nm _ _ _ h=>exact⟨_,h,rfl⟩
 ·rename_i k b' off
  cases h
  simp only[XV.a] at hr
  cases hr with
  | nm _ _ _ h =>
   cases b with
   | true=>exact⟨_,h,rfl⟩
   | false=>exact⟨_,h,rfl⟩
 ·cases h
  simp only[XV.a] at hr
  cases hr with
  | nm _ _ _ h=>exact⟨_,h,rfl⟩
 ·cases h
  simp only[XV.a,XD.d] at hr
  cases hr with
  | d _ _ h=>cases h; exact⟨_,rfl,rfl⟩
 ·cases h
theorem Qav {t e:TypeId} (ht:P.underlying t=some (.pointer e)) (p:Option Addr) (w:World):(Op.equal t (.pointer p) (.pointer none)).run P w = .ok p.isNone w:=by
 have h:∀d:Nat,(Op.equalIn (d+1) t (.pointer p) (.pointer none)).run P w = .ok p.isNone w:=by
  intro d
  cases p <;> simp[Op.equalIn,run_underlying ht]
 exact h 9999
theorem Qqg {t e:TypeId} (ht:P.underlying t=some (.pointer e)) (p:Option Addr) (w:World):(Op.equal t (.pointer none) (.pointer p)).run P w = .ok p.isNone w:=by
 have h:∀d:Nat,(Op.equalIn (d+1) t (.pointer none) (.pointer p)).run P w = .ok p.isNone w:=by
  intro d
  cases p <;> simp[Op.equalIn,run_underlying ht]
 exact h 9999
noncomputable def negOp (neg:Bool):BinOp:=cond neg .neq .eql
theorem Q7s (neg:Bool) (t:TypeId) (x y:Operand) (p q:Option Addr):eqGuard (negOp neg) t x y (.pointer p) (.pointer q)=pure ():=by
 cases neg <;> rfl
theorem Qut {o:Oper} {X:Store} {t t' e:TypeId} {x y:Operand} {v:XV} {b:Bool} (neg:Bool) (ho:o.op = .binOp (negOp neg) t x y t') (ht:P.underlying t=some (.pointer e)) (hb:Qjo v=some b) :
  OpT P o [(x,v.a),(y,.d (.sc (.pointer none)))] X X [] (.d (.sc (.bool (cond neg (!b) b)))) :=
 .quiet fun _ _ g w ac _ hrd=>by
  have h1:=rd0 hrd
  have h2:=(rd1 hrd).sc_inv
  simp only at h1 h2
  obtain⟨p,hv,hp⟩:=Qwu hb h1
  refine⟨_,?_,.ofSc _ _ _⟩
  simp only[execOp,ho,hv,h2]
  rw[Q7s]
  cases neg <;> simp[negOp,binOp,Qav ht,hp]
theorem Qha {o:Oper} {X:Store} {t t' e:TypeId} {x y:Operand} {k off:Nat} {b c:Bool} (neg:Bool) (ho:o.op = .binOp (negOp neg) t x y t') (ht:P.underlying t=some (.pointer e)) (hi:∃i,P.info? e=some i) (hbc:b=false∨c=false) :
  OpT P o [(x,.nm k (.z b off)),(y,.nm k (.z c off))] X X [] (.d (.sc (.bool (cond neg (b || c) (!(b || c)))))) :=
 .quiet fun _ _ g w ac _ hrd=>by
  obtain⟨i,hi⟩:=hi
  have h1:=rd0 hrd
  have h2:=rd1 hrd
  simp only at h1 h2
  have e1:ac.eval x=cond b (.pointer none) (.pointer (some ⟨g.ρ k,off,none⟩)):=by cases h1 with | nm _ _ _ h=>exact h
  have e2:ac.eval y=cond c (.pointer none) (.pointer (some ⟨g.ρ k,off,none⟩)):=by cases h2 with | nm _ _ _ h=>exact h
  refine⟨_,?_,.ofSc _ _ _⟩
  simp only[execOp,ho,e1,e2]
  have hs:=fun a=>run_eql_ptr_same (P:=P) w (tp:=t) a ht hi
  have hn:=fun a=>run_neq_ptr_same (P:=P) w (tp:=t) a ht hi
  cases b with
  | true =>
   rcases hbc with h | h
   ·cases h
   ·subst h
    simp only[cond_true,cond_false]
    rw[Q7s]
    cases neg <;> simp[negOp,binOp,Qqg ht]
  | false =>
   cases c with
   | true =>
    simp only[cond_true,cond_false]
    rw[Q7s]
    cases neg <;> simp[negOp,binOp,Qav ht]
   | false =>
    simp only[cond_false]
    rw[Q7s]
    cases neg with
    | true=>simp[negOp,hn]
    | false=>simp[negOp,hs]
noncomputable def ptrV:XV→Option (Bool×Nat×Nat)
 | .nm k (.p off)=>some (false,k,off)
 | .nm k (.z b off)=>some (b,k,off)
 | _=>none
theorem Qsa {x:XV} {b:Bool} {k off:Nat} (h:ptrV x=some (b,k,off)):ALe x.a (.nm k (.z b off)):=by
 unfold ptrV at h
 split at h
 ·cases h
  intro g w v hr
  simp only[XV.a] at hr
  cases hr with
  | nm _ _ _ h=>exact .nm _ _ _ h
 ·cases h
  exact .refl _
 ·cases h
noncomputable def Qix:XV→Option Bool
 | .d (.er b)=>some (!b)
 | .d (.v .nilIface)=>some true
 | .d (.ic _ _ a)=>some a.isNone
 | _=>none
theorem Qvm {g:Gh} {w:World} {x:XV} {b:Bool} {v:Value} (h:Qix x=some b) (hr:RA g w x.a v):(b=true→v = .nilIface)∧(b=false→∃t u,v = .iface t u):=by
 unfold Qix at h
 split at h
 ·rename_i c
  simp only[Option.some.injEq] at h
  subst h
  simp only[XV.a,XD.d] at hr
  cases c with
  | true =>
   cases hr with
   | d _ _ h =>
    cases h with
    | any _ _ h1 h2=>exact⟨by simp,fun _=>h1⟩
  | false =>
   cases hr with
   | d _ _ h =>
    cases h
    exact⟨fun _=>rfl,by simp⟩
 ·cases h
  simp only[XV.a,XD.d] at hr
  cases hr with
  | d _ _ h=>cases h; exact⟨fun _=>rfl,by simp⟩
 ·rename_i u k a
  cases h
  simp only[XV.a,XD.d] at hr
  cases hr with
  | d _ _ h =>
   cases h
   cases a with
   | none=>exact⟨fun _=>rfl,by simp[Option.isNone]⟩
   | some n=>exact⟨by simp[Option.isNone],fun _=>⟨u,_,rfl⟩⟩
 ·cases h
theorem Qtt {t:TypeId} {ms:Array (String×TypeId)} (ht:P.underlying t=some (.interface ms)) {v:Value} {b:Bool} (hv:(b=true→v = .nilIface)∧(b=false→∃t u,v = .iface t u)) (w:World):(Op.equal t v .nilIface).run P w = .ok b w:=by
 have h:∀d:Nat,(Op.equalIn (d+1) t v .nilIface).run P w = .ok b w:=by
  intro d
  cases b with
  | true=>rw[hv.1 rfl]; simp[Op.equalIn,run_underlying ht]
  | false =>
   obtain⟨t',u,rfl⟩:=hv.2 rfl
   simp[Op.equalIn,run_underlying ht]
 exact h 9999
theorem Qup (neg:Bool) (t:TypeId) (x:Operand) (c:Value) (v:Value) {b:Bool} (hv:(b=true→v = .nilIface)∧(b=false→∃t u,v = .iface t u)):eqGuard (negOp neg) t x (.const c) v .nilIface=pure ():=by
 cases b with
 | true=>rw[hv.1 rfl]; cases neg <;> cases x <;> rfl
 | false=>obtain⟨t',u,rfl⟩:=hv.2 rfl; cases neg <;> rfl
theorem Qve {o:Oper} {X:Store} {t t' : TypeId} {ms:Array (String×TypeId)} {x:Operand} {c:Value} {v:XV} {b:Bool} (neg:Bool) (ho:o.op = .binOp (negOp neg) t x (.const c) t') (ht:P.underlying t=some (.interface ms)) (hb:Qix v=some b) :
  OpT P o [(x,v.a),(.const c,.d (.sc .nilIface))] X X [] (.d (.sc (.bool (cond neg (!b) b)))) :=
 .quiet fun _ _ g w ac _ hrd=>by
  have h1:=rd0 hrd
  have h2:=(rd1 hrd).sc_inv
  simp only at h1 h2
  have hv:=Qvm hb h1
  refine⟨_,?_,.ofSc _ _ _⟩
  simp only[execOp,ho,h2]
  rw[Qup neg t x c _ hv]
  cases neg <;> simp[negOp,binOp,Qtt ht hv]
noncomputable def negOf:BinOp→Option Bool
 | .eql=>some false
 | .neq=>some true
 | _=>none
theorem Q9v {op:BinOp} {neg:Bool} (h:negOf op=some neg):op=negOp neg:=by
 unfold negOf at h
 split at h
 ·cases h; rfl
 ·cases h; rfl
 ·cases h
inductive NilK where
 | ptr
 | iface
 | none
noncomputable def nilK:Operand→NilK
 | .const (.pointer none)=>.ptr
 | .const .nilIface=>.iface
 | _=>.none
noncomputable def xBinP (P:Program) (st:XSt) (op:BinOp) (t:TypeId) (x y:Operand) (K:Out→Option R):Option R :=
 match nilK y with
 | .ptr=>match negOf op,Q95 P t,xeval st x with
  | some neg,some _,some v=>match Qjo v with
   | some b=>K (Q9 st (.d (.b (cond neg (!b) b))) [(x,v),(y,.d (.v (.pointer none)))])
   | none=>none
  | _,_,_=>none
 | .iface=>match negOf op,P.underlying t,xeval st x with
  | some neg,some (.interface _),some v=>match Qix v with
   | some b=>K (Q9 st (.d (.b (cond neg (!b) b))) [(x,v),(y,.d (.v .nilIface))])
   | none=>none
  | _,_,_=>none
 | .none=>match negOf op,Q95 P t with
  | some neg,some _=>match xeval st x,xeval st y with
   | some v,some u=>match ptrV v,ptrV u with
    | some (b,k,off),some (c,k',off')=>cond (Nat.beq k k') (cond (Nat.beq off off') (cond b (cond c none
      (K (Q9 st (.d (.b (cond neg true false))) [(x,.nm k (.z true off)),(y,.nm k (.z false off))])))
      (K (Q9 st (.d (.b (cond neg c (!c)))) [(x,.nm k (.z false off)),(y,.nm k (.z c off))]))) none) none
    | _,_=>none
   | _,_=>none
  | _,_=>Qlc P st op t x y K
theorem Qq6 {st:XSt} {x:Operand} {v y:XV} (h:xeval st x=some v) (hle:ALe v.a y.a) (hnc:ptrV v≠none):Sees st.im x y.a:=by
 cases x with
 | tmp t=>exact .tmp t _ (Qz h).1 (Q4r (Qz h).2 hle)
 | const u =>
  simp only[xeval,Option.some.injEq] at h
  subst h
  simp[ptrV] at hnc
 | func f =>
  simp only[xeval,Option.some.injEq] at h
  subst h
  simp[ptrV] at hnc
 | global k=>exact .glob k _ (Q4r h hle)
theorem Qye {o:Oper} {st:XSt} {op:BinOp} {t t' : TypeId} {x y:Operand} {K:Out→Option R} {r:R} (ho:o.op = .binOp op t x y t') (h:xBinP P st op t x y K=some r):∃out,K out=some r∧OpOk P o st out:=by
 unfold xBinP at h
 have seesN:∀(c:Value),y = .const c→∀v,xeval st x=some v→∀p ∈ imRd [(x,v),(y,XV.d (.v c))],Sees st.im p.1 p.2:=by
  intro c hy v hv p hp
  simp only[imRd,List.map_cons,List.map_nil,List.mem_cons,List.not_mem_nil,or_false] at hp
  rcases hp with rfl | rfl
  ·exact Q5 hv
  ·rw[hy]; exact .const _ _ fun _ _=>.sc _
 split at h
 ·rename_i hy
  have hy:y = .const (.pointer none):=by
   unfold nilK at hy
   split at hy <;> first | rfl | cases hy
  split at h
  ·rename_i neg e v hn he hv
   split at h
   ·rename_i b hb
    have:=Q9v hn
    subst this
    exact⟨_,h,Q4 (seesN _ hy v hv) fun X=>Qut neg ho (Q8w he).1 hb⟩
   ·cases h
  ·cases h
 ·rename_i hy
  have hy:y = .const .nilIface:=by
   unfold nilK at hy
   split at hy <;> first | rfl | cases hy
  split at h
  ·rename_i neg ms v hn he hv
   split at h
   ·rename_i b hb
    have:=Q9v hn
    subst this
    subst hy
    exact⟨_,h,Q4 (seesN _ rfl v hv) fun X=>Qve neg ho he hb⟩
   ·cases h
  ·cases h
 ·split at h
  ·rename_i neg e hn he
   split at h
   ·rename_i v u hv hu
    split at h
    ·rename_i b k off c k' off' hpv hpu
     cases h1:Nat.beq k k' with
     | false=>simp[h1] at h
     | true =>
     cases h2:Nat.beq off off' with
     | false=>simp[h1,h2] at h
     | true =>
      have e1:=Nat.eq_of_beq_eq_true h1
      have e2:=Nat.eq_of_beq_eq_true h2
      subst e1; subst e2
      have:=Q9v hn
      subst this
      obtain⟨ht,i,hi,_⟩:=Q8w he
      have sees:∀p ∈ imRd [(x,XV.nm k (.z b off)),(y,XV.nm k (.z c off))],Sees st.im p.1 p.2:=by
       intro p hp
       simp only[imRd,List.map_cons,List.map_nil,List.mem_cons,List.not_mem_nil,or_false] at hp
       rcases hp with rfl | rfl
       ·exact Qq6 hv (Qsa hpv) (by rw[hpv]; simp)
       ·exact Qq6 hu (Qsa hpu) (by rw[hpu]; simp)
      cases b with
      | true =>
       cases c with
       | true=>simp[h1,h2] at h
       | false =>
        simp only[h1,h2,cond_true,cond_false] at h
        refine⟨_,h,Q4 sees fun X=>?_⟩
        have:=Qha (X:=X) neg ho ht ⟨i,hi⟩ (k:=k) (off:=off) (b:=true) (c:=false) (.inr rfl)
        simp only[Bool.true_or,Bool.not_true] at this
        exact this
      | false =>
       simp only[h1,h2,cond_true,cond_false] at h
       refine⟨_,h,Q4 sees fun X=>?_⟩
       have:=Qha (X:=X) neg ho ht ⟨i,hi⟩ (k:=k) (off:=off) (b:=false) (c:=c) (.inl rfl)
       simp only[Bool.false_or] at this
       exact this
    ·cases h
   ·cases h
  ·exact Qtj ho h
noncomputable def Qo2 (P:Program) (st:XSt) (s d:TypeId) (x:Operand) (K:Out→Option R):Option R :=
 match xeval st x with
 | some (.nm k (.p off))=>match lk k st.objs with
  | some (.cells cs (some T))=>match P.underlying d with
   | some .unsafePointer=>match Q95 P s with
    | some t=>cond (Nat.ble (off+1) cs.length) (K ⟨.look [k],.nm k (.p off),[(x,.nm k (.p off))],st.objs,st.live,[],[]⟩) none
    | none=>none
   | _=>match P.underlying s,Q95 P d with
    | some .unsafePointer,some t=>cond (Nat.beq t T) (cond (Nat.beq off 0) (cond (Nat.beq (P.cellsOf T) cs.length) (cond (Nat.beq cs.length 0) none (K ⟨.look [k],.nm k (.p 0),[(x,.nm k (.p 0))],st.objs,st.live,[],[]⟩)) none) none) none
    | _,_=>none
  | _=>none
 | _=>Qi2 P st s d x K
theorem Qwp {o:Oper} {st:XSt} {s d:TypeId} {x:Operand} {K:Out→Option R} {r:R} (ho:o.op = .convert s d x) (h:Qo2 P st s d x K=some r):∃out,K out=some r∧OpOk P o st out:=by
 unfold Qo2 at h
 split at h
 ·rename_i k off hx
  split at h
  ·rename_i cs T hk
   have hlk:st.X.objs.lookup k=some (.cells (asOf cs) (some T)):=by show(Q0 st.objs).lookup k=_; rw[Qt,hk]; rfl
   split at h
   ·rename_i hd
    split at h
    ·rename_i t ht
     cases hb:Nat.ble (off+1) cs.length with
     | false=>simp[hb] at h
     | true =>
      simp only[hb,cond_true] at h
      obtain⟨h1,h2⟩:=Q8w ht
      refine⟨_,h,⟨Qi hx,⟨rfl,rfl,rfl,fun X hX=>?_⟩,fun _ _ _ h=>h⟩⟩
      exact Qnm ho (by rw[hX k (by simp)]; exact hlk) (by rw[Q8]; exact Nat.le_of_ble_eq_true hb) h1 hd h2
    ·cases h
   ·split at h
    ·rename_i t hs ht
     cases h1:Nat.beq t T with
     | false=>simp[h1] at h
     | true =>
     cases h2:Nat.beq off 0 with
     | false=>simp[h1,h2] at h
     | true =>
     cases h3:Nat.beq (P.cellsOf T) cs.length with
     | false=>simp[h1,h2,h3] at h
     | true =>
     cases h4:Nat.beq cs.length 0 with
     | true=>simp[h1,h2,h3,h4] at h
     | false =>
      simp only[h1,h2,h3,h4,cond_true,cond_false] at h
      have e1:=Nat.eq_of_beq_eq_true h1
      have e2:=Nat.eq_of_beq_eq_true h2
      subst e1; subst e2
      obtain⟨g1,g2⟩:=Q8w ht
      refine⟨_,h,⟨Qi hx,⟨rfl,rfl,rfl,fun X hX=>?_⟩,fun _ _ _ h=>h⟩⟩
      exact Qjk ho (by rw[hX k (by simp)]; exact hlk) hs g1 g2 (by rw[Q8]; exact Nat.eq_of_beq_eq_true h3) (by rw[Q8]; exact Nat.ne_of_beq_eq_false h4)
    ·cases h
  ·cases h
 ·exact Qr2 ho h
theorem Qe1 {o:Oper} {X:Store} {ts:Array TypeId} {x:Operand} {n e e' : Nat} (ho:o.op = .call { callee:=.builtin .unsafeSliceData,args:=#[x],argTypes:=ts }) (hn:n ∈ X.live) (ht:P.underlying o.type=some (.pointer e')) :
  OpT P o [(x,.tip n 1 [] (some e))] X X [] (.d (.any Qjm)):=by
 intro nm hsm B g w a hr hrd next Q hnext
 have h1:=rd0 hrd
 simp only at h1
 obtain⟨ob,hob⟩:=Option.isSome_iff_exists.1 ((hr.live n).1 hn)
 have done:∀p w',(execOp a.eval o).run P w = .ok (.value (.pointer p)) w'→HR nm B g w' X→Trans [] g w g w'→o.wp P a w next Q:=by
  intro p w' hrun h2 h3
  unfold Oper.wp
  rw[hrun]
  exact hnext g w' _ h2 h3 (.d _ _ (.any _ _ ⟨p,rfl⟩ rfl))
 generalize hv:a.eval x=v at h1
 cases h1 with
 | tip _ _ _ _ _ h1 h2 =>
  have hsl:∃ad len cap,v = .slice ad len cap:=by
   generalize hE:([] : List (List D))=E at h1
   cases h1 with
   | nil=>exact⟨_,_,_,rfl⟩
   | sl=>exact⟨_,_,_,rfl⟩
  obtain⟨ad,len,cap,rfl⟩:=hsl
  cases ad with
  | none =>
   refine done none w ?_ hr (.refl _ _ _)
   simp[execOp,ho,resolve,hv,invoke,builtin,run_unsafeSliceData_nil]
  | some ad =>
   obtain⟨_,_,_,_,h5⟩:=h2 ob hob
   obtain⟨_,c,h6⟩:=h5 e rfl
   by_cases hc:cap=0
   ·subst hc
    have hg:=hr.grow (w':=w.alloc (.view ad e')) (by simp) (fun b hb=>Q1z w _ hb) ⟨rfl,rfl,rfl,Nat.le_refl _⟩
    refine done (some ⟨w.heap.size,0,none⟩) _ ?_ hg.1 hg.2
    simp[execOp,ho,resolve,hv,invoke,builtin,run_unsafeSliceData_zero w ts o.type e' ht ad len _ h6]
   ·refine done (some ad) w ?_ hr (.refl _ _ _)
    simp[execOp,ho,resolve,hv,invoke,builtin,run_unsafeSliceData_row w _ _ _ _ _ hc]
theorem Qct (w:World) {pt it ty e:TypeId} (hp:P.underlying pt=some (.pointer e)) (p:Option Addr):(Builtin.unsafeString_ #[pt,it] ty #[.pointer p,.int .i64 0]).run P w = .ok (.string .empty) w:=by
 cases p with
 | none=>rfl
 | some a=>rfl
theorem Qnq {o:Oper} {X:Store} {x y:Operand} {pt it e:TypeId} (ho:o.op = .call { callee:=.builtin .unsafeString,args:=#[x,y],argTypes:=#[pt,it] }) (hp:P.underlying pt=some (.pointer e)) :
  OpT P o [(x,.d (.any Qjm)),(y,.d (.sc (.int .i64 0)))] X X [] (.d (.sc (.string .empty))) :=
 .quiet fun _ _ g w ac hr hrd=>by
  have h1:=rd0 hrd
  have h2:=(rd1 hrd).sc_inv
  simp only at h1 h2
  have h3:∃p,ac.eval x = .pointer p:=by
   cases h1 with
   | d _ _ h=>cases h with
    | any _ _ h _=>exact h
  obtain⟨p,h3⟩:=h3
  refine⟨.string .empty,?_,.ofSc _ _ _⟩
  simp[execOp,ho,resolve,h3,h2,invoke,builtin,Qct w hp]
noncomputable def Qcy (P:Program) (st:XSt) (o:Oper) (x:Operand) (K:Out→Option R):Option R :=
 match xeval st x with
 | some (.tip n .u8 l (some e))=>Q1q l
   (match P.underlying o.type with
   | some (.pointer _)=>cond (inl n st.live) (K ⟨.lab,.d .pp,[(x,.tip n .u8 [] (some e))],st.objs,st.live,[],[]⟩) none
   | _=>none)
   fun a r=>K (Q9 st (.tpt n e a r) [(x,.tip n .u8 (a :: r) (some e))])
 | some (.d (.v (.slice none 0 0)))=>K (Q9 st (.d (.v (.pointer none))) [(x,.d (.v (.slice none 0 0)))])
 | _=>none
theorem Qn8 {o:Oper} {st:XSt} {ts:Array TypeId} {x:Operand} {K:Out→Option R} {r:R} (ho:o.op = .call { callee:=.builtin .unsafeSliceData,args:=#[x],argTypes:=ts }) (h:Qcy P st o x K=some r):∃out,K out=some r∧OpOk P o st out:=by
 unfold Qcy at h
 split at h
 ·rename_i n l e hx
  cases l with
  | nil =>
   simp only[Q1q] at h
   split at h
   ·rename_i e' he
    cases hb:inl n st.live with
    | false=>simp[hb] at h
    | true =>
     simp only[hb,cond_true] at h
     refine⟨_,h,⟨Qi hx,⟨rfl,?_⟩,fun _ _ _ h=>h⟩⟩
     exact Qe1 ho ((Qg _ _).1 hb) he
   ·cases h
  | cons a l =>
   simp only[Q1q] at h
   exact⟨_,h,Q4 (Qi hx) fun X=>Qoe (l:=a :: l) ho (by simp)⟩
 ·rename_i hx
  exact⟨_,h,Q4 (Qi hx) fun X=>Qie ho⟩
 ·cases h
noncomputable def Q8n (P:Program) (st:XSt) (ts:Array TypeId) (x y:Operand) (K:Out→Option R):Option R :=
 match ts.toList with
 | [pt,it]=>match P.underlying pt with
  | some (.pointer e')=>match xeval st x,xd st y with
   | some (.tpt n e a l),some (.i .i64 m)=>cond (m == (((a :: l).length:Nat):Int)) (cond (inl n st.live) (cond (Nat.beq e' e) (cond (Nat.beq (P.cellsOf e) 1) (cond (decide ((a :: l).length≤9223372036854775807))
     (K ⟨.lab,.d (.s (a :: l)),[(x,.tpt n e a l),(y,.d (.i .i64 m))],st.objs,without n st.live,[],[]⟩) none) none) none) none) none
   | some (.d .pp),some (.i .i64 m)=>cond (m == 0) (K (Q9 st (.d (.s [])) [(x,.d .pp),(y,.d (.i .i64 m))])) none
   | some (.d (.v (.pointer none))),some (.i .i64 m)=>cond (m == 0) (K (Q9 st (.d (.s [])) [(x,.d (.v (.pointer none))),(y,.d (.i .i64 m))])) none
   | _,_=>none
  | _=>none
 | _=>none
theorem Qds {st:XSt} {x y:Operand} {v:XV} {b:XD} (h:xeval st x=some v) (h' : xd st y=some b):∀p ∈ imRd [(x,v),(y,.d b)],Sees st.im p.1 p.2:=by
 intro p hp
 simp only[imRd,List.map_cons,List.map_nil,List.mem_cons,List.not_mem_nil,or_false] at hp
 rcases hp with rfl | rfl
 ·exact Q5 h
 ·exact xd_at h'
theorem Qi4 {o:Oper} {st:XSt} {ts:Array TypeId} {x y:Operand} {K:Out→Option R} {r:R} (ho:o.op = .call { callee:=.builtin .unsafeString,args:=#[x,y],argTypes:=ts }) (h:Q8n P st ts x y K=some r):∃out,K out=some r∧OpOk P o st out:=by
 unfold Q8n at h
 split at h
 ·rename_i pt it hts
  have:ts = #[pt,it]:=Array.toList_inj.1 hts
  subst this
  split at h
  ·rename_i e' hp
   split at h
   ·rename_i n e a l m hx hy
    cases h1:(m == (((a :: l).length:Nat):Int)) with
    | false=>simp only[h1,cond_false] at h; cases h
    | true =>
    cases h2:inl n st.live with
    | false=>simp[h1,h2] at h
    | true =>
    cases h3:Nat.beq e' e with
    | false=>simp[h1,h2,h3] at h
    | true =>
    cases h4:Nat.beq (P.cellsOf e) 1 with
    | false=>simp[h1,h2,h3,h4] at h
    | true =>
    cases h5:decide ((a :: l).length≤9223372036854775807) with
    | false=>simp only[h1,h2,h3,h4,h5,cond_true,cond_false] at h; cases h
    | true =>
     simp only[h1,h2,h3,h4,h5,cond_true] at h
     have e1:=Nat.eq_of_beq_eq_true h3
     subst e1
     have hm:=eq_of_beq h1
     subst hm
     refine⟨_,h,⟨Qds hx hy,⟨rfl,?_⟩,fun _ _ _ h=>h⟩⟩
     exact Qw5 (l:=a :: l) ho ((Qg _ _).1 h2) (by simp) hp (Nat.eq_of_beq_eq_true h4) (of_decide_eq_true h5)
   ·rename_i m hx hy
    cases h1:(m == 0) with
    | false=>simp[h1] at h
    | true =>
     simp only[h1,cond_true] at h
     have hm:=eq_of_beq h1
     subst hm
     exact⟨_,h,Q4 (Qds hx hy) fun X=>Qnq ho hp⟩
   ·rename_i m hx hy
    cases h1:(m == 0) with
    | false=>simp[h1] at h
    | true =>
     simp only[h1,cond_true] at h
     have hm:=eq_of_beq h1
     subst hm
     exact⟨_,h,Q4 (Qds hx hy) fun X=>Qnr ho⟩
   ·cases h
  ·cases h
 ·cases h
end
end Go.Xl
namespace Go.Xl
open Go.Ab
noncomputable def dec8 (s:List UInt8) (pos:Nat):Int×Nat:=((Utf8.decode ⟨s.toArray⟩ pos).1,(Utf8.decode ⟨s.toArray⟩ pos).2)
section
variable {P:Program} {R:Type}
theorem Qnk {w:World} {r:Nat} {s:ByteArray} {p:Nat} (hr:w.heap[r]? = some (.stringIter s p)) (o' : Obj):(setObj r o').run P w = .ok () { w with heap:=w.heap.setIfInBounds r o' }:=by
 simp[setObj,Sem.run,hr]
theorem Qdi {w:World} {r:Nat} {s:ByteArray} {p:Nat} (hr:w.heap[r]? = some (.stringIter s p)):(getObj r).run P w = .ok (.stringIter s p) w:=by
 simp[getObj,Sem.run,hr]
theorem Qp4 {o:Oper} {X:Store} {t:TypeId} {x:Operand} {s:List UInt8} (k:Nat) (ho:o.op = .range t x) (ht:P.underlying t=some .string) (hk:X.objs.lookup k=none) (hX:Qa [k] X=true) :
  OpT P o [(x,.d (.bs s))] X ⟨(k,.sit ⟨s.toArray⟩ 0) :: X.objs,X.live⟩ [k] (.ptr k 0):=by
 intro nm hsm B g w a hr hrd next Q hn
 have e1:=(rd0 hrd).sc_inv
 simp only at e1
 obtain⟨h1,h2⟩:=hr.newObj hk hX (.stringIter ⟨s.toArray⟩ 0) (.sit ⟨s.toArray⟩ 0) (by
  intro g' w' _ hw
  exact .sit _ _ hw)
 unfold Oper.wp
 have:(execOp a.eval o).run P w = .ok (.value (.pointer (some ⟨w.heap.size,0,none⟩))) (w.alloc (.stringIter ⟨s.toArray⟩ 0)):=by
  simp only[execOp,ho,e1]
  simp[Instr.range,run_underlying ht]
 rw[this]
 refine hn _ _ _ h1 h2 ?_
 have:=RA.ptr (g:={ g with ρ:=upd g.ρ k w.heap.size }) (w:=w.alloc (.stringIter ⟨s.toArray⟩ 0)) k 0
 simpa[upd_same] using this
theorem Qqu {o:Oper} {X:Store} {x:Operand} {k:Nat} {s:List UInt8} {pos:Nat} (ho:o.op = .next x true) (hk:X.objs.lookup k=some (.sit ⟨s.toArray⟩ pos)) (hp:pos < s.length) :
  OpT P o [(x,.ptr k 0)] X ⟨Ab.setObj k (.sit ⟨s.toArray⟩ (pos+(dec8 s pos).2)) X.objs,X.live⟩ [] (.tup [.d (.sc (.bool true)),.d (.sc (.int .i64 (pos:Int))),.d (.sc (.int .i32 (dec8 s pos).1))]):=by
 intro nm hsm B g w a hr hrd next Q hn
 have e1:=(rd0 hrd).ptr_inv
 simp only at e1
 have hb:w.heap[g.ρ k]? = some (.stringIter ⟨s.toArray⟩ pos):=by
  cases hr.objs k _ hk with
  | sit _ _ h=>exact h
 have hlt:g.ρ k < w.heap.size:=(Array.getElem?_eq_some_iff.1 hb).1
 obtain⟨h1,h2⟩:=hr.write (w':={ w with heap:=w.heap.setIfInBounds (g.ρ k) (.stringIter ⟨s.toArray⟩ (pos+(dec8 s pos).2)) }) (o':=.sit ⟨s.toArray⟩ (pos+(dec8 s pos).2)) hk (by simp) ⟨rfl,rfl,rfl,Nat.le_refl _⟩
  (by intro b hb'; simp[Array.getElem?_setIfInBounds,Ne.symm hb']) (fun _=>.sit _ _ (by simp[Array.getElem?_setIfInBounds,hlt])) (by
   intro sh hsh
   simp[World.shape?,hb] at hsh)
 unfold Oper.wp
 have:(execOp a.eval o).run P w = .ok (.value (.tuple #[.bool true,goInt pos,.int .i32 (dec8 s pos).1])) { w with heap:=w.heap.setIfInBounds (g.ρ k) (.stringIter ⟨s.toArray⟩ (pos+(dec8 s pos).2)) }:=by
  have hsz:pos < (⟨s.toArray⟩:ByteArray).size:=by show pos < s.toArray.size; simpa using hp
  simp only[execOp,ho,e1,Instr.next,Sem.run_bind,Qdi hb,Result.andThen,hsz,if_true,Qnk hb,dec8]
  simp
 rw[this]
 refine hn _ _ _ h1 h2 ?_
 refine .tup _ _ rfl fun i c u hc hu=>?_
 rcases i with _ | _ | _ | i
 ·simp at hc hu; subst hc; subst hu; exact .ofSc _ _ _
 ·simp at hc hu; subst hc; subst hu; exact .ofSc _ _ _
 ·simp at hc hu; subst hc; subst hu; exact .ofSc _ _ _
 ·simp at hc
theorem Qpw {o:Oper} {X:Store} {x:Operand} {k:Nat} {s:List UInt8} {pos:Nat} (ho:o.op = .next x true) (hk:X.objs.lookup k=some (.sit ⟨s.toArray⟩ pos)) (hp : ¬pos < s.length) :
  OpT P o [(x,.ptr k 0)] X X [] (.tup [.d (.sc (.bool false))]) :=
 .quiet fun _ _ g w ac hr hrd=>by
  have e1:=(rd0 hrd).ptr_inv
  simp only at e1
  have hb:w.heap[g.ρ k]? = some (.stringIter ⟨s.toArray⟩ pos):=by
   cases hr.objs k _ hk with
   | sit _ _ h=>exact h
  have hsz : ¬pos < (⟨s.toArray⟩:ByteArray).size:=by show ¬pos < s.toArray.size; simpa using hp
  refine⟨.tuple #[.bool false],?_,?_⟩
  ·simp only[execOp,ho,e1,Instr.next,Sem.run_bind,Qdi hb,Result.andThen,hsz,if_false]
   simp
  ·refine .tup _ _ rfl fun i c u hc hu=>?_
   rcases i with _ | i
   ·simp at hc hu; subst hc; subst hu; exact .ofSc _ _ _
   ·simp at hc
noncomputable def Qoi (P:Program) (st:XSt) (o:Oper) (t:TypeId) (x:Operand) (K:Out→Option R):Option R :=
 match P.underlying t with
 | some .string=>match xd st x,newName o with
  | some (.s l),some m=>cond (fresh m st) (K ⟨.all,.nm m (.p 0),[(x,.d (.s l))],(m,.sit l 0) :: st.objs,st.live,[m],[m]⟩) none
  | _,_=>none
 | _=>none
theorem Qvc {o:Oper} {st:XSt} {t:TypeId} {x:Operand} {K:Out→Option R} {r:R} (ho:o.op = .range t x) (h:Qoi P st o t x K=some r):∃out,K out=some r∧OpOk P o st out:=by
 unfold Qoi at h
 split at h
 ·rename_i ht
  split at h
  ·rename_i l m hx hm
   cases hf:fresh m st with
   | false=>simp[hf] at h
   | true =>
    simp only[hf,cond_true] at h
    obtain⟨h1,h2⟩:=Q32 hf
    refine⟨_,h,⟨sees1 hx,?_,fun j z hj hz=>?_⟩⟩
    ·exact Qp4 m ho ht (Q31 h1) h2
    ·rw[Qo (by simpa using hj)] at hz; exact hz
  ·cases h
 ·cases h
noncomputable def xNext (st:XSt) (x:Operand) (str:Bool) (K:Out→Option R):Option R :=
 cond str (match xeval st x with
  | some (.nm k (.p 0))=>match lk k st.objs with
   | some (.sit s pos)=>cond (Nat.blt pos s.length)
     (K ⟨.put k (.sit s (pos+(dec8 s pos).2)),.tup [.d (.b true),.d (.i .i64 (pos:Int)),.d (.i .i32 (dec8 s pos).1)],[(x,.nm k (.p 0))],xset k (.sit s (pos+(dec8 s pos).2)) st.objs,st.live,[],[k]⟩)
     (K ⟨.look [k],.tup [.d (.b false)],[(x,.nm k (.p 0))],st.objs,st.live,[],[]⟩)
   | _=>none
  | _=>none) none
theorem Qxr {o:Oper} {st:XSt} {x:Operand} {str:Bool} {K:Out→Option R} {r:R} (ho:o.op = .next x str) (h:xNext st x str K=some r):∃out,K out=some r∧OpOk P o st out:=by
 unfold xNext at h
 cases str with
 | false=>cases h
 | true =>
  simp only[cond_true] at h
  split at h
  ·rename_i k hx
   split at h
   ·rename_i s pos hk
    have hlk:st.X.objs.lookup k=some (.sit ⟨s.toArray⟩ pos):=by show(Q0 st.objs).lookup k=_; rw[Qt,hk]; rfl
    cases hb:Nat.blt pos s.length with
    | true =>
     simp only[hb,cond_true] at h
     refine⟨_,h,⟨Qi hx,⟨rfl,rfl,rfl,fun X hX=>?_⟩,fun j z hj hz=>?_⟩⟩
     ·exact Qqu ho (hX.trans hlk) (by simpa[Nat.blt_eq] using hb)
     ·simp only[List.mem_cons,List.not_mem_nil,or_false] at hj
      rwa [Q2k _ _ _ _ hj] at hz
    | false =>
     simp only[hb,cond_false] at h
     refine⟨_,h,⟨Qi hx,⟨rfl,rfl,rfl,fun X hX=>?_⟩,fun _ _ _ h=>h⟩⟩
     exact Qpw ho ((hX k (by simp)).trans hlk) (by
      intro hlt
      have:Nat.blt pos s.length=true:=by simpa[Nat.blt_eq] using hlt
      rw[hb] at this; cases this)
   ·cases h
  ·cases h
end
end Go.Xl
namespace Go.Xl
open Go.Ab
section
variable {P:Program} {R:Type}
noncomputable def Qc1 (P:Program) (t:TypeId):Bool :=
 match P.underlying t with
 | some (.interface _)=>false
 | some _=>true
 | none=>false
theorem run_makeInterface {t:TypeId} (h:Qc1 P t=true) (v:Value) (w:World):(Instr.makeInterface t v).run P w = .ok (.iface t v) w:=by
 unfold Qc1 at h
 split at h
 ·cases h
 ·rename_i d hd hne
  have:∀d',P.underlying t=some d'→(∀ms,d'≠.interface ms)→(Instr.makeInterface t v).run P w = .ok (.iface t v) w:=by
   intro d' h1 h2
   simp only[Instr.makeInterface,Sem.run_bind,run_underlying h1,Result.andThen]
   cases d' with
   | interface ms=>exact absurd rfl (h2 _)
   | _=>rfl
  exact this _ hne (fun ms e=>hd ms e)
 ·cases h
noncomputable def Q7f (P:Program) (st:XSt) (t:TypeId) (x:Operand) (K:Out→Option R):Option R :=
 cond (Qc1 P t) (match xeval st x with
  | some (.d (.i k n))=>K (Q9 st (.d (.ic t k (some n))) [(x,.d (.i k n))])
  | some v=>K (Q9 st (.d (.er true)) [(x,v)])
  | none=>none) none
theorem Qgo {o:Oper} {st:XSt} {t:TypeId} {x:Operand} {K:Out→Option R} {r:R} (ho:o.op = .makeInterface t x) (h:Q7f P st t x K=some r):∃out,K out=some r∧OpOk P o st out:=by
 unfold Q7f at h
 cases hn:Qc1 P t with
 | false=>simp[hn] at h
 | true =>
  simp only[hn,cond_true] at h
  split at h
  ·rename_i k n hx
   refine⟨_,h,Q4 (Qi hx) fun X=>?_⟩
   refine .quiet fun _ _ g w a _ hrd=>⟨.iface t (.int k n),?_,.ofSc _ _ _⟩
   have h1:=(rd0 hrd).sc_inv
   simp only at h1
   simp only[execOp,ho,h1]
   simp[run_makeInterface hn]
  ·rename_i v _ hx
   refine⟨_,h,Q4 (Qi hx) fun X=>?_⟩
   refine .quiet fun _ _ g w a _ hrd=>⟨.iface t (a.eval x),?_,?_⟩
   ·simp only[execOp,ho]
    simp[run_makeInterface hn]
   ·exact .d _ _ (.any _ _ ⟨t,_,rfl⟩ rfl)
  ·cases h
theorem Qwa {t:TypeId} {ms:Array (String×TypeId)} (ht:P.underlying t=some (.interface ms)) {u:TypeId} {k:IntKind} {i:TypeInfo} (hi:P.info? u=some i) (hc:i.comparable=true) (hu:P.underlying u=some (.int k)) (a:Option Int) (n:Int) (w:World) :
  (Op.equal t (icV u k a) (.iface u (.int k n))).run P w = .ok (a == some n) w:=by
 have h:∀d:Nat,(Op.equalIn (d+2) t (icV u k a) (.iface u (.int k n))).run P w = .ok (a == some n) w:=by
  intro d
  cases a with
  | none=>simp[icV,Op.equalIn,run_underlying ht]
  | some m=>simp[icV,Op.equalIn,run_underlying ht,typeInfo,hi,hc,run_underlying hu]
 exact h 9998
noncomputable def icT (P:Program) (u:TypeId) (k:IntKind):Bool :=
 match P.underlying u,P.info? u with
 | some (.int k'),some i=>cond (kindB k' k) i.comparable false
 | _,_=>false
noncomputable def Qoz (P:Program) (st:XSt) (op:BinOp) (t:TypeId) (x y:Operand) (K:Out→Option R):Option R :=
 match negOf op,P.underlying t,xeval st x,xeval st y with
 | some neg,some (.interface _),some (.d (.ic u k a)),some (.d (.ic u' k' (some n)))=>cond (Nat.beq u u') (cond (kindB k k') (cond (icT P u k)
   (K (Q9 st (.d (.b (cond neg (!(a == some n)) (a == some n)))) [(x,.d (.ic u k a)),(y,.d (.ic u' k' (some n)))])) none) none) none
 | _,_,_,_=>xBinP P st op t x y K
theorem Qu0 (neg:Bool) (t:TypeId) (x y:Operand) (v:Value) (u:TypeId) (z:Value):eqGuard (negOp neg) t x y v (.iface u z)=pure ():=by
 cases neg <;> cases v <;> rfl
theorem Qwe {o:Oper} {st:XSt} {op:BinOp} {t t' : TypeId} {x y:Operand} {K:Out→Option R} {r:R} (ho:o.op = .binOp op t x y t') (h:Qoz P st op t x y K=some r):∃out,K out=some r∧OpOk P o st out:=by
 unfold Qoz at h
 split at h
 ·rename_i neg ms u k a u' k' n hn ht hx hy
  cases h1:Nat.beq u u' with
  | false=>simp[h1] at h
  | true =>
  cases h2:kindB k k' with
  | false=>simp[h1,h2] at h
  | true =>
  cases h3:icT P u k with
  | false=>simp[h1,h2,h3] at h
  | true =>
   simp only[h1,h2,h3,cond_true] at h
   have e1:=Nat.eq_of_beq_eq_true h1
   have e2:=Q13 h2
   subst e1; subst e2
   have:=Q9v hn
   subst this
   obtain⟨i,hu,hi,hc⟩:∃i,P.underlying u=some (.int k)∧P.info? u=some i∧i.comparable=true:=by
    unfold icT at h3
    split at h3
    ·rename_i k'' i hu hi
     cases hk:kindB k'' k with
     | false=>simp[hk] at h3
     | true =>
      simp only[hk,cond_true] at h3
      rw[Q13 hk] at hu
      exact⟨i,hu,hi,h3⟩
    ·cases h3
   refine⟨_,h,Q4 ?_ fun X=>?_⟩
   ·intro p hp
    simp only[imRd,List.map_cons,List.map_nil,List.mem_cons,List.not_mem_nil,or_false] at hp
    rcases hp with rfl | rfl
    ·exact Q5 hx
    ·exact Q5 hy
   ·refine .quiet fun _ _ g w ac _ hrd=>?_
    have h4:=(rd0 hrd).sc_inv
    have h5:=(rd1 hrd).sc_inv
    simp only at h4 h5
    refine⟨_,?_,.ofSc _ _ _⟩
    simp only[execOp,ho,h4,h5]
    rw[show icV u k (some n) = .iface u (.int k n) from rfl,Qu0]
    cases neg <;> simp[negOp,binOp,Qwa ht hi hc hu]
 ·exact Qye ho h
noncomputable def aggT (P:Program) (t:TypeId):Bool :=
 match P.underlying t with
 | some d=>aggD d
 | none=>true
noncomputable def Qqa (P:Program) (st:XSt) (t:TypeId) (x:Operand) (ty:Ty) (l:List ty.T) (K:Out→Option R):Option R :=
 match tyI P t with
 | some (agg,sz)=>cond agg none (cond (Nat.beq sz 1) (cond ty.agg none (Q1q l none fun z r=>K (Q9 st (.d (ty.xv z)) [(x,.d (.pa ty (z :: r)))]))) none)
 | none=>none
noncomputable def Qop (P:Program) (st:XSt) (t:TypeId) (x:Operand) (K:Out→Option R):Option R :=
 match xeval st x with
 | some (.d (.pa ty l))=>cond (aggT P t) (xLoad P st t x K) (Qqa P st t x ty l K)
 | _=>xLoad P st t x K
theorem Qxa {o:Oper} {st:XSt} {t:TypeId} {x:Operand} {ty:Ty} {l:List ty.T} {K:Out→Option R} {r:R} (ho:o.op = .load t x) (hx:xeval st x=some (.d (.pa ty l))) (h:Qqa P st t x ty l K=some r):∃out,K out=some r∧OpOk P o st out:=by
 unfold Qqa at h
 split at h
 ·rename_i agg sz ht
  cases ha0:agg with
  | true=>simp only[ha0,cond_true] at h; cases h
  | false =>
  cases hs:Nat.beq sz 1 with
  | false=>simp only[ha0,hs,cond_false] at h; cases h
  | true =>
  cases ha:ty.agg with
  | true=>simp only[ha0,hs,ha,cond_false,cond_true] at h; cases h
  | false =>
   simp only[ha0,hs,ha,cond_false,cond_true] at h
   have:=Nat.eq_of_beq_eq_true hs
   subst this; subst ha0
   cases l with
   | nil=>simp only[Q1q] at h; cases h
   | cons z r' =>
    simp only[Q1q] at h
    refine⟨_,h,Q4 (Qi hx) fun X=>?_⟩
    have:=Qgp (P:=P) (X:=X) (x:=x) (c:=ty.dv z) (cs:=(r'.map ty.ds).flatten) ho (tyI_I ht)
    have e:(XV.d (.pa ty (z :: r'))).a = .d (.ep (ty.dv z :: (r'.map ty.ds).flatten)):=by
     show AV.d (.ep (((z :: r').map ty.ds).flatten))=_
     rw[List.map_cons,List.flatten_cons,ty.dv_one z ha]; rfl
    show OpT P o [(x,(XV.d (.pa ty (z :: r'))).a)] X X [] _
    rw[e]
    exact this
 ·cases h
theorem Qx1 {o:Oper} {st:XSt} {t:TypeId} {x:Operand} {K:Out→Option R} {r:R} (ho:o.op = .load t x) (h:Qop P st t x K=some r):∃out,K out=some r∧OpOk P o st out:=by
 unfold Qop at h
 split at h
 ·rename_i ty l hx
  cases ha:aggT P t with
  | true=>simp only[ha,cond_true] at h; exact Qpq ho h
  | false=>simp only[ha,cond_false] at h; exact Qxa ho hx h
 ·exact Qpq ho h
end
end Go.Xl
namespace Go.Ab
open Go Go.RowKit Go.Lib
theorem Qkp {α:Type} {n j:Nat} {x y:α} (h:(List.replicate n x)[j]? = some y):y=x:=List.eq_of_mem_replicate (List.mem_of_getElem? h)
section
variable {P:Program} {o:Oper} {X:Store}
theorem Qqp (m:Nat) {t e:TypeId} {x y:Operand} {kl kc:IntKind} {n:Nat} {i:TypeInfo} {z:Value} {zds:List D} (ho:o.op = .makeSlice t x y) (ht:P.underlying t=some (.slice e))
  (hi:P.info? e=some i) (hz:i.zero=some z) (hsz:i.size=zds.length) (hzs:z.cells.size=zds.length) (hzc:∀(γ:Nat→Nat) (w:World) (j:Nat) c v,zds[j]? = some c→z.cells[j]? = some v→RD γ w c v)
  (hpos:0 < zds.length) (hbig:i.bytes*n≤281474976710656) (h63:n≤9223372036854775807) (hm:X.objs.lookup m=none) (hX:Qa [m] X=true) (ty:Option TypeId) (hty:∀t',ty=some t'→t' = e) :
  OpT P o [(x,.d (.sc (.int kl n))),(y,.d (.sc (.int kc n)))] X ⟨(m,.cells ((List.replicate n zds).flatten.map .d) ty) :: X.objs,X.live⟩ [m] (.osl m 0 n zds.length):=by
 intro nm hsm B g w a hr hrd next Q hn
 have h1:=(rd0 hrd).sc_inv
 have h2:=(rd1 hrd).sc_inv
 simp only at h1 h2
 have hfl:(List.replicate n zds).flatten.length=n*zds.length:=by
  rw[Q1h (sz:=zds.length) _ (fun j cs hj=>by rw[Qkp hj]),List.length_replicate]
 have hrun:=run_make (P:=P) w t e i z ht hi hz kl kc (n:Int) (n:Int) (by omega) (Int.le_refl _) (by rw[← Int.natCast_mul]; generalize i.bytes*n=q at hbig ⊢; omega) (by omega)
 rw[Int.toNat_natCast] at hrun
 obtain⟨r1,r2⟩:=hr.newObj (k:=m) hm hX (.cells (madeCells z.cells (n*i.size)) e) (.cells ((List.replicate n zds).flatten.map .d) ty) (by
  intro g' w' ht' hw'
  refine .cells _ ty _ e hw' (by rw[List.length_map,hfl,size_madeCells,hsz]; exact Nat.le_refl _) ?_ hty
  intro j c v hc hv
  rw[List.getElem?_map,Option.map_eq_some_iff] at hc
  obtain⟨d,hd,rfl⟩:=hc
  obtain⟨p,q,ds,rfl,hp,hq⟩:=flat_get (sz:=zds.length) _ (fun j cs hj=>by rw[Qkp hj]) j d hd
  have hds:ds=zds:=Qkp hp
  subst hds
  have hql:q < ds.length:=(List.getElem?_eq_some_iff.1 hq).1
  have hlt:p*ds.length+q < n*i.size:=by
   have:=(List.getElem?_eq_some_iff.1 hd).1
   rw[hfl] at this
   rw[hsz]; exact this
  unfold madeCells at hv
  simp only[Array.getElem?_map,Array.getElem?_range,hlt,if_true,Option.map_some,Option.some.injEq] at hv
  have hmod:(p*ds.length+q) % z.cells.size=q:=by
   rw[hzs,Nat.mul_comm,Nat.mul_add_mod,Nat.mod_eq_of_lt hql]
  rw[hmod,getElem!_pos z.cells q (by omega)] at hv
  exact .d _ _ (hzc _ _ q d v hq (by rw[← hv]; exact Array.getElem?_eq_getElem (by omega))))
 unfold Oper.wp
 have:(execOp a.eval o).run P w = .ok (.value (.slice (some ⟨w.heap.size,0,none⟩) n n)) (w.alloc (.cells (madeCells z.cells (n*i.size)) e)):=by
  simp[execOp,ho,h1,h2,hrun]
 rw[this]
 refine hn _ _ _ r1 r2 (.nm _ _ _ ?_)
 simp only[upd_same]
 exact⟨n,0,Nat.le_refl _,rfl,.inr rfl,e,n*zds.length,by unfold World.shape?; rw[heap_alloc_new]; simp[size_madeCells,hsz],by omega⟩
theorem Q3x {w:World} {b:Nat} {arr:Array Value} {T:TypeId} {fr:Nat×Nat} (h:w.heap[b]? = some (.cells arr T fr)):w.shape? b=some (T,arr.size):=by
 simp[World.shape?,h]
theorem Qrq {ts:Array TypeId} {x y:Operand} {dT sT e:TypeId} {i:TypeInfo} {k:Nat} {l s:List UInt8} {ty:Option TypeId} (ho:o.op = .call { callee:=.builtin .copy,args:=#[x,y],argTypes:=ts }) (hts:ts = #[dT,sT])
  (hu:P.underlying dT=some (.slice e)) (hi:P.info? e=some i) (hsz:i.size=1) (hk:X.objs.lookup k=some (.cells ((Qq l).flatten.map .d) ty)) (hl:l.length=s.length) :
  OpT P o [(x,.osl k 0 l.length 1),(y,.d (.sc (.string ⟨s.toArray⟩)))] X ⟨setObj k (.cells ((Qq s).flatten.map .d) ty) X.objs,X.live⟩ [] (.d (.sc (.int .i64 s.length))):=by
 subst hts
 intro nm hsm B g w a hr hrd next Q hn
 have h1:=(rd0 hrd).osl_inv
 have h2:=(rd1 hrd).sc_inv
 simp only at h1 h2
 obtain⟨cap,q,hcap,hv,hq,T,c,hsh,hc⟩:=h1
 cases hr.objs k _ hk with
 | cells _ _ arr T' hb hlen hcc hty =>
 have hbl:(Qq l).flatten.length=l.length:=by rw[Q1h (sz:=1) _ (fun j cs hj=>by obtain⟨b,_,rfl⟩:=Q38 hj; rfl),Q16,Nat.mul_one]
 have hbs:(Qq s).flatten.length=s.length:=by rw[Q1h (sz:=1) _ (fun j cs hj=>by obtain⟨b,_,rfl⟩:=Q38 hj; rfl),Q16,Nat.mul_one]
 rw[List.length_map,hbl] at hlen
 rw[Q3x hb] at hsh
 simp only[Option.some.injEq,Prod.mk.injEq] at hsh
 obtain⟨rfl,rfl⟩:=hsh
 have hss:(⟨s.toArray⟩:ByteArray).size=s.length:=by show s.toArray.size=_; simp
 have hdl:(⟨s.toArray⟩:ByteArray).data.toList=s:=by simp
 have hrun:=Lib.run_copy_row_string (P:=P) w dT sT o.type e (g.ρ k) q l.length cap ⟨s.toArray⟩ arr T' hu (by rw[hi]; simp[hsz]) hb (by rw[hss,hl]; exact Nat.le_refl _) (by rw[hss]; omega)
 rw[hss,hdl] at hrun
 have hq0:s.length=0∨q=0:=by
  rcases hq with h | h
  ·left; omega
  ·exact .inr h
 generalize hY:(arr.toList.take q++Lib.byteCells s++arr.toList.drop (q+s.length)).toArray=Y at hrun
 have hb' : (w.setRow (g.ρ k) Y).heap[g.ρ k]? = some (.cells Y T' (0,0)):=setRow_heap _ _ arr _ T' (0,0) hb
 have hYs:Y.size=arr.size:=by
  rw[← hY]
  simp[Lib.byteCells_length]
  omega
 obtain⟨r1,r2⟩:=hr.write (w':=w.setRow (g.ρ k) Y) hk (o':=.cells ((Qq s).flatten.map .d) ty) (by simp) ⟨rfl,rfl,rfl,Nat.le_refl _⟩ (fun b hb2=>setRow_other _ _ _ _ hb2) (by
  intro ht'
  refine .cells _ ty Y T' hb' (by rw[List.length_map,hbs,hYs]; omega) ?_ hty
  intro j z u hz hu
  rw[List.getElem?_map,Option.map_eq_some_iff] at hz
  obtain⟨d,hd,rfl⟩:=hz
  have hjl:j < s.length:=by have:=(List.getElem?_eq_some_iff.1 hd).1; rw[hbs] at this; exact this
  have hq' : q=0:=by
   rcases hq0 with h | h
   ·omega
   ·exact h
  subst hq'
  obtain⟨p,r,ds,rfl,hp,hr'⟩:=flat_get (sz:=1) _ (fun j cs hj=>by obtain⟨b,_,rfl⟩:=Q38 hj; rfl) j d hd
  obtain⟨b,hb0,rfl⟩:=Q38 hp
  have hr0:r=0:=by have:=(List.getElem?_eq_some_iff.1 hr').1; simp at this; exact this
  subst hr0
  simp only[List.getElem?_cons_zero,Option.some.injEq] at hr'
  subst hr'
  rw[← hY] at hu
  simp only[List.take_zero,List.nil_append,List.getElem?_toArray,Nat.mul_one,Nat.add_zero] at hu hjl
  rw[List.getElem?_append_left (by rw[Lib.byteCells_length]; exact hjl)] at hu
  unfold Lib.byteCells at hu
  rw[List.getElem?_map,hb0] at hu
  simp only[Option.map_some,Option.some.injEq] at hu
  subst hu
  exact .ofSc _ _ _) (by
   intro sh hs0
   rw[Q3x hb] at hs0
   rw[Q3x hb',hYs]
   exact hs0)
 unfold Oper.wp
 have:(execOp a.eval o).run P w = .ok (.value (goInt s.length)) (w.setRow (g.ρ k) Y):=by
  simp[execOp,ho,resolve,hv,h2,invoke,builtin,hrun]
 rw[this]
 exact hn _ _ _ r1 r2 (.ofSc _ _ _)
theorem Qna {x y:Operand} {pt it e k:Nat} {l:List UInt8} (ho:o.op = .call { callee:=.builtin .unsafeString,args:=#[x,y],argTypes:=#[pt,it] }) (hk:X.objs.lookup k=some (.cells ((Qq l).flatten.map .d) (some e))) (hk1:1000≤k) (hl:l≠[])
  (hp:P.underlying pt=some (.pointer e)) (hc:P.cellsOf e=1) (hlen:l.length≤9223372036854775807) :
  OpT P o [(x,.ptr k 0),(y,.d (.sc (.int .i64 l.length)))] X (dropObj k X) [] (.d (.sc (.string ⟨l.toArray⟩))):=by
 intro nm hsm B g w a hr hrd next Q hnext
 have h1:=(rd0 hrd).ptr_inv
 have h2:=(rd1 hrd).sc_inv
 simp only at h1 h2
 have hkn:k ∉ nm:=fun hh=>by have:=hsm k hh; omega
 have hbl:(Qq l).flatten.length=l.length:=by rw[Q1h (sz:=1) _ (fun j cs hj=>by obtain⟨b,_,rfl⟩:=Q38 hj; rfl),Q16,Nat.mul_one]
 cases hr.objs k _ hk with
 | cells _ _ arr T hb hle hcc hty =>
 have:=hty e rfl
 subst this
 rw[List.length_map,hbl] at hle
 have hcell:∀j u,l[j]? = some u→w.cell? ((⟨g.ρ k,0,none⟩:Addr).add j)=some (.int .u8 u.toNat):=by
  intro j u hu
  rw[addr_add,Nat.zero_add]
  have hjl:j < l.length:=(List.getElem?_eq_some_iff.1 hu).1
  rw[cell?_cells hb]
  have hja:j < arr.size:=by omega
  have hd:(Qq l).flatten[j]? = some (.sc (.int .u8 u.toNat)):=by
   have:=Q96 (sz:=1) (Qq l) (fun j cs hj=>by obtain⟨b,_,rfl⟩:=Q38 hj; rfl) j 0 [.sc (.int .u8 u.toNat)] (.sc (.int .u8 u.toNat)) (by simp[Qq,hu]) rfl
   simpa using this
  have:=hcc j (.d (.sc (.int .u8 u.toNat))) arr[j] (by rw[List.getElem?_map,hd]; rfl) (Array.getElem?_eq_getElem hja)
  have:=this.sc_inv
  simp[hja,this]
 have hrun:=run_unsafeString_row (P:=P) w pt it o.type e hp hc (g.ρ k) arr.size (Q3x hb) l hl hle hlen hcell
 have hr1:=hr.dropObj hkn
 have hfz:∀b',b'≠g.ρ k→(w.freeze ⟨g.ρ k,0,none⟩ l.length).heap[b']? = w.heap[b']?:=by
  intro b' hb'
  unfold World.freeze
  split
  ·rfl
  ·simp only[Array.getElem?_modify]
   rw[if_neg (by simpa using hb'.symm)]
 have hlk:∀j ob,(Ab.dropObj k X).objs.lookup j=some ob→j≠k∧X.objs.lookup j=some ob:=by
  intro j ob hj
  simp only[Ab.dropObj,Q1g] at hj
  split at hj
  ·cases hj
  ·exact⟨‹_›,hj⟩
 have hγ:g.γ (g.ρ k)=0:=hr.objγ k _ hk
 obtain⟨hr2,ht2⟩:=hr1.raise (w':=w.freeze ⟨g.ρ k,0,none⟩ l.length) (b:=g.ρ k) (n:=g.γ (g.ρ k)) (Array.getElem?_eq_some_iff.1 hb).1 (hr.objnew k _ hk) (fun j ob hj he=>by
   obtain⟨e1,e2⟩:=hlk j ob hj
   exact e1 (hr.objinj j k _ _ e2 hk he.symm)) (fun m hm=>hr.tipobj m _ k _ hm hk rfl)
  (hr.eta.objN hk) (by unfold World.freeze; split <;> simp) (by unfold World.freeze; split <;> exact⟨rfl,rfl,rfl,Nat.le_refl _⟩) hfz (fun i hi=>by omega) (Nat.le_refl _) (fun i hi=>by omega) (by
   intro s hs0
   unfold World.freeze
   split
   ·exact hs0
   ·simp only[World.shape?,Array.getElem?_modify,if_true] at hs0 ⊢
    cases hh:w.heap[g.ρ k]? with
    | none=>rw[hh] at hs0; exact hs0
    | some o=>rw[hh] at hs0; cases o <;> exact hs0)
 unfold Oper.wp
 have:(execOp a.eval o).run P w = .ok (.value (.string ⟨l.toArray⟩)) (w.freeze ⟨g.ρ k,0,none⟩ l.length):=by
  simp[execOp,ho,resolve,h1,h2,invoke,builtin,hrun]
 rw[this]
 exact hnext _ _ _ hr2 ht2 (.ofSc _ _ _)
theorem Qjv {x:Operand} {sT dT e:TypeId} {s:List UInt8} (ho:o.op = .convert sT dT x) (hs:P.underlying sT=some .string) (hd:P.underlying dT=some (.slice e)) (he:P.underlying e=some (.int .u8)) :
  OpT P o [(x,.d (.sc (.string ⟨s.toArray⟩)))] X X [] (.d (.sl 1 (Qq s))):=by
 intro nm hsm B g w a hr hrd next Q hn
 have h1:=(rd0 hrd).sc_inv
 simp only at h1
 have hrun:=Lib.run_convert_string_bytes (P:=P) w sT dT e ⟨s.toArray⟩ hs hd he
 have hss:(⟨s.toArray⟩:ByteArray).size=s.length:=by show s.toArray.size=_; simp
 rw[hss] at hrun
 generalize hW:Lib.bytesWorld w e ⟨s.toArray⟩=w' at hrun
 have hsz:w'.heap.size=w.heap.size+1:=by rw[← hW]; exact Lib.bytesWorld_size _ _ _
 have hold:∀b,b < w.heap.size→w'.heap[b]? = w.heap[b]?:=fun b hb=>by rw[← hW]; exact Lib.bytesWorld_at_old _ _ _ _ hb
 have hnew:=Lib.bytesWorld_at_new w e ⟨s.toArray⟩
 rw[hW] at hnew
 have hio:w'.os=w.os∧w'.output=w.output∧w'.tape=w.tape∧w.drawn≤w'.drawn:=by
  rw[← hW]
  unfold Lib.bytesWorld World.freeze
  split
  ·exact⟨rfl,rfl,rfl,Nat.le_succ _⟩
  ·exact⟨rfl,rfl,rfl,Nat.le_succ _⟩
 have hcap:s.length≤grownCap w s.length 0 e:=grownCap_ge _ _ _ _
 have hcs:s.length≤(Lib.bytesCells w e ⟨s.toArray⟩).size:=by
  unfold Lib.bytesCells
  simp
 obtain⟨r1,t1⟩:=hr.grow (w':=w') (by omega) hold hio
 have hcell:∀j u,s[j]? = some u→w'.cell? ⟨w.heap.size,j,none⟩=some (.int .u8 u.toNat):=by
  intro j u hu
  have hj:=(List.getElem?_eq_some_iff.1 hu).1
  have:=Lib.bytesWorld_cell w e ⟨s.toArray⟩ j (by rw[hss]; exact hj)
  rw[hW] at this
  rw[this]
  simp[List.getD,hu]
 obtain⟨r2,t2⟩:=r1.raise (w':=w') (b:=w.heap.size) (n:=s.length) (by omega) (.inl hr.base) (fun k ob hk he'=>by
  have:=Q1o (hr.objs k ob hk)
  omega) (fun m hm=>by have:=hr.tiplt m _ hm; omega) (hr.eta.ltN (Nat.le_refl _)) rfl ⟨rfl,rfl,rfl,Nat.le_refl _⟩ (fun _ _=>rfl) (fun _ _=>rfl) (by rw[γ_top hr (Nat.le_refl _)]; omega) (fun i hi=>by
  rw[hcell i s[i] (by simp[hi])]; rfl) (fun _ h=>h)
 unfold Oper.wp
 have:(execOp a.eval o).run P w = .ok (.value (.slice (some ⟨w.heap.size,0,none⟩) s.length (grownCap w s.length 0 e))) w':=by
  simp[execOp,ho,h1,hrun]
 rw[this]
 refine hn _ _ _ r2 (t1.trans t2) (.d _ _ (.ofCells' (Q16 s).symm (by simp only[upd_same]; omega) hcap ?_ ?_))
 ·intro j cs hj
  obtain⟨b,_,rfl⟩:=Q38 hj
  rfl
 ·intro p q cs c u hp hq hu
  obtain⟨b,hb,rfl⟩:=Q38 hp
  have hq0:q=0:=by have:=(List.getElem?_eq_some_iff.1 hq).1; simp at this; exact this
  subst hq0
  simp only[List.getElem?_cons_zero,Option.some.injEq] at hq
  subst hq
  rw[show 0+(p*1+0)=p by omega,hcell p b hb] at hu
  cases hu
  exact .sc _
end
end Go.Ab
namespace Go.Xl
open Go.Ab
section
variable {P:Program} {R:Type}
noncomputable def zeroT (P:Program) (e:TypeId) (ty:Ty):Option (List Value×ty.T) :=
 match Q9e P e with
 | some l=>match ty.dec (l.map Q2r) with
  | some (x,[])=>some (l,x)
  | _=>none
 | none=>none
theorem Qjw:∀(l:List Value),dsOf (l.map Q2r)=l.map D.sc
 | []=>rfl
 | v :: r=>by simp only[List.map_cons,dsOf,Q5g,Qjw r]
theorem Qnx {e:TypeId} {ty:Ty} {l:List Value} {x:ty.T} (h:zeroT P e ty=some (l,x)):Q9e P e=some l∧DsLe (l.map D.sc) (ty.ds x):=by
 unfold zeroT at h
 split at h
 ·rename_i l' hl
  split at h
  ·rename_i y hd
   cases h
   obtain⟨ds,h1,h2⟩:=Ty.dec_spec ty hd
   simp only[dsOf,List.append_nil] at h1
   rw[Qjw] at h1
   exact⟨hl,h1▸h2⟩
  ·cases h
 ·cases h
theorem Qe4 {e:TypeId} {l:List Value} (h:Q9e P e=some l):∃i z,P.info? e=some i∧i.zero=some z∧z.cells.toList=l:=by
 unfold Q9e at h
 split at h
 ·rename_i i hi
  split at h
  ·rename_i z hz
   cases h
   exact⟨i,z,hi,hz,rfl⟩
  ·cases h
 ·cases h
noncomputable def sizeB (P:Program) (e:TypeId) (n:Nat):Option Nat :=
 match P.info? e with
 | some i=>cond (Nat.beq i.size n) (some i.bytes) none
 | none=>none
theorem Qpp {e n b:Nat} (h:sizeB P e n=some b):∃i,P.info? e=some i∧i.size=n∧i.bytes=b:=by
 unfold sizeB at h
 split at h
 ·rename_i i hi
  cases hb:Nat.beq i.size n with
  | false=>simp[hb] at h
  | true=>simp only[hb,cond_true,Option.some.injEq] at h; exact⟨i,hi,Nat.eq_of_beq_eq_true hb,h⟩
 ·cases h
noncomputable def repB (z:UInt8) (n:Nat):List UInt8:=List.replicate n z
noncomputable def Qb6:Operand→Operand→Bool
 | .tmp a,.tmp b=>Nat.beq a b
 | _,_=>false
theorem Qlw {x y:Operand} (h:Qb6 x y=true):x=y:=by
 unfold Qb6 at h
 split at h
 ·rw[Nat.eq_of_beq_eq_true h]
 ·cases h
noncomputable def roomFor (b:Nat) (n:Int):Bool:=decide (0≤n) && (decide (b*n.toNat≤281474976710656) && decide (n≤9223372036854775807))
noncomputable def ownB (own:List Nat) (o:Oper):Bool :=
 match o.dst with
 | some d=>inl (1000000+d) own
 | none=>false
theorem Qea {o:Oper} {X:Store} {m:Nat} {t e:TypeId} {x y:Operand} {kl kc:IntKind} {n:Int} {ty:Ty} {l:List Value} {z:ty.T} {b:Nat} (ho:o.op = .makeSlice t x y) (ht:P.underlying t=some (.slice e))
  (hz:zeroT P e ty=some (l,z)) (hb:sizeB P e ty.size=some b) (h0:Nat.beq ty.size 0=false) (hr:roomFor b n=true) (hm:X.objs.lookup m=none) (hX:Qa [m] X=true) (tt:Option TypeId) (htt:∀t',tt=some t'→t' = e) :
  OpT P o [(x,.d (.sc (.int kl n))),(y,.d (.sc (.int kc n)))] X ⟨(m,.cells (((List.replicate n.toNat z).map ty.ds).flatten.map .d) tt) :: X.objs,X.live⟩ [m] (.osl m (0*ty.size) n.toNat ty.size):=by
 rw[Nat.zero_mul]
 obtain⟨h1,h2⟩:=Qnx hz
 obtain⟨i,v,h3,h4,h5⟩:=Qe4 h1
 obtain⟨i',h6,h7,h8⟩:=Qpp hb
 rw[h3] at h6
 cases h6
 unfold roomFor at hr
 simp only[Bool.and_eq_true,decide_eq_true_eq] at hr
 obtain⟨r1,r2,r3⟩:=hr
 obtain⟨k,rfl⟩:=Int.eq_ofNat_of_zero_le r1
 rw[Int.toNat_natCast] at r2 ⊢
 have hl:=Ty.ds_length ty z
 have hvs:v.cells.size=(ty.ds z).length:=by
  have:=h2.length
  rw[List.length_map,← h5] at this
  simpa using this
 have:=Qqp (P:=P) (o:=o) (X:=X) m (x:=x) (y:=y) (kl:=kl) (kc:=kc) (n:=k) (zds:=ty.ds z) ho ht h3 h4 (h7.trans hl.symm) hvs (by
  intro γ w j c u hc hu
  obtain⟨c',hc',hle⟩:=h2.get hc
  rw[List.getElem?_map,← h5,Array.getElem?_toList,hu] at hc'
  simp only[Option.map_some,Option.some.injEq] at hc'
  subst hc'
  exact hle _ _ _ (.sc u)) (by rw[hl]; exact Nat.pos_of_ne_zero (Nat.ne_of_beq_eq_false h0)) (by rw[h8]; exact r2) (by omega) hm hX tt htt
 rw[hl] at this
 rw[List.map_replicate]
 exact this
noncomputable def Qhp (P:Program) (st:XSt) (o:Oper) (t:TypeId) (x y:Operand) (K:Out→Option R):Option R :=
 match P.underlying t with
 | some (.slice e)=>match tyOf P 9 e,newName o with
  | some ty,some m=>match zeroT P e ty,sizeB P e ty.size,xd st x with
   | some (l, z), some b, some (.i kl n) => cond (Qb6 x y) (cond (Nat.beq (ty).size 0) none (cond (roomFor b n) (cond (fresh m st)
      (K ⟨.all,.os m ty 0 n.toNat,[(x,.d (.i kl n)),(y,.d (.i kl n))],(m,.arr ty (List.replicate n.toNat z)) :: st.objs,st.live,[m],[m]⟩) none) none)) none
   | _,_,_=>none
  | _,_=>none
 | _=>none
theorem Qr5 {o:Oper} {st:XSt} {t:TypeId} {x y:Operand} {K:Out→Option R} {r:R} (ho:o.op = .makeSlice t x y) (h:Qhp P st o t x y K=some r):∃out,K out=some r∧OpOk P o st out:=by
 unfold Qhp at h
 split at h
 ·rename_i e ht
  split at h
  ·rename_i ty m hty hm
   split at h
   ·rename_i l z b kl n hz hb hx
    cases h1:Qb6 x y with
    | false=>simp only[h1,cond_false] at h; cases h
    | true =>
    cases h2:Nat.beq (ty).size 0 with
    | true=>simp only[h1,h2,cond_true] at h; cases h
    | false =>
    cases h3:roomFor b n with
    | false=>simp only[h1,h2,h3,cond_true,cond_false] at h; cases h
    | true =>
    cases h4:fresh m st with
    | false=>simp only[h1,h2,h3,h4,cond_true,cond_false] at h; cases h
    | true =>
    simp only[h1,h2,h3,h4,cond_true,cond_false] at h
    obtain⟨f1,f2⟩:=Q32 h4
    have hxy:=Qlw h1
    subst hxy
    refine⟨_,h,⟨?_,?_,fun j w hj hw=>?_⟩⟩
    ·intro p hp
     simp only[imRd,List.map_cons,List.map_nil,List.mem_cons,List.not_mem_nil,or_false,or_self] at hp
     subst hp
     exact xd_at hx
    ·exact Qea (X:=st.X) (x:=x) (y:=x) (kl:=kl) (kc:=kl) (n:=n) (ty:=ty) ho ht hz hb h2 h3 (Q31 f1) f2 none (by simp)
    ·rw[Qo (by simpa using hj)] at hw; exact hw
   ·cases h
  ·cases h
 ·cases h
noncomputable def Qod (P:Program) (st:XSt) (o:Oper) (t:TypeId) (x y:Operand) (K:Out→Option R):Option R :=
 match P.underlying t with
 | some (.slice e)=>match newName o with
  | some m=>match zeroT P e .u8,sizeB P e Ty.u8.size,xd st x with
   | some (l, z), some b, some (.i kl n) => cond (Qb6 x y) (cond (Nat.beq (Ty.u8).size 0) none (cond (roomFor b n) (cond (fresh m st)
      (K ⟨.all,.os m .u8 0 n.toNat,[(x,.d (.i kl n)),(y,.d (.i kl n))],(m,.bts e (repB z n.toNat)) :: st.objs,st.live,[m],[m]⟩) none) none)) none
   | _,_,_=>none
  | _=>none
 | _=>none
theorem Qvt {o:Oper} {st:XSt} {t:TypeId} {x y:Operand} {K:Out→Option R} {r:R} (ho:o.op = .makeSlice t x y) (h:Qod P st o t x y K=some r):∃out,K out=some r∧OpOk P o st out:=by
 unfold Qod at h
 split at h
 ·rename_i e ht
  split at h
  ·rename_i m hm
   split at h
   ·rename_i l z b kl n hz hb hx
    cases h1:Qb6 x y with
    | false=>simp only[h1,cond_false] at h; cases h
    | true =>
    cases h2:Nat.beq (Ty.u8).size 0 with
    | true=>simp only[h1,h2,cond_true] at h; cases h
    | false =>
    cases h3:roomFor b n with
    | false=>simp only[h1,h2,h3,cond_true,cond_false] at h; cases h
    | true =>
    cases h4:fresh m st with
    | false=>simp only[h1,h2,h3,h4,cond_true,cond_false] at h; cases h
    | true =>
    simp only[h1,h2,h3,h4,cond_true,cond_false] at h
    obtain⟨f1,f2⟩:=Q32 h4
    have hxy:=Qlw h1
    subst hxy
    refine⟨_,h,⟨?_,?_,fun j w hj hw=>?_⟩⟩
    ·intro p hp
     simp only[imRd,List.map_cons,List.map_nil,List.mem_cons,List.not_mem_nil,or_false,or_self] at hp
     subst hp
     exact xd_at hx
    ·exact Qea (X:=st.X) (x:=x) (y:=x) (kl:=kl) (kc:=kl) (n:=n) (ty:=Ty.u8) ho ht hz hb h2 h3 (Q31 f1) f2 (some e) (by simp)
    ·rw[Qo (by simpa using hj)] at hw; exact hw
   ·cases h
  ·cases h
 ·cases h
noncomputable def Qd1 (P:Program) (own:List Nat) (st:XSt) (o:Oper) (t:TypeId) (x y:Operand) (K:Out→Option R):Option R :=
 cond (ownB own o) (Qod P st o t x y K) (Qhp P st o t x y K)
theorem Qnn {own:List Nat} {o:Oper} {st:XSt} {t:TypeId} {x y:Operand} {K:Out→Option R} {r:R} (ho:o.op = .makeSlice t x y) (h:Qd1 P own st o t x y K=some r):∃out,K out=some r∧OpOk P o st out:=by
 unfold Qd1 at h
 cases hb:ownB own o with
 | true=>simp only[hb,cond_true] at h; exact Qvt ho h
 | false=>simp only[hb,cond_false] at h; exact Qr5 ho h
noncomputable def xCopy (P:Program) (st:XSt) (ts:Array TypeId) (x y:Operand) (K:Out→Option R):Option R :=
 match ts.toList with
 | [dT,sT]=>match P.underlying dT with
  | some (.slice e)=>match sizeB P e 1,xeval st x,xd st y with
   | some _,some (.os k .u8 0 len),some (.s s)=>match lk k st.objs with
    | some (.bts e' l)=>cond (Nat.beq len l.length) (cond (Nat.beq l.length s.length)
      (K ⟨.put k (.bts e' s),.d (.i .i64 ((s.length:Nat):Int)),[(x,.os k .u8 0 len),(y,.d (.s s))],xset k (.bts e' s) st.objs,st.live,[],[k]⟩) none) none
    | _=>none
   | _,_,_=>none
  | _=>none
 | _=>none
theorem Qy4 {o:Oper} {st:XSt} {ts:Array TypeId} {x y:Operand} {K:Out→Option R} {r:R} (ho:o.op = .call { callee:=.builtin .copy,args:=#[x,y],argTypes:=ts }) (h:xCopy P st ts x y K=some r):∃out,K out=some r∧OpOk P o st out:=by
 unfold xCopy at h
 split at h
 ·rename_i dT sT hts
  have:ts = #[dT,sT]:=Array.toList_inj.1 hts
  subst this
  split at h
  ·rename_i e hu
   split at h
   ·rename_i b k len s hb hx hy
    split at h
    ·rename_i e' l hk
     cases h1:Nat.beq len l.length with
     | false=>simp only[h1,cond_false] at h; cases h
     | true =>
     cases h2:Nat.beq l.length s.length with
     | false=>simp only[h1,h2,cond_true,cond_false] at h; cases h
     | true =>
     simp only[h1,h2,cond_true] at h
     have e1:=Nat.eq_of_beq_eq_true h1
     subst e1
     obtain⟨i,i1,i2,_⟩:=Qpp hb
     have hlk:st.X.objs.lookup k=some (XOb.bts e' l).o:=by show(Q0 st.objs).lookup k=_; rw[Qt,hk]; rfl
     refine⟨_,h,⟨Qds hx hy,⟨rfl,rfl,rfl,fun X hX=>?_⟩,fun j z hj hz=>?_⟩⟩
     ·exact Qrq ho rfl hu i1 i2 (hX.trans hlk) (Nat.eq_of_beq_eq_true h2)
     ·simp only[List.mem_cons,List.not_mem_nil,or_false] at hj
      rwa [Q2k _ _ _ _ hj] at hz
    ·cases h
   ·cases h
  ·cases h
 ·cases h
noncomputable def Qcr (P:Program) (st:XSt) (ts:Array TypeId) (x y:Operand) (k:Nat) (e:TypeId) (l:List UInt8) (v:XV) (K:Out→Option R):Option R :=
 match ts.toList with
 | [pt,it]=>match P.underlying pt with
  | some (.pointer e')=>match xd st y with
   | some (.i .i64 m)=>cond (Nat.beq l.length 0) none (cond (m == ((l.length:Nat):Int)) (cond (Nat.ble 1000 k) (cond (Nat.beq e' e) (cond (Nat.beq (P.cellsOf e) 1) (cond (decide (l.length≤9223372036854775807))
     (K ⟨.all,.d (.s l),[(x,v),(y,.d (.i .i64 m))],dropX k st.objs,st.live,[],[]⟩) none) none) none) none) none)
   | _=>none
  | _=>none
 | _=>none
theorem Qni {o:Oper} {st:XSt} {ts:Array TypeId} {x y:Operand} {k:Nat} {e:TypeId} {l:List UInt8} {v:XV} {K:Out→Option R} {r:R} (ho:o.op = .call { callee:=.builtin .unsafeString,args:=#[x,y],argTypes:=ts }) (hx:xeval st x=some v) (hv:v.a = .ptr k 0)
  (hk:lk k st.objs=some (.bts e l)) (h:Qcr P st ts x y k e l v K=some r):∃out,K out=some r∧OpOk P o st out:=by
 unfold Qcr at h
 split at h
 ·rename_i pt it hts
  have:ts = #[pt,it]:=Array.toList_inj.1 hts
  subst this
  split at h
  ·rename_i e' hp
   split at h
   ·rename_i m hy
    cases h0:Nat.beq l.length 0 with
    | true=>simp only[h0,cond_true] at h; cases h
    | false =>
    cases h1:(m == ((l.length:Nat):Int)) with
    | false=>simp only[h0,h1,cond_false] at h; cases h
    | true =>
    cases h2:Nat.ble 1000 k with
    | false=>simp only[h0,h1,h2,cond_true,cond_false] at h; cases h
    | true =>
    cases h3:Nat.beq e' e with
    | false=>simp only[h0,h1,h2,h3,cond_true,cond_false] at h; cases h
    | true =>
    cases h4:Nat.beq (P.cellsOf e) 1 with
    | false=>simp only[h0,h1,h2,h3,h4,cond_true,cond_false] at h; cases h
    | true =>
    cases h5:decide (l.length≤9223372036854775807) with
    | false=>simp only[h0,h1,h2,h3,h4,h5,cond_true,cond_false] at h; cases h
    | true =>
    simp only[h0,h1,h2,h3,h4,h5,cond_true,cond_false] at h
    have e1:=Nat.eq_of_beq_eq_true h3
    subst e1
    have hm:=eq_of_beq h1
    subst hm
    have hlk:st.X.objs.lookup k=some (XOb.bts e' l).o:=by show(Q0 st.objs).lookup k=_; rw[Qt,hk]; rfl
    refine⟨_,h,⟨Qds hx hy,?_,fun j z _ hz=>Q67 hz⟩⟩
    have hop:=Qna (X:=st.X) ho hlk (Nat.le_of_ble_eq_true h2) (by rintro rfl; simp at h0) hp (Nat.eq_of_beq_eq_true h4) (of_decide_eq_true h5)
    have e2:Ab.dropObj k st.X=⟨Q0 (dropX k st.objs),st.live⟩:=by rw[Q5b]; rfl
    rw[e2] at hop
    simp only[imRd,List.map_cons,List.map_nil,hv]
    exact hop
   ·cases h
  ·cases h
 ·cases h
noncomputable def Qas (P:Program) (st:XSt) (ts:Array TypeId) (x y:Operand) (K:Out→Option R):Option R :=
 match xeval st x with
 | some (.el k .u8 0 0)=>match lk k st.objs with
  | some (.bts e l)=>Qcr P st ts x y k e l (.el k .u8 0 0) K
  | _=>none
 | _=>Q8n P st ts x y K
theorem Qko {o:Oper} {st:XSt} {ts:Array TypeId} {x y:Operand} {K:Out→Option R} {r:R} (ho:o.op = .call { callee:=.builtin .unsafeString,args:=#[x,y],argTypes:=ts }) (h:Qas P st ts x y K=some r):∃out,K out=some r∧OpOk P o st out:=by
 unfold Qas at h
 split at h
 ·rename_i k hx
  split at h
  ·rename_i e l hk
   exact Qni ho hx rfl hk h
  ·cases h
 ·exact Qi4 ho h
noncomputable def Qg0 (P:Program) (e:TypeId):Bool :=
 match P.underlying e with
 | some (.int .u8)=>true
 | _=>false
theorem Qu4 {e:TypeId} (h:Qg0 P e=true):P.underlying e=some (.int .u8):=by
 unfold Qg0 at h
 split at h
 ·assumption
 ·cases h
noncomputable def Qpo (P:Program) (st:XSt) (s d:TypeId) (x:Operand) (K:Out→Option R):Option R :=
 match P.underlying s,P.underlying d with
 | some .string,some (.slice e)=>match xd st x with
  | some (.s l)=>cond (Qg0 P e) (K (Q9 st (.d (.sl .u8 l)) [(x,.d (.s l))])) none
  | _=>none
 | _,_=>Qo2 P st s d x K
theorem Qwy {o:Oper} {st:XSt} {s d:TypeId} {x:Operand} {K:Out→Option R} {r:R} (ho:o.op = .convert s d x) (h:Qpo P st s d x K=some r):∃out,K out=some r∧OpOk P o st out:=by
 unfold Qpo at h
 split at h
 ·rename_i e hs hd
  split at h
  ·rename_i l hx
   cases hb:Qg0 P e with
   | false=>simp only[hb,cond_false] at h; cases h
   | true =>
   simp only[hb,cond_true] at h
   refine⟨_,h,Q4 ?_ fun X=>Qjv ho hs hd (Qu4 hb)⟩
   intro p hp
   simp only[imRd,List.map_cons,List.map_nil,List.mem_cons,List.not_mem_nil,or_false] at hp
   subst hp
   exact xd_at hx
  ·cases h
 ·exact Qwp ho h
end
end Go.Xl
namespace Go.Xl
open Go.Ab
noncomputable def Qb0:List XV→Option (List XD)
 | []=>some []
 | x :: r=>match x.asD,Qb0 r with
  | some y,some l=>some (y :: l)
  | _,_=>none
theorem Qx9 {x:XV} {y:XD} (h:x.asD=some y):ALe x.a (.d y.d):=by
 cases x with
 | d u=>simp only[XV.asD,Option.some.injEq] at h; subst h; exact .refl _
 | tip n t l ty=>simp only[XV.asD,Option.some.injEq] at h; subst h; exact ALe.tip _ _ _ _
 | _=>simp[XV.asD] at h
theorem Qj3:∀ {cs:List XV} {ds:List XD},Qb0 cs=some ds→cs.length=ds.length∧∀(i:Nat) x y,cs[i]? = some x→ds[i]? = some y→ALe x.a (.d y.d)
 | [],ds,h=>by simp[Qb0] at h; subst h; exact⟨rfl,by simp⟩
 | x :: r,ds,h=>by
  simp only[Qb0] at h
  split at h
  ·rename_i y l hy hl
   cases h
   obtain⟨h1,h2⟩:=Qj3 hl
   refine⟨by simp[h1],fun i a b ha hb=>?_⟩
   cases i with
   | zero=>simp at ha hb; subst ha; subst hb; exact Qx9 hy
   | succ i=>exact h2 i a b (by simpa using ha) (by simpa using hb)
  ·cases h
noncomputable def tidyV:XV→XV
 | .agg cs=>match Qb0 cs with
  | some ds=>.d (.agg ds)
  | none=>.agg cs
 | x=>x
theorem Qpi (x:XV):ALe x.a (tidyV x).a:=by
 cases x with
 | agg cs =>
  simp only[tidyV]
  split
  ·rename_i ds hd
   obtain⟨hl,hc⟩:=Qj3 hd
   intro g w v hr
   simp only[XV.a,XD.d] at hr ⊢
   cases hr with
   | agg _ vs hl2 hx =>
    refine .d _ _ (.agg _ vs (by rw[Q25,← hl,← Q8]; exact hl2) fun i c u hi hu=>?_)
    rw[Q2n,List.getElem?_map,Option.map_eq_some_iff] at hi
    obtain⟨y,hy,rfl⟩:=hi
    have hlt:i < cs.length:=by rw[hl]; exact(List.getElem?_eq_some_iff.1 hy).1
    have h1:=hc i cs[i] y (List.getElem?_eq_getElem hlt) hy g w u (hx i cs[i].a u (by rw[Q4n,List.getElem?_eq_getElem hlt]; rfl) hu)
    cases h1 with
    | d _ _ h=>exact h
  ·exact .refl _
 | _=>exact .refl _
noncomputable def Out.tidy (out:Out):Out:={ out with res:=tidyV out.res }
theorem Q7m {P:Program} {o:Oper} {rd:List (Operand×AV)} {X X' : Store} {F:List Nat} {res res' : AV} (h:OpT P o rd X X' F res) (hle:ALe res res'):OpT P o rd X X' F res' :=
 fun nm hsm B g w a hr hrd next Q hn=>h nm hsm B g w a hr hrd next Q fun g' w' v h1 h2 h3=>hn g' w' v h1 h2 (hle g' w' v h3)
theorem OpOk.tidy {P:Program} {o:Oper} {st:XSt} {out:Out} (h:OpOk P o st out):OpOk P o st out.tidy:=by
 refine⟨h.sees,?_,h.ol⟩
 have:=h.op
 have hle:=Qpi out.res
 show match out.eff with | .none=>_ | .look ks=>_ | .put k c=>_ | .all=>_ | .lab=>_ | .putl k c=>_ | .new os=>_
 cases he:out.eff with
 | none=>rw[he] at this; exact⟨this.1,this.2.1,this.2.2.1,fun X=>Q7m (this.2.2.2 X) hle⟩
 | look ks=>rw[he] at this; exact⟨this.1,this.2.1,this.2.2.1,fun X hX=>Q7m (this.2.2.2 X hX) hle⟩
 | put k c=>rw[he] at this; exact⟨this.1,this.2.1,this.2.2.1,fun X hX=>Q7m (this.2.2.2 X hX) hle⟩
 | all=>rw[he] at this; exact Q7m this hle
 | lab=>rw[he] at this; exact⟨this.1,Q7m this.2 hle⟩
 | putl k c=>rw[he] at this; exact⟨this.1,Q7m this.2 hle⟩
 | new os=>rw[he] at this; exact⟨this.1,Q7m this.2 hle⟩
section
variable {P:Program} {R:Type}
noncomputable def Qx8 (P:Program) (st:XSt) (t:TypeId) (x:Operand) (K:Out→Option R):Option R:=Qop P st t x fun out=>K out.tidy
theorem Qwn {o:Oper} {st:XSt} {t:TypeId} {x:Operand} {K:Out→Option R} {r:R} (ho:o.op = .load t x) (h:Qx8 P st t x K=some r):∃out,K out=some r∧OpOk P o st out:=by
 obtain⟨out,h1,h2⟩:=Qx1 ho h
 exact⟨_,h1,h2.tidy⟩
end
end Go.Xl
namespace Go.Ab
def strDs (l:List UInt8):List (List D):=l.map fun c=>[.sc (.int .u8 ((c.toNat:Nat):Int))]
theorem Qem {P:Program} (l:List UInt8) (w:World):(Builtin.firstCells 1 l.length (.string ⟨l.toArray⟩)).run P w = .ok (l.map fun c=>Value.int .u8 ((c.toNat:Nat):Int)).toArray w:=by
 have h:((⟨l.toArray⟩:ByteArray).extract 0 l.length).data=l.toArray:=by
  rw[ByteArray.data_extract]
  simp
 simp[Builtin.firstCells,h]
theorem Qzm {P:Program} {g:Gh} {w:World} {l:List UInt8} {fs:List (List D)} {sz:Nat} {vx:Value} (hs1:sz=1) (hfs:fs=strDs l) (h:RD g.γ w (.bs l) vx) :
  vx = .string ⟨l.toArray⟩∧(∀(i:Nat) cs,fs[i]? = some cs→cs.length=sz)∧∃news:List Value,news.length=fs.length*sz ∧
   (∀w' : World,(∀b k,k < g.γ b→w'.cell? ⟨b,k,none⟩=w.cell? ⟨b,k,none⟩)→(Builtin.firstCells sz fs.length (.string ⟨l.toArray⟩)).run P w' = .ok news.toArray w') ∧
   ∀(p q:Nat) cs c v,fs[p]? = some cs→cs[q]? = some c→news[p*sz+q]? = some v→RD g.γ w c v:=by
 subst hs1; subst hfs
 have hlen:(strDs l).length=l.length:=by rw[strDs,List.length_map]
 refine⟨by cases h; rfl,?_,l.map fun c=>Value.int .u8 ((c.toNat:Nat):Int),by rw[List.length_map,hlen,Nat.mul_one],?_,?_⟩
 ·intro i cs hcs
  rw[strDs,List.getElem?_map,Option.map_eq_some_iff] at hcs
  obtain⟨c,_,rfl⟩:=hcs
  rfl
 ·intro w' _
  rw[hlen]
  exact Qem l w'
 ·intro p q cs c v hp hq hv
  rw[strDs,List.getElem?_map,Option.map_eq_some_iff] at hp
  obtain⟨d,hd,rfl⟩:=hp
  cases q with
  | succ q=>simp at hq
  | zero =>
   simp at hq
   subst hq
   rw[Nat.mul_one,Nat.add_zero,List.getElem?_map,hd] at hv
   simp at hv
   subst hv
   exact .sc _
theorem Q4j {P:Program} {w w' : World} {ts:Array TypeId} {ty t e u:TypeId} {i:TypeInfo} (h0:ts[0]? = some t) (h1:ts[1]? = some u) (hu:P.underlying u=some .string)
  (ht:P.underlying t=some (.slice e)) (hi:P.info? e=some i)
  {base:Option Addr} {len cap n:Nat} {l:List UInt8} {news:List Value} (hl:n=l.length) (hx:(Builtin.firstCells i.size n (.string ⟨l.toArray⟩)).run P w = .ok news.toArray w) (hneed:len+n≤cap)
  (hst:(base=none∧w' = w)∨∃a,base=some a∧(storeCells (a.add (len*i.size)) news).run P w = .ok () w') :
  (Builtin.append_ ts ty #[.slice base len cap,.string ⟨l.toArray⟩]).run P w = .ok (.slice base (len+n) cap) w':=by
 have hz:(⟨l.toArray⟩:ByteArray).size=n:=by rw[hl]; show l.toArray.size=_; simp
 rcases hst with ⟨rfl,rfl⟩ | ⟨a,rfl,hst⟩
 ·simp[Builtin.append_,h0,h1,run_underlying ht,run_underlying hu,sizeOf,typeInfo,hi,Builtin.lenOf,hz,hneed,hx]
 ·simp[Builtin.append_,h0,h1,run_underlying ht,run_underlying hu,sizeOf,typeInfo,hi,Builtin.lenOf,hz,hneed,hx,hst]
theorem Qgg {P:Program} {w:World} {ts:Array TypeId} {ty t e u:TypeId} {i:TypeInfo} {z:Value} (h0:ts[0]? = some t) (h1:ts[1]? = some u) (hu:P.underlying u=some .string)
  (ht:P.underlying t=some (.slice e)) (hi:P.info? e=some i) (hz:i.zero=some z)
  {base:Option Addr} {len cap n:Nat} {l:List UInt8} {news olds:List Value} (hl:n=l.length) (hx:(Builtin.firstCells i.size n (.string ⟨l.toArray⟩)).run P w.drew = .ok news.toArray w.drew)
  (ho:(Builtin.firstCells i.size len (.slice base len cap)).run P w.drew = .ok olds.toArray w.drew) (hneed : ¬len+n≤cap)
  (h63:((len+n:Nat):Int)≤9223372036854775807) (h48:(len+n)*i.bytes≤140737488355328) :
  (Builtin.append_ ts ty #[.slice base len cap,.string ⟨l.toArray⟩]).run P w =
   .ok (.slice (some ⟨w.heap.size,0,none⟩) (len+n) (grownCap w (len+n) cap e))
    (w.drew.alloc (.cells (olds.toArray++news.toArray++Builtin.zeroCells z.cells (grownCap w (len+n) cap e - (len+n))) e)):=by
 have hzz:(⟨l.toArray⟩:ByteArray).size=n:=by rw[hl]; show l.toArray.size=_; simp
 have h63' : ¬(9223372036854775807 < ((len:Int)+(n:Int))):=by omega
 have hfit:=growslice_fits (need:=len+n) (old:=cap) (by omega) h48
 have h48' : ¬(281474976710656 < Builtin.nextslicecap (len+n) cap*i.bytes):=by omega
 simp[Builtin.append_,h0,h1,run_underlying ht,run_underlying hu,sizeOf,typeInfo,zeroValue,hi,hz,Builtin.lenOf,hzz,hneed,h63',h48',Question.forced,hx,ho,Go.newRow,grownCap]
 congr 2
 apply Array.ext'
 simp[List.append_assoc]
section
variable {P:Program} {o:Oper} {X:Store}
theorem Qdj {ty:Option TypeId} {ts:Array TypeId} {s x:Operand} {n sz:Nat} {es fs:List (List D)} {l:List UInt8} {t u e:TypeId} {i:TypeInfo} {z:Value} (m:Nat)
  (ho:o.op = .call { callee:=.builtin .append,args:=#[s,x],argTypes:=ts }) (h0:ts[0]? = some t) (h1:ts[1]? = some u) (hu:P.underlying u=some .string)
  (ht:P.underlying t=some (.slice e)) (hi:P.info? e=some i) (hz:i.zero=some z) (hzs:z.cells.size=sz) (hsz:i.size=sz) (hs1:i.size=1) (hfs:fs=strDs l) (hn:n ∈ X.live) (hm:m ∉ X.live.filter (· != n)) (hX:Qa [m] X=true)
  (hone:∀cs ∈ fs,∀c ∈ cs,oneD c=true) (hbig:(es.length+fs.length)*i.bytes≤140737488355328) (hlen:es.length+fs.length≤4611686018427387904)
  (hty:∀e',ty=some e'→e' = e) :
  OpT P o [(s,.tip n sz es ty),(x,.d (.bs l))] X ⟨X.objs,m :: X.live.filter (· != n)⟩ [m] (.tip m sz (es++fs) ty):=by
 subst hsz
 intro nm hsm B g w a hr hrd next Q hnext
 have e1:=rd0 hrd
 have e2:=rd1 hrd
 simp only at e1 e2
 unfold Oper.wp
 have hrun:∀r,(Builtin.append_ ts o.type #[a.eval s,a.eval x]).run P w=r→(execOp a.eval o).run P w=r.andThen fun v w'=>.ok (.value v) w':=by
  intro r hr'
  simp only[execOp,ho,resolve]
  simp[invoke,builtin,hr']
 generalize a.eval s=vs at e1 hrun
 generalize a.eval x=vx at e2 hrun
 cases e1 with
 | tip _ _ _ _ _ e1 htip =>
 cases e2 with
 | d _ _ e2 =>
 obtain⟨base,cap,rfl,hcap,hbn,hszE,olds,hol,horun,hoc⟩:=e1.slCells (P:=P) hr.sane
 obtain⟨rfl,hszF,news,hnl,hnrun,hnc⟩:=Qzm (P:=P) (g:=g) hs1 hfs e2
 have hfl:fs.length=l.length:=by rw[hfs,strDs,List.length_map]
 have hszEF:=getElem?_append_cells hszE hszF
 have hob:∃ob,g.β n=some ob:=Option.isSome_iff_exists.1 ((hr.live n).1 hn)
 obtain⟨ob,hob⟩:=hob
 obtain⟨hr1,ht1⟩:=hr.dropTip n
 have hone' : ∀v ∈ news,v.oneCell' = true:=by
  intro v hv
  obtain⟨k,hk⟩:=List.mem_iff_getElem?.1 hv
  have hklt:k < fs.length*i.size:=by have:=(List.getElem?_eq_some_iff.1 hk).1; omega
  obtain⟨p,q,cs,c,rfl,hp,hq⟩:=Qaq hszF hklt
  exact Qcw (hnc p q cs c v hp hq hk) (hone cs (List.mem_of_getElem? hp) c (List.mem_of_getElem? hq))
 by_cases hneed:es.length+fs.length≤cap
 ·-- the result lies where s lay
  have same:fs = []→(Builtin.append_ ts o.type #[.slice base es.length cap,.string ⟨l.toArray⟩]).run P w = .ok (.slice base es.length cap) w →
    base=none →
    Oper.upon P o a next Q ((execOp a.eval o).run P w):=by
   intro hf hrn hfull
   obtain⟨hr2,ht2⟩:=hr1.addTip (m:=m) hm none hX (by simp)
   rw[hrun _ hrn]
   subst hf
   simp only[List.append_nil] at *
   refine hnext _ w _ hr2 (ht1.trans ht2) (.tip m i.size es ty _ (e1.mono (ht1.trans ht2).le) ?_)
   subst hfull; trivial
  cases hb:base with
  | none =>
   have h0' : cap=0:=hbn hb
   have hf:fs = []:=by cases fs with
    | nil=>rfl
    | cons _ _=>simp at hneed; omega
   have hrn:=Q4j (hl:=hfl) (P:=P) (w:=w) (w':=w) (ty:=o.type) h0 h1 hu ht hi (base:=base) (hnrun w fun _ _ _=>rfl) hneed (.inl ⟨hb,rfl⟩)
   subst hb
   refine same hf ?_ rfl
   rw[hrn]; subst hf; rfl
  | some b0 =>
   subst hb
   obtain⟨b,off,sp⟩:=b0
   obtain⟨hsp,htp⟩:=htip ob hob
   simp only at hsp; subst hsp
   by_cases hfe:fs = []
   ·subst hfe
    have hn0:news = []:=by simpa using hnl
    subst hn0
    have hrn:=Q4j (hl:=hfl) (P:=P) (w:=w) (w':=w) (ty:=o.type) h0 h1 hu ht hi (base:=some ⟨b,off,none⟩) (hnrun w fun _ _ _=>rfl) hneed (.inr ⟨_,rfl,rfl⟩)
    obtain⟨hob',hγ,hroom,htyp⟩:=htp
    ·-- nothing is written; the label keeps its block
     subst hob'
     obtain⟨hr2,ht2⟩:=hr1.addTip (m:=m) hm (some b) hX (by
      intro b' hb'; cases hb'
      refine⟨hr.tiplt n b hob,hr.tipnew n b hob,fun k p hk=>hr.tipobj n b k p hob hk,fun n' hn'=>?_,hr.eta.dropN hob⟩
      by_cases he:n' = n
      ·subst he; simp[upd_same] at hn'
      ·simp only[Q6 _ _ he] at hn'; exact he (hr.tipinj n' n b hn' hob))
     rw[hrun _ hrn]
     simp only[List.append_nil] at hnext
     refine hnext _ w _ hr2 (ht1.trans ht2) (.tip m i.size es ty _ (e1.mono (ht1.trans ht2).le) ?_)
     ·intro ob' hob'
      simp only[upd_same,Option.some.injEq] at hob'
      exact⟨rfl,hob'.symm,hγ,hroom,htyp⟩
   ·have hpos:0 < fs.length:=List.length_pos_iff.2 hfe
    obtain⟨hob',hγ,hroom,htyp⟩:=htp
    subst hob'
    simp only at hγ hroom
    have hblt:=hr.tiplt n b hob
    have hmul:(es.length+fs.length)*i.size=es.length*i.size+fs.length*i.size:=Nat.add_mul _ _ _
    have hmulc:(es.length+fs.length)*i.size≤cap*i.size:=Nat.mul_le_mul_right _ hneed
    -- the block
    have hblk:fs.length*i.size=0∨∃arr T fr,w.heap[b]? = some (.cells arr T fr)∧off+cap*i.size≤arr.size:=by
     rcases Nat.eq_zero_or_pos (fs.length*i.size) with h | h
     ·exact .inl h
     ·right
      have hlast:=hroom (off+cap*i.size - 1) (by omega) (by omega)
      obtain⟨v,hv⟩:=Option.isSome_iff_exists.1 hlast.1
      unfold World.cell? at hv
      simp only at hv
      split at hv
      ·rename_i arr T fr hh
       refine⟨arr,T,fr,hh,?_⟩
       simp at hv
       have:=(Array.getElem?_eq_some_iff.1 hv).1
       omega
      ·cases hv
    rcases hblk with hzero | ⟨arr,T,fr,hblk,hsize⟩
    ·-- elements without cells
     have hn0:news = []:=List.length_eq_zero_iff.1 (by omega)
     subst hn0
     have hrn:=Q4j (hl:=hfl) (P:=P) (w:=w) (w':=w) (ty:=o.type) h0 h1 hu ht hi (base:=some ⟨b,off,none⟩) (hnrun w fun _ _ _=>rfl) hneed (.inr ⟨_,rfl,rfl⟩)
     obtain⟨hr2,ht2⟩:=hr1.addTip (m:=m) hm (some b) hX (by
      intro b' hb'; cases hb'
      refine⟨hr.tiplt n b hob,hr.tipnew n b hob,fun k p hk=>hr.tipobj n b k p hob hk,fun n' hn'=>?_,hr.eta.dropN hob⟩
      by_cases he:n' = n
      ·subst he; simp[upd_same] at hn'
      ·simp only[Q6 _ _ he] at hn'; exact he (hr.tipinj n' n b hn' hob))
     rw[hrun _ hrn]
     refine hnext _ w _ hr2 (ht1.trans ht2) (.tip m i.size _ ty _ ?_ ?_)
     ·refine .ofCells' List.length_append.symm (by simp only; omega) hneed hszEF ?_
      intro p q cs c v hp hq hv
      have h2:q < cs.length:=(List.getElem?_eq_some_iff.1 hq).1
      rw[hszEF p cs hp] at h2
      have:i.size=0:=by
       rcases Nat.mul_eq_zero.1 hzero with h | h
       ·omega
       ·exact h
      omega
     ·intro ob' hob'
      simp only[upd_same,Option.some.injEq] at hob'
      refine⟨rfl,hob'.symm,?_,?_,htyp⟩
      ·simp only; omega
      ·intro p h3 h4; exact hroom p (by simp only at h3; omega) h4
    ·obtain⟨w',arr',hst,hb',hs',hp',hz',hoth,hi'⟩:=Q3n (P:=P) (off:=off+es.length*i.size) news 0 w arr hblk hone' (by omega) (by
      intro j h3 h4; exact(hroom j (by omega) (by omega)).2)
     have hrn:=Q4j (hl:=hfl) (P:=P) (w:=w) (w':=w') (ty:=o.type) h0 h1 hu ht hi (base:=some ⟨b,off,none⟩) (hnrun w fun _ _ _=>rfl) hneed (.inr ⟨_,rfl,by rw[addr_add]; exact hst⟩)
     simp only[Nat.add_zero] at hp'
     have holdc:∀k,k < off+es.length*i.size→w'.cell? ⟨b,k,none⟩=w.cell? ⟨b,k,none⟩:=by
      intro k hk
      rw[cell?_cells hb',cell?_cells hblk,hp' k,if_neg (by omega)]
     have hsane' : ∀k,k < off+(es.length+fs.length)*i.size→(w'.cell? ⟨b,k,none⟩).isSome:=by
      intro k hk
      rw[cell?_cells hb']
      have:k < arr'.size:=by omega
      simp[this]
     obtain⟨hr2,ht2⟩:=hr1.raise (w':=w') (b:=b) (n:=off+(es.length+fs.length)*i.size) hblt (hr.tipnew n b hob) (fun k p hk=>hr.tipobj n b k p hob hk) (by
      intro n' hn'
      by_cases he:n' = n
      ·subst he; simp[upd_same] at hn'
      ·simp only[Q6 _ _ he] at hn'; exact he (hr.tipinj n' n b hn' hob)) (hr.eta.dropN hob) hz' hi' hoth (by intro k hk; exact holdc k (by simp only at hk; omega)) (by simp only; omega) hsane' (by
      intro s hs0
      simp only[World.shape?,hblk] at hs0
      simp only[World.shape?,hb',hs']
      exact hs0)
     obtain⟨hr3,ht3⟩:=hr2.addTip (m:=m) hm (some b) hX (by
      intro b' hb'; cases hb'
      refine⟨by rw[hz']; exact hblt,hr.tipnew n b hob,fun k p hk=>hr.tipobj n b k p hob hk,fun n' hn'=>?_,hr.eta.dropN hob⟩
      by_cases he:n' = n
      ·subst he; simp[upd_same] at hn'
      ·simp only[Q6 _ _ he] at hn'; exact he (hr.tipinj n' n b hn' hob))
     have hT:=(ht1.trans ht2).trans ht3
     rw[hrun _ hrn]
     refine hnext _ w' _ hr3 hT (.tip m i.size _ ty _ ?_ ?_)
     ·refine .ofCells' List.length_append.symm (by simp only[upd_same]; omega) hneed hszEF ?_
      intro p q cs c v hp hq hv
      have h2:q < cs.length:=(List.getElem?_eq_some_iff.1 hq).1
      rw[hszEF p cs hp] at h2
      rw[List.getElem?_append] at hp
      split at hp
      ·rename_i hplt
       have hlt:=Q48 hplt h2
       rw[holdc _ (by omega)] at hv
       have hold:=horun w fun _ _ _=>rfl
       cases e1 with
       | nil=>simp at hp
       | sl _ _ _ _ _ _ _ _ _ _ hc =>
        exact(hc p cs q c v hp hq (by rw[Nat.add_assoc]; exact hv)).mono hT.le
      ·rename_i hpge
       have hplt:p - es.length < fs.length:=by have:=(List.getElem?_eq_some_iff.1 hp).1; omega
       have hlt:=Q48 hplt h2
       have hpq:p*i.size+q=es.length*i.size+((p - es.length)*i.size+q):=by
        have:p=es.length+(p - es.length):=by omega
        conv=>lhs; rw[this,Nat.add_mul]
        omega
       rw[cell?_cells hb',hp',if_pos (by omega)] at hv
       refine(hnc (p - es.length) q cs c v hp hq ?_).mono hT.le
       rw[← hv]; congr 1; omega
     ·intro ob' hob'
      simp only[upd_same,Option.some.injEq] at hob'
      refine⟨rfl,hob'.symm,by simp only[upd_same],?_,?_⟩
      rotate_left
      ·intro e1 he1
       obtain⟨h1,c,h2⟩:=htyp e1 he1
       refine⟨h1,arr'.size,?_⟩
       simp only[World.shape?,hblk] at h2
       simp only[World.shape?,hb']
       simp only[Option.some.injEq,Prod.mk.injEq] at h2
       rw[h2.1]
      intro p h3 h4
      simp only at h3 h4
      have h5:=hroom p (by omega) h4
      refine⟨?_,?_⟩
      ·rw[cell?_cells hb']
       have:p < arr'.size:=by omega
       simp[this]
      ·have:=h5.2
       simp only[World.frozen?,hblk] at this
       simp only[World.frozen?,hb']
       exact this
 ·-- a new row
  obtain⟨hrd',htd⟩:=hr1.drew
  have hdc:∀b k,k < g.γ b→(w.drew).cell? ⟨b,k,none⟩=w.cell? ⟨b,k,none⟩:=fun _ _ _=>rfl
  have hrn:=Qgg (hl:=hfl) (P:=P) (w:=w) (ty:=o.type) h0 h1 hu ht hi hz (hnrun w.drew hdc) (horun w.drew hdc) hneed (by omega) hbig
  have hge:=grownCap_ge w (es.length+fs.length) cap e
  generalize grownCap w (es.length+fs.length) cap e=nc at hrn hge
  have hmul:(es.length+fs.length)*i.size=es.length*i.size+fs.length*i.size:=Nat.add_mul _ _ _
  have harr:(olds.toArray++news.toArray++Builtin.zeroCells z.cells (nc - (es.length+fs.length))).size=nc*i.size:=by
   simp only[Array.size_append,List.size_toArray,size_zeroCells,hol,hnl,hzs]
   rw[← hmul,← Nat.add_mul]
   congr 1; omega
  have hncm:(es.length+fs.length)*i.size≤nc*i.size:=Nat.mul_le_mul_right _ hge
  generalize harrE:olds.toArray++news.toArray++Builtin.zeroCells z.cells (nc - (es.length+fs.length))=arr at hrn harr
  obtain⟨hr2,ht2⟩:=hrd'.newRow arr e ((es.length+fs.length)*i.size) (by omega)
  obtain⟨hr3,ht3⟩:=hr2.addTip (m:=m) hm (some w.drew.heap.size) hX (by
   intro b' hb'; cases hb'
   refine⟨by simp,.inl hrd'.base,fun k p hk=>?_,fun n' hn'=>?_,hrd'.eta.ltN (Nat.le_refl _)⟩
   ·have:=Q1o (hrd'.objs k p hk); simp only at this ⊢; omega
   ·have:=hrd'.tiplt n' _ hn'; omega)
  have hT:=((ht1.trans htd).trans ht2).trans ht3
  rw[hrun _ hrn]
  have hnewc:∀k,(w.drew.alloc (.cells arr e)).cell? ⟨w.drew.heap.size,k,none⟩=arr[k]?:=fun k=>cell?_cells (heap_alloc_new w.drew (.cells arr e)) k
  refine hnext _ _ _ hr3 hT (.tip m i.size _ ty _ ?_ ?_)
  ·have hww:w.heap.size=w.drew.heap.size:=rfl
   rw[hww]
   refine .ofCells' List.length_append.symm (by simp only[upd_same]; omega) hge hszEF ?_
   intro p q cs c v hp hq hv
   have h2:q < cs.length:=(List.getElem?_eq_some_iff.1 hq).1
   rw[hszEF p cs hp] at h2
   rw[Nat.zero_add,hnewc,← harrE] at hv
   rw[List.getElem?_append] at hp
   split at hp
   ·rename_i hplt
    have hlt:=Q48 hplt h2
    rw[Array.append_assoc,Array.getElem?_append_left (by simp; omega)] at hv
    exact(hoc p q cs c v hp hq (by simpa using hv)).mono hT.le
   ·rename_i hpge
    have hplt:p - es.length < fs.length:=by have:=(List.getElem?_eq_some_iff.1 hp).1; omega
    have hlt:=Q48 hplt h2
    have hpq:p*i.size+q=es.length*i.size+((p - es.length)*i.size+q):=by
     have:p=es.length+(p - es.length):=by omega
     conv=>lhs; rw[this,Nat.add_mul]
     omega
    rw[Array.getElem?_append_left (by simp; omega),Array.getElem?_append_right (by simp; omega)] at hv
    refine(hnc (p - es.length) q cs c v hp hq ?_).mono hT.le
    rw[← hv]
    simp only[List.size_toArray,List.getElem?_toArray]
    congr 1; omega
  ·intro ob' hob'
   simp only[upd_same,Option.some.injEq] at hob'
   subst hob'
   have hww:w.heap.size=w.drew.heap.size:=rfl
   refine⟨rfl,by rw[hww],by rw[hww]; simp only[upd_same,Nat.zero_add],?_,?_⟩
   rotate_left
   ·intro e1 he1
    rw[hty e1 he1]
    refine⟨rfl,arr.size,?_⟩
    have:=heap_alloc_new w.drew (.cells arr e)
    simp only[World.shape?]
    rw[hww,this]
   intro p h3 h4
   simp only[Nat.zero_add] at h3 h4
   rw[hww]
   refine⟨by rw[hnewc]; simp; omega,?_⟩
   exact frozen_of_row _ _ _ arr e (heap_alloc_new w.drew (.cells arr e))
end
end Go.Ab
namespace Go.Xl
open Go.Ab
section
variable {P:Program} {R:Type}
noncomputable def Q6i (P:Program) (ts:Array TypeId):Bool :=
 match ts[1]? with
 | some u=>match P.underlying u with
  | some .string=>true
  | _=>false
 | none=>false
noncomputable def Qkw (P:Program) (st:XSt) (o:Oper) (ts:Array TypeId) (s x:Operand) (K:Out→Option R):Option R :=
 match ts[0]?,Q6y o with
 | some t,some m =>
  match Qv P t,xeval st s,xd st x with
  | some (e,sz,bytes),some (.tip n .u8 l oty),some (.s l') =>
    cond (Nat.beq sz 1) (cond (inl n st.live) (cond (Q26 m (without n st.live) st) (cond (tyOpt oty e)
     (cond (fitsB (l.length+l'.length) bytes) (K ⟨.lab,.tip m .u8 (l++l') oty,[(s,.tip n .u8 l oty),(x,.d (.s l'))],st.objs,m :: without n st.live,[m],[]⟩) none) none) none) none) none
  | _,_,_=>none
 | _,_=>none
theorem Quq {o:Oper} {st:XSt} {ts:Array TypeId} {s x:Operand} {K:Out→Option R} {r:R} (ho:o.op = .call { callee:=.builtin .append,args:=#[s,x],argTypes:=ts }) (hb:Q6i P ts=true) (h:Qkw P st o ts s x K=some r):∃out,K out=some r∧OpOk P o st out:=by
 have hu:∃u,ts[1]? = some u∧P.underlying u=some .string:=by
  unfold Q6i at hb
  split at hb
  ·rename_i u h1
   split at hb
   ·rename_i h2; exact⟨u,h1,h2⟩
   ·cases hb
  ·cases hb
 obtain⟨u,hu1,hu2⟩:=hu
 unfold Qkw at h
 split at h
 ·rename_i t m ht hm
  split at h
  ·rename_i e sz bytes n l oty l' hsl hs hx
   cases h1:Nat.beq sz 1 with
   | false=>simp[h1] at h
   | true =>
   cases h2:inl n st.live with
   | false=>simp[h1,h2] at h
   | true =>
   cases h3:Q26 m (without n st.live) st with
   | false=>simp[h1,h2,h3] at h
   | true =>
   cases h4:tyOpt oty e with
   | false=>simp[h1,h2,h3,h4] at h
   | true =>
   cases h5:fitsB (l.length+l'.length) bytes with
   | false=>simp[h1,h2,h3,h4,h5] at h
   | true =>
    simp only[h1,h2,h3,h4,h5,cond_true] at h
    have e1:=Nat.eq_of_beq_eq_true h1
    subst e1
    obtain⟨f1,f2⟩:=Q39 h3
    obtain⟨b1,b2⟩:=Q4f h5
    obtain⟨hte,i,z,hi,hsz,hby,hz,hzs⟩:=Qd hsl
    have hty:∀e',oty=some e'→e' = e:=by
     intro e' he
     subst he
     simp only[tyOpt] at h4
     exact Nat.eq_of_beq_eq_true h4
    refine⟨_,h,⟨?_,?_,fun _ _ _ h=>h⟩⟩
    ·intro p hp
     simp only[imRd,List.map_cons,List.map_nil,List.mem_cons,List.not_mem_nil,or_false] at hp
     rcases hp with rfl | rfl
     ·exact Q5 hs
     ·exact xd_at hx
    ·have := Qdj (P := P) (X := st.X) (s := s) (x := x) (n := n) (sz := 1) (es := l.map Ty.u8.ds) (fs := strDs l') (l := l') (ty := oty) m ho ht hu1 hu2 hte hi hz hzs hsz hsz rfl ((Qg _ _).1 h2) f1 f2
       (by intro cs hcs c hc; rw[strDs] at hcs; obtain⟨y,_,rfl⟩:=List.mem_map.1 hcs; exact Ty.u8.ds_one y c hc) (by rw[strDs,List.length_map,List.length_map,hby]; exact b1) (by rw[strDs,List.length_map,List.length_map]; exact b2) hty
     have e:l.map Ty.u8.ds++strDs l' = (l++l').map Ty.u8.ds:=by rw[List.map_append]; rfl
     rw[e] at this
     exact⟨rfl,this⟩
  ·cases h
 ·cases h
end
end Go.Xl
namespace Go.Xl
open Go.Ab
noncomputable def Ty.eqv:(t:Ty)→t.T→t.T→Bool
 | .int _,a,b=>decide ((a:Int)=b)
 | .u8,a,b=>decide ((a:UInt8)=b)
 | .str,a,b=>decide ((a:List UInt8)=b)
 | .pair s t,a,b=>s.eqv a.1 b.1 && t.eqv a.2 b.2
 | .st1 t,a,b=>t.eqv a b
 | _,_,_=>false
noncomputable def Ty.key:Ty→Bool
 | .int _=>true
 | .u8=>true
 | .str=>true
 | .pair s t=>cond s.key t.key false
 | .st1 t=>t.key
 | _=>false
theorem Ty.eqv_iff:∀(t:Ty) (a b:t.T),t.key=true→(t.eqv a b=true↔a=b)
 | .int _,a,b,_=>by simp[Ty.eqv]
 | .u8,a,b,_=>by simp[Ty.eqv]
 | .str,a,b,_=>by simp[Ty.eqv]
 | .pair s t,a,b,h=>by
  simp only[Ty.key] at h
  cases hs:s.key with
  | false=>simp[hs] at h
  | true =>
   simp only[hs,cond_true] at h
   simp only[Ty.eqv,Bool.and_eq_true,s.eqv_iff _ _ hs,t.eqv_iff _ _ h,Prod.ext_iff]
 | .st1 t,a,b,h=>t.eqv_iff a b h
 | .bool,_,_,h=>by simp[Ty.key] at h
 | .sl _,_,_,h=>by simp[Ty.key] at h
 | .unit,_,_,h=>by simp[Ty.key] at h
 | .tab _,_,_,h=>by simp[Ty.key] at h
 | .err,_,_,h=>by simp[Ty.key] at h
 | .ic _ _,_,_,h=>by simp[Ty.key] at h
 | .ptr,_,_,h=>by simp[Ty.key] at h
noncomputable def Ty.kvs:(t:Ty)→t.T→List Value
 | .int k,a=>[.int k a]
 | .u8,a=>[.int .u8 (a.toNat:Int)]
 | .str,a=>[.string ⟨a.toArray⟩]
 | .pair s t,a=>s.kvs a.1++t.kvs a.2
 | .st1 t,a=>t.kvs a
 | _,_=>[]
theorem Ty.kvs_ds:∀(t:Ty) (a:t.T),t.key=true→t.ds a=(t.kvs a).map .sc
 | .int _,a,_=>rfl
 | .u8,a,_=>rfl
 | .str,a,_=>rfl
 | .pair s t,a,h=>by
  simp only[Ty.key] at h
  cases hs:s.key with
  | false=>simp[hs] at h
  | true =>
   simp only[hs,cond_true] at h
   simp only[Ty.ds,Ty.kvs,s.kvs_ds _ hs,t.kvs_ds _ h,List.map_append]
 | .st1 t,a,h=>by simp only[Ty.ds,Ty.kvs]; exact t.kvs_ds a h
 | .bool,_,h=>by simp[Ty.key] at h
 | .sl _,_,h=>by simp[Ty.key] at h
 | .unit,_,h=>by simp[Ty.key] at h
 | .tab _,_,h=>by simp[Ty.key] at h
 | .err,_,h=>by simp[Ty.key] at h
 | .ic _ _,_,h=>by simp[Ty.key] at h
 | .ptr,_,h=>by simp[Ty.key] at h
theorem Ty.kvs_one:∀(t:Ty) (a:t.T),∀v ∈ t.kvs a,v.oneCell' = true
 | .int _,a=>by simp[Ty.kvs,Value.oneCell']
 | .u8,a=>by simp[Ty.kvs,Value.oneCell']
 | .str,a=>by simp[Ty.kvs,Value.oneCell']
 | .pair s t,a=>by
  intro v hv
  simp only[Ty.kvs,List.mem_append] at hv
  rcases hv with h | h
  ·exact s.kvs_one _ v h
  ·exact t.kvs_one _ v h
 | .st1 t,a=>by simp only[Ty.kvs]; exact t.kvs_one a
 | .bool,_=>by simp[Ty.kvs]
 | .sl _,_=>by simp[Ty.kvs]
 | .unit,_=>by simp[Ty.kvs]
 | .tab _,_=>by simp[Ty.kvs]
 | .err,_=>by simp[Ty.kvs]
 | .ic _ _,_=>by simp[Ty.kvs]
 | .ptr,_=>by simp[Ty.kvs]
noncomputable def Ty.kval (t:Ty) (a:t.T):Value:=if t.agg then .agg (t.kvs a).toArray else (t.kvs a).headD undef
theorem Qos:∀l:List Value,dval.dvals (l.map .sc)=l
 | []=>rfl
 | v :: r=>by simp[dval.dvals,dval,Qos r]
theorem Ty.kval_dv (t:Ty) (a:t.T) (h:t.key=true):dval (t.dv a)=t.kval a:=by
 unfold Ty.kval
 cases hg:t.agg with
 | true =>
  rw[t.dv_agg a hg,t.kvs_ds a h]
  simp[dval,Qos]
 | false =>
  have h1:=t.dv_one a hg
  rw[t.kvs_ds a h] at h1
  cases hk:t.kvs a with
  | nil=>rw[hk] at h1; simp at h1
  | cons v r =>
   rw[hk] at h1
   simp only[List.map_cons,List.cons.injEq] at h1
   rw[← h1.1]; rfl
theorem Ty.kval_rd {γ:Nat→Nat} {w:World} (t:Ty) (a:t.T) (h:t.key=true):RD γ w (t.dv a) (t.kval a):=by
 unfold Ty.kval
 cases hg:t.agg with
 | true =>
  rw[t.dv_agg a hg,t.kvs_ds a h]
  simp only[if_true]
  refine .agg _ _ (by simp) fun i c v hc hv=>?_
  rw[List.getElem?_map] at hc
  rw[List.getElem?_toArray] at hv
  rw[hv] at hc
  simp at hc; subst hc
  exact .sc _
 | false =>
  have h1:=t.dv_one a hg
  rw[t.kvs_ds a h] at h1
  cases hk:t.kvs a with
  | nil=>rw[hk] at h1; simp at h1
  | cons v r =>
   rw[hk] at h1
   simp only[List.map_cons,List.cons.injEq] at h1
   rw[← h1.1]
   exact .sc _
theorem rd_sc {γ:Nat→Nat} {w:World} {u v:Value} (h:RD γ w (.sc u) v):v=u:=by cases h; rfl
theorem Ty.kval_inv {γ:Nat→Nat} {w:World} {t:Ty} {a:t.T} {v:Value} (h:t.key=true) (hr:RD γ w (t.dv a) v):v=t.kval a:=by
 unfold Ty.kval
 cases hg:t.agg with
 | true =>
  rw[t.dv_agg a hg,t.kvs_ds a h] at hr
  simp only[if_true]
  cases hr with
  | agg _ vs hl hc =>
   congr 1
   apply Array.ext
   ·simpa using hl.symm
   ·intro i h1 h2
    have h3:i < (t.kvs a).length:=by simpa using h2
    have:=rd_sc (hc i (.sc (t.kvs a)[i]) vs[i] (by simp[h3]) (by simp[h1]))
    simpa using this
 | false =>
  have h1:=t.dv_one a hg
  rw[t.kvs_ds a h] at h1
  cases hk:t.kvs a with
  | nil=>rw[hk] at h1; simp at h1
  | cons u r =>
   rw[hk] at h1
   simp only[List.map_cons,List.cons.injEq] at h1
   rw[← h1.1] at hr
   cases hr
   rfl
section
variable {P:Program}
noncomputable def keySc (P:Program) (t:TypeId) (kt:Ty):Bool :=
 match P.underlying t with
 | some (.int k)=>match kt with
  | .int k'=>kindB k' k
  | .u8=>kindB .u8 k
  | _=>false
 | some .string=>match kt with
  | .str=>true
  | _=>false
 | _=>false
noncomputable def keyFs (P:Program):Nat→Ty→List Field→Bool
 | off, kt, [f] => cond (Nat.beq f.offset off) (cond (decide (f.name = "_")) false (cond (keySc P f.type kt) (match tyI P f.type with | some (ag, sz) => cond (Nat.beq sz 1) (!ag) false | none => false) false)) false
 | off,kt,f :: g :: r=>match kt with
  | .pair a b => cond (Nat.beq f.offset off) (cond (decide (f.name = "_")) false (cond (keySc P f.type a) (match tyI P f.type with | some (ag, sz) => cond (Nat.beq sz 1) (cond ag false (keyFs P (off + 1) b (g :: r))) false | none => false) false)) false
  | _=>false
 | _,_,[]=>false
noncomputable def Qfc (P:Program) (t:TypeId) (kt:Ty):Bool :=
 cond (keySc P t kt) true (match P.underlying t with
  | some (.struct fs)=>cond (P.stoodInHeld t) false (cond (P.eqGuardType P.depth t) false (match fs.toList with
   | [f]=>match kt with
    | .st1 a=>keyFs P 0 a [f]
    | _=>false
   | l=>keyFs P 0 kt l))
  | some (.array 2 e)=>match P.underlying e,tyI P e,kt with
   | some (.int k),some (false,1),.pair (.int k1) (.int k2)=>cond (kindB k1 k) (kindB k2 k) false
   | _,_,_=>false
  | _=>false)
theorem Q3p {t:TypeId} {kt:Ty} (h:keySc P t kt=true):kt.key=true∧kt.agg=false:=by
 unfold keySc at h
 split at h
 ·split at h <;> first | exact⟨rfl,rfl⟩ | cases h
 ·split at h <;> first | exact⟨rfl,rfl⟩ | cases h
 ·cases h
theorem Qcj {t:TypeId} {kt:Ty} (h:keySc P t kt=true):kt.size=1:=by
 unfold keySc at h
 split at h
 ·split at h <;> first | rfl | cases h
 ·split at h <;> first | rfl | cases h
 ·cases h
theorem Qmn {t:TypeId} {kt:Ty} (h:keySc P t kt=true) (d:Nat) (a b:kt.T):eqS P (d+1) t (kt.enc a) (kt.enc b)=some (kt.eqv a b):=by
 unfold keySc at h
 split at h
 ·rename_i k hu
  split at h
  ·rename_i k'
   have:=Q13 h
   subst this
   simp only[eqS,hu,Ty.enc]
   rw[show kindB k' k' = true by cases k' <;> rfl,cond_true]
   simp[Ty.eqv,BEq.beq]
  ·simp only[eqS,hu,Ty.enc]
   simp[Ty.eqv,BEq.beq]
  ·cases h
 ·rename_i hu
  split at h
  ·simp only[eqS,hu,Ty.enc,Ty.eqv]
   congr 1
   rw[Bool.eq_iff_iff]; simp
  ·cases h
 ·cases h
theorem Qid {kt:Ty} (h:kt.size=1) (a:kt.T):(kt.enc a).length=1:=by rw[Ty.enc_length,h]
theorem Qmm (d:Nat):∀(fl:List Field) (off:Nat) (kt:Ty) (a b:kt.T) (xs ys:List XD),keyFs P off kt fl=true→xs.drop off=kt.enc a→ys.drop off=kt.enc b →
  eqS.eqFs P (eqS P (d+1)) xs ys fl=some (kt.eqv a b)
 | [],_,_,_,_,_,_,h,_,_=>by simp[keyFs] at h
 | [f],off,kt,a,b,xs,ys,h,hx,hy=>by
  simp only[keyFs] at h
  cases h1:Nat.beq f.offset off with
  | false=>simp[h1] at h
  | true =>
  have e1:=Nat.eq_of_beq_eq_true h1
  simp only[h1,cond_true] at h
  cases h2 : decide (f.name = "_") with
  | true=>simp[h2] at h
  | false =>
  simp only[h2,cond_false] at h
  cases h3:keySc P f.type kt with
  | false=>simp[h3] at h
  | true =>
  simp only[h3,cond_true] at h
  split at h
  ·rename_i ag sz ht
   cases h4:Nat.beq sz 1 with
   | false=>simp[h4] at h
   | true =>
   have e4:=Nat.eq_of_beq_eq_true h4
   subst e4
   unfold eqS.eqFs
   have e5:(xs.drop off).take 1=kt.enc a:=by rw[hx,List.take_of_length_le (by rw[Qid (Qcj h3)]; exact Nat.le_refl _)]
   have e6:(ys.drop off).take 1=kt.enc b:=by rw[hy,List.take_of_length_le (by rw[Qid (Qcj h3)]; exact Nat.le_refl _)]
   simp only[ht,h2,cond_false,e1,e5,e6,Qmn h3]
  ·cases h
 | f :: g :: r,off,kt,a,b,xs,ys,h,hx,hy=>by
  cases kt with
  | pair s t =>
   simp only[keyFs] at h
   cases h1:Nat.beq f.offset off with
   | false=>simp[h1] at h
   | true =>
   have e1:=Nat.eq_of_beq_eq_true h1
   simp only[h1,cond_true] at h
   cases h2 : decide (f.name = "_") with
   | true=>simp[h2] at h
   | false =>
   simp only[h2,cond_false] at h
   cases h3:keySc P f.type s with
   | false=>simp[h3] at h
   | true =>
   simp only[h3,cond_true] at h
   split at h
   ·rename_i ag sz ht
    cases h4:Nat.beq sz 1 with
    | false=>simp[h4] at h
    | true =>
    have e4:=Nat.eq_of_beq_eq_true h4
    subst e4
    simp only[h4,cond_true] at h
    cases ag with
    | true=>simp at h
    | false =>
    simp only[cond_false] at h
    have hs1:=Qid (Qcj h3)
    have e5:(xs.drop off).take 1=s.enc a.1:=by rw[hx,Ty.enc,List.take_append_of_le_length (by rw[hs1]; exact Nat.le_refl _),List.take_of_length_le (by rw[hs1]; exact Nat.le_refl _)]
    have e6:(ys.drop off).take 1=s.enc b.1:=by rw[hy,Ty.enc,List.take_append_of_le_length (by rw[hs1]; exact Nat.le_refl _),List.take_of_length_le (by rw[hs1]; exact Nat.le_refl _)]
    have d1:xs.drop (off+1)=t.enc a.2:=by rw[← List.drop_drop,hx,Ty.enc,List.drop_append_of_le_length (by rw[hs1]; exact Nat.le_refl _),List.drop_of_length_le (by rw[hs1]; exact Nat.le_refl _)]; rfl
    have d2:ys.drop (off+1)=t.enc b.2:=by rw[← List.drop_drop,hy,Ty.enc,List.drop_append_of_le_length (by rw[hs1]; exact Nat.le_refl _),List.drop_of_length_le (by rw[hs1]; exact Nat.le_refl _)]; rfl
    have ih:=Qmm d (g :: r) (off+1) t a.2 b.2 xs ys h d1 d2
    unfold eqS.eqFs
    simp only[ht,h2,cond_false,e1,e5,e6,Qmn h3,ih,Ty.eqv]
   ·cases h
  | _=>simp[keyFs] at h
theorem Qdv:∀(fl:List Field) (off:Nat) (kt:Ty),keyFs P off kt fl=true→kt.key=true
 | [],_,_,h=>by simp[keyFs] at h
 | [f],off,kt,h=>by
  simp only[keyFs] at h
  cases h1:Nat.beq f.offset off with
  | false=>simp[h1] at h
  | true =>
  simp only[h1,cond_true] at h
  cases h2 : decide (f.name = "_") with
  | true=>simp[h2] at h
  | false =>
  simp only[h2,cond_false] at h
  cases h3:keySc P f.type kt with
  | false=>simp[h3] at h
  | true=>exact(Q3p h3).1
 | f :: g :: r,off,kt,h=>by
  cases kt with
  | pair s t =>
   simp only[keyFs] at h
   cases h1:Nat.beq f.offset off with
   | false=>simp[h1] at h
   | true =>
   simp only[h1,cond_true] at h
   cases h2 : decide (f.name = "_") with
   | true=>simp[h2] at h
   | false =>
   simp only[h2,cond_false] at h
   cases h3:keySc P f.type s with
   | false=>simp[h3] at h
   | true =>
   simp only[h3,cond_true] at h
   split at h
   ·rename_i ag sz ht
    cases h4:Nat.beq sz 1 with
    | false=>simp[h4] at h
    | true =>
    simp only[h4,cond_true] at h
    cases ag with
    | true=>simp at h
    | false =>
    simp only[cond_false] at h
    simp only[Ty.key,(Q3p h3).1,cond_true]
    exact Qdv (g :: r) (off+1) t h
   ·cases h
  | _=>simp[keyFs] at h
end
end Go.Xl
namespace Go.Xl
open Go.Ab
section
variable {P:Program}
theorem Q7h {t:TypeId} {kt:Ty} (h:keySc P t kt=true) (a:kt.T):∃kd v,P.underlying t=some kd∧kt.kvs a = [v]∧MapKept.IsKey kd v∧(∀b:kt.T,∃u,kt.kvs b = [u]∧Instr.sameNow kd v u=some (kt.eqv a b)):=by
 unfold keySc at h
 split at h
 ·rename_i k hu
  split at h
  ·rename_i k'
   have:=Q13 h
   subst this
   refine⟨_,_,hu,rfl,?_,fun b=>⟨_,rfl,?_⟩⟩
   ·simp[MapKept.IsKey]
   ·simp[Instr.sameNow,Ty.eqv,BEq.beq]
  ·have:=Q13 h
   subst this
   refine⟨_,_,hu,rfl,?_,fun b=>⟨_,rfl,?_⟩⟩
   ·simp[MapKept.IsKey]
   ·simp only[Instr.sameNow,Ty.eqv,if_true]
    congr 1
    rw[Bool.eq_iff_iff]; simp only[beq_iff_eq,decide_eq_true_eq]; exact Qjz
  ·cases h
 ·rename_i hu
  split at h
  ·refine⟨_,_,hu,rfl,?_,fun b=>⟨_,rfl,?_⟩⟩
   ·simp[MapKept.IsKey]
   ·simp only[Instr.sameNow,Ty.eqv]
    congr 1
    rw[Bool.eq_iff_iff,MapKept.bytes_beq]; simp
  ·cases h
 ·cases h
theorem Qjd (w:World):∀(fl:List Field) (off:Nat) (kt:Ty) (a:kt.T) (cs:Array Value),keyFs P off kt fl=true→cs.toList.drop off=kt.kvs a →
  ∀ f ∈ fl, f.name ≠ "_" ∧ ∃ v kd, (part f.type cs f.offset).run P w = .ok v w ∧ P.underlying f.type = some kd ∧ MapKept.IsKey kd v
 | [],_,_,_,_,h,_=>by simp[keyFs] at h
 | [f],off,kt,a,cs,h,hx=>by
  simp only[keyFs] at h
  cases h1:Nat.beq f.offset off with
  | false=>simp[h1] at h
  | true =>
  have e1:=Nat.eq_of_beq_eq_true h1
  simp only[h1,cond_true] at h
  cases h2 : decide (f.name = "_") with
  | true=>simp[h2] at h
  | false =>
  simp only[h2,cond_false] at h
  cases h3:keySc P f.type kt with
  | false=>simp[h3] at h
  | true =>
  simp only[h3,cond_true] at h
  split at h
  ·rename_i ag sz ht
   cases h4:Nat.beq sz 1 with
   | false=>simp[h4] at h
   | true =>
   have e4:=Nat.eq_of_beq_eq_true h4
   subst e4
   simp only[h4,cond_true,Bool.not_eq_true'] at h
   subst h
   obtain⟨kd,v,k1,k2,k3,_⟩:=Q7h h3 a
   intro g hg
   simp only[List.mem_singleton] at hg
   subst hg
   rw[k2] at hx
   have hlt:off < cs.size:=by
    have:=congrArg List.length hx
    simp at this; omega
   have hv:cs[off] = v:=by
    have:=List.drop_eq_getElem_cons (l:=cs.toList) (i:=off) (by simpa using hlt)
    rw[hx] at this
    simpa using(List.cons.inj this).1.symm
   refine⟨of_decide_eq_false h2,v,kd,?_,k1,k3⟩
   have:=Q6a (tyI_I ht) cs off w (fun _=>⟨hlt,by omega⟩)
   rw[e1,this]
   congr 1
   simp[ofCells,Array.getD,hlt,hv,show 0 < min (off+1) cs.size - off by omega]
  ·cases h
 | f :: g :: r,off,kt,a,cs,h,hx=>by
  cases kt with
  | pair s t =>
   simp only[keyFs] at h
   cases h1:Nat.beq f.offset off with
   | false=>simp[h1] at h
   | true =>
   have e1:=Nat.eq_of_beq_eq_true h1
   simp only[h1,cond_true] at h
   cases h2 : decide (f.name = "_") with
   | true=>simp[h2] at h
   | false =>
   simp only[h2,cond_false] at h
   cases h3:keySc P f.type s with
   | false=>simp[h3] at h
   | true =>
   simp only[h3,cond_true] at h
   split at h
   ·rename_i ag sz ht
    cases h4:Nat.beq sz 1 with
    | false=>simp[h4] at h
    | true =>
    have e4:=Nat.eq_of_beq_eq_true h4
    subst e4
    simp only[h4,cond_true] at h
    cases ag with
    | true=>simp at h
    | false =>
    simp only[cond_false] at h
    obtain⟨kd,v,k1,k2,k3,_⟩:=Q7h h3 a.1
    rw[Ty.kvs,k2] at hx
    have hlt:off < cs.size:=by
     have:=congrArg List.length hx
     simp at this; omega
    have hc:=List.drop_eq_getElem_cons (l:=cs.toList) (i:=off) (by simpa using hlt)
    rw[hx,List.singleton_append] at hc
    have hv:cs[off] = v:=by simpa using(List.cons.inj hc).1.symm
    intro q hq
    rcases List.mem_cons.1 hq with rfl | hq
    ·refine⟨of_decide_eq_false h2,v,kd,?_,k1,k3⟩
     have:=Q6a (tyI_I ht) cs off w (fun _=>⟨hlt,by omega⟩)
     rw[e1,this]
     congr 1
     simp[ofCells,Array.getD,hlt,hv,show 0 < min (off+1) cs.size - off by omega]
    ·exact Qjd w (g :: r) (off+1) t a.2 cs h (List.cons.inj hc).2.symm q hq
   ·cases h
  | _=>simp[keyFs] at h
inductive KeyI (P:Program) (t:TypeId) (kt:Ty):Prop where
 | sc:keySc P t kt=true→KeyI P t kt
 | st (fs:Array Field) (k:Ty) (e:kt.T=k.T):P.underlying t=some (.struct fs)→P.stoodInHeld t=false→P.eqGuardType P.depth t=false→keyFs P 0 k fs.toList=true→kt.agg=true →
   (∀a:kt.T,kt.kvs a=k.kvs (cast e a))→(∀a:kt.T,kt.enc a=k.enc (cast e a))→(∀a b:kt.T,kt.eqv a b=k.eqv (cast e a) (cast e b))→kt.key=true→KeyI P t kt
 | ar (e:TypeId) (k:IntKind):P.underlying t=some (.array 2 e)→P.underlying e=some (.int k)→TyI P e false 1→kt = .pair (.int k) (.int k)→KeyI P t kt
theorem Qxz {t:TypeId} {kt:Ty} (h:Qfc P t kt=true):KeyI P t kt:=by
 unfold Qfc at h
 cases hs:keySc P t kt with
 | true=>exact .sc hs
 | false =>
  simp only[hs,cond_false] at h
  split at h
  ·rename_i fs hu
   cases h1:P.stoodInHeld t with
   | true=>simp[h1] at h
   | false =>
   cases h2:P.eqGuardType P.depth t with
   | true=>simp[h1,h2] at h
   | false =>
   simp only[h1,h2,cond_false] at h
   split at h
   ·rename_i f hf
    split at h
    ·rename_i a
     exact .st fs a rfl hu h1 h2 (by rw[hf]; exact h) rfl (fun _=>rfl) (fun _=>rfl) (fun _ _=>rfl) (by simp only[Ty.key]; exact Qdv _ _ _ h)
    ·cases h
   ·rename_i l hl
    have hg:kt.agg=true:=by
     cases hfl:fs.toList with
     | nil=>rw[hfl] at h; simp[keyFs] at h
     | cons f r =>
      cases r with
      | nil=>exact absurd hfl (hl f)
      | cons g r =>
       rw[hfl] at h
       cases kt <;> simp[keyFs] at h
       rfl
    exact .st fs kt rfl hu h1 h2 h hg (fun _=>rfl) (fun _=>rfl) (fun _ _=>rfl) (Qdv _ _ _ h)
  ·rename_i e hu
   split at h
   ·rename_i k k1 k2 hk ht
    cases h1:kindB k1 k with
    | false=>simp[h1] at h
    | true =>
     simp only[h1,cond_true] at h
     have e1:=Q13 h1
     have e2:=Q13 h
     subst e1; subst e2
     exact .ar e _ hu hk (tyI_I ht) rfl
   ·cases h
  ·cases h
theorem KeyI.key {t:TypeId} {kt:Ty} (h:KeyI P t kt):kt.key=true:=by
 cases h with
 | sc h=>exact(Q3p h).1
 | st fs k e hu h1 h2 h3 hg hk he hq hkey=>exact hkey
 | ar e k hu hk ht h=>subst h; rfl
theorem Qf8 {e:TypeId} (ht:TyI P e false 1) (a b:Value) (w:World):(part e #[a,b] 0).run P w = .ok a w∧(part e #[a,b] 1).run P w = .ok b w:=by
 refine⟨?_,?_⟩
 ·have:=Q6a ht #[a,b] 0 w (fun _=>⟨by simp,by simp⟩)
  rw[this]; rfl
 ·have:=Q6a ht #[a,b] 1 w (fun _=>⟨by simp,by simp⟩)
  rw[this]; rfl
theorem KeyI.check {t:TypeId} {kt:Ty} (h:KeyI P t kt) (em:Bool) (n:Nat) (a:kt.T) (w:World):(Instr.checkKey em (n+2) t (kt.kval a)).run P w = .ok () w:=by
 cases h with
 | sc h =>
  obtain⟨kd,v,k1,k2,k3,_⟩:=Q7h h a
  have:kt.kval a=v:=by unfold Ty.kval; rw[(Q3p h).2,k2]; rfl
  rw[this]
  exact MapKept.run_checkKey k1 k3 em (n+1)
 | st fs k e hu h1 h2 h3 hg hk he hq hkey =>
  have:kt.kval a = .agg (k.kvs (cast e a)).toArray:=by unfold Ty.kval; rw[hg,hk]; rfl
  rw[this,show n+2=(n+1)+1 from rfl,Instr.checkKey]
  simp only[Sem.run_bind,run_underlying hu,Result.andThen_ok]
  rw[← Array.forIn_toList]
  have each:=Qjd (P:=P) w fs.toList 0 k (cast e a) (k.kvs (cast e a)).toArray h3 (by simp)
  generalize fs.toList=L at each
  induction L with
  | nil=>simp
  | cons f L ih =>
   obtain⟨hn,v,kd,p1,k1,k3⟩:=each f (by simp)
   have p2:=MapKept.run_checkKey (w:=w) k1 k3 em n
   simp only[List.forIn_cons,Sem.run_bind,hn,ne_eq,not_false_eq_true,if_true,Result.andThen_ok,p1,p2,Sem.run_pure]
   exact ih (fun y hy=>each y (by simp[hy]))
 | ar e k hu hk ht h =>
  subst h
  obtain⟨a1,a2⟩:=a
  have e1:(Ty.pair (.int k) (.int k)).kval (a1,a2) = .agg #[.int k a1,.int k a2]:=rfl
  obtain⟨p1,p2⟩:=Qf8 ht (.int k a1) (.int k a2) w
  have c1:∀x,(Instr.checkKey em (n+1) e (.int k x)).run P w = .ok () w:=fun x=>MapKept.run_checkKey (d:=.int k) hk (by simp[MapKept.IsKey]) em n
  have hs:(sizeOf e).run P w = .ok 1 w:=ht.run_size w
  rw[e1,show n+2=(n+1)+1 from rfl,Instr.checkKey]
  simp only[Sem.run_bind,run_underlying hu,Result.andThen_ok]
  simp only[Std.Legacy.Range.forIn_eq_forIn_range',Std.Legacy.Range.size,Nat.sub_zero,Nat.add_sub_cancel,Nat.div_one,List.range'_succ,List.range'_zero,List.forIn_cons,List.forIn_nil]
  simp[hs,p1,p2,c1]
noncomputable def kidx (kt:Ty) (a:kt.T):List kt.T→Option Nat
 | []=>none
 | b :: r=>if kt.eqv a b then some 0 else (kidx kt a r).map (· + 1)
theorem Q6h {kt:Ty} {a:kt.T}:∀ {l:List kt.T} {i:Nat},kidx kt a l=some i→i < l.length
 | [],i,h=>by simp[kidx] at h
 | b :: r,i,h=>by
  simp only[kidx] at h
  split at h
  ·cases h; simp
  ·obtain⟨j,hj,rfl⟩:=Option.map_eq_some_iff.1 h
   have:=Q6h hj
   simp; omega
theorem Qky {kt:Ty} {a:kt.T} (hk:kt.key=true):∀ {l:List kt.T} {i:Nat},kidx kt a l=some i→l[i]? = some a
 | [],i,h=>by simp[kidx] at h
 | b :: r,i,h=>by
  simp only[kidx] at h
  split at h
  ·rename_i hb
   cases h
   rw[(kt.eqv_iff a b hk).1 hb]; rfl
  ·obtain⟨j,hj,rfl⟩:=Option.map_eq_some_iff.1 h
   simpa using Qky hk hj
theorem KeyI.equal {t:TypeId} {kt:Ty} (h:KeyI P t kt) (a b:kt.T) (w:World) (γ:Nat→Nat):kt.agg=true→(Op.equal t (kt.kval a) (kt.kval b)).run P w = .ok (kt.eqv a b) w:=by
 intro hagg
 cases h with
 | sc h=>rw[(Q3p h).2] at hagg; cases hagg
 | st fs k e hu h1 h2 h3 hg hk he hq hkey =>
  have hs:eqS P 2 t (kt.enc a) (kt.enc b)=some (kt.eqv a b):=by
   unfold eqS
   rw[hu]
   simp only[h1,cond_false]
   rw[he,he,hq]
   exact Qmm 0 fs.toList 0 k _ _ _ _ h3 rfl rfl
  have vr:∀c:kt.T,VR γ w (kt.enc c) (kt.kvs c).toArray:=fun c=>by
   have e1:=kt.enc_ds c
   rw[kt.kvs_ds c hkey,Q2n] at e1
   have hl:=congrArg List.length e1
   simp only[List.length_map] at hl
   refine⟨by simpa using hl,fun i x v hx hv=>?_⟩
   have e2:=congrArg (·[i]?) e1
   simp only[List.getElem?_map,hx,Option.map_some] at e2
   rw[List.getElem?_toArray] at hv
   rw[hv] at e2
   simp only[Option.map_some,Option.some.injEq] at e2
   rw[e2]
   exact .sc _
  have:=Qld (P:=P) (γ:=γ) (w:=w) 2 t (kt.enc a) (kt.enc b) _ _ _ 9998 _ hs hu (vr a) (vr b)
  simp only[aggD,ofCells,if_true] at this
  have kv:∀c:kt.T,kt.kval c = .agg (kt.kvs c).toArray:=fun c=>by unfold Ty.kval; rw[hg]; rfl
  rw[kv,kv]
  exact this
 | ar e k hu hk ht h =>
  subst h
  obtain⟨a1,a2⟩:=a
  obtain⟨b1,b2⟩:=b
  have e1:∀x y,(Ty.pair (.int k) (.int k)).kval (x,y) = .agg #[.int k x,.int k y]:=fun _ _=>rfl
  have hs:(sizeOf e).run P w = .ok 1 w:=ht.run_size w
  obtain⟨p1,p2⟩:=Qf8 ht (.int k a1) (.int k a2) w
  obtain⟨q1,q2⟩:=Qf8 ht (.int k b1) (.int k b2) w
  have c:∀x y,(Op.equalIn 9999 e (.int k x) (.int k y)).run P w = .ok (x == y) w:=fun x y=>run_equalIn_int w 9998 e k k x y hk
  rw[e1,e1]
  show(Op.equalIn (9999+1) t _ _).run P w=_
  rw[Op.equalIn]
  simp only[Sem.run_bind,run_underlying hu,Result.andThen_ok]
  simp only[Std.Legacy.Range.forIn_eq_forIn_range',Std.Legacy.Range.size,Nat.sub_zero,Nat.add_sub_cancel,Nat.div_one,List.range'_succ,List.range'_zero,List.forIn_cons,List.forIn_nil]
  simp[hs,p1,p2,q1,q2,c,Ty.eqv]
  cases h1:decide (a1=b1) <;> cases h2:decide (a2=b2) <;> simp_all
theorem Qdb {t:TypeId} {kt:Ty} (h:keySc P t kt=true) (a:kt.T) {kd:TypeDesc} (hu:P.underlying t=some kd):∀(ks:List kt.T) (es:List MapEntry) (i:Nat),es.map (·.key)=ks.map kt.kval →
  Instr.findNow kd (kt.kval a) es i=some ((kidx kt a ks).bind fun j=>es[j]?.map fun e=>(i+j,e.val))
 | [],[],i,_=>rfl
 | [],_ :: _,_,he=>by simp at he
 | _ :: _,[],_,he=>by simp at he
 | b :: ks,e :: es,i,he=>by
  simp only[List.map_cons,List.cons.injEq] at he
  obtain⟨kd',v,k1,k2,k3,k4⟩:=Q7h h a
  have:=Option.some.inj (hu.symm.trans k1)
  subst this
  obtain⟨u,k5,k6⟩:=k4 b
  have e1:kt.kval a=v:=by unfold Ty.kval; rw[(Q3p h).2,k2]; rfl
  have e2:e.key=u:=by rw[he.1]; unfold Ty.kval; rw[(Q3p h).2,k5]; rfl
  unfold Instr.findNow kidx
  rw[e1,e2,k6]
  cases hq:kt.eqv a b with
  | true=>simp
  | false =>
   have ih:=Qdb h a hu ks es (i+1) he.2
   rw[e1] at ih
   simp only[ih]
   cases kidx kt a ks with
   | none=>rfl
   | some j=>simp[Nat.add_assoc,Nat.add_comm 1 j]
theorem Qa8 {t:TypeId} {kt:Ty} (h:KeyI P t kt) (hg:kt.agg=true) (a:kt.T) (w:World):∀(ks:List kt.T) (es:List MapEntry) (i:Nat),es.map (·.key)=ks.map kt.kval →
  (Instr.findAsking t (kt.kval a) es i).run P w = .ok ((kidx kt a ks).bind fun j=>es[j]?.map fun e=>(i+j,e.val)) w
 | [],[],i,_=>by simp[Instr.findAsking,kidx]
 | [],_ :: _,_,he=>by simp at he
 | _ :: _,[],_,he=>by simp at he
 | b :: ks,e :: es,i,he=>by
  simp only[List.map_cons,List.cons.injEq] at he
  have hq:=h.equal a b w (fun _=>0) hg
  unfold Instr.findAsking kidx
  rw[he.1,Sem.run_bind,hq,Result.andThen_ok]
  cases hb:kt.eqv a b with
  | true=>simp
  | false =>
   have ih:=Qa8 h hg a w ks es (i+1) he.2
   simp only[Bool.false_eq_true,if_false,ih]
   cases kidx kt a ks with
   | none=>rfl
   | some j=>simp[Nat.add_assoc,Nat.add_comm 1 j]
theorem KeyI.find {t:TypeId} {kt:Ty} (h:KeyI P t kt) (a:kt.T) (w:World) (ks:List kt.T) (es:List MapEntry) (he:es.map (·.key)=ks.map kt.kval) :
  (Instr.findKey t (kt.kval a) es).run P w = .ok ((kidx kt a ks).bind fun j=>es[j]?.map fun e=>(j,e.val)) w:=by
 cases hg:kt.agg with
 | true =>
  have hw:(match P.underlying t with | some (.array _ _) | some (.struct _)=>true | _=>false)=true:=by
   cases h with
   | sc h=>rw[(Q3p h).2] at hg; cases hg
   | st fs k e hu _ _ _ _ _ _ _ _=>rw[hu]
   | ar e k hu _ _ _=>rw[hu]
  rw[run_findKey_eq w hw]
  have:=Qa8 h hg a w ks es 0 he
  simpa using this
 | false =>
  cases h with
  | sc h =>
   obtain⟨kd,v,k1,k2,k3,k4⟩:=Q7h h a
   have:=Qdb h a k1 ks es 0 he
   have:=MapKept.run_findKey (w:=w) k1 this
   simpa using this
  | st fs k e hu h1 h2 h3 hg' hk he' hq hkey=>rw[hg'] at hg; cases hg
  | ar e k hu hk ht h=>subst h; cases hg
theorem Qel:∀(n:Nat) (v:Value),v.oneCell' = true→(∃k x,v = .int k x)∨(∃s,v = .string s)→Instr.sameBits n v v=true
 | n,v,_,h=>by
  rcases h with ⟨k,x,rfl⟩ | ⟨s,rfl⟩
  ·cases n <;> simp[Instr.sameBits,MapKept.bytes_beq]
  ·cases n <;> simp[Instr.sameBits,MapKept.bytes_beq]
theorem Ty.kvs_sc:∀(t:Ty) (a:t.T),∀v ∈ t.kvs a,(∃k x,v = .int k x)∨(∃s,v = .string s)
 | .int k,a=>by simp[Ty.kvs]
 | .u8,a=>by simp[Ty.kvs]
 | .str,a=>by simp[Ty.kvs]
 | .pair s t,a=>by
  intro v hv
  simp only[Ty.kvs,List.mem_append] at hv
  rcases hv with h | h
  ·exact s.kvs_sc _ v h
  ·exact t.kvs_sc _ v h
 | .st1 t,a=>by simp only[Ty.kvs]; exact t.kvs_sc a
 | .bool,_=>by simp[Ty.kvs]
 | .sl _,_=>by simp[Ty.kvs]
 | .unit,_=>by simp[Ty.kvs]
 | .tab _,_=>by simp[Ty.kvs]
 | .err,_=>by simp[Ty.kvs]
 | .ic _ _,_=>by simp[Ty.kvs]
 | .ptr,_=>by simp[Ty.kvs]
theorem KeyI.stays {t:TypeId} {kt:Ty} (h:KeyI P t kt) (a:kt.T) (w:World):(Instr.keyThatStays (kt.kval a) (kt.kval a)).run P w = .ok (kt.kval a) w:=by
 have hb:Instr.sameBits 10000 (kt.kval a) (kt.kval a)=true:=by
  cases hg:kt.agg with
  | true =>
   have:kt.kval a = .agg (kt.kvs a).toArray:=by unfold Ty.kval; rw[hg]; rfl
   rw[this]
   show Instr.sameBits (9999+1) _ _=true
   simp only[Instr.sameBits,beq_self_eq_true,Bool.true_and,List.all_eq_true]
   intro p hp
   obtain⟨i,hi,e⟩:=List.getElem_of_mem hp
   rw[List.getElem_zip] at e
   rw[← e]
   simp only[]
   have hm:(kt.kvs a).toArray.toList[i]'(by simpa using hi) ∈ kt.kvs a:=by simp
   exact Qel 9999 _ (kt.kvs_one a _ hm) (kt.kvs_sc a _ hm)
  | false =>
   cases h with
   | sc h =>
    obtain⟨kd,v,k1,k2,k3,_⟩:=Q7h h a
    have:kt.kval a=v:=by unfold Ty.kval; rw[(Q3p h).2,k2]; rfl
    rw[this]
    exact Qel _ _ (kt.kvs_one a v (by rw[k2]; simp)) (kt.kvs_sc a v (by rw[k2]; simp))
   | st fs k e hu h1 h2 h3 hg' hk he' hq hkey=>rw[hg'] at hg; cases hg
   | ar e k hu hk ht h=>subst h; cases hg
 simp[Instr.keyThatStays,hb]
end
end Go.Xl
namespace Go.Xl
open Go.Ab
noncomputable abbrev Ents (kt vt:Ty):Type:=List (Nat×kt.T×vt.T)
noncomputable def mget {kt vt:Ty} (a:kt.T):Ents kt vt→Option vt.T
 | []=>none
 | e :: r=>bif kt.eqv a e.2.1 then some e.2.2 else mget a r
noncomputable def mput {kt vt:Ty} (a:kt.T) (v:vt.T) (clock:Nat):Ents kt vt→Ents kt vt
 | []=>[(clock,a,v)]
 | e :: r=>bif kt.eqv a e.2.1 then (e.1,a,v) :: r else e :: mput a v clock r
noncomputable def mclk {kt vt:Ty} (a:kt.T) (es:Ents kt vt) (clock:Nat):Nat:=match mget a es with | some _=>clock | none=>clock+1
noncomputable def mdel {kt vt:Ty} (a:kt.T):Ents kt vt→Ents kt vt
 | []=>[]
 | e :: r=>bif kt.eqv a e.2.1 then r else e :: mdel a r
section
variable {kt vt:Ty}
theorem Qeb (a:kt.T):∀es:Ents kt vt,mget a es=(kidx kt a (es.map (·.2.1))).bind fun j=>es[j]?.map (·.2.2)
 | []=>rfl
 | e :: r=>by
  simp only[mget,List.map_cons,kidx]
  cases kt.eqv a e.2.1 with
  | true=>rfl
  | false =>
   simp only[cond_false,Bool.false_eq_true,if_false,Qeb a r]
   cases kidx kt a (r.map (·.2.1)) <;> simp
theorem Qeh {a:kt.T} {v:vt.T} {clock:Nat}:∀ {es:Ents kt vt},kidx kt a (es.map (·.2.1))=none→mput a v clock es=es++[(clock,a,v)]
 | [],_=>rfl
 | e :: r,h=>by
  simp only[List.map_cons,kidx] at h
  split at h
  ·cases h
  ·rename_i hq
   simp only[Option.map_eq_none_iff] at h
   simp only[mput,Bool.not_eq_true] at hq ⊢
   rw[hq,cond_false,Qeh h]; rfl
theorem Qfw {a:kt.T} {v:vt.T} {clock:Nat}:∀ {es:Ents kt vt} {j:Nat},kidx kt a (es.map (·.2.1))=some j→mput a v clock es=es.modify j fun e=>(e.1,a,v)
 | [],j,h=>by simp[kidx] at h
 | e :: r,j,h=>by
  simp only[List.map_cons,kidx] at h
  split at h
  ·rename_i hq
   cases h
   simp only[mput,hq,cond_true]; rfl
  ·rename_i hq
   obtain⟨i,hi,rfl⟩:=Option.map_eq_some_iff.1 h
   simp only[mput,Bool.not_eq_true] at hq ⊢
   rw[hq,cond_false,Qfw hi]; rfl
theorem Qmd {a:kt.T}:∀ {es:Ents kt vt},kidx kt a (es.map (·.2.1))=none→mdel a es=es
 | [],_=>rfl
 | e :: r,h=>by
  simp only[List.map_cons,kidx] at h
  split at h
  ·cases h
  ·rename_i hq
   simp only[Option.map_eq_none_iff] at h
   simp only[mdel,Bool.not_eq_true] at hq ⊢
   rw[hq,cond_false,Qmd h]
theorem Qmv {a:kt.T}:∀ {es:Ents kt vt} {j:Nat},kidx kt a (es.map (·.2.1))=some j→mdel a es=es.eraseIdx j
 | [],j,h=>by simp[kidx] at h
 | e :: r,j,h=>by
  simp only[List.map_cons,kidx] at h
  split at h
  ·rename_i hq
   cases h
   simp only[mdel,hq,cond_true]; rfl
  ·rename_i hq
   obtain⟨i,hi,rfl⟩:=Option.map_eq_some_iff.1 h
   simp only[mdel,Bool.not_eq_true] at hq ⊢
   rw[hq,cond_false,Qmv hi]; rfl
theorem Qm9 (a:kt.T) (es:Ents kt vt) (clock:Nat):mclk a es clock=match kidx kt a (es.map (·.2.1)) with | some _=>clock | none=>clock+1:=by
 unfold mclk
 rw[Qeb]
 cases h:kidx kt a (es.map (·.2.1)) with
 | none=>rfl
 | some j =>
  have hj:=Q6h h
  simp only[List.length_map] at hj
  simp[hj]
noncomputable abbrev mapO (kt vt:Ty) (es:Ents kt vt) (clock:Nat):Ob:=(XOb.map kt vt es clock).o
structure MapW (kt vt:Ty) (g:Gh) (w:World) (b:Nat) (es:Ents kt vt) (clock:Nat) (asq:Array MapEntry):Prop where
 heap:w.heap[b]? = some (.map asq clock)
 len:es.length=asq.size
 keys:asq.toList.map (·.key)=(es.map (·.2.1)).map kt.kval
 at' : ∀(i:Nat) x e,es[i]? = some x→asq[i]? = some e→e.born=x.1∧e.key=kt.kval x.2.1∧RD g.γ w (vt.dv x.2.2) e.val
 lt:∀p ∈ es,p.1 < clock
 nodup:(es.map (·.1)).Nodup
theorem Q5q {g:Gh} {w:World} {b:Nat} {es:Ents kt vt} {clock:Nat} (hk:kt.key=true) (h:ObRel g w b (mapO kt vt es clock)):∃asq,MapW kt vt g w b es clock asq:=by
 cases h with
 | map l c asq h1 h2 h3 h4 h5 =>
  have hat:∀(i:Nat) x e,es[i]? = some x→asq[i]? = some e→e.born=x.1∧e.key=kt.kval x.2.1∧RD g.γ w (vt.dv x.2.2) e.val:=by
   intro i x e hx he
   have:=h3 i (x.1,dval (kt.dv x.2.1),vt.dv x.2.2) e (by rw[List.getElem?_map,hx]; rfl) he
   rw[kt.kval_dv _ hk] at this
   exact this
  have hlen:es.length=asq.size:=by simpa using h2
  refine⟨asq,h1,hlen,?_,hat,?_,?_⟩
  ·apply List.ext_getElem?
   intro i
   rw[List.getElem?_map,List.getElem?_map,List.getElem?_map,Array.getElem?_toList]
   by_cases hi:i < asq.size
   ·have hi' : i < es.length:=by omega
    rw[Array.getElem?_eq_getElem hi,List.getElem?_eq_getElem hi']
    have:=(hat i es[i] asq[i] (by simp[hi']) (by simp[hi])).2.1
    simp[this]
   ·rw[Array.getElem?_eq_none (by omega),List.getElem?_eq_none (by omega)]; rfl
  ·intro p hp
   exact h4 (p.1,dval (kt.dv p.2.1),vt.dv p.2.2) (List.mem_map_of_mem (f:=fun e:Nat×kt.T×vt.T=>(e.1,dval (kt.dv e.2.1),vt.dv e.2.2)) hp)
  ·simpa[List.map_map,Function.comp_def] using h5
theorem MapW.rel {g:Gh} {w:World} {b:Nat} {es:Ents kt vt} {clock:Nat} {asq:Array MapEntry} (hk:kt.key=true) (h:MapW kt vt g w b es clock asq):ObRel g w b (mapO kt vt es clock):=by
 refine .map _ clock asq h.heap (by simpa using h.len) ?_ ?_ ?_
 ·intro i x e hx he
  rw[List.getElem?_map,Option.map_eq_some_iff] at hx
  obtain⟨y,hy,rfl⟩:=hx
  have:=h.at' i y e hy he
  simp only[kt.kval_dv _ hk]
  exact this
 ·intro p hp
  rw[List.mem_map] at hp
  obtain⟨y,hy,rfl⟩:=hp
  exact h.lt y hy
 ·simpa[List.map_map,Function.comp_def] using h.nodup
end
section
variable {P:Program} {o:Oper} {X:Store} {kt vt:Ty}
theorem Qtn {t:TypeId} (k:Nat) (ho:o.op = .makeMap t none) (hk:X.objs.lookup k=none) (hX:Qa [k] X=true) :
  OpT P o [] X ⟨(k,mapO kt vt [] 0) :: X.objs,X.live⟩ [k] (.mp k):=by
 intro nm hsm B g w a hr hrd next Q hn
 obtain⟨h1,h2⟩:=hr.newObj hk hX (.map #[] 0) (mapO kt vt [] 0) (by
  intro g' w' _ hw
  exact .map [] 0 #[] hw rfl (by simp) (by simp) (by simp))
 unfold Oper.wp
 have:(execOp a.eval o).run P w = .ok (.value (.map (some w.heap.size))) (w.alloc (.map #[] 0)):=by
  simp[execOp,ho,Instr.makeMap]
 rw[this]
 refine hn _ _ _ h1 h2 (.nm _ _ _ ?_)
 show Value.map (some w.heap.size) = .map (some (upd g.ρ k w.heap.size k))
 rw[upd_same]
structure MapI (P:Program) (t:TypeId) (kt vt:Ty) (e:TypeId):Prop where
 und:∃k,P.underlying t=some (.map k e)∧KeyI P k kt
theorem MapW.find {g:Gh} {w:World} {b:Nat} {es:Ents kt vt} {clock:Nat} {asq:Array MapEntry} {k:TypeId} (h:MapW kt vt g w b es clock asq) (hk:KeyI P k kt) (a:kt.T) :
  (Instr.findKey k (kt.kval a) asq.toList).run P w = .ok ((kidx kt a (es.map (·.2.1))).bind fun j=>asq[j]?.map fun e=>(j,e.val)) w:=by
 have:=hk.find a w (es.map (·.2.1)) asq.toList h.keys
 simpa[Array.getElem?_toList] using this
noncomputable def Q6s:Value→Bool
 | .agg _=>true
 | _=>false
theorem Qsh {e:TypeId} {l:List Value} {z:vt.T} {i:TypeInfo} {zv:Value} {γ:Nat→Nat} {w:World} (h:zeroT P e vt=some (l,z)) (hi:P.info? e=some i) (hz:i.zero=some zv) (hg:Q6s zv=vt.agg):RD γ w (vt.dv z) zv:=by
 obtain⟨h1,h2⟩:=Qnx h
 obtain⟨i',zv',e1,e2,e3⟩:=Qe4 h1
 rw[hi] at e1
 cases e1
 rw[hz] at e2
 cases e2
 cases hv:vt.agg with
 | true =>
  rw[vt.dv_agg z hv]
  rw[hv] at hg
  cases zv with
  | agg vs =>
   have e4:vs.toList=l:=e3
   have hl:=h2.length
   refine .agg _ vs ?_ fun j c u hc hu=>?_
   ·rw[← hl,List.length_map,← e4,Array.length_toList]
   ·obtain⟨x,hx,hle⟩:=h2.get hc
    rw[List.getElem?_map,← e4,Array.getElem?_toList,hu] at hx
    simp only[Option.map_some,Option.some.injEq] at hx
    subst hx
    exact hle _ _ _ (.sc u)
  | _=>simp[Q6s] at hg
 | false =>
  rw[hv] at hg
  have hc:zv.cells = #[zv]:=Q3q fun cs he=>by subst he; simp[Q6s] at hg
  rw[hc] at e3
  have e4:l = [zv]:=by simpa using e3.symm
  subst e4
  have h3:=vt.dv_one z hv
  rw[h3] at h2
  cases h2 with
  | cons h4 _=>exact h4 _ _ _ (.sc zv)
noncomputable def Ql0 {vt:Ty} (ok:Bool) (x:Option vt.T) (z:vt.T):AV:=match x with
 | some v=>if ok then .tup [.d (vt.dv v),.d (.bool true)] else .d (vt.dv v)
 | none=>if ok then .tup [.d (vt.dv z),.d (.bool false)] else .d (vt.dv z)
theorem Qcv {g:Gh} {w:World} {ok:Bool} {v:vt.T} {u:Value} {b:Bool} (h:RD g.γ w (vt.dv v) u):RA g w (if ok then .tup [.d (vt.dv v),.d (.bool b)] else .d (vt.dv v)) (if ok then .tuple #[u,.bool b] else u):=by
 cases ok with
 | false=>exact .d _ _ h
 | true =>
  refine .tup _ _ rfl fun i c x hc hx=>?_
  rcases i with _ | _ | i
  ·simp at hc hx; subst hc; subst hx; exact .d _ _ h
  ·simp at hc hx; subst hc; subst hx; exact .ofSc _ _ _
  ·simp at hc
theorem Qw8 {t e:TypeId} {x y:Operand} {ok:Bool} {k:Nat} {es:Ents kt vt} {clock:Nat} {a:kt.T} {l:List Value} {z:vt.T} {i:TypeInfo} {zv:Value} (ho:o.op = .lookup t x y ok) (hm:MapI P t kt vt e)
  (hz:zeroT P e vt=some (l,z)) (hi:P.info? e=some i) (hzv:i.zero=some zv) (hg:Q6s zv=vt.agg) (hk:X.objs.lookup k=some (mapO kt vt es clock)) :
  OpT P o [(x,.mp k),(y,.d (kt.dv a))] X X [] (Ql0 ok (mget a es) z) :=
 .quiet fun _ _ g w ac hr hrd=>by
  obtain⟨kty,hu,hK⟩:=hm.und
  have h1:=(rd0 hrd).mp_inv
  have h2:ac.eval y=kt.kval a:=by
   have:=rd1 hrd
   cases this with
   | d _ _ h=>exact kt.kval_inv hK.key h
  simp only at h1
  obtain⟨asq,hw⟩:=Q5q hK.key (hr.objs k _ hk)
  have hf:=hw.find hK a
  have hc:=hK.check asq.isEmpty 9998 a w
  have hget:=MapKept.run_getObj_map (P:=P) hw.heap
  rw[Qeb]
  cases hj:kidx kt a (es.map (·.2.1)) with
  | none =>
   rw[hj] at hf
   simp only[Option.bind_none] at hf
   refine⟨if ok then .tuple #[zv,.bool false] else zv,?_,Qcv (Qsh hz hi hzv hg)⟩
   simp only[execOp,ho,h1,h2,Instr.lookup,Sem.run_bind,run_underlying hu,Result.andThen_ok,Sem.run_pure,hget,hc,hf]
   simp[zeroValue,typeInfo,hi,hzv]
  | some j =>
   have hj':=Q6h hj
   rw[List.length_map] at hj'
   have hja:j < asq.size:=by rw[← hw.len]; exact hj'
   rw[hj] at hf
   simp only[Option.bind_some,Array.getElem?_eq_getElem hja,Option.map_some] at hf
   simp only[Option.bind_some,List.getElem?_eq_getElem hj',Option.map_some]
   refine⟨if ok then .tuple #[asq[j].val,.bool true] else asq[j].val,?_,Qcv (hw.at' j es[j] asq[j] (by simp[hj']) (by simp[hja])).2.2⟩
   simp[execOp,ho,h1,h2,Instr.lookup,Sem.run_bind,run_underlying hu,Result.andThen_ok,Sem.run_pure,hget,hc,hf]
theorem MapW.mono {g g' : Gh} {w w' : World} {b:Nat} {es:Ents kt vt} {clock:Nat} {asq:Array MapEntry} (h:MapW kt vt g w b es clock asq) (hb:w'.heap[b]? = w.heap[b]?) (hle:LeD g.γ w g'.γ w'):MapW kt vt g' w' b es clock asq :=
 ⟨hb.trans h.heap,h.len,h.keys,fun i x e hx he=>⟨(h.at' i x e hx he).1,(h.at' i x e hx he).2.1,(h.at' i x e hx he).2.2.mono hle⟩,h.lt,h.nodup⟩
theorem Q9z {w:World} {b:Nat} {asq:Array MapEntry} {clock:Nat} (hb:w.heap[b]? = some (.map asq clock)) (ob:Obj):(setObj b ob).run P w = .ok () { w with heap:=w.heap.setIfInBounds b ob }:=MapKept.run_setObj_map ob hb
theorem HR.writeMap {nm:List Nat} {B:Base} {g:Gh} {w:World} {X:Store} (hr:HR nm B g w X) {k:Nat} {es es' : Ents kt vt} {clock clock' : Nat} {asq as' : Array MapEntry} (hkey:kt.key=true) (hk:X.objs.lookup k=some (mapO kt vt es clock))
  (hw:MapW kt vt g w (g.ρ k) es clock asq)
  (hn:∀w',Trans [] g w g w'→w'.heap[g.ρ k]? = some (.map as' clock')→MapW kt vt g w' (g.ρ k) es' clock' as') :
  HR nm B g { w with heap:=w.heap.setIfInBounds (g.ρ k) (.map as' clock') } ⟨Ab.setObj k (mapO kt vt es' clock') X.objs,X.live⟩∧Trans [] g w g { w with heap:=w.heap.setIfInBounds (g.ρ k) (.map as' clock') }:=by
 have hlt:g.ρ k < w.heap.size:=(Array.getElem?_eq_some_iff.1 hw.heap).1
 exact hr.write (w':={ w with heap:=w.heap.setIfInBounds (g.ρ k) (.map as' clock') }) (o':=mapO kt vt es' clock') hk (by simp) ⟨rfl,rfl,rfl,Nat.le_refl _⟩
  (by intro b hb'; simp[Array.getElem?_setIfInBounds,Ne.symm hb']) (fun ht=>(hn _ ht (by simp[Array.getElem?_setIfInBounds,hlt])).rel hkey) (by
   intro sh hsh
   simp[World.shape?,hw.heap] at hsh)
theorem Q4q {α β:Type} (f:α→β):∀(l:List α) (k:Nat),(l.map f).eraseIdx k=(l.eraseIdx k).map f
 | [],k=>by cases k <;> rfl
 | x :: r,0=>rfl
 | x :: r,k+1=>by simp[Q4q f r k]
theorem Q57 {α:Type} (f:α→Nat) (g:α→α) (hfg:∀x,f (g x)=f x):∀(l:List α) (j:Nat),((l.modify j g).map f)=l.map f
 | [],j=>by cases j <;> rfl
 | x :: r,0=>by simp[hfg]
 | x :: r,j+1=>by simp[Q57 f g hfg r j]
theorem Qqm {t e:TypeId} {x y u:Operand} {k:Nat} {es:Ents kt vt} {clock:Nat} {a:kt.T} {v:vt.T} (ho:o.op = .mapUpdate t x y u∨o.op = .insert t x y u) (hm:MapI P t kt vt e)
  (hk:X.objs.lookup k=some (mapO kt vt es clock)) :
  OpT P o [(x,.mp k),(y,.d (kt.dv a)),(u,.d (vt.dv v))] X ⟨Ab.setObj k (mapO kt vt (mput a v clock es) (mclk a es clock)) X.objs,X.live⟩ [] (.d (.sc undef)):=by
 intro nm hsm B g w ac hr hrd next Q hn
 obtain⟨kty,hu,hK⟩:=hm.und
 have h1:=(rd0 hrd).mp_inv
 have h2:ac.eval y=kt.kval a:=by
  have:=rd1 hrd
  cases this with
  | d _ _ h=>exact kt.kval_inv hK.key h
 have h3:RD g.γ w (vt.dv v) (ac.eval u):=by
  have:=rd2 hrd
  cases this with
  | d _ _ h=>exact h
 simp only at h1
 obtain⟨asq,hw⟩:=Q5q hK.key (hr.objs k _ hk)
 have hf:=hw.find hK a
 have hc:=hK.check false 9998 a w
 have hst:=hK.stays a w
 have hget:=MapKept.run_getObj_map (P:=P) hw.heap
 have hset:=Q9z (P:=P) hw.heap
 have hrun:∀w',(Instr.mapUpdate t (ac.eval x) (ac.eval y) (ac.eval u)).run P w = .ok () w'→(execOp ac.eval o).run P w = .ok .skip w':=by
  intro w' h
  rcases ho with ho | ho <;> simp[execOp,ho,h]
 unfold Oper.wp
 have ec:=Qm9 a es clock
 cases hj:kidx kt a (es.map (·.2.1)) with
 | none =>
  rw[hj] at hf
  simp only[Option.bind_none] at hf
  rw[hj] at ec
  simp only at ec
  rw[ec,Qeh hj] at hn
  obtain⟨r1,r2⟩:=HR.writeMap hr (es':=es++[(clock,a,v)]) (clock':=clock+1) (as':=asq.push { key:=kt.kval a,val:=ac.eval u,born:=clock }) hK.key hk hw (by
   intro w' ht hb'
   refine⟨hb',by simp[hw.len],by simp[hw.keys],?_,?_,?_⟩
   ·intro i q m hq hm'
    by_cases hi:i < es.length
    ·rw[List.getElem?_append_left hi] at hq
     rw[Array.getElem?_push,if_neg (by rw[← hw.len]; omega)] at hm'
     have:=hw.at' i q m hq hm'
     exact⟨this.1,this.2.1,this.2.2.mono ht.le⟩
    ·rw[List.getElem?_append_right (by omega)] at hq
     have hi0:i=es.length:=by
      by_cases h0:i - es.length=0
      ·omega
      ·rw[List.getElem?_eq_none (by simp; omega)] at hq; cases hq
     subst hi0
     simp at hq
     rw[hw.len] at hm'
     simp at hm'
     subst hq; subst hm'
     exact⟨rfl,rfl,h3.mono ht.le⟩
   ·intro p hp
    rcases List.mem_append.1 hp with hp | hp
    ·have:=hw.lt p hp; omega
    ·simp at hp; subst hp; exact Nat.lt_succ_self _
   ·rw[List.map_append,List.nodup_append]
    refine⟨hw.nodup,by simp,?_⟩
    intro p hp q hq
    simp at hq
    subst hq
    obtain⟨y',hy',rfl⟩:=List.mem_map.1 hp
    have:=hw.lt y' hy'
    omega)
  have e1:(Instr.mapUpdate t (ac.eval x) (ac.eval y) (ac.eval u)).run P w = .ok () { w with heap:=w.heap.setIfInBounds (g.ρ k) (.map (asq.push { key:=kt.kval a,val:=ac.eval u,born:=clock }) (clock+1)) }:=by
   simp only[Instr.mapUpdate,h1,h2,Sem.run_bind,run_underlying hu,Result.andThen_ok,hget,hc,hf,hset]
  rw[hrun _ e1]
  exact hn g _ undef r1 r2 (.ofSc _ _ _)
 | some j =>
  have hj':=Q6h hj
  rw[List.length_map] at hj'
  have hja:j < asq.size:=by rw[← hw.len]; exact hj'
  have hat:=Qky hK.key hj
  rw[List.getElem?_map,List.getElem?_eq_getElem hj'] at hat
  simp only[Option.map_some,Option.some.injEq] at hat
  have hkj:asq[j].key=kt.kval a:=by rw[(hw.at' j es[j] asq[j] (by simp[hj']) (by simp[hja])).2.1,hat]
  rw[hj] at hf
  simp only[Option.bind_some,Array.getElem?_eq_getElem hja,Option.map_some] at hf
  rw[hj] at ec
  simp only at ec
  rw[ec,Qfw hj] at hn
  obtain⟨r1,r2⟩:=HR.writeMap hr (es':=es.modify j fun q=>(q.1,a,v)) (clock':=clock) (as':=asq.modify j fun q=>{ q with key:=kt.kval a,val:=ac.eval u }) hK.key hk hw (by
   intro w' ht hb'
   have hent:∀(i:Nat) q m,(es.modify j fun q=>(q.1,a,v))[i]? = some q→(asq.modify j fun q=>{ q with key:=kt.kval a,val:=ac.eval u })[i]? = some m→m.born=q.1∧m.key=kt.kval q.2.1∧RD g.γ w' (vt.dv q.2.2) m.val:=by
    intro i q m hq hm'
    rw[List.getElem?_modify] at hq
    rw[Array.getElem?_modify] at hm'
    by_cases hij:j=i
    ·subst hij
     rw[List.getElem?_eq_getElem hj'] at hq
     rw[Array.getElem?_eq_getElem hja] at hm'
     simp at hq hm'
     subst hq; subst hm'
     exact⟨(hw.at' j es[j] asq[j] (by simp[hj']) (by simp[hja])).1,rfl,h3.mono ht.le⟩
    ·rw[if_neg hij] at hm'
     simp only[hij,if_false] at hq
     have:=hw.at' i q m (by simpa using hq) hm'
     exact⟨this.1,this.2.1,this.2.2.mono ht.le⟩
   refine⟨hb',by simp[hw.len],?_,hent,?_,?_⟩
   ·apply List.ext_getElem?
    intro i
    rw[List.getElem?_map,List.getElem?_map,List.getElem?_map,Array.getElem?_toList]
    by_cases hi:i < asq.size
    ·have hi' : i < es.length:=by rw[hw.len]; exact hi
     have hA:i < (asq.modify j fun q=>{ q with key:=kt.kval a,val:=ac.eval u }).size:=by simpa using hi
     have hE:i < (es.modify j fun q=>(q.1,a,v)).length:=by simpa using hi'
     rw[Array.getElem?_eq_getElem hA,List.getElem?_eq_getElem hE]
     have:=(hent i _ _ (List.getElem?_eq_getElem hE) (Array.getElem?_eq_getElem hA)).2.1
     simp only[Option.map_some,this]
    ·rw[Array.getElem?_eq_none (by simpa using hi),List.getElem?_eq_none (by simp[hw.len]; omega)]; rfl
   ·intro p hp
    have h5:p.1 ∈ ((es.modify j fun q=>(q.1,a,v)).map (·.1)):=List.mem_map_of_mem (f:=(·.1)) hp
    rw[Q57 (fun q:Nat×kt.T×vt.T=>q.1) (fun q:Nat×kt.T×vt.T=>(q.1,a,v)) (fun _=>rfl) es j] at h5
    obtain⟨q,hq,he⟩:=List.mem_map.1 h5
    rw[← he]; exact hw.lt q hq
   ·rw[Q57 (fun q:Nat×kt.T×vt.T=>q.1) (fun q:Nat×kt.T×vt.T=>(q.1,a,v)) (fun _=>rfl) es j]; exact hw.nodup)
  have e1:(Instr.mapUpdate t (ac.eval x) (ac.eval y) (ac.eval u)).run P w = .ok () { w with heap:=w.heap.setIfInBounds (g.ρ k) (.map (asq.modify j fun q=>{ q with key:=kt.kval a,val:=ac.eval u }) clock) }:=by
   simp only[Instr.mapUpdate,h1,h2,Sem.run_bind,run_underlying hu,Result.andThen_ok,hget,hc,hf,Array.getElem?_eq_getElem hja,Option.map_some,Option.getD_some,hkj,hst,hset]
  rw[hrun _ e1]
  exact hn g _ undef r1 r2 (.ofSc _ _ _)
theorem Qws {ts:Array TypeId} {t e:TypeId} {x y:Operand} {k:Nat} {es:Ents kt vt} {clock:Nat} {a:kt.T} (ho:o.op = .call { callee:=.builtin .delete,args:=#[x,y],argTypes:=ts }) (h0:ts[0]? = some t) (hm:MapI P t kt vt e)
  (hk:X.objs.lookup k=some (mapO kt vt es clock)) :
  OpT P o [(x,.mp k),(y,.d (kt.dv a))] X ⟨Ab.setObj k (mapO kt vt (mdel a es) clock) X.objs,X.live⟩ [] (.tup []):=by
 intro nm hsm B g w ac hr hrd next Q hn
 obtain⟨kty,hu,hK⟩:=hm.und
 have h1:=(rd0 hrd).mp_inv
 have h2:ac.eval y=kt.kval a:=by
  have:=rd1 hrd
  cases this with
  | d _ _ h=>exact kt.kval_inv hK.key h
 simp only at h1
 obtain⟨asq,hw⟩:=Q5q hK.key (hr.objs k _ hk)
 have hf:=hw.find hK a
 have hc:=hK.check asq.isEmpty 9998 a w
 have hget:=MapKept.run_getObj_map (P:=P) hw.heap
 have hset:=Q9z (P:=P) hw.heap
 have hrun:∀w',(Builtin.delete_ ts o.type #[ac.eval x,ac.eval y]).run P w = .ok (.tuple #[]) w'→(execOp ac.eval o).run P w = .ok (.value (.tuple #[])) w':=by
  intro w' h
  simp[execOp,ho,resolve,invoke,builtin,h]
 unfold Oper.wp
 cases hj:kidx kt a (es.map (·.2.1)) with
 | none =>
  rw[hj] at hf
  simp only[Option.bind_none] at hf
  rw[Qmd hj] at hn
  obtain⟨r1,r2⟩:=HR.writeMap hr (es':=es) (clock':=clock) (as':=asq) hK.key hk hw (by
   intro w' ht hb'
   exact hw.mono (hb'.trans hw.heap.symm) ht.le)
  have e1:(Builtin.delete_ ts o.type #[ac.eval x,ac.eval y]).run P w = .ok (.tuple #[]) { w with heap:=w.heap.setIfInBounds (g.ρ k) (.map asq clock) }:=by
   simp only[Builtin.delete_,h0,h1,h2,List.getElem?_toArray,List.getElem?_cons_zero,List.getElem?_cons_succ,Sem.run_bind,run_underlying hu,Result.andThen_ok,hget,hc,hf,hset,Sem.run_pure]
  rw[hrun _ e1]
  exact hn g _ _ r1 r2 (.tup [] #[] rfl (by simp))
 | some j =>
  have hj':=Q6h hj
  rw[List.length_map] at hj'
  have hja:j < asq.size:=by rw[← hw.len]; exact hj'
  rw[hj] at hf
  simp only[Option.bind_some,Array.getElem?_eq_getElem hja,Option.map_some] at hf
  rw[Qmv hj] at hn
  have hE:(asq.eraseIdxIfInBounds j).toList=asq.toList.eraseIdx j:=by
   simp[Array.eraseIdxIfInBounds,hja]
  obtain⟨r1,r2⟩:=HR.writeMap hr (es':=es.eraseIdx j) (clock':=clock) (as':=asq.eraseIdxIfInBounds j) hK.key hk hw (by
   intro w' ht hb'
   refine⟨hb',?_,?_,?_,?_,?_⟩
   ·have:=congrArg List.length hE
    simp only[Array.length_toList] at this
    rw[this,List.length_eraseIdx,List.length_eraseIdx]
    have:=hw.len
    simp only[Array.length_toList,this]
   ·rw[hE,show(asq.toList.eraseIdx j).map (·.key)=(asq.toList.map (·.key)).eraseIdx j from(Q4q ..).symm,hw.keys,Q4q,Q4q]
   ·intro i q m hq hm'
    rw[← Array.getElem?_toList,hE] at hm'
    rw[List.getElem?_eraseIdx] at hq hm'
    split at hq
    ·rw[if_pos ‹_›,Array.getElem?_toList] at hm'
     have:=hw.at' i q m hq hm'
     exact⟨this.1,this.2.1,this.2.2.mono ht.le⟩
    ·rw[if_neg ‹_›,Array.getElem?_toList] at hm'
     have:=hw.at' (i+1) q m hq hm'
     exact⟨this.1,this.2.1,this.2.2.mono ht.le⟩
   ·intro p hp; exact hw.lt p (List.mem_of_mem_eraseIdx hp)
   ·rw[← Q4q]; exact hw.nodup.sublist (List.eraseIdx_sublist _ _))
  have e1:(Builtin.delete_ ts o.type #[ac.eval x,ac.eval y]).run P w = .ok (.tuple #[]) { w with heap:=w.heap.setIfInBounds (g.ρ k) (.map (asq.eraseIdxIfInBounds j) clock) }:=by
   simp only[Builtin.delete_,h0,h1,h2,List.getElem?_toArray,List.getElem?_cons_zero,List.getElem?_cons_succ,Sem.run_bind,run_underlying hu,Result.andThen_ok,hget,hc,hf,hset,Sem.run_pure]
  rw[hrun _ e1]
  exact hn g _ _ r1 r2 (.tup [] #[] rfl (by simp))
theorem Qis {ts:Array TypeId} {t e:TypeId} {x:Operand} {k:Nat} {es:Ents kt vt} {clock:Nat} (ho:o.op = .call { callee:=.builtin .len,args:=#[x],argTypes:=ts }) (h0:ts[0]? = some t) (hm:MapI P t kt vt e)
  (hk:X.objs.lookup k=some (mapO kt vt es clock)):OpT P o [(x,.mp k)] X X [] (.d (.sc (.int .i64 es.length))) :=
 .quiet fun _ _ g w ac hr hrd=>by
  obtain⟨kty,hu,hK⟩:=hm.und
  have h1:=(rd0 hrd).mp_inv
  simp only at h1
  obtain⟨asq,hw⟩:=Q5q hK.key (hr.objs k _ hk)
  have hget:=MapKept.run_getObj_map (P:=P) hw.heap
  refine⟨.int .i64 es.length,?_,.ofSc _ _ _⟩
  simp only[execOp,ho,resolve]
  simp[h1,invoke,builtin,Builtin.len_,h0,run_underlying hu,hget,goInt,hw.len]
theorem Qo8 {t e:TypeId} {x:Operand} {k m:Nat} {es:Ents kt vt} {clock:Nat} (ho:o.op = .range t x) (hm:MapI P t kt vt e) (hk:X.objs.lookup k=some (mapO kt vt es clock)) (hmn:X.objs.lookup m=none) (hX:Qa [m] X=true) (hne:k≠m) :
  OpT P o [(x,.mp k)] X ⟨(m,.mit k clock #[] clock) :: X.objs,X.live⟩ [m] (.ptr m 0):=by
 intro nm hsm B g w ac hr hrd next Q hn
 obtain⟨kty,hu,hK⟩:=hm.und
 have h1:=(rd0 hrd).mp_inv
 simp only at h1
 obtain⟨asq,hw⟩:=Q5q hK.key (hr.objs k _ hk)
 have hget:=MapKept.run_getObj_map (P:=P) hw.heap
 obtain⟨r1,r2⟩:=hr.newObj hmn hX (.mapIter (some (g.ρ k)) clock #[] clock) (.mit k clock #[] clock) (by
  intro g' w' ht hw'
  refine .mit k clock #[] clock ?_
  rw[hw',ht.names k (by simpa using hne)])
 unfold Oper.wp
 have:(execOp ac.eval o).run P w = .ok (.value (.pointer (some ⟨w.heap.size,0,none⟩))) (w.alloc (.mapIter (some (g.ρ k)) clock #[] clock)):=by
  simp only[execOp,ho,h1]
  simp[Instr.range,run_underlying hu,hget]
 rw[this]
 refine hn _ _ _ r1 r2 ?_
 have:=RA.ptr (g:={ g with ρ:=upd g.ρ m w.heap.size }) (w:=w.alloc (.mapIter (some (g.ρ k)) clock #[] clock)) m 0
 simpa[upd_same] using this
end
end Go.Xl
namespace Go.Xl
open Go.Ab
section
variable {P:Program} {R:Type}
noncomputable def Q87 (P:Program) (t:TypeId):Option (Ty×Ty) :=
 match P.underlying t with
 | some (.map k e)=>match tyOf P 9 k,tyOf P 9 e with
  | some kt,some vt=>cond (Qfc P k kt) (some (kt,vt)) none
  | _,_=>none
 | _=>none
noncomputable def Q4o (P:Program) (t:TypeId) (kt:Ty):Option TypeId :=
 match P.underlying t with
 | some (.map k e)=>cond (Qfc P k kt) (some e) none
 | _=>none
theorem Q3u {t e:TypeId} {kt vt:Ty} (h:Q4o P t kt=some e):MapI P t kt vt e:=by
 unfold Q4o at h
 split at h
 ·rename_i k e' hu
  cases hk:Qfc P k kt with
  | false=>simp[hk] at h
  | true =>
   simp only[hk,cond_true,Option.some.injEq] at h
   subst h
   exact⟨_,hu,Qxz hk⟩
 ·cases h
theorem Q35 {objs:List (Nat×XOb)} {k:Nat} {y:XOb} (h:lk k objs=some y):(Q0 objs).lookup k=some y.o:=by rw[Qt,h]; rfl
noncomputable def zeroV (P:Program) (e:TypeId) (vt:Ty):Option vt.T :=
 match P.info? e with
 | some i=>match i.zero with
  | some zv=>match zeroT P e vt with
   | some lz=>cond (Q6s zv) (cond vt.agg (some lz.2) none) (cond vt.agg none (some lz.2))
   | none=>none
  | none=>none
 | none=>none
theorem Qoa {e:TypeId} {vt:Ty} {z:vt.T} (h:zeroV P e vt=some z):∃l i zv,zeroT P e vt=some (l,z)∧P.info? e=some i∧i.zero=some zv∧Q6s zv=vt.agg:=by
 unfold zeroV at h
 split at h
 ·rename_i i hi
  split at h
  ·rename_i zv hz
   split at h
   ·rename_i lz hl
    refine⟨lz.1,i,zv,?_,hi,hz,?_⟩
    ·cases ha:Q6s zv <;> cases hg:vt.agg <;> simp[ha,hg] at h <;> (subst h; exact hl)
    ·cases ha:Q6s zv <;> cases hg:vt.agg <;> simp[ha,hg] at h <;> rfl
   ·cases h
  ·cases h
 ·cases h
noncomputable def Qhv (P:Program) (st:XSt) (o:Oper) (t:TypeId) (r:Option Operand) (K:Out→Option R):Option R :=
 match r with
 | none=>match Q87 P t,newName o with
  | some ts,some m=>cond (fresh m st) (K ⟨.new [(m,.map ts.1 ts.2 [] 0)],.nm m .m,[],(m,.map ts.1 ts.2 [] 0) :: st.objs,st.live,[m],[m]⟩) none
  | _,_=>none
 | some _=>none
theorem Qr8 {o:Oper} {st:XSt} {t:TypeId} {rs:Option Operand} {K:Out→Option R} {r:R} (ho:o.op = .makeMap t rs) (h:Qhv P st o t rs K=some r):∃out,K out=some r∧OpOk P o st out:=by
 unfold Qhv at h
 split at h
 ·split at h
  ·rename_i ts m hm hn
   cases hf:fresh m st with
   | false=>simp[hf] at h
   | true =>
    simp only[hf,cond_true] at h
    obtain⟨h1,h2⟩:=Q32 hf
    refine⟨_,h,⟨by simp[imRd],?_,fun j z hj hz=>?_⟩⟩
    ·exact⟨rfl,Qtn (kt:=ts.1) (vt:=ts.2) m ho (Q31 h1) h2⟩
    ·rw[Qo (by simpa using hj)] at hz; exact hz
  ·cases h
 ·cases h
noncomputable def lookX {vt:Ty} (ok:Bool) (x:Option vt.T) (z:vt.T):XV:=cond ok (.tup [.d (vt.xv (x.getD z)),.d (.b x.isSome)]) (.d (vt.xv (x.getD z)))
theorem Qsg {vt:Ty} (ok:Bool) (x:Option vt.T) (z:vt.T):(lookX ok x z).a=Ql0 ok x z:=by
 cases ok <;> cases x <;> rfl
theorem Qnc {o:Oper} {X:Store} {t e:TypeId} {kt vt:Ty} {x y:Operand} {ok:Bool} {a:kt.T} {l:List Value} {z:vt.T} {i:TypeInfo} {zv:Value} (ho:o.op = .lookup t x y ok) (hm:MapI P t kt vt e)
  (hz:zeroT P e vt=some (l,z)) (hi:P.info? e=some i) (hzv:i.zero=some zv) (hg:Q6s zv=vt.agg) :
  OpT P o [(x,.d (.sc (.map none))),(y,.d (kt.dv a))] X X [] (Ql0 ok (none:Option vt.T) z) :=
 .quiet fun _ _ g w ac hr hrd=>by
  obtain⟨kty,hu,hK⟩:=hm.und
  have h1:=(rd0 hrd).sc_inv
  have h2:ac.eval y=kt.kval a:=by
   have:=rd1 hrd
   cases this with
   | d _ _ h=>exact kt.kval_inv hK.key h
  simp only at h1
  have hf:=hK.find a w [] [] rfl
  have hc:=hK.check true 9998 a w
  simp only[kidx,Option.bind_none] at hf
  refine⟨if ok then .tuple #[zv,.bool false] else zv,?_,Qcv (Qsh hz hi hzv hg)⟩
  simp[execOp,ho,h1,h2,Instr.lookup,Sem.run_bind,run_underlying hu,Result.andThen_ok,Sem.run_pure,hc,hf,zeroValue,typeInfo,hi,hzv]
noncomputable def Qkz (P:Program) (st:XSt) (t:TypeId) (x y:Operand) (ok:Bool) (K:Out→Option R):Option R :=
 match xeval st x with
 | some (.nm k .m)=>match lk k st.objs with
  | some (.map kt vt es c)=>match Q4o P t kt,xd st y with
   | some e,some a=>match kt.decv a,zeroV P e vt with
    | some a,some z=>K ⟨.look [k],lookX ok (mget a es) z,[(x,.nm k .m),(y,.d (kt.xv a))],st.objs,st.live,[],[]⟩
    | _,_=>none
   | _,_=>none
  | _=>none
 | some (.d (.v (.map none)))=>match Q87 P t,xd st y with
  | some ts,some a=>match Q4o P t ts.1 with
   | some e=>match ts.1.decv a,zeroV P e ts.2 with
    | some a,some z=>K (Q9 st (lookX ok none z) [(x,.d (.v (.map none))),(y,.d (ts.1.xv a))])
    | _,_=>none
   | none=>none
  | _,_=>none
 | _=>none
theorem Q54 {st:XSt} {y:Operand} {x:XD} {kt:Ty} {a:kt.T} (h:xd st y=some x) (hd:kt.decv x=some a):Sees st.im y (.d (kt.dv a)):=Qby h (kt.decv_spec hd)
theorem Qu6 {o:Oper} {st:XSt} {t:TypeId} {x y:Operand} {ok:Bool} {K:Out→Option R} {r:R} (ho:o.op = .lookup t x y ok) (h:Qkz P st t x y ok K=some r):∃out,K out=some r∧OpOk P o st out:=by
 unfold Qkz at h
 split at h
 ·rename_i k hx
  split at h
  ·rename_i kt vt es c hk
   split at h
   ·rename_i e a0 hm hy
    split at h
    ·rename_i a z ha hz
     obtain⟨l,i,zv,z1,z2,z3,z4⟩:=Qoa hz
     refine⟨_,h,⟨?_,⟨rfl,rfl,rfl,fun X hX=>?_⟩,fun _ _ _ h=>h⟩⟩
     ·intro p hp
      simp only[imRd,List.map_cons,List.map_nil,List.mem_cons,List.not_mem_nil,or_false] at hp
      rcases hp with rfl | rfl
      ·exact Q5 hx
      ·exact Q54 hy ha
     ·have:=Qw8 (P:=P) (X:=X) (k:=k) (es:=es) (clock:=c) (a:=a) ho (Q3u hm) z1 z2 z3 z4 ((hX k (by simp)).trans (Q35 hk))
      rw[Qsg]
      exact this
    ·cases h
   ·cases h
  ·cases h
 ·rename_i hx
  split at h
  ·rename_i ts a0 hm hy
   split at h
   ·rename_i e he
    split at h
    ·rename_i a z ha hz
     obtain⟨l,i,zv,z1,z2,z3,z4⟩:=Qoa hz
     refine⟨_,h,Q4 ?_ fun X=>?_⟩
     ·intro p hp
      simp only[imRd,List.map_cons,List.map_nil,List.mem_cons,List.not_mem_nil,or_false] at hp
      rcases hp with rfl | rfl
      ·exact Q5 hx
      ·exact Q54 hy ha
     ·rw[Qsg]
      exact Qnc (a:=a) ho (Q3u he) z1 z2 z3 z4
    ·cases h
   ·cases h
  ·cases h
 ·cases h
noncomputable def Q8y (P:Program) (st:XSt) (t:TypeId) (x y u:Operand) (K:Out→Option R):Option R :=
 match xeval st x with
 | some (.nm k .m)=>match lk k st.objs with
  | some (.map kt vt es c)=>match Q4o P t kt,xd st y,xd st u with
   | some e,some a,some v=>match kt.decv a,vt.decv v with
    | some a,some v=>K ⟨.put k (.map kt vt (mput a v c es) (mclk a es c)),.d (.v undef),[(x,.nm k .m),(y,.d (kt.xv a)),(u,.d (vt.xv v))],xset k (.map kt vt (mput a v c es) (mclk a es c)) st.objs,st.live,[],[k]⟩
    | _,_=>none
   | _,_,_=>none
  | _=>none
 | _=>none
theorem Qde {o:Oper} {st:XSt} {t:TypeId} {x y u:Operand} {K:Out→Option R} {r:R} (ho:o.op = .mapUpdate t x y u∨o.op = .insert t x y u) (h:Q8y P st t x y u K=some r):∃out,K out=some r∧OpOk P o st out:=by
 unfold Q8y at h
 split at h
 ·rename_i k hx
  split at h
  ·rename_i kt vt es c hk
   split at h
   ·rename_i e a0 v0 hm hy hu
    split at h
    ·rename_i a v ha hv
     refine⟨_,h,⟨?_,⟨rfl,rfl,rfl,fun X hX=>?_⟩,fun j z hj hz=>?_⟩⟩
     ·intro p hp
      simp only[imRd,List.map_cons,List.map_nil,List.mem_cons,List.not_mem_nil,or_false] at hp
      rcases hp with rfl | rfl | rfl
      ·exact Q5 hx
      ·exact Q54 hy ha
      ·exact Q54 hu hv
     ·exact Qqm (P:=P) (X:=X) (k:=k) (es:=es) (clock:=c) (a:=a) (v:=v) ho (Q3u (vt:=vt) hm) (hX.trans (Q35 hk))
     ·simp only[List.mem_cons,List.not_mem_nil,or_false] at hj
      rwa [Q2k _ _ _ _ hj] at hz
    ·cases h
   ·cases h
  ·cases h
 ·cases h
noncomputable def Ql8 (P:Program) (st:XSt) (ts:Array TypeId) (x y:Operand) (K:Out→Option R):Option R :=
 match ts[0]? with
 | some t=>match xeval st x with
  | some (.nm k .m)=>match lk k st.objs with
   | some (.map kt vt es c)=>match Q4o P t kt,xd st y with
    | some e,some a=>match kt.decv a with
     | some a=>K ⟨.put k (.map kt vt (mdel a es) c),.tup [],[(x,.nm k .m),(y,.d (kt.xv a))],xset k (.map kt vt (mdel a es) c) st.objs,st.live,[],[k]⟩
     | none=>none
    | _,_=>none
   | _=>none
  | some (.d (.v (.map none)))=>match Q87 P t,xd st y with
   | some ks,some a=>match Q4o P t ks.1,ks.1.decv a with
    | some e,some a=>K (Q9 st (.tup []) [(x,.d (.v (.map none))),(y,.d (ks.1.xv a))])
    | _,_=>none
   | _,_=>none
  | _=>none
 | none=>none
theorem Qn6 {o:Oper} {X:Store} {ts:Array TypeId} {t e:TypeId} {kt vt:Ty} {x y:Operand} {a:kt.T} (ho:o.op = .call { callee:=.builtin .delete,args:=#[x,y],argTypes:=ts }) (h0:ts[0]? = some t) (hm:MapI P t kt vt e) :
  OpT P o [(x,.d (.sc (.map none))),(y,.d (kt.dv a))] X X [] (.tup []) :=
 .quiet fun _ _ g w ac hr hrd=>by
  obtain⟨kty,hu,hK⟩:=hm.und
  have h1:=(rd0 hrd).sc_inv
  have h2:ac.eval y=kt.kval a:=by
   have:=rd1 hrd
   cases this with
   | d _ _ h=>exact kt.kval_inv hK.key h
  simp only at h1
  have hc:=hK.check true 9998 a w
  refine⟨.tuple #[],?_,.tup [] #[] rfl (by simp)⟩
  simp[execOp,ho,resolve,invoke,builtin,Builtin.delete_,h0,h1,h2,run_underlying hu,hc]
theorem Qt5 {o:Oper} {st:XSt} {ts:Array TypeId} {x y:Operand} {K:Out→Option R} {r:R} (ho:o.op = .call { callee:=.builtin .delete,args:=#[x,y],argTypes:=ts }) (h:Ql8 P st ts x y K=some r):∃out,K out=some r∧OpOk P o st out:=by
 unfold Ql8 at h
 split at h
 ·rename_i t h0
  split at h
  ·rename_i k hx
   split at h
   ·rename_i kt vt es c hk
    split at h
    ·rename_i e a0 hm hy
     split at h
     ·rename_i a ha
      refine⟨_,h,⟨?_,⟨rfl,rfl,rfl,fun X hX=>?_⟩,fun j z hj hz=>?_⟩⟩
      ·intro p hp
       simp only[imRd,List.map_cons,List.map_nil,List.mem_cons,List.not_mem_nil,or_false] at hp
       rcases hp with rfl | rfl
       ·exact Q5 hx
       ·exact Q54 hy ha
      ·exact Qws (P:=P) (X:=X) (k:=k) (es:=es) (clock:=c) (a:=a) ho h0 (Q3u (vt:=vt) hm) (hX.trans (Q35 hk))
      ·simp only[List.mem_cons,List.not_mem_nil,or_false] at hj
       rwa [Q2k _ _ _ _ hj] at hz
     ·cases h
    ·cases h
   ·cases h
  ·rename_i hx
   split at h
   ·rename_i ks a0 hm hy
    split at h
    ·rename_i e a he ha
     refine⟨_,h,Q4 ?_ fun X=>?_⟩
     ·intro p hp
      simp only[imRd,List.map_cons,List.map_nil,List.mem_cons,List.not_mem_nil,or_false] at hp
      rcases hp with rfl | rfl
      ·exact Q5 hx
      ·exact Q54 hy ha
     ·exact Qn6 (a:=a) ho h0 (Q3u (vt:=ks.2) he)
    ·cases h
   ·cases h
  ·cases h
 ·cases h
noncomputable def Qzx:XV→Bool
 | .nm _ .m=>true
 | .d (.v (.map none))=>true
 | _=>false
noncomputable def Qkf (P:Program) (st:XSt) (ts:Array TypeId) (x:Operand) (K:Out→Option R):Option R :=
 match ts[0]? with
 | some t=>match xeval st x with
  | some (.nm k .m)=>match lk k st.objs with
   | some (.map kt vt es c)=>match Q4o P t kt with
    | some e=>K ⟨.look [k],.d (.i .i64 es.length),[(x,.nm k .m)],st.objs,st.live,[],[]⟩
    | none=>none
   | _=>none
  | some (.d (.v (.map none)))=>match Q87 P t with
   | some ks=>K (Q9 st (.d (.i .i64 0)) [(x,.d (.v (.map none)))])
   | none=>none
  | _=>none
 | none=>none
theorem Qj8 {t:TypeId} {ks:Ty×Ty} (h:Q87 P t=some ks):∃k e,P.underlying t=some (.map k e):=by
 unfold Q87 at h
 split at h
 ·rename_i k e hu; exact⟨k,e,hu⟩
 ·cases h
theorem Qun {o:Oper} {st:XSt} {ts:Array TypeId} {x:Operand} {K:Out→Option R} {r:R} (ho:o.op = .call { callee:=.builtin .len,args:=#[x],argTypes:=ts }) (h:Qkf P st ts x K=some r):∃out,K out=some r∧OpOk P o st out:=by
 unfold Qkf at h
 split at h
 ·rename_i t h0
  split at h
  ·rename_i k hx
   split at h
   ·rename_i kt vt es c hk
    split at h
    ·rename_i e hm
     refine⟨_,h,⟨Qi hx,⟨rfl,rfl,rfl,fun X hX=>?_⟩,fun _ _ _ h=>h⟩⟩
     exact Qis (P:=P) (X:=X) (k:=k) (es:=es) (clock:=c) ho h0 (Q3u (vt:=vt) hm) ((hX k (by simp)).trans (Q35 hk))
    ·cases h
   ·cases h
  ·rename_i hx
   split at h
   ·rename_i ks hm
    obtain⟨kk,e,hu⟩:=Qj8 hm
    refine⟨_,h,Q4 (Qi hx) fun X=>?_⟩
    refine .quiet fun _ _ g w ac hr hrd=>?_
    have h1:=(rd0 hrd).sc_inv
    simp only at h1
    refine⟨.int .i64 0,?_,.ofSc _ _ _⟩
    simp[execOp,ho,resolve,invoke,builtin,Builtin.len_,h0,h1,run_underlying hu,goInt]
   ·cases h
  ·cases h
 ·cases h
noncomputable def Qe6 (P:Program) (st:XSt) (o:Oper) (t:TypeId) (x:Operand) (K:Out→Option R):Option R :=
 match xeval st x,newName o with
 | some (.nm k .m),some m=>match lk k st.objs with
  | some (.map kt vt es c)=>match Q4o P t kt with
   | some e=>cond (Nat.beq k m) none (cond (fresh m st) (K ⟨.all,.nm m (.p 0),[(x,.nm k .m)],(m,.mit k c [] c) :: st.objs,st.live,[m],[m]⟩) none)
   | none=>none
  | _=>none
 | some (.d (.v (.map none))),some m=>match Q87 P t with
  | some ks=>cond (fresh m st) (K ⟨.all,.nm m (.p 0),[(x,.d (.v (.map none)))],(m,.mitn) :: st.objs,st.live,[m],[m]⟩) none
  | none=>none
 | _,_=>none
theorem Qpz {o:Oper} {st:XSt} {t:TypeId} {x:Operand} {K:Out→Option R} {r:R} (ho:o.op = .range t x) (h:Qe6 P st o t x K=some r):∃out,K out=some r∧OpOk P o st out:=by
 unfold Qe6 at h
 split at h
 ·rename_i k m hx hm
  split at h
  ·rename_i kt vt es c hk
   split at h
   ·rename_i e he
    cases hne:Nat.beq k m with
    | true=>simp[hne] at h
    | false =>
    cases hf:fresh m st with
    | false=>simp[hne,hf] at h
    | true =>
     simp only[hne,hf,cond_true,cond_false] at h
     obtain⟨h1,h2⟩:=Q32 hf
     refine⟨_,h,⟨Qi hx,?_,fun j z hj hz=>?_⟩⟩
     ·exact Qo8 (P:=P) (X:=st.X) (k:=k) (m:=m) (es:=es) (clock:=c) ho (Q3u (vt:=vt) he) (Q35 hk) (Q31 h1) h2 (Nat.ne_of_beq_eq_false hne)
     ·rw[Qo (by simpa using hj)] at hz; exact hz
   ·cases h
  ·cases h
 ·rename_i m hx hm
  split at h
  ·rename_i ks hks
   cases hf:fresh m st with
   | false=>simp[hf] at h
   | true =>
    simp only[hf,cond_true] at h
    obtain⟨h1,h2⟩:=Q32 hf
    obtain⟨kk,e,hu⟩:=Qj8 hks
    refine⟨_,h,⟨Qi hx,?_,fun j z hj hz=>?_⟩⟩
    ·intro nm hsm B g w ac hr hrd next Q hn
     have e1:=(rd0 hrd).sc_inv
     simp only at e1
     obtain⟨r1,r2⟩:=hr.newObj (Q31 h1) h2 (.mapIter none 0 #[] 0) .mitn (by
      intro g' w' _ hw
      exact .mitn hw)
     unfold Oper.wp
     have:(execOp ac.eval o).run P w = .ok (.value (.pointer (some ⟨w.heap.size,0,none⟩))) (w.alloc (.mapIter none 0 #[] 0)):=by
      simp only[execOp,ho,e1]
      simp[Instr.range,run_underlying hu]
     rw[this]
     refine hn _ _ _ r1 r2 ?_
     show RA _ _ (.ptr m 0) _
     have:=RA.ptr (g:={ g with ρ:=upd g.ρ m w.heap.size }) (w:=w.alloc (.mapIter none 0 #[] 0)) m 0
     simpa[upd_same] using this
    ·rw[Qo (by simpa using hj)] at hz; exact hz
  ·cases h
 ·cases h
noncomputable def demon {α R:Type} (l:List α) (z:Option R) (f:α→Option R):Option R :=
 open Classical in if l = [] then z else if h : ∃ r, ∀ x ∈ l, f x = some r then some h.choose else none
theorem Qmp {α R:Type} (z:Option R) (f:α→Option R):demon [] z f=z:=by simp[demon]
theorem Qu2 {α R:Type} {l:List α} {z:Option R} {f:α→Option R} {r:R} (h:demon l z f=some r):(l = []∧z=some r)∨(l≠[]∧∀x ∈ l,f x=some r):=by
 unfold demon at h
 split at h
 ·rename_i hl; exact .inl ⟨hl,h⟩
 ·rename_i hl
  split at h
  ·rename_i hx
   right
   refine⟨hl,?_⟩
   have:=hx.choose_spec
   cases h
   exact this
  ·cases h
theorem Qoc {α R:Type} {l:List α} {z:Option R} {f:α→Option R} {r:R} (hl:l≠[]) (h:∀x ∈ l,f x=some r):demon l z f=some r:=by
 unfold demon
 rw[if_neg hl]
 have hx:∃r,∀x ∈ l,f x=some r:=⟨r,h⟩
 rw[dif_pos hx]
 obtain⟨a,ha⟩:=List.exists_mem_of_ne_nil l hl
 have h1:=hx.choose_spec a ha
 rw[h a ha] at h1
 exact h1.symm
noncomputable def OpD (P:Program) (o:Oper) (rd:List (Operand×AV)) (X:Store) (outs:List (AV×Store)):Prop :=
 ∀(nm:List Nat),(∀j ∈ nm,j < 1000)→∀(B:Base) (g:Gh) (w:World) (a:Act),HR nm B g w X→(∀p ∈ rd,RA g w p.2 (a.eval p.1)) →
  ∀(next:Act→World→Prop) (Q:Exit→Act→World→Prop),
   (∀p ∈ outs,∀g' w' v,HR nm B g' w' p.2→Trans [] g w g' w'→RA g' w' p.1 v→next (a.put o.dst v) w')→o.wp P a w next Q
theorem Rw.demon {S:Sig} {ops:Array Oper} {i:Nat} {rest:List Nat} {st:St} {K:St→Prop} {o:Oper} {rd:List (Operand×AV)} {outs:List (AV×Store)} (ho:ops[i]? = some o) (hg:Guard ops st o.guard true) (ht:OpD P o rd st.X outs) (hs:SeesAll st rd) (hd:dstOk S.N o.dst=true)
  (h:∀p ∈ outs,Rw P S ops rest ⟨Qm o.dst p.1 st.env,p.2⟩ K):Rw P S ops (i :: rest) st K:=by
 intro B g w a Q hsr hq
 unfold wpOps
 simp only[ho,hg.wanted hsr,if_true]
 refine .inl (ht S.names S.small B g w a hsr.hr (fun p hp=>(hs.all p hp).ra hsr) _ Q ?_)
 intro p hp g' w' v hX htr hv
 exact h p hp B g' w' _ Q (hsr.put htr rfl hX hd hv) hq
noncomputable def unseen {α:Type} (seen:List Nat) (es:List (Nat×α)):List (Nat×α):=es.filter fun e=>!seen.contains e.1
noncomputable def oldB {α:Type} (since last:Nat) (es:List (Nat×α)):Bool:=es.all fun e=>decide (e.1 < since) && decide (e.1 < last)
section
variable {o:Oper} {X:Store} {kt vt:Ty}
theorem Q5n {w:World} {r:Nat} {x:Option Nat} {a c:Nat} {s:Array Nat} (hr:w.heap[r]? = some (.mapIter x a s c)):(getObj r).run P w = .ok (.mapIter x a s c) w:=by
 simp[getObj,Sem.run,hr]
theorem Qbm {w:World} {r:Nat} {x:Option Nat} {a c:Nat} {s:Array Nat} (hr:w.heap[r]? = some (.mapIter x a s c)) (o' : Obj):(setObj r o').run P w = .ok () { w with heap:=w.heap.setIfInBounds r o' }:=by
 simp[setObj,Sem.run,hr]
theorem Qf0 {g:Gh} {w:World} {b k since last:Nat} {seen:Array Nat} (h:ObRel g w b (.mit k since seen last)):w.heap[b]? = some (.mapIter (some (g.ρ k)) since seen last):=by
 cases h with
 | mit _ _ _ _ h=>exact h
theorem Qmk {g:Gh} {w:World} {b:Nat} {es:Ents kt vt} {clock:Nat} {asq:Array MapEntry} {since last:Nat} {seen:List Nat} (hw:MapW kt vt g w b es clock asq) (hold:oldB since last es=true) :
  (asq.filter fun e=>!(seen.toArray.contains e.born)).size=(unseen seen es).length ∧
  (∀(i:Nat) x e,(unseen seen es)[i]? = some x→(asq.filter fun e=>!(seen.toArray.contains e.born))[i]? = some e→e.born=x.1∧e.key=kt.kval x.2.1∧RD g.γ w (vt.dv x.2.2) e.val) ∧
  (∀e ∈ asq,e.born < since∧e.born < last):=by
 have hb:∀e ∈ asq.toList,∃x ∈ es,e.born=x.1∧e.key=kt.kval x.2.1∧RD g.γ w (vt.dv x.2.2) e.val:=by
  intro e he
  obtain⟨i,hi⟩:=List.mem_iff_getElem?.1 he
  have hlt:i < es.length:=by
   have:=(List.getElem?_eq_some_iff.1 hi).1
   rw[hw.len]; simpa using this
  exact⟨es[i],List.getElem_mem hlt,hw.at' i es[i] e (by simp[hlt]) (by simpa using hi)⟩
 have hall:∀e ∈ asq,e.born < since∧e.born < last:=by
  intro e he
  obtain⟨x,hx,h1,_⟩:=hb e (by simpa using he)
  have:=List.all_eq_true.1 hold x hx
  simp only[Bool.and_eq_true,decide_eq_true_eq] at this
  rw[h1]; exact this
 have pairs:∀(l:List MapEntry) (m:List (Nat×kt.T×vt.T)),l.length=m.length→(∀(i:Nat) x e,m[i]? = some x→l[i]? = some e→e.born=x.1∧e.key=kt.kval x.2.1∧RD g.γ w (vt.dv x.2.2) e.val) →
   (l.filter fun e=>!(seen.toArray.contains e.born)).length=(unseen seen m).length ∧
   ∀(i:Nat) x e,(unseen seen m)[i]? = some x→(l.filter fun e=>!(seen.toArray.contains e.born))[i]? = some e→e.born=x.1∧e.key=kt.kval x.2.1∧RD g.γ w (vt.dv x.2.2) e.val:=by
  intro l
  induction l with
  | nil =>
   intro m hm _
   cases m with
   | nil=>exact⟨rfl,by simp[unseen]⟩
   | cons _ _=>simp at hm
  | cons e l ih =>
   intro m hm hr
   cases m with
   | nil=>simp at hm
   | cons x m =>
    obtain⟨i1,i2⟩:=ih m (by simpa using hm) (fun i y q h1 h2=>hr (i+1) y q (by simpa using h1) (by simpa using h2))
    have h0:=hr 0 x e rfl rfl
    have hc:seen.toArray.contains e.born=seen.contains x.1:=by rw[h0.1]; simp
    unfold unseen
    rw[List.filter_cons,List.filter_cons,hc]
    cases seen.contains x.1 with
    | true=>simpa[unseen] using And.intro i1 i2
    | false =>
     simp only[Bool.not_false,if_true,List.length_cons]
     refine⟨by simpa[unseen] using i1,?_⟩
     intro i y q h1 h2
     cases i with
     | zero=>simp at h1 h2; subst h1; subst h2; exact h0
     | succ i=>exact i2 i y q (by simpa[unseen] using h1) (by simpa using h2)
 obtain⟨p1,p2⟩:=pairs asq.toList es (by simpa using hw.len.symm) (fun i x e hx he=>hw.at' i x e hx (by simpa using he))
 refine⟨?_,?_,hall⟩
 ·rw[← p1,← Array.length_toList,Array.toList_filter]
 ·intro i x e hx he
  refine p2 i x e hx ?_
  rw[← Array.getElem?_toList,Array.toList_filter] at he
  exact he
theorem Qrf {x:Operand} {m k since last clock:Nat} {seen:List Nat} {es:Ents kt vt} (ho:o.op = .next x false) (hkey:kt.key=true) (hm:X.objs.lookup m=some (.mit k since seen.toArray last)) (hk:X.objs.lookup k=some (mapO kt vt es clock))
  (hold:oldB since last es=true) (hne:unseen seen es≠[]) :
  OpD P o [(x,.ptr m 0)] X ((unseen seen es).map fun e=>(.tup [.d (.sc (.bool true)),.d (kt.dv e.2.1),.d (vt.dv e.2.2)],⟨Ab.setObj m (.mit k since (seen++[e.1]).toArray clock) X.objs,X.live⟩)):=by
 intro nm hsm B g w ac hr hrd next Q hn
 have e1:=(rd0 hrd).ptr_inv
 simp only at e1
 have hb:=Qf0 (hr.objs m _ hm)
 obtain⟨asq,hw⟩:=Q5q hkey (hr.objs k _ hk)
 obtain⟨f1,f2,f3⟩:=Qmk (seen:=seen) hw hold
 have hget:=Q5n (P:=P) hb
 have hgetm:=MapKept.run_getObj_map (P:=P) hw.heap
 have hset:=Qbm (P:=P) hb
 have hlt:g.ρ m < w.heap.size:=(Array.getElem?_eq_some_iff.1 hb).1
 obtain⟨L,hL⟩:∃L,L=asq.filter fun e=>!(seen.toArray.contains e.born):=⟨_,rfl⟩
 rw[← hL] at f1 f2
 have hLpos:0 < L.size:=by rw[f1]; exact List.length_pos_iff.2 hne
 have hLold:L.filter (fun e=>decide (e.born < since))=L:=by
  rw[Array.filter_eq_self]
  intro e he
  rw[hL] at he
  exact decide_eq_true (f3 e (Array.mem_filter.1 he).1).1
 have hLnew:L.filter (fun e=>decide (e.born ≥ since)) = #[]:=by
  rw[Array.filter_eq_empty_iff]
  intro e he
  rw[hL] at he
  have:=(f3 e (Array.mem_filter.1 he).1).1
  simp; omega
 have hspo:(!seen.toArray.isEmpty && !asq.isEmpty && asq.all fun e=>decide (e.born ≥ last))=false:=by
  cases hae:asq.isEmpty with
  | true=>simp
  | false =>
   have hpos:0 < asq.size:=by
    cases hs:asq.size with
    | zero =>
     have:asq = #[]:=Array.eq_empty_of_size_eq_zero hs
     subst this; simp at hae
    | succ n=>omega
   have:(asq.all fun e=>decide (e.born ≥ last))=false:=by
    rw[Bool.eq_false_iff]
    intro h
    have h2:=Array.all_eq_true.1 h 0 hpos
    have h3:=(f3 asq[0] (Array.getElem_mem hpos)).2
    simp at h2; omega
   rw[this]; simp
 -- whichever is chosen
 have pick:∀(j:Nat) (hj:j < L.size) (w1:World),(HR nm B g w1 X∧Trans [] g w g w1∧w1.heap=w.heap)→
   ∀(hrun:(execOp ac.eval o).run P w = .ok (.value (.tuple #[.bool true,L[j].key,L[j].val])) { w1 with heap:=w1.heap.setIfInBounds (g.ρ m) (.mapIter (some (g.ρ k)) since (seen.toArray.push L[j].born) clock) }),Oper.upon P o ac next Q ((execOp ac.eval o).run P w):=by
  intro j hj w1 ⟨hr1,ht1,hh⟩ hrun
  have hju:j < (unseen seen es).length:=by rw[← f1]; exact hj
  obtain⟨q1,q2,q3⟩:=f2 j (unseen seen es)[j] L[j] (by simp[hju]) (by simp[hj])
  have hb1:w1.heap[g.ρ m]? = some (.mapIter (some (g.ρ k)) since seen.toArray last):=by rw[hh]; exact hb
  obtain⟨r1,r2⟩:=hr1.write (w':={ w1 with heap:=w1.heap.setIfInBounds (g.ρ m) (.mapIter (some (g.ρ k)) since (seen.toArray.push L[j].born) clock) }) (o':=.mit k since (seen++[(unseen seen es)[j].1]).toArray clock) hm (by simp) ⟨rfl,rfl,rfl,Nat.le_refl _⟩
   (by intro b hb'; simp[Array.getElem?_setIfInBounds,Ne.symm hb']) (fun _=>.mit _ _ _ _ (by simp[Array.getElem?_setIfInBounds,hh,hlt,q1])) (by
    intro sh hsh
    simp[World.shape?,hb1] at hsh)
  rw[hrun]
  refine hn _ (List.mem_map_of_mem (f:=fun e:Nat×kt.T×vt.T=>((.tup [.d (.sc (.bool true)),.d (kt.dv e.2.1),.d (vt.dv e.2.2)],⟨Ab.setObj m (.mit k since (seen++[e.1]).toArray clock) X.objs,X.live⟩):AV×Store)) (List.getElem_mem hju)) g _ _ r1 (ht1.trans r2) ?_
  have hle:=(ht1.trans r2).le
  refine .tup _ _ rfl fun i c u hc hu=>?_
  rcases i with _ | _ | _ | i
  ·simp at hc hu; subst hc; subst hu; exact .ofSc _ _ _
  ·simp at hc hu; subst hc; subst hu
   refine .d _ _ ?_
   rw[q2]; exact kt.kval_rd _ hkey
  ·simp at hc hu; subst hc; subst hu; exact .d _ _ (q3.mono hle)
  ·simp at hc
 have hsome:∀(j:Nat) (hj:j < L.size),((#[] : Array (Option MapEntry))++(L++#[]).map some)[j]? = some (some L[j]):=by
  intro j hj
  simp[hj]
 have hne0:L.isEmpty=false:=by
  cases h:L.isEmpty with
  | false=>rfl
  | true =>
   have:L = #[]:=by simpa using h
   rw[this] at hLpos; simp at hLpos
 unfold Oper.wp
 have hbase:∀(w1:World) (j:Nat) (hj:j < L.size),w1.heap=w.heap→(choose (.mapNext L.size)).run P w = .ok j w1 →
   (execOp ac.eval o).run P w = .ok (.value (.tuple #[.bool true,L[j].key,L[j].val])) { w1 with heap:=w1.heap.setIfInBounds (g.ρ m) (.mapIter (some (g.ρ k)) since (seen.toArray.push L[j].born) clock) }:=by
  intro w1 j hj hh hch
  have hset1:=Qbm (P:=P) (w:=w1) (r:=g.ρ m) (by rw[hh]; exact hb)
  simp only[execOp,ho,e1,Instr.next,Sem.run_bind,hget,hgetm,Result.andThen_ok,hspo,← hL,hLold,hLnew,hne0,Bool.false_eq_true,if_false,Sem.run_pure]
  have hsz:((#[] : Array (Option MapEntry))++(L++#[]).map some).size=L.size:=by simp
  rw[hsz,hch]
  simp only[Result.andThen_ok,hsome j hj,Sem.run_bind,hset1,Sem.run_pure]
 have hch:=run_choose_drew P w (.mapNext L.size)
 by_cases hf:(Question.mapNext L.size).forced=true
 ·rw[if_pos hf] at hch
  exact pick 0 hLpos w ⟨hr,.refl _ _ _,rfl⟩ (hbase w 0 hLpos rfl hch)
 ·rw[if_neg hf] at hch
  have hj:(Question.mapNext L.size).cut (w.tape w.drawn (.mapNext L.size)) < L.size:=Nat.mod_lt _ hLpos
  obtain⟨d1,d2⟩:=hr.drew
  exact pick _ hj w.drew ⟨d1,d2,rfl⟩ (hbase w.drew _ hj rfl hch)
theorem Qqh {x:Operand} {m k since last clock:Nat} {seen:List Nat} {es:Ents kt vt} (ho:o.op = .next x false) (hkey:kt.key=true) (hm:X.objs.lookup m=some (.mit k since seen.toArray last)) (hk:X.objs.lookup k=some (mapO kt vt es clock))
  (hold:oldB since last es=true) (hne:unseen seen es = []):OpT P o [(x,.ptr m 0)] X X [] (.tup [.d (.sc (.bool false))]) :=
 .quiet fun _ _ g w ac hr hrd=>by
  have e1:=(rd0 hrd).ptr_inv
  simp only at e1
  have hb:=Qf0 (hr.objs m _ hm)
  obtain⟨asq,hw⟩:=Q5q hkey (hr.objs k _ hk)
  obtain⟨f1,f2,f3⟩:=Qmk (seen:=seen) hw hold
  have hget:=Q5n (P:=P) hb
  have hgetm:=MapKept.run_getObj_map (P:=P) hw.heap
  have hL:(asq.filter fun e=>!(seen.toArray.contains e.born)) = #[]:=Array.eq_empty_of_size_eq_zero (by rw[f1,hne]; rfl)
  have hspo:(!seen.toArray.isEmpty && !asq.isEmpty && asq.all fun e=>decide (e.born ≥ last))=false:=by
   cases hae:asq.isEmpty with
   | true=>simp
   | false =>
    have hpos:0 < asq.size:=by
     cases hs:asq.size with
     | zero =>
      have:asq = #[]:=Array.eq_empty_of_size_eq_zero hs
      subst this; simp at hae
     | succ n=>omega
    have:(asq.all fun e=>decide (e.born ≥ last))=false:=by
     rw[Bool.eq_false_iff]
     intro h
     have h2:=Array.all_eq_true.1 h 0 hpos
     have h3:=(f3 asq[0] (Array.getElem_mem hpos)).2
     simp at h2; omega
    rw[this]; simp
  refine⟨.tuple #[.bool false],?_,?_⟩
  ·simp only[execOp,ho,e1,Instr.next,Sem.run_bind,hget,hgetm,Result.andThen_ok,hspo,hL,Bool.false_eq_true,if_false,Sem.run_pure]
   have hch:=run_choose_drew P w (.mapNext 1)
   rw[if_pos (by rfl)] at hch
   simp[hch,Question.forced]
  ·refine .tup _ _ rfl fun i c u hc hu=>?_
   rcases i with _ | i
   ·simp at hc hu; subst hc; subst hu; exact .ofSc _ _ _
   ·simp at hc
theorem Qr9 {x:Operand} {m:Nat} (ho:o.op = .next x false) (hm:X.objs.lookup m=some .mitn):OpT P o [(x,.ptr m 0)] X X [] (.tup [.d (.sc (.bool false))]) :=
 .quiet fun _ _ g w ac hr hrd=>by
  have e1:=(rd0 hrd).ptr_inv
  simp only at e1
  have hb:w.heap[g.ρ m]? = some (.mapIter none 0 #[] 0):=by
   cases hr.objs m _ hm with
   | mitn h=>exact h
  have hget:=Q5n (P:=P) hb
  refine⟨.tuple #[.bool false],?_,?_⟩
  ·simp only[execOp,ho,e1,Instr.next,Sem.run_bind,hget,Result.andThen_ok,Sem.run_pure]
  ·refine .tup _ _ rfl fun i c u hc hu=>?_
   rcases i with _ | i
   ·simp at hc hu; subst hc; subst hu; exact .ofSc _ _ _
   ·simp at hc
end
noncomputable def nextO (st:XSt) (x:Operand) (m k since clock:Nat) (seen:List Nat) (kt vt:Ty) (e:Nat×kt.T×vt.T):Out :=
 ⟨.all,.tup [.d (.b true),.d (kt.xv e.2.1),.d (vt.xv e.2.2)],[(x,.nm m (.p 0))],xset m (.mit k since (seen++[e.1]) clock) st.objs,st.live,[],[m]⟩
noncomputable def Q9y (st:XSt) (x:Operand) (K:Out→Option R):Option R :=
 match xeval st x with
 | some (.nm m (.p 0))=>match lk m st.objs with
  | some (.mit k since seen last)=>match lk k st.objs with
   | some (.map kt vt es clock)=>cond kt.key (cond (oldB since last es)
     (demon (unseen seen es) (K ⟨.look [m,k],.tup [.d (.b false)],[(x,.nm m (.p 0))],st.objs,st.live,[],[]⟩) fun e=>K (nextO st x m k since clock seen kt vt e)) none) none
   | _=>none
  | some .mitn=>K ⟨.look [m],.tup [.d (.b false)],[(x,.nm m (.p 0))],st.objs,st.live,[],[]⟩
  | _=>none
 | _=>none
structure DemOk (P:Program) (o:Oper) (st:XSt) (rd:List (Operand×XV)) (outs:List Out):Prop where
 sees:∀p ∈ imRd rd,Sees st.im p.1 p.2
 F:∀out ∈ outs,out.F = []
 op:OpD P o (imRd rd) st.X (outs.map fun out=>(out.res.a,out.X))
 ol:∀out ∈ outs,∀k x,k ∉ out.ol→lk k out.objs=some x→lk k st.objs=some x
theorem Qfm {o:Oper} {st:XSt} {x:Operand} {K:Out→Option R} {r:R} (ho:o.op = .next x false) (h:Q9y st x K=some r):(∃out,K out=some r∧OpOk P o st out)∨∃rd outs,(∀out ∈ outs,K out=some r)∧DemOk P o st rd outs:=by
 unfold Q9y at h
 split at h
 ·rename_i m hx
  split at h
  ·rename_i k since seen last hm
   split at h
   ·rename_i kt vt es clock hk
    cases hkey:kt.key with
    | false=>simp[hkey] at h
    | true =>
    cases hold:oldB since last es with
    | false=>simp[hkey,hold] at h
    | true =>
     simp only[hkey,hold,cond_true] at h
     have hm' : st.X.objs.lookup m=some (.mit k since seen.toArray last):=Q35 hm
     have hk' : st.X.objs.lookup k=some (mapO kt vt es clock):=Q35 hk
     rcases Qu2 h with ⟨hl,hz⟩ | ⟨hl,hf⟩
     ·left
      refine⟨_,hz,⟨Qi hx,⟨rfl,rfl,rfl,fun X hX=>?_⟩,fun _ _ _ h=>h⟩⟩
      exact Qqh ho hkey ((hX m (by simp)).trans hm') ((hX k (by simp)).trans hk') hold hl
     ·right
      refine⟨[(x,.nm m (.p 0))],(unseen seen es).map (nextO st x m k since clock seen kt vt),?_,⟨Qi hx,?_,?_,?_⟩⟩
      ·intro out hout
       obtain⟨e,he,rfl⟩:=List.mem_map.1 hout
       exact hf e he
      ·intro out hout
       obtain⟨e,he,rfl⟩:=List.mem_map.1 hout
       rfl
      ·have:=Qrf (P:=P) ho hkey hm' hk' hold hl
       rw[List.map_map]
       have e2:(fun e:Nat×kt.T×vt.T=>(((nextO st x m k since clock seen kt vt e).res.a,(nextO st x m k since clock seen kt vt e).X):AV×Store))=fun e=>(.tup [.d (.sc (.bool true)),.d (kt.dv e.2.1),.d (vt.dv e.2.2)],⟨Ab.setObj m (.mit k since (seen++[e.1]).toArray clock) st.X.objs,st.X.live⟩):=by
        funext e
        simp only[nextO,Out.X,Q3d]
        rfl
       show OpD P o _ st.X ((unseen seen es).map fun e=>((nextO st x m k since clock seen kt vt e).res.a,(nextO st x m k since clock seen kt vt e).X))
       rw[e2]
       exact this
      ·intro out hout j z hj hz
       obtain⟨e,he,rfl⟩:=List.mem_map.1 hout
       simp only[nextO,List.mem_cons,List.not_mem_nil,or_false] at hj hz
       rwa [Q2k _ _ _ _ hj] at hz
   ·cases h
  ·rename_i hm
   left
   refine⟨_,h,⟨Qi hx,⟨rfl,rfl,rfl,fun X hX=>?_⟩,fun _ _ _ h=>h⟩⟩
   exact Qr9 ho ((hX m (by simp)).trans (Q35 hm))
  ·cases h
 ·cases h
end
end Go.Xl
namespace Go.Ab
theorem EtaOk.sub {B:Base} {g g' : Gh} {w w' : World} {X X' : Store} (h:EtaOk B g w X)
  (hη:∀L i b,(g'.β L).isSome→g'.η L i=some b→(g.β L).isSome∧g.η L i=some b) (hs:w.heap.size≤w'.heap.size)
  (htip:∀n b,g'.β n=some (some b)→g.β n=some (some b))
  (hobj:∀k o,X'.objs.lookup k=some o→∃o',X.objs.lookup k=some o'∧g'.ρ k=g.ρ k):EtaOk B g' w' X':=by
 refine⟨?_,?_,?_,?_,?_⟩
 ·intro L L' i i' b hL hL' hb hb'
  obtain⟨a1,a2⟩:=hη L i b hL hb
  obtain⟨a3,a4⟩:=hη L' i' b hL' hb'
  exact h.inj L L' i i' b a1 a3 a2 a4
 ·intro L i b n hL hb hn
  obtain⟨a1,a2⟩:=hη L i b hL hb
  exact h.tip L i b n a1 a2 (htip n b hn)
 ·intro L i b k o hL hb hk he
  obtain⟨a1,a2⟩:=hη L i b hL hb
  obtain⟨o',h1,h2⟩:=hobj k o hk
  exact h.obj L i b k o' a1 a2 h1 (he.trans h2)
 ·intro L i b hL hb
  obtain⟨a1,a2⟩:=hη L i b hL hb
  exact h.new L i b a1 a2
 ·intro L i b hL hb
  obtain⟨a1,a2⟩:=hη L i b hL hb
  exact Nat.lt_of_lt_of_le (h.lt L i b a1 a2) hs
def Q7p (k L:Nat) (X:Store):Prop:=∀j o,j≠k→X.objs.lookup j=some o→Q1j [L] o=true
theorem Q7z {k:Nat} {o o' : Ob} {l:List (Nat×Ob)} (hk:l.lookup k=some o) {j:Nat} {p:Ob} (hj:(setObj k o' l).lookup j=some p):∃q,l.lookup j=some q:=by
 rw[Qb] at hj
 split at hj
 ·rename_i he; subst he; exact⟨o,hk⟩
 ·exact⟨p,hj⟩
theorem HR.etaSet {nm:List Nat} {B:Base} {g:Gh} {w:World} {X:Store} (h:HR nm B g w X) {k L:Nat} {o o' : Ob} (hk:X.objs.lookup k=some o) (hfree:Q7p k L X) (e:Nat→Option Nat)
  (hE:EtaOk B { g with η:=upd g.η L e } w ⟨setObj k o' X.objs,X.live⟩)
  (hnew:Trans [L] g w { g with η:=upd g.η L e } w→ObRel { g with η:=upd g.η L e } w (g.ρ k) o') :
  HR nm B { g with η:=upd g.η L e } w ⟨setObj k o' X.objs,X.live⟩∧Trans [L] g w { g with η:=upd g.η L e } w:=by
 have ht:Trans [L] g w { g with η:=upd g.η L e } w:=⟨.refl _ _,fun _ _=>rfl,fun n ob _ he=>⟨he,fun _ _=>⟨rfl,rfl⟩⟩,fun L' hL' _=>⟨Q6 _ _ (by simpa using hL'),fun _ _ _=>⟨rfl,rfl⟩⟩⟩
 have hsome:∀j p,(setObj k o' X.objs).lookup j=some p→∃q,X.objs.lookup j=some q:=fun j p hj=>Q7z hk hj
 refine⟨⟨?_,h.sane,h.base,h.io,h.le,h.frame,?_,?_,?_,?_,h.live,h.tipinj,?_,h.tipnew,h.tiplt,hE⟩,ht⟩
 ·intro j hj
  obtain⟨h1,h2⟩:=h.keep j hj
  refine⟨h1,?_⟩
  simp only[Qb]
  split
  ·rfl
  ·exact h2
 ·intro j p hj
  simp only[Qb] at hj
  split at hj
  ·rename_i he
   cases hj
   subst he
   exact hnew ht
  ·rename_i he
   exact(h.objs j p hj).keep ht rfl (.inr (hfree j p he hj))
 ·intro j p hj; obtain⟨q,hq⟩:=hsome j p hj; exact h.objγ j q hq
 ·intro j j' p p' hj hj' he
  obtain⟨q,hq⟩:=hsome j p hj
  obtain⟨q',hq'⟩:=hsome j' p' hj'
  exact h.objinj j j' q q' hq hq' he
 ·intro j p hj; obtain⟨q,hq⟩:=hsome j p hj; exact h.objnew j q hq
 ·intro n b j p hn hj; obtain⟨q,hq⟩:=hsome j p hj; exact h.tipobj n b j q hn hq
theorem TipE.eta {g:Gh} {w:World} {L i sz:Nat} {v:Value} {e:Nat→Option Nat} (h:TipE g w L i sz v) (he:e i=g.η L i):TipE { g with η:=upd g.η L e } w L i sz v:=by
 unfold TipE at h ⊢
 split at h
 ·exact⟨h.1,by simp only[upd_same,he]; exact h.2.1,h.2.2⟩
 ·trivial
abbrev MapE:Type:=Nat×Value×Bool×List (List D)
abbrev MapL:Type:=List MapE
def SameL (l l' : MapL):Prop:=l'.length=l.length∧∀(j:Nat) (x' : MapE),l'[j]? = some x'→∃x:MapE,l[j]? = some x∧x'.1=x.1∧x'.2.1=x.2.1∧x'.2.2.2=x.2.2.2
theorem SameL.births {l l' : MapL} (h:SameL l l'):l'.map (·.1)=l.map (·.1):=by
 apply List.ext_getElem?
 intro i
 rw[List.getElem?_map,List.getElem?_map]
 by_cases hi:i < l'.length
 ·obtain⟨x,h1,h2,_⟩:=h.2 i l'[i] (by simp[hi])
  rw[h1,List.getElem?_eq_getElem hi]
  simp[h2]
 ·rw[List.getElem?_eq_none (by omega),List.getElem?_eq_none (by have:=h.1; omega)]
theorem HR.takeE {nm:List Nat} {B:Base} {g:Gh} {w:World} {X:Store} (h:HR nm B g w X) {k L sz i c:Nat} {l l' : MapL} (hk:X.objs.lookup k=some (.mapt L sz l c)) (hfree:Q7p k L X)
  (hs:SameL l l') (hl' : ∀(j:Nat) (x' x:MapE),l'[j]? = some x'→l[j]? = some x→x'.2.2.1=true→x.2.2.1=true∧x.1≠i) :
  HR nm B { g with η:=upd g.η L (upd (g.η L) i none) } w ⟨setObj k (.mapt L sz l' c) X.objs,X.live⟩∧Trans [L] g w { g with η:=upd g.η L (upd (g.η L) i none) } w:=by
 refine h.etaSet hk hfree _ (h.eta.sub ?_ (Nat.le_refl _) (fun n b hn=>hn) ?_) ?_
 ·intro L' i' b hL hb
  refine⟨hL,?_⟩
  simp only at hb
  by_cases he:L' = L
  ·subst he
   rw[upd_same] at hb
   by_cases hi:i' = i
   ·subst hi; rw[upd_same] at hb; cases hb
   ·rwa [Q6 _ _ hi] at hb
  ·rwa [Q6 _ _ he] at hb
 ·intro j o hj
  obtain⟨q,hq⟩:=Q7z hk hj
  exact⟨q,hq,rfl⟩
 ·intro ht
  have h0:=h.objs k _ hk
  cases h0 with
  | mapt _ _ _ _ es h1 h2 h3 h4 h5 =>
   refine .mapt L sz l' c es h1 (hs.1.trans h2) ?_ ?_ (by rw[hs.births]; exact h5)
   ·intro j x' e hx he
    obtain⟨x,hx0,a1,a2,a3⟩:=hs.2 j x' hx
    obtain⟨b1,b2,b3,b4⟩:=h3 j x e hx0 he
    refine⟨b1.trans a1.symm,b2.trans a2.symm,by rw[a3]; exact b3,fun hf hL=>?_⟩
    obtain⟨c1,c2⟩:=hl' j x' x hx hx0 hf
    rw[a1]
    exact(b4 c1 hL).eta (Q6 _ _ c2)
   ·intro p hp
    have:p.1 ∈ l.map (·.1):=by rw[← hs.births]; exact List.mem_map_of_mem (f:=(·.1)) hp
    obtain⟨q,hq,he⟩:=List.mem_map.1 this
    rw[← he]; exact h4 q hq
def FreeB (B:Base) (g:Gh) (w:World) (X:Store) (b:Nat):Prop :=
 b < w.heap.size∧(B.n0≤b∨B.allowed b)∧(∀k o,X.objs.lookup k=some o→b≠g.ρ k)∧(∀n,g.β n≠some (some b))∧∀L i,(g.β L).isSome→g.η L i≠some b
theorem HR.giveE {nm:List Nat} {B:Base} {g:Gh} {w:World} {X:Store} (h:HR nm B g w X) {k L sz i c:Nat} {ob:Option Nat} {l l' : MapL} (hk:X.objs.lookup k=some (.mapt L sz l c)) (hfree:Q7p k L X)
  (hb:∀b,ob=some b→FreeB B g w X b)
  (hs:SameL l l') (hl' : ∀(j:Nat) (x' x:MapE),l'[j]? = some x'→l[j]? = some x→x'.2.2.1=true→(x.2.2.1=true∧x.1≠i)∨(x.1=i∧∀asq e,w.heap[g.ρ k]? = some (.map asq c)→asq[j]? = some e→TipE { g with η:=upd g.η L (upd (g.η L) i ob) } w L i sz e.val)) :
  HR nm B { g with η:=upd g.η L (upd (g.η L) i ob) } w ⟨setObj k (.mapt L sz l' c) X.objs,X.live⟩∧Trans [L] g w { g with η:=upd g.η L (upd (g.η L) i ob) } w:=by
 have old:∀L' i' b,upd g.η L (upd (g.η L) i ob) L' i' = some b→(L' = L∧i' = i∧ob=some b)∨(¬(L' = L∧i' = i)∧g.η L' i' = some b):=by
  intro L' i' b he
  by_cases hL:L' = L
  ·subst hL
   rw[upd_same] at he
   by_cases hi:i' = i
   ·subst hi; rw[upd_same] at he; exact .inl ⟨rfl,rfl,he⟩
   ·rw[Q6 _ _ hi] at he; exact .inr ⟨fun hh=>hi hh.2,he⟩
  ·rw[Q6 _ _ hL] at he; exact .inr ⟨fun hh=>hL hh.1,he⟩
 refine h.etaSet hk hfree _ ⟨?_,?_,?_,?_,?_⟩ ?_
 ·intro L1 L2 i1 i2 b h1 h2 e1 e2
  rcases old L1 i1 b e1 with ⟨a1,a2,a3⟩ | ⟨a1,a2⟩ <;> rcases old L2 i2 b e2 with ⟨c1,c2,c3⟩ | ⟨c1,c2⟩
  ·exact⟨a1.trans c1.symm,a2.trans c2.symm⟩
  ·exact((hb b a3).2.2.2.2 L2 i2 h2 c2).elim
  ·exact((hb b c3).2.2.2.2 L1 i1 h1 a2).elim
  ·exact h.eta.inj L1 L2 i1 i2 b h1 h2 a2 c2
 ·intro L1 i1 b n h1 e1 hn
  rcases old L1 i1 b e1 with ⟨a1,a2,a3⟩ | ⟨a1,a2⟩
  ·exact(hb b a3).2.2.2.1 n hn
  ·exact h.eta.tip L1 i1 b n h1 a2 hn
 ·intro L1 i1 b j o h1 e1 hj
  obtain⟨q,hq⟩:=Q7z hk hj
  rcases old L1 i1 b e1 with ⟨a1,a2,a3⟩ | ⟨a1,a2⟩
  ·exact(hb b a3).2.2.1 j q hq
  ·exact h.eta.obj L1 i1 b j q h1 a2 hq
 ·intro L1 i1 b h1 e1
  rcases old L1 i1 b e1 with ⟨a1,a2,a3⟩ | ⟨a1,a2⟩
  ·exact(hb b a3).2.1
  ·exact h.eta.new L1 i1 b h1 a2
 ·intro L1 i1 b h1 e1
  rcases old L1 i1 b e1 with ⟨a1,a2,a3⟩ | ⟨a1,a2⟩
  ·exact(hb b a3).1
  ·exact h.eta.lt L1 i1 b h1 a2
 ·intro ht
  have h0:=h.objs k _ hk
  cases h0 with
  | mapt _ _ _ _ es h1 h2 h3 h4 h5 =>
   refine .mapt L sz l' c es h1 (hs.1.trans h2) ?_ ?_ (by rw[hs.births]; exact h5)
   ·intro j x' e hx he
    obtain⟨x,hx0,a1,a2,a3⟩:=hs.2 j x' hx
    obtain⟨b1,b2,b3,b4⟩:=h3 j x e hx0 he
    refine⟨b1.trans a1.symm,b2.trans a2.symm,by rw[a3]; exact b3,fun hf hL=>?_⟩
    rw[a1]
    rcases hl' j x' x hx hx0 hf with ⟨c1,c2⟩ | ⟨c1,c2⟩
    ·exact(b4 c1 hL).eta (Q6 _ _ c2)
    ·rw[c1]; exact c2 es e h1 he
   ·intro p hp
    have:p.1 ∈ l.map (·.1):=by rw[← hs.births]; exact List.mem_map_of_mem (f:=(·.1)) hp
    obtain⟨q,hq,he⟩:=List.mem_map.1 this
    rw[← he]; exact h4 q hq
def Q4t (sz:Nat) (l:MapL):List (Nat×Value×D):=l.map fun e=>(e.1,e.2.1,.sl sz e.2.2.2)
theorem HR.plain {nm:List Nat} {B:Base} {g:Gh} {w:World} {X X' : Store} (h:HR nm B g w X) (hlive:X'.live=X.live) (hin:∀k,(X.objs.lookup k).isSome→(X'.objs.lookup k).isSome)
  (hob:∀k o',X'.objs.lookup k=some o'→X.objs.lookup k=some o'∨∃L sz l c,X.objs.lookup k=some (.mapt L sz l c)∧o' = .map (Q4t sz l) c):HR nm B g w X':=by
 have hsome:∀j p,X'.objs.lookup j=some p→∃q,X.objs.lookup j=some q:=by
  intro j p hj
  rcases hob j p hj with h1 | ⟨L,sz,l,c,h1,_⟩ <;> exact⟨_,h1⟩
 refine⟨?_,h.sane,h.base,h.io,h.le,h.frame,?_,?_,?_,?_,by rw[hlive]; exact h.live,h.tipinj,?_,h.tipnew,h.tiplt,h.eta.same (Nat.le_refl _) fun j p hj=>hsome j p hj⟩
 ·intro j hj
  obtain⟨h1,h2⟩:=h.keep j hj
  exact⟨h1,hin j h2⟩
 ·intro j p hj
  rcases hob j p hj with h1 | ⟨L,sz,l,c,h1,rfl⟩
  ·exact h.objs j p h1
  ·have h0:=h.objs j _ h1
   cases h0 with
   | mapt _ _ _ _ es a1 a2 a3 a4 a5 =>
    refine .map _ c es a1 (by simpa[Q4t] using a2) ?_ ?_ ?_
    ·intro i x e hx he
     simp only[Q4t,List.getElem?_map,Option.map_eq_some_iff] at hx
     obtain⟨y,hy,rfl⟩:=hx
     obtain⟨b1,b2,b3,_⟩:=a3 i y e hy he
     exact⟨b1,b2,b3⟩
    ·intro q hq
     simp only[Q4t,List.mem_map] at hq
     obtain⟨y,hy,rfl⟩:=hq
     exact a4 y hy
    ·simpa[Q4t,List.map_map,Function.comp_def] using a5
 ·intro j p hj; obtain⟨q,hq⟩:=hsome j p hj; exact h.objγ j q hq
 ·intro j j' p p' hj hj' he
  obtain⟨q,hq⟩:=hsome j p hj
  obtain⟨q',hq'⟩:=hsome j' p' hj'
  exact h.objinj j j' q q' hq hq' he
 ·intro j p hj; obtain⟨q,hq⟩:=hsome j p hj; exact h.objnew j q hq
 ·intro n b j p hn hj; obtain⟨q,hq⟩:=hsome j p hj; exact h.tipobj n b j q hn hq
end Go.Ab
namespace Go.Xl
open Go.Ab
noncomputable abbrev EntE (kt vt:Ty):Type:=Nat×kt.T×Bool×List vt.T
noncomputable abbrev EntT (kt vt:Ty):Type:=List (EntE kt vt)
noncomputable def fgT {kt vt:Ty} (es:EntT kt vt):Ents kt (.sl vt):=es.map fun e=>(e.1,e.2.1,e.2.2.2)
noncomputable def tget {kt vt:Ty} (a:kt.T):EntT kt vt→Option (Nat×Bool×List vt.T)
 | []=>none
 | e :: r=>bif kt.eqv a e.2.1 then some (e.1,e.2.2) else tget a r
noncomputable def tput {kt vt:Ty} (a:kt.T) (v:List vt.T) (f:Bool) (clock:Nat):EntT kt vt→EntT kt vt
 | []=>[(clock,a,f,v)]
 | e :: r=>bif kt.eqv a e.2.1 then (e.1,a,f,v) :: r else e :: tput a v f clock r
noncomputable def toff {kt vt:Ty} (a:kt.T):EntT kt vt→EntT kt vt
 | []=>[]
 | e :: r=>bif kt.eqv a e.2.1 then (e.1,e.2.1,false,e.2.2.2) :: r else e :: toff a r
noncomputable def tval {kt vt:Ty} (a:kt.T) (es:EntT kt vt):List vt.T:=match tget a es with | some e=>e.2.2 | none=>[]
noncomputable def tflag {kt vt:Ty} (a:kt.T) (es:EntT kt vt):Bool:=match tget a es with | some e=>e.2.1 | none=>true
noncomputable def thas {kt vt:Ty} (a:kt.T) (es:EntT kt vt):Bool:=match tget a es with | some _=>true | none=>false
noncomputable def tborn {kt vt:Ty} (a:kt.T) (es:EntT kt vt) (clock:Nat):Nat:=match tget a es with | some e=>e.1 | none=>clock
section
variable {kt vt:Ty}
theorem Qhq (es:EntT kt vt):(fgT es).map (·.2.1)=es.map (·.2.1):=by simp[fgT,List.map_map,Function.comp_def]
theorem Qsd (a:kt.T) (v:List vt.T) (f:Bool) (c:Nat):∀es:EntT kt vt,fgT (tput a v f c es)=mput a (vt:=.sl vt) v c (fgT es)
 | []=>rfl
 | e :: r=>by
  have ih:=Qsd a v f c r
  simp only[tput,fgT,List.map_cons,mput] at ih ⊢
  cases kt.eqv a e.2.1 with
  | true=>rfl
  | false=>simp only[cond_false,List.map_cons,ih]
theorem Qes (a:kt.T):∀es:EntT kt vt,tget a es=(kidx kt a (es.map (·.2.1))).bind fun j=>es[j]?.map fun e=>(e.1,e.2.2)
 | []=>rfl
 | e :: r=>by
  simp only[tget,List.map_cons,kidx]
  cases kt.eqv a e.2.1 with
  | true=>rfl
  | false =>
   simp only[cond_false,Bool.false_eq_true,if_false,Qes a r]
   cases kidx kt a (r.map (·.2.1)) <;> simp
noncomputable def tidx (a:kt.T) (es:EntT kt vt):Nat:=(kidx kt a (es.map (·.2.1))).getD es.length
theorem Qm8 (a:kt.T) (e:Nat×kt.T×Bool×List vt.T) (r:EntT kt vt):tidx a (e :: r)=bif kt.eqv a e.2.1 then 0 else tidx a r+1:=by
 simp only[tidx,List.map_cons,kidx]
 cases kt.eqv a e.2.1 with
 | true=>rfl
 | false =>
  simp only[Bool.false_eq_true,if_false,cond_false,List.length_cons]
  cases kidx kt a (r.map (·.2.1)) <;> simp
theorem Qs7 (a:kt.T):∀es:EntT kt vt,(toff a es).length=es.length∧∀(j:Nat) (x' : EntE kt vt),(toff a es)[j]? = some x'→∃x:EntE kt vt,es[j]? = some x∧x'.1=x.1∧x'.2.1=x.2.1∧x'.2.2.2=x.2.2.2∧(x'.2.2.1=true→x.2.2.1=true∧j≠tidx a es)
 | []=>⟨rfl,by simp[toff]⟩
 | e :: r=>by
  obtain⟨i1,i2⟩:=Qs7 a r
  rw[Qm8]
  simp only[toff]
  cases kt.eqv a e.2.1 with
  | true =>
   simp only[cond_true,List.length_cons,true_and]
   intro j x' hx
   cases j with
   | zero=>simp at hx; subst hx; exact⟨e,rfl,rfl,rfl,rfl,by simp⟩
   | succ j=>simp at hx; exact⟨x',by simpa using hx,rfl,rfl,rfl,fun h=>⟨h,by omega⟩⟩
  | false =>
   simp only[cond_false,List.length_cons,i1,true_and]
   intro j x' hx
   cases j with
   | zero=>simp at hx; subst hx; exact⟨e,rfl,rfl,rfl,rfl,fun h=>⟨h,by omega⟩⟩
   | succ j =>
    obtain⟨x,a1,a2,a3,a4,a5⟩:=i2 j x' (by simpa using hx)
    exact⟨x,by simpa using a1,a2,a3,a4,fun h=>⟨(a5 h).1,by have:=(a5 h).2; omega⟩⟩
theorem Qbb (a:kt.T) (v:List vt.T) (f:Bool) (c:Nat):∀(es:EntT kt vt) (j:Nat) (x:EntE kt vt),(tput a v f c es)[j]? = some x→(j=tidx a es∧x.2.2.1=f∧x.1=tborn a es c)∨(j≠tidx a es∧es[j]? = some x)
 | [],j,x,h=>by
  cases j with
  | zero=>simp[tput] at h; subst h; exact .inl ⟨rfl,rfl,rfl⟩
  | succ j=>simp[tput] at h
 | e :: r,j,x,h=>by
  rw[Qm8]
  simp only[tput] at h
  cases he:kt.eqv a e.2.1 with
  | true =>
   rw[he] at h
   simp only[cond_true] at h ⊢
   cases j with
   | zero=>simp at h; subst h; exact .inl ⟨rfl,rfl,by simp[tborn,tget,he]⟩
   | succ j=>exact .inr ⟨by omega,by simpa using h⟩
  | false =>
   rw[he] at h
   simp only[cond_false] at h ⊢
   have hb:tborn a (e :: r) c=tborn a r c:=by simp[tborn,tget,he]
   rw[hb]
   cases j with
   | zero=>exact .inr ⟨by omega,by simpa using h⟩
   | succ j =>
    rcases Qbb a v f c r j x (by simpa using h) with ⟨h1,h2,h3⟩ | ⟨h1,h2⟩
    ·exact .inl ⟨by omega,h2,h3⟩
    ·exact .inr ⟨by omega,by simpa using h2⟩
theorem Qmx (a:kt.T) (v:List vt.T) (f f' : Bool) (c:Nat):∀es:EntT kt vt,(tput a v f' c es).length=(tput a v f c es).length∧∀(j:Nat) (x' : EntE kt vt),(tput a v f' c es)[j]? = some x'→∃x:EntE kt vt,(tput a v f c es)[j]? = some x∧x'.1=x.1∧x'.2.1=x.2.1∧x'.2.2.2=x.2.2.2
 | []=>by
  refine⟨rfl,fun j x' h=>?_⟩
  cases j with
  | zero=>simp[tput] at h; subst h; exact⟨_,rfl,rfl,rfl,rfl⟩
  | succ j=>simp[tput] at h
 | e :: r=>by
  obtain⟨i1,i2⟩:=Qmx a v f f' c r
  simp only[tput]
  cases kt.eqv a e.2.1 with
  | true =>
   simp only[cond_true,List.length_cons,true_and]
   intro j x' h
   cases j with
   | zero=>simp at h; subst h; exact⟨_,rfl,rfl,rfl,rfl⟩
   | succ j=>simp at h; exact⟨x',by simpa using h,rfl,rfl,rfl⟩
  | false =>
   simp only[cond_false,List.length_cons,i1,true_and]
   intro j x' h
   cases j with
   | zero=>simp at h; subst h; exact⟨_,rfl,rfl,rfl,rfl⟩
   | succ j =>
    obtain⟨x,a1,a2⟩:=i2 j x' (by simpa using h)
    exact⟨x,by simpa using a1,a2⟩
theorem Qt4 {a:kt.T} {es:EntT kt vt} {clock j:Nat} {x:Nat×kt.T×Bool×List vt.T} (hx:es[j]? = some x) (hj:j≠tidx a es) (hlt:∀p ∈ es,p.1 < clock) (hnd:(es.map (·.1)).Nodup):x.1≠tborn a es clock:=by
 unfold tborn
 rw[Qes]
 unfold tidx at hj
 cases hk:kidx kt a (es.map (·.2.1)) with
 | none =>
  have:=hlt x (List.mem_of_getElem? hx)
  simp only[Option.bind_none]
  omega
 | some i =>
  rw[hk] at hj
  simp only[Option.getD_some] at hj
  have hi:=Q6h hk
  rw[List.length_map] at hi
  simp only[Option.bind_some,List.getElem?_eq_getElem hi,Option.map_some]
  intro he
  obtain⟨hjl,hje⟩:=List.getElem?_eq_some_iff.1 hx
  have hp:=List.pairwise_iff_getElem.1 hnd
  rcases Nat.lt_trichotomy j i with h1 | h1 | h1
  ·have:=hp j i (by simpa using hjl) (by simpa using hi) h1
   simp[hje,he] at this
  ·exact hj h1
  ·have:=hp i j (by simpa using hi) (by simpa using hjl) h1
   simp[hje,he] at this
noncomputable abbrev maptO (L:Nat) (kt vt:Ty) (es:EntT kt vt) (clock:Nat):Ob:=(XOb.mapt L kt vt es clock).o
noncomputable def lT (es:EntT kt vt):MapL:=es.map fun e=>(e.1,dval (kt.dv e.2.1),e.2.2.1,e.2.2.2.map vt.ds)
structure MapT (kt vt:Ty) (L:Nat) (g:Gh) (w:World) (b:Nat) (es:EntT kt vt) (clock:Nat) (asq:Array MapEntry):Prop where
 m:MapW kt (.sl vt) g w b (fgT es) clock asq
 t:∀(j:Nat) x e,es[j]? = some x→asq[j]? = some e→x.2.2.1=true→(g.β L).isSome→TipE g w L x.1 vt.size e.val
theorem Qle {L:Nat} {g:Gh} {w:World} {b:Nat} {es:EntT kt vt} {clock:Nat} (hk:kt.key=true) (h:ObRel g w b (maptO L kt vt es clock)):∃asq,MapT kt vt L g w b es clock asq:=by
 cases h with
 | mapt _ _ l c asq h1 h2 h3 h4 h5 =>
  have hget:∀(i:Nat) x,es[i]? = some x→(es.map fun e=>(e.1,dval (kt.dv e.2.1),e.2.2.1,e.2.2.2.map vt.ds))[i]? = some (x.1,dval (kt.dv x.2.1),x.2.2.1,x.2.2.2.map vt.ds):=fun i x hx=>by rw[List.getElem?_map,hx]; rfl
  have hat:∀(i:Nat) x e,es[i]? = some x→asq[i]? = some e→e.born=x.1∧e.key=kt.kval x.2.1∧RD g.γ w (.sl vt.size (x.2.2.2.map vt.ds)) e.val:=by
   intro i x e hx he
   obtain⟨a1,a2,a3,_⟩:=h3 i _ e (hget i x hx) he
   rw[kt.kval_dv _ hk] at a2
   exact⟨a1,a2,a3⟩
  have hlen:es.length=asq.size:=by simpa using h2
  refine⟨asq,⟨h1,by simpa[fgT] using hlen,?_,?_,?_,?_⟩,?_⟩
  ·rw[Qhq]
   apply List.ext_getElem?
   intro i
   rw[List.getElem?_map,List.getElem?_map,List.getElem?_map,Array.getElem?_toList]
   by_cases hi:i < asq.size
   ·have hi' : i < es.length:=by omega
    rw[Array.getElem?_eq_getElem hi,List.getElem?_eq_getElem hi']
    have:=(hat i es[i] asq[i] (by simp[hi']) (by simp[hi])).2.1
    simp[this]
   ·rw[Array.getElem?_eq_none (by omega),List.getElem?_eq_none (by omega)]; rfl
  ·intro i x e hx he
   simp only[fgT,List.getElem?_map,Option.map_eq_some_iff] at hx
   obtain⟨y,hy,rfl⟩:=hx
   exact hat i y e hy he
  ·intro p hp
   simp only[fgT,List.mem_map] at hp
   obtain⟨y,hy,rfl⟩:=hp
   exact h4 _ (List.mem_map_of_mem (f:=fun e:Nat×kt.T×Bool×List vt.T=>(e.1,dval (kt.dv e.2.1),e.2.2.1,e.2.2.2.map vt.ds)) hy)
  ·simpa[fgT,List.map_map,Function.comp_def] using h5
  ·intro j x e hx he hf hL
   exact(h3 j _ e (hget j x hx) he).2.2.2 hf hL
theorem MapT.rel {L:Nat} {g:Gh} {w:World} {b:Nat} {es:EntT kt vt} {clock:Nat} {asq:Array MapEntry} (hk:kt.key=true) (h:MapT kt vt L g w b es clock asq):ObRel g w b (maptO L kt vt es clock):=by
 have hf:∀(i:Nat) x,es[i]? = some x→(fgT es)[i]? = some (x.1,x.2.1,x.2.2.2):=fun i x hx=>by simp[fgT,hx]
 refine .mapt L vt.size _ clock asq h.m.heap (by have:=h.m.len; simpa[fgT] using this) ?_ ?_ ?_
 ·intro i x e hx he
  rw[List.getElem?_map,Option.map_eq_some_iff] at hx
  obtain⟨y,hy,rfl⟩:=hx
  obtain⟨a1,a2,a3⟩:=h.m.at' i _ e (hf i y hy) he
  simp only[kt.kval_dv _ hk]
  exact⟨a1,a2,a3,fun h1 h2=>h.t i y e hy he h1 h2⟩
 ·intro p hp
  rw[List.mem_map] at hp
  obtain⟨y,hy,rfl⟩:=hp
  exact h.m.lt _ (List.mem_map_of_mem (f:=fun e:Nat×kt.T×Bool×List vt.T=>(e.1,e.2.1,e.2.2.2)) hy)
 ·have:=h.m.nodup
  simpa[fgT,List.map_map,Function.comp_def] using this
theorem MapT.lt {L:Nat} {g:Gh} {w:World} {b:Nat} {es:EntT kt vt} {clock:Nat} {asq:Array MapEntry} (h:MapT kt vt L g w b es clock asq):∀p ∈ es,p.1 < clock:=fun y hy=>h.m.lt _ (List.mem_map_of_mem (f:=fun e:Nat×kt.T×Bool×List vt.T=>(e.1,e.2.1,e.2.2.2)) hy)
theorem MapT.nodup {L:Nat} {g:Gh} {w:World} {b:Nat} {es:EntT kt vt} {clock:Nat} {asq:Array MapEntry} (h:MapT kt vt L g w b es clock asq):(es.map (·.1)).Nodup:=by
 have:=h.m.nodup
 simpa[fgT,List.map_map,Function.comp_def] using this
theorem Qq7 {es es' : EntT kt vt} (hl:es'.length=es.length) (h:∀(j:Nat) (x' : EntE kt vt),es'[j]? = some x'→∃x:EntE kt vt,es[j]? = some x∧x'.1=x.1∧x'.2.1=x.2.1∧x'.2.2.2=x.2.2.2):SameL (lT es) (lT es'):=by
 refine⟨by simp[lT,hl],fun j x' hx=>?_⟩
 simp only[lT,List.getElem?_map,Option.map_eq_some_iff] at hx
 obtain⟨y,hy,rfl⟩:=hx
 obtain⟨x,a1,a2,a3,a4⟩:=h j y hy
 refine⟨(x.1,dval (kt.dv x.2.1),x.2.2.1,x.2.2.2.map vt.ds),by simp[lT,a1],a2,?_,?_⟩
 ·simp only[a3]
 ·simp only[a4]
end
section
variable {P:Program} {o:Oper} {X:Store} {kt vt:Ty}
theorem Qrn {t:TypeId} (k L:Nat) (ho:o.op = .makeMap t none) (hk:X.objs.lookup k=none) (hX:Qa [k] X=true) (hL:L ∉ X.live) (hXL:Qa [L] X=true) :
  OpT P o [] X ⟨(k,maptO L kt vt [] 0) :: X.objs,L :: X.live⟩ [L,k] (.mp k):=by
 intro nm hsm B g w a hr hrd next Q hn
 obtain⟨hr1,ht1⟩:=hr.addTip hL none hXL (by simp)
 obtain⟨h1,h2⟩:=hr1.newObj (k:=k) hk hX (.map #[] 0) (maptO L kt vt [] 0) (by
  intro g' w' _ hw
  exact .mapt L vt.size [] 0 #[] hw rfl (by simp) (by simp) (by simp))
 unfold Oper.wp
 have:(execOp a.eval o).run P w = .ok (.value (.map (some w.heap.size))) (w.alloc (.map #[] 0)):=by
  simp[execOp,ho,Instr.makeMap]
 rw[this]
 refine hn _ _ _ h1 (ht1.trans h2) (.nm _ _ _ ?_)
 show Value.map (some w.heap.size) = .map (some (upd g.ρ k w.heap.size k))
 rw[upd_same]
noncomputable def Qog {vt:Ty} (ok:Bool) (n:Nat) (l:List vt.T) (b:Bool):AV:=if ok then .tup [.tip n vt.size (l.map vt.ds),.d (.bool b)] else .tip n vt.size (l.map vt.ds)
theorem Qw2 {g:Gh} {w:World} {ok:Bool} {n:Nat} {l:List vt.T} {u:Value} {b:Bool} (h:RA g w (.tip n vt.size (l.map vt.ds)) u):RA g w (Qog ok n l b) (if ok then .tuple #[u,.bool b] else u):=by
 cases ok with
 | false=>exact h
 | true =>
  refine .tup _ _ rfl fun i c x hc hx=>?_
  rcases i with _ | _ | i
  ·simp at hc hx; subst hc; subst hx; exact h
  ·simp at hc hx; subst hc; subst hx; exact .ofSc _ _ _
  ·simp at hc
noncomputable def blkOf:Value→Option Nat
 | .slice (some a) _ _=>some a.block
 | _=>none
theorem Qtp {t e:TypeId} {x y:Operand} {ok:Bool} {k L n:Nat} {es:EntT kt vt} {clock:Nat} {a:kt.T} {i:TypeInfo} (ho:o.op = .lookup t x y ok) (hm:MapI P t kt (.sl vt) e) (hi:P.info? e=some i) (hz:i.zero=some (.slice none 0 0))
  (hk:X.objs.lookup k=some (maptO L kt vt es clock)) (hfree:Q7p k L X) (hf:tflag a es=true) (hn:n ∉ X.live) (hnX:Qa [n] ⟨Ab.setObj k (maptO L kt vt (toff a es) clock) X.objs,X.live⟩=true) (hL:L ∈ X.live) :
  OpT P o [(x,.mp k),(y,.d (kt.dv a))] X ⟨Ab.setObj k (maptO L kt vt (toff a es) clock) X.objs,n :: X.live⟩ [L,n] (Qog ok n (tval a es) (thas a es)):=by
 intro nm hsm B g w ac hr hrd next Q hnext
 obtain⟨kty,hu,hK⟩:=hm.und
 have h1:=(rd0 hrd).mp_inv
 have h2:ac.eval y=kt.kval a:=by
  have:=rd1 hrd
  cases this with
  | d _ _ h=>exact kt.kval_inv hK.key h
 simp only at h1
 obtain⟨asq,hw⟩:=Qle hK.key (hr.objs k _ hk)
 have hLs:(g.β L).isSome:=(hr.live L).1 hL
 have hfd:=hw.m.find hK a
 have hc:=hK.check asq.isEmpty 9998 a w
 have hget:=MapKept.run_getObj_map (P:=P) hw.m.heap
 have hlen:es.length=asq.size:=by have:=hw.m.len; simpa[fgT] using this
 -- what is found
 obtain⟨val,hrun,hval,htip⟩:∃val,(execOp ac.eval o).run P w = .ok (.value (if ok then .tuple #[val,.bool (thas a es)] else val)) w∧RD g.γ w (.sl vt.size ((tval a es).map vt.ds)) val∧TipE g w L (tborn a es clock) vt.size val:=by
  rw[Qhq] at hfd
  have hth:=Qes a es
  cases hj:kidx kt a (es.map (·.2.1)) with
  | none =>
   rw[hj] at hfd hth
   simp only[Option.bind_none] at hfd hth
   refine⟨.slice none 0 0,?_,?_,trivial⟩
   ·simp only[execOp,ho,h1,h2,Instr.lookup,Sem.run_bind,run_underlying hu,Result.andThen_ok,Sem.run_pure,hget,hc,hfd]
    simp[zeroValue,typeInfo,hi,hz,thas,hth]
   ·simp only[tval,hth,List.map_nil]
    exact .nil _ _ _ fun _=>rfl
  | some j =>
   have hj':=Q6h hj
   rw[List.length_map] at hj'
   have hja:j < asq.size:=by omega
   rw[hj] at hfd hth
   simp only[Option.bind_some,Array.getElem?_eq_getElem hja,Option.map_some] at hfd
   simp only[Option.bind_some,List.getElem?_eq_getElem hj',Option.map_some] at hth
   refine⟨asq[j].val,?_,?_,?_⟩
   ·simp only[execOp,ho,h1,h2,Instr.lookup,Sem.run_bind,run_underlying hu,Result.andThen_ok,Sem.run_pure,hget,hc,hfd]
    simp[thas,hth]
   ·have:=(hw.m.at' j (es[j].1,es[j].2.1,es[j].2.2.2) asq[j] (by simp[fgT,hj']) (by simp[hja])).2.2
    simp only[tval,hth]
    exact this
   ·have hfl:es[j].2.2.1=true:=by simpa[tflag,hth] using hf
    have:=hw.t j es[j] asq[j] (by simp[hj']) (by simp[hja]) hfl hLs
    simp only[tborn,hth]
    exact this
 -- taken out
 have hoff:=Qs7 a es
 obtain⟨hr1,ht1⟩:=hr.takeE (i:=tborn a es clock) (l:=lT es) (l':=lT (toff a es)) hk hfree (Qq7 hoff.1 fun j x' hx=>by
   obtain⟨x,a1,a2,a3,a4,_⟩:=hoff.2 j x' hx
   exact⟨x,a1,a2,a3,a4⟩) (by
  intro j x' x hx' hx hflag
  simp only[lT,List.getElem?_map,Option.map_eq_some_iff] at hx hx'
  obtain⟨y',hy',rfl⟩:=hx'
  obtain⟨y0,hy,rfl⟩:=hx
  obtain⟨x,a1,a2,a3,a4,a5⟩:=hoff.2 j y' hy'
  rw[hy] at a1
  cases a1
  obtain⟨b1,b2⟩:=a5 hflag
  exact⟨b1,Qt4 hy b2 hw.lt hw.nodup⟩)
 obtain⟨hr2,ht2⟩:=hr1.addTip (m:=n) hn (blkOf val) hnX (by
  intro b hb
  cases val with
  | slice ad len cap =>
   cases ad with
   | none=>simp[blkOf] at hb
   | some ad =>
    simp only[blkOf,Option.some.injEq] at hb
    subst hb
    obtain⟨q1,q2,q3,q4⟩:=htip
    refine⟨hr.eta.lt L _ _ hLs q2,hr.eta.new L _ _ hLs q2,fun j p hj=>?_,fun m hm=>hr.eta.tip L _ _ m hLs q2 hm,fun L' i' hL' he=>?_⟩
    ·obtain⟨q,hq⟩:=Q7z hk hj
     exact hr.eta.obj L _ _ j q hLs q2 hq
    ·simp only at he hL'
     by_cases hl:L' = L
     ·subst hl
      rw[upd_same] at he
      by_cases hi' : i' = tborn a es clock
      ·subst hi'; rw[upd_same] at he; cases he
      ·rw[Q6 _ _ hi'] at he
       exact hi' (hr.eta.inj _ _ _ _ _ hLs hLs he q2).2
     ·rw[Q6 _ _ hl] at he
      exact hl (hr.eta.inj _ _ _ _ _ hL' hLs he q2).1
  | _=>simp[blkOf] at hb)
 unfold Oper.wp
 rw[hrun]
 refine hnext _ w _ hr2 (ht1.trans ht2) (Qw2 (.tip n vt.size _ none _ hval ?_))
 cases val with
 | slice ad len cap =>
  cases ad with
  | none=>trivial
  | some ad =>
   obtain⟨q1,q2,q3,q4⟩:=htip
   intro ob' hob'
   simp only[upd_same,Option.some.injEq] at hob'
   exact⟨q1,hob'.symm,q3,q4,by simp⟩
 | _=>trivial
theorem Qdd (k:Nat) (o o' : Ob):∀l:List (Nat×Ob),Ab.setObj k o (Ab.setObj k o' l)=Ab.setObj k o l
 | []=>by simp[Ab.setObj]
 | (j,p) :: r=>by
  simp only[Ab.setObj]
  by_cases h:j=k
  ·simp[h,Ab.setObj]
  ·simp only[if_neg h,Ab.setObj,Qdd k o o' r]
theorem MapW.update {g:Gh} {w:World} {b:Nat} {es:Ents kt vt} {clock:Nat} {asq:Array MapEntry} {t e kty:TypeId} (hw:MapW kt vt g w b es clock asq) (hu:P.underlying t=some (.map kty e)) (hK:KeyI P kty kt) (a:kt.T) (v:vt.T) (val:Value) (h3:RD g.γ w (vt.dv v) val) :
  ∃as',(Instr.mapUpdate t (.map (some b)) (kt.kval a) val).run P w = .ok () { w with heap:=w.heap.setIfInBounds b (.map as' (mclk a es clock)) } ∧
   (∀w',w'.heap[b]? = some (.map as' (mclk a es clock))→LeD g.γ w g.γ w'→MapW kt vt g w' b (mput a v clock es) (mclk a es clock) as') ∧
   ∀(j:Nat) e',as'[j]? = some e'→(j=(kidx kt a (es.map (·.2.1))).getD es.length∧e'.val=val)∨(j≠(kidx kt a (es.map (·.2.1))).getD es.length∧asq[j]? = some e'):=by
 have hf:=hw.find hK a
 have hc:=hK.check false 9998 a w
 have hst:=hK.stays a w
 have hget:=MapKept.run_getObj_map (P:=P) hw.heap
 have hset:=Q9z (P:=P) hw.heap
 have ec:=Qm9 a es clock
 cases hj:kidx kt a (es.map (·.2.1)) with
 | none =>
  rw[hj] at hf
  simp only[Option.bind_none] at hf
  rw[hj] at ec
  simp only at ec
  rw[ec,Qeh hj]
  refine⟨asq.push { key:=kt.kval a,val:=val,born:=clock },?_,?_,?_⟩
  ·simp only[Instr.mapUpdate,Sem.run_bind,run_underlying hu,Result.andThen_ok,hget,hc,hf,hset]
  ·intro w' hb' hle
   refine⟨hb',by simp[hw.len],by simp[hw.keys],?_,?_,?_⟩
   ·intro i q m hq hm'
    by_cases hi:i < es.length
    ·rw[List.getElem?_append_left hi] at hq
     rw[Array.getElem?_push,if_neg (by rw[← hw.len]; omega)] at hm'
     have:=hw.at' i q m hq hm'
     exact⟨this.1,this.2.1,this.2.2.mono hle⟩
    ·rw[List.getElem?_append_right (by omega)] at hq
     have hi0:i=es.length:=by
      by_cases h0:i - es.length=0
      ·omega
      ·rw[List.getElem?_eq_none (by simp; omega)] at hq; cases hq
     subst hi0
     simp at hq
     rw[hw.len] at hm'
     simp at hm'
     subst hq; subst hm'
     exact⟨rfl,rfl,h3.mono hle⟩
   ·intro p hp
    rcases List.mem_append.1 hp with hp | hp
    ·have:=hw.lt p hp; omega
    ·simp at hp; subst hp; exact Nat.lt_succ_self _
   ·rw[List.map_append,List.nodup_append]
    refine⟨hw.nodup,by simp,?_⟩
    intro p hp q hq
    simp at hq
    subst hq
    obtain⟨y',hy',rfl⟩:=List.mem_map.1 hp
    have:=hw.lt y' hy'
    omega
  ·intro j e' he
   simp only[Option.getD_none]
   rw[Array.getElem?_push,← hw.len] at he
   split at he
   ·rename_i hjj
    cases he
    exact .inl ⟨hjj,rfl⟩
   ·rename_i hjj
    exact .inr ⟨hjj,he⟩
 | some j =>
  have hj':=Q6h hj
  rw[List.length_map] at hj'
  have hja:j < asq.size:=by rw[← hw.len]; exact hj'
  have hat:=Qky hK.key hj
  rw[List.getElem?_map,List.getElem?_eq_getElem hj'] at hat
  simp only[Option.map_some,Option.some.injEq] at hat
  have hkj:asq[j].key=kt.kval a:=by rw[(hw.at' j es[j] asq[j] (by simp[hj']) (by simp[hja])).2.1,hat]
  rw[hj] at hf
  simp only[Option.bind_some,Array.getElem?_eq_getElem hja,Option.map_some] at hf
  rw[hj] at ec
  simp only at ec
  rw[ec,Qfw hj]
  refine⟨asq.modify j fun q=>{ q with key:=kt.kval a,val:=val },?_,?_,?_⟩
  ·simp only[Instr.mapUpdate,Sem.run_bind,run_underlying hu,Result.andThen_ok,hget,hc,hf,Array.getElem?_eq_getElem hja,Option.map_some,Option.getD_some,hkj,hst,hset]
  ·intro w' hb' hle
   have hent:∀(i:Nat) q m,(es.modify j fun q=>(q.1,a,v))[i]? = some q→(asq.modify j fun q=>{ q with key:=kt.kval a,val:=val })[i]? = some m→m.born=q.1∧m.key=kt.kval q.2.1∧RD g.γ w' (vt.dv q.2.2) m.val:=by
    intro i q m hq hm'
    rw[List.getElem?_modify] at hq
    rw[Array.getElem?_modify] at hm'
    by_cases hij:j=i
    ·subst hij
     rw[List.getElem?_eq_getElem hj'] at hq
     rw[Array.getElem?_eq_getElem hja] at hm'
     simp at hq hm'
     subst hq; subst hm'
     exact⟨(hw.at' j es[j] asq[j] (by simp[hj']) (by simp[hja])).1,rfl,h3.mono hle⟩
    ·rw[if_neg hij] at hm'
     simp only[hij,if_false] at hq
     have:=hw.at' i q m (by simpa using hq) hm'
     exact⟨this.1,this.2.1,this.2.2.mono hle⟩
   refine⟨hb',by simp[hw.len],?_,hent,?_,?_⟩
   ·apply List.ext_getElem?
    intro i
    rw[List.getElem?_map,List.getElem?_map,List.getElem?_map,Array.getElem?_toList]
    by_cases hi:i < asq.size
    ·have hi' : i < es.length:=by rw[hw.len]; exact hi
     have hA:i < (asq.modify j fun q=>{ q with key:=kt.kval a,val:=val }).size:=by simpa using hi
     have hE:i < (es.modify j fun q=>(q.1,a,v)).length:=by simpa using hi'
     rw[Array.getElem?_eq_getElem hA,List.getElem?_eq_getElem hE]
     have:=(hent i _ _ (List.getElem?_eq_getElem hE) (Array.getElem?_eq_getElem hA)).2.1
     simp only[Option.map_some,this]
    ·rw[Array.getElem?_eq_none (by simpa using hi),List.getElem?_eq_none (by simp[hw.len]; omega)]; rfl
   ·intro p hp
    have h5:p.1 ∈ ((es.modify j fun q=>(q.1,a,v)).map (·.1)):=List.mem_map_of_mem (f:=(·.1)) hp
    rw[Q57 (fun q:Nat×kt.T×vt.T=>q.1) (fun q:Nat×kt.T×vt.T=>(q.1,a,v)) (fun _=>rfl) es j] at h5
    obtain⟨q,hq,he⟩:=List.mem_map.1 h5
    rw[← he]; exact hw.lt q hq
   ·rw[Q57 (fun q:Nat×kt.T×vt.T=>q.1) (fun q:Nat×kt.T×vt.T=>(q.1,a,v)) (fun _=>rfl) es j]; exact hw.nodup
  ·intro i e' he
   simp only[Option.getD_some]
   rw[Array.getElem?_modify] at he
   by_cases hij:j=i
   ·subst hij
    rw[if_pos rfl,Array.getElem?_eq_getElem hja] at he
    simp at he
    subst he
    exact .inl ⟨rfl,rfl⟩
   ·rw[if_neg hij] at he
    exact .inr ⟨Ne.symm hij,he⟩
theorem Qnf {t e:TypeId} {x y u:Operand} {k L n:Nat} {es:EntT kt vt} {clock:Nat} {a:kt.T} {v:List vt.T} {ty:Option TypeId} (ho:o.op = .mapUpdate t x y u∨o.op = .insert t x y u) (hm:MapI P t kt (.sl vt) e)
  (hk:X.objs.lookup k=some (maptO L kt vt es clock)) (hfree:Q7p k L X) (hnl:n ∈ X.live) :
  OpT P o [(x,.mp k),(y,.d (kt.dv a)),(u,.tip n vt.size (v.map vt.ds) ty)] X ⟨Ab.setObj k (maptO L kt vt (tput a v true clock es) (mclk a (fgT es) clock)) X.objs,X.live.filter (· != n)⟩ [L] (.d (.sc undef)):=by
 intro nm hsm B g w ac hr hrd next Q hn
 obtain⟨kty,hu,hK⟩:=hm.und
 have h1:=(rd0 hrd).mp_inv
 have h2:ac.eval y=kt.kval a:=by
  have:=rd1 hrd
  cases this with
  | d _ _ h=>exact kt.kval_inv hK.key h
 obtain⟨h3,h4⟩:RD g.γ w ((Ty.sl vt).dv v) (ac.eval u)∧TipOk g w n vt.size ty (ac.eval u):=by
  have:=rd2 hrd
  cases this with
  | tip _ _ _ _ _ h h'=>exact⟨h,h'⟩
 simp only at h1
 obtain⟨asq,hw⟩:=Qle hK.key (hr.objs k _ hk)
 obtain⟨as',e1,e2,e3⟩:=hw.m.update hu hK a v (ac.eval u) h3
 rw[Qhq] at e3
 have hJ:(kidx kt a (es.map (·.2.1))).getD (fgT es).length=tidx a es:=by simp[tidx,fgT]
 rw[hJ] at e3
 have hlt:g.ρ k < w.heap.size:=(Array.getElem?_eq_some_iff.1 hw.m.heap).1
 obtain⟨w1,hw1⟩:∃w1:World,w1 = { w with heap:=w.heap.setIfInBounds (g.ρ k) (.map as' (mclk a (fgT es) clock)) }:=⟨_,rfl⟩
 have hb1:w1.heap[g.ρ k]? = some (.map as' (mclk a (fgT es) clock)):=by rw[hw1]; simp[Array.getElem?_setIfInBounds,hlt]
 -- written, asq data
 obtain⟨hr1,ht1⟩:=hr.write (w':=w1) (o':=maptO L kt vt (tput a v false clock es) (mclk a (fgT es) clock)) hk (by rw[hw1]; simp) (by rw[hw1]; exact⟨rfl,rfl,rfl,Nat.le_refl _⟩)
  (by intro b hb'; rw[hw1]; simp[Array.getElem?_setIfInBounds,Ne.symm hb']) (fun ht=>MapT.rel hK.key (asq:=as') ⟨by rw[Qsd]; exact e2 w1 hb1 ht.le,by
   intro j q m hq hm' hfl hL
   rcases Qbb a v false clock es j q hq with ⟨p1,p2,p3⟩ | ⟨p1,p2⟩
   ·rw[p2] at hfl; cases hfl
   ·rcases e3 j m hm' with ⟨r1,r2⟩ | ⟨r1,r2⟩
    ·exact(p1 r1).elim
    ·exact(hw.t j q m p2 r2 hfl hL).keep ht (by simp) hL⟩) (by
   intro sh hsh
   simp[World.shape?,hw.m.heap] at hsh)
 obtain⟨ob,hob⟩:∃ob,g.β n=some ob:=Option.isSome_iff_exists.1 ((hr.live n).1 hnl)
 have h4' : TipOk g w1 n vt.size ty (ac.eval u):=h4.keep ht1 (by simp)
 -- the label goes
 obtain⟨hr2,ht2⟩:=hr1.dropTip n
 have hk2:(Ab.setObj k (maptO L kt vt (tput a v false clock es) (mclk a (fgT es) clock)) X.objs).lookup k=some (maptO L kt vt (tput a v false clock es) (mclk a (fgT es) clock)):=by rw[Qb,if_pos rfl]
 have hsame:=Qmx a v false true clock es
 obtain⟨hr3,ht3⟩:=hr2.giveE (i:=tborn a es clock) (ob:=blkOf (ac.eval u)) (l:=lT (tput a v false clock es)) (l':=lT (tput a v true clock es)) (L:=L) hk2 (by
   intro j p hj hp
   simp only at hp
   rw[Qb,if_neg hj] at hp
   exact hfree j p hj hp) (by
   intro b hb
   have hob1:g.β n=some (some b):=by
    generalize ac.eval u=val at hb h4
    cases val with
    | slice ad len cap =>
     cases ad with
     | none=>simp[blkOf] at hb
     | some ad =>
      simp only[blkOf,Option.some.injEq] at hb
      subst hb
      rw[hob,(h4 ob hob).2.1]
    | _=>simp[blkOf] at hb
   refine⟨hr1.tiplt n b hob1,hr1.tipnew n b hob1,fun j p hj=>hr1.tipobj n b j p hob1 hj,fun m hm=>?_,hr1.eta.dropN hob1⟩
   by_cases he:m=n
   ·subst he; simp[upd_same] at hm
   ·simp only[Q6 _ _ he] at hm
    exact he (hr1.tipinj m n b hm hob1)) (Qq7 hsame.1 hsame.2) (by
   intro j x' x0 hx' hx hflag
   simp only[lT,List.getElem?_map,Option.map_eq_some_iff] at hx hx'
   obtain⟨y',hy',rfl⟩:=hx'
   obtain⟨y0,hy0,rfl⟩:=hx
   rcases Qbb a v true clock es j y' hy' with ⟨p1,p2,p3⟩ | ⟨p1,p2⟩
   ·right
    rcases Qbb a v false clock es j y0 hy0 with ⟨r1,r2,r3⟩ | ⟨r1,r2⟩
    ·refine⟨r3,?_⟩
     intro bs m hbs hm'
     simp only at hbs
     rw[hb1] at hbs
     cases hbs
     rcases e3 j m hm' with ⟨s1,s2⟩ | ⟨s1,s2⟩
     ·rw[s2]
      generalize ac.eval u=val at h4'
      cases val with
      | slice ad len cap =>
       cases ad with
       | none=>trivial
       | some ad =>
        obtain⟨q1,q2,q3,q4,_⟩:=h4' ob hob
        refine⟨q1,?_,q3,q4⟩
        simp only[upd_same,blkOf]
      | _=>trivial
     ·exact(s1 p1).elim
    ·exact(r1 p1).elim
   ·left
    rcases Qbb a v false clock es j y0 hy0 with ⟨r1,r2,r3⟩ | ⟨r1,r2⟩
    ·exact(p1 r1).elim
    ·rw[p2] at r2
     cases r2
     exact⟨hflag,Qt4 p2 p1 hw.lt hw.nodup⟩)
 have hrun:(execOp ac.eval o).run P w = .ok .skip w1:=by
  rw[hw1]
  rcases ho with ho | ho <;> simp[execOp,ho,h1,h2,e1]
 unfold Oper.wp
 rw[hrun]
 have hX:Ab.setObj k (maptO L kt vt (tput a v true clock es) (mclk a (fgT es) clock)) (Ab.setObj k (maptO L kt vt (tput a v false clock es) (mclk a (fgT es) clock)) X.objs)=Ab.setObj k (maptO L kt vt (tput a v true clock es) (mclk a (fgT es) clock)) X.objs:=Qdd _ _ _ _
 have hr3' : HR nm B _ w1 ⟨Ab.setObj k (maptO L kt vt (tput a v true clock es) (mclk a (fgT es) clock)) (Ab.setObj k (maptO L kt vt (tput a v false clock es) (mclk a (fgT es) clock)) X.objs),X.live.filter (· != n)⟩:=hr3
 rw[hX] at hr3'
 exact hn _ _ undef hr3' ((ht1.trans ht2).trans ht3) (.ofSc _ _ _)
end
section
variable {P:Program} {R:Type}
noncomputable def Qbc (m:Nat):Nat:=500000+m
noncomputable def Qym (P:Program) (t:TypeId):Option (Ty×Ty) :=
 match Q87 P t with
 | some (kt,.sl vt)=>some (kt,vt)
 | _=>none
noncomputable def Qer (P:Program) (st:XSt) (o:Oper) (t:TypeId) (r:Option Operand) (K:Out→Option R):Option R :=
 match r with
 | none=>match Qym P t,newName o with
  | some ts,some m=>cond (fresh m st) (cond (Q26 (Qbc m) st.live st) (K ⟨.all,.nm m .m,[],(m,.mapt (Qbc m) ts.1 ts.2 [] 0) :: st.objs,Qbc m :: st.live,[Qbc m,m],[m]⟩) none) none
  | _,_=>none
 | some _=>none
theorem Qot {o:Oper} {st:XSt} {t:TypeId} {rs:Option Operand} {K:Out→Option R} {r:R} (ho:o.op = .makeMap t rs) (h:Qer P st o t rs K=some r):∃out,K out=some r∧OpOk P o st out:=by
 unfold Qer at h
 split at h
 ·split at h
  ·rename_i ts m hm hn
   cases hf:fresh m st with
   | false=>simp[hf] at h
   | true =>
   cases hl:Q26 (Qbc m) st.live st with
   | false=>simp[hf,hl] at h
   | true =>
    simp only[hf,hl,cond_true] at h
    obtain⟨h1,h2⟩:=Q32 hf
    obtain⟨h3,h4⟩:=Q39 hl
    refine⟨_,h,⟨by simp[imRd],?_,fun j z hj hz=>?_⟩⟩
    ·exact Qrn (kt:=ts.1) (vt:=ts.2) m (Qbc m) ho (Q31 h1) h2 h3 h4
    ·rw[Qo (by simpa using hj)] at hz; exact hz
  ·cases h
 ·cases h
noncomputable def Q8b (k L:Nat) (st:XSt):Bool:=Q3a [L] (xset k (.sit [] 0) st.objs)
theorem Qf7 {k L:Nat} {st:XSt} (h:Q8b k L st=true):Q7p k L st.X:=by
 have h1:=Q49 (live:=st.live) h
 intro j o hj ho
 have h2:(Q0 (xset k (.sit [] 0) st.objs)).lookup j=some o:=by
  rw[Q3d,Qb,if_neg hj]; exact ho
 rcases Q2u h1 h2 with h3 | h3
 ·cases h3
 ·exact h3
noncomputable def Qik (P:Program) (e:TypeId):Bool :=
 match P.info? e with
 | some i=>match i.zero with
  | some (.slice none 0 0)=>true
  | _=>false
 | none=>false
theorem Qx3 {e:TypeId} (h:Qik P e=true):∃i,P.info? e=some i∧i.zero=some (.slice none 0 0):=by
 unfold Qik at h
 split at h
 ·rename_i i hi
  split at h
  ·rename_i hz; exact⟨i,hi,hz⟩
  ·cases h
 ·cases h
noncomputable def tipX {vt:Ty} (ok:Bool) (n:Nat) (l:List vt.T) (b:Bool):XV:=cond ok (.tup [.tip n vt l none,.d (.b b)]) (.tip n vt l none)
theorem Q108 {vt:Ty} (ok:Bool) (n:Nat) (l:List vt.T) (b:Bool):(tipX ok n l b).a=Qog ok n l b:=by cases ok <;> rfl
noncomputable def Qhe (P:Program) (st:XSt) (o:Oper) (t:TypeId) (x y:Operand) (ok:Bool) (K:Out→Option R):Option R :=
 match xeval st x with
 | some (.nm k .m)=>match lk k st.objs with
  | some (.mapt L kt vt es c)=>match Q4o P t kt,xd st y,Q6y o with
   | some e,some a,some n=>match kt.decv a with
    | some a=>cond (Qik P e) (cond (inl L st.live) (cond (inl n st.live) none (cond (Q8b k L st) (cond (Q3a [n] (xset k (.mapt L kt vt (toff a es) c) st.objs)) (cond (tflag a es)
      (K ⟨.putl k (.mapt L kt vt (toff a es) c),tipX ok n (tval a es) (thas a es),[(x,.nm k .m),(y,.d (kt.xv a))],xset k (.mapt L kt vt (toff a es) c) st.objs,n :: st.live,[L,n],[k]⟩) none) none) none)) none) none
    | _=>none
   | _,_,_=>none
  | _=>none
 | _=>none
theorem Qrw {o:Oper} {st:XSt} {t:TypeId} {x y:Operand} {ok:Bool} {K:Out→Option R} {r:R} (ho:o.op = .lookup t x y ok) (h:Qhe P st o t x y ok K=some r):∃out,K out=some r∧OpOk P o st out:=by
 unfold Qhe at h
 split at h
 ·rename_i k hx
  split at h
  ·rename_i L kt vt es c hk
   split at h
   ·rename_i e a0 n hm hy hn
    split at h
    ·rename_i a ha
     cases h1:Qik P e with
     | false=>simp[h1] at h
     | true =>
     cases h2:inl L st.live with
     | false=>simp[h1,h2] at h
     | true =>
     cases h3:inl n st.live with
     | true=>simp[h1,h2,h3] at h
     | false =>
     cases h4:Q8b k L st with
     | false=>simp[h1,h2,h3,h4] at h
     | true =>
     cases h5:Q3a [n] (xset k (.mapt L kt vt (toff a es) c) st.objs) with
     | false=>simp[h1,h2,h3,h4,h5] at h
     | true =>
     cases h6:tflag a es with
     | false=>simp[h1,h2,h3,h4,h5,h6] at h
     | true =>
      simp only[h1,h2,h3,h4,h5,h6,cond_true,cond_false] at h
      obtain⟨i,z1,z2⟩:=Qx3 h1
      refine⟨_,h,⟨?_,?_,fun j z hj hz=>?_⟩⟩
      ·intro p hp
       simp only[imRd,List.map_cons,List.map_nil,List.mem_cons,List.not_mem_nil,or_false] at hp
       rcases hp with rfl | rfl
       ·exact Q5 hx
       ·exact Q54 hy ha
      ·have hfr:=Q49 (live:=st.live) h5
       rw[Q3d] at hfr
       have:=Qtp (P:=P) (X:=st.X) (k:=k) (L:=L) (n:=n) (es:=es) (clock:=c) (a:=a) ho (Q3u (vt:=.sl vt) hm) z1 z2 (Q35 hk) (Qf7 h4) h6 (fun hh=>by rw[(Qg n st.live).2 hh] at h3; cases h3) hfr ((Qg L st.live).1 h2)
       refine⟨rfl,?_⟩
       show OpT P o _ st.X ⟨Q0 (xset k (.mapt L kt vt (toff a es) c) st.objs),n :: st.live⟩ [L,n] (tipX ok n (tval a es) (thas a es)).a
       rw[Q3d,Q108]
       exact this
      ·simp only[List.mem_cons,List.not_mem_nil,or_false] at hj
       rwa [Q2k _ _ _ _ hj] at hz
    ·cases h
   ·cases h
  ·cases h
 ·cases h
noncomputable def Q7y (P:Program) (st:XSt) (t:TypeId) (x y u:Operand) (K:Out→Option R):Option R :=
 match xeval st x with
 | some (.nm k .m)=>match lk k st.objs with
  | some (.mapt L kt vt es c)=>match Q4o P t kt,xd st y,xeval st u with
   | some e,some a,some (.tip n vt' l ty)=>match kt.decv a with
    | some a=>if h:vt'.eqb vt=true then
      cond (inl n st.live) (cond (Q8b k L st)
       (K ⟨.putl k (.mapt L kt vt (tput a (Ty.eqb_eq h▸l:List vt.T) true c es) (mclk a (fgT es) c)),.d (.v undef),[(x,.nm k .m),(y,.d (kt.xv a)),(u,.tip n vt' l ty)],xset k (.mapt L kt vt (tput a (Ty.eqb_eq h▸l:List vt.T) true c es) (mclk a (fgT es) c)) st.objs,without n st.live,[L],[k]⟩) none) none
      else none
    | _=>none
   | _,_,_=>none
  | _=>none
 | _=>none
theorem Qbw {o:Oper} {st:XSt} {t:TypeId} {x y u:Operand} {K:Out→Option R} {r:R} (ho:o.op = .mapUpdate t x y u∨o.op = .insert t x y u) (h:Q7y P st t x y u K=some r):∃out,K out=some r∧OpOk P o st out:=by
 unfold Q7y at h
 split at h
 ·rename_i k hx
  split at h
  ·rename_i L kt vt es c hk
   split at h
   ·rename_i e a0 n vt' l ty hm hy hu
    split at h
    ·rename_i a ha
     split at h
     ·rename_i he
      have e0:=Ty.eqb_eq he
      subst e0
      cases h1:inl n st.live with
      | false=>simp[h1] at h
      | true =>
      cases h2:Q8b k L st with
      | false=>simp[h1,h2] at h
      | true =>
       simp only[h1,h2,cond_true] at h
       refine⟨_,h,⟨?_,?_,fun j z hj hz=>?_⟩⟩
       ·intro p hp
        simp only[imRd,List.map_cons,List.map_nil,List.mem_cons,List.not_mem_nil,or_false] at hp
        rcases hp with rfl | rfl | rfl
        ·exact Q5 hx
        ·exact Q54 hy ha
        ·exact Q5 hu
       ·have:=Qnf (P:=P) (X:=st.X) (k:=k) (L:=L) (n:=n) (es:=es) (clock:=c) (a:=a) (v:=l) (ty:=ty) ho (Q3u (vt:=.sl vt') hm) (Q35 hk) (Qf7 h2) ((Qg n st.live).1 h1)
        refine⟨rfl,?_⟩
        show OpT P o _ st.X ⟨Q0 (xset k _ st.objs),_⟩ [L] _
        rw[Q3d]
        exact this
       ·simp only[List.mem_cons,List.not_mem_nil,or_false] at hj
        rwa [Q2k _ _ _ _ hj] at hz
     ·cases h
    ·cases h
   ·cases h
  ·cases h
 ·cases h
noncomputable def Q98 (st:XSt) (x:Operand):Bool :=
 match xeval st x with
 | some (.nm k .m)=>match lk k st.objs with
  | some (.mapt _ _ _ _ _)=>true
  | _=>false
 | _=>false
noncomputable def fgOb:XOb→XOb
 | .mapt _ kt vt es c=>.map kt (.sl vt) (fgT es) c
 | o=>o
noncomputable def Qb4:XOb→Bool
 | .mapt _ _ _ _ _=>true
 | _=>false
noncomputable def Qbo:List (Nat×XOb)→List (Nat×XOb)
 | []=>[]
 | p :: r=>(p.1,fgOb p.2) :: Qbo r
noncomputable def Qbh:List (Nat×XOb)→List Nat
 | []=>[]
 | p :: r=>cond (Qb4 p.2) (p.1 :: Qbh r) (Qbh r)
noncomputable def fgSt (st:XSt):XSt:=⟨st.env,Qbo st.objs,st.live,st.wl,Qbh st.objs++st.ol⟩
theorem lk_fg (k:Nat):∀l:List (Nat×XOb),lk k (Qbo l)=(lk k l).map fgOb
 | []=>rfl
 | p :: r=>by
  simp only[Qbo,Q12,Q2b]
  cases Nat.beq p.1 k with
  | true=>rfl
  | false=>exact lk_fg k r
theorem Qgw {k:Nat} {o:XOb}:∀ {l:List (Nat×XOb)},lk k l=some o→Qb4 o=true→k ∈ Qbh l
 | [],h,_=>by cases h
 | p :: r,h,hm=>by
  simp only[Q12,Q2b] at h
  simp only[Qbh]
  cases hb:Nat.beq p.1 k with
  | true =>
   rw[hb] at h
   simp only[cond_true,Option.some.injEq] at h
   rw[h,hm,cond_true,Nat.eq_of_beq_eq_true hb]
   exact List.mem_cons_self
  | false =>
   rw[hb] at h
   simp only[cond_false] at h
   have:=Qgw h hm
   cases Qb4 p.2 with
   | true=>exact List.mem_cons_of_mem _ this
   | false=>exact this
theorem Qim {o:XOb} (h:Qb4 o=false):fgOb o=o:=by cases o <;> first | rfl | cases h
theorem Qfa {kt vt:Ty} (es:EntT kt vt):Q4t vt.size (lT es)=(fgT es).map fun e=>(e.1,dval (kt.dv e.2.1),(Ty.sl vt).dv e.2.2):=by
 simp only[Q4t,lT,fgT,List.map_map]
 rfl
theorem SR.fg {S:Sig} {B:Base} {g:Gh} {w:World} {st:XSt} {a:Act} (h:SR S B g w st.im a):SR S B g w (fgSt st).im a:=by
 refine⟨h.defers,h.size,?_,h.env⟩
 refine h.hr.plain rfl ?_ ?_
 ·intro k hk
  show((Q0 (Qbo st.objs)).lookup k).isSome
  rw[Qt,lk_fg]
  have hk:((Q0 st.objs).lookup k).isSome:=hk
  rw[Qt] at hk
  cases hl:lk k st.objs with
  | none=>rw[hl] at hk; cases hk
  | some o=>rfl
 ·intro k o' hk
  have hk:(Q0 (Qbo st.objs)).lookup k=some o':=hk
  rw[Qt,lk_fg] at hk
  show(Q0 st.objs).lookup k=some o'∨∃L sz l c,(Q0 st.objs).lookup k=_∧_
  rw[Qt]
  cases hl:lk k st.objs with
  | none=>rw[hl] at hk; cases hk
  | some o =>
   rw[hl] at hk
   simp only[Option.map_some,Option.some.injEq] at hk ⊢
   subst hk
   cases hm:Qb4 o with
   | false=>left; rw[Qim hm]
   | true =>
    right
    cases o with
    | mapt L kt vt es c =>
     refine⟨L,vt.size,lT es,c,rfl,?_⟩
     rw[Qfa]
     rfl
    | _=>cases hm
end
section
variable (kt vt:Ty)
end
end Go.Xl
