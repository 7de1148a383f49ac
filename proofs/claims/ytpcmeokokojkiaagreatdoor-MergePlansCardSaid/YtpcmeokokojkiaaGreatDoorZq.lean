import Derived.Test.YtpcmeokokojkiaaGreatDoorZp
import Derived.KernelRfl
import Derived.Test.YtpcmeokokojkiaaGreatDoorZe
import Derived.Test.YtpcmeokokojkiaaGreatDoorZf
import Derived.Test.YtpcmeokokojkiaaGreatDoorProg
import Derived.Test.YtpcmeokokojkiaaGreatDoorZa
import Derived.Below
import Derived.ProofKit
import Derived.Test.YtpcmeokokojkiaaGreatDoorZd
import Derived.OpenShut
import Derived.FnData
import Derived.LaidSub
set_option maxRecDepth 1000000
set_option linter.unusedVariables false
set_option maxRecDepth 100000
set_option linter.unusedSimpArgs false
namespace Go.Proofs.Xw
open Go Go.Xl Go.Ab Go.Proofs
theorem Qzd:runI Tryz.prog ([Q3 mixed (inlE mixed base gids 200 tb cs 40 9) gids 200 (tb 9) [memo1],Q3 mixed (inlE mixed base gids 200 tb cs 40 11) gids 200 (tb 11) [memo2],Q3 mixed (inlE mixed base gids 200 tb cs 40 12) gids 200 (tb 12) [memo3],Q3 mixed (inlE mixed base gids 200 tb cs 40 13) gids 200 (tb 13) [memo4,memo5],(altS (memoS mixed (inlE mixed base gids 200 tb cs 40 14) gids 200 (tb 14) [memo6,memo7]) (memoS mixed (G19) gids 200 (tb 14) [Qbk])).1,Q3 mixed (inlE mixed base gids 200 tb cs 40 35) gids 200 (tb 35) [memo8,memo9],Q3 mixed (inlE mixed base gids 200 tb cs 40 34) gids 200 (tb 34) [Q71],Q3 mixed (inlE mixed base gids 200 tb cs 40 27) gids 200 (tb 27) [Q6t,Qfo],Q3 mixed (inlE mixed base gids 200 tb cs 40 48) gids 200 (tb 48) [Q6j,Qfb],Q3 mixed (inlE mixed base gids 200 tb cs 40 24) gids 200 (tb 24) [Q6z,Qe0],Q3 mixed (inlE mixed base gids 200 tb cs 40 65) gids 200 (tb 65) [Q6q,Qeu],Q3 mixed (inlE mixed base gids 200 tb cs 40 67) gids 200 (tb 67) [Q6k,Q6x,Qef,Qeo],(altS (memoS mixed (G17) gids 200 (tb 28) [Q8f]) (memoS mixed (G29) gids 200 (tb 28) [Qio])).1,(altS (memoS mixed (G18) gids 200 (tb 33) [Q9h]) (memoS mixed (G30) gids 200 (tb 33) [Qp6])).1,Q3 mixed (inlE mixed base gids 200 tb cs 40 80) gids 200 (tb 80) [Qb9],Q3 mixed (inlE mixed base gids 200 tb cs 40 78) gids 200 (tb 78) [Qbx],Q3 mixed (G22) gids 200 (tb 82) [Qee],Q3 mixed (G31) gids 200 (tb 36) [Qv6],Q3 mixed (G32) gids 200 (tb 15) [Q10c],Q3 mixed (inlE mixed base gids 200 tb cs 40 16) gids 200 (tb 16) [Q10h]]++inlE mixed base gids 200 tb cs 40 5) (tb 5) 200 gids [] ys [] [] true=some ([.d (.b true)],[],[],true):=by kernel_rfl
theorem D_law:DoesG Tryz.prog 5 (asOf []) (gids.zip (asOf ys)) (.d (.sc (.bool true))):=(Qjs mixed rfl Qzd).1
end Go.Proofs.Xw
namespace Go.Proofs.Xq
open Go Go.Xl Go.Ab Go.Proofs
noncomputable def Q1f (N:Nat):Fun [(.tab (.int .i64)),(.tab (.int .u32))] (Option (ResT [.bool])):=fun(x y:List Int)=>cond (Q5l Xw.T0 x) (cond (Q5l Xw.T1 y) (some true) none) none
theorem Qcs (N:Nat):Qa5 Tryz.prog 5 [.bool] 0 [0,1] [(.tab (.int .i64)),(.tab (.int .u32))] (Q1f N) []:=by
 intro x y r h
 unfold Q1f at h
 cases h1:Q5l Xw.T0 x with
 | false=>simp[h1] at h
 | true =>
  cases h2:Q5l Xw.T1 y with
  | false=>simp[h1,h2] at h
  | true =>
   simp only[h1,h2,cond_true,Option.some.injEq] at h
   have e1:=Qdt h1
   have e2:=Qdt h2
   subst e1
   subst e2
   subst h
   exact Xw.D_law
noncomputable def Qcb (N:Nat):Ent Tryz.prog:=Qzu 5 [(.tab (.int .i64)),(.tab (.int .u32))] [.bool] 0 [0,1] (Q1f N) (.mk' Tryz.func5 rfl (by decide)) (Qcs N)
noncomputable def Q23 (N:Nat):Fun [tCard,tCard,(.tab (.int .i64)),(.tab (.int .u32))] (Option (ResT [.bool])):=fun(x x_1:Int×List (UInt8×List UInt8×List (List UInt8))) (x_2 x_3 :
 List Int)=>Option.bind (Q2s N [x,x_1]) fun(y:Bool)=>bif !y then Option.bind (Q1f N x_2 x_3) fun(y:Bool)=>some y else Option.bind (Q5f N x x_1) fun(y:List (UInt8 ×
 List UInt8×List (List UInt8)))=>Option.bind (Q2j N x x_1) fun(y_1:List (UInt8×List UInt8×List (List UInt8)))=>Option.bind (Q2f N y y_1) fun(y:Bool)=>bif y then
 Option.bind (Q1f N x_2 x_3) fun(y:Bool)=>some y else some false
theorem Q8s (N:Nat):runG Tryz.prog [Qf2 N,Qcb N,Qca N,Qp8 N,Qdl N] [] N Tryz.f3 .lf [tCard,tCard,(.tab (.int .i64)),(.tab (.int .u32))] [.bool] 2 [0,1] = Q23 N:=by kernel_rfl
theorem Q8z (N:Nat):Qa5 Tryz.prog 3 [.bool] 2 [0,1] [tCard,tCard,(.tab (.int .i64)),(.tab (.int .u32))] (Q23 N) []:=Q8s N▸Qur mixed Tryz.func3 rfl
end Go.Proofs.Xq
namespace Go.Proofs.Xq
open Go Go.Xl Go.Ab Go.Proofs
theorem Qt6 (N:Nat):Q1f N Xw.T0 Xw.T1=some true:=by
 unfold Q1f
 have h1:Q5l Xw.T0 Xw.T0=true:=by decide +kernel
 have h2:Q5l Xw.T1 Xw.T1=true:=by decide +kernel
 rw[h1,h2]; rfl
theorem Qji (a b:Int×List Ln):Q23 200 a b Xw.T0 Xw.T1=some true:=by
 unfold Q23
 rw[few44 [a,b] (by simp) 200 (by omega),Option.bind_some,Qt6]
 cases hf : [a,b].all okC with
 | false=>rfl
 | true =>
  simp only[List.all_cons,List.all_nil,Bool.and_true,Bool.and_eq_true] at hf
  obtain⟨ha,hal⟩:=Qwg hf.1
  obtain⟨hb,hbl⟩:=Qwg hf.2
  simp only[Bool.not_true,cond_false]
  rw[Qq8 a b ha hbl 200 (by omega),Option.bind_some,Qtk a b ha hbl 200 (by omega),Option.bind_some]
  have hs:=Qkk a.2 b.2 hbl b.2.length
  rw[List.take_length] at hs
  rw[Qti _ hs 200 (by omega)]
  rfl
theorem D_law (a b:tCard.T):DoesG Tryz.prog 3 (asOf [.d (tCard.xv a),.d (tCard.xv b)]) [(0,(XV.d (.pa (.int .i64) Xw.T0)).a),(1,(XV.d (.pa (.int .u32) Xw.T1)).a)] (.d (.sc (.bool true))) :=
 Q8z 200 a b Xw.T0 Xw.T1 true (Qji a b)
end Go.Proofs.Xq
namespace Go.Ab
open Go.RowKit
def fullγ (w:World) (b:Nat):Nat :=
 match w.heap[b]? with
 | some (.cells c _ _)=>c.size
 | _=>0
def full (w:World):Gh:={ γ:=fullγ w,β:=fun _=>none,ρ:=fun _=>0 }
theorem Qsl (w:World):HR [] (Base.of (full w) w X0) (full w) w X0:=by
 refine⟨by simp,?_,Nat.le_refl _,⟨rfl,rfl,rfl,Nat.le_refl _⟩,.refl _ _,fun _ _ _=>⟨rfl,rfl⟩,by simp[X0],by simp[X0],by simp[X0],by simp[X0],by simp[X0,full],by simp[full],by simp[full],by simp[full],by simp[full],.off fun _=>rfl⟩
 intro b i hi
 simp only[full,fullγ] at hi
 split at hi
 ·rename_i c T fr h
  rw[cell?_cells h]
  simp[hi]
 ·omega
theorem Does.below {P:Program} {f:FuncId} {args:List AV} {res:AV} (h:Does P f args X0 res X0) {w:World} {vs:Array Value} (hl:args.length=vs.size)
  (ha:∀(i:Nat) x v,args[i]? = some x→vs[i]? = some v→RA (full w) w x v) :
  Calls P f vs w fun e w'=>∃v g',e = .returned v∧RA g' w' res v∧Below w.heap.size w w':=by
 refine(h (full w) w vs (Qsl w) hl ha).mono ?_
 rintro e w' ⟨g',v,rfl,hr,h1⟩
 refine⟨v,g',rfl,hr,⟨h1.io.1,h1.io.2.2.1,h1.io.2.1,h1.base,fun b hb=>(h1.frame b hb ?_).1⟩⟩
 rintro (⟨k,o,hk,_⟩ | ⟨n,hn⟩)
 ·simp[X0] at hk
 ·simp[full] at hn
theorem Does.law {P:Program} {f:FuncId} {args:List AV} (h:Does P f args X0 (.d (.sc (.bool true))) X0) {w:World} {vs:Array Value} (hl:args.length=vs.size)
  (ha:∀(i:Nat) x v,args[i]? = some x→vs[i]? = some v→RA (full w) w x v) :
  Calls P f vs w fun e w'=>e = .returned (.bool true)∧Below w.heap.size w w':=by
 refine(h.below hl ha).mono ?_
 rintro e w' ⟨v,g',rfl,hr,hb⟩
 exact⟨by rw[hr.sc_inv],hb⟩
inductive RAs (g:Gh) (w:World):List AV→List Value→Prop
 | nil:RAs g w [] []
 | cons {x:AV} {v:Value} {r:List AV} {rs:List Value}:RA g w x v→RAs g w r rs→RAs g w (x :: r) (v :: rs)
theorem RAs.get {g:Gh} {w:World} {l:List AV} {vs:List Value} (h:RAs g w l vs):l.length=vs.length∧∀(i:Nat) x v,l[i]? = some x→vs[i]? = some v→RA g w x v:=by
 induction h with
 | nil=>exact⟨rfl,by simp⟩
 | cons h _ ih =>
  refine⟨by simp[ih.1],?_⟩
  intro i x u hx hu
  cases i with
  | zero=>simp at hx hu; subst hx; subst hu; exact h
  | succ i=>exact ih.2 i x u (by simpa using hx) (by simpa using hu)
theorem Does.lawAs {P:Program} {f:FuncId} {args:List AV} (h:Does P f args X0 (.d (.sc (.bool true))) X0) {w:World} {vs:Array Value} (ha:RAs (full w) w args vs.toList) :
  Calls P f vs w fun e w'=>e = .returned (.bool true)∧Below w.heap.size w w' :=
 h.law (by have:=ha.get.1; simpa using this) fun i x v hx hv=>ha.get.2 i x v hx (by simpa using hv)
theorem Qu1 {w:World} {b i:Nat} {v:Value} (h:w.cell? ⟨b,i,none⟩=some v):i < fullγ w b:=by
 unfold World.cell? at h
 unfold fullγ
 simp only at h
 split at h
 ·rename_i c T fr hh
  rw[hh]
  simp at h
  exact(Array.getElem?_eq_some_iff.1 h).1
 ·cases h
end Go.Ab
namespace Go.Xl
open Go.Ab
noncomputable def Ty.In:(t:Ty)→t.T→Prop
 | .int k,n=>(Lit.int k n).wf=true
 | .u8,_=>True
 | .bool,_=>True
 | .str,l=>l.length≤maxLen
 | .sl a,l=>l.length≤maxLen∧∀x ∈ l,a.In x
 | .unit,_=>True
 | .pair a b,x=>a.In x.1∧b.In x.2
 | .st1 a,x=>a.In x
 | .tab _,_=>True
 | .err,_=>True
 | .ic _ _,_=>True
 | .ptr,_=>True
noncomputable def opFs (P:Program) (rec:TypeId→Ty→Bool):Nat→List Field→Ty→Bool
 | off,[f],.st1 a=>cond (Nat.beq f.offset off) (cond (Nat.beq (P.cellsOf f.type) a.size) (rec f.type a) false) false
 | off,[f,g],.pair a b=>cond (Nat.beq f.offset off) (cond (Nat.beq (P.cellsOf f.type) a.size) (cond (rec f.type a) (cond (Nat.beq g.offset (off+a.size)) (cond (Nat.beq (P.cellsOf g.type) b.size) (rec g.type b) false) false) false) false) false
 | off,f :: g :: h :: r,.pair a b=>cond (Nat.beq f.offset off) (cond (Nat.beq (P.cellsOf f.type) a.size) (cond (rec f.type a) (opFs P rec (off+a.size) (g :: h :: r) b) false) false) false
 | _,_,_=>false
noncomputable def opB (P:Program):Nat→TypeId→Ty→Bool
 | 0,_,_=>false
 | n+1,t,ty =>
  match P.underlying t,ty with
  | some (.int k),.int k'=>cond (kindB k k') true false
  | some (.int .u8),.u8=>true
  | some .bool,.bool=>true
  | some .string,.str=>true
  | some (.slice e),.sl a=>cond (Nat.beq (P.cellsOf e) a.size) (cond (Nat.ble 1 a.size) (opB P n e a) false) false
  | some (.struct fs),a=>cond a.agg (cond (Nat.beq (P.cellsOf t) a.size) (opFs P (opB P n) 0 fs.toList a) false) false
  | _,_=>false
noncomputable def Q5i (γ:Nat→Nat) (w:World) (ds:List D) (cs:List Value):Prop:=ds.length=cs.length∧∀(i:Nat) d v,ds[i]? = some d→cs[i]? = some v→RD γ w d v
theorem Q5i.one {γ:Nat→Nat} {w:World} {d:D} {v:Value} (h:RD γ w d v):Q5i γ w [d] [v]:=by
 refine⟨rfl,fun i e u he hu=>?_⟩
 cases i with
 | zero=>simp at he hu; subst he; subst hu; exact h
 | succ i=>simp at he
theorem Q5i.append {γ:Nat→Nat} {w:World} {a b:List D} {cs ds:List Value} (h:Q5i γ w a cs) (h' : Q5i γ w b ds):Q5i γ w (a++b) (cs++ds):=by
 refine⟨by simp[h.1,h'.1],fun i e u he hu=>?_⟩
 rw[List.getElem?_append] at he hu
 rw[← h.1] at hu
 split at he
 ·rename_i hlt
  rw[if_pos hlt] at hu
  exact h.2 i e u he hu
 ·rename_i hge
  rw[if_neg hge] at hu
  exact h'.2 _ e u he hu
theorem cT {a b:Bool} (h:cond a b false=true):a=true∧b=true:=by
 cases a <;> simp at h; exact⟨rfl,h⟩
section
variable {H:Type} {enc:TypeId×Value→H} {P:Program} {W:World}
noncomputable def OpR (P:Program) (W:World) (H:Type) (enc:TypeId×Value→H) (fuel:Nat) (rec:TypeId→Ty→Bool):Prop :=
 ∀(t:TypeId) (ty:Ty) (cs:List Value) (d:DataW H) (ps:List MemPlace),rec t ty=true→DataW.trod enc P W 0 (fun _=>true) true fuel t cs=some (d,ps) →
  ∃x:ty.T,ty.In x∧Q5i (fullγ W) W (ty.ds x) cs
theorem take_split {α:Type} (l:List α) (off a b:Nat):(l.drop off).take (a+b)=(l.drop off).take a++(l.drop (off+a)).take b:=by
 rw[List.take_add,List.drop_drop]
theorem Qs8 {fuel:Nat} {rec:TypeId→Ty→Bool} (hr:OpR P W H enc fuel rec) {cs:List Value}:∀(fs:List Field) (off:Nat) (ty:Ty),opFs P rec off fs ty=true →
  (∀f ∈ fs,∃y,DataW.trod enc P W 0 (fun _=>true) true fuel f.type ((cs.drop f.offset).take (P.cellsOf f.type))=some y) →
  ∃x:ty.T,ty.In x∧Q5i (fullγ W) W (ty.ds x) ((cs.drop off).take ty.size)
 | [],off,ty,h,hf=>by cases ty <;> simp[opFs] at h
 | [f],off,ty,h,hf=>by
  cases ty with
  | st1 a =>
   simp only[opFs] at h
   obtain⟨h1,h⟩:=cT h
   obtain⟨h2,h⟩:=cT h
   have h1:=Nat.eq_of_beq_eq_true h1
   have h2:=Nat.eq_of_beq_eq_true h2
   obtain⟨y,hy⟩:=hf f (by simp)
   rw[h1,h2] at hy
   exact hr f.type a _ _ _ h hy
  | _=>simp[opFs] at h
 | [f,g],off,ty,h,hf=>by
  cases ty with
  | pair a b =>
   simp only[opFs] at h
   obtain⟨h1,h⟩:=cT h
   obtain⟨h2,h⟩:=cT h
   obtain⟨h3,h⟩:=cT h
   obtain⟨h4,h⟩:=cT h
   obtain⟨h5,h⟩:=cT h
   have h1:=Nat.eq_of_beq_eq_true h1
   have h2:=Nat.eq_of_beq_eq_true h2
   have h4:=Nat.eq_of_beq_eq_true h4
   have h5:=Nat.eq_of_beq_eq_true h5
   obtain⟨y,hy⟩:=hf f (by simp)
   obtain⟨z,hz⟩:=hf g (by simp)
   rw[h1,h2] at hy
   rw[h4,h5] at hz
   obtain⟨x1,i1,c1⟩:=hr _ _ _ _ _ h3 hy
   obtain⟨x2,i2,c2⟩:=hr _ _ _ _ _ h hz
   refine⟨(x1,x2),⟨i1,i2⟩,?_⟩
   simp only[Ty.ds,Ty.size]
   rw[take_split]
   exact c1.append c2
  | _=>simp[opFs] at h
 | f :: g :: k :: r,off,ty,h,hf=>by
  cases ty with
  | pair a b =>
   simp only[opFs] at h
   obtain⟨h1,h⟩:=cT h
   obtain⟨h2,h⟩:=cT h
   obtain⟨h3,h⟩:=cT h
   have h1:=Nat.eq_of_beq_eq_true h1
   have h2:=Nat.eq_of_beq_eq_true h2
   obtain⟨y,hy⟩:=hf f (by simp)
   rw[h1,h2] at hy
   obtain⟨x1,i1,c1⟩:=hr _ _ _ _ _ h3 hy
   obtain⟨x2,i2,c2⟩:=Qs8 hr (g :: k :: r) (off+a.size) b h (fun q hq=>hf q (List.mem_cons_of_mem _ hq))
   refine⟨(x1,x2),⟨i1,i2⟩,?_⟩
   simp only[Ty.ds,Ty.size]
   rw[take_split]
   exact c1.append c2
  | _=>simp[opFs] at h
theorem Qr7 {α β:Type} (p:Nat→β→α→Prop):∀(l:List β),(∀i y,l[i]? = some y→∃x,p i y x)→∃xs:List α,xs.length=l.length∧∀i y x,l[i]? = some y→xs[i]? = some x→p i y x:=by
 intro l
 induction l generalizing p with
 | nil=>intro _; exact⟨[],rfl,by simp⟩
 | cons a r ih =>
  intro h
  obtain⟨x,hx⟩:=h 0 a rfl
  obtain⟨xs,h1,h2⟩:=ih (fun i=>p (i+1)) (fun i y hy=>h (i+1) y (by simpa using hy))
  refine⟨x :: xs,by simp[h1],fun i y z hy hz=>?_⟩
  cases i with
  | zero=>simp at hy hz; subst hy; subst hz; exact hx
  | succ i=>exact h2 i y z (by simpa using hy) (by simpa using hz)
theorem Qc5:∀(n fuel:Nat),OpR P W H enc fuel (opB P n)
 | 0,fuel=>by intro t ty cs d ps ho; simp[opB] at ho
 | n+1,fuel=>by
  intro t ty cs d ps ho h
  unfold opB at ho
  split at ho
  ·rename_i k k' hu
   obtain⟨hk,_⟩:=cT ho
   have:=Q13 hk
   subst this
   obtain⟨m,rfl,_,hw⟩:=DataW.trod_int hu h
   exact⟨m,hw,.one (.sc _)⟩
  ·rename_i hu
   obtain⟨m,rfl,_,hw⟩:=DataW.trod_int hu h
   have hm:0≤m∧m≤255:=by simpa[Lit.wf,IntKind.wrap,IntKind.bits,IntKind.signed,IntKind.min,IntKind.max] using hw
   refine⟨UInt8.ofNat m.toNat,trivial,.one ?_⟩
   have:(((UInt8.ofNat m.toNat).toNat:Nat):Int)=m:=by
    rw[UInt8.toNat_ofNat']; omega
   rw[this]
   exact .sc _
  ·rename_i hu
   obtain⟨b,rfl,_⟩:=DataW.trod_bool hu h
   exact⟨b,trivial,.one (.sc _)⟩
  ·rename_i hu
   obtain⟨s,rfl,_,hw⟩:=DataW.trod_string hu h
   exact⟨s.data.toList,by simpa[Ty.In] using hw,.one (.sc _)⟩
  ·rename_i e a hu
   obtain⟨h1,ho⟩:=cT ho
   obtain⟨h2,ho⟩:=cT ho
   have h1:=Nat.eq_of_beq_eq_true h1
   have h2:=Nat.le_of_ble_eq_true h2
   rcases DataW.trod_slice hu h with ⟨rfl,_⟩ | ⟨ad,len,cap,elems,rest,m,rfl,rfl,_,hb,hl,hc,hel,hcell,_,_⟩
   ·exact⟨[],⟨by simp,by simp⟩,.one (.nil _ _ _ fun _=>rfl)⟩
   ·have key:∀i y,(List.range len)[i]? = some y→∃x:a.T,a.In x∧∃cs',cs'.length=a.size∧Q5i (fullγ W) W (a.ds x) cs'∧∀j,j < a.size→W.cell? ((ad.add (i*a.size)).add j)=cs'[j]?:=by
     intro i y hi
     have hlt:i < len:=by have:=(List.getElem?_eq_some_iff.1 hi).1; simpa using this
     have hc:=hcell i hlt
     obtain⟨z,hz⟩:∃z,elems[i]? = some z:=⟨_,List.getElem?_eq_getElem (by omega)⟩
     rw[hz,Option.bind_eq_some_iff,h1] at hc
     obtain⟨cs',hc1,hc2⟩:=hc
     obtain⟨_,hcl,hcc⟩:=World.cells?_some hc1
     obtain⟨x,hx1,hx2⟩:=Qc5 n m _ _ _ _ _ ho hc2
     exact⟨x,hx1,cs',hcl,hx2,hcc⟩
    obtain⟨xs,hxl,hx⟩:=Qr7 _ _ key
    rw[List.length_range] at hxl
    have hxs:∀i x,xs[i]? = some x→a.In x∧∃cs',cs'.length=a.size∧Q5i (fullγ W) W (a.ds x) cs'∧∀j,j < a.size→W.cell? ((ad.add (i*a.size)).add j)=cs'[j]?:=by
     intro i x hi
     have hlt:i < len:=by have:=(List.getElem?_eq_some_iff.1 hi).1; omega
     exact hx i i x (by simp[hlt]) hi
    refine⟨xs,⟨by omega,fun x hm=>?_⟩,.one ?_⟩
    ·obtain⟨i,hi⟩:=List.mem_iff_getElem?.1 hm
     exact(hxs i x hi).1
    ·rcases Nat.eq_zero_or_pos len with h0 | h0
     ·have:xs = []:=List.eq_nil_of_length_eq_zero (by omega)
      subst this
      subst h0
      exact .nil _ (some ad) cap (by simp)
     ·have spot:ad.spot=none:=by
       obtain⟨x0,hx0⟩:∃z,xs[0]? = some z:=⟨_,List.getElem?_eq_getElem (by omega)⟩
       obtain⟨_,cs',hl',_,hc'⟩:=hxs 0 x0 hx0
       have:=hc' 0 (by omega)
       rw[List.getElem?_eq_getElem (by omega)] at this
       have:=World.cell?_spot this
       simpa[Addr.add] using this
      obtain⟨b,off,sp⟩:=ad
      simp only at spot
      subst spot
      have hcell' : ∀i x,xs[i]? = some x→∃cs',cs'.length=a.size∧Q5i (fullγ W) W (a.ds x) cs'∧∀j,j < a.size→W.cell? ⟨b,off+(i*a.size+j),none⟩=cs'[j]?:=by
       intro i x hi
       obtain⟨_,cs',hl',hd',hc'⟩:=hxs i x hi
       refine⟨cs',hl',hd',fun j hj=>?_⟩
       have:=hc' j hj
       rwa [WideShapes.add_plain,WideShapes.add_plain,Nat.add_assoc] at this
      refine .ofCells' (by simp[hxl]) ?_ hl ?_ ?_
      ·obtain⟨x,hx⟩:∃z,xs[len - 1]? = some z:=⟨_,List.getElem?_eq_getElem (by omega)⟩
       obtain⟨cs',hl',_,hc'⟩:=hcell' (len - 1) x hx
       have:=hc' (a.size - 1) (by omega)
       rw[List.getElem?_eq_getElem (by omega)] at this
       have:=Qu1 this
       have e:len*a.size=(len - 1)*a.size+a.size:=by
        rw[← Nat.succ_mul]; congr 1; omega
       show off+len*a.size≤fullγ W b
       omega
      ·intro i cs hi
       rw[List.getElem?_map,Option.map_eq_some_iff] at hi
       obtain⟨x,_,rfl⟩:=hi
       exact a.ds_length x
      ·intro i j cs c u hi hj hu
       rw[List.getElem?_map,Option.map_eq_some_iff] at hi
       obtain⟨x,hx,rfl⟩:=hi
       obtain⟨cs',hl',hd',hc'⟩:=hcell' i x hx
       have hjl:j < a.size:=by have:=(List.getElem?_eq_some_iff.1 hj).1; rwa [a.ds_length] at this
       rw[hc' j hjl] at hu
       exact hd'.2 j c u hj hu
  ·rename_i fs hu
   obtain⟨_,ho⟩:=cT ho
   obtain⟨h2,ho⟩:=cT ho
   have h2:=Nat.eq_of_beq_eq_true h2
   obtain⟨xs,m,rfl,_,hl,hxl,hall⟩:=DataW.trod_struct hu h
   obtain⟨x,hx1,hx2⟩:=Qs8 (Qc5 n m) (cs:=cs) fs.toList 0 _ ho (by
    intro f hf
    obtain⟨i,hi⟩:=List.mem_iff_getElem?.1 hf
    have hi' : fs[i]? = some f:=by simpa using hi
    have:=hall i f hi'
    rw[this]
    have hlt:=(Array.getElem?_eq_some_iff.1 hi').1
    exact⟨_,List.getElem?_eq_getElem (by omega)⟩)
   refine⟨x,hx1,?_⟩
   rw[List.drop_zero,List.take_of_length_le (by omega)] at hx2
   exact hx2
  ·cases ho
theorem open_arg {b0 n:Nat} {t:TypeId} {ty:Ty} {v:Value} {d:DataW H} {ps:List MemPlace} (ho:opB P n t ty=true) (hv:Value.okWide P W .any b0 t v)
  (h:DataW.Trod enc P W 0 (fun _=>true) true t v d ps):∃x:ty.T,ty.In x∧RA (full W) W (XV.d (ty.xv x)).a v:=by
 obtain⟨fuel,hf⟩:=h
 obtain⟨x,h1,h2⟩:=Qc5 n fuel _ _ _ _ _ ho hf
 refine⟨x,h1,.d _ _ ?_⟩
 show RD (fullγ W) W (ty.dv x) v
 cases hagg:ty.agg with
 | true =>
  rw[ty.dv_agg x hagg]
  have:∃fs,P.underlying t=some (.struct fs):=by
   cases n with
   | zero=>simp[opB] at ho
   | succ n =>
    unfold opB at ho
    split at ho <;> simp_all [Ty.agg]
  obtain⟨fs,hu⟩:=this
  obtain⟨cs,rfl,_⟩:=WideShapes.okWide_struct hu hv
  simp only[Value.cells] at h2
  exact .agg _ _ (by simpa using h2.1) fun i c u hc hu=>h2.2 i c u hc (by simpa using hu)
 | false =>
  rw[ty.dv_one x hagg] at h2
  have hv' : v.cells = #[v]:=by
   have:=h2.1
   cases v with
   | agg cs =>
    exfalso
    cases n with
    | zero=>simp[opB] at ho
    | succ n =>
     unfold opB at ho
     split at ho
     ·rename_i hu; obtain⟨_,e⟩:=WideShapes.okWide_int hu hv; cases e
     ·rename_i hu; obtain⟨_,e⟩:=WideShapes.okWide_int hu hv; cases e
     ·rename_i hu; obtain⟨_,e⟩:=WideShapes.okWide_bool hu hv; cases e
     ·rename_i hu; obtain⟨_,e⟩:=WideShapes.okWide_string hu hv; cases e
     ·rename_i hu; obtain⟨_,_,_,e⟩:=WideShapes.okWide_slice hu hv; cases e
     ·rw[hagg] at ho; simp at ho
     ·cases ho
   | _=>rfl
  rw[hv'] at h2
  exact h2.2 0 _ _ rfl rfl
end
end Go.Xl
namespace Go.Xl
open Go.Ab Go.RowKit
noncomputable def litV:Lit→Value
 | .bool b=>.bool b
 | .int k n=>.int k n
 | .string s=>.string ⟨s.toArray⟩
 | .float k b=>.float k b
 | .nil=>.nilIface
theorem Qy3 {H:Type} {enc:TypeId×Value→H} {P:Program} {w:World} {base:Nat} {sp:Nat→Bool} {held:Bool} {fuel:Nat} {t:TypeId} {cs:List Value} {l:Lit} {p:List MemPlace}
  (h:DataW.trod enc P w base sp held fuel t cs=some (.lit l,p)):cs = [litV l]:=by
 cases fuel with
 | zero=>simp[DataW.trod] at h
 | succ m =>
  unfold DataW.trod at h
  split at h <;> simp_all [litV,Option.map_eq_some_iff,Option.bind_eq_some_iff]
  all_goals first
   | (obtain⟨_,h,_⟩:=h; subst h; rfl)
   | (obtain⟨h,_⟩:=h; subst h; rfl)
   | (subst h; rfl)
   | (split at h <;> simp_all [Option.bind_eq_some_iff,Option.map_eq_some_iff] <;> (try (obtain⟨_,_,_,_,h⟩:=h; split at h <;> simp_all)))
   | skip
theorem Qtf {H:Type} {enc:TypeId×Value→H} {P:Program} {w:World} {base:Nat} {sp:Nat→Bool} {held:Bool} {fuel:Nat} {t e:TypeId} {n:Nat} {cs:List Value} {ls:List Lit} {p:List MemPlace}
  (ht:P.underlying t=some (.array n e)) (he:P.cellsOf e=1) (hn:P.cellsOf t=ls.length) (hn' : n=ls.length) (h:DataW.trod enc P w base sp held fuel t cs=some (.agg (ls.map .lit),p)):cs=ls.map litV:=by
 obtain⟨xs,m,rfl,hx,hl,hxl,hc⟩:=DataW.trod_array ht h
 simp only[Prod.mk.injEq,DataW.agg.injEq] at hx
 apply List.ext_getElem?
 intro i
 by_cases hi:i < ls.length
 ·have h1:=hc i (by omega)
  have h2:(xs.map (·.1))[i]? = (ls.map DataW.lit)[i]?:=by rw[← hx.1]
  rw[List.getElem?_eq_getElem (l:=xs) (by omega)] at h1
  simp only[List.getElem?_map,List.getElem?_eq_getElem (l:=xs) (show i < xs.length by omega),List.getElem?_eq_getElem hi,Option.map_some,Option.some.injEq] at h2
  generalize xs[i] = x at h1 h2
  obtain⟨x1,x2⟩:=x
  simp only at h2
  subst h2
  have:=Qy3 h1
  rw[he,Nat.mul_one] at this
  have hd:(cs.drop i)[0]? = some (litV ls[i]):=by
   have h3:((cs.drop i).take 1)[0]? = some (litV ls[i]):=by rw[this]; rfl
   simpa using h3
  simp only[List.getElem?_drop,Nat.add_zero] at hd
  rw[hd]
  simp[hi]
 ·rw[List.getElem?_eq_none (by omega),List.getElem?_eq_none (by simpa using hi)]
noncomputable def litOf:(ty:Ty)→ty.T→Lit
 | .int k,n=>.int k n
 | .u8,x=>.int .u8 (x.toNat:Int)
 | .bool,b=>.bool b
 | .str,l=>.string l
 | _,_=>.nil
noncomputable def scTy:Ty→Bool
 | .int _ | .u8 | .bool | .str=>true
 | _=>false
theorem sc_ds {ty:Ty} (h:scTy ty=true) (x:ty.T):ty.ds x = [.sc (litV (litOf ty x))]:=by
 cases ty <;> simp[scTy] at h <;> rfl
theorem Qry {ty:Ty} (h:scTy ty=true):∀(l:List ty.T),(l.map ty.ds).flatten=l.map fun x=>.sc (litV (litOf ty x))
 | []=>rfl
 | x :: r=>by rw[List.map_cons,List.flatten_cons,Qry h r,sc_ds h x]; rfl
theorem laid_tab {P:Program} {laid:List (String×DataW Unit)} {w:World} (h:laidMetH P laid w) (n:String) (g t e k:Nat) (ty:Ty) (l:List ty.T)
  (hf:laid.filter (fun x=>x.1 == n) = [(n,.agg (l.map fun x=>.lit (litOf ty x)))]) (hg:P.globalNamed n=some g) (ht:(P.globals[g]?).map (·.type)=some t)
  (hu:P.underlying t=some (.array k e)) (he:P.cellsOf e=1) (hn:P.cellsOf t=k) (hk:k=l.length) (hs:scTy ty=true) :
  RA (full w) w (XV.d (.pa ty l)).a (.pointer (some ⟨g,0,none⟩)):=by
 have h1:=h.filter (fun x=>x.1 == n)
 rw[hf] at h1
 have h2:laidMet P [(n,.agg (l.map fun x=>.lit (litOf ty x)))] w:=h1
 obtain⟨ps,hl,_,_⟩:=h2
 obtain⟨g',t',cs,fuel,p,q,e1,e2,e3,e4,_,_⟩:=hl
 rw[hg] at e1
 cases e1
 rw[ht] at e2
 cases e2
 have e4' : DataW.trod (fun _=>()) P w 0 (fun _=>true) false fuel t cs.toList=some (.agg ((l.map (litOf ty)).map .lit),p):=by
  rw[List.map_map]; exact e4
 have hc:=Qtf (ls:=l.map (litOf ty)) hu he (by simp; omega) (by simp; omega) e4'
 have hcell:∀i,w.cell? ⟨g,i,none⟩=(l.map fun x=>litV (litOf ty x))[i]?:=by
  intro i
  rw[World.var?_cell hg e3 i,← Array.getElem?_toList,hc,List.map_map]; rfl
 refine .d _ _ ?_
 show RD (fullγ w) w (.ep ((l.map ty.ds).flatten)) _
 rw[Qry hs]
 refine .ep _ _ _ ?_ ?_
 ·rw[Nat.zero_add,List.length_map]
  have h0:w.heap[g]? = some (.cells cs ((w.heap[g]?).elim 0 (fun b=>match b with | .cells _ t _=>t | _=>0)) ((w.heap[g]?).elim (0,0) (fun b=>match b with | .cells _ _ f=>f | _=>(0,0)))):=by
   unfold World.var? at e3
   rw[hg,Option.bind_some] at e3
   split at e3
   ·rename_i cs' T fr hh
    cases e3
    rw[hh]; rfl
   ·cases e3
  unfold fullγ
  rw[h0]
  have:cs.toList.length=l.length:=by rw[hc]; simp
  simp at this
  simp[this]
 ·intro j c v hc1 hc2
  rw[Nat.zero_add,hcell j] at hc2
  simp only[List.getElem?_map,Option.map_eq_some_iff] at hc1 hc2
  obtain⟨x,hx,rfl⟩:=hc1
  obtain⟨y,hy,rfl⟩:=hc2
  rw[hx] at hy
  cases hy
  exact .sc _
theorem DoesG.lawAs {P:Program} {f:FuncId} {args:List AV} {gs:List (Nat×AV)} (h:DoesG P f args gs (.d (.sc (.bool true)))) {w:World} {vs:Array Value} (ha:RAs (full w) w args vs.toList) (hg:GHold (full w) w gs) :
  Calls P f vs w fun e w'=>e = .returned (.bool true)∧Below w.heap.size w w':=by
 refine(h (full w) w vs (Qsl w) hg (by have:=ha.get.1; simpa using this) fun i x v hx hv=>ha.get.2 i x v hx (by simpa using hv)).mono ?_
 rintro e w' ⟨g',v,rfl,hr,h1⟩
 refine⟨by rw[hr.sc_inv],⟨h1.io.1,h1.io.2.2.1,h1.io.2.1,h1.base,fun b hb=>(h1.frame b hb ?_).1⟩⟩
 rintro (⟨k,o,hk,_⟩ | ⟨n,hn⟩)
 ·simp[X0] at hk
 ·simp[full] at hn
theorem GHold.nil (g:Gh) (w:World):GHold g w []:=by intro p hp; cases hp
theorem GHold.cons {g:Gh} {w:World} {k:Nat} {a:AV} {gs:List (Nat×AV)} (h:RA g w a (.pointer (some ⟨k,0,none⟩))) (h' : GHold g w gs):GHold g w ((k,a) :: gs):=by
 intro p hp
 rcases List.mem_cons.1 hp with rfl | hp
 ·exact h
 ·exact h' p hp
end Go.Xl
