import Derived.Test.YtpcmeokokojkiaaGreatDoorZc
import Derived.Test.YtpcmeokokojkiaaGreatDoorZb
set_option linter.unusedVariables false
set_option linter.unusedSimpArgs false
set_option linter.unnecessarySimpa false
namespace Go.Xl
open Go.Ab
structure Ent (P:Program) where
 id:FuncId
 run : {R:Type}→Oper→XSt→List XV→(Out→Option R)→Option R
 ok:∀ {R:Type} (o:Oper) (st:XSt) (args:Array Operand) (ts:Array TypeId) (vs:List XV) (K:Out→Option R) (r:R),
  o.op = .call { callee:=.value (.func id),args:=args,argTypes:=ts }→Qh st args.toList=some vs→run o st vs K=some r→∃out,K out=some r∧OpOk P o st out
 /-- called by way of a value, with what was captured -/
 crun : {R:Type}→Oper→XSt→List XV→List XV→(Out→Option R)→Option R:=fun _ _ _ _ _=>none
 cok:∀ {R:Type} (o:Oper) (st:XSt) (t:Tmp) (caps:List XV) (args:Array Operand) (ts:Array TypeId) (vs:List XV) (K:Out→Option R) (r:R),
  o.op = .call { callee:=.value (.tmp t),args:=args,argTypes:=ts }→xeval st (.tmp t)=some (.clo id caps)→Qh st args.toList=some vs→crun o st caps vs K=some r→∃out,K out=some r∧OpOk P o st out:=by
  intros; contradiction
noncomputable def entOf {P:Program} (f:FuncId):List (Ent P)→Option (Ent P)
 | []=>none
 | e :: r=>cond (Nat.beq e.id f) (some e) (entOf f r)
theorem Qhy {P:Program} {f:FuncId}:∀ {l:List (Ent P)} {e:Ent P},entOf f l=some e→e.id=f
 | [],e,h=>by cases h
 | a :: r,e,h=>by
  simp only[entOf] at h
  cases hb:Nat.beq a.id f with
  | true=>simp only[hb,cond_true,Option.some.injEq] at h; subst h; exact Nat.eq_of_beq_eq_true hb
  | false=>simp only[hb,cond_false] at h; exact Qhy h
noncomputable def Q4h (f:FuncId) (o:Oper):Oper :=
 match o.op with
 | .call c=>{ o with op:=.call { c with callee:=.value (.func f) } }
 | _=>o
noncomputable def Out.addRd (out:Out) (p:Operand×XV):Out:={ out with rd:=p :: out.rd }
theorem Q4i {P:Program} {o:Oper} {c:Operand} {f:FuncId} {args:Array Operand} {ts:Array TypeId} {rd:List (Operand×AV)} {X X' : Store} {F:List Nat} {res:AV}
  (ho:o.op = .call { callee:=.value c,args:=args,argTypes:=ts }) (h:OpT P (Q4h f o) rd X X' F res):OpT P o ((c,.clo f []) :: rd) X X' F res:=by
 intro nm hsm B g w a hr hrd next Q hn
 have e1:=hrd _ (List.mem_cons_self ..)
 simp only at e1
 have hc:a.eval c = .func (.func f) #[] #[]:=by
  generalize a.eval c=vc at e1
  cases e1 with
  | clo _ _ vs hlen hvs =>
   have:vs = #[]:=by
    apply Array.eq_empty_of_size_eq_zero
    simpa using hlen.symm
   rw[this]
 have hd:(Q4h f o).dst=o.dst:=by unfold Q4h; rw[ho]
 have h1:=h nm hsm B g w a hr (fun p hp=>hrd p (List.mem_cons_of_mem _ hp)) next Q (by rw[hd]; exact hn)
 unfold Oper.wp at h1 ⊢
 have e:execOp a.eval (Q4h f o)=execOp a.eval o:=by
  unfold Q4h
  simp only[ho,execOp,resolve]
  simp only[hc]
  rfl
 rw[e] at h1
 unfold Oper.upon at h1 ⊢
 rw[hd] at h1
 exact h1
theorem OpOk.callee {P:Program} {o:Oper} {st:XSt} {out:Out} {t:Tmp} {f:FuncId} {args:Array Operand} {ts:Array TypeId} (ho:o.op = .call { callee:=.value (.tmp t),args:=args,argTypes:=ts })
  (hs:xeval st (.tmp t)=some (.clo f [])) (h:OpOk P (Q4h f o) st out):OpOk P o st (out.addRd (.tmp t,.clo f [])):=by
 refine⟨?_,?_,h.ol⟩
 ·intro p hp
  simp only[Out.addRd,imRd,List.map_cons,List.mem_cons] at hp
  rcases hp with rfl | hp
  ·exact Q5 (x:=.tmp t) hs
  ·exact h.sees p hp
 ·have:=h.op
  have e:imRd (out.addRd (.tmp t,.clo f [])).rd=(.tmp t,.clo f []) :: imRd out.rd:=rfl
  show match out.eff with | .none=>_ | .look ks=>_ | .put k c=>_ | .all=>_ | .lab=>_ | .putl k c=>_ | .new os=>_
  cases he:out.eff with
  | none=>rw[he] at this; exact⟨this.1,this.2.1,this.2.2.1,fun X=>Q4i ho (this.2.2.2 X)⟩
  | look ks=>rw[he] at this; exact⟨this.1,this.2.1,this.2.2.1,fun X hX=>Q4i ho (this.2.2.2 X hX)⟩
  | put k c=>rw[he] at this; exact⟨this.1,this.2.1,this.2.2.1,fun X hX=>Q4i ho (this.2.2.2 X hX)⟩
  | all=>rw[he] at this; exact Q4i ho this
  | lab=>rw[he] at this; exact⟨this.1,Q4i ho this.2⟩
  | putl k c=>rw[he] at this; exact⟨this.1,Q4i ho this.2⟩
  | new os=>rw[he] at this; exact⟨this.1,Q4i ho this.2⟩
section
variable (P:Program) (Γ:List (Ent P)) (own:List Nat) {R:Type}
noncomputable def ownOp (own:List Nat) (o:Oper):Bool :=
 match o.dst with
 | some d=>inl d own
 | none=>false
noncomputable def Qin (st:XSt) (x:Operand):Bool :=
 match xeval st x with
 | some v=>Qzx v
 | none=>false
structure XF where
 run:(P:Program)→(R:Type)→List (Ent P)→List Nat→Oper→XSt→(Out→Option R)→Option R
noncomputable def Qvw (c:Call):XF :=
 match c.callee with
 | .builtin .len=>⟨fun P R Γ own o st K=>match c.args.toList with
  | [x]=>cond (Qin st x) (Qkf P st c.argTypes x K) (Qli P st c.argTypes x K)
  | _=>none⟩
 | .builtin .delete=>⟨fun P R Γ own o st K=>match c.args.toList with
  | [x,y]=>Ql8 P st c.argTypes x y K
  | _=>none⟩
 | .builtin .min=>⟨fun P R Γ own o st K=>match c.args.toList with
  | [x,y]=>Q9b st true x y K
  | _=>none⟩
 | .builtin .max=>⟨fun P R Γ own o st K=>match c.args.toList with
  | [x,y]=>Q9b st false x y K
  | _=>none⟩
 | .builtin .append=>⟨fun P R Γ own o st K=>match c.args.toList with
  | [x,y]=>cond (ownOp own o) (Qkm P st o c.argTypes x y K) (cond (Q6i P c.argTypes) (Qkw P st o c.argTypes x y K) (Ql3 P st o c.argTypes x y K))
  | _=>none⟩
 | .builtin .clear=>⟨fun P R Γ own o st K=>match c.args.toList with
  | [x]=>Qqb P st c.argTypes x K
  | _=>none⟩
 | .builtin .unsafeSliceData=>⟨fun P R Γ own o st K=>match c.args.toList with
  | [x]=>Qcy P st o x K
  | _=>none⟩
 | .builtin .unsafeString=>⟨fun P R Γ own o st K=>match c.args.toList with
  | [x,y]=>Qas P st c.argTypes x y K
  | _=>none⟩
 | .builtin .copy=>⟨fun P R Γ own o st K=>match c.args.toList with
  | [x,y]=>xCopy P st c.argTypes x y K
  | _=>none⟩
 | .value (.func f)=>⟨fun P R Γ own o st K=>match entOf f Γ,Qh st c.args.toList with
  | some e,some vs=>e.run o st vs K
  | _,_=>none⟩
 | .value (.tmp t)=>⟨fun P R Γ own o st K=>match xeval st (.tmp t) with
  | some (.clo f caps)=>match entOf f Γ,Qh st c.args.toList with
   | some e,some vs=>match caps with
    | []=>e.run (Q4h f o) st vs fun out=>K (out.addRd (.tmp t,.clo f []))
    | x :: r=>e.crun o st (x :: r) vs K
   | _,_=>none
  | _=>none⟩
 | _=>⟨fun P R Γ own o st K=>none⟩
noncomputable def xCall (o:Oper) (st:XSt) (c:Call) (K:Out→Option R):Option R:=(Qvw c).run P R Γ own o st K
theorem Q3k {c:Call} {l:List Operand} (h:c.args.toList=l):c.args=l.toArray:=by
 rw[← h]
theorem Qy2 {o:Oper} {st:XSt} {c:Call} {K:Out→Option R} {r:R} (ho:o.op = .call c) (h:xCall P Γ own o st c K=some r):∃out,K out=some r∧OpOk P o st out:=by
 obtain⟨cal,args,ts⟩:=c
 unfold xCall Qvw at h
 dsimp only at h
 split at h <;> dsimp only at h
 ·split at h
  ·rename_i x hl
   have:=Q3k (c:=⟨.builtin .len,args,ts⟩) hl
   simp only at this
   subst this
   cases hm:Qin st x with
   | true=>rw[hm] at h; exact Qun ho h
   | false=>rw[hm] at h; exact Qui ho h
  ·cases h
 ·split at h
  ·rename_i x y hl
   have:=Q3k (c:=⟨.builtin .len,args,ts⟩) hl
   simp only at this
   subst this
   exact Qt5 ho h
  ·cases h
 ·split at h
  ·rename_i x y hl
   have:=Q3k (c:=⟨.builtin .len,args,ts⟩) hl
   simp only at this
   subst this
   exact Qze ho h
  ·cases h
 ·split at h
  ·rename_i x y hl
   have:=Q3k (c:=⟨.builtin .len,args,ts⟩) hl
   simp only at this
   subst this
   exact Qyx ho h
  ·cases h
 ·split at h
  ·rename_i x y hl
   have:=Q3k (c:=⟨.builtin .len,args,ts⟩) hl
   simp only at this
   subst this
   cases hw:ownOp own o with
   | true=>simp only[hw,cond_true] at h; exact Qtg ho h
   | false =>
    simp only[hw,cond_false] at h
    cases hb:Q6i P ts with
    | true=>rw[hb] at h; exact Quq ho hb h
    | false=>rw[hb] at h; exact Que ho h
  ·cases h
 ·split at h
  ·rename_i x hl
   have:=Q3k (c:=⟨.builtin .len,args,ts⟩) hl
   simp only at this
   subst this
   exact Qvy ho h
  ·cases h
 ·split at h
  ·rename_i x hl
   have:=Q3k (c:=⟨.builtin .len,args,ts⟩) hl
   simp only at this
   subst this
   exact Qn8 ho h
  ·cases h
 ·split at h
  ·rename_i x y hl
   have:=Q3k (c:=⟨.builtin .len,args,ts⟩) hl
   simp only at this
   subst this
   exact Qko ho h
  ·cases h
 ·split at h
  ·rename_i x y hl
   have:=Q3k (c:=⟨.builtin .len,args,ts⟩) hl
   simp only at this
   subst this
   exact Qy4 ho h
  ·cases h
 ·rename_i f
  split at h
  ·rename_i e vs he hvs
   have:=Qhy he
   subst this
   exact e.ok o st args ts vs K r ho hvs h
  ·cases h
 ·rename_i t
  split at h
  ·rename_i f caps hclo
   split at h
   ·rename_i e vs he hvs
    have:=Qhy he
    subst this
    split at h
    ·obtain⟨out,h1,h2⟩:=e.ok (Q4h e.id o) st args ts vs _ r (by unfold Q4h; rw[ho]) hvs h
     exact⟨_,h1,h2.callee ho hclo⟩
    ·exact e.cok o st t _ args ts vs K r ho hclo hvs h
   ·cases h
  ·cases h
 ·cases h
noncomputable def Qf6 (o:Oper) (st:XSt) (f:FuncId) (first caps:Array Operand) (K:Out→Option R):Option R :=
 match first.toList with
 | []=>match Qh st caps.toList with
  | some vs=>K (Q9 st (.clo f vs) (caps.toList.zip vs))
  | none=>none
 | _=>none
theorem Qow {o:Oper} {st:XSt} {f:FuncId} {first caps:Array Operand} {K:Out→Option R} {r:R} (ho:o.op = .makeFunc (.func f) first caps) (h:Qf6 o st f first caps K=some r):∃out,K out=some r∧OpOk P o st out:=by
 unfold Qf6 at h
 split at h
 ·rename_i hf
  have hf:first = #[]:=by
   apply Array.eq_empty_of_size_eq_zero
   rw[← Array.length_toList,hf]; rfl
  subst hf
  split at h
  ·rename_i vs hv
   refine⟨_,h,Q4 (Q40 hv) fun X=>?_⟩
   refine .quiet fun _ _ g w a _ hrd=>⟨.func (.func f) #[] (caps.map a.eval),?_,?_⟩
   ·simp only[execOp,ho,Instr.makeFunc]
    simp
   ·refine .clo f _ _ (by rw[Q8,Q1k hv]; simp) ?_
    rw[Q20] at hrd
    exact Q69 hrd
  ·cases h
 ·cases h
noncomputable def xFrz {R:Type} (st:XSt) (x:Operand) (K:Out→Option R):Option R :=
 match xeval st x with
 | some (.os k ty a n)=>match lk k st.objs with
  | some (.arr u l)=>cond (u.eqb ty) (cond (Nat.ble 1000 k) (cond (Nat.ble (a+n) l.length)
    (K ⟨.all,.d (.sl u ((l.drop a).take n)),[(x,.os k ty a n)],dropX k st.objs,st.live,[],[k]⟩) none) none) none
  | _=>none
 | _=>xMove st x K
theorem Qyl {P:Program} {o:Oper} {st:XSt} {x:Operand} {R:Type} {K:Out→Option R} {r:R} (ho:o.op = .move x∨o.op = .assign x) (h:xFrz st x K=some r):∃out,K out=some r∧OpOk P o st out:=by
 unfold xFrz at h
 split at h
 ·rename_i k ty a n hv
  split at h
  ·rename_i u l hk
   cases h1:u.eqb ty with
   | false=>simp[h1] at h
   | true =>
   cases h2:Nat.ble 1000 k with
   | false=>simp[h1,h2] at h
   | true =>
   cases h3:Nat.ble (a+n) l.length with
   | false=>simp[h1,h2,h3] at h
   | true =>
    simp only[h1,h2,h3,cond_true] at h
    have e1:=Ty.eqb_eq h1
    subst e1
    have e2:=Nat.le_of_ble_eq_true h2
    have e3:=Nat.le_of_ble_eq_true h3
    refine⟨_,h,⟨Qi hv,?_,fun k' x' hk' hx=>?_⟩⟩
    ·show OpT P o [(x,(XV.os k u a n).a)] st.X ⟨Q0 (dropX k st.objs),st.live⟩ [] (.d (.sl u.size (((l.drop a).take n).map u.ds)))
     have hX:Ab.dropObj k st.X=⟨Q0 (dropX k st.objs),st.live⟩:=by
      rw[Q5b]; rfl
     have hl:st.X.objs.lookup k=some (.cells ((l.map u.ds).flatten.map .d) none):=by show(Q0 st.objs).lookup k=_; rw[Qt,hk]; rfl
     intro nm hnm B g w act hr hrd next Q hn
     have hnk:k ∉ nm:=fun hm=>by have:=hnm k hm; omega
     obtain⟨f1,f2,f3⟩:=hr.freeze (k:=k) (sz:=u.size) (es:=l.map u.ds) hnk hl (by
      intro i cs hcs
      rw[List.getElem?_map,Option.map_eq_some_iff] at hcs
      obtain⟨y,_,rfl⟩:=hcs
      exact u.ds_length y)
     rw[hX] at f1
     have hv':=rd0 hrd
     have hd:=f3 a n (act.eval x) (by simpa using e3) hv'
     rw[← List.map_drop,← List.map_take] at hd
     have he:(execOp act.eval o).run P w = .ok (.value (act.eval x)) w:=by
      rcases ho with ho | ho <;> simp[execOp,ho]
     unfold Oper.wp
     rw[he]
     exact hn _ w _ f1 f2 hd
    ·simp only[List.mem_singleton] at hk'
     exact Q67 hx
  ·cases h
 ·exact Qi8 ho h
noncomputable def xopA (op:Op):XF :=
 match op with
 | .move x=>⟨fun P R Γ own o st K=>xMove st x K⟩
 | .assign x=>⟨fun P R Γ own o st K=>cond (ownOp own o) (xFrz st x K) (xMove st x K)⟩
 | .pick c x y=>⟨fun P R Γ own o st K=>xPick st c x y K⟩
 | .alloc t=>⟨fun P R Γ own o st K=>Qm7 P (ownOp own o) st o t K⟩
 | .box t x=>⟨fun P R Γ own o st K=>xBox st o t x K⟩
 | .build t ps=>⟨fun P R Γ own o st K=>Qq4 P st t ps K⟩
 | .buildSlice t n ps=>⟨fun P R Γ own o st K=>cond (ownOp own o) (Qev P st o t n ps K) (cond (Qd4 n ps.toList) (Qec P st o t K) (Qau P st t n ps K))⟩
 | .load t x=>⟨fun P R Γ own o st K=>Qx8 P st t x K⟩
 | .store t x y=>⟨fun P R Γ own o st K=>Qpg P st t x y K⟩
 | .nilCheck x=>⟨fun P R Γ own o st K=>xNil st x K⟩
 | .binOp op t x y _=>⟨fun P R Γ own o st K=>Qoz P st op t x y K⟩
 | .unOp op _ x=>⟨fun P R Γ own o st K=>xUn st op x K⟩
 | .convert s d x=>⟨fun P R Γ own o st K=>Qpo P st s d x K⟩
 | .slice t x lo hi mx=>⟨fun P R Γ own o st K=>Qeq P st t x lo hi mx K⟩
 | .fieldAddr t x n=>⟨fun P R Γ own o st K=>Qce P st t x n K⟩
 | .field t x n=>⟨fun P R Γ own o st K=>Qo4 P st t x n K⟩
 | .indexAddr t x y=>⟨fun P R Γ own o st K=>Qe3 P st t x y K⟩
 | .index t x y=>⟨fun P R Γ own o st K=>Qkh P st t x y K⟩
 | .extract x i=>⟨fun P R Γ own o st K=>Qib st x i K⟩
 | .call c=>⟨fun P R Γ own o st K=>xCall P Γ own o st c K⟩
 | .makeFunc (.func f) first caps=>⟨fun P R Γ own o st K=>Qf6 o st f first caps K⟩
 | .range t x=>⟨fun P R Γ own o st K=>cond (Qin st x) (Qe6 P st o t x K) (Qoi P st o t x K)⟩
 | .makeMap t rs=>⟨fun P R Γ own o st K=>cond (ownOp own o) (Qer P st o t rs K) (Qhv P st o t rs K)⟩
 | .lookup t x y ok=>⟨fun P R Γ own o st K=>cond (Q98 st x) (Qhe P st o t x y ok K) (Qkz P st t x y ok K)⟩
 | .mapUpdate t x y u=>⟨fun P R Γ own o st K=>cond (Q98 st x) (Q7y P st t x y u K) (Q8y P st t x y u K)⟩
 | .insert t x y u=>⟨fun P R Γ own o st K=>cond (Q98 st x) (Q7y P st t x y u K) (Q8y P st t x y u K)⟩
 | .makeInterface t x=>⟨fun P R Γ own o st K=>Q7f P st t x K⟩
 | .next x str=>⟨fun P R Γ own o st K=>xNext st x str K⟩
 | .makeSlice t x y=>⟨fun P R Γ own o st K=>Qd1 P own st o t x y K⟩
 | _=>⟨fun P R Γ own o st K=>none⟩
noncomputable def xop (o:Oper) (st:XSt) (K:Out→Option R):Option R:=(xopA o.op).run P R Γ own o st K
theorem Qbi {o:Oper} {st:XSt} {K:Out→Option R} {r:R} (h:xop P Γ own o st K=some r):∃out,K out=some r∧OpOk P o st out:=by
 unfold xop xopA at h
 split at h <;> rename_i ho <;> dsimp only at h
 ·exact Qi8 (.inl ho) h
 ·cases hf:ownOp own o with
  | true=>rw[hf] at h; exact Qyl (.inr ho) h
  | false=>rw[hf] at h; exact Qi8 (.inr ho) h
 ·exact Qyd ho h
 ·exact Qpc ho h
 ·exact Qzk ho h
 ·exact Qwd ho h
 ·rename_i t n ps
  cases hw:ownOp own o with
  | true=>simp only[hw,cond_true] at h; exact Qo1 ho h
  | false =>
   simp only[hw,cond_false] at h
   cases he:Qd4 n ps.toList with
   | true=>simp only[he,cond_true] at h; exact Qny ho he h
   | false=>simp only[he,cond_false] at h; exact Qkl ho h
 ·exact Qwn ho h
 ·exact Qwz ho h
 ·exact Qys ho h
 ·exact Qwe ho h
 ·exact Q109 ho h
 ·exact Qwy ho h
 ·exact Qoj ho h
 ·exact Qnd ho h
 ·exact Qwt ho h
 ·exact Qqj ho h
 ·exact Quj ho h
 ·exact Qrd ho h
 ·exact Qy2 P Γ own ho h
 ·exact Qow P ho h
 ·rename_i t x
  cases hm:Qin st x with
  | true=>rw[hm] at h; exact Qpz ho h
  | false=>rw[hm] at h; exact Qvc ho h
 ·cases hw:ownOp own o with
  | true=>rw[hw] at h; exact Qot ho h
  | false=>rw[hw] at h; exact Qr8 ho h
 ·rename_i t x y ok
  cases hm:Q98 st x with
  | true=>rw[hm] at h; exact Qrw ho h
  | false=>rw[hm] at h; exact Qu6 ho h
 ·rename_i t x y u
  cases hm:Q98 st x with
  | true=>rw[hm] at h; exact Qbw (.inl ho) h
  | false=>rw[hm] at h; exact Qde (.inl ho) h
 ·rename_i t x y u
  cases hm:Q98 st x with
  | true=>rw[hm] at h; exact Qbw (.inr ho) h
  | false=>rw[hm] at h; exact Qde (.inr ho) h
 ·exact Qgo ho h
 ·exact Qxr ho h
 ·exact Qnn ho h
 ·cases h
noncomputable def xopD (draw:Bool) (o:Oper) (st:XSt) (K:Out→Option R):Option R :=
 match o.op with
 | .next x str=>cond str (xop P Γ own o st K) (cond draw none (Q9y st x K))
 | _=>xop P Γ own o st K
structure Inv (s0 s:XSt):Prop where
 env:∀t x,t ∉ s.wl→lk t s.env=some x→lk t s0.env=some x
 objs:∀k x,k ∉ s.ol→lk k s.objs=some x→lk k s0.objs=some x
theorem Inv.refl (s:XSt):Inv s s:=⟨fun _ _ _ h=>h,fun _ _ _ h=>h⟩
noncomputable def XEff.e:XEff→Store→Eff
 | .none,_=>.none
 | .look ks,_=>.look ks
 | .put k c,_=>.put k c.o
 | .all,X=>.all X
 | .lab,X=>.lab X.live
 | .putl k c,X=>.putl k c.o X.live
 | .new os,X=>.new (Q0 os) X.live
noncomputable def Out.st (out:Out) (o:Oper) (st:XSt):XSt:=⟨putX o.dst out.res st.env,out.objs,out.live,logW o.dst st.wl,out.ol++st.ol⟩
noncomputable def Out.it (out:Out) (o:Oper):It:=⟨o,true,imRd out.rd,out.eff.e out.X,out.F,out.res.a⟩
noncomputable def Q36 (o:Oper) (st:XSt):XSt:=⟨putX o.dst (.d (.v undef)) st.env,st.objs,st.live,logW o.dst st.wl,st.ol⟩
noncomputable def Q4s (o:Oper):It:=⟨o,false,[],.none,[],.d (.sc undef)⟩
noncomputable def Qu (d:Nat) (b:Bool) (st:XSt):XSt:=⟨(d,.d (.b b)) :: st.env,st.objs,st.live,st.wl,st.ol⟩
noncomputable def Q4y:XV→Bool
 | .d (.v (.tuple vs))=>Nat.beq vs.size 0
 | _=>false
noncomputable def Q56 (ops:Array Oper) (j:Nat):Option Nat :=
 match ops[j]? with
 | some o=>o.dst
 | none=>none
variable (nt:Nat)
noncomputable def xops (ops:Array Oper) (draw:Bool) (env0:List (Nat×XV)) (K:XSt→Option R):List Oper→List It→XSt→Option R
 | [],its,st=>cond draw (cond (Qjr ops (imEnv env0) its) (K st) none) (K st)
 | o :: rest,its,st =>
  cond (dstOk nt o.dst)
   (match o.guard with
   | none=>xopD P Γ own draw o st fun out=>cond (cond draw true (Q1t out.F (imEnv st.env))) (xops ops draw env0 K rest (its++[out.it o]) (out.st o st)) none
   | some (j,want) =>
    match Q56 ops j with
    | none=>none
    | some d =>
     match lk d st.env with
     | some (.d (.b b)) =>
      cond b
       (cond want (xopD P Γ own draw o (Qu d true st) fun out=>cond (cond draw true (Q1t out.F (imEnv (Qu d true st).env))) (xops ops draw env0 K rest (its++[out.it o]) (out.st o (Qu d true st))) none)
        (xops ops draw env0 K rest (its++[Q4s o]) (Q36 o (Qu d true st))))
       (cond want (xops ops draw env0 K rest (its++[Q4s o]) (Q36 o (Qu d false st)))
        (xopD P Γ own draw o (Qu d false st) fun out=>cond (cond draw true (Q1t out.F (imEnv (Qu d false st).env))) (xops ops draw env0 K rest (its++[out.it o]) (out.st o (Qu d false st))) none))
     | some v=>cond (Q4y v) (xops ops draw env0 K rest (its++[Q4s o]) (Q36 o st)) none
     | none=>none) none
end
end Go.Xl
namespace Go.Xl
open Go.Ab
section
variable {P:Program} {Γ:List (Ent P)} {own:List Nat} {R:Type}
theorem OpOk.opT {o:Oper} {st:XSt} {out:Out} (h:OpOk P o st out):OpT P o (imRd out.rd) st.X out.X out.F out.res.a:=by
 have hop:=h.op
 unfold Out.X
 split at hop
 ·obtain⟨h1,h2,h3,h4⟩:=hop
  rw[h1,h2,h3]; exact h4 st.X
 ·obtain⟨h1,h2,h3,h4⟩:=hop
  rw[h1,h2,h3]; exact h4 st.X fun _ _=>rfl
 ·obtain⟨h1,h2,h3,h4⟩:=hop
  rw[h1,h2,h3,Q3d]; exact h4 st.X rfl
 ·exact hop
 ·exact hop.2
 ·exact hop.2
 ·exact hop.2
theorem Out.st_im (out:Out) (o:Oper) (st:XSt):(out.st o st).im=⟨Qm o.dst out.res.a st.im.env,out.X⟩:=by
 simp only[Out.st,XSt.im,XSt.X,Qqe,Out.X]
theorem Q6b (o:Oper) (st:XSt):(Q36 o st).im=⟨Qm o.dst (.d (.sc undef)) st.im.env,st.X⟩:=by
 simp only[Q36,XSt.im,XSt.X,Qqe]
 rfl
theorem Qak (d:Nat) (b:Bool) (st:XSt):(Qu d b st).im=⟨(d,.d (.sc (.bool b))) :: st.im.env,st.X⟩:=rfl
theorem Qr {st:St}:∀ {l:List (Operand×AV)},(∀p ∈ l,Sees st p.1 p.2)→SeesAll st l
 | [],_=>.nil
 | (x,v) :: r,h=>.cons (h (x,v) List.mem_cons_self) (Qr fun p hp=>h p (List.mem_cons_of_mem _ hp))
theorem Qq9 {o:Oper} {x:XV} {st:XSt} {t:Nat} {y:XV} {wl:List Nat} (ht:t ∉ logW o.dst wl) (h:lk t (putX o.dst x st.env)=some y):t ∉ wl∧lk t st.env=some y:=by
 cases hd:o.dst with
 | none=>rw[hd] at ht h; exact⟨ht,h⟩
 | some d =>
  rw[hd] at ht h
  simp only[logW,List.mem_cons,not_or] at ht
  simp only[putX] at h
  rw[Qo ht.1] at h
  exact⟨ht.2,h⟩
theorem Inv.op {s0 st:XSt} {o:Oper} {out:Out} (h:Inv s0 st) (hok:OpOk P o st out):Inv s0 (out.st o st):=by
 refine⟨fun t x ht hx=>?_,fun k x hk hx=>?_⟩
 ·obtain⟨h1,h2⟩:=Qq9 (st:=st) ht hx
  exact h.env t x h1 h2
 ·simp only[Out.st,List.mem_append,not_or] at hk hx
  exact h.objs k x hk.2 (hok.ol k x hk.1 hx)
theorem Inv.dem {s0 st:XSt} {o:Oper} {out:Out} (h:Inv s0 st) (ol:∀k x,k ∉ out.ol→lk k out.objs=some x→lk k st.objs=some x):Inv s0 (out.st o st):=by
 refine⟨fun t x ht hx=>?_,fun k x hk hx=>?_⟩
 ·obtain⟨h1,h2⟩:=Qq9 (st:=st) ht hx
  exact h.env t x h1 h2
 ·simp only[Out.st,List.mem_append,not_or] at hk hx
  exact h.objs k x hk.2 (ol k x hk.1 hx)
theorem Qz0 {draw:Bool} {o:Oper} {st:XSt} {K:Out→Option R} {r:R} (h:xopD P Γ own draw o st K=some r):(∃out,K out=some r∧OpOk P o st out)∨∃rd outs,(∀out ∈ outs,K out=some r)∧DemOk P o st rd outs:=by
 unfold xopD at h
 split at h
 ·rename_i x str ho
  cases str with
  | true=>exact .inl (Qbi P Γ own h)
  | false =>
   simp only[cond_false] at h
   cases draw with
   | true=>cases h
   | false=>exact Qfm ho h
 ·exact .inl (Qbi P Γ own h)
theorem Qwx {o:Oper} {st:XSt} {K:Out→Option R} {r:R} (h:xopD P Γ own true o st K=some r):∃out,K out=some r∧OpOk P o st out:=by
 unfold xopD at h
 split at h
 ·rename_i x str ho
  cases str with
  | true=>exact Qbi P Γ own h
  | false=>cases h
 ·exact Qbi P Γ own h
theorem Inv.skip {s0 st:XSt} {o:Oper} (h:Inv s0 st):Inv s0 (Q36 o st):=by
 refine⟨fun t x ht hx=>?_,fun k x hk hx=>h.objs k x hk hx⟩
 obtain⟨h1,h2⟩:=Qq9 (st:=st) ht hx
 exact h.env t x h1 h2
theorem Inv.know {s0 st:XSt} {d:Nat} {b:Bool} (h:Inv s0 st) (hd:lk d st.env=some (.d (.b b))):Inv s0 (Qu d b st):=by
 refine⟨fun t x ht hx=>?_,fun k x hk hx=>h.objs k x hk hx⟩
 simp only[Qu] at ht hx
 by_cases he:t=d
 ·subst he
  simp[Q12,Q2b] at hx
  subst hx
  exact h.env t _ ht hd
 ·rw[Qo he] at hx
  exact h.env t x ht hx
theorem Q2y {st:XSt} {d:Nat} {x:XV} (h:lk d st.env=some x):st.im.env.lookup d=some x.a:=by
 show(imEnv st.env).lookup d=_
 rw[Q4p,h]; rfl
theorem Qc2 {x:XV} (h:Q4y x=true):x.a = .d (.sc undef):=by
 unfold Q4y at h
 split at h
 ·rename_i vs
  have:=Nat.eq_of_beq_eq_true h
  have:vs = #[]:=Array.eq_empty_of_size_eq_zero this
  subst this
  rfl
 ·cases h
noncomputable def Post (s0:XSt) (K:XSt→Option R) (r:R) (s:St):Prop:=∃st',s=st'.im∧Inv s0 st'∧K st' = some r
theorem Q99 {S:Sig} {ops:Array Oper} {env0:List (Nat×XV)} {K:XSt→Option R} {r:R} {s0:XSt}:∀(l:List Oper) (i:Nat) (its:List It) (st:XSt),(∀(j:Nat) o,l[j]? = some o→ops[i+j]? = some o) →
  Inv s0 st→xops P Γ own S.N ops false env0 K l its st=some r→Rw P S ops (List.range' i l.length) st.im (Post s0 K r)
 | [],i,its,st,hl,hi,h=>by
  simp only[xops,cond_false] at h
  exact Rw.done ⟨st,rfl,hi,h⟩
 | o :: rest,i,its,st,hl,hi,h=>by
  have ho:ops[i]? = some o:=hl 0 o rfl
  have hrest:∀(j:Nat) o,rest[j]? = some o→ops[i+1+j]? = some o:=by
   intro j o' hj
   have:=hl (j+1) o' (by simpa using hj)
   rw[show i+1+j=i+(j+1) by omega]; exact this
  simp only[xops] at h
  cases hd:dstOk S.N o.dst with
  | false=>simp[hd] at h
  | true =>
   simp only[hd,cond_true] at h
   have run:∀(st:XSt),Inv s0 st→Guard ops st.im o.guard true→(xopD P Γ own false o st fun out=>cond (cond false true (Q1t out.F (imEnv st.env))) (xops P Γ own S.N ops false env0 K rest (its++[out.it o]) (out.st o st)) none)=some r →
     Rw P S ops (List.range' i (o :: rest).length) st.im (Post s0 K r):=by
    intro st hi hg h
    rcases Qz0 h with ⟨out,h1,hok⟩ | ⟨rd,outs,hall,hok⟩
    ·cases hf:Q1t out.F (imEnv st.env) with
     | false=>simp[hf] at h1
     | true =>
      simp only[hf,cond_false,cond_true] at h1
      simp only[List.length_cons,List.range'_succ]
      refine Rw.opg ho hg hok.opT (Qr hok.sees) hf hd ?_
      rw[← Out.st_im]
      exact Q99 rest (i+1) _ _ hrest (hi.op hok) h1
    ·simp only[List.length_cons,List.range'_succ]
     refine Rw.demon ho hg hok.op (Qr hok.sees) hd ?_
     intro p hp
     obtain⟨out,hout,rfl⟩:=List.mem_map.1 hp
     have h1:=hall out hout
     have hf:Q1t out.F (imEnv st.env)=true:=by rw[hok.F out hout]; rfl
     simp only[hf,cond_false,cond_true] at h1
     show Rw P S ops _ ⟨Qm o.dst out.res.a st.im.env,out.X⟩ _
     rw[← Out.st_im]
     exact Q99 rest (i+1) _ _ hrest (hi.dem (fun k x=>hok.ol out hout k x)) h1
   have skip:∀(st:XSt),Inv s0 st→Guard ops st.im o.guard false→xops P Γ own S.N ops false env0 K rest (its++[Q4s o]) (Q36 o st)=some r →
     Rw P S ops (List.range' i (o :: rest).length) st.im (Post s0 K r):=by
    intro st hi hg h
    simp only[List.length_cons,List.range'_succ]
    refine Rw.skip ho hg hd ?_
    have:=Q99 rest (i+1) _ _ hrest hi.skip h
    rw[Q6b] at this
    exact this
   split at h
   ·rename_i hg
    exact run st hi (Qmu hg) h
   ·rename_i j want hg
    unfold Q56 at h
    split at h
    ·cases h
    ·rename_i d hgs
     split at hgs
     ·rename_i oj hoj
      split at h
      ·rename_i b hb
       have hlk:=Q2y hb
       refine Rw.cases (d:=d) hlk (fun hbt=>?_) (fun hbt=>?_)
       ·subst hbt
        change Rw P S ops _ (Qu d true st).im _
        have hlk' : (Qu d true st).im.env.lookup d=some (.d (.sc (.bool true))):=by rw[Qak]; simp
        cases want with
        | true =>
         simp only[cond_true] at h
         exact run _ (hi.know hb) (Qam hg hoj hgs hlk') h
        | false =>
         simp only[cond_true,cond_false] at h
         exact skip _ (hi.know hb) (Qap hg hoj hgs hlk' rfl) h
       ·subst hbt
        change Rw P S ops _ (Qu d false st).im _
        have hlk' : (Qu d false st).im.env.lookup d=some (.d (.sc (.bool false))):=by rw[Qak]; simp
        cases want with
        | true =>
         simp only[cond_true,cond_false] at h
         exact skip _ (hi.know hb) (Qap hg hoj hgs hlk' rfl) h
        | false =>
         simp only[cond_false] at h
         exact run _ (hi.know hb) (Qam hg hoj hgs hlk') h
      ·rename_i v hv hlkv
       cases hu:Q4y v with
       | false=>simp[hu] at h
       | true =>
        simp only[hu,cond_true] at h
        have hlk:=Q2y hlkv
        rw[Qc2 hu] at hlk
        exact skip st hi (Qh7 hg hoj hgs hlk) h
      ·cases h
     ·cases hgs
theorem Qkv {S:Sig} {ops:Array Oper} {env0:List (Nat×XV)} {K:XSt→Option R} {r:R} {s0:XSt}:∀(l:List Oper) (i:Nat) (its:List It) (st:XSt),(∀(j:Nat) o,l[j]? = some o→ops[i+j]? = some o) →
  Inv s0 st→xops P Γ own S.N ops true env0 K l its st=some r→Dw P S ops i l.length st.im its (imEnv env0) (Post s0 K r)
 | [],i,its,st,hl,hi,h=>by
  simp only[xops,cond_true] at h
  cases hd:Qjr ops (imEnv env0) its with
  | false=>simp[hd] at h
  | true =>
   simp only[hd,cond_true] at h
   exact Dw.fin (fun _=>Qrk hd) ⟨st,rfl,hi,h⟩
 | o :: rest,i,its,st,hl,hi,h=>by
  have ho:ops[i]? = some o:=hl 0 o rfl
  have hrest:∀(j:Nat) o,rest[j]? = some o→ops[i+1+j]? = some o:=by
   intro j o' hj
   have:=hl (j+1) o' (by simpa using hj)
   rw[show i+1+j=i+(j+1) by omega]; exact this
  simp only[xops] at h
  cases hd:dstOk S.N o.dst with
  | false=>simp[hd] at h
  | true =>
   simp only[hd,cond_true] at h
   have run:∀(st:XSt),Inv s0 st→Guard ops st.im o.guard true→(xopD P Γ own true o st fun out=>cond (cond true true (Q1t out.F (imEnv st.env))) (xops P Γ own S.N ops true env0 K rest (its++[out.it o]) (out.st o st)) none)=some r →
     Dw P S ops i (o :: rest).length st.im its (imEnv env0) (Post s0 K r):=by
    intro st hi hg h
    obtain⟨out,h1,hok⟩:=Qwx h
    simp only[cond_true] at h1
    have ih:=Qkv rest (i+1) _ _ hrest (hi.op hok) h1
    rw[Out.st_im] at ih
    have hop:=hok.op
    simp only[List.length_cons]
    split at hop
    ·rename_i he
     obtain⟨a1,a2,a3,a4⟩:=hop
     refine Dw.op ho hg a4 (Qr hok.sees) hd ?_
     have e:out.it o=⟨o,true,imRd out.rd,.none,[],out.res.a⟩:=by simp only[Out.it,he,XEff.e,a3]
     rw[e] at ih
     have e2:out.X=st.im.X:=by simp only[Out.X,XSt.im,XSt.X,a1,a2]
     rw[e2] at ih
     exact ih
    ·rename_i ks he
     obtain⟨a1,a2,a3,a4⟩:=hop
     refine Dw.look (ks:=ks) ho hg a4 (Qr hok.sees) hd ?_
     have e:out.it o=⟨o,true,imRd out.rd,.look ks,[],out.res.a⟩:=by simp only[Out.it,he,XEff.e,a3]
     rw[e] at ih
     have e2:out.X=st.im.X:=by simp only[Out.X,XSt.im,XSt.X,a1,a2]
     rw[e2] at ih
     exact ih
    ·rename_i k c he
     obtain⟨a1,a2,a3,a4⟩:=hop
     refine Dw.put (k:=k) (c:=c.o) ho hg a4 (Qr hok.sees) hd ?_
     have e:out.it o=⟨o,true,imRd out.rd,.put k c.o,[],out.res.a⟩:=by simp only[Out.it,he,XEff.e,a3]
     rw[e] at ih
     have e2:out.X=⟨Ab.setObj k c.o st.im.X.objs,st.im.X.live⟩:=by simp only[Out.X,XSt.im,XSt.X,a1,a2,Q3d]
     rw[e2] at ih
     exact ih
    ·rename_i he
     refine Dw.eff ho hg hop (Qr hok.sees) hd ?_
     have e:out.it o=⟨o,true,imRd out.rd,.all out.X,out.F,out.res.a⟩:=by simp only[Out.it,he,XEff.e]
     rw[e] at ih
     exact ih
    ·rename_i he
     obtain⟨a1,a4⟩:=hop
     have e2:out.X=⟨st.im.X.objs,out.live⟩:=by simp only[Out.X,XSt.im,XSt.X,a1]
     rw[e2] at a4 ih
     refine Dw.lab (L:=out.live) ho hg a4 (Qr hok.sees) hd ?_
     have e:out.it o=⟨o,true,imRd out.rd,.lab out.live,out.F,out.res.a⟩:=by simp only[Out.it,he,XEff.e,Out.X]
     rw[e] at ih
     exact ih
    ·rename_i k c he
     obtain⟨a1,a4⟩:=hop
     have e2:out.X=⟨Ab.setObj k c.o st.im.X.objs,out.live⟩:=by simp only[Out.X,XSt.im,XSt.X,a1,Q3d]
     rw[e2] at a4 ih
     refine Dw.putl (L:=out.live) ho hg a4 (Qr hok.sees) hd ?_
     have e:out.it o=⟨o,true,imRd out.rd,.putl k c.o out.live,out.F,out.res.a⟩:=by simp only[Out.it,he,XEff.e,Out.X]
     rw[e] at ih
     exact ih
    ·rename_i os he
     obtain⟨a1,a4⟩:=hop
     have e2:out.X=⟨Q0 os++st.im.X.objs,out.live⟩:=by simp only[Out.X,XSt.im,XSt.X,a1,Q0,List.map_append]
     rw[e2] at a4 ih
     refine Dw.new (L:=out.live) ho hg a4 (Qr hok.sees) hd ?_
     have e:out.it o=⟨o,true,imRd out.rd,.new (Q0 os) out.live,out.F,out.res.a⟩:=by simp only[Out.it,he,XEff.e,Out.X]
     rw[e] at ih
     exact ih
   have skip:∀(st:XSt),Inv s0 st→Guard ops st.im o.guard false→xops P Γ own S.N ops true env0 K rest (its++[Q4s o]) (Q36 o st)=some r →
     Dw P S ops i (o :: rest).length st.im its (imEnv env0) (Post s0 K r):=by
    intro st hi hg h
    simp only[List.length_cons]
    refine Dw.skip ho hg hd ?_
    have:=Qkv rest (i+1) _ _ hrest hi.skip h
    rw[Q6b] at this
    exact this
   split at h
   ·rename_i hg
    exact run st hi (Qmu hg) h
   ·rename_i j want hg
    unfold Q56 at h
    split at h
    ·cases h
    ·rename_i d hgs
     split at hgs
     ·rename_i oj hoj
      split at h
      ·rename_i b hb
       have hlk:=Q2y hb
       refine Dw.cases (d:=d) hlk (fun hbt=>?_) (fun hbt=>?_)
       ·subst hbt
        change Dw P S ops i _ (Qu d true st).im its (imEnv env0) _
        have hlk' : (Qu d true st).im.env.lookup d=some (.d (.sc (.bool true))):=by rw[Qak]; simp
        cases want with
        | true =>
         simp only[cond_true] at h
         exact run _ (hi.know hb) (Qam hg hoj hgs hlk') h
        | false =>
         simp only[cond_true,cond_false] at h
         exact skip _ (hi.know hb) (Qap hg hoj hgs hlk' rfl) h
       ·subst hbt
        change Dw P S ops i _ (Qu d false st).im its (imEnv env0) _
        have hlk' : (Qu d false st).im.env.lookup d=some (.d (.sc (.bool false))):=by rw[Qak]; simp
        cases want with
        | true =>
         simp only[cond_true,cond_false] at h
         exact skip _ (hi.know hb) (Qap hg hoj hgs hlk' rfl) h
        | false =>
         simp only[cond_false] at h
         exact run _ (hi.know hb) (Qam hg hoj hgs hlk') h
      ·rename_i v hv hlkv
       cases hu:Q4y v with
       | false=>simp[hu] at h
       | true =>
        simp only[hu,cond_true] at h
        have hlk:=Q2y hlkv
        rw[Qc2 hu] at hlk
        exact skip st hi (Qh7 hg hoj hgs hlk) h
      ·cases h
     ·cases hgs
end
end Go.Xl
namespace Go.Xl
open Go.Ab
noncomputable def pkM:Nat:=777777777
noncomputable def pkOf (off:Nat):PK:=cond (Nat.beq off pkM) .m (.p off)
noncomputable def pkEq (p:PK) (off:Nat):Bool :=
 match p with
 | .p o=>cond (Nat.beq off pkM) false (Nat.beq o off)
 | .m=>Nat.beq off pkM
 | _=>false
theorem Qt3 {p:PK} {off:Nat} (h:pkEq p off=true):p=pkOf off:=by
 unfold pkEq at h
 unfold pkOf
 split at h
 ·cases hb:Nat.beq off pkM with
  | true=>simp[hb] at h
  | false =>
   simp only[hb,cond_false] at h
   rw[Nat.eq_of_beq_eq_true h]; rfl
 ·rw[h]; rfl
 ·cases h
inductive VK where
 | d (t:Ty)
 | tip (n:Nat) (t:Ty) (ty:Option TypeId)
 | p (k off:Nat)
 | z (k off:Nat)
 /-- a slice that owns its block: the object is known, its length not -/
 | os (k:Nat) (t:Ty)
@[reducible] noncomputable def VK.T:VK→Type
 | .d t=>t.T
 | .tip _ t _=>List t.T
 | .p _ _=>Unit
 | .z _ _=>Bool
 | .os _ _=>Nat
noncomputable def VK.val:(v:VK)→v.T→XV
 | .d t,x=>.d (t.xv x)
 | .tip n t ty,l=>.tip n t l ty
 | .p k off,_=>.nm k (pkOf off)
 | .z k off,b=>.nm k (.z b off)
 | .os k t,n=>.os k t 0 n
noncomputable def VK.cells:(v:VK)→v.T→List XV
 | .d t,x=>(t.enc x).map .d
 | .tip n t ty,l=>[.tip n t l ty]
 | .p k off,_=>[.nm k (pkOf off)]
 | .z k off,b=>[.nm k (.z b off)]
 | .os k t,n=>[.os k t 0 n]
noncomputable def decXV (t:Ty):XV→Option t.T
 | .d x=>t.decv x
 | .tip _ u l _=>t.decv (.sl u l)
 | .agg cs=>match Qb0 cs with
  | some ds=>t.decv (.agg ds)
  | none=>none
 | _=>none
theorem Q100 (k off:Nat):ALe (XV.nm k (.p off)).a (.d XD.pp.d):=by
 intro g w v hr
 simp only[XV.a] at hr
 cases hr with
 | nm _ _ _ h=>exact .d _ _ (.any _ _ ⟨_,h⟩ (by rw[show v=_ from h]; rfl))
theorem Q9u {t:Ty} {x:XV} {y:t.T} (h:decXV t x=some y):ALe x.a (.d (t.dv y)):=by
 unfold decXV at h
 split at h
 ·exact ALe.d (t.decv_spec h)
 ·rename_i n u l ty
  have:=t.decv_spec h
  intro g w v hr
  exact ALe.d this g w v (ALe.tip _ _ _ _ g w v hr)
 ·rename_i cs
  split at h
  ·rename_i ds hds
   have h1:=Qpi (.agg cs)
   simp only[tidyV,hds] at h1
   have:=t.decv_spec h
   intro g w v hr
   exact ALe.d this g w v (h1 g w v hr)
  ·cases h
 ·cases h
noncomputable def Qiy (t:Ty):XV→Option t.T
 | .nm _ (.p _)=>t.decv .pp
 | x=>decXV t x
theorem Qma {t:Ty} {x:XV} {y:t.T} (h:Qiy t x=some y):ALe x.a (.d (t.dv y)):=by
 unfold Qiy at h
 split at h
 ·have:=t.decv_spec h
  intro g w v hr
  exact ALe.d this g w v (Q100 _ _ g w v hr)
 ·exact Q9u h
noncomputable def tyLe (have_ want:Option TypeId):Bool :=
 match want with
 | none=>true
 | some e=>match have_ with
  | some e'=>Nat.beq e' e
  | none=>false
noncomputable abbrev Lab:=List (Nat×Option Nat)
noncomputable def Qb1 (n:Nat) (t:Ty) (ty:Option TypeId):XV→Option (List t.T×Lab)
 | .tip m u l ty'=>if h:u.eqb t=true then cond (tyLe ty' ty) (some (Ty.eqb_eq h▸l,[(n,some m)])) none else none
 | .d (.v (.slice none 0 0))=>some ([],[(n,none)])
 | _=>none
noncomputable def Qbl (k off:Nat):XV→Option (Unit×Lab)
 | .nm k' p=>cond (Nat.beq k' k) (cond (pkEq p off) (some ((),[])) none) none
 | _=>none
noncomputable def projZ (k off:Nat):XV→Option (Bool×Lab)
 | .nm k' (.p off')=>cond (Nat.beq k' k) (cond (Nat.beq off' off) (some (false,[])) none) none
 | .nm k' (.z b off')=>cond (Nat.beq k' k) (cond (Nat.beq off' off) (some (b,[])) none) none
 | .d (.v (.pointer none))=>some (true,[])
 | _=>none
noncomputable def Qfv (k:Nat) (t:Ty):XV→Option (Nat×Lab)
 | .os k' t' a n=>cond (Nat.beq k' k) (cond (t'.eqb t) (cond (Nat.beq a 0) (some (n,[])) none) none) none
 | _=>none
noncomputable def VK.proj:(v:VK)→XV→Option (v.T×Lab)
 | .d t=>fun x=>match decXV t x with
  | some y=>some (y,[])
  | none=>none
 | .tip n t ty=>Qb1 n t ty
 | .p k off=>Qbl k off
 | .z k off=>projZ k off
 | .os k t=>Qfv k t
inductive OK where
 | arr (t:Ty)
 | sit
 | map (k v:Ty)
 | mit (m:Nat)
 | mitn
 | mapt (L:Nat) (k v:Ty)
@[reducible] noncomputable def OK.T:OK→Type
 | .arr t=>List t.T
 | .sit=>List UInt8×Nat
 | .map k v=>List (Nat×k.T×v.T)×Nat
 | .mit _=>Nat×List Nat×Nat
 | .mitn=>Unit
 | .mapt _ k v=>List (Nat×k.T×Bool×List v.T)×Nat
noncomputable def OK.ob:(o:OK)→o.T→XOb
 | .arr t,l=>.arr t l
 | .sit,x=>.sit x.1 x.2
 | .map k v,x=>.map k v x.1 x.2
 | .mit m,x=>.mit m x.1 x.2.1 x.2.2
 | .mitn,_=>.mitn
 | .mapt L k v,x=>.mapt L k v x.1 x.2
noncomputable def OK.dec:(o:OK)→XOb→Option o.T
 | .arr t,.arr u l=>if h:u.eqb t=true then some (Ty.eqb_eq h▸l) else none
 | .sit,.sit s p=>some (s,p)
 | .map k v,.map k' v' es c=>if h:k'.eqb k=true then if h' : v'.eqb v=true then some (Ty.eqb_eq h▸Ty.eqb_eq h'▸es,c) else none else none
 | .mit m,.mit m' a b c=>cond (Nat.beq m' m) (some (a,b,c)) none
 | .mitn,.mitn=>some ()
 | .mapt L k v,.mapt L' k' v' es c=>if h:k'.eqb k=true then if h' : v'.eqb v=true then cond (Nat.beq L' L) (some (Ty.eqb_eq h▸Ty.eqb_eq h'▸es,c)) none else none else none
 | _,_=>none
theorem OK.dec_eq {o:OK} {x:XOb} {y:o.T} (h:o.dec x=some y):x=o.ob y:=by
 unfold OK.dec at h
 split at h
 ·split at h
  ·rename_i he
   have e:=Ty.eqb_eq he
   subst e
   cases h; rfl
  ·cases h
 ·cases h; rfl
 ·split at h
  ·rename_i he
   split at h
   ·rename_i he'
    have e:=Ty.eqb_eq he
    have e':=Ty.eqb_eq he'
    subst e; subst e'
    cases h; rfl
   ·cases h
  ·cases h
 ·rename_i m m' a b c
  cases hb:Nat.beq m' m with
  | false=>simp[hb] at h
  | true =>
   simp only[hb,cond_true,Option.some.injEq] at h
   subst h
   rw[Nat.eq_of_beq_eq_true hb]; rfl
 ·rfl
 ·rename_i L k v L' k' v' es c
  split at h
  ·rename_i he
   split at h
   ·rename_i he'
    cases hb:Nat.beq L' L with
    | false=>simp[hb] at h
    | true =>
     have e:=Ty.eqb_eq he
     have e':=Ty.eqb_eq he'
     subst e; subst e'
     simp only[hb,cond_true,Option.some.injEq] at h
     subst h
     rw[Nat.eq_of_beq_eq_true hb]; rfl
   ·cases h
  ·cases h
 ·cases h
noncomputable def OK.okp (ns:List Nat):OK→Bool
 | .mit m=>cond (inl m ns) false true
 | .mapt L _ _=>cond (inl L ns) false true
 | _=>true
noncomputable def Q9r (ns:List Nat):List (Nat×OK)→Bool
 | []=>true
 | p :: r=>cond (p.2.okp ns) (Q9r ns r) false
structure Cut where
 vars:List (Tmp×VK)
 objs:List (Nat×List VK×Option TypeId)
 keepS:List Tmp
 keepO:List Nat
 own:List (Tmp×Nat×Ty):=[]
 arrs:List (Nat×OK):=[]
@[reducible] noncomputable def VarsT:List (Tmp×VK)→Type
 | []=>Unit
 | p :: r=>p.2.T×VarsT r
@[reducible] noncomputable def Q9d:List VK→Type
 | []=>Unit
 | v :: r=>v.T×Q9d r
@[reducible] noncomputable def ObjsT:List (Nat×List VK×Option TypeId)→Type
 | []=>Unit
 | p :: r=>Q9d p.2.1×ObjsT r
@[reducible] noncomputable def OwnT:List (Tmp×Nat×Ty)→Type
 | []=>Unit
 | p :: r=>Option (List p.2.2.T×Nat)×OwnT r
@[reducible] noncomputable def ArrsT:List (Nat×OK)→Type
 | []=>Unit
 | p :: r=>p.2.T×ArrsT r
@[reducible] noncomputable def Cut.T (c:Cut):Type:=VarsT c.vars×ObjsT c.objs×OwnT c.own×ArrsT c.arrs
noncomputable def Q5p:(l:List (Tmp×Nat×Ty))→OwnT l→List (Nat×XV)
 | [],_=>[]
 | p :: r,x=>(p.1,match x.1 with
  | none=>.d (.v (.slice none 0 0))
  | some y=>.os p.2.1 p.2.2 0 y.2) :: Q5p r x.2
noncomputable def Q4v:(l:List (Tmp×Nat×Ty))→OwnT l→List (Nat×XOb)
 | [],_=>[]
 | p :: r,x=>match x.1 with
  | none=>Q4v r x.2
  | some y=>(p.2.1,.arr p.2.2 y.1) :: Q4v r x.2
noncomputable def Q45:(l:List (Nat×OK))→ArrsT l→List (Nat×XOb)
 | [],_=>[]
 | p :: r,x=>(p.1,p.2.ob x.1) :: Q45 r x.2
noncomputable def ownNames:List (Tmp×Nat×Ty)→List Nat
 | []=>[]
 | p :: r=>p.2.1 :: ownNames r
noncomputable def Q1p:List (Nat×OK)→List Nat
 | []=>[]
 | p :: r=>p.1 :: Q1p r
noncomputable def Cut.others (c:Cut):List Nat:=(c.objs.map (·.1)++Q1p c.arrs)++c.keepO
noncomputable def Q6c:(l:List (Tmp×VK))→VarsT l→List (Nat×XV)
 | [],_=>[]
 | p :: r,x=>(p.1,p.2.val x.1) :: Q6c r x.2
noncomputable def Q3j:(l:List VK)→Q9d l→List XV
 | [],_=>[]
 | v :: r,x=>v.cells x.1++Q3j r x.2
noncomputable def Q47:(l:List (Nat×List VK×Option TypeId))→ObjsT l→List (Nat×XOb)
 | [],_=>[]
 | p :: r,x=>(p.1,.cells (Q3j p.2.1 x.1) p.2.2) :: Q47 r x.2
noncomputable def Q78 (env:List (Nat×XV)):List Tmp→List (Nat×XV)
 | []=>[]
 | t :: r=>match lk t env with
  | some x=>(t,x) :: Q78 env r
  | none=>Q78 env r
noncomputable def Q3g (objs:List (Nat×XOb)):List Nat→List (Nat×XOb)
 | []=>[]
 | t :: r=>match lk t objs with
  | some x=>(t,x) :: Q3g objs r
  | none=>Q3g objs r
noncomputable def Q4l:List (Tmp×VK)→List Nat
 | []=>[]
 | (_,.tip n _ _) :: r=>n :: Q4l r
 | (_,.d _) :: r=>Q4l r
 | (_,.p _ _) :: r=>Q4l r
 | (_,.z _ _) :: r=>Q4l r
 | (_,.os _ _) :: r=>Q4l r
noncomputable def Q42:List VK→List Nat
 | []=>[]
 | .tip n _ _ :: r=>n :: Q42 r
 | .d _ :: r=>Q42 r
 | .p _ _ :: r=>Q42 r
 | .z _ _ :: r=>Q42 r
 | .os _ _ :: r=>Q42 r
noncomputable def Q8u:List (Nat×List VK×Option TypeId)→List Nat
 | []=>[]
 | p :: r=>Q42 p.2.1++Q8u r
noncomputable def Cut.labs (c:Cut):List Nat:=Q4l c.vars++Q8u c.objs
noncomputable def addL (n:Nat) (live acc:List Nat):List Nat:=cond (inl n live) (cond (inl n acc) acc (n :: acc)) acc
noncomputable def Qf1 (live:List Nat):List XV→List Nat→List Nat
 | [],acc=>acc
 | .tip n _ _ _ :: r,acc=>Qf1 live r (addL n live acc)
 | _ :: r,acc=>Qf1 live r acc
noncomputable def Qln (live:List Nat):List (Nat×XV)→List Nat→List Nat
 | [],acc=>acc
 | (_,.tip n _ _ _) :: r,acc=>Qln live r (addL n live acc)
 | _ :: r,acc=>Qln live r acc
noncomputable def Qci (live:List Nat):List (Nat×XOb)→List Nat→List Nat
 | [],acc=>acc
 | (_,.cells cs _) :: r,acc=>Qci live r (Qf1 live cs acc)
 | (_,.mapt L _ _ _ _) :: r,acc=>Qci live r (addL L live acc)
 | _ :: r,acc=>Qci live r acc
noncomputable def Qhh (live:List Nat):List (Nat×OK)→List Nat→List Nat
 | [],acc=>acc
 | (_,.mapt L _ _) :: r,acc=>Qhh live r (addL L live acc)
 | _ :: r,acc=>Qhh live r acc
noncomputable def keepL (s0:XSt) (c:Cut):List Nat:=Qhh s0.live c.arrs (Qci s0.live (Q3g s0.objs c.keepO) (Qln s0.live (Q78 s0.env c.keepS) []))
noncomputable def gen (s0:XSt) (c:Cut) (x:c.T):XSt :=
 ⟨Q6c c.vars x.1++(Q5p c.own x.2.2.1++Q78 s0.env c.keepS),Q47 c.objs x.2.1++(Q4v c.own x.2.2.1++(Q45 c.arrs x.2.2.2++Q3g s0.objs c.keepO)),c.labs++keepL s0 c,[],[]⟩
noncomputable def Q5j (env:List (Nat×XV)):(l:List (Tmp×VK))→Option (VarsT l×Lab)
 | []=>some ((),[])
 | p :: r=>match lk p.1 env with
  | some v=>match p.2.proj v with
   | some (x,σ)=>match Q5j env r with
    | some (xs,τ)=>some ((x,xs),σ++τ)
    | none=>none
   | none=>none
  | none=>none
noncomputable def allXt:List XV→Option (List XD)
 | []=>some []
 | x :: r=>match x.asD,allXt r with
  | some y,some l=>some (y :: l)
  | _,_=>none
theorem Qmb:∀ {cs:List XV} {ds:List XD},allXt cs=some ds→cs.length=ds.length∧∀(i:Nat) x y,cs[i]? = some x→ds[i]? = some y→ALe x.a (.d y.d)
 | [],ds,h=>by simp[allXt] at h; subst h; exact⟨rfl,by simp⟩
 | x :: r,ds,h=>by
  simp only[allXt] at h
  split at h
  ·rename_i y l hy hl
   cases h
   obtain⟨h1,h2⟩:=Qmb hl
   refine⟨by simp[h1],fun i a b ha hb=>?_⟩
   cases i with
   | zero=>simp at ha hb; subst ha; subst hb; exact Qx9 hy
   | succ i=>exact h2 i a b (by simpa using ha) (by simpa using hb)
  ·cases h
noncomputable def Q11:(l:List VK)→List XV→Option (Q9d l×Lab)
 | [],cs=>match cs with
  | []=>some ((),[])
  | _=>none
 | .d t :: r,cs=>match allXt (cs.take t.size) with
  | some ds=>match t.dec ds with
   | some (x,[])=>match Q11 r (cs.drop t.size) with
    | some (xs,τ)=>some ((x,xs),τ)
    | none=>none
   | _=>none
  | none=>none
 | .p k off :: r,cs=>match cs with
  | c :: cs'=>match (VK.p k off).proj c with
   | some (x,σ)=>match Q11 r cs' with
    | some (xs,τ)=>some ((x,xs),σ++τ)
    | none=>none
   | none=>none
  | []=>none
 | .z k off :: r,cs=>match cs with
  | c :: cs'=>match (VK.z k off).proj c with
   | some (x,σ)=>match Q11 r cs' with
    | some (xs,τ)=>some ((x,xs),σ++τ)
    | none=>none
   | none=>none
  | []=>none
 | .os k t :: r,cs=>match cs with
  | c :: cs'=>match (VK.os k t).proj c with
   | some (x,σ)=>match Q11 r cs' with
    | some (xs,τ)=>some ((x,xs),σ++τ)
    | none=>none
   | none=>none
  | []=>none
 | .tip n t ty :: r,cs=>match cs with
  | c :: cs'=>match (VK.tip n t ty).proj c with
   | some (x,σ)=>match Q11 r cs' with
    | some (xs,τ)=>some ((x,xs),σ++τ)
    | none=>none
   | none=>none
  | []=>none
noncomputable def tyEqO (a b:Option TypeId):Bool :=
 match a,b with
 | none,none=>true
 | some x,some y=>Nat.beq x y
 | _,_=>false
theorem Qhn {a b:Option TypeId} (h:tyEqO a b=true):a=b:=by
 unfold tyEqO at h
 split at h
 ·rfl
 ·rw[Nat.eq_of_beq_eq_true h]
 ·cases h
noncomputable def Q5e (objs:List (Nat×XOb)):(l:List (Nat×List VK×Option TypeId))→Option (ObjsT l×Lab)
 | []=>some ((),[])
 | p :: r=>match lk p.1 objs with
  | some (.cells cs ty)=>cond (tyEqO ty p.2.2) (match Q11 p.2.1 cs with
   | some (x,σ)=>match Q5e objs r with
    | some (xs,τ)=>some ((x,xs),σ++τ)
    | none=>none
   | none=>none) none
  | _=>none
noncomputable def Q3c (env:List (Nat×XV)) (objs:List (Nat×XOb)):(l:List (Tmp×Nat×Ty))→Option (OwnT l×List (Nat×Nat))
 | []=>some ((),[])
 | p :: r=>match lk p.1 env,Q3c env objs r with
  | some (.os k ty a len),some (xs,τ)=>match lk k objs with
   | some (.arr tu l)=>if h:tu.eqb p.2.2=true then cond (ty.eqb p.2.2) (cond (Nat.beq a 0) (some ((some (Ty.eqb_eq h▸l,len),xs),(p.2.1,k) :: τ)) none) none else none
   | _=>none
  | some (.d (.v (.slice none 0 0))),some (xs,τ)=>some ((none,xs),τ)
  | _,_=>none
noncomputable def Q9j (objs:List (Nat×XOb)):(l:List (Nat×OK))→Option (ArrsT l)
 | []=>some ()
 | p :: r=>match lk p.1 objs,Q9j objs r with
  | some o,some xs=>match p.2.dec o with
   | some y=>some (y,xs)
   | none=>none
  | _,_=>none
noncomputable def Q90 (s:XSt) (ns:List Nat):List Tmp→Bool
 | []=>true
 | t :: r=>cond (inl t s.wl) false (match lk t s.env with
  | some x=>cond (Q15 ns x.a) (Q90 s ns r) false
  | none=>false)
noncomputable def Qg5 (F:List Nat):XOb→Bool
 | .cells cs _=>Q14 F (asOf cs)
 | .mit m _ _ _=>cond (inl m F) false true
 | .mapt m _ _ _ _=>cond (inl m F) false true
 | _=>true
theorem Qkc {F:List Nat} {o:XOb} (h:Qg5 F o=true):Q1j F o.o=true:=by
 have con:∀m,(cond (inl m F) false true)=true→(!F.contains m)=true:=by
  intro m hm
  cases hc:F.contains m with
  | false=>rfl
  | true=>rw[(Qg m F).2 (List.contains_iff_mem.1 hc)] at hm; cases hm
 cases o with
 | cells cs ty=>exact h
 | arr t l=>exact Qa3 F t l
 | sit s pos=>rfl
 | map kt vt es c=>rfl
 | mitn=>rfl
 | bts e l=>exact Q64 F _
 | mapt m kt vt es c=>exact con m h
 | mit m since seen last=>exact con m h
noncomputable def Q7j (s:XSt) (ns:List Nat):List Nat→Bool
 | []=>true
 | t :: r=>cond (inl t s.ol) false (match lk t s.objs with
  | some x=>cond (Qg5 ns x) (Q7j s ns r) false
  | none=>false)
noncomputable def Q2o:Lab→List Nat
 | []=>[]
 | (_,some m) :: r=>m :: Q2o r
 | (_,none) :: r=>Q2o r
noncomputable def subL (a b:List Nat):Bool :=
 match a with
 | []=>true
 | x :: r=>cond (inl x b) (subL r b) false
noncomputable def Q1r:List Nat→Bool
 | []=>true
 | x :: r=>cond (inl x r) false (Q1r r)
noncomputable def slotsOf:List (Tmp×VK)→List Nat
 | []=>[]
 | p :: r=>p.1 :: slotsOf r
noncomputable def Q2g:List (Nat×List VK×Option TypeId)→List Nat
 | []=>[]
 | p :: r=>p.1 :: Q2g r
noncomputable def apart (a b:List Nat):Bool :=
 match a with
 | []=>true
 | x :: r=>cond (inl x b) false (apart r b)
theorem apart_spec:∀ {a b:List Nat},apart a b=true→∀x ∈ a,x ∉ b
 | [],b,_=>by simp
 | y :: r,b,h=>by
  simp only[apart] at h
  cases hy:inl y b with
  | true=>simp[hy] at h
  | false =>
   simp only[hy,cond_false] at h
   intro x hx
   rcases List.mem_cons.1 hx with rfl | hx
   ·intro hm; rw[(Qg _ _).2 hm] at hy; cases hy
   ·exact apart_spec h x hx
noncomputable def Q3w:List (Tmp×Nat×Ty)→List Nat
 | []=>[]
 | p :: r=>p.1 :: Q3w r
noncomputable def VK.okp (ns:List Nat):VK→Bool
 | .p k _=>cond (inl k ns) false true
 | .z k _=>cond (inl k ns) false true
 | .os k _=>cond (inl k ns) false true
 | _=>true
noncomputable def Q89 (ns:List Nat):List (Tmp×VK)→Bool
 | []=>true
 | p :: r=>cond (p.2.okp ns) (Q89 ns r) false
noncomputable def Q5r (ns:List Nat):List VK→Bool
 | []=>true
 | p :: r=>cond (p.okp ns) (Q5r ns r) false
noncomputable def Q86 (ns:List Nat):List (Nat×List VK×Option TypeId)→Bool
 | []=>true
 | p :: r=>cond (Q5r ns p.2.1) (Q86 ns r) false
noncomputable def ownOk {α:Type} (c:Cut) (ν:List (Nat×Nat)) (x:Option α):Option α :=
 cond (Q1r (ownNames c.own)) (cond (apart (ownNames c.own) c.others) (cond (Q1r (ν.map (·.2))) (cond (apart (ν.map (·.2)) c.others) (cond ((ownNames c.own).all (Nat.ble 1000)) (cond (apart c.labs (ownNames c.own)) (cond (Q89 (ownNames c.own) c.vars) (cond (Q86 (ownNames c.own) c.objs) (cond (Q9r (c.labs++ownNames c.own) c.arrs) x none) none) none) none) none) none) none) none) none
noncomputable def proj (nm:List Nat) (kl:List Nat) (c:Cut) (s:XSt):Option c.T :=
 match Q5j s.env c.vars,Q5e s.objs c.objs,Q3c s.env s.objs c.own,Q9j s.objs c.arrs with
 | some (x,σ),some (y,τ),some (u,ν),some v =>
  cond (Q90 s (c.labs++ownNames c.own) c.keepS) (cond (Q7j s (c.labs++ownNames c.own) c.keepO) (cond (subL (Q2o (σ++τ)++kl) s.live)
   (cond (Q1r (Q2o (σ++τ)++kl)) (cond (Q1r (c.labs++kl)) (cond (subL nm c.others) (cond (apart c.keepS (slotsOf c.vars++Q3w c.own)) (cond (apart c.keepO (Q2g c.objs++(ownNames c.own++Q1p c.arrs))) (ownOk c ν (some (x,y,u,v))) none) none) none) none) none) none) none) none
 | _,_,_,_=>none
noncomputable def cutGh (g:Gh) (τ:Lab) (keepL:List Nat) (ν:List (Nat×Nat)):Gh :=
 {g with ρ:=fun j=>match lk j ν with | some k=>g.ρ k | none=>g.ρ j,β:=fun n=>cond (inl n keepL) (g.β n) (match lk n τ with
  | some (some m)=>g.β m
  | some none=>some none
  | none=>none),η:=fun n=>cond (inl n keepL) (g.η n) fun _=>none }
theorem Q2t:∀ {a b:List Nat},subL a b=true→∀x ∈ a,x ∈ b
 | [],b,_=>by simp
 | y :: r,b,h=>by
  simp only[subL] at h
  cases hy:inl y b with
  | false=>simp[hy] at h
  | true =>
   simp only[hy,cond_true] at h
   intro x hx
   rcases List.mem_cons.1 hx with rfl | hx
   ·exact(Qg _ _).1 hy
   ·exact Q2t h x hx
theorem Q10:∀ {a:List Nat},Q1r a=true→a.Nodup
 | [],_=>.nil
 | y :: r,h=>by
  simp only[Q1r] at h
  cases hy:inl y r with
  | true=>simp[hy] at h
  | false =>
   simp only[hy,cond_false] at h
   refine List.nodup_cons.2 ⟨fun hm=>?_,Q10 h⟩
   rw[(Qg _ _).2 hm] at hy
   cases hy
theorem VK.proj_ra {v:VK} {x:XV} {y:v.T} {σ:Lab} (h:v.proj x=some (y,σ)) {g g' : Gh} {w:World} {u:Value} {ns:List Nat} (hγ:g'.γ=g.γ) (hρ:∀k,k ∉ ns→g'.ρ k=g.ρ k) (hok:v.okp ns=true)
  (hσ:∀n m,(n,some m) ∈ σ→∀ob,g'.β n=some ob→g.β m=some ob) (hr:RA g w x.a u):RA g' w (v.val y).a u:=by
 cases v with
 | d t =>
  simp only[VK.proj] at h
  split at h
  ·rename_i y' hy
   cases h
   have hle:ALe x.a (.d (t.dv y)):=Q9u hy
   have:=hle g w u hr
   cases this with
   | d _ _ h1=>exact .d _ _ (hγ▸h1)
  ·cases h
 | tip n t ty =>
  change Qb1 n t ty x=some (y,σ) at h
  unfold Qb1 at h
  split at h
  ·rename_i m u' l' ty''
   split at h
   ·rename_i he
    have e0:=Ty.eqb_eq he
    subst e0
    cases ht:tyLe ty'' ty with
    | false=>simp[ht] at h
    | true =>
     simp only[ht,cond_true,Option.some.injEq,Prod.mk.injEq] at h
     obtain⟨rfl,rfl⟩:=h
     simp only[XV.a] at hr
     cases hr with
     | tip _ _ _ _ _ h1 h2 =>
      refine .tip _ _ _ _ _ (hγ▸h1) ?_
      unfold TipOk at h2 ⊢
      split at h2
      ·rename_i a len cap
       intro ob hob
       obtain⟨a1,a2,a3,a4,a5⟩:=h2 ob (hσ n m (by simp) ob hob)
       refine⟨a1,a2,by rw[hγ]; exact a3,a4,fun e hte=>?_⟩
       refine a5 e ?_
       subst hte
       simp only[tyLe] at ht
       split at ht
       ·rw[Nat.eq_of_beq_eq_true ht]
       ·cases ht
      ·trivial
   ·cases h
  ·simp only[Option.some.injEq,Prod.mk.injEq] at h
   obtain⟨rfl,rfl⟩:=h
   simp only[XV.a,XD.d] at hr
   cases hr with
   | d _ _ h1 =>
    cases h1
    exact .tip _ _ _ _ _ (.nil _ none 0 fun _=>rfl) trivial
  ·cases h
 | p k off =>
  change Qbl k off x=some (y,σ) at h
  unfold Qbl at h
  split at h
  ·rename_i k' off'
   cases h1:Nat.beq k' k with
   | false=>simp[h1] at h
   | true =>
    cases h2:pkEq off' off with
    | false=>simp[h1,h2] at h
    | true =>
     have e1:=Nat.eq_of_beq_eq_true h1
     have e2:=Qt3 h2
     subst e1; subst e2
     simp only[XV.a] at hr
     cases hr with
     | nm _ _ _ h=>exact .nm _ _ _ (by
       rw[hρ]
       ·exact h
       ·intro hm
        simp[VK.okp,(Qg _ _).2 hm] at hok)
  ·cases h
 | os k t =>
  change Qfv k t x=some (y,σ) at h
  have hk:k ∉ ns:=by
   intro hm
   simp[VK.okp,(Qg _ _).2 hm] at hok
  unfold Qfv at h
  split at h
  ·rename_i k' t' a n
   cases h1:Nat.beq k' k with
   | false=>simp[h1] at h
   | true =>
    cases h2:t'.eqb t with
    | false=>simp[h1,h2] at h
    | true =>
     cases h3:Nat.beq a 0 with
     | false=>simp[h1,h2,h3] at h
     | true =>
      have e1:=Nat.eq_of_beq_eq_true h1
      have e2:=Ty.eqb_eq h2
      have e3:=Nat.eq_of_beq_eq_true h3
      subst e1; subst e2; subst e3
      simp only[h1,h2,h3,cond_true,Option.some.injEq,Prod.mk.injEq] at h
      obtain⟨rfl,rfl⟩:=h
      simp only[XV.a] at hr
      cases hr with
      | nm _ _ _ h=>exact .nm _ _ _ (by rw[hρ _ hk]; exact h)
  ·cases h
 | z k off =>
  change projZ k off x=some (y,σ) at h
  have hk:k ∉ ns:=by
   intro hm
   simp[VK.okp,(Qg _ _).2 hm] at hok
  unfold projZ at h
  split at h
  ·rename_i k' off'
   cases h1:Nat.beq k' k with
   | false=>simp[h1] at h
   | true =>
    cases h2:Nat.beq off' off with
    | false=>simp[h1,h2] at h
    | true =>
     have e1:=Nat.eq_of_beq_eq_true h1
     have e2:=Nat.eq_of_beq_eq_true h2
     subst e1; subst e2
     simp only[h1,h2,cond_true,Option.some.injEq,Prod.mk.injEq] at h
     obtain⟨rfl,rfl⟩:=h
     simp only[XV.a] at hr
     cases hr with
     | nm _ _ _ h=>exact .nm _ _ _ (by rw[hρ _ hk]; exact h)
  ·rename_i k' b off'
   cases h1:Nat.beq k' k with
   | false=>simp[h1] at h
   | true =>
    cases h2:Nat.beq off' off with
    | false=>simp[h1,h2] at h
    | true =>
     have e1:=Nat.eq_of_beq_eq_true h1
     have e2:=Nat.eq_of_beq_eq_true h2
     subst e1; subst e2
     simp only[h1,h2,cond_true,Option.some.injEq,Prod.mk.injEq] at h
     obtain⟨rfl,rfl⟩:=h
     simp only[XV.a] at hr
     cases hr with
     | nm _ _ _ h=>exact .nm _ _ _ (by rw[hρ _ hk]; exact h)
  ·cases h
   simp only[XV.a,XD.d] at hr
   cases hr with
   | d _ _ h1 =>
    cases h1
    exact .nm _ _ _ rfl
  ·cases h
end Go.Xl
namespace Go.Xl
open Go.Ab
theorem Qfe {n:Nat} {t:Ty} {ty:Option TypeId} {x:XV} {y:List t.T} {σ:Lab} (h:Qb1 n t ty x=some (y,σ)):σ.map (·.1) = [n]:=by
 unfold Qb1 at h
 split at h
 ·split at h
  ·rename_i m u' l' ty'' he
   cases ht:tyLe ty'' ty with
   | false=>simp[ht] at h
   | true=>simp only[ht,cond_true,Option.some.injEq,Prod.mk.injEq] at h; rw[← h.2]; rfl
  ·cases h
 ·simp only[Option.some.injEq,Prod.mk.injEq] at h; rw[← h.2]; rfl
 ·cases h
theorem Qt9 {t:Ty} {x:XV} {y:t.T} {σ:Lab} (h:(VK.d t).proj x=some (y,σ)):σ = []:=by
 simp only[VK.proj] at h
 split at h
 ·cases h; rfl
 ·cases h
theorem Qig {k off:Nat} {x:XV} {y:Unit} {σ:Lab} (h:(VK.p k off).proj x=some (y,σ)):σ = []:=by
 change Qbl k off x=some (y,σ) at h
 unfold Qbl at h
 split at h
 ·rename_i k' off'
  cases h1:Nat.beq k' k with
  | false=>simp[h1] at h
  | true =>
   cases h2:pkEq off' off with
   | false=>simp[h1,h2] at h
   | true=>simp only[h1,h2,cond_true,Option.some.injEq,Prod.mk.injEq] at h; exact h.2.symm
 ·cases h
theorem Qjp {k off:Nat} {x:XV} {y:Bool} {σ:Lab} (h:(VK.z k off).proj x=some (y,σ)):σ = []:=by
 change projZ k off x=some (y,σ) at h
 unfold projZ at h
 split at h
 ·rename_i k' off'
  cases h1:Nat.beq k' k with
  | false=>simp[h1] at h
  | true =>
   cases h2:Nat.beq off' off with
   | false=>simp[h1,h2] at h
   | true=>simp only[h1,h2,cond_true,Option.some.injEq,Prod.mk.injEq] at h; exact h.2.symm
 ·rename_i k' b off'
  cases h1:Nat.beq k' k with
  | false=>simp[h1] at h
  | true =>
   cases h2:Nat.beq off' off with
   | false=>simp[h1,h2] at h
   | true=>simp only[h1,h2,cond_true,Option.some.injEq,Prod.mk.injEq] at h; exact h.2.symm
 ·cases h; rfl
 ·cases h
theorem Qh0 {k:Nat} {t:Ty} {x:XV} {y:Nat} {σ:Lab} (h:(VK.os k t).proj x=some (y,σ)):σ = []:=by
 change Qfv k t x=some (y,σ) at h
 unfold Qfv at h
 split at h
 ·rename_i k' t' a n
  cases h1:Nat.beq k' k <;> cases h2:t'.eqb t <;> cases h3:Nat.beq a 0 <;> simp[h1,h2,h3] at h
  exact h.2
 ·cases h
theorem Qdf {env:List (Nat×XV)}:∀ {l:List (Tmp×VK)} {x:VarsT l} {σ:Lab},Q5j env l=some (x,σ)→σ.map (·.1)=Q4l l
 | [],x,σ,h=>by simp[Q5j] at h; rw[h]; rfl
 | (t,v) :: r,x,σ,h=>by
  unfold Q5j at h
  split at h
  ·rename_i z hz
   split at h
   ·rename_i y σ1 hy
    split at h
    ·rename_i ys τ hys
     simp only[Option.some.injEq,Prod.mk.injEq] at h
     rw[← h.2,List.map_append,Qdf hys]
     cases v with
     | d t=>rw[Qt9 hy]; rfl
     | tip n t ty=>rw[Qfe hy]; rfl
     | p k off=>rw[Qig hy]; rfl
     | z k off=>rw[Qjp hy]; rfl
     | os k t=>rw[Qh0 hy]; rfl
    ·cases h
   ·cases h
  ·cases h
theorem Q3e:∀ {l:List VK} {cs:List XV} {x:Q9d l} {σ:Lab},Q11 l cs=some (x,σ)→σ.map (·.1)=Q42 l
 | [],cs,x,σ,h=>by
  unfold Q11 at h
  split at h
  ·cases h; rfl
  ·cases h
 | .d t :: r,cs,x,σ,h=>by
  unfold Q11 at h
  split at h
  ·split at h
   ·split at h
    ·rename_i ys τ hys
     cases h
     exact Q3e (l:=r) hys
    ·cases h
   ·cases h
  ·cases h
 | .p k off :: r,cs,x,σ,h=>by
  unfold Q11 at h
  split at h
  ·split at h
   ·rename_i y σ1 hy
    split at h
    ·rename_i ys τ hys
     cases h
     rw[List.map_append,Qig hy,Q3e hys]; rfl
    ·cases h
   ·cases h
  ·cases h
 | .z k off :: r,cs,x,σ,h=>by
  unfold Q11 at h
  split at h
  ·split at h
   ·rename_i y σ1 hy
    split at h
    ·rename_i ys τ hys
     cases h
     rw[List.map_append,Qjp hy,Q3e hys]; rfl
    ·cases h
   ·cases h
  ·cases h
 | .os k t :: r,cs,x,σ,h=>by
  unfold Q11 at h
  split at h
  ·split at h
   ·rename_i y σ1 hy
    split at h
    ·rename_i ys τ hys
     cases h
     rw[List.map_append,Qh0 hy,Q3e hys]; rfl
    ·cases h
   ·cases h
  ·cases h
 | .tip n t ty :: r,cs,x,σ,h=>by
  unfold Q11 at h
  split at h
  ·split at h
   ·rename_i y σ1 hy
    split at h
    ·rename_i ys τ hys
     cases h
     rw[List.map_append,Qfe hy,Q3e hys]; rfl
    ·cases h
   ·cases h
  ·cases h
theorem Qd9 {objs:List (Nat×XOb)}:∀ {l:List (Nat×List VK×Option TypeId)} {x:ObjsT l} {σ:Lab},Q5e objs l=some (x,σ)→σ.map (·.1)=Q8u l
 | [],x,σ,h=>by simp[Q5e] at h; rw[h]; rfl
 | p :: r,x,σ,h=>by
  unfold Q5e at h
  split at h
  ·rename_i cs ty hk
   cases ht:tyEqO ty p.2.2 with
   | false=>simp[ht] at h
   | true =>
    simp only[ht,cond_true] at h
    split at h
    ·rename_i y σ1 hy
     split at h
     ·rename_i ys τ hys
      cases h
      rw[List.map_append,Q3e hy,Qd9 hys]; rfl
     ·cases h
    ·cases h
  ·cases h
noncomputable def Q43 (g:Gh) (w:World) (cs:List XV) (vs:List Value):Prop:=∀(i:Nat) x v,cs[i]? = some x→vs[i]? = some v→RA g w x.a v
theorem Q43.split {g:Gh} {w:World} {a b:List XV} {vs:List Value} (h:Q43 g w a (vs.take a.length)) (h' : Q43 g w b (vs.drop a.length)):Q43 g w (a++b) vs:=by
 intro i x v hx hv
 rw[List.getElem?_append] at hx
 split at hx
 ·rename_i hlt
  refine h i x v hx ?_
  rw[List.getElem?_take,if_pos hlt]; exact hv
 ·refine h' (i - a.length) x v hx ?_
  rw[List.getElem?_drop,show a.length+(i - a.length)=i by omega]; exact hv
theorem Qqf:∀ {cs:List XV} {ds:List XD},allX cs=some ds→cs=ds.map .d
 | [],ds,h=>by simp[allX] at h; subst h; rfl
 | x :: r,ds,h=>by
  cases x with
  | d x =>
   simp only[allX] at h
   split at h
   ·rename_i l hl
    cases h
    rw[Qqf hl]; rfl
   ·cases h
  | _=>simp[allX] at h
theorem Q2c {ns:List Nat} {v:VK} {r:List VK} (h:Q5r ns (v :: r)=true):v.okp ns=true∧Q5r ns r=true:=by
 simp only[Q5r] at h
 cases hv:v.okp ns with
 | false=>simp[hv] at h
 | true=>simp only[hv,cond_true] at h; exact⟨rfl,h⟩
theorem Q4d {g g' : Gh} {w:World} {ns:List Nat} (hγ:g'.γ=g.γ) (hρ:∀k,k ∉ ns→g'.ρ k=g.ρ k):∀ {l:List VK} {cs:List XV} {x:Q9d l} {σ:Lab} {vs:List Value},Q5r ns l=true→Q11 l cs=some (x,σ) →
  (∀n m,(n,some m) ∈ σ→∀ob,g'.β n=some ob→g.β m=some ob)→Q43 g w cs vs→Q43 g' w (Q3j l x) vs∧(Q3j l x).length=cs.length
 | [],cs,x,σ,vs,hok,h,hσ,hc=>by
  unfold Q11 at h
  split at h
  ·exact⟨fun i x v hx=>by simp[Q3j] at hx,rfl⟩
  ·cases h
 | .d t :: r,cs,x,σ,vs,hok,h,hσ,hc=>by
  unfold Q11 at h
  split at h
  ·rename_i ds hds
   split at h
   ·rename_i y hy
    split at h
    ·rename_i ys τ hys
     cases h
     obtain⟨zs,hz,hle⟩:=t.dec_spec hy
     simp only[dsOf,List.append_nil] at hz
     subst hz
     have hm:=Qmb hds
     have hlen:ds.length=t.size:=by rw[← Q25,hle.length,Ty.ds_length]
     have hle1:t.size≤cs.length:=by
      have:(cs.take t.size).length=ds.length:=hm.1
      rw[List.length_take,hlen] at this; omega
     have ih:=Q4d hγ hρ (vs:=vs.drop t.size) (Q2c hok).2 hys hσ (by
      intro i x v hx hv
      rw[List.getElem?_drop] at hx hv
      exact hc _ x v hx hv)
     simp only[Q3j,VK.cells]
     refine⟨Q43.split ?_ (by simpa[Ty.enc_length] using ih.1),by simp[Ty.enc_length,ih.2]; omega⟩
     intro i x v hx hv
     rw[List.getElem?_map,Option.map_eq_some_iff] at hx
     obtain⟨z,hz,rfl⟩:=hx
     simp only[List.length_map] at hv
     rw[List.getElem?_take] at hv
     split at hv
     ·have hd:(t.ds y)[i]? = some z.d:=by rw[← Ty.enc_ds,Q2n,List.getElem?_map,hz]; rfl
      obtain⟨u,hu,hule⟩:=hle.get hd
      rw[Q2n,List.getElem?_map,Option.map_eq_some_iff] at hu
      obtain⟨u',hu',rfl⟩:=hu
      have hi:i < t.size:=by
       have:=(List.getElem?_eq_some_iff.1 hu').1; omega
      obtain⟨c0,hcs⟩:∃c0,cs[i]? = some c0:=⟨_,List.getElem?_eq_getElem (by omega)⟩
      have hct:(cs.take t.size)[i]? = some c0:=by rw[List.getElem?_take,if_pos hi]; exact hcs
      have:=hm.2 i c0 u' hct hu' g w v (hc i _ v hcs hv)
      have:=ALe.d hule g w v this
      simp only[XV.a]
      cases this with
      | d _ _ h1=>exact .d _ _ (hγ▸h1)
     ·cases hv
    ·cases h
   ·cases h
  ·cases h
 | .tip n t ty :: r,cs,x,σ,vs,hok,h,hσ,hc=>by
  unfold Q11 at h
  split at h
  ·rename_i c cs'
   split at h
   ·rename_i y σ1 hy
    split at h
    ·rename_i ys τ hys
     cases h
     have ih:=Q4d hγ hρ (vs:=vs.drop 1) (Q2c hok).2 hys (fun n m hm=>hσ n m (List.mem_append_right _ hm)) (by
      intro i x v hx hv
      rw[List.getElem?_drop] at hv
      exact hc (i+1) x v (by simpa using hx) (by rw[Nat.add_comm]; exact hv))
     simp only[Q3j,VK.cells]
     refine⟨Q43.split (a:=[_]) ?_ (by simpa using ih.1),by simp[ih.2]⟩
     intro i x v hx hv
     cases i with
     | succ i=>simp at hx
     | zero =>
      simp at hx
      subst hx
      have hv' : vs[0]? = some v:=by
       rw[List.getElem?_take] at hv; simpa using hv
      exact VK.proj_ra (v:=.tip n t ty) hy hγ hρ (Q2c hok).1 (fun n m hm=>hσ n m (List.mem_append_left _ hm)) (hc 0 c v rfl hv')
    ·cases h
   ·cases h
  ·cases h
 | .p k off :: r,cs,x,σ,vs,hok,h,hσ,hc=>by
  unfold Q11 at h
  split at h
  ·rename_i c cs'
   split at h
   ·rename_i y σ1 hy
    split at h
    ·rename_i ys τ hys
     cases h
     have ih:=Q4d hγ hρ (vs:=vs.drop 1) (Q2c hok).2 hys (fun n m hm=>hσ n m (List.mem_append_right _ hm)) (by
      intro i x v hx hv
      rw[List.getElem?_drop] at hv
      exact hc (i+1) x v (by simpa using hx) (by rw[Nat.add_comm]; exact hv))
     simp only[Q3j,VK.cells]
     refine⟨Q43.split (a:=[_]) ?_ (by simpa using ih.1),by simp[ih.2]⟩
     intro i x v hx hv
     cases i with
     | succ i=>simp at hx
     | zero =>
      simp at hx
      subst hx
      have hv' : vs[0]? = some v:=by
       rw[List.getElem?_take] at hv; simpa using hv
      exact VK.proj_ra (v:=.p k off) hy hγ hρ (Q2c hok).1 (fun n m hm=>hσ n m (List.mem_append_left _ hm)) (hc 0 c v rfl hv')
    ·cases h
   ·cases h
  ·cases h
 | .z k off :: r,cs,x,σ,vs,hok,h,hσ,hc=>by
  unfold Q11 at h
  split at h
  ·rename_i c cs'
   split at h
   ·rename_i y σ1 hy
    split at h
    ·rename_i ys τ hys
     cases h
     have ih:=Q4d hγ hρ (vs:=vs.drop 1) (Q2c hok).2 hys (fun n m hm=>hσ n m (List.mem_append_right _ hm)) (by
      intro i x v hx hv
      rw[List.getElem?_drop] at hv
      exact hc (i+1) x v (by simpa using hx) (by rw[Nat.add_comm]; exact hv))
     simp only[Q3j,VK.cells]
     refine⟨Q43.split (a:=[_]) ?_ (by simpa using ih.1),by simp[ih.2]⟩
     intro i x v hx hv
     cases i with
     | succ i=>simp at hx
     | zero =>
      simp at hx
      subst hx
      have hv' : vs[0]? = some v:=by
       rw[List.getElem?_take] at hv; simpa using hv
      exact VK.proj_ra (v:=.z k off) hy hγ hρ (Q2c hok).1 (fun n m hm=>hσ n m (List.mem_append_left _ hm)) (hc 0 c v rfl hv')
    ·cases h
   ·cases h
  ·cases h
 | .os k t :: r,cs,x,σ,vs,hok,h,hσ,hc=>by
  unfold Q11 at h
  split at h
  ·rename_i c cs'
   split at h
   ·rename_i y σ1 hy
    split at h
    ·rename_i ys τ hys
     cases h
     have ih:=Q4d hγ hρ (vs:=vs.drop 1) (Q2c hok).2 hys (fun n m hm=>hσ n m (List.mem_append_right _ hm)) (by
      intro i x v hx hv
      rw[List.getElem?_drop] at hv
      exact hc (i+1) x v (by simpa using hx) (by rw[Nat.add_comm]; exact hv))
     simp only[Q3j,VK.cells]
     refine⟨Q43.split (a:=[_]) ?_ (by simpa using ih.1),by simp[ih.2]⟩
     intro i x v hx hv
     cases i with
     | succ i=>simp at hx
     | zero =>
      simp at hx
      subst hx
      have hv' : vs[0]? = some v:=by
       rw[List.getElem?_take] at hv; simpa using hv
      exact VK.proj_ra (v:=.os k t) hy hγ hρ (Q2c hok).1 (fun n m hm=>hσ n m (List.mem_append_left _ hm)) (hc 0 c v rfl hv')
    ·cases h
   ·cases h
  ·cases h
theorem Q4u {α:Type} {k:Nat} {x:α}:∀ {l:List (Nat×α)},lk k l=some x→(k,x) ∈ l
 | [],h=>by cases h
 | p :: r,h=>by
  simp only[Q12,Q2b] at h
  cases hb:Nat.beq p.1 k with
  | true =>
   simp only[hb,cond_true,Option.some.injEq] at h
   have:=Nat.eq_of_beq_eq_true hb
   subst h; subst this
   exact List.mem_cons_self
  | false =>
   simp only[hb,cond_false] at h
   exact List.mem_cons_of_mem _ (Q4u h)
theorem Qsy {α:Type} {k:Nat}:∀ {l:List (Nat×α)},lk k l=none→k ∉ l.map (·.1)
 | [],_=>by simp
 | p :: r,h=>by
  simp only[Q12,Q2b] at h
  cases hb:Nat.beq p.1 k with
  | true=>simp[hb] at h
  | false =>
   simp only[hb,cond_false] at h
   have:p.1≠k:=Nat.ne_of_beq_eq_false hb
   simp only[List.map_cons,List.mem_cons,not_or]
   exact⟨Ne.symm this,Qsy h⟩
theorem Qfi {α:Type} {k:Nat} {l:List (Nat×α)} (h:k ∈ l.map (·.1)):∃x,lk k l=some x:=by
 cases hl:lk k l with
 | some x=>exact⟨x,rfl⟩
 | none=>exact absurd h (Qsy hl)
theorem Qvf {α:Type} {k:Nat} {a b:List (Nat×α)}:lk k (a++b)=match lk k a with | some x=>some x | none=>lk k b:=by
 induction a with
 | nil=>rfl
 | cons p r ih =>
  simp only[List.cons_append,Q12,Q2b,ih]
  cases Nat.beq p.1 k <;> rfl
theorem Qdu {α:Type} {k:Nat} {x:α}:∀ {l:List (Nat×α)},(l.map (·.1)).Nodup→(k,x) ∈ l→lk k l=some x
 | [],_,h=>by simp at h
 | p :: r,hnd,h=>by
  simp only[List.map_cons,List.nodup_cons] at hnd
  simp only[Q12,Q2b]
  rcases List.mem_cons.1 h with h' | h'
  ·subst h'; simp
  ·have hne:p.1≠k:=fun he=>hnd.1 (he▸List.mem_map_of_mem (f:=(·.1)) h')
   rw[nbF hne]
   exact Qdu hnd.2 h'
theorem Qgv {ns:List Nat} {v:Tmp×VK} {r:List (Tmp×VK)} (h:Q89 ns (v :: r)=true):v.2.okp ns=true∧Q89 ns r=true:=by
 simp only[Q89] at h
 cases hv:v.2.okp ns with
 | false=>simp[hv] at h
 | true=>simp only[hv,cond_true] at h; exact⟨rfl,h⟩
theorem Qgq {ns:List Nat} {v:Nat×List VK×Option TypeId} {r:List (Nat×List VK×Option TypeId)} (h:Q86 ns (v :: r)=true):Q5r ns v.2.1=true∧Q86 ns r=true:=by
 simp only[Q86] at h
 cases hv:Q5r ns v.2.1 with
 | false=>simp[hv] at h
 | true=>simp only[hv,cond_true] at h; exact⟨rfl,h⟩
theorem Qep {env:List (Nat×XV)}:∀ {l:List (Tmp×VK)} {x:VarsT l} {σ:Lab} {t:Nat} {y:XV},Q5j env l=some (x,σ)→(t,y) ∈ Q6c l x →
  ∃(v:VK) (z:XV) (u:v.T) (σ' : Lab),lk t env=some z∧v.proj z=some (u,σ')∧y=v.val u∧(∀p ∈ σ',p ∈ σ)∧∀ns,Q89 ns l=true→v.okp ns=true
 | [],x,σ,t,y,h,hm=>by simp[Q6c] at hm
 | p :: r,x,σ,t,y,h,hm=>by
  unfold Q5j at h
  split at h
  ·rename_i z hz
   split at h
   ·rename_i u σ1 hu
    split at h
    ·rename_i ys τ hys
     cases h
     simp only[Q6c,List.mem_cons] at hm
     rcases hm with hm | hm
     ·cases hm
      exact⟨p.2,z,u,σ1,hz,hu,rfl,fun q hq=>List.mem_append_left _ hq,fun ns hn=>(Qgv hn).1⟩
     ·obtain⟨v,z,u,σ',h1,h2,h3,h4,h5⟩:=Qep hys hm
      exact⟨v,z,u,σ',h1,h2,h3,fun q hq=>List.mem_append_right _ (h4 q hq),fun ns hn=>h5 ns (Qgv hn).2⟩
    ·cases h
   ·cases h
  ·cases h
theorem Qfd {objs:List (Nat×XOb)}:∀ {l:List (Nat×List VK×Option TypeId)} {x:ObjsT l} {σ:Lab} {k:Nat} {y:XOb},Q5e objs l=some (x,σ)→(k,y) ∈ Q47 l x →
  ∃(vs:List VK) (cs:List XV) (ty:Option TypeId) (u:Q9d vs) (σ' : Lab),lk k objs=some (.cells cs ty)∧Q11 vs cs=some (u,σ')∧y = .cells (Q3j vs u) ty∧(∀p ∈ σ',p ∈ σ)∧k ∈ l.map (·.1)∧∀ns,Q86 ns l=true→Q5r ns vs=true
 | [],x,σ,k,y,h,hm=>by simp[Q47] at hm
 | p :: r,x,σ,k,y,h,hm=>by
  unfold Q5e at h
  split at h
  ·rename_i cs ty hk
   cases ht:tyEqO ty p.2.2 with
   | false=>simp[ht] at h
   | true =>
    simp only[ht,cond_true] at h
    have:=Qhn ht
    split at h
    ·rename_i u σ1 hu
     split at h
     ·rename_i ys τ hys
      cases h
      simp only[Q47,List.mem_cons] at hm
      rcases hm with hm | hm
      ·cases hm
       exact⟨p.2.1,cs,ty,u,σ1,hk,hu,by rw[this],fun q hq=>List.mem_append_left _ hq,List.mem_cons_self,fun ns hn=>(Qgq hn).1⟩
      ·obtain⟨vs,cs,ty,u,σ',h1,h2,h3,h4,h6,h5⟩:=Qfd hys hm
       exact⟨vs,cs,ty,u,σ',h1,h2,h3,fun q hq=>List.mem_append_right _ (h4 q hq),List.mem_cons_of_mem _ h6,fun ns hn=>h5 ns (Qgq hn).2⟩
     ·cases h
    ·cases h
  ·cases h
theorem Q82 {env:List (Nat×XV)}:∀ {l:List Tmp} {t:Nat} {y:XV},(t,y) ∈ Q78 env l→t ∈ l∧lk t env=some y
 | [],t,y,h=>by simp[Q78] at h
 | a :: r,t,y,h=>by
  unfold Q78 at h
  split at h
  ·rename_i x hx
   rcases List.mem_cons.1 h with h | h
   ·cases h; exact⟨List.mem_cons_self,hx⟩
   ·have:=Q82 h; exact⟨List.mem_cons_of_mem _ this.1,this.2⟩
  ·have:=Q82 h; exact⟨List.mem_cons_of_mem _ this.1,this.2⟩
theorem Q5a {objs:List (Nat×XOb)}:∀ {l:List Nat} {t:Nat} {y:XOb},(t,y) ∈ Q3g objs l→t ∈ l∧lk t objs=some y
 | [],t,y,h=>by simp[Q3g] at h
 | a :: r,t,y,h=>by
  unfold Q3g at h
  split at h
  ·rename_i x hx
   rcases List.mem_cons.1 h with h | h
   ·cases h; exact⟨List.mem_cons_self,hx⟩
   ·have:=Q5a h; exact⟨List.mem_cons_of_mem _ this.1,this.2⟩
  ·have:=Q5a h; exact⟨List.mem_cons_of_mem _ this.1,this.2⟩
theorem notIn {a:Nat} {l:List Nat} (hw:inl a l=false):a ∉ l:=by
 intro hm
 rw[(Qg _ _).2 hm] at hw
 cases hw
theorem Qf5 {s:XSt} {ns:List Nat}:∀ {l:List Tmp},Q90 s ns l=true→∀t ∈ l,t ∉ s.wl∧∃x,lk t s.env=some x∧Q15 ns x.a=true
 | [],_=>by simp
 | a :: r,h=>by
  unfold Q90 at h
  cases hw:inl a s.wl with
  | true=>simp[hw] at h
  | false =>
   simp only[hw,cond_false] at h
   split at h
   ·rename_i x hx
    cases hf:Q15 ns x.a with
    | false=>simp[hf] at h
    | true =>
     simp only[hf,cond_true] at h
     intro t ht
     rcases List.mem_cons.1 ht with rfl | ht
     ·exact⟨notIn hw,x,hx,hf⟩
     ·exact Qf5 h t ht
   ·cases h
theorem Qd5 {s:XSt} {ns:List Nat}:∀ {l:List Nat},Q7j s ns l=true→∀t ∈ l,t ∉ s.ol∧∃x,lk t s.objs=some x∧Q1j ns x.o=true
 | [],_=>by simp
 | a :: r,h=>by
  unfold Q7j at h
  cases hw:inl a s.ol with
  | true=>simp[hw] at h
  | false =>
   simp only[hw,cond_false] at h
   split at h
   ·rename_i x hx
    cases hf:Qg5 ns x with
    | false=>simp[hf] at h
    | true =>
     simp only[hf,cond_true] at h
     intro t ht
     rcases List.mem_cons.1 ht with rfl | ht
     ·exact⟨notIn hw,x,hx,Qkc hf⟩
     ·exact Qd5 h t ht
   ·cases h
theorem Q3y:∀ {τ:Lab} {m:Nat},m ∈ Q2o τ↔∃n,(n,some m) ∈ τ
 | [],m=>by simp[Q2o]
 | (n,some k) :: r,m=>by
  simp only[Q2o,List.mem_cons,Q3y (τ:=r),Prod.mk.injEq,Option.some.injEq]
  constructor
  ·rintro (rfl | ⟨n',h⟩)
   ·exact⟨n,.inl ⟨rfl,rfl⟩⟩
   ·exact⟨n',.inr h⟩
  ·rintro ⟨n',⟨rfl,rfl⟩ | h⟩
   ·exact .inl rfl
   ·exact .inr ⟨n',h⟩
 | (n,none) :: r,m=>by
  simp only[Q2o,List.mem_cons,Q3y (τ:=r),Prod.mk.injEq,reduceCtorEq,and_false,false_or]
theorem Qar:∀ {τ:Lab} {n n' m:Nat},(Q2o τ).Nodup→(n,some m) ∈ τ→(n',some m) ∈ τ→n=n'
 | [],n,n',m,_,h,_=>by simp at h
 | (a,some k) :: r,n,n',m,hnd,h,h'=>by
  simp only[Q2o,List.nodup_cons] at hnd
  rcases List.mem_cons.1 h with h1 | h1 <;> rcases List.mem_cons.1 h' with h2 | h2
  ·cases h1; cases h2; rfl
  ·cases h1; exact absurd (Q3y.2 ⟨n',h2⟩) hnd.1
  ·cases h2; exact absurd (Q3y.2 ⟨n,h1⟩) hnd.1
  ·exact Qar hnd.2 h1 h2
 | (a,none) :: r,n,n',m,hnd,h,h'=>by
  simp only[Q2o] at hnd
  simp only[List.mem_cons,Prod.mk.injEq,reduceCtorEq,and_false,false_or] at h h'
  exact Qar hnd h h'
theorem Qwq {l:List (Nat×XV)} {t:Nat} {x:AV} (h:(imEnv l).lookup t=some x):∃y,lk t l=some y∧x=y.a:=by
 rw[Q4p] at h
 obtain⟨y,hy,rfl⟩:=Option.map_eq_some_iff.1 h
 exact⟨y,hy,rfl⟩
theorem Qux {l:List (Nat×XOb)} {t:Nat} {x:Ob} (h:(Q0 l).lookup t=some x):∃y,lk t l=some y∧x=y.o:=by
 rw[Qt] at h
 obtain⟨y,hy,rfl⟩:=Option.map_eq_some_iff.1 h
 exact⟨y,hy,rfl⟩
theorem Qa1 {env:List (Nat×XV)} {objs:List (Nat×XOb)}:∀ {l:List (Tmp×Nat×Ty)} {x:OwnT l} {ν:List (Nat×Nat)} {t:Nat} {y:XV},Q3c env objs l=some (x,ν)→(t,y) ∈ Q5p l x →
  (y = .d (.v (.slice none 0 0))∧lk t env=some y)∨∃(n k:Nat) (ty:Ty) (len:Nat),(n,k) ∈ ν∧lk t env=some (.os k ty 0 len)∧y = .os n ty 0 len
 | [],x,ν,t,y,h,hm=>by simp[Q5p] at hm
 | p :: r,x,ν,t,y,h,hm=>by
  unfold Q3c at h
  split at h
  ·rename_i k ty a len xs τ hv hr
   split at h
   ·rename_i tu l hk
    split at h
    ·rename_i he
     cases h1:ty.eqb p.2.2 with
     | false=>simp[h1] at h
     | true =>
     cases h2:Nat.beq a 0 with
     | false=>simp[h1,h2] at h
     | true =>
      simp only[h1,h2,cond_true,Option.some.injEq,Prod.mk.injEq] at h
      obtain⟨rfl,rfl⟩:=h
      have e1:=Ty.eqb_eq h1
      have e2:=Nat.eq_of_beq_eq_true h2
      subst e2
      simp only[Q5p,List.mem_cons] at hm
      rcases hm with hm | hm
      ·cases hm
       exact .inr ⟨p.2.1,k,ty,len,List.mem_cons_self,hv,by rw[e1]⟩
      ·rcases Qa1 hr hm with h | ⟨n,k',ty',len',h1,h2,h3⟩
       ·exact .inl h
       ·exact .inr ⟨n,k',ty',len',List.mem_cons_of_mem _ h1,h2,h3⟩
    ·cases h
   ·cases h
  ·rename_i xs τ hv hr
   simp only[Option.some.injEq,Prod.mk.injEq] at h
   obtain⟨rfl,rfl⟩:=h
   simp only[Q5p,List.mem_cons] at hm
   rcases hm with hm | hm
   ·cases hm; exact .inl ⟨rfl,hv⟩
   ·exact Qa1 hr hm
  ·cases h
theorem Q9p {env:List (Nat×XV)} {objs:List (Nat×XOb)}:∀ {l:List (Tmp×Nat×Ty)} {x:OwnT l} {ν:List (Nat×Nat)} {n:Nat} {y:XOb},Q3c env objs l=some (x,ν)→(n,y) ∈ Q4v l x →
  ∃k,(n,k) ∈ ν∧lk k objs=some y
 | [],x,ν,t,y,h,hm=>by simp[Q4v] at hm
 | p :: r,x,ν,t,y,h,hm=>by
  unfold Q3c at h
  split at h
  ·rename_i k ty a len xs τ hv hr
   split at h
   ·rename_i tu l hk
    split at h
    ·rename_i he
     cases h1:ty.eqb p.2.2 with
     | false=>simp[h1] at h
     | true =>
     cases h2:Nat.beq a 0 with
     | false=>simp[h1,h2] at h
     | true =>
      simp only[h1,h2,cond_true,Option.some.injEq,Prod.mk.injEq] at h
      obtain⟨rfl,rfl⟩:=h
      simp only[Q4v,List.mem_cons] at hm
      rcases hm with hm | hm
      ·cases hm
       refine⟨k,List.mem_cons_self,?_⟩
       rw[hk]
       have e0:=Ty.eqb_eq he
       obtain⟨a1,a2,a3⟩:=p
       simp only at he e0 ⊢
       subst e0
       rfl
      ·obtain⟨k',h1,h2⟩:=Q9p hr hm
       exact⟨k',List.mem_cons_of_mem _ h1,h2⟩
    ·cases h
   ·cases h
  ·rename_i xs τ hv hr
   simp only[Option.some.injEq,Prod.mk.injEq] at h
   obtain⟨rfl,rfl⟩:=h
   exact Q9p hr hm
  ·cases h
theorem Q60 {env:List (Nat×XV)} {objs:List (Nat×XOb)}:∀ {l:List (Tmp×Nat×Ty)} {x:OwnT l} {ν:List (Nat×Nat)},Q3c env objs l=some (x,ν)→∀p ∈ ν,p.1 ∈ ownNames l
 | [],x,ν,h=>by simp[Q3c] at h; simp[h]
 | p :: r,x,ν,h=>by
  unfold Q3c at h
  split at h
  ·rename_i k ty a len xs τ hv hr
   split at h
   ·split at h
    ·cases h1:ty.eqb p.2.2 with
     | false=>simp[h1] at h
     | true =>
     cases h2:Nat.beq a 0 with
     | false=>simp[h1,h2] at h
     | true =>
      simp only[h1,h2,cond_true,Option.some.injEq,Prod.mk.injEq] at h
      obtain⟨rfl,rfl⟩:=h
      intro q hq
      rcases List.mem_cons.1 hq with rfl | hq
      ·exact List.mem_cons_self
      ·exact List.mem_cons_of_mem _ (Q60 hr q hq)
    ·cases h
   ·cases h
  ·rename_i xs τ hv hr
   simp only[Option.some.injEq,Prod.mk.injEq] at h
   obtain⟨rfl,rfl⟩:=h
   intro q hq
   exact List.mem_cons_of_mem _ (Q60 hr q hq)
  ·cases h
theorem Q8l {env:List (Nat×XV)} {objs:List (Nat×XOb)}:∀ {l:List (Tmp×Nat×Ty)} {x:OwnT l} {ν:List (Nat×Nat)},Q3c env objs l=some (x,ν)→(ownNames l).Nodup→(ν.map (·.1)).Nodup
 | [],x,ν,h,_=>by simp[Q3c] at h; simp[h]
 | p :: r,x,ν,h,hnd=>by
  simp only[ownNames,List.nodup_cons] at hnd
  unfold Q3c at h
  split at h
  ·rename_i k ty a len xs τ hv hr
   split at h
   ·split at h
    ·cases h1:ty.eqb p.2.2 with
     | false=>simp[h1] at h
     | true =>
     cases h2:Nat.beq a 0 with
     | false=>simp[h1,h2] at h
     | true =>
      simp only[h1,h2,cond_true,Option.some.injEq,Prod.mk.injEq] at h
      obtain⟨rfl,rfl⟩:=h
      simp only[List.map_cons,List.nodup_cons]
      refine⟨fun hm=>?_,Q8l hr hnd.2⟩
      obtain⟨q,hq,he⟩:=List.mem_map.1 hm
      exact hnd.1 (he▸Q60 hr q hq)
    ·cases h
   ·cases h
  ·rename_i xs τ hv hr
   simp only[Option.some.injEq,Prod.mk.injEq] at h
   obtain⟨rfl,rfl⟩:=h
   exact Q8l hr hnd.2
  ·cases h
theorem Qe8 {objs:List (Nat×XOb)}:∀ {l:List (Nat×OK)} {x:ArrsT l} {k:Nat} {y:XOb},Q9j objs l=some x→(k,y) ∈ Q45 l x→lk k objs=some y∧k ∈ Q1p l
 | [],x,k,y,h,hm=>by simp[Q45] at hm
 | p :: r,x,k,y,h,hm=>by
  unfold Q9j at h
  split at h
  ·rename_i o xs hk hr
   split at h
   ·rename_i z he
    cases h
    simp only[Q45,List.mem_cons] at hm
    rcases hm with hm | hm
    ·cases hm
     refine⟨?_,List.mem_cons_self⟩
     rw[hk,OK.dec_eq he]
    ·obtain⟨h1,h2⟩:=Qe8 hr hm
     exact⟨h1,List.mem_cons_of_mem _ h2⟩
   ·cases h
  ·cases h
end Go.Xl
namespace Go.Xl
open Go.Ab
theorem Qaj {a b:List Nat} (h:(a++b).Nodup):a.Nodup∧b.Nodup∧∀x ∈ a,x ∉ b:=by
 rw[List.nodup_append] at h
 exact⟨h.1,h.2.1,fun x hx hb=>h.2.2 x hx x hb rfl⟩
theorem Q51:∀ {l:List (Tmp×Nat×Ty)} {x:OwnT l} {n:Nat} {y:XOb},(n,y) ∈ Q4v l x→n ∈ ownNames l∧∃t u,y = .arr t u
 | [],x,n,y,h=>by simp[Q4v] at h
 | p :: r,x,n,y,h=>by
  unfold Q4v at h
  split at h
  ·exact⟨List.mem_cons_of_mem _ (Q51 h).1,(Q51 h).2⟩
  ·rcases List.mem_cons.1 h with h | h
   ·cases h; exact⟨List.mem_cons_self,_,_,rfl⟩
   ·exact⟨List.mem_cons_of_mem _ (Q51 h).1,(Q51 h).2⟩
theorem Q2d {objs:List (Nat×XOb)} {k:Nat} {y:XOb} (h:lk k objs=some y):(Q0 objs).lookup k=some y.o:=by rw[Qt,h]; rfl
theorem Qfp {ns:List Nat}:∀ {l:List (Nat×OK)} {x:ArrsT l} {n:Nat} {y:XOb},Q9r ns l=true→(n,y) ∈ Q45 l x→Q1j ns y.o=true
 | [],x,n,y,ho,h=>by simp[Q45] at h
 | (q,ok) :: r,x,n,y,ho,h=>by
  have ho' : ok.okp ns=true∧Q9r ns r=true:=by
   simp only[Q9r] at ho
   cases hx:ok.okp ns with
   | false=>simp[hx] at ho
   | true=>simp only[hx,cond_true] at ho; exact⟨rfl,ho⟩
  unfold Q45 at h
  rcases List.mem_cons.1 h with h | h
  ·cases h
   cases ok with
   | arr t=>exact Qa3 _ _ _
   | mit m =>
    have h1:=ho'.1
    simp only[OK.okp] at h1
    show(!ns.contains m)=true
    cases hc:ns.contains m with
    | false=>rfl
    | true=>rw[(Qg m ns).2 (List.contains_iff_mem.1 hc)] at h1; cases h1
   | mapt m k v =>
    have h1:=ho'.1
    simp only[OK.okp] at h1
    show(!ns.contains m)=true
    cases hc:ns.contains m with
    | false=>rfl
    | true=>rw[(Qg m ns).2 (List.contains_iff_mem.1 hc)] at h1; cases h1
   | _=>rfl
  ·exact Qfp ho'.2 h
theorem Q8m:∀(l:List (Nat×OK)) (x:ArrsT l),(Q45 l x).map (·.1)=Q1p l
 | [],x=>rfl
 | p :: r,x=>by simp only[Q45,List.map_cons,Q1p,Q8m r]
theorem Qdc:∀(l:List (Nat×List VK×Option TypeId)) (y:ObjsT l),(Q47 l y).map (·.1)=l.map (·.1)
 | [],y=>rfl
 | p :: r,y=>by simp only[Q47,List.map_cons,Qdc r]
theorem Qjf {α:Type} {c:Cut} {ν:List (Nat×Nat)} {x:Option α} {y:α} (h:ownOk c ν x=some y):(ownNames c.own).Nodup∧(∀k ∈ ownNames c.own,k ∉ c.others)∧(ν.map (·.2)).Nodup∧(∀k ∈ ν.map (·.2),k ∉ c.others) ∧
  (∀k ∈ ownNames c.own,1000≤k)∧(∀k ∈ c.labs,k ∉ ownNames c.own)∧Q89 (ownNames c.own) c.vars=true∧Q86 (ownNames c.own) c.objs=true∧Q9r (c.labs++ownNames c.own) c.arrs=true∧x=some y:=by
 unfold ownOk at h
 cases h1:Q1r (ownNames c.own) with
 | false=>simp[h1] at h
 | true =>
 cases h2:apart (ownNames c.own) c.others with
 | false=>simp[h1,h2] at h
 | true =>
 cases h3:Q1r (ν.map (·.2)) with
 | false=>simp[h1,h2,h3] at h
 | true =>
 cases h4:apart (ν.map (·.2)) c.others with
 | false=>simp[h1,h2,h3,h4] at h
 | true =>
 cases h5:(ownNames c.own).all (Nat.ble 1000) with
 | false=>simp only[h1,h2,h3,h4,h5,cond_true,cond_false] at h; cases h
 | true =>
 cases h6:apart c.labs (ownNames c.own) with
 | false=>simp only[h1,h2,h3,h4,h5,h6,cond_true,cond_false] at h; cases h
 | true =>
 cases h7:Q89 (ownNames c.own) c.vars with
 | false=>simp only[h1,h2,h3,h4,h5,h6,h7,cond_true,cond_false] at h; cases h
 | true =>
 cases h8:Q86 (ownNames c.own) c.objs with
 | false=>simp only[h1,h2,h3,h4,h5,h6,h7,h8,cond_true,cond_false] at h; cases h
 | true =>
 cases h9:Q9r (c.labs++ownNames c.own) c.arrs with
 | false=>simp only[h1,h2,h3,h4,h5,h6,h7,h8,h9,cond_true,cond_false] at h; cases h
 | true =>
  simp only[h1,h2,h3,h4,h5,h6,h7,h8,h9,cond_true] at h
  exact⟨Q10 h1,apart_spec h2,Q10 h3,apart_spec h4,fun k hk=>Nat.le_of_ble_eq_true (List.all_eq_true.1 h5 k hk),apart_spec h6,rfl,rfl,rfl,h⟩
theorem Qmf {nm kl:List Nat} {c:Cut} {s:XSt} {x:c.T} (h:proj nm kl c s=some x):∃(σ τ0:Lab) (ν:List (Nat×Nat)),Q5j s.env c.vars=some (x.1,σ)∧Q5e s.objs c.objs=some (x.2.1,τ0) ∧
  Q3c s.env s.objs c.own=some (x.2.2.1,ν)∧Q9j s.objs c.arrs=some x.2.2.2∧Q90 s (c.labs++ownNames c.own) c.keepS=true∧Q7j s (c.labs++ownNames c.own) c.keepO=true ∧
  (∀n ∈ Q2o (σ++τ0)++kl,n ∈ s.live)∧(Q2o (σ++τ0)++kl).Nodup∧(c.labs++kl).Nodup∧(∀k ∈ nm,k ∈ c.others)∧(∀t ∈ c.keepS,t ∉ slotsOf c.vars++Q3w c.own) ∧
  (∀k ∈ c.keepO,k ∉ Q2g c.objs++(ownNames c.own++Q1p c.arrs))∧ownOk c ν (some x)=some x:=by
 unfold proj at h
 split at h
 ·rename_i x1 σ y1 τ0 u1 ν v1 hx hy hu hv
  cases h1:Q90 s (c.labs++ownNames c.own) c.keepS with
  | false=>simp[h1] at h
  | true =>
  cases h2:Q7j s (c.labs++ownNames c.own) c.keepO with
  | false=>simp[h1,h2] at h
  | true =>
  cases h3:subL (Q2o (σ++τ0)++kl) s.live with
  | false=>simp only[h1,h2,h3,cond_true,cond_false] at h; cases h
  | true =>
  cases h4:Q1r (Q2o (σ++τ0)++kl) with
  | false=>simp only[h1,h2,h3,h4,cond_true,cond_false] at h; cases h
  | true =>
  cases h5:Q1r (c.labs++kl) with
  | false=>simp only[h1,h2,h3,h4,h5,cond_true,cond_false] at h; cases h
  | true =>
  cases h6:subL nm c.others with
  | false=>simp only[h1,h2,h3,h4,h5,h6,cond_true,cond_false] at h; cases h
  | true =>
  cases h7:apart c.keepS (slotsOf c.vars++Q3w c.own) with
  | false=>simp only[h1,h2,h3,h4,h5,h6,h7,cond_true,cond_false] at h; cases h
  | true =>
  cases h8:apart c.keepO (Q2g c.objs++(ownNames c.own++Q1p c.arrs)) with
  | false=>simp only[h1,h2,h3,h4,h5,h6,h7,h8,cond_true,cond_false] at h; cases h
  | true =>
   simp only[h1,h2,h3,h4,h5,h6,h7,h8,cond_true] at h
   have h9:=(Qjf h).2.2.2.2.2.2.2.2.2
   cases h9
   exact⟨σ,τ0,ν,hx,hy,hu,hv,rfl,rfl,Q2t h3,Q10 h4,Q10 h5,Q2t h6,apart_spec h7,apart_spec h8,h⟩
 ·cases h
theorem RA.osl_name {g g' : Gh} {w:World} {k k' off len sz:Nat} {v:Value} (h:RA g w (.osl k off len sz) v) (hk:g'.ρ k' = g.ρ k):RA g' w (.osl k' off len sz) v:=by
 cases h with
 | nm _ _ _ h=>exact .nm _ _ _ (by rw[hk]; exact h)
theorem Qac {nm:List Nat} {c:Cut} {s s0:XSt} {x:c.T} (h:proj nm (keepL s0 c) c s=some x) (hi1:∀t ∈ c.keepS,∀x,t ∉ s.wl→lk t s.env=some x→lk t s0.env=some x)
  (hi2:∀k ∈ c.keepO,∀x,k ∉ s.ol→lk k s.objs=some x→lk k s0.objs=some x) {S:Sig} {B:Base} {g:Gh} {w:World} {a:Act} (hs:SR S B g w s.im a)
  (hnm:S.names=nm):∃g',SR S B g' w (gen s0 c x).im a:=by
 generalize hkl:keepL s0 c=kl at h
 obtain⟨σ,τ0,ν,hx,hy,hu,hv,h1,h2,l3,l4,l5,l6,l7,l8,hown⟩:=Qmf h
 obtain⟨w1,w2,w3,w4,w5,w6,w7,w8,w9,-⟩:=Qjf hown
 generalize hτ:σ++τ0=τ at l3 l4
 have k1:=Qf5 h1
 have k2:=Qd5 h2
 obtain⟨n4a,n4b,n4c⟩:=Qaj l4
 obtain⟨n5a,n5b,n5c⟩:=Qaj l5
 have hmap:τ.map (·.1)=c.labs:=by
  rw[← hτ,List.map_append,Qdf hx,Qd9 hy]; rfl
 have hνn:=Q8l hu w1
 have hνm:=Q60 hu
 have hr:=hs.hr
 let g':=cutGh g τ kl ν
 have hβ:∀n,g'.β n=cond (inl n kl) (g.β n) (match lk n τ with | some (some m)=>g.β m | some none=>some none | none=>none):=fun n=>rfl
 have hρ:∀k,k ∉ ownNames c.own→g'.ρ k=g.ρ k:=by
  intro k hk
  show(match lk k ν with | some k=>g.ρ k | none=>g.ρ k)=g.ρ k
  cases hl:lk k ν with
  | none=>rfl
  | some z=>exact absurd (hνm _ (Q4u hl)) hk
 have hρν:∀n k,(n,k) ∈ ν→g'.ρ n=g.ρ k:=by
  intro n k hm
  show(match lk n ν with | some k=>g.ρ k | none=>g.ρ n)=g.ρ k
  rw[Qdu hνn hm]
 have βkeep:∀n,n ∈ kl→g'.β n=g.β n:=by
  intro n hn
  rw[hβ,(Qg _ _).2 hn]; rfl
 have βnew:∀n m,(n,some m) ∈ τ→g'.β n=g.β m:=by
  intro n m hm
  have hn:n ∈ c.labs:=by rw[← hmap]; exact List.mem_map_of_mem (f:=(·.1)) hm
  have hk:inl n kl=false:=by
   cases hh:inl n kl with
   | false=>rfl
   | true=>exact absurd ((Qg _ _).1 hh) (n5c n hn)
  rw[hβ,hk,Qdu (by rw[hmap]; exact n5a) hm]; rfl
 have βother:∀n,n ∉ c.labs→n ∉ kl→g'.β n=none:=by
  intro n hn hk
  have hk' : inl n kl=false:=by
   cases hh:inl n kl with
   | false=>rfl
   | true=>exact absurd ((Qg _ _).1 hh) hk
  rw[hβ,hk']
  cases hl:lk n τ with
  | none=>rfl
  | some z=>exact absurd (by rw[← hmap]; exact List.mem_map_of_mem (f:=(·.1)) (Q4u hl)) hn
 -- where a live label comes from
 have βsrc:∀n b,g'.β n=some (some b)→(n ∈ kl∧g.β n=some (some b))∨∃m,(n,some m) ∈ τ∧g.β m=some (some b):=by
  intro n b hb
  by_cases hk:n ∈ kl
  ·exact .inl ⟨hk,by rw[← βkeep n hk]; exact hb⟩
  ·by_cases hn:n ∈ c.labs
   ·rw[← hmap] at hn
    obtain⟨z,hz⟩:=Qfi hn
    cases z with
    | some m=>exact .inr ⟨m,Q4u hz,by rw[← βnew n m (Q4u hz)]; exact hb⟩
    | none =>
     have hk' : inl n kl=false:=by
      cases hh:inl n kl with
      | false=>rfl
      | true=>exact absurd ((Qg _ _).1 hh) hk
     rw[hβ,hk',hz] at hb
     simp at hb
   ·rw[βother n hn hk] at hb; cases hb
 have hη:∀n,g'.η n=cond (inl n kl) (g.η n) (fun _=>none):=fun n=>rfl
 have ηkeep:∀n,n ∈ kl→g'.η n=g.η n:=by
  intro n hn
  rw[hη,(Qg _ _).2 hn]; rfl
 have ηoff:∀n,n ∉ kl→∀i,g'.η n i=none:=by
  intro n hn i
  rw[hη]
  cases hh:inl n kl with
  | false=>rfl
  | true=>exact absurd ((Qg _ _).1 hh) hn
 have ht:Trans (c.labs++ownNames c.own) g w g' w:=by
  refine⟨.refl _ _,fun k hk=>hρ k fun hm=>hk (List.mem_append_right _ hm),fun n ob hn he=>?_,fun L hL he=>?_⟩
  ·by_cases hk:n ∈ kl
   ·exact⟨by rw[← βkeep n hk]; exact he,fun _ _=>⟨rfl,rfl⟩⟩
   ·rw[βother n (fun hm=>hn (List.mem_append_left _ hm)) hk] at he; cases he
  ·by_cases hk:L ∈ kl
   ·exact⟨ηkeep L hk,fun _ _ _=>⟨rfl,rfl⟩⟩
   ·rw[βother L (fun hm=>hL (List.mem_append_left _ hm)) hk] at he; cases he
 have hσ:∀n m,(n,some m) ∈ τ→∀ob,g'.β n=some ob→g.β m=some ob:=fun n m hm ob he=>by rw[← βnew n m hm]; exact he
 have notOwn:∀k,k ∈ c.others→k ∉ ownNames c.own:=fun k hk hm=>w2 k hm hk
 -- the objects
 have hobj:∀k o,(Q0 (gen s0 c x).objs).lookup k=some o→∃k0 p,s.im.X.objs.lookup k0=some p∧g'.ρ k=g.ρ k0∧ObRel g' w (g.ρ k0) o∧((k,k0) ∈ ν∨(k0=k∧k ∈ c.others)):=by
  intro k o hk
  obtain⟨y,hyl,rfl⟩:=Qux hk
  have hm:=Q4u hyl
  rcases List.mem_append.1 hm with hm | hm
  ·obtain⟨vs,cs,ty,u,σ',e1,e2,rfl,e4,e5,e6⟩:=Qfd hy hm
   have hoth:k ∈ c.others:=List.mem_append_left _ (List.mem_append_left _ e5)
   refine⟨k,_,lk_im e1,hρ k (notOwn k hoth),?_,.inr ⟨rfl,hoth⟩⟩
   have:=hr.objs k _ (lk_im e1)
   cases this with
   | cells _ _ arr T r1 r2 r3 r4 =>
    have pc:=Q4d (g:=g) (g':=g') (w:=w) (ns:=ownNames c.own) (vs:=arr.toList) rfl hρ (e6 _ w8) e2 (fun n m hm=>hσ n m (by rw[← hτ]; exact List.mem_append_right _ (e4 _ hm))) (by
     intro i x v hx hv
     exact r3 i x.a v (by rw[Q4n,hx]; rfl) (by simpa using hv))
    refine .cells _ _ arr T r1 (by rw[Q8,pc.2,← Q8]; exact r2) ?_ r4
    intro i x v hx hv
    rw[Q4n,Option.map_eq_some_iff] at hx
    obtain⟨z,hz,rfl⟩:=hx
    exact pc.1 i z v hz (by simpa using hv)
  ·rcases List.mem_append.1 hm with hm | hm
   ·obtain⟨k0,q1,q2⟩:=Q9p hu hm
    obtain⟨_,t,u,rfl⟩:=Q51 hm
    exact⟨k0,_,Q2d q2,hρν _ _ q1,(hr.objs k0 _ (Q2d q2)).keep ht rfl (.inr (Qa3 _ _ _)),.inl q1⟩
   ·rcases List.mem_append.1 hm with hm | hm
    ·obtain⟨q1,q2⟩:=Qe8 hv hm
     have hoth:k ∈ c.others:=List.mem_append_left _ (List.mem_append_right _ q2)
     exact⟨k,_,Q2d q1,hρ k (notOwn k hoth),(hr.objs k _ (Q2d q1)).keep ht rfl (.inr (Qfp w9 hm)),.inr ⟨rfl,hoth⟩⟩
    ·obtain⟨hk1,hk2⟩:=Q5a hm
     obtain⟨q1,z,q2,q3⟩:=k2 k hk1
     have:=hi2 k hk1 z q1 q2
     rw[hk2] at this
     cases this
     have hl:s.im.X.objs.lookup k=some y.o:=by
      show(Q0 s.objs).lookup k=_
      rw[Qt,q2]; rfl
     have hoth:k ∈ c.others:=List.mem_append_right _ hk1
     exact⟨k,_,hl,hρ k (notOwn k hoth),(hr.objs k _ hl).keep ht rfl (.inr q3),.inr ⟨rfl,hoth⟩⟩
 refine⟨g',hs.defers,hs.size,?_,?_⟩
 ·refine⟨?_,hr.sane,hr.base,hr.io,hr.le,hr.frame,?_,?_,?_,?_,?_,?_,?_,?_,?_,hr.eta.stepN (fun L hL=>?_) (Nat.le_refl _) (fun n b hn=>?_) (fun k o hk=>?_)⟩
  rotate_right 3
  ·by_cases hk:L ∈ kl
   ·exact .inl ⟨by rw[← βkeep L hk]; exact hL,ηkeep L hk⟩
   ·exact .inr (ηoff L hk)
  ·rcases βsrc n b hn with ⟨a1,a2⟩ | ⟨m,a1,a2⟩
   ·exact hr.eta.tipN a2
   ·exact hr.eta.tipN a2
  ·obtain⟨k0,p,hp,he,_⟩:=hobj k o hk
   rw[he]; exact hr.eta.objN hp
  ·intro k hk
   have hk':=l6 k (hnm▸hk)
   refine⟨(hρ k (notOwn k hk')).trans (hr.keep k hk).1,?_⟩
   show((Q0 (gen s0 c x).objs).lookup k).isSome=true
   rw[Qt,Option.isSome_map]
   have key:k ∈ (gen s0 c x).objs.map (·.1):=by
    unfold gen
    simp only[List.map_append,Qdc,Q8m,List.mem_append]
    unfold Cut.others at hk'
    simp only[List.mem_append] at hk'
    rcases hk' with (hm | hm) | hm
    ·exact .inl hm
    ·exact .inr (.inr (.inl hm))
    ·refine .inr (.inr (.inr ?_))
     obtain⟨q1,z,q2,q3⟩:=k2 k hm
     have hz:=hi2 k hm z q1 q2
     have:∀(l:List Nat),k ∈ l→k ∈ (Q3g s0.objs l).map (·.1):=by
      intro l
      induction l with
      | nil=>simp
      | cons j r ih =>
       intro hj
       unfold Q3g
       rcases List.mem_cons.1 hj with rfl | hj
       ·rw[hz]; exact List.mem_cons_self
       ·split
        ·exact List.mem_cons_of_mem _ (ih hj)
        ·exact ih hj
     exact this _ hm
   obtain⟨z,hz⟩:=Qfi key
   rw[hz]; rfl
  ·intro k o hk
   obtain⟨k0,p,hp,he,ho,_⟩:=hobj k o hk
   rw[he]; exact ho
  ·intro k o hk; obtain⟨k0,p,hp,he,_⟩:=hobj k o hk; show g.γ (g'.ρ k)=0; rw[he]; exact hr.objγ k0 p hp
  ·intro k k' o o' hk hk' he
   obtain⟨k0,p,hp,e1,_,d1⟩:=hobj k o hk
   obtain⟨k0',q,hq,e2,_,d2⟩:=hobj k' o' hk'
   have he' : g.ρ k0=g.ρ k0':=by rw[← e1,← e2]; exact he
   have:=hr.objinj k0 k0' p q hp hq he'
   subst this
   rcases d1 with d1 | ⟨d1,d1'⟩ <;> rcases d2 with d2 | ⟨d2,d2'⟩
   ·have inj:∀(ν:List (Nat×Nat)),(ν.map (·.2)).Nodup→(k,k0) ∈ ν→(k',k0) ∈ ν→k=k':=by
     intro ν
     induction ν with
     | nil=>intro _ h; simp at h
     | cons p r ih =>
      intro hnd h h'
      simp only[List.map_cons,List.nodup_cons] at hnd
      rcases List.mem_cons.1 h with z | z <;> rcases List.mem_cons.1 h' with z' | z'
      ·subst z; cases z'; rfl
      ·subst z; exact absurd (List.mem_map.2 ⟨_,z',rfl⟩) hnd.1
      ·subst z'; exact absurd (List.mem_map.2 ⟨_,z,rfl⟩) hnd.1
      ·exact ih hnd.2 z z'
    exact inj ν w3 d1 d2
   ·subst d2; exact absurd d2' (w4 _ (List.mem_map_of_mem (f:=(·.2)) d1))
   ·subst d1; exact absurd d1' (w4 _ (List.mem_map_of_mem (f:=(·.2)) d2))
   ·exact d1.symm.trans d2
  ·intro k o hk; obtain⟨k0,p,hp,he,_⟩:=hobj k o hk; show B.n0≤g'.ρ k∨B.allowed (g'.ρ k); rw[he]; exact hr.objnew k0 p hp
  ·intro n
   show n ∈ c.labs++keepL s0 c↔_
   rw[hkl]
   rw[List.mem_append]
   constructor
   ·rintro (hn | hn)
    ·have hn':=hn
     rw[← hmap] at hn'
     obtain⟨z,hz⟩:=Qfi hn'
     cases z with
     | some m =>
      rw[βnew n m (Q4u hz)]
      exact(hr.live m).1 (l3 m (List.mem_append_left _ (Q3y.2 ⟨n,Q4u hz⟩)))
     | none =>
      have hk' : inl n kl=false:=by
       cases hh:inl n kl with
       | false=>rfl
       | true=>exact absurd ((Qg _ _).1 hh) (n5c n hn)
      rw[hβ,hk',hz]; rfl
    ·rw[βkeep n hn]
     exact(hr.live n).1 (l3 n (List.mem_append_right _ hn))
   ·intro hn
    by_cases hk:n ∈ kl
    ·exact .inr hk
    ·by_cases hl:n ∈ c.labs
     ·exact .inl hl
     ·rw[βother n hl hk] at hn; cases hn
  ·intro n m b hn hm
   rcases βsrc n b hn with ⟨a1,a2⟩ | ⟨p,a1,a2⟩ <;> rcases βsrc m b hm with ⟨b1,b2⟩ | ⟨q,b1,b2⟩
   ·exact hr.tipinj n m b a2 b2
   ·have:=hr.tipinj n q b a2 b2
    subst this
    exact absurd a1 (n4c n (Q3y.2 ⟨m,b1⟩))
   ·have:=hr.tipinj p m b a2 b2
    subst this
    exact absurd b1 (n4c p (Q3y.2 ⟨n,a1⟩))
   ·have:=hr.tipinj p q b a2 b2
    subst this
    exact Qar n4a a1 b1
  ·intro n b k o hn hk
   obtain⟨k0,p,hp,he,_⟩:=hobj k o hk
   rw[he]
   rcases βsrc n b hn with ⟨a1,a2⟩ | ⟨m,a1,a2⟩
   ·exact hr.tipobj n b k0 p a2 hp
   ·exact hr.tipobj m b k0 p a2 hp
  ·intro n b hn
   rcases βsrc n b hn with ⟨a1,a2⟩ | ⟨m,a1,a2⟩
   ·exact hr.tipnew n b a2
   ·exact hr.tipnew m b a2
  ·intro n b hn
   rcases βsrc n b hn with ⟨a1,a2⟩ | ⟨m,a1,a2⟩
   ·exact hr.tiplt n b a2
   ·exact hr.tiplt m b a2
 ·intro t y hty
  obtain⟨z,hz,rfl⟩:=Qwq hty
  rcases List.mem_append.1 (Q4u hz) with hm | hm
  ·obtain⟨v,z0,u,σ',e1,e2,rfl,e4,e5⟩:=Qep hx hm
   obtain⟨val,hv,hra⟩:=hs.env t z0.a (Q2y e1)
   exact⟨val,hv,VK.proj_ra (g:=g) (g':=g') (w:=w) (ns:=ownNames c.own) e2 rfl hρ (e5 _ w7) (fun n m hm=>hσ n m (by rw[← hτ]; exact List.mem_append_left _ (e4 _ hm))) hra⟩
  ·rcases List.mem_append.1 hm with hm | hm
   ·rcases Qa1 hu hm with ⟨rfl,e1⟩ | ⟨n,k,ty,len,e1,e2,rfl⟩
    ·obtain⟨val,hv,hra⟩:=hs.env t _ (Q2y e1)
     exact⟨val,hv,hra.mono ht (.d _)⟩
    ·obtain⟨val,hv,hra⟩:=hs.env t _ (Q2y e2)
     exact⟨val,hv,RA.osl_name hra (hρν _ _ e1)⟩
   ·obtain⟨hk1,hk2⟩:=Q82 hm
    obtain⟨q1,z1,q2,q3⟩:=k1 t hk1
    have:=hi1 t hk1 z1 q1 q2
    rw[hk2] at this
    cases this
    obtain⟨val,hv,hra⟩:=hs.env t z.a (Q2y q2)
    exact⟨val,hv,hra.mono ht (Q3f q3)⟩
theorem Quf {nm kl:List Nat} {c:Cut} {s:XSt} {x:c.T} (h:proj nm kl c s=some x):(∀t ∈ c.keepS,t ∉ slotsOf c.vars++Q3w c.own)∧∀k ∈ c.keepO,k ∉ Q2g c.objs++(ownNames c.own++Q1p c.arrs):=by
 obtain⟨σ,τ0,ν,hx,hy,hu,hv,h1,h2,l3,l4,l5,l6,l7,l8,hown⟩:=Qmf h
 exact⟨l7,l8⟩
end Go.Xl
namespace Go.Xl
open Go.Ab
inductive An where
 | lf
 | seq (a b:An)
 | join (c:Cut) (a b:An)
 | cond (a b:An)
 | blk (a:An)
 | loop (c:Cut) (a:An)
 | stop
 | fg (a b:An)
 /-- between the two: the slices in these slots own their blocks no longer; they are data -/
 | fz (ts:List Nat) (a b:An)
noncomputable def An.l:An→An
 | .seq a _=>a
 | .cond a _=>a
 | .blk a=>a
 | .join _ a _=>a
 | .loop _ a=>a
 | .lf=>.lf
 | .stop=>.lf
 | .fg a _=>a
 | .fz _ a _=>a
noncomputable def An.r:An→An
 | .seq _ b=>b
 | .cond _ b=>b
 | .join _ _ b=>b
 | _=>.lf
noncomputable def Qq3 {R:Type}:An→Option R→Option R
 | .stop,_=>none
 | _,x=>x
theorem Qh3 {R:Type} {an:An} {x:Option R} {r:R} (h:Qq3 an x=some r):x=some r:=by
 cases an <;> first | exact h | cases h
noncomputable def iter {σ:Type} {R:Type} (f:(σ→Option R)→σ→Option R):Nat→σ→Option R
 | 0,_=>none
 | n+1,x=>f (iter f n) x
noncomputable def Q53 {σ:Type} {R:Type} (k:σ→Option R) (f:(σ→Option R)→Option R):Option R:=f k
noncomputable def Qzl {α β:Type} (x:Option α) (a:β) (f:α→β):β :=
 match x with
 | none=>a
 | some y=>f y
noncomputable def Q7g {R:Type}:(l:List (Tmp×Nat×Ty))→OwnT l→(OwnT l→Option R)→Option R
 | [],u,K=>K u
 | _ :: r,u,K=>Qzl u.1 (Q7g r u.2 fun v=>K (none,v)) (fun y=>Q7g r u.2 fun v=>K (some y,v))
theorem Q8r {R:Type}:∀(l:List (Tmp×Nat×Ty)) (u:OwnT l) (K:OwnT l→Option R),Q7g l u K=K u
 | [],u,K=>rfl
 | p :: r,u,K=>by
  obtain⟨a,v⟩:=u
  unfold Q7g
  cases a with
  | none=>exact Q8r r v _
  | some y=>exact Q8r r v _
noncomputable def fzK {R:Type}:List Nat→XSt→(XSt→Option R)→Option R
 | [],s,K=>K s
 | t :: ts,s,K=>match lk t s.env with
  | some (.os k ty a n)=>match lk k s.objs with
   | some (.arr u l)=>cond (u.eqb ty) (cond (Nat.ble 1000 k) (cond (Nat.ble (a+n) l.length)
     (fzK ts ⟨(t,.d (.sl u ((l.drop a).take n))) :: s.env,dropX k s.objs,s.live,t :: s.wl,k :: s.ol⟩ K) none) none) none
   | _=>none
  | _=>fzK ts s K
noncomputable def Q9f (i j:Nat):Bool:=Nat.beq i j
noncomputable def base (st:XSt):XSt:=⟨st.env,st.objs,st.live,[],[]⟩
noncomputable def relog (c:Cut) (st s:XSt):XSt:=⟨s.env,s.objs,s.live,s.wl++((slotsOf c.vars++Q3w c.own)++st.wl),s.ol++((Q2g c.objs++(ownNames c.own++Q1p c.arrs))++st.ol)⟩
noncomputable def relog0 (st s:XSt):XSt:=⟨s.env,s.objs,s.live,s.wl++st.wl,s.ol++st.ol⟩
section
variable (P:Program) (Γ:List (Ent P)) (own nm:List Nat) (nt N:Nat) {R:Type}
noncomputable def Q4g (f:XSt→Option R) (K:Exit→XSt→Option R):Exit→XSt→Option R
 | .normal,s=>f s
 | e,s=>K e s
noncomputable def Qs1 (id:Nat) (K:Exit→XSt→Option R):Exit→XSt→Option R
 | .exit j,s=>cond (Q9f j id) (K .normal s) (K (.exit j) s)
 | e,s=>K e s
noncomputable def Qip (x:Operand) (b:Bool) (st:XSt):XSt :=
 match x with
 | .tmp t=>Qu t b st
 | _=>st
noncomputable def exec:Code→An→XSt→(Exit→XSt→Option R)→Option R
 | .skip,_,st,K=>K .normal st
 | .label _,_,st,K=>K .normal st
 | .exit id,_,st,K=>K (.exit id) st
 | .ret,_,st,K=>K .ret st
 | .region _ ops draw,_,st,K=>xops P Γ own nt ops draw st.env (K .normal) ops.toList [] st
 | .seq a b,an,st,K =>
  match an with
  | .join c x y =>
   Q53 (fun z=>Q7g c.own z.2.2.1 fun u=>exec b y (relog c st (gen (base st) c (z.1,z.2.1,u,z.2.2.2))) K)
    (fun k=>exec a x (base st) (Q4g (fun s=>Option.bind (proj nm (keepL (base st) c) c s) k) (fun e s=>K e (relog0 st s))))
  | .fg x y=>exec a x st (Q4g (fun s=>exec b y (fgSt s) K) K)
  | .fz ts x y=>exec a x st (Q4g (fun s=>fzK ts s fun s'=>exec b y s' K) K)
  | _=>exec a an.l st (Q4g (fun s=>exec b an.r s K) K)
 | .cond c a b,an,st,K =>
  match xeval st c with
  | some (.d (.b v))=>cond v (Qq3 an.l (exec a an.l (Qip c true st) K)) (Qq3 an.r (exec b an.r (Qip c false st) K))
  | _=>none
 | .block id c,an,st,K=>exec c an.l st (Qs1 id K)
 | .loop b,an,st,K =>
  match an with
  | .loop c x=>Option.bind (proj nm (keepL (base st) c) c (base st)) (iter (fun rec z=>Q7g c.own z.2.2.1 fun u=>exec b x (gen (base st) c (z.1,z.2.1,u,z.2.2.2)) (Q4g (fun s=>Option.bind (proj nm (keepL (base st) c) c s) rec) (fun e s=>K e (relog c st s)))) N)
  | _=>none
 | _,_,_,_=>none
end
section
variable {P:Program} {Γ:List (Ent P)} {own nm:List Nat} {N:Nat} {R:Type}
noncomputable def PostE (s0:XSt) (K:Exit→XSt→Option R) (r:R):Exit→St→Prop:=fun e s=>∃st',s=st'.im∧Inv s0 st'∧K e st' = some r
theorem Qex {t:Nat} {y:XV}:∀(l:List (Tmp×VK)) (x:VarsT l),(t,y) ∈ Q6c l x→t ∈ slotsOf l
 | [],x,h=>by simp[Q6c] at h
 | p :: r,x,h=>by
  simp only[Q6c,List.mem_cons] at h
  simp only[slotsOf,List.mem_cons]
  rcases h with h | h
  ·cases h; exact .inl rfl
  ·exact .inr (Qex r _ h)
theorem Qe2 {t:Nat} {y:XV}:∀(l:List (Tmp×Nat×Ty)) (x:OwnT l),(t,y) ∈ Q5p l x→t ∈ Q3w l
 | [],x,h=>by simp[Q5p] at h
 | p :: r,x,h=>by
  simp only[Q5p,List.mem_cons] at h
  simp only[Q3w,List.mem_cons]
  rcases h with h | h
  ·cases h; exact .inl rfl
  ·exact .inr (Qe2 r _ h)
theorem Qed {k:Nat} {y:XOb}:∀(l:List (Nat×List VK×Option TypeId)) (x:ObjsT l),(k,y) ∈ Q47 l x→k ∈ Q2g l
 | [],x,h=>by simp[Q47] at h
 | p :: r,x,h=>by
  simp only[Q47,List.mem_cons] at h
  simp only[Q2g,List.mem_cons]
  rcases h with h | h
  ·cases h; exact .inl rfl
  ·exact .inr (Qed r _ h)
theorem Qww {s0:XSt} {c:Cut} {x:c.T} {t:Nat} {y:XV} (h:lk t (gen s0 c x).env=some y):t ∈ slotsOf c.vars++Q3w c.own∨lk t s0.env=some y:=by
 rcases List.mem_append.1 (Q4u h) with hm | hm
 ·exact .inl (List.mem_append_left _ (Qex _ _ hm))
 ·rcases List.mem_append.1 hm with hm | hm
  ·exact .inl (List.mem_append_right _ (Qe2 _ _ hm))
  ·exact .inr (Q82 hm).2
theorem Qs6 {s0:XSt} {c:Cut} {x:c.T} {t:Nat} {y:XOb} (h:lk t (gen s0 c x).objs=some y):t ∈ Q2g c.objs++(ownNames c.own++Q1p c.arrs)∨lk t s0.objs=some y:=by
 rcases List.mem_append.1 (Q4u h) with hm | hm
 ·exact .inl (List.mem_append_left _ (Qed _ _ hm))
 ·rcases List.mem_append.1 hm with hm | hm
  ·exact .inl (List.mem_append_right _ (List.mem_append_left _ (Q51 hm).1))
  ·rcases List.mem_append.1 hm with hm | hm
   ·exact .inl (List.mem_append_right _ (List.mem_append_right _ (by rw[← Q8m]; exact List.mem_map_of_mem (f:=(·.1)) hm)))
   ·exact .inr (Q5a hm).2
theorem Inv.relog {s0 st s:XSt} {c:Cut} {x:c.T} (h:Inv s0 st) (h' : Inv (gen (base st) c x) s):Inv s0 (relog c st s):=by
 refine⟨fun t y ht hy=>?_,fun k y hk hy=>?_⟩
 ·unfold Xl.relog at ht hy
  simp only at ht hy
  rw[List.mem_append,List.mem_append (s:=slotsOf c.vars++Q3w c.own),not_or,not_or] at ht
  have h1:=h'.env t y ht.1 hy
  rcases Qww h1 with h2 | h2
  ·exact absurd h2 ht.2.1
  ·exact h.env t y ht.2.2 h2
 ·unfold Xl.relog at hk hy
  simp only at hk hy
  rw[List.mem_append,List.mem_append (s:=Q2g c.objs++(ownNames c.own++Q1p c.arrs)),not_or,not_or] at hk
  have h1:=h'.objs k y hk.1 hy
  rcases Qs6 h1 with h2 | h2
  ·exact absurd h2 hk.2.1
  ·exact h.objs k y hk.2.2 h2
theorem Inv.relog0 {s0 st s:XSt} (h:Inv s0 st) (h' : Inv (base st) s):Inv s0 (relog0 st s):=by
 refine⟨fun t y ht hy=>?_,fun k y hk hy=>?_⟩
 ·simp only[Xl.relog0,List.mem_append,not_or] at ht hy
  exact h.env t y ht.2 (h'.env t y ht.1 hy)
 ·simp only[Xl.relog0,List.mem_append,not_or] at hk hy
  exact h.objs k y hk.2 (h'.objs k y hk.1 hy)
theorem Inv.fg {s0 s:XSt} (h:Inv s0 s):Inv s0 (fgSt s):=by
 refine⟨h.env,fun k x hk hx=>?_⟩
 simp only[fgSt,List.mem_append,not_or] at hk hx
 rw[lk_fg] at hx
 cases hl:lk k s.objs with
 | none=>rw[hl] at hx; cases hx
 | some o =>
  rw[hl] at hx
  simp only[Option.map_some,Option.some.injEq] at hx
  cases hm:Qb4 o with
  | true=>exact absurd (Qgw hl hm) hk.1
  | false =>
   rw[Qim hm] at hx
   subst hx
   exact h.objs k o hk.2 hl
theorem Qj2 {S:Sig} {R:Type} {K:XSt→Option R} {r:R} {s0:XSt}:∀(ts:List Nat) (s:XSt),Inv s0 s→fzK ts s K=some r →
  ∃s',K s' = some r∧Inv s0 s'∧∀(B:Base) (g:Gh) (w:World) (a:Act),SR S B g w s.im a→∃g',SR S B g' w s'.im a
 | [],s,hi,h=>⟨s,h,hi,fun B g w a hs=>⟨g,hs⟩⟩
 | t :: ts,s,hi,h=>by
  unfold fzK at h
  split at h
  ·rename_i k ty a n ht
   split at h
   ·rename_i u l hk
    cases h1:u.eqb ty with
    | false=>simp[h1] at h
    | true =>
    cases h2:Nat.ble 1000 k with
    | false=>simp[h1,h2] at h
    | true =>
    cases h3:Nat.ble (a+n) l.length with
    | false=>simp[h1,h2,h3] at h
    | true =>
     simp only[h1,h2,h3,cond_true] at h
     have e1:=Ty.eqb_eq h1
     subst e1
     have e2:=Nat.le_of_ble_eq_true h2
     have e3:=Nat.le_of_ble_eq_true h3
     have hi' : Inv s0 ⟨(t,.d (.sl u ((l.drop a).take n))) :: s.env,dropX k s.objs,s.live,t :: s.wl,k :: s.ol⟩:=by
      refine⟨fun t' x ht' hx=>?_,fun k' x hk' hx=>?_⟩
      ·simp only[List.mem_cons,not_or] at ht'
       rw[Qo ht'.1] at hx
       exact hi.env t' x ht'.2 hx
      ·simp only[List.mem_cons,not_or] at hk'
       exact hi.objs k' x hk'.2 (Q67 hx)
     obtain⟨s',q1,q2,q3⟩:=Qj2 ts _ hi' h
     refine⟨s',q1,q2,fun B g w act hs=>?_⟩
     have hnm:k ∉ S.names:=fun hm=>by have:=S.small k hm; omega
     have ho:s.im.X.objs.lookup k=some (.cells ((l.map u.ds).flatten.map .d) none):=Q2d hk
     obtain⟨f1,f2,f3⟩:=hs.hr.freeze (k:=k) (sz:=u.size) (es:=l.map u.ds) hnm ho (by
      intro i cs hcs
      rw[List.getElem?_map,Option.map_eq_some_iff] at hcs
      obtain⟨x,_,rfl⟩:=hcs
      exact u.ds_length x)
     have hX:Ab.dropObj k s.im.X=⟨Q0 (dropX k s.objs),s.live⟩:=by
      rw[Q5b]; rfl
     rw[hX] at f1
     refine q3 B _ w act ⟨hs.defers,hs.size,f1,?_⟩
     intro t' x hx
     have hx:(imEnv ((t,.d (.sl u ((l.drop a).take n))) :: s.env)).lookup t' = some x:=hx
     rw[Q4p] at hx
     by_cases he:t' = t
     ·subst he
      simp only[Q12,Q2b,Nat.beq_refl,cond_true,Option.map_some,Option.some.injEq] at hx
      subst hx
      obtain⟨v,hv,hr⟩:=hs.env t' (XV.os k u a n).a (by
       show(imEnv s.env).lookup t' = _
       rw[Q4p,ht]; rfl)
      refine⟨v,hv,?_⟩
      have:=f3 a n v (by simpa using e3) hr
      rw[← List.map_drop,← List.map_take] at this
      exact this
     ·rw[Qo he,← Q4p] at hx
      obtain⟨v,hv,hr⟩:=hs.env t' x hx
      exact⟨v,hv,hr.mono f2 (.nil _)⟩
   ·cases h
  ·exact Qj2 ts s hi h
theorem Inv.base (st:XSt):Inv (base st) (Xl.base st):=.refl _
theorem Qmg {S:Sig} {st:XSt} {x:Operand} {b:Bool} {s0:XSt} (hx:xeval st x=some (.d (.b b))) (hi:Inv s0 st) :
  Inv s0 (Qip x b st)∧∀(B:Base) (g:Gh) (w:World) (a:Act),SR S B g w st.im a→SR S B g w (Qip x b st).im a:=by
 cases x with
 | tmp t =>
  replace hx:=(Qz hx).2
  exact⟨hi.know hx,fun B g w a h=>h.known (Q2y hx)⟩
 | const v=>exact⟨hi,fun _ _ _ _ h=>h⟩
 | func f=>exact⟨hi,fun _ _ _ _ h=>h⟩
 | global g=>exact⟨hi,fun _ _ _ _ h=>h⟩
theorem Q3s (ops:Array Oper):∀(j:Nat) o,ops.toList[j]? = some o→ops[0+j]? = some o:=by
 intro j o h
 rw[Nat.zero_add]
 simpa using h
theorem Qtb {S:Sig} {c:Code} {Q Q' : Exit→St→Prop} {st:St} (h:AWp P S c Q st) (hq:∀e s,Q e s→∀(B:Base) (g:Gh) (w:World) (a:Act),SR S B g w s a→∃s' g',Q' e s'∧SR S B g' w s' a):AWp P S c Q' st:=by
 intro B g w a hs
 refine wp_mono (h B g w a hs) ?_
 rintro e a' w' ⟨s,g',q,hs'⟩
 exact hq e s q B g' w' a' hs'
theorem Q70 (hm:P.follows .mixedOrders=true) {S:Sig} (hnm:S.names=nm):∀(c:Code) (an:An) (st s0:XSt) (K:Exit→XSt→Option R) (r:R),Inv s0 st →
  exec P Γ own nm S.N N c an st K=some r→AWp P S c (PostE s0 K r) st.im:=by
 intro c
 induction c with
 | skip=>intro an st s0 K r hi h; exact Qht ⟨st,rfl,hi,h⟩
 | label l=>intro an st s0 K r hi h; exact Qek ⟨st,rfl,hi,h⟩
 | exit id=>intro an st s0 K r hi h; exact Qi5 ⟨st,rfl,hi,h⟩
 | ret=>intro an st s0 K r hi h; exact Qlg ⟨st,rfl,hi,h⟩
 | region id ops draw =>
  intro an st s0 K r hi h
  simp only[exec] at h
  cases draw with
  | false =>
   have:=Q99 (S:=S) ops.toList 0 [] st (Q3s ops) hi h
   refine Qp3 (n:=ops.toList.length) (by simp) ?_
   rw[List.range_eq_range']
   exact this
  | true =>
   have:=Qkv (S:=S) ops.toList 0 [] st (Q3s ops) hi h
   exact Qql ops.toList.length hm this
 | seq a b iha ihb =>
  intro an st s0 K r hi h
  have plain:exec P Γ own nm S.N N a an.l st (Q4g (fun s=>exec P Γ own nm S.N N b an.r s K) K)=some r→AWp P S (.seq a b) (PostE s0 K r) st.im:=by
   intro h
   refine Q7l (Q1i (iha _ st s0 _ r hi h) ?_)
   rintro e s ⟨st',rfl,hi',hk⟩
   cases e with
   | normal=>exact ihb _ st' s0 K r hi' hk
   | _=>exact⟨st',rfl,hi',hk⟩
  unfold exec at h
  split at h
  ·rename_i cut x y
   unfold Q53 at h
   refine Q7l (Q1i (iha x (base st) (base st) _ r (.refl _) h) ?_)
   rintro e s ⟨st',rfl,hi',hk⟩
   cases e with
   | normal =>
    simp only[Q4g,Option.bind_eq_some_iff] at hk
    obtain⟨z,hz,hk⟩:=hk
    rw[Q8r] at hk
    intro B g w act hs
    obtain⟨g',hs'⟩:=Qac (s0:=base st) hz (fun t _=>hi'.env t) (fun k _=>hi'.objs k) hs hnm
    refine ihb y (relog cut st (gen (base st) cut z)) s0 K r (hi.relog (.refl _)) hk B g' w act hs'
   | _=>exact⟨relog0 st st',rfl,hi.relog0 hi',hk⟩
  ·rename_i x y
   refine Q7l (Q1i (iha x st s0 _ r hi h) ?_)
   rintro e s ⟨st',rfl,hi',hk⟩
   cases e with
   | normal=>exact fun B g w act hs=>ihb y (fgSt st') s0 K r hi'.fg hk B g w act (SR.fg hs)
   | _=>exact⟨st',rfl,hi',hk⟩
  ·rename_i ts x y
   refine Q7l (Q1i (iha x st s0 _ r hi h) ?_)
   rintro e s ⟨st',rfl,hi',hk⟩
   cases e with
   | normal =>
    obtain⟨s',q1,q2,q3⟩:=Qj2 (S:=S) ts st' hi' hk
    exact fun B g w act hs=>let ⟨g',hs'⟩:=q3 B g w act hs; ihb y s' s0 K r q2 q1 B g' w act hs'
   | _=>exact⟨st',rfl,hi',hk⟩
  ·exact plain h
 | cond c a b iha ihb =>
  intro an st s0 K r hi h
  unfold exec at h
  split at h
  ·rename_i v hv
   have hsees:=Q5 hv
   refine Qcc (b:=v) hsees (fun hb=>?_) (fun hb=>?_)
   ·subst hb
    simp only[cond_true] at h
    replace h:=Qh3 h
    obtain⟨k1,k2⟩:=Qmg (S:=S) hv hi
    intro B g w act hs
    exact iha _ _ s0 K r k1 h B g w act (k2 B g w act hs)
   ·subst hb
    simp only[cond_false] at h
    replace h:=Qh3 h
    obtain⟨k1,k2⟩:=Qmg (S:=S) hv hi
    intro B g w act hs
    exact ihb _ _ s0 K r k1 h B g w act (k2 B g w act hs)
  ·cases h
 | block id c ih =>
  intro an st s0 K r hi h
  simp only[exec] at h
  refine Qad (Q1i (ih _ st s0 _ r hi h) ?_)
  rintro e s ⟨st',rfl,hi',hk⟩
  cases e with
  | exit j =>
   simp only[Qs1,Q9f] at hk
   simp only[Qft]
   cases hb:Nat.beq j id with
   | true =>
    simp only[hb,cond_true] at hk
    rw[if_pos (Nat.eq_of_beq_eq_true hb)]
    exact⟨st',rfl,hi',hk⟩
   | false =>
    simp only[hb,cond_false] at hk
    rw[if_neg (Nat.ne_of_beq_eq_false hb)]
    exact⟨st',rfl,hi',hk⟩
  | _=>exact⟨st',rfl,hi',hk⟩
 | loop b ih =>
  intro an st s0 K r hi h
  unfold exec at h
  split at h
  ·rename_i cut x
   obtain⟨z0,hz0,h⟩:=Option.bind_eq_some_iff.1 h
   intro B g w act hs
   obtain⟨g',hs'⟩:=Qac (s0:=base st) hz0 (fun _ _ _ _ h=>h) (fun _ _ _ _ h=>h) hs hnm
   generalize hf:(fun(rec:cut.T→Option R) (z:cut.T)=>Q7g cut.own z.2.2.1 fun u=>exec P Γ own nm S.N N b x (gen (base st) cut (z.1,z.2.1,u,z.2.2.2)) (Q4g (fun s=>Option.bind (proj nm (keepL (base st) cut) cut s) rec) (fun e s=>K e (relog cut st s))))=f at h
   have key:∀(n:Nat) (z:cut.T),iter f n z=some r→AWp P S (.loop b) (PostE s0 K r) (gen (base st) cut z).im:=by
    intro n z hn
    refine Qia (fun n s=>∃z,iter f n z=some r∧s=(gen (base st) cut z).im) n ⟨z,hn,rfl⟩ ?_
    rintro n s ⟨z,hn,rfl⟩
    cases n with
    | zero=>simp[iter] at hn
    | succ n =>
     simp only[iter] at hn
     rw[← hf] at hn
     replace hn:=(Q8r _ _ _).symm.trans hn
     refine Qtb (ih x _ (gen (base st) cut z) _ r (.refl _) hn) ?_
     rintro e s ⟨st',rfl,hi',hk⟩ B g w act hs
     cases e with
     | normal =>
      simp only[Q4g,Option.bind_eq_some_iff] at hk
      obtain⟨z',hz',hk⟩:=hk
      obtain⟨ap1,ap2⟩:=Quf hz'
      obtain⟨g',hs'⟩:=Qac (s:=st') (s0:=base st) hz' (fun t ht y hw hy=>(Qww (hi'.env t y hw hy)).resolve_left (ap1 t ht)) (fun k hk y hw hy=>(Qs6 (hi'.objs k y hw hy)).resolve_left (ap2 k hk)) hs hnm
      exact⟨_,g',⟨n,Nat.lt_succ_self n,z',by rw[hf] at hk; exact hk,rfl⟩,hs'⟩
     | _=>exact⟨_,g,⟨relog cut st st',rfl,hi.relog hi',hk⟩,hs⟩
   exact key N z0 h B g' w act hs'
  ·cases h
 | _ =>
  intros
  simp_all [exec]
end
end Go.Xl
namespace Go.Xl
open Go.Ab
@[reducible] noncomputable def Fun:List Ty→Type→Type
 | [],R=>R
 | t :: r,R=>t.T→Fun r R
@[reducible] noncomputable def ResT:List Ty→Type
 | []=>Unit
 | [t]=>t.T
 | t :: u :: r=>t.T×ResT (u :: r)
noncomputable def resL:(ts:List Ty)→ResT ts→List XV
 | [],_=>[]
 | [t],x=>[.d (t.xv x)]
 | t :: u :: r,x=>.d (t.xv x.1) :: resL (u :: r) x.2
noncomputable def tupX:List XV→XV
 | [x]=>x
 | l=>.tup l
noncomputable def resXV (ts:List Ty) (x:ResT ts):XV:=tupX (resL ts x)
theorem Q4a (l:List XV):(tupX l).a=Q9m (asOf l):=by
 cases l with
 | nil=>rfl
 | cons x r=>cases r <;> rfl
noncomputable def Q5x:(ts:List Ty)→List XV→Option (ResT ts)
 | [],[]=>some ()
 | [t],[x]=>Qiy t x
 | t :: u :: r,x :: xs=>match Qiy t x,Q5x (u :: r) xs with
  | some y,some ys=>some (y,ys)
  | _,_=>none
 | _,_=>none
inductive AsLe:List AV→List AV→Prop
 | nil:AsLe [] []
 | cons {x y:AV} {r s:List AV}:ALe x y→AsLe r s→AsLe (x :: r) (y :: s)
theorem AsLe.length {a b:List AV} (h:AsLe a b):a.length=b.length:=by
 induction h with
 | nil=>rfl
 | cons _ _ ih=>simp[ih]
theorem AsLe.get {a b:List AV} (h:AsLe a b):∀ {i:Nat} {y:AV},b[i]? = some y→∃x,a[i]? = some x∧ALe x y:=by
 induction h with
 | nil=>intro i y hy; simp at hy
 | cons h1 _ ih =>
  intro i y hy
  cases i with
  | zero=>simp at hy; subst hy; exact⟨_,rfl,h1⟩
  | succ i=>simp at hy; simpa using ih hy
theorem AsLe.tup {a b:List AV} (h:AsLe a b):ALe (.tup a) (.tup b):=by
 intro g w v hr
 cases hr with
 | tup _ vs hl hc =>
  refine .tup b vs (h.length▸hl) fun i c u hb hu=>?_
  obtain⟨x,hx,hle⟩:=h.get hb
  exact hle _ _ _ (hc i x u hx hu)
theorem Qlq:∀ {ts:List Ty} {xs:List XV} {y:ResT ts},Q5x ts xs=some y→AsLe (asOf xs) (asOf (resL ts y))
 | [],xs,y,h=>by
  cases xs with
  | nil=>exact .nil
  | cons _ _=>simp[Q5x] at h
 | [t],xs,y,h=>by
  cases xs with
  | nil=>simp[Q5x] at h
  | cons x r =>
   cases r with
   | nil=>exact .cons (Qma h) .nil
   | cons _ _=>simp[Q5x] at h
 | t :: u :: r,xs,y,h=>by
  cases xs with
  | nil=>simp[Q5x] at h
  | cons x xs =>
   simp only[Q5x] at h
   split at h
   ·rename_i y1 ys h1 h2
    cases h
    exact .cons (Qma h1) (Qlq h2)
   ·cases h
theorem Qpx {ts:List Ty} {xs:List XV} {y:ResT ts} (h:Q5x ts xs=some y):ALe (tupX xs).a (resXV ts y).a:=by
 have hl:=Qlq h
 unfold resXV
 rw[Q4a,Q4a]
 generalize asOf xs=a at hl
 generalize asOf (resL ts y)=b at hl
 cases hl with
 | nil=>exact .refl _
 | cons h1 h2 =>
  cases h2 with
  | nil=>exact h1
  | cons h3 h4=>exact(AsLe.cons h1 (.cons h3 h4)).tup
noncomputable def xres (P:Program) (st:XSt):List ResultVar→Option (List XV)
 | []=>some []
 | .tmp t :: r=>match xeval st (.tmp t),xres P st r with
  | some x,some l=>some (x :: l)
  | _,_=>none
 | .cell a ty :: r=>match xeval st (.tmp a),tyI P ty,xres P st r with
  | some (.nm k (.p off)),some (agg,sz),some l=>match lk k st.objs with
   | some (.cells cs _)=>cond agg (cond (Nat.ble (off+sz) cs.length) (some (xjoin ((cs.drop off).take sz) :: l)) none)
     (cond (Nat.beq sz 1) (match cs[off]? with
      | some v=>some (v :: l)
      | none=>none) none)
   | _=>none
  | _,_,_=>none
theorem Q4x {P:Program} {st:XSt}:∀ {rs:List ResultVar} {xs:List XV},xres P st rs=some xs→RVs P st.im rs (asOf xs)
 | [],xs,h=>by simp[xres] at h; subst h; exact .nil
 | .tmp t :: r,xs,h=>by
  simp only[xres] at h
  split at h
  ·rename_i x l hx hl
   cases h
   exact .cons _ _ _ _ (.tmp t _ (Qz hx).1 (.eq _ (Q2y (Qz hx).2))) (Q4x hl)
  ·cases h
 | .cell a ty :: r,xs,h=>by
  simp only[xres] at h
  split at h
  ·rename_i k off agg sz l ha ht hl
   have hT:=tyI_I ht
   split at h
   ·rename_i cs oty hk
    have hk':=lk_im hk
    cases agg with
    | true =>
     simp only[cond_true] at h
     cases hb:Nat.ble (off+sz) cs.length with
     | false=>simp[hb] at h
     | true =>
      simp only[hb,cond_true,Option.some.injEq] at h
      subst h
      simp only[asOf]
      refine .cons _ _ _ _ (.cell a ty k off _ (Qz ha).1 (.eq _ (Q2y (Qz ha).2)) (.agg sz (asOf cs) oty _ hT hk' (by rw[Q8]; exact Nat.le_of_ble_eq_true hb) ?_)) (Q4x hl)
      rw[Qg8,Q8i,Q84]
    | false =>
     simp only[cond_false] at h
     cases hb:Nat.beq sz 1 with
     | false=>simp[hb] at h
     | true =>
      have:=Nat.eq_of_beq_eq_true hb
      subst this
      simp only[hb,cond_true] at h
      split at h
      ·rename_i v hv
       cases h
       exact .cons _ _ _ _ (.cell a ty k off _ (Qz ha).1 (.eq _ (Q2y (Qz ha).2)) (.one (asOf cs) oty _ hT hk' (by rw[Q4n,hv]; rfl))) (Q4x hl)
      ·cases h
   ·cases h
  ·cases h
noncomputable def envX:Nat→List XV→List (Nat×XV)
 | _,[]=>[]
 | n,x :: r=>(n,x) :: envX (n+1) r
theorem Q94 (n:Nat) (l:List XV):imEnv (envX n l)=envOf n (asOf l):=by
 induction l generalizing n with
 | nil=>rfl
 | cons x r ih=>simp only[envX,imEnv,List.map_cons,asOf,envOf] at ih ⊢; rw[ih]
noncomputable def frz:List XV→List (Nat×XOb)→Option (List XV×List (Nat×XOb))
 | [],objs=>some ([],objs)
 | .os k t a len :: r,objs=>match lk k objs with
  | some (.arr u l)=>cond (u.eqb t) (cond (Nat.ble (a+len) l.length) (match frz r (dropX k objs) with
   | some (ys,o)=>some (.d (.sl u ((l.drop a).take len)) :: ys,o)
   | none=>none) none) none
  | _=>none
 | x :: r,objs=>match frz r objs with
  | some (ys,o)=>some (x :: ys,o)
  | none=>none
inductive AsTo (g:Gh) (g' : Gh) (w:World):List XV→List XV→Prop
 | nil:AsTo g g' w [] []
 | cons {x y:XV} {r s:List XV}:(∀v,RA g w x.a v→RA g' w y.a v)→AsTo g g' w r s→AsTo g g' w (x :: r) (y :: s)
theorem AsTo.pre {g g1 g' : Gh} {w:World} {l m:List XV} (h:AsTo g1 g' w l m) (ht:Trans [] g w g1 w):AsTo g g' w l m:=by
 induction h with
 | nil=>exact .nil
 | cons h1 _ ih=>exact .cons (fun v hv=>h1 v (hv.mono ht (.nil _))) ih
theorem AsTo.length {g g' : Gh} {w:World} {l m:List XV} (h:AsTo g g' w l m):l.length=m.length:=by
 induction h with
 | nil=>rfl
 | cons _ _ ih=>simp[ih]
theorem AsTo.get {g g' : Gh} {w:World} {l m:List XV} (h:AsTo g g' w l m):∀ {i:Nat} {y:XV},m[i]? = some y→∃x,l[i]? = some x∧∀v,RA g w x.a v→RA g' w y.a v:=by
 induction h with
 | nil=>intro i y hy; simp at hy
 | cons h1 _ ih =>
  intro i y hy
  cases i with
  | zero=>simp at hy; subst hy; exact⟨_,rfl,h1⟩
  | succ i=>simp at hy; simpa using ih hy
theorem AsTo.tupX {g g' : Gh} {w:World} {l m:List XV} (h:AsTo g g' w l m) {v:Value} (hr:RA g w (tupX l).a v):RA g' w (tupX m).a v:=by
 have tup:∀l m:List XV,AsTo g g' w l m→RA g w (.tup (asOf l)) v→RA g' w (.tup (asOf m)) v:=by
  intro l m h hr
  cases hr with
  | tup _ vs hl hc =>
   refine .tup _ vs (by rw[Q8,← h.length,← Q8]; exact hl) fun i c u hb hu=>?_
   rw[Q4n,Option.map_eq_some_iff] at hb
   obtain⟨y,hy,rfl⟩:=hb
   obtain⟨x,hx,hxy⟩:=h.get hy
   exact hxy u (hc i x.a u (by rw[Q4n,hx]; rfl) hu)
 cases h with
 | nil=>exact tup [] [] .nil hr
 | cons h1 h2 =>
  cases h2 with
  | nil=>exact h1 v hr
  | cons h3 h4=>exact tup _ _ (.cons h1 (.cons h3 h4)) hr
theorem Qiv {B:Base} {w:World} {live:List Nat}:∀ {xs ys:List XV} {objs objs' : List (Nat×XOb)},frz xs objs=some (ys,objs')→∀g,HR [] B g w ⟨Q0 objs,live⟩ →
  ∃g',HR [] B g' w ⟨Q0 objs',live⟩∧Trans [] g w g' w∧AsTo g g' w xs ys
 | [],ys,objs,objs',h,g,hr=>by
  simp only[frz,Option.some.injEq,Prod.mk.injEq] at h
  obtain⟨rfl,rfl⟩:=h
  exact⟨g,hr,.refl _ _ _,.nil⟩
 | x :: r,ys,objs,objs',h,g,hr=>by
  have other:(match frz r objs with | some (ys,o)=>some (x :: ys,o) | none=>none)=some (ys,objs')→∃g',HR [] B g' w ⟨Q0 objs',live⟩∧Trans [] g w g' w∧AsTo g g' w (x :: r) ys:=by
   intro h
   split at h
   ·rename_i zs o hz
    cases h
    obtain⟨g',h1,h2,h3⟩:=Qiv hz g hr
    exact⟨g',h1,h2,.cons (fun v hv=>hv.mono h2 (.nil _)) h3⟩
   ·cases h
  cases x with
  | os k t a len =>
   simp only[frz] at h
   split at h
   ·rename_i u l hk
    cases h1:u.eqb t with
    | false=>simp[h1] at h
    | true =>
    cases h2:Nat.ble (a+len) l.length with
    | false=>simp[h1,h2] at h
    | true =>
     simp only[h1,h2,cond_true] at h
     split at h
     ·rename_i zs o hz
      cases h
      have:=Ty.eqb_eq h1
      subst this
      have ho:=Q2d hk
      obtain⟨f1,f2,f3⟩:=hr.freeze (k:=k) (sz:=u.size) (es:=l.map u.ds) (ty:=none) (by simp) ho (by
       intro i cs hc
       rw[List.getElem?_map,Option.map_eq_some_iff] at hc
       obtain⟨y,_,rfl⟩:=hc
       exact u.ds_length y)
      have e:Ab.dropObj k ⟨Q0 objs,live⟩=⟨Q0 (dropX k objs),live⟩:=by
       rw[Q5b]; rfl
      rw[e] at f1
      obtain⟨g',h3,h4,h5⟩:=Qiv hz _ f1
      refine⟨g',h3,f2.trans h4,.cons (fun v hv=>?_) (h5.pre f2)⟩
      have hle:=Nat.le_of_ble_eq_true h2
      have:=f3 a len v (by simpa using hle) hv
      have:=this.mono h4 (.nil _)
      simp only[XV.a,XD.d]
      rw[List.map_take,List.map_drop]
      exact this
     ·cases h
   ·cases h
  | _=>exact other h
noncomputable def frzK {R:Type}:List XV→List (Nat×XOb)→(List XV→Option R)→Option R
 | [],_,K=>K []
 | .os k t a len :: r,objs,K=>match lk k objs with
  | some (.arr u l)=>cond (u.eqb t) (cond (Nat.ble (a+len) l.length) (frzK r (dropX k objs) fun ys=>K (.d (.sl u ((l.drop a).take len)) :: ys)) none) none
  | _=>none
 | x :: r,objs,K=>frzK r objs fun ys=>K (x :: ys)
theorem Qag {R:Type} {y:R}:∀ {xs:List XV} {objs:List (Nat×XOb)} {K:List XV→Option R},frzK xs objs K=some y→∃ys o,frz xs objs=some (ys,o)∧K ys=some y
 | [],objs,K,h=>⟨[],objs,rfl,h⟩
 | x :: r,objs,K,h=>by
  have other:(frzK r objs fun ys=>K (x :: ys))=some y→∃ys o,(match frz r objs with | some (ys,o)=>some (x :: ys,o) | none=>none)=some (ys,o)∧K ys=some y:=by
   intro h
   obtain⟨ys,o,h1,h2⟩:=Qag h
   exact⟨x :: ys,o,by rw[h1],h2⟩
  cases x with
  | os k t a len =>
   simp only[frzK] at h
   split at h
   ·rename_i u l hk
    cases h1:u.eqb t with
    | false=>simp[h1] at h
    | true =>
    cases h2:Nat.ble (a+len) l.length with
    | false=>simp[h1,h2] at h
    | true =>
     simp only[h1,h2,cond_true] at h
     obtain⟨ys,o,h3,h4⟩:=Qag h
     exact⟨.d (.sl u ((l.drop a).take len)) :: ys,o,by simp only[frz,hk,h1,h2,h3,cond_true],h4⟩
   ·cases h
  | _=>exact other h
noncomputable def Q92 (P:Program) (fn:Func) (res:List Ty) (s:XSt):Option (ResT res) :=
 match xres P s fn.results.toList with
 | some xs=>frzK xs s.objs fun ys=>Q5x res ys
 | none=>none
noncomputable def finish (P:Program) (fn:Func) (res:List Ty):Exit→XSt→Option (ResT res)
 | .ret,s=>Q92 P fn res s
 | .normal,s=>Q92 P fn res s
 | _,_=>none
noncomputable def runB (P:Program) (Γ:List (Ent P)) (own:List Nat) (N:Nat) (fn:Func) (an:An) (res:List Ty) (xs:List XV):Option (ResT res) :=
 match fn.body with
 | some c=>cond (Nat.ble fn.ntmps GB) (exec P Γ own [] fn.ntmps N c an ⟨envX 0 xs,[],[],[],[]⟩ (finish P fn res)) none
 | none=>none
theorem Does.le {P:Program} {f:FuncId} {args:List AV} {X X' : Store} {res res' : AV} (h:Does P f args X res X') (hle:ALe res res'):Does P f args X res' X':=by
 intro g w vs hr hl ha
 exact(h g w vs hr hl ha).mono fun e w' ⟨g',v,h1,h2,h3⟩=>⟨g',v,h1,hle g' w' v h2,h3⟩
theorem condG {α:Type} {n:Nat} {x:Option α} {y:α} (h:cond (Nat.ble n GB) x none=some y):n≤GB∧x=some y:=by
 cases hb:Nat.ble n GB with
 | false=>simp[hb] at h
 | true=>exact⟨Nat.le_of_ble_eq_true hb,by simpa[hb] using h⟩
theorem Qja {P:Program} {Γ:List (Ent P)} {own:List Nat} {N:Nat} {f:FuncId} {fn:Func} {an:An} {res:List Ty} {xs:List XV} {y:ResT res} (hm:P.follows .mixedOrders=true) (hf:P.funcs[f]? = some fn)
  (hn:Nat.ble xs.length fn.ntmps=true) (h:runB P Γ own N fn an res xs=some y):Does P f (asOf xs) X0 (resXV res y).a X0:=by
 unfold runB at h
 split at h
 ·rename_i c hc
  obtain⟨hG,h⟩:=condG h
  have hs:=Q70 (S:=⟨fn.ntmps,[],by simp⟩) hm rfl c an ⟨envX 0 xs,[],[],[],[]⟩ ⟨envX 0 xs,[],[],[],[]⟩ _ _ (.refl _) h
  have key:∀s',∀zs,xres P s' fn.results.toList=some zs→Q5x res zs=some y→True:=fun _ _ _ _=>trivial
  -- the result asq it stands
  intro g w vs hr hl ha
  refine calls_of_wp hf hc (wp_mono (hs (Base.of g w X0) g w _ ?_) ?_)
  ·refine⟨rfl,?_,hr,?_⟩
   ·have:=Nat.le_of_ble_eq_true hn
    rw[Q8] at hl
    simp; omega
   ·intro t x hx
    have hx' : (envOf 0 (asOf xs)).lookup t=some x:=by rw[← Q94]; exact hx
    obtain⟨_,hx'⟩:=Q46 hx'
    rw[Nat.sub_zero] at hx'
    have hlt:t < vs.size:=by have:=(List.getElem?_eq_some_iff.1 hx').1; omega
    refine⟨vs[t],?_,ha t x _ hx' (by simp[hlt])⟩
    have:=Nat.le_of_ble_eq_true hn
    rw[Q8] at hl
    rw[Q3r (by omega)]
    simp[Array.getElem?_append,hlt]
  ·rintro e a' w' ⟨s,g',⟨st',rfl,hi,hk⟩,hs'⟩
   have fin:Q92 P fn res st' = some y →
     a'.defers = []∧∃v,(results fn a'.tmps).run P w' = .ok v w'∧∃g' v_1,Ending.returned v=Ending.returned v_1∧RA g' w' (resXV res y).a v_1∧HR (X0.objs.map (·.1)) (Base.of g w X0) g' w' X0:=by
    intro h
    unfold Q92 at h
    split at h
    ·rename_i zs h1
     obtain⟨ys,o,h2,h⟩:=Qag h
     ·obtain⟨v,hv,hra⟩:=Q3v (Q4x h1) hs'
      obtain⟨g1,hr1,ht1,has⟩:=Qiv h2 g' hs'.hr
      have hs1:SR ⟨fn.ntmps,[],by simp⟩ (Base.of g w X0) g1 w' ⟨[],⟨Q0 o,st'.live⟩⟩ a':=⟨hs'.defers,hs'.size,hr1,by simp⟩
      have hw:Weak [] ⟨[],⟨Q0 o,st'.live⟩⟩ ⟨[],X0⟩:=⟨by simp,by simp[X0],by simp[X0],by simp⟩
      obtain⟨g'',ht,hs''⟩:=hs1.weaken' hw
      rw[← Q4a] at hra
      have hra':=(has.tupX hra).mono ht (.nil _)
      exact⟨hs'.defers,v,hv,g'',v,rfl,Qpx h g'' w' v hra',hs''.hr⟩
    ·cases h
   cases e with
   | ret=>exact fin hk
   | normal=>exact fin hk
   | _=>simp[finish] at hk
 ·cases h
noncomputable def Qa4 {α:Type}:(ts:List Ty)→(List XV→α)→List XV→Fun ts α
 | [],f,acc=>f acc
 | t :: r,f,acc=>fun x=>Qa4 r f (acc++[.d (t.xv x)])
noncomputable def runF (P:Program) (Γ:List (Ent P)) (own:List Nat) (N:Nat) (fn:Func) (an:An) (args res:List Ty):Fun args (Option (ResT res)) :=
 Qa4 args (fun xs=>runB P Γ own N fn an res xs) []
noncomputable def Qbp (P:Program) (f:FuncId) (res:List Ty):(args:List Ty)→Fun args (Option (ResT res))→List XV→Prop
 | [],F,acc=>∀y,F=some y→Does P f (asOf acc) X0 (resXV res y).a X0
 | t :: r,F,acc=>∀x:t.T,Qbp P f res r (F x) (acc++[.d (t.xv x)])
theorem Qba {P:Program} {Γ:List (Ent P)} {own:List Nat} {N:Nat} {f:FuncId} {fn:Func} {an:An} {res:List Ty} (hm:P.follows .mixedOrders=true) (hf:P.funcs[f]? = some fn) :
  ∀(args:List Ty) (acc:List XV),Nat.ble (acc.length+args.length) fn.ntmps=true→Qbp P f res args (Qa4 args (fun xs=>runB P Γ own N fn an res xs) acc) acc
 | [],acc,hn=>fun y hy=>Qja hm hf (by simpa using hn) hy
 | t :: r,acc,hn=>fun x=>Qba hm hf r (acc++[.d (t.xv x)]) (by
   have:=Nat.le_of_ble_eq_true hn
   refine Nat.ble_eq_true_of_le ?_
   simp at this ⊢; omega)
theorem Qtq {P:Program} {Γ:List (Ent P)} {own:List Nat} {N:Nat} {f:FuncId} {fn:Func} {an:An} {args res:List Ty} (hm:P.follows .mixedOrders=true) (hf:P.funcs[f]? = some fn)
  (hn:Nat.ble args.length fn.ntmps=true):Qbp P f res args (runF P Γ own N fn an args res) [] :=
 Qba hm hf args [] (by simpa using hn)
noncomputable def appK {β R:Type}:(ts:List Ty)→Fun ts (Option β)→List Operand→List XV→List (Operand×XV)→(Option β→List (Operand×XV)→Option R)→Option R
 | [],F,[],[],acc,K=>K F acc
 | t :: r,F,x :: ops,v :: vs,acc,K=>match decXV t v with
  | some y=>appK r (F y) ops vs (acc++[(x,.d (t.xv y))]) K
  | none=>none
 | _,_,_,_,_,_=>none
noncomputable def Qx (o:Oper):List Operand :=
 match o.op with
 | .call c=>c.args.toList
 | _=>[]
noncomputable def Qs2 {R:Type} (args res:List Ty) (F:Fun args (Option (ResT res))) (o:Oper) (st:XSt) (vs:List XV) (K:Out→Option R):Option R :=
 appK args F (Qx o) vs [] fun Fv rd=>Option.bind Fv fun y=>K (Q9 st (resXV res y) rd)
theorem Qmz:∀(ts:List Ty) (y:ResT ts),Qc (asOf (resL ts y))=true
 | [],_=>rfl
 | [t],y=>rfl
 | t :: u :: r,y=>by simp only[resL,asOf,Qc,Qmz (u :: r) y.2]; rfl
theorem Qcz (ts:List Ty) (y:ResT ts):Q2i (resXV ts y).a=true:=by
 unfold resXV
 rw[Q4a]
 have:=Qmz ts y
 cases h:asOf (resL ts y) with
 | nil=>rfl
 | cons x r =>
  rw[h] at this
  cases r with
  | nil=>simp only[Q9m]; simp only[Qc,Bool.and_true] at this; exact this
  | cons z s=>simp only[Q9m,Q2i]; exact this
theorem Q24 {st:XSt} {x:Operand} {ops:List Operand} {v:XV} {vs:List XV} (h:Qh st (x :: ops)=some (v :: vs)):xeval st x=some v∧Qh st ops=some vs:=by
 simp only[Qh] at h
 split at h
 ·rename_i a l ha hl; cases h; exact⟨ha,hl⟩
 ·cases h
theorem Q6l {st:XSt} {x:Operand} {v:XV} {t:Ty} {y:t.T} (h:xeval st x=some v) (hd:decXV t v=some y):Sees st.im x (.d (t.dv y)):=by
 cases v with
 | d u=>exact Qll h (t.decv_spec hd)
 | tip n u l ty=>exact Qby (a:=.sl u l) (by simp[xd,h,XV.asD]) (t.decv_spec hd)
 | agg cs =>
  have hle:=Q9u hd
  cases x with
  | tmp t=>exact .tmp t _ (Qz h).1 (Q4r (Qz h).2 hle)
  | const u=>simp[xeval] at h
  | func f=>simp[xeval] at h
  | global k=>exact .glob k _ (Q4r h hle)
 | _=>simp[decXV] at hd
theorem Qsq {P:Program} {R:Type} {f:FuncId} {res:List Ty} {st:XSt} {K:Option (ResT res)→List (Operand×XV)→Option R} {r:R}:∀(ts:List Ty) (F:Fun ts (Option (ResT res))) (ops:List Operand) (vs:List XV) (acc:List (Operand×XV)) (aops:List Operand) (axs:List XV),
  Qbp P f res ts F axs→Qh st ops=some vs→acc=aops.zip axs→aops.length=axs.length→(∀p ∈ imRd acc,Sees st.im p.1 p.2)→Qc (asOf axs)=true→appK ts F ops vs acc K=some r →
  ∃(Fv:Option (ResT res)) (xs:List XV),xs.length=(aops++ops).length∧(∀y,Fv=some y→Does P f (asOf xs) X0 (resXV res y).a X0)∧Qc (asOf xs)=true ∧
   (∀p ∈ imRd ((aops++ops).zip xs),Sees st.im p.1 p.2)∧K Fv ((aops++ops).zip xs)=some r
 | [],F,ops,vs,acc,aops,axs,hs,hv,hacc,hlen,hsee,hda,h=>by
  cases ops with
  | nil =>
   cases vs with
   | nil =>
    subst hacc
    exact⟨F,axs,by simp[hlen],hs,hda,by simpa using hsee,by rw[List.append_nil]; exact h⟩
   | cons _ _=>simp[appK] at h
  | cons _ _=>simp[appK] at h
 | t :: ts,F,ops,vs,acc,aops,axs,hs,hv,hacc,hlen,hsee,hda,h=>by
  cases ops with
  | nil=>simp[appK] at h
  | cons x ops =>
   cases vs with
   | nil=>simp[appK] at h
   | cons v vs =>
    simp only[appK] at h
    obtain⟨hx,hvs⟩:=Q24 hv
    split at h
    ·rename_i y hy
     have:=Qsq ts (F y) ops vs _ (aops++[x]) (axs++[.d (t.xv y)]) (hs y) hvs (by rw[hacc,List.zip_append hlen]; rfl) (by simp[hlen]) (by
      intro p hp
      rw[Qw] at hp
      rcases List.mem_append.1 hp with hp | hp
      ·exact hsee p hp
      ·simp only[imRd,List.map_cons,List.map_nil,List.mem_singleton] at hp
       subst hp
       exact Q6l hx hy) (by
      have:∀l:List AV,Qc l=true→Qc (l++[.d (t.dv y)])=true:=by
       intro l
       induction l with
       | nil=>intro _; rfl
       | cons a r ih=>intro h; simp only[Qc,Bool.and_eq_true,List.cons_append] at h ⊢; exact⟨h.1,ih h.2⟩
      rw[Q1b]; exact this _ hda) h
     simpa using this
    ·cases h
noncomputable def mkEnt {P:Program} (id:FuncId) (args res:List Ty) (F:Fun args (Option (ResT res))) (hc:CallI P id) (hs:Qbp P id res args F []):Ent P where
 id:=id
 run:=Qs2 args res F
 ok:=by
  intro R o st aops ts vs K r ho hv h
  unfold Qs2 at h
  have e:Qx o=aops.toList:=by simp[Qx,ho]
  rw[e] at h
  obtain⟨Fv,xs,h1,h2,h3,h4,h5⟩:=Qsq (st:=st) args F aops.toList vs [] [] [] hs hv rfl rfl (by simp[imRd]) rfl h
  obtain⟨y,hy,hK⟩:=Option.bind_eq_some_iff.1 h5
  simp only[List.nil_append] at h1 h4 hK
  refine⟨_,hK,Q4 h4 fun X=>?_⟩
  have:=Qt1 (X:=X) (xs:=asOf xs) ho hc (h2 y hy) (by rw[Q8,h1]; simp) h3 (Qcz res y)
  rw[Q20]
  exact this
noncomputable def mkFn {P:Program} {Γ:List (Ent P)} {own:List Nat} {N:Nat} (id:FuncId) (fn:Func) (an:An) (args res:List Ty) (F:Fun args (Option (ResT res))) (hm:P.follows .mixedOrders=true) (hf:P.funcs[id]? = some fn)
  (hc:CallI P id) (hn:Nat.ble args.length fn.ntmps=true) (hE:runF P Γ own N fn an args res=F):Ent P :=
 mkEnt id args res F hc (hE▸Qtq hm hf hn)
end Go.Xl
namespace Go.Xl
open Go.Ab
inductive AK where
 | d (t:Ty)
 | c (f:Nat)
@[reducible] noncomputable def FunA:List AK→Type→Type
 | [],R=>R
 | .d t :: r,R=>t.T→FunA r R
 | .c _ :: r,R=>FunA r R
inductive RK where
 | d (t:Ty)
 | s
@[reducible] noncomputable def RK.T:RK→Type
 | .d t=>t.T
 | .s=>Nat
@[reducible] noncomputable def ResO:List RK→Type
 | []=>Unit
 | [r]=>r.T
 | r :: u :: rs=>r.T×ResO (u :: rs)
noncomputable def RK.val (k:Nat) (t:Ty):(r:RK)→r.T→XV
 | .d u,x=>.d (u.xv x)
 | .s,n=>.os k t 0 n
noncomputable def resLO (k:Nat) (t:Ty):(rs:List RK)→ResO rs→List XV
 | [],_=>[]
 | [r],x=>[r.val k t x]
 | r :: u :: rs,x=>r.val k t x.1 :: resLO k t (u :: rs) x.2
noncomputable def osLen (t:Ty):XV→Option Nat
 | .os k t' a n=>cond (Nat.beq k 1) (cond (t'.eqb t) (cond (Nat.beq a 0) (some n) none) none) none
 | _=>none
noncomputable def RK.dec (t:Ty):(r:RK)→XV→Option r.T
 | .d u,x=>decXV u x
 | .s,x=>osLen t x
noncomputable def decO (t:Ty):(rs:List RK)→List XV→Option (ResO rs)
 | [],[]=>some ()
 | [r],[x]=>r.dec t x
 | r :: u :: rs,x :: xs=>match r.dec t x,decO t (u :: rs) xs with
  | some y,some ys=>some (y,ys)
  | _,_=>none
 | _,_=>none
theorem RK.dec_le {t:Ty} {r:RK} {x:XV} {y:r.T} (h:r.dec t x=some y):ALe x.a (r.val 1 t y).a:=by
 cases r with
 | d u=>exact Q9u h
 | s =>
  change osLen t x=some y at h
  unfold osLen at h
  split at h
  ·rename_i k t' a n
   cases h1:Nat.beq k 1 with
   | false=>simp[h1] at h
   | true =>
   cases h2:t'.eqb t with
   | false=>simp[h1,h2] at h
   | true =>
   cases h3:Nat.beq a 0 with
   | false=>simp[h1,h2,h3] at h
   | true =>
    simp only[h1,h2,h3,cond_true,Option.some.injEq] at h
    have e1:=Nat.eq_of_beq_eq_true h1
    have e2:=Ty.eqb_eq h2
    have e3:=Nat.eq_of_beq_eq_true h3
    subst e1; subst e2; subst e3; subst h
    exact .refl _
  ·cases h
theorem Qsc {t:Ty}:∀ {rs:List RK} {xs:List XV} {y:ResO rs},decO t rs xs=some y→AsLe (asOf xs) (asOf (resLO 1 t rs y))
 | [],xs,y,h=>by
  cases xs with
  | nil=>exact .nil
  | cons _ _=>simp[decO] at h
 | [r],xs,y,h=>by
  cases xs with
  | nil=>simp[decO] at h
  | cons x xs =>
   cases xs with
   | nil=>exact .cons (RK.dec_le h) .nil
   | cons _ _=>simp[decO] at h
 | r :: u :: rs,xs,y,h=>by
  cases xs with
  | nil=>simp[decO] at h
  | cons x xs =>
   simp only[decO] at h
   split at h
   ·rename_i y1 ys h1 h2
    cases h
    exact .cons (RK.dec_le h1) (Qsc h2)
   ·cases h
theorem AsLe.tupX {a b:List XV} (hl:AsLe (asOf a) (asOf b)):ALe (Xl.tupX a).a (Xl.tupX b).a:=by
 rw[Q4a,Q4a]
 generalize asOf a=a at hl
 generalize asOf b=b at hl
 cases hl with
 | nil=>exact .refl _
 | cons h1 h2 =>
  cases h2 with
  | nil=>exact h1
  | cons h3 h4=>exact(AsLe.cons h1 (.cons h3 h4)).tup
noncomputable def finO (P:Program) (fn:Func) (t:Ty) (rs:List RK) (s:XSt):Option (List t.T×ResO rs) :=
 match lk 1 s.objs with
 | some (.arr u l)=>if h:u.eqb t=true then match xres P s fn.results.toList with
  | some xs=>match decO t rs xs with
   | some y=>some ((Ty.eqb_eq h▸l:List t.T),y)
   | none=>none
  | none=>none else none
 | _=>none
noncomputable def Qrz (P:Program) (fn:Func) (t:Ty) (rs:List RK):Exit→XSt→Option (List t.T×ResO rs)
 | .ret,s=>finO P fn t rs s
 | .normal,s=>finO P fn t rs s
 | _,_=>none
noncomputable def runBO (P:Program) (Γ:List (Ent P)) (own:List Nat) (N:Nat) (fn:Func) (an:An) (t:Ty) (rs:List RK) (l:List t.T) (n:Nat) (xs:List XV):Option (List t.T×ResO rs) :=
 match fn.body with
 | some c=>cond (Nat.ble fn.ntmps GB) (exec P Γ own [1] fn.ntmps N c an ⟨envX 0 (.os 1 t 0 n :: xs),[(1,.arr t l)],[],[],[]⟩ (Qrz P fn t rs)) none
 | none=>none
noncomputable def O1 (t:Ty) (l:List t.T):Store:=⟨[(1,(XOb.arr t l).o)],[]⟩
theorem Qrp {P:Program} {Γ:List (Ent P)} {own:List Nat} {N:Nat} {f:FuncId} {fn:Func} {an:An} {t:Ty} {rs:List RK} {l:List t.T} {n:Nat} {xs:List XV} {y:List t.T×ResO rs} (hm:P.follows .mixedOrders=true) (hf:P.funcs[f]? = some fn)
  (hn:Nat.ble (xs.length+1) fn.ntmps=true) (h:runBO P Γ own N fn an t rs l n xs=some y):Does P f (asOf (.os 1 t 0 n :: xs)) (O1 t l) (tupX (resLO 1 t rs y.2)).a (O1 t y.1):=by
 unfold runBO at h
 split at h
 ·rename_i c hc
  obtain⟨hG,h⟩:=condG h
  have hs:=Q70 (S:=⟨fn.ntmps,[1],by simp⟩) hm rfl c an _ _ _ _ (.refl _) h
  intro g w vs hr hl ha
  refine calls_of_wp hf hc (wp_mono (hs (Base.of g w (O1 t l)) g w _ ?_) ?_)
  ·refine⟨rfl,?_,hr,?_⟩
   ·have:=Nat.le_of_ble_eq_true hn
    rw[Q8] at hl
    simp at hl ⊢; omega
   ·intro s x hx
    have hx' : (envOf 0 (asOf (.os 1 t 0 n :: xs))).lookup s=some x:=by rw[← Q94]; exact hx
    obtain⟨_,hx'⟩:=Q46 hx'
    rw[Nat.sub_zero] at hx'
    have hlt:s < vs.size:=by have:=(List.getElem?_eq_some_iff.1 hx').1; omega
    refine⟨vs[s],?_,ha s x _ hx' (by simp[hlt])⟩
    have:=Nat.le_of_ble_eq_true hn
    rw[Q8,List.length_cons] at hl
    rw[Q3r (by omega)]
    simp[Array.getElem?_append,hlt]
  ·rintro e a' w' ⟨s,g',⟨st',rfl,hi,hk⟩,hs'⟩
   have fin:finO P fn t rs st' = some y →
     a'.defers = []∧∃v,(results fn a'.tmps).run P w' = .ok v w'∧∃g' v_1,Ending.returned v=Ending.returned v_1∧RA g' w' (tupX (resLO 1 t rs y.2)).a v_1∧HR ((O1 t l).objs.map (·.1)) (Base.of g w (O1 t l)) g' w' (O1 t y.1):=by
    intro h
    unfold finO at h
    split at h
    ·rename_i u l' hk1
     split at h
     ·rename_i hu
      have:=Ty.eqb_eq hu
      subst this
      split at h
      ·rename_i zs h1
       split at h
       ·rename_i z h2
        cases h
        obtain⟨v,hv,hra⟩:=Q3v (Q4x h1) hs'
        have hw:Weak [1] st'.im ⟨[],O1 u l'⟩:=⟨by simp,by
         intro p hp
         simp only[O1,List.mem_singleton] at hp
         subst hp
         exact Q2d hk1,by simp[O1],by simp[O1]⟩
        obtain⟨g'',ht,hs''⟩:=hs'.weaken' hw
        have hra':=hra.mono ht (.nil _)
        rw[← Q4a] at hra'
        exact⟨hs'.defers,v,hv,g'',v,rfl,(AsLe.tupX (Qsc h2)) g'' w' v hra',hs''.hr⟩
       ·cases h
      ·cases h
     ·cases h
    ·cases h
   cases e with
   | ret=>exact fin hk
   | normal=>exact fin hk
   | _=>simp[Qrz] at hk
 ·cases h
noncomputable def bindA {α:Type}:(ks:List AK)→(List XV→α)→List XV→FunA ks α
 | [],f,acc=>f acc
 | .d t :: r,f,acc=>fun x=>bindA r f (acc++[.d (t.xv x)])
 | .c g :: r,f,acc=>bindA r f (acc++[.clo g []])
noncomputable def runO (P:Program) (Γ:List (Ent P)) (own:List Nat) (N:Nat) (fn:Func) (an:An) (t:Ty) (ks:List AK) (rs:List RK) (l:List t.T) (n:Nat):FunA ks (Option (List t.T×ResO rs)) :=
 bindA ks (fun xs=>runBO P Γ own N fn an t rs l n xs) []
noncomputable def SndA {β:Type} (Q:β→List XV→Prop):(ks:List AK)→FunA ks (Option β)→List XV→Prop
 | [],F,acc=>∀y,F=some y→Q y acc
 | .d u :: r,F,acc=>∀x:u.T,SndA Q r (F x) (acc++[.d (u.xv x)])
 | .c g :: r,F,acc=>SndA Q r F (acc++[.clo g []])
noncomputable def Qk3 (P:Program) (f:FuncId) (t:Ty) (rs:List RK) (l:List t.T) (n:Nat) (ks:List AK) (F:FunA ks (Option (List t.T×ResO rs))) (acc:List XV):Prop :=
 SndA (fun y acc=>Does P f (asOf (.os 1 t 0 n :: acc)) (O1 t l) (tupX (resLO 1 t rs y.2)).a (O1 t y.1)) ks F acc
theorem Qal {β:Type} {Q:β→List XV→Prop} {B:List XV→Option β} (m:Nat) (hB:∀acc,acc.length≤m→∀y,B acc=some y→Q y acc) :
  ∀(ks:List AK) (acc:List XV),acc.length+ks.length≤m→SndA Q ks (bindA ks B acc) acc
 | [],acc,hn=>fun y hy=>hB acc (by simpa using hn) y hy
 | .d u :: r,acc,hn=>fun x=>Qal m hB r _ (by simp at hn ⊢; omega)
 | .c g :: r,acc,hn=>by
  simp only[SndA,bindA]
  exact Qal m hB r (acc++[.clo g []]) (by simp at hn ⊢; omega)
theorem Qih {P:Program} {Γ:List (Ent P)} {own:List Nat} {N:Nat} {f:FuncId} {fn:Func} {an:An} {t:Ty} {ks:List AK} {rs:List RK} (hm:P.follows .mixedOrders=true) (hf:P.funcs[f]? = some fn)
  (hn:Nat.ble (ks.length+1) fn.ntmps=true) (l:List t.T) (n:Nat):Qk3 P f t rs l n ks (runO P Γ own N fn an t ks rs l n) [] :=
by
 have h1:=Nat.le_of_ble_eq_true hn
 unfold Qk3 runO
 have hB:∀acc:List XV,acc.length≤fn.ntmps - 1→∀y,runBO P Γ own N fn an t rs l n acc=some y→Does P f (asOf (.os 1 t 0 n :: acc)) (O1 t l) (tupX (resLO 1 t rs y.2)).a (O1 t y.1) :=
  fun acc hl y hy=>Qrp hm hf (Nat.ble_eq_true_of_le (by omega)) hy
 exact Qal (Q:=fun(y:List t.T×ResO rs) acc=>Does P f (asOf (.os 1 t 0 n :: acc)) (O1 t l) (tupX (resLO 1 t rs y.2)).a (O1 t y.1)) (fn.ntmps - 1) hB ks [] (by simp; omega)
noncomputable def asClo:XV→Option Nat
 | .clo g []=>some g
 | _=>none
theorem Qyc {v:XV} {g:Nat} (h:asClo v=some g):v = .clo g []:=by
 unfold asClo at h
 split at h
 ·cases h; rfl
 ·cases h
noncomputable def appA {β R:Type}:(ks:List AK)→FunA ks (Option β)→List Operand→List XV→List (Operand×XV)→(Option β→List (Operand×XV)→Option R)→Option R
 | [],F,[],[],acc,K=>K F acc
 | .d t :: r,F,x :: ops,v :: vs,acc,K=>match decXV t v with
  | some y=>appA r (F y) ops vs (acc++[(x,.d (t.xv y))]) K
  | none=>none
 | .c g :: r,F,x :: ops,v :: vs,acc,K=>match asClo v with
  | some g'=>cond (Nat.beq g' g) (appA r F ops vs (acc++[(x,.clo g [])]) K) none
  | none=>none
 | _,_,_,_,_,_=>none
noncomputable def argX:XV→Bool
 | .d _=>true
 | .clo _ []=>true
 | _=>false
noncomputable def argsX:List XV→Bool
 | []=>true
 | x :: r=>cond (argX x) (argsX r) false
theorem Qn3 {a b:List XV} (ha:argsX a=true) (hb:argsX b=true):argsX (a++b)=true:=by
 induction a with
 | nil=>exact hb
 | cons x r ih =>
  simp only[argsX,List.cons_append] at ha ⊢
  cases hx:argX x with
  | false=>simp[hx] at ha
  | true=>simp only[hx,cond_true] at ha ⊢; exact ih ha
theorem Qyg {f:Nat→Nat} {x:XV} (h:argX x=true):mapAV f x.a=x.a:=by
 unfold argX at h
 split at h <;> first | rfl | cases h
theorem Qm4 {f:Nat→Nat}:∀ {l:List XV},argsX l=true→Q2v f (asOf l)=asOf l
 | [],_=>rfl
 | x :: r,h=>by
  simp only[argsX] at h
  cases hx:argX x with
  | false=>simp[hx] at h
  | true =>
   simp only[hx,cond_true] at h
   simp only[asOf,Q2v,Qyg hx,Qm4 h]
theorem Qh1 {ks:List Nat}:∀ {l:List XV},argsX l=true→Q1n ks (asOf l)=true
 | [],_=>rfl
 | x :: r,h=>by
  simp only[argsX] at h
  cases hx:argX x with
  | false=>simp[hx] at h
  | true =>
   simp only[hx,cond_true] at h
   have:Q1d ks x.a=true:=by
    unfold argX at hx
    split at hx <;> first | rfl | cases hx
   simp only[asOf,Q1n,this,Qh1 h,Bool.and_self]
theorem Qga {β R:Type} {Q:β→List XV→Prop} {st:XSt} {K:Option β→List (Operand×XV)→Option R} {r:R}:∀(ks:List AK) (F:FunA ks (Option β)) (ops:List Operand) (vs:List XV) (acc:List (Operand×XV)) (aops:List Operand) (axs:List XV),
  SndA Q ks F axs→Qh st ops=some vs→acc=aops.zip axs→aops.length=axs.length→(∀p ∈ imRd acc,Sees st.im p.1 p.2)→argsX axs=true→appA ks F ops vs acc K=some r →
  ∃(Fv:Option β) (xs:List XV),xs.length=(aops++ops).length∧(∀y,Fv=some y→Q y xs)∧argsX xs=true ∧
   (∀p ∈ imRd ((aops++ops).zip xs),Sees st.im p.1 p.2)∧K Fv ((aops++ops).zip xs)=some r
 | [],F,ops,vs,acc,aops,axs,hs,hv,hacc,hlen,hsee,hda,h=>by
  cases ops with
  | nil =>
   cases vs with
   | nil =>
    subst hacc
    exact⟨F,axs,by simp[hlen],hs,hda,by simpa using hsee,by rw[List.append_nil]; exact h⟩
   | cons _ _=>simp[appA] at h
  | cons _ _=>simp[appA] at h
 | .d u :: ts,F,ops,vs,acc,aops,axs,hs,hv,hacc,hlen,hsee,hda,h=>by
  cases ops with
  | nil=>simp[appA] at h
  | cons x ops =>
   cases vs with
   | nil=>simp[appA] at h
   | cons v vs =>
    simp only[appA] at h
    obtain⟨hx,hvs⟩:=Q24 hv
    split at h
    ·rename_i y hy
     have:=Qga ts (F y) ops vs _ (aops++[x]) (axs++[.d (u.xv y)]) (hs y) hvs (by rw[hacc,List.zip_append hlen]; rfl) (by simp[hlen]) (by
      intro p hp
      rw[Qw] at hp
      rcases List.mem_append.1 hp with hp | hp
      ·exact hsee p hp
      ·simp only[imRd,List.map_cons,List.map_nil,List.mem_singleton] at hp
       subst hp
       exact Q6l hx hy) (Qn3 hda rfl) h
     simpa using this
    ·cases h
 | .c g :: ts,F,ops,vs,acc,aops,axs,hs,hv,hacc,hlen,hsee,hda,h=>by
  cases ops with
  | nil=>simp[appA] at h
  | cons x ops =>
   cases vs with
   | nil=>simp[appA] at h
   | cons v vs =>
    simp only[appA] at h
    obtain⟨hx,hvs⟩:=Q24 hv
    split at h
    ·rename_i g' hg
     cases h1:Nat.beq g' g with
     | false=>simp[h1] at h
     | true =>
      simp only[h1,cond_true] at h
      have:=Nat.eq_of_beq_eq_true h1
      subst this
      have:=Qyc hg
      subst this
      have:=Qga ts F ops vs _ (aops++[x]) (axs++[.clo g' []]) hs hvs (by rw[hacc,List.zip_append hlen]; rfl) (by simp[hlen]) (by
       intro p hp
       rw[Qw] at hp
       rcases List.mem_append.1 hp with hp | hp
       ·exact hsee p hp
       ·simp only[imRd,List.map_cons,List.map_nil,List.mem_singleton] at hp
        subst hp
        exact Q5 hx) (Qn3 hda rfl) h
      simpa using this
    ·cases h
theorem Qn1 (f:Nat→Nat) (t:Ty) (l:List t.T):mapOb f (XOb.arr t l).o=(XOb.arr t l).o:=by
 show Ob.cells (Q2v f _) none=_
 congr 1
 generalize (l.map t.ds).flatten=ds
 induction ds with
 | nil=>rfl
 | cons x r ih=>simp only[List.map_cons,Q2v,mapAV,ih]
theorem Qbt (ks:List Nat):∀(l:List D),Q1n ks (l.map .d)=true
 | []=>rfl
 | x :: r=>by simp only[List.map_cons,Q1n,Q1d,Qbt ks r,Bool.and_self]
theorem Qmw (ks:List Nat) (t:Ty) (l:List t.T):Q3o ks (XOb.arr t l).o=true:=Qbt ks _
theorem Qls (k:Nat) (t:Ty):∀(rs:List RK) (y:ResO rs),Q2v (nf [(1,k)]) (asOf (resLO 1 t rs y))=asOf (resLO k t rs y)
 | [],_=>rfl
 | [r],y=>by cases r <;> rfl
 | r :: u :: rs,y=>by
  simp only[resLO,asOf,Q2v,Qls k t (u :: rs) y.2]
  congr 1
  cases r <;> rfl
theorem Qwb (k:Nat) (t:Ty) (rs:List RK) (y:ResO rs):mapAV (nf [(1,k)]) (tupX (resLO 1 t rs y)).a=(tupX (resLO k t rs y)).a:=by
 rw[Q4a,Q4a]
 have h:=Qls k t rs y
 generalize asOf (resLO k t rs y)=m at h ⊢
 subst h
 generalize asOf (resLO 1 t rs y)=l
 cases l with
 | nil=>rfl
 | cons x r=>cases r <;> rfl
theorem Qh4 (t:Ty):∀(rs:List RK) (y:ResO rs),Q1n [1] (asOf (resLO 1 t rs y))=true
 | [],_=>rfl
 | [r],y=>by cases r <;> rfl
 | r :: u :: rs,y=>by
  have:Q1d [1] (r.val 1 t y.1).a=true:=by cases r <;> rfl
  simp only[resLO,asOf,Q1n,this,Qh4 t (u :: rs) y.2,Bool.and_self]
theorem Qok (t:Ty) (rs:List RK) (y:ResO rs):Q1d [1] (tupX (resLO 1 t rs y)).a=true:=by
 rw[Q4a]
 have:=Qh4 t rs y
 generalize asOf (resLO 1 t rs y)=l at this ⊢
 cases l with
 | nil=>rfl
 | cons x r =>
  cases r with
  | nil=>simp only[Q1n,Bool.and_true] at this; exact this
  | cons z s=>exact this
noncomputable def oRun {P:Program} {R:Type} (t:Ty) (ks:List AK) (rs:List RK) (F:List t.T→Nat→FunA ks (Option (List t.T×ResO rs))) (o:Oper) (st:XSt) (vs:List XV) (K:Out→Option R):Option R :=
 match Qx o,vs with
 | x :: ops,.os k t' a n :: vs=>match lk k st.objs with
  | some (.arr u l)=>if h:u.eqb t=true then cond (t'.eqb t) (cond (Nat.beq a 0)
    (appA ks (F (Ty.eqb_eq h▸l:List t.T) n) ops vs [] fun Fv rd=>Option.bind Fv fun y =>
     K ⟨.put k (.arr t y.1),tupX (resLO k t rs y.2),(x,.os k t 0 n) :: rd,xset k (.arr t y.1) st.objs,st.live,[],[k]⟩) none) none else none
  | _=>none
 | _,_=>none
theorem Qz8 {P:Program} {R:Type} {f:FuncId} {t:Ty} {ks:List AK} {rs:List RK} {F:List t.T→Nat→FunA ks (Option (List t.T×ResO rs))} (hc:CallI P f) (hs:∀l n,Qk3 P f t rs l n ks (F l n) []) {o:Oper} {st:XSt} {aops:Array Operand} {ts:Array TypeId} {vs:List XV} {K:Out→Option R} {r:R}
  (ho:o.op = .call { callee:=.value (.func f),args:=aops,argTypes:=ts }) (hv:Qh st aops.toList=some vs) (h:oRun (P:=P) t ks rs F o st vs K=some r):∃out,K out=some r∧OpOk P o st out:=by
 have e:Qx o=aops.toList:=by simp[Qx,ho]
 unfold oRun at h
 rw[e] at h
 split at h
 ·rename_i x ops k t' a n vs' hl
  rw[hl] at hv
  obtain⟨hx,hvs⟩:=Q24 hv
  split at h
  ·rename_i u l hk
   split at h
   ·rename_i hu
    have e2:=Ty.eqb_eq hu
    subst e2
    cases h2:t'.eqb u with
    | false=>simp[h2] at h
    | true =>
    cases h3:Nat.beq a 0 with
    | false=>simp[h2,h3] at h
    | true =>
     simp only[h2,h3,cond_true] at h
     have e3:=Ty.eqb_eq h2
     have e4:=Nat.eq_of_beq_eq_true h3
     subst e3; subst e4
     obtain⟨Fv,xs,h1,h2,h3,h4,h5⟩:=Qga (st:=st) ks (F l n) ops vs' [] [] [] (hs l n) hvs rfl rfl (by simp[imRd]) rfl h
     obtain⟨y,hy,hK⟩:=Option.bind_eq_some_iff.1 h5
     simp only[List.nil_append] at h1 h4 hK
     refine⟨_,hK,⟨?_,⟨rfl,rfl,rfl,fun X hX=>?_⟩,?_⟩⟩
     ·intro p hp
      rcases List.mem_cons.1 hp with rfl | hp
      ·exact Q5 hx
      ·exact h4 p hp
     ·have hlk:X.objs.lookup k=some (XOb.arr t' l).o:=by rw[hX]; exact Q2d hk
      have hoc:ObjCall X (O1 t' l) (O1 t' y.1) (nf [(1,k)]) []:=by
       refine⟨⟨rfl,rfl⟩,?_,?_,?_,by simp[O1],by simp[O1],?_,?_,by simp[Qa]⟩
       ·intro p hp
        simp only[O1,List.mem_singleton] at hp
        subst hp
        simp only[Qn1]
        exact hlk
       ·simp[O1,Qmw]
       ·simp[O1,Qmw]
       ·intro p hp
        simp only[O1,List.mem_singleton] at hp
        subst hp
        exact .inl (by simp[O1])
       ·intro p hp
        simp only[O1,List.mem_singleton] at hp
        subst hp
        simp[O1]
      have hcall:=Qrg (X:=X) [(1,k)] [] ho hc (h2 y hy) hoc (by
        have hl' : aops.size=ops.length+1:=by rw[← Array.length_toList,hl]; rfl
        simp only[asOf,List.length_cons,Q8,hl',h1]) (by
        simp only[asOf,Q1n,Qh1 h3,Bool.and_true]; rfl) (Qok t' rs y.2)
      rw[hl] at hcall
      rw[Qwb] at hcall
      have e5:Q2v (nf [(1,k)]) (asOf (.os 1 t' 0 n :: xs))=asOf (.os k t' 0 n :: xs):=by
       simp only[asOf,Q2v,Qm4 h3]; rfl
      rw[e5] at hcall
      have e6:imRd ((x,.os k t' 0 n) :: ops.zip xs)=(x :: ops).zip (asOf (.os k t' 0 n :: xs)):=by
       rw[asOf,List.zip_cons_cons,← Q20]; rfl
      rw[e6]
      have e7:Q50 (nf [(1,k)]) (O1 t' y.1).objs X.objs=Ab.setObj k (XOb.arr t' y.1).o X.objs:=by
       simp only[O1,Q50,Qn1]; rfl
      rw[e7] at hcall
      exact hcall
     ·intro j z hj hz
      simp only[List.mem_singleton] at hj
      rw[Q2k _ _ _ _ hj] at hz; exact hz
   ·cases h
  ·cases h
 ·cases h
@[reducible] noncomputable def RK.ty (t:Ty):RK→Ty
 | .d u=>u
 | .s=>.sl t
@[reducible] noncomputable def rkTys (t:Ty):List RK→List Ty
 | []=>[]
 | r :: rs=>r.ty t :: rkTys t rs
noncomputable def runO0 (P:Program) (Γ:List (Ent P)) (own:List Nat) (N:Nat) (fn:Func) (an:An) (t:Ty) (ks:List AK) (rs:List RK):FunA ks (Option (ResT (rkTys t rs))) :=
 bindA ks (fun xs=>runB P Γ own N fn an (rkTys t rs) (.d (.sl t []) :: xs)) []
noncomputable def Qjl (P:Program) (f:FuncId) (t:Ty) (rs:List RK) (y:ResT (rkTys t rs)) (acc:List XV):Prop :=
 Does P f (asOf (.d (.sl t []) :: acc)) X0 (resXV (rkTys t rs) y).a X0
theorem Qhc {P:Program} {Γ:List (Ent P)} {own:List Nat} {N:Nat} {f:FuncId} {fn:Func} {an:An} {t:Ty} {ks:List AK} {rs:List RK} (hm:P.follows .mixedOrders=true) (hf:P.funcs[f]? = some fn)
  (hn:Nat.ble (ks.length+1) fn.ntmps=true):SndA (Qjl P f t rs) ks (runO0 P Γ own N fn an t ks rs) []:=by
 have h1:=Nat.le_of_ble_eq_true hn
 have hB:∀acc:List XV,acc.length≤fn.ntmps - 1→∀y,runB P Γ own N fn an (rkTys t rs) (.d (.sl t []) :: acc)=some y→Qjl P f t rs y acc :=
  fun acc hl y hy=>Qja hm hf (Nat.ble_eq_true_of_le (by simp; omega)) hy
 exact Qal (Q:=Qjl P f t rs) (fn.ntmps - 1) hB ks [] (by simp; omega)
noncomputable def isOs:XV→Bool
 | .os _ _ _ _=>true
 | _=>false
noncomputable def oRun2 {P:Program} {R:Type} (t:Ty) (ks:List AK) (rs:List RK) (F:List t.T→Nat→FunA ks (Option (List t.T×ResO rs))) (F0:FunA ks (Option (ResT (rkTys t rs)))) (o:Oper) (st:XSt) (vs:List XV) (K:Out→Option R):Option R :=
 match Qx o,vs with
 | x :: ops,v :: vs'=>cond (isOs v) (oRun (P:=P) t ks rs F o st vs K) (match decXV (.sl t) v with
  | some []=>appA ks F0 ops vs' [] fun Fv rd=>Option.bind Fv fun y=>K (Q9 st (resXV (rkTys t rs) y) ((x,.d (.sl t [])) :: rd))
  | _=>none)
 | _,_=>none
theorem Qk1:∀ {xs:List XV},argsX xs=true→Qc (asOf xs)=true
 | [],_=>rfl
 | x :: r,h=>by
  simp only[argsX] at h
  cases hx:argX x with
  | false=>simp[hx] at h
  | true =>
   simp only[hx,cond_true] at h
   have:Q2i x.a=true:=by
    unfold argX at hx
    split at hx <;> first | rfl | cases hx
   simp only[asOf,Qc,this,Qk1 h,Bool.and_self]
theorem Qxo {P:Program} {R:Type} {f:FuncId} {t:Ty} {ks:List AK} {rs:List RK} {F:List t.T→Nat→FunA ks (Option (List t.T×ResO rs))} {F0:FunA ks (Option (ResT (rkTys t rs)))} (hc:CallI P f) (hs:∀l n,Qk3 P f t rs l n ks (F l n) []) (hs0:SndA (Qjl P f t rs) ks F0 []) {o:Oper} {st:XSt} {aops:Array Operand} {ts:Array TypeId} {vs:List XV} {K:Out→Option R} {r:R}
  (ho:o.op = .call { callee:=.value (.func f),args:=aops,argTypes:=ts }) (hv:Qh st aops.toList=some vs) (h:oRun2 (P:=P) t ks rs F F0 o st vs K=some r):∃out,K out=some r∧OpOk P o st out:=by
 have e:Qx o=aops.toList:=by simp[Qx,ho]
 unfold oRun2 at h
 rw[e] at h
 split at h
 ·rename_i x ops v vs' hl
  cases hos:isOs v with
  | true =>
   simp only[hos,cond_true] at h
   exact Qz8 hc hs ho hv h
  | false =>
   simp only[hos,cond_false] at h
   rw[hl] at hv
   obtain⟨hx,hvs⟩:=Q24 hv
   split at h
   ·rename_i hd
    obtain⟨Fv,xs,h1,h2,h3,h4,h5⟩:=Qga (st:=st) ks F0 ops vs' [] [] [] hs0 hvs rfl rfl (by simp[imRd]) rfl h
    obtain⟨y,hy,hK⟩:=Option.bind_eq_some_iff.1 h5
    simp only[List.nil_append] at h1 h4 hK
    refine⟨_,hK,Q4 ?_ fun X=>?_⟩
    ·intro p hp
     rcases List.mem_cons.1 hp with rfl | hp
     ·exact Q6l hx hd
     ·exact h4 p hp
    ·have hl' : aops.size=ops.length+1:=by rw[← Array.length_toList,hl]; rfl
     have:=Qt1 (X:=X) (xs:=asOf (.d (.sl t []) :: xs)) ho hc (h2 y hy) (by simp only[asOf,List.length_cons,Q8,hl',h1]) (by
      simp only[asOf,Qc,Qk1 h3,Bool.and_true]; rfl) (Qcz _ y)
     have e6:imRd ((x,.d (.sl t [])) :: ops.zip xs)=(x :: ops).zip (asOf (.d (.sl t []) :: xs)):=by
      rw[asOf,List.zip_cons_cons,← Q20]; rfl
     rw[hl] at this
     rw[e6]
     exact this
   ·cases h
 ·cases h
noncomputable def mkO2 {P:Program} {Γ:List (Ent P)} {own:List Nat} {N:Nat} (id:FuncId) (fn:Func) (an an0:An) (t:Ty) (ks:List AK) (rs:List RK) (F:List t.T→Nat→FunA ks (Option (List t.T×ResO rs))) (F0:FunA ks (Option (ResT (rkTys t rs)))) (hm:P.follows .mixedOrders=true) (hf:P.funcs[id]? = some fn)
  (hc:CallI P id) (hn:Nat.ble (ks.length+1) fn.ntmps=true) (hE:runO P Γ own N fn an t ks rs=F) (hE0:runO0 P Γ own N fn an0 t ks rs=F0):Ent P where
 id:=id
 run:=oRun2 (P:=P) t ks rs F F0
 ok:=by
  intro R o st aops ts vs K r ho hv h
  exact Qxo hc (fun l n=>hE▸Qih hm hf hn l n) (hE0▸Qhc hm hf hn) ho hv h
end Go.Xl
namespace Go.Xl
open Go.Ab
noncomputable def finN (P:Program) (fn:Func) (t:Ty) (s:XSt):Option (Option (List t.T×Nat)) :=
 match xres P s fn.results.toList with
 | some [.os k t' a n]=>match lk k s.objs with
  | some (.arr u l)=>if h:u.eqb t=true then cond (t'.eqb t) (cond (Nat.beq a 0) (cond (Nat.ble 1000 k) (some (some ((Ty.eqb_eq h▸l:List t.T),n))) none) none) none else none
  | _=>none
 | some [x]=>match decXV (.sl t) x with
  | some l=>Q1q l (some none) fun _ _=>none
  | none=>none
 | _=>none
noncomputable def Qb2 (P:Program) (fn:Func) (t:Ty):Exit→XSt→Option (Option (List t.T×Nat))
 | .ret,s=>finN P fn t s
 | .normal,s=>finN P fn t s
 | _,_=>none
noncomputable def runBN (P:Program) (Γ:List (Ent P)) (own:List Nat) (N:Nat) (fn:Func) (an:An) (t:Ty) (xs:List XV):Option (Option (List t.T×Nat)) :=
 match fn.body with
 | some c=>cond (Nat.ble fn.ntmps GB) (exec P Γ own [] fn.ntmps N c an ⟨envX 0 xs,[],[],[],[]⟩ (Qb2 P fn t)) none
 | none=>none
noncomputable def NewS (P:Program) (f:FuncId) (t:Ty) (y:Option (List t.T×Nat)) (xs:List XV):Prop :=
 match y with
 | none=>Does P f (asOf xs) X0 (.d (.sl t.size [])) X0
 | some z=>Does P f (asOf xs) X0 (.osl 1 0 z.2 t.size) (O1 t z.1)
theorem Qhb {P:Program} {R:Type} {f:FuncId} {fn:Func} {c:Code} {nm:List Nat} {hsm:∀j ∈ nm,j < 1000} {xs:List XV} {objs:List (Nat×XOb)} {s0:XSt} {K:Exit→XSt→Option R} {r:R} {res:AV} {X' : Store}
  (hf:P.funcs[f]? = some fn) (hc:fn.body=some c) (hn:xs.length≤fn.ntmps) (hG:fn.ntmps≤GB) (hnm:(Q0 objs).map (·.1)=nm) (hs:AWp P ⟨fn.ntmps,nm,hsm⟩ c (PostE s0 K r) (XSt.im ⟨envX 0 xs,objs,[],[],[]⟩))
  (hend:∀e st',K e st' = some r→e = .ret∨e = .normal)
  (fin:∀B e st' a' w' g',K e st' = some r→SR ⟨fn.ntmps,nm,hsm⟩ B g' w' st'.im a'→∃v g'',(results fn a'.tmps).run P w' = .ok v w'∧RA g'' w' res v∧HR nm B g'' w' X') :
  Does P f (asOf xs) ⟨Q0 objs,[]⟩ res X':=by
 subst hnm
 intro g w vs hr hl ha
 refine calls_of_wp hf hc (wp_mono (hs (Base.of g w ⟨Q0 objs,[]⟩) g w _ ?_) ?_)
 ·refine⟨rfl,?_,hr,?_⟩
  ·rw[Q8] at hl
   simp; omega
  ·intro t x hx
   have hx' : (envOf 0 (asOf xs)).lookup t=some x:=by rw[← Q94]; exact hx
   obtain⟨_,hx'⟩:=Q46 hx'
   rw[Nat.sub_zero] at hx'
   have hlt:t < vs.size:=by have:=(List.getElem?_eq_some_iff.1 hx').1; omega
   refine⟨vs[t],?_,ha t x _ hx' (by simp[hlt])⟩
   rw[Q8] at hl
   rw[Q3r (by omega)]
   simp[Array.getElem?_append,hlt]
 ·rintro e a' w' ⟨s,g',⟨st',rfl,hi,hk⟩,hs'⟩
  obtain⟨v,g'',h1,h2,h3⟩:=fin _ e st' a' w' g' hk hs'
  have key:a'.defers = []∧∃v,(results fn a'.tmps).run P w' = .ok v w'∧∃g' v_1,Ending.returned v=Ending.returned v_1∧RA g' w' res v_1∧HR ((Q0 objs).map (·.1)) (Base.of g w ⟨Q0 objs,[]⟩) g' w' X' :=
   ⟨hs'.defers,v,h1,g'',v,rfl,h2,h3⟩
  rcases hend e st' hk with rfl | rfl
  ·exact key
  ·exact key
theorem Qay {P:Program} {Γ:List (Ent P)} {own:List Nat} {N:Nat} {f:FuncId} {fn:Func} {an:An} {t:Ty} {xs:List XV} {y:Option (List t.T×Nat)} (hm:P.follows .mixedOrders=true) (hf:P.funcs[f]? = some fn)
  (hn:Nat.ble xs.length fn.ntmps=true) (h:runBN P Γ own N fn an t xs=some y):NewS P f t y xs:=by
 unfold runBN at h
 split at h
 ·rename_i c hc
  obtain⟨hG,h⟩:=condG h
  have hs:=Q70 (S:=⟨fn.ntmps,[],by simp⟩) hm rfl c an _ _ _ _ (.refl _) h
  have hend:∀e st',Qb2 P fn t e st' = some y→e = .ret∨e = .normal:=by
   intro e st' hk
   cases e <;> simp_all [Qb2]
  have hkey:∀e st',Qb2 P fn t e st' = some y→finN P fn t st' = some y:=by
   intro e st' hk
   cases e <;> simp_all [Qb2]
  cases y with
  | none =>
   refine Qhb (objs:=[]) (hsm:=by simp[Q0]) hf hc (Nat.le_of_ble_eq_true hn) hG rfl hs hend fun B e st' a' w' g' hk hs'=>?_
   have h:=hkey e st' hk
   unfold finN at h
   split at h
   ·split at h
    ·split at h
     ·rename_i k t' a n _ _ _ _ _ _
      cases h2:t'.eqb t <;> cases h3:Nat.beq a 0 <;> cases h4:Nat.ble 1000 k <;> simp[h2,h3,h4] at h
     ·cases h
    ·cases h
   ·rename_i x _ hx
    split at h
    ·rename_i l hd
     cases l with
     | cons _ _=>simp[Q1q] at h
     | nil =>
     obtain⟨v,hv,hra⟩:=Q3v (Q4x hx) hs'
     have hw:Weak [] st'.im ⟨[],X0⟩:=⟨by simp,by simp[X0],by simp[X0],by simp⟩
     obtain⟨g'',ht,hs''⟩:=hs'.weaken' hw
     have hra':=hra.mono ht (.nil _)
     exact⟨v,g'',hv,Q9u hd g'' w' v hra',hs''.hr⟩
    ·cases h
   ·cases h
  | some z =>
   refine Qhb (objs:=[]) (hsm:=by simp[Q0]) hf hc (Nat.le_of_ble_eq_true hn) hG rfl hs hend fun B e st' a' w' g' hk hs'=>?_
   have h:=hkey e st' hk
   unfold finN at h
   split at h
   ·rename_i k t' a n hx
    split at h
    ·rename_i u l hkl
     split at h
     ·rename_i hu
      have:=Ty.eqb_eq hu
      subst this
      cases h2:t'.eqb u with
      | false=>simp[h2] at h
      | true =>
      cases h3:Nat.beq a 0 with
      | false=>simp[h2,h3] at h
      | true =>
      cases h4:Nat.ble 1000 k with
      | false=>simp[h2,h3,h4] at h
      | true =>
       simp only[h2,h3,h4,cond_true,Option.some.injEq] at h
       subst h
       have e1:=Ty.eqb_eq h2
       have e2:=Nat.eq_of_beq_eq_true h3
       have e3:=Nat.le_of_ble_eq_true h4
       subst e1; subst e2
       obtain⟨v,hv,hra⟩:=Q3v (Q4x hx) hs'
       have hw:Weak [] st'.im ⟨[],⟨[(k,(XOb.arr t' l).o)],[]⟩⟩:=⟨by simp,by
        intro p hp
        simp only[List.mem_singleton] at hp
        subst hp
        exact Q2d hkl,by simp,by simp⟩
       obtain⟨g'',ht,hs''⟩:=hs'.weaken' hw
       have hra':=hra.mono ht (.nil _)
       obtain⟨hr2,ht2⟩:=hs''.hr.renameObj (k:=k) (m:=1) (o:=(XOb.arr t' l).o) (by simp[Q0]) (by simp[Q0]) (by
        have:=Qa3 [1] t' l
        simp[Qa,this]) (by simp) (by omega)
       refine⟨v,_,hv,?_,hr2.alike ⟨fun j=>?_,rfl⟩⟩
       ·refine RA.osl_name (g:=g'') (k:=k) ?_ (show upd g''.ρ 1 (g''.ρ k) 1=g''.ρ k from upd_same _ _ _)
        simp only[asOf,Q9m,XV.a,Nat.zero_mul] at hra'
        exact hra'
       ·simp only[O1,List.lookup_cons,Ab.dropObj]
        by_cases hj:j=1
        ·subst hj; simp
        ·simp[hj]
     ·cases h
    ·cases h
   ·split at h
    ·rename_i l _
     cases l <;> simp[Q1q] at h
    ·cases h
   ·cases h
 ·cases h
theorem OpT.drop {P:Program} {o:Oper} {rd:List (Operand×AV)} {X X' : Store} {F:List Nat} {res:AV} {m:Nat} (h:OpT P o rd (Ab.dropObj m X) X' F res) (hm:1000≤m):OpT P o rd X X' F res:=by
 intro nm hsm B g w a hr hrd
 exact h nm hsm B g w a (hr.dropObj fun hh=>by have:=hsm m hh; omega) hrd
end Go.Xl
namespace Go.Xl
open Go.Ab
noncomputable def Q88 (t:Ty) (bytes:Nat) (l:List t.T):Option (Option (List t.T×Nat)) :=
 Q1q l (some none) fun y r=>cond (fitsB (y :: r).length bytes) (some (some (y :: r,(y :: r).length))) none
theorem NewS.empty {P:Program} {f:FuncId} {t:Ty} {xs:List XV} (h:NewS P f t (some ([],0)) xs):NewS P f t none xs:=by
 intro g w vs hr hl ha
 refine(h g w vs hr hl ha).mono ?_
 rintro e w' ⟨g',v,rfl,h1,h2⟩
 refine⟨g',v,rfl,?_,?_⟩
 ·obtain⟨cap,o,_,hv,_⟩:=RA.osl_inv h1
  rw[hv]
  exact .d _ _ (.nil _ _ _ (by simp))
 ·refine(h2.dropObj (k:=1) (by simp[X0])).alike ⟨fun j=>?_,rfl⟩
  simp only[O1,Ab.dropObj,X0]
  by_cases hj:j=1
  ·subst hj; rfl
  ·rfl
theorem Qax {P:Program} {own:List Nat} {N:Nat} {f:FuncId} {fn:Func} {an:An} {t:Ty} {bytes:Nat} (hm:P.follows .mixedOrders=true) (hf:P.funcs[f]? = some fn) (hn:Nat.ble 1 fn.ntmps=true)
  (h1:∀y r,runBN P [] own N fn an t [.d (.sl t (y :: r))] = cond (fitsB (0+(y :: r).length) bytes) (some (some ([]++y :: r,0+(y :: r).length))) none)
  (h2:runBN P [] own N fn an t [.d (.v (.slice none 0 0))] = some none) (h3:∀a cap,runBN P [] own N fn an t [.d (.v (.slice (some a) 0 cap))] = some (some ([],0))) :
  SndA (NewS P f t) [.d (.sl t)] (Q88 t bytes) []:=by
 intro l y hy
 cases l with
 | cons x r =>
  simp only[Q88,Q1q] at hy
  have h1':=h1 x r
  rw[Nat.zero_add,List.nil_append] at h1'
  rw[← h1'] at hy
  exact Qay hm hf hn hy
 | nil =>
  simp only[Q88,Q1q,Option.some.injEq] at hy
  subst hy
  have k2:=Qay (xs:=[.d (.v (.slice none 0 0))]) hm hf hn h2
  have k3:=fun a cap=>(Qay (xs:=[.d (.v (.slice (some a) 0 cap))]) hm hf hn (h3 a cap)).empty
  intro g w vs hr hl ha
  have hsz:vs.size=1:=by rw[← hl]; rfl
  have e0:=ha 0 _ vs[0] rfl (by simp[hsz])
  generalize hv:vs[0] = v at e0
  have hp:∃p cap,v = .slice p 0 cap∧(p=none→cap=0):=by
   cases e0 with
   | d _ _ h =>
    cases h with
    | nil _ p cap h0=>exact⟨_,_,rfl,h0⟩
    | sl _ _ b off len cap hl=>subst hl; exact⟨_,_,rfl,by simp⟩
  obtain⟨p,cap,rfl,h0⟩:=hp
  have args:∀x:XV,RA g w x.a (.slice p 0 cap)→∀(i:Nat) z u,(asOf [x])[i]? = some z→vs[i]? = some u→RA g w z u:=by
   intro x hx i z u hz hu
   cases i with
   | zero =>
    simp only[asOf,List.getElem?_cons_zero,Option.some.injEq] at hz
    subst hz
    have:u=vs[0]:=by
     rw[Array.getElem?_eq_getElem (by omega)] at hu
     exact(Option.some.inj hu).symm
    rw[this,hv]; exact hx
   | succ i=>simp[asOf] at hz
  cases p with
  | none =>
   have:=h0 rfl
   subst this
   exact k2 g w vs hr (by simpa[asOf] using hl) (args _ (.d _ _ (.sc _)))
  | some a=>exact k3 a cap g w vs hr (by simpa[asOf] using hl) (args _ (.d _ _ (.sc _)))
theorem NewS.frozen {P:Program} {f:FuncId} {t:Ty} {xs:List XV} {z:List t.T×Nat} (h:NewS P f t (some z) xs) (hz:z.2≤z.1.length):Does P f (asOf xs) X0 (.d (.sl t.size ((z.1.take z.2).map t.ds))) X0:=by
 intro g w vs hr hl ha
 refine(h g w vs hr hl ha).mono ?_
 rintro e w' ⟨g',v,rfl,h1,h2⟩
 obtain⟨f1,f2,f3⟩:=HR.freeze (k:=1) (sz:=t.size) (es:=z.1.map t.ds) (ty:=none) h2 (by simp[X0]) rfl (by
  intro i cs hc
  rw[List.getElem?_map,Option.map_eq_some_iff] at hc
  obtain⟨y,_,rfl⟩:=hc
  exact t.ds_length y)
 refine⟨_,v,rfl,?_,f1.alike ⟨fun j=>?_,rfl⟩⟩
 ·have:=f3 0 z.2 v (by simpa using hz) (by simpa using h1)
  rw[List.drop_zero,← List.map_take] at this
  exact this
 ·simp only[O1,Ab.dropObj,X0]
  by_cases hj:j=1
  ·subst hj; rfl
  ·rfl
noncomputable def Q9l (t:Ty) (bytes:Nat) (l:List t.T):Option (List t.T) :=
 Q1q l (some []) fun y r=>cond (fitsB (y :: r).length bytes) (some (y :: r)) none
theorem Q9n {P:Program} {f:FuncId} {t:Ty} {bytes:Nat} (h:SndA (NewS P f t) [.d (.sl t)] (Q88 t bytes) []):Qbp P f [.sl t] [.sl t] (Q9l t bytes) []:=by
 intro l y hy
 cases l with
 | nil =>
  simp only[Q9l,Q1q,Option.some.injEq] at hy
  subst hy
  exact h [] none rfl
 | cons x r =>
  simp only[Q9l,Q1q] at hy
  cases hb:fitsB (x :: r).length bytes with
  | false=>simp only[hb,cond_false] at hy; cases hy
  | true =>
   simp only[hb,cond_true,Option.some.injEq] at hy
   subst hy
   have:=h (x :: r) (some (x :: r,(x :: r).length)) (by simp only[Q88,Q1q,hb,cond_true])
   have:=this.frozen (Nat.le_refl _)
   rw[List.take_length] at this
   exact this
end Go.Xl
namespace Go.Xl
open Go.Ab
noncomputable def GHold (g:Gh) (w:World) (gs:List (Nat×AV)):Prop:=∀p ∈ gs,RA g w p.2 (.pointer (some ⟨p.1,0,none⟩))
noncomputable def DoesG (P:Program) (f:FuncId) (args:List AV) (gs:List (Nat×AV)) (res:AV):Prop :=
 ∀(g:Gh) (w:World) (vs:Array Value),HR [] (Base.of g w X0) g w X0→GHold g w gs→args.length=vs.size →
  (∀(i:Nat) x v,args[i]? = some x→vs[i]? = some v→RA g w x v) →
  Calls P f vs w fun e w'=>∃g' v,e = .returned v∧RA g' w' res v∧HR [] (Base.of g w X0) g' w' X0
theorem DoesG.plain {P:Program} {f:FuncId} {args:List AV} {res:AV} (h:DoesG P f args [] res):Does P f args X0 res X0 :=
 fun g w vs hr hl ha=>h g w vs hr (by simp[GHold]) hl ha
theorem DoesG.use {P:Program} {X:Store} {f:FuncId} {xs:List AV} {gs:List (Nat×AV)} {res:AV} (hs:DoesG P f xs gs res) (hd:Qc xs=true) (hg:Qc (gs.map (·.2))=true) (hdr:Q2i res=true) {nm:List Nat} {B:Base} {g:Gh} {w:World}
  (hr:HR nm B g w X) (hgs:GHold g w gs) {vs:Array Value} (hl:xs.length=vs.size) (hvs:∀(i:Nat) x v,xs[i]? = some x→vs[i]? = some v→RA g w x v) :
  Calls P f vs w fun e w'=>∃v g',e = .returned v∧HR nm B g' w' X∧Trans [] g w g' w'∧RA g' w' res v:=by
 have h0:HR [] (Base.of { g with β:=fun _=>none } w X0) { g with β:=fun _=>none } w X0 :=
  ⟨by simp,hr.sane,Nat.le_refl _,⟨rfl,rfl,rfl,Nat.le_refl _⟩,.refl _ _,fun b _ _=>⟨rfl,rfl⟩,by simp[X0],by simp[X0],by simp[X0],by simp[X0],by simp[X0],by simp,by simp,by simp,by simp,.off fun _=>rfl⟩
 have hgs' : GHold { g with β:=fun _=>none } w gs:=by
  intro p hp
  obtain⟨i,hi⟩:=List.getElem?_of_mem hp
  exact(hgs p hp).data (Q3z hg (i:=i) (by rw[List.getElem?_map,hi]; rfl)) (.refl _ _)
 have:=hs { g with β:=fun _=>none } w vs h0 hgs' hl fun i x v hx hv=>(hvs i x v hx hv).data (Q3z hd hx) (.refl _ _)
 refine this.mono ?_
 rintro e w' ⟨gc,v,rfl,hra,h1⟩
 obtain⟨h2,h3⟩:=hr.pureCall (gc:=gc) h1
 exact⟨v,_,rfl,h2,h3,hra.data hdr (.refl _ _)⟩
theorem Qff:∀ {l:List AV} (n:Nat),Qc l=true→Qc (l.take n)=true
 | [],n,_=>by simp[Qc]
 | x :: r,0,_=>rfl
 | x :: r,n+1,h=>by
  simp only[Qc,Bool.and_eq_true] at h
  simp only[List.take_succ_cons,Qc,Bool.and_eq_true]
  exact⟨h.1,Qff n h.2⟩
theorem Qdw:∀ {l:List AV} (n:Nat),Qc l=true→Qc (l.drop n)=true
 | [],n,_=>by simp[Qc]
 | x :: r,0,h=>h
 | x :: r,n+1,h=>by
  simp only[Qc,Bool.and_eq_true] at h
  exact Qdw n h.2
theorem Q81:∀ {l:List AV} (ks:List Nat),Qc l=true→Qc ((ks.zip l).map (·.2))=true
 | [],ks,_=>by cases ks <;> rfl
 | x :: r,[],_=>rfl
 | x :: r,k :: ks,h=>by
  simp only[Qc,Bool.and_eq_true] at h
  simp only[List.zip_cons_cons,List.map_cons,Qc,Bool.and_eq_true]
  exact⟨h.1,Q81 ks h.2⟩
theorem Qyh {P:Program} {o:Oper} {X:Store} {f:FuncId} {args:Array Operand} {ts:Array TypeId} {gids:List Nat} {xs:List AV} {res:AV} (ho:o.op = .call { callee:=.value (.func f),args:=args,argTypes:=ts }) (hf:CallI P f)
  (hs:DoesG P f (xs.take args.size) (gids.zip (xs.drop args.size)) res) (hl:args.size≤xs.length) (hd:Qc xs=true) (hdr:Q2i res=true) :
  OpT P o ((args.toList++gids.map Operand.global).zip xs) X X [] res:=by
 intro nm hsm B g w a hr hrd next Q hn
 have hz:(args.toList++gids.map Operand.global).zip xs=args.toList.zip (xs.take args.size)++(gids.map Operand.global).zip (xs.drop args.size):=by
  conv=>lhs; rw[← List.take_append_drop args.size xs]
  rw[List.zip_append (by simp; omega)]
 rw[hz] at hrd
 unfold Oper.wp
 have:(execOp a.eval o).run P w = .ok (.enter f (args.map a.eval)) w:=by
  simp only[execOp,ho,resolve]
  simp[Act.eval,Deferred.ofValue,invoke,Q1y hf]
 rw[this]
 have hG:GHold g w (gids.zip (xs.drop args.size)):=by
  intro p hp
  have h1:(Operand.global p.1,p.2) ∈ (gids.map Operand.global).zip (xs.drop args.size):=by
   rw[List.zip_map_left,List.mem_map]
   exact⟨p,hp,rfl⟩
  exact hrd _ (List.mem_append_right _ h1)
 refine(hs.use (Qff _ hd) (Q81 _ (Qdw _ hd)) hdr hr hG (by simp; omega) (Q69 fun p hp=>hrd p (List.mem_append_left _ hp))).mono ?_
 rintro e w' ⟨v,g',rfl,h1,h2,h3⟩
 exact hn g' w' v h1 h2 h3
noncomputable def glE:List Nat→List XV→List (Nat×XV)
 | k :: ks,x :: r=>(GB+k,x) :: glE ks r
 | _,_=>[]
theorem Qgb:∀ {gids:List Nat} {xs:List XV} {t:Nat} {x:AV},(t,x) ∈ imEnv (glE gids xs)→∃k,t=GB+k∧(k,x) ∈ gids.zip (asOf xs)
 | [],xs,t,x,h=>by simp[glE,imEnv] at h
 | k :: ks,[],t,x,h=>by simp[glE,imEnv] at h
 | k :: ks,y :: r,t,x,h=>by
  simp only[glE,imEnv,List.map_cons,List.mem_cons,Prod.mk.injEq] at h
  rcases h with ⟨rfl,rfl⟩ | h
  ·exact⟨k,rfl,by simp[asOf]⟩
  ·obtain⟨k',h1,h2⟩:=Qgb (gids:=ks) (xs:=r) (t:=t) (x:=x) (by simpa[imEnv] using h)
   exact⟨k',h1,by simp only[asOf,List.zip_cons_cons]; exact List.mem_cons_of_mem _ h2⟩
noncomputable def runBG (P:Program) (Γ:List (Ent P)) (own:List Nat) (N:Nat) (fn:Func) (an:An) (res:List Ty) (n:Nat) (gids:List Nat) (xs:List XV):Option (ResT res) :=
 match fn.body with
 | some c=>cond (Nat.ble fn.ntmps GB) (exec P Γ own [] fn.ntmps N c an ⟨envX 0 (xs.take n)++glE gids (xs.drop n),[],[],[],[]⟩ (finish P fn res)) none
 | none=>none
theorem Qqv {P:Program} {Γ:List (Ent P)} {own:List Nat} {N:Nat} {f:FuncId} {fn:Func} {an:An} {res:List Ty} {n:Nat} {gids:List Nat} {xs:List XV} {y:ResT res} (hm:P.follows .mixedOrders=true) (hf:P.funcs[f]? = some fn)
  (hn:Nat.ble n fn.ntmps=true) (h:runBG P Γ own N fn an res n gids xs=some y):DoesG P f (asOf (xs.take n)) (gids.zip (asOf (xs.drop n))) (resXV res y).a:=by
 unfold runBG at h
 split at h
 ·rename_i c hc
  obtain⟨hG,h⟩:=condG h
  have hs:=Q70 (S:=⟨fn.ntmps,[],by simp⟩) hm rfl c an _ _ _ _ (.refl _) h
  intro g w vs hr hgs hl ha
  have hlen:(asOf (xs.take n)).length≤n:=by rw[Q8]; simp; omega
  have hn':=Nat.le_of_ble_eq_true hn
  refine calls_of_wp hf hc (wp_mono (hs (Base.of g w X0) g w _ ?_) ?_)
  ·refine⟨rfl,?_,hr,?_⟩
   ·simp; omega
   ·intro t x hx
    have hx' : (imEnv (envX 0 (xs.take n))++imEnv (glE gids (xs.drop n))).lookup t=some x:=by
     rw[imEnv,imEnv,← List.map_append]; exact hx
    rw[List.lookup_append,Q94] at hx'
    cases h1:(envOf 0 (asOf (xs.take n))).lookup t with
    | some x1 =>
     rw[h1] at hx'
     simp only[Option.some_or,Option.some.injEq] at hx'
     subst hx'
     obtain⟨_,hx'⟩:=Q46 h1
     rw[Nat.sub_zero] at hx'
     have hlt:t < vs.size:=by have:=(List.getElem?_eq_some_iff.1 hx').1; omega
     refine⟨vs[t],?_,ha t x1 _ hx' (by simp[hlt])⟩
     rw[Q3r (by omega)]
     simp[Array.getElem?_append,hlt]
    | none =>
     rw[h1] at hx'
     simp only[Option.none_or] at hx'
     obtain⟨k,rfl,hk⟩:=Qgb (Qn hx')
     exact⟨_,Q8t k,hgs _ hk⟩
  ·rintro e a' w' ⟨s,g',⟨st',rfl,hi,hk⟩,hs'⟩
   have fin:Q92 P fn res st' = some y →
     a'.defers = []∧∃v,(results fn a'.tmps).run P w' = .ok v w'∧∃g' v_1,Ending.returned v=Ending.returned v_1∧RA g' w' (resXV res y).a v_1∧HR [] (Base.of g w X0) g' w' X0:=by
    intro h
    unfold Q92 at h
    split at h
    ·rename_i zs h1
     obtain⟨ys,o,h2,h⟩:=Qag h
     ·obtain⟨v,hv,hra⟩:=Q3v (Q4x h1) hs'
      obtain⟨g1,hr1,ht1,has⟩:=Qiv h2 g' hs'.hr
      have hs1:SR ⟨fn.ntmps,[],by simp⟩ (Base.of g w X0) g1 w' ⟨[],⟨Q0 o,st'.live⟩⟩ a':=⟨hs'.defers,hs'.size,hr1,by simp⟩
      have hw:Weak [] ⟨[],⟨Q0 o,st'.live⟩⟩ ⟨[],X0⟩:=⟨by simp,by simp[X0],by simp[X0],by simp⟩
      obtain⟨g'',ht,hs''⟩:=hs1.weaken' hw
      rw[← Q4a] at hra
      have hra':=(has.tupX hra).mono ht (.nil _)
      exact⟨hs'.defers,v,hv,g'',v,rfl,Qpx h g'' w' v hra',hs''.hr⟩
    ·cases h
   cases e with
   | ret=>exact fin hk
   | normal=>exact fin hk
   | _=>simp[finish] at hk
 ·cases h
noncomputable def runG (P:Program) (Γ:List (Ent P)) (own:List Nat) (N:Nat) (fn:Func) (an:An) (args res:List Ty) (n:Nat) (gids:List Nat):Fun args (Option (ResT res)) :=
 Qa4 args (fun xs=>runBG P Γ own N fn an res n gids xs) []
noncomputable def Qa5 (P:Program) (f:FuncId) (res:List Ty) (n:Nat) (gids:List Nat):(args:List Ty)→Fun args (Option (ResT res))→List XV→Prop
 | [],F,acc=>∀y,F=some y→DoesG P f (asOf (acc.take n)) (gids.zip (asOf (acc.drop n))) (resXV res y).a
 | t :: r,F,acc=>∀x:t.T,Qa5 P f res n gids r (F x) (acc++[.d (t.xv x)])
theorem Qgr {P:Program} {Γ:List (Ent P)} {own:List Nat} {N:Nat} {f:FuncId} {fn:Func} {an:An} {res:List Ty} {n:Nat} {gids:List Nat} (hm:P.follows .mixedOrders=true) (hf:P.funcs[f]? = some fn) (hn:Nat.ble n fn.ntmps=true) :
  ∀(args:List Ty) (acc:List XV),Qa5 P f res n gids args (Qa4 args (fun xs=>runBG P Γ own N fn an res n gids xs) acc) acc
 | [],acc=>fun y hy=>Qqv hm hf hn hy
 | t :: r,acc=>fun x=>Qgr hm hf hn r (acc++[.d (t.xv x)])
theorem Qur {P:Program} {Γ:List (Ent P)} {own:List Nat} {N:Nat} {f:FuncId} {fn:Func} {an:An} {args res:List Ty} {n:Nat} {gids:List Nat} (hm:P.follows .mixedOrders=true) (hf:P.funcs[f]? = some fn)
  (hn:Nat.ble n fn.ntmps=true):Qa5 P f res n gids args (runG P Γ own N fn an args res n gids) []:=Qgr hm hf hn args []
noncomputable def gops:List Nat→List Operand
 | []=>[]
 | k :: r=>.global k :: gops r
theorem Q7b (l:List Nat):gops l=l.map Operand.global:=by
 induction l with
 | nil=>rfl
 | cons k r ih=>simp[gops,ih]
noncomputable def appL {α:Type}:List α→List α→List α
 | [],b=>b
 | x :: r,b=>x :: appL r b
theorem Qg4 {α:Type} (a b:List α):appL a b=a++b:=by
 induction a with
 | nil=>rfl
 | cons x r ih=>simp[appL,ih]
noncomputable def Qpu {R:Type} (args res:List Ty) (n:Nat) (gids:List Nat) (F:Fun args (Option (ResT res))) (o:Oper) (st:XSt) (vs:List XV) (K:Out→Option R):Option R :=
 cond (Nat.beq (Qx o).length n) (match Qh st (gops gids) with
  | some us=>appK args F (appL (Qx o) (gops gids)) (appL vs us) [] fun Fv rd=>Option.bind Fv fun y=>K (Q9 st (resXV res y) rd)
  | none=>none) none
theorem Q66 {st:XSt}:∀ {a b:List Operand} {u v:List XV},Qh st a=some u→Qh st b=some v→Qh st (a++b)=some (u++v)
 | [],b,u,v,h,h'=>by simp[Qh] at h; subst h; exact h'
 | x :: a,b,u,v,h,h'=>by
  simp only[Qh] at h
  split at h
  ·rename_i y l hy hl
   cases h
   simp only[List.cons_append,Qh,hy,Q66 hl h']
  ·cases h
theorem Qpl {P:Program} {R:Type} {f:FuncId} {res:List Ty} {n:Nat} {gids:List Nat} {st:XSt} {K:Option (ResT res)→List (Operand×XV)→Option R} {r:R}:∀(ts:List Ty) (F:Fun ts (Option (ResT res))) (ops:List Operand) (vs:List XV) (acc:List (Operand×XV)) (aops:List Operand) (axs:List XV),
  Qa5 P f res n gids ts F axs→Qh st ops=some vs→acc=aops.zip axs→aops.length=axs.length→(∀p ∈ imRd acc,Sees st.im p.1 p.2)→Qc (asOf axs)=true→appK ts F ops vs acc K=some r →
  ∃(Fv:Option (ResT res)) (xs:List XV),xs.length=(aops++ops).length∧(∀y,Fv=some y→DoesG P f (asOf (xs.take n)) (gids.zip (asOf (xs.drop n))) (resXV res y).a)∧Qc (asOf xs)=true ∧
   (∀p ∈ imRd ((aops++ops).zip xs),Sees st.im p.1 p.2)∧K Fv ((aops++ops).zip xs)=some r
 | [],F,ops,vs,acc,aops,axs,hs,hv,hacc,hlen,hsee,hda,h=>by
  cases ops with
  | nil =>
   cases vs with
   | nil =>
    subst hacc
    exact⟨F,axs,by simp[hlen],hs,hda,by simpa using hsee,by rw[List.append_nil]; exact h⟩
   | cons _ _=>simp[appK] at h
  | cons _ _=>simp[appK] at h
 | t :: ts,F,ops,vs,acc,aops,axs,hs,hv,hacc,hlen,hsee,hda,h=>by
  cases ops with
  | nil=>simp[appK] at h
  | cons x ops =>
   cases vs with
   | nil=>simp[appK] at h
   | cons v vs =>
    simp only[appK] at h
    obtain⟨hx,hvs⟩:=Q24 hv
    split at h
    ·rename_i y hy
     have:=Qpl ts (F y) ops vs _ (aops++[x]) (axs++[.d (t.xv y)]) (hs y) hvs (by rw[hacc,List.zip_append hlen]; rfl) (by simp[hlen]) (by
      intro p hp
      rw[Qw] at hp
      rcases List.mem_append.1 hp with hp | hp
      ·exact hsee p hp
      ·simp only[imRd,List.map_cons,List.map_nil,List.mem_singleton] at hp
       subst hp
       exact Q6l hx hy) (by
      have:∀l:List AV,Qc l=true→Qc (l++[.d (t.dv y)])=true:=by
       intro l
       induction l with
       | nil=>intro _; rfl
       | cons a r ih=>intro h; simp only[Qc,Bool.and_eq_true,List.cons_append] at h ⊢; exact⟨h.1,ih h.2⟩
      rw[Q1b]; exact this _ hda) h
     simpa using this
    ·cases h
noncomputable def Qzu {P:Program} (id:FuncId) (args res:List Ty) (n:Nat) (gids:List Nat) (F:Fun args (Option (ResT res))) (hc:CallI P id) (hs:Qa5 P id res n gids args F []):Ent P where
 id:=id
 run:=Qpu args res n gids F
 ok:=by
  intro R o st aops ts vs K r ho hv h
  unfold Qpu at h
  have e:Qx o=aops.toList:=by simp[Qx,ho]
  rw[e] at h
  cases hb:Nat.beq aops.toList.length n with
  | false=>rw[hb] at h; cases h
  | true =>
   have hn:=Nat.eq_of_beq_eq_true hb
   rw[hb,cond_true] at h
   split at h
   ·rename_i us hus
    rw[Qg4,Qg4,Q7b] at h
    rw[Q7b] at hus
    obtain⟨Fv,xs,h1,h2,h3,h4,h5⟩:=Qpl (st:=st) args F _ _ [] [] [] hs (Q66 hv hus) rfl rfl (by simp[imRd]) rfl h
    obtain⟨y,hy,hK⟩:=Option.bind_eq_some_iff.1 h5
    simp only[List.nil_append] at h1 h4 hK
    refine⟨_,hK,Q4 h4 fun X=>?_⟩
    have hd:=h2 y hy
    have hn2:n=aops.size:=by rw[← hn]; simp
    rw[hn2,Q8i,Q84] at hd
    have:=Qyh (X:=X) (xs:=asOf xs) ho hc hd (by rw[Q8,h1]; simp) h3 (Qcz res y)
    rw[Q20]
    exact this
   ·cases h
end Go.Xl
namespace Go.Xl
open Go.Ab
mutual
noncomputable def XV.mp (f fl:Nat→Nat):XV→XV
 | .d x=>.d x
 | .nm k p=>.nm (f k) p
 | .tip n t l ty=>.tip (fl n) t l ty
 | .tup l=>.tup (mpL f fl l)
 | .agg l=>.agg (mpL f fl l)
 | .clo g l=>.clo g (mpL f fl l)
 | .os k t a len=>.os (f k) t a len
 | .el k t i fo=>.el (f k) t i fo
 | .tpt n e x l=>.tpt (fl n) e x l
noncomputable def mpL (f fl:Nat→Nat):List XV→List XV
 | []=>[]
 | x :: r=>x.mp f fl :: mpL f fl r
end
mutual
theorem XV.mp_a (f fl:Nat→Nat):∀x:XV,(x.mp f fl).a=mapL f fl x.a
 | .d x=>rfl
 | .nm k p=>rfl
 | .tip n t l ty=>rfl
 | .tup l=>by simp only[XV.mp,XV.a,mapL,mpL_a f fl l]
 | .agg l=>by simp only[XV.mp,XV.a,mapL,mpL_a f fl l]
 | .clo g l=>by simp only[XV.mp,XV.a,mapL,mpL_a f fl l]
 | .os k t a len=>rfl
 | .el k t i fo=>rfl
 | .tpt n e x l=>rfl
theorem mpL_a (f fl:Nat→Nat):∀l:List XV,asOf (mpL f fl l)=mapLs f fl (asOf l)
 | []=>rfl
 | x :: r=>by simp only[mpL,asOf,mapLs,XV.mp_a f fl x,mpL_a f fl r]
end
theorem Q76 (f fl:Nat→Nat) (l:List XV):mpL f fl l=l.map (XV.mp f fl):=by
 induction l with
 | nil=>rfl
 | cons x r ih=>simp[mpL,ih]
mutual
noncomputable def XV.nms (ks ls:List Nat):XV→Bool
 | .d _=>true
 | .nm k _=>inl k ks
 | .tip n _ _ _=>inl n ls
 | .tup l=>nmsL ks ls l
 | .agg l=>nmsL ks ls l
 | .clo _ l=>nmsL ks ls l
 | .os k _ _ _=>inl k ks
 | .el k _ _ _=>inl k ks
 | .tpt n _ _ _=>inl n ls
noncomputable def nmsL (ks ls:List Nat):List XV→Bool
 | []=>true
 | x :: r=>cond (x.nms ks ls) (nmsL ks ls r) false
end
theorem Q9a {k:Nat} {l:List Nat} (h:inl k l=true):l.contains k=true:=List.contains_iff_mem.2 ((Qg k l).1 h)
mutual
theorem XV.nms_a {ks ls:List Nat}:∀ {x:XV},x.nms ks ls=true→Q1c ks ls x.a=true
 | .d x,h=>rfl
 | .nm k p,h=>Q9a h
 | .tip n t l ty,h=>Q9a h
 | .tup l,h=>by simp only[XV.nms] at h; simp only[XV.a,Q1c]; exact Q6p h
 | .agg l,h=>by simp only[XV.nms] at h; simp only[XV.a,Q1c]; exact Q6p h
 | .clo g l,h=>by simp only[XV.nms] at h; simp only[XV.a,Q1c]; exact Q6p h
 | .os k t a len,h=>Q9a h
 | .el k t i fo,h=>Q9a h
 | .tpt n e x l,h=>Q9a h
theorem Q6p {ks ls:List Nat}:∀ {l:List XV},nmsL ks ls l=true→Q2h ks ls (asOf l)=true
 | [],h=>rfl
 | x :: r,h=>by
  simp only[nmsL] at h
  cases hx:x.nms ks ls with
  | false=>simp[hx] at h
  | true =>
   simp only[hx,cond_true] at h
   simp only[asOf,Q2h,XV.nms_a hx,Q6p h,Bool.and_self]
end
noncomputable def XOb.mp (f fl:Nat→Nat):XOb→XOb
 | .cells cs ty=>.cells (mpL f fl cs) ty
 | .arr t l=>.arr t l
 | .sit s p=>.sit s p
 | .map kt vt es c=>.map kt vt es c
 | .mit m a b c=>.mit (f m) a b c
 | .mitn=>.mitn
 | .bts e l=>.bts e l
 | .mapt L kt vt es c=>.mapt L kt vt es c
theorem Qat (f fl:Nat→Nat):∀l:List D,mapLs f fl (l.map .d)=l.map .d
 | []=>rfl
 | x :: r=>by simp only[List.map_cons,mapLs,mapL,Qat f fl r]
theorem XOb.mp_o (f fl:Nat→Nat) (o:XOb):(o.mp f fl).o=Q29 f fl o.o:=by
 cases o with
 | cells cs ty=>simp only[XOb.mp,XOb.o,Q29,mpL_a]
 | arr t l=>simp only[XOb.mp,XOb.o,Q29,Qat]
 | bts e l=>simp only[XOb.mp,XOb.o,Q29,Qat]
 | _=>rfl
noncomputable def XOb.nms (ks ls:List Nat):XOb→Bool
 | .cells cs _=>nmsL ks ls cs
 | .mit m _ _ _=>inl m ks
 | .mapt _ _ _ _ _=>false
 | _=>true
theorem Q8o (ks ls:List Nat):∀l:List D,Q2h ks ls (l.map .d)=true
 | []=>rfl
 | x :: r=>by simp only[List.map_cons,Q2h,Q1c,Q8o ks ls r,Bool.and_self]
theorem XOb.nms_o {ks ls:List Nat} {o:XOb} (h:o.nms ks ls=true):Q2m ks ls o.o=true:=by
 cases o with
 | cells cs ty=>simp only[XOb.nms] at h; simp only[XOb.o,Q2m]; exact Q6p h
 | arr t l=>simp only[XOb.o,Q2m]; exact Q8o _ _ _
 | bts e l=>simp only[XOb.o,Q2m]; exact Q8o _ _ _
 | mit m a b c=>exact Q9a h
 | mapt L kt vt es c=>simp[XOb.nms] at h
 | _=>rfl
noncomputable def Q4c (ks ls:List Nat):List (Nat×XOb)→Bool
 | []=>true
 | p :: r=>cond (p.2.nms ks ls) (Q4c ks ls r) false
theorem Q6o {ks ls:List Nat}:∀ {l:List (Nat×XOb)},Q4c ks ls l=true→((Q0 l).all fun p=>Q2m ks ls p.2)=true
 | [],_=>rfl
 | p :: r,h=>by
  simp only[Q4c] at h
  cases hx:p.2.nms ks ls with
  | false=>simp[hx] at h
  | true =>
   simp only[hx,cond_true] at h
   have:=Q6o h
   simp only[Q0,List.map_cons,List.all_cons,XOb.nms_o hx,Bool.true_and] at this ⊢
   exact this
noncomputable def putXs (f fl:Nat→Nat):List (Nat×XOb)→List (Nat×XOb)→List (Nat×XOb)
 | [],acc=>acc
 | p :: r,acc=>putXs f fl r (xset (f p.1) (p.2.mp f fl) acc)
theorem Qd3 (f fl:Nat→Nat):∀(l acc:List (Nat×XOb)),Q0 (putXs f fl l acc)=Qf f fl (Q0 l) (Q0 acc)
 | [],acc=>rfl
 | p :: r,acc=>by
  have:=Qd3 f fl r (xset (f p.1) (p.2.mp f fl) acc)
  rw[Q3d,XOb.mp_o] at this
  exact this
theorem Qaw (f fl:Nat→Nat):∀(l acc:List (Nat×XOb)) (j:Nat),(∀p ∈ l,f p.1≠j)→lk j (putXs f fl l acc)=lk j acc
 | [],acc,j,h=>rfl
 | p :: r,acc,j,h=>by
  simp only[putXs]
  rw[Qaw f fl r _ j (fun q hq=>h q (List.mem_cons_of_mem _ hq)),Q2k _ _ _ _ (fun e=>h p (List.mem_cons_self ..) e.symm)]
inductive ObLe:Ob→Ob→Prop
 | refl (o:Ob):ObLe o o
 | cells {cs cs' : List AV} {ty ty' : Option TypeId}:cs.length=cs'.length→(∀(i:Nat) x y,cs[i]? = some x→cs'[i]? = some y→ALe x y)→(ty' = ty∨ty' = none)→ObLe (.cells cs ty) (.cells cs' ty')
 | mapt (L sz:Nat) (l:List (Nat×Value×Bool×List (List D))) (c:Nat):ObLe (.mapt L sz l c) (.map (Q4t sz l) c)
theorem Quw {g:Gh} {w:World} {b:Nat} {o o' : Ob} (h:ObRel g w b o) (hle:ObLe o o'):ObRel g w b o':=by
 cases hle with
 | refl=>exact h
 | mapt L sz l c =>
  cases h with
  | mapt _ _ _ _ es a1 a2 a3 a4 a5 =>
   refine .map _ c es a1 (by simpa[Q4t] using a2) ?_ ?_ ?_
   ·intro i x e hx he
    simp only[Q4t,List.getElem?_map,Option.map_eq_some_iff] at hx
    obtain⟨y,hy,rfl⟩:=hx
    obtain⟨b1,b2,b3,_⟩:=a3 i y e hy he
    exact⟨b1,b2,b3⟩
   ·intro q hq
    simp only[Q4t,List.mem_map] at hq
    obtain⟨y,hy,rfl⟩:=hq
    exact a4 y hy
   ·simpa[Q4t,List.map_map,Function.comp_def] using a5
 | cells hl hc ht =>
  cases h with
  | cells _ _ arr T h1 h2 h3 h4 =>
   refine .cells _ _ arr T h1 (hl▸h2) ?_ ?_
   ·intro i y v hy hv
    have hlt:=(List.getElem?_eq_some_iff.1 hy).1
    obtain⟨x,hx⟩:∃x,_=some x:=⟨_,List.getElem?_eq_getElem (l:=_) (i:=i) (by rw[hl]; exact hlt)⟩
    exact hc i x y hx hy g w v (h3 i x v hx hv)
   ·intro t hh
    rcases ht with e | e
    ·exact h4 t (e▸hh)
    ·rw[e] at hh; cases hh
theorem Qbs {nm:List Nat} {B:Base} {g:Gh} {w:World} {X Y:Store} (h:HR nm B g w X) (hle:∀k o',Y.objs.lookup k=some o'→∃o,X.objs.lookup k=some o∧ObLe o o')
  (hk:∀k,(X.objs.lookup k).isSome→(Y.objs.lookup k).isSome) (hl:Y.live=X.live):HR nm B g w Y where
 keep k hm:=⟨(h.keep k hm).1,hk k (h.keep k hm).2⟩
 sane:=h.sane
 base:=h.base
 io:=h.io
 le:=h.le
 frame:=h.frame
 objs k o' ho:=by obtain⟨o,h1,h2⟩:=hle k o' ho; exact Quw (h.objs k o h1) h2
 objγ k o' ho:=by obtain⟨o,h1,h2⟩:=hle k o' ho; exact h.objγ k o h1
 objinj k k' o o' ho ho':=by
  obtain⟨_,h1,_⟩:=hle k o ho
  obtain⟨_,h2,_⟩:=hle k' o' ho'
  exact h.objinj k k' _ _ h1 h2
 objnew k o' ho:=by obtain⟨o,h1,h2⟩:=hle k o' ho; exact h.objnew k o h1
 live n:=by rw[hl]; exact h.live n
 tipinj:=h.tipinj
 tipobj n b k o' hn ho:=by obtain⟨o,h1,h2⟩:=hle k o' ho; exact h.tipobj n b k o hn h1
 tipnew:=h.tipnew
 tiplt:=h.tiplt
 eta:=h.eta.same (Nat.le_refl _) fun k o' ho=>let ⟨o,h1,_⟩:=hle k o' ho; ⟨o,h1⟩
theorem Qon {P:Program} {o:Oper} {rd:List (Operand×AV)} {X Y X' : Store} {F:List Nat} {res:AV} (h:OpT P o rd Y X' F res) (hle:∀k o',Y.objs.lookup k=some o'→∃o,X.objs.lookup k=some o∧ObLe o o')
  (hk:∀k,(X.objs.lookup k).isSome→(Y.objs.lookup k).isSome) (hl:Y.live=X.live):OpT P o rd X X' F res :=
 fun nm hsm B g w a hr=>h nm hsm B g w a (Qbs hr hle hk hl)
theorem Qk0 {P:Program} {X:Store} {o:Oper} {fn:FuncId} {c:Operand} {args:Array Operand} {ts:Array TypeId} {xs caps:List AV} {res:AV} {Xc Xc' : Store} (f fl:Nat→Nat) (F:List Nat)
  (ho:o.op = .call { callee:=.value c,args:=args,argTypes:=ts }) (hf:CallI P fn) (hs:Does P fn (xs++caps) Xc res Xc') (hc:LabCall X Xc Xc' f fl F)
  (hl:xs.length=args.size) (hd:Q2h (Xc.objs.map (·.1)) Xc.live (xs++caps)=true) (hdr:Q1c (Xc'.objs.map (·.1)) Xc'.live res=true) :
  OpT P o ((c,.clo fn (mapLs f fl caps)) :: args.toList.zip (mapLs f fl xs)) X ⟨Qf f fl Xc'.objs X.objs,Qy fl X Xc Xc'⟩ F (mapL f fl res):=by
 intro nm hsm B g w a hr hrd next Q hn
 have e1:=rd0 hrd
 simp only at e1
 unfold Oper.wp
 generalize hcv:a.eval c=vc at e1
 cases e1 with
 | clo _ _ vs hlen hvs =>
  have:(execOp a.eval o).run P w = .ok (.enter fn (args.map a.eval++vs)) w:=by
   simp only[execOp,ho,resolve]
   simp[hcv,Deferred.ofValue,invoke,Q1y hf]
  rw[this]
  have hm:∀l m:List AV,mapLs f fl (l++m)=mapLs f fl l++mapLs f fl m:=fun l m=>by rw[Q1e,Q1e,Q1e,List.map_append]
  have hml:(mapLs f fl xs).length=args.size:=by rw[Q1e,List.length_map,hl]
  have hmc:caps.length=vs.size:=by rw[Q1e,List.length_map] at hlen; exact hlen
  refine(hs.useLab hc hd hdr hr (vs:=args.map a.eval++vs) (by simp[hl,hmc]) ?_).mono ?_
  ·intro i x v hx hv
   rw[hm,List.getElem?_append] at hx
   split at hx
   ·rename_i hlt
    rw[Array.getElem?_append_left (by simp; omega)] at hv
    exact Q69 (fun p hp=>hrd p (List.mem_cons_of_mem _ hp)) i x v hx hv
   ·rename_i hge
    rw[Array.getElem?_append_right (by simp; omega)] at hv
    refine hvs _ x v hx ?_
    rw[hml]; simpa using hv
  ·rintro e w' ⟨v,g',rfl,h1,h2,h3⟩
   exact hn g' w' v h1 h2 h3
theorem Qda {P:Program} {X:Store} {o:Oper} {fn:FuncId} {args:Array Operand} {ts:Array TypeId} {gids:List Nat} {xs ys:List AV} {res:AV} {Xc Xc' : Store} (f fl:Nat→Nat) (F:List Nat)
  (ho:o.op = .call { callee:=.value (.func fn),args:=args,argTypes:=ts }) (hf:CallI P fn) (hs:DoesH P fn xs (gids.zip ys) Xc res Xc') (hc:LabCall X Xc Xc' f fl F)
  (hl:xs.length=args.size) (hd:Q2h (Xc.objs.map (·.1)) Xc.live xs=true) (hy:Qc ys=true) (hdr:Q1c (Xc'.objs.map (·.1)) Xc'.live res=true) :
  OpT P o (args.toList.zip (mapLs f fl xs)++(gids.map Operand.global).zip ys) X ⟨Qf f fl Xc'.objs X.objs,Qy fl X Xc Xc'⟩ F (mapL f fl res):=by
 intro nm hsm B g w a hr hrd next Q hn
 unfold Oper.wp
 have:(execOp a.eval o).run P w = .ok (.enter fn (args.map a.eval)) w:=by
  simp only[execOp,ho,resolve]
  simp[Act.eval,Deferred.ofValue,invoke,Q1y hf]
 rw[this]
 have hG:GH g w (gids.zip ys):=by
  intro p hp
  have h1:(Operand.global p.1,p.2) ∈ (gids.map Operand.global).zip ys:=by
   rw[List.zip_map_left,List.mem_map]
   exact⟨p,hp,rfl⟩
  exact hrd _ (List.mem_append_right _ h1)
 refine(hs.useLab (Q81 _ hy) hc hd hdr hr hG (by simpa using hl) (Q69 fun p hp=>hrd p (List.mem_append_left _ hp))).mono ?_
 rintro e w' ⟨v,g',rfl,h1,h2,h3⟩
 exact hn g' w' v h1 h2 h3
end Go.Xl
namespace Go.Xl
open Go.Ab
inductive AS where
 | d (t:Ty)
 | p (k off:Nat)
 | os (k:Nat) (t:Ty)
 | clo (f:Nat) (ps:List (Nat×Nat))
 /-- such a slice that begins at a place -/
 | oa (k a:Nat) (t:Ty)
 /-- what a package variable holds: behind all other ones -/
 | g (k:Nat) (t:Ty)
noncomputable def Qp9:List AS→List Nat
 | []=>[]
 | .g k _ :: r=>k :: Qp9 r
 | _ :: r=>Qp9 r
noncomputable def Quz:List AS→Nat
 | []=>0
 | .g _ _ :: _=>0
 | _ :: r=>Quz r+1
structure CSp where
 args:List AS
 objs:List (Nat×List VK×Option TypeId)
 arrs:List (Nat×OK)
 out:Cut
noncomputable def CSp.names (S:CSp):List Nat:=Q2g S.objs++Q1p S.arrs
noncomputable def CSp.labs (S:CSp):List Nat:=Q8u S.objs
noncomputable def CSp.gids (S:CSp):List Nat:=Qp9 S.args
noncomputable def CSp.n (S:CSp):Nat:=Quz S.args
noncomputable def CSp.s0 (S:CSp) (xs:List XV) (objs:List (Nat×XOb)):XSt:=⟨envX 0 (xs.take S.n)++glE S.gids (xs.drop S.n),objs,S.labs,[],[]⟩
@[reducible] noncomputable def CurA:List AS→Type→Type
 | [],R=>R
 | .d t :: r,R=>t.T→CurA r R
 | .p _ _ :: r,R=>CurA r R
 | .os _ _ :: r,R=>Nat→CurA r R
 | .oa _ _ _ :: r,R=>Nat→CurA r R
 | .clo _ _ :: r,R=>CurA r R
 | .g _ t :: r,R=>t.T→CurA r R
@[reducible] noncomputable def CurC:List VK→Type→Type
 | [],R=>R
 | .d t :: r,R=>t.T→CurC r R
 | .p _ _ :: r,R=>CurC r R
 | .z _ _ :: r,R=>Bool→CurC r R
 | .os _ _ :: r,R=>Nat→CurC r R
 | .tip _ t _ :: r,R=>List t.T→CurC r R
@[reducible] noncomputable def CurO:List (Nat×List VK×Option TypeId)→Type→Type
 | [],R=>R
 | p :: r,R=>CurC p.2.1 (CurO r R)
@[reducible] noncomputable def CurR:List (Nat×OK)→Type→Type
 | [],R=>R
 | p :: r,R=>p.2.T→CurR r R
@[reducible] noncomputable def CSp.Fun (S:CSp) (R:Type):Type:=CurA S.args (CurO S.objs (CurR S.arrs R))
noncomputable def psX (ps:List (Nat×Nat)):List XV:=ps.map fun p=>.nm p.1 (pkOf p.2)
noncomputable def lamA {α:Type}:(l:List AS)→(List XV→α)→List XV→CurA l α
 | [],f,acc=>f acc
 | .d t :: r,f,acc=>fun y=>lamA r f (acc++[.d (t.xv y)])
 | .p k off :: r,f,acc=>lamA r f (acc++[.nm k (pkOf off)])
 | .os k t :: r,f,acc=>fun n=>lamA r f (acc++[.os k t 0 n])
 | .oa k a t :: r,f,acc=>fun n=>lamA r f (acc++[.os k t a n])
 | .clo g ps :: r,f,acc=>lamA r f (acc++[.clo g (psX ps)])
 | .g _ t :: r,f,acc=>fun y=>lamA r f (acc++[.d (t.xv y)])
noncomputable def lamC {α:Type}:(l:List VK)→(List XV→α)→List XV→CurC l α
 | [],f,acc=>f acc
 | .d t :: r,f,acc=>fun y=>lamC r f (acc++(t.enc y).map .d)
 | .p k off :: r,f,acc=>lamC r f (acc++[.nm k (pkOf off)])
 | .z k off :: r,f,acc=>fun b=>lamC r f (acc++[.nm k (.z b off)])
 | .os k t :: r,f,acc=>fun n=>lamC r f (acc++[.os k t 0 n])
 | .tip n t ty :: r,f,acc=>fun l=>lamC r f (acc++[.tip n t l ty])
noncomputable def lamO {α:Type}:(l:List (Nat×List VK×Option TypeId))→(List (Nat×XOb)→α)→List (Nat×XOb)→CurO l α
 | [],f,acc=>f acc
 | p :: r,f,acc=>lamC p.2.1 (fun cs=>lamO r f (acc++[(p.1,.cells cs p.2.2)])) []
noncomputable def lamR {α:Type}:(l:List (Nat×OK))→(List (Nat×XOb)→α)→List (Nat×XOb)→CurR l α
 | [],f,acc=>f acc
 | p :: r,f,acc=>fun l=>lamR r f (acc++[(p.1,p.2.ob l)])
noncomputable def GndA {β:Type} (Q:β→List XV→Prop):(l:List AS)→CurA l β→List XV→Prop
 | [],F,acc=>Q F acc
 | .d t :: r,F,acc=>∀y:t.T,GndA Q r (F y) (acc++[.d (t.xv y)])
 | .p k off :: r,F,acc=>GndA Q r F (acc++[.nm k (pkOf off)])
 | .os k t :: r,F,acc=>∀n:Nat,GndA Q r (F n) (acc++[.os k t 0 n])
 | .oa k a t :: r,F,acc=>∀n:Nat,GndA Q r (F n) (acc++[.os k t a n])
 | .clo g ps :: r,F,acc=>GndA Q r F (acc++[.clo g (psX ps)])
 | .g _ t :: r,F,acc=>∀y:t.T,GndA Q r (F y) (acc++[.d (t.xv y)])
noncomputable def GndC {β:Type} (Q:β→List XV→Prop):(l:List VK)→CurC l β→List XV→Prop
 | [],F,acc=>Q F acc
 | .d t :: r,F,acc=>∀y:t.T,GndC Q r (F y) (acc++(t.enc y).map .d)
 | .p k off :: r,F,acc=>GndC Q r F (acc++[.nm k (pkOf off)])
 | .z k off :: r,F,acc=>∀b:Bool,GndC Q r (F b) (acc++[.nm k (.z b off)])
 | .os k t :: r,F,acc=>∀n:Nat,GndC Q r (F n) (acc++[.os k t 0 n])
 | .tip n t ty :: r,F,acc=>∀l:List t.T,GndC Q r (F l) (acc++[.tip n t l ty])
noncomputable def GndO {β:Type} (Q:β→List (Nat×XOb)→Prop):(l:List (Nat×List VK×Option TypeId))→CurO l β→List (Nat×XOb)→Prop
 | [],F,acc=>Q F acc
 | p :: r,F,acc=>GndC (fun F' cs=>GndO Q r F' (acc++[(p.1,.cells cs p.2.2)])) p.2.1 F []
noncomputable def GndR {β:Type} (Q:β→List (Nat×XOb)→Prop):(l:List (Nat×OK))→CurR l β→List (Nat×XOb)→Prop
 | [],F,acc=>Q F acc
 | p :: r,F,acc=>∀l:p.2.T,GndR Q r (F l) (acc++[(p.1,p.2.ob l)])
theorem Q68 {α:Type} {Q:α→List XV→Prop} {f:List XV→α} (m:Nat) (h:∀acc,acc.length=m→Q (f acc) acc):∀(l:List AS) (acc:List XV),acc.length+l.length=m→GndA Q l (lamA l f acc) acc
 | [],acc,hm=>h acc (by simpa using hm)
 | .d t :: r,acc,hm=>fun y=>Q68 m h r _ (by simp at hm ⊢; omega)
 | .p k off :: r,acc,hm=>by
  simp only[GndA,lamA]
  exact Q68 m h r (acc++[.nm k (pkOf off)]) (by simp at hm ⊢; omega)
 | .os k t :: r,acc,hm=>fun n=>Q68 m h r _ (by simp at hm ⊢; omega)
 | .oa k a t :: r,acc,hm=>fun n=>Q68 m h r _ (by simp at hm ⊢; omega)
 | .clo g ps :: r,acc,hm=>by
  simp only[GndA,lamA]
  exact Q68 m h r (acc++[.clo g (psX ps)]) (by simp at hm ⊢; omega)
 | .g _ t :: r,acc,hm=>fun y=>Q68 m h r _ (by simp at hm ⊢; omega)
theorem Q7o {α:Type} {Q:α→List XV→Prop} {f:List XV→α} (h:∀acc,Q (f acc) acc):∀(l:List VK) (acc:List XV),GndC Q l (lamC l f acc) acc
 | [],acc=>h acc
 | .d t :: r,acc=>fun y=>Q7o h r _
 | .p k off :: r,acc=>by
  simp only[GndC,lamC]
  exact Q7o h r (acc++[.nm k (pkOf off)])
 | .z k off :: r,acc=>fun b=>Q7o h r _
 | .os k t :: r,acc=>fun n=>Q7o h r _
 | .tip n t ty :: r,acc=>fun l=>Q7o h r _
theorem Qph {α:Type} {Q:α→List (Nat×XOb)→Prop} {f:List (Nat×XOb)→α} (ns:List Nat) (h:∀acc,acc.map (·.1)=ns→Q (f acc) acc):∀(l:List (Nat×List VK×Option TypeId)) (acc:List (Nat×XOb)),acc.map (·.1)++Q2g l=ns→GndO Q l (lamO l f acc) acc
 | [],acc,hm=>h acc (by simpa[Q2g] using hm)
 | p :: r,acc,hm=>Q7o (fun cs=>Qph ns h r _ (by simpa[Q2g] using hm)) p.2.1 []
theorem Qp2 {α:Type} {Q:α→List (Nat×XOb)→Prop} {f:List (Nat×XOb)→α} (ns:List Nat) (h:∀acc,acc.map (·.1)=ns→Q (f acc) acc):∀(l:List (Nat×OK)) (acc:List (Nat×XOb)),acc.map (·.1)++Q1p l=ns→GndR Q l (lamR l f acc) acc
 | [],acc,hm=>h acc (by simpa[Q1p] using hm)
 | p :: r,acc,hm=>fun l=>Qp2 ns h r _ (by simpa[Q1p] using hm)
section
variable (P:Program) (Γ:List (Ent P)) (own:List Nat) (N:Nat) (fn:Func) (an:An) (S:CSp)
noncomputable def finX (S:CSp) (xs:List XV) (objs:List (Nat×XOb)) (s:XSt):Option S.out.T:=proj S.names (keepL (S.s0 xs objs) S.out) S.out s
noncomputable def finC (S:CSp) (xs:List XV) (objs:List (Nat×XOb)):Exit→XSt→Option S.out.T
 | .ret,s=>finX S xs objs s
 | .normal,s=>finX S xs objs s
 | _,_=>none
noncomputable def runBC (xs:List XV) (objs:List (Nat×XOb)):Option S.out.T :=
 match fn.body with
 | some c=>cond (Nat.ble fn.ntmps GB) (exec P Γ own S.names fn.ntmps N c an (S.s0 xs objs) (finC S xs objs)) none
 | none=>none
noncomputable def runC:S.Fun (Option S.out.T):=lamA S.args (fun xs=>lamO S.objs (fun os=>lamR S.arrs (fun os'=>runBC P Γ own N fn an S xs os') os) []) []
end
noncomputable def GoodC (P:Program) (f:FuncId) (fn:Func) (S:CSp) (y:S.out.T) (xs:List XV) (objs:List (Nat×XOb)):Prop :=
 objs.map (·.1)=S.names∧∀rs,xres P (gen (S.s0 xs objs) S.out y) fn.results.toList=some rs→DoesH P f (asOf (xs.take S.n)) (S.gids.zip (asOf (xs.drop S.n))) ⟨Q0 objs,S.labs⟩ (tupX rs).a (gen (S.s0 xs objs) S.out y).X
noncomputable def SndC (P:Program) (f:FuncId) (fn:Func) (S:CSp) (F:S.Fun (Option S.out.T)):Prop :=
 GndA (fun F' xs=>GndO (fun F'' os=>GndR (fun F3 os'=>∀y,F3=some y→GoodC P f fn S y xs os') S.arrs F'' os) S.objs F' []) S.args F []
noncomputable def Q52:List Nat→Bool
 | []=>true
 | n :: r=>cond (Nat.blt n 1000) (Q52 r) false
theorem Q3b:∀ {l:List Nat},Q52 l=true→∀j ∈ l,j < 1000
 | [],_=>by simp
 | n :: r,h=>by
  simp only[Q52] at h
  cases hb:Nat.blt n 1000 with
  | false=>simp[hb] at h
  | true =>
   simp only[hb,cond_true] at h
   intro j hj
   rcases List.mem_cons.1 hj with rfl | hj
   ·simpa[Nat.blt_eq] using hb
   ·exact Q3b h j hj
noncomputable def Qg9 (S:CSp):Bool:=match S.out.keepS with
 | []=>true
 | _=>false
theorem Ql (l:List (Nat×XOb)):(Q0 l).map (·.1)=l.map (·.1):=by simp[Q0]
theorem Qri {P:Program} {Γ:List (Ent P)} {own:List Nat} {N:Nat} {f:FuncId} {fn:Func} {an:An} {S:CSp} {xs:List XV} {objs:List (Nat×XOb)} {y:S.out.T} (hm:P.follows .mixedOrders=true) (hf:P.funcs[f]? = some fn)
  (hn:xs.length≤fn.ntmps) (hsm:Q52 S.names=true) (hks:Qg9 S=true) (hnames:objs.map (·.1)=S.names) (h:runBC P Γ own N fn an S xs objs=some y):GoodC P f fn S y xs objs:=by
 unfold runBC at h
 split at h
 ·rename_i c hc
  obtain⟨hG,h⟩:=condG h
  have hs:=Q70 (S:=⟨fn.ntmps,S.names,Q3b hsm⟩) hm rfl c an _ _ _ _ (.refl _) h
  have hks' : S.out.keepS = []:=by
   unfold Qg9 at hks
   split at hks
   ·assumption
   ·cases hks
  refine⟨hnames,fun rs hrs=>?_⟩
  intro g w vs hr hgs hl ha
  have hnm:(Q0 objs).map (·.1)=S.names:=by rw[Ql,hnames]
  refine calls_of_wp hf hc (wp_mono (hs (Base.of g w ⟨Q0 objs,S.labs⟩) g w _ ?_) ?_)
  ·rw[Q8,List.length_take] at hl
   refine⟨rfl,?_,?_,?_⟩
   ·simp; omega
   ·have:=hr
    rw[hnm] at this
    exact this
   ·intro s x hx
    have hx' : (imEnv (envX 0 (xs.take S.n))++imEnv (glE S.gids (xs.drop S.n))).lookup s=some x:=by
     rw[imEnv,imEnv,← List.map_append]; exact hx
    rw[List.lookup_append,Q94] at hx'
    cases h1:(envOf 0 (asOf (xs.take S.n))).lookup s with
    | some x1 =>
     rw[h1] at hx'
     simp only[Option.some_or,Option.some.injEq] at hx'
     subst hx'
     obtain⟨_,hx'⟩:=Q46 h1
     rw[Nat.sub_zero] at hx'
     have hlt:s < vs.size:=by
      have:=(List.getElem?_eq_some_iff.1 hx').1
      rw[Q8,List.length_take] at this; omega
     refine⟨vs[s],?_,ha s x1 _ hx' (by simp[hlt])⟩
     rw[Q3r (by omega)]
     simp[Array.getElem?_append,hlt]
    | none =>
     rw[h1] at hx'
     simp only[Option.none_or] at hx'
     obtain⟨k,rfl,hk⟩:=Qgb (Qn hx')
     exact⟨_,Q8t k,hgs _ hk⟩
  ·rintro e a' w' ⟨s,g',⟨st',rfl,hi,hk⟩,hs'⟩
   have fin:finX S xs objs st' = some y →
     a'.defers = []∧∃v,(results fn a'.tmps).run P w' = .ok v w'∧∃g' v_1,Ending.returned v=Ending.returned v_1∧RA g' w' (tupX rs).a v_1∧HR ((Q0 objs).map (·.1)) (Base.of g w ⟨Q0 objs,S.labs⟩) g' w' (gen (S.s0 xs objs) S.out y).X:=by
    intro h
    unfold finX at h
    obtain⟨g'',hs''⟩:=Qac h (by rw[hks']; simp) (fun k _ x hk hx=>hi.objs k x hk hx) hs' rfl
    obtain⟨v,hv,hra⟩:=Q3v (Q4x hrs) hs''
    rw[← Q4a] at hra
    exact⟨hs''.defers,v,hv,g'',v,rfl,hra,by rw[hnm]; exact hs''.hr⟩
   cases e with
   | ret=>exact fin hk
   | normal=>exact fin hk
   | _=>simp[finC] at hk
 ·cases h
theorem Qu3 {P:Program} {Γ:List (Ent P)} {own:List Nat} {N:Nat} {f:FuncId} {fn:Func} {an:An} {S:CSp} (hm:P.follows .mixedOrders=true) (hf:P.funcs[f]? = some fn)
  (hn:Nat.ble S.args.length fn.ntmps=true) (hsm:Q52 S.names=true) (hks:Qg9 S=true):SndC P f fn S (runC P Γ own N fn an S):=by
 unfold SndC runC
 refine Q68 S.args.length (fun xs hxs=>?_) S.args [] (by simp)
 refine Qph (Q2g S.objs) (fun os hos=>?_) S.objs [] (by simp)
 refine Qp2 S.names (fun os' hos'=>?_) S.arrs os (by rw[hos]; rfl)
 intro y hy
 exact Qri hm hf (by have:=Nat.le_of_ble_eq_true hn; omega) hsm hks hos' hy
end Go.Xl
namespace Go.Xl
open Go.Ab
noncomputable def isPtr (k off:Nat):XV→Bool
 | .nm k' p=>cond (Nat.beq k' k) (pkEq p off) false
 | _=>false
theorem Qhm {k off:Nat} {v:XV} (h:isPtr k off v=true):v = .nm k (pkOf off):=by
 unfold isPtr at h
 split at h
 ·rename_i k' off'
  cases h1:Nat.beq k' k with
  | false=>simp[h1] at h
  | true =>
   simp only[h1,cond_true] at h
   rw[Nat.eq_of_beq_eq_true h1,Qt3 h]
 ·cases h
noncomputable def osOf (k:Nat) (t:Ty):XV→Option Nat
 | .os k' t' a n=>cond (Nat.beq k' k) (cond (t'.eqb t) (cond (Nat.beq a 0) (some n) none) none) none
 | _=>none
theorem Qss {k:Nat} {t:Ty} {v:XV} {n:Nat} (h:osOf k t v=some n):v = .os k t 0 n:=by
 unfold osOf at h
 split at h
 ·rename_i k' t' a m
  cases h1:Nat.beq k' k with
  | false=>simp[h1] at h
  | true =>
  cases h2:t'.eqb t with
  | false=>simp[h1,h2] at h
  | true =>
  cases h3:Nat.beq a 0 with
  | false=>simp[h1,h2,h3] at h
  | true =>
   simp only[h1,h2,h3,cond_true,Option.some.injEq] at h
   rw[Nat.eq_of_beq_eq_true h1,Ty.eqb_eq h2,Nat.eq_of_beq_eq_true h3,h]
 ·cases h
noncomputable def osOfA (k a:Nat) (t:Ty):XV→Option Nat
 | .os k' t' a' n=>cond (Nat.beq k' k) (cond (t'.eqb t) (cond (Nat.beq a' a) (some n) none) none) none
 | _=>none
theorem Qxm {k a:Nat} {t:Ty} {v:XV} {n:Nat} (h:osOfA k a t v=some n):v = .os k t a n:=by
 unfold osOfA at h
 split at h
 ·rename_i k' t' a' m
  cases h1:Nat.beq k' k with
  | false=>simp[h1] at h
  | true =>
  cases h2:t'.eqb t with
  | false=>simp[h1,h2] at h
  | true =>
  cases h3:Nat.beq a' a with
  | false=>simp[h1,h2,h3] at h
  | true =>
   simp only[h1,h2,h3,cond_true,Option.some.injEq] at h
   rw[Nat.eq_of_beq_eq_true h1,Ty.eqb_eq h2,Nat.eq_of_beq_eq_true h3,h]
 ·cases h
noncomputable def Qbq (f:Nat→Nat):List (Nat×Nat)→List XV→Bool
 | [],[]=>true
 | p :: ps,c :: cs=>cond (isPtr (f p.1) p.2 c) (Qbq f ps cs) false
 | _,_=>false
theorem Qlp {f fl:Nat→Nat}:∀ {ps:List (Nat×Nat)} {cs:List XV},Qbq f ps cs=true→cs=mpL f fl (psX ps)
 | [],[],_=>rfl
 | [],_ :: _,h=>by simp[Qbq] at h
 | _ :: _,[],h=>by simp[Qbq] at h
 | p :: ps,c :: cs,h=>by
  simp only[Qbq] at h
  cases h1:isPtr (f p.1) p.2 c with
  | false=>simp[h1] at h
  | true =>
   simp only[h1,cond_true] at h
   have e:=Qlp (fl:=fl) h
   rw[Qhm h1,e]
   rfl
noncomputable def Qj9 (f:Nat→Nat) (g:Nat) (ps:List (Nat×Nat)):XV→Bool
 | .clo g' caps=>cond (Nat.beq g' g) (Qbq f ps caps) false
 | _=>false
theorem Qvg {f fl:Nat→Nat} {g:Nat} {ps:List (Nat×Nat)} {v:XV} (h:Qj9 f g ps v=true):v=(XV.clo g (psX ps)).mp f fl:=by
 unfold Qj9 at h
 split at h
 ·rename_i g' caps
  cases h1:Nat.beq g' g with
  | false=>simp[h1] at h
  | true =>
   simp only[h1,cond_true] at h
   rw[Nat.eq_of_beq_eq_true h1,Qlp (fl:=fl) h]
   rfl
 ·cases h
inductive ArgR (f fl:Nat→Nat):List XV→List XV→Prop
 | nil:ArgR f fl [] []
 | dat {t:Ty} {v:XV} {y:t.T} {vs xs:List XV}:decXV t v=some y→ArgR f fl vs xs→ArgR f fl (v :: vs) (.d (t.xv y) :: xs)
 | same {v x:XV} {vs xs:List XV}:v=x.mp f fl→ArgR f fl vs xs→ArgR f fl (v :: vs) (x :: xs)
theorem ArgR.app {f fl:Nat→Nat} {a b c d:List XV} (h:ArgR f fl a b) (h' : ArgR f fl c d):ArgR f fl (a++c) (b++d):=by
 induction h with
 | nil=>exact h'
 | dat h1 _ ih=>exact .dat h1 ih
 | same h1 _ ih=>exact .same h1 ih
theorem ArgR.length {f fl:Nat→Nat} {a b:List XV} (h:ArgR f fl a b):a.length=b.length:=by
 induction h with
 | nil=>rfl
 | dat _ _ ih=>simp[ih]
 | same _ _ ih=>simp[ih]
theorem ArgR.split {f fl:Nat→Nat}:∀ {a c xs:List XV},ArgR f fl (a++c) xs→∃b d,xs=b++d∧ArgR f fl a b∧ArgR f fl c d
 | [],c,xs,h=>⟨[],xs,rfl,.nil,h⟩
 | v :: a,c,xs,h=>by
  rw[List.cons_append] at h
  cases h with
  | dat h1 h2 =>
   obtain⟨b,d,rfl,h3,h4⟩:=ArgR.split h2
   exact⟨_ :: b,d,rfl,.dat h1 h3,h4⟩
  | same h1 h2 =>
   obtain⟨b,d,rfl,h3,h4⟩:=ArgR.split h2
   exact⟨_ :: b,d,rfl,.same h1 h3,h4⟩
noncomputable def Qbe:List XV→Bool
 | []=>true
 | .nm _ _ :: r=>Qbe r
 | _ :: _=>false
theorem ArgR.caps {f fl:Nat→Nat}:∀ {cs xs:List XV},ArgR f fl cs xs→Qbe cs=true→cs=mpL f fl xs
 | [],xs,h,_=>by cases h; rfl
 | v :: cs,xs,h,hn=>by
  cases v with
  | nm k p =>
   simp only[Qbe] at hn
   cases h with
   | dat h1 h2=>simp[decXV] at h1
   | same h1 h2=>rw[h1,ArgR.caps h2 hn]; rfl
  | _=>simp[Qbe] at hn
theorem ArgR.sees {f fl:Nat→Nat} {st:XSt}:∀ {ops:List Operand} {vs xs:List XV},Qh st ops=some vs→ArgR f fl vs xs→∀p ∈ imRd (ops.zip (mpL f fl xs)),Sees st.im p.1 p.2
 | [],vs,xs,hv,h=>by simp[imRd]
 | x :: ops,[],xs,hv,h=>by have:=Q1k hv; simp at this
 | x :: ops,v :: vs,xs,hv,h=>by
  obtain⟨hx,hvs⟩:=Q24 hv
  cases h with
  | dat h1 h2 =>
   intro p hp
   simp only[mpL,List.zip_cons_cons,imRd,List.map_cons,List.mem_cons] at hp
   rcases hp with rfl | hp
   ·exact Q6l hx h1
   ·exact ArgR.sees hvs h2 p hp
  | same h1 h2 =>
   intro p hp
   simp only[mpL,List.zip_cons_cons,imRd,List.map_cons,List.mem_cons] at hp
   rcases hp with rfl | hp
   ·rw[← h1]; exact Q5 hx
   ·exact ArgR.sees hvs h2 p hp
noncomputable def appAs {β R:Type} (f:Nat→Nat):(l:List AS)→CurA l β→List XV→List XV→(β→List XV→Option R)→Option R
 | [],F,[],acc,K=>K F acc
 | .d t :: r,F,v :: vs,acc,K=>match decXV t v with
  | some y=>appAs f r (F y) vs (acc++[.d (t.xv y)]) K
  | none=>none
 | .p k off :: r,F,v :: vs,acc,K=>cond (isPtr (f k) off v) (appAs f r F vs (acc++[.nm k (pkOf off)]) K) none
 | .os k t :: r,F,v :: vs,acc,K=>match osOf (f k) t v with
  | some n=>appAs f r (F n) vs (acc++[.os k t 0 n]) K
  | none=>none
 | .oa k a t :: r,F,v :: vs,acc,K=>match osOfA (f k) a t v with
  | some n=>appAs f r (F n) vs (acc++[.os k t a n]) K
  | none=>none
 | .clo g ps :: r,F,v :: vs,acc,K=>cond (Qj9 f g ps v) (appAs f r F vs (acc++[.clo g (psX ps)]) K) none
 | .g _ t :: r,F,v :: vs,acc,K=>match decXV t v with
  | some y=>appAs f r (F y) vs (acc++[.d (t.xv y)]) K
  | none=>none
 | _,_,_,_,_=>none
theorem Q55 {β R:Type} {Q:β→List XV→Prop} {f fl:Nat→Nat} {K:β→List XV→Option R} {r:R}:∀(l:List AS) (F:CurA l β) (vs us acc:List XV),GndA Q l F acc→ArgR f fl us acc→appAs f l F vs acc K=some r →
  ∃F' xs,Q F' xs∧ArgR f fl (us++vs) xs∧K F' xs=some r
 | [],F,[],us,acc,hg,hr,h=>⟨F,acc,hg,by simpa using hr,h⟩
 | [],F,_ :: _,us,acc,hg,hr,h=>by simp[appAs] at h
 | .d t :: l,F,[],us,acc,hg,hr,h=>by simp[appAs] at h
 | .p k off :: l,F,[],us,acc,hg,hr,h=>by simp[appAs] at h
 | .os k t :: l,F,[],us,acc,hg,hr,h=>by simp[appAs] at h
 | .clo g ps :: l,F,[],us,acc,hg,hr,h=>by simp[appAs] at h
 | .g k t :: l,F,[],us,acc,hg,hr,h=>by simp[appAs] at h
 | .oa k a t :: l,F,[],us,acc,hg,hr,h=>by simp[appAs] at h
 | .oa k a t :: l,F,v :: vs,us,acc,hg,hr,h=>by
  simp only[appAs] at h
  split at h
  ·rename_i n hn
   obtain⟨F',xs,h1,h2,h3⟩:=Q55 l (F n) vs (us++[v]) _ (hg n) (hr.app (.same (x:=.os k t a n) (Qxm hn) .nil)) h
   exact⟨F',xs,h1,by simpa using h2,h3⟩
  ·cases h
 | .g k t :: l,F,v :: vs,us,acc,hg,hr,h=>by
  simp only[appAs] at h
  split at h
  ·rename_i y hy
   obtain⟨F',xs,h1,h2,h3⟩:=Q55 l (F y) vs (us++[v]) _ (hg y) (hr.app (.dat hy .nil)) h
   exact⟨F',xs,h1,by simpa using h2,h3⟩
  ·cases h
 | .d t :: l,F,v :: vs,us,acc,hg,hr,h=>by
  simp only[appAs] at h
  split at h
  ·rename_i y hy
   obtain⟨F',xs,h1,h2,h3⟩:=Q55 l (F y) vs (us++[v]) _ (hg y) (hr.app (.dat hy .nil)) h
   exact⟨F',xs,h1,by simpa using h2,h3⟩
  ·cases h
 | .p k off :: l,F,v :: vs,us,acc,hg,hr,h=>by
  simp only[appAs] at h
  cases hp:isPtr (f k) off v with
  | false=>simp[hp] at h
  | true =>
   simp only[hp,cond_true] at h
   obtain⟨F',xs,h1,h2,h3⟩:=Q55 l F vs (us++[v]) (acc++[.nm k (pkOf off)]) hg (hr.app (.same (x:=.nm k (pkOf off)) (Qhm hp) .nil)) h
   exact⟨F',xs,h1,by simpa using h2,h3⟩
 | .os k t :: l,F,v :: vs,us,acc,hg,hr,h=>by
  simp only[appAs] at h
  split at h
  ·rename_i n hn
   obtain⟨F',xs,h1,h2,h3⟩:=Q55 l (F n) vs (us++[v]) _ (hg n) (hr.app (.same (x:=.os k t 0 n) (Qss hn) .nil)) h
   exact⟨F',xs,h1,by simpa using h2,h3⟩
  ·cases h
 | .clo g ps :: l,F,v :: vs,us,acc,hg,hr,h=>by
  simp only[appAs] at h
  cases hp:Qj9 f g ps v with
  | false=>simp[hp] at h
  | true =>
   simp only[hp,cond_true] at h
   obtain⟨F',xs,h1,h2,h3⟩:=Q55 l F vs (us++[v]) (acc++[.clo g (psX ps)]) hg (hr.app (.same (Qvg hp) .nil)) h
   exact⟨F',xs,h1,by simpa using h2,h3⟩
noncomputable def Q5z:XD→Bool
 | .v _=>false
 | .ic _ _ _=>false
 | _=>true
noncomputable def Q1w:List XD→Bool
 | []=>true
 | x :: r=>cond (Q5z x) (Q1w r) false
theorem Q2e {x:XD} {r:List XD} (h:Q1w (x :: r)=true):Q5z x=true∧Q1w r=true:=by
 simp only[Q1w] at h
 cases hx:Q5z x with
 | false=>simp[hx] at h
 | true=>simp only[hx,cond_true] at h; exact⟨rfl,h⟩
theorem Qvb:∀(t:Ty) {cs:List XD} {x:t.T} {r:List XD},Q1w cs=true→t.dec cs=some (x,r)→dsOf cs=t.ds x++dsOf r∧Q1w r=true:=by
 intro t
 induction t with
 | int k =>
  intro cs x r hp h
  simp only[Ty.dec] at h
  unfold decI at h
  split at h
  ·rename_i k' n r'
   cases hk:kindB k' k with
   | false=>simp[hk] at h
   | true =>
    have:=Q13 hk
    subst this
    simp only[hk,cond_true,Option.some.injEq,Prod.mk.injEq] at h
    obtain⟨rfl,rfl⟩:=h
    exact⟨rfl,(Q2e hp).2⟩
  ·rename_i x' r'
   cases hk:kindB .u8 k with
   | false=>simp[hk] at h
   | true =>
    have:=Q13 hk
    subst this
    simp only[hk,cond_true,Option.some.injEq,Prod.mk.injEq] at h
    obtain⟨rfl,rfl⟩:=h
    exact⟨rfl,(Q2e hp).2⟩
  ·cases h
 | u8 =>
  intro cs x r hp h
  simp only[Ty.dec] at h
  unfold decU8 at h
  split at h
  ·cases h; exact⟨rfl,(Q2e hp).2⟩
  ·cases h
 | bool =>
  intro cs x r hp h
  simp only[Ty.dec] at h
  unfold decB at h
  split at h
  ·cases h; exact⟨rfl,(Q2e hp).2⟩
  ·cases h
 | str =>
  intro cs x r hp h
  simp only[Ty.dec] at h
  unfold decS at h
  split at h
  ·cases h; exact⟨rfl,(Q2e hp).2⟩
  ·cases h
 | sl t ih =>
  intro cs x r hp h
  simp only[Ty.dec] at h
  unfold decL at h
  split at h
  ·rename_i t' l r'
   split at h
   ·rename_i ht
    have e:=Ty.eqb_eq ht
    subst e
    cases h
    exact⟨rfl,(Q2e hp).2⟩
   ·cases h
  ·simp[Q1w,Q5z] at hp
  ·simp[Q1w,Q5z] at hp
  ·cases h
 | unit =>
  intro cs x r hp h
  simp[Ty.dec] at h
  subst h
  exact⟨rfl,hp⟩
 | pair a b iha ihb =>
  intro cs x r hp h
  unfold Ty.dec at h
  split at h
  ·rename_i p hpa
   split at h
   ·rename_i q hq
    cases h
    obtain⟨h1,h2⟩:=iha (x:=p.1) (r:=p.2) hp hpa
    obtain⟨h3,h4⟩:=ihb (x:=q.1) (r:=q.2) h2 hq
    exact⟨by rw[h1,h3]; simp[Ty.ds],h4⟩
   ·cases h
  ·cases h
 | st1 a iha =>
  intro cs x r hp h
  exact iha hp h
 | tab t ih =>
  intro cs x r hp h
  simp only[Ty.dec] at h
  unfold decT at h
  split at h
  ·rename_i t' l r'
   split at h
   ·rename_i ht
    have e:=Ty.eqb_eq ht
    subst e
    cases h
    exact⟨rfl,(Q2e hp).2⟩
   ·cases h
  ·cases h
 | err =>
  intro cs x r hp h
  simp only[Ty.dec] at h
  unfold decE at h
  split at h
  ·cases h; exact⟨rfl,(Q2e hp).2⟩
  ·simp[Q1w,Q5z] at hp
  ·simp[Q1w,Q5z] at hp
  ·cases h
 | ic t k =>
  intro cs x r hp h
  simp only[Ty.dec] at h
  unfold decIc at h
  split at h
  ·simp[Q1w,Q5z] at hp
  ·simp[Q1w,Q5z] at hp
  ·cases h
 | ptr =>
  intro cs x r hp h
  simp only[Ty.dec] at h
  unfold decP at h
  split at h
  ·cases h; exact⟨rfl,(Q2e hp).2⟩
  ·simp[Q1w,Q5z] at hp
  ·cases h
noncomputable def tipOf (m:Nat) (t:Ty) (ty:Option TypeId):XV→Option (List t.T)
 | .tip m' t' l ty'=>cond (Nat.beq m' m) (cond (tyEqO ty' ty) (if h:t'.eqb t=true then some (Ty.eqb_eq h▸l) else none) none) none
 | _=>none
theorem Qxv {m:Nat} {t:Ty} {ty:Option TypeId} {v:XV} {l:List t.T} (h:tipOf m t ty v=some l):v = .tip m t l ty:=by
 unfold tipOf at h
 split at h
 ·rename_i m' t' l' ty'
  cases h1:Nat.beq m' m with
  | false=>simp[h1] at h
  | true =>
  cases h2:tyEqO ty' ty with
  | false=>simp[h1,h2] at h
  | true =>
   simp only[h1,h2,cond_true] at h
   split at h
   ·rename_i ht
    have e:=Ty.eqb_eq ht
    subst e
    cases h
    rw[Nat.eq_of_beq_eq_true h1,Qhn h2]
   ·cases h
 ·cases h
noncomputable def zOf (m off:Nat) (ex:Bool):XV→Option Bool
 | .nm k' (.z b off')=>cond (Nat.beq k' m) (cond (Nat.beq off' off) (some b) none) none
 | .nm k' (.p off')=>cond ex none (cond (Nat.beq k' m) (cond (Nat.beq off' off) (some false) none) none)
 | .d (.v (.pointer none))=>cond ex none (some true)
 | _=>none
noncomputable def CellR (f fl:Nat→Nat) (ex:Bool) (cs xs:List XV):Prop:=AsLe (asOf cs) (asOf (mpL f fl xs))∧(ex=true→asOf cs=asOf (mpL f fl xs))
theorem AsLe.refl:∀(l:List AV),AsLe l l
 | []=>.nil
 | x :: r=>.cons (.refl x) (AsLe.refl r)
theorem AsLe.append {a b c d:List AV} (h:AsLe a b) (h' : AsLe c d):AsLe (a++c) (b++d):=by
 induction h with
 | nil=>exact h'
 | cons h1 _ ih=>exact .cons h1 ih
theorem Q6w (f fl:Nat→Nat) (a b:List XV):mpL f fl (a++b)=mpL f fl a++mpL f fl b:=by simp[Q76]
theorem CellR.app {f fl:Nat→Nat} {ex:Bool} {a b c d:List XV} (h:CellR f fl ex a b) (h' : CellR f fl ex c d):CellR f fl ex (a++c) (b++d):=by
 refine⟨?_,fun e=>?_⟩
 ·rw[Q1b,Q6w,Q1b]; exact h.1.append h'.1
 ·rw[Q1b,Q6w,Q1b,h.2 e,h'.2 e]
theorem CellR.same {f fl:Nat→Nat} {ex:Bool} {v x:XV} (h:v=x.mp f fl):CellR f fl ex [v] [x]:=by
 subst h
 exact⟨.refl _,fun _=>rfl⟩
theorem Q8v (l:List XD):asOf (l.map .d)=(dsOf l).map .d:=by
 rw[Q4m,Q2n]; simp[XV.a]
theorem Qm1 (f fl:Nat→Nat) (l:List XD):mpL f fl (l.map .d)=l.map .d:=by
 rw[Q76]; simp[XV.mp]
theorem DsLe.as {a b:List D} (h:DsLe a b):AsLe (a.map .d) (b.map .d):=by
 induction h with
 | nil=>exact .nil
 | cons h1 _ ih=>exact .cons (ALe.d h1) ih
theorem CellR.data {f fl:Nat→Nat} {ex:Bool} {t:Ty} {ds:List XD} {y:t.T} (h:t.dec ds=some (y,[])) (hex:ex=true→Q1w ds=true):CellR f fl ex (ds.map .d) ((t.enc y).map .d):=by
 refine⟨?_,fun e=>?_⟩
 ·obtain⟨ds',h1,h2⟩:=t.dec_spec h
  rw[Qm1,Q8v,Q8v,t.enc_ds]
  simp only[dsOf,List.append_nil] at h1
  rw[h1]
  exact h2.as
 ·obtain⟨h1,_⟩:=Qvb t (hex e) h
  rw[Qm1,Q8v,Q8v,t.enc_ds,h1]
  simp[dsOf]
theorem Qz6 {f fl:Nat→Nat} {k off:Nat} {ex:Bool} {v:XV} {b:Bool} (h:zOf (f k) off ex v=some b):CellR f fl ex [v] [.nm k (.z b off)]:=by
 have mk:(∀(g:Gh) (w:World) (u:Value),RA g w v.a u→RA g w (XV.nm (f k) (.z b off)).a u)→(ex=true→v = .nm (f k) (.z b off))→CellR f fl ex [v] [.nm k (.z b off)]:=by
  intro h1 h2
  refine⟨.cons h1 .nil,fun he=>?_⟩
  rw[h2 he]; rfl
 unfold zOf at h
 split at h
 ·rename_i k' b' off'
  cases h1:Nat.beq k' (f k) with
  | false=>simp[h1] at h
  | true =>
   cases h2:Nat.beq off' off with
   | false=>simp[h1,h2] at h
   | true =>
    simp only[h1,h2,cond_true,Option.some.injEq] at h
    have e1:=Nat.eq_of_beq_eq_true h1
    have e2:=Nat.eq_of_beq_eq_true h2
    subst e1; subst e2; subst h
    exact mk (fun _ _ _ h=>h) (fun _=>rfl)
 ·rename_i k' off'
  cases hx:ex with
  | true=>simp[hx] at h
  | false =>
   rw[hx] at mk
   cases h1:Nat.beq k' (f k) with
   | false=>simp[h1,hx] at h
   | true =>
    cases h2:Nat.beq off' off with
    | false=>simp[h1,h2,hx] at h
    | true =>
     simp only[h1,h2,hx,cond_true,cond_false,Option.some.injEq] at h
     have e1:=Nat.eq_of_beq_eq_true h1
     have e2:=Nat.eq_of_beq_eq_true h2
     subst e1; subst e2; subst h
     refine mk (fun g w u hr=>?_) (fun e=>by cases e)
     simp only[XV.a] at hr ⊢
     cases hr with
     | nm _ _ _ h=>exact .nm _ _ _ h
 ·cases hx:ex with
  | true=>simp[hx] at h
  | false =>
   rw[hx] at mk
   simp only[hx,cond_false,Option.some.injEq] at h
   subst h
   refine mk (fun g w u hr=>?_) (fun e=>by cases e)
   simp only[XV.a,XD.d] at hr ⊢
   cases hr with
   | d _ _ h1=>cases h1; exact .nm _ _ _ rfl
 ·cases h
noncomputable def appCs {β R:Type} (f fl:Nat→Nat) (ex:Bool):(l:List VK)→CurC l β→List XV→List XV→(β→List XV→Option R)→Option R
 | [],F,[],acc,K=>K F acc
 | .d t :: r,F,cs,acc,K=>match allX (cs.take t.size) with
  | some ds=>cond (cond ex (Q1w ds) true) (match t.dec ds with
   | some (y,[])=>appCs f fl ex r (F y) (cs.drop t.size) (acc++(t.enc y).map .d) K
   | _=>none) none
  | none=>none
 | .p k off :: r,F,c :: cs,acc,K=>cond (isPtr (f k) off c) (appCs f fl ex r F cs (acc++[.nm k (pkOf off)]) K) none
 | .z k off :: r,F,c :: cs,acc,K=>match zOf (f k) off ex c with
  | some b=>appCs f fl ex r (F b) cs (acc++[.nm k (.z b off)]) K
  | none=>none
 | .os k t :: r,F,c :: cs,acc,K=>match osOf (f k) t c with
  | some n=>appCs f fl ex r (F n) cs (acc++[.os k t 0 n]) K
  | none=>none
 | .tip n t ty :: r,F,c :: cs,acc,K=>match tipOf (fl n) t ty c with
  | some l=>appCs f fl ex r (F l) cs (acc++[.tip n t l ty]) K
  | none=>none
 | _,_,_,_,_=>none
theorem Q7k {β R:Type} {Q:β→List XV→Prop} {f fl:Nat→Nat} {ex:Bool} {K:β→List XV→Option R} {r:R}:∀(l:List VK) (F:CurC l β) (cs us acc:List XV),GndC Q l F acc→CellR f fl ex us acc→appCs f fl ex l F cs acc K=some r →
  ∃F' xs,Q F' xs∧CellR f fl ex (us++cs) xs∧K F' xs=some r
 | [],F,[],us,acc,hg,hr,h=>⟨F,acc,hg,by simpa using hr,h⟩
 | [],F,_ :: _,us,acc,hg,hr,h=>by simp[appCs] at h
 | .p k off :: l,F,[],us,acc,hg,hr,h=>by simp[appCs] at h
 | .tip n t ty :: l,F,[],us,acc,hg,hr,h=>by simp[appCs] at h
 | .z k off :: l,F,[],us,acc,hg,hr,h=>by simp[appCs] at h
 | .os k t :: l,F,[],us,acc,hg,hr,h=>by simp[appCs] at h
 | .d t :: l,F,cs,us,acc,hg,hr,h=>by
  unfold appCs at h
  split at h
  ·rename_i ds hds
   have hex:ex=true→Q1w ds=true:=by
    intro e
    subst e
    cases hp:Q1w ds with
    | true=>rfl
    | false=>simp[hp] at h
   have h:(match t.dec ds with
    | some (y,[])=>appCs f fl ex l (F y) (cs.drop t.size) (acc++(t.enc y).map .d) K
    | _=>none)=some r:=by
    cases hc:(cond ex (Q1w ds) true) with
    | true=>simpa[hc] using h
    | false=>simp[hc] at h
   split at h
   ·rename_i y hy
    have e1:=Qqf hds
    have hrel:=CellR.data (f:=f) (fl:=fl) (ex:=ex) hy hex
    rw[← e1] at hrel
    obtain⟨F',xs,h1,h2,h3⟩:=Q7k l (F y) (cs.drop t.size) (us++cs.take t.size) _ (hg y) (hr.app hrel) h
    refine⟨F',xs,h1,?_,h3⟩
    rw[List.append_assoc,List.take_append_drop] at h2
    exact h2
   ·cases h
  ·cases h
 | .p k off :: l,F,c :: cs,us,acc,hg,hr,h=>by
  simp only[appCs] at h
  cases hp:isPtr (f k) off c with
  | false=>simp[hp] at h
  | true =>
   simp only[hp,cond_true] at h
   obtain⟨F',xs,h1,h2,h3⟩:=Q7k l F cs (us++[c]) (acc++[.nm k (pkOf off)]) hg (hr.app (.same (x:=.nm k (pkOf off)) (Qhm hp))) h
   exact⟨F',xs,h1,by simpa using h2,h3⟩
 | .z k off :: l,F,c :: cs,us,acc,hg,hr,h=>by
  simp only[appCs] at h
  split at h
  ·rename_i b hb
   obtain⟨F',xs,h1,h2,h3⟩:=Q7k l (F b) cs (us++[c]) _ (hg b) (hr.app (Qz6 hb)) h
   exact⟨F',xs,h1,by simpa using h2,h3⟩
  ·cases h
 | .os k t :: l,F,c :: cs,us,acc,hg,hr,h=>by
  simp only[appCs] at h
  split at h
  ·rename_i n hn
   obtain⟨F',xs,h1,h2,h3⟩:=Q7k l (F n) cs (us++[c]) _ (hg n) (hr.app (.same (x:=.os k t 0 n) (Qss hn))) h
   exact⟨F',xs,h1,by simpa using h2,h3⟩
  ·cases h
 | .tip n t ty :: l,F,c :: cs,us,acc,hg,hr,h=>by
  simp only[appCs] at h
  split at h
  ·rename_i u hu
   obtain⟨F',xs,h1,h2,h3⟩:=Q7k l (F u) cs (us++[c]) _ (hg u) (hr.app (.same (x:=.tip n t u ty) (Qxv hu))) h
   exact⟨F',xs,h1,by simpa using h2,h3⟩
  ·cases h
noncomputable def InR (f fl:Nat→Nat) (ko:List Nat) (objs:List (Nat×XOb)) (p:Nat×XOb):Prop :=
 ∃o,lk (f p.1) objs=some o∧ObLe o.o (p.2.mp f fl).o∧(inl p.1 ko=true→o.o=(p.2.mp f fl).o)
noncomputable def appOs {β R:Type} (f fl:Nat→Nat) (ko:List Nat) (objs:List (Nat×XOb)):(l:List (Nat×List VK×Option TypeId))→CurO l β→List (Nat×XOb)→(β→List (Nat×XOb)→Option R)→Option R
 | [],F,acc,K=>K F acc
 | p :: r,F,acc,K=>match lk (f p.1) objs with
  | some (.cells cs ty)=>cond (tyEqO ty p.2.2) (appCs f fl (inl p.1 ko) p.2.1 F cs [] fun F' xs=>appOs f fl ko objs r F' (acc++[(p.1,.cells xs p.2.2)]) K) none
  | _=>none
theorem AsLe.obs {a b:List AV} {ty:Option TypeId} (h:AsLe a b):ObLe (.cells a ty) (.cells b ty):=by
 refine .cells h.length (fun i x y hx hy=>?_) (.inl rfl)
 obtain⟨x',hx',hle⟩:=h.get hy
 rw[hx] at hx'
 cases hx'
 exact hle
theorem Qi0 {β R:Type} {Q:β→List (Nat×XOb)→Prop} {f fl:Nat→Nat} {ko:List Nat} {objs:List (Nat×XOb)} {K:β→List (Nat×XOb)→Option R} {r:R}:∀(l:List (Nat×List VK×Option TypeId)) (F:CurO l β) (acc:List (Nat×XOb)),GndO Q l F acc→(∀p ∈ acc,InR f fl ko objs p)→appOs f fl ko objs l F acc K=some r →
  ∃F' os,Q F' os∧(∀p ∈ os,InR f fl ko objs p)∧K F' os=some r
 | [],F,acc,hg,hr,h=>⟨F,acc,hg,hr,h⟩
 | q :: l,F,acc,hg,hr,h=>by
  simp only[appOs] at h
  split at h
  ·rename_i cs ty hk
   cases ht:tyEqO ty q.2.2 with
   | false=>simp[ht] at h
   | true =>
    simp only[ht,cond_true] at h
    have e:=Qhn ht
    subst e
    obtain⟨F',xs,h1,h2,h3⟩:=Q7k q.2.1 F cs [] [] hg ⟨.nil,fun _=>rfl⟩ h
    refine Qi0 l F' _ h1 ?_ h3
    intro p hp
    rcases List.mem_append.1 hp with hp | hp
    ·exact hr p hp
    ·simp only[List.mem_singleton] at hp
     subst hp
     refine⟨_,hk,?_,fun hh=>?_⟩
     ·simp only[XOb.o,XOb.mp]
      exact AsLe.obs h2.1
     ·simp only[XOb.o,XOb.mp]
      have:=h2.2 hh
      rw[List.nil_append] at this
      rw[this]
  ·cases h
noncomputable def OK.okc (f:Nat→Nat):OK→Bool
 | .mit m=>Nat.beq (f m) m
 | .mapt _ _ _=>false
 | _=>true
theorem OK.okc_mp {f fl:Nat→Nat} {o:OK} {y:o.T} (h:o.okc f=true):(o.ob y).mp f fl=o.ob y:=by
 cases o with
 | mit m=>show XOb.mit (f m) _ _ _=_; rw[Nat.eq_of_beq_eq_true h]; rfl
 | mapt L k v=>simp[OK.okc] at h
 | _=>rfl
noncomputable def appRs {β R:Type} (f:Nat→Nat) (objs:List (Nat×XOb)):(l:List (Nat×OK))→CurR l β→List (Nat×XOb)→(β→List (Nat×XOb)→Option R)→Option R
 | [],F,acc,K=>K F acc
 | p :: r,F,acc,K=>match lk (f p.1) objs with
  | some o=>match p.2.dec o with
   | some y=>cond (p.2.okc f) (appRs f objs r (F y) (acc++[(p.1,p.2.ob y)]) K) none
   | none=>none
  | none=>none
theorem Qi3 {β R:Type} {Q:β→List (Nat×XOb)→Prop} {f fl:Nat→Nat} {ko:List Nat} {objs:List (Nat×XOb)} {K:β→List (Nat×XOb)→Option R} {r:R}:∀(l:List (Nat×OK)) (F:CurR l β) (acc:List (Nat×XOb)),GndR Q l F acc→(∀p ∈ acc,InR f fl ko objs p)→appRs f objs l F acc K=some r →
  ∃F' os,Q F' os∧(∀p ∈ os,InR f fl ko objs p)∧K F' os=some r
 | [],F,acc,hg,hr,h=>⟨F,acc,hg,hr,h⟩
 | q :: l,F,acc,hg,hr,h=>by
  obtain⟨qk,qt⟩:=q
  simp only[appRs] at h
  split at h
  ·rename_i o hk
   split at h
   ·rename_i y hy
    cases hc:qt.okc f with
    | false=>simp[hc] at h
    | true =>
    simp only[hc,cond_true] at h
    refine Qi3 l _ _ (hg y) ?_ h
    intro p hp
    rcases List.mem_append.1 hp with hp | hp
    ·exact hr p hp
    ·simp only[List.mem_singleton] at hp
     subst hp
     refine⟨_,hk,?_,fun _=>?_⟩
     ·rw[OK.okc_mp hc,OK.dec_eq hy]; exact .refl _
     ·rw[OK.okc_mp hc,OK.dec_eq hy]
   ·cases h
  ·cases h
end Go.Xl
