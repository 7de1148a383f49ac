import Derived.Calls
import Derived.ProofKit
import Derived.Laws.Cells
import Derived.Laws.Entries
import Derived.Laws.Append
import Derived.Laws.StructEq
import Derived.Laws.Strings
import Derived.Laws.Slices
import Derived.Laws.Small
import Derived.Tactics
import Derived.Laws.Rows
import Derived.Laws.AppendOwn
import Derived.Laws.NewBlocks
import Derived.Orders
import Derived.Lib.Builder
import Derived.Lib.UnsafeStr
import Derived.Laws.BytesString
import Derived.Lib.BufferWrite
import Derived.Laws.MakeOwn
import Derived.Lib.ConvBytes
import Derived.Laws.CopyRow
import Derived.Below
import Derived.Sort.Grow
import Derived.Shelf.GgSortFunc.InsertionK
import Derived.Shelf.SlSortCmp.NoneTotal
import Derived.LaidEqlPtr
import Derived.MapKept
import Derived.WideKeyRuns
import Derived.RangeFuncLeaves
import Derived.RangeFuncRecord
import Derived.RangeFuncCalls
import Derived.RangeFuncIn
import Derived.RangeFuncSeq
import Derived.TacticsIn
import Derived.Laws.StandIn
import Derived.Lib.Bytealg
import Derived.IntWalk
import Derived.OpenShut
import Derived.FnData
import Derived.LaidSub
import Derived.Shelf.SlGeneric
import Derived.Ground.SlsfProg
import Derived.KernelRfl
import Derived.Shelf.Strings.Builder2
import Derived.Laws.Bits64b
set_option linter.all false
open Go.IntKind (i64 u64 u16)
noncomputable section
abbrev A2.{u}(α:Type u):=List α
abbrev A3.{u}(α:Type u):=Option α
abbrev Bov:=@cond_true
abbrev Bow:=@Option.bind_some
abbrev Box:=@cond_false
abbrev Boy:=@Nat.eq_of_beq_eq_true
abbrev Boz:=@List.mem_cons
abbrev Bp0:=@Option.some.injEq
abbrev Bp1:=@List.getElem?_map
abbrev Bp2:=@List.getElem?_eq_some_iff
abbrev Bp3:=@List.map_cons
abbrev Bp4:=@List.mem_append
abbrev Bp5:=@List.mem_cons_of_mem
abbrev Bp6:=@List.mem_cons_self
abbrev Bp7:=@decide_eq_true
abbrev Bp8:=@Option.map_eq_some_iff
abbrev Bp9:=@decide_eq_false
abbrev Bpa:=@Nat.le_refl
abbrev Bpb:=@Go.run_underlying
abbrev Bpc:=@List.mem_map
abbrev Bpd:=@List.getElem?_eq_getElem
abbrev Bpe:=@List.mem_map_of_mem
abbrev Bpf:=@Nat.le_of_ble_eq_true
abbrev Bpg:=@List.mem_singleton
abbrev Bph:=@List.mem_append_right
abbrev Bpi:=@List.mem_append_left
abbrev Bpj:=@congrArg
abbrev Bpk:=@List.length_cons
abbrev Bpl:=@List.length_map
abbrev Bpm:=@Prod.mk.injEq
abbrev Bpn:=@List.map_append
abbrev Bpo:=@Array.getElem?_eq_some_iff
abbrev Bpp:=@if_neg
abbrev Bpq:=@Array.getElem?_eq_getElem
abbrev Bpr:=@Go.Result.andThen_ok
abbrev Bps:=@Option.isSome_iff_exists
abbrev Bpt:=@List.not_mem_nil
abbrev Bpu:=@List.mem_of_getElem?
abbrev Bpv:=@List.mem_filter
abbrev Bpw:=@List.pairwise_cons
abbrev Bpx:=@List.nil_append
abbrev Bpy:=@List.take_length
abbrev Bpz:=@List.map_nil
abbrev Bq0:=@List.append_nil
abbrev Bq1:=@List.length_take
abbrev Bq2:=@List.length_append
abbrev Bq3:=@Option.bind_eq_some_iff
abbrev Bq4:=@Bool.and_eq_true
abbrev Bq5:=@Go.Sem.run_bind
abbrev Bq6:=@if_pos
abbrev Bq7:=@Nat.zero_add
abbrev Bq8:=@Option.map_some
abbrev Bq9:=@List.length_filter_le
abbrev Bqa:=@List.lookup_cons
abbrev Bqb:=@List.all_eq_true
abbrev Bqc:=@List.contains_iff_mem
abbrev Bqd:=@Nat.ble_eq_true_of_le
abbrev Bqe:=@List.drop_eq_getElem_cons
abbrev Bqf:=@Nat.le_trans
abbrev Bqg:=@List.nodup_cons
abbrev Bqh:=@List.getElem?_append
abbrev Bqi:=@List.getElem_mem
abbrev Bqj:=@List.getElem?_take
abbrev Bqk:=@List.pairwise_iff_getElem
abbrev Bql:=@Array.getElem?_modify
abbrev Bqm:=@Array.eq_empty_of_size_eq_zero
abbrev Bqn:=@List.getElem?_drop
abbrev Bqo:=@Bool.and_self
abbrev Bqp:=@List.foldl_cons
abbrev Bqq:=@Bool.eq_iff_iff
abbrev Bqr:=@List.pairwise_append
abbrev Bqs:=@Bool.false_eq_true
abbrev Bqt:=@List.flatten_cons
abbrev Bqu:=@List.take_add_one
abbrev Bqv:=@Nat.lt_of_lt_of_le
abbrev Bqw:=@Nat.mul_le_mul_right
abbrev Bqx:=@Nat.blt_eq
abbrev Bqy:=@or_false
abbrev Bqz:=@List.getElem?_eq_none
abbrev Br0:=@List.lookup_append
abbrev Br1:=@List.cons_append
abbrev Br2:=@Bool.not_true
abbrev Br3:=@Bool.or_eq_true
abbrev Br4:=@List.filter_cons
abbrev Br5:=@Nat.add_mul
abbrev Br6:=@List.sizeOf_lt_of_mem
abbrev Br7:=@Array.getElem?_toList
abbrev Br8:=@Nat.eq_zero_or_pos
abbrev Br9:=@List.mem_iff_getElem?
abbrev Bra:=@List.take_append_drop
abbrev Brb:=@List.filter_append
abbrev Brc:=@List.take_of_length_le
abbrev Brd:=@Nat.ne_of_beq_eq_false
abbrev Bre:=@if_false
abbrev Brf:=@Option.some.inj
abbrev Brg:=@if_true
abbrev Brh:=@Array.getElem?_append_left
abbrev Bri:=@Nat.lt_irrefl
abbrev Brj:=@Nat.succ_mul
abbrev Brk:=@Array.length_toList
abbrev Brl:=@Ne.symm
abbrev Brm:=@Bool.not_false
abbrev Brn:=@List.size_toArray
abbrev Bro:=@Bool.and_true
abbrev Brp:=@Int.toNat_natCast
abbrev Brq:=@Nat.lt_or_ge
abbrev Brr:=@List.drop_zero
abbrev Brs:=@List.getElem?_append_right
abbrev Brt:=@List.length_eq_zero_iff
abbrev Bru:=@List.append_assoc
abbrev Brv:=@List.map_map
abbrev Brw:=@Nat.zero_le
abbrev Brx:=@List.zip_cons_cons
abbrev Bry:=@Go.MapKept.run_getObj_map
abbrev Brz:=@Nat.div_div_eq_div_mul
abbrev Bs0:=@List.drop_eq_nil_of_le
abbrev Bs1:=@Go.heap_alloc_new
abbrev Bs2:=@List.length_nil
abbrev Bs3:=@Nat.sub_zero
abbrev Bs4:=@beq_self_eq_true
abbrev Bs5:=@List.length_singleton
abbrev Bs6:=@Nat.add_assoc
abbrev Bs7:=@Nat.add_zero
abbrev Bs8:=@Array.getElem?_eq_none
abbrev Bs9:=@List.getElem?_append_left
abbrev Bsa:=@List.getElem?_zip_eq_some
abbrev Bsb:=@beq_eq_false_iff_ne
abbrev Bsc:=@List.ext_getElem?
abbrev Bsd:=@Function.comp_def
abbrev Bse:=@List.pairwise_map
abbrev Bsf:=@decide_eq_true_eq
abbrev Bsg:=@List.getElem?_toArray
abbrev Bsh:=@Nat.zero_mul
abbrev Bsi:=@List.getD_eq_getElem?_getD
abbrev Bsj:=@List.map_take
abbrev Bsk:=@Go.IntWalk.i64_in
abbrev Bsl:=@List.drop_append_of_le_length
abbrev Bsm:=@Go.Sem.run_pure
abbrev Bsn:=@Bool.true_and
abbrev Bso:=@Array.getElem?_append_right
abbrev Bsp:=@List.length_pos_iff
abbrev Bsq:=@List.flatten_append
abbrev Bsr:=@Nat.lt_succ_self
abbrev Bss:=@Nat.le_of_not_lt
abbrev Bst:=@List.drop_length
abbrev Bsu:=@Nat.add_sub_cancel
abbrev Bsv:=@Array.getElem?_append
abbrev Bsw:=@Option.some_or
abbrev Bsx:=@Nat.beq_refl
abbrev Bsy:=@Nat.add_comm
abbrev Bsz:=@Bool.eq_false_iff
abbrev Bt0:=@List.map_drop
abbrev Bt1:=@List.any_cons
abbrev Bt2:=@Bool.or_false
abbrev Bt3:=@Option.none_or
abbrev Bt4:=@Array.getElem?_extract
abbrev Bt5:=@not_or
abbrev Bt6:=@Option.map_none
abbrev Bt7:=@List.cons.injEq
abbrev Bt8:=@List.zip_append
abbrev Bt9:=@List.all_cons
abbrev Bta:=@Bool.false_or
abbrev Btb:=@Array.size_append
abbrev Btc:=@Bool.not_eq_true'
abbrev Btd:=@List.isEmpty_cons
abbrev Bte:=@of_decide_eq_true
abbrev Btf:=@Classical.byContradiction
abbrev Btg:=@List.mem_of_mem_take
abbrev Bth:=@List.range'_succ
abbrev Bti:=@Option.bind_none
abbrev Btj:=@Option.getD_some
abbrev Btk:=@List.any_nil
abbrev Btl:=@Nat.pow_succ
abbrev Btm:=@Array.getElem?_push
abbrev Btn:=@List.take_succ_cons
abbrev Bto:=@List.getElem?_cons_zero
abbrev Btp:=@List.getLast?_singleton
abbrev Btq:=@Int.eq_ofNat_of_zero_le
abbrev Btr:=@beq_iff_eq
abbrev Bts:=@List.eq_nil_of_length_eq_zero
abbrev Btt:=@List.take_append_of_le_length
abbrev Btu:=@List.nodup_append
abbrev Btv:=@List.flatMap_cons
abbrev Btw:=@Go.wp_mono
abbrev Btx:=@Nat.div_lt_iff_lt_mul
abbrev Bty:=@UInt8.le_iff_toNat_le
abbrev Btz:=@Nat.mod_lt
abbrev Bu0:=@List.getElem?_of_mem
abbrev Bu1:=@List.append_cons
abbrev Bu2:=@List.getLast?_append
abbrev Bu3:=@List.Pairwise.filter
abbrev Bu4:=@decide_eq_decide
abbrev Bu5:=@Int.fdiv_eq_ediv_of_nonneg
abbrev Bu6:=@List.getElem?_range
abbrev Bu7:=@Std.Legacy.Range.forIn_eq_forIn_range'
abbrev Bu8:=@List.mem_of_find?_eq_some
abbrev Bu9:=@Go.run_equalIn_int
abbrev Bua:=@List.exists_mem_of_ne_nil
abbrev Bub:=@Go.Proofs.AnyF.slices_SortFunc_none
abbrev Buc:=@Go.run_sliceAt_string
abbrev Bud:=@getElem!_pos
abbrev Bue:=@Go.size_zeroCells
abbrev Buf:=@List.pairwise_mergeSort
abbrev Bug:=@decide_eq_false_iff_not
abbrev Buh:=@Go.Array.range_zero'
abbrev Bui:=@List.foldl_append
abbrev Buj:=@Nat.mul_one
abbrev Buk:=@Go.calls_of_wp
abbrev Bul:=@List.map_toArray
abbrev Bum:=@true_and
abbrev Bun:=@congrFun
abbrev Buo:=@List.pairwise_iff_forall_sublist
abbrev Bup:=@List.singleton_append
abbrev Buq:=@List.eq_nil_or_concat
abbrev Bur:=@Nat.mul_comm
abbrev Bus:=@List.getElem!_eq_getElem?_getD
abbrev But:=@Go.Sort.heap_ahead
abbrev Buu:=@List.range_eq_range'
abbrev Buv:=@Go.MapKept.run_checkKey
abbrev Buw:=@exists_eq_left'
abbrev Bux:=@List.getElem?_set_ne
abbrev Buy:=@Go.ByteArray.toList_eq
abbrev Buz:=@List.replicate_succ
abbrev Bv0:=@List.getElem_of_mem
abbrev Bv1:=@List.mergeSort_perm
abbrev Bv2:=@List.mem_range
abbrev Bv3:=@Go.grownCap_ge
abbrev Bv4:=@Int.le_refl
abbrev Bv5:=@Nat.lt_of_le_of_lt
abbrev Bv6:=@Array.append_assoc
abbrev Bv7:=@List.find?_eq_none
abbrev Bv8:=@List.mem_filterMap
abbrev Bv9:=@UInt8.toNat_ofNat'
abbrev Bva:=@Int.natCast_nonneg
abbrev Bvb:=@List.take_length_add_append
abbrev Bvc:=@ByteArray.ext
abbrev Bvd:=@Bool.or_assoc
abbrev Bve:=@List.nil_perm
abbrev Bvf:=@List.length_range
abbrev Bvg:=@List.find?_isSome
abbrev Bvh:=@bne_self_eq_false
abbrev Bvi:=@Array.getElem_mem
abbrev Bvj:=@Nat.lt_trichotomy
abbrev Bvk:=@List.zip_map_left
abbrev Bvl:=@Go.Proofs.SlLaysF0.n15.bits
abbrev Bvm:=@Array.mapM_eq_mapM_toList
abbrev Bvn:=@false_or
abbrev Bvo:=@Go.run_convert_bytes_string
abbrev Bvp:=@Nat.mod_eq_of_lt
abbrev Bvq:=@Go.Lib.cell_of_heap
abbrev Bvr:=@Array.toList_inj
abbrev Bvs:=@List.length_erase_of_mem
abbrev Bvt:=@List.length_drop
abbrev Bvu:=@Nat.add_sub_cancel_left
abbrev Bvv:=@List.getElem?_cons_succ
abbrev Bvw:=@List.of_mem_zip
abbrev Bvx:=@List.find?_some
abbrev Bvy:=@UInt8.toNat_inj
abbrev Bvz:=@List.forIn_cons
abbrev Bw0:=@Classical.epsilon_spec
abbrev Bw1:=@ByteArray.data_extract
abbrev Bw2:=@decide_true
abbrev Bw3:=@List.drop_of_length_le
abbrev Bw4:=@List.length_pos_of_mem
abbrev Bw5:=@List.filter_eq_nil_iff
abbrev Bw6:=@Nat.sub_sub
abbrev Bw7:=@List.getElem?_set_self
abbrev Bw8:=@Nat.le_div_iff_mul_le
abbrev Bw9:=@Array.getElem?_mapIdx
abbrev Bwa:=@UInt8.lt_iff_toNat_lt
abbrev Bwb:=@List.drop_drop
abbrev Bwc:=@Go.IntWalk.u32_in
abbrev Bwd:=@Go.IntWalk.u64_in
abbrev Bwe:=@List.Pairwise.and_mem
abbrev Bwf:=@Bool.false_and
abbrev Bwg:=@List.set_append_right
abbrev Bwh:=@List.cons.inj
abbrev Bwi:=@Bool.and_comm
abbrev Bwj:=@List.sum_cons
abbrev Bwk:=@Nat.le_of_eq
abbrev Bwl:=@Nat.sub_self
abbrev Bwm:=@and_assoc
abbrev Bwn:=(Int×Int)×UInt8×Int×UInt8×List UInt8×List (Int×Int)
abbrev Bwo:=Int×Int
abbrev Bwp:=Int×List Bwo
abbrev Bwq:=Option (List Bwo×Nat)×Unit
abbrev Bwr:=Int×Unit
abbrev Bws:=(Bool×List UInt8×Unit)×Unit
abbrev Bwt:=Int×Int×Unit
abbrev Bwu:=List Bwo×Int×Unit
abbrev Bwv:=List Bwn×Int×Unit
abbrev Bww:=Bool×Unit
abbrev Bwx:=List Bwo
abbrev Bwy:=List UInt8
abbrev Bwz:=List Bwp×List Bwn
abbrev Bx0:=List UInt8×Unit
abbrev Bx1:=List Bwn×Bool×Int×Unit
namespace Go.Ab
inductive D where
 |sc (v:Value)
 |agg (cs:List D)
 |sl (sz:Nat) (es:List (List D))
 |ep (cs:List D)
 |any (q:Value→Prop)
abbrev D.int(k:IntKind)(n:Int):D:=.sc (.int k n)
abbrev D.bool(b:Bool):D:=.sc (.bool b)
def D.cells:D→A2 D
 |.agg cs=>cs
 |x=>[x]
inductive PK where
 |p (off:Nat)
 |s (off len sz:Nat)
 |m
 |z (b:Bool) (off:Nat)
def PK.val(w:World)(b:Nat):PK→Value→Prop
 |.p off,v=>v = .pointer (some ⟨b,off,none⟩)
 |.s off len sz,v=>∃cap o,len≤cap∧v = .slice (some ⟨b,o,none⟩) len cap∧(cap=0∨o=off)∧∃T c,w.shape? b=some (T,c)∧o+cap*sz≤c
 |.m,v=>v = .map (some b)
 |.z n off,v=>v=cond n (.pointer none) (.pointer (some ⟨b,off,none⟩))
inductive AV where
 |d (x:D)
 |nm (k:Nat) (p:PK)
 |Be (n:Nat) (sz:Nat) (es:List (List D)) (ty:Option TypeId:=none)
 |Vs (n:Nat) (e:TypeId) (cs:List D)
 |F2 (l:List AV)
 |agg (l:List AV)
 |F1 (f:Nat) (Jd:List AV)
@[match_pattern] abbrev AV.ptr (k off:Nat):AV:=.nm k (.p off)
@[match_pattern] abbrev AV.osl (k off len sz:Nat):AV:=.nm k (.s off len sz)
@[match_pattern] abbrev AV.mp (k:Nat):AV:=.nm k .m
def AV.cells:AV→A2 AV
 |.d x=>x.cells.map .d
 |.agg cs=>cs
 |x=>[x]
inductive RD(γ:Nat→Nat)(w:World):D→Value→Prop
 |sc (v:Value):RD γ w (.sc v) v
 |agg (cs:List D) (vs:Array Value):cs.length=vs.size →
   (∀(i:Nat) c v,cs[i]? = some c→vs[i]? = some v→RD γ w c v)→RD γ w (.agg cs) (.agg vs)
 |nil (sz:Nat) (a:Option Addr) (cap:Nat):(a=none→cap=0)→RD γ w (.sl sz []) (.slice a 0 cap)
 |sl (sz:Nat) (es:List (List D)) (b off len cap:Nat):len=es.length→off+es.length*sz≤γ b→es.length≤cap →
   (∀(i:Nat) cs,es[i]? = some cs→cs.length=sz) →
   (∀(i:Nat) cs (j:Nat) c v,es[i]? = some cs→cs[j]? = some c→w.cell? ⟨b,off+i*sz+j,none⟩=some v→RD γ w c v) →
   RD γ w (.sl sz es) (.slice (some ⟨b,off,none⟩) len cap)
 |ep (cs:List D) (b off:Nat):off+cs.length≤γ b →
   (∀(j:Nat) c v,cs[j]? = some c→w.cell? ⟨b,off+j,none⟩=some v→RD γ w c v) →
   RD γ w (.ep cs) (.pointer (some ⟨b,off,none⟩))
 |any (q:Value→Prop) (v:Value):q v→v.oneCell'=true→RD γ w (.any q) v
structure LeD(γ:Nat→Nat)(w:World)(γ':Nat→Nat)(w':World):Prop where
 up:∀b,γ b≤γ' b
 cell:∀b i,i<γ b→w'.cell? ⟨b,i,none⟩=w.cell? ⟨b,i,none⟩
 shape:∀b s,w.shape? b=some s→w'.shape? b=some s
def LeD.refl(γ:Nat→Nat)(w:World):LeD γ w γ w:=⟨fun _=>Bpa _,fun _ _ _=>rfl,fun _ _ h=>h⟩
variable{γ γ':Nat→Nat}{w w₁ w₂ w':World}{i n sz b k t d:Nat}{v:Value}{x:AV}{F:A2 Nat}
theorem LeD.trans{γ₁ γ₂:Nat→Nat}(h:LeD γ w γ₁ w₁)(h':LeD γ₁ w₁ γ₂ w₂):LeD γ w γ₂ w₂ :=
 ⟨fun b=>Bqf (h.up b) (h'.up b),fun b i hi=>(h'.cell b i (Bqv hi (h.up b))).trans (h.cell b i hi),fun b s hs=>h'.shape b s (h.shape b s hs)⟩
def Sv{j:Nat}(hi:i<n)(hj:j<sz):i*sz+j<n*sz:=by have h1:(i+1)*sz≤n*sz:=Bqw sz hi;rw[Brj]at h1;omega
def PK.val.mono{p:PK}(h:p.val w b v)(hle:LeD γ w γ' w'):p.val w' b v:=by
 cases p with
 |p off=>exact h
 |m=>exact h
 |z n off=>exact h
 |s off len sz =>obtain⟨cap,o,h1,h2,h0,T,c,h3,h4⟩:=h;exact⟨cap,o,h1,h2,h0,T,c,hle.shape _ _ h3,h4⟩
def RD.mono{x:D}(h:RD γ w x v)(hle:LeD γ w γ' w'):RD γ' w' x v:=by
 induction h with
 |sc v=>exact .sc v
 |agg cs vs hl _ ih=>exact .agg cs vs hl ih
 |nil sz a cap h0=>exact .nil sz a cap h0
 |sl sz es b off len cap hlen hγ U9 Hc _ ih =>refine .sl sz es b off len cap hlen (Bqf hγ (hle.up b)) U9 Hc ?_;intro i cs j c v hi hj hv;refine ih i cs j c v hi hj ?_;have h1:i<es.length:=(Bp2.1 hi).1;have h2:j<cs.length:=(Bp2.1 hj).1;rw[Hc i cs hi]at h2;have:=Sv h1 h2;rw[← hle.cell b _ (by omega)];exact hv
 |ep cs b off hγ _ ih =>refine .ep cs b off (Bqf hγ (hle.up b)) ?_;intro j c v hj hv;refine ih j c v hj ?_;have h2:j<cs.length:=(Bp2.1 hj).1;rw[← hle.cell b _ (by omega)];exact hv
 |any q v h1 h2=>exact .any q v h1 h2
structure Gh where
 γ:Nat→Nat
 β:Nat→Option (Option Nat)
 ρ:Nat→Nat
 η:Nat→Nat→Option Nat:=fun _ _=>none
def Room(w:World)(b lo hi:Nat):Prop:=∀i,lo≤i→i<hi→(w.cell? ⟨b,i,none⟩).isSome∧w.frozen? ⟨b,i,none⟩=false
def A7g(g:Gh)(w:World)(n sz:Nat)(ty:A3 TypeId):Value→Prop
 |.slice (some a) len cap=>∀ob,g.β n=some ob→a.spot=none∧ob=some a.block∧g.γ a.block=a.off+len*sz∧Room w a.block (a.off+len*sz) (a.off+cap*sz) ∧
   (∀e,ty=some e→a.off=0∧∃c,w.shape? a.block=some (e,c))
 |_=>True
def Ad0(g:Gh)(w:World)(L i sz:Nat):Value→Prop
 |.slice (some a) len cap=>a.spot=none∧g.η L i=some a.block∧g.γ a.block=a.off+len*sz∧Room w a.block (a.off+len*sz) (a.off+cap*sz)
 |_=>True
def Ahg(g:Gh)(w:World)(n:Nat)(e:TypeId):Value→Prop
 |.pointer (some a)=>a.spot=none∧∀ob,g.β n=some ob→ob=some a.block∧a.off=0∧∃c,w.shape? a.block=some (e,c)
 |_=>True
inductive RA(g:Gh)(w:World):AV→Value→Prop
 |d (x:D) (v:Value):RD g.γ w x v→RA g w (.d x) v
 |nm (k:Nat) (p:PK) (v:Value):p.val w (g.ρ k) v→RA g w (.nm k p) v
 |Be (n sz:Nat) (es:List (List D)) (ty:Option TypeId) (v:Value):RD g.γ w (.sl sz es) v→A7g g w n sz ty v→RA g w (.Be n sz es ty) v
 |Vs (n:Nat) (e:TypeId) (cs:List D) (v:Value):RD g.γ w (.ep cs) v→Ahg g w n e v→RA g w (.Vs n e cs) v
 |F2 (l:List AV) (vs:Array Value):l.length=vs.size →
   (∀(i:Nat) x v,l[i]? = some x→vs[i]? = some v→RA g w x v)→RA g w (.F2 l) (.tuple vs)
 |agg (l:List AV) (vs:Array Value):l.length=vs.size →
   (∀(i:Nat) x v,l[i]? = some x→vs[i]? = some v→RA g w x v)→RA g w (.agg l) (.agg vs)
 |F1 (f:Nat) (l:List AV) (vs:Array Value):l.length=vs.size →
   (∀(i:Nat) x v,l[i]? = some x→vs[i]? = some v→RA g w x v)→RA g w (.F1 f l) (.func (.func f) #[] vs)
variable{g g':Gh}
theorem RA.ptr(k off:Nat):RA g w (.ptr k off) (.pointer (some ⟨g.ρ k,off,none⟩)):=.nm k _ _ rfl
def RA.Ko{off:Nat}(h:RA g w (.ptr k off) v):v = .pointer (some ⟨g.ρ k,off,none⟩):=by cases h with|nm _ _ _ h=>exact h
def RA.Sw{off len:Nat}(h:RA g w (.osl k off len sz) v):∃cap o,len≤cap∧v = .slice (some ⟨g.ρ k,o,none⟩) len cap∧(cap=0∨o=off)∧∃T c,w.shape? (g.ρ k)=some (T,c)∧o+cap*sz≤c:=by cases h with|nm _ _ _ h=>exact h
def RA.Ad1(h:RA g w (.mp k) v):v = .map (some (g.ρ k)):=by cases h with|nm _ _ _ h=>exact h
inductive Z5(F:List Nat):AV→Prop
 |d (x:D):Z5 F (.d x)
 |nm (k:Nat) (p:PK):k∉F→Z5 F (.nm k p)
 |Be (n sz:Nat) (es:List (List D)) (ty:Option TypeId):n∉F→Z5 F (.Be n sz es ty)
 |Vs (n:Nat) (e:TypeId) (cs:List D):n∉F→Z5 F (.Vs n e cs)
 |F2 (l:List AV):(∀(i:Nat) x,l[i]? = some x→Z5 F x)→Z5 F (.F2 l)
 |agg (l:List AV):(∀(i:Nat) x,l[i]? = some x→Z5 F x)→Z5 F (.agg l)
 |F1 (f:Nat) (l:List AV):(∀(i:Nat) x,l[i]? = some x→Z5 F x)→Z5 F (.F1 f l)
mutual
def Gi(F:List Nat):AV→Bool
 |.d _=>true
 |.nm k _=>!F.contains k
 |.Be n _ _ _=>!F.contains n
 |.Vs n _ _=>!F.contains n
 |.F2 l=>Bq F l
 |.agg l=>Bq F l
 |.F1 _ l=>Bq F l
def Bq(F:List Nat):List AV→Bool
 |[]=>true
 |x::r=>Gi F x&&Bq F r
end
def Mo{l:A2 AV}(h:Bq F l=true)(hx:l[i]? = some x):Gi F x=true:=by
 induction l generalizing i with
 |nil=>simp at hx
 |cons y r ih =>
  simp only[Bq,Bq4]at h;cases i with
  |zero=>simp at hx;subst hx;exact h.1
  |succ i=>exact ih h.2 (by simpa using hx)
theorem Pj{F:A2 Nat}:∀ {x:AV},Gi F x=true→Z5 F x
 |.d x,_=>.d x
 |.nm k p,h=>.nm k p (by simpa[Gi]using h)
 |.Be n sz es ty,h=>.Be n sz es ty (by simpa[Gi]using h)
 |.Vs n e cs,h=>.Vs n e cs (by simpa[Gi]using h)
 |.F2 l,h=>.F2 l fun i x hx=>by
   have:SizeOf.sizeOf x<SizeOf.sizeOf l:=Br6 (Bpu hx);exact Pj (Mo (by simpa[Gi]using h) hx)
 |.agg l,h=>.agg l fun i x hx=>by
   have:SizeOf.sizeOf x<SizeOf.sizeOf l:=Br6 (Bpu hx);exact Pj (Mo (by simpa[Gi]using h) hx)
 |.F1 f l,h=>.F1 f l fun i x hx=>by
   have:SizeOf.sizeOf x<SizeOf.sizeOf l:=Br6 (Bpu hx);exact Pj (Mo (by simpa[Gi]using h) hx)
termination_by x=>x
theorem Z5.nil(x:AV):Z5 [] x:=by
 apply Pj
 suffices h:(∀y:AV,Gi [] y=true)from h x
 intro y
 suffices H:∀n,∀z:AV,SizeOf.sizeOf z≤n→Gi [] z=true from H _ y (Bpa _)
 intro n;induction n with
 |zero=>intro z hz;cases z<;>simp at hz
 |succ n ih =>
  have hl:∀l:A2 AV,SizeOf.sizeOf l≤n+1→Bq [] l=true:=by
   intro l;induction l with
   |nil=>intro _;simp[Bq]
   |cons a r ihr =>intro hs;simp at hs;simp only[Bq,Bq4];exact⟨ih a (by omega),ihr (by omega)⟩
  intro z hz;cases z<;>simp at hz<;>simp[Gi]
  ·exact hl _ (by omega)
  ·exact hl _ (by omega)
  ·exact hl _ (by omega)
structure Trans(F:List Nat)(g:Gh)(w:World)(g':Gh)(w':World):Prop where
 le:LeD g.γ w g'.γ w'
 names:∀k,k∉F→g'.ρ k=g.ρ k
 Apx:∀n ob,n∉F→g'.β n=some ob→g.β n=some ob∧∀b,ob=some b→g'.γ b=g.γ b∧w'.heap[b]? = w.heap[b]?
 eta:∀L,L∉F→(g'.β L).isSome→g'.η L=g.η L∧∀i b,g.η L i=some b→g'.γ b=g.γ b∧w'.heap[b]? = w.heap[b]?
theorem Trans.refl(F:A2 Nat)(g:Gh)(w:World):Trans F g w g w:=⟨.refl _ _,fun _ _=>rfl,fun _ _ _ h=>⟨h,fun _ _=>⟨rfl,rfl⟩⟩,fun _ _ _=>⟨rfl,fun _ _ _=>⟨rfl,rfl⟩⟩⟩
theorem Trans.trans{F':A2 Nat}{g₁ g₂:Gh}(h:Trans F g w g₁ w₁)(h':Trans F' g₁ w₁ g₂ w₂):Trans (F++F') g w g₂ w₂ where
 le:=h.le.trans h'.le
 names k hk:=by rw[Bp4,Bt5]at hk;rw[h'.names k hk.2,h.names k hk.1]
 Apx n ob hn he:=by rw[Bp4,Bt5]at hn;obtain⟨h1,h2⟩:=h'.Apx n ob hn.2 he;obtain⟨h3,h4⟩:=h.Apx n ob hn.1 h1;exact⟨h3,fun b hb=>⟨(h2 b hb).1.trans (h4 b hb).1,(h2 b hb).2.trans (h4 b hb).2⟩⟩
 eta L hL he:=by rw[Bp4,Bt5]at hL;obtain⟨h1,h2⟩:=h'.eta L hL.2 he;obtain⟨ob,Ga⟩:=Bps.1 he;have h3:=(h'.Apx L ob hL.2 Ga).1;obtain⟨h4,h5⟩:=h.eta L hL.1 (by rw[h3];rfl);refine⟨h1.trans h4,fun i b hb=>?_⟩;obtain⟨a1,a2⟩:=h5 i b hb;obtain⟨a3,a4⟩:=h2 i b (by rw[h4];exact hb);exact⟨a3.trans a1,a4.trans a2⟩
def Ov(h:w'.heap[b]? = w.heap[b]?)(i:Nat)(s:A3 Nat):w'.cell? ⟨b,i,s⟩=w.cell? ⟨b,i,s⟩:=by simp only[World.cell?,h]
def Agn(h:w'.heap[b]? = w.heap[b]?)(i:Nat)(s:A3 Nat):w'.frozen? ⟨b,i,s⟩=w.frozen? ⟨b,i,s⟩:=by simp only[World.frozen?,h]
def Room.D4{lo hi:Nat}(h:Room w b lo hi)(hw:w'.heap[b]? = w.heap[b]?):Room w' b lo hi:=by intro i h1 h2;rw[Ov hw,Agn hw];exact h i h1 h2
def Mp(h:w'.heap[b]? = w.heap[b]?):w'.shape? b=w.shape? b:=by simp only[World.shape?,h]
theorem A7g.D4{ty:A3 TypeId}(h:A7g g w n sz ty v)(ht:Trans F g w g' w')(hn:n∉F):A7g g' w' n sz ty v:=by
 unfold A7g at h⊢;split at h
 ·rename_i a len cap;intro ob Ga;obtain⟨h1,h2⟩:=ht.Apx n ob hn Ga;obtain⟨hs,hc⟩:=h ob h1;obtain⟨he,hγ,hr,hty⟩:=hc;obtain⟨h3,h4⟩:=h2 _ he;exact⟨hs,he,by rw[h3];exact hγ,hr.D4 h4,fun e hte=>⟨(hty e hte).1,by rw[Mp h4];exact(hty e hte).2⟩⟩
 ·trivial
theorem Ad0.D4{L:Nat}(h:Ad0 g w L i sz v)(ht:Trans F g w g' w')(hL:L∉F)(hl:(g'.β L).isSome):Ad0 g' w' L i sz v:=by
 unfold Ad0 at h⊢;split at h
 ·obtain⟨h1,h2⟩:=ht.eta L hL hl;obtain⟨a1,a2,a3,a4⟩:=h;obtain⟨b1,b2⟩:=h2 i _ a2;exact⟨a1,by rw[h1];exact a2,by rw[b1];exact a3,a4.D4 b2⟩
 ·trivial
def Ahg.D4{e:TypeId}(h:Ahg g w n e v)(ht:Trans F g w g' w')(hn:n∉F):Ahg g' w' n e v:=by
 unfold Ahg at h⊢;split at h
 ·refine⟨h.1,fun ob Ga=>?_⟩;obtain⟨h1,h2⟩:=ht.Apx n ob hn Ga;obtain⟨h3,h4,h5⟩:=h.2 ob h1;exact⟨h3,h4,by rw[Mp (h2 _ h3).2];exact h5⟩
 ·trivial
theorem RA.mono(h:RA g w x v)(ht:Trans F g w g' w')(hf:Z5 F x):RA g' w' x v:=by
 induction h with
 |d x v h=>exact .d x v (h.mono ht.le)
 |nm k p v h =>
  cases hf with
  |nm _ _ hk=>exact .nm k p v (by rw[ht.names k hk];exact h.mono ht.le)
 |Be n sz es ty v h h2 =>
  cases hf with
  |Be _ _ _ _ hk=>exact .Be n sz es ty v (h.mono ht.le) (h2.D4 ht hk)
 |Vs n e cs v h h2 =>
  cases hf with
  |Vs _ _ _ hk=>exact .Vs n e cs v (h.mono ht.le) (h2.D4 ht hk)
 |F2 l vs hl _ ih =>
  cases hf with
  |F2 _ hx=>exact .F2 l vs hl fun i x v h1 h2=>ih i x v h1 h2 (hx i x h1)
 |agg l vs hl _ ih =>
  cases hf with
  |agg _ hx=>exact .agg l vs hl fun i x v h1 h2=>ih i x v h1 h2 (hx i x h1)
 |F1 f l vs hl _ ih =>
  cases hf with
  |F1 _ _ hx=>exact .F1 f l vs hl fun i x v h1 h2=>ih i x v h1 h2 (hx i x h1)
inductive Ob where
 |cells (cs:List AV) (ty:Option TypeId:=none)
 |map (l:List (Nat×Value×D)) (clock:Nat)
 |Vt (s:ByteArray) (pos:Nat)
 |Jo (k since:Nat) (seen:Array Nat) (last:Nat)
 |Dl
 |Cf (L sz:Nat) (l:List (Nat×Value×Bool×List (List D))) (clock:Nat)
structure A5 where
 objs:List (Nat×Ob)
 live:List Nat
structure Sig where
 N:Nat
 names:List Nat
 small:∀j∈names,j<1000
structure B8 where
 n0:Nat
 w0:World
 γ0:Nat→Nat
 allowed:Nat→Prop
 D4:Nat→Nat
inductive Bv(g:Gh)(w:World)(b:Nat):Ob→Prop
 |cells (cs:List AV) (ty:Option TypeId) (arr:Array Value) (T:TypeId):w.heap[b]? = some (.cells arr T (0,0))→cs.length≤arr.size →
   (∀(i:Nat) x v,cs[i]? = some x→arr[i]? = some v→RA g w x v)→(∀t,ty=some t→t=T)→Bv g w b (.cells cs ty)
 |map (l:List (Nat×Value×D)) (clock:Nat) (es:Array MapEntry):w.heap[b]? = some (.map es clock)→l.length=es.size →
   (∀(i:Nat) x e,l[i]? = some x→es[i]? = some e→e.born=x.1∧e.key=x.2.1∧RD g.γ w x.2.2 e.val) →
   (∀p∈l,p.1<clock)→(l.map (·.1)).Nodup→Bv g w b (.map l clock)
 |Vt (s:ByteArray) (pos:Nat):w.heap[b]? = some (.stringIter s pos)→Bv g w b (.Vt s pos)
 |Jo (k since:Nat) (seen:Array Nat) (last:Nat):w.heap[b]? = some (.mapIter (some (g.ρ k)) since seen last)→Bv g w b (.Jo k since seen last)
 |Dl:w.heap[b]? = some (.mapIter none 0 #[] 0)→Bv g w b .Dl
 |Cf (L sz:Nat) (l:List (Nat×Value×Bool×List (List D))) (clock:Nat) (es:Array MapEntry):w.heap[b]? = some (.map es clock)→l.length=es.size →
   (∀(i:Nat) x e,l[i]? = some x→es[i]? = some e→e.born=x.1∧e.key=x.2.1∧RD g.γ w (.sl sz x.2.2.2) e.val∧(x.2.2.1=true→(g.β L).isSome→Ad0 g w L x.1 sz e.val)) →
   (∀p∈l,p.1<clock)→(l.map (·.1)).Nodup→Bv g w b (.Cf L sz l clock)
structure Kh(B:B8)(g:Gh)(w:World)(X:A5):Prop where
 inj:∀L L' i i' b,(g.β L).isSome→(g.β L').isSome→g.η L i=some b→g.η L' i'=some b→L=L'∧i=i'
 Be:∀L i b n,(g.β L).isSome→g.η L i=some b→g.β n≠some (some b)
 obj:∀L i b k o,(g.β L).isSome→g.η L i=some b→X.objs.lookup k=some o→b≠g.ρ k
 new:∀L i b,(g.β L).isSome→g.η L i=some b→B.n0≤b∨B.allowed b
 lt:∀L i b,(g.β L).isSome→g.η L i=some b→b<w.heap.size
variable{B:B8}{X X':A5}{S:Sig}
def Kh.step(h:Kh B g w X)(hη:∀L,(g'.β L).isSome→((g.β L).isSome∧g'.η L=g.η L)∨∀i,g'.η L i=none)(hs:w.heap.size≤w'.heap.size)
  (Aa3:∀n b,g'.β n=some (some b)→(∃m,g.β m=some (some b))∨w.heap.size≤b∨∃k o,X.objs.lookup k=some o∧b=g.ρ k)
  (A2l:∀k o,X'.objs.lookup k=some o→(∃k' o',X.objs.lookup k'=some o'∧g'.ρ k=g.ρ k')∨w.heap.size≤g'.ρ k∨∃m,g.β m=some (some (g'.ρ k))):Kh B g' w' X':=by
 have old:∀L i b,(g'.β L).isSome→g'.η L i=some b→(g.β L).isSome∧g.η L i=some b:=by
  intro L i b hL hb;rcases hη L hL with ⟨h1,h2⟩|h1
  ·exact⟨h1,by rw[← h2];exact hb⟩
  ·rw[h1 i]at hb;cases hb
 refine⟨?_,?_,?_,?_,?_⟩
 ·intro L L' i i' b hL hL' hb Fp;obtain⟨a1,a2⟩:=old L i b hL hb;obtain⟨a3,a4⟩:=old L' i' b hL' Fp;exact h.inj L L' i i' b a1 a3 a2 a4
 ·intro L i b n hL hb hn;obtain⟨a1,a2⟩:=old L i b hL hb;rcases Aa3 n b hn with ⟨m,hm⟩|hle|⟨k,o,hk,he⟩
  ·exact h.Be L i b m a1 a2 hm
  ·have:=h.lt L i b a1 a2;omega
  ·exact h.obj L i b k o a1 a2 hk he
 ·intro L i b k o hL hb hk he;obtain⟨a1,a2⟩:=old L i b hL hb;rcases A2l k o hk with ⟨k',o',Lb,he'⟩|hle|⟨m,hm⟩
  ·exact h.obj L i b k' o' a1 a2 Lb (he.trans he')
  ·have:=h.lt L i b a1 a2;omega
  ·exact h.Be L i b m a1 a2 (by rw[he];exact hm)
 ·intro L i b hL hb;obtain⟨a1,a2⟩:=old L i b hL hb;exact h.new L i b a1 a2
 ·intro L i b hL hb;obtain⟨a1,a2⟩:=old L i b hL hb;exact Bqv (h.lt L i b a1 a2) hs
def Kh.Aun(h:Kh B g w X)(hη:∀L,(g'.β L).isSome→((g.β L).isSome∧g'.η L=g.η L)∨∀i,g'.η L i=none)(hs:w.heap.size≤w'.heap.size)
  (Aa3:∀n b,g'.β n=some (some b)→∀L i,(g.β L).isSome→g.η L i≠some b)
  (A2l:∀k o,X'.objs.lookup k=some o→∀L i,(g.β L).isSome→g.η L i≠some (g'.ρ k)):Kh B g' w' X':=by
 have old:∀L i b,(g'.β L).isSome→g'.η L i=some b→(g.β L).isSome∧g.η L i=some b:=by
  intro L i b hL hb;rcases hη L hL with ⟨h1,h2⟩|h1
  ·exact⟨h1,by rw[← h2];exact hb⟩
  ·rw[h1 i]at hb;cases hb
 refine⟨?_,?_,?_,?_,?_⟩
 ·intro L L' i i' b hL hL' hb Fp;obtain⟨a1,a2⟩:=old L i b hL hb;obtain⟨a3,a4⟩:=old L' i' b hL' Fp;exact h.inj L L' i i' b a1 a3 a2 a4
 ·intro L i b n hL hb hn;obtain⟨a1,a2⟩:=old L i b hL hb;exact Aa3 n b hn L i a1 a2
 ·intro L i b k o hL hb hk he;obtain⟨a1,a2⟩:=old L i b hL hb;exact A2l k o hk L i a1 (he▸a2)
 ·intro L i b hL hb;obtain⟨a1,a2⟩:=old L i b hL hb;exact h.new L i b a1 a2
 ·intro L i b hL hb;obtain⟨a1,a2⟩:=old L i b hL hb;exact Bqv (h.lt L i b a1 a2) hs
def Kh.B8g(h:Kh B g w X)(hn:g.β n=some (some b)):∀L i,(g.β L).isSome→g.η L i≠some b:=fun L i hL hb=>h.Be L i b n hL hb hn
def Kh.B58(h:Kh B g w X){o:Ob}(hk:X.objs.lookup k=some o):∀L i,(g.β L).isSome→g.η L i≠some (g.ρ k):=fun L i hL hb=>h.obj L i _ k o hL hb hk rfl
def Kh.ltN(h:Kh B g w X)(hb:w.heap.size≤b):∀L i,(g.β L).isSome→g.η L i≠some b:=fun L i hL he=>by have:=h.lt L i b hL he;omega
def Kh.off(h:∀L,g.β L=none):Kh B g w X:=by refine⟨fun L L' i i' b hL=>?_,fun L i b n hL=>?_,fun L i b k o hL=>?_,fun L i b hL=>?_,fun L i b hL=>?_⟩<;>(rw[h L]at hL;cases hL)
def Kh.bare(h:∀L i,g.η L i=none):Kh B g w X:=by refine⟨fun L L' i i' b _ _ hb=>?_,fun L i b n _ hb=>?_,fun L i b k o _ hb=>?_,fun L i b _ hb=>?_,fun L i b _ hb=>?_⟩<;>(rw[h L i]at hb;cases hb)
def Kh.same(h:Kh B g w X)(hs:w.heap.size≤w'.heap.size)(A2l:∀k o,X'.objs.lookup k=some o→∃o',X.objs.lookup k=some o'):Kh B g w' X' :=
 h.step (fun L hL=>.inl ⟨hL,rfl⟩) hs (fun n b hb=>.inl ⟨n,hb⟩) fun k o hk=>let ⟨o',h'⟩:=A2l k o hk;.inl ⟨k,o',h',rfl⟩
structure HR(nm:List Nat)(B:B8)(g:Gh)(w:World)(X:A5):Prop where
 D4:∀k,k∈nm→g.ρ k=B.D4 k∧(X.objs.lookup k).isSome
 Ip:∀b i,i<g.γ b→(w.cell? ⟨b,i,none⟩).isSome
 base:B.n0≤w.heap.size
 io:w.os=B.w0.os∧w.output=B.w0.output∧w.tape=B.w0.tape∧B.w0.drawn≤w.drawn
 le:LeD B.γ0 B.w0 g.γ w
 frame:∀b,b<B.n0→¬B.allowed b→w.heap[b]? = B.w0.heap[b]?∧g.γ b=B.γ0 b
 objs:∀k o,X.objs.lookup k=some o→Bv g w (g.ρ k) o
 Fq:∀k o,X.objs.lookup k=some o→g.γ (g.ρ k)=0
 Br:∀k k' o o',X.objs.lookup k=some o→X.objs.lookup k'=some o'→g.ρ k=g.ρ k'→k=k'
 Ca:∀k o,X.objs.lookup k=some o→B.n0≤g.ρ k∨B.allowed (g.ρ k)
 live:∀n,n∈X.live↔(g.β n).isSome
 Bw:∀n m b,g.β n=some (some b)→g.β m=some (some b)→n=m
 Ba:∀n b k o,g.β n=some (some b)→X.objs.lookup k=some o→b≠g.ρ k
 C3:∀n b,g.β n=some (some b)→B.n0≤b∨B.allowed b
 C7:∀n b,g.β n=some (some b)→b<w.heap.size
 eta:Kh B g w X
def Bi(P:Program)(o:Oper)(rd:A2 (Operand×AV))(X X':A5)(F:A2 Nat)(res:AV):Prop :=
 ∀(nm:A2 Nat),(∀j∈nm,j<1000)→∀(B:B8) (g:Gh) (w:World) (a:Act),HR nm B g w X→(∀p∈rd,RA g w p.2 (a.eval p.1)) →
  ∀(next:Act→World→Prop) (Q:Exit→Act→World→Prop),
   (∀g' w' v,HR nm B g' w' X'→Trans F g w g' w'→RA g' w' res v→next (a.put o.dst v) w')→o.wp P a w next Q
structure St where
 env:List (Nat×AV)
 X:A5
def GB:Nat:=1000000
def Zq(a:Act)(t:Nat):A3 Value:=if t<GB then a.tmps[t]? else some (.pointer (some ⟨t-GB,0,none⟩))
variable{a:Act}{st:St}
def S2(ht:t<GB):Zq a t=a.tmps[t]?:=Bq6 ht
def A0w(k:Nat):Zq a (GB+k)=some (.pointer (some ⟨k,0,none⟩)):=by unfold Zq;rw[Bpp (by omega),Bvu]
def Anr(h:t≠d):Zq (a.put (some d) v) t=Zq a t:=by simp[Zq,Act.put,Brl h]
def Ahi(h:d<a.tmps.size)(hd:d<GB):Zq (a.put (some d) v) d=some v:=by simp[Zq,Act.put,h,hd]
structure SR(S:Sig)(B:B8)(g:Gh)(w:World)(st:St)(a:Act):Prop where
 defers:a.defers=[]
 size:a.tmps.size=S.N
 hr:HR S.names B g w st.X
 env:∀t x,st.env.lookup t=some x→∃v,Zq a t=some v∧RA g w x v
inductive Has(env:List (Nat×AV))(t:Nat):AV→Prop
 |eq (x:AV):env.lookup t=some x→Has env t x
 |Be (n sz:Nat) (es:List (List D)) (ty:Option TypeId):env.lookup t=some (.Be n sz es ty)→Has env t (.d (.sl sz es))
 |nil (sz:Nat):env.lookup t=some (.d (.sc (.slice none 0 0)))→Has env t (.d (.sl sz []))
 |le (x y:AV):env.lookup t=some x→(∀(g:Gh) (w:World) (v:Value),RA g w x v→RA g w y v)→Has env t y
def Has.get(h:Has st.env t x)(hs:SR S B g w st a):∃v,Zq a t=some v∧RA g w x v:=by
 cases h with
 |eq _ h=>exact hs.env t _ h
 |Be n sz es ty h =>
  obtain⟨v,hv,hr⟩:=hs.env t _ h;cases hr with
  |Be _ _ _ _ _ h _=>exact⟨v,hv,.d _ _ h⟩
 |nil sz h =>
  obtain⟨v,hv,hr⟩:=hs.env t _ h;cases hr with
  |d _ _ h=>cases h;exact⟨_,hv,.d _ _ (.nil sz none 0 fun _=>rfl)⟩
 |le x _ h hle =>obtain⟨v,hv,hr⟩:=hs.env t _ h;exact⟨v,hv,hle g w v hr⟩
inductive Dx(st:St):Operand→AV→Prop
 |tmp (t:Nat) (y:AV):t<GB→Has st.env t y→Dx st (.tmp t) y
 |Ahj (k:Nat) (y:AV):Has st.env (GB+k) y→Dx st (.global k) y
 |const (v:Value) (y:D):(∀γ w,RD γ w y v)→Dx st (.const v) (.d y)
 |func (f:Nat):Dx st (.func f) (.F1 f [])
def Dx.ra{x:Operand}{v:AV}(h:Dx st x v)(hs:SR S B g w st a):RA g w v (a.eval x):=by
 cases h with
 |Ahj k _ h =>obtain⟨u,hv,hr⟩:=h.get hs;rw[A0w]at hv;cases hv;exact hr
 |tmp t _ ht h =>
  obtain⟨u,hv,hr⟩:=h.get hs;rw[S2 ht]at hv;have:a.eval (.tmp t)=u:=by show a.tmps.getD t undef=u;obtain⟨Bg,rfl⟩:=Bpo.1 hv;simp[Array.getD,Bg]
  rw[this];exact hr
 |const _ _ h=>exact .d _ _ (h _ _)
 |func f=>exact .F1 f [] #[] rfl (by simp)
def Dm(dst:A3 Tmp)(x:AV)(env:A2 (Nat×AV)):A2 (Nat×AV) :=
 match dst with
 |some d=>(d,x)::env
 |none=>env
def Jl(N:Nat):A3 Tmp→Bool
 |some d=>decide (d<N)&&decide (d<GB)
 |none=>true
def M7(F:A2 Nat)(env:A2 (Nat×AV)):Bool:=F.isEmpty||env.all fun p=>Gi F p.2
def Da{α:Type}{l:A2 (Nat×α)}{x:α}(h:l.lookup k=some x):(k,x)∈l:=by
 induction l with
 |nil=>simp at h
 |cons p r ih =>
  obtain⟨k',y⟩:=p;rw[Bqa]at h;split at h
  ·rename_i he;simp at he h;subst he;subst h;exact Bp6
  ·exact Bp5 _ (ih h)
def W7{env:A2 (Nat×AV)}(h:M7 F env=true)(hx:env.lookup t=some x):Z5 F x:=by
 unfold M7 at h;rw[Br3]at h;rcases h with h|h
 ·have:F=[]:=by simpa using h
  subst this;exact .nil x
 ·have:=Bqb.1 h _ (Da hx);exact Pj this
theorem SR.put(h:SR S B g w st a)(ht:Trans F g w g' w')(hF:M7 F st.env=true)
   (hX:HR S.names B g' w' X') {dst:A3 Tmp} (hd:Jl S.N dst=true)   (hv:RA g' w' x v) :
  SR S B g' w' ⟨Dm dst x st.env,X'⟩ (a.put dst v):=by
 cases dst with
 |none =>refine⟨h.defers,h.size,hX,?_⟩;intro t y hy;obtain⟨u,hu,hr⟩:=h.env t y hy;exact⟨u,hu,hr.mono ht (W7 hF hy)⟩
 |some d =>
  have Bjj:d<S.N∧d<GB:=by simpa[Jl]using hd
  refine⟨h.defers,by simp[Act.put,h.size],hX,?_⟩;intro t y hy;simp only[Dm,Bqa]at hy;by_cases he:t=d
  ·subst he;simp at hy;subst hy;exact⟨v,Ahi (h.size▸Bjj.1) Bjj.2,hv⟩
  ·have hb:(t==d)=false:=by simpa using he
   rw[hb]at hy;obtain⟨u,hu,hr⟩:=h.env t y hy;exact⟨u,(Anr he).trans hu,hr.mono ht (W7 hF hy)⟩
inductive Guard(ops:Array Oper)(st:St):Option (Nat×Bool)→Bool→Prop
 |none:Guard ops st none true
 |some (j d:Nat) (o:Oper) (Bop b:Bool):ops[j]? = some o→o.dst=some d→st.env.lookup d=some (.d (.sc (.bool b)))→Guard ops st (some (j,Bop)) (b==Bop)
 |undef (j d:Nat) (o:Oper) (Bop:Bool):ops[j]? = some o→o.dst=some d→st.env.lookup d=some (.d (.sc Go.undef))→Guard ops st (some (j,Bop)) false
theorem Guard.wanted{ops:Array Oper}{o:Oper}{b:Bool}(h:Guard ops st o.guard b)(hs:SR S B g w st a) :
  Region.wanted o (yielded ops a.tmps)=b:=by
 unfold Region.wanted;generalize o.guard=og at h;cases h with
 |none=>rfl
 |some j d o Bop b ho hd hl =>
  obtain⟨v,hv,hr⟩:=hs.env d _ hl;cases hr with
  |d _ _ hr =>
   cases hr;unfold Zq at hv;split at hv
   ·simp only[yielded,ho,Bow,hd,hv];cases b<;>cases Bop<;>rfl
   ·cases hv
 |undef j d o Bop ho hd hl =>
  obtain⟨v,hv,hr⟩:=hs.env d _ hl;cases hr with
  |d _ _ hr =>
   cases hr;unfold Zq at hv;split at hv
   ·simp only[yielded,ho,Bow,hd,hv];rfl
   ·cases hv
inductive E5(P:Program)(S:Sig)(ops:Array Oper):List Nat→St→St→Prop
 |nil (st:St):E5 P S ops [] st st
 |op {i:Nat} {Boq:List Nat} {o:Oper} {st Bd:St} {rd:List (Operand×AV)} {X':A5} {F:List Nat} {res:AV} :
   ops[i]? = some o→Guard ops st o.guard true→(∀p∈rd,Dx st p.1 p.2)→Bi P o rd st.X X' F res→M7 F st.env=true →
   Jl S.N o.dst=true→E5 P S ops Boq ⟨Dm o.dst res st.env,X'⟩ Bd→E5 P S ops (i::Boq) st Bd
 |skip {i:Nat} {Boq:List Nat} {o:Oper} {st Bd:St} :
   ops[i]? = some o→Guard ops st o.guard false→Jl S.N o.dst=true →
   E5 P S ops Boq ⟨Dm o.dst (.d (.sc undef)) st.env,st.X⟩ Bd→E5 P S ops (i::Boq) st Bd
def AWp(P:Program)(S:Sig)(c:Code)(Q:Exit→St→Prop)(st:St):Prop :=
 ∀B g w a,SR S B g w st a→c.wp P (fun e a' w'=>∃Bd g',Q e Bd∧SR S B g' w' Bd a') a w
section rules
variable{P:Program}{S:Sig}{Q:Exit→St→Prop}{st:St}
def B8h(h:Q .normal st):AWp P S .skip Q st:=fun _ g _ _ hs=>wp_skip ⟨st,g,h,hs⟩
def B59{l:Nat}(h:Q .normal st):AWp P S (.label l) Q st:=fun _ g _ _ hs=>wp_label ⟨st,g,h,hs⟩
def B8i{id:Nat}(h:Q (.exit id) st):AWp P S (.exit id) Q st:=fun _ g _ _ hs=>wp_exit ⟨st,g,h,hs⟩
def Bdb(h:Q .ret st):AWp P S .ret Q st:=fun _ g _ _ hs=>wp_ret ⟨st,g,h,hs⟩
def Bgb(next:St→Prop)(Q:Exit→St→Prop):Exit→St→Prop
 |.normal,st=>next st
 |e,st=>Q e st
variable{c y:Code}
def A30{Q':Exit→St→Prop}(h:AWp P S c Q st)(hq:∀e st,Q e st→Q' e st):AWp P S c Q' st:=fun B g w a hs =>Btw (h B g w a hs) fun _ _ _ ⟨Bd,g',q,s⟩=>⟨Bd,g',hq _ _ q,s⟩
def Ah4{x:Code}(h:AWp P S x (Bgb (AWp P S y Q) Q) st):AWp P S (.seq x y) Q st:=fun B g w a hs=>by
 refine wp_seq (Btw (h B g w a hs) ?_);rintro e a' w' ⟨Bd,g',q,s⟩;cases e with
 |normal=>exact q B g' w' a' s
 |_=>exact⟨Bd,g',q,s⟩
def B8j{c:Operand}{x:Code}{b:Bool}(hc:Dx st c (.d (.sc (.bool b))))(ht:b=true→AWp P S x Q st)(hf:b=false→AWp P S y Q st) :
  AWp P S (.cond c x y) Q st:=fun B g w a hs=>by
 have hr:=hc.ra hs;have he:a.eval c = .bool b:=by
  generalize a.eval c=u at hr;cases hr with
  |d _ _ h=>cases h;rfl
 exact wp_cond_split he (fun h=>ht h B g w a hs) (fun h=>hf h B g w a hs)
def Ayy(id:Nat)(Q:Exit→St→Prop):Exit→St→Prop
 |.exit id',st=>if id'=id then Q .normal st else Q (.exit id') st
 |e,st=>Q e st
def B5a{id:Nat}(h:AWp P S c (Ayy id Q) st):AWp P S (.block id c) Q st:=fun B g w a hs=>by
 refine wp_block (Btw (h B g w a hs) ?_);rintro e a' w' ⟨Bd,g',q,s⟩;cases e with
 |exit id' =>
  simp only[Ayy]at q;simp only[Exit.inBlock];split at q
  ·rw[Bq6 ‹_›];exact⟨Bd,g',q,s⟩
  ·rw[Bpp ‹_›];exact⟨Bd,g',q,s⟩
 |_=>exact⟨Bd,g',q,s⟩
def Ahk(I:Nat→St→Prop)(n:Nat)(h0:I n st)
  (round:∀n st,I n st→AWp P S c (Bgb (fun Bd=>∃m,m<n∧I m Bd) Q) st):AWp P S (.loop c) Q st:=fun B g w a hs=>by
 refine wp_loop (P:=P) (fun a w=>∃n g st,I n st∧SR S B g w st a) (fun a w=>Classical.epsilon fun n=>(∃g st,I n st∧SR S B g w st a)∧∀m,(∃g st,I m st∧SR S B g w st a)→n≤m) ⟨n,g,st,h0,hs⟩ ?_;have least:∀(p:Nat→Prop),(∃n,p n)→∃n,p n∧∀m,p m→n≤m:=by
  intro p ⟨n,hn⟩;induction n using Nat.strongRecOn with
  |_ n ih =>
   by_cases hm:∃m,m<n∧p m
   ·obtain⟨m,Bg,hp⟩:=hm;exact ih m Bg hp
   ·refine⟨n,hn,fun m hp=>?_⟩;rcases Brq m n with Bg|hge
    ·exact(hm ⟨m,Bg,hp⟩).elim
    ·exact hge
 intro a w hI;have hI':∃n,(∃g st,I n st∧SR S B g w st a):=by obtain⟨n,g,st,h⟩:=hI;exact⟨n,g,st,h⟩
 have Bjk:=Bw0 (least _ hI');generalize hN:(Classical.epsilon fun n=>(∃g st,I n st∧SR S B g w st a)∧∀m,(∃g st,I m st∧SR S B g w st a)→n≤m)=N at Bjk;obtain⟨⟨g₁,Bjl,hi,Bjm⟩,_⟩:=Bjk;refine Btw (round N Bjl hi B g₁ w a Bjm) ?_;rintro e a' w' ⟨Bd,g',q,s⟩;cases e with
 |normal =>obtain⟨m,Bg,hm⟩:=q;refine⟨⟨m,g',Bd,hm,s⟩,?_⟩;have Bm7:∃n,(∃g st,I n st∧SR S B g w' st a'):=⟨m,g',Bd,hm,s⟩;have Bjn:=Bw0 (least _ Bm7);exact Bv5 (Bjn.2 m ⟨g',Bd,hm,s⟩) Bg
 |_=>exact⟨Bd,g',q,s⟩
structure Auo(nm:List Nat)(st Bd:St):Prop where
 env:∀p∈Bd.env,Has st.env p.1 p.2
 objs:∀p∈Bd.X.objs,st.X.objs.lookup p.1=some p.2
 live:∀n∈Bd.X.live,n∈st.X.live
 D4:∀k∈nm,(Bd.X.objs.lookup k).isSome
def SR.Aa4{Bd:St}(h:SR S B g w st a)(hw:Auo S.names st Bd):∃g',Trans [] g w g' w∧SR S B g' w Bd a:=by
 classical
 let g':Gh:={ g with β:=fun n=>if n∈Bd.X.live then g.β n else none };have ht:Trans [] g w g' w:=by
  refine⟨.refl _ _,fun _ _=>rfl,fun n ob _ he=>?_,fun _ _ _=>⟨rfl,fun _ _ _=>⟨rfl,rfl⟩⟩⟩;simp only[g']at he;split at he
  ·exact⟨he,fun _ _=>⟨rfl,rfl⟩⟩
  ·cases he
 have hβ:∀n ob,g'.β n=some ob→g.β n=some ob:=fun n ob he=>(ht.Apx n ob (by simp) he).1
 refine⟨g',ht,h.defers,h.size,?_,?_⟩
 ·have hr:=h.hr;have hl:∀k o,Bd.X.objs.lookup k=some o→st.X.objs.lookup k=some o:=fun k o hk=>hw.objs _ (Da hk)
  refine⟨?_,hr.Ip,hr.base,hr.io,hr.le,hr.frame,?_,?_,?_,?_,?_,?_,?_,?_,?_,hr.eta.step (fun L hL=>.inl ⟨?_,rfl⟩) (Bpa _) (fun n b hb=>.inl ⟨n,hβ n _ hb⟩) fun k o hk=>.inl ⟨k,o,hl k o hk,rfl⟩⟩
  rotate_right
  ·obtain⟨ob,Ga⟩:=Bps.1 hL;rw[hβ L ob Ga];rfl
  ·intro k hk;exact⟨(hr.D4 k hk).1,hw.D4 k hk⟩
  ·intro k o hk;have:=hr.objs k o (hl k o hk);cases this with
   |cells cs ty arr T h1 h2 h3 h4=>exact .cells cs ty arr T h1 h2 (fun i x v hx hv=>(h3 i x v hx hv).mono ht (.nil x)) h4
   |map l clock es h1 h2 h3 h4 h5=>exact .map l clock es h1 h2 h3 h4 h5
   |Vt s pos h1=>exact .Vt s pos h1
   |Jo j since seen last h1=>exact .Jo j since seen last h1
   |Dl h1=>exact .Dl h1
   |Cf L sz l clock es h1 h2 h3 h4 h5 =>
    have h3':∀(i:Nat) x e,l[i]? = some x→es[i]? = some e→e.born=x.1∧e.key=x.2.1∧RD g'.γ w (.sl sz x.2.2.2) e.val∧(x.2.2.1=true→(g'.β L).isSome→Ad0 g' w L x.1 sz e.val):=by intro i x e hx he;obtain⟨a1,a2,a3,a4⟩:=h3 i x e hx he;refine⟨a1,a2,a3,fun hf hL=>?_⟩;obtain⟨ob,Ga⟩:=Bps.1 hL;exact a4 hf (by rw[hβ L ob Ga];rfl)
    exact .Cf L sz l clock es h1 h2 h3' h4 h5
  ·intro k o hk;exact hr.Fq k o (hl k o hk)
  ·intro k k' o o' hk Lb he;exact hr.Br k k' o o' (hl k o hk) (hl k' o' Lb) he
  ·intro k o hk;exact hr.Ca k o (hl k o hk)
  ·intro n;simp only[g'];by_cases hn:n∈Bd.X.live
   ·simp only[hn,Brg,true_iff];exact(hr.live n).1 (hw.live n hn)
   ·simp[hn]
  ·intro n m b hn hm;exact hr.Bw n m b (hβ n _ hn) (hβ m _ hm)
  ·intro n b k o hn hk;exact hr.Ba n b k o (hβ n _ hn) (hl k o hk)
  ·intro n b hn;exact hr.C3 n b (hβ n _ hn)
  ·intro n b hn;exact hr.C7 n b (hβ n _ hn)
 ·intro t x hx;obtain⟨v,hv,hr⟩:=(hw.env _ (Da hx)).get h;exact⟨v,hv,hr.mono ht (.nil x)⟩
end rules
end Go.Ab
namespace Go.Ab
def Aa5:TypeDesc→Bool
 |.struct _=>true
 |.array _ _=>true
 |_=>false
structure TyI(P:Program)(t:TypeId)(agg:Bool)(sz:Nat):Prop where
 und:∃d,P.underlying t=some d∧Aa5 d=agg
 info:∃i,P.info? t=some i∧i.size=sz
variable{P:Program}{t T u t' s d e e':TypeId}{agg Bop:Bool}{sz b k off j n fo m cap len xc sz' A82 pt it:Nat}{fr:Nat×Nat}{f γ fl:Nat→Nat}
def A5f(h:TyI P t agg sz)(w:World):(isAgg t).run P w = .ok agg w:=by obtain⟨d,hd,ha⟩:=h.und;unfold isAgg;rw[Bq5,Bpb hd];subst ha;cases d<;>rfl
variable{i:TypeInfo}{w w':World}
def run_sizeOf(h:P.info? t=some i)(w:World):(sizeOf t).run P w = .ok i.size w:=by simp[sizeOf,typeInfo,h]
def TyI.Zr(h:TyI P t agg sz)(w:World):(sizeOf t).run P w = .ok sz w:=by obtain⟨i,hi,rfl⟩:=h.info;exact run_sizeOf hi w
def addr_add(b off i:Nat):(⟨b,off,none⟩:Addr).add i=⟨b,off+i,none⟩:=by
 unfold Addr.add;split
 ·rename_i h;subst h;rfl
 ·rfl
def M8(h:TyI P t agg sz)(w:World)(b off:Nat)(vs:Array Value)(hl:vs.size=sz)
  (hc:∀(i:Nat) v,vs[i]? = some v→w.cell? ⟨b,off+i,none⟩=some v) (h1:agg=false→sz=1) :
  (loadVar t ⟨b,off,none⟩).run P w = .ok (if agg then .agg vs else vs.getD 0 undef) w:=by
 unfold loadVar;rw[Bq5,A5f h,Bpr];cases agg with
 |true =>
  have:=run_loadCells_list (P:=P) w ⟨b,off,none⟩ vs.toList (by
   intro j v hj;rw[addr_add];exact hc j v (by simpa using hj))
  simp only[Brg,Bq5,h.Zr,Bpr];rw[← hl,← Brk,this];simp
 |false =>
  have h1:=h1 rfl;have h0:0<vs.size:=by omega
  have hc0:=hc 0 vs[0] (by simp[h0]);simp only[Bqs,Bre,run_load];rw[Bs7]at hc0;rw[hc0];simp[Array.getD,h0]
def Ahl:A2 AV→A3 (A2 D)
 |[]=>some []
 |.d x::r=>(Ahl r).map (x :: ·)
 |_::_=>none
def Yf(cs:A2 AV):AV :=
 match Ahl cs with
 |some ds=>.d (.agg ds)
 |none=>.agg cs
variable{cs xs:A2 AV}{vs arr:Array Value}{z v:Value}{res:AV}{ts:Array TypeId}{es fs:A2 (A2 D)}{F ks L ls:A2 Nat}{ty:A3 TypeId}{xb:A3 Addr}{Boo:A2 Value}{og:A3 (Nat×Bool)}
def B8k{ds:A2 D}(h:Ahl cs=some ds):cs=ds.map .d:=by
 induction cs generalizing ds with
 |nil=>simp[Ahl]at h;subst h;rfl
 |cons x r ih =>
  cases x with
  |d x =>simp only[Ahl,Bp8]at h;obtain⟨l,hl,rfl⟩:=h;rw[ih hl];rfl
  |_=>simp[Ahl]at h
variable{g:Gh}
def RA.join(hl:cs.length=vs.size)
  (h:∀(i:Nat) x v,cs[i]? = some x→vs[i]? = some v→RA g w x v):RA g w (Yf cs) (.agg vs):=by
 unfold Yf;split
 ·rename_i ds hd;have:=B8k hd;subst this;refine .d _ _ (.agg ds vs (by simpa using hl) fun i c v hc hv=>?_);have:=h i (.d c) v (by simp[hc]) hv;cases this with
  |d _ _ h=>exact h
 ·exact .agg cs vs hl h
inductive Ans(P:Program)(X:A5)(t:TypeId)(k off:Nat):AV→Prop
 |agg (sz:Nat) (cs:List AV) (ty:Option TypeId) (x:AV):TyI P t true sz→X.objs.lookup k=some (.cells cs ty)→off+sz≤cs.length→Yf ((cs.drop off).take sz)=x→Ans P X t k off x
 |one (cs:List AV) (ty:Option TypeId) (x:AV):TyI P t false 1→X.objs.lookup k=some (.cells cs ty)→cs[off]? = some x→Ans P X t k off x
def B6(h:w.heap[b]? = some (.cells arr T fr))(i:Nat) :
  w.cell? ⟨b,i,none⟩=arr[i]?:=by simp[World.cell?,h]
variable{B:B8}{X Xc Cw Y X':A5}
theorem Ans.run{nm:A2 Nat}{x:AV}(h:Ans P X t k off x)(hr:HR nm B g w X) :
  ∃v,(loadVar t ⟨g.ρ k,off,none⟩).run P w = .ok v w∧RA g w x v:=by
 cases h with
 |agg sz cs ty x ht hk hlen hx =>
  subst hx;cases hr.objs k _ hk with
  |cells _ _ arr T hb hl hc _ =>
   refine⟨.agg (arr.extract off (off+sz)),?_,?_⟩
   ·have:=M8 ht w (g.ρ k) off (arr.extract off (off+sz)) (by simp;omega) (by
     intro i v hv;rw[B6 hb];rw[Bt4]at hv;split at hv
     ·exact hv
     ·cases hv) (by simp)
    simpa using this
   ·refine RA.join (by simp;omega) ?_;intro i x v hx hv;rw[Bt4]at hv;split at hv
    ·rw[Bqj]at hx;split at hx
     ·rw[Bqn]at hx;exact hc _ x v hx hv
     ·cases hx
    ·cases hv
 |one cs ty x ht hk hx =>
  cases hr.objs k _ hk with
  |cells _ _ arr T hb hl hc _ =>
   have Bg:off<arr.size:=by have:=(Bp2.1 hx).1;omega
   refine⟨arr[off],?_,hc off x _ hx (by simp[Bg])⟩;have:=M8 ht w (g.ρ k) off #[arr[off]] rfl (by
    intro i v hv;cases i with
    |zero=>simp at hv;subst hv;rw[Bs7,B6 hb];simp[Bg]
    |succ i=>simp at hv) (fun _=>rfl)
   simpa using this
inductive RV(P:Program)(st:St):ResultVar→AV→Prop
 |tmp (t:Nat) (x:AV):t<GB→Has st.env t x→RV P st (.tmp t) x
 |cell (a:Nat) (ty:TypeId) (k off:Nat) (x:AV):a<GB→Has st.env a (.ptr k off)→Ans P st.X ty k off x→RV P st (.cell a ty) x
inductive RVs(P:Program)(st:St):List ResultVar→List AV→Prop
 |nil:RVs P st [] []
 |cons (r:ResultVar) (x:AV) (rs:List ResultVar) (xs:List AV):RV P st r x→RVs P st rs xs→RVs P st (r::rs) (x::xs)
def A0x:A2 AV→AV
 |[x]=>x
 |l=>.F2 l
def Ahm(tmps:Array Value)(r:ResultVar):Sem Value :=
 match r with
 |.tmp t=>pure (tmps.getD t undef)
 |.cell c t=>do loadVar t (← asAddr (tmps.getD c undef))
def Ayz(fn:Func)(tmps:Array Value):results fn tmps=(do
  let vs ← fn.results.mapM (Ahm tmps)
  pure (if h:vs.size=1 then vs[0]else .tuple vs)):=by
 unfold results;congr 1
variable{S:Sig}{st Bd:St}{a:Act}
theorem RV.run{r:ResultVar}{x:AV}(h:RV P st r x)(hs:SR S B g w st a) :
  ∃v,(Ahm a.tmps r).run P w = .ok v w∧RA g w x v:=by
 cases h with
 |tmp t _ ht h =>have:=(Dx.tmp t _ ht h).ra hs;exact⟨_,rfl,this⟩
 |cell c ty k off _ ht h hl =>
  have:=(Dx.tmp c _ ht h).ra hs;have he:a.tmps.getD c undef = .pointer (some ⟨g.ρ k,off,none⟩):=by have h1:a.eval (.tmp c)=a.tmps.getD c undef:=rfl;rw[h1]at this;exact this.Ko
  obtain⟨v,hv,Ua⟩:=hl.run hs.hr;refine⟨v,?_,Ua⟩;simp only[Ahm,he,asAddr];simp[hv]
theorem RVs.run{rs:A2 ResultVar}(h:RVs P st rs xs)(hs:SR S B g w st a) :
  ∃vs:A2 Value,(rs.mapM (Ahm a.tmps)).run P w = .ok vs w ∧
   xs.length=vs.length∧∀(i:Nat) x v,xs[i]? = some x→vs[i]? = some v→RA g w x v:=by
 induction h with
 |nil=>exact⟨[],rfl,rfl,by simp⟩
 |cons r x rs xs h _ ih =>
  obtain⟨v,hv,hx⟩:=h.run hs;obtain⟨vs,Pk,hl,hxs⟩:=ih;refine⟨v::vs,?_,by simp[hl],?_⟩
  ·rw[List.mapM_cons,Bq5,hv,Bpr,Bq5,Pk,Bpr];rfl
  ·intro i y u hy hu;cases i with
   |zero=>simp at hy hu;subst hy;subst hu;exact hx
   |succ i=>exact hxs i y u (by simpa using hy) (by simpa using hu)
def Mq{fn:Func}(h:RVs P st fn.results.toList xs)(hs:SR S B g w st a) :
  ∃v,(results fn a.tmps).run P w = .ok v w∧RA g w (A0x xs) v:=by
 obtain⟨vs,Pk,hl,hxs⟩:=h.run hs;have hm:(fn.results.mapM (Ahm a.tmps)).run P w = .ok vs.toArray w:=by rw[Bvm,Sem.run_map,Pk];rfl
 refine⟨if h:vs.toArray.size=1 then vs.toArray[0]else .tuple vs.toArray,?_,?_⟩
 ·rw[Ayz,Bq5,hm];rfl
 ·cases vs with
  |nil =>
   cases xs with
   |nil=>exact .F2 [] #[] rfl (by simp)
   |cons _ _=>simp at hl
  |cons v0 vs =>
   cases xs with
   |nil=>simp at hl
   |cons x0 xs =>
    cases vs with
    |nil =>
     cases xs with
     |nil=>exact hxs 0 x0 v0 rfl rfl
     |cons _ _=>simp at hl
    |cons v1 vs =>
     cases xs with
     |nil=>simp at hl
     |cons x1 xs =>
      have:¬((v0::v1::vs).toArray.size=1):=by simp
      rw[dif_neg this];exact .F2 _ _ (by simpa using hl) (by intro i x v hx hv;exact hxs i x v hx (by simpa using hv))
def B8.of(g:Gh)(w:World)(X:A5):B8 :=
 {n0:=w.heap.size,w0:=w,γ0:=g.γ,allowed:=fun b=>(∃k o,X.objs.lookup k=some o∧g.ρ k=b)∨∃n,g.β n=some (some b),D4:=g.ρ }
def Mj(P:Program)(f:FuncId)(args:A2 AV)(X:A5)(res:AV)(X':A5):Prop :=
 ∀(g:Gh) (w:World) (vs:Array Value),HR (X.objs.map (·.1)) (B8.of g w X) g w X→args.length=vs.size →
  (∀(i:Nat) x v,args[i]? = some x→vs[i]? = some v→RA g w x v) →
  Calls P f vs w fun e w'=>∃g' v,e = .returned v∧RA g' w' res v∧HR (X.objs.map (·.1)) (B8.of g w X) g' w' X'
def X0:A5:=⟨[],[]⟩
def A2e:Nat→A2 AV→A2 (Nat×AV)
 |_,[]=>[]
 |n,x::r=>(n,x)::A2e (n+1) r
def Nn{l:A2 AV}:∀ {n t:Nat} {x:AV},(A2e n l).lookup t=some x→n≤t∧l[t-n]? = some x:=by
 induction l with
 |nil=>intro n t x h;simp[A2e]at h
 |cons y r ih =>
  intro n t x h;simp only[A2e,Bqa]at h;split at h
  ·rename_i he;simp at he h;subst he;subst h;simp
  ·have ⟨h1,h2⟩:=ih h;refine⟨by omega,?_⟩;rw[show t-n=(t-(n+1))+1 by omega];simpa using h2
inductive Bjo(P:Program)(nm:List Nat)(fn:Func)(res:AV)(X':A5):Exit→St→Prop
 |ret (st:St) (xs:List AV):RVs P st fn.results.toList xs→A0x xs=res→Auo nm st ⟨[],X'⟩→Bjo P nm fn res X' .ret st
 |normal (st:St) (xs:List AV):RVs P st fn.results.toList xs→A0x xs=res→Auo nm st ⟨[],X'⟩→Bjo P nm fn res X' .normal st
def Z5.all(x:AV)(F:A2 Nat)(h:F=[]):Z5 F x:=by subst h;exact .nil x
section
variable{P:Program}{o:Oper}{X:A5}
variable{r:A2 (Operand×AV)}
def Is{R:Operand×AV→Prop}{x:Operand×AV}(h:∀p∈x::r,R p):R x:=h _ Bp6
def Y4{R:Operand×AV→Prop}{x y:Operand×AV}(h:∀p∈x::y::r,R p):R y:=h _ (Bp5 _ Bp6)
def rd2{R:Operand×AV→Prop}{x y z:Operand×AV}(h:∀p∈x::y::z::r,R p):R z:=h _ (Bp5 _ (Bp5 _ Bp6))
def Bi.quiet{rd:A2 (Operand×AV)}
  (h:∀(nm:A2 Nat) (B:B8) (g:Gh) (w:World) (a:Act),HR nm B g w X→(∀p∈rd,RA g w p.2 (a.eval p.1)) →
   ∃v,(execOp a.eval o).run P w = .ok (.value v) w∧RA g w res v):Bi P o rd X X [] res:=by
 intro nm Ej B g w a hr Au next Q hn
 obtain⟨v,hv,Ua⟩:=h nm B g w a hr Au;unfold Oper.wp;rw[hv];exact hn g w v hr (.refl _ _ _) Ua
def RA.Ap{u:Value}(h:RA g w (.d (.sc u)) v):v=u:=by
 cases h with
 |d _ _ h=>cases h;rfl
def RA.H4(g:Gh)(w:World)(v:Value):RA g w (.d (.sc v)) v:=.d _ _ (.sc v)
variable{x y c lo hi:Operand}
def Bdc{v:AV}(ho:o.op = .move x):Bi P o [(x,v)] X X [] v :=
 .quiet fun _ _ _ w a _ Au=>⟨a.eval x,by simp[execOp,ho],Is Au⟩
def B5b{v:AV}(ho:o.op = .assign x):Bi P o [(x,v)] X X [] v :=
 .quiet fun _ _ _ w a _ Au=>⟨a.eval x,by simp[execOp,ho],Is Au⟩
def Apy{u:AV}(ho:o.op = .pick c x y):Bi P o [(c,.d (.sc (.bool true))),(x,u)] X X [] u :=
 .quiet fun _ _ g w a _ Au=>by
  have h1:=(Is Au).Ap;have h2:=Y4 Au;exact⟨a.eval x,by simp[execOp,ho,h1,asBool],h2⟩
def Ame{v:AV}(ho:o.op = .pick c x y):Bi P o [(c,.d (.sc (.bool false))),(y,v)] X X [] v :=
 .quiet fun _ _ g w a _ Au=>by
  have h1:=(Is Au).Ap;have h3:=Y4 Au;exact⟨a.eval y,by simp[execOp,ho,h1,asBool],h3⟩
def Ahn:BinOp→IntKind→Int→Int→A3 Value
 |.add,k,a,b=>some (.int k (k.wrap (a+b)))
 |.sub,k,a,b=>some (.int k (k.wrap (a-b)))
 |.mul,k,a,b=>some (.int k (k.wrap (a*b)))
 |.eql,_,a,b=>some (.bool (a==b))
 |.neq,_,a,b=>some (.bool (a != b))
 |.lss,_,a,b=>some (.bool (decide (a<b)))
 |.leq,_,a,b=>some (.bool (decide (a≤b)))
 |.gtr,_,a,b=>some (.bool (decide (b<a)))
 |.geq,_,a,b=>some (.bool (decide (b≤a)))
 |.and,k,a,b=>some (.int k (bits .and k a b))
 |.or,k,a,b=>some (.int k (bits .or k a b))
 |.xor,k,a,b=>some (.int k (bits .xor k a b))
 |_,_,_,_=>none
def Az0{op:BinOp}{k:IntKind}{a b:Int}(h:Ahn op k a b=some v)(t:TypeId)(x y:Operand)(w:World) :
  (do eqGuard op t x y (.int k a) (.int k b);binOp op t (.int k a) (.int k b):Sem Value).run P w = .ok v w:=by
 have hg:eqGuard op t x y (.int k a) (.int k b)=pure ():=by cases op<;>rfl
 rw[hg];cases op<;>simp[Ahn]at h<;>subst h<;>simp[binOp,Op.intArith,Op.intCmp,intBits_and,intBits_or,intBits_xor]
def B8l{op:BinOp}{k:IntKind}{a b:Int}(ho:o.op = .binOp op t x y t')(h:Ahn op k a b=some v) :
  Bi P o [(x,.d (.sc (.int k a))),(y,.d (.sc (.int k b)))] X X [] (.d (.sc v)) :=
 .quiet fun _ _ g w ac _ Au=>by
  have h1:=(Is Au).Ap;have h2:=(Y4 Au).Ap;simp only at h1 h2;refine⟨v,?_,.H4 _ _ _⟩;have:=Az0 (P:=P) h t x y w;simp only[execOp,ho,h1,h2];rw[Bq5,this];rfl
def Az1{a b:ByteArray}(ho:o.op = .binOp .add t x y t')(h:a.size+b.size≤4611686018427387904) :
  Bi P o [(x,.d (.sc (.string a))),(y,.d (.sc (.string b)))] X X [] (.d (.sc (.string (a++b)))) :=
 .quiet fun _ _ g w ac _ Au=>by
  have h1:=(Is Au).Ap;have h2:=(Y4 Au).Ap;simp only at h1 h2;refine⟨_,?_,.H4 _ _ _⟩;have hg:eqGuard .add t x y (.string a) (.string b)=pure ():=rfl;have hb:¬(((a.size+b.size:Nat):Int)>i64.max):=by rw[IntKind.max_i64];omega
  simp only[execOp,ho,h1,h2,hg];simp only[binOp,Op.stringOp];rw[Bpp hb];rfl
def Aup{a b:Bool}(ho:o.op = .binOp .eql t x y t')(ht:P.underlying t=some .bool) :
  Bi P o [(x,.d (.sc (.bool a))),(y,.d (.sc (.bool b)))] X X [] (.d (.sc (.bool (a==b)))) :=
 .quiet fun _ _ g w ac _ Au=>by
  have h1:=(Is Au).Ap;have h2:=(Y4 Au).Ap;simp only at h1 h2;refine⟨_,?_,.H4 _ _ _⟩;have hg:eqGuard .eql t x y (.bool a) (.bool b)=pure ():=rfl;simp only[execOp,ho,h1,h2,hg];simp[run_eql_bool w t a b ht]
def Auq{a b:Bool}(ho:o.op = .binOp .neq t x y t')(ht:P.underlying t=some .bool) :
  Bi P o [(x,.d (.sc (.bool a))),(y,.d (.sc (.bool b)))] X X [] (.d (.sc (.bool (!(a==b))))) :=
 .quiet fun _ _ g w ac _ Au=>by
  have h1:=(Is Au).Ap;have h2:=(Y4 Au).Ap;simp only at h1 h2;refine⟨_,?_,.H4 _ _ _⟩;have hg:eqGuard .neq t x y (.bool a) (.bool b)=pure ():=rfl;simp only[execOp,ho,h1,h2,hg];simp[run_neq_bool w t a b ht]
def Bh2{b:Bool}(ho:o.op = .unOp .not t x):Bi P o [(x,.d (.sc (.bool b)))] X X [] (.d (.sc (.bool (!b)))) :=
 .quiet fun _ _ g w ac _ Au=>by
  have h1:=(Is Au).Ap;simp only at h1;exact⟨.bool (!b),by simp[execOp,ho,h1,Op.unary],.H4 _ _ _⟩
def Afa{j k:IntKind}{n:Int}(ho:o.op = .convert s d x)(hs:(P.underlying s).isSome=true)(hd:P.underlying d=some (.int k)) :
  Bi P o [(x,.d (.sc (.int j n)))] X X [] (.d (.sc (.int k (k.wrap n)))) :=
 .quiet fun _ _ g w ac _ Au=>by
  have h1:=(Is Au).Ap;simp only at h1;refine⟨_,?_,.H4 _ _ _⟩;obtain⟨ds,hds⟩:=Bps.1 hs;simp only[execOp,ho,h1,convert];simp only[Bq5,Bpb hds,Bpb hd,Bpr];cases ds<;>simp[Conv.intToInt]
def Aa6(ho:o.op = .call { callee:=.builtin .len,args:=#[x],argTypes:=ts })
  (h0:ts[0]? = some t) (ht:P.underlying t=some (.slice e)):Bi P o [(x,.d (.sl sz es))] X X [] (.d (.sc (.int .i64 es.length))) :=
 .quiet fun _ _ g w ac _ Au=>by
  have h1:=Is Au;simp only at h1;refine⟨.int .i64 es.length,?_,.H4 _ _ _⟩;simp only[execOp,ho,resolve];generalize hu:ac.eval x=u at h1;cases h1 with
  |d _ _ h1 =>
   cases h1 with
   |nil=>simp[hu,invoke,builtin,Builtin.len_,h0,Bpb ht,goInt]
   |sl _ _ b off len cap hl=>subst hl;simp[hu,invoke,builtin,Builtin.len_,h0,Bpb ht,goInt]
def Az2{s:ByteArray}(ho:o.op = .call { callee:=.builtin .len,args:=#[x],argTypes:=ts })
  (h0:ts[0]? = some t) (ht:P.underlying t=some .string):Bi P o [(x,.d (.sc (.string s)))] X X [] (.d (.sc (.int .i64 s.size))) :=
 .quiet fun _ _ g w ac _ Au=>by
  have h1:=(Is Au).Ap;simp only at h1;refine⟨.int .i64 s.size,?_,.H4 _ _ _⟩;simp only[execOp,ho,resolve];simp[h1,invoke,builtin,Builtin.len_,h0,Bpb ht,goInt]
def Bh3{k:IntKind}{a b:Int}(ho:o.op = .call { callee:=.builtin .max,args:=#[x,y],argTypes:=ts }) :
  Bi P o [(x,.d (.sc (.int k a))),(y,.d (.sc (.int k b)))] X X [] (.d (.sc (.int k (if b>a then b else a)))) :=
 .quiet fun _ _ g w ac _ Au=>by
  have h1:=(Is Au).Ap;have h2:=(Y4 Au).Ap;simp only at h1 h2;refine⟨_,?_,.H4 _ _ _⟩;simp only[execOp,ho,resolve];have:=run_max_int2 (P:=P) w ts o.type k k a b;simp[h1,h2,invoke,builtin,this]
def Az3{i:Nat}{l:A2 AV}{v:AV}(ho:o.op = .extract x i)(h:l[i]? = some v):Bi P o [(x,.F2 l)] X X [] v :=
 .quiet fun _ _ g w ac _ Au=>by
  have h1:=Is Au;simp only at h1;simp only[execOp,ho];generalize ac.eval x=u at h1;cases h1 with
  |F2 _ vs hl hx =>
   have Bg:i<vs.size:=by have:=(Bp2.1 h).1;omega
   refine⟨vs[i],?_,hx i v _ h (by simp[Bg])⟩;simp[Instr.extract,Bg]
def Apz{s:ByteArray}{k:IntKind}{i:Int}(ho:o.op = .index t x y)(ht:P.underlying t=some .string)(h0:0≤i)(h1:i<s.size) :
  Bi P o [(x,.d (.sc (.string s))),(y,.d (.sc (.int k i)))] X X [] (.d (.sc (.int .u8 ((s.data.toList.getD i.toNat 0).toNat:Int)))) :=
 .quiet fun _ _ g w ac _ Au=>by
  have e1:=(Is Au).Ap;have e2:=(Y4 Au).Ap;simp only at e1 e2;refine⟨_,?_,.H4 _ _ _⟩;have Bg:i.toNat<s.size:=by omega
  have hb:=ByteArray.getElem?_lt' s i.toNat Bg;have he:s[i.toNat]=s.data.toList.getD i.toNat 0:=by have Bm8:i.toNat<s.data.size:=Bg;rw[Bsi,Br7,Bpq Bm8];rfl
  simp only[execOp,ho,e1,e2,Instr.index];simp[asIntOf,Bpb ht,h0,hb,he]
variable{l h:Int}
def Aq0{s:ByteArray}{k k':IntKind}(ho:o.op = .slice t x (some lo) (some hi) none)(ht:P.underlying t=some .string)
  (h0:0≤l) (h1:l≤h) (h2:h≤s.size) :
  Bi P o [(x,.d (.sc (.string s))),(lo,.d (.sc (.int k l))),(hi,.d (.sc (.int k' h)))] X X [] (.d (.sc (.string (s.extract l.toNat h.toNat)))) :=
 .quiet fun _ _ g w ac _ Au=>by
  have e1:=(Is Au).Ap;have e2:=(Y4 Au).Ap;have e3:=(rd2 Au).Ap;simp only at e1 e2 e3;refine⟨_,?_,.H4 _ _ _⟩;have g1:0≤h:=by omega
  simp only[execOp,ho,Bq8,Bt6,e1,e2,e3];simp[Buc w t _ _ _ _ ht,Instr.slice,Bpb ht,Instr.sliceBounds,Instr.sliceBound,asIntOf,h0,h2,g1];intro Bo8;omega
def Ago{s:ByteArray}{k:IntKind}(ho:o.op = .slice t x (some lo) none none)(ht:P.underlying t=some .string)
  (h0:0≤l) (h1:l≤s.size) :
  Bi P o [(x,.d (.sc (.string s))),(lo,.d (.sc (.int k l)))] X X [] (.d (.sc (.string (s.extract l.toNat s.size)))) :=
 .quiet fun _ _ g w ac _ Au=>by
  have e1:=(Is Au).Ap;have e2:=(Y4 Au).Ap;simp only at e1 e2;refine⟨_,?_,.H4 _ _ _⟩;simp only[execOp,ho,Bq8,Bt6,e1,e2];simp[Buc w t _ _ _ _ ht,Instr.slice,Bpb ht,Instr.sliceBounds,Instr.sliceBound,asIntOf,h0,h1]
def Agp{s:ByteArray}{k:IntKind}(ho:o.op = .slice t x none (some hi) none)(ht:P.underlying t=some .string)
  (h0:0≤h) (h1:h≤s.size) :
  Bi P o [(x,.d (.sc (.string s))),(hi,.d (.sc (.int k h)))] X X [] (.d (.sc (.string (s.extract 0 h.toNat)))) :=
 .quiet fun _ _ g w ac _ Au=>by
  have e1:=(Is Au).Ap;have e2:=(Y4 Au).Ap;simp only at e1 e2;refine⟨_,?_,.H4 _ _ _⟩;simp only[execOp,ho,Bq8,Bt6,e1,e2];simp[Buc w t _ _ _ _ ht,Instr.slice,Bpb ht,Instr.sliceBounds,Instr.sliceBound,asIntOf,h0,h1]
def Aq1{cs:A2 D}{k:IntKind}{i:Int}{info:TypeInfo}(ho:o.op = .indexAddr t x y)
  (ht:P.underlying t=some (.slice e)) (hi:P.info? e=some info) (Hc:info.size=sz) (h0:0≤i) (h1:es[i.toNat]? = some cs) :
  Bi P o [(x,.d (.sl sz es)),(y,.d (.sc (.int k i)))] X X [] (.d (.ep cs)) :=
 .quiet fun _ _ g w ac _ Au=>by
  have e1:=Is Au;have e2:=(Y4 Au).Ap;simp only at e1 e2;simp only[execOp,ho,e2];generalize ac.eval x=u at e1;cases e1 with
  |d _ _ e1 =>
   have Bg:=(Bp2.1 h1).1;cases e1 with
   |nil=>simp at Bg
   |sl _ _ b off len cap hl hγ U9 hs hc =>
    subst hl;have hil:i<es.length:=by omega
    refine⟨.pointer (some ⟨b,off+i.toNat*sz,none⟩),?_,.d _ _ (.ep cs b _ ?_ ?_)⟩
    ·simp[Instr.indexAt,asIntOf,Bpb ht,h0,hil,sizeOf,typeInfo,hi,Hc,addr_add]
    ·rw[hs _ _ h1];have:(i.toNat+1)*sz≤es.length*sz:=Bqw sz Bg;rw[Brj]at this;omega
    ·intro j c v hj hv;exact hc i.toNat cs j c v h1 hj (by rw[Bs6]at hv⊢;exact hv)
def Afb{cs:A2 D}(ho:o.op = .load t x)(ht:TyI P t true sz)(hl:sz≤cs.length)(B2r:True) :
  Bi P o [(x,.d (.ep cs))] X X [] (.d (.agg (cs.take sz))) :=
 .quiet fun _ _ g w ac hr Au=>by
  have e1:=Is Au;simp only at e1;simp only[execOp,ho];generalize ac.eval x=u at e1;cases e1 with
  |d _ _ e1 =>
   cases e1 with
   |ep _ b off hγ hc =>
    have hex:∀i,i<sz→∃v,w.cell? ⟨b,off+i,none⟩=some v:=fun i hi=>Bps.1 (hr.Ip b (off+i) (by omega))
    let vs:Array Value:=(Array.range sz).map fun i=>(w.cell? ⟨b,off+i,none⟩).getD undef
    have Pk:∀(i:Nat) v,vs[i]? = some v→w.cell? ⟨b,off+i,none⟩=some v:=by
     intro i v hv;have hi:i<sz:=by have:=(Bpo.1 hv).1;simpa[vs]using this
     obtain⟨u,hu⟩:=hex i hi;simp[vs,hi,hu]at hv;rw[hu,hv]
    have Cg:=M8 ht w b off vs (by simp[vs]) Pk (by simp);refine⟨.agg vs,?_,.d _ _ (.agg _ vs (by simp[vs];omega) ?_)⟩
    ·simp only[Instr.loadAt,Instr.sureAddr];simp[Cg]
    ·intro i c v hi hv;rw[Bqj]at hi;split at hi
     ·exact hc i c v hi (Pk i v hv)
     ·cases hi
def Afc{c:D}{cs:A2 D}(ho:o.op = .load t x)(ht:TyI P t false 1) :
  Bi P o [(x,.d (.ep (c::cs)))] X X [] (.d c) :=
 .quiet fun _ _ g w ac hr Au=>by
  have e1:=Is Au;simp only at e1;simp only[execOp,ho];generalize ac.eval x=u at e1;cases e1 with
  |d _ _ e1 =>
   cases e1 with
   |ep _ b off hγ hc =>
    simp at hγ;obtain⟨v,hv⟩:=Bps.1 (hr.Ip b off (by omega));have Cg:=M8 ht w b off #[v] rfl (by
     intro i u hu;cases i with
     |zero=>simp at hu;subst hu;exact hv
     |succ i=>simp at hu) (fun _=>rfl)
    refine⟨v,?_,.d _ _ (hc 0 c v rfl hv)⟩;simp only[Instr.loadAt,Instr.sureAddr];simp[Cg]
def Yg{v:AV}(ho:o.op = .load t x)(hl:Ans P X t k off v):Bi P o [(x,.ptr k off)] X X [] v :=
 .quiet fun _ _ g w ac hr Au=>by
  have e1:=Is Au;simp only at e1;obtain⟨u,hu,Ua⟩:=hl.run hr;refine⟨u,?_,Ua⟩;simp only[execOp,ho];rw[e1.Ko];simp only[Instr.loadAt,Instr.sureAddr];simp[hu]
def A31{f:Field}(hi:P.info? f.type=some i)(h0:i.size≠0)(b off:Nat)(w:World) :
  (fieldPlace ⟨b,off,none⟩ f).run P w = .ok ⟨b,off+f.offset,none⟩ w:=by
 simp[fieldPlace,run_sizeOf hi,h0,addr_add]
structure Aho(P:Program)(s:TypeId)(n off sz:Nat)(agg:Bool):Prop where
 fld:∃fs f,P.underlying s=some (.struct fs)∧fs[n]? = some f∧f.offset=off∧TyI P f.type agg sz
 pos:sz≠0
def Zs(ho:o.op = .fieldAddr s x n)(hf:Aho P s n fo sz agg) :
  Bi P o [(x,.ptr k off)] X X [] (.ptr k (off+fo)) :=
 .quiet fun _ _ g w ac hr Au=>by
  have e1:=Is Au;simp only at e1;obtain⟨fs,f,hs,hn,rfl,ht⟩:=hf.fld;obtain⟨i,hi,Hc⟩:=ht.info;refine⟨.pointer (some ⟨g.ρ k,off+f.offset,none⟩),?_,.ptr k _⟩;simp only[execOp,ho];rw[e1.Ko];simp[Instr.fieldAt,Bpb hs,hn,Instr.sureAddr,A31 hi (by rw[Hc];exact hf.pos)]
def Agq{cs:A2 D}(ho:o.op = .fieldAddr s x n)(hf:Aho P s n fo sz agg)(hl:fo≤cs.length) :
  Bi P o [(x,.d (.ep cs))] X X [] (.d (.ep (cs.drop fo))) :=
 .quiet fun _ _ g w ac hr Au=>by
  have e1:=Is Au;simp only at e1;obtain⟨fs,f,hs,hn,rfl,ht⟩:=hf.fld;obtain⟨i,hi,Hc⟩:=ht.info;simp only[execOp,ho];generalize ac.eval x=z at e1;cases e1 with
  |d _ _ e1 =>
   cases e1 with
   |ep _ b off hγ hc =>
    refine⟨.pointer (some ⟨b,off+f.offset,none⟩),?_,.d _ _ (.ep _ b _ ?_ ?_)⟩
    ·simp[Instr.fieldAt,Bpb hs,hn,Instr.sureAddr,A31 hi (by rw[Hc];exact hf.pos)]
    ·simp;omega
    ·intro j c v hj hv;rw[Bqn]at hj;exact hc _ c v hj (by rw[← Bs6];exact hv)
def Aq2{cs:A2 D}{c:D}(ho:o.op = .field s x n)(hf:Aho P s n fo 1 false)(hc:cs[fo]? = some c) :
  Bi P o [(x,.d (.agg cs))] X X [] (.d c) :=
 .quiet fun _ _ g w ac hr Au=>by
  have e1:=Is Au;simp only at e1;obtain⟨fs,f,hs,hn,rfl,ht⟩:=hf.fld;simp only[execOp,ho];generalize ac.eval x=z at e1;cases e1 with
  |d _ _ e1 =>
   cases e1 with
   |agg _ vs hl h =>
    have Bg:f.offset<vs.size:=by have:=(Bp2.1 hc).1;omega
    refine⟨vs[f.offset],?_,.d _ _ (h _ c _ hc (by simp[Bg]))⟩;simp[Instr.field,Bpb hs,hn,part,A5f ht,asAgg,Bg]
def Aq3{cs:A2 D}(ho:o.op = .field s x n)(hf:Aho P s n fo sz true)(hl:fo+sz≤cs.length) :
  Bi P o [(x,.d (.agg cs))] X X [] (.d (.agg ((cs.drop fo).take sz))) :=
 .quiet fun _ _ g w ac hr Au=>by
  have e1:=Is Au;simp only at e1;obtain⟨fs,f,hs,hn,rfl,ht⟩:=hf.fld;simp only[execOp,ho];generalize ac.eval x=z at e1;cases e1 with
  |d _ _ e1 =>
   cases e1 with
   |agg _ vs hlen h =>
    refine⟨.agg (vs.extract f.offset (f.offset+sz)),?_,.d _ _ (.agg _ _ (by simp;omega) ?_)⟩
    ·simp[Instr.field,Bpb hs,hn,part,A5f ht,asAgg,ht.Zr]
    ·intro i c v hi hv;rw[Bt4]at hv;split at hv
     ·rw[Bqj]at hi;split at hi
      ·rw[Bqn]at hi;exact h _ c v hi hv
      ·cases hi
     ·cases hv
def Agr(ho:o.op = .nilCheck x):Bi P o [(x,.ptr k off)] X X [] (.ptr k off) :=
 .quiet fun _ _ g w ac hr Au=>by
  have e1:=Is Au;simp only at e1;simp only[execOp,ho];rw[e1.Ko];exact⟨_,rfl,.ptr k off⟩
end
def O6{α:Type}(f:Nat→α)(k:Nat)(x:α):Nat→α:=fun j=>if j=k then x else f j
def Ac{α:Type}(f:Nat→α)(k:Nat)(x:α):O6 f k x k=x:=by simp[O6]
def Ae{α:Type}(f:Nat→α)(x:α)(h:j≠k):O6 f k x j=f j:=by simp[O6,h]
def Ow(w:World)(o:Obj)(h:b<w.heap.size):(w.alloc o).heap[b]? = w.heap[b]?:=heap_alloc_old w o (h:=h)
def γ_lt{nm:A2 Nat}(h:HR nm B g w X)(hb:0<g.γ b):b<w.heap.size:=by obtain⟨v,hv⟩:=Bps.1 (h.Ip b 0 hb);exact block_lt_of_cell hv
def γ_top{nm:A2 Nat}(h:HR nm B g w X)(hb:w.heap.size≤b):g.γ b=0:=by
 rcases Br8 (g.γ b)with h0|h0
 ·exact h0
 ·have:=γ_lt h h0;omega
variable{x y c lo hi:Operand}{r:A2 (Operand×AV)}{fn:FuncId}{k':IntKind}{h:Int}{o:Ob}{g' gc:Gh}{Bon:Array (Nat×Operand)}{args:Array Operand}{ops:Array Oper}{oj:Oper}
def Et(h:Bv g w b o):b<w.heap.size:=by
 cases h with
 |cells cs ty arr T hb=>exact(Bpo.1 hb).1
 |map l clock es hb=>exact(Bpo.1 hb).1
 |Vt s pos hb=>exact(Bpo.1 hb).1
 |Jo j since seen last hb=>exact(Bpo.1 hb).1
 |Dl hb=>exact(Bpo.1 hb).1
 |Cf L sz l clock es hb=>exact(Bpo.1 hb).1
def F4(F:A2 Nat):Ob→Bool
 |.cells cs _=>Bq F cs
 |.map _ _=>true
 |.Vt _ _=>true
 |.Jo k _ _ _=>!F.contains k
 |.Dl=>true
 |.Cf L _ _ _=>!F.contains L
def B1(F:A2 Nat)(X:A5):Bool:=F.isEmpty||X.objs.all fun p=>F4 F p.2
theorem Bv.D4(h:Bv g w b o)(ht:Trans F g w g' w')(hw:w'.heap[b]? = w.heap[b]?)(hF:F=[]∨F4 F o=true):Bv g' w' b o:=by
 cases h with
 |cells cs ty arr T hb hl hc h4 =>
  refine .cells cs ty arr T (hw.trans hb) hl (fun i x v hx hv=>(hc i x v hx hv).mono ht ?_) h4;rcases hF with rfl|hF
  ·exact .nil x
  ·exact Pj (Mo hF hx)
 |map l clock es hb hl hc h4 h5 =>exact .map l clock es (hw.trans hb) hl (fun i x e hx he=>⟨(hc i x e hx he).1,(hc i x e hx he).2.1,(hc i x e hx he).2.2.mono ht.le⟩) h4 h5
 |Vt s pos hb=>exact .Vt s pos (hw.trans hb)
 |Jo j since seen last hb =>
  refine .Jo j since seen last (hw.trans (hb.trans ?_));rw[ht.names j];rcases hF with rfl|hF
  ·simp
  ·simpa[F4]using hF
 |Dl hb=>exact .Dl (hw.trans hb)
 |Cf L sz l clock es hb hl hc h4 h5 =>
  refine .Cf L sz l clock es (hw.trans hb) hl (fun i x e hx he=>⟨(hc i x e hx he).1,(hc i x e hx he).2.1,(hc i x e hx he).2.2.1.mono ht.le,fun hf hL=>?_⟩) h4 h5;have hn:L∉F:=by
   rcases hF with rfl|hF
   ·simp
   ·simpa[F4]using hF
  obtain⟨ob,Ga⟩:=Bps.1 hL;exact((hc i x e hx he).2.2.2 hf (by rw[(ht.Apx L ob hn Ga).1];rfl)).D4 ht hn hL
def Hj(h:B1 F X=true)(hk:X.objs.lookup k=some o):F=[]∨F4 F o=true:=by
 unfold B1 at h;rw[Br3]at h;rcases h with h|h
 ·exact .inl (by simpa using h)
 ·exact .inr (Bqb.1 h _ (Da hk))
def HR.grow{nm:A2 Nat}(h:HR nm B g w X)(hs:w.heap.size≤w'.heap.size)(hold:∀b,b<w.heap.size→w'.heap[b]? = w.heap[b]?)(hio:w'.os=w.os∧w'.output=w.output∧w'.tape=w.tape∧w.drawn≤w'.drawn) :
  HR nm B g w' X∧Trans [] g w g w':=by
 have K2:∀b i,i<g.γ b→w'.cell? ⟨b,i,none⟩=w.cell? ⟨b,i,none⟩:=fun b i hi=>Ov (hold b (γ_lt h (by omega))) i none
 have Pq:∀b s,w.shape? b=some s→w'.shape? b=some s:=by
  intro b s Gu;have hb:b<w.heap.size:=by
   rcases Brq b w.heap.size with h1|h1
   ·exact h1
   ·simp[World.shape?,Bs8 h1]at Gu
  rw[Mp (hold b hb)];exact Gu
 have ht:Trans [] g w g w':=⟨⟨fun _=>Bpa _,K2,Pq⟩,fun _ _=>rfl,fun n ob _ he=>⟨he,fun b hb=>⟨rfl,hold b (h.C7 n b (hb▸he))⟩⟩,fun L _ hL=>⟨rfl,fun i b hb=>⟨rfl,hold b (h.eta.lt L i b hL hb)⟩⟩⟩;refine⟨⟨h.D4,?_,Bqf h.base hs,⟨hio.1.trans h.io.1,hio.2.1.trans h.io.2.1,hio.2.2.1.trans h.io.2.2.1,Bqf h.io.2.2.2 hio.2.2.2⟩,h.le.trans ht.le,?_,?_,h.Fq,h.Br,h.Ca,h.live,h.Bw,h.Ba,h.C3,?_,h.eta.same hs fun k o hk=>⟨o,hk⟩⟩,ht⟩
 ·intro b i hi;rw[K2 b i hi];exact h.Ip b i hi
 ·intro b hb hna;have:=h.frame b hb hna;exact⟨(hold b (Bqv hb h.base)).trans this.1,this.2⟩
 ·intro k o hk;have:=h.objs k o hk;exact this.D4 ht (hold _ (Et this)) (.inl rfl)
 ·intro n b hn;exact Bqv (h.C7 n b hn) hs
theorem HR.drew{nm:A2 Nat}(h:HR nm B g w X):HR nm B g w.drew X∧Trans [] g w g w.drew :=
 h.grow (Bpa _) (fun _ _=>rfl) ⟨rfl,rfl,rfl,Nat.le_succ _⟩
def HR.newObj{nm:A2 Nat}(h:HR nm B g w X)(hk:X.objs.lookup k=none)(hX:B1 [k] X=true)
  (ob:Obj) (o:Ob) (ho:∀g' w',Trans [k] g w g' w'→w'.heap[w.heap.size]? = some ob→Bv g' w' w.heap.size o) :
  HR nm B { g with ρ:=O6 g.ρ k w.heap.size } (w.alloc ob) ⟨(k,o)::X.objs,X.live⟩∧Trans [k] g w { g with ρ:=O6 g.ρ k w.heap.size } (w.alloc ob):=by
 have h1:=h.grow (w':=w.alloc ob) (by simp) (fun b hb=>Ow w ob hb) ⟨rfl,rfl,rfl,Bpa _⟩;have K2:=h1.2.le;have ht:Trans [k] g w { g with ρ:=O6 g.ρ k w.heap.size } (w.alloc ob) :=
  ⟨K2,fun j hj=>Ae _ _ (by simpa using hj),fun n ob' _ he=>⟨he,fun b hb=>⟨rfl,Ow w ob (h.C7 n b (hb▸he))⟩⟩,fun L _ hL=>⟨rfl,fun i b hb=>⟨rfl,Ow w ob (h.eta.lt L i b hL hb)⟩⟩⟩
 have Mk:∀j o',List.lookup j ((k,o)::X.objs)=some o'→(j=k∧o'=o)∨(j≠k∧X.objs.lookup j=some o'):=by
  intro j o' hj;rw[Bqa]at hj;by_cases he:j=k
  ·subst he;simp at hj;exact .inl ⟨rfl,hj.symm⟩
  ·have:(j==k)=false:=by simpa using he
   rw[this]at hj;exact .inr ⟨he,hj⟩
 have Bg:∀j o',X.objs.lookup j=some o'→g.ρ j<w.heap.size:=fun j o' hj=>Et (h.objs j o' hj)
 refine⟨⟨?_,h1.1.Ip,h1.1.base,h1.1.io,h1.1.le,h1.1.frame,?_,?_,?_,?_,h.live,h.Bw,?_,h.C3,h1.1.C7,h.eta.step (fun L hL=>.inl ⟨hL,rfl⟩) (by simp) (fun n b hb=>.inl ⟨n,hb⟩) fun j o' hj=>?_⟩,ht⟩
 rotate_right
 ·rcases Mk j o' hj with ⟨rfl,rfl⟩|⟨hne,hj⟩
  ·simp only[Ac];exact .inr (.inl (Bpa _))
  ·simp only[Ae _ _ hne];exact .inl ⟨j,o',hj,rfl⟩
 ·intro j hj;obtain⟨h2,h3⟩:=h.D4 j hj;have hne:j≠k:=by rintro rfl;rw[hk]at h3;simp at h3
  refine⟨by simp only[Ae _ _ hne];exact h2,?_⟩;simp only[Bqa];have:(j==k)=false:=by simpa using hne
  rw[this];exact h3
 ·intro j o' hj;rcases Mk j o' hj with ⟨rfl,rfl⟩|⟨hne,hj⟩
  ·simp only[Ac];exact ho _ _ ht (Bs1 w ob)
  ·simp only[Ae _ _ hne];exact(h.objs j o' hj).D4 ht (Ow w ob (Bg j o' hj)) (Hj hX hj)
 ·intro j o' hj;rcases Mk j o' hj with ⟨rfl,rfl⟩|⟨hne,hj⟩
  ·simp only[Ac];exact γ_top h (Bpa _)
  ·simp only[Ae _ _ hne];exact h.Fq j o' hj
 ·intro j j' o1 o2 hj Gb he;have c1:=Mk j o1 hj;have c2:=Mk j' o2 Gb;clear hj Gb;rcases c1 with ⟨e1,_⟩|⟨hne,hj⟩<;>rcases c2 with ⟨e2,_⟩|⟨Ub,Gb⟩
  ·rw[e1,e2]
  ·rw[e1]at he;simp only[Ac,Ae _ _ Ub]at he;have:=Bg j' o2 Gb;omega
  ·rw[e2]at he;simp only[Ac,Ae _ _ hne]at he;have:=Bg j o1 hj;omega
  ·simp only[Ae _ _ hne,Ae _ _ Ub]at he;exact h.Br j j' o1 o2 hj Gb he
 ·intro j o' hj;rcases Mk j o' hj with ⟨rfl,rfl⟩|⟨hne,hj⟩
  ·simp only[Ac];exact .inl h.base
  ·simp only[Ae _ _ hne];exact h.Ca j o' hj
 ·intro n b j o' hn hj;rcases Mk j o' hj with ⟨rfl,rfl⟩|⟨hne,hj⟩
  ·simp only[Ac];have:=h.C7 n b hn;omega
  ·simp only[Ae _ _ hne];exact h.Ba n b j o' hn hj
def HR.newRow{nm:A2 Nat}(h:HR nm B g w X)(arr:Array Value)(T:TypeId)(n:Nat)(hn:n≤arr.size) :
  HR nm B { g with γ:=O6 g.γ w.heap.size n } (w.alloc (.cells arr T)) X∧Trans [] g w { g with γ:=O6 g.γ w.heap.size n } (w.alloc (.cells arr T)):=by
 have h1:=h.grow (w':=w.alloc (.cells arr T)) (by simp) (fun b hb=>Ow w _ hb) ⟨rfl,rfl,rfl,Bpa _⟩;have hup:∀b,g.γ b≤O6 g.γ w.heap.size n b:=by
  intro b;by_cases hb:b=w.heap.size
  ·subst hb;rw[Ac,γ_top h (Bpa _)];omega
  ·rw[Ae _ _ hb];exact Bpa _
 have hne:∀b,b<w.heap.size→O6 g.γ w.heap.size n b=g.γ b:=fun b hb=>Ae _ _ (by omega)
 have ht:Trans [] g w { g with γ:=O6 g.γ w.heap.size n } (w.alloc (.cells arr T)) :=
  ⟨⟨hup,h1.2.le.cell,h1.2.le.shape⟩,fun _ _=>rfl,fun m ob _ he=>⟨he,fun b hb=>⟨hne b (h.C7 m b (hb▸he)),Ow w _ (h.C7 m b (hb▸he))⟩⟩,fun L _ hL=>⟨rfl,fun i b hb=>⟨hne b (h.eta.lt L i b hL hb),Ow w _ (h.eta.lt L i b hL hb)⟩⟩⟩
 refine⟨⟨h.D4,?_,h1.1.base,h1.1.io,⟨fun b=>Bqf (h1.1.le.up b) (hup b),h1.1.le.cell,h1.1.le.shape⟩,?_,?_,?_,h.Br,h.Ca,h.live,h.Bw,h.Ba,h.C3,h1.1.C7,h.eta.step (fun L hL=>.inl ⟨hL,rfl⟩) (by simp) (fun n b hb=>.inl ⟨n,hb⟩) fun k o hk=>.inl ⟨k,o,hk,rfl⟩⟩,ht⟩
 ·intro b i hi;by_cases hb:b=w.heap.size
  ·subst hb;simp only[Ac]at hi;rw[B6 (Bs1 w (.cells arr T))];simp;omega
  ·simp only[Ae _ _ hb]at hi;exact h1.1.Ip b i hi
 ·intro b hb hna;have:=h1.1.frame b hb hna;exact⟨this.1,by rw[← this.2];exact hne b (Bqv hb h.base)⟩
 ·intro k o hk;have:=h.objs k o hk;exact this.D4 ht (Ow w _ (Et this)) (.inl rfl)
 ·intro k o hk;simp only[hne _ (Et (h.objs k o hk))];exact h.Fq k o hk
def A6q:AV→Bool
 |.d (.sc (.agg _))=>false
 |_=>true
def Lc(h:∀cs,v≠.agg cs):v.cells=#[v]:=by cases v<;>first|rfl|exact absurd rfl (h _)
section
variable{P:Program}{o:Oper}{X:A5}
def B8m(k:Nat)(ho:o.op = .alloc t)(hi:P.info? t=some i)(hz:i.zero=some z)
  (Rq:∀g w,RA g w (.agg cs) (.agg z.cells)) (hk:X.objs.lookup k=none) (hX:B1 [k] X=true) :
  Bi P o [] X ⟨(k,.cells cs (some t))::X.objs,X.live⟩ [k] (.ptr k 0):=by
 intro nm Ej B g w a hr _ next Q hn
 obtain⟨h1,h2⟩:=hr.newObj hk hX (.cells z.cells t) (.cells cs (some t)) (by
  intro g' w' _ hw;have:=Rq g' w';cases this with
  |agg _ _ hl hc=>exact .cells cs _ z.cells t hw (Bwk hl) hc (fun _ e=>(Brf e).symm))
 unfold Oper.wp;have:(execOp a.eval o).run P w = .ok (.value (.pointer (some ⟨w.heap.size,0,none⟩))) (w.alloc (.cells z.cells t)):=by simp only[execOp,ho];simp[Instr.alloc,zeroValue,typeInfo,hi,hz,newVar,Go.newRow]
 rw[this];refine hn _ _ _ h1 h2 ?_;have:=RA.ptr (g:={ g with ρ:=O6 g.ρ k w.heap.size }) (w:=w.alloc (.cells z.cells t)) k 0;simpa[Ac]using this
def Bh4{v:AV}(k:Nat)(ho:o.op = .box t x)(hk:X.objs.lookup k=none)(hX:B1 [k] X=true)(hv:Bq [k] v.cells=true)(hs:A6q v=true) :
  Bi P o [(x,v)] X ⟨(k,.cells v.cells (some t))::X.objs,X.live⟩ [k] (.ptr k 0):=by
 intro nm Ej B g w a hr Au next Q hn
 have e1:=Is Au;simp only at e1;obtain⟨h1,h2⟩:=hr.newObj hk hX (.cells (a.eval x).cells t) (.cells v.cells (some t)) (by
  intro g' w' ht hw;generalize a.eval x=u at e1 hw;have B8n:∀(cs:A2 AV) (vs:Array Value),v.cells=cs→u.cells=vs→cs.length=vs.size→(∀(i:Nat) x v,cs[i]? = some x→vs[i]? = some v→RA g w x v) →
    Bv g' w' w.heap.size (.cells v.cells (some t)):=by
   intro cs vs h1 h2 hl hc;rw[h1]at hv⊢;rw[h2]at hw;exact .cells cs _ vs t hw (Bwk hl) (fun i x y hx hy=>(hc i x y hx hy).mono ht (Pj (Mo hv hx))) (fun _ e=>(Brf e).symm)
  have Iw:v.cells=[v]→u.cells=#[u]→Bv g' w' w.heap.size (.cells v.cells (some t)):=by
   intro h1 h2;refine B8n _ _ h1 h2 rfl ?_;intro i x y hx hy;cases i with
   |zero=>simp at hx hy;subst hx;subst hy;exact e1
   |succ i=>simp at hx
  cases e1 with
  |d y u h =>
   cases h with
   |agg cs vs hl hc =>refine B8n (cs.map .d) vs rfl rfl (by simpa using hl) ?_;intro i x y hx hy;rw[Bp1,Bp8]at hx;obtain⟨c,hc',rfl⟩:=hx;exact .d _ _ (hc i c y hc' hy)
   |sc u =>exact Iw rfl (Lc fun cs he=>by subst he;simp[A6q]at hs)
   |nil sz=>exact Iw rfl rfl
   |sl sz es b off len cap=>exact Iw rfl rfl
   |ep cs b off=>exact Iw rfl rfl
   |any q u h1 h2=>exact Iw rfl (Lc fun cs he=>by subst he;cases h2)
  |nm k p u h=>exact Iw rfl (by cases p<;>(first|obtain⟨cap,_,_,rfl,_⟩:=h|cases h)<;>first|rfl|(rename_i b _;cases b<;>rfl))
  |Be n sz es ty u h h' =>
   cases h with
   |nil=>exact Iw rfl rfl
   |sl=>exact Iw rfl rfl
  |Vs n e cs u h h'=>cases h with|ep=>exact Iw rfl rfl
  |F2 l vs hl hc=>exact Iw rfl rfl
  |agg l vs hl hc=>exact B8n l vs rfl rfl hl hc
  |F1 f l vs hl hc=>exact Iw rfl rfl)
 unfold Oper.wp;have:(execOp a.eval o).run P w = .ok (.value (.pointer (some ⟨w.heap.size,0,none⟩))) (w.alloc (.cells (a.eval x).cells t)):=by simp only[execOp,ho];simp[Instr.box,newVar,Go.newRow]
 rw[this];refine hn _ _ _ h1 h2 ?_;have:=RA.ptr (g:={ g with ρ:=O6 g.ρ k w.heap.size }) (w:=w.alloc (.cells (a.eval x).cells t)) k 0;simpa[Ac]using this
end
def setObj(k:Nat)(o:Ob):A2 (Nat×Ob)→A2 (Nat×Ob)
 |[]=>[(k,o)]
 |(j,p)::r=>if j=k then (k,o)::r else (j,p)::setObj k o r
def Ax(k:Nat)(o:Ob)(l:A2 (Nat×Ob))(j:Nat):(setObj k o l).lookup j=if j=k then some o else l.lookup j:=by
 induction l with
 |nil =>
  simp only[setObj,Bqa,List.lookup_nil];by_cases h:j=k
  ·simp[h]
  ·have:(j==k)=false:=by simpa using h
   simp[h,this]
 |cons p r ih =>
  obtain⟨i,p⟩:=p;simp only[setObj];by_cases hik:i=k
  ·subst hik;simp only[Brg,Bqa];by_cases h:j=i
   ·simp[h]
   ·have:(j==i)=false:=by simpa using h
    simp[h,this]
  ·simp only[hik,Bre,Bqa];by_cases h:j=i
   ·subst h;simp[hik]
   ·have:(j==i)=false:=by simpa using h
    simp only[this];exact ih
def HR.write{nm:A2 Nat}(h:HR nm B g w X){o':Ob}(hk:X.objs.lookup k=some o)
  (hs:w'.heap.size=w.heap.size) (hio:w'.os=w.os∧w'.output=w.output∧w'.tape=w.tape∧w.drawn≤w'.drawn) (S3:∀b,b≠g.ρ k→w'.heap[b]? = w.heap[b]?) (A32:∀(_:Trans [] g w g w'),Bv g w' (g.ρ k) o') (Bh5:∀s,w.shape? (g.ρ k)=some s→w'.shape? (g.ρ k)=some s) :
  HR nm B g w' ⟨setObj k o' X.objs,X.live⟩∧Trans [] g w g w':=by
 have h0:=h.Fq k o hk;have Bo9:B.γ0 (g.ρ k)=0:=by have:=h.le.up (g.ρ k);omega
 have K2:∀b i,i<g.γ b→w'.cell? ⟨b,i,none⟩=w.cell? ⟨b,i,none⟩:=by intro b i hi;refine Ov (S3 b ?_) i none;rintro rfl;omega
 have Pq:∀b s,w.shape? b=some s→w'.shape? b=some s:=by
  intro b s Gu;by_cases he:b=g.ρ k
  ·subst he;exact Bh5 s Gu
  ·rw[Mp (S3 b he)];exact Gu
 have ht:Trans [] g w g w':=⟨⟨fun _=>Bpa _,K2,Pq⟩,fun _ _=>rfl,fun n ob _ he=>⟨he,fun b hb=>⟨rfl,S3 b (h.Ba n b k o (hb▸he) hk)⟩⟩,fun L _ hL=>⟨rfl,fun i b hb=>⟨rfl,S3 b (h.eta.obj L i b k o hL hb hk)⟩⟩⟩;have Mk:∀j p,(setObj k o' X.objs).lookup j=some p→(j=k∧p=o')∨(j≠k∧X.objs.lookup j=some p):=by
  intro j p hj;rw[Ax]at hj;split at hj
  ·rename_i he;simp at hj;exact .inl ⟨he,hj.symm⟩
  ·rename_i he;exact .inr ⟨he,hj⟩
 have Mr:∀j p,(setObj k o' X.objs).lookup j=some p→∃q,X.objs.lookup j=some q:=by
  intro j p hj;rcases Mk j p hj with ⟨rfl,_⟩|⟨_,hj⟩
  ·exact⟨o,hk⟩
  ·exact⟨p,hj⟩
 refine⟨⟨?_,?_,by rw[hs];exact h.base,⟨hio.1.trans h.io.1,hio.2.1.trans h.io.2.1,hio.2.2.1.trans h.io.2.2.1,Bqf h.io.2.2.2 hio.2.2.2⟩,⟨h.le.up,?_,fun b s hs=>Pq b s (h.le.shape b s hs)⟩,?_,?_,?_,?_,?_,h.live,h.Bw,?_,h.C3,?_,h.eta.same (by rw[hs];exact Bpa _) fun j p hj=>Mr j p hj⟩,ht⟩
 ·intro j hj;obtain⟨h1,h2⟩:=h.D4 j hj;refine⟨h1,?_⟩;simp only[Ax];split
  ·rfl
  ·exact h2
 ·intro b i hi;rw[K2 b i hi];exact h.Ip b i hi
 ·intro b i hi;rw[K2 b i (Bqv hi (h.le.up b))];exact h.le.cell b i hi
 ·intro b hb hna;have h1:=h.frame b hb hna;refine⟨(S3 b ?_).trans h1.1,h1.2⟩;rintro rfl;rcases h.Ca k o hk with h2|h2
  ·omega
  ·exact hna h2
 ·intro j p hj;rcases Mk j p hj with ⟨rfl,rfl⟩|⟨hne,hj⟩
  ·exact A32 ht
  ·refine(h.objs j p hj).D4 ht (S3 _ ?_) (.inl rfl);intro he;exact hne (h.Br j k p o hj hk he)
 ·intro j p hj;obtain⟨q,hq⟩:=Mr j p hj;exact h.Fq j q hq
 ·intro j j' p p' hj Gb he;obtain⟨q,hq⟩:=Mr j p hj;obtain⟨q',hq'⟩:=Mr j' p' Gb;exact h.Br j j' q q' hq hq' he
 ·intro j p hj;obtain⟨q,hq⟩:=Mr j p hj;exact h.Ca j q hq
 ·intro n b j p hn hj;obtain⟨q,hq⟩:=Mr j p hj;exact h.Ba n b j q hn hq
 ·intro n b hn;rw[hs];exact h.C7 n b hn
def Aur:AV→Bool
 |.d (.sc u)=>u.oneCell'
 |.d (.agg _)=>false
 |.F2 _=>false
 |.agg _=>false
 |_=>true
def B8o{x:AV}(h:RA g w x v)(ho:Aur x=true):v.oneCell'=true:=by
 cases h with
 |d y v h =>
  cases h with
  |sc v=>exact ho
  |agg=>simp[Aur]at ho
  |nil=>rfl
  |sl=>rfl
  |ep=>rfl
  |any q v h1 h2=>exact h2
 |nm k p v h=>cases p<;>(first|obtain⟨cap,_,_,rfl,_⟩:=h|cases h)<;>first|rfl|(rename_i b _;cases b<;>rfl)
 |Be n sz es ty v h _=>cases h<;>rfl
 |Vs n e cs v h _=>cases h;rfl
 |F2=>simp[Aur]at ho
 |agg=>simp[Aur]at ho
 |F1=>rfl
theorem A33{P:Program}{b off:Nat}{T:TypeId}:∀(vs:A2 Value) (i:Nat) (w:World) (arr:Array Value),w.heap[b]? = some (.cells arr T (0,0)) →
  (∀v∈vs,v.oneCell'=true)→off+i+vs.length≤arr.size →
  ∃w' Cc,(storeCells ⟨b,off,none⟩ vs i).run P w = .ok () w'∧w'.heap[b]? = some (.cells Cc T (0,0))∧Cc.size=arr.size ∧
   (∀j,Cc[j]? = if off+i≤j∧j<off+i+vs.length then vs[j-(off+i)]? else arr[j]?)∧w'.heap.size=w.heap.size∧(∀b',b'≠b→w'.heap[b']? = w.heap[b']?)∧(w'.os=w.os∧w'.output=w.output∧w'.tape=w.tape∧w.drawn≤w'.drawn)
 |[],i,w,arr,hb,_,_=>⟨w,arr,rfl,hb,rfl,fun j=>by rw[Bpp (by simp only[Bs2];omega)],rfl,fun _ _=>rfl,rfl,rfl,rfl,Bpa _⟩
 |v::vs,i,w,arr,hb,h1,hl=>by
  simp only[Bpk]at hl;have Bg:off+i<arr.size:=by omega
  have hv:v.oneCell'=true:=h1 v Bp6;have K2:w.cell? ⟨b,off+i,none⟩=some arr[off+i]:=by rw[B6 hb];simp[Bg]
  have hfr:w.frozen? ⟨b,off+i,none⟩=false:=frozen_of_row w b (off+i) arr T hb;have Zt:(w.setCell ⟨b,off+i,none⟩ v).heap[b]? = some (.cells (arr.setIfInBounds (off+i) v) T (0,0)):=heap_setCell_same w b (off+i) arr T v hb;have hst:(store (⟨b,off+i,none⟩:Addr) v).run P w = .ok () (w.setCell ⟨b,off+i,none⟩ v):=by rw[run_store P w _ v _ hv,K2,hfr];rfl
  obtain⟨w',Cc,hr,Fp,Gu,hp',hz',ho',M9⟩:=A33 (P:=P) (b:=b) (off:=off) (T:=T) vs (i+1) (w.setCell ⟨b,off+i,none⟩ v) _ Zt
   (fun u hu=>h1 u (Bp5 _ hu)) (by simp;omega)
  refine⟨w',Cc,?_,Fp,by rw[Gu];simp,?_,by rw[hz'];simp,fun b' hne=>by rw[ho' b' hne];exact heap_setCell_other w _ b' v hne,M9⟩
  ·simp only[storeCells];rw[addr_add,Bq5,hst,Bpr];exact hr
  ·intro j;rw[hp' j];by_cases h1:j=off+i
   ·subst h1;rw[Bpp (by omega),Bq6 (by simp only[Bpk];omega)];simp[Bg]
   ·by_cases h2:off+(i+1)≤j∧j<off+(i+1)+vs.length
    ·rw[Bq6 h2,Bq6 (by simp only[Bpk];omega)];rw[show j-(off+i)=(j-(off+(i+1)))+1 by omega];rfl
    ·rw[Bpp h2,Bpp (by simp only[Bpk];omega)];simp[Brl h1]
def W8(cs:A2 AV)(off:Nat)(vs:A2 AV):A2 AV:=cs.take off++vs++cs.drop (off+vs.length)
def Z6{vs:A2 AV}(h:off+vs.length≤cs.length):(W8 cs off vs).length=cs.length:=by simp[W8];omega
def Ahp{vs:A2 AV}(h:off+vs.length≤cs.length)(i:Nat) :
  (W8 cs off vs)[i]? = if off≤i∧i<off+vs.length then vs[i-off]? else cs[i]?:=by
 have hl:(cs.take off).length=off:=by simp;omega
 unfold W8;by_cases h1:i<off
 ·rw[Bpp (by omega),Bru,Bs9 (by omega),Bqj,Bq6 h1]
 ·by_cases h2:i<off+vs.length
  ·rw[Bq6 (by omega),Bru,Brs (by omega),hl,Bs9 (by omega)]
  ·rw[Bpp (by omega),Brs (by simp;omega)];rw[Bqn];congr 1;simp;omega
theorem RA.cells{x:AV}(h:RA g w x v)(hs:A6q x=true) :
  x.cells.length=v.cells.size∧∀(i:Nat) y u,x.cells[i]? = some y→v.cells[i]? = some u→RA g w y u:=by
 have Iw:x.cells=[x]→v.cells=#[v]→x.cells.length=v.cells.size∧∀(i:Nat) y u,x.cells[i]? = some y→v.cells[i]? = some u→RA g w y u:=by
  intro h1 h2;rw[h1,h2];refine⟨rfl,?_⟩;intro i y u hy hu;cases i with
  |zero=>simp at hy hu;subst hy;subst hu;exact h
  |succ i=>simp at hy
 cases h with
 |d y u h =>
  cases h with
  |agg cs vs hl hc =>refine⟨by simpa[AV.cells,D.cells,Value.cells]using hl,?_⟩;intro i x y hx hy;simp only[AV.cells,D.cells,Bp1,Bp8]at hx;obtain⟨c,hc',rfl⟩:=hx;exact .d _ _ (hc i c y hc' hy)
  |sc u=>exact Iw rfl (Lc fun cs he=>by subst he;simp[A6q]at hs)
  |nil sz=>exact Iw rfl rfl
  |sl sz es b off len cap=>exact Iw rfl rfl
  |ep cs b off=>exact Iw rfl rfl
  |any q u h1 h2=>exact Iw rfl (Lc fun cs he=>by subst he;cases h2)
 |nm k p u h=>exact Iw rfl (by cases p<;>(first|obtain⟨cap,_,_,rfl,_⟩:=h|cases h)<;>first|rfl|(rename_i b _;cases b<;>rfl))
 |Be n sz es ty u h h' =>
  cases h with
  |nil=>exact Iw rfl rfl
  |sl=>exact Iw rfl rfl
 |Vs n e cs u h h'=>cases h with|ep=>exact Iw rfl rfl
 |F2 l vs hl hc=>exact Iw rfl rfl
 |agg l vs hl hc=>exact⟨hl,hc⟩
 |F1 f l vs hl hc=>exact Iw rfl rfl
section
variable{P:Program}{o:Oper}{X:A5}
def Aus{v:AV}(ho:o.op = .store t x y)(ht:TyI P t agg sz)(hk:X.objs.lookup k=some (.cells cs ty))
  (hv:v.cells.length=sz) (h1:v.cells.all Aur=true) (hs:A6q v=true) (hl:off+sz≤cs.length) :
  Bi P o [(x,.ptr k off),(y,v)] X ⟨setObj k (.cells (W8 cs off v.cells) ty) X.objs,X.live⟩ [] (.d (.sc undef)):=by
 intro nm Ej B g w a hr Au next Q hn
 have e1:=Is Au;have e2:=Y4 Au;simp only at e1 e2;obtain⟨c1,c2⟩:=e2.cells hs;cases hr.objs k _ hk with
 |cells _ _ arr T hb hlen hc hty =>
  have Iw:∀u∈(a.eval y).cells.toList,u.oneCell'=true:=by
   intro u hu;obtain⟨i,hi⟩:=Br9.1 hu;have Bg:i<v.cells.length:=by have:=(Bp2.1 hi).1;simp at this;omega
   exact B8o (c2 i v.cells[i] u (by simp[Bg]) (by simpa using hi)) (Bqb.1 h1 _ (Bqi Bg))
  obtain⟨w',Cc,Cg,Fp,Gu,hp',hz',ho',M9⟩:=A33 (P:=P) (off:=off) (a.eval y).cells.toList 0 w arr hb Iw (by simp;omega);obtain⟨r1,r2⟩:=hr.write hk (o':=.cells (W8 cs off v.cells) ty) hz' M9 ho' (by
   intro ht';refine .cells _ ty Cc T Fp (by rw[Z6 (by omega),Gu];exact hlen) ?_ hty;intro i z u hz hu;rw[Ahp (by omega)]at hz;rw[hp' i]at hu;simp only[Bs7,Brk]at hu;by_cases Vu:off≤i∧i<off+v.cells.length
   ·rw[Bq6 Vu]at hz;rw[Bq6 (by omega)]at hu;exact(c2 _ z u hz (by simpa using hu)).mono ht' (.nil _)
   ·rw[Bpp Vu]at hz;rw[Bpp (by omega)]at hu;exact(hc i z u hz hu).mono ht' (.nil _)) (by
   intro s hs0;simp only[World.shape?,hb]at hs0;simp only[World.shape?,Fp,Gu];exact hs0)
  unfold Oper.wp;have hx:a.eval x = .pointer (some ⟨g.ρ k,off,none⟩):=by exact e1.Ko
  have:(execOp a.eval o).run P w = .ok .skip w':=by
   simp only[execOp,ho,hx,Instr.storeAt,Instr.sureAddr];have Hc:¬((a.eval y).cells.size≠sz):=by omega
   simp[storeVar,ht.Zr,Hc,Cg]
  rw[this];exact hn g w' undef r1 r2 (.H4 _ _ _)
end
structure B2s(P:Program)(t:TypeId)(pl:List (Nat×Nat)):Prop where
 is:∃fs,P.underlying t=some (.struct fs)∧fs.toList.map (fun f=>(f.offset,(P.info? f.type).map (·.size)))=pl.map fun p=>(p.1,some p.2)
inductive W9:List AV→List Value→Prop
 |nil:W9 [] []
 |sc (v:Value) {r:List AV} {rs:List Value}:W9 r rs→W9 (.d (.sc v)::r) (v::rs)
 |sl (sz:Nat) {r:List AV} {rs:List Value}:W9 r rs→W9 (.d (.sl sz [])::r) (.slice none 0 0::rs)
def W9.ra{l:A2 AV}{vs:A2 Value}(h:W9 l vs)(g:Gh)(w:World):l.length=vs.length∧∀(i:Nat) x v,l[i]? = some x→vs[i]? = some v→RA g w x v:=by
 induction h with
 |nil=>exact⟨rfl,by simp⟩
 |sc v _ ih =>
  refine⟨by simp[ih.1],?_⟩;intro i x u hx hu;cases i with
  |zero=>simp at hx hu;subst hx;subst hu;exact .H4 _ _ _
  |succ i=>exact ih.2 i x u (by simpa using hx) (by simpa using hu)
 |sl sz _ ih =>
  refine⟨by simp[ih.1],?_⟩;intro i x u hx hu;cases i with
  |zero=>simp at hx hu;subst hx;subst hu;exact .d _ _ (.nil sz none 0 fun _=>rfl)
  |succ i=>exact ih.2 i x u (by simpa using hx) (by simpa using hu)
structure Ahq(P:Program)(t:TypeId)(cs:List AV):Prop where
 is:∃i z,P.info? t=some i∧i.zero=some z∧W9 cs z.cells.toList
theorem Ahq.ra{P:Program}{t:TypeId}(h:W9 cs z.cells.toList)(g:Gh)(w:World):RA g w (.agg cs) (.agg z.cells):=by obtain⟨h1,h2⟩:=h.ra g w;exact .agg _ _ (by simpa using h1) (fun i x v hx hv=>h2 i x v hx (by simpa using hv))
def Yh(place:Nat→A3 (Nat×Nat)):A2 AV→A2 (Nat×AV)→A3 (A2 AV)
 |cs,[]=>some cs
 |cs,(i,x)::r =>
  match place i with
  |none=>none
  |some (off,sz)=>if x.cells.length=sz∧off+x.cells.length≤cs.length then Yh place (W8 cs off x.cells) r else none
def Ad2(vs:A2 Value)(off:Nat):∀(n:Nat) (cs:Array Value) (j:Nat),off+n+vs.length≤cs.size →
  ((vs.zipIdx n).foldl (fun cs p=>cs.setIfInBounds (off+p.2) p.1) cs)[j]? = if off+n≤j∧j<off+n+vs.length then vs[j-(off+n)]? else cs[j]?:=by
 induction vs with
 |nil=>intro n cs j _;rw[Bpp (by simp only[Bs2];omega)];rfl
 |cons v vs ih =>
  intro n cs j hl;simp only[Bpk]at hl⊢;rw[List.zipIdx_cons,Bqp,ih (n+1) _ j (by simp;omega)];by_cases h1:j=off+n
  ·subst h1;rw[Bpp (by omega),Bq6 (by omega)];have:off+n<cs.size:=by omega
   simp[this]
  ·by_cases h2:off+(n+1)≤j∧j<off+(n+1)+vs.length
   ·rw[Bq6 h2,Bq6 (by omega),show j-(off+n)=(j-(off+(n+1)))+1 by omega];rfl
   ·rw[Bpp h2,Bpp (by omega)];simp[Brl h1]
def Wa(vs:A2 (Value×Nat))(off:Nat):∀(cs:Array Value),(vs.foldl (fun cs p=>cs.setIfInBounds (off+p.2) p.1) cs).size=cs.size:=by
 induction vs with
 |nil=>intro cs;rfl
 |cons v vs ih=>intro cs;rw[Bqp,ih];simp
theorem Ahr{g:Gh}{w:World}{place:Nat→A3 (Nat×Nat)}:∀(Bon:A2 (Nat×AV)) (vs:A2 (Nat×Value)) (cs:A2 AV) (arr:Array Value) (out:A2 AV),
  Bon.length=vs.length→(∀(i:Nat) p q,Bon[i]? = some p→vs[i]? = some q→p.1=q.1∧RA g w p.2 q.2)→(Bon.all fun p=>A6q p.2)=true →
  cs.length=arr.size→(∀(i:Nat) x v,cs[i]? = some x→arr[i]? = some v→RA g w x v)→Yh place cs Bon=some out →
  ∃Cc,Instr.fill place arr vs=some Cc∧out.length=Cc.size∧∀(i:Nat) x v,out[i]? = some x→Cc[i]? = some v→RA g w x v
 |[],vs,cs,arr,out,hl,_,_,hs,hc,hf=>by
  cases vs with
  |nil=>simp[Yh]at hf;subst hf;exact⟨arr,rfl,hs,hc⟩
  |cons _ _=>simp at hl
 |(i,x)::Bon,vs,cs,arr,out,hl,hp,Je,hs,hc,hf=>by
  cases vs with
  |nil=>simp at hl
  |cons q vs =>
   obtain⟨i',u⟩:=q;obtain⟨he,hx⟩:=hp 0 (i,x) (i',u) rfl rfl;simp only at he hx;subst he;simp only[Bt9,Bq4]at Je;obtain⟨c1,c2⟩:=hx.cells Je.1;simp only[Yh]at hf;simp only[Instr.fill];cases hpl:place i with
   |none=>rw[hpl]at hf;cases hf
   |some q =>
    obtain⟨off,sz⟩:=q;rw[hpl]at hf;simp only at hf⊢;split at hf
    ·rename_i Bnw;have Bh6:¬(u.cells.size≠sz||off+u.cells.size>arr.size)=true:=by simp;omega
     rw[Bpp Bh6];have hrw:(Array.foldl (fun cs (x:Value×Nat)=>match x with|(c,j)=>cs.setIfInBounds (off+j) c) arr u.cells.zipIdx)=(u.cells.toList.zipIdx 0).foldl (fun cs p=>cs.setIfInBounds (off+p.2) p.1) arr:=by rw[← Array.foldl_toList,Array.toList_zipIdx]
     rw[hrw];refine Ahr Bon vs _ _ out (by simpa using hl) (fun j p q hp' hq=>hp (j+1) p q (by simpa using hp') (by simpa using hq)) Je.2 ?_ ?_ hf
     ·rw[Z6 (by omega),Wa,hs]
     ·intro j y v hy hv;rw[Ahp (by omega)]at hy;rw[Ad2 _ _ _ _ _ (by simp;omega)]at hv;simp only[Bs7,Brk]at hv;by_cases Vu:off≤j∧j<off+x.cells.length
      ·rw[Bq6 Vu]at hy;rw[Bq6 (by omega)]at hv;exact c2 _ y v hy (by simpa using hv)
      ·rw[Bpp Vu]at hy;rw[Bpp (by omega)]at hv;exact hc j y v hy hv
    ·cases hf
theorem Afd{P:Program}{w:World}:∀(fs:A2 Field) (pl:A2 (Nat×Nat)),fs.map (fun f=>(f.offset,(P.info? f.type).map (·.size)))=pl.map (fun p=>(p.1,some p.2)) →
  (fs.mapM fun f=>(do pure (f.offset,← sizeOf f.type):Sem (Nat×Nat))).run P w = .ok pl w
 |[],pl,h=>by
  cases pl with
  |nil=>rfl
  |cons _ _=>simp at h
 |f::fs,pl,h=>by
  cases pl with
  |nil=>simp at h
  |cons q pl =>simp only[Bp3,Bt7,Bpm]at h;obtain⟨⟨h1,h2⟩,h3⟩:=h;obtain⟨i,hi,h4⟩:=Bp8.1 h2;rw[List.mapM_cons,Bq5,Bq5,run_sizeOf hi,Bpr];simp only[Bsm,Bpr,Bq5];rw[Afd fs pl h3];simp only[Bpr];rw[h1,h4]
section
variable{P:Program}{o:Oper}{X:A5}
def B8p{pl:A2 (Nat×Nat)}{zs out:A2 AV}(ho:o.op = .build t Bon)(ht:B2s P t pl)(hz:Ahq P t zs)
  (hx:xs.length=Bon.size) (Je:xs.all A6q=true) (hf:Yh (fun i=>pl[i]?) zs ((Bon.toList.map (·.1)).zip xs)=some out) :
  Bi P o ((Bon.toList.map (·.2)).zip xs) X X [] (Yf out) :=
 .quiet fun _ _ g w ac hr Au=>by
  obtain⟨fs,hfs,hpl⟩:=ht.is;obtain⟨i,z,hi,hzz,hzc⟩:=hz.is;obtain⟨z1,z2⟩:=hzc.ra g w;obtain⟨Cc,A7h,hl,hc⟩:=Ahr (g:=g) (w:=w) (place:=fun i=>pl[i]?) ((Bon.toList.map (·.1)).zip xs) (Bon.toList.map fun p=>(p.1,ac.eval p.2)) zs z.cells out (by simp[hx]) (by
   intro j p q hp hq;rw[Bp1,Bp8]at hq;obtain⟨pt,hpt,rfl⟩:=hq;rw[Bsa]at hp;obtain⟨hp1,hp2⟩:=hp;rw[Bp1,hpt]at hp1;simp at hp1;refine⟨hp1.symm,?_⟩;have:=Au (pt.2,p.2) (Bpu (i:=j) (by
    rw[Bsa];exact⟨by rw[Bp1,hpt];rfl,hp2⟩))
   exact this) (by
   rw[Bqb]at Je⊢;intro p hp;exact Je _ (Bvw hp).2) (by simpa using z1) (fun i x v hx hv=>z2 i x v hx (by simpa using hv)) hf
  refine⟨.agg Cc,?_,RA.join hl hc⟩;simp only[execOp,ho,Instr.build];have hm:(Array.mapM (fun f=>(do pure (f.offset,← sizeOf f.type):Sem (Nat×Nat))) fs).run P w = .ok pl.toArray w:=by rw[Bvm,Sem.run_map,Afd _ _ hpl];rfl
  have Pr:Instr.fill (fun x=>pl[x]?) z.cells (List.map (fun x=>(x.1,ac.eval x.2)) Bon.toList)=some Cc:=A7h;simp[zeroValue,typeInfo,hi,hzz,Bpb hfs];simp at hm;rw[hm];simp[Pr]
end
def HR.Ah5{nm:A2 Nat}(h:HR nm B g w X)(n:Nat) :
  HR nm B { g with β:=O6 g.β n none } w ⟨X.objs,X.live.filter (· != n)⟩∧Trans [] g w { g with β:=O6 g.β n none } w:=by
 have hβ:∀m ob,O6 g.β n none m=some ob→g.β m=some ob:=by
  intro m ob hm;by_cases he:m=n
  ·subst he;rw[Ac]at hm;cases hm
  ·rwa [Ae _ _ he]at hm
 have ht:Trans [] g w { g with β:=O6 g.β n none } w:=⟨.refl _ _,fun _ _=>rfl,fun m ob _ he=>⟨hβ m ob he,fun _ _=>⟨rfl,rfl⟩⟩,fun _ _ _=>⟨rfl,fun _ _ _=>⟨rfl,rfl⟩⟩⟩;refine⟨⟨h.D4,h.Ip,h.base,h.io,h.le,h.frame,?_,h.Fq,h.Br,h.Ca,?_,?_,?_,?_,?_,h.eta.Aun (fun L hL=>.inl ⟨?_,rfl⟩) (Bpa _) (fun m b hm=>h.eta.B8g (hβ m _ hm)) fun k o hk=>h.eta.B58 hk⟩,ht⟩
 rotate_right
 ·obtain⟨ob,Ga⟩:=Bps.1 hL;rw[hβ L ob Ga];rfl
 ·intro k o hk;exact(h.objs k o hk).D4 ht rfl (.inl rfl)
 ·intro m;simp only[Bpv,bne_iff_ne,ne_eq];by_cases he:m=n
  ·subst he;simp[Ac]
  ·rw[Ae _ _ he];exact⟨fun hm=>(h.live m).1 hm.1,fun hm=>⟨(h.live m).2 hm,he⟩⟩
 ·intro m m' b hm Uc;exact h.Bw m m' b (hβ m _ hm) (hβ m' _ Uc)
 ·intro m b k o hm hk;exact h.Ba m b k o (hβ m _ hm) hk
 ·intro m b hm;exact h.C3 m b (hβ m _ hm)
 ·intro m b hm;exact h.C7 m b (hβ m _ hm)
def Kh.A7i(h:Kh B g w X)(Ga:g.β m=some (some b)):∀L i,(O6 g.β n none L).isSome→g.η L i≠some b:=by
 intro L i hL hb;refine h.Be L i b m ?_ hb Ga;by_cases he:L=n
 ·subst he;rw[Ac]at hL;cases hL
 ·rwa [Ae _ _ he]at hL
def HR.Ps{nm:A2 Nat}(h:HR nm B g w X)(hm:m∉X.live)(ob:A3 Nat)(hX:B1 [m] X=true)
  (hb:∀b,ob=some b→b<w.heap.size∧(B.n0≤b∨B.allowed b)∧(∀k o,X.objs.lookup k=some o→b≠g.ρ k)∧(∀n,g.β n≠some (some b))∧∀L i,(g.β L).isSome→g.η L i≠some b) :
  HR nm B { g with β:=O6 g.β m (some ob),η:=O6 g.η m fun _=>none } w ⟨X.objs,m::X.live⟩∧Trans [m] g w { g with β:=O6 g.β m (some ob),η:=O6 g.η m fun _=>none } w:=by
 have ht:Trans [m] g w { g with β:=O6 g.β m (some ob),η:=O6 g.η m fun _=>none } w:=by
  refine⟨.refl _ _,fun _ _=>rfl,fun n ob' hn he=>?_,fun L hL _=>⟨Ae _ _ (by simpa using hL),fun _ _ _=>⟨rfl,rfl⟩⟩⟩;have hne:n≠m:=by simpa using hn
  simp only[Ae _ _ hne]at he;exact⟨he,fun _ _=>⟨rfl,rfl⟩⟩
 have hβ:∀n b,O6 g.β m (some ob) n=some (some b)→(n=m∧ob=some b)∨(n≠m∧g.β n=some (some b)):=by
  intro n b hn;by_cases he:n=m
  ·subst he;rw[Ac]at hn;exact .inl ⟨rfl,by simpa using hn⟩
  ·rw[Ae _ _ he]at hn;exact .inr ⟨he,hn⟩
 refine⟨⟨h.D4,h.Ip,h.base,h.io,h.le,h.frame,?_,h.Fq,h.Br,h.Ca,?_,?_,?_,?_,?_,h.eta.Aun (fun L hL=>?_) (Bpa _) (fun n b hn=>?_) fun k o hk=>h.eta.B58 hk⟩,ht⟩
 rotate_right 2
 ·by_cases he:L=m
  ·subst he;exact .inr fun i=>by simp only[Ac]
  ·exact .inl ⟨by simpa only [Ae _ _ he]using hL,Ae _ _ he⟩
 ·rcases hβ n b hn with ⟨rfl,e⟩|⟨hne,hn⟩
  ·exact(hb b e).2.2.2.2
  ·exact h.eta.B8g hn
 ·intro k o hk;exact(h.objs k o hk).D4 ht rfl (Hj hX hk)
 ·intro n;simp only[Boz];by_cases he:n=m
  ·subst he;simp[Ac]
  ·simp only[he,Bvn,Ae _ _ he];exact h.live n
 ·intro n n' b hn Ke;have c1:=hβ n b hn;have c2:=hβ n' b Ke;clear hn Ke;rcases c1 with ⟨e1,e⟩|⟨hne,hn⟩<;>rcases c2 with ⟨e2,e'⟩|⟨Ub,Ke⟩
  ·rw[e1,e2]
  ·exact((hb b e).2.2.2.1 n' Ke).elim
  ·exact((hb b e').2.2.2.1 n hn).elim
  ·exact h.Bw n n' b hn Ke
 ·intro n b k o hn hk;rcases hβ n b hn with ⟨rfl,e⟩|⟨hne,hn⟩
  ·exact(hb b e).2.2.1 k o hk
  ·exact h.Ba n b k o hn hk
 ·intro n b hn;rcases hβ n b hn with ⟨rfl,e⟩|⟨hne,hn⟩
  ·exact(hb b e).2.1
  ·exact h.C3 n b hn
 ·intro n b hn;rcases hβ n b hn with ⟨rfl,e⟩|⟨hne,hn⟩
  ·exact(hb b e).1
  ·exact h.C7 n b hn
def HR.raise{nm:A2 Nat}(h:HR nm B g w X)(Bg:b<w.heap.size)(A32:B.n0≤b∨B.allowed b)
  (A2l:∀k o,X.objs.lookup k=some o→b≠g.ρ k) (Aa3:∀m,g.β m≠some (some b)) (Bm9:∀L i,(g.β L).isSome→g.η L i≠some b) (hs:w'.heap.size=w.heap.size) (hio:w'.os=w.os∧w'.output=w.output∧w'.tape=w.tape∧w.drawn≤w'.drawn) (S3:∀b',b'≠b→w'.heap[b']? = w.heap[b']?)
  (hold:∀i,i<g.γ b→w'.cell? ⟨b,i,none⟩=w.cell? ⟨b,i,none⟩) (hn:g.γ b≤n) (B2r:∀i,i<n→(w'.cell? ⟨b,i,none⟩).isSome) (Bh5:∀s,w.shape? b=some s→w'.shape? b=some s) :
  HR nm B { g with γ:=O6 g.γ b n } w' X∧Trans [] g w { g with γ:=O6 g.γ b n } w':=by
 have hup:∀b',g.γ b'≤O6 g.γ b n b':=by
  intro b';by_cases he:b'=b
  ·subst he;rw[Ac];exact hn
  ·rw[Ae _ _ he];exact Bpa _
 have K2:∀b' i,i<g.γ b'→w'.cell? ⟨b',i,none⟩=w.cell? ⟨b',i,none⟩:=by
  intro b' i hi;by_cases he:b'=b
  ·subst he;exact hold i hi
  ·exact Ov (S3 b' he) i none
 have Pq:∀b' s,w.shape? b'=some s→w'.shape? b'=some s:=by
  intro b' s Gu;by_cases he:b'=b
  ·subst he;exact Bh5 s Gu
  ·rw[Mp (S3 b' he)];exact Gu
 have Bma:∀m b',g.β m=some (some b')→b'≠b:=fun m b' hm he=>Aa3 m (he▸hm)
 have ht:Trans [] g w { g with γ:=O6 g.γ b n } w':=⟨⟨hup,K2,Pq⟩,fun _ _=>rfl,fun m ob _ he=>⟨he,fun b' Fp=>by
  have:=Bma m b' (Fp▸he);exact⟨Ae _ _ this,S3 b' this⟩⟩,fun L _ hL=>⟨rfl,fun i b' Fp=>by
  have:b'≠b:=fun he=>Bm9 L i hL (he▸Fp)
  exact⟨Ae _ _ this,S3 b' this⟩⟩⟩
 refine⟨⟨h.D4,?_,by rw[hs];exact h.base,⟨hio.1.trans h.io.1,hio.2.1.trans h.io.2.1,hio.2.2.1.trans h.io.2.2.1,Bqf h.io.2.2.2 hio.2.2.2⟩,⟨fun b'=>Bqf (h.le.up b') (hup b'),fun b' i hi=>(K2 b' i (Bqv hi (h.le.up b'))).trans (h.le.cell b' i hi),fun b' s Gu=>Pq b' s (h.le.shape b' s Gu)⟩,?_,?_,?_,
  h.Br,h.Ca,h.live,h.Bw,h.Ba,h.C3,fun m b' hm=>by rw[hs];exact h.C7 m b' hm,h.eta.Aun (fun L hL=>.inl ⟨hL,rfl⟩) (by rw[hs];exact Bpa _) (fun n b hn=>h.eta.B8g hn) fun k o hk=>h.eta.B58 hk⟩,ht⟩
 ·intro b' i hi;by_cases he:b'=b
  ·subst he;simp only[Ac]at hi;exact B2r i hi
  ·simp only[Ae _ _ he]at hi;rw[K2 b' i hi];exact h.Ip b' i hi
 ·intro b' Fp hna;have hne:b'≠b:=by
   rintro rfl;rcases A32 with h1|h1
   ·omega
   ·exact hna h1
  have:=h.frame b' Fp hna;exact⟨(S3 b' hne).trans this.1,by simp only[Ae _ _ hne];exact this.2⟩
 ·intro k o hk;exact(h.objs k o hk).D4 ht (S3 _ (A2l k o hk).symm) (.inl rfl)
 ·intro k o hk;simp only[Ae _ _ (A2l k o hk).symm];exact h.Fq k o hk
def RD.A0y(h:RD γ w (.sl sz es) v)(hs:∀b i,i<γ b→(w.cell? ⟨b,i,none⟩).isSome) :
  ∃base cap,v = .slice base es.length cap∧es.length≤cap∧(base=none→cap=0)∧(∀(i:Nat) (cs:A2 D),es[i]? = some cs→cs.length=sz) ∧
   ∃cells:A2 Value,cells.length=es.length*sz∧(∀w':World,(∀b i,i<γ b→w'.cell? ⟨b,i,none⟩=w.cell? ⟨b,i,none⟩)→(Builtin.firstCells sz es.length v).run P w' = .ok cells.toArray w') ∧
    ∀(i j:Nat) (cs:A2 D) c u,es[i]? = some cs→cs[j]? = some c→cells[i*sz+j]? = some u→RD γ w c u:=by
 cases h with
 |nil _ a cap h0=>exact⟨a,cap,rfl,Brw _,h0,by simp,[],by simp,fun w' _=>by cases a<;>simp[Builtin.firstCells,loadCells,loadCellsFrom],by simp⟩
 |sl _ _ b off len cap hl hγ U9 Hc hc =>
  subst hl;have hex:∀i,i<es.length*sz→∃u,w.cell? ⟨b,off+i,none⟩=some u:=fun i hi=>Bps.1 (hs b (off+i) (by omega))
  have Pt:∀i,i<es.length*sz→w.cell? ⟨b,off+i,none⟩=some ((w.cell? ⟨b,off+i,none⟩).getD undef):=fun i hi=>by
   obtain⟨u,hu⟩:=hex i hi;rw[hu];rfl
  refine⟨some ⟨b,off,none⟩,cap,rfl,U9,by simp,Hc,(List.range (es.length*sz)).map (fun i=>(w.cell? ⟨b,off+i,none⟩).getD undef),by simp,?_,?_⟩
  ·intro w' hw';refine run_firstCells_some w' sz es.length _ _ _ _ (by simp) ?_;intro j u hu;rw[Bp1,Bp8]at hu;obtain⟨i,hi,rfl⟩:=hu;have Bg:j<es.length*sz:=by have:=(Bp2.1 hi).1;simpa using this
   have:i=j:=by rw[Bu6 Bg]at hi;simpa using hi.symm
   subst this;rw[addr_add,hw' b _ (by omega)];exact Pt i Bg
  ·intro i j cs c u hi hj hu;have h1:i<es.length:=(Bp2.1 hi).1;have h2:j<cs.length:=(Bp2.1 hj).1;rw[Hc i cs hi]at h2;have Bg:=Sv h1 h2;rw[Bp1,Bu6 Bg]at hu;simp only[Bq8,Bp0]at hu;refine hc i cs j c u hi hj ?_;rw[Bs6,Pt _ Bg,hu]
def RD.Kp(hγ:off+es.length*sz≤γ b)(U9:es.length≤cap)
  (Hc:∀(i:Nat) (cs:A2 D),es[i]? = some cs→cs.length=sz)
  (hc:∀(i j:Nat) (cs:A2 D) c u,es[i]? = some cs→cs[j]? = some c→w.cell? ⟨b,off+(i*sz+j),none⟩=some u→RD γ w c u) :
  RD γ w (.sl sz es) (.slice (some ⟨b,off,none⟩) es.length cap) :=
 .sl sz es b off es.length cap rfl hγ U9 Hc fun i cs j c v hi hj hv=>hc i j cs c v hi hj (by rw[← Bs6];exact hv)
def RD.Ox(hl:len=es.length)(hγ:off+len*sz≤γ b)(U9:len≤cap)
  (Hc:∀(i:Nat) (cs:A2 D),es[i]? = some cs→cs.length=sz)
  (hc:∀(i j:Nat) (cs:A2 D) c u,es[i]? = some cs→cs[j]? = some c→w.cell? ⟨b,off+(i*sz+j),none⟩=some u→RD γ w c u) :
  RD γ w (.sl sz es) (.slice (some ⟨b,off,none⟩) len cap):=by
 subst hl;exact .Kp hγ U9 Hc hc
theorem Ld{P:Program}{b off:Nat}{T:TypeId}{fr:Nat×Nat}:∀(vs:A2 Value) (i:Nat) (w:World) (arr:Array Value),w.heap[b]? = some (.cells arr T fr) →
  (∀v∈vs,v.oneCell'=true)→off+i+vs.length≤arr.size→(∀j,off+i≤j→j<off+i+vs.length→w.frozen? ⟨b,j,none⟩=false) →
  ∃w' Cc,(storeCells ⟨b,off,none⟩ vs i).run P w = .ok () w'∧w'.heap[b]? = some (.cells Cc T fr)∧Cc.size=arr.size ∧
   (∀j,Cc[j]? = if off+i≤j∧j<off+i+vs.length then vs[j-(off+i)]? else arr[j]?)∧w'.heap.size=w.heap.size∧(∀b',b'≠b→w'.heap[b']? = w.heap[b']?)∧(w'.os=w.os∧w'.output=w.output∧w'.tape=w.tape∧w.drawn≤w'.drawn)
 |[],i,w,arr,hb,_,_,_=>⟨w,arr,rfl,hb,rfl,fun j=>by rw[Bpp (by simp only[Bs2];omega)],rfl,fun _ _=>rfl,rfl,rfl,rfl,Bpa _⟩
 |v::vs,i,w,arr,hb,h1,hl,hf=>by
  simp only[Bpk]at hl hf;have Bg:off+i<arr.size:=by omega
  have hv:v.oneCell'=true:=h1 v Bp6;have K2:w.cell? ⟨b,off+i,none⟩=some arr[off+i]:=by rw[B6 hb];simp[Bg]
  have hfr:w.frozen? ⟨b,off+i,none⟩=false:=hf (off+i) (Bpa _) (by omega);have B5c:b<w.heap.size:=(Bpo.1 hb).1;have Zt:(w.setCell ⟨b,off+i,none⟩ v).heap[b]? = some (.cells (arr.setIfInBounds (off+i) v) T fr):=by simp only[World.setCell,Bql,hb,Brg,Bq8];rfl
  have hst:(store (⟨b,off+i,none⟩:Addr) v).run P w = .ok () (w.setCell ⟨b,off+i,none⟩ v):=by rw[run_store P w _ v _ hv,K2,hfr];rfl
  obtain⟨w',Cc,hr,Fp,Gu,hp',hz',ho',M9⟩:=Ld (P:=P) (b:=b) (off:=off) (T:=T) vs (i+1) (w.setCell ⟨b,off+i,none⟩ v) _ Zt
   (fun u hu=>h1 u (Bp5 _ hu)) (by simp;omega) (fun j h2 h3=>by rw[World.frozen?_setCell];exact hf j (by omega) (by omega))
  refine⟨w',Cc,?_,Fp,by rw[Gu];simp,?_,by rw[hz'];simp,fun b' hne=>by rw[ho' b' hne];exact heap_setCell_other w _ b' v hne,M9⟩
  ·simp only[storeCells];rw[addr_add,Bq5,hst,Bpr];exact hr
  ·intro j;rw[hp' j];by_cases h1:j=off+i
   ·subst h1;rw[Bpp (by omega),Bq6 (by simp only[Bpk];omega)];simp[Bg]
   ·by_cases h2:off+(i+1)≤j∧j<off+(i+1)+vs.length
    ·rw[Bq6 h2,Bq6 (by simp only[Bpk];omega)];rw[show j-(off+i)=(j-(off+(i+1)))+1 by omega];rfl
    ·rw[Bpp h2,Bpp (by simp only[Bpk];omega)];simp[Brl h1]
def A0z:D→Bool
 |.sc u=>u.oneCell'
 |.agg _=>false
 |_=>true
def Aa7{x:D}(h:RD γ w x v)(ho:A0z x=true):v.oneCell'=true:=by
 cases h with
 |sc v=>exact ho
 |agg=>simp[A0z]at ho
 |nil=>rfl
 |sl=>rfl
 |ep=>rfl
 |any q v h1 h2=>exact h2
def Ry(he:∀(i:Nat) cs,es[i]? = some cs→cs.length=sz)(hf:∀(i:Nat) cs,fs[i]? = some cs→cs.length=sz)(i:Nat)(cs:A2 D)
  (h:(es++fs)[i]? = some cs):cs.length=sz:=by
 rw[Bqh]at h;split at h
 ·exact he i cs h
 ·exact hf _ cs h
def Hv{ty:TypeId}(h0:ts[0]? = some t)(h1:ts[1]? = some u)(hu:P.underlying u=some (.slice e'))
  (ht:P.underlying t=some (.slice e)) (hi:P.info? e=some i)
  {base:A3 Addr}   (hx:(Builtin.firstCells i.size n (.slice xb n xc)).run P w = .ok Boo.toArray w) (Fz:len+n≤cap)
  (hst:(base=none∧w'=w)∨∃a,base=some a∧(storeCells (a.add (len*i.size)) Boo).run P w = .ok () w') :
  (Builtin.append_ ts ty #[.slice base len cap,.slice xb n xc]).run P w = .ok (.slice base (len+n) cap) w':=by
 rcases hst with ⟨rfl,rfl⟩|⟨a,rfl,hst⟩
 ·simp[Builtin.append_,h0,h1,Bpb ht,Bpb hu,sizeOf,typeInfo,hi,Builtin.lenOf,Fz,hx]
 ·simp[Builtin.append_,h0,h1,Bpb ht,Bpb hu,sizeOf,typeInfo,hi,Builtin.lenOf,Fz,hx,hst]
def Qq{ty:TypeId}(h0:ts[0]? = some t)(h1:ts[1]? = some u)(hu:P.underlying u=some (.slice e'))
  (ht:P.underlying t=some (.slice e)) (hi:P.info? e=some i) (hz:i.zero=some z)
  {base:A3 Addr}  {olds:A2 Value} (hx:(Builtin.firstCells i.size n (.slice xb n xc)).run P w.drew = .ok Boo.toArray w.drew)
  (ho:(Builtin.firstCells i.size len (.slice base len cap)).run P w.drew = .ok olds.toArray w.drew) (Fz:¬len+n≤cap)
  (h63:((len+n:Nat):Int)≤9223372036854775807) (h48:(len+n)*i.bytes≤140737488355328) :
  (Builtin.append_ ts ty #[.slice base len cap,.slice xb n xc]).run P w =
   .ok (.slice (some ⟨w.heap.size,0,none⟩) (len+n) (grownCap w (len+n) cap e))
    (w.drew.alloc (.cells (olds.toArray++Boo.toArray++Builtin.zeroCells z.cells (grownCap w (len+n) cap e-(len+n))) e)):=by
 have Bh7:¬(9223372036854775807<((len:Int)+(n:Int))):=by omega
 have Ad3:=growslice_fits (need:=len+n) (old:=cap) (by omega) h48;have Bh8:¬(281474976710656<Builtin.nextslicecap (len+n) cap*i.bytes):=by omega
 simp[Builtin.append_,h0,h1,Bpb ht,Bpb hu,sizeOf,typeInfo,zeroValue,hi,hz,Builtin.lenOf,Fz,Bh7,Bh8,Question.forced,hx,ho,Go.newRow,grownCap];congr 2;apply Array.ext';simp[Bru]
def A34(Hc:∀(i:Nat) cs,fs[i]? = some cs→cs.length=sz)(hk:k<fs.length*sz) :
  ∃(i j:Nat) (cs:A2 D) (c:D),k=i*sz+j∧fs[i]? = some cs∧cs[j]? = some c:=by
 have A35:0<sz:=by
  rcases Br8 sz with h|h
  ·subst h;simp at hk
  ·exact h
 have h1:k/sz<fs.length:=by rw[Btx A35];exact hk
 have h2:k % sz<sz:=Btz _ A35;have h3:(fs[k/sz]).length=sz:=Hc (k/sz) _ (by simp[h1]);exact⟨k/sz,k % sz,fs[k/sz],(fs[k/sz])[k % sz]'(by omega),by rw[Bur];exact(Nat.div_add_mod k sz).symm,by simp[h1],by simp[h3,h2]⟩
section
variable{P:Program}{o:Oper}{X:A5}
def Bjp(P:Program)(g:Gh)(w:World)(sz:Nat)(fs:A2 (A2 D))(vx:Value):Prop :=
 ∃xb xc,vx = .slice xb fs.length xc∧(∀(i:Nat) (cs:A2 D),fs[i]? = some cs→cs.length=sz)∧∃Boo:A2 Value,Boo.length=fs.length*sz ∧
  (Builtin.firstCells sz fs.length vx).run P w = .ok Boo.toArray w∧(Builtin.firstCells sz fs.length vx).run P w.drew = .ok Boo.toArray w.drew ∧
   ∀(i j:Nat) (cs:A2 D) c u,fs[i]? = some cs→cs[j]? = some c→Boo[i*sz+j]? = some u→RD g.γ w c u
def Amf{s:Operand}(m:Nat)
  (ho:o.op = .call { callee:=.builtin .append,args:=#[s,x],argTypes:=ts }) (h0:ts[0]? = some t) (h1:ts[1]? = some u) (hu:P.underlying u=some (.slice e'))
  (ht:P.underlying t=some (.slice e)) (hi:P.info? e=some i) (hz:i.zero=some z) (hzs:z.cells.size=sz) (Hc:i.size=sz) (hn:n∈X.live) (hm:m∉X.live.filter (· != n)) (hX:B1 [m] X=true)
  (Iw:∀cs∈fs,∀c∈cs,A0z c=true) (Zu:(es.length+fs.length)*i.bytes≤140737488355328) (hlen:es.length+fs.length≤4611686018427387904)
  (hty:∀e',ty=some e'→e'=e) (ax:AV) (hax:∀ {nm:A2 Nat} {B:B8} {g:Gh} {w:World} {v:Value},HR nm B g w X→RA g w ax v→Bjp P g w sz fs v) :
  Bi P o [(s,.Be n sz es ty),(x,ax)] X ⟨X.objs,m::X.live.filter (· != n)⟩ [m] (.Be m sz (es++fs) ty):=by
 subst Hc;intro nm Ej B g w a hr Au next Q Ek
 have e1:=Is Au;have e2:=Y4 Au;simp only at e1 e2;unfold Oper.wp;have Cg:∀r,(Builtin.append_ ts o.type #[a.eval s,a.eval x]).run P w=r→(execOp a.eval o).run P w=r.andThen fun v w'=>.ok (.value v) w':=by intro r hr';simp only[execOp,ho,resolve];simp[invoke,builtin,hr']
 generalize a.eval s=vs at e1 Cg;generalize a.eval x=vx at e2 Cg;cases e1 with
 |Be _ _ _ _ _ e1 Aa3 =>
 obtain⟨base,cap,rfl,U9,hbn,Bh9,olds,hol,Aut,hoc⟩:=e1.A0y (P:=P) hr.Ip;obtain⟨xb,xc,rfl,A7y,Boo,hnl,Aq4,Bha,hnc⟩:=hax hr e2;have Zv:=Ry Bh9 A7y;have Ga:∃ob,g.β n=some ob:=Bps.1 ((hr.live n).1 hn);obtain⟨ob,Ga⟩:=Ga;obtain⟨hr1,ht1⟩:=hr.Ah5 n;have Ahs:∀v∈Boo,v.oneCell'=true:=by
  intro v hv;obtain⟨k,hk⟩:=Br9.1 hv;have Bhb:k<fs.length*i.size:=by have:=(Bp2.1 hk).1;omega
  obtain⟨p,q,cs,c,rfl,hp,hq⟩:=A34 A7y Bhb;exact Aa7 (hnc p q cs c v hp hq hk) (Iw cs (Bpu hp) c (Bpu hq))
 by_cases Fz:es.length+fs.length≤cap
 ·
  have same:fs=[]→(Builtin.append_ ts o.type #[.slice base es.length cap,.slice xb fs.length xc]).run P w = .ok (.slice base es.length cap) w →
    base=none →
    Oper.upon P o a next Q ((execOp a.eval o).run P w):=by
   intro hf hrn B8q;obtain⟨hr2,Wb⟩:=hr1.Ps (m:=m) hm none hX (by simp);rw[Cg _ hrn];subst hf;simp only[Bq0]at *;refine Ek _ w _ hr2 (ht1.trans Wb) (.Be m i.size es ty _ (e1.mono (ht1.trans Wb).le) ?_);subst B8q;trivial
  cases hb:base with
  |none =>
   have h0':cap=0:=hbn hb;have hf:fs=[]:=by cases fs with
    |nil=>rfl
    |cons _ _=>simp at Fz;omega
   have hrn:=Hv (P:=P) (w:=w) (w':=w) (ty:=o.type) h0 h1 hu ht hi (base:=base) Aq4 Fz (.inl ⟨hb,rfl⟩);subst hb;refine same hf ?_ rfl;rw[hrn];subst hf;rfl
  |some b0 =>
   subst hb;obtain⟨b,off,sp⟩:=b0;obtain⟨hsp,htp⟩:=Aa3 ob Ga;simp only at hsp;subst hsp;by_cases hfe:fs=[]
   ·subst hfe;have hn0:Boo=[]:=by simpa using hnl
    subst hn0;have hrn:=Hv (P:=P) (w:=w) (w':=w) (ty:=o.type) h0 h1 hu ht hi (base:=some ⟨b,off,none⟩) Aq4 Fz (.inr ⟨_,rfl,rfl⟩);obtain⟨No,hγ,Wc,Aht⟩:=htp
    ·
     subst No;obtain⟨hr2,Wb⟩:=hr1.Ps (m:=m) hm (some b) hX (by
      intro b' Fp;cases Fp;refine⟨hr.C7 n b Ga,hr.C3 n b Ga,fun k p hk=>hr.Ba n b k p Ga hk,fun n' Ke=>?_,hr.eta.A7i Ga⟩;by_cases he:n'=n
      ·subst he;simp[Ac]at Ke
      ·simp only[Ae _ _ he]at Ke;exact he (hr.Bw n' n b Ke Ga))
     rw[Cg _ hrn];simp only[Bq0]at Ek;refine Ek _ w _ hr2 (ht1.trans Wb) (.Be m i.size es ty _ (e1.mono (ht1.trans Wb).le) ?_)
     ·intro ob' No;simp only[Ac,Bp0]at No;exact⟨rfl,No.symm,hγ,Wc,Aht⟩
   ·have A35:0<fs.length:=Bsp.2 hfe;obtain⟨No,hγ,Wc,Aht⟩:=htp;subst No;simp only at hγ Wc;have B5c:=hr.C7 n b Ga;have Bos:(es.length+fs.length)*i.size=es.length*i.size+fs.length*i.size:=Br5 _ _ _;have Bjq:(es.length+fs.length)*i.size≤cap*i.size:=Bqw _ Fz;have Bor:fs.length*i.size=0∨∃arr T fr,w.heap[b]? = some (.cells arr T fr)∧off+cap*i.size≤arr.size:=by
     rcases Br8 (fs.length*i.size)with h|h
     ·exact .inl h
     ·right;have Ahu:=Wc (off+cap*i.size-1) (by omega) (by omega);obtain⟨v,hv⟩:=Bps.1 Ahu.1;unfold World.cell? at hv;simp only at hv;split at hv
      ·rename_i arr T fr hh;refine⟨arr,T,fr,hh,?_⟩;simp at hv;have:=(Bpo.1 hv).1;omega
      ·cases hv
    rcases Bor with Bot|⟨arr,T,fr,Bor,Qd⟩
    ·
     have hn0:Boo=[]:=Brt.1 (by omega);subst hn0;have hrn:=Hv (P:=P) (w:=w) (w':=w) (ty:=o.type) h0 h1 hu ht hi (base:=some ⟨b,off,none⟩) Aq4 Fz (.inr ⟨_,rfl,rfl⟩);obtain⟨hr2,Wb⟩:=hr1.Ps (m:=m) hm (some b) hX (by
      intro b' Fp;cases Fp;refine⟨hr.C7 n b Ga,hr.C3 n b Ga,fun k p hk=>hr.Ba n b k p Ga hk,fun n' Ke=>?_,hr.eta.A7i Ga⟩;by_cases he:n'=n
      ·subst he;simp[Ac]at Ke
      ·simp only[Ae _ _ he]at Ke;exact he (hr.Bw n' n b Ke Ga))
     rw[Cg _ hrn];refine Ek _ w _ hr2 (ht1.trans Wb) (.Be m i.size _ ty _ ?_ ?_)
     ·refine .Ox Bq2.symm (by simp only;omega) Fz Zv ?_;intro p q cs c v hp hq hv;have h2:q<cs.length:=(Bp2.1 hq).1;rw[Zv p cs hp]at h2;have:i.size=0:=by
       rcases Nat.mul_eq_zero.1 Bot with h|h
       ·omega
       ·exact h
      omega
     ·intro ob' No;simp only[Ac,Bp0]at No;refine⟨rfl,No.symm,?_,?_,Aht⟩
      ·simp only;omega
      ·intro p h3 h4;exact Wc p (by simp only at h3;omega) h4
    ·obtain⟨w',Cc,hst,Fp,Gu,hp',hz',Y5,M9⟩:=Ld (P:=P) (off:=off+es.length*i.size) Boo 0 w arr Bor Ahs (by omega) (by
      intro j h3 h4;exact(Wc j (by omega) (by omega)).2)
     have hrn:=Hv (P:=P) (w:=w) (w':=w') (ty:=o.type) h0 h1 hu ht hi (base:=some ⟨b,off,none⟩) Aq4 Fz (.inr ⟨_,rfl,by rw[addr_add];exact hst⟩);simp only[Bs7]at hp';have Auu:∀k,k<off+es.length*i.size→w'.cell? ⟨b,k,none⟩=w.cell? ⟨b,k,none⟩:=by intro k hk;rw[B6 Fp,B6 Bor,hp' k,Bpp (by omega)]
     have Az4:∀k,k<off+(es.length+fs.length)*i.size→(w'.cell? ⟨b,k,none⟩).isSome:=by
      intro k hk;rw[B6 Fp];have:k<Cc.size:=by omega
      simp[this]
     obtain⟨hr2,Wb⟩:=hr1.raise (w':=w') (b:=b) (n:=off+(es.length+fs.length)*i.size) B5c (hr.C3 n b Ga) (fun k p hk=>hr.Ba n b k p Ga hk) (by
      intro n' Ke;by_cases he:n'=n
      ·subst he;simp[Ac]at Ke
      ·simp only[Ae _ _ he]at Ke;exact he (hr.Bw n' n b Ke Ga)) (hr.eta.A7i Ga) hz' M9 Y5 (by intro k hk;exact Auu k (by simp only at hk;omega)) (by simp only;omega) Az4 (by
      intro s hs0;simp only[World.shape?,Bor]at hs0;simp only[World.shape?,Fp,Gu];exact hs0)
     obtain⟨hr3,ht3⟩:=hr2.Ps (m:=m) hm (some b) hX (by
      intro b' Fp;cases Fp;refine⟨by rw[hz'];exact B5c,hr.C3 n b Ga,fun k p hk=>hr.Ba n b k p Ga hk,fun n' Ke=>?_,hr.eta.A7i Ga⟩;by_cases he:n'=n
      ·subst he;simp[Ac]at Ke
      ·simp only[Ae _ _ he]at Ke;exact he (hr.Bw n' n b Ke Ga))
     have hT:=(ht1.trans Wb).trans ht3;rw[Cg _ hrn];refine Ek _ w' _ hr3 hT (.Be m i.size _ ty _ ?_ ?_)
     ·refine .Ox Bq2.symm (by simp only[Ac];omega) Fz Zv ?_;intro p q cs c v hp hq hv;have h2:q<cs.length:=(Bp2.1 hq).1;rw[Zv p cs hp]at h2;rw[Bqh]at hp;split at hp
      ·rename_i A7z;have Bg:=Sv A7z h2;rw[Auu _ (by omega)]at hv;have hold:=Aut w fun _ _ _=>rfl
       cases e1 with
       |nil=>simp at hp
       |sl _ _ _ _ _ _ _ _ _ _ hc =>exact(hc p cs q c v hp hq (by rw[Bs6];exact hv)).mono hT.le
      ·rename_i Bhc;have A7z:p-es.length<fs.length:=by have:=(Bp2.1 hp).1;omega
       have Bg:=Sv A7z h2;have hpq:p*i.size+q=es.length*i.size+((p-es.length)*i.size+q):=by
        have:p=es.length+(p-es.length):=by omega
        conv=>lhs;rw[this,Br5]
        omega
       rw[B6 Fp,hp',Bq6 (by omega)]at hv;refine(hnc (p-es.length) q cs c v hp hq ?_).mono hT.le;rw[← hv];congr 1;omega
     ·intro ob' No;simp only[Ac,Bp0]at No;refine⟨rfl,No.symm,by simp only[Ac],?_,?_⟩
      rotate_left
      ·intro e1 he1;obtain⟨h1,c,h2⟩:=Aht e1 he1;refine⟨h1,Cc.size,?_⟩;simp only[World.shape?,Bor]at h2;simp only[World.shape?,Fp];simp only[Bp0,Bpm]at h2;rw[h2.1]
      intro p h3 h4;simp only at h3 h4;have h5:=Wc p (by omega) h4;refine⟨?_,?_⟩
      ·rw[B6 Fp];have:p<Cc.size:=by omega
       simp[this]
      ·have:=h5.2;simp only[World.frozen?,Bor]at this;simp only[World.frozen?,Fp];exact this
 ·
  obtain⟨A36,htd⟩:=hr1.drew;have hdc:∀b k,k<g.γ b→(w.drew).cell? ⟨b,k,none⟩=w.cell? ⟨b,k,none⟩:=fun _ _ _=>rfl
  have hrn:=Qq (P:=P) (w:=w) (ty:=o.type) h0 h1 hu ht hi hz Bha (Aut w.drew hdc) Fz (by omega) Zu;have hge:=Bv3 w (es.length+fs.length) cap e;generalize grownCap w (es.length+fs.length) cap e=nc at hrn hge;have Bos:(es.length+fs.length)*i.size=es.length*i.size+fs.length*i.size:=Br5 _ _ _;have Amg:(olds.toArray++Boo.toArray++Builtin.zeroCells z.cells (nc-(es.length+fs.length))).size=nc*i.size:=by simp only[Btb,Brn,Bue,hol,hnl,hzs];rw[← Bos,← Br5];congr 1;omega
  have Bhd:(es.length+fs.length)*i.size≤nc*i.size:=Bqw _ hge;generalize Aa8:olds.toArray++Boo.toArray++Builtin.zeroCells z.cells (nc-(es.length+fs.length))=arr at hrn Amg;obtain⟨hr2,Wb⟩:=A36.newRow arr e ((es.length+fs.length)*i.size) (by omega);obtain⟨hr3,ht3⟩:=hr2.Ps (m:=m) hm (some w.drew.heap.size) hX (by
   intro b' Fp;cases Fp;refine⟨by simp,.inl A36.base,fun k p hk=>?_,fun n' Ke=>?_,A36.eta.ltN (Bpa _)⟩
   ·have:=Et (A36.objs k p hk);simp only at this⊢;omega
   ·have:=A36.C7 n' _ Ke;omega)
  have hT:=((ht1.trans htd).trans Wb).trans ht3;rw[Cg _ hrn];have Ahv:∀k,(w.drew.alloc (.cells arr e)).cell? ⟨w.drew.heap.size,k,none⟩=arr[k]?:=fun k=>B6 (Bs1 w.drew (.cells arr e)) k
  refine Ek _ _ _ hr3 hT (.Be m i.size _ ty _ ?_ ?_)
  ·have hww:w.heap.size=w.drew.heap.size:=rfl;rw[hww];refine .Ox Bq2.symm (by simp only[Ac];omega) hge Zv ?_;intro p q cs c v hp hq hv;have h2:q<cs.length:=(Bp2.1 hq).1;rw[Zv p cs hp]at h2;rw[Bq7,Ahv,← Aa8]at hv;rw[Bqh]at hp;split at hp
   ·rename_i A7z;have Bg:=Sv A7z h2;rw[Bv6,Brh (by simp;omega)]at hv;exact(hoc p q cs c v hp hq (by simpa using hv)).mono hT.le
   ·rename_i Bhc;have A7z:p-es.length<fs.length:=by have:=(Bp2.1 hp).1;omega
    have Bg:=Sv A7z h2;have hpq:p*i.size+q=es.length*i.size+((p-es.length)*i.size+q):=by
     have:p=es.length+(p-es.length):=by omega
     conv=>lhs;rw[this,Br5]
     omega
    rw[Brh (by simp;omega),Bso (by simp;omega)]at hv;refine(hnc (p-es.length) q cs c v hp hq ?_).mono hT.le;rw[← hv];simp only[Brn,Bsg];congr 1;omega
  ·intro ob' No;simp only[Ac,Bp0]at No;subst No;have hww:w.heap.size=w.drew.heap.size:=rfl;refine⟨rfl,by rw[hww],by rw[hww];simp only[Ac,Bq7],?_,?_⟩
   rotate_left
   ·intro e1 he1;rw[hty e1 he1];refine⟨rfl,arr.size,?_⟩;have:=Bs1 w.drew (.cells arr e);simp only[World.shape?];rw[hww,this]
   intro p h3 h4;simp only[Bq7]at h3 h4;rw[hww];refine⟨by rw[Ahv];simp;omega,?_⟩;exact frozen_of_row _ _ _ arr e (Bs1 w.drew (.cells arr e))
def B5d{s:Operand}(m:Nat)
  (ho:o.op = .call { callee:=.builtin .append,args:=#[s,x],argTypes:=ts }) (h0:ts[0]? = some t) (h1:ts[1]? = some u) (hu:P.underlying u=some (.slice e'))
  (ht:P.underlying t=some (.slice e)) (hi:P.info? e=some i) (hz:i.zero=some z) (hzs:z.cells.size=sz) (Hc:i.size=sz) (hn:n∈X.live) (hm:m∉X.live.filter (· != n)) (hX:B1 [m] X=true)
  (Iw:∀cs∈fs,∀c∈cs,A0z c=true) (Zu:(es.length+fs.length)*i.bytes≤140737488355328) (hlen:es.length+fs.length≤4611686018427387904)
  (hty:∀e',ty=some e'→e'=e) :
  Bi P o [(s,.Be n sz es ty),(x,.d (.sl sz fs))] X ⟨X.objs,m::X.live.filter (· != n)⟩ [m] (.Be m sz (es++fs) ty) :=
 Amf m ho h0 h1 hu ht hi hz hzs Hc hn hm hX Iw Zu hlen hty _ fun hr e=>by
  cases e with
  |d _ _ e =>obtain⟨xb,xc,rfl,_,_,h1,Boo,h2,h3,h4⟩:=e.A0y (P:=P) hr.Ip;exact⟨xb,xc,rfl,h1,Boo,h2,h3 _ fun _ _ _=>rfl,h3 _ fun _ _ _=>rfl,h4⟩
end
structure Ed(P:Program)(f:FuncId):Prop where
 is : ∃ fn, P.funcs[f]? = some fn ∧ fn.body.isSome = true ∧ (fn.name == "runtime.NumGoroutine") = false
def D0{f:FuncId}(h:Ed P f)(args:Array Value)(w:World):(callFunc f args).run P w = .ok (.enter f args) w:=by
 obtain⟨fn,hf,hb,hn⟩:=h.is
 have Ke : ¬ (fn.name = "runtime.NumGoroutine") := by simpa using hn
 have Fp:¬(fn.body=none):=by intro he;rw[he]at hb;cases hb
 simp[callFunc,hf,Ke,Fp]
section
variable{P:Program}{o:Oper}{X:A5}
def Wd(Au:∀p∈args.toList.zip xs,RA g w p.2 (a.eval p.1)) :
  ∀(i:Nat) x v,xs[i]? = some x→(args.map a.eval)[i]? = some v→RA g w x v:=by
 intro i x v hx hv;rw[Array.getElem?_map,Bp8]at hv;obtain⟨op,hop,rfl⟩:=hv;exact Au (op,x) (Bpu (i:=i) (by rw[Bsa];exact⟨by simpa using hop,hx⟩))
def HR.Auv{nm:A2 Nat}(h:HR nm B g w X)(h0:HR [] (B8.of { g with β:=fun _=>none } w X0) gc w' X0) :
  HR nm B { gc with β:=g.β,ρ:=g.ρ,η:=g.η } w' X∧Trans [] g w { gc with β:=g.β,ρ:=g.ρ,η:=g.η } w':=by
 have hna:∀b,¬(B8.of { g with β:=fun _=>none } w X0).allowed b:=by
  intro b hb;rcases hb with ⟨k,o,hk,_⟩|⟨n,hn⟩
  ·simp[X0]at hk
  ·cases hn
 have hf:∀b,b<w.heap.size→w'.heap[b]? = w.heap[b]?∧gc.γ b=g.γ b:=fun b hb=>h0.frame b hb (hna b)
 have hs:w.heap.size≤w'.heap.size:=h0.base;have hle:LeD g.γ w gc.γ w':=h0.le;have ht:Trans [] g w { gc with β:=g.β,ρ:=g.ρ,η:=g.η } w':=⟨hle,fun _ _=>rfl,fun n ob _ he=>⟨he,fun b hb=>⟨(hf b (h.C7 n b (hb▸he))).2,(hf b (h.C7 n b (hb▸he))).1⟩⟩,fun L _ hL=>⟨rfl,fun i b hb=>⟨(hf b (h.eta.lt L i b hL hb)).2,(hf b (h.eta.lt L i b hL hb)).1⟩⟩⟩;refine⟨⟨h.D4,h0.Ip,Bqf h.base hs,⟨h0.io.1.trans h.io.1,h0.io.2.1.trans h.io.2.1,h0.io.2.2.1.trans h.io.2.2.1,Bqf h.io.2.2.2 h0.io.2.2.2⟩,h.le.trans hle,?_,?_,?_,h.Br,h.Ca,h.live,h.Bw,h.Ba,h.C3,?_,h.eta.step (fun L hL=>.inl ⟨hL,rfl⟩) hs (fun n b hb=>.inl ⟨n,hb⟩) fun k o hk=>.inl ⟨k,o,hk,rfl⟩⟩,ht⟩
 ·intro b hb hnb;have h1:=h.frame b hb hnb;have h2:=hf b (Bqv hb h.base);exact⟨h2.1.trans h1.1,h2.2.trans h1.2⟩
 ·intro k o hk;have:=h.objs k o hk;exact this.D4 ht (hf _ (Et this)).1 (.inl rfl)
 ·intro k o hk;have:=h.objs k o hk;simp only[(hf _ (Et this)).2];exact h.Fq k o hk
 ·intro n b hn;exact Bqv (h.C7 n b hn) hs
mutual
def Kq:AV→Bool
 |.d _=>true
 |.nm _ _=>false
 |.Be _ _ _ _=>false
 |.Vs _ _ _=>false
 |.F2 l=>Az l
 |.agg l=>Az l
 |.F1 _ l=>Az l
def Az:List AV→Bool
 |[]=>true
 |x::r=>Kq x&&Az r
end
def Ix{l:A2 AV}(h:Az l=true){i:Nat}{x:AV}(hx:l[i]? = some x):Kq x=true:=by
 induction l generalizing i with
 |nil=>simp at hx
 |cons y r ih =>
  simp only[Az,Bq4]at h;cases i with
  |zero=>simp at hx;subst hx;exact h.1
  |succ i=>exact ih h.2 (by simpa using hx)
def RA.data{x:AV}(h:RA g w x v)(hd:Kq x=true)(hle:LeD g.γ w g'.γ w'):RA g' w' x v:=by
 induction h with
 |d x v h=>exact .d x v (h.mono hle)
 |nm=>simp[Kq]at hd
 |Be=>simp[Kq]at hd
 |Vs=>simp[Kq]at hd
 |F2 l vs hl _ ih=>exact .F2 l vs hl fun i x v h1 h2=>ih i x v h1 h2 (Ix (by simpa[Kq]using hd) h1)
 |agg l vs hl _ ih=>exact .agg l vs hl fun i x v h1 h2=>ih i x v h1 h2 (Ix (by simpa[Kq]using hd) h1)
 |F1 f l vs hl _ ih=>exact .F1 f l vs hl fun i x v h1 h2=>ih i x v h1 h2 (Ix (by simpa[Kq]using hd) h1)
def Mj.use{f:FuncId}(hs:Mj P f xs X0 res X0)(hd:Az xs=true)(Vv:Kq res=true){nm:A2 Nat}
  (hr:HR nm B g w X)  (hl:xs.length=vs.size) (Pk:∀(i:Nat) x v,xs[i]? = some x→vs[i]? = some v→RA g w x v) :
  Calls P f vs w fun e w'=>∃v g',e = .returned v∧HR nm B g' w' X∧Trans [] g w g' w'∧RA g' w' res v:=by
 have h0:HR (X0.objs.map (·.1)) (B8.of { g with β:=fun _=>none } w X0) { g with β:=fun _=>none } w X0 :=
  ⟨by simp[X0],hr.Ip,Bpa _,⟨rfl,rfl,rfl,Bpa _⟩,.refl _ _,fun b _ _=>⟨rfl,rfl⟩,by simp[X0],by simp[X0],by simp[X0],by simp[X0],by simp[X0],by simp,by simp,by simp,by simp,.off fun _=>rfl⟩
 have:=hs { g with β:=fun _=>none } w vs h0 hl fun i x v hx hv=>(Pk i x v hx hv).data (Ix hd hx) (.refl _ _)
 refine this.mono ?_;rintro e w' ⟨gc,v,rfl,Ua,h1⟩;obtain⟨h2,h3⟩:=hr.Auv (gc:=gc) h1;exact⟨v,_,rfl,h2,h3,Ua.data Vv (.refl _ _)⟩
def Aq5{f:FuncId}(ho:o.op = .call { callee:=.value (.func f),args:=args,argTypes:=ts })(hf:Ed P f)
  (hs:Mj P f xs X0 res X0) (hl:xs.length=args.size) (hd:Az xs=true) (Vv:Kq res=true):Bi P o (args.toList.zip xs) X X [] res:=by
 intro nm Ej B g w a hr Au next Q hn
 unfold Oper.wp;have:(execOp a.eval o).run P w = .ok (.enter f (args.map a.eval)) w:=by simp only[execOp,ho,resolve];simp[Act.eval,Deferred.ofValue,invoke,D0 hf]
 rw[this];refine(hs.use hd Vv hr (by simpa using hl) (Wd Au)).mono ?_;rintro e w' ⟨v,g',rfl,h1,h2,h3⟩;exact hn g' w' v h1 h2 h3
theorem A80{g:Gh}{w:World}{sz:Nat}:∀(Bon:A2 (Nat×Value)) (es:A2 (A2 D)) (k:Nat) (arr:Array Value),
  Bon.length=es.length→(∀(i:Nat) p,Bon[i]? = some p→p.1=k+i)→(∀(i:Nat) p cs,Bon[i]? = some p→es[i]? = some cs→cs.length=sz∧p.2.cells.size=sz ∧
   ∀(j:Nat) c u,cs[j]? = some c→p.2.cells[j]? = some u→RD g.γ w c u)→(k+Bon.length)*sz≤arr.size →
  ∃Cc,Instr.fill (fun i=>some (i*sz,sz)) arr Bon=some Cc∧Cc.size=arr.size∧(∀j,j<k*sz→Cc[j]? = arr[j]?) ∧
   (∀(i j:Nat) cs c u,es[i]? = some cs→cs[j]? = some c→Cc[(k+i)*sz+j]? = some u→RD g.γ w c u)
 |[],es,k,arr,hl,_,_,_=>by
  cases es with
  |nil=>exact⟨arr,rfl,rfl,fun _ _=>rfl,by simp⟩
  |cons _ _=>simp at hl
 |(i0,v)::Bon,es,k,arr,hl,hi,hp,Hc=>by
  cases es with
  |nil=>simp at hl
  |cons cs es =>
   have e0:i0=k:=by simpa using hi 0 (i0,v) rfl
   subst e0;obtain⟨h1,h2,h3⟩:=hp 0 (i0,v) cs rfl rfl;simp only at h2 h3;simp only[Bpk]at Hc hl;have Bos:(i0+(Bon.length+1))*sz=i0*sz+(Bon.length+1)*sz:=Br5 _ _ _;have Bnx:(Bon.length+1)*sz=Bon.length*sz+sz:=Brj _ _;have Bjr:(i0+1)*sz=i0*sz+sz:=Brj _ _;simp only[Instr.fill];rw[Bpp (by simp;omega)];have hrw:(Array.foldl (fun cs (x:Value×Nat)=>match x with|(c,j)=>cs.setIfInBounds (i0*sz+j) c) arr v.cells.zipIdx)=(v.cells.toList.zipIdx 0).foldl (fun cs p=>cs.setIfInBounds (i0*sz+p.2) p.1) arr:=by rw[← Array.foldl_toList,Array.toList_zipIdx]
   rw[hrw];obtain⟨Cc,hf,Gu,Lb,hr'⟩:=A80 (g:=g) (w:=w) (sz:=sz) Bon es (i0+1) ((v.cells.toList.zipIdx 0).foldl (fun cs p=>cs.setIfInBounds (i0*sz+p.2) p.1) arr) (by omega)
    (fun i p hp'=>by have:=hi (i+1) p (by simpa using hp');omega) (fun i p Y3 hp' hc'=>hp (i+1) p Y3 (by simpa using hp') (by simpa using hc'))
    (by rw[Wa];rw[Br5,Bjr];omega)
   refine⟨Cc,hf,by rw[Gu,Wa],?_,?_⟩
   ·intro j hj;rw[Lb j (by omega),Ad2 _ _ _ _ _ (by simp;omega),Bpp (by omega)]
   ·intro i j Y3 c u hc hj hu;cases i with
    |zero =>
     simp at hc;subst hc;have Bde:j<sz:=by have:=(Bp2.1 hj).1;omega
     rw[Bs7,Lb _ (by omega),Ad2 _ _ _ _ _ (by simp;omega)]at hu;rw[Bq6 (by simp;omega)]at hu;refine h3 j c u hj ?_;have:i0*sz+j-(i0*sz+0)=j:=by omega
     rw[this]at hu;simpa using hu
    |succ i =>
     refine hr' i j Y3 c u (by simpa using hc) hj ?_;rw[← hu];have:i0+1+i=i0+(i+1):=by omega
     rw[this]
def Amh{xs:A2 D}(ho:o.op = .buildSlice t n Bon)(ht:P.underlying t=some (.slice e))
  (hi:P.info? e=some i) (hz:i.zero=some z) (Hc:i.size=sz) (hx:xs.length=n) (Az5:Bon.toList.map (·.1)=List.range n) (Je:(xs.all fun x=>A6q (.d x)&&x.cells.length==sz)=true)
  (Zu:n*sz≤16777216):Bi P o ((Bon.toList.map (·.2)).zip (xs.map .d)) X X [] (.d (.sl sz (xs.map D.cells))):=by
 subst Hc;intro nm Ej B g w a hr Au next Q hn
 have hpl:Bon.toList.length=n:=by rw[← Bpl (f:=(·.1)),Az5,Bvf]
 unfold Oper.wp;have B8r:∀(j:Nat) p x,Bon.toList[j]? = some p→xs[j]? = some x→RA g w (.d x) (a.eval p.2):=by
  intro j p x hp hx';exact Au (p.2,.d x) (Bpu (i:=j) (by
   rw[Bsa];exact⟨by rw[Bp1,hp];rfl,by rw[Bp1,hx'];rfl⟩))
 have Ahw:∀(j:Nat) x,xs[j]? = some x→A6q (.d x)=true∧x.cells.length=i.size:=by intro j x hx';have:=Bqb.1 Je x (Bpu hx');simpa using this
 generalize A2f:((Array.range (n*i.size)).map fun x=>(if n*i.size=0 then #[]else z.cells)[x % (if n*i.size=0 then #[]else z.cells).size]!)=Aa9;have Ahx:Aa9.size=n*i.size:=by subst A2f;simp
 obtain⟨Cc,A7h,Gu,_,hc'⟩:=A80 (g:=g) (w:=w) (sz:=i.size) (Bon.toList.map fun p=>(p.1,a.eval p.2)) (xs.map D.cells) 0 Aa9 (by simp[hpl,hx]) (by
  intro j p hp;rw[Bp1,Bp8]at hp;obtain⟨q,hq,rfl⟩:=hp;have hj:j<n:=by have:=(Bp2.1 hq).1;omega
  have:(Bon.toList.map (·.1))[j]? = some q.1:=by rw[Bp1,hq];rfl
  rw[Az5,Bu6 hj]at this;simp at this;simp[this]) (by
  intro j p cs hp Rq;rw[Bp1,Bp8]at hp Rq;obtain⟨q,hq,rfl⟩:=hp;obtain⟨x,hx',rfl⟩:=Rq;obtain⟨f1,f2⟩:=Ahw j x hx';obtain⟨c1,c2⟩:=(B8r j q x hq hx').cells f1;have hcl:(AV.d x).cells.length=x.cells.length:=by simp[AV.cells]
  refine⟨f2,by simp only;omega,?_⟩;intro k c u hk hu;have:=c2 k (.d c) u (by simp[AV.cells,hk]) hu;cases this with
  |d _ _ h=>exact h) (by simp[hpl,Ahx])
 have Cg:(execOp a.eval o).run P w = .ok (.value (.slice (some ⟨w.heap.size,0,none⟩) n n)) (w.alloc (.cells Cc e)):=by
  simp only[execOp,ho,Instr.buildSlice];have h24:¬(n*i.size>2 ^ 24):=by omega
  by_cases h0:n*i.size=0
  ·have e0:Aa9=#[]:=Bqm (by omega);subst e0;have Pr:Instr.fill (fun j=>some (j*i.size,i.size)) #[] (Bon.toList.map fun p=>(p.1,a.eval p.2))=some Cc:=A7h;have Bjs:¬(0>2 ^ 24):=by omega
   simp only[Bq5,Bpb ht,Bpr,run_sizeOf hi,h0,Brg];simp[Buh,Pr,Go.newRow]
  ·simp only[h0,Bre]at A2f;have Pr:Instr.fill (fun j=>some (j*i.size,i.size)) Aa9 (Bon.toList.map fun p=>(p.1,a.eval p.2))=some Cc:=A7h;simp only[Bq5,Bpb ht,Bpr,run_sizeOf hi,h24,Bre,h0];simp[zeroValue,typeInfo,hi,hz,A2f,Pr,Go.newRow]
 rw[Cg];obtain⟨h1,h2⟩:=hr.newRow Cc e (n*i.size) (by omega);refine hn _ _ _ h1 h2 (.d _ _ ?_);have Ahv:∀k,(w.alloc (.cells Cc e)).cell? ⟨w.heap.size,k,none⟩=Cc[k]?:=fun k=>B6 (Bs1 w (.cells Cc e)) k
 refine .Ox (by simp[hx]) (by simp only[Ac];omega) (Bpa _) ?_ ?_
 ·intro j cs Rq;rw[Bp1,Bp8]at Rq;obtain⟨x,hx',rfl⟩:=Rq;exact(Ahw j x hx').2
 ·intro p q cs c u hp hq hu;rw[Bq7,Ahv]at hu;exact(hc' p q cs c u hp hq (by rw[Bq7];exact hu)).mono h2.le
end
mutual
def Dk(f:Nat→Nat):AV→AV
 |.d x=>.d x
 |.nm k p=>.nm (f k) p
 |.Be n sz es ty=>.Be n sz es ty
 |.Vs n e cs=>.Vs n e cs
 |.F2 l=>.F2 (Db f l)
 |.agg l=>.agg (Db f l)
 |.F1 g l=>.F1 g (Db f l)
def Db(f:Nat→Nat):List AV→List AV
 |[]=>[]
 |x::r=>Dk f x::Db f r
end
mutual
def Cd(ks:List Nat):AV→Bool
 |.d _=>true
 |.nm k _=>ks.contains k
 |.Be _ _ _ _=>false
 |.Vs _ _ _=>false
 |.F2 l=>Bo ks l
 |.agg l=>Bo ks l
 |.F1 _ l=>Bo ks l
def Bo(ks:List Nat):List AV→Bool
 |[]=>true
 |x::r=>Cd ks x&&Bo ks r
end
def Hk{l:A2 AV}(h:Bo ks l=true){i:Nat}{x:AV}(hx:l[i]? = some x):Cd ks x=true:=by
 induction l generalizing i with
 |nil=>simp at hx
 |cons y r ih =>
  simp only[Bo,Bq4]at h;cases i with
  |zero=>simp at hx;subst hx;exact h.1
  |succ i=>exact ih h.2 (by simpa using hx)
def G3(f:Nat→Nat)(l:A2 AV):Db f l=l.map (Dk f):=by
 induction l with
 |nil=>rfl
 |cons x r ih=>simp[Db,ih]
theorem RA.Ahy(hγ:gc.γ=g.γ)(hρ:∀k∈ks,gc.ρ k=g.ρ (f k)):∀(x:AV) (v:Value),Cd ks x=true→RA g w (Dk f x) v→RA gc w x v
 |.d x,v,_,h=>by
  simp only[Dk]at h;cases h with
  |d _ _ h=>exact .d _ _ (hγ▸h)
 |.nm k p,v,hn,h=>by
  simp only[Dk]at h;have hk:k∈ks:=by simpa[Cd]using hn
  cases h with
  |nm _ _ _ h=>exact .nm k p v (by rw[hρ k hk];exact h)
 |.Be n sz es ty,v,hn,h=>by simp[Cd]at hn
 |.Vs n e cs,v,hn,h=>by simp[Cd]at hn
 |.F2 l,v,hn,h=>by
  simp only[Dk,G3]at h;cases h with
  |F2 _ vs hl hx =>
   refine .F2 l vs (by simpa using hl) fun i x v h1 h2=>?_
   have:SizeOf.sizeOf x<SizeOf.sizeOf l:=Br6 (Bpu h1);exact RA.Ahy hγ hρ x v (Hk (by simpa[Cd]using hn) h1) (hx i _ v (by rw[Bp1,h1];rfl) h2)
 |.agg l,v,hn,h=>by
  simp only[Dk,G3]at h;cases h with
  |agg _ vs hl hx =>
   refine .agg l vs (by simpa using hl) fun i x v h1 h2=>?_
   have:SizeOf.sizeOf x<SizeOf.sizeOf l:=Br6 (Bpu h1);exact RA.Ahy hγ hρ x v (Hk (by simpa[Cd]using hn) h1) (hx i _ v (by rw[Bp1,h1];rfl) h2)
 |.F1 c l,v,hn,h=>by
  simp only[Dk,G3]at h;cases h with
  |F1 _ _ vs hl hx =>
   refine .F1 c l vs (by simpa using hl) fun i x v h1 h2=>?_
   have:SizeOf.sizeOf x<SizeOf.sizeOf l:=Br6 (Bpu h1);exact RA.Ahy hγ hρ x v (Hk (by simpa[Cd]using hn) h1) (hx i _ v (by rw[Bp1,h1];rfl) h2)
termination_by x=>x
def RA.Ant(hγ:gc.γ=g.γ)(hρ:∀k∈ks,g.ρ (f k)=gc.ρ k){x:AV}(h:RA gc w x v)(hn:Cd ks x=true):RA g w (Dk f x) v:=by
 induction h with
 |d x v h=>simp only[Dk];exact .d _ _ (hγ▸h)
 |nm k p v h =>
  have hk:k∈ks:=by simpa[Cd]using hn
  simp only[Dk];exact .nm _ _ _ (by rw[hρ k hk];exact h)
 |Be=>simp[Cd]at hn
 |Vs=>simp[Cd]at hn
 |F2 l vs hl _ ih =>
  simp only[Dk,G3];refine .F2 _ vs (by simpa using hl) fun i x v h1 h2=>?_
  rw[Bp1,Bp8]at h1;obtain⟨y,hy,rfl⟩:=h1;exact ih i y v hy h2 (Hk (by simpa[Cd]using hn) hy)
 |agg l vs hl _ ih =>
  simp only[Dk,G3];refine .agg _ vs (by simpa using hl) fun i x v h1 h2=>?_
  rw[Bp1,Bp8]at h1;obtain⟨y,hy,rfl⟩:=h1;exact ih i y v hy h2 (Hk (by simpa[Cd]using hn) hy)
 |F1 c l vs hl _ ih =>
  simp only[Dk,G3];refine .F1 c _ vs (by simpa using hl) fun i x v h1 h2=>?_
  rw[Bp1,Bp8]at h1;obtain⟨y,hy,rfl⟩:=h1;exact ih i y v hy h2 (Hk (by simpa[Cd]using hn) hy)
def E6(f:Nat→Nat):Ob→Ob
 |.cells cs ty=>.cells (Db f cs) ty
 |.map l c=>.map l c
 |.Vt s pos=>.Vt s pos
 |.Jo k since seen last=>.Jo (f k) since seen last
 |.Dl=>.Dl
 |.Cf L sz l c=>.Cf L sz l c
def Iu(ks:A2 Nat):Ob→Bool
 |.cells cs _=>Bo ks cs
 |.map _ _=>true
 |.Vt _ _=>true
 |.Jo k _ _ _=>ks.contains k
 |.Dl=>true
 |.Cf _ _ _ _=>false
theorem Bv.Ahy(hγ:gc.γ=g.γ)(hρ:∀k∈ks,gc.ρ k=g.ρ (f k))(hn:Iu ks o=true)(h:Bv g w b (E6 f o)):Bv gc w b o:=by
 cases o with
 |cells cs ty =>
  simp only[E6,G3]at h;cases h with
  |cells _ _ arr T hb hl hc h4 =>refine .cells cs ty arr T hb (by simpa using hl) (fun i x v hx hv=>?_) h4;exact RA.Ahy hγ hρ x v (Hk (by simpa[Iu]using hn) hx) (hc i _ v (by rw[Bp1,hx];rfl) hv)
 |map l c =>
  simp only[E6]at h;cases h with
  |map _ _ es hb hl hc h4 h5=>exact .map l c es hb hl (fun i x e hx he=>⟨(hc i x e hx he).1,(hc i x e hx he).2.1,hγ▸(hc i x e hx he).2.2⟩) h4 h5
 |Vt s pos=>simp only[E6]at h;cases h with|Vt _ _ hb=>exact .Vt s pos hb
 |Jo k since seen last =>
  simp only[E6]at h;cases h with
  |Jo _ _ _ _ hb=>exact .Jo k since seen last (by rw[hρ k (Bqc.1 hn)];exact hb)
 |Dl=>simp only[E6]at h;cases h with|Dl hb=>exact .Dl hb
 |Cf L sz l c=>simp[Iu]at hn
theorem Bv.Ant(hγ:gc.γ=g.γ)(hρ:∀k∈ks,g.ρ (f k)=gc.ρ k)(hn:Iu ks o=true)(h:Bv gc w b o):Bv g w b (E6 f o):=by
 cases h with
 |cells cs ty arr T hb hl hc h4 =>simp only[E6,G3];refine .cells _ ty arr T hb (by simpa using hl) (fun i x v hx hv=>?_) h4;rw[Bp1,Bp8]at hx;obtain⟨y,hy,rfl⟩:=hx;exact(hc i y v hy hv).Ant hγ hρ (Hk (by simpa[Iu]using hn) hy)
 |map l c es hb hl hc h4 h5 =>exact .map l c es hb hl (fun i x e hx he=>⟨(hc i x e hx he).1,(hc i x e hx he).2.1,hγ▸(hc i x e hx he).2.2⟩) h4 h5
 |Vt s pos hb=>exact .Vt s pos hb
 |Jo k since seen last hb=>exact .Jo (f k) since seen last (by rw[hρ k (Bqc.1 hn)];exact hb)
 |Dl hb=>exact .Dl hb
 |Cf L sz l c es hb hl hc h4 h5=>simp[Iu]at hn
def nf(σ:A2 (Nat×Nat))(k:Nat):Nat:=(σ.lookup k).getD 0
def Pl(f:Nat→Nat):A2 (Nat×Ob)→A2 (Nat×Ob)→A2 (Nat×Ob)
 |[],acc=>acc
 |p::r,acc=>Pl f r (setObj (f p.1) (E6 f p.2) acc)
theorem Sx{f:Nat→Nat}:∀(l acc:A2 (Nat×Ob)) (j:Nat),(∀p∈l,f p.1≠j)→(Pl f l acc).lookup j=acc.lookup j
 |[],_,_,_=>rfl
 |p::r,acc,j,h=>by
  simp only[Pl];rw[Sx r _ j (fun q hq=>h q (Bp5 _ hq)),Ax,Bpp (Brl (h p Bp6))]
theorem A37{f:Nat→Nat}:∀(l acc:A2 (Nat×Ob)) (p:Nat×Ob),(l.map fun p=>f p.1).Nodup→p∈l→(Pl f l acc).lookup (f p.1)=some (E6 f p.2)
 |[],_,_,_,h=>by simp at h
 |q::r,acc,p,hnd,h=>by
  simp only[Bp3,Bqg]at hnd;simp only[Pl];rcases Boz.1 h with rfl|h
  ·rw[Sx r _ _ (fun q hq he=>hnd.1 (by rw[← he];exact Bpe (f:=fun p:Nat×Ob=>f p.1) hq)),Ax,Bq6 rfl]
  ·exact A37 r _ p hnd.2 h
theorem B5{α:Type}:∀ {l:A2 (Nat×α)} {k:Nat} {x:α},(l.map (·.1)).Nodup→(k,x)∈l→l.lookup k=some x
 |[],_,_,_,h=>by simp at h
 |(j,y)::r,k,x,hnd,h=>by
  simp only[Bp3,Bqg]at hnd;rw[Bqa];rcases Boz.1 h with h'|h'
  ·cases h';simp
  ·have hne:k≠j:=by rintro rfl;exact hnd.1 (Bpe (f:=(·.1)) h')
   have:(k==j)=false:=by simpa using hne
   rw[this];exact B5 hnd.2 h'
structure Ah6(X Xc Cw:A5)(f:Nat→Nat)(F:List Nat):Prop where
 live:Xc.live=[]∧Cw.live=[]
 Tf:∀p∈Xc.objs,X.objs.lookup (f p.1)=some (E6 f p.2)
 Aq6:(Xc.objs.all fun p=>Iu (Xc.objs.map (·.1)) p.2)=true
 Ahz:(Cw.objs.all fun p=>Iu (Cw.objs.map (·.1)) p.2)=true
 nodup:(Cw.objs.map fun p=>f p.1).Nodup
 Az6:(Xc.objs.map (·.1)).Nodup
 new:∀p∈Cw.objs,p.1∈Xc.objs.map (·.1)∨(f p.1∈F∧X.objs.lookup (f p.1)=none)
 sub:∀p∈Xc.objs,p.1∈Cw.objs.map (·.1)
 free:B1 F X=true
theorem Jf{α β:Type}{f:α→β}:∀ {l:A2 α},(l.map f).Nodup→∀ {x y:α},x∈l→y∈l→f x=f y→x=y
 |[],_,_,_,h,_,_=>by simp at h
 |a::r,hnd,x,y,hx,hy,he=>by
  simp only[Bp3,Bqg]at hnd;rcases Boz.1 hx with hx'|hx'<;>rcases Boz.1 hy with hy'|hy'
  ·rw[hx',hy']
  ·rw[hx']at he;exact(hnd.1 (he▸Bpe (f:=f) hy')).elim
  ·rw[hy']at he;exact(hnd.1 (he▸Bpe (f:=f) hx')).elim
  ·exact Jf hnd.2 hx' hy' he
theorem Z7{α β γ:Type}{f:α→β}{h:β→γ}:∀ {l:A2 α},(l.map fun x=>h (f x)).Nodup→(l.map f).Nodup
 |[],_=>by simp
 |a::r,hnd=>by
  simp only[Bp3,Bqg]at hnd⊢;refine⟨fun hm=>hnd.1 ?_,Z7 hnd.2⟩;obtain⟨x,hx,he⟩:=Bpc.1 hm;rw[← he];exact Bpe (f:=fun x=>h (f x)) hx
section
variable{P:Program}{X:A5}
def Mj.Bhe(hs:Mj P fn xs Xc res Cw)(hc:Ah6 X Xc Cw f F)
  (hd:Bo (Xc.objs.map (·.1)) xs=true) (Vv:Cd (Cw.objs.map (·.1)) res=true) {nm:A2 Nat}   
  (hr:HR nm B g w X)  (hl:xs.length=vs.size) (Pk:∀(i:Nat) x v,(Db f xs)[i]? = some x→vs[i]? = some v→RA g w x v) :
  Calls P fn vs w fun e w'=>∃v g',e = .returned v∧HR nm B g' w' ⟨Pl f Cw.objs X.objs,X.live⟩∧Trans F g w g' w'∧RA g' w' (Dk f res) v:=by
 let gc:Gh:={ γ:=g.γ,β:=fun _=>none,ρ:=fun k=>g.ρ (f k) };have Mk:∀k o,Xc.objs.lookup k=some o→X.objs.lookup (f k)=some (E6 f o):=fun k o hk=>hc.Tf _ (Da hk)
 have Aq7:∀p∈Cw.objs,∀q∈Cw.objs,f p.1=f q.1→p=q:=fun p hp q hq he=>Jf hc.nodup hp hq he
 have Ad4:(Cw.objs.map (·.1)).Nodup:=Z7 (h:=f) hc.nodup;have Aaa:∀k o,Xc.objs.lookup k=some o→∃p∈Cw.objs,p.1=k:=by intro k o hk;obtain⟨p,hp,he⟩:=Bpc.1 (hc.sub _ (Da hk));exact⟨p,hp,he⟩
 have h0:HR (Xc.objs.map (·.1)) (B8.of gc w Xc) gc w Xc:=by
  refine⟨?_,hr.Ip,Bpa _,⟨rfl,rfl,rfl,Bpa _⟩,.refl _ _,fun b _ _=>⟨rfl,rfl⟩,?_,?_,?_,?_,?_,by simp[gc],by simp[gc],by simp[gc],by simp[gc],.off fun _=>rfl⟩
  ·intro k hk;refine⟨rfl,?_⟩;obtain⟨p,hp,rfl⟩:=Bpc.1 hk;rw[B5 hc.Az6 (x:=p.2) hp];rfl
  ·intro k o hk;exact Bv.Ahy (g:=g) (gc:=gc) (f:=f) (ks:=Xc.objs.map (·.1)) rfl (fun _ _=>rfl) (Bqb.1 hc.Aq6 _ (Da hk)) (hr.objs _ _ (Mk k o hk))
  ·intro k o hk;exact hr.Fq _ _ (Mk k o hk)
  ·intro k k' o o' hk Lb he;have h1:=hr.Br _ _ _ _ (Mk k o hk) (Mk k' o' Lb) he;obtain⟨p,hp,e1⟩:=Aaa k o hk;obtain⟨q,hq,e2⟩:=Aaa k' o' Lb;have:=Aq7 p hp q hq (by rw[e1,e2];exact h1);rw[← e1,← e2,this]
  ·intro k o hk;exact .inr (.inl ⟨k,o,hk,rfl⟩)
  ·intro n;rw[hc.live.1];simp[gc]
 have:=hs gc w vs h0 hl fun i x v hx hv=>RA.Ahy (g:=g) (gc:=gc) (ks:=Xc.objs.map (·.1)) rfl (fun _ _=>rfl) x v (Hk hd hx) (Pk i _ v (by rw[G3,Bp1,hx];rfl) hv)
 refine this.mono ?_;rintro e w' ⟨g1,v,rfl,Ua,h1⟩;let ρ':Nat→Nat:=fun j=>match Cw.objs.find? (fun p=>f p.1==j) with
  |some p=>g1.ρ p.1
  |none=>g.ρ j
 have Hr:∀p∈Cw.objs,ρ' (f p.1)=g1.ρ p.1:=by
  intro p hp;have Gu:(Cw.objs.find? (fun q=>f q.1==f p.1)).isSome=true:=by rw[Bvg];exact⟨p,hp,by simp⟩
  obtain⟨q,hq⟩:=Bps.1 Gu;have hq1:=Bvx hq;have hq2:=Bu8 hq;simp only[Btr]at hq1;have:=Aq7 q hq2 p hp hq1;simp only[ρ',hq,this]
 have D5:∀j,(∀p∈Cw.objs,f p.1≠j)→ρ' j=g.ρ j:=by
  intro j hj;have:Cw.objs.find? (fun p=>f p.1==j)=none:=by rw[Bv7];intro p hp;simpa using hj p hp
  simp only[ρ',this]
 have A81:∀j,(∃p∈Cw.objs,f p.1=j)∨(∀p∈Cw.objs,f p.1≠j):=by
  intro j;by_cases h:∃p∈Cw.objs,f p.1=j
  ·exact .inl h
  ·exact .inr fun p hp he=>h ⟨p,hp,he⟩
 have hold:∀k,k∈Xc.objs.map (·.1)→g1.ρ k=g.ρ (f k):=fun k hk=>(h1.D4 k hk).1
 have hna:∀b,(¬ ∃k o,Xc.objs.lookup k=some o∧g.ρ (f k)=b)→¬(B8.of gc w Xc).allowed b:=by
  rintro b hb (⟨k,o,hk,he⟩|⟨n,hn⟩)
  ·exact hb ⟨k,o,hk,he⟩
  ·cases hn
 have Qs:∀b,b<w.heap.size→(¬ ∃k o,Xc.objs.lookup k=some o∧g.ρ (f k)=b)→w'.heap[b]? = w.heap[b]?∧g1.γ b=g.γ b:=fun b hb hn=>h1.frame b hb (hna b hn)
 have Hc:w.heap.size≤w'.heap.size:=h1.base;have hle:LeD g.γ w g1.γ w':=h1.le;have A38:∀n b,g.β n=some (some b)→w'.heap[b]? = w.heap[b]?∧g1.γ b=g.γ b:=by intro n b hn;refine Qs b (hr.C7 n b hn) ?_;rintro ⟨k,o,hk,he⟩;exact hr.Ba n b _ _ hn (Mk k o hk) he.symm
 have A39:∀L i b,(g.β L).isSome→g.η L i=some b→w'.heap[b]? = w.heap[b]?∧g1.γ b=g.γ b:=by intro L i b hL hb;refine Qs b (hr.eta.lt L i b hL hb) ?_;rintro ⟨k,o,hk,he⟩;exact hr.eta.obj L i b _ _ hL hb (Mk k o hk) he.symm
 have A3a:∀j o,X.objs.lookup j=some o→(∀p∈Cw.objs,f p.1≠j)→w'.heap[g.ρ j]? = w.heap[g.ρ j]?∧g1.γ (g.ρ j)=g.γ (g.ρ j):=by intro j o hj hne;refine Qs _ (Et (hr.objs j o hj)) ?_;rintro ⟨k,o',hk,he⟩;have:=hr.Br _ _ _ _ (Mk k o' hk) hj he;obtain⟨p,hp,e1⟩:=Aaa k o' hk;exact hne p hp (by rw[e1];exact this)
 have Ah7:∀p∈Cw.objs,p.1∉Xc.objs.map (·.1)→w.heap.size≤g1.ρ p.1:=by
  intro p hp Bmb;have hlp:Cw.objs.lookup p.1=some p.2:=B5 Ad4 hp;rcases h1.Ca _ _ hlp with h|h|⟨n,hn⟩
  ·exact h
  ·obtain⟨k,o,hk,he⟩:=h;exfalso;obtain⟨q,hq,e1⟩:=Aaa k o hk;have hlq:Cw.objs.lookup q.1=some q.2:=B5 Ad4 hq;have hkm:k∈Xc.objs.map (·.1):=Bpe (f:=(·.1)) (Da hk);have:g1.ρ q.1=g1.ρ p.1:=by rw[e1,hold k hkm];exact he
   have:=h1.Br _ _ _ _ hlq hlp this;exact Bmb (this▸e1▸hkm)
  ·cases hn
 have ht:Trans F g w { γ:=g1.γ,β:=g.β,ρ:=ρ',η:=g.η } w':=by
  refine⟨hle,?_,fun n ob _ he=>⟨he,fun b hb=>⟨(A38 n b (hb▸he)).2,(A38 n b (hb▸he)).1⟩⟩,fun L _ hL=>⟨rfl,fun i b hb=>⟨(A39 L i b hL hb).2,(A39 L i b hL hb).1⟩⟩⟩;intro j hj;simp only;rcases A81 j with ⟨p,hp,rfl⟩|hne
  ·rw[Hr p hp];rcases hc.new p hp with h|⟨h,_⟩
   ·exact hold _ h
   ·exact(hj h).elim
  ·exact D5 j hne
 have hX':∀j o,(Pl f Cw.objs X.objs).lookup j=some o→(∃p∈Cw.objs,f p.1=j∧o=E6 f p.2)∨((∀p∈Cw.objs,f p.1≠j)∧X.objs.lookup j=some o):=by
  intro j o hj;rcases A81 j with ⟨p,hp,rfl⟩|hne
  ·rw[A37 _ _ p hc.nodup hp]at hj;exact .inl ⟨p,hp,rfl,by simpa using hj.symm⟩
  ·rw[Sx _ _ _ hne]at hj;exact .inr ⟨hne,hj⟩
 have Ai0:∀k∈Cw.objs.map (·.1),ρ' (f k)=g1.ρ k:=by intro k hk;obtain⟨p,hp,rfl⟩:=Bpc.1 hk;exact Hr p hp
 refine⟨v,{ γ:=g1.γ,β:=g.β,ρ:=ρ',η:=g.η },rfl,⟨?_,h1.Ip,Bqf hr.base Hc,⟨h1.io.1.trans hr.io.1,h1.io.2.1.trans hr.io.2.1,h1.io.2.2.1.trans hr.io.2.2.1,Bqf hr.io.2.2.2 h1.io.2.2.2⟩,hr.le.trans hle,?_,?_,?_,?_,?_,hr.live,hr.Bw,?_,hr.C3,?_,hr.eta.step (fun L hL=>.inl ⟨hL,rfl⟩) Hc (fun n b hb=>.inl ⟨n,hb⟩) fun j o hj=>?_⟩,ht,?_⟩
 ·intro k hk;obtain⟨h2,h3⟩:=hr.D4 k hk;rcases A81 k with ⟨p,hp,rfl⟩|hne
  ·refine⟨?_,by simp only;rw[A37 _ _ p hc.nodup hp];rfl⟩;simp only;rw[Hr p hp];rcases hc.new p hp with h|⟨_,h⟩
   ·rw[hold _ h];exact h2
   ·rw[h]at h3;cases h3
  ·exact⟨by simp only;rw[D5 k hne];exact h2,by simp only;rw[Sx _ _ _ hne];exact h3⟩
 ·intro b hb hnb;have h2:=hr.frame b hb hnb;have h3:=Qs b (Bqv hb hr.base) (by
   rintro ⟨k,o,hk,he⟩;rcases hr.Ca _ _ (Mk k o hk)with h|h
   ·rw[he]at h;omega
   ·rw[he]at h;exact hnb h)
  exact⟨h3.1.trans h2.1,h3.2.trans h2.2⟩
 ·intro j o hj;rcases hX' j o hj with ⟨p,hp,rfl,rfl⟩|⟨hne,Gb⟩
  ·simp only;rw[Hr p hp];exact Bv.Ant (g:={ γ:=g1.γ,β:=g.β,ρ:=ρ',η:=g.η }) (gc:=g1) rfl Ai0 (Bqb.1 hc.Ahz _ hp) (h1.objs _ _ (B5 Ad4 hp))
  ·simp only;rw[D5 j hne];exact(hr.objs j o Gb).D4 ht (A3a j o Gb hne).1 (Hj hc.free Gb)
 ·intro j o hj;rcases hX' j o hj with ⟨p,hp,rfl,rfl⟩|⟨hne,Gb⟩
  ·simp only;rw[Hr p hp];exact h1.Fq _ _ (B5 Ad4 hp)
  ·simp only;rw[D5 j hne,(A3a j o Gb hne).2];exact hr.Fq j o Gb
 ·intro j j' o o' hj Gb he;simp only at he;have mix:∀p∈Cw.objs,∀j o,X.objs.lookup j=some o→(∀p∈Cw.objs,f p.1≠j)→g1.ρ p.1≠g.ρ j:=by
   intro p hp j o hj hne he;by_cases Vu:p.1∈Xc.objs.map (·.1)
   ·rw[hold _ Vu]at he;obtain⟨q,hq,e1⟩:=Bpc.1 Vu;have h4:=hc.Tf q hq;rw[e1]at h4;exact hne p hp (hr.Br _ _ _ _ h4 hj he)
   ·have h5:=Ah7 p hp Vu;have h6:=Et (hr.objs j o hj);omega
  rcases hX' j o hj with ⟨p,hp,e1,_⟩|⟨hne,hj1⟩<;>rcases hX' j' o' Gb with ⟨q,hq,e2,_⟩|⟨Ub,Auw⟩
  ·rw[← e1,← e2]at he⊢;rw[Hr p hp,Hr q hq]at he;rw[h1.Br _ _ _ _ (B5 Ad4 hp) (B5 Ad4 hq) he]
  ·rw[← e1,Hr p hp,D5 j' Ub]at he;exact(mix p hp j' o' Auw Ub he).elim
  ·rw[← e2,Hr q hq,D5 j hne]at he;exact(mix q hq j o hj1 hne he.symm).elim
  ·rw[D5 j hne,D5 j' Ub]at he;exact hr.Br j j' o o' hj1 Auw he
 ·intro j o hj;rcases hX' j o hj with ⟨p,hp,rfl,rfl⟩|⟨hne,Gb⟩
  ·simp only;rw[Hr p hp];by_cases Vu:p.1∈Xc.objs.map (·.1)
   ·rw[hold _ Vu];obtain⟨q,hq,e1⟩:=Bpc.1 Vu;have h4:=hc.Tf q hq;rw[e1]at h4;exact hr.Ca _ _ h4
   ·exact .inl (Bqf hr.base (Ah7 p hp Vu))
  ·simp only;rw[D5 j hne];exact hr.Ca j o Gb
 ·intro n b j o hn hj;rcases hX' j o hj with ⟨p,hp,rfl,rfl⟩|⟨hne,Gb⟩
  ·simp only;rw[Hr p hp];by_cases Vu:p.1∈Xc.objs.map (·.1)
   ·rw[hold _ Vu];obtain⟨q,hq,e1⟩:=Bpc.1 Vu;have h4:=hc.Tf q hq;rw[e1]at h4;exact hr.Ba n b _ _ hn h4
   ·have:=Ah7 p hp Vu;have:=hr.C7 n b hn;omega
  ·simp only;rw[D5 j hne];exact hr.Ba n b j o hn Gb
 ·intro n b hn;exact Bqv (hr.C7 n b hn) Hc
 ·rcases hX' j o hj with ⟨p,hp,rfl,rfl⟩|⟨hne,Gb⟩
  ·simp only;rw[Hr p hp];by_cases Vu:p.1∈Xc.objs.map (·.1)
   ·rw[hold _ Vu];obtain⟨q,hq,e1⟩:=Bpc.1 Vu;have h4:=hc.Tf q hq;rw[e1]at h4;exact .inl ⟨_,_,h4,rfl⟩
   ·exact .inr (.inl (Ah7 p hp Vu))
  ·simp only;rw[D5 j hne];exact .inl ⟨j,o,Gb,rfl⟩
 ·exact RA.Ant (g:={ γ:=g1.γ,β:=g.β,ρ:=ρ',η:=g.η }) (gc:=g1) rfl Ai0 Ua Vv
def Afe{o:Oper}(σ:A2 (Nat×Nat))(F:A2 Nat)
  (ho:o.op = .call { callee:=.value (.func fn),args:=args,argTypes:=ts }) (hf:Ed P fn) (hs:Mj P fn xs Xc res Cw) (hc:Ah6 X Xc Cw (nf σ) F)
  (hl:xs.length=args.size) (hd:Bo (Xc.objs.map (·.1)) xs=true) (Vv:Cd (Cw.objs.map (·.1)) res=true) :
  Bi P o (args.toList.zip (Db (nf σ) xs)) X ⟨Pl (nf σ) Cw.objs X.objs,X.live⟩ F (Dk (nf σ) res):=by
 intro nm Ej B g w a hr Au next Q hn
 unfold Oper.wp;have:(execOp a.eval o).run P w = .ok (.enter fn (args.map a.eval)) w:=by simp only[execOp,ho,resolve];simp[Act.eval,Deferred.ofValue,invoke,D0 hf]
 rw[this];refine(hs.Bhe hc hd Vv hr (by simpa using hl) (Wd Au)).mono ?_;rintro e w' ⟨v,g',rfl,h1,h2,h3⟩;exact hn g' w' v h1 h2 h3
end
inductive Ms where
 |none
 |look (ks:List Nat)
 |put (k:Nat) (c:Ob)
 |all (X:A5)
 |lab (L:List Nat)
 |O7 (k:Nat) (c:Ob) (L:List Nat)
 |new (os:List (Nat×Ob)) (L:List Nat)
def Ms.apply:Ms→A5→A5
 |.put k c,X=>⟨setObj k c X.objs,X.live⟩
 |.all X',_=>X'
 |.lab L,X=>⟨X.objs,L⟩
 |.O7 k c L,X=>⟨setObj k c X.objs,L⟩
 |.new os L,X=>⟨os++X.objs,L⟩
 |_,X=>X
def Ms.writes(k:Nat):Ms→Bool
 |.put j _=>j==k
 |.O7 j _ _=>j==k
 |.new os _=>(os.lookup k).isSome
 |.all _=>true
 |_=>false
def Ms.Uq:Ms→Ms→Bool
 |.none,_|_,.none=>false
 |.look _,.look _=>false
 |.look js,.put k _|.put k _,.look js=>js.contains k
 |.look js,.O7 k _ _|.O7 k _ _,.look js=>js.contains k
 |.look _,.lab _|.lab _,.look _=>false
 |.look js,.new os _|.new os _,.look js=>js.any fun k=>(os.lookup k).isSome
 |.put j _,.put k _=>j==k
 |_,_=>true
structure It where
 o:Oper
 run:Bool
 rd:List (Operand×AV)
 Ur:Ms
 F:List Nat
 res:AV
inductive G4(P:Program)(S:Sig)(ops:Array Oper):Nat→St→List It→St→Prop
 |nil (i:Nat) (st:St):G4 P S ops i st [] st
 |op {i:Nat} {o:Oper} {st Bd:St} {rd:List (Operand×AV)} {res:AV} {Ar:List It} :
   ops[i]? = some o→Guard ops st o.guard true→(∀p∈rd,Dx st p.1 p.2)→(∀X,Bi P o rd X X [] res)→Jl S.N o.dst=true →
   G4 P S ops (i+1) ⟨Dm o.dst res st.env,st.X⟩ Ar Bd→G4 P S ops i st (⟨o,true,rd,.none,[],res⟩::Ar) Bd
 |look {i:Nat} {o:Oper} {st Bd:St} {rd:List (Operand×AV)} {res:AV} {Ar:List It} {ks:List Nat} :
   ops[i]? = some o→Guard ops st o.guard true→(∀p∈rd,Dx st p.1 p.2)→(∀X:A5,(∀k∈ks,X.objs.lookup k=st.X.objs.lookup k)→Bi P o rd X X [] res)→Jl S.N o.dst=true →
   G4 P S ops (i+1) ⟨Dm o.dst res st.env,st.X⟩ Ar Bd→G4 P S ops i st (⟨o,true,rd,.look ks,[],res⟩::Ar) Bd
 |put {i:Nat} {o:Oper} {st Bd:St} {rd:List (Operand×AV)} {res:AV} {Ar:List It} {k:Nat} {c:Ob} :
   ops[i]? = some o→Guard ops st o.guard true→(∀p∈rd,Dx st p.1 p.2) →
   (∀X,X.objs.lookup k=st.X.objs.lookup k→Bi P o rd X ⟨setObj k c X.objs,X.live⟩ [] res)→Jl S.N o.dst=true →
   G4 P S ops (i+1) ⟨Dm o.dst res st.env,⟨setObj k c st.X.objs,st.X.live⟩⟩ Ar Bd→G4 P S ops i st (⟨o,true,rd,.put k c,[],res⟩::Ar) Bd
 |Ur {i:Nat} {o:Oper} {st Bd:St} {rd:List (Operand×AV)} {res:AV} {Ar:List It} {X':A5} {F:List Nat} :
   ops[i]? = some o→Guard ops st o.guard true→(∀p∈rd,Dx st p.1 p.2)→Bi P o rd st.X X' F res→Jl S.N o.dst=true →
   G4 P S ops (i+1) ⟨Dm o.dst res st.env,X'⟩ Ar Bd→G4 P S ops i st (⟨o,true,rd,.all X',F,res⟩::Ar) Bd
 |lab {i:Nat} {o:Oper} {st Bd:St} {rd:List (Operand×AV)} {res:AV} {Ar:List It} {L:List Nat} {F:List Nat} :
   ops[i]? = some o→Guard ops st o.guard true→(∀p∈rd,Dx st p.1 p.2)→Bi P o rd st.X ⟨st.X.objs,L⟩ F res→Jl S.N o.dst=true →
   G4 P S ops (i+1) ⟨Dm o.dst res st.env,⟨st.X.objs,L⟩⟩ Ar Bd→G4 P S ops i st (⟨o,true,rd,.lab L,F,res⟩::Ar) Bd
 |O7 {i:Nat} {o:Oper} {st Bd:St} {rd:List (Operand×AV)} {res:AV} {Ar:List It} {k:Nat} {c:Ob} {L:List Nat} {F:List Nat} :
   ops[i]? = some o→Guard ops st o.guard true→(∀p∈rd,Dx st p.1 p.2)→Bi P o rd st.X ⟨setObj k c st.X.objs,L⟩ F res→Jl S.N o.dst=true →
   G4 P S ops (i+1) ⟨Dm o.dst res st.env,⟨setObj k c st.X.objs,L⟩⟩ Ar Bd→G4 P S ops i st (⟨o,true,rd,.O7 k c L,F,res⟩::Ar) Bd
 |new {i:Nat} {o:Oper} {st Bd:St} {rd:List (Operand×AV)} {res:AV} {Ar:List It} {os:List (Nat×Ob)} {L:List Nat} {F:List Nat} :
   ops[i]? = some o→Guard ops st o.guard true→(∀p∈rd,Dx st p.1 p.2)→Bi P o rd st.X ⟨os++st.X.objs,L⟩ F res→Jl S.N o.dst=true →
   G4 P S ops (i+1) ⟨Dm o.dst res st.env,⟨os++st.X.objs,L⟩⟩ Ar Bd→G4 P S ops i st (⟨o,true,rd,.new os L,F,res⟩::Ar) Bd
 |skip {i:Nat} {o:Oper} {st Bd:St} {Ar:List It} :
   ops[i]? = some o→Guard ops st o.guard false→Jl S.N o.dst=true →
   G4 P S ops (i+1) ⟨Dm o.dst (.d (.sc undef)) st.env,st.X⟩ Ar Bd→G4 P S ops i st (⟨o,false,[],.none,[],.d (.sc undef)⟩::Ar) Bd
def E(base:Nat→A3 AV)(Ar:A2 It)(D:Nat→Bool):Nat→Nat→A3 AV
 |0,t=>base t
 |m+1,t=>match Ar[m]? with
  |some it=>if D m&&(it.o.dst==some t)then some it.res else E base Ar D m t
  |none=>E base Ar D m t
def XE(X0:A5)(Ar:A2 It)(D:Nat→Bool):Nat→A5
 |0=>X0
 |m+1=>match Ar[m]? with
  |some it=>if D m then it.Ur.apply (XE X0 Ar D m)else XE X0 Ar D m
  |none=>XE X0 Ar D m
structure Bdf(P:Program)(S:Sig)(ops:Array Oper)(i:Nat)(it:It)(st:St):Prop where
 at_:ops[i]? = some it.o
 dst:Jl S.N it.o.dst=true
 guard:Guard ops st it.o.guard it.run
 Rr:∀p∈it.rd,Dx st p.1 p.2
 opt:it.run=true→match it.Ur with
  |.none=>it.F=[]∧∀X,Bi P it.o it.rd X X [] it.res
  |.look ks=>it.F=[]∧∀X:A5,(∀k∈ks,X.objs.lookup k=st.X.objs.lookup k)→Bi P it.o it.rd X X [] it.res
  |.put k c=>it.F=[]∧∀X,X.objs.lookup k=st.X.objs.lookup k→Bi P it.o it.rd X ⟨setObj k c X.objs,X.live⟩ [] it.res
  |.all X'=>Bi P it.o it.rd st.X X' it.F it.res
  |.lab L=>Bi P it.o it.rd st.X ⟨st.X.objs,L⟩ it.F it.res
  |.O7 k c L=>Bi P it.o it.rd st.X ⟨setObj k c st.X.objs,L⟩ it.F it.res
  |.new os L=>Bi P it.o it.rd st.X ⟨os++st.X.objs,L⟩ it.F it.res
 Bdg:it.run=false→it.Ur = .none∧it.F=[]∧it.res = .d (.sc undef)
theorem Aq8(base:Nat→A3 AV)(it:It)(Ar:A2 It)(D:Nat→Bool):∀(m t:Nat),
  E (fun t=>if D 0&&(it.o.dst==some t)then some it.res else base t) Ar (fun k=>D (k+1)) m t=E base (it::Ar) D (m+1) t
 |0,t=>by simp[E]
 |m+1,t=>by
  have ih:=Aq8 base it Ar D m t
  conv=>lhs;unfold E
  rw[ih]
  conv=>rhs;unfold E
  simp
theorem Ai1(X0:A5)(it:It)(Ar:A2 It)(D:Nat→Bool):∀(m:Nat),
  XE (if D 0 then it.Ur.apply X0 else X0) Ar (fun k=>D (k+1)) m=XE X0 (it::Ar) D (m+1)
 |0=>by simp[XE]
 |m+1=>by
  have ih:=Ai1 X0 it Ar D m
  conv=>lhs;unfold XE
  rw[ih]
  conv=>rhs;unfold XE
  simp
def A7j(dst:A3 Tmp)(x:AV)(env:A2 (Nat×AV))(t:Nat):(Dm dst x env).lookup t=if dst==some t then some x else env.lookup t:=by
 cases dst with
 |none=>rfl
 |some d =>
  simp only[Dm,Bqa];by_cases h:t=d
  ·subst h;simp
  ·have h1:(t==d)=false:=by simpa using h
   have h2:(some d==some t)=false:=by simpa using Brl h
   rw[h1,h2];rfl
variable{Ar:A2 It}
def G4.items{i:Nat}(h:G4 P S ops i st Ar Bd) :
  (∀m it,Ar[m]? = some it→∃stm,Bdf P S ops (i+m) it stm∧(∀t,stm.env.lookup t=E (fun t=>st.env.lookup t) Ar (fun _=>true) m t)∧stm.X=XE st.X Ar (fun _=>true) m) ∧
  (∀t,Bd.env.lookup t=E (fun t=>st.env.lookup t) Ar (fun _=>true) Ar.length t)∧Bd.X=XE st.X Ar (fun _=>true) Ar.length:=by
 have key:∀ {i:Nat} {st Bd:St} {it:It} {Ar:A2 It} {X1:A5},Bdf P S ops i it st→(X1=it.Ur.apply st.X) →
   ((∀m it',Ar[m]? = some it'→∃stm,Bdf P S ops (i+1+m) it' stm∧(∀t,stm.env.lookup t=E (fun t=>(Dm it.o.dst it.res st.env).lookup t) Ar (fun _=>true) m t)∧stm.X=XE X1 Ar (fun _=>true) m) ∧
    (∀t,Bd.env.lookup t=E (fun t=>(Dm it.o.dst it.res st.env).lookup t) Ar (fun _=>true) Ar.length t)∧Bd.X=XE X1 Ar (fun _=>true) Ar.length) →
   (∀m it',(it::Ar)[m]? = some it'→∃stm,Bdf P S ops (i+m) it' stm∧(∀t,stm.env.lookup t=E (fun t=>st.env.lookup t) (it::Ar) (fun _=>true) m t)∧stm.X=XE st.X (it::Ar) (fun _=>true) m) ∧
    (∀t,Bd.env.lookup t=E (fun t=>st.env.lookup t) (it::Ar) (fun _=>true) (it::Ar).length t)∧Bd.X=XE st.X (it::Ar) (fun _=>true) (it::Ar).length:=by
  intro i st Bd it Ar X1 Je hX ⟨h1,h2,h3⟩;have hb:(fun t=>(Dm it.o.dst it.res st.env).lookup t)=fun t=>if (fun _:Nat=>true) 0&&(it.o.dst==some t)then some it.res else st.env.lookup t:=by funext t;rw[A7j];simp
  have hx:X1=(if (fun _:Nat=>true) 0 then it.Ur.apply st.X else st.X):=by rw[hX];simp
  refine⟨?_,?_,?_⟩
  ·intro m it' hm;cases m with
   |zero=>simp at hm;subst hm;exact⟨st,Je,fun _=>rfl,rfl⟩
   |succ m =>
    obtain⟨stm,k1,k2,k3⟩:=h1 m it' (by simpa using hm);refine⟨stm,by rw[show i+(m+1)=i+1+m by omega];exact k1,fun t=>?_,?_⟩
    ·rw[k2 t,hb];exact Aq8 (fun t=>st.env.lookup t) it Ar (fun _=>true) m t
    ·rw[k3,hx];exact Ai1 st.X it Ar (fun _=>true) m
  ·intro t;rw[h2 t,hb];exact Aq8 (fun t=>st.env.lookup t) it Ar (fun _=>true) Ar.length t
  ·rw[h3,hx];exact Ai1 st.X it Ar (fun _=>true) Ar.length
 induction h with
 |nil i st=>exact⟨by simp,fun _=>rfl,rfl⟩
 |op h1 h2 h3 h4 h5 _ ih=>exact key (it:=⟨_,true,_,.none,[],_⟩) ⟨h1,h5,h2,h3,fun _=>⟨rfl,h4⟩,by simp⟩ rfl ih
 |look h1 h2 h3 h4 h5 _ ih=>exact key (it:=⟨_,true,_,.look _,[],_⟩) ⟨h1,h5,h2,h3,fun _=>⟨rfl,h4⟩,by simp⟩ rfl ih
 |put h1 h2 h3 h4 h5 _ ih=>exact key (it:=⟨_,true,_,.put _ _,[],_⟩) ⟨h1,h5,h2,h3,fun _=>⟨rfl,h4⟩,by simp⟩ rfl ih
 |Ur h1 h2 h3 h4 h5 _ ih=>exact key (it:=⟨_,true,_,.all _,_,_⟩) ⟨h1,h5,h2,h3,fun _=>h4,by simp⟩ rfl ih
 |lab h1 h2 h3 h4 h5 _ ih=>exact key (it:=⟨_,true,_,.lab _,_,_⟩) ⟨h1,h5,h2,h3,fun _=>h4,by simp⟩ rfl ih
 |new h1 h2 h3 h4 h5 _ ih=>exact key (it:=⟨_,true,_,.new _ _,_,_⟩) ⟨h1,h5,h2,h3,fun _=>h4,by simp⟩ rfl ih
 |O7 h1 h2 h3 h4 h5 _ ih=>exact key (it:=⟨_,true,_,.O7 _ _ _,_,_⟩) ⟨h1,h5,h2,h3,fun _=>h4,by simp⟩ rfl ih
 |skip h1 h2 h5 _ ih=>exact key (it:=⟨_,false,[],.none,[],_⟩) ⟨h1,h5,h2,by simp,by simp,fun _=>⟨rfl,rfl,rfl⟩⟩ rfl ih
def A6r(ops:A2 Oper):A2 Nat :=
 ops.foldl (fun acc o=>acc++[o.after.toList.foldl (fun s e=>if Region.binds .any e then s ||| 2 ^ e.on ||| acc.getD e.on 0 else s) 0]) []
theorem Anu(acc:A2 Nat)(j:Nat):∀(l:A2 Edge) (s:Nat),(l.foldl (fun s e=>if Region.binds .any e then s ||| 2 ^ e.on ||| acc.getD e.on 0 else s) s).testBit j=true →
  s.testBit j=true∨∃e∈l,Region.binds .any e=true∧(e.on=j∨(acc.getD e.on 0).testBit j=true)
 |[],s,h=>.inl h
 |e::l,s,h=>by
  rw[Bqp]at h;rcases Anu acc j l _ h with h|⟨e',he',h⟩
  ·split at h
   ·rename_i hb;rw[Nat.testBit_or,Nat.testBit_or,Br3,Br3]at h;rcases h with (h|h)|h
    ·exact .inl h
    ·refine .inr ⟨e,Bp6,hb,.inl ?_⟩;rw[Nat.testBit_two_pow]at h;simpa using h
    ·exact .inr ⟨e,Bp6,hb,.inr h⟩
   ·exact .inl h
  ·exact .inr ⟨e',Bp5 _ he',h⟩
def B5e(ops:A2 Oper):∀(i j:Nat),((A6r ops).getD i 0).testBit j=true→∃o,ops[i]? = some o∧∃e∈o.after.toList,Region.binds .any e=true ∧
  (e.on=j∨(e.on<i∧((A6r ops).getD e.on 0).testBit j=true)):=by
 suffices H:∀(l:A2 Oper) (pre:A2 Oper) (acc:A2 Nat),acc.length=pre.length →
   (∀i j,(acc.getD i 0).testBit j=true→∃o,pre[i]? = some o∧∃e∈o.after.toList,Region.binds .any e=true∧(e.on=j∨(e.on<i∧(acc.getD e.on 0).testBit j=true))) →
   ∀i j,((l.foldl (fun acc o=>acc++[o.after.toList.foldl (fun s e=>if Region.binds .any e then s ||| 2 ^ e.on ||| acc.getD e.on 0 else s) 0]) acc).getD i 0).testBit j=true →
    ∃o,(pre++l)[i]? = some o∧∃e∈o.after.toList,Region.binds .any e=true∧(e.on=j∨(e.on<i ∧
     ((l.foldl (fun acc o=>acc++[o.after.toList.foldl (fun s e=>if Region.binds .any e then s ||| 2 ^ e.on ||| acc.getD e.on 0 else s) 0]) acc).getD e.on 0).testBit j=true)) by
  intro i j h;exact H ops [] [] rfl (by simp) i j h
 intro l;induction l with
 |nil=>intro pre acc _ h i j hb;simpa using h i j hb
 |cons o l ih =>
  intro pre acc hl h i j hb;rw[Bqp]at hb⊢;have:=ih (pre++[o]) (acc++[o.after.toList.foldl (fun s e=>if Region.binds .any e then s ||| 2 ^ e.on ||| acc.getD e.on 0 else s) 0]) (by simp[hl]) ?_ i j hb
  ·simpa using this
  ·intro i j hb;have C0:∀k,k<acc.length→(acc++[o.after.toList.foldl (fun s e=>if Region.binds .any e then s ||| 2 ^ e.on ||| acc.getD e.on 0 else s) 0]).getD k 0=acc.getD k 0:=by intro k hk;simp only[Bsi,Bs9 hk]
   by_cases hi:i<acc.length
   ·rw[C0 i hi]at hb;obtain⟨o',ho',e,he,hbd,hd⟩:=h i j hb;refine⟨o',by rw[Bs9 (by omega)];exact ho',e,he,hbd,?_⟩;rcases hd with hd|⟨hd1,hd2⟩
    ·exact .inl hd
    ·exact .inr ⟨hd1,by rw[C0 _ (by omega)];exact hd2⟩
   ·by_cases hie:i=acc.length
    ·subst hie;have Ahu:(acc++[o.after.toList.foldl (fun s e=>if Region.binds .any e then s ||| 2 ^ e.on ||| acc.getD e.on 0 else s) 0]).getD acc.length 0 =
       o.after.toList.foldl (fun s e=>if Region.binds .any e then s ||| 2 ^ e.on ||| acc.getD e.on 0 else s) 0:=by
      simp[Bsi]
     rw[Ahu]at hb;rcases Anu acc j _ 0 hb with h0|⟨e,he,hbd,hd⟩
     ·simp at h0
     ·refine⟨o,by rw[hl,Brs (Bpa _)];simp,e,he,hbd,?_⟩;rcases hd with hd|hd
      ·exact .inl hd
      ·have Bg:e.on<acc.length:=by
        rcases Brq e.on acc.length with h'|h'
        ·exact h'
        ·rw[Bsi,Bqz h']at hd;simp at hd
       exact .inr ⟨Bg,by rw[C0 _ Bg];exact hd⟩
    ·rw[Bsi,Bqz (by simp;omega)]at hb;simp at hb
def Aff{ops:A2 Oper}{D:Nat→Bool}(hD:∀i o,ops[i]? = some o→D i=true→∀e∈o.after.toList,Region.binds .any e=true→D e.on=true) :
  ∀(i:Nat),(∀o,ops[i]? = some o→∀e∈o.after.toList,Region.binds .any e=true→D e.on=true)→∀j,((A6r ops).getD i 0).testBit j=true→D j=true:=by
 intro i;induction i using Nat.strongRecOn with
 |_ i ih =>
  intro hi j hj;obtain⟨o,ho,e,he,hb,hd⟩:=B5e ops i j hj;have hDe:=hi o ho e he hb;rcases hd with rfl|⟨Bg,hd⟩
  ·exact hDe
  ·exact ih e.on Bg (fun o' ho' e' he' Fp=>hD e.on o' ho' hDe e' he' Fp) j hd
def looks(ops:Array Oper)(it:It):A2 Nat :=
 it.rd.filterMap (fun p=>match p.1 with|.tmp t=>some t|.global k=>some (GB+k)|_=>none) ++
 (match it.o.guard with
  |some (j,_)=>((ops[j]?).bind (·.dst)).toList
  |none=>[])
def ahead(bs:A2 Nat)(j i:Nat):Bool:=(bs.getD i 0).testBit j
def Aq9(ops:Array Oper)(Gc:A2 (Nat×AV))(Ar:A2 It):Bool :=
 let bs:=A6r ops.toList;let n:=Ar.length
 ops.size==n &&
 (List.range n).all fun i=>match Ar[i]? with
  |none=>false
  |some it =>
   M7 it.F Gc&&(it.o.after.toList.all fun e=>!Region.binds .any e||decide (e.on<i)) &&
   (List.range n).all fun k=>i==k||match Ar[k]? with
    |none=>false
    |some jt =>
     (match jt.o.dst with
      |none=>true
      |some d=>(!(looks ops it).contains d && !(it.o.dst==some d))||(if k<i then ahead bs k i else ahead bs i k)) &&
     (!(it.Ur.Uq jt.Ur)||(if k<i then ahead bs k i else ahead bs i k)) &&
     (it.F.isEmpty||ahead bs i k||Gi it.F jt.res)
structure DOk(ops:Array Oper)(Gc:List (Nat×AV))(Ar:List It):Prop where
 size:ops.size=Ar.length
 env:∀(i:Nat) it,Ar[i]? = some it→M7 it.F Gc=true
 Bmc:∀(i:Nat) it,Ar[i]? = some it→∀e∈it.o.after.toList,Region.binds .any e=true→e.on<i
 ord:∀(i k:Nat) it jt d,Ar[i]? = some it→Ar[k]? = some jt→i≠k→jt.o.dst=some d→(d∈looks ops it∨it.o.dst=some d) →
  (k<i→ahead (A6r ops.toList) k i=true)∧(i<k→ahead (A6r ops.toList) i k=true)
 A2m:∀(i k:Nat) it jt,Ar[i]? = some it→Ar[k]? = some jt→i≠k→it.Ur.Uq jt.Ur=true →
  (k<i→ahead (A6r ops.toList) k i=true)∧(i<k→ahead (A6r ops.toList) i k=true)
 free:∀(i k:Nat) it jt,Ar[i]? = some it→Ar[k]? = some jt→i≠k→it.F=[]∨ahead (A6r ops.toList) i k=true∨Gi it.F jt.res=true
def Aux{Gc:A2 (Nat×AV)}(h:Aq9 ops Gc Ar=true):DOk ops Gc Ar:=by
 unfold Aq9 at h;simp only[Bq4,Btr,Bqb,Bv2]at h;obtain⟨hs,h⟩:=h;have one:∀(i:Nat) it,Ar[i]? = some it→i<Ar.length:=fun i it hi=>(Bp2.1 hi).1
 have ifs:∀ {p q:Bool} {i k:Nat},i≠k→(if k<i then p else q)=true→(k<i→p=true)∧(i<k→q=true):=by
  intro p q i k hne hh;by_cases hk:k<i
  ·rw[Bq6 hk]at hh;exact⟨fun _=>hh,fun h=>by omega⟩
  ·rw[Bpp hk]at hh;exact⟨fun h=>(hk h).elim,fun _=>hh⟩
 have two:∀(i k:Nat) it jt,Ar[i]? = some it→Ar[k]? = some jt→i≠k →
   ((match jt.o.dst with
    |none=>true
    |some d=>(!(looks ops it).contains d && !(it.o.dst==some d))||(if k<i then ahead (A6r ops.toList) k i else ahead (A6r ops.toList) i k))=true ∧
   (!(it.Ur.Uq jt.Ur)||(if k<i then ahead (A6r ops.toList) k i else ahead (A6r ops.toList) i k))=true) ∧
   (it.F.isEmpty||ahead (A6r ops.toList) i k||Gi it.F jt.res)=true:=by
  intro i k it jt hi hk hne;have h1:=h i (one i it hi);rw[hi]at h1;simp only[Bq4,Bqb,Bv2]at h1;have h2:=h1.2 k (one k jt hk);rw[hk]at h2;rw[Br3]at h2;rcases h2 with h2|h2
  ·exact(hne (by simpa using h2)).elim
  ·simpa only [Bq4]using h2
 refine⟨hs,?_,?_,?_,?_,?_⟩
 ·intro i it hi;have h1:=h i (one i it hi);rw[hi]at h1;simp only[Bq4]at h1;exact h1.1.1
 ·intro i it hi e he hb;have h1:=h i (one i it hi);rw[hi]at h1;simp only[Bq4,Bqb]at h1;have h2:=h1.1.2 e he;rw[hb]at h2;simpa using h2
 ·intro i k it jt d hi hk hne hd hl;have h1:=(two i k it jt hi hk hne).1.1;rw[hd]at h1;simp only[Br3]at h1;rcases h1 with h1|h1
  ·exfalso;simp only[Bq4,Btc,Bsb,ne_eq]at h1;rcases hl with hl|hl
   ·have:(looks ops it).contains d=true:=by simpa using hl
    rw[this]at h1;cases h1.1
   ·exact h1.2 hl
  ·exact ifs hne h1
 ·intro i k it jt hi hk hne h3;have h1:=(two i k it jt hi hk hne).1.2;simp only[Br3]at h1;rcases h1 with h1|h1
  ·exfalso;rw[h3]at h1;cases h1
  ·exact ifs hne h1
 ·intro i k it jt hi hk hne;have h1:=(two i k it jt hi hk hne).2;simp only[Br3]at h1;rcases h1 with (h1|h1)|h1
  ·exact .inl (by simpa using h1)
  ·exact .inr (.inl h1)
  ·exact .inr (.inr h1)
theorem Aqa{base:Nat→A3 AV}{Ar:A2 It}{D:Nat→Bool}{t:Nat}{i:Nat}:∀(m:Nat),i≤m→(∀k it,Ar[k]? = some it→i≤k→it.o.dst=some t→D k=false) →
  E base Ar D m t=E base Ar D i t
 | 0, h, _ => by have : i = 0 := by omega
                 subst this;rfl
 |m+1,h,hd=>by
  rcases Brq m i with Bg|hge
  ·have:i=m+1:=by omega
   subst this;rfl
  ·have ih:=Aqa (base:=base) (Ar:=Ar) (D:=D) (t:=t) m hge hd;rw[← ih]
   conv=>lhs;unfold E
   cases Qp:Ar[m]? with
   |none=>rfl
   |some it =>
    simp only;by_cases Y6:it.o.dst=some t
    ·rw[hd m it Qp hge Y6];simp
    ·have:(it.o.dst==some t)=false:=by simpa using Y6
     rw[this];simp
theorem Ah8{base:Nat→A3 AV}{Ar:A2 It}{D D':Nat→Bool}{t:Nat}:∀(m:Nat),(∀k it,Ar[k]? = some it→k<m→it.o.dst=some t→D k=D' k)→E base Ar D m t=E base Ar D' m t
 |0,_=>rfl
 |m+1,hd=>by
  have ih:=Ah8 (base:=base) m fun k it hk hl Y6=>hd k it hk (by omega) Y6
  conv=>lhs;unfold E
  conv=>rhs;unfold E
  cases Qp:Ar[m]? with
  |none=>exact ih
  |some it =>
   simp only;by_cases Y6:it.o.dst=some t
   ·rw[hd m it Qp (Bsr m) Y6,ih]
   ·have:(it.o.dst==some t)=false:=by simpa using Y6
    rw[this];simpa using ih
def Ms.Aab{e:Ms}(h:e.writes k=false):(e.apply X).objs.lookup k=X.objs.lookup k:=by
 cases e with
 |none=>rfl
 |look=>rfl
 |lab=>rfl
 |put j c =>simp only[Ms.apply,Ax];rw[Bpp];rintro rfl;simp[Ms.writes]at h
 |O7 j c L =>simp only[Ms.apply,Ax];rw[Bpp];rintro rfl;simp[Ms.writes]at h
 |all=>simp[Ms.writes]at h
 |new os L =>simp only[Ms.writes,Option.isSome_eq_false_iff,Option.isNone_iff_eq_none]at h;simp only[Ms.apply,Br0,h,Bt3]
def Ms.isAll:Ms→Bool
 |.all _=>true
 |.lab _=>true
 |.O7 _ _ _=>true
 |.new _ _=>true
 |_=>false
def Ms.Ai2{e:Ms}(h:e.isAll=false):(e.apply X).live=X.live:=by cases e<;>first|rfl|simp[Ms.isAll]at h
theorem A10{X0:A5}{Ar:A2 It}{D:Nat→Bool}{i j:Nat}:∀(m:Nat),i≤m→(∀k it,Ar[k]? = some it→i≤k→it.Ur.writes j=true→D k=false) →
  (XE X0 Ar D m).objs.lookup j=(XE X0 Ar D i).objs.lookup j
 | 0, h, _ => by have : i = 0 := by omega
                 subst this;rfl
 |m+1,h,hd=>by
  rcases Brq m i with Bg|hge
  ·have:i=m+1:=by omega
   subst this;rfl
  ·have ih:=A10 (X0:=X0) (Ar:=Ar) (D:=D) m hge hd;rw[← ih]
   conv=>lhs;unfold XE
   cases Qp:Ar[m]? with
   |none=>rfl
   |some it =>
    simp only;cases hw:it.Ur.writes j with
    |false=>split<;>simp[Ms.Aab hw]
    |true=>rw[hd m it Qp hge hw];simp
theorem Aac{X0:A5}{Ar:A2 It}{D D':Nat→Bool}{j:Nat}:∀(m:Nat),(∀k it,Ar[k]? = some it→k<m→it.Ur.writes j=true→D k=D' k) →
  (XE X0 Ar D m).objs.lookup j=(XE X0 Ar D' m).objs.lookup j
 |0,_=>rfl
 |m+1,hd=>by
  have ih:=Aac (X0:=X0) m fun k it hk hl hw=>hd k it hk (by omega) hw
  conv=>lhs;unfold XE
  conv=>rhs;unfold XE
  cases Qp:Ar[m]? with
  |none=>exact ih
  |some it =>
   simp only;cases hw:it.Ur.writes j with
   |false=>split<;>split<;>simp[Ms.Aab hw,ih]
   |true =>
    rw[hd m it Qp (Bsr m) hw];split
    ·cases he:it.Ur with
     |none=>exact ih
     |look=>exact ih
     |put k c=>simp only[Ms.apply,Ax,ih]
     |all X'=>rfl
     |lab L=>exact ih
     |O7 k c L=>simp only[Ms.apply,Ax,ih]
     |new os L=>simp only[Ms.apply,Br0,ih]
    ·exact ih
theorem Gd{X0:A5}{Ar:A2 It}{D:Nat→Bool}{i:Nat}:∀(m:Nat),i≤m→(∀k it,Ar[k]? = some it→i≤k→it.Ur.isAll=true→D k=false) →
  (XE X0 Ar D m).live=(XE X0 Ar D i).live
 | 0, h, _ => by have : i = 0 := by omega
                 subst this;rfl
 |m+1,h,hd=>by
  rcases Brq m i with Bg|hge
  ·have:i=m+1:=by omega
   subst this;rfl
  ·have ih:=Gd (X0:=X0) (Ar:=Ar) (D:=D) m hge hd;rw[← ih]
   conv=>lhs;unfold XE
   cases Qp:Ar[m]? with
   |none=>rfl
   |some it =>
    simp only;cases hw:it.Ur.isAll with
    |false=>split<;>simp[Ms.Ai2 hw]
    |true=>rw[hd m it Qp hge hw];simp
theorem Jg{X0:A5}{Ar:A2 It}{D D':Nat→Bool}:∀(m:Nat),(∀k it,Ar[k]? = some it→k<m→it.Ur.isAll=true→D k=D' k) →
  (XE X0 Ar D m).live=(XE X0 Ar D' m).live
 |0,_=>rfl
 |m+1,hd=>by
  have ih:=Jg (X0:=X0) m fun k it hk hl hw=>hd k it hk (by omega) hw
  conv=>lhs;unfold XE
  conv=>rhs;unfold XE
  cases Qp:Ar[m]? with
  |none=>exact ih
  |some it =>
   simp only;cases hw:it.Ur.isAll with
   |false=>split<;>split<;>simp[Ms.Ai2 hw,ih]
   |true =>
    rw[hd m it Qp (Bsr m) hw];cases he:it.Ur with
    |all X'=>split<;>simp[Ms.apply,ih]
    |lab L=>split<;>simp[Ms.apply,ih]
    |O7 k c L=>split<;>simp[Ms.apply,ih]
    |new os L=>split<;>simp[Ms.apply,ih]
    |_=>rw[he]at hw;simp[Ms.isAll]at hw
def A11(e:Ms)(j:Nat)(h:(∃js,j∈js∧e = .look js)∨∃c,e = .put j c)(e':Ms)(hw:e'.writes j=true):e.Uq e'=true:=by rcases h with ⟨js,hj,rfl⟩|⟨c,rfl⟩<;>cases e'<;>first|(simp_all [Ms.Uq,Ms.writes];done)|(simp only[Ms.Uq,List.any_eq_true];exact⟨j,hj,hw⟩)
def Aqb{e:Ms}(h:e.writes j=true):e≠.none:=by rintro rfl;cases h
def B5f{e:Ms}(h:e.isAll=true):e≠.none:=by rintro rfl;cases h
def Anv(X:A5)(e:Ms)(h:e≠.none):(Ms.all X).Uq e=true:=by cases e<;>first|rfl|exact absurd rfl h
structure Alike(X Y:A5):Prop where
 objs:∀k,X.objs.lookup k=Y.objs.lookup k
 live:X.live=Y.live
def HR.alike{nm:A2 Nat}(h:HR nm B g w X)(e:Alike X Y):HR nm B g w Y:=by
 refine⟨?_,h.Ip,h.base,h.io,h.le,h.frame,?_,?_,?_,?_,?_,h.Bw,?_,h.C3,h.C7,h.eta.same (Bpa _) fun k o hk=>⟨o,by rw[e.objs];exact hk⟩⟩
 ·intro k hk;rw[← e.objs];exact h.D4 k hk
 ·intro k o hk;rw[← e.objs]at hk;exact h.objs k o hk
 ·intro k o hk;rw[← e.objs]at hk;exact h.Fq k o hk
 ·intro k k' o o' hk Lb;rw[← e.objs]at hk Lb;exact h.Br k k' o o' hk Lb
 ·intro k o hk;rw[← e.objs]at hk;exact h.Ca k o hk
 ·intro n;rw[← e.live];exact h.live n
 ·intro n b k o hn hk;rw[← e.objs]at hk;exact h.Ba n b k o hn hk
theorem Ai3{base:Nat→A3 AV}{Ar:A2 It}{D:Nat→Bool}{t:Nat}{x:AV}:∀(m:Nat),E base Ar D m t=some x→base t=some x∨∃k it,Ar[k]? = some it∧D k=true∧it.res=x
 |0,h=>.inl h
 |m+1,h=>by
  unfold E at h;cases Qp:Ar[m]? with
  |none=>rw[Qp]at h;exact Ai3 m h
  |some it =>
   rw[Qp]at h;simp only at h;split at h
   ·rename_i hc;simp only[Bq4]at hc;exact .inr ⟨m,it,Qp,hc.1,by simpa using h⟩
   ·exact Ai3 m h
def sub(L:A2 Nat)(env:A2 (Nat×AV)):A2 (Nat×AV):=L.filterMap fun t=>(env.lookup t).map fun x=>(t,x)
def Az7{env:A2 (Nat×AV)}{t:Nat}{x:AV}(h:(sub L env).lookup t=some x):t∈L∧env.lookup t=some x:=by have:=Da h;unfold sub at this;rw[Bv8]at this;obtain⟨t',ht',he⟩:=this;obtain⟨y,hy,hp⟩:=Bp8.1 he;cases hp;exact⟨ht',hy⟩
theorem A12{env:A2 (Nat×AV)}{t:Nat}{x:AV}:∀ {L:A2 Nat},t∈L→env.lookup t=some x→(sub L env).lookup t=some x
 |[],h,_=>by simp at h
 |s::L,h,hx=>by
  unfold sub;rw[List.filterMap_cons];by_cases hst:t=s
  ·subst hst;simp[hx]
  ·have hL:t∈L:=by
    rcases Boz.1 h with h|h
    ·exact(hst h).elim
    ·exact h
   have ih:=A12 hL hx;unfold sub at ih;cases hs:env.lookup s with
   |none=>simpa using ih
   |some y =>
    simp only[Bq8,Bqa];have:(t==s)=false:=by simpa using hst
    rw[this];exact ih
theorem Has.sub{env:A2 (Nat×AV)}{t:Nat}{x:AV}{L:A2 Nat}(h:Has env t x)(ht:t∈L):Has (sub L env) t x:=by
 cases h with
 |eq _ h=>exact .eq _ (A12 ht h)
 |Be n sz es ty h=>exact .Be n sz es ty (A12 ht h)
 |nil sz h=>exact .nil sz (A12 ht h)
 |le _ _ h hle=>exact .le _ _ (A12 ht h) hle
structure DR(S:Sig)(B:B8)(st0:St)(Ar:List It)(D:Nat→Bool)(g:Gh)(w:World)(a:Act):Prop where
 defers:a.defers=[]
 size:a.tmps.size=S.N
 hr:HR S.names B g w (XE st0.X Ar D Ar.length)
 env:∀t x,E (fun t=>st0.env.lookup t) Ar D Ar.length t=some x→∃v,Zq a t=some v∧RA g w x v
def Az8{D D':Nat→Bool}{i:Nat}(hi:i<n)(h0:D i=false)(h1:D' i=true)(B2t:∀j,j≠i→D' j=D j) :
  ((List.range n).filter fun j=>!D' j).length<((List.range n).filter fun j=>!D j).length:=by
 have Aaa:∀l:A2 Nat,((l.filter fun j=>!D' j).length≤(l.filter fun j=>!D j).length)∧(i∈l→(l.filter fun j=>!D' j).length<(l.filter fun j=>!D j).length):=by
  intro l;induction l with
  |nil=>simp
  |cons x l ih =>
   rw[Br4,Br4];by_cases hx:x=i
   ·subst hx;simp only[h0,h1,Br2,Brm,Brg,Bqs,Bre,Bpk];exact⟨by have:=ih.1;omega,fun _=>by have:=ih.1;omega⟩
   ·rw[B2t x hx];have Oy:i∈x::l→i∈l:=fun h=>by
     rcases Boz.1 h with h|h
     ·exact(hx h.symm).elim
     ·exact h
    split
    ·simp only[Bpk];exact⟨by have:=ih.1;omega,fun h=>by have:=ih.2 (Oy h);omega⟩
    ·exact⟨ih.1,fun h=>ih.2 (Oy h)⟩
 exact(Aaa (List.range n)).2 (Bv2.2 hi)
def Ai4{st0:St}(hd:G4 P S ops 0 st0 Ar Bd)(ho:DOk ops st0.env Ar)
  {Q:Exit→Act→World→Prop} (hq:∀g' w' a',SR S B g' w' Bd a'→Q .normal a' w') :
  ∀(fuel:Nat) (listed:Array Bool) (g:Gh) (w:World) (a:Act),listed.size=ops.size →
   (∀i o,ops[i]? = some o→listed.getD i false=true→∀e∈o.after.toList,Region.binds .any e=true→listed.getD e.on false=true) →
   DR S B st0 Ar (fun i=>listed.getD i false) g w a→((List.range ops.size).filter fun j=>!listed.getD j false).length≤fuel →
   wpAny P .any ops Q fuel listed a w:=by
 obtain⟨items,Bmd,Bme⟩:=hd.items;have B8s:∀(i:Nat),i<ops.size→∃it,Ar[i]? = some it:=fun i hi=>⟨Ar[i]'(by rw[← ho.size];exact hi),by simp[← ho.size,hi]⟩
 have B8t:∀(i:Nat) (it:It),Ar[i]? = some it→ops[i]? = some it.o:=by
  intro i it hi;obtain⟨stm,h1,_⟩:=items i it hi;have:=h1.at_
  rwa [Bq7]at this
 have done:∀(listed:Array Bool) (g:Gh) (w:World) (a:Act),listed.size=ops.size→DR S B st0 Ar (fun i=>listed.getD i false) g w a →
   (∀i,i<ops.size→listed.getD i false=true)→Q .normal a w:=by
  intro listed g w a _ Vv hall;refine hq g w a ⟨Vv.defers,Vv.size,?_,?_⟩
  ·rw[Bme];refine Vv.hr.alike ⟨fun j=>?_,?_⟩
   ·exact Aac (X0:=st0.X) (Ar:=Ar) (D:=fun i=>listed.getD i false) (D':=fun _=>true) Ar.length fun k it hk hl _=>by
     (try simp only);exact hall k (by rw[ho.size];exact hl)
   ·exact Jg (X0:=st0.X) (Ar:=Ar) (D:=fun i=>listed.getD i false) (D':=fun _=>true) Ar.length fun k it hk hl _=>by
     (try simp only);exact hall k (by rw[ho.size];exact hl)
  ·intro t x hx;rw[Bmd t]at hx;have:=Ah8 (base:=fun t=>st0.env.lookup t) (Ar:=Ar) (D:=fun i=>listed.getD i false) (D':=fun _=>true) (t:=t) Ar.length fun k it hk hl _=>by
    (try simp only);exact hall k (by rw[ho.size];exact hl)
   exact Vv.env t x (by rw[this];exact hx)
 have B8u:∀(listed:Array Bool) (i:Nat) (d d':Bool),i<listed.size→listed.getD i d=listed.getD i d':=by intro listed i d d' hi;simp[Array.getD,hi]
 have B8v:∀(listed:Array Bool),listed.size=ops.size→Region.ready .any ops listed=[]→∀i,i<ops.size→listed.getD i false=true:=by
  intro listed hs hr i;induction i using Nat.strongRecOn with
  |_ i ih =>
   intro hi;cases hl:listed.getD i false with
   |true=>rfl
   |false =>
    exfalso;obtain⟨it,Qp⟩:=B8s i hi;have Oy:i∈Region.ready .any ops listed:=by rw[mem_ready];refine⟨by rw[B8u listed i true false (by omega)];exact hl,it.o,B8t i it Qp,fun e he hb=>?_⟩;have Bg:=ho.Bmc i it Qp e (by simpa using he) hb;exact ih e.on Bg (by omega)
    rw[hr]at Oy;simp at Oy
 intro fuel;induction fuel with
 |zero =>
  intro listed g w a hs hcl Vv hc;have hall:∀i,i<ops.size→listed.getD i false=true:=by
   intro i hi;have h0:(List.range ops.size).filter (fun j=>!listed.getD j false)=[]:=Brt.1 (by omega);cases hl:listed.getD i false with
   |true=>rfl
   |false =>
    have:i∈(List.range ops.size).filter (fun j=>!listed.getD j false):=by rw[Bpv];exact⟨Bv2.2 hi,by simp[hl]⟩
    rw[h0]at this;simp at this
  refine⟨?_,done listed g w a hs Vv hall⟩;cases hr:Region.ready .any ops listed with
  |nil=>rfl
  |cons i r =>
   have hm:i∈Region.ready .any ops listed:=by rw[hr];exact Bp6
   rw[mem_ready]at hm;obtain⟨h1,o,h2,_⟩:=hm;have hi:i<ops.size:=(Bpo.1 h2).1;rw[B8u listed i true false (by omega),hall i hi]at h1;cases h1
 |succ fuel ih =>
  intro listed g w a hs hcl Vv hc;refine⟨fun hr=>done listed g w a hs Vv (B8v listed hs hr),?_⟩;intro i Oy;rw[mem_ready]at Oy;obtain⟨hun,o,hio,B8w⟩:=Oy;have hi:i<ops.size:=(Bpo.1 hio).1;have hDi:listed.getD i false=false:=by rw[B8u listed i false true (by omega)];exact hun
  obtain⟨it,Qp⟩:=B8s i hi;have hoe:o=it.o:=by have:=B8t i it Qp;rw[hio]at this;simpa using this
  subst hoe;obtain⟨stm,Je,Bmg,hXm⟩:=items i it Qp;have Boa:i<Ar.length:=by rw[← ho.size];exact hi
  have B5g:∀i o,ops.toList[i]? = some o→listed.getD i false=true→∀e∈o.after.toList,Region.binds .any e=true→listed.getD e.on false=true :=
   fun i o h=>hcl i o (by simpa using h)
  have A5g:∀k,ahead (A6r ops.toList) k i=true→listed.getD k false=true:=by
   intro k hk;refine Aff (D:=fun i=>listed.getD i false) B5g i ?_ k hk;intro o' ho' e he hb;have:o'=it.o:=by have h1:=B8t i it Qp;rw[← Br7,ho']at h1;simpa using h1
   subst this;exact B8w e (by simpa using he) hb
  have Jp:∀k,ahead (A6r ops.toList) i k=true→listed.getD k false=false:=by
   intro k hk;cases hl:listed.getD k false with
   |false=>rfl
   |true =>
    have:=Aff (D:=fun i=>listed.getD i false) B5g k (fun o' ho' e he hb=>B5g k o' ho' hl e he hb) i hk
    (try simp only at this)
    rw[hDi]at this;cases this
  have A7k:∀t,t∈looks ops it→E (fun t=>st0.env.lookup t) Ar (fun i=>listed.getD i false) Ar.length t=stm.env.lookup t:=by
   intro t ht;rw[Bmg t,Aqa (i:=i) Ar.length (by omega) ?_]
   ·refine Ah8 i fun k jt hk hl Y6=>?_
    (try simp only)
    exact A5g k ((ho.ord i k it jt t Qp hk (by omega) Y6 (.inl ht)).1 hl)
   ·intro k jt hk hge Y6
    (try simp only)
    rcases Brq i k with Bg|hle
    ·exact Jp k ((ho.ord i k it jt t Qp hk (by omega) Y6 (.inl ht)).2 Bg)
    ·have:k=i:=by omega
     subst this;exact hDi
  have hsr:∀X,X=XE st0.X Ar (fun i=>listed.getD i false) Ar.length→SR S B g w ⟨sub (looks ops it) stm.env,X⟩ a:=by intro X hX;subst hX;refine⟨Vv.defers,Vv.size,Vv.hr,?_⟩;intro t x hx;obtain⟨h1,h2⟩:=Az7 hx;exact Vv.env t x (by rw[A7k t h1];exact h2)
  have Bhf:Guard ops (⟨sub (looks ops it) stm.env,XE st0.X Ar (fun i=>listed.getD i false) Ar.length⟩:St) it.o.guard it.run:=by
   have h1:=Je.guard;have h2:∀(j:Nat) (d:Nat) (o:Oper) (Bop:Bool),it.o.guard=some (j,Bop)→ops[j]? = some o→o.dst=some d→d∈looks ops it:=by intro j d o Bop hg hj Y6;unfold looks;rw[hg];simp[hj,Y6]
   generalize it.o.guard=og at h1 h2;generalize it.run=rn at h1;cases h1 with
   |none=>exact .none
   |some j d o Bop b h3 h4 h5=>exact .some j d o Bop b h3 h4 (A12 (h2 j d o Bop rfl h3 h4) h5)
   |undef j d o Bop h3 h4 h5=>exact .undef j d o Bop h3 h4 (A12 (h2 j d o Bop rfl h3 h4) h5)
  have Aad:∀p∈it.rd,Dx (⟨sub (looks ops it) stm.env,XE st0.X Ar (fun i=>listed.getD i false) Ar.length⟩:St) p.1 p.2:=by
   intro p hp;have h1:=Je.Rr p hp;have h2:∀t,p.1 = .tmp t→t∈looks ops it:=by intro t ht;unfold looks;rw[Bp4,Bv8];exact .inl ⟨p,hp,by rw[ht]⟩
   have h3:∀k,p.1 = .global k→GB+k∈looks ops it:=by intro k ht;unfold looks;rw[Bp4,Bv8];exact .inl ⟨p,hp,by rw[ht]⟩
   obtain⟨p1,p2⟩:=p;simp only at h1 h2 h3⊢;cases h1 with
   |tmp t _ ht h=>exact .tmp t _ ht (h.sub (h2 t rfl))
   |Ahj k _ h=>exact .Ahj k _ (h.sub (h3 k rfl))
   |const v y h=>exact .const v y h
   |func f=>exact .func f
  have Bju:=Bhf.wanted (o:=it.o) (hsr _ rfl);have Zt:∀j,(listed.setIfInBounds i true).getD j false=if j=i then true else listed.getD j false:=by
   intro j;by_cases hj:j=i
   ·subst hj;have:j<listed.size:=by omega
    simp[this]
   ·rw[Bpp hj,getD_set_ne false (Brl hj)]
  have hD':(fun j=>(listed.setIfInBounds i true).getD j false)=fun j=>if j=i then true else listed.getD j false:=funext Zt
  have next:∀(g':Gh) (w':World) (v:Value),HR S.names B g' w' (XE st0.X Ar (fun j=>if j=i then true else listed.getD j false) Ar.length)→Trans it.F g w g' w'→RA g' w' it.res v →
    wpAny P .any ops Q fuel (listed.setIfInBounds i true) (a.put it.o.dst v) w':=by
   intro g' w' v hX ht hv;refine ih (listed.setIfInBounds i true) g' w' (a.put it.o.dst v) (by simp[hs]) ?_ ?_ ?_
   ·intro j o' hj hl e he hb;rw[Zt]at hl⊢;by_cases hji:j=i
    ·subst hji;have:o'=it.o:=by rw[hio]at hj;simpa using hj.symm
     subst this;have:=B8w e (by simpa using he) hb;split
     ·rfl
     ·exact this
    ·rw[Bpp hji]at hl;have:=hcl j o' hj hl e he hb;split
     ·rfl
     ·exact this
   ·rw[hD'];refine⟨?_,?_,hX,?_⟩
    ·cases Y6:it.o.dst<;>simp[Act.put,Vv.defers]
    ·cases Y6:it.o.dst<;>simp[Act.put,Vv.size]
    ·intro t x hx;by_cases Y6:it.o.dst=some t
     ·
      have hE:E (fun t=>st0.env.lookup t) Ar (fun j=>if j=i then true else listed.getD j false) Ar.length t=some it.res:=by
       rw[Aqa (i:=i+1) Ar.length (by omega) ?_]
       ·unfold E;rw[Qp];simp[Y6]
       ·intro k jt hk hge hkd
        (try simp only)
        rw[Bpp (by omega)];exact Jp k ((ho.ord i k it jt t Qp hk (by omega) hkd (.inr Y6)).2 (by omega))
      rw[hE]at hx;simp only[Bp0]at hx;subst hx;have Bg:t<a.tmps.size∧t<GB:=by have:=Je.dst;rw[Y6]at this;rw[Vv.size];simpa[Jl]using this
      refine⟨v,?_,hv⟩;rw[Y6];exact Ahi Bg.1 Bg.2
     ·have hE:E (fun t=>st0.env.lookup t) Ar (fun j=>if j=i then true else listed.getD j false) Ar.length t=E (fun t=>st0.env.lookup t) Ar (fun i=>listed.getD i false) Ar.length t:=by
       refine Ah8 Ar.length fun k jt hk hl hkd=>?_
       (try simp only)
       by_cases hki:k=i
       ·subst hki;rw[Qp]at hk;simp only[Bp0]at hk;subst hk;exact(Y6 hkd).elim
       ·rw[Bpp hki]
      rw[hE]at hx;obtain⟨u,hu,Ua⟩:=Vv.env t x hx;have Qe:Z5 it.F x:=by
       rcases Ai3 Ar.length hx with h|⟨k,jt,hk,hDk,rfl⟩
       ·exact W7 (ho.env i it Qp) h
       ·have hki:i≠k:=by rintro rfl;(try simp only at hDk);rw[hDi]at hDk;cases hDk
        rcases ho.free i k it jt Qp hk hki with h|h|h
        ·exact .all _ _ h
        ·have:=Jp k h;(try simp only at hDk);rw[this]at hDk;cases hDk
        ·exact Pj h
      refine⟨u,?_,Ua.mono ht Qe⟩;cases hdd:it.o.dst with
      |none=>simpa[Act.put]using hu
      |some d =>
       have:t≠d:=by rintro rfl;exact Y6 hdd
       exact(Anr this).trans hu
   ·have:=Az8 (D:=fun j=>listed.getD j false) (D':=fun j=>(listed.setIfInBounds i true).getD j false) (n:=ops.size) (i:=i) hi hDi (by (try simp only);rw[Zt,Bq6 rfl]) (by
     intro j hj;(try simp only);rw[Zt,Bpp hj])
    (try simp only at this)
    omega
  have sameAt:∀j,it.Ur.writes j=false→(XE st0.X Ar (fun j=>if j=i then true else listed.getD j false) Ar.length).objs.lookup j=(XE st0.X Ar (fun i=>listed.getD i false) Ar.length).objs.lookup j:=by
   intro j hw;refine Aac Ar.length fun k jt hk hl hkw=>?_
   (try simp only)
   by_cases hki:k=i
   ·subst hki;rw[Qp]at hk;simp only[Bp0]at hk;subst hk;rw[hw]at hkw;cases hkw
   ·rw[Bpp hki]
  have Aae:it.Ur.isAll=false→(XE st0.X Ar (fun j=>if j=i then true else listed.getD j false) Ar.length).live=(XE st0.X Ar (fun i=>listed.getD i false) Ar.length).live:=by
   intro hw;refine Jg Ar.length fun k jt hk hl hkw=>?_
   (try simp only)
   by_cases hki:k=i
   ·subst hki;rw[Qp]at hk;simp only[Bp0]at hk;subst hk;rw[hw]at hkw;cases hkw
   ·rw[Bpp hki]
  have Aaf:∀j,(∀e',e'.writes j=true→it.Ur.Uq e'=true)→(XE st0.X Ar (fun i=>listed.getD i false) Ar.length).objs.lookup j=stm.X.objs.lookup j:=by
   intro j B5g;rw[hXm,A10 (i:=i) Ar.length (by omega) ?_]
   ·refine Aac i fun k jt hk hl hkw=>?_
    (try simp only)
    exact A5g k ((ho.A2m i k it jt Qp hk (by omega) (B5g _ hkw)).1 hl)
   ·intro k jt hk hge hkw
    (try simp only)
    rcases Brq i k with Bg|hle
    ·exact Jp k ((ho.A2m i k it jt Qp hk (by omega) (B5g _ hkw)).2 Bg)
    ·have:k=i:=by omega
     subst this;exact hDi
  unfold wpOp;rw[hio];simp only;rw[Bju];cases Cg:it.run with
  |false =>obtain⟨h1,h2,h3⟩:=Je.Bdg Cg;simp only[Bqs,Bre];refine next g w undef (Vv.hr.alike ⟨fun j=>(sameAt j (by rw[h1];rfl)).symm,(Aae (by rw[h1];rfl)).symm⟩) (by rw[h2];exact .refl _ _ _) (by rw[h3];exact .H4 _ _ _)
  |true =>
   simp only[Brg];refine .inl ?_;have Aag:=Je.opt Cg;cases he:it.Ur with
   |none =>rw[he]at Aag;obtain⟨h2,hT⟩:=Aag;refine hT (XE st0.X Ar (fun i=>listed.getD i false) Ar.length) S.names S.small B g w a Vv.hr (fun p hp=>(Aad p hp).ra (hsr _ rfl)) _ Q ?_;intro g' w' v hX ht hv;exact next g' w' v (hX.alike ⟨fun j=>(sameAt j (by rw[he];rfl)).symm,(Aae (by rw[he];rfl)).symm⟩) (by rw[h2];exact ht) hv
   |look ks =>rw[he]at Aag;obtain⟨h2,hT⟩:=Aag;refine hT (XE st0.X Ar (fun i=>listed.getD i false) Ar.length) (fun k hk=>Aaf k (fun e' hw=>by rw[he];exact A11 _ k (.inl ⟨ks,hk,rfl⟩) e' hw)) S.names S.small B g w a Vv.hr (fun p hp=>(Aad p hp).ra (hsr _ rfl)) _ Q ?_;intro g' w' v hX ht hv;exact next g' w' v (hX.alike ⟨fun j=>(sameAt j (by rw[he];rfl)).symm,(Aae (by rw[he];rfl)).symm⟩) (by rw[h2];exact ht) hv
   |put k c =>
    rw[he]at Aag;obtain⟨h2,hT⟩:=Aag;refine hT (XE st0.X Ar (fun i=>listed.getD i false) Ar.length) (Aaf k (fun e' hw=>by rw[he];exact A11 _ k (.inr ⟨c,rfl⟩) e' hw)) S.names S.small B g w a Vv.hr (fun p hp=>(Aad p hp).ra (hsr _ rfl)) _ Q ?_;intro g' w' v hX ht hv;refine next g' w' v (hX.alike ⟨fun j=>?_,(Aae (by rw[he];rfl)).symm⟩) (by rw[h2];exact ht) hv
    simp only[Ax];by_cases hjk:j=k
    ·subst hjk;rw[Bq6 rfl,A10 (i:=i+1) Ar.length (by omega) ?_]
     ·unfold XE;rw[Qp];simp[he,Ms.apply,Ax]
     ·intro m jt hm hge hw
      (try simp only)
      rw[Bpp (by omega)];exact Jp m ((ho.A2m i m it jt Qp hm (by omega) (by rw[he];exact A11 _ j (.inr ⟨c,rfl⟩) _ hw)).2 (by omega))
    ·rw[Bpp hjk];refine(sameAt j ?_).symm;rw[he];simp only[Ms.writes,Bsb,ne_eq];exact Brl hjk
   |all X' =>
    rw[he]at Aag;have S4:∀(e':Ms) (j:Nat),e'.writes j=true→it.Ur.Uq e'=true:=by intro e' j hw;rw[he];exact Anv _ _ (Aqb hw)
    have Kr:∀e':Ms,e'.isAll=true→it.Ur.Uq e'=true:=by intro e' hw;rw[he];exact Anv _ _ (B5f hw)
    have hXD:Alike (XE st0.X Ar (fun i=>listed.getD i false) Ar.length) stm.X:=by
     refine⟨fun j=>Aaf j (fun e' hw=>S4 e' j hw),?_⟩;rw[hXm,Gd (i:=i) Ar.length (by omega) ?_]
     ·refine Jg i fun k jt hk hl hkw=>?_
      (try simp only)
      exact A5g k ((ho.A2m i k it jt Qp hk (by omega) (Kr _ hkw)).1 hl)
     ·intro k jt hk hge hkw
      (try simp only)
      rcases Brq i k with Bg|hle
      ·exact Jp k ((ho.A2m i k it jt Qp hk (by omega) (Kr _ hkw)).2 Bg)
      ·have:k=i:=by omega
       subst this;exact hDi
    refine Aag S.names S.small B g w a (Vv.hr.alike hXD) (fun p hp=>(Aad p hp).ra (hsr _ rfl)) _ Q ?_;intro g' w' v hX ht hv;refine next g' w' v (hX.alike ⟨fun j=>?_,?_⟩) ht hv
    ·rw[A10 (i:=i+1) Ar.length (by omega) ?_]
     ·unfold XE;rw[Qp];simp[he,Ms.apply]
     ·intro m jt hm hge hw
      (try simp only)
      rw[Bpp (by omega)];exact Jp m ((ho.A2m i m it jt Qp hm (by omega) (S4 _ j hw)).2 (by omega))
    ·rw[Gd (i:=i+1) Ar.length (by omega) ?_]
     ·unfold XE;rw[Qp];simp[he,Ms.apply]
     ·intro m jt hm hge hw
      (try simp only)
      rw[Bpp (by omega)];exact Jp m ((ho.A2m i m it jt Qp hm (by omega) (Kr _ hw)).2 (by omega))
   |lab L =>
    rw[he]at Aag;have S4:∀(e':Ms) (j:Nat),e'.writes j=true→it.Ur.Uq e'=true:=by intro e' j hw;rw[he];cases e'<;>first|rfl|(simp[Ms.writes]at hw)
    have Kr:∀e':Ms,e'.isAll=true→it.Ur.Uq e'=true:=by intro e' hw;rw[he];cases e'<;>first|rfl|(simp[Ms.isAll]at hw)
    have hXD:Alike (XE st0.X Ar (fun i=>listed.getD i false) Ar.length) stm.X:=by
     refine⟨fun j=>Aaf j (fun e' hw=>S4 e' j hw),?_⟩;rw[hXm,Gd (i:=i) Ar.length (by omega) ?_]
     ·refine Jg i fun k jt hk hl hkw=>?_
      (try simp only)
      exact A5g k ((ho.A2m i k it jt Qp hk (by omega) (Kr _ hkw)).1 hl)
     ·intro k jt hk hge hkw
      (try simp only)
      rcases Brq i k with Bg|hle
      ·exact Jp k ((ho.A2m i k it jt Qp hk (by omega) (Kr _ hkw)).2 Bg)
      ·have:k=i:=by omega
       subst this;exact hDi
    refine Aag S.names S.small B g w a (Vv.hr.alike hXD) (fun p hp=>(Aad p hp).ra (hsr _ rfl)) _ Q ?_;intro g' w' v hX ht hv;refine next g' w' v (hX.alike ⟨fun j=>?_,?_⟩) ht hv
    ·rw[sameAt j (by rw[he];rfl),Aaf j (fun e' hw=>S4 e' j hw)]
    ·rw[Gd (i:=i+1) Ar.length (by omega) ?_]
     ·unfold XE;rw[Qp];simp[he,Ms.apply]
     ·intro m jt hm hge hw
      (try simp only)
      rw[Bpp (by omega)];exact Jp m ((ho.A2m i m it jt Qp hm (by omega) (Kr _ hw)).2 (by omega))
   |O7 k0 c0 L =>
    rw[he]at Aag;have S4:∀(e':Ms) (j:Nat),e'.writes j=true→it.Ur.Uq e'=true:=by intro e' j hw;rw[he];cases e'<;>first|rfl|(simp[Ms.writes]at hw)
    have Kr:∀e':Ms,e'.isAll=true→it.Ur.Uq e'=true:=by intro e' hw;rw[he];cases e'<;>first|rfl|(simp[Ms.isAll]at hw)
    have hXD:Alike (XE st0.X Ar (fun i=>listed.getD i false) Ar.length) stm.X:=by
     refine⟨fun j=>Aaf j (fun e' hw=>S4 e' j hw),?_⟩;rw[hXm,Gd (i:=i) Ar.length (by omega) ?_]
     ·refine Jg i fun k jt hk hl hkw=>?_
      (try simp only)
      exact A5g k ((ho.A2m i k it jt Qp hk (by omega) (Kr _ hkw)).1 hl)
     ·intro k jt hk hge hkw
      (try simp only)
      rcases Brq i k with Bg|hle
      ·exact Jp k ((ho.A2m i k it jt Qp hk (by omega) (Kr _ hkw)).2 Bg)
      ·have:k=i:=by omega
       subst this;exact hDi
    refine Aag S.names S.small B g w a (Vv.hr.alike hXD) (fun p hp=>(Aad p hp).ra (hsr _ rfl)) _ Q ?_;intro g' w' v hX ht hv;refine next g' w' v (hX.alike ⟨fun j=>?_,?_⟩) ht hv
    ·simp only[Ax];by_cases hjk:j=k0
     ·subst hjk;rw[Bq6 rfl,A10 (i:=i+1) Ar.length (by omega) ?_]
      ·unfold XE;rw[Qp];simp[he,Ms.apply,Ax]
      ·intro m jt hm hge hw
       (try simp only)
       rw[Bpp (by omega)];exact Jp m ((ho.A2m i m it jt Qp hm (by omega) (S4 _ j hw)).2 (by omega))
     ·rw[Bpp hjk,sameAt j (by rw[he];simp only[Ms.writes,Bsb,ne_eq];exact Brl hjk),Aaf j (fun e' hw=>S4 e' j hw)]
    ·rw[Gd (i:=i+1) Ar.length (by omega) ?_]
     ·unfold XE;rw[Qp];simp[he,Ms.apply]
     ·intro m jt hm hge hw
      (try simp only)
      rw[Bpp (by omega)];exact Jp m ((ho.A2m i m it jt Qp hm (by omega) (Kr _ hw)).2 (by omega))
   |new os L =>
    rw[he]at Aag;have S4:∀(e':Ms) (j:Nat),e'.writes j=true→it.Ur.Uq e'=true:=by intro e' j hw;rw[he];cases e'<;>first|rfl|(simp[Ms.writes]at hw)
    have Kr:∀e':Ms,e'.isAll=true→it.Ur.Uq e'=true:=by intro e' hw;rw[he];cases e'<;>first|rfl|(simp[Ms.isAll]at hw)
    have hXD:Alike (XE st0.X Ar (fun i=>listed.getD i false) Ar.length) stm.X:=by
     refine⟨fun j=>Aaf j (fun e' hw=>S4 e' j hw),?_⟩;rw[hXm,Gd (i:=i) Ar.length (by omega) ?_]
     ·refine Jg i fun k jt hk hl hkw=>?_
      (try simp only)
      exact A5g k ((ho.A2m i k it jt Qp hk (by omega) (Kr _ hkw)).1 hl)
     ·intro k jt hk hge hkw
      (try simp only)
      rcases Brq i k with Bg|hle
      ·exact Jp k ((ho.A2m i k it jt Qp hk (by omega) (Kr _ hkw)).2 Bg)
      ·have:k=i:=by omega
       subst this;exact hDi
    refine Aag S.names S.small B g w a (Vv.hr.alike hXD) (fun p hp=>(Aad p hp).ra (hsr _ rfl)) _ Q ?_;intro g' w' v hX ht hv;refine next g' w' v (hX.alike ⟨fun j=>?_,?_⟩) ht hv
    ·simp only[Br0];cases hos:os.lookup j with
     |some y =>
      have hwj:(Ms.new os L).writes j=true:=by simp[Ms.writes,hos]
      rw[A10 (i:=i+1) Ar.length (by omega) ?_]
      ·unfold XE;rw[Qp];simp[he,Ms.apply,Br0,hos]
      ·intro m jt hm hge hw
       (try simp only)
       rw[Bpp (by omega)];exact Jp m ((ho.A2m i m it jt Qp hm (by omega) (S4 _ j hw)).2 (by omega))
     |none =>rw[Bt3,sameAt j (by rw[he];simp[Ms.writes,hos]),Aaf j (fun e' hw=>S4 e' j hw)]
    ·rw[Gd (i:=i+1) Ar.length (by omega) ?_]
     ·unfold XE;rw[Qp];simp[he,Ms.apply]
     ·intro m jt hm hge hw
      (try simp only)
      rw[Bpp (by omega)];exact Jp m ((ho.A2m i m it jt Qp hm (by omega) (Kr _ hw)).2 (by omega))
def Ags{Q:Exit→St→Prop}{id:Nat}(hm:P.follows .mixedOrders=true)
  (hd:G4 P S ops 0 st Ar Bd) (ho:DOk ops st.env Ar) (hq:Q .normal Bd):AWp P S (.region id ops true) Q st:=by
 intro B g w a hs;refine wp_region_any hm ?_;obtain⟨hr,ht⟩:=hs.hr.drew;have hz:∀j,(Array.replicate ops.size false).getD j false=false:=by intro j;simp only[Array.getD];split<;>simp
 have hE0:∀m t,E (fun t=>st.env.lookup t) Ar (fun i=>(Array.replicate ops.size false).getD i false) m t=st.env.lookup t:=by intro m t;rw[Aqa (i:=0) m (Brw _) (fun k it _ _ _=>hz k)];rfl
 have hX0:∀m,Alike st.X (XE st.X Ar (fun i=>(Array.replicate ops.size false).getD i false) m):=by
  intro m;refine⟨fun j=>?_,?_⟩
  ·rw[A10 (i:=0) m (Brw _) (fun k it _ _ _=>hz k)];rfl
  ·rw[Gd (i:=0) m (Brw _) (fun k it _ _ _=>hz k)];rfl
 refine Ai4 hd ho (B:=B) (fun g' w' a' Gu=>⟨Bd,g',hq,Gu⟩) ops.size _ g _ a (by simp) ?_ ⟨hs.defers,hs.size,hr.alike (hX0 _),?_⟩ ?_
 ·intro i o _ hl;rw[hz]at hl;cases hl
 ·intro t x hx;rw[hE0]at hx;obtain⟨v,hv,Ua⟩:=hs.env t x hx;exact⟨v,hv,Ua.mono ht (.nil x)⟩
 ·exact Bqf (Bq9 _ _) (by simp)
inductive Ks(st:St):List (Operand×AV)→Prop
 |nil:Ks st []
 |cons {x:Operand} {v:AV} {r:List (Operand×AV)}:Dx st x v→Ks st r→Ks st ((x,v)::r)
def Ks.all{l:A2 (Operand×AV)}(h:Ks st l):∀p∈l,Dx st p.1 p.2:=by
 induction h with
 |nil=>simp
 |cons h _ ih =>
  intro p hp;rcases Boz.1 hp with rfl|hp
  ·exact h
  ·exact ih p hp
def Rw(P:Program)(S:Sig)(ops:Array Oper)(l:A2 Nat)(st:St)(K:St→Prop):Prop :=
 ∀(B:B8) (g:Gh) (w:World) (a:Act) (Q:Exit→Act→World→Prop),SR S B g w st a→(∀g' w' a' Bd,K Bd→SR S B g' w' Bd a'→Q .normal a' w')→wpOps P ops Q l a w
section
variable{P:Program}{S:Sig}{ops:Array Oper}{i:Nat}{Boq:A2 Nat}{st:St}{K:St→Prop}{o:Oper}{rd:A2 (Operand×AV)}{X':A5}{F:A2 Nat}{res:AV}
def Rw.done(h:K st):Rw P S ops [] st K:=fun _ g w a _ hs hq=>hq g w a st h hs
def Rw.opg(ho:ops[i]? = some o)(hg:Guard ops st o.guard true)(ht:Bi P o rd st.X X' F res)(hs:Ks st rd)(hF:M7 F st.env=true)(hd:Jl S.N o.dst=true)
  (h:Rw P S ops Boq ⟨Dm o.dst res st.env,X'⟩ K):Rw P S ops (i::Boq) st K:=by
 intro B g w a Q hsr hq;unfold wpOps;simp only[ho,hg.wanted hsr,Brg];refine .inl (ht S.names S.small B g w a hsr.hr (fun p hp=>(hs.all p hp).ra hsr) _ Q ?_);intro g' w' v hX htr hv;exact h B g' w' _ Q (hsr.put htr hF hX hd hv) hq
def Rw.skip(ho:ops[i]? = some o)(hg:Guard ops st o.guard false)(hd:Jl S.N o.dst=true)(h:Rw P S ops Boq ⟨Dm o.dst (.d (.sc undef)) st.env,st.X⟩ K):Rw P S ops (i::Boq) st K:=by intro B g w a Q hsr hq;unfold wpOps;simp only[ho,hg.wanted hsr,Bqs,Bre];exact h B g w _ Q (hsr.put (.refl [] g w) rfl hsr.hr hd (.d _ _ (.sc _))) hq
def SR.known{d:Nat}{x:AV}(h:SR S B g w st a)(hl:st.env.lookup d=some x):SR S B g w ⟨(d,x)::st.env,st.X⟩ a:=by
 refine⟨h.defers,h.size,h.hr,?_⟩;intro t y hy;rw[Bqa]at hy;split at hy
 ·rename_i he;have:t=d:=by simpa using he
  subst this;simp only[Bp0]at hy;subst hy;exact h.env t x hl
 ·exact h.env t y hy
theorem Rw.cases{l:A2 Nat}{d:Nat}{b:Bool}(hl:st.env.lookup d=some (.d (.sc (.bool b))))(ht:b=true→Rw P S ops l ⟨(d,.d (.sc (.bool true)))::st.env,st.X⟩ K)
  (hf:b=false→Rw P S ops l ⟨(d,.d (.sc (.bool false)))::st.env,st.X⟩ K):Rw P S ops l st K:=by
 intro B g w a Q hsr hq;cases b with
 |true=>exact ht rfl B g w a Q (hsr.known hl) hq
 |false=>exact hf rfl B g w a Q (hsr.known hl) hq
def Bhg{Q:Exit→St→Prop}{id:Nat}(hn:ops.size=n)(h:Rw P S ops (List.range n) st (Q .normal)):AWp P S (.region id ops false) Q st:=by subst hn;intro B g w a hs;exact wp_region (h B g w a _ hs fun g' w' a' Bd hk Gu=>⟨Bd,g',hk,Gu⟩)
structure Ai5(st Bd:St):Prop where
 env:∀t,st.env.lookup t=Bd.env.lookup t
 X:st.X=Bd.X
def Ai5.refl(st:St):Ai5 st st:=⟨fun _=>rfl,rfl⟩
def Ai5.put(h:Ai5 st Bd)(dst:A3 Tmp)(x:AV)(X:A5):Ai5 ⟨Dm dst x st.env,X⟩ ⟨Dm dst x Bd.env,X⟩ :=
 ⟨fun t=>by simp only[A7j,h.env t],rfl⟩
def Has.same{e e':A2 (Nat×AV)}(h:∀t,e.lookup t=e'.lookup t){t:Nat}{x:AV}(hh:Has e t x):Has e' t x:=by
 cases hh with
 |eq _ h1=>exact .eq _ ((h t).symm.trans h1)
 |Be n sz es ty h1=>exact .Be n sz es ty ((h t).symm.trans h1)
 |nil sz h1=>exact .nil sz ((h t).symm.trans h1)
 |le _ _ h1 hle=>exact .le _ _ ((h t).symm.trans h1) hle
theorem Dx.same(h:Ai5 st Bd){v:AV}(hh:Dx st x v):Dx Bd x v:=by
 cases hh with
 |tmp t _ ht h1=>exact .tmp t _ ht (h1.same h.env)
 |Ahj k _ h1=>exact .Ahj k _ (h1.same h.env)
 |const v y h1=>exact .const v y h1
 |func f=>exact .func f
def Guard.same(h:Ai5 st Bd){b:Bool}(hh:Guard ops st og b):Guard ops Bd og b:=by
 cases hh with
 |none=>exact .none
 |some j d o Bop b h1 h2 h3=>exact .some j d o Bop b h1 h2 ((h.env d).symm.trans h3)
 |undef j d o Bop h1 h2 h3=>exact .undef j d o Bop h1 h2 ((h.env d).symm.trans h3)
theorem G4.same{st1:St}(hc:G4 P S ops i st Ar st1):∀ {Bd:St},Ai5 st Bd→∃Bhh,G4 P S ops i Bd Ar Bhh∧Ai5 st1 Bhh:=by
 induction hc with
 |nil i st=>intro Bd h;exact⟨Bd,.nil i Bd,h⟩
 |op h1 h2 h3 h4 h5 _ ih =>intro Bd h;obtain⟨s1,c1,e1⟩:=ih (h.put _ _ _);exact⟨s1,.op h1 (h2.same h) (fun p hp=>(h3 p hp).same h) h4 h5 (h.X▸c1),e1⟩
 |look h1 h2 h3 h4 h5 _ ih =>intro Bd h;obtain⟨s1,c1,e1⟩:=ih (h.put _ _ _);exact⟨s1,.look h1 (h2.same h) (fun p hp=>(h3 p hp).same h) (h.X▸h4) h5 (h.X▸c1),e1⟩
 |put h1 h2 h3 h4 h5 _ ih =>intro Bd h;obtain⟨s1,c1,e1⟩:=ih (h.put _ _ _);exact⟨s1,.put h1 (h2.same h) (fun p hp=>(h3 p hp).same h) (h.X▸h4) h5 (h.X▸c1),e1⟩
 |Ur h1 h2 h3 h4 h5 _ ih =>intro Bd h;obtain⟨s1,c1,e1⟩:=ih (h.put _ _ _);exact⟨s1,.Ur h1 (h2.same h) (fun p hp=>(h3 p hp).same h) (h.X▸h4) h5 c1,e1⟩
 |lab h1 h2 h3 h4 h5 _ ih =>intro Bd h;obtain⟨s1,c1,e1⟩:=ih (h.put _ _ _);exact⟨s1,.lab h1 (h2.same h) (fun p hp=>(h3 p hp).same h) (h.X▸h4) h5 (h.X▸c1),e1⟩
 |O7 h1 h2 h3 h4 h5 _ ih =>intro Bd h;obtain⟨s1,c1,e1⟩:=ih (h.put _ _ _);exact⟨s1,.O7 h1 (h2.same h) (fun p hp=>(h3 p hp).same h) (h.X▸h4) h5 (h.X▸c1),e1⟩
 |new h1 h2 h3 h4 h5 _ ih =>intro Bd h;obtain⟨s1,c1,e1⟩:=ih (h.put _ _ _);exact⟨s1,.new h1 (h2.same h) (fun p hp=>(h3 p hp).same h) (h.X▸h4) h5 (h.X▸c1),e1⟩
 |skip h1 h2 h5 _ ih =>intro Bd h;obtain⟨s1,c1,e1⟩:=ih (h.put _ _ _);exact⟨s1,.skip h1 (h2.same h) h5 (h.X▸c1),e1⟩
def Az9(ops:Array Oper)(Ar:A2 It):Prop:=∀(m:Nat) it,Ar[m]? = some it→ops[m]? = some it.o
def G4.link(h:G4 P S ops i st Ar Bd):∀(m:Nat) it,Ar[m]? = some it→ops[i+m]? = some it.o:=by
 have key:∀ {i:Nat} {it:It} {Ar:A2 It},ops[i]? = some it.o→(∀(m:Nat) jt,Ar[m]? = some jt→ops[i+1+m]? = some jt.o)→∀(m:Nat) jt,(it::Ar)[m]? = some jt→ops[i+m]? = some jt.o:=by
  intro i it Ar h1 h2 m jt hm;cases m with
  |zero=>simp only[Bto,Bp0]at hm;subst hm;exact h1
  |succ m=>rw[show i+(m+1)=i+1+m by omega];exact h2 m jt (by simpa using hm)
 induction h with
 |nil=>simp
 |op h1 _ _ _ _ _ ih=>exact key h1 ih
 |look h1 _ _ _ _ _ ih=>exact key h1 ih
 |put h1 _ _ _ _ _ ih=>exact key h1 ih
 |Ur h1 _ _ _ _ _ ih=>exact key h1 ih
 |lab h1 _ _ _ _ _ ih=>exact key h1 ih
 |O7 h1 _ _ _ _ _ ih=>exact key h1 ih
 |new h1 _ _ _ _ _ ih=>exact key h1 ih
 |skip h1 _ _ _ ih=>exact key h1 ih
def Dw(P:Program)(S:Sig)(ops:Array Oper)(i n:Nat)(st:St)(done:A2 It)(Gc:A2 (Nat×AV))(K:St→Prop):Prop :=
 ∃Ar Bd Y7,G4 P S ops i st Ar Bd∧Ar.length=n∧(Az9 ops (done++Ar)→DOk ops Gc (done++Ar))∧Ai5 Bd Y7∧K Y7
variable{n:Nat}{done:A2 It}{Gc:A2 (Nat×AV)}
def Dw.fin(ho:Az9 ops done→DOk ops Gc done)(hk:K st):Dw P S ops i 0 st done Gc K:=⟨[],st,st,.nil i st,rfl,by simpa using ho,.refl st,hk⟩
theorem Dw.cases{d:Nat}{b:Bool}(hl:st.env.lookup d=some (.d (.sc (.bool b))))(ht:b=true→Dw P S ops i n ⟨(d,.d (.sc (.bool true)))::st.env,st.X⟩ done Gc K)
  (hf:b=false→Dw P S ops i n ⟨(d,.d (.sc (.bool false)))::st.env,st.X⟩ done Gc K):Dw P S ops i n st done Gc K:=by
 have key:∀x,st.env.lookup d=some x→Dw P S ops i n ⟨(d,x)::st.env,st.X⟩ done Gc K→Dw P S ops i n st done Gc K:=by
  rintro x hx ⟨Ar,Bd,Y7,hc,hl,Je,hs,hk⟩;have e:Ai5 ⟨(d,x)::st.env,st.X⟩ st:=by
   refine⟨fun t=>?_,rfl⟩;rw[Bqa];split
   ·rename_i he;have:t=d:=by simpa using he
    subst this;exact hx.symm
   ·rfl
  obtain⟨s1,c1,e1⟩:=hc.same e;exact⟨Ar,s1,Y7,c1,hl,Je,⟨fun t=>(e1.env t).symm.trans (hs.env t),e1.X.symm.trans hs.X⟩,hk⟩
 cases b with
 |true=>exact key _ hl (ht rfl)
 |false=>exact key _ hl (hf rfl)
def Anw(h:og = .none):Guard ops st og true:=by subst h;exact .none
theorem Dw.op(ho:ops[i]? = some o)(hg:Guard ops st o.guard true)(ht:∀X,Bi P o rd X X [] res)(hs:Ks st rd)(hd:Jl S.N o.dst=true)
  (h:Dw P S ops (i+1) n ⟨Dm o.dst res st.env,st.X⟩ (done++[⟨o,true,rd,.none,[],res⟩]) Gc K):Dw P S ops i (n+1) st done Gc K:=by
 obtain⟨Ar,Bd,Y7,hc,hl,Je,hk⟩:=h;exact⟨_::Ar,Bd,Y7,.op ho hg hs.all ht hd hc,by simp[hl],by simpa using Je,hk⟩
theorem Dw.look(ho:ops[i]? = some o)(hg:Guard ops st o.guard true)(ht:∀X:A5,(∀k∈ks,X.objs.lookup k=st.X.objs.lookup k)→Bi P o rd X X [] res)(hs:Ks st rd)(hd:Jl S.N o.dst=true)
  (h:Dw P S ops (i+1) n ⟨Dm o.dst res st.env,st.X⟩ (done++[⟨o,true,rd,.look ks,[],res⟩]) Gc K):Dw P S ops i (n+1) st done Gc K:=by
 obtain⟨Ar,Bd,Y7,hc,hl,Je,hk⟩:=h;exact⟨_::Ar,Bd,Y7,.look ho hg hs.all ht hd hc,by simp[hl],by simpa using Je,hk⟩
theorem Dw.put{c:Ob}(ho:ops[i]? = some o)(hg:Guard ops st o.guard true)(ht:∀X,X.objs.lookup k=st.X.objs.lookup k→Bi P o rd X ⟨setObj k c X.objs,X.live⟩ [] res)
  (hs:Ks st rd) (hd:Jl S.N o.dst=true)
  (h:Dw P S ops (i+1) n ⟨Dm o.dst res st.env,⟨setObj k c st.X.objs,st.X.live⟩⟩ (done++[⟨o,true,rd,.put k c,[],res⟩]) Gc K):Dw P S ops i (n+1) st done Gc K:=by
 obtain⟨Ar,Bd,Y7,hc,hl,Je,hk⟩:=h;exact⟨_::Ar,Bd,Y7,.put ho hg hs.all ht hd hc,by simp[hl],by simpa using Je,hk⟩
theorem Dw.Ur(ho:ops[i]? = some o)(hg:Guard ops st o.guard true)(ht:Bi P o rd st.X X' F res)(hs:Ks st rd)(hd:Jl S.N o.dst=true)
  (h:Dw P S ops (i+1) n ⟨Dm o.dst res st.env,X'⟩ (done++[⟨o,true,rd,.all X',F,res⟩]) Gc K):Dw P S ops i (n+1) st done Gc K:=by
 obtain⟨Ar,Bd,Y7,hc,hl,Je,hk⟩:=h;exact⟨_::Ar,Bd,Y7,.Ur ho hg hs.all ht hd hc,by simp[hl],by simpa using Je,hk⟩
theorem Dw.lab(ho:ops[i]? = some o)(hg:Guard ops st o.guard true)(ht:Bi P o rd st.X ⟨st.X.objs,L⟩ F res)(hs:Ks st rd)(hd:Jl S.N o.dst=true)
  (h:Dw P S ops (i+1) n ⟨Dm o.dst res st.env,⟨st.X.objs,L⟩⟩ (done++[⟨o,true,rd,.lab L,F,res⟩]) Gc K):Dw P S ops i (n+1) st done Gc K:=by
 obtain⟨Ar,Bd,Y7,hc,hl,Je,hk⟩:=h;exact⟨_::Ar,Bd,Y7,.lab ho hg hs.all ht hd hc,by simp[hl],by simpa using Je,hk⟩
theorem Dw.new{os:A2 (Nat×Ob)}(ho:ops[i]? = some o)(hg:Guard ops st o.guard true)(ht:Bi P o rd st.X ⟨os++st.X.objs,L⟩ F res)(hs:Ks st rd)(hd:Jl S.N o.dst=true)
  (h:Dw P S ops (i+1) n ⟨Dm o.dst res st.env,⟨os++st.X.objs,L⟩⟩ (done++[⟨o,true,rd,.new os L,F,res⟩]) Gc K):Dw P S ops i (n+1) st done Gc K:=by
 obtain⟨Ar,Bd,Y7,hc,hl,Je,hk⟩:=h;exact⟨_::Ar,Bd,Y7,.new ho hg hs.all ht hd hc,by simp[hl],by simpa using Je,hk⟩
theorem Dw.O7{c:Ob}(ho:ops[i]? = some o)(hg:Guard ops st o.guard true)(ht:Bi P o rd st.X ⟨setObj k c st.X.objs,L⟩ F res)(hs:Ks st rd)(hd:Jl S.N o.dst=true)
  (h:Dw P S ops (i+1) n ⟨Dm o.dst res st.env,⟨setObj k c st.X.objs,L⟩⟩ (done++[⟨o,true,rd,.O7 k c L,F,res⟩]) Gc K):Dw P S ops i (n+1) st done Gc K:=by
 obtain⟨Ar,Bd,Y7,hc,hl,Je,hk⟩:=h;exact⟨_::Ar,Bd,Y7,.O7 ho hg hs.all ht hd hc,by simp[hl],by simpa using Je,hk⟩
theorem Dw.skip(ho:ops[i]? = some o)(hg:Guard ops st o.guard false)(hd:Jl S.N o.dst=true)
  (h:Dw P S ops (i+1) n ⟨Dm o.dst (.d (.sc undef)) st.env,st.X⟩ (done++[⟨o,false,[],.none,[],.d (.sc undef)⟩]) Gc K):Dw P S ops i (n+1) st done Gc K:=by
 obtain⟨Ar,Bd,Y7,hc,hl,Je,hk⟩:=h;exact⟨_::Ar,Bd,Y7,.skip ho hg hd hc,by simp[hl],by simpa using Je,hk⟩
def Bhi{Q:Exit→St→Prop}{id:Nat}(n:Nat)(hm:P.follows .mixedOrders=true)(h:Dw P S ops 0 n st [] st.env (Q .normal)):AWp P S (.region id ops true) Q st:=by obtain⟨Ar,Bd,Y7,hc,hl,Je,hs,hk⟩:=h;have hM:AWp P S (.region id ops true) (fun e s=>e = .normal∧s=Bd) st:=Ags hm hc (Je (by have:=hc.link;simpa[Az9]using this)) ⟨rfl,rfl⟩;intro B g w a hsr;refine Btw (hM B g w a hsr) ?_;rintro e a' w' ⟨s,g',⟨rfl,rfl⟩,Gu⟩;exact⟨Y7,g',hk,Gu.defers,Gu.size,hs.X▸Gu.hr,fun t x hx=>Gu.env t x ((hs.env t).trans hx)⟩
def A5h{d:Nat}(hg:og=some (j,Bop))(hj:ops[j]? = some oj)(hjd:oj.dst=some d)(hl:st.env.lookup d=some (.d (.sc (.bool Bop)))) :
  Guard ops st og true:=by
 subst hg;have:=Guard.some (st:=st) j d oj Bop Bop hj hjd hl;simpa using this
def Afg{d:Nat}(hg:og=some (j,Bop))(hj:ops[j]? = some oj)(hjd:oj.dst=some d)(hl:st.env.lookup d=some (.d (.sc undef))) :
  Guard ops st og false:=by
 subst hg;exact Guard.undef j d oj Bop hj hjd hl
def A5i{d:Nat}{b:Bool}(hg:og=some (j,Bop))(hj:ops[j]? = some oj)(hjd:oj.dst=some d)(hl:st.env.lookup d=some (.d (.sc (.bool b))))
  (hb:(b==Bop)=false):Guard ops st og false:=by
 subst hg;have:=Guard.some (st:=st) j d oj Bop b hj hjd hl
 rwa [hb]at this
end
inductive Aza(env:List (Nat×AV)):List (Nat×AV)→Prop
 |nil:Aza env []
 |cons {t:Nat} {x:AV} {r:List (Nat×AV)}:Has env t x→Aza env r→Aza env ((t,x)::r)
inductive Aqd(l:List (Nat×Ob)):List (Nat×Ob)→Prop
 |nil:Aqd l []
 |cons {k:Nat} {o:Ob} {r:List (Nat×Ob)}:l.lookup k=some o→Aqd l r→Aqd l ((k,o)::r)
inductive Azb(X:A5)(f:Nat→Nat):List (Nat×Ob)→Prop
 |nil:Azb X f []
 |cons {k:Nat} {o:Ob} {r:List (Nat×Ob)}:X.objs.lookup (f k)=some (E6 f o)→Azb X f r→Azb X f ((k,o)::r)
def fieldAt(P:Program)(s n:Nat):A3 (Nat×Nat) :=
 match P.underlying s with
 |some (.struct fs)=>(fs[n]?).map fun f=>(f.offset,f.type)
 |_=>none
def Ed.mk'  {f : Nat} {fn : Func} (h : P.funcs[f]? = some fn) (hb : fn.body.isSome = true) (hn : (fn.name == "runtime.NumGoroutine") = false) : Ed P f := ⟨⟨fn, h, hb, hn⟩⟩
structure Pu(P:Program)(t e sz bytes:Nat):Prop where
 und:P.underlying t=some (.slice e)
 elem:∃i z,P.info? e=some i∧i.size=sz∧i.bytes=bytes∧i.zero=some z∧z.cells.size=sz
section
variable{P:Program}{o:Oper}{X:A5}
def B2u(k:Nat)(ho:o.op = .alloc t)(hz:Ahq P t cs)(hk:X.objs.lookup k=none)(hX:B1 [k] X=true) :
  Bi P o [] X ⟨(k,.cells cs (some t))::X.objs,X.live⟩ [k] (.ptr k 0):=by
 obtain⟨i,z,hi,hz',hzc⟩:=hz.is;exact B8m k ho hi hz' (fun g w=>Ahq.ra (P:=P) (t:=t) hzc g w) hk hX
def Auy{t e bytes:Nat}{cs:A2 D}{k:IntKind}{i:Int}(ho:o.op = .indexAddr t x y)(ht:Pu P t e sz bytes)(h0:0≤i)(h1:es[i.toNat]? = some cs) :
  Bi P o [(x,.d (.sl sz es)),(y,.d (.sc (.int k i)))] X X [] (.d (.ep cs)):=by
 obtain⟨hu,i',z,hi,hs,hb,hz,hzs⟩:=ht;exact Aq1 ho hu hi hs h0 h1
def Auz{t e bytes:Nat}(ho:o.op = .call { callee:=.builtin .len,args:=#[x],argTypes:=ts })
  (h0:ts[0]? = some t) (ht:Pu P t e sz bytes):Bi P o [(x,.d (.sl sz' es))] X X [] (.d (.sc (.int .i64 es.length))):=Aa6 ho h0 ht.und
def Av0{s:Operand}{t u e e' bytes:Nat}(m:Nat)
  (ho:o.op = .call { callee:=.builtin .append,args:=#[s,x],argTypes:=ts }) (h0:ts[0]? = some t) (h1:ts[1]? = some u) (hu:Pu P u e' sz' A82)
  (ht:Pu P t e sz bytes) (hn:n∈X.live) (hm:m∉X.live.filter (· != n)) (hX:B1 [m] X=true)
  (Iw:∀cs∈fs,∀c∈cs,A0z c=true) (Zu:(es.length+fs.length)*bytes≤140737488355328) (hlen:es.length+fs.length≤4611686018427387904)
  (hty:(ty==none||ty==some e)=true:=by rfl) :
  Bi P o [(s,.Be n sz es ty),(x,.d (.sl sz fs))] X ⟨X.objs,m::X.live.filter (· != n)⟩ [m] (.Be m sz (es++fs) ty):=by
 obtain⟨hu',i',z,hi,hs,rfl,hz,hzs⟩:=ht;exact B5d m ho h0 h1 hu.und hu' hi hz hzs hs hn hm hX Iw Zu hlen (by
  intro e1 h1;subst h1;simpa using hty)
def Aqe{t e bytes:Nat}{xs:A2 D}(ho:o.op = .buildSlice t n Bon)(ht:Pu P t e sz bytes)
  (hx:xs.length=n) (Az5:Bon.toList.map (·.1)=List.range n) (Je:(xs.all fun x=>A6q (.d x)&&x.cells.length==sz)=true)
  (Zu:n*sz≤16777216):Bi P o ((Bon.toList.map (·.2)).zip (xs.map .d)) X X [] (.d (.sl sz (xs.map D.cells))):=by
 obtain⟨hu',i',z,hi,hs,hb,hz,hzs⟩:=ht;exact Amh ho hu' hi hz hs hx Az5 Je Zu
end
section
variable{P:Program}{S:Sig}{Q:Exit→St→Prop}{st:St}{N:St→Prop}
variable{o:Oper}{X:A5}
end
section
variable{P:Program}{o:Oper}{X:A5}
def A3b(ht:P.underlying t=some (.pointer e))(a:A3 Addr)(w:World):(Op.equal t (.pointer a) (.pointer none)).run P w = .ok a.isNone w:=by
 have h:∀d:Nat,(Op.equalIn (d+1) t (.pointer a) (.pointer none)).run P w = .ok a.isNone w:=by intro d;cases a<;>simp[Op.equalIn,Bpb ht]
 exact h 9999
end
section
variable{P:Program}{o:Oper}{X:A5}
def B8x{k:IntKind}{a b c:Int}(ho:o.op = .binOp .rem t x y t')(hb:b≠0)(hc:a.tmod b=c) :
  Bi P o [(x,.d (.sc (.int k a))),(y,.d (.sc (.int k b)))] X X [] (.d (.sc (.int k c))) :=
 .quiet fun _ _ g w ac _ Au=>by
  have h1:=(Is Au).Ap;have h2:=(Y4 Au).Ap;simp only at h1 h2;refine⟨_,?_,.H4 _ _ _⟩;have hg:eqGuard .rem t x y (.int k a) (.int k b)=pure ():=rfl;simp only[execOp,ho,h1,h2,hg];simp[binOp,Op.intDiv,hb,hc]
def B8y{k:IntKind}{a b c:Int}(ho:o.op = .binOp .quo t x y t')(hb:b≠0)(hc:k.wrap (a.tdiv b)=c) :
  Bi P o [(x,.d (.sc (.int k a))),(y,.d (.sc (.int k b)))] X X [] (.d (.sc (.int k c))) :=
 .quiet fun _ _ g w ac _ Au=>by
  have h1:=(Is Au).Ap;have h2:=(Y4 Au).Ap;simp only at h1 h2;refine⟨_,?_,.H4 _ _ _⟩;have hg:eqGuard .quo t x y (.int k a) (.int k b)=pure ():=rfl;simp only[execOp,ho,h1,h2,hg];simp[binOp,Op.intDiv,hb,hc]
end
inductive Rl(σ:Nat→Nat):AV→AV→Prop
 |d (x:D):Rl σ (.d x) (.d x)
 |nm (k:Nat) (p:PK):Rl σ (.nm k p) (.nm k p)
 |Be (n sz:Nat) (es:List (List D)) (ty:Option TypeId):Rl σ (.Be (σ n) sz es ty) (.Be n sz es ty)
 |drop (n sz:Nat) (es:List (List D)) (ty:Option TypeId):Rl σ (.Be n sz es ty) (.d (.sl sz es))
 |other (x:AV):Kq x=true→Rl σ x x
 |nil (sz:Nat):Rl σ (.d (.sc (.slice none 0 0))) (.d (.sl sz []))
 |agg (l l':List AV):l.length=l'.length→(∀(i:Nat) x x',l[i]? = some x→l'[i]? = some x'→Rl σ x x')→Rl σ (.agg l) (.agg l')
 |F2 (l l':List AV):l.length=l'.length→(∀(i:Nat) x x',l[i]? = some x→l'[i]? = some x'→Rl σ x x')→Rl σ (.F2 l) (.F2 l')
 |F1 (f:Nat) (l l':List AV):l.length=l'.length→(∀(i:Nat) x x',l[i]? = some x→l'[i]? = some x'→Rl σ x x')→Rl σ (.F1 f l) (.F1 f l')
inductive Azc(σ:Nat→Nat):Ob→Ob→Prop
 |cells (cs Y3:List AV) (ty:Option TypeId):cs.length=Y3.length→(∀(i:Nat) x x',cs[i]? = some x→Y3[i]? = some x'→Rl σ x x')→Azc σ (.cells cs ty) (.cells Y3 ty)
 |map (l:List (Nat×Value×D)) (c:Nat):Azc σ (.map l c) (.map l c)
 |Vt (s:ByteArray) (pos:Nat):Azc σ (.Vt s pos) (.Vt s pos)
 |Jo (k since:Nat) (seen:Array Nat) (last:Nat):Azc σ (.Jo k since seen last) (.Jo k since seen last)
 |Dl:Azc σ .Dl .Dl
structure Bod(nm:List Nat)(σ:Nat→Nat)(st Bd:St):Prop where
 env:∀p∈Bd.env,∃x,st.env.lookup p.1=some x∧Rl σ x p.2
 objs:∀p∈Bd.X.objs,∃o,st.X.objs.lookup p.1=some o∧Azc σ o p.2
 live:∀n∈Bd.X.live,σ n∈st.X.live
 inj:∀n∈Bd.X.live,∀m∈Bd.X.live,σ n=σ m→n=m
 D4:∀k∈nm,(Bd.X.objs.lookup k).isSome
inductive B8z(σ:Nat→Nat)(env:List (Nat×AV)):List (Nat×AV)→Prop
 |nil:B8z σ env []
 |cons {t:Nat} {x x' y:AV} {r:List (Nat×AV)}:env.lookup t=some x→x=y→Rl σ y x'→B8z σ env r→B8z σ env ((t,x')::r)
inductive Aqf(σ:Nat→Nat):List AV→List AV→Prop
 |nil:Aqf σ [] []
 |cons {x x':AV} {r r':List AV}:Rl σ x x'→Aqf σ r r'→Aqf σ (x::r) (x'::r')
inductive Azd(σ:Nat→Nat)(l:List (Nat×Ob)):List (Nat×Ob)→Prop
 |nil:Azd σ l []
 |cons {k:Nat} {o o' p:Ob} {r:List (Nat×Ob)}:l.lookup k=some o→o=p→Azc σ p o'→Azd σ l r→Azd σ l ((k,o')::r)
mutual
def S5(f fl:Nat→Nat):AV→AV
 |.d x=>.d x
 |.nm k p=>.nm (f k) p
 |.Be n sz es ty=>.Be (fl n) sz es ty
 |.Vs n e cs=>.Vs (fl n) e cs
 |.F2 l=>.F2 (Oz f fl l)
 |.agg l=>.agg (Oz f fl l)
 |.F1 g l=>.F1 g (Oz f fl l)
def Oz(f fl:Nat→Nat):List AV→List AV
 |[]=>[]
 |x::r=>S5 f fl x::Oz f fl r
end
mutual
def H5(ks ls:List Nat):AV→Bool
 |.d _=>true
 |.nm k _=>ks.contains k
 |.Be n _ _ _=>ls.contains n
 |.Vs n _ _=>ls.contains n
 |.F2 l=>Kt ks ls l
 |.agg l=>Kt ks ls l
 |.F1 _ l=>Kt ks ls l
def Kt(ks ls:List Nat):List AV→Bool
 |[]=>true
 |x::r=>H5 ks ls x&&Kt ks ls r
end
def Iy{l:A2 AV}(h:Kt ks ls l=true){i:Nat}{x:AV}(hx:l[i]? = some x):H5 ks ls x=true:=by
 induction l generalizing i with
 |nil=>simp at hx
 |cons y r ih =>
  simp only[Kt,Bq4]at h;cases i with
  |zero=>simp at hx;subst hx;exact h.1
  |succ i=>exact ih h.2 (by simpa using hx)
def Iz(f fl:Nat→Nat)(l:A2 AV):Oz f fl l=l.map (S5 f fl):=by
 induction l with
 |nil=>rfl
 |cons x r ih=>simp[Oz,ih]
theorem RA.A83(hγ:gc.γ=g.γ)(hρ:∀k∈ks,gc.ρ k=g.ρ (f k))(hβ:∀n∈ls,gc.β n=g.β (fl n)):∀(x:AV) (v:Value),H5 ks ls x=true→RA g w (S5 f fl x) v→RA gc w x v
 |.d x,v,_,h=>by
  simp only[S5]at h;cases h with
  |d _ _ h=>exact .d _ _ (hγ▸h)
 |.nm k p,v,hn,h=>by
  simp only[S5]at h;have hk:k∈ks:=by simpa[H5]using hn
  cases h with
  |nm _ _ _ h=>exact .nm k p v (by rw[hρ k hk];exact h)
 |.Vs n e cs,v,hn,h=>by
  simp only[S5]at h;have hk:n∈ls:=by simpa[H5]using hn
  cases h with
  |Vs _ _ _ _ h1 h2 =>
   refine .Vs n e cs v (hγ▸h1) ?_;unfold Ahg at h2⊢;split at h2
   ·exact⟨h2.1,fun ob Ga=>h2.2 ob (by rw[← hβ n hk];exact Ga)⟩
   ·trivial
 |.Be n sz es ty,v,hn,h=>by
  simp only[S5]at h;have hk:n∈ls:=by simpa[H5]using hn
  cases h with
  |Be _ _ _ _ _ h1 h2 =>
   refine .Be n sz es ty v (hγ▸h1) ?_;unfold A7g at h2⊢;split at h2
   ·intro ob Ga;rw[hβ n hk]at Ga;rw[hγ];exact h2 ob Ga
   ·trivial
 |.F2 l,v,hn,h=>by
  simp only[S5,Iz]at h;cases h with
  |F2 _ vs hl hx =>
   refine .F2 l vs (by simpa using hl) fun i x v h1 h2=>?_
   have:SizeOf.sizeOf x<SizeOf.sizeOf l:=Br6 (Bpu h1);exact RA.A83 hγ hρ hβ x v (Iy (by simpa[H5]using hn) h1) (hx i _ v (by rw[Bp1,h1];rfl) h2)
 |.agg l,v,hn,h=>by
  simp only[S5,Iz]at h;cases h with
  |agg _ vs hl hx =>
   refine .agg l vs (by simpa using hl) fun i x v h1 h2=>?_
   have:SizeOf.sizeOf x<SizeOf.sizeOf l:=Br6 (Bpu h1);exact RA.A83 hγ hρ hβ x v (Iy (by simpa[H5]using hn) h1) (hx i _ v (by rw[Bp1,h1];rfl) h2)
 |.F1 c l,v,hn,h=>by
  simp only[S5,Iz]at h;cases h with
  |F1 _ _ vs hl hx =>
   refine .F1 c l vs (by simpa using hl) fun i x v h1 h2=>?_
   have:SizeOf.sizeOf x<SizeOf.sizeOf l:=Br6 (Bpu h1);exact RA.A83 hγ hρ hβ x v (Iy (by simpa[H5]using hn) h1) (hx i _ v (by rw[Bp1,h1];rfl) h2)
termination_by x=>x
def RA.Aqg(hγ:gc.γ=g.γ)(hρ:∀k∈ks,g.ρ (f k)=gc.ρ k)(hβ:∀n∈ls,g.β (fl n)=gc.β n){x:AV}(h:RA gc w x v)(hn:H5 ks ls x=true):RA g w (S5 f fl x) v:=by
 induction h with
 |d x v h=>simp only[S5];exact .d _ _ (hγ▸h)
 |nm k p v h =>
  have hk:k∈ks:=by simpa[H5]using hn
  simp only[S5];exact .nm _ _ _ (by rw[hρ k hk];exact h)
 |Vs n e cs v h1 h2 =>
  have hk:n∈ls:=by simpa[H5]using hn
  simp only[S5];refine .Vs _ e cs v (hγ▸h1) ?_;unfold Ahg at h2⊢;split at h2
  ·exact⟨h2.1,fun ob Ga=>h2.2 ob (by rw[hβ n hk]at Ga;exact Ga)⟩
  ·trivial
 |Be n sz es ty v h1 h2 =>
  have hk:n∈ls:=by simpa[H5]using hn
  simp only[S5];refine .Be _ sz es ty v (hγ▸h1) ?_;unfold A7g at h2⊢;split at h2
  ·intro ob Ga;rw[hβ n hk]at Ga;rw[← hγ];exact h2 ob Ga
  ·trivial
 |F2 l vs hl _ ih =>
  simp only[S5,Iz];refine .F2 _ vs (by simpa using hl) fun i x v h1 h2=>?_
  rw[Bp1,Bp8]at h1;obtain⟨y,hy,rfl⟩:=h1;exact ih i y v hy h2 (Iy (by simpa[H5]using hn) hy)
 |agg l vs hl _ ih =>
  simp only[S5,Iz];refine .agg _ vs (by simpa using hl) fun i x v h1 h2=>?_
  rw[Bp1,Bp8]at h1;obtain⟨y,hy,rfl⟩:=h1;exact ih i y v hy h2 (Iy (by simpa[H5]using hn) hy)
 |F1 c l vs hl _ ih =>
  simp only[S5,Iz];refine .F1 c _ vs (by simpa using hl) fun i x v h1 h2=>?_
  rw[Bp1,Bp8]at h1;obtain⟨y,hy,rfl⟩:=h1;exact ih i y v hy h2 (Iy (by simpa[H5]using hn) hy)
def Lv(f fl:Nat→Nat):Ob→Ob
 |.cells cs ty=>.cells (Oz f fl cs) ty
 |.map l c=>.map l c
 |.Vt s pos=>.Vt s pos
 |.Jo k since seen last=>.Jo (f k) since seen last
 |.Dl=>.Dl
 |.Cf L sz l c=>.Cf L sz l c
def K3(ks ls:A2 Nat):Ob→Bool
 |.cells cs _=>Kt ks ls cs
 |.map _ _=>true
 |.Vt _ _=>true
 |.Jo k _ _ _=>ks.contains k
 |.Dl=>true
 |.Cf _ _ _ _=>false
theorem Bv.A83(hγ:gc.γ=g.γ)(hρ:∀k∈ks,gc.ρ k=g.ρ (f k))(hβ:∀n∈ls,gc.β n=g.β (fl n))(hn:K3 ks ls o=true)(h:Bv g w b (Lv f fl o)):Bv gc w b o:=by
 cases o with
 |cells cs ty =>
  simp only[Lv,Iz]at h;cases h with
  |cells _ _ arr T hb hl hc h4 =>refine .cells cs ty arr T hb (by simpa using hl) (fun i x v hx hv=>?_) h4;exact RA.A83 hγ hρ hβ x v (Iy (by simpa[K3]using hn) hx) (hc i _ v (by rw[Bp1,hx];rfl) hv)
 |map l c =>
  simp only[Lv]at h;cases h with
  |map _ _ es hb hl hc h4 h5=>exact .map l c es hb hl (fun i x e hx he=>⟨(hc i x e hx he).1,(hc i x e hx he).2.1,hγ▸(hc i x e hx he).2.2⟩) h4 h5
 |Vt s pos=>simp only[Lv]at h;cases h with|Vt _ _ hb=>exact .Vt s pos hb
 |Jo k since seen last =>
  simp only[Lv]at h;cases h with
  |Jo _ _ _ _ hb=>exact .Jo k since seen last (by rw[hρ k (Bqc.1 hn)];exact hb)
 |Dl=>simp only[Lv]at h;cases h with|Dl hb=>exact .Dl hb
 |Cf L sz l c=>simp[K3]at hn
theorem Bv.Aqg(hγ:gc.γ=g.γ)(hρ:∀k∈ks,g.ρ (f k)=gc.ρ k)(hβ:∀n∈ls,g.β (fl n)=gc.β n)(hn:K3 ks ls o=true)(h:Bv gc w b o):Bv g w b (Lv f fl o):=by
 cases h with
 |cells cs ty arr T hb hl hc h4 =>simp only[Lv,Iz];refine .cells _ ty arr T hb (by simpa using hl) (fun i x v hx hv=>?_) h4;rw[Bp1,Bp8]at hx;obtain⟨y,hy,rfl⟩:=hx;exact(hc i y v hy hv).Aqg hγ hρ hβ (Iy (by simpa[K3]using hn) hy)
 |map l c es hb hl hc h4 h5 =>exact .map l c es hb hl (fun i x e hx he=>⟨(hc i x e hx he).1,(hc i x e hx he).2.1,hγ▸(hc i x e hx he).2.2⟩) h4 h5
 |Vt s pos hb=>exact .Vt s pos hb
 |Jo k since seen last hb=>exact .Jo (f k) since seen last (by rw[hρ k (Bqc.1 hn)];exact hb)
 |Dl hb=>exact .Dl hb
 |Cf L sz l c es hb hl hc h4 h5=>simp[K3]at hn
def Cr(f fl:Nat→Nat):A2 (Nat×Ob)→A2 (Nat×Ob)→A2 (Nat×Ob)
 |[],acc=>acc
 |p::r,acc=>Cr f fl r (setObj (f p.1) (Lv f fl p.2) acc)
theorem Mt{f fl:Nat→Nat}:∀(l acc:A2 (Nat×Ob)) (j:Nat),(∀p∈l,f p.1≠j)→(Cr f fl l acc).lookup j=acc.lookup j
 |[],_,_,_=>rfl
 |p::r,acc,j,h=>by
  simp only[Cr];rw[Mt r _ j (fun q hq=>h q (Bp5 _ hq)),Ax,Bpp (Brl (h p Bp6))]
theorem V6{f fl:Nat→Nat}:∀(l acc:A2 (Nat×Ob)) (p:Nat×Ob),(l.map fun p=>f p.1).Nodup→p∈l→(Cr f fl l acc).lookup (f p.1)=some (Lv f fl p.2)
 |[],_,_,_,h=>by simp at h
 |q::r,acc,p,hnd,h=>by
  simp only[Bp3,Bqg]at hnd;simp only[Cr];rcases Boz.1 h with rfl|h
  ·rw[Mt r _ _ (fun q hq he=>hnd.1 (by rw[← he];exact Bpe (f:=fun p:Nat×Ob=>f p.1) hq)),Ax,Bq6 rfl]
  ·exact V6 r _ p hnd.2 h
structure A13(X Xc Cw:A5)(f fl:Nat→Nat)(F:List Nat):Prop where
 Tf:∀p∈Xc.objs,X.objs.lookup (f p.1)=some (Lv f fl p.2)
 Aq6:(Xc.objs.all fun p=>K3 (Xc.objs.map (·.1)) Xc.live p.2)=true
 Ahz:(Cw.objs.all fun p=>K3 (Cw.objs.map (·.1)) Cw.live p.2)=true
 nodup:(Cw.objs.map fun p=>f p.1).Nodup
 Az6:(Xc.objs.map (·.1)).Nodup
 new:∀p∈Cw.objs,p.1∈Xc.objs.map (·.1)∨(f p.1∈F∧X.objs.lookup (f p.1)=none)
 sub:∀p∈Xc.objs,p.1∈Cw.objs.map (·.1)
 free:∀j o,X.objs.lookup j=some o→(∀p∈Cw.objs,f p.1≠j)→F=[]∨F4 F o=true
 Bhj:∀n∈Xc.live,fl n∈X.live
 Bjv:(Xc.live.map fl).Nodup
 Bhk:(Cw.live.map fl).Nodup
 Bjw:∀n∈Cw.live,fl n∈F
 Bmh:∀n∈Cw.live,fl n∈X.live→fl n∈Xc.live.map fl
def Hw(fl:Nat→Nat)(X Xc Cw:A5):A2 Nat:=Cw.live.map fl++X.live.filter fun m=>!(Xc.live.map fl).contains m
def Ami:m∈Hw fl X Xc Cw↔(∃n∈Cw.live,fl n=m)∨(m∈X.live∧∀n∈Xc.live,fl n≠m):=by
 unfold Hw;rw[Bp4,Bpc,Bpv];refine or_congr Iff.rfl (and_congr Iff.rfl ?_);simp only[Btc];constructor
 ·intro h n hn he;have:(Xc.live.map fl).contains m=true:=by rw[Bqc];exact Bpc.2 ⟨n,hn,he⟩
  rw[this]at h;cases h
 ·intro h;cases hc:(Xc.live.map fl).contains m with
  |false=>rfl
  |true =>rw[Bqc]at hc;obtain⟨n,hn,he⟩:=Bpc.1 hc;exact(h n hn he).elim
section
variable{P:Program}{X:A5}
def GH(g:Gh)(w:World)(gs:A2 (Nat×AV)):Prop:=∀p∈gs,RA g w p.2 (.pointer (some ⟨p.1,0,none⟩))
def Afh(P:Program)(f:FuncId)(args:A2 AV)(gs:A2 (Nat×AV))(X:A5)(res:AV)(X':A5):Prop :=
 ∀(g:Gh) (w:World) (vs:Array Value),HR (X.objs.map (·.1)) (B8.of g w X) g w X→GH g w gs→args.length=vs.size →
  (∀(i:Nat) x v,args[i]? = some x→vs[i]? = some v→RA g w x v) →
  Calls P f vs w fun e w'=>∃g' v,e = .returned v∧RA g' w' res v∧HR (X.objs.map (·.1)) (B8.of g w X) g' w' X'
def Mj.toH{f:FuncId}{args:A2 AV}(h:Mj P f args X res X'):Afh P f args [] X res X' :=
 fun g w vs hr _ hl ha=>h g w vs hr hl ha
def Afh.plain{f:FuncId}{args:A2 AV}(h:Afh P f args [] X res X'):Mj P f args X res X' :=
 fun g w vs hr hl ha=>h g w vs hr (by simp[GH]) hl ha
def Afh.Aqh{gs:A2 (Nat×AV)}(hs:Afh P fn xs gs Xc res Cw)(hgd:Az (gs.map (·.2))=true)(hc:A13 X Xc Cw f fl F)
  (hd:Kt (Xc.objs.map (·.1)) Xc.live xs=true) (Vv:H5 (Cw.objs.map (·.1)) Cw.live res=true) {nm:A2 Nat}   
  (hr:HR nm B g w X) (hgs:GH g w gs)  (hl:xs.length=vs.size) (Pk:∀(i:Nat) x v,(Oz f fl xs)[i]? = some x→vs[i]? = some v→RA g w x v) :
  Calls P fn vs w fun e w'=>∃v g',e = .returned v∧HR nm B g' w' ⟨Cr f fl Cw.objs X.objs,Hw fl X Xc Cw⟩∧Trans F g w g' w'∧RA g' w' (S5 f fl res) v:=by
 classical
 let gc:Gh:={ γ:=g.γ,β:=fun n=>if n∈Xc.live then g.β (fl n)else none,ρ:=fun k=>g.ρ (f k) };have B90:∀n∈Xc.live,gc.β n=g.β (fl n):=fun n hn=>by simp only[gc,hn,Brg]
 have Ad5:∀n ob,gc.β n=some ob→n∈Xc.live∧g.β (fl n)=some ob:=by
  intro n ob he;simp only[gc]at he;split at he
  ·exact⟨‹_›,he⟩
  ·cases he
 have Mk:∀k o,Xc.objs.lookup k=some o→X.objs.lookup (f k)=some (Lv f fl o):=fun k o hk=>hc.Tf _ (Da hk)
 have Aq7:∀p∈Cw.objs,∀q∈Cw.objs,f p.1=f q.1→p=q:=fun p hp q hq he=>Jf hc.nodup hp hq he
 have Ad4:(Cw.objs.map (·.1)).Nodup:=Z7 (h:=f) hc.nodup;have Aaa:∀k o,Xc.objs.lookup k=some o→∃p∈Cw.objs,p.1=k:=by intro k o hk;obtain⟨p,hp,he⟩:=Bpc.1 (hc.sub _ (Da hk));exact⟨p,hp,he⟩
 have h0:HR (Xc.objs.map (·.1)) (B8.of gc w Xc) gc w Xc:=by
  refine⟨?_,hr.Ip,Bpa _,⟨rfl,rfl,rfl,Bpa _⟩,.refl _ _,fun b _ _=>⟨rfl,rfl⟩,?_,?_,?_,?_,?_,?_,?_,?_,?_,.bare fun _ _=>rfl⟩
  ·intro k hk;refine⟨rfl,?_⟩;obtain⟨p,hp,rfl⟩:=Bpc.1 hk;rw[B5 hc.Az6 (x:=p.2) hp];rfl
  ·intro k o hk;exact Bv.A83 (g:=g) (gc:=gc) (f:=f) (fl:=fl) (ks:=Xc.objs.map (·.1)) (ls:=Xc.live) rfl (fun _ _=>rfl) B90 (Bqb.1 hc.Aq6 _ (Da hk)) (hr.objs _ _ (Mk k o hk))
  ·intro k o hk;exact hr.Fq _ _ (Mk k o hk)
  ·intro k k' o o' hk Lb he;have h1:=hr.Br _ _ _ _ (Mk k o hk) (Mk k' o' Lb) he;obtain⟨p,hp,e1⟩:=Aaa k o hk;obtain⟨q,hq,e2⟩:=Aaa k' o' Lb;have:=Aq7 p hp q hq (by rw[e1,e2];exact h1);rw[← e1,← e2,this]
  ·intro k o hk;exact .inr (.inl ⟨k,o,hk,rfl⟩)
  ·intro n;by_cases hn:n∈Xc.live
   ·simp only[hn,true_iff,B90 n hn];exact(hr.live _).1 (hc.Bhj n hn)
   ·simp only[hn,false_iff,gc,Bre];simp
  ·intro n m b hn hm;obtain⟨h1,h2⟩:=Ad5 n _ hn;obtain⟨h3,h4⟩:=Ad5 m _ hm;exact Jf hc.Bjv h1 h3 (hr.Bw _ _ b h2 h4)
  ·intro n b k o hn hk;exact hr.Ba _ b _ _ (Ad5 n _ hn).2 (Mk k o hk)
  ·intro n b hn;exact .inr (.inr ⟨n,hn⟩)
  ·intro n b hn;exact hr.C7 _ b (Ad5 n _ hn).2
 have Bhl:GH gc w gs:=by intro p hp;obtain⟨i,hi⟩:=Bu0 hp;exact(hgs p hp).data (Ix hgd (i:=i) (by rw[Bp1,hi];rfl)) (.refl _ _)
 have:=hs gc w vs h0 Bhl hl fun i x v hx hv=>RA.A83 (g:=g) (gc:=gc) (ks:=Xc.objs.map (·.1)) (ls:=Xc.live) (f:=f) (fl:=fl) rfl (fun _ _=>rfl) B90 x v (Iy hd hx) (Pk i _ v (by rw[Iz,Bp1,hx];rfl) hv)
 refine this.mono ?_;rintro e w' ⟨g1,v,rfl,Ua,h1⟩;let ρ':Nat→Nat:=fun j=>match Cw.objs.find? (fun p=>f p.1==j) with
  |some p=>g1.ρ p.1
  |none=>g.ρ j
 let β':Nat→A3 (A3 Nat):=fun m=>match Cw.live.find? (fun n=>fl n==m) with
  |some n=>g1.β n
  |none=>if m∈Xc.live.map fl then none else g.β m
 let η':Nat→Nat→A3 Nat:=fun m=>if m∈Cw.live.map fl then fun _=>none else g.η m
 have Bjx:∀n∈Cw.live,∀i,η' (fl n) i=none:=by intro n hn i;simp only[η',Bpc.2 ⟨n,hn,rfl⟩,Brg]
 have B91:∀m,(∀n∈Cw.live,fl n≠m)→η' m=g.η m:=by
  intro m hm;have:m∉Cw.live.map fl:=fun h=>by obtain⟨n,hn,he⟩:=Bpc.1 h;exact hm n hn he
  simp only[η',this,Bre]
 have Hr:∀p∈Cw.objs,ρ' (f p.1)=g1.ρ p.1:=by
  intro p hp;have Gu:(Cw.objs.find? (fun q=>f q.1==f p.1)).isSome=true:=by rw[Bvg];exact⟨p,hp,by simp⟩
  obtain⟨q,hq⟩:=Bps.1 Gu;have hq1:=Bvx hq;have hq2:=Bu8 hq;simp only[Btr]at hq1;have:=Aq7 q hq2 p hp hq1;simp only[ρ',hq,this]
 have D5:∀j,(∀p∈Cw.objs,f p.1≠j)→ρ' j=g.ρ j:=by
  intro j hj;have:Cw.objs.find? (fun p=>f p.1==j)=none:=by rw[Bv7];intro p hp;simpa using hj p hp
  simp only[ρ',this]
 have Av1:∀n∈Cw.live,β' (fl n)=g1.β n:=by
  intro n hn;have Gu:(Cw.live.find? (fun q=>fl q==fl n)).isSome=true:=by rw[Bvg];exact⟨n,hn,by simp⟩
  obtain⟨q,hq⟩:=Bps.1 Gu;have hq1:=Bvx hq;have hq2:=Bu8 hq;simp only[Btr]at hq1;have:=Jf hc.Bhk hq2 hn hq1;simp only[β',hq,this]
 have B92:∀m,(∀n∈Cw.live,fl n≠m)→β' m=if m∈Xc.live.map fl then none else g.β m:=by
  intro m hm;have:Cw.live.find? (fun n=>fl n==m)=none:=by rw[Bv7];intro n hn;simpa using hm n hn
  simp only[β',this]
 have P0:∀m ob,β' m=some ob→(∃n∈Cw.live,fl n=m∧g1.β n=some ob)∨((∀n∈Cw.live,fl n≠m)∧(∀n∈Xc.live,fl n≠m)∧g.β m=some ob):=by
  intro m ob he;by_cases h:∃n∈Cw.live,fl n=m
  ·obtain⟨n,hn,rfl⟩:=h;rw[Av1 n hn]at he;exact .inl ⟨n,hn,rfl,he⟩
  ·have h':∀n∈Cw.live,fl n≠m:=fun n hn he=>h ⟨n,hn,he⟩
   rw[B92 m h']at he;split at he
   ·cases he
   ·rename_i We;exact .inr ⟨h',fun n hn e=>We (Bpc.2 ⟨n,hn,e⟩),he⟩
 have A81:∀j,(∃p∈Cw.objs,f p.1=j)∨(∀p∈Cw.objs,f p.1≠j):=by
  intro j;by_cases h:∃p∈Cw.objs,f p.1=j
  ·exact .inl h
  ·exact .inr fun p hp he=>h ⟨p,hp,he⟩
 have hold:∀k,k∈Xc.objs.map (·.1)→g1.ρ k=g.ρ (f k):=fun k hk=>(h1.D4 k hk).1
 have Qs:∀b,b<w.heap.size→(¬ ∃k o,Xc.objs.lookup k=some o∧g.ρ (f k)=b)→(¬ ∃n∈Xc.live,g.β (fl n)=some (some b))→w'.heap[b]? = w.heap[b]?∧g1.γ b=g.γ b:=by
  intro b hb hn hn2;refine h1.frame b hb ?_;rintro (⟨k,o,hk,he⟩|⟨n,Ke⟩)
  ·exact hn ⟨k,o,hk,he⟩
  ·exact hn2 ⟨n,Ad5 n _ Ke⟩
 have Hc:w.heap.size≤w'.heap.size:=h1.base;have hle:LeD g.γ w g1.γ w':=h1.le;have Av2:∀b,(w.heap.size≤b∨(B8.of gc w Xc).allowed b)→w.heap.size≤b∨(∃k o,Xc.objs.lookup k=some o∧g.ρ (f k)=b)∨(∃n∈Xc.live,g.β (fl n)=some (some b)):=by
  rintro b (h|⟨k,o,hk,he⟩|⟨n,hn⟩)
  ·exact .inl h
  ·exact .inr (.inl ⟨k,o,hk,he⟩)
  ·exact .inr (.inr ⟨n,Ad5 n _ hn⟩)
 have A38:∀m b,g.β m=some (some b)→(∀n∈Xc.live,fl n≠m)→w'.heap[b]? = w.heap[b]?∧g1.γ b=g.γ b:=by
  intro m b hm We;refine Qs b (hr.C7 m b hm) ?_ ?_
  ·rintro ⟨k,o,hk,he⟩;exact hr.Ba m b _ _ hm (Mk k o hk) he.symm
  ·rintro ⟨n,hn,he⟩;exact We n hn (hr.Bw _ _ b he hm)
 have A39:∀L i b,(g.β L).isSome→g.η L i=some b→w'.heap[b]? = w.heap[b]?∧g1.γ b=g.γ b:=by
  intro L i b hL hb;refine Qs b (hr.eta.lt L i b hL hb) ?_ ?_
  ·rintro ⟨k,o,hk,he⟩;exact hr.eta.obj L i b _ _ hL hb (Mk k o hk) he.symm
  ·rintro ⟨n,_,he⟩;exact hr.eta.Be L i b _ hL hb he
 have A3a:∀j o,X.objs.lookup j=some o→(∀p∈Cw.objs,f p.1≠j)→w'.heap[g.ρ j]? = w.heap[g.ρ j]?∧g1.γ (g.ρ j)=g.γ (g.ρ j):=by
  intro j o hj hne;refine Qs _ (Et (hr.objs j o hj)) ?_ ?_
  ·rintro ⟨k,o',hk,he⟩;have:=hr.Br _ _ _ _ (Mk k o' hk) hj he;obtain⟨p,hp,e1⟩:=Aaa k o' hk;exact hne p hp (by rw[e1];exact this)
  ·rintro ⟨n,_,he⟩;exact hr.Ba _ _ j o he hj rfl
 have B93:∀j,(∀p∈Cw.objs,f p.1≠j)→∀k o,Xc.objs.lookup k=some o→f k≠j:=by intro j hne k o hk he;obtain⟨p,hp,e1⟩:=Aaa k o hk;exact hne p hp (by rw[e1];exact he)
 have ht:Trans F g w { γ:=g1.γ,β:=β',ρ:=ρ',η:=η' } w':=by
  refine⟨hle,?_,?_,?_⟩
  rotate_right
  ·intro L hL he;obtain⟨ob,Ga⟩:=Bps.1 he;rcases P0 L ob Ga with ⟨n,hn,rfl,_⟩|⟨h2,h3,h4⟩
   ·exact(hL (hc.Bjw n hn)).elim
   ·exact⟨B91 L h2,fun i b hb=>⟨(A39 L i b (by rw[h4];rfl) hb).2,(A39 L i b (by rw[h4];rfl) hb).1⟩⟩
  ·intro j hj;simp only;rcases A81 j with ⟨p,hp,rfl⟩|hne
   ·rw[Hr p hp];rcases hc.new p hp with h|⟨h,_⟩
    ·exact hold _ h
    ·exact(hj h).elim
   ·exact D5 j hne
  ·intro m ob hm he;rcases P0 m ob he with ⟨n,hn,rfl,_⟩|⟨_,h3,h4⟩
   ·exact(hm (hc.Bjw n hn)).elim
   ·exact⟨h4,fun b hb=>⟨(A38 m b (hb▸h4) h3).2,(A38 m b (hb▸h4) h3).1⟩⟩
 have hX':∀j o,(Cr f fl Cw.objs X.objs).lookup j=some o→(∃p∈Cw.objs,f p.1=j∧o=Lv f fl p.2)∨((∀p∈Cw.objs,f p.1≠j)∧X.objs.lookup j=some o):=by
  intro j o hj;rcases A81 j with ⟨p,hp,rfl⟩|hne
  ·rw[V6 _ _ p hc.nodup hp]at hj;exact .inl ⟨p,hp,rfl,by simpa using hj.symm⟩
  ·rw[Mt _ _ _ hne]at hj;exact .inr ⟨hne,hj⟩
 have Ai0:∀k∈Cw.objs.map (·.1),ρ' (f k)=g1.ρ k:=by intro k hk;obtain⟨p,hp,rfl⟩:=Bpc.1 hk;exact Hr p hp
 have Amj:∀p∈Cw.objs,w.heap.size≤g1.ρ p.1∨(∃k o,Xc.objs.lookup k=some o∧g.ρ (f k)=g1.ρ p.1)∨(∃n∈Xc.live,g.β (fl n)=some (some (g1.ρ p.1))) :=
  fun p hp=>Av2 _ (h1.Ca _ _ (B5 Ad4 hp))
 refine⟨v,{ γ:=g1.γ,β:=β',ρ:=ρ',η:=η' },rfl,⟨?_,h1.Ip,Bqf hr.base Hc,⟨h1.io.1.trans hr.io.1,h1.io.2.1.trans hr.io.2.1,h1.io.2.2.1.trans hr.io.2.2.1,Bqf hr.io.2.2.2 h1.io.2.2.2⟩,hr.le.trans hle,?_,?_,?_,?_,?_,?_,?_,?_,?_,?_,hr.eta.Aun (fun L hL=>?_) Hc (fun m b hm L i hL hb=>?_) (fun j o hj L i hL hb=>?_)⟩,ht,?_⟩
 ·intro k hk;obtain⟨h2,h3⟩:=hr.D4 k hk;rcases A81 k with ⟨p,hp,rfl⟩|hne
  ·refine⟨?_,by simp only;rw[V6 _ _ p hc.nodup hp];rfl⟩;simp only;rw[Hr p hp];rcases hc.new p hp with h|⟨_,h⟩
   ·rw[hold _ h];exact h2
   ·rw[h]at h3;cases h3
  ·exact⟨by simp only;rw[D5 k hne];exact h2,by simp only;rw[Mt _ _ _ hne];exact h3⟩
 ·intro b hb hnb;have h2:=hr.frame b hb hnb;have h3:=Qs b (Bqv hb hr.base) (by
   rintro ⟨k,o,hk,he⟩;rcases hr.Ca _ _ (Mk k o hk)with h|h
   ·rw[he]at h;omega
   ·rw[he]at h;exact hnb h) (by
   rintro ⟨n,_,he⟩;rcases hr.C3 _ b he with h|h
   ·omega
   ·exact hnb h)
  exact⟨h3.1.trans h2.1,h3.2.trans h2.2⟩
 ·intro j o hj;rcases hX' j o hj with ⟨p,hp,rfl,rfl⟩|⟨hne,Gb⟩
  ·simp only;rw[Hr p hp];exact Bv.Aqg (g:={ γ:=g1.γ,β:=β',ρ:=ρ',η:=η' }) (gc:=g1) (ls:=Cw.live) rfl Ai0 Av1 (Bqb.1 hc.Ahz _ hp) (h1.objs _ _ (B5 Ad4 hp))
  ·simp only;rw[D5 j hne];exact(hr.objs j o Gb).D4 ht (A3a j o Gb hne).1 (hc.free j o Gb hne)
 ·intro j o hj;rcases hX' j o hj with ⟨p,hp,rfl,rfl⟩|⟨hne,Gb⟩
  ·simp only;rw[Hr p hp];exact h1.Fq _ _ (B5 Ad4 hp)
  ·simp only;rw[D5 j hne,(A3a j o Gb hne).2];exact hr.Fq j o Gb
 ·intro j j' o o' hj Gb he;simp only at he;have mix:∀p∈Cw.objs,∀j o,X.objs.lookup j=some o→(∀p∈Cw.objs,f p.1≠j)→g1.ρ p.1≠g.ρ j:=by
   intro p hp j o hj hne he;rcases Amj p hp with h|⟨k,o',hk,h⟩|⟨n,_,h⟩
   ·have:=Et (hr.objs j o hj);omega
   ·exact B93 j hne k o' hk (hr.Br _ _ _ _ (Mk k o' hk) hj (h.trans he))
   ·exact hr.Ba _ _ j o h hj he
  rcases hX' j o hj with ⟨p,hp,e1,_⟩|⟨hne,hj1⟩<;>rcases hX' j' o' Gb with ⟨q,hq,e2,_⟩|⟨Ub,Auw⟩
  ·rw[← e1,← e2]at he⊢;rw[Hr p hp,Hr q hq]at he;rw[h1.Br _ _ _ _ (B5 Ad4 hp) (B5 Ad4 hq) he]
  ·rw[← e1,Hr p hp,D5 j' Ub]at he;exact(mix p hp j' o' Auw Ub he).elim
  ·rw[← e2,Hr q hq,D5 j hne]at he;exact(mix q hq j o hj1 hne he.symm).elim
  ·rw[D5 j hne,D5 j' Ub]at he;exact hr.Br j j' o o' hj1 Auw he
 ·intro j o hj;rcases hX' j o hj with ⟨p,hp,rfl,rfl⟩|⟨hne,Gb⟩
  ·simp only;rw[Hr p hp];rcases Amj p hp with h|⟨k,o',hk,h⟩|⟨n,_,h⟩
   ·exact .inl (Bqf hr.base h)
   ·rw[← h];exact hr.Ca _ _ (Mk k o' hk)
   ·exact hr.C3 _ _ h
  ·simp only;rw[D5 j hne];exact hr.Ca j o Gb
 ·intro m;rw[Ami];simp only;constructor
  ·rintro (⟨n,hn,rfl⟩|⟨hm,We⟩)
   ·rw[Av1 n hn];exact(h1.live n).1 hn
   ·by_cases h:∃n∈Cw.live,fl n=m
    ·obtain⟨n,hn,rfl⟩:=h;rw[Av1 n hn];exact(h1.live n).1 hn
    ·rw[B92 m (fun n hn he=>h ⟨n,hn,he⟩),Bpp (fun Oy=>by obtain⟨n,hn,he⟩:=Bpc.1 Oy;exact We n hn he)];exact(hr.live m).1 hm
  ·intro Mr;obtain⟨ob,Ga⟩:=Bps.1 Mr;rcases P0 m ob Ga with ⟨n,hn,he,_⟩|⟨_,h3,h4⟩
   ·exact .inl ⟨n,hn,he⟩
   ·exact .inr ⟨(hr.live m).2 (by rw[h4];rfl),h3⟩
 ·intro m m' b hm Uc;have Bgc:∀n∈Cw.live,g1.β n=some (some b)→∀m,(∀n∈Xc.live,fl n≠m)→g.β m=some (some b)→False:=by
   intro n _ h2 m h3 h4;rcases Av2 b (h1.C3 n b h2)with h|⟨k,o,hk,h⟩|⟨n',Ke,h⟩
   ·have:=hr.C7 m b h4;omega
   ·exact hr.Ba m b _ _ h4 (Mk k o hk) h.symm
   ·exact h3 n' Ke (hr.Bw _ _ b h h4)
  rcases P0 m _ hm with ⟨n,hn,e1,h2⟩|⟨_,h3,h4⟩<;>rcases P0 m' _ Uc with ⟨n',Ke,e2,h2'⟩|⟨_,h3',h4'⟩
  ·rw[← e1,← e2,h1.Bw n n' b h2 h2']
  ·exact(Bgc n hn h2 m' h3' h4').elim
  ·exact(Bgc n' Ke h2' m h3 h4).elim
  ·exact hr.Bw m m' b h4 h4'
 ·intro m b j o hm hj;rcases P0 m _ hm with ⟨n,hn,_,h2⟩|⟨_,h3,h4⟩
  ·rcases hX' j o hj with ⟨p,hp,rfl,rfl⟩|⟨hne,Gb⟩
   ·simp only;rw[Hr p hp];exact h1.Ba n b _ _ h2 (B5 Ad4 hp)
   ·simp only;rw[D5 j hne];rcases Av2 b (h1.C3 n b h2)with h|⟨k,o',hk,h⟩|⟨n',_,h⟩
    ·have:=Et (hr.objs j o Gb);omega
    ·intro he;exact B93 j hne k o' hk (hr.Br _ _ _ _ (Mk k o' hk) Gb (h.trans he))
    ·exact hr.Ba _ b j o h Gb
  ·rcases hX' j o hj with ⟨p,hp,rfl,rfl⟩|⟨hne,Gb⟩
   ·simp only;rw[Hr p hp];rcases Amj p hp with h|⟨k,o',hk,h⟩|⟨n',Ke,h⟩
    ·have:=hr.C7 m b h4;omega
    ·rw[← h];exact hr.Ba m b _ _ h4 (Mk k o' hk)
    ·intro he;rw[← he]at h;exact h3 n' Ke (hr.Bw _ _ b h h4)
   ·simp only;rw[D5 j hne];exact hr.Ba m b j o h4 Gb
 ·intro m b hm;rcases P0 m _ hm with ⟨n,hn,_,h2⟩|⟨_,h3,h4⟩
  ·rcases Av2 b (h1.C3 n b h2)with h|⟨k,o',hk,h⟩|⟨n',_,h⟩
   ·exact .inl (Bqf hr.base h)
   ·rw[← h];exact hr.Ca _ _ (Mk k o' hk)
   ·exact hr.C3 _ b h
  ·exact hr.C3 m b h4
 ·intro m b hm;rcases P0 m _ hm with ⟨n,hn,_,h2⟩|⟨_,h3,h4⟩
  ·exact h1.C7 n b h2
  ·exact Bqv (hr.C7 m b h4) Hc
 ·obtain⟨ob,Ga⟩:=Bps.1 hL;rcases P0 L ob Ga with ⟨n,hn,rfl,_⟩|⟨h2,h3,h4⟩
  ·exact .inr (Bjx n hn)
  ·exact .inl ⟨by rw[h4];rfl,B91 L h2⟩
 ·rcases P0 m _ hm with ⟨n,hn,_,h2⟩|⟨_,h3,h4⟩
  ·rcases Av2 b (h1.C3 n b h2)with h|⟨k,o',hk,h⟩|⟨n',_,h⟩
   ·exact hr.eta.ltN h L i hL hb
   ·exact hr.eta.obj L i b _ _ hL hb (Mk k o' hk) h.symm
   ·exact hr.eta.Be L i b _ hL hb h
  ·exact hr.eta.Be L i b m hL hb h4
 ·rcases hX' j o hj with ⟨p,hp,rfl,rfl⟩|⟨hne,Gb⟩
  ·simp only at hb;rw[Hr p hp]at hb;rcases Amj p hp with h|⟨k,o',hk,h⟩|⟨n',_,h⟩
   ·exact hr.eta.ltN h L i hL hb
   ·exact hr.eta.obj L i _ _ _ hL hb (Mk k o' hk) h.symm
   ·exact hr.eta.Be L i _ _ hL hb h
  ·simp only at hb;rw[D5 j hne]at hb;exact hr.eta.B58 Gb L i hL hb
 ·exact RA.Aqg (g:={ γ:=g1.γ,β:=β',ρ:=ρ',η:=η' }) (gc:=g1) (ls:=Cw.live) rfl Ai0 Av1 Ua Vv
theorem Mj.Aqh(hs:Mj P fn xs Xc res Cw)(hc:A13 X Xc Cw f fl F)
  (hd:Kt (Xc.objs.map (·.1)) Xc.live xs=true) (Vv:H5 (Cw.objs.map (·.1)) Cw.live res=true) {nm:A2 Nat}   
  (hr:HR nm B g w X)  (hl:xs.length=vs.size) (Pk:∀(i:Nat) x v,(Oz f fl xs)[i]? = some x→vs[i]? = some v→RA g w x v) :
  Calls P fn vs w fun e w'=>∃v g',e = .returned v∧HR nm B g' w' ⟨Cr f fl Cw.objs X.objs,Hw fl X Xc Cw⟩∧Trans F g w g' w'∧RA g' w' (S5 f fl res) v :=
 hs.toH.Aqh rfl hc hd Vv hr (by simp[GH]) hl Pk
end
open Go.Lib
inductive Aqi(X:A5)(f fl:Nat→Nat):List (Nat×Ob)→Prop
 |nil:Aqi X f fl []
 |cons {k:Nat} {o:Ob} {r:List (Nat×Ob)}:X.objs.lookup (f k)=some (Lv f fl o)→Aqi X f fl r→Aqi X f fl ((k,o)::r)
def B94{l:A2 Nat}(h:l.contains m=false):m∉l:=fun hm=>by
 have:=Bqc.2 hm;rw[h]at this;cases this
section
variable{P:Program}{o:Oper}{X:A5}
def Trans.sub{F':A2 Nat}(h:Trans F g w g' w')(hs:∀k,k∈F→k∈F'):Trans F' g w g' w' :=
 ⟨h.le,fun k hk=>h.names k fun hh=>hk (hs k hh),fun n ob hn he=>h.Apx n ob (fun hh=>hn (hs n hh)) he,fun L hL he=>h.eta L (fun hh=>hL (hs L hh)) he⟩
def Anx{l:A2 Nat}(h:m∉l):(m::l).filter (· != m)=l:=by
 simp only[Br4,Bvh,Bqs,Bre];exact List.filter_eq_self.2 fun x hx=>by
  have:x≠m:=fun e=>h (by rw[← e];exact hx)
  simpa using this
def Aqj{s:Operand}{t u e e' bytes:Nat}(m:Nat)
  (ho:o.op = .call { callee:=.builtin .append,args:=#[s,x],argTypes:=ts }) (h0:ts[0]? = some t) (h1:ts[1]? = some u) (hu:Pu P u e' sz' A82)
  (ht:Pu P t e sz bytes) (hm:m∉X.live) (hX:B1 [m] X=true)
  (Iw:∀cs∈fs,∀c∈cs,A0z c=true) (Zu:fs.length*bytes≤140737488355328) (hlen:fs.length≤4611686018427387904)
  (hty:(ty==none||ty==some e)=true:=by rfl) :
  Bi P o [(s,.d (.sc (.slice none 0 0))),(x,.d (.sl sz fs))] X ⟨X.objs,m::X.live⟩ [m] (.Be m sz fs ty):=by
 intro nm Ej B g w a hr Au next Q hn
 have e1:=(Is Au).Ap;have e2:=Y4 Au;simp only at e1 e2;obtain⟨h2,h3⟩:=hr.Ps hm none hX (by simp);have hap:=Av0 (P:=P) (o:=o) (X:=⟨X.objs,m::X.live⟩) (n:=m) (sz:=sz) (es:=[]) (fs:=fs) (ty:=ty) m ho h0 h1 hu ht Bp6
  (by simp only[Anx hm];exact hm) hX Iw (by simpa using Zu) (by simpa using hlen) hty
 refine hap nm Ej B _ w a h2 ?_ next Q ?_
 ·intro p hp;simp only[Boz,Bpt,Bqy]at hp;rcases hp with rfl|rfl
  ·simp only[e1];exact .Be m sz [] ty _ (.nil sz none 0 fun _=>rfl) trivial
  ·exact e2.mono h3 (.d _)
 ·intro g' w' v hr' ht' Ua;simp only[Anx hm]at hr';exact hn g' w' v hr' ((h3.trans ht').sub (by simp)) (by simpa using Ua)
def Aze{e bytes:Nat}(ho:o.op = .call { callee:=.builtin .len,args:=#[x],argTypes:=ts })
  (h0:ts[0]? = some t) (ht:Pu P t e sz bytes):Bi P o [(x,.d (.sc (.slice none 0 0)))] X X [] (.d (.sc (.int .i64 0))):=by
 intro nm Ej B g w a hr Au;have e1:=(Is Au).Ap;simp only at e1;refine Auz (es:=[]) (sz':=sz) ho h0 ht nm Ej B g w a hr ?_;intro p hp;simp only[Boz,Bpt,Bqy]at hp;subst hp;simp only[e1];exact .d _ _ (.nil sz none 0 fun _=>rfl)
def B2v{nm:A2 Nat}(hr:HR nm B g w X)(hk:X.objs.lookup k=some (.cells cs (some T))) :
  ∃c,w.shape? (g.ρ k)=some (T,c)∧cs.length≤c:=by
 cases hr.objs k _ hk with
 |cells _ _ arr T' hb hl hc h4 =>have:=h4 T rfl;subst this;exact⟨arr.size,by simp[World.shape?,hb],hl⟩
def Aqk(ho:o.op = .convert s d x)(hk:X.objs.lookup k=some (.cells cs (some T)))(Av3:off<cs.length)
  (hs:P.underlying s=some (.pointer t)) (hd:P.underlying d=some .unsafePointer) (hi:P.info? t=some i) (Hc:i.size≠0):Bi P o [(x,.ptr k off)] X X [] (.ptr k off) :=
 .quiet fun _ _ g w ac hr Au=>by
  have h1:=(Is Au).Ko;simp only at h1;obtain⟨c,hc,hlc⟩:=B2v hr hk;refine⟨_,?_,.ptr k off⟩;simp only[execOp,ho,h1];have:=run_to_unsafe (P:=P) w (src:=s) (dst:=d) (a:=⟨g.ρ k,off,none⟩) hs hd hi Hc hc (by simp only;omega);simp[this]
def Ai6(ho:o.op = .convert s d x)(hk:X.objs.lookup k=some (.cells cs (some T)))
  (hs:P.underlying s=some .unsafePointer) (hd:P.underlying d=some (.pointer T)) (hi:P.info? T=some i) (Hc:P.cellsOf T=cs.length) (A35:cs.length≠0):Bi P o [(x,.ptr k 0)] X X [] (.ptr k 0) :=
 .quiet fun _ _ g w ac hr Au=>by
  have h1:=(Is Au).Ko;simp only at h1;obtain⟨c,hc,hlc⟩:=B2v hr hk;refine⟨_,?_,.ptr k 0⟩;simp only[execOp,ho,h1];have Bjy:liesAt P P.depth T (c/P.cellsOf T) 0 T 1=true:=by have hd':P.depth=(2*(P.types.size+Made.depth)+1)+1:=rfl;have hq:1≤c/cs.length:=(Bw8 (by omega)).2 (by omega);rw[hd'];simp only[liesAt,Br3];left;rw[hd'];simp[rowAt,sameLayout,Hc,A35];exact .inl hq
  have:=run_from_unsafe (P:=P) w (src:=s) (dst:=d) (a:=⟨g.ρ k,0,none⟩) hs hd hi hc Bjy;simp[this]
def Amk(ho:o.op = .convert s d x)(hk:X.objs.lookup k=some (.cells cs (some T)))(Av3:off+1≤cs.length)
  (hs:P.underlying s=some (.pointer t)) (hd:P.underlying d=some .unsafePointer) (hi:∃i,P.info? t=some i∧i.size≠0):Bi P o [(x,.ptr k off)] X X [] (.ptr k off):=by
 obtain⟨i,hi,hz⟩:=hi;exact Aqk ho hk Av3 hs hd hi hz
def Agt(ho:o.op = .convert s d x)(hk:X.objs.lookup k=some (.cells cs (some T)))
  (hs:P.underlying s=some .unsafePointer) (hd:P.underlying d=some (.pointer T)) (hi:∃i,P.info? T=some i∧i.size≠0) (Hc:P.cellsOf T=cs.length) (A35:cs.length≠0):Bi P o [(x,.ptr k 0)] X X [] (.ptr k 0):=by
 obtain⟨i,hi,_⟩:=hi;exact Ai6 ho hk hs hd hi Hc A35
def Av4 {f : FuncId} {fn : Func}   {v : AV} (ho : o.op = .call { callee := .value (.func f), args := #[x], argTypes := ts }) (hf : P.funcs[f]? = some fn) (hn : (fn.name == "runtime.NumGoroutine") = false)
  (hb:fn.body=none) (hfn:Extern.findNext fn=none) (hfi:Extern.find fn=some Extern.AbiNoEscape.same):Bi P o [(x,v)] X X [] v :=
 .quiet fun _ _ g w ac hr Au=>by
  have h1:=Is Au;simp only at h1;refine⟨ac.eval x,?_,h1⟩;simp only[execOp,ho,resolve]
  have Ke : ¬ (fn.name = "runtime.NumGoroutine") := by simpa using hn
  simp[Deferred.ofValue,Act.eval,invoke,callFunc,hf,Ke,hb,hfn,hfi,run_noEscape w]
def Aql{f:FuncId}{v:AV}(ho:o.op = .call { callee:=.value (.func f),args:=#[x],argTypes:=ts })
  (h : ∃ fn, P.funcs[f]? = some fn ∧ (fn.name == "runtime.NumGoroutine") = false ∧ fn.body = none ∧ Extern.findNext fn = none ∧ Extern.find fn = some Extern.AbiNoEscape.same) : Bi P o [(x, v)] X X [] v := by
 obtain⟨fn,h1,h2,h3,h4,h5⟩:=h;exact Av4 ho h1 h2 h3 h4 h5
def Dy(l:A2 UInt8):A2 (A2 D):=l.map fun b=>[.sc (.int .u8 b.toNat)]
def A3c(l:A2 UInt8):A2 D:=l.map fun b=>.sc (.int .u8 b.toNat)
def Ee(l:A2 UInt8):(Dy l).length=l.length:=by simp[Dy]
variable{l:A2 UInt8}
def Wf{i:Nat}{cs:A2 D}(h:(Dy l)[i]? = some cs):∃b,l[i]? = some b∧cs=[.sc (.int .u8 b.toNat)]:=by simp only[Dy,Bp1,Bp8]at h;obtain⟨b,hb,rfl⟩:=h;exact⟨b,hb,rfl⟩
theorem foldl_push:∀(l:A2 UInt8) (s:ByteArray),(l.map fun b=>(b.toNat:Int)).foldl (fun r (n:Int)=>r.push (UInt8.ofNat n.toNat)) s=⟨s.data++l.toArray⟩
 |[],s=>by apply Bvc;simp
 |b::r,s=>by
  simp only[Bp3,Bqp];rw[foldl_push r];apply Bvc;simp[ByteArray.push]
def Ai7(ho:o.op = .convert s d x)(hs:P.underlying s=some (.slice e))(he:P.underlying e=some (.int .u8))(hd:P.underlying d=some .string) :
  Bi P o [(x,.d (.sl 1 (Dy l)))] X X [] (.d (.sc (.string ⟨l.toArray⟩))) :=
 .quiet fun _ _ g w ac hr Au=>by
  have h1:=Is Au;simp only at h1;refine⟨_,?_,.H4 _ _ _⟩;simp only[execOp,ho];generalize ac.eval x=v at h1;cases h1 with
  |d _ _ h1 =>
   obtain⟨base,cap,rfl,_,hb,_,cells,hcl,Cg,hc⟩:=h1.A0y (P:=P) hr.Ip;have Azf:cells=(l.map fun b=>(b.toNat:Int)).map (Value.int .u8):=by
    refine Bsc fun i=>?_
    by_cases hi:i<l.length
    ·have h2:i<cells.length:=by rw[hcl,Ee];omega
     have h3:=hc i 0 [.sc (.int .u8 l[i].toNat)] (.sc (.int .u8 l[i].toNat)) cells[i] (by simp[Dy,hi]) rfl (by simp[h2]);have h4:cells[i]=Value.int .u8 l[i].toNat:=RA.Ap (g:=g) (w:=w) (.d _ _ h3);simp[h2,h4,hi]
    ·have h2:¬i<cells.length:=by rw[hcl,Ee];omega
     simp[Bss hi,Bss h2]
   have hcv:=Bvo w s d e base (Dy l).length cap hs he hd;rw[Bq5,hcv];cases base with
   |none =>
    have hl0:l=[]:=by have:cap=0:=hb rfl;rename_i hle _ _ _;have:=Ee l;exact Brt.1 (by omega)
    subst hl0;rfl
   |some a =>
    have hl:=Cg w fun _ _ _=>rfl
    have hfc:(Builtin.firstCells 1 (Dy l).length (.slice (some a) (Dy l).length cap))=loadCells a ((Dy l).length*1):=rfl;rw[hfc,Buj]at hl;rw[run_bytesToString w a _ cap (l.map fun b=>(b.toNat:Int)) (by rw[hl,Azf]),foldl_push];simp
def Aqm{e:Nat}(ho:o.op = .call { callee:=.builtin .unsafeSliceData,args:=#[x],argTypes:=ts })(hl:l≠[]) :
  Bi P o [(x,.Be n 1 (Dy l) (some e))] X X [] (.Vs n e (A3c l)) :=
 .quiet fun _ _ g w ac hr Au=>by
  have h1:=Is Au;simp only at h1;simp only[execOp,ho,resolve];generalize hv:ac.eval x=v at h1;have hlen:0<l.length:=Bsp.2 hl;cases h1 with
  |Be _ _ _ _ _ h1 h2 =>
   have hes:Dy l≠[]:=by simpa[Dy]using hl
   generalize hE:Dy l=E at h1 hes;cases h1 with
   |nil=>exact absurd rfl hes
   |sl _ _ b off len cap Bnz hγ U9 Hc hc =>
    have Bjz:cap≠0:=by have:=Ee l;rw[hE]at this;omega
    refine⟨.pointer (some ⟨b,off,none⟩),?_,?_⟩
    ·simp[hv,invoke,builtin,run_unsafeSliceData_row w _ _ _ _ _ Bjz]
    ·refine .Vs n e _ _ (.ep _ b off (by have:=Ee l;rw[hE]at this;simp[A3c];omega) ?_) ?_
     ·intro j c v hj hv';simp only[A3c,Bp1,Bp8]at hj;obtain⟨u,hu,rfl⟩:=hj;have hEj:E[j]? = some [.sc (.int .u8 u.toNat)]:=by rw[← hE];simp[Dy,hu]
      exact hc j _ 0 _ v hEj rfl (by simpa using hv')
     ·refine⟨rfl,fun ob Ga=>?_⟩;obtain⟨_,h3,_,_,h4⟩:=h2 ob Ga;obtain⟨h5,h6⟩:=h4 e rfl;exact⟨h3,h5,h6⟩
def Ad6(ho:o.op = .call { callee:=.builtin .unsafeSliceData,args:=#[x],argTypes:=ts }) :
  Bi P o [(x,.d (.sc (.slice none 0 0)))] X X [] (.d (.sc (.pointer none))) :=
 .quiet fun _ _ g w ac hr Au=>by
  have h1:=(Is Au).Ap;simp only at h1;refine⟨.pointer none,?_,.H4 _ _ _⟩;simp[execOp,ho,resolve,h1,invoke,builtin,run_unsafeSliceData_nil]
def Aml{pt it:TypeId}(ho:o.op = .call { callee:=.builtin .unsafeString,args:=#[x,y],argTypes:=#[pt,it] }) :
  Bi P o [(x,.d (.sc (.pointer none))),(y,.d (.sc (.int .i64 0)))] X X [] (.d (.sc (.string .empty))) :=
 .quiet fun _ _ g w ac hr Au=>by
  have h1:=(Is Au).Ap;have h2:=(Y4 Au).Ap;simp only at h1 h2;refine⟨.string .empty,?_,.H4 _ _ _⟩;simp[execOp,ho,resolve,h1,h2,invoke,builtin,run_unsafeString_none]
def B5h{e:Nat}(ho:o.op = .call { callee:=.builtin .unsafeString,args:=#[x,y],argTypes:=#[pt,it] })(hn:n∈X.live)(hl:l≠[])
  (hp:P.underlying pt=some (.pointer e)) (hc:P.cellsOf e=1) (hlen:l.length≤9223372036854775807) :
  Bi P o [(x,.Vs n e (A3c l)),(y,.d (.sc (.int .i64 l.length)))] X ⟨X.objs,X.live.filter (· != n)⟩ [] (.d (.sc (.string ⟨l.toArray⟩))):=by
 intro nm Ej B g w a hr Au next Q Ek
 have h1:=Is Au;have h2:=(Y4 Au).Ap;simp only at h1 h2;obtain⟨ob,Ga⟩:=Bps.1 ((hr.live n).1 hn);generalize hv:a.eval x=v at h1;cases h1 with
 |Vs _ _ _ _ h1 h3 =>
 cases h1 with
 |ep _ b off hγ Rq =>
 obtain⟨_,h4⟩:=h3;obtain⟨rfl,h5,c,h6⟩:=h4 ob Ga;simp only at h5 h6;subst h5;have K2:∀j u,l[j]? = some u→w.cell? ((⟨b,0,none⟩:Addr).add j)=some (.int .u8 u.toNat):=by intro j u hu;rw[addr_add];have hjl:j<l.length:=(Bp2.1 hu).1;have hs:(w.cell? ⟨b,0+j,none⟩).isSome:=hr.Ip b (0+j) (by simp[A3c]at hγ;omega);obtain⟨v,hv⟩:=Bps.1 hs;have:=Rq j (.sc (.int .u8 u.toNat)) v (by simp[A3c,hu]) hv;cases this;exact hv
 have Qd:l.length≤c:=by
  rcases Br8 l.length with h|h
  ·omega
  ·have hs:=hr.Ip b (l.length-1) (by simp[A3c]at hγ;omega);obtain⟨v,hv⟩:=Bps.1 hs;unfold World.shape? at h6;unfold World.cell? at hv;simp only at hv;split at hv
   ·rename_i arr T fr hh;simp only[hh,Bp0,Bpm]at h6;simp at hv;have:=(Bpo.1 hv).1;omega
   ·cases hv
 have Cg:=run_unsafeString_row (P:=P) w pt it o.type e hp hc b c h6 l hl Qd hlen K2;obtain⟨hr1,ht1⟩:=hr.Ah5 n;have hfz:∀b',b'≠b→(w.freeze ⟨b,0,none⟩ l.length).heap[b']? = w.heap[b']?:=by
  intro b' Fp;unfold World.freeze;split
  ·rfl
  ·simp only[Bql];rw[Bpp (by simpa using Fp.symm)]
 have hfc:∀i,(w.freeze ⟨b,0,none⟩ l.length).cell? ⟨b,i,none⟩=w.cell? ⟨b,i,none⟩:=by
  intro i;unfold World.freeze;split
  ·rfl
  ·simp only[World.cell?,Bql,Brg];cases w.heap[b]? with
   |none=>rfl
   |some o=>cases o<;>rfl
 obtain⟨hr2,Wb⟩:=hr1.raise (w':=w.freeze ⟨b,0,none⟩ l.length) (b:=b) (n:=g.γ b) (hr.C7 n b Ga) (hr.C3 n b Ga) (fun k p hk=>hr.Ba n b k p Ga hk) (by
   intro n' Ke;by_cases he:n'=n
   ·subst he;simp[Ac]at Ke
   ·simp only[Ae _ _ he]at Ke;exact he (hr.Bw n' n b Ke Ga))
  (hr.eta.A7i Ga) (by unfold World.freeze;split<;>simp) (by unfold World.freeze;split<;>exact⟨rfl,rfl,rfl,Bpa _⟩) hfz (fun i _=>hfc i) (Bpa _) (fun i hi=>by rw[hfc];exact hr.Ip b i hi) (by
   intro s hs0;unfold World.freeze;split
   ·exact hs0
   ·simp only[World.shape?,Bql,Brg]at hs0⊢;cases hh:w.heap[b]? with
    |none=>rw[hh]at hs0;exact hs0
    |some o=>rw[hh]at hs0;cases o<;>exact hs0)
 unfold Oper.wp;have:(execOp a.eval o).run P w = .ok (.value (.string ⟨l.toArray⟩)) (w.freeze ⟨b,0,none⟩ l.length):=by simp[execOp,ho,resolve,hv,h2,invoke,builtin,Cg]
 rw[this];exact Ek _ _ _ hr2 (ht1.trans Wb) (.H4 _ _ _)
end
abbrev D.bs(l:A2 UInt8):D:=.sc (.string ⟨l.toArray⟩)
def Yi(l:A2 UInt8):(⟨l.toArray⟩:ByteArray).size=l.length:=by simp[ByteArray.size]
def A84(l:A2 UInt8)(a b:Nat):(⟨l.toArray⟩:ByteArray).extract a b=⟨((l.drop a).take (b-a)).toArray⟩:=by apply Bvc;simp[Bw1,List.extract_toArray]
def B5i(a b:A2 UInt8):(⟨a.toArray⟩:ByteArray)++⟨b.toArray⟩=⟨(a++b).toArray⟩:=by apply Bvc;simp
section
variable{P:Program}{o:Oper}{X:A5}
variable{l:A2 UInt8}
def B95(ho:o.op = .call { callee:=.builtin .len,args:=#[x],argTypes:=ts })
  (h0:ts[0]? = some t) (ht:P.underlying t=some .string):Bi P o [(x,.d (.bs l))] X X [] (.d (.int .i64 l.length)):=by
 have:=Az2 (P:=P) (X:=X) (s:=⟨l.toArray⟩) ho h0 ht;rw[Yi]at this;exact this
def Azg{k:IntKind}{i:Int}(ho:o.op = .index t x y)(ht:P.underlying t=some .string)(h0:0≤i)(h1:i<l.length) :
  Bi P o [(x,.d (.bs l)),(y,.d (.int k i))] X X [] (.d (.int .u8 ((l.getD i.toNat 0).toNat:Int))) :=
 Apz (s:=⟨l.toArray⟩) ho ht h0 (by rw[Yi];exact h1)
def Azh{s:A2 UInt8}{k:IntKind}{l:Int}(ho:o.op = .slice t x (some lo) (some hi) none)(ht:P.underlying t=some .string)
  (h0:0≤l) (h1:l≤h) (h2:h≤s.length) :
  Bi P o [(x,.d (.bs s)),(lo,.d (.int k l)),(hi,.d (.int k' h))] X X [] (.d (.bs ((s.drop l.toNat).take (h.toNat-l.toNat)))):=by
 have:=Aq0 (P:=P) (X:=X) (s:=⟨s.toArray⟩) (k:=k) (k':=k') ho ht h0 h1 (by rw[Yi];exact h2);rw[A84]at this;exact this
def Amm{s:A2 UInt8}{k:IntKind}{l:Int}(ho:o.op = .slice t x (some lo) none none)(ht:P.underlying t=some .string)
  (h0:0≤l) (h1:l≤s.length) :
  Bi P o [(x,.d (.bs s)),(lo,.d (.int k l))] X X [] (.d (.bs (s.drop l.toNat))):=by
 have:=Ago (P:=P) (X:=X) (s:=⟨s.toArray⟩) (k:=k) ho ht h0 (by rw[Yi];exact h1);rw[A84,Yi,Brc (by simp)]at this;exact this
def Amn{s:A2 UInt8}{k:IntKind}(ho:o.op = .slice t x none (some hi) none)(ht:P.underlying t=some .string)
  (h0:0≤h) (h1:h≤s.length) :
  Bi P o [(x,.d (.bs s)),(hi,.d (.int k h))] X X [] (.d (.bs (s.take h.toNat))):=by
 have:=Agp (P:=P) (X:=X) (s:=⟨s.toArray⟩) (k:=k) ho ht h0 (by rw[Yi];exact h1);rw[A84]at this;simpa using this
def B96{a b:A2 UInt8}(ho:o.op = .binOp .add t x y t')(h:a.length+b.length≤4611686018427387904) :
  Bi P o [(x,.d (.bs a)),(y,.d (.bs b))] X X [] (.d (.bs (a++b))):=by
 have:=Az1 (P:=P) (X:=X) (a:=⟨a.toArray⟩) (b:=⟨b.toArray⟩) ho (by rw[Yi,Yi];exact h);rw[B5i]at this;exact this
def Aqn{b c:UInt8}:((b.toNat:Nat):Int)=((c.toNat:Nat):Int)↔b=c:=by
 constructor
 ·intro h;exact Bvy.1 (by omega)
 ·intro h;rw[h]
end
section
variable{P:Program}{o:Oper}{X:A5}
def Ai8(ho:o.op = .call { callee:=.builtin .len,args:=#[x],argTypes:=ts })
  (h0:ts[0]? = some t) (ht:P.underlying t=some (.slice e)):Bi P o [(x,.osl k off len sz)] X X [] (.d (.sc (.int .i64 len))) :=
 .quiet fun _ _ g w ac _ Au=>by
  have h1:=Is Au;simp only at h1;obtain⟨cap,q,_,hv,_⟩:=h1.Sw;refine⟨_,?_,.H4 _ _ _⟩;simp only[execOp,ho,resolve];simp[hv,invoke,builtin,h0,Bpb ht,Builtin.len_,goInt]
def Zw{bytes:Nat}{j:IntKind}{i:Int}(ho:o.op = .indexAddr t x y)
  (ht:Pu P t e sz bytes) (h0:0≤i) (h1:i<len) :
  Bi P o [(x,.osl k off len sz),(y,.d (.sc (.int j i)))] X X [] (.ptr k (off+i.toNat*sz)) :=
 .quiet fun _ _ g w ac _ Au=>by
  have e1:=Is Au;have e2:=(Y4 Au).Ap;simp only at e1 e2;obtain⟨cap,q,U9,hv,hq,_⟩:=e1.Sw;have hqo:q=off:=by
   rcases hq with h|h
   ·omega
   ·exact h
  subst hqo;obtain⟨hu,info,z,hi,Hc,hb,hz,hzs⟩:=ht;refine⟨.pointer (some ⟨g.ρ k,q+i.toNat*sz,none⟩),?_,.ptr _ _⟩;have Qd:(sizeOf e).run P w = .ok sz w:=by rw[run_sizeOf hi,Hc]
  simp only[execOp,ho,hv,e2];have Bg:i<(len:Int):=h1;simp[Instr.indexAt,asIntOf,Bpb hu,h0,Bg,Qd,addr_add]
def Aqo{lo hi:A3 Operand}{l:Int}{rd:A2 (Operand×AV)}(ho:o.op = .slice t x lo hi none)(ht:P.underlying t=some (.slice e))
  (M9:P.info? e=some i) (Hc:i.size=sz) (h0:0≤l) (h1:l≤h) (h2:h≤(len:Int))
  (hlo:match lo with|some y=>∃j,(y,AV.d (.int j l))∈rd|none=>l=0) (hhi:match hi with|some y=>∃j,(y,AV.d (.int j h))∈rd|none=>h=(len:Int)) :
  Bi P o ((x,.osl k off len sz)::rd) X X [] (.osl k (off+l.toNat*sz) (h.toNat-l.toNat) sz) :=
 .quiet fun _ _ g w ac _ Au=>by
  have h3:=Au (x,.osl k off len sz) Bp6;simp only at h3;obtain⟨cap,q,U9,hx,hq,T,c,hsh,hc⟩:=h3.Sw;have key:RA g w (.osl k (off+l.toNat*sz) (h.toNat-l.toNat) sz) (.slice (if cap=l.toNat then some ⟨g.ρ k,q,none⟩else (some ⟨g.ρ k,q,none⟩:A3 Addr).map (·.add (l.toNat*sz))) (h.toNat-l.toNat) (cap-l.toNat)):=by
   refine .nm _ _ _ ?_;by_cases hz:cap=l.toNat
   ·rw[Bq6 hz];refine⟨cap-l.toNat,q,by omega,rfl,.inl (by omega),T,c,hsh,?_⟩;rw[hz,Bwl,Bsh];omega
   ·rw[Bpp hz];have hqo:q=off:=by
     rcases hq with h|h
     ·omega
     ·exact h
    subst hqo;refine⟨cap-l.toNat,q+l.toNat*sz,by omega,by simp[addr_add],.inr rfl,T,c,hsh,?_⟩;have:l.toNat*sz+(cap-l.toNat)*sz=cap*sz:=by rw[← Br5];congr 1;omega
    omega
  refine⟨_,?_,key⟩;have hsa:∀lo hi,(Instr.sliceAt t (.slice (some ⟨g.ρ k,q,none⟩) len cap) lo hi none).run P w=(Instr.slice t (.slice (some ⟨g.ρ k,q,none⟩) len cap) lo hi none).run P w:=by intro lo hi;simp[Instr.sliceAt,Bpb ht]
  simp only[execOp,ho,hx];have eh:∀y,hi=some y→∃j,ac.eval y = .int j h:=by intro y hy;subst hy;obtain⟨j,hj⟩:=hhi;exact⟨j,(Au _ (Bp5 _ hj)).Ap⟩
  have el:∀y,lo=some y→∃j,ac.eval y = .int j l:=by intro y hy;subst hy;obtain⟨j,hj⟩:=hlo;exact⟨j,(Au _ (Bp5 _ hj)).Ap⟩
  have bh:∀(y:Nat) (c:BoundsCode) (k:IntKind),h≤(y:Int)→(Instr.sliceBound (.int k h) y c).run P w = .ok h.toNat w:=by intro y c k hy;simp[Instr.sliceBound,asIntOf,show 0≤h by omega,hy]
  have bl:∀(y:Nat) (c:BoundsCode) (k:IntKind),l≤(y:Int)→(Instr.sliceBound (.int k l) y c).run P w = .ok l.toNat w:=by intro y c k hy;simp[Instr.sliceBound,asIntOf,h0,hy]
  have Qd:(sizeOf e).run P w = .ok sz w:=by rw[run_sizeOf M9,Hc]
  cases hi with
  |none =>
   simp only at hhi;subst hhi;have e5:((len:Nat):Int).toNat=len:=by omega
   cases lo with
   |none =>simp only at hlo;subst hlo;simp[hsa,Instr.slice,Instr.sliceBounds,Bpb ht,Qd]
   |some y =>obtain⟨j,hj⟩:=el y rfl;have b1:=bl len .sliceB j (by omega);simp[hsa,Instr.slice,Instr.sliceBounds,Bpb ht,Qd,hj,b1]
  |some y' =>
   obtain⟨j',Gb⟩:=eh y' rfl;have b2:=bh cap .sliceAcap j' (by omega);cases lo with
   |none =>simp only at hlo;subst hlo;simp[hsa,Instr.slice,Instr.sliceBounds,Bpb ht,Qd,Gb,b2]
   |some y =>obtain⟨j,hj⟩:=el y rfl;have b1:=bl h.toNat .sliceB j (by omega);simp[hsa,Instr.slice,Instr.sliceBounds,Bpb ht,Qd,hj,Gb,b1,b2]
end
theorem Hs{sz:Nat}:∀(fs:A2 (A2 D)),(∀(i:Nat) cs,fs[i]? = some cs→cs.length=sz)→fs.flatten.length=fs.length*sz
 |[],_=>by simp
 |c::r,h=>by
  have h0:=h 0 c rfl;have:=Hs r fun i cs hi=>h (i+1) cs (by simpa using hi)
  simp only[Bqt,Bq2,Bpk,this,h0,Brj];omega
theorem Aah{sz:Nat}:∀(fs:A2 (A2 D)),(∀(i:Nat) cs,fs[i]? = some cs→cs.length=sz)→∀(k:Nat) c,fs.flatten[k]? = some c→∃p q cs,k=p*sz+q∧fs[p]? = some cs∧cs[q]? = some c
 |[],_,k,c,hk=>by simp at hk
 |a::r,h,k,c,hk=>by
  have h0:=h 0 a rfl;simp only[Bqt,Bqh]at hk;split at hk
  ·exact⟨0,k,a,by omega,rfl,hk⟩
  ·rename_i hge;obtain⟨p,q,cs,h1,h2,h3⟩:=Aah r (fun i cs hi=>h (i+1) cs (by simpa using hi)) _ c hk;refine⟨p+1,q,cs,?_,by simpa using h2,h3⟩;rw[Brj];omega
def Aw(k:Nat)(X:A5):A5:=⟨X.objs.filter (fun p=>p.1 != k),X.live⟩
def Dj{l:A2 (Nat×Ob)}:(l.filter (fun p=>p.1 != k)).lookup j=if j=k then none else l.lookup j:=by
 induction l with
 |nil=>simp
 |cons p r ih =>
  obtain⟨i,o⟩:=p;simp only[Br4];by_cases hik:i=k
  ·subst hik;simp only[Bvh,Bqs,Bre,ih];by_cases hj:j=i
   ·simp[hj]
   ·have:(j==i)=false:=by simpa using hj
    simp[hj,Bqa,this]
  ·have h1:(i != k)=true:=by simpa using hik
   simp only[h1,Brg,Bqa,ih];by_cases hj:j=i
   ·subst hj;simp[hik]
   ·have:(j==i)=false:=by simpa using hj
    simp[this]
theorem HR.Aw{nm:A2 Nat}(h:HR nm B g w X)(hk:k∉nm):HR nm B g w (Ab.Aw k X):=by
 have hl:∀j o,(Ab.Aw k X).objs.lookup j=some o→j≠k∧X.objs.lookup j=some o:=by
  intro j o hj;simp only[Ab.Aw,Dj]at hj;split at hj
  ·cases hj
  ·exact⟨‹_›,hj⟩
 refine⟨?_,h.Ip,h.base,h.io,h.le,h.frame,?_,?_,?_,?_,h.live,h.Bw,?_,h.C3,h.C7,h.eta.same (Bpa _) fun j o hj=>⟨o,(hl j o hj).2⟩⟩
 ·intro j hj;refine⟨(h.D4 j hj).1,?_⟩;have hne:j≠k:=fun e=>hk (e▸hj)
  simp only[Ab.Aw,Dj,Bpp hne];exact(h.D4 j hj).2
 ·intro j o hj;exact h.objs j o (hl j o hj).2
 ·intro j o hj;exact h.Fq j o (hl j o hj).2
 ·intro j j' o o' hj Gb he;exact h.Br j j' o o' (hl j o hj).2 (hl j' o' Gb).2 he
 ·intro j o hj;exact h.Ca j o (hl j o hj).2
 ·intro n b j o hn hj;exact h.Ba n b j o hn (hl j o hj).2
def HR.Ad7{nm:A2 Nat}(h:HR nm B g w X)(hk:k∉nm)(hmn:m∉nm)(hX:B1 [m] X=true)(ho:X.objs.lookup k=some o)(hm:m≠k) :
  HR nm B { g with ρ:=O6 g.ρ m (g.ρ k) } w ⟨(m,o)::(Ab.Aw m (Ab.Aw k X)).objs,X.live⟩∧Trans [m] g w { g with ρ:=O6 g.ρ m (g.ρ k) } w:=by
 have ht:Trans [m] g w { g with ρ:=O6 g.ρ m (g.ρ k) } w:=⟨.refl _ _,fun j hj=>Ae _ _ (by simpa using hj),fun n ob hn he=>⟨he,fun _ _=>⟨rfl,rfl⟩⟩,fun _ _ _=>⟨rfl,fun _ _ _=>⟨rfl,rfl⟩⟩⟩;have hl:∀j p,List.lookup j ((m,o)::(Ab.Aw m (Ab.Aw k X)).objs)=some p→(j=m∧p=o)∨(j≠m∧j≠k∧X.objs.lookup j=some p):=by
  intro j p hj;rw[Bqa]at hj;by_cases he:j=m
  ·subst he;simp at hj;exact .inl ⟨rfl,hj.symm⟩
  ·have:(j==m)=false:=by simpa using he
   rw[this]at hj;simp only[Ab.Aw,Dj,Bpp he]at hj;split at hj
   ·cases hj
   ·exact .inr ⟨he,‹_›,hj⟩
 have Azi:({ g with ρ:=O6 g.ρ m (g.ρ k) }:Gh).ρ m=g.ρ k:=Ac _ _ _;have Amo:∀j,j≠m→({ g with ρ:=O6 g.ρ m (g.ρ k) }:Gh).ρ j=g.ρ j:=fun j hj=>Ae _ _ hj
 refine⟨⟨?_,h.Ip,h.base,h.io,h.le,h.frame,?_,?_,?_,?_,h.live,h.Bw,?_,h.C3,h.C7,h.eta.step (fun L hL=>.inl ⟨hL,rfl⟩) (Bpa _) (fun n b hb=>.inl ⟨n,hb⟩) fun j p hj=>?_⟩,ht⟩
 rotate_right
 ·rcases hl j p hj with ⟨rfl,rfl⟩|⟨h1,h2,h3⟩
  ·exact .inl ⟨k,_,ho,Azi⟩
  ·exact .inl ⟨j,p,h3,Amo j h1⟩
 ·intro j hj;have h1:j≠k:=fun e=>hk (e▸hj)
  have h2:j≠m:=fun e=>hmn (e▸hj)
  refine⟨by rw[Amo j h2];exact(h.D4 j hj).1,?_⟩;rw[Bqa];have:(j==m)=false:=by simpa using h2
  rw[this];simp only[Ab.Aw,Dj,Bpp h1,Bpp h2];exact(h.D4 j hj).2
 ·intro j p hj;rcases hl j p hj with ⟨rfl,rfl⟩|⟨h1,h2,h3⟩
  ·rw[Azi];exact(h.objs k _ ho).D4 ht rfl (Hj hX ho)
  ·rw[Amo j h1];exact(h.objs j p h3).D4 ht rfl (Hj hX h3)
 ·intro j p hj;rcases hl j p hj with ⟨rfl,rfl⟩|⟨h1,h2,h3⟩
  ·rw[Azi];exact h.Fq k _ ho
  ·rw[Amo j h1];exact h.Fq j p h3
 ·intro j j' p p' hj Gb he;rcases hl j p hj with ⟨rfl,rfl⟩|⟨h1,h2,h3⟩<;>rcases hl j' p' Gb with ⟨rfl,rfl⟩|⟨h1',h2',h3'⟩
  ·rfl
  ·rw[Azi,Amo j' h1']at he;exact absurd (h.Br k j' _ _ ho h3' he).symm h2'
  ·rw[Azi,Amo j h1]at he;exact absurd (h.Br j k _ _ h3 ho he) h2
  ·rw[Amo j h1,Amo j' h1']at he;exact h.Br j j' _ _ h3 h3' he
 ·intro j p hj;rcases hl j p hj with ⟨rfl,rfl⟩|⟨h1,h2,h3⟩
  ·rw[Azi];exact h.Ca k _ ho
  ·rw[Amo j h1];exact h.Ca j p h3
 ·intro n b j p hn hj;rcases hl j p hj with ⟨rfl,rfl⟩|⟨h1,h2,h3⟩
  ·rw[Azi];exact h.Ba n b k _ hn ho
  ·rw[Amo j h1];exact h.Ba n b j p hn h3
section
variable{P:Program}{o:Oper}{X:A5}
def Amp{s:Operand}{cty:A3 TypeId}{t u e e' bytes:Nat}(m:Nat)
  (ho:o.op = .call { callee:=.builtin .append,args:=#[s,x],argTypes:=ts }) (h0:ts[0]? = some t) (h1:ts[1]? = some u) (hu:Pu P u e' sz' A82)
  (ht:Pu P t e sz bytes) (hk:X.objs.lookup k=some (.cells cs none)) (Rq:cs.length=len*sz) (h1k:1000≤k) (h1m:1000≤m) (hmk:m≠k) (hX:B1 [m] X=true) (Bo0:cs.all Aur=true)
  (Iw:∀c∈fs,∀d∈c,A0z d=true) (Zu:(len+fs.length)*bytes≤140737488355328) (hlen:len+fs.length≤4611686018427387904) :
  Bi P o [(s,.osl k 0 len sz),(x,.d (.sl sz fs))] X ⟨(m,.cells (cs++fs.flatten.map .d) none)::(Aw m (Aw k X)).objs,X.live⟩ [m] (.osl m 0 (len+fs.length) sz):=by
 obtain⟨htt,i,z,hi,Hc,hbt,hz,hzs⟩:=ht;intro nm Ej B g w a hr Au next Q Ek
 have hkn:k∉nm:=fun hh=>by have:=Ej k hh;omega
 have hmn:m∉nm:=fun hh=>by have:=Ej m hh;omega
 have e1:=Is Au;have e2:=Y4 Au;simp only at e1 e2;unfold Oper.wp;have Cg:∀r,(Builtin.append_ ts o.type #[a.eval s,a.eval x]).run P w=r→(execOp a.eval o).run P w=r.andThen fun v w'=>.ok (.value v) w':=by intro r hr';simp only[execOp,ho,resolve];simp[invoke,builtin,hr']
 obtain⟨cap,q,U9,hv,hq,T,c,hsh,hc⟩:=e1.Sw;rw[hv]at Cg;generalize a.eval x=vx at e2 Cg;cases e2 with
 |d _ _ e2 =>
 obtain⟨xb,xc,rfl,Bk0,_,A7y,Boo,hnl,A3d,hnc⟩:=e2.A0y (P:=P) hr.Ip;have Ahs:∀v∈Boo,v.oneCell'=true:=by
  intro v hv;obtain⟨j,hj⟩:=Br9.1 hv;have Bde:j<fs.length*sz:=by have:=(Bp2.1 hj).1;omega
  obtain⟨p,q,ds,d,rfl,hp,hq⟩:=A34 A7y Bde;exact Aa7 (hnc p q ds d v hp hq hj) (Iw ds (Bpu hp) d (Bpu hq))
 have Aai:=Hs fs A7y;have A32:∀(j:Nat) (y:AV) v,((fs.flatten.map AV.d))[j]? = some y→Boo[j]? = some v→RA g w y v:=by intro j y v hy hv;rw[Bp1,Bp8]at hy;obtain⟨d,hd,rfl⟩:=hy;obtain⟨p,q,ds,rfl,hp,hq⟩:=Aah fs A7y j d hd;exact .d _ _ (hnc p q ds d v hp hq hv)
 cases hr.objs k _ hk with
 |cells _ _ arr T' Bor hl hcc hty =>
 have Pq:w.shape? (g.ρ k)=some (T',arr.size):=by simp[World.shape?,Bor]
 rw[Pq]at hsh;simp only[Bp0,Bpm]at hsh;obtain⟨rfl,rfl⟩:=hsh;have Bos:(len+fs.length)*sz=len*sz+fs.length*sz:=Br5 _ _ _;by_cases Fz:len+fs.length≤cap
 ·
  have hle:(len+fs.length)*sz≤cap*sz:=Bqw sz Fz;by_cases hz0:fs.length=0∧q≠0
  ·
   obtain⟨hf0,hq0⟩:=hz0;have hf:fs=[]:=Brt.1 hf0;subst hf;have hn0:Boo=[]:=by simpa using hnl
   subst hn0;have hrn:=Hv (P:=P) (w:=w) (w':=w) (ty:=o.type) h0 h1 hu.und htt hi (base:=some ⟨g.ρ k,q,none⟩) (by rw[Hc];exact A3d w fun _ _ _=>rfl) Fz (.inr ⟨_,rfl,rfl⟩);obtain⟨hr2,Wb⟩:=hr.Ad7 hkn hmn hX hk hmk;rw[Cg _ hrn];simp only[List.flatten_nil,Bpz,Bq0,Bs2,Bs7]at *;refine Ek _ w _ hr2 Wb (.nm _ _ _ ?_);simp only[Ac];exact⟨cap,q,U9,rfl,hq,T',arr.size,Pq,hc⟩
  ·have hqz:q=0:=by
    rcases hq with h|h
    ·have:fs.length=0:=by omega
     by_cases hq:q=0
     ·exact hq
     ·exact absurd ⟨this,hq⟩ hz0
    ·exact h
   subst hqz;obtain⟨w',Cc,hst,Fp,Gu,hp',hz',Y5,M9⟩:=Ld (P:=P) (off:=0+len*i.size) Boo 0 w arr Bor Ahs (by rw[Hc];omega) (by
    intro j h3 h4;simp[World.frozen?,Bor])
   have hrn:=Hv (P:=P) (w:=w) (w':=w') (ty:=o.type) h0 h1 hu.und htt hi (base:=some ⟨g.ρ k,0,none⟩) (by rw[Hc];exact A3d w fun _ _ _=>rfl) Fz (.inr ⟨_,rfl,by rw[addr_add];exact hst⟩);simp only[Bs7,Bq7,Hc]at hp';obtain⟨hr1,ht1⟩:=hr.write hk (o':=.cells (cs++fs.flatten.map .d) none) hz' M9 Y5 (by
    intro ht';refine .cells _ none Cc T' Fp (by simp only[Bq2,Bpl,Aai,Gu];omega) ?_ (by simp);intro j y v hy hv;rw[hp' j]at hv;rw[Bqh]at hy;split at hy
    ·rename_i Bg;rw[Bpp (by omega)]at hv;exact(hcc j y v hy hv).mono ht' (.nil _)
    ·rename_i hge;have hjl:j-cs.length<fs.flatten.length:=by have:=(Bp2.1 hy).1;rw[Bpl]at this;exact this
     rw[Bq6 (by omega),← Rq]at hv;exact(A32 _ y v hy hv).mono ht' (.nil _)) (by
    intro s hs0;rw[Pq]at hs0;simp only[World.shape?,Fp,Gu];exact hs0)
   have hX1:B1 [m] ⟨Ab.setObj k (.cells (cs++fs.flatten.map .d) none) X.objs,X.live⟩=true:=by
    unfold B1 at hX⊢;simp only[Btd,Bta]at hX⊢;rw[Bqb]at hX⊢;intro p hp;have:∀(l:A2 (Nat×Ob)),(∀p∈l,F4 [m] p.2=true)→∀p∈Ab.setObj k (.cells (cs++fs.flatten.map .d) none) l,F4 [m] p.2=true:=by
     have Bgd:F4 [m] (.cells (cs++fs.flatten.map .d) none)=true:=by
      have h2:F4 [m] (.cells cs none)=true:=hX _ (Da hk);simp only[F4]at h2⊢;have app:∀(l r:A2 AV),Bq [m] l=true→Bq [m] r=true→Bq [m] (l++r)=true:=by
       intro l r;induction l with
       |nil=>intro _ h;exact h
       |cons y l ih=>intro h h';simp only[Bq,Bq4,Br1]at h⊢;exact⟨h.1,ih h.2 h'⟩
      refine app _ _ h2 ?_;generalize fs.flatten=fl;induction fl with
      |nil=>rfl
      |cons y r ih=>simp only[Bp3,Bq,Gi,Bsn];exact ih
     intro l;induction l with
     |nil =>intro _ p hp;simp only[Ab.setObj,Bpg]at hp;subst hp;exact Bgd
     |cons a r ih =>
      intro hall p hp;obtain⟨j,oj⟩:=a;simp only[Ab.setObj]at hp;split at hp
      ·rcases Boz.1 hp with rfl|hp
       ·exact Bgd
       ·exact hall p (Bp5 _ hp)
      ·rcases Boz.1 hp with rfl|hp
       ·exact hall _ Bp6
       ·exact ih (fun p hp=>hall p (Bp5 _ hp)) p hp
    exact this X.objs hX p hp
   obtain⟨hr2,Wb⟩:=hr1.Ad7 (k:=k) (m:=m) hkn hmn hX1 (by rw[Ax,Bq6 rfl]) hmk;rw[Cg _ hrn];refine Ek _ w' _ (hr2.alike ⟨fun j=>?_,rfl⟩) (ht1.trans Wb) (.nm _ _ _ ?_)
   ·simp only[Bqa,Ab.Aw,Dj,Ax];by_cases hj:j=k
    ·subst hj;simp
    ·simp[hj]
   ·simp only[Ac];exact⟨cap,0,Fz,rfl,.inr rfl,T',arr.size,ht1.le.shape _ _ Pq,by omega⟩
 ·
  obtain⟨A36,htd⟩:=hr.drew;have Bdi:len=0∨q=0:=by
   rcases hq with h|h
   ·left;omega
   ·exact .inr h
  have hl0:((arr.toList.drop q).take (len*sz)).length=len*sz:=by
   rcases Bdi with h|h
   ·subst h;simp
   ·subst h;simp only[Brr,Bq1,Brk];omega
  have Bk1:(Builtin.firstCells i.size len (.slice (some ⟨g.ρ k,q,none⟩) len cap)).run P w.drew = .ok ((arr.toList.drop q).take (len*sz)).toArray w.drew:=by
   refine run_firstCells_some w.drew i.size len _ _ _ _ (by rw[Hc,hl0]) ?_;intro j v hj;rw[Bqj]at hj;split at hj
   ·rw[Bqn]at hj;rw[addr_add];show w.cell? _=_;rw[B6 Bor];simpa using hj
   ·cases hj
  have hrn:=Qq (P:=P) (w:=w) (ty:=o.type) h0 h1 hu.und htt hi hz (by rw[Hc];exact A3d w.drew fun _ _ _=>rfl) Bk1 Fz (by omega) (by rw[hbt];exact Zu);have hge:=Bv3 w (len+fs.length) cap e;generalize grownCap w (len+fs.length) cap e=nc at hrn hge;generalize Aa8:((arr.toList.drop q).take (len*sz)).toArray++Boo.toArray++Builtin.zeroCells z.cells (nc-(len+fs.length))=Ai9 at hrn;have Amg:Ai9.size=nc*sz:=by rw[← Aa8];simp only[Btb,Brn,Bue,hl0,hnl,hzs];rw[← Bos,← Br5];congr 1;omega
  have Bhd:(len+fs.length)*sz≤nc*sz:=Bqw _ hge;have hr1:=A36.Aw (k:=m) hmn;have Bmi:=hr1.Aw (k:=k) hkn;obtain⟨hr2,Wb⟩:=Bmi.newObj (k:=m) (by
   simp only[Ab.Aw,Dj];split
   ·rfl
   ·rfl) (by
   unfold B1 at hX⊢;simp only[Btd,Bta]at hX⊢;rw[Bqb]at hX⊢;intro p hp;simp only[Ab.Aw,Bpv]at hp;exact hX p hp.1.1) (.cells Ai9 e) (.cells (cs++fs.flatten.map .d) none) (by
   intro g' w' ht' hw';refine .cells _ none Ai9 e hw' (by simp only[Bq2,Bpl,Aai];omega) ?_ (by simp);intro j y v hy hv;rw[← Aa8]at hv;have Qe:Z5 [m] y:=by
    rw[Bqh]at hy;split at hy
    ·have h2:F4 [m] (.cells cs none)=true:=by
      rcases Hj hX hk with h|h
      ·cases h
      ·exact h
     exact Pj (Mo h2 hy)
    ·rw[Bp1,Bp8]at hy;obtain⟨d,_,rfl⟩:=hy;exact .d _
   rw[Bqh]at hy;split at hy
   ·rename_i Bg;rw[Bv6,Brh (by simp only[Brn,hl0];omega)]at hv;rcases Bdi with h|h
    ·subst h;simp only[Bsh]at Rq;omega
    ·subst h;simp only[Brr,Bsg,Bqj]at hv;rw[Bq6 (by omega)]at hv;exact((hcc j y v hy (by simpa using hv)).mono htd (.nil _)).mono ht' Qe
   ·rename_i Boe;have hjl:j-cs.length<fs.flatten.length:=by have:=(Bp2.1 hy).1;rw[Bpl]at this;exact this
    rw[Brh (by simp only[Btb,Brn,hl0,hnl];omega),Bso (by simp only[Brn,hl0];omega)]at hv;simp only[Brn,hl0,Bsg]at hv;rw[← Rq]at hv;exact((A32 _ y v hy hv).mono htd (.nil _)).mono ht' Qe)
  rw[Cg _ hrn];refine Ek _ _ _ (hr2.alike ⟨fun j=>?_,rfl⟩) (htd.trans Wb) (.nm _ _ _ ?_)
  ·simp only[Bqa,Ab.Aw,Dj];by_cases hj:j=k
   ·subst hj;simp
   ·simp[hj]
  ·simp only[Ac];have hww:w.heap.size=w.drew.heap.size:=rfl;rw[hww];refine⟨nc,0,hge,rfl,.inr rfl,e,Ai9.size,?_,by omega⟩;have:=Bs1 w.drew (.cells Ai9 e);simp only[World.shape?];rw[this]
end
theorem A5j{sz:Nat}:∀(fs:A2 (A2 D)),(∀(i:Nat) cs,fs[i]? = some cs→cs.length=sz)→∀(p q:Nat) cs c,fs[p]? = some cs→cs[q]? = some c→fs.flatten[p*sz+q]? = some c
 |[],_,p,q,cs,c,hp,_=>by simp at hp
 |a::r,h,p,q,cs,c,hp,hq=>by
  have h0:=h 0 a rfl;simp only[Bqt,Bqh];cases p with
  |zero =>simp at hp;subst hp;have:q<a.length:=(Bp2.1 hq).1;rw[Bq6 (by omega)];simpa using hq
  |succ p =>have ih:=A5j r (fun i cs hi=>h (i+1) cs (by simpa using hi)) p q cs c (by simpa using hp) hq;rw[Brj,Bpp (by omega)];rw[show p*sz+sz+q-a.length=p*sz+q by omega];exact ih
def HR.freeze{nm:A2 Nat}(h:HR nm B g w X)(hk:k∉nm)(ho:X.objs.lookup k=some (.cells (es.flatten.map .d) ty))
  (Hc:∀(i:Nat) cs,es[i]? = some cs→cs.length=sz) :
  HR nm B { g with γ:=O6 g.γ (g.ρ k) (es.length*sz) } w (Ab.Aw k X)∧Trans [] g w { g with γ:=O6 g.γ (g.ρ k) (es.length*sz) } w ∧
   ∀a len v,a+len≤es.length→RA g w (.osl k (a*sz) len sz) v→RA { g with γ:=O6 g.γ (g.ρ k) (es.length*sz) } w (.d (.sl sz ((es.drop a).take len))) v:=by
 have h0:=h.Fq k _ ho;have hup:∀b,g.γ b≤O6 g.γ (g.ρ k) (es.length*sz) b:=by
  intro b;by_cases he:b=g.ρ k
  ·subst he;rw[Ac,h0];omega
  ·rw[Ae _ _ he];exact Bpa _
 have hne:∀n b,g.β n=some (some b)→b≠g.ρ k:=fun n b hn=>h.Ba n b k _ hn ho
 have ht:Trans [] g w { g with γ:=O6 g.γ (g.ρ k) (es.length*sz) } w:=⟨⟨hup,fun _ _ _=>rfl,fun _ _ h=>h⟩,fun _ _=>rfl,fun n ob _ he=>⟨he,fun b hb=>⟨Ae _ _ (hne n b (hb▸he)),rfl⟩⟩,fun L _ hL=>⟨rfl,fun i b hb=>⟨Ae _ _ (h.eta.obj L i b k _ hL hb ho),rfl⟩⟩⟩;have hfl:=Hs es Hc;have hd:=h.Aw hk;have hl:∀j o,(Ab.Aw k X).objs.lookup j=some o→j≠k∧X.objs.lookup j=some o:=by
  intro j o hj;simp only[Ab.Aw,Dj]at hj;split at hj
  ·cases hj
  ·exact⟨‹_›,hj⟩
 cases h.objs k _ ho with
 |cells _ _ arr T hb hle hc hty =>
 rw[Bpl,hfl]at hle;refine⟨⟨hd.D4,?_,h.base,h.io,⟨fun b=>Bqf (h.le.up b) (hup b),h.le.cell,h.le.shape⟩,?_,?_,?_,hd.Br,hd.Ca,h.live,h.Bw,hd.Ba,h.C3,h.C7,hd.eta.step (fun L hL=>.inl ⟨hL,rfl⟩) (Bpa _) (fun n b hb=>.inl ⟨n,hb⟩) fun k o hk=>.inl ⟨k,o,hk,rfl⟩⟩,ht,?_⟩
 ·intro b i hi;by_cases he:b=g.ρ k
  ·subst he;simp only[Ac]at hi;rw[B6 hb];have:i<arr.size:=by omega
   simp[this]
  ·simp only[Ae _ _ he]at hi;exact h.Ip b i hi
 ·intro b hbn hna;have Ub:b≠g.ρ k:=by
   rintro rfl;rcases h.Ca k _ ho with h1|h1
   ·omega
   ·exact hna h1
  have:=h.frame b hbn hna;exact⟨this.1,by simp only[Ae _ _ Ub];exact this.2⟩
 ·intro j o hj;exact(h.objs j o (hl j o hj).2).D4 ht rfl (.inl rfl)
 ·intro j o hj;obtain⟨h1,h2⟩:=hl j o hj;have Ub:g.ρ j≠g.ρ k:=fun he=>h1 (h.Br j k _ _ h2 ho he)
  simp only[Ae _ _ Ub];exact h.Fq j o h2
 ·intro a len v hal Ua;obtain⟨cap,q,U9,rfl,hq,T',c,hsh,hcc⟩:=Ua.Sw;refine .d _ _ ?_;by_cases hlen:len=0
  ·subst hlen;simp only[List.take_zero];exact .nil sz _ cap (by simp)
  ·have hqa:q=a*sz:=by
    rcases hq with h|h
    ·omega
    ·exact h
   subst hqa;have Bg:((es.drop a).take len).length=len:=by simp;omega
   refine .Ox Bg.symm ?_ U9 ?_ ?_
   ·simp only[Ac];have:=Bqw sz hal;rw[Br5]at this;exact this
   ·intro i cs hi;rw[Bqj]at hi;split at hi
    ·rw[Bqn]at hi;exact Hc _ cs hi
    ·cases hi
   ·intro p q cs c u hp hq hu;rw[Bqj]at hp;split at hp
    ·rw[Bqn]at hp;have h1:=A5j es Hc (a+p) q cs c hp hq;rw[B6 hb]at hu;have e:(a+p)*sz+q=a*sz+(p*sz+q):=by rw[Br5];omega
     rw[e]at h1;have:=hc (a*sz+(p*sz+q)) (.d c) u (by rw[Bp1,h1];rfl) hu;cases this with
     |d _ _ h2=>exact h2.mono ht.le
    ·cases hp
structure Bdj(P:Program)(t e n sz:Nat):Prop where
 und:P.underlying t=some (.array n e)
 is:∃i,P.info? e=some i∧i.size=sz
section
variable{P:Program}{o:Oper}{X:A5}
def Ad8{t e:Nat}{cs:A2 D}{k:IntKind}{i:Int}(ho:o.op = .indexAddr t x y)
  (ht:Bdj P t e n sz) (Hc:∀(i:Nat) cs,es[i]? = some cs→cs.length=sz) (hn:es.length≤n) (h0:0≤i) (h1:es[i.toNat]? = some cs) :
  Bi P o [(x,.d (.ep es.flatten)),(y,.d (.sc (.int k i)))] X X [] (.d (.ep cs)) :=
 .quiet fun _ _ g w ac _ Au=>by
  have e1:=Is Au;have e2:=(Y4 Au).Ap;simp only at e1 e2;obtain⟨hu,info,hi,hs⟩:=ht;simp only[execOp,ho,e2];generalize ac.eval x=u at e1;cases e1 with
  |d _ _ e1 =>
   have Bg:=(Bp2.1 h1).1;cases e1 with
   |ep _ b off hγ hc =>
    have hil:i<n:=by omega
    refine⟨.pointer (some ⟨b,off+i.toNat*sz,none⟩),?_,.d _ _ (.ep cs b _ ?_ ?_)⟩
    ·simp[Instr.indexAt,Instr.sureAddr,asIntOf,Bpb hu,h0,hil,sizeOf,typeInfo,hi,hs,addr_add]
    ·rw[Hc _ _ h1];rw[Hs es Hc]at hγ;have:(i.toNat+1)*sz≤es.length*sz:=Bqw sz Bg;rw[Brj]at this;omega
    ·intro j c v hj hv;exact hc (i.toNat*sz+j) c v (A5j es Hc _ _ _ _ h1 hj) (by rw[← Bs6];exact hv)
def Aaj{t e:Nat}{k:IntKind}{i:Int}(ho:o.op = .indexAddr t x y)
  (ht:Bdj P t e n sz) (h0:0≤i) (h1:i<n) :
  Bi P o [(x,.ptr j 0),(y,.d (.sc (.int k i)))] X X [] (.ptr j (i.toNat*sz)) :=
 .quiet fun _ _ g w ac _ Au=>by
  have e1:=(Is Au).Ko;have e2:=(Y4 Au).Ap;simp only at e1 e2;obtain⟨hu,info,hi,hs⟩:=ht;refine⟨.pointer (some ⟨g.ρ j,i.toNat*sz,none⟩),?_,.ptr _ _⟩;simp only[execOp,ho,e1,e2];simp[Instr.indexAt,Instr.sureAddr,asIntOf,Bpb hu,h0,h1,sizeOf,typeInfo,hi,hs,addr_add]
end
section
variable{P:Program}{o:Oper}{X:A5}
def Aak{s:Operand}{t u e e' bytes:Nat}(m:Nat)
  (ho:o.op = .call { callee:=.builtin .append,args:=#[s,x],argTypes:=ts }) (h0:ts[0]? = some t) (h1:ts[1]? = some u) (hu:Pu P u e' sz' A82)
  (ht:Pu P t e sz bytes) (h1m:1000≤m) (hX:B1 [m] X=true) (hne:fs≠[])
  (Iw:∀c∈fs,∀d∈c,A0z d=true) (Zu:fs.length*bytes≤140737488355328) (hlen:fs.length≤4611686018427387904) :
  Bi P o [(s,.d (.sc (.slice none 0 0))),(x,.d (.sl sz fs))] X ⟨(m,.cells (fs.flatten.map .d) none)::(Aw m X).objs,X.live⟩ [m] (.osl m 0 fs.length sz):=by
 obtain⟨htt,i,z,hi,Hc,hbt,hz,hzs⟩:=ht;intro nm Ej B g w a hr Au next Q Ek
 have hmn:m∉nm:=fun hh=>by have:=Ej m hh;omega
 have e1:=(Is Au).Ap;have e2:=Y4 Au;simp only at e1 e2;unfold Oper.wp;have Cg:∀r,(Builtin.append_ ts o.type #[a.eval s,a.eval x]).run P w=r→(execOp a.eval o).run P w=r.andThen fun v w'=>.ok (.value v) w':=by intro r hr';simp only[execOp,ho,resolve];simp[invoke,builtin,hr']
 rw[e1]at Cg;generalize a.eval x=vx at e2 Cg;cases e2 with
 |d _ _ e2 =>
 obtain⟨xb,xc,rfl,Bk0,_,A7y,Boo,hnl,A3d,hnc⟩:=e2.A0y (P:=P) hr.Ip;have Aai:=Hs fs A7y;have A32:∀(j:Nat) (y:AV) v,((fs.flatten.map AV.d))[j]? = some y→Boo[j]? = some v→RA g w y v:=by intro j y v hy hv;rw[Bp1,Bp8]at hy;obtain⟨d,hd,rfl⟩:=hy;obtain⟨p,q,ds,rfl,hp,hq⟩:=Aah fs A7y j d hd;exact .d _ _ (hnc p q ds d v hp hq hv)
 have Fz:¬0+fs.length≤0:=by have:=Bsp.2 hne;omega
 obtain⟨A36,htd⟩:=hr.drew;have hrn:=Qq (P:=P) (w:=w) (ty:=o.type) (base:=none) (len:=0) (cap:=0) (olds:=[]) h0 h1 hu.und htt hi hz (by rw[Hc];exact A3d w.drew fun _ _ _=>rfl) (by simp[Builtin.firstCells]) Fz (by omega) (by rw[hbt];simpa using Zu);have hge:=Bv3 w (0+fs.length) 0 e;generalize grownCap w (0+fs.length) 0 e=nc at hrn hge;generalize Aa8:([]:A2 Value).toArray++Boo.toArray++Builtin.zeroCells z.cells (nc-(0+fs.length))=Ai9 at hrn;have Amg:Ai9.size=nc*sz:=by rw[← Aa8];simp only[Btb,Brn,Bue,Bs2,hnl,hzs];rw[Bq7,← Br5];congr 1;omega
 have Bhd:fs.length*sz≤nc*sz:=Bqw _ (by omega);have hr1:=A36.Aw (k:=m) hmn;obtain⟨hr2,Wb⟩:=hr1.newObj (k:=m) (by simp only[Ab.Aw,Dj,Brg]) (by
  unfold B1 at hX⊢;simp only[Btd,Bta]at hX⊢;rw[Bqb]at hX⊢;intro p hp;simp only[Ab.Aw,Bpv]at hp;exact hX p hp.1) (.cells Ai9 e) (.cells (fs.flatten.map .d) none) (by
  intro g' w' ht' hw';refine .cells _ none Ai9 e hw' (by simp only[Bpl,Aai];omega) ?_ (by simp);intro j y v hy hv;have hjl:j<fs.flatten.length:=by have:=(Bp2.1 hy).1;rw[Bpl]at this;exact this
  have Qe:Z5 [m] y:=by rw[Bp1,Bp8]at hy;obtain⟨d,_,rfl⟩:=hy;exact .d _
  rw[← Aa8,Brh (by simp only[Btb,Brn,Bs2,hnl];omega),Bso (by simp)]at hv;simp only[Brn,Bs2,Bs3,Bsg]at hv;exact((A32 j y v hy hv).mono htd (.nil _)).mono ht' Qe)
 rw[Cg _ hrn];have hww:w.heap.size=w.drew.heap.size:=rfl;refine Ek _ _ _ hr2 (htd.trans Wb) ?_;simp only[Bq7]at hge⊢;refine .nm _ _ _ ?_;simp only[Ac];rw[hww];refine⟨nc,0,hge,rfl,.inr rfl,e,Ai9.size,?_,by omega⟩;have:=Bs1 w.drew (.cells Ai9 e);simp only[World.shape?];rw[this]
end
section
variable{P:Program}{o:Oper}{X:A5}
def Amq{zs:Array Value}:∀ {n:Nat} {v:Value},v∈(Builtin.zeroCells zs n).toList→v∈zs.toList:=by
 intro n v h;unfold Builtin.zeroCells at h;simp at h;obtain⟨a,ha,h⟩:=h;have h0:0<zs.size:=by
  rcases Br8 zs.size with h0|h0
  ·rw[h0]at ha;simp at ha
  ·exact h0
 have Bg:=Btz a h0;rw[Bud zs _ Bg]at h;rw[← h];simp
def Aqp{t e bytes:Nat}
  (ho:o.op = .call { callee:=.builtin .clear,args:=#[x],argTypes:=ts }) (h0:ts[0]? = some t) (ht:Pu P t e sz bytes) (hk:X.objs.lookup k=some (.cells cs ty))
  (Iw:∀z,(P.info? e).bind (·.zero)=some z→∀v∈z.cells.toList,v.oneCell'=true) :
  Bi P o [(x,.osl k off len sz)] X ⟨setObj k (.cells (cs.take off) ty) X.objs,X.live⟩ [] (.F2 []):=by
 obtain⟨htt,i,z,hi,Hc,hbt,hz,hzs⟩:=ht;intro nm Ej B g w a hr Au next Q Ek
 have e1:=Is Au;simp only at e1;obtain⟨cap,q,U9,hv,hq,T,c,hsh,hc⟩:=e1.Sw;unfold Oper.wp;have Cg:∀w',(Builtin.clear_ ts o.type #[a.eval x]).run P w = .ok (.tuple #[]) w'→(execOp a.eval o).run P w = .ok (.value (.tuple #[])) w':=by intro w' hr';simp only[execOp,ho,resolve];simp[invoke,builtin,hr']
 rw[hv]at Cg;have Ahs:=Iw z (by rw[hi];exact hz);cases hr.objs k _ hk with
 |cells _ _ arr T' hb hl hcc hty =>
 have Pq:w.shape? (g.ρ k)=some (T',arr.size):=by simp[World.shape?,hb]
 rw[Pq]at hsh;simp only[Bp0,Bpm]at hsh;obtain⟨rfl,rfl⟩:=hsh;have shrink:∀w',w'=w→HR nm B g w' ⟨setObj k (.cells (cs.take off) ty) X.objs,X.live⟩∧Trans [] g w g w':=by
  rintro w' rfl;refine hr.write hk rfl ⟨rfl,rfl,rfl,Bpa _⟩ (fun _ _=>rfl) (fun _=>?_) (fun s h=>h);refine .cells _ ty arr T' hb (by simp;omega) ?_ hty;intro j y v hy hv;rw[Bqj]at hy;split at hy
  ·exact hcc j y v hy hv
  ·cases hy
 by_cases hlen:len=0
 ·subst hlen;have:(Builtin.clear_ ts o.type #[.slice (some ⟨g.ρ k,q,none⟩) 0 cap]).run P w = .ok (.tuple #[]) w:=by simp[Builtin.clear_,h0,Bpb htt]
  rw[Cg _ this];obtain⟨r1,r2⟩:=shrink w rfl;exact Ek g w _ r1 r2 (.F2 [] #[] rfl (by simp))
 ·have hqo:q=off:=by
   rcases hq with h|h
   ·omega
   ·exact h
  subst hqo;have hle:len*sz≤cap*sz:=Bqw sz U9;obtain⟨w',Cc,hst,Fp,Gu,hp',hz',Y5,M9⟩:=Ld (P:=P) (off:=q) (Builtin.zeroCells z.cells len).toList 0 w arr hb (fun v hv=>Ahs v (Amq hv)) (by
   rw[Brk,Bue,hzs];omega) (by intro j h3 h4;simp[World.frozen?,hb])
  have:(Builtin.clear_ ts o.type #[.slice (some ⟨g.ρ k,q,none⟩) len cap]).run P w = .ok (.tuple #[]) w':=by
   have hn:∀n,len=n→n≠0:=fun n h=>h▸hlen
   obtain⟨n,rfl⟩:∃n,len=n+1:=⟨len-1,by omega⟩;simp[Builtin.clear_,h0,Bpb htt,zeroValue,typeInfo,hi,hz,hst]
  rw[Cg _ this];obtain⟨r1,r2⟩:=hr.write hk (o':=.cells (cs.take q) ty) hz' M9 Y5 (by
   intro ht';refine .cells _ ty Cc T' Fp (by simp;omega) ?_ hty;intro j y v hy hv;rw[Bqj]at hy;split at hy
   ·rw[hp' j,Bpp (by omega)]at hv;exact(hcc j y v hy hv).mono ht' (.nil _)
   ·cases hy) (by
   intro s hs0;rw[Pq]at hs0;simp only[World.shape?,Fp,Gu];exact hs0)
  exact Ek g w' _ r1 r2 (.F2 [] #[] rfl (by simp))
end
section
variable{P:Program}{o:Oper}{X:A5}
def Aal(m:Nat){xs:A2 D}(ho:o.op = .buildSlice t n Bon)(ht:P.underlying t=some (.slice e))
  (hi:P.info? e=some i) (hz:i.zero=some z) (Hc:i.size=sz) (hx:xs.length=n) (Az5:Bon.toList.map (·.1)=List.range n) (Je:(xs.all fun x=>A6q (.d x)&&x.cells.length==sz)=true)
  (Zu:n*sz≤16777216) (h1m:1000≤m) (hX:B1 [m] X=true) :
  Bi P o ((Bon.toList.map (·.2)).zip (xs.map .d)) X ⟨(m,.cells ((xs.map D.cells).flatten.map .d) none)::(Aw m X).objs,X.live⟩ [m] (.osl m 0 n sz):=by
 subst Hc;intro nm Ej B g w a hr Au next Q hn
 have hpl:Bon.toList.length=n:=by rw[← Bpl (f:=(·.1)),Az5,Bvf]
 unfold Oper.wp;have B8r:∀(j:Nat) p x,Bon.toList[j]? = some p→xs[j]? = some x→RA g w (.d x) (a.eval p.2):=by
  intro j p x hp hx';exact Au (p.2,.d x) (Bpu (i:=j) (by
   rw[Bsa];exact⟨by rw[Bp1,hp];rfl,by rw[Bp1,hx'];rfl⟩))
 have Ahw:∀(j:Nat) x,xs[j]? = some x→A6q (.d x)=true∧x.cells.length=i.size:=by intro j x hx';have:=Bqb.1 Je x (Bpu hx');simpa using this
 generalize A2f:((Array.range (n*i.size)).map fun x=>(if n*i.size=0 then #[]else z.cells)[x % (if n*i.size=0 then #[]else z.cells).size]!)=Aa9;have Ahx:Aa9.size=n*i.size:=by subst A2f;simp
 obtain⟨Cc,A7h,Gu,_,hc'⟩:=A80 (g:=g) (w:=w) (sz:=i.size) (Bon.toList.map fun p=>(p.1,a.eval p.2)) (xs.map D.cells) 0 Aa9 (by simp[hpl,hx]) (by
  intro j p hp;rw[Bp1,Bp8]at hp;obtain⟨q,hq,rfl⟩:=hp;have hj:j<n:=by have:=(Bp2.1 hq).1;omega
  have:(Bon.toList.map (·.1))[j]? = some q.1:=by rw[Bp1,hq];rfl
  rw[Az5,Bu6 hj]at this;simp at this;simp[this]) (by
  intro j p cs hp Rq;rw[Bp1,Bp8]at hp Rq;obtain⟨q,hq,rfl⟩:=hp;obtain⟨x,hx',rfl⟩:=Rq;obtain⟨f1,f2⟩:=Ahw j x hx';obtain⟨c1,c2⟩:=(B8r j q x hq hx').cells f1;have hcl:(AV.d x).cells.length=x.cells.length:=by simp[AV.cells]
  refine⟨f2,by simp only;omega,?_⟩;intro k c u hk hu;have:=c2 k (.d c) u (by simp[AV.cells,hk]) hu;cases this with
  |d _ _ h=>exact h) (by simp[hpl,Ahx])
 have Cg:(execOp a.eval o).run P w = .ok (.value (.slice (some ⟨w.heap.size,0,none⟩) n n)) (w.alloc (.cells Cc e)):=by
  simp only[execOp,ho,Instr.buildSlice];have h24:¬(n*i.size>2 ^ 24):=by omega
  by_cases h0:n*i.size=0
  ·have e0:Aa9=#[]:=Bqm (by omega);subst e0;have Pr:Instr.fill (fun j=>some (j*i.size,i.size)) #[] (Bon.toList.map fun p=>(p.1,a.eval p.2))=some Cc:=A7h;have Bjs:¬(0>2 ^ 24):=by omega
   simp only[Bq5,Bpb ht,Bpr,run_sizeOf hi,h0,Brg];simp[Buh,Pr,Go.newRow]
  ·simp only[h0,Bre]at A2f;have Pr:Instr.fill (fun j=>some (j*i.size,i.size)) Aa9 (Bon.toList.map fun p=>(p.1,a.eval p.2))=some Cc:=A7h;simp only[Bq5,Bpb ht,Bpr,run_sizeOf hi,h24,Bre,h0];simp[zeroValue,typeInfo,hi,hz,A2f,Pr,Go.newRow]
 have hmn:m∉nm:=fun hh=>by have:=Ej m hh;omega
 have A7y:∀(i':Nat) cs,(xs.map D.cells)[i']? = some cs→cs.length=i.size:=by intro j cs Rq;rw[Bp1,Bp8]at Rq;obtain⟨x,hx',rfl⟩:=Rq;exact(Ahw j x hx').2
 have Aai:=Hs (xs.map D.cells) A7y;rw[Bpl,hx]at Aai;have hr1:=hr.Aw (k:=m) hmn;obtain⟨hr2,Wb⟩:=hr1.newObj (k:=m) (by simp only[Ab.Aw,Dj,Brg]) (by
  unfold B1 at hX⊢;simp only[Btd,Bta]at hX⊢;rw[Bqb]at hX⊢;intro p hp;simp only[Ab.Aw,Bpv]at hp;exact hX p hp.1) (.cells Cc e) (.cells ((xs.map D.cells).flatten.map .d) none) (by
  intro g' w' ht' hw';refine .cells _ none Cc e hw' (by simp only[Bpl,Aai];omega) ?_ (by simp);intro j y v hy hv;rw[Bp1,Bp8]at hy;obtain⟨d,hd,rfl⟩:=hy;obtain⟨p,q,ds,rfl,hp,hq⟩:=Aah _ A7y j d hd;have:=hc' p q ds d v hp hq (by rw[Bq7];exact hv);exact(RA.d _ _ this).mono ht' (.d _))
 rw[Cg];refine hn _ _ _ hr2 Wb (.nm _ _ _ ?_);simp only[Ac];exact⟨n,0,Bpa _,rfl,.inr rfl,e,Cc.size,by unfold World.shape?;rw[Bs1],by omega⟩
end
def A6s{o:Oper}(m:Nat)(ho:o.op = .buildSlice t 0 #[])(ht:P.underlying t=some (.slice e))(hi:P.info? e=some i)
  (hm:m∉X.live) (hX:B1 [m] X=true):Bi P o [] X ⟨X.objs,m::X.live⟩ [m] (.Be m i.size [] (some e)):=by
 intro nm Ej B g w a hr Au next Q hn
 unfold Oper.wp;have Cg:(execOp a.eval o).run P w = .ok (.value (.slice (some ⟨w.heap.size,0,none⟩) 0 0)) (w.alloc (.cells #[] e)):=by
  simp only[execOp,ho,Instr.buildSlice];have h0:0*i.size=0:=by omega
  have Bjs:¬(0>2 ^ 24):=by omega
  have Pr:Instr.fill (fun j=>some (j*i.size,i.size)) #[] []=some #[]:=rfl;simp only[Bq5,Bpb ht,Bpr,run_sizeOf hi,h0,Brg];simp[Buh,Pr,Go.newRow]
 rw[Cg];obtain⟨h1,h2⟩:=hr.newRow #[] e 0 (Bpa _);have Hc:(w.alloc (.cells #[] e)).heap.size=w.heap.size+1:=by simp
 obtain⟨h3,h4⟩:=h1.Ps hm (some w.heap.size) hX (by
  intro b hb;cases hb;refine⟨by omega,.inl hr.base,fun k ob hk he=>?_,fun n hn=>?_,hr.eta.ltN (Bpa _)⟩
  ·have Ga:=hr.objs k ob hk;have:g.ρ k<w.heap.size:=by
    cases Ga with
    |cells _ _ _ _ hh=>exact(Bpo.1 hh).1
    |map _ _ _ hh=>exact(Bpo.1 hh).1
    |Vt _ _ hh=>exact(Bpo.1 hh).1
    |Jo _ _ _ _ hh=>exact(Bpo.1 hh).1
    |Dl hh=>exact(Bpo.1 hh).1
    |Cf _ _ _ _ _ hh=>exact(Bpo.1 hh).1
   simp only at he;omega
  ·have:=hr.C7 n _ hn;omega)
 refine hn _ _ _ h3 (by simpa using h2.trans h4) (.Be m i.size [] (some e) _ (.nil _ _ _ (by simp)) ?_);intro ob Ga;simp only[Ac,Bp0]at Ga;subst Ga;refine⟨rfl,rfl,by show O6 g.γ w.heap.size 0 w.heap.size=0+0*i.size;rw[Ac,Bsh],fun j h5 h6=>by simp at h5 h6,fun e' he'=>?_⟩;cases he';exact⟨rfl,_,by simp only[World.shape?,Bs1];rfl⟩
def HR.Bmj{nm:A2 Nat}(h:HR nm B g w X)(hl:Y.live=X.live)(ho:∀j o,Y.objs.lookup j=some o→∃o',X.objs.lookup j=some o'∧(Bv g w (g.ρ j) o'→Bv g w (g.ρ j) o))
  (hk:∀j∈nm,(Y.objs.lookup j).isSome):HR nm B g w Y:=by
 refine⟨fun j hj=>⟨(h.D4 j hj).1,hk j hj⟩,h.Ip,h.base,h.io,h.le,h.frame,?_,?_,?_,?_,fun n=>by rw[hl];exact h.live n,h.Bw,?_,h.C3,h.C7,h.eta.same (Bpa _) fun j o hj=>let ⟨o',h1,_⟩:=ho j o hj;⟨o',h1⟩⟩
 ·intro j o hj;obtain⟨o',h1,h2⟩:=ho j o hj;exact h2 (h.objs j o' h1)
 ·intro j o hj;obtain⟨o',h1,h2⟩:=ho j o hj;exact h.Fq j o' h1
 ·intro j j' o o' hj Gb he;obtain⟨p,h1,_⟩:=ho j o hj;obtain⟨p',h1',_⟩:=ho j' o' Gb;exact h.Br j j' p p' h1 h1' he
 ·intro j o hj;obtain⟨o',h1,h2⟩:=ho j o hj;exact h.Ca j o' h1
 ·intro n b j o hn hj;obtain⟨o',h1,h2⟩:=ho j o hj;exact h.Ba n b j o' hn h1
section
variable{P:Program}{o:Oper}{X:A5}
def Av5(k:Nat)(ho:o.op = .alloc t)(hz:Ahq P t cs)(hk:X.objs.lookup k=none)(hX:B1 [k] X=true) :
  Bi P o [] X ⟨(k,.cells cs none)::X.objs,X.live⟩ [k] (.ptr k 0):=by
 intro nm Ej B g w a hr Au next Q hn
 refine B2u k ho hz hk hX nm Ej B g w a hr Au next Q ?_
 intro g' w' v h1 h2 h3;refine hn g' w' v (h1.Bmj rfl ?_ ?_) h2 h3
 ·intro j ob hj;simp only[Bqa]at hj⊢;split at hj
  ·cases hj;refine⟨_,rfl,fun h=>?_⟩;cases h with
   |cells _ _ arr T a1 a2 a3 a4=>exact .cells _ _ arr T a1 a2 a3 (by simp)
  ·exact⟨ob,hj,id⟩
 ·intro j hj;have:=(h1.D4 j hj).2;simp only[Bqa]at this⊢;split
  ·rfl
  ·rename_i he;rw[he]at this;exact this
def Aqq{t e:Nat}{lo hi:A3 Operand}{l:Int}{rd:A2 (Operand×AV)}(ho:o.op = .slice t x lo hi none)(ht:Bdj P t e n sz)
  (hk:X.objs.lookup k=some (.cells cs ty)) (hn:n*sz≤cs.length) (h0:0≤l) (h1:l≤h) (h2:h≤(n:Int))
  (hlo:match lo with|some y=>∃j,(y,AV.d (.int j l))∈rd|none=>l=0) (hhi:match hi with|some y=>∃j,(y,AV.d (.int j h))∈rd|none=>h=(n:Int)) :
  Bi P o ((x,.ptr k 0)::rd) X X [] (.osl k (l.toNat*sz) (h.toNat-l.toNat) sz) :=
 .quiet fun _ _ g w ac hr Au=>by
  have h3:=Au (x,.ptr k 0) Bp6;simp only at h3;have hx:=h3.Ko;obtain⟨hu,i,M9,Hc⟩:=ht;obtain⟨T,c,hsh,hc⟩:∃T c,w.shape? (g.ρ k)=some (T,c)∧n*sz≤c:=by
   cases hr.objs k _ hk with
   |cells _ _ arr T hb hl hc h4=>exact⟨T,arr.size,by simp[World.shape?,hb],by omega⟩
  have key:RA g w (.osl k (l.toNat*sz) (h.toNat-l.toNat) sz) (.slice (some (if n=l.toNat then ⟨g.ρ k,0,none⟩else (⟨g.ρ k,0,none⟩:Addr).add (l.toNat*sz))) (h.toNat-l.toNat) (n-l.toNat)):=by
   refine .nm _ _ _ ?_;by_cases hz:n=l.toNat
   ·rw[Bq6 hz];refine⟨n-l.toNat,0,by omega,rfl,.inl (by omega),T,c,hsh,?_⟩;rw[← hz,Bwl,Bsh];omega
   ·rw[Bpp hz];refine⟨n-l.toNat,l.toNat*sz,by omega,by simp[addr_add],.inr rfl,T,c,hsh,?_⟩;have:l.toNat*sz+(n-l.toNat)*sz=n*sz:=by rw[← Br5];congr 1;omega
    omega
  refine⟨_,?_,key⟩;simp only[execOp,ho,hx];have eh:∀y,hi=some y→∃j,ac.eval y = .int j h:=by intro y hy;subst hy;obtain⟨j,hj⟩:=hhi;exact⟨j,(Au _ (Bp5 _ hj)).Ap⟩
  have el:∀y,lo=some y→∃j,ac.eval y = .int j l:=by intro y hy;subst hy;obtain⟨j,hj⟩:=hlo;exact⟨j,(Au _ (Bp5 _ hj)).Ap⟩
  have bh:∀(y:Nat) (c:BoundsCode) (k:IntKind),h≤(y:Int)→(Instr.sliceBound (.int k h) y c).run P w = .ok h.toNat w:=by intro y c k hy;simp[Instr.sliceBound,asIntOf,show 0≤h by omega,hy]
  have bl:∀(y:Nat) (c:BoundsCode) (k:IntKind),l≤(y:Int)→(Instr.sliceBound (.int k l) y c).run P w = .ok l.toNat w:=by intro y c k hy;simp[Instr.sliceBound,asIntOf,h0,hy]
  have Qd:(sizeOf e).run P w = .ok sz w:=by rw[run_sizeOf M9,Hc]
  cases hi with
  |none =>
   simp only at hhi;subst hhi;have e5:((n:Nat):Int).toNat=n:=by omega
   cases lo with
   |none =>simp only at hlo;subst hlo;simp[Instr.sliceAt,Instr.sureAddr,Instr.sliceBounds,Bpb hu,Qd]
   |some y =>obtain⟨j,hj⟩:=el y rfl;have b1:=bl n .sliceB j (by omega);simp[Instr.sliceAt,Instr.sureAddr,Instr.sliceBounds,Bpb hu,Qd,hj,b1]
  |some y' =>
   obtain⟨j',Gb⟩:=eh y' rfl;have b2:=bh n .sliceAlen j' (by omega);have b3:=bh n .sliceAcap j' (by omega);cases lo with
   |none =>simp only at hlo;subst hlo;simp[Instr.sliceAt,Instr.sureAddr,Instr.sliceBounds,Bpb hu,Qd,Gb,b2]
   |some y =>obtain⟨j,hj⟩:=el y rfl;have b1:=bl h.toNat .sliceB j (by omega);simp[Instr.sliceAt,Instr.sureAddr,Instr.sliceBounds,Bpb hu,Qd,hj,Gb,b1,b2]
variable{l:A2 UInt8}
def Ad9(B2r:∀b i,i<γ b→(w.cell? ⟨b,i,none⟩).isSome)(h1:RD γ w (.sl 1 (Dy l)) v)
  (hs:P.underlying s=some (.slice e)) (he:P.underlying e=some (.int .u8)) (hd:P.underlying d=some .string):(convert s d v).run P w = .ok (.string ⟨l.toArray⟩) w:=by
 obtain⟨base,cap,rfl,hle,hb,_,cells,hcl,Cg,hc⟩:=h1.A0y (P:=P) B2r;have Azf:cells=(l.map fun b=>(b.toNat:Int)).map (Value.int .u8):=by
  refine Bsc fun i=>?_
  by_cases hi:i<l.length
  ·have h2:i<cells.length:=by rw[hcl,Ee];omega
   have h3:=hc i 0 [.sc (.int .u8 l[i].toNat)] (.sc (.int .u8 l[i].toNat)) cells[i] (by simp[Dy,hi]) rfl (by simp[h2]);have h4:cells[i]=Value.int .u8 l[i].toNat:=RA.Ap (g:=⟨γ,fun _=>none,fun _=>0,fun _ _=>none⟩) (w:=w) (.d _ _ h3);simp[h2,h4,hi]
  ·have h2:¬i<cells.length:=by rw[hcl,Ee];omega
   simp[Bss hi,Bss h2]
 rw[Bvo w s d e base (Dy l).length cap hs he hd];cases base with
 |none =>
  have hl0:l=[]:=by have:cap=0:=hb rfl;have:=Ee l;exact Brt.1 (by omega)
  subst hl0;rfl
 |some a =>
  have hl:=Cg w fun _ _ _=>rfl
  have hfc:(Builtin.firstCells 1 (Dy l).length (.slice (some a) (Dy l).length cap))=loadCells a ((Dy l).length*1):=rfl;rw[hfc,Buj]at hl;rw[run_bytesToString w a _ cap (l.map fun b=>(b.toNat:Int)) (by rw[hl,Azf]),foldl_push];simp
def A6t{a:Nat}(ho:o.op = .convert s d x)(hs:P.underlying s=some (.slice e))(he:P.underlying e=some (.int .u8))(hd:P.underlying d=some .string)
  (hk:X.objs.lookup k=some (.cells ((Dy l).flatten.map .d) ty)) (hle:a+len≤l.length) :
  Bi P o [(x,.osl k (a*1) len 1)] X X [] (.d (.bs ((l.drop a).take len))) :=
 .quiet fun _ _ g w ac hr Au=>by
  have h1:=Is Au;simp only at h1;have h':HR [] _ g w X:=⟨by simp,hr.Ip,hr.base,hr.io,hr.le,hr.frame,hr.objs,hr.Fq,hr.Br,hr.Ca,hr.live,hr.Bw,hr.Ba,hr.C3,hr.C7,hr.eta⟩;obtain⟨f1,f2,f3⟩:=h'.freeze (k:=k) (sz:=1) (es:=Dy l) (by simp) hk (by
   intro i cs hc;obtain⟨b,_,rfl⟩:=Wf hc;rfl)
  have f4:=f3 a len _ (by simpa[Ee]using hle) h1;have e1:((Dy l).drop a).take len=Dy ((l.drop a).take len):=by simp[Dy,Bsj,Bt0]
  rw[e1]at f4;cases f4 with
  |d _ _ f4 =>refine⟨_,?_,.H4 _ _ _⟩;simp only[execOp,ho];rw[Bq5,Ad9 f1.Ip f4 hs he hd];rfl
end
open Go Go.RowKit
section
variable{P:Program}{o:Oper}{X:A5}
def Av6(h:w.heap[b]? = some (.cells arr T fr)):w.shape? b=some (T,arr.size):=by simp[World.shape?,h]
def Amr{e:Nat}{l:A2 UInt8}(ho:o.op = .call { callee:=.builtin .unsafeString,args:=#[x,y],argTypes:=#[pt,it] })(hk:X.objs.lookup k=some (.cells ((Dy l).flatten.map .d) (some e)))(hk1:1000≤k)(hl:l≠[])
  (hp:P.underlying pt=some (.pointer e)) (hc:P.cellsOf e=1) (hlen:l.length≤9223372036854775807) :
  Bi P o [(x,.ptr k 0),(y,.d (.sc (.int .i64 l.length)))] X (Aw k X) [] (.d (.sc (.string ⟨l.toArray⟩))):=by
 intro nm Ej B g w a hr Au next Q Ek
 have h1:=(Is Au).Ko;have h2:=(Y4 Au).Ap;simp only at h1 h2;have hkn:k∉nm:=fun hh=>by have:=Ej k hh;omega
 have hbl:(Dy l).flatten.length=l.length:=by rw[Hs (sz:=1) _ (fun j cs hj=>by obtain⟨b,_,rfl⟩:=Wf hj;rfl),Ee,Buj]
 cases hr.objs k _ hk with
 |cells _ _ arr T hb hle hcc hty =>
 have:=hty e rfl;subst this;rw[Bpl,hbl]at hle;have K2:∀j u,l[j]? = some u→w.cell? ((⟨g.ρ k,0,none⟩:Addr).add j)=some (.int .u8 u.toNat):=by
  intro j u hu;rw[addr_add,Bq7];have hjl:j<l.length:=(Bp2.1 hu).1;rw[B6 hb];have hja:j<arr.size:=by omega
  have hd:(Dy l).flatten[j]? = some (.sc (.int .u8 u.toNat)):=by have:=A5j (sz:=1) (Dy l) (fun j cs hj=>by obtain⟨b,_,rfl⟩:=Wf hj;rfl) j 0 [.sc (.int .u8 u.toNat)] (.sc (.int .u8 u.toNat)) (by simp[Dy,hu]) rfl;simpa using this
  have:=hcc j (.d (.sc (.int .u8 u.toNat))) arr[j] (by rw[Bp1,hd];rfl) (Bpq hja);have:=this.Ap;simp[hja,this]
 have Cg:=run_unsafeString_row (P:=P) w pt it o.type e hp hc (g.ρ k) arr.size (Av6 hb) l hl hle hlen K2;have hr1:=hr.Aw hkn;have hfz:∀b',b'≠g.ρ k→(w.freeze ⟨g.ρ k,0,none⟩ l.length).heap[b']? = w.heap[b']?:=by
  intro b' Fp;unfold World.freeze;split
  ·rfl
  ·simp only[Bql];rw[Bpp (by simpa using Fp.symm)]
 have Mk:∀j ob,(Ab.Aw k X).objs.lookup j=some ob→j≠k∧X.objs.lookup j=some ob:=by
  intro j ob hj;simp only[Ab.Aw,Dj]at hj;split at hj
  ·cases hj
  ·exact⟨‹_›,hj⟩
 have hγ:g.γ (g.ρ k)=0:=hr.Fq k _ hk;obtain⟨hr2,Wb⟩:=hr1.raise (w':=w.freeze ⟨g.ρ k,0,none⟩ l.length) (b:=g.ρ k) (n:=g.γ (g.ρ k)) (Bpo.1 hb).1 (hr.Ca k _ hk) (fun j ob hj he=>by
   obtain⟨e1,e2⟩:=Mk j ob hj;exact e1 (hr.Br j k _ _ e2 hk he.symm)) (fun m hm=>hr.Ba m _ k _ hm hk rfl)
  (hr.eta.B58 hk) (by unfold World.freeze;split<;>simp) (by unfold World.freeze;split<;>exact⟨rfl,rfl,rfl,Bpa _⟩) hfz (fun i hi=>by omega) (Bpa _) (fun i hi=>by omega) (by
   intro s hs0;unfold World.freeze;split
   ·exact hs0
   ·simp only[World.shape?,Bql,Brg]at hs0⊢;cases hh:w.heap[g.ρ k]? with
    |none=>rw[hh]at hs0;exact hs0
    |some o=>rw[hh]at hs0;cases o<;>exact hs0)
 unfold Oper.wp;have:(execOp a.eval o).run P w = .ok (.value (.string ⟨l.toArray⟩)) (w.freeze ⟨g.ρ k,0,none⟩ l.length):=by simp[execOp,ho,resolve,h1,h2,invoke,builtin,Cg]
 rw[this];exact Ek _ _ _ hr2 Wb (.H4 _ _ _)
def Agu{sT dT:TypeId}{s:A2 UInt8}(ho:o.op = .convert sT dT x)(hs:P.underlying sT=some .string)(hd:P.underlying dT=some (.slice e))(he:P.underlying e=some (.int .u8)) :
  Bi P o [(x,.d (.sc (.string ⟨s.toArray⟩)))] X X [] (.d (.sl 1 (Dy s))):=by
 intro nm Ej B g w a hr Au next Q hn
 have h1:=(Is Au).Ap;simp only at h1;have Cg:=Lib.run_convert_string_bytes (P:=P) w sT dT e ⟨s.toArray⟩ hs hd he;have hss:(⟨s.toArray⟩:ByteArray).size=s.length:=by show s.toArray.size=_;simp
 rw[hss]at Cg;generalize hW:Lib.bytesWorld w e ⟨s.toArray⟩=w' at Cg;have Hc:w'.heap.size=w.heap.size+1:=by rw[← hW];exact Lib.bytesWorld_size _ _ _
 have hold:∀b,b<w.heap.size→w'.heap[b]? = w.heap[b]?:=fun b hb=>by rw[← hW];exact Lib.bytesWorld_at_old _ _ _ _ hb
 have A32:=Lib.bytesWorld_at_new w e ⟨s.toArray⟩;rw[hW]at A32;have hio:w'.os=w.os∧w'.output=w.output∧w'.tape=w.tape∧w.drawn≤w'.drawn:=by
  rw[← hW];unfold Lib.bytesWorld World.freeze;split
  ·exact⟨rfl,rfl,rfl,Nat.le_succ _⟩
  ·exact⟨rfl,rfl,rfl,Nat.le_succ _⟩
 have U9:s.length≤grownCap w s.length 0 e:=Bv3 _ _ _ _;have Rq:s.length≤(Lib.bytesCells w e ⟨s.toArray⟩).size:=by unfold Lib.bytesCells;simp
 obtain⟨r1,t1⟩:=hr.grow (w':=w') (by omega) hold hio;have K2:∀j u,s[j]? = some u→w'.cell? ⟨w.heap.size,j,none⟩=some (.int .u8 u.toNat):=by intro j u hu;have hj:=(Bp2.1 hu).1;have:=Lib.bytesWorld_cell w e ⟨s.toArray⟩ j (by rw[hss];exact hj);rw[hW]at this;rw[this];simp[List.getD,hu]
 obtain⟨r2,t2⟩:=r1.raise (w':=w') (b:=w.heap.size) (n:=s.length) (by omega) (.inl hr.base) (fun k ob hk he'=>by
  have:=Et (hr.objs k ob hk);omega) (fun m hm=>by have:=hr.C7 m _ hm;omega) (hr.eta.ltN (Bpa _)) rfl ⟨rfl,rfl,rfl,Bpa _⟩ (fun _ _=>rfl) (fun _ _=>rfl) (by rw[γ_top hr (Bpa _)];omega) (fun i hi=>by
  rw[K2 i s[i] (by simp[hi])];rfl) (fun _ h=>h)
 unfold Oper.wp;have:(execOp a.eval o).run P w = .ok (.value (.slice (some ⟨w.heap.size,0,none⟩) s.length (grownCap w s.length 0 e))) w':=by simp[execOp,ho,h1,Cg]
 rw[this];refine hn _ _ _ r2 (t1.trans t2) (.d _ _ (.Ox (Ee s).symm (by simp only[Ac];omega) U9 ?_ ?_))
 ·intro j cs hj;obtain⟨b,_,rfl⟩:=Wf hj;rfl
 ·intro p q cs c u hp hq hu;obtain⟨b,hb,rfl⟩:=Wf hp;have hq0:q=0:=by have:=(Bp2.1 hq).1;simp at this;exact this
  subst hq0;simp only[Bto,Bp0]at hq;subst hq;rw[show 0+(p*1+0)=p by omega,K2 p b hb]at hu;cases hu;exact .sc _
end
end Go.Ab
