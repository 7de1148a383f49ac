import Derived.Calls
import Derived.ProofKit
import Derived.Laws.Cells
import Derived.Laws.Entries
import Derived.Laws.Append
import Derived.Laws.StructEq
import Derived.Laws.Strings
import Derived.Laws.Slices
import Derived.Laws.Small
import Derived.Tactics
import Derived.Laws.Rows
import Derived.Laws.AppendOwn
import Derived.Laws.NewBlocks
import Derived.Orders
import Derived.Lib.Builder
import Derived.Lib.UnsafeStr
import Derived.Laws.BytesString
import Derived.Lib.BufferWrite
import Derived.Laws.MakeOwn
import Derived.Lib.ConvBytes
import Derived.Laws.CopyRow
import Derived.Below
import Derived.Sort.Grow
import Derived.Shelf.GgSortFunc.InsertionK
import Derived.Shelf.SlSortCmp.NoneTotal
import Derived.LaidEqlPtr
import Derived.MapKept
import Derived.WideKeyRuns
import Derived.RangeFuncLeaves
import Derived.RangeFuncRecord
import Derived.RangeFuncCalls
import Derived.RangeFuncIn
import Derived.RangeFuncSeq
import Derived.TacticsIn
import Derived.Laws.StandIn
import Derived.Lib.Bytealg
import Derived.IntWalk
import Derived.OpenShut
import Derived.FnData
import Derived.LaidSub
import Derived.Shelf.SlGeneric
import Derived.Ground.SlsfProg
import Derived.KernelRfl
import Derived.Shelf.Strings.Builder2
set_option linter.unusedVariables false
set_option linter.unusedSimpArgs false
open Go.IntKind (i64 u64 u16)
noncomputable section
abbrev A2.{u}(α:Type u):=List α
abbrev A3.{u}(α:Type u):=Option α
abbrev Bkn:=@cond_true
abbrev Bko:=@cond_false
abbrev Bkp:=@Option.bind_some
abbrev Bkq:=@List.mem_cons
abbrev Bkr:=@Nat.eq_of_beq_eq_true
abbrev Bks:=@Option.some.injEq
abbrev Bkt:=@List.getElem?_map
abbrev Bku:=@List.getElem?_eq_some_iff
abbrev Bkv:=@List.map_cons
abbrev Bkw:=@List.mem_append
abbrev Bkx:=@List.mem_cons_of_mem
abbrev Bky:=@Option.map_eq_some_iff
abbrev Bkz:=@List.mem_cons_self
abbrev Bl0:=@Go.run_underlying
abbrev Bl1:=@Nat.le_refl
abbrev Bl2:=@List.mem_map
abbrev Bl3:=@List.mem_map_of_mem
abbrev Bl4:=@decide_eq_false
abbrev Bl5:=@Nat.le_of_ble_eq_true
abbrev Bl6:=@decide_eq_true
abbrev Bl7:=@List.mem_singleton
abbrev Bl8:=@List.getElem?_eq_getElem
abbrev Bl9:=@List.mem_append_right
abbrev Bla:=@List.mem_append_left
abbrev Blb:=@List.length_map
abbrev Blc:=@congrArg
abbrev Bld:=@Prod.mk.injEq
abbrev Ble:=@List.map_append
abbrev Blf:=@Array.getElem?_eq_some_iff
abbrev Blg:=@List.length_cons
abbrev Blh:=@List.not_mem_nil
abbrev Bli:=@Array.getElem?_eq_getElem
abbrev Blj:=@if_neg
abbrev Blk:=@Go.Result.andThen_ok
abbrev Bll:=@List.map_nil
abbrev Blm:=@Option.isSome_iff_exists
abbrev Bln:=@List.mem_of_getElem?
abbrev Blo:=@Go.Sem.run_bind
abbrev Blp:=@List.pairwise_cons
abbrev Blq:=@Option.map_some
abbrev Blr:=@Option.bind_eq_some_iff
abbrev Bls:=@Bool.and_eq_true
abbrev Blt:=@List.append_nil
abbrev Blu:=@List.mem_filter
abbrev Blv:=@if_pos
abbrev Blw:=@List.lookup_cons
abbrev Blx:=@Nat.zero_add
abbrev Bly:=@List.all_eq_true
abbrev Blz:=@List.contains_iff_mem
abbrev Bm0:=@List.nil_append
abbrev Bm1:=@List.nodup_cons
abbrev Bm2:=@List.getElem?_append
abbrev Bm3:=@Nat.ble_eq_true_of_le
abbrev Bm4:=@List.take_length
abbrev Bm5:=@List.getElem?_take
abbrev Bm6:=@List.length_take
abbrev Bm7:=@Array.getElem?_modify
abbrev Bm8:=@Array.eq_empty_of_size_eq_zero
abbrev Bm9:=@List.getElem?_drop
abbrev Bma:=@or_false
abbrev Bmb:=@Bool.eq_iff_iff
abbrev Bmc:=@List.getElem_mem
abbrev Bmd:=@List.foldl_cons
abbrev Bme:=@List.length_append
abbrev Bmf:=@List.length_filter_le
abbrev Bmg:=@List.pairwise_iff_getElem
abbrev Bmh:=@Nat.le_trans
abbrev Bmi:=@Bool.false_eq_true
abbrev Bmj:=@List.flatten_cons
abbrev Bmk:=@Nat.blt_eq
abbrev Bml:=@Array.getElem?_toList
abbrev Bmm:=@Nat.mul_le_mul_right
abbrev Bmn:=@Nat.lt_of_lt_of_le
abbrev Bmo:=@Bool.and_self
abbrev Bmp:=@List.getElem?_eq_none
abbrev Bmq:=@List.lookup_append
abbrev Bmr:=@Nat.lt_irrefl
abbrev Bms:=@Bool.or_eq_true
abbrev Bmt:=@List.take_append_drop
abbrev Bmu:=@Nat.eq_zero_or_pos
abbrev Bmv:=@Array.length_toList
abbrev Bmw:=@Nat.ne_of_beq_eq_false
abbrev Bmx:=@List.cons_append
abbrev Bmy:=@List.take_add_one
abbrev Bmz:=@Nat.add_mul
abbrev Bn0:=@List.sizeOf_lt_of_mem
abbrev Bn1:=@List.mem_iff_getElem?
abbrev Bn2:=@if_false
abbrev Bn3:=@List.take_of_length_le
abbrev Bn4:=@List.pairwise_append
abbrev Bn5:=@if_true
abbrev Bn6:=@Array.getElem?_append_left
abbrev Bn7:=@Bool.not_true
abbrev Bn8:=@List.getElem?_toArray
abbrev Bn9:=@List.length_singleton
abbrev Bna:=@Nat.succ_mul
abbrev Bnb:=@List.drop_eq_getElem_cons
abbrev Bnc:=@List.size_toArray
abbrev Bnd:=@Bool.and_true
abbrev Bne:=@Go.MapKept.run_getObj_map
abbrev Bnf:=@Ne.symm
abbrev Bng:=@Nat.lt_or_ge
abbrev Bnh:=@List.map_map
abbrev Bni:=@Go.heap_alloc_new
abbrev Bnj:=@List.getElem?_append_right
abbrev Bnk:=@List.filter_cons
abbrev Bnl:=@List.getElem?_append_left
abbrev Bnm:=@Nat.zero_le
abbrev Bnn:=@List.zip_cons_cons
abbrev Bno:=@Bool.not_false
abbrev Bnp:=@decide_eq_true_eq
abbrev Bnq:=@List.length_eq_zero_iff
abbrev Bnr:=@Nat.add_zero
abbrev Bns:=@List.length_nil
abbrev Bnt:=@Nat.zero_mul
abbrev Bnu:=@Nat.sub_zero
abbrev Bnv:=@Array.getElem?_eq_none
abbrev Bnw:=@List.getElem?_zip_eq_some
abbrev Bnx:=@List.append_assoc
abbrev Bny:=@List.ext_getElem?
abbrev Bnz:=@Function.comp_def
abbrev Bo0:=@Nat.add_assoc
abbrev Bo1:=@Go.Sem.run_pure
abbrev Bo2:=@List.filter_append
abbrev Bo3:=@List.getElem?_cons_zero
abbrev Bo4:=@List.getD_eq_getElem?_getD
abbrev Bo5:=@List.map_take
abbrev Bo6:=@List.drop_zero
abbrev Bo7:=@List.drop_append_of_le_length
abbrev Bo8:=@List.pairwise_map
abbrev Bo9:=@Array.getElem?_append_right
abbrev Boa:=@List.flatten_append
abbrev Bob:=@Nat.beq_refl
abbrev Boc:=@Nat.lt_succ_self
abbrev Bod:=@Nat.le_of_not_lt
abbrev Boe:=@Option.getD_some
abbrev Bof:=@List.drop_length
abbrev Bog:=@Array.getElem?_append
abbrev Boh:=@Option.some_or
abbrev Boi:=@List.map_drop
abbrev Boj:=@List.any_cons
abbrev Bok:=@List.eq_nil_of_length_eq_zero
abbrev Bol:=@List.length_pos_iff
abbrev Bom:=@Option.none_or
abbrev Bon:=@Option.bind_none
abbrev Boo:=@Array.getElem?_extract
abbrev Bop:=@not_or
abbrev Boq:=@Option.map_none
abbrev Bor:=@Option.some.inj
abbrev Bos:=@List.cons.injEq
abbrev Bot:=@List.zip_append
abbrev Bou:=@Bool.false_or
abbrev Bov:=@Bool.or_false
abbrev Bow:=@List.sum_cons
abbrev Box:=@Array.size_append
abbrev Boy:=@Bool.not_eq_true'
abbrev Boz:=@List.isEmpty_cons
abbrev Bp0:=@Bool.eq_false_iff
abbrev Bp1:=@Nat.mul_one
abbrev Bp2:=@List.range'_succ
abbrev Bp3:=@List.any_nil
abbrev Bp4:=@beq_eq_false_iff_ne
abbrev Bp5:=@Array.getElem?_push
abbrev Bp6:=@List.getLast?_singleton
abbrev Bp7:=@Bool.true_and
abbrev Bp8:=@beq_iff_eq
abbrev Bp9:=@List.drop_eq_nil_of_le
abbrev Bpa:=@List.take_append_of_le_length
abbrev Bpb:=@of_decide_eq_true
abbrev Bpc:=@List.nodup_append
abbrev Bpd:=@Go.wp_mono
abbrev Bpe:=@getElem!_pos
abbrev Bpf:=@Nat.add_comm
abbrev Bpg:=@List.getElem?_of_mem
abbrev Bph:=@List.append_cons
abbrev Bpi:=@List.getLast?_append
abbrev Bpj:=@List.Pairwise.filter
abbrev Bpk:=@List.getElem?_range
abbrev Bpl:=@List.take_succ_cons
abbrev Bpm:=@Std.Legacy.Range.forIn_eq_forIn_range'
abbrev Bpn:=@List.mem_of_find?_eq_some
abbrev Bpo:=@Go.run_equalIn_int
abbrev Bpp:=@Go.Proofs.AnyF.slices_SortFunc_none
abbrev Bpq:=@Go.run_sliceAt_string
abbrev Bpr:=@Nat.add_sub_cancel
abbrev Bps:=@Go.size_zeroCells
abbrev Bpt:=@List.getElem?_cons_succ
abbrev Bpu:=@List.pairwise_mergeSort
abbrev Bpv:=@decide_eq_false_iff_not
abbrev Bpw:=@Go.Array.range_zero'
abbrev Bpx:=@Int.toNat_natCast
abbrev Bpy:=@List.foldl_append
abbrev Bpz:=@Int.le_refl
abbrev Bq0:=@Go.calls_of_wp
abbrev Bq1:=@Nat.mod_eq_of_lt
abbrev Bq2:=@List.map_toArray
abbrev Bq3:=@true_and
abbrev Bq4:=@Array.toList_inj
abbrev Bq5:=@Bool.not_eq_true
abbrev Bq6:=@congrFun
abbrev Bq7:=@List.pairwise_iff_forall_sublist
abbrev Bq8:=@Nat.div_lt_iff_lt_mul
abbrev Bq9:=@List.singleton_append
abbrev Bqa:=@List.eq_nil_or_concat
abbrev Bqb:=@Nat.mod_lt
abbrev Bqc:=@List.getElem!_eq_getElem?_getD
abbrev Bqd:=@Go.Sort.heap_ahead
abbrev Bqe:=@List.range_eq_range'
abbrev Bqf:=@Go.MapKept.run_checkKey
abbrev Bqg:=@exists_eq_left'
abbrev Bqh:=@List.getElem?_set_ne
abbrev Bqi:=@List.mem_of_mem_take
abbrev Bqj:=@Go.ByteArray.toList_eq
abbrev Bqk:=@List.replicate_succ
abbrev Bql:=@List.mergeSort_perm
abbrev Bqm:=@List.mem_range
abbrev Bqn:=@Go.grownCap_ge
abbrev Bqo:=@Array.append_assoc
abbrev Bqp:=@Array.getElem?_map
abbrev Bqq:=@List.find?_eq_none
abbrev Bqr:=@List.mem_filterMap
abbrev Bqs:=@UInt8.toNat_ofNat'
abbrev Bqt:=@Int.natCast_nonneg
abbrev Bqu:=@List.take_length_add_append
abbrev Bqv:=@List.all_cons
abbrev Bqw:=@ByteArray.ext
abbrev Bqx:=@Bool.or_assoc
abbrev Bqy:=@List.nil_perm
abbrev Bqz:=@List.length_range
abbrev Br0:=@List.find?_isSome
abbrev Br1:=@bne_self_eq_false
abbrev Br2:=@Array.getElem_mem
abbrev Br3:=@Nat.lt_trichotomy
abbrev Br4:=@List.zip_map_left
abbrev Br5:=@List.flatMap_cons
abbrev Br6:=@Go.Proofs.SlLaysF0.n15.bits
abbrev Br7:=@Array.mapM_eq_mapM_toList
abbrev Br8:=@Classical.byContradiction
abbrev Br9:=@false_or
abbrev Bra:=@Go.run_convert_bytes_string
abbrev Brb:=@Go.Lib.cell_of_heap
abbrev Brc:=@beq_self_eq_true
abbrev Brd:=@List.length_erase_of_mem
abbrev Bre:=@Go.IntKind.wrap_i64
abbrev Brf:=@List.of_mem_zip
abbrev Brg:=@List.find?_some
abbrev Brh:=@UInt8.toNat_inj
abbrev Bri:=@List.forIn_cons
abbrev Brj:=@Nat.not_lt_zero
abbrev Brk:=@Classical.epsilon_spec
abbrev Brl:=@ByteArray.data_extract
abbrev Brm:=@decide_true
abbrev Brn:=@List.drop_of_length_le
abbrev Bro:=@Option.map_eq_none_iff
abbrev Brp:=@List.length_pos_of_mem
abbrev Brq:=@List.getElem?_set_self
abbrev Brr:=@Array.getElem?_mapIdx
abbrev Brs:=@UInt8.lt_iff_toNat_lt
abbrev Brt:=@UInt8.le_iff_toNat_le
abbrev Bru:=@List.drop_drop
abbrev Brv:=@Go.IntWalk.i64_in
abbrev Brw:=@List.set_append_right
abbrev Brx:=@List.cons.inj
abbrev Bry:=@Nat.le_of_eq
abbrev Brz:=@Nat.sub_self
abbrev Bs0:=@and_assoc
abbrev Bs1:=(Int×Int)×UInt8×Int×UInt8×List UInt8×List (Int×Int)
abbrev Bs2:=Nat×(Int×Int)×(Int×Int)×UInt8×Int×UInt8×List UInt8×List (Int×Int)
abbrev Bs3:=Int×Int
abbrev Bs4:=Option (List Bs1×Nat)×Unit
abbrev Bs5:=List (Int×List Bs3)×Option (List Bs2×Nat)×Option (List Bs2×Nat)×Unit
abbrev Bs6:=Int×List Bs3
abbrev Bs7:=Int×Unit
abbrev Bs8:=(List Bs1×Unit)×Unit×Unit×Unit
abbrev Bs9:=Option (List Bs3×Nat)×Unit
abbrev Bsa:=(List Bs6×Unit×Unit×Unit)×Unit
abbrev Bsb:=Nat×List Nat×Nat
abbrev Bsc:=List Bs2×Nat
abbrev Bsd:=List Bs3×Int×Unit
abbrev Bse:=List Bs1×Unit
abbrev Bsf:=Int×Int×Unit
abbrev Bsg:=List (Nat×Int×Int)×Nat
abbrev Bsh:=List Bs3
abbrev Bsi:=(Bs5×Unit)×List Bs3×Unit
abbrev Bsj:=Bool×Unit
abbrev Bsk:=(Bool×List UInt8×Unit)×Unit
abbrev Bsl:=List Bs1×Int×Unit
abbrev Bsm:=Option (List Bs3×Nat)×Option (List Bs3×Nat)×Unit
abbrev Bsn:=List Bs6×List Bs1
abbrev Bso:=Unit×Unit
abbrev Bsp:=Unit×Option Bs5×Int×Unit
namespace Go.Ab
inductive D where
 |sc (v:Value)
 |agg (cs:List D)
 |sl (sz:Nat) (es:List (List D))
 |ep (cs:List D)
 |any (q:Value→Prop)
abbrev D.int(k:IntKind)(n:Int):D:=.sc (.int k n)
abbrev D.bool(b:Bool):D:=.sc (.bool b)
def D.cells:D→A2 D
 |.agg cs=>cs
 |x=>[x]
inductive PK where
 |p (off:Nat)
 |s (off len sz:Nat)
 |m
 |z (b:Bool) (off:Nat)
def PK.val(w:World)(b:Nat):PK→Value→Prop
 |.p off,v=>v = .pointer (some ⟨b,off,none⟩)
 |.s off len sz,v=>∃cap o,len≤cap∧v = .slice (some ⟨b,o,none⟩) len cap∧(cap=0∨o=off)∧∃T c,w.shape? b=some (T,c)∧o+cap*sz≤c
 |.m,v=>v = .map (some b)
 |.z n off,v=>v=cond n (.pointer none) (.pointer (some ⟨b,off,none⟩))
inductive AV where
 |d (x:D)
 |nm (k:Nat) (p:PK)
 |Bu (n:Nat) (sz:Nat) (es:List (List D)) (ty:Option TypeId:=none)
 |Uo (n:Nat) (e:TypeId) (cs:List D)
 |E2 (l:List AV)
 |agg (l:List AV)
 |Ff (f:Nat) (J9:List AV)
@[match_pattern] abbrev AV.ptr (k off:Nat):AV:=.nm k (.p off)
@[match_pattern] abbrev AV.osl (k off len sz:Nat):AV:=.nm k (.s off len sz)
@[match_pattern] abbrev AV.mp (k:Nat):AV:=.nm k .m
def AV.cells:AV→A2 AV
 |.d x=>x.cells.map .d
 |.agg cs=>cs
 |x=>[x]
inductive RD(γ:Nat→Nat)(w:World):D→Value→Prop
 |sc (v:Value):RD γ w (.sc v) v
 |agg (cs:List D) (vs:Array Value):cs.length=vs.size →
   (∀(i:Nat) c v,cs[i]? = some c→vs[i]? = some v→RD γ w c v)→RD γ w (.agg cs) (.agg vs)
 |nil (sz:Nat) (a:Option Addr) (cap:Nat):(a=none→cap=0)→RD γ w (.sl sz []) (.slice a 0 cap)
 |sl (sz:Nat) (es:List (List D)) (b off len cap:Nat):len=es.length→off+es.length*sz≤γ b→es.length≤cap →
   (∀(i:Nat) cs,es[i]? = some cs→cs.length=sz) →
   (∀(i:Nat) cs (j:Nat) c v,es[i]? = some cs→cs[j]? = some c→w.cell? ⟨b,off+i*sz+j,none⟩=some v→RD γ w c v) →
   RD γ w (.sl sz es) (.slice (some ⟨b,off,none⟩) len cap)
 |ep (cs:List D) (b off:Nat):off+cs.length≤γ b →
   (∀(j:Nat) c v,cs[j]? = some c→w.cell? ⟨b,off+j,none⟩=some v→RD γ w c v) →
   RD γ w (.ep cs) (.pointer (some ⟨b,off,none⟩))
 |any (q:Value→Prop) (v:Value):q v→v.oneCell'=true→RD γ w (.any q) v
structure LeD(γ:Nat→Nat)(w:World)(γ':Nat→Nat)(w':World):Prop where
 up:∀b,γ b≤γ' b
 cell:∀b i,i<γ b→w'.cell? ⟨b,i,none⟩=w.cell? ⟨b,i,none⟩
 shape:∀b s,w.shape? b=some s→w'.shape? b=some s
theorem LeD.refl(γ:Nat→Nat)(w:World):LeD γ w γ w:=⟨fun _=>Bl1 _,fun _ _ _=>rfl,fun _ _ h=>h⟩
theorem LeD.trans{γ γ₁ γ₂:Nat→Nat}{w w₁ w₂:World}(h:LeD γ w γ₁ w₁)(h':LeD γ₁ w₁ γ₂ w₂):LeD γ w γ₂ w₂ :=
 ⟨fun b=>Bmh (h.up b) (h'.up b),fun b i hi=>(h'.cell b i (Bmn hi (h.up b))).trans (h.cell b i hi),fun b s hs=>h'.shape b s (h.shape b s hs)⟩
theorem S1{i n sz j:Nat}(hi:i<n)(hj:j<sz):i*sz+j<n*sz:=by have h1:(i+1)*sz≤n*sz:=Bmm sz hi;rw[Bna]at h1;omega
theorem PK.val.mono{γ γ':Nat→Nat}{w w':World}{b:Nat}{p:PK}{v:Value}(h:p.val w b v)(hle:LeD γ w γ' w'):p.val w' b v:=by
 cases p with
 |p off=>exact h
 |m=>exact h
 |z n off=>exact h
 |s off len sz =>obtain⟨cap,o,h1,h2,h0,T,c,h3,h4⟩:=h;exact⟨cap,o,h1,h2,h0,T,c,hle.shape _ _ h3,h4⟩
theorem RD.mono{γ γ':Nat→Nat}{w w':World}{x:D}{v:Value}(h:RD γ w x v)(hle:LeD γ w γ' w'):RD γ' w' x v:=by
 induction h with
 |sc v=>exact .sc v
 |agg cs vs hl _ ih=>exact .agg cs vs hl ih
 |nil sz a cap h0=>exact .nil sz a cap h0
 |sl sz es b off len cap hlen hγ Sc G9 _ ih =>refine .sl sz es b off len cap hlen (Bmh hγ (hle.up b)) Sc G9 ?_;intro i cs j c v hi hj hv;refine ih i cs j c v hi hj ?_;have h1:i<es.length:=(Bku.1 hi).1;have h2:j<cs.length:=(Bku.1 hj).1;rw[G9 i cs hi]at h2;have:=S1 h1 h2;rw[← hle.cell b _ (by omega)];exact hv
 |ep cs b off hγ _ ih =>refine .ep cs b off (Bmh hγ (hle.up b)) ?_;intro j c v hj hv;refine ih j c v hj ?_;have h2:j<cs.length:=(Bku.1 hj).1;rw[← hle.cell b _ (by omega)];exact hv
 |any q v h1 h2=>exact .any q v h1 h2
structure Gh where
 γ:Nat→Nat
 β:Nat→Option (Option Nat)
 ρ:Nat→Nat
 η:Nat→Nat→Option Nat:=fun _ _=>none
def Room(w:World)(b lo hi:Nat):Prop:=∀i,lo≤i→i<hi→(w.cell? ⟨b,i,none⟩).isSome∧w.frozen? ⟨b,i,none⟩=false
def A69(g:Gh)(w:World)(n sz:Nat)(ty:A3 TypeId):Value→Prop
 |.slice (some a) len cap=>∀ob,g.β n=some ob→a.spot=none∧ob=some a.block∧g.γ a.block=a.off+len*sz∧Room w a.block (a.off+len*sz) (a.off+cap*sz) ∧
   (∀e,ty=some e→a.off=0∧∃c,w.shape? a.block=some (e,c))
 |_=>True
def Abq(g:Gh)(w:World)(L i sz:Nat):Value→Prop
 |.slice (some a) len cap=>a.spot=none∧g.η L i=some a.block∧g.γ a.block=a.off+len*sz∧Room w a.block (a.off+len*sz) (a.off+cap*sz)
 |_=>True
def Ag4(g:Gh)(w:World)(n:Nat)(e:TypeId):Value→Prop
 |.pointer (some a)=>a.spot=none∧∀ob,g.β n=some ob→ob=some a.block∧a.off=0∧∃c,w.shape? a.block=some (e,c)
 |_=>True
inductive RA(g:Gh)(w:World):AV→Value→Prop
 |d (x:D) (v:Value):RD g.γ w x v→RA g w (.d x) v
 |nm (k:Nat) (p:PK) (v:Value):p.val w (g.ρ k) v→RA g w (.nm k p) v
 |Bu (n sz:Nat) (es:List (List D)) (ty:Option TypeId) (v:Value):RD g.γ w (.sl sz es) v→A69 g w n sz ty v→RA g w (.Bu n sz es ty) v
 |Uo (n:Nat) (e:TypeId) (cs:List D) (v:Value):RD g.γ w (.ep cs) v→Ag4 g w n e v→RA g w (.Uo n e cs) v
 |E2 (l:List AV) (vs:Array Value):l.length=vs.size →
   (∀(i:Nat) x v,l[i]? = some x→vs[i]? = some v→RA g w x v)→RA g w (.E2 l) (.tuple vs)
 |agg (l:List AV) (vs:Array Value):l.length=vs.size →
   (∀(i:Nat) x v,l[i]? = some x→vs[i]? = some v→RA g w x v)→RA g w (.agg l) (.agg vs)
 |Ff (f:Nat) (l:List AV) (vs:Array Value):l.length=vs.size →
   (∀(i:Nat) x v,l[i]? = some x→vs[i]? = some v→RA g w x v)→RA g w (.Ff f l) (.func (.func f) #[] vs)
theorem RA.ptr{g:Gh}{w:World}(k off:Nat):RA g w (.ptr k off) (.pointer (some ⟨g.ρ k,off,none⟩)):=.nm k _ _ rfl
theorem RA.Is{g:Gh}{w:World}{k off:Nat}{v:Value}(h:RA g w (.ptr k off) v):v = .pointer (some ⟨g.ρ k,off,none⟩):=by cases h with|nm _ _ _ h=>exact h
theorem RA.Q1{g:Gh}{w:World}{k off len sz:Nat}{v:Value}(h:RA g w (.osl k off len sz) v):∃cap o,len≤cap∧v = .slice (some ⟨g.ρ k,o,none⟩) len cap∧(cap=0∨o=off)∧∃T c,w.shape? (g.ρ k)=some (T,c)∧o+cap*sz≤c:=by cases h with|nm _ _ _ h=>exact h
theorem RA.A6x{g:Gh}{w:World}{k:Nat}{v:Value}(h:RA g w (.mp k) v):v = .map (some (g.ρ k)):=by cases h with|nm _ _ _ h=>exact h
inductive Xu(F:List Nat):AV→Prop
 |d (x:D):Xu F (.d x)
 |nm (k:Nat) (p:PK):k∉F→Xu F (.nm k p)
 |Bu (n sz:Nat) (es:List (List D)) (ty:Option TypeId):n∉F→Xu F (.Bu n sz es ty)
 |Uo (n:Nat) (e:TypeId) (cs:List D):n∉F→Xu F (.Uo n e cs)
 |E2 (l:List AV):(∀(i:Nat) x,l[i]? = some x→Xu F x)→Xu F (.E2 l)
 |agg (l:List AV):(∀(i:Nat) x,l[i]? = some x→Xu F x)→Xu F (.agg l)
 |Ff (f:Nat) (l:List AV):(∀(i:Nat) x,l[i]? = some x→Xu F x)→Xu F (.Ff f l)
mutual
def Gm(F:List Nat):AV→Bool
 |.d _=>true
 |.nm k _=>!F.contains k
 |.Bu n _ _ _=>!F.contains n
 |.Uo n _ _=>!F.contains n
 |.E2 l=>Bz F l
 |.agg l=>Bz F l
 |.Ff _ l=>Bz F l
def Bz(F:List Nat):List AV→Bool
 |[]=>true
 |x::r=>Gm F x&&Bz F r
end
theorem M1{F:A2 Nat}{l:A2 AV}(h:Bz F l=true){i:Nat}{x:AV}(hx:l[i]? = some x):Gm F x=true:=by
 induction l generalizing i with
 |nil=>simp at hx
 |cons y r ih =>
  simp only[Bz,Bls]at h;cases i with
  |zero=>simp at hx;subst hx;exact h.1
  |succ i=>exact ih h.2 (by simpa using hx)
theorem Ot{F:A2 Nat}:∀ {x:AV},Gm F x=true→Xu F x
 |.d x,_=>.d x
 |.nm k p,h=>.nm k p (by simpa[Gm]using h)
 |.Bu n sz es ty,h=>.Bu n sz es ty (by simpa[Gm]using h)
 |.Uo n e cs,h=>.Uo n e cs (by simpa[Gm]using h)
 |.E2 l,h=>.E2 l fun i x hx=>by
   have:SizeOf.sizeOf x<SizeOf.sizeOf l:=Bn0 (Bln hx);exact Ot (M1 (by simpa[Gm]using h) hx)
 |.agg l,h=>.agg l fun i x hx=>by
   have:SizeOf.sizeOf x<SizeOf.sizeOf l:=Bn0 (Bln hx);exact Ot (M1 (by simpa[Gm]using h) hx)
 |.Ff f l,h=>.Ff f l fun i x hx=>by
   have:SizeOf.sizeOf x<SizeOf.sizeOf l:=Bn0 (Bln hx);exact Ot (M1 (by simpa[Gm]using h) hx)
termination_by x=>x
theorem Xu.nil(x:AV):Xu [] x:=by
 apply Ot
 suffices h:(∀y:AV,Gm [] y=true)from h x
 intro y
 suffices H:∀n,∀z:AV,SizeOf.sizeOf z≤n→Gm [] z=true from H _ y (Bl1 _)
 intro n;induction n with
 |zero=>intro z hz;cases z<;>simp at hz
 |succ n ih =>
  have hl:∀l:A2 AV,SizeOf.sizeOf l≤n+1→Bz [] l=true:=by
   intro l;induction l with
   |nil=>intro _;simp[Bz]
   |cons a r ihr =>intro hs;simp at hs;simp only[Bz,Bls];exact⟨ih a (by omega),ihr (by omega)⟩
  intro z hz;cases z<;>simp at hz<;>simp[Gm]
  ·exact hl _ (by omega)
  ·exact hl _ (by omega)
  ·exact hl _ (by omega)
structure Trans(F:List Nat)(g:Gh)(w:World)(g':Gh)(w':World):Prop where
 le:LeD g.γ w g'.γ w'
 names:∀k,k∉F→g'.ρ k=g.ρ k
 Aob:∀n ob,n∉F→g'.β n=some ob→g.β n=some ob∧∀b,ob=some b→g'.γ b=g.γ b∧w'.heap[b]? = w.heap[b]?
 eta:∀L,L∉F→(g'.β L).isSome→g'.η L=g.η L∧∀i b,g.η L i=some b→g'.γ b=g.γ b∧w'.heap[b]? = w.heap[b]?
theorem Trans.refl(F:A2 Nat)(g:Gh)(w:World):Trans F g w g w:=⟨.refl _ _,fun _ _=>rfl,fun _ _ _ h=>⟨h,fun _ _=>⟨rfl,rfl⟩⟩,fun _ _ _=>⟨rfl,fun _ _ _=>⟨rfl,rfl⟩⟩⟩
theorem Trans.trans{F F':A2 Nat}{g g₁ g₂:Gh}{w w₁ w₂:World}(h:Trans F g w g₁ w₁)(h':Trans F' g₁ w₁ g₂ w₂):Trans (F++F') g w g₂ w₂ where
 le:=h.le.trans h'.le
 names k hk:=by rw[Bkw,Bop]at hk;rw[h'.names k hk.2,h.names k hk.1]
 Aob n ob hn he:=by rw[Bkw,Bop]at hn;obtain⟨h1,h2⟩:=h'.Aob n ob hn.2 he;obtain⟨h3,h4⟩:=h.Aob n ob hn.1 h1;exact⟨h3,fun b hb=>⟨(h2 b hb).1.trans (h4 b hb).1,(h2 b hb).2.trans (h4 b hb).2⟩⟩
 eta L hL he:=by rw[Bkw,Bop]at hL;obtain⟨h1,h2⟩:=h'.eta L hL.2 he;obtain⟨ob,Gg⟩:=Blm.1 he;have h3:=(h'.Aob L ob hL.2 Gg).1;obtain⟨h4,h5⟩:=h.eta L hL.1 (by rw[h3];rfl);refine⟨h1.trans h4,fun i b hb=>?_⟩;obtain⟨a1,a2⟩:=h5 i b hb;obtain⟨a3,a4⟩:=h2 i b (by rw[h4];exact hb);exact⟨a3.trans a1,a4.trans a2⟩
theorem O0{w w':World}{b:Nat}(h:w'.heap[b]? = w.heap[b]?)(i:Nat)(s:A3 Nat):w'.cell? ⟨b,i,s⟩=w.cell? ⟨b,i,s⟩:=by simp only[World.cell?,h]
theorem Af9{w w':World}{b:Nat}(h:w'.heap[b]? = w.heap[b]?)(i:Nat)(s:A3 Nat):w'.frozen? ⟨b,i,s⟩=w.frozen? ⟨b,i,s⟩:=by simp only[World.frozen?,h]
theorem Room.Dc{w w':World}{b lo hi:Nat}(h:Room w b lo hi)(hw:w'.heap[b]? = w.heap[b]?):Room w' b lo hi:=by intro i h1 h2;rw[O0 hw,Af9 hw];exact h i h1 h2
theorem M3{w w':World}{b:Nat}(h:w'.heap[b]? = w.heap[b]?):w'.shape? b=w.shape? b:=by simp only[World.shape?,h]
theorem A69.Dc{F:A2 Nat}{g g':Gh}{w w':World}{n sz:Nat}{ty:A3 TypeId}{v:Value}(h:A69 g w n sz ty v)(ht:Trans F g w g' w')(hn:n∉F):A69 g' w' n sz ty v:=by
 unfold A69 at h⊢;split at h
 ·rename_i a len cap;intro ob Gg;obtain⟨h1,h2⟩:=ht.Aob n ob hn Gg;obtain⟨hs,hc⟩:=h ob h1;obtain⟨he,hγ,hr,Yl⟩:=hc;obtain⟨h3,h4⟩:=h2 _ he;exact⟨hs,he,by rw[h3];exact hγ,hr.Dc h4,fun e hte=>⟨(Yl e hte).1,by rw[M3 h4];exact(Yl e hte).2⟩⟩
 ·trivial
theorem Abq.Dc{F:A2 Nat}{g g':Gh}{w w':World}{L i sz:Nat}{v:Value}(h:Abq g w L i sz v)(ht:Trans F g w g' w')(hL:L∉F)(hl:(g'.β L).isSome):Abq g' w' L i sz v:=by
 unfold Abq at h⊢;split at h
 ·obtain⟨h1,h2⟩:=ht.eta L hL hl;obtain⟨a1,a2,a3,a4⟩:=h;obtain⟨b1,b2⟩:=h2 i _ a2;exact⟨a1,by rw[h1];exact a2,by rw[b1];exact a3,a4.Dc b2⟩
 ·trivial
theorem Ag4.Dc{F:A2 Nat}{g g':Gh}{w w':World}{n:Nat}{e:TypeId}{v:Value}(h:Ag4 g w n e v)(ht:Trans F g w g' w')(hn:n∉F):Ag4 g' w' n e v:=by
 unfold Ag4 at h⊢;split at h
 ·refine⟨h.1,fun ob Gg=>?_⟩;obtain⟨h1,h2⟩:=ht.Aob n ob hn Gg;obtain⟨h3,h4,h5⟩:=h.2 ob h1;exact⟨h3,h4,by rw[M3 (h2 _ h3).2];exact h5⟩
 ·trivial
theorem RA.mono{F:A2 Nat}{g g':Gh}{w w':World}{x:AV}{v:Value}(h:RA g w x v)(ht:Trans F g w g' w')(hf:Xu F x):RA g' w' x v:=by
 induction h with
 |d x v h=>exact .d x v (h.mono ht.le)
 |nm k p v h =>
  cases hf with
  |nm _ _ hk=>exact .nm k p v (by rw[ht.names k hk];exact h.mono ht.le)
 |Bu n sz es ty v h h2 =>
  cases hf with
  |Bu _ _ _ _ hk=>exact .Bu n sz es ty v (h.mono ht.le) (h2.Dc ht hk)
 |Uo n e cs v h h2 =>
  cases hf with
  |Uo _ _ _ hk=>exact .Uo n e cs v (h.mono ht.le) (h2.Dc ht hk)
 |E2 l vs hl _ ih =>
  cases hf with
  |E2 _ hx=>exact .E2 l vs hl fun i x v h1 h2=>ih i x v h1 h2 (hx i x h1)
 |agg l vs hl _ ih =>
  cases hf with
  |agg _ hx=>exact .agg l vs hl fun i x v h1 h2=>ih i x v h1 h2 (hx i x h1)
 |Ff f l vs hl _ ih =>
  cases hf with
  |Ff _ _ hx=>exact .Ff f l vs hl fun i x v h1 h2=>ih i x v h1 h2 (hx i x h1)
inductive Ob where
 |cells (cs:List AV) (ty:Option TypeId:=none)
 |map (l:List (Nat×Value×D)) (clock:Nat)
 |Oy (s:ByteArray) (pos:Nat)
 |Jg (k since:Nat) (seen:Array Nat) (last:Nat)
 |Dt
 |Ck (L sz:Nat) (l:List (Nat×Value×Bool×List (List D))) (clock:Nat)
structure A7 where
 objs:List (Nat×Ob)
 live:List Nat
structure Sig where
 N:Nat
 names:List Nat
 small:∀j∈names,j<1000
structure Bl where
 n0:Nat
 w0:World
 γ0:Nat→Nat
 allowed:Nat→Prop
 Dc:Nat→Nat
inductive C3(g:Gh)(w:World)(b:Nat):Ob→Prop
 |cells (cs:List AV) (ty:Option TypeId) (arr:Array Value) (T:TypeId):w.heap[b]? = some (.cells arr T (0,0))→cs.length≤arr.size →
   (∀(i:Nat) x v,cs[i]? = some x→arr[i]? = some v→RA g w x v)→(∀t,ty=some t→t=T)→C3 g w b (.cells cs ty)
 |map (l:List (Nat×Value×D)) (clock:Nat) (es:Array MapEntry):w.heap[b]? = some (.map es clock)→l.length=es.size →
   (∀(i:Nat) x e,l[i]? = some x→es[i]? = some e→e.born=x.1∧e.key=x.2.1∧RD g.γ w x.2.2 e.val) →
   (∀p∈l,p.1<clock)→(l.map (·.1)).Nodup→C3 g w b (.map l clock)
 |Oy (s:ByteArray) (pos:Nat):w.heap[b]? = some (.stringIter s pos)→C3 g w b (.Oy s pos)
 |Jg (k since:Nat) (seen:Array Nat) (last:Nat):w.heap[b]? = some (.mapIter (some (g.ρ k)) since seen last)→C3 g w b (.Jg k since seen last)
 |Dt:w.heap[b]? = some (.mapIter none 0 #[] 0)→C3 g w b .Dt
 |Ck (L sz:Nat) (l:List (Nat×Value×Bool×List (List D))) (clock:Nat) (es:Array MapEntry):w.heap[b]? = some (.map es clock)→l.length=es.size →
   (∀(i:Nat) x e,l[i]? = some x→es[i]? = some e→e.born=x.1∧e.key=x.2.1∧RD g.γ w (.sl sz x.2.2.2) e.val∧(x.2.2.1=true→(g.β L).isSome→Abq g w L x.1 sz e.val)) →
   (∀p∈l,p.1<clock)→(l.map (·.1)).Nodup→C3 g w b (.Ck L sz l clock)
structure K8(B:Bl)(g:Gh)(w:World)(X:A7):Prop where
 inj:∀L L' i i' b,(g.β L).isSome→(g.β L').isSome→g.η L i=some b→g.η L' i'=some b→L=L'∧i=i'
 Bu:∀L i b n,(g.β L).isSome→g.η L i=some b→g.β n≠some (some b)
 obj:∀L i b k o,(g.β L).isSome→g.η L i=some b→X.objs.lookup k=some o→b≠g.ρ k
 new:∀L i b,(g.β L).isSome→g.η L i=some b→B.n0≤b∨B.allowed b
 lt:∀L i b,(g.β L).isSome→g.η L i=some b→b<w.heap.size
theorem K8.step{B:Bl}{g g':Gh}{w w':World}{X X':A7}(h:K8 B g w X)(hη:∀L,(g'.β L).isSome→((g.β L).isSome∧g'.η L=g.η L)∨∀i,g'.η L i=none)(hs:w.heap.size≤w'.heap.size)
  (A8y:∀n b,g'.β n=some (some b)→(∃m,g.β m=some (some b))∨w.heap.size≤b∨∃k o,X.objs.lookup k=some o∧b=g.ρ k)
  (A1e:∀k o,X'.objs.lookup k=some o→(∃k' o',X.objs.lookup k'=some o'∧g'.ρ k=g.ρ k')∨w.heap.size≤g'.ρ k∨∃m,g.β m=some (some (g'.ρ k))):K8 B g' w' X':=by
 have old:∀L i b,(g'.β L).isSome→g'.η L i=some b→(g.β L).isSome∧g.η L i=some b:=by
  intro L i b hL hb;rcases hη L hL with ⟨h1,h2⟩|h1
  ·exact⟨h1,by rw[← h2];exact hb⟩
  ·rw[h1 i]at hb;cases hb
 refine⟨?_,?_,?_,?_,?_⟩
 ·intro L L' i i' b hL hL' hb G0;obtain⟨a1,a2⟩:=old L i b hL hb;obtain⟨a3,a4⟩:=old L' i' b hL' G0;exact h.inj L L' i i' b a1 a3 a2 a4
 ·intro L i b n hL hb hn;obtain⟨a1,a2⟩:=old L i b hL hb;rcases A8y n b hn with ⟨m,hm⟩|hle|⟨k,o,hk,he⟩
  ·exact h.Bu L i b m a1 a2 hm
  ·have:=h.lt L i b a1 a2;omega
  ·exact h.obj L i b k o a1 a2 hk he
 ·intro L i b k o hL hb hk he;obtain⟨a1,a2⟩:=old L i b hL hb;rcases A1e k o hk with ⟨k',o',Lk,he'⟩|hle|⟨m,hm⟩
  ·exact h.obj L i b k' o' a1 a2 Lk (he.trans he')
  ·have:=h.lt L i b a1 a2;omega
  ·exact h.Bu L i b m a1 a2 (by rw[he];exact hm)
 ·intro L i b hL hb;obtain⟨a1,a2⟩:=old L i b hL hb;exact h.new L i b a1 a2
 ·intro L i b hL hb;obtain⟨a1,a2⟩:=old L i b hL hb;exact Bmn (h.lt L i b a1 a2) hs
theorem K8.Asx{B:Bl}{g g':Gh}{w w':World}{X X':A7}(h:K8 B g w X)(hη:∀L,(g'.β L).isSome→((g.β L).isSome∧g'.η L=g.η L)∨∀i,g'.η L i=none)(hs:w.heap.size≤w'.heap.size)
  (A8y:∀n b,g'.β n=some (some b)→∀L i,(g.β L).isSome→g.η L i≠some b)
  (A1e:∀k o,X'.objs.lookup k=some o→∀L i,(g.β L).isSome→g.η L i≠some (g'.ρ k)):K8 B g' w' X':=by
 have old:∀L i b,(g'.β L).isSome→g'.η L i=some b→(g.β L).isSome∧g.η L i=some b:=by
  intro L i b hL hb;rcases hη L hL with ⟨h1,h2⟩|h1
  ·exact⟨h1,by rw[← h2];exact hb⟩
  ·rw[h1 i]at hb;cases hb
 refine⟨?_,?_,?_,?_,?_⟩
 ·intro L L' i i' b hL hL' hb G0;obtain⟨a1,a2⟩:=old L i b hL hb;obtain⟨a3,a4⟩:=old L' i' b hL' G0;exact h.inj L L' i i' b a1 a3 a2 a4
 ·intro L i b n hL hb hn;obtain⟨a1,a2⟩:=old L i b hL hb;exact A8y n b hn L i a1 a2
 ·intro L i b k o hL hb hk he;obtain⟨a1,a2⟩:=old L i b hL hb;exact A1e k o hk L i a1 (he▸a2)
 ·intro L i b hL hb;obtain⟨a1,a2⟩:=old L i b hL hb;exact h.new L i b a1 a2
 ·intro L i b hL hb;obtain⟨a1,a2⟩:=old L i b hL hb;exact Bmn (h.lt L i b a1 a2) hs
theorem K8.B5o{B:Bl}{g:Gh}{w:World}{X:A7}(h:K8 B g w X){n b:Nat}(hn:g.β n=some (some b)):∀L i,(g.β L).isSome→g.η L i≠some b:=fun L i hL hb=>h.Bu L i b n hL hb hn
theorem K8.B2h{B:Bl}{g:Gh}{w:World}{X:A7}(h:K8 B g w X){k:Nat}{o:Ob}(hk:X.objs.lookup k=some o):∀L i,(g.β L).isSome→g.η L i≠some (g.ρ k):=fun L i hL hb=>h.obj L i _ k o hL hb hk rfl
theorem K8.Yj{B:Bl}{g:Gh}{w:World}{X:A7}(h:K8 B g w X){b:Nat}(hb:w.heap.size≤b):∀L i,(g.β L).isSome→g.η L i≠some b:=fun L i hL he=>by have:=h.lt L i b hL he;omega
theorem K8.off{B:Bl}{g:Gh}{w:World}{X:A7}(h:∀L,g.β L=none):K8 B g w X:=by refine⟨fun L L' i i' b hL=>?_,fun L i b n hL=>?_,fun L i b k o hL=>?_,fun L i b hL=>?_,fun L i b hL=>?_⟩<;>(rw[h L]at hL;cases hL)
theorem K8.bare{B:Bl}{g:Gh}{w:World}{X:A7}(h:∀L i,g.η L i=none):K8 B g w X:=by refine⟨fun L L' i i' b _ _ hb=>?_,fun L i b n _ hb=>?_,fun L i b k o _ hb=>?_,fun L i b _ hb=>?_,fun L i b _ hb=>?_⟩<;>(rw[h L i]at hb;cases hb)
theorem K8.same{B:Bl}{g:Gh}{w w':World}{X X':A7}(h:K8 B g w X)(hs:w.heap.size≤w'.heap.size)(A1e:∀k o,X'.objs.lookup k=some o→∃o',X.objs.lookup k=some o'):K8 B g w' X' :=
 h.step (fun L hL=>.inl ⟨hL,rfl⟩) hs (fun n b hb=>.inl ⟨n,hb⟩) fun k o hk=>let ⟨o',h'⟩:=A1e k o hk;.inl ⟨k,o',h',rfl⟩
structure HR(nm:List Nat)(B:Bl)(g:Gh)(w:World)(X:A7):Prop where
 Dc:∀k,k∈nm→g.ρ k=B.Dc k∧(X.objs.lookup k).isSome
 Ik:∀b i,i<g.γ b→(w.cell? ⟨b,i,none⟩).isSome
 base:B.n0≤w.heap.size
 io:w.os=B.w0.os∧w.output=B.w0.output∧w.tape=B.w0.tape∧B.w0.drawn≤w.drawn
 le:LeD B.γ0 B.w0 g.γ w
 frame:∀b,b<B.n0→¬B.allowed b→w.heap[b]? = B.w0.heap[b]?∧g.γ b=B.γ0 b
 objs:∀k o,X.objs.lookup k=some o→C3 g w (g.ρ k) o
 Fx:∀k o,X.objs.lookup k=some o→g.γ (g.ρ k)=0
 C0:∀k k' o o',X.objs.lookup k=some o→X.objs.lookup k'=some o'→g.ρ k=g.ρ k'→k=k'
 Ce:∀k o,X.objs.lookup k=some o→B.n0≤g.ρ k∨B.allowed (g.ρ k)
 live:∀n,n∈X.live↔(g.β n).isSome
 C4:∀n m b,g.β n=some (some b)→g.β m=some (some b)→n=m
 Bo:∀n b k o,g.β n=some (some b)→X.objs.lookup k=some o→b≠g.ρ k
 Ca:∀n b,g.β n=some (some b)→B.n0≤b∨B.allowed b
 Cd:∀n b,g.β n=some (some b)→b<w.heap.size
 eta:K8 B g w X
def Bp(P:Program)(o:Oper)(rd:A2 (Operand×AV))(X X':A7)(F:A2 Nat)(res:AV):Prop :=
 ∀(nm:A2 Nat),(∀j∈nm,j<1000)→∀(B:Bl) (g:Gh) (w:World) (a:Act),HR nm B g w X→(∀p∈rd,RA g w p.2 (a.eval p.1)) →
  ∀(next:Act→World→Prop) (Q:Exit→Act→World→Prop),
   (∀g' w' v,HR nm B g' w' X'→Trans F g w g' w'→RA g' w' res v→next (a.put o.dst v) w')→o.wp P a w next Q
structure St where
 env:List (Nat×AV)
 X:A7
def GB:Nat:=1000000
def Ym(a:Act)(t:Nat):A3 Value:=if t<GB then a.tmps[t]? else some (.pointer (some ⟨t-GB,0,none⟩))
theorem Rg{a:Act}{t:Nat}(ht:t<GB):Ym a t=a.tmps[t]?:=Blv ht
theorem Zt{a:Act}(k:Nat):Ym a (GB+k)=some (.pointer (some ⟨k,0,none⟩)):=by unfold Ym;rw[Blj (by omega),Nat.add_sub_cancel_left]
theorem Am0{a:Act}{d:Nat}{v:Value}{t:Nat}(h:t≠d):Ym (a.put (some d) v) t=Ym a t:=by simp[Ym,Act.put,Bnf h]
theorem Ag5{a:Act}{d:Nat}{v:Value}(h:d<a.tmps.size)(hd:d<GB):Ym (a.put (some d) v) d=some v:=by simp[Ym,Act.put,h,hd]
structure SR(S:Sig)(B:Bl)(g:Gh)(w:World)(st:St)(a:Act):Prop where
 defers:a.defers=[]
 size:a.tmps.size=S.N
 hr:HR S.names B g w st.X
 env:∀t x,st.env.lookup t=some x→∃v,Ym a t=some v∧RA g w x v
inductive Has(env:List (Nat×AV))(t:Nat):AV→Prop
 |eq (x:AV):env.lookup t=some x→Has env t x
 |Bu (n sz:Nat) (es:List (List D)) (ty:Option TypeId):env.lookup t=some (.Bu n sz es ty)→Has env t (.d (.sl sz es))
 |nil (sz:Nat):env.lookup t=some (.d (.sc (.slice none 0 0)))→Has env t (.d (.sl sz []))
 |le (x y:AV):env.lookup t=some x→(∀(g:Gh) (w:World) (v:Value),RA g w x v→RA g w y v)→Has env t y
theorem Has.get{S:Sig}{B:Bl}{g:Gh}{w:World}{st:St}{a:Act}{t:Nat}{x:AV}(h:Has st.env t x)(hs:SR S B g w st a):∃v,Ym a t=some v∧RA g w x v:=by
 cases h with
 |eq _ h=>exact hs.env t _ h
 |Bu n sz es ty h =>
  obtain⟨v,hv,hr⟩:=hs.env t _ h;cases hr with
  |Bu _ _ _ _ _ h _=>exact⟨v,hv,.d _ _ h⟩
 |nil sz h =>
  obtain⟨v,hv,hr⟩:=hs.env t _ h;cases hr with
  |d _ _ h=>cases h;exact⟨_,hv,.d _ _ (.nil sz none 0 fun _=>rfl)⟩
 |le x _ h hle =>obtain⟨v,hv,hr⟩:=hs.env t _ h;exact⟨v,hv,hle g w v hr⟩
inductive E3(st:St):Operand→AV→Prop
 |tmp (t:Nat) (y:AV):t<GB→Has st.env t y→E3 st (.tmp t) y
 |Ag6 (k:Nat) (y:AV):Has st.env (GB+k) y→E3 st (.global k) y
 |const (v:Value) (y:D):(∀γ w,RD γ w y v)→E3 st (.const v) (.d y)
 |func (f:Nat):E3 st (.func f) (.Ff f [])
theorem E3.ra{S:Sig}{B:Bl}{g:Gh}{w:World}{st:St}{a:Act}{x:Operand}{v:AV}(h:E3 st x v)(hs:SR S B g w st a):RA g w v (a.eval x):=by
 cases h with
 |Ag6 k _ h =>obtain⟨u,hv,hr⟩:=h.get hs;rw[Zt]at hv;cases hv;exact hr
 |tmp t _ ht h =>
  obtain⟨u,hv,hr⟩:=h.get hs;rw[Rg ht]at hv;have:a.eval (.tmp t)=u:=by show a.tmps.getD t undef=u;obtain⟨Bs,rfl⟩:=Blf.1 hv;simp[Array.getD,Bs]
  rw[this];exact hr
 |const _ _ h=>exact .d _ _ (h _ _)
 |func f=>exact .Ff f [] #[] rfl (by simp)
def Du(dst:A3 Tmp)(x:AV)(env:A2 (Nat×AV)):A2 (Nat×AV) :=
 match dst with
 |some d=>(d,x)::env
 |none=>env
def Jh(N:Nat):A3 Tmp→Bool
 |some d=>decide (d<N)&&decide (d<GB)
 |none=>true
def Ln(F:A2 Nat)(env:A2 (Nat×AV)):Bool:=F.isEmpty||env.all fun p=>Gm F p.2
theorem Di{α:Type}{l:A2 (Nat×α)}{k:Nat}{x:α}(h:l.lookup k=some x):(k,x)∈l:=by
 induction l with
 |nil=>simp at h
 |cons p r ih =>
  obtain⟨k',y⟩:=p;rw[Blw]at h;split at h
  ·rename_i he;simp at he h;subst he;subst h;exact Bkz
  ·exact Bkx _ (ih h)
theorem V0{F:A2 Nat}{env:A2 (Nat×AV)}(h:Ln F env=true){t:Nat}{x:AV}(hx:env.lookup t=some x):Xu F x:=by
 unfold Ln at h;rw[Bms]at h;rcases h with h|h
 ·have:F=[]:=by simpa using h
  subst this;exact .nil x
 ·have:=Bly.1 h _ (Di hx);exact Ot this
theorem SR.put{S:Sig}{B:Bl}{F:A2 Nat}{g g':Gh}{w w':World}{st:St}{a:Act}(h:SR S B g w st a)(ht:Trans F g w g' w')(hF:Ln F st.env=true)
  {X':A7} (hX:HR S.names B g' w' X') {dst:A3 Tmp} (hd:Jh S.N dst=true) {x:AV} {v:Value} (hv:RA g' w' x v) :
  SR S B g' w' ⟨Du dst x st.env,X'⟩ (a.put dst v):=by
 cases dst with
 |none =>refine⟨h.defers,h.size,hX,?_⟩;intro t y hy;obtain⟨u,hu,hr⟩:=h.env t y hy;exact⟨u,hu,hr.mono ht (V0 hF hy)⟩
 |some d =>
  have Bfm:d<S.N∧d<GB:=by simpa[Jh]using hd
  refine⟨h.defers,by simp[Act.put,h.size],hX,?_⟩;intro t y hy;simp only[Du,Blw]at hy;by_cases he:t=d
  ·subst he;simp at hy;subst hy;exact⟨v,Ag5 (h.size▸Bfm.1) Bfm.2,hv⟩
  ·have hb:(t==d)=false:=by simpa using he
   rw[hb]at hy;obtain⟨u,hu,hr⟩:=h.env t y hy;exact⟨u,(Am0 he).trans hu,hr.mono ht (V0 hF hy)⟩
inductive Guard(ops:Array Oper)(st:St):Option (Nat×Bool)→Bool→Prop
 |none:Guard ops st none true
 |some (j d:Nat) (o:Oper) (Bkg b:Bool):ops[j]? = some o→o.dst=some d→st.env.lookup d=some (.d (.sc (.bool b)))→Guard ops st (some (j,Bkg)) (b==Bkg)
 |undef (j d:Nat) (o:Oper) (Bkg:Bool):ops[j]? = some o→o.dst=some d→st.env.lookup d=some (.d (.sc Go.undef))→Guard ops st (some (j,Bkg)) false
theorem Guard.wanted{S:Sig}{B:Bl}{g:Gh}{w:World}{ops:Array Oper}{st:St}{a:Act}{o:Oper}{b:Bool}(h:Guard ops st o.guard b)(hs:SR S B g w st a) :
  Region.wanted o (yielded ops a.tmps)=b:=by
 unfold Region.wanted;generalize o.guard=og at h;cases h with
 |none=>rfl
 |some j d o Bkg b ho hd hl =>
  obtain⟨v,hv,hr⟩:=hs.env d _ hl;cases hr with
  |d _ _ hr =>
   cases hr;unfold Ym at hv;split at hv
   ·simp only[yielded,ho,Bkp,hd,hv];cases b<;>cases Bkg<;>rfl
   ·cases hv
 |undef j d o Bkg ho hd hl =>
  obtain⟨v,hv,hr⟩:=hs.env d _ hl;cases hr with
  |d _ _ hr =>
   cases hr;unfold Ym at hv;split at hv
   ·simp only[yielded,ho,Bkp,hd,hv];rfl
   ·cases hv
inductive E6(P:Program)(S:Sig)(ops:Array Oper):List Nat→St→St→Prop
 |nil (st:St):E6 P S ops [] st st
 |op {i:Nat} {Bkh:List Nat} {o:Oper} {st Bq:St} {rd:List (Operand×AV)} {X':A7} {F:List Nat} {res:AV} :
   ops[i]? = some o→Guard ops st o.guard true→(∀p∈rd,E3 st p.1 p.2)→Bp P o rd st.X X' F res→Ln F st.env=true →
   Jh S.N o.dst=true→E6 P S ops Bkh ⟨Du o.dst res st.env,X'⟩ Bq→E6 P S ops (i::Bkh) st Bq
 |skip {i:Nat} {Bkh:List Nat} {o:Oper} {st Bq:St} :
   ops[i]? = some o→Guard ops st o.guard false→Jh S.N o.dst=true →
   E6 P S ops Bkh ⟨Du o.dst (.d (.sc undef)) st.env,st.X⟩ Bq→E6 P S ops (i::Bkh) st Bq
def AWp(P:Program)(S:Sig)(c:Code)(Q:Exit→St→Prop)(st:St):Prop :=
 ∀B g w a,SR S B g w st a→c.wp P (fun e a' w'=>∃Bq g',Q e Bq∧SR S B g' w' Bq a') a w
section rules
variable{P:Program}{S:Sig}{Q:Exit→St→Prop}{st:St}
theorem B5p(h:Q .normal st):AWp P S .skip Q st:=fun _ g _ _ hs=>wp_skip ⟨st,g,h,hs⟩
theorem B2i{l:Nat}(h:Q .normal st):AWp P S (.label l) Q st:=fun _ g _ _ hs=>wp_label ⟨st,g,h,hs⟩
theorem B5q{id:Nat}(h:Q (.exit id) st):AWp P S (.exit id) Q st:=fun _ g _ _ hs=>wp_exit ⟨st,g,h,hs⟩
theorem Ba1(h:Q .ret st):AWp P S .ret Q st:=fun _ g _ _ hs=>wp_ret ⟨st,g,h,hs⟩
def Bcm(next:St→Prop)(Q:Exit→St→Prop):Exit→St→Prop
 |.normal,st=>next st
 |e,st=>Q e st
theorem A1p{c:Code}{Q':Exit→St→Prop}(h:AWp P S c Q st)(hq:∀e st,Q e st→Q' e st):AWp P S c Q' st:=fun B g w a hs =>Bpd (h B g w a hs) fun _ _ _ ⟨Bq,g',q,s⟩=>⟨Bq,g',hq _ _ q,s⟩
theorem Afq{x y:Code}(h:AWp P S x (Bcm (AWp P S y Q) Q) st):AWp P S (.seq x y) Q st:=fun B g w a hs=>by
 refine wp_seq (Bpd (h B g w a hs) ?_);rintro e a' w' ⟨Bq,g',q,s⟩;cases e with
 |normal=>exact q B g' w' a' s
 |_=>exact⟨Bq,g',q,s⟩
theorem B5r{c:Operand}{x y:Code}{b:Bool}(hc:E3 st c (.d (.sc (.bool b))))(ht:b=true→AWp P S x Q st)(hf:b=false→AWp P S y Q st) :
  AWp P S (.cond c x y) Q st:=fun B g w a hs=>by
 have hr:=hc.ra hs;have he:a.eval c = .bool b:=by
  generalize a.eval c=u at hr;cases hr with
  |d _ _ h=>cases h;rfl
 exact wp_cond_split he (fun h=>ht h B g w a hs) (fun h=>hf h B g w a hs)
def Awx(id:Nat)(Q:Exit→St→Prop):Exit→St→Prop
 |.exit id',st=>if id'=id then Q .normal st else Q (.exit id') st
 |e,st=>Q e st
theorem B2j{id:Nat}{c:Code}(h:AWp P S c (Awx id Q) st):AWp P S (.block id c) Q st:=fun B g w a hs=>by
 refine wp_block (Bpd (h B g w a hs) ?_);rintro e a' w' ⟨Bq,g',q,s⟩;cases e with
 |exit id' =>
  simp only[Awx]at q;simp only[Exit.inBlock];split at q
  ·rw[Blv ‹_›];exact⟨Bq,g',q,s⟩
  ·rw[Blj ‹_›];exact⟨Bq,g',q,s⟩
 |_=>exact⟨Bq,g',q,s⟩
theorem Ag7{c:Code}(I:Nat→St→Prop)(n:Nat)(h0:I n st)
  (round:∀n st,I n st→AWp P S c (Bcm (fun Bq=>∃m,m<n∧I m Bq) Q) st):AWp P S (.loop c) Q st:=fun B g w a hs=>by
 refine wp_loop (P:=P) (fun a w=>∃n g st,I n st∧SR S B g w st a) (fun a w=>Classical.epsilon fun n=>(∃g st,I n st∧SR S B g w st a)∧∀m,(∃g st,I m st∧SR S B g w st a)→n≤m) ⟨n,g,st,h0,hs⟩ ?_;have least:∀(p:Nat→Prop),(∃n,p n)→∃n,p n∧∀m,p m→n≤m:=by
  intro p ⟨n,hn⟩;induction n using Nat.strongRecOn with
  |_ n ih =>
   by_cases hm:∃m,m<n∧p m
   ·obtain⟨m,Bs,hp⟩:=hm;exact ih m Bs hp
   ·refine⟨n,hn,fun m hp=>?_⟩;rcases Bng m n with Bs|hge
    ·exact(hm ⟨m,Bs,hp⟩).elim
    ·exact hge
 intro a w hI;have hI':∃n,(∃g st,I n st∧SR S B g w st a):=by obtain⟨n,g,st,h⟩:=hI;exact⟨n,g,st,h⟩
 have Bfn:=Brk (least _ hI');generalize hN:(Classical.epsilon fun n=>(∃g st,I n st∧SR S B g w st a)∧∀m,(∃g st,I m st∧SR S B g w st a)→n≤m)=N at Bfn;obtain⟨⟨g₁,Bfo,hi,Bfp⟩,_⟩:=Bfn;refine Bpd (round N Bfo hi B g₁ w a Bfp) ?_;rintro e a' w' ⟨Bq,g',q,s⟩;cases e with
 |normal =>obtain⟨m,Bs,hm⟩:=q;refine⟨⟨m,g',Bq,hm,s⟩,?_⟩;have Bi7:∃n,(∃g st,I n st∧SR S B g w' st a'):=⟨m,g',Bq,hm,s⟩;have Bfq:=Brk (least _ Bi7);exact Nat.lt_of_le_of_lt (Bfq.2 m ⟨g',Bq,hm,s⟩) Bs
 |_=>exact⟨Bq,g',q,s⟩
structure Asy(nm:List Nat)(st Bq:St):Prop where
 env:∀p∈Bq.env,Has st.env p.1 p.2
 objs:∀p∈Bq.X.objs,st.X.objs.lookup p.1=some p.2
 live:∀n∈Bq.X.live,n∈st.X.live
 Dc:∀k∈nm,(Bq.X.objs.lookup k).isSome
theorem SR.A8z{B:Bl}{Bq:St}{g:Gh}{w:World}{a:Act}(h:SR S B g w st a)(hw:Asy S.names st Bq):∃g',Trans [] g w g' w∧SR S B g' w Bq a:=by
 classical
 let g':Gh:={ g with β:=fun n=>if n∈Bq.X.live then g.β n else none };have ht:Trans [] g w g' w:=by
  refine⟨.refl _ _,fun _ _=>rfl,fun n ob _ he=>?_,fun _ _ _=>⟨rfl,fun _ _ _=>⟨rfl,rfl⟩⟩⟩;simp only[g']at he;split at he
  ·exact⟨he,fun _ _=>⟨rfl,rfl⟩⟩
  ·cases he
 have hβ:∀n ob,g'.β n=some ob→g.β n=some ob:=fun n ob he=>(ht.Aob n ob (by simp) he).1
 refine⟨g',ht,h.defers,h.size,?_,?_⟩
 ·have hr:=h.hr;have hl:∀k o,Bq.X.objs.lookup k=some o→st.X.objs.lookup k=some o:=fun k o hk=>hw.objs _ (Di hk)
  refine⟨?_,hr.Ik,hr.base,hr.io,hr.le,hr.frame,?_,?_,?_,?_,?_,?_,?_,?_,?_,hr.eta.step (fun L hL=>.inl ⟨?_,rfl⟩) (Bl1 _) (fun n b hb=>.inl ⟨n,hβ n _ hb⟩) fun k o hk=>.inl ⟨k,o,hl k o hk,rfl⟩⟩
  rotate_right
  ·obtain⟨ob,Gg⟩:=Blm.1 hL;rw[hβ L ob Gg];rfl
  ·intro k hk;exact⟨(hr.Dc k hk).1,hw.Dc k hk⟩
  ·intro k o hk;have:=hr.objs k o (hl k o hk);cases this with
   |cells cs ty arr T h1 h2 h3 h4=>exact .cells cs ty arr T h1 h2 (fun i x v hx hv=>(h3 i x v hx hv).mono ht (.nil x)) h4
   |map l clock es h1 h2 h3 h4 h5=>exact .map l clock es h1 h2 h3 h4 h5
   |Oy s pos h1=>exact .Oy s pos h1
   |Jg j since seen last h1=>exact .Jg j since seen last h1
   |Dt h1=>exact .Dt h1
   |Ck L sz l clock es h1 h2 h3 h4 h5 =>
    have h3':∀(i:Nat) x e,l[i]? = some x→es[i]? = some e→e.born=x.1∧e.key=x.2.1∧RD g'.γ w (.sl sz x.2.2.2) e.val∧(x.2.2.1=true→(g'.β L).isSome→Abq g' w L x.1 sz e.val):=by intro i x e hx he;obtain⟨a1,a2,a3,a4⟩:=h3 i x e hx he;refine⟨a1,a2,a3,fun hf hL=>?_⟩;obtain⟨ob,Gg⟩:=Blm.1 hL;exact a4 hf (by rw[hβ L ob Gg];rfl)
    exact .Ck L sz l clock es h1 h2 h3' h4 h5
  ·intro k o hk;exact hr.Fx k o (hl k o hk)
  ·intro k k' o o' hk Lk he;exact hr.C0 k k' o o' (hl k o hk) (hl k' o' Lk) he
  ·intro k o hk;exact hr.Ce k o (hl k o hk)
  ·intro n;simp only[g'];by_cases hn:n∈Bq.X.live
   ·simp only[hn,Bn5,true_iff];exact(hr.live n).1 (hw.live n hn)
   ·simp[hn]
  ·intro n m b hn hm;exact hr.C4 n m b (hβ n _ hn) (hβ m _ hm)
  ·intro n b k o hn hk;exact hr.Bo n b k o (hβ n _ hn) (hl k o hk)
  ·intro n b hn;exact hr.Ca n b (hβ n _ hn)
  ·intro n b hn;exact hr.Cd n b (hβ n _ hn)
 ·intro t x hx;obtain⟨v,hv,hr⟩:=(hw.env _ (Di hx)).get h;exact⟨v,hv,hr.mono ht (.nil x)⟩
end rules
end Go.Ab
namespace Go.Ab
def A90:TypeDesc→Bool
 |.struct _=>true
 |.array _ _=>true
 |_=>false
structure TyI(P:Program)(t:TypeId)(agg:Bool)(sz:Nat):Prop where
 und:∃d,P.underlying t=some d∧A90 d=agg
 info:∃i,P.info? t=some i∧i.size=sz
theorem A44{P:Program}{t:TypeId}{agg:Bool}{sz:Nat}(h:TyI P t agg sz)(w:World):(isAgg t).run P w = .ok agg w:=by obtain⟨d,hd,ha⟩:=h.und;unfold isAgg;rw[Blo,Bl0 hd];subst ha;cases d<;>rfl
theorem run_sizeOf{P:Program}{t:TypeId}{i:TypeInfo}(h:P.info? t=some i)(w:World):(sizeOf t).run P w = .ok i.size w:=by simp[sizeOf,typeInfo,h]
theorem TyI.Yn{P:Program}{t:TypeId}{agg:Bool}{sz:Nat}(h:TyI P t agg sz)(w:World):(sizeOf t).run P w = .ok sz w:=by obtain⟨i,hi,rfl⟩:=h.info;exact run_sizeOf hi w
theorem addr_add(b off i:Nat):(⟨b,off,none⟩:Addr).add i=⟨b,off+i,none⟩:=by
 unfold Addr.add;split
 ·rename_i h;subst h;rfl
 ·rfl
theorem Lo{P:Program}{t:TypeId}{agg:Bool}{sz:Nat}(h:TyI P t agg sz)(w:World)(b off:Nat)(vs:Array Value)(hl:vs.size=sz)
  (hc:∀(i:Nat) v,vs[i]? = some v→w.cell? ⟨b,off+i,none⟩=some v) (h1:agg=false→sz=1) :
  (loadVar t ⟨b,off,none⟩).run P w = .ok (if agg then .agg vs else vs.getD 0 undef) w:=by
 unfold loadVar;rw[Blo,A44 h,Blk];cases agg with
 |true =>
  have:=run_loadCells_list (P:=P) w ⟨b,off,none⟩ vs.toList (by
   intro j v hj;rw[addr_add];exact hc j v (by simpa using hj))
  simp only[Bn5,Blo,h.Yn,Blk];rw[← hl,← Bmv,this];simp
 |false =>
  have h1:=h1 rfl;have h0:0<vs.size:=by omega
  have hc0:=hc 0 vs[0] (by simp[h0]);simp only[Bmi,Bn2,run_load];rw[Bnr]at hc0;rw[hc0];simp[Array.getD,h0]
def Ag8:A2 AV→A3 (A2 D)
 |[]=>some []
 |.d x::r=>(Ag8 r).map (x :: ·)
 |_::_=>none
def Wt(cs:A2 AV):AV :=
 match Ag8 cs with
 |some ds=>.d (.agg ds)
 |none=>.agg cs
theorem B5s{cs:A2 AV}{ds:A2 D}(h:Ag8 cs=some ds):cs=ds.map .d:=by
 induction cs generalizing ds with
 |nil=>simp[Ag8]at h;subst h;rfl
 |cons x r ih =>
  cases x with
  |d x =>simp only[Ag8,Bky]at h;obtain⟨l,hl,rfl⟩:=h;rw[ih hl];rfl
  |_=>simp[Ag8]at h
theorem RA.join{g:Gh}{w:World}{cs:A2 AV}{vs:Array Value}(hl:cs.length=vs.size)
  (h:∀(i:Nat) x v,cs[i]? = some x→vs[i]? = some v→RA g w x v):RA g w (Wt cs) (.agg vs):=by
 unfold Wt;split
 ·rename_i ds hd;have:=B5s hd;subst this;refine .d _ _ (.agg ds vs (by simpa using hl) fun i c v hc hv=>?_);have:=h i (.d c) v (by simp[hc]) hv;cases this with
  |d _ _ h=>exact h
 ·exact .agg cs vs hl h
inductive Am1(P:Program)(X:A7)(t:TypeId)(k off:Nat):AV→Prop
 |agg (sz:Nat) (cs:List AV) (ty:Option TypeId) (x:AV):TyI P t true sz→X.objs.lookup k=some (.cells cs ty)→off+sz≤cs.length→Wt ((cs.drop off).take sz)=x→Am1 P X t k off x
 |one (cs:List AV) (ty:Option TypeId) (x:AV):TyI P t false 1→X.objs.lookup k=some (.cells cs ty)→cs[off]? = some x→Am1 P X t k off x
theorem Bg{w:World}{b:Nat}{arr:Array Value}{T:TypeId}{fr:Nat×Nat}(h:w.heap[b]? = some (.cells arr T fr))(i:Nat) :
  w.cell? ⟨b,i,none⟩=arr[i]?:=by simp[World.cell?,h]
theorem Am1.run{P:Program}{nm:A2 Nat}{B:Bl}{g:Gh}{w:World}{X:A7}{t:TypeId}{k off:Nat}{x:AV}(h:Am1 P X t k off x)(hr:HR nm B g w X) :
  ∃v,(loadVar t ⟨g.ρ k,off,none⟩).run P w = .ok v w∧RA g w x v:=by
 cases h with
 |agg sz cs ty x ht hk hlen hx =>
  subst hx;cases hr.objs k _ hk with
  |cells _ _ arr T hb hl hc _ =>
   refine⟨.agg (arr.extract off (off+sz)),?_,?_⟩
   ·have:=Lo ht w (g.ρ k) off (arr.extract off (off+sz)) (by simp;omega) (by
     intro i v hv;rw[Bg hb];rw[Boo]at hv;split at hv
     ·exact hv
     ·cases hv) (by simp)
    simpa using this
   ·refine RA.join (by simp;omega) ?_;intro i x v hx hv;rw[Boo]at hv;split at hv
    ·rw[Bm5]at hx;split at hx
     ·rw[Bm9]at hx;exact hc _ x v hx hv
     ·cases hx
    ·cases hv
 |one cs ty x ht hk hx =>
  cases hr.objs k _ hk with
  |cells _ _ arr T hb hl hc _ =>
   have Bs:off<arr.size:=by have:=(Bku.1 hx).1;omega
   refine⟨arr[off],?_,hc off x _ hx (by simp[Bs])⟩;have:=Lo ht w (g.ρ k) off #[arr[off]] rfl (by
    intro i v hv;cases i with
    |zero=>simp at hv;subst hv;rw[Bnr,Bg hb];simp[Bs]
    |succ i=>simp at hv) (fun _=>rfl)
   simpa using this
inductive RV(P:Program)(st:St):ResultVar→AV→Prop
 |tmp (t:Nat) (x:AV):t<GB→Has st.env t x→RV P st (.tmp t) x
 |cell (a:Nat) (ty:TypeId) (k off:Nat) (x:AV):a<GB→Has st.env a (.ptr k off)→Am1 P st.X ty k off x→RV P st (.cell a ty) x
inductive RVs(P:Program)(st:St):List ResultVar→List AV→Prop
 |nil:RVs P st [] []
 |cons (r:ResultVar) (x:AV) (rs:List ResultVar) (xs:List AV):RV P st r x→RVs P st rs xs→RVs P st (r::rs) (x::xs)
def Zu:A2 AV→AV
 |[x]=>x
 |l=>.E2 l
def Ag9(tmps:Array Value)(r:ResultVar):Sem Value :=
 match r with
 |.tmp t=>pure (tmps.getD t undef)
 |.cell c t=>do loadVar t (← asAddr (tmps.getD c undef))
theorem Awy(fn:Func)(tmps:Array Value):results fn tmps=(do
  let vs ← fn.results.mapM (Ag9 tmps)
  pure (if h:vs.size=1 then vs[0]else .tuple vs)):=by
 unfold results;congr 1
theorem RV.run{P:Program}{S:Sig}{B:Bl}{g:Gh}{w:World}{st:St}{a:Act}{r:ResultVar}{x:AV}(h:RV P st r x)(hs:SR S B g w st a) :
  ∃v,(Ag9 a.tmps r).run P w = .ok v w∧RA g w x v:=by
 cases h with
 |tmp t _ ht h =>have:=(E3.tmp t _ ht h).ra hs;exact⟨_,rfl,this⟩
 |cell c ty k off _ ht h hl =>
  have:=(E3.tmp c _ ht h).ra hs;have he:a.tmps.getD c undef = .pointer (some ⟨g.ρ k,off,none⟩):=by have h1:a.eval (.tmp c)=a.tmps.getD c undef:=rfl;rw[h1]at this;exact this.Is
  obtain⟨v,hv,T8⟩:=hl.run hs.hr;refine⟨v,?_,T8⟩;simp only[Ag9,he,asAddr];simp[hv]
theorem RVs.run{P:Program}{S:Sig}{B:Bl}{g:Gh}{w:World}{st:St}{a:Act}{rs:A2 ResultVar}{xs:A2 AV}(h:RVs P st rs xs)(hs:SR S B g w st a) :
  ∃vs:A2 Value,(rs.mapM (Ag9 a.tmps)).run P w = .ok vs w ∧
   xs.length=vs.length∧∀(i:Nat) x v,xs[i]? = some x→vs[i]? = some v→RA g w x v:=by
 induction h with
 |nil=>exact⟨[],rfl,rfl,by simp⟩
 |cons r x rs xs h _ ih =>
  obtain⟨v,hv,hx⟩:=h.run hs;obtain⟨vs,Nz,hl,hxs⟩:=ih;refine⟨v::vs,?_,by simp[hl],?_⟩
  ·rw[List.mapM_cons,Blo,hv,Blk,Blo,Nz,Blk];rfl
  ·intro i y u hy hu;cases i with
   |zero=>simp at hy hu;subst hy;subst hu;exact hx
   |succ i=>exact hxs i y u (by simpa using hy) (by simpa using hu)
theorem M4{P:Program}{S:Sig}{B:Bl}{g:Gh}{w:World}{st:St}{a:Act}{fn:Func}{xs:A2 AV}(h:RVs P st fn.results.toList xs)(hs:SR S B g w st a) :
  ∃v,(results fn a.tmps).run P w = .ok v w∧RA g w (Zu xs) v:=by
 obtain⟨vs,Nz,hl,hxs⟩:=h.run hs;have hm:(fn.results.mapM (Ag9 a.tmps)).run P w = .ok vs.toArray w:=by rw[Br7,Sem.run_map,Nz];rfl
 refine⟨if h:vs.toArray.size=1 then vs.toArray[0]else .tuple vs.toArray,?_,?_⟩
 ·rw[Awy,Blo,hm];rfl
 ·cases vs with
  |nil =>
   cases xs with
   |nil=>exact .E2 [] #[] rfl (by simp)
   |cons _ _=>simp at hl
  |cons v0 vs =>
   cases xs with
   |nil=>simp at hl
   |cons x0 xs =>
    cases vs with
    |nil =>
     cases xs with
     |nil=>exact hxs 0 x0 v0 rfl rfl
     |cons _ _=>simp at hl
    |cons v1 vs =>
     cases xs with
     |nil=>simp at hl
     |cons x1 xs =>
      have:¬((v0::v1::vs).toArray.size=1):=by simp
      rw[dif_neg this];exact .E2 _ _ (by simpa using hl) (by intro i x v hx hv;exact hxs i x v hx (by simpa using hv))
def Bl.of(g:Gh)(w:World)(X:A7):Bl :=
 {n0:=w.heap.size,w0:=w,γ0:=g.γ,allowed:=fun b=>(∃k o,X.objs.lookup k=some o∧g.ρ k=b)∨∃n,g.β n=some (some b),Dc:=g.ρ }
def Lz(P:Program)(f:FuncId)(args:A2 AV)(X:A7)(res:AV)(X':A7):Prop :=
 ∀(g:Gh) (w:World) (vs:Array Value),HR (X.objs.map (·.1)) (Bl.of g w X) g w X→args.length=vs.size →
  (∀(i:Nat) x v,args[i]? = some x→vs[i]? = some v→RA g w x v) →
  Calls P f vs w fun e w'=>∃g' v,e = .returned v∧RA g' w' res v∧HR (X.objs.map (·.1)) (Bl.of g w X) g' w' X'
def X0:A7:=⟨[],[]⟩
def A16:Nat→A2 AV→A2 (Nat×AV)
 |_,[]=>[]
 |n,x::r=>(n,x)::A16 (n+1) r
theorem N4{l:A2 AV}:∀ {n t:Nat} {x:AV},(A16 n l).lookup t=some x→n≤t∧l[t-n]? = some x:=by
 induction l with
 |nil=>intro n t x h;simp[A16]at h
 |cons y r ih =>
  intro n t x h;simp only[A16,Blw]at h;split at h
  ·rename_i he;simp at he h;subst he;subst h;simp
  ·have ⟨h1,h2⟩:=ih h;refine⟨by omega,?_⟩;rw[show t-n=(t-(n+1))+1 by omega];simpa using h2
inductive Bfr(P:Program)(nm:List Nat)(fn:Func)(res:AV)(X':A7):Exit→St→Prop
 |ret (st:St) (xs:List AV):RVs P st fn.results.toList xs→Zu xs=res→Asy nm st ⟨[],X'⟩→Bfr P nm fn res X' .ret st
 |normal (st:St) (xs:List AV):RVs P st fn.results.toList xs→Zu xs=res→Asy nm st ⟨[],X'⟩→Bfr P nm fn res X' .normal st
theorem Xu.all(x:AV)(F:A2 Nat)(h:F=[]):Xu F x:=by subst h;exact .nil x
section
variable{P:Program}{o:Oper}{X:A7}
theorem H9{R:Operand×AV→Prop}{x:Operand×AV}{r:A2 (Operand×AV)}(h:∀p∈x::r,R p):R x:=h _ Bkz
theorem T9{R:Operand×AV→Prop}{x y:Operand×AV}{r:A2 (Operand×AV)}(h:∀p∈x::y::r,R p):R y:=h _ (Bkx _ Bkz)
theorem rd2{R:Operand×AV→Prop}{x y z:Operand×AV}{r:A2 (Operand×AV)}(h:∀p∈x::y::z::r,R p):R z:=h _ (Bkx _ (Bkx _ Bkz))
theorem Bp.quiet{rd:A2 (Operand×AV)}{res:AV}
  (h:∀(nm:A2 Nat) (B:Bl) (g:Gh) (w:World) (a:Act),HR nm B g w X→(∀p∈rd,RA g w p.2 (a.eval p.1)) →
   ∃v,(execOp a.eval o).run P w = .ok (.value v) w∧RA g w res v):Bp P o rd X X [] res:=by
 intro nm Ek B g w a hr Aq next Q hn
 obtain⟨v,hv,T8⟩:=h nm B g w a hr Aq;unfold Oper.wp;rw[hv];exact hn g w v hr (.refl _ _ _) T8
theorem RA.Al{g:Gh}{w:World}{u v:Value}(h:RA g w (.d (.sc u)) v):v=u:=by
 cases h with
 |d _ _ h=>cases h;rfl
theorem RA.Fh(g:Gh)(w:World)(v:Value):RA g w (.d (.sc v)) v:=.d _ _ (.sc v)
theorem Ba2{x:Operand}{v:AV}(ho:o.op = .move x):Bp P o [(x,v)] X X [] v :=
 .quiet fun _ _ _ w a _ Aq=>⟨a.eval x,by simp[execOp,ho],H9 Aq⟩
theorem B2k{x:Operand}{v:AV}(ho:o.op = .assign x):Bp P o [(x,v)] X X [] v :=
 .quiet fun _ _ _ w a _ Aq=>⟨a.eval x,by simp[execOp,ho],H9 Aq⟩
theorem Aoc{c x y:Operand}{u:AV}(ho:o.op = .pick c x y):Bp P o [(c,.d (.sc (.bool true))),(x,u)] X X [] u :=
 .quiet fun _ _ g w a _ Aq=>by
  have h1:=(H9 Aq).Al;have h2:=T9 Aq;exact⟨a.eval x,by simp[execOp,ho,h1,asBool],h2⟩
theorem Akj{c x y:Operand}{v:AV}(ho:o.op = .pick c x y):Bp P o [(c,.d (.sc (.bool false))),(y,v)] X X [] v :=
 .quiet fun _ _ g w a _ Aq=>by
  have h1:=(H9 Aq).Al;have h3:=T9 Aq;exact⟨a.eval y,by simp[execOp,ho,h1,asBool],h3⟩
def Aga:BinOp→IntKind→Int→Int→A3 Value
 |.add,k,a,b=>some (.int k (k.wrap (a+b)))
 |.sub,k,a,b=>some (.int k (k.wrap (a-b)))
 |.mul,k,a,b=>some (.int k (k.wrap (a*b)))
 |.eql,_,a,b=>some (.bool (a==b))
 |.neq,_,a,b=>some (.bool (a != b))
 |.lss,_,a,b=>some (.bool (decide (a<b)))
 |.leq,_,a,b=>some (.bool (decide (a≤b)))
 |.gtr,_,a,b=>some (.bool (decide (b<a)))
 |.geq,_,a,b=>some (.bool (decide (b≤a)))
 |.and,k,a,b=>some (.int k (bits .and k a b))
 |.or,k,a,b=>some (.int k (bits .or k a b))
 |.xor,k,a,b=>some (.int k (bits .xor k a b))
 |_,_,_,_=>none
theorem Awz{op:BinOp}{k:IntKind}{a b:Int}{v:Value}(h:Aga op k a b=some v)(t:TypeId)(x y:Operand)(w:World) :
  (do eqGuard op t x y (.int k a) (.int k b);binOp op t (.int k a) (.int k b):Sem Value).run P w = .ok v w:=by
 have hg:eqGuard op t x y (.int k a) (.int k b)=pure ():=by cases op<;>rfl
 rw[hg];cases op<;>simp[Aga]at h<;>subst h<;>simp[binOp,Op.intArith,Op.intCmp,intBits_and,intBits_or,intBits_xor]
theorem B5t{op:BinOp}{t t':TypeId}{x y:Operand}{k:IntKind}{a b:Int}{v:Value}(ho:o.op = .binOp op t x y t')(h:Aga op k a b=some v) :
  Bp P o [(x,.d (.sc (.int k a))),(y,.d (.sc (.int k b)))] X X [] (.d (.sc v)) :=
 .quiet fun _ _ g w ac _ Aq=>by
  have h1:=(H9 Aq).Al;have h2:=(T9 Aq).Al;simp only at h1 h2;refine⟨v,?_,.Fh _ _ _⟩;have:=Awz (P:=P) h t x y w;simp only[execOp,ho,h1,h2];rw[Blo,this];rfl
theorem Ax0{t t':TypeId}{x y:Operand}{a b:ByteArray}(ho:o.op = .binOp .add t x y t')(h:a.size+b.size≤4611686018427387904) :
  Bp P o [(x,.d (.sc (.string a))),(y,.d (.sc (.string b)))] X X [] (.d (.sc (.string (a++b)))) :=
 .quiet fun _ _ g w ac _ Aq=>by
  have h1:=(H9 Aq).Al;have h2:=(T9 Aq).Al;simp only at h1 h2;refine⟨_,?_,.Fh _ _ _⟩;have hg:eqGuard .add t x y (.string a) (.string b)=pure ():=rfl;have hb:¬(((a.size+b.size:Nat):Int)>i64.max):=by rw[IntKind.max_i64];omega
  simp only[execOp,ho,h1,h2,hg];simp only[binOp,Op.stringOp];rw[Blj hb];rfl
theorem Asz{t t':TypeId}{x y:Operand}{a b:Bool}(ho:o.op = .binOp .eql t x y t')(ht:P.underlying t=some .bool) :
  Bp P o [(x,.d (.sc (.bool a))),(y,.d (.sc (.bool b)))] X X [] (.d (.sc (.bool (a==b)))) :=
 .quiet fun _ _ g w ac _ Aq=>by
  have h1:=(H9 Aq).Al;have h2:=(T9 Aq).Al;simp only at h1 h2;refine⟨_,?_,.Fh _ _ _⟩;have hg:eqGuard .eql t x y (.bool a) (.bool b)=pure ():=rfl;simp only[execOp,ho,h1,h2,hg];simp[run_eql_bool w t a b ht]
theorem At0{t t':TypeId}{x y:Operand}{a b:Bool}(ho:o.op = .binOp .neq t x y t')(ht:P.underlying t=some .bool) :
  Bp P o [(x,.d (.sc (.bool a))),(y,.d (.sc (.bool b)))] X X [] (.d (.sc (.bool (!(a==b))))) :=
 .quiet fun _ _ g w ac _ Aq=>by
  have h1:=(H9 Aq).Al;have h2:=(T9 Aq).Al;simp only at h1 h2;refine⟨_,?_,.Fh _ _ _⟩;have hg:eqGuard .neq t x y (.bool a) (.bool b)=pure ():=rfl;simp only[execOp,ho,h1,h2,hg];simp[run_neq_bool w t a b ht]
theorem Bde{t:TypeId}{x:Operand}{b:Bool}(ho:o.op = .unOp .not t x):Bp P o [(x,.d (.sc (.bool b)))] X X [] (.d (.sc (.bool (!b)))) :=
 .quiet fun _ _ g w ac _ Aq=>by
  have h1:=(H9 Aq).Al;simp only at h1;exact⟨.bool (!b),by simp[execOp,ho,h1,Op.unary],.Fh _ _ _⟩
theorem Adw{s d:TypeId}{x:Operand}{j k:IntKind}{n:Int}(ho:o.op = .convert s d x)(hs:(P.underlying s).isSome=true)(hd:P.underlying d=some (.int k)) :
  Bp P o [(x,.d (.sc (.int j n)))] X X [] (.d (.sc (.int k (k.wrap n)))) :=
 .quiet fun _ _ g w ac _ Aq=>by
  have h1:=(H9 Aq).Al;simp only at h1;refine⟨_,?_,.Fh _ _ _⟩;obtain⟨ds,hds⟩:=Blm.1 hs;simp only[execOp,ho,h1,convert];simp only[Blo,Bl0 hds,Bl0 hd,Blk];cases ds<;>simp[Conv.intToInt]
theorem A91{ts:Array TypeId}{t:TypeId}{x:Operand}{sz:Nat}{es:A2 (A2 D)}{e:TypeId}(ho:o.op = .call { callee:=.builtin .len,args:=#[x],argTypes:=ts })
  (h0:ts[0]? = some t) (ht:P.underlying t=some (.slice e)):Bp P o [(x,.d (.sl sz es))] X X [] (.d (.sc (.int .i64 es.length))) :=
 .quiet fun _ _ g w ac _ Aq=>by
  have h1:=H9 Aq;simp only at h1;refine⟨.int .i64 es.length,?_,.Fh _ _ _⟩;simp only[execOp,ho,resolve];generalize hu:ac.eval x=u at h1;cases h1 with
  |d _ _ h1 =>
   cases h1 with
   |nil=>simp[hu,invoke,builtin,Builtin.len_,h0,Bl0 ht,goInt]
   |sl _ _ b off len cap hl=>subst hl;simp[hu,invoke,builtin,Builtin.len_,h0,Bl0 ht,goInt]
theorem Ax1{ts:Array TypeId}{t:TypeId}{x:Operand}{s:ByteArray}(ho:o.op = .call { callee:=.builtin .len,args:=#[x],argTypes:=ts })
  (h0:ts[0]? = some t) (ht:P.underlying t=some .string):Bp P o [(x,.d (.sc (.string s)))] X X [] (.d (.sc (.int .i64 s.size))) :=
 .quiet fun _ _ g w ac _ Aq=>by
  have h1:=(H9 Aq).Al;simp only at h1;refine⟨.int .i64 s.size,?_,.Fh _ _ _⟩;simp only[execOp,ho,resolve];simp[h1,invoke,builtin,Builtin.len_,h0,Bl0 ht,goInt]
theorem Bdf{ts:Array TypeId}{x y:Operand}{k:IntKind}{a b:Int}(ho:o.op = .call { callee:=.builtin .min,args:=#[x,y],argTypes:=ts }) :
  Bp P o [(x,.d (.sc (.int k a))),(y,.d (.sc (.int k b)))] X X [] (.d (.sc (.int k (if b<a then b else a)))) :=
 .quiet fun _ _ g w ac _ Aq=>by
  have h1:=(H9 Aq).Al;have h2:=(T9 Aq).Al;simp only at h1 h2;refine⟨_,?_,.Fh _ _ _⟩;simp only[execOp,ho,resolve];simp[h1,h2,invoke,builtin,Builtin.min_,Builtin.min2]
theorem Bdg{ts:Array TypeId}{x y:Operand}{k:IntKind}{a b:Int}(ho:o.op = .call { callee:=.builtin .max,args:=#[x,y],argTypes:=ts }) :
  Bp P o [(x,.d (.sc (.int k a))),(y,.d (.sc (.int k b)))] X X [] (.d (.sc (.int k (if b>a then b else a)))) :=
 .quiet fun _ _ g w ac _ Aq=>by
  have h1:=(H9 Aq).Al;have h2:=(T9 Aq).Al;simp only at h1 h2;refine⟨_,?_,.Fh _ _ _⟩;simp only[execOp,ho,resolve];have:=run_max_int2 (P:=P) w ts o.type k k a b;simp[h1,h2,invoke,builtin,this]
theorem Ax2{x:Operand}{i:Nat}{l:A2 AV}{v:AV}(ho:o.op = .extract x i)(h:l[i]? = some v):Bp P o [(x,.E2 l)] X X [] v :=
 .quiet fun _ _ g w ac _ Aq=>by
  have h1:=H9 Aq;simp only at h1;simp only[execOp,ho];generalize ac.eval x=u at h1;cases h1 with
  |E2 _ vs hl hx =>
   have Bs:i<vs.size:=by have:=(Bku.1 h).1;omega
   refine⟨vs[i],?_,hx i v _ h (by simp[Bs])⟩;simp[Instr.extract,Bs]
theorem Aod{t:TypeId}{x y:Operand}{s:ByteArray}{k:IntKind}{i:Int}(ho:o.op = .index t x y)(ht:P.underlying t=some .string)(h0:0≤i)(h1:i<s.size) :
  Bp P o [(x,.d (.sc (.string s))),(y,.d (.sc (.int k i)))] X X [] (.d (.sc (.int .u8 ((s.data.toList.getD i.toNat 0).toNat:Int)))) :=
 .quiet fun _ _ g w ac _ Aq=>by
  have e1:=(H9 Aq).Al;have e2:=(T9 Aq).Al;simp only at e1 e2;refine⟨_,?_,.Fh _ _ _⟩;have Bs:i.toNat<s.size:=by omega
  have hb:=ByteArray.getElem?_lt' s i.toNat Bs;have he:s[i.toNat]=s.data.toList.getD i.toNat 0:=by have Bi8:i.toNat<s.data.size:=Bs;rw[Bo4,Bml,Bli Bi8];rfl
  simp only[execOp,ho,e1,e2,Instr.index];simp[asIntOf,Bl0 ht,h0,hb,he]
theorem Aoe{t:TypeId}{x lo hi:Operand}{s:ByteArray}{k k':IntKind}{l h:Int}(ho:o.op = .slice t x (some lo) (some hi) none)(ht:P.underlying t=some .string)
  (h0:0≤l) (h1:l≤h) (h2:h≤s.size) :
  Bp P o [(x,.d (.sc (.string s))),(lo,.d (.sc (.int k l))),(hi,.d (.sc (.int k' h)))] X X [] (.d (.sc (.string (s.extract l.toNat h.toNat)))) :=
 .quiet fun _ _ g w ac _ Aq=>by
  have e1:=(H9 Aq).Al;have e2:=(T9 Aq).Al;have e3:=(rd2 Aq).Al;simp only at e1 e2 e3;refine⟨_,?_,.Fh _ _ _⟩;have g1:0≤h:=by omega
  simp only[execOp,ho,Blq,Boq,e1,e2,e3];simp[Bpq w t _ _ _ _ ht,Instr.slice,Bl0 ht,Instr.sliceBounds,Instr.sliceBound,asIntOf,h0,h2,g1];intro Bk0;omega
theorem Afa{t:TypeId}{x lo:Operand}{s:ByteArray}{k:IntKind}{l:Int}(ho:o.op = .slice t x (some lo) none none)(ht:P.underlying t=some .string)
  (h0:0≤l) (h1:l≤s.size) :
  Bp P o [(x,.d (.sc (.string s))),(lo,.d (.sc (.int k l)))] X X [] (.d (.sc (.string (s.extract l.toNat s.size)))) :=
 .quiet fun _ _ g w ac _ Aq=>by
  have e1:=(H9 Aq).Al;have e2:=(T9 Aq).Al;simp only at e1 e2;refine⟨_,?_,.Fh _ _ _⟩;simp only[execOp,ho,Blq,Boq,e1,e2];simp[Bpq w t _ _ _ _ ht,Instr.slice,Bl0 ht,Instr.sliceBounds,Instr.sliceBound,asIntOf,h0,h1]
theorem Afb{t:TypeId}{x hi:Operand}{s:ByteArray}{k:IntKind}{h:Int}(ho:o.op = .slice t x none (some hi) none)(ht:P.underlying t=some .string)
  (h0:0≤h) (h1:h≤s.size) :
  Bp P o [(x,.d (.sc (.string s))),(hi,.d (.sc (.int k h)))] X X [] (.d (.sc (.string (s.extract 0 h.toNat)))) :=
 .quiet fun _ _ g w ac _ Aq=>by
  have e1:=(H9 Aq).Al;have e2:=(T9 Aq).Al;simp only at e1 e2;refine⟨_,?_,.Fh _ _ _⟩;simp only[execOp,ho,Blq,Boq,e1,e2];simp[Bpq w t _ _ _ _ ht,Instr.slice,Bl0 ht,Instr.sliceBounds,Instr.sliceBound,asIntOf,h0,h1]
theorem Aof{t e:TypeId}{x y:Operand}{sz:Nat}{es:A2 (A2 D)}{cs:A2 D}{k:IntKind}{i:Int}{info:TypeInfo}(ho:o.op = .indexAddr t x y)
  (ht:P.underlying t=some (.slice e)) (hi:P.info? e=some info) (G9:info.size=sz) (h0:0≤i) (h1:es[i.toNat]? = some cs) :
  Bp P o [(x,.d (.sl sz es)),(y,.d (.sc (.int k i)))] X X [] (.d (.ep cs)) :=
 .quiet fun _ _ g w ac _ Aq=>by
  have e1:=H9 Aq;have e2:=(T9 Aq).Al;simp only at e1 e2;simp only[execOp,ho,e2];generalize ac.eval x=u at e1;cases e1 with
  |d _ _ e1 =>
   have Bs:=(Bku.1 h1).1;cases e1 with
   |nil=>simp at Bs
   |sl _ _ b off len cap hl hγ Sc hs hc =>
    subst hl;have hil:i<es.length:=by omega
    refine⟨.pointer (some ⟨b,off+i.toNat*sz,none⟩),?_,.d _ _ (.ep cs b _ ?_ ?_)⟩
    ·simp[Instr.indexAt,asIntOf,Bl0 ht,h0,hil,sizeOf,typeInfo,hi,G9,addr_add]
    ·rw[hs _ _ h1];have:(i.toNat+1)*sz≤es.length*sz:=Bmm sz Bs;rw[Bna]at this;omega
    ·intro j c v hj hv;exact hc i.toNat cs j c v h1 hj (by rw[Bo0]at hv⊢;exact hv)
theorem Adx{t:TypeId}{x:Operand}{sz:Nat}{cs:A2 D}(ho:o.op = .load t x)(ht:TyI P t true sz)(hl:sz≤cs.length)(B0h:True) :
  Bp P o [(x,.d (.ep cs))] X X [] (.d (.agg (cs.take sz))) :=
 .quiet fun _ _ g w ac hr Aq=>by
  have e1:=H9 Aq;simp only at e1;simp only[execOp,ho];generalize ac.eval x=u at e1;cases e1 with
  |d _ _ e1 =>
   cases e1 with
   |ep _ b off hγ hc =>
    have hex:∀i,i<sz→∃v,w.cell? ⟨b,off+i,none⟩=some v:=fun i hi=>Blm.1 (hr.Ik b (off+i) (by omega))
    let vs:Array Value:=(Array.range sz).map fun i=>(w.cell? ⟨b,off+i,none⟩).getD undef
    have Nz:∀(i:Nat) v,vs[i]? = some v→w.cell? ⟨b,off+i,none⟩=some v:=by
     intro i v hv;have hi:i<sz:=by have:=(Blf.1 hv).1;simpa[vs]using this
     obtain⟨u,hu⟩:=hex i hi;simp[vs,hi,hu]at hv;rw[hu,hv]
    have C2:=Lo ht w b off vs (by simp[vs]) Nz (by simp);refine⟨.agg vs,?_,.d _ _ (.agg _ vs (by simp[vs];omega) ?_)⟩
    ·simp only[Instr.loadAt,Instr.sureAddr];simp[C2]
    ·intro i c v hi hv;rw[Bm5]at hi;split at hi
     ·exact hc i c v hi (Nz i v hv)
     ·cases hi
theorem Ady{t:TypeId}{x:Operand}{c:D}{cs:A2 D}(ho:o.op = .load t x)(ht:TyI P t false 1) :
  Bp P o [(x,.d (.ep (c::cs)))] X X [] (.d c) :=
 .quiet fun _ _ g w ac hr Aq=>by
  have e1:=H9 Aq;simp only at e1;simp only[execOp,ho];generalize ac.eval x=u at e1;cases e1 with
  |d _ _ e1 =>
   cases e1 with
   |ep _ b off hγ hc =>
    simp at hγ;obtain⟨v,hv⟩:=Blm.1 (hr.Ik b off (by omega));have C2:=Lo ht w b off #[v] rfl (by
     intro i u hu;cases i with
     |zero=>simp at hu;subst hu;exact hv
     |succ i=>simp at hu) (fun _=>rfl)
    refine⟨v,?_,.d _ _ (hc 0 c v rfl hv)⟩;simp only[Instr.loadAt,Instr.sureAddr];simp[C2]
theorem Wu{t:TypeId}{x:Operand}{k off:Nat}{v:AV}(ho:o.op = .load t x)(hl:Am1 P X t k off v):Bp P o [(x,.ptr k off)] X X [] v :=
 .quiet fun _ _ g w ac hr Aq=>by
  have e1:=H9 Aq;simp only at e1;obtain⟨u,hu,T8⟩:=hl.run hr;refine⟨u,?_,T8⟩;simp only[execOp,ho];rw[e1.Is];simp only[Instr.loadAt,Instr.sureAddr];simp[hu]
theorem A1q{f:Field}{i:TypeInfo}(hi:P.info? f.type=some i)(h0:i.size≠0)(b off:Nat)(w:World) :
  (fieldPlace ⟨b,off,none⟩ f).run P w = .ok ⟨b,off+f.offset,none⟩ w:=by
 simp[fieldPlace,run_sizeOf hi,h0,addr_add]
structure Agb(P:Program)(s:TypeId)(n off sz:Nat)(agg:Bool):Prop where
 fld:∃fs f,P.underlying s=some (.struct fs)∧fs[n]? = some f∧f.offset=off∧TyI P f.type agg sz
 pos:sz≠0
theorem Yo{s:TypeId}{x:Operand}{n fo sz:Nat}{agg:Bool}{k off:Nat}(ho:o.op = .fieldAddr s x n)(hf:Agb P s n fo sz agg) :
  Bp P o [(x,.ptr k off)] X X [] (.ptr k (off+fo)) :=
 .quiet fun _ _ g w ac hr Aq=>by
  have e1:=H9 Aq;simp only at e1;obtain⟨fs,f,hs,hn,rfl,ht⟩:=hf.fld;obtain⟨i,hi,G9⟩:=ht.info;refine⟨.pointer (some ⟨g.ρ k,off+f.offset,none⟩),?_,.ptr k _⟩;simp only[execOp,ho];rw[e1.Is];simp[Instr.fieldAt,Bl0 hs,hn,Instr.sureAddr,A1q hi (by rw[G9];exact hf.pos)]
theorem Afc{s:TypeId}{x:Operand}{n fo sz:Nat}{agg:Bool}{cs:A2 D}(ho:o.op = .fieldAddr s x n)(hf:Agb P s n fo sz agg)(hl:fo≤cs.length) :
  Bp P o [(x,.d (.ep cs))] X X [] (.d (.ep (cs.drop fo))) :=
 .quiet fun _ _ g w ac hr Aq=>by
  have e1:=H9 Aq;simp only at e1;obtain⟨fs,f,hs,hn,rfl,ht⟩:=hf.fld;obtain⟨i,hi,G9⟩:=ht.info;simp only[execOp,ho];generalize ac.eval x=z at e1;cases e1 with
  |d _ _ e1 =>
   cases e1 with
   |ep _ b off hγ hc =>
    refine⟨.pointer (some ⟨b,off+f.offset,none⟩),?_,.d _ _ (.ep _ b _ ?_ ?_)⟩
    ·simp[Instr.fieldAt,Bl0 hs,hn,Instr.sureAddr,A1q hi (by rw[G9];exact hf.pos)]
    ·simp;omega
    ·intro j c v hj hv;rw[Bm9]at hj;exact hc _ c v hj (by rw[← Bo0];exact hv)
theorem Aog{s:TypeId}{x:Operand}{n fo:Nat}{cs:A2 D}{c:D}(ho:o.op = .field s x n)(hf:Agb P s n fo 1 false)(hc:cs[fo]? = some c) :
  Bp P o [(x,.d (.agg cs))] X X [] (.d c) :=
 .quiet fun _ _ g w ac hr Aq=>by
  have e1:=H9 Aq;simp only at e1;obtain⟨fs,f,hs,hn,rfl,ht⟩:=hf.fld;simp only[execOp,ho];generalize ac.eval x=z at e1;cases e1 with
  |d _ _ e1 =>
   cases e1 with
   |agg _ vs hl h =>
    have Bs:f.offset<vs.size:=by have:=(Bku.1 hc).1;omega
    refine⟨vs[f.offset],?_,.d _ _ (h _ c _ hc (by simp[Bs]))⟩;simp[Instr.field,Bl0 hs,hn,part,A44 ht,asAgg,Bs]
theorem Aoh{s:TypeId}{x:Operand}{n fo sz:Nat}{cs:A2 D}(ho:o.op = .field s x n)(hf:Agb P s n fo sz true)(hl:fo+sz≤cs.length) :
  Bp P o [(x,.d (.agg cs))] X X [] (.d (.agg ((cs.drop fo).take sz))) :=
 .quiet fun _ _ g w ac hr Aq=>by
  have e1:=H9 Aq;simp only at e1;obtain⟨fs,f,hs,hn,rfl,ht⟩:=hf.fld;simp only[execOp,ho];generalize ac.eval x=z at e1;cases e1 with
  |d _ _ e1 =>
   cases e1 with
   |agg _ vs hlen h =>
    refine⟨.agg (vs.extract f.offset (f.offset+sz)),?_,.d _ _ (.agg _ _ (by simp;omega) ?_)⟩
    ·simp[Instr.field,Bl0 hs,hn,part,A44 ht,asAgg,ht.Yn]
    ·intro i c v hi hv;rw[Boo]at hv;split at hv
     ·rw[Bm5]at hi;split at hi
      ·rw[Bm9]at hi;exact h _ c v hi hv
      ·cases hi
     ·cases hv
theorem Afd{x:Operand}{k off:Nat}(ho:o.op = .nilCheck x):Bp P o [(x,.ptr k off)] X X [] (.ptr k off) :=
 .quiet fun _ _ g w ac hr Aq=>by
  have e1:=H9 Aq;simp only at e1;simp only[execOp,ho];rw[e1.Is];exact⟨_,rfl,.ptr k off⟩
end
def Nj{α:Type}(f:Nat→α)(k:Nat)(x:α):Nat→α:=fun j=>if j=k then x else f j
theorem Aa{α:Type}(f:Nat→α)(k:Nat)(x:α):Nj f k x k=x:=by simp[Nj]
theorem Ae{α:Type}(f:Nat→α){k j:Nat}(x:α)(h:j≠k):Nj f k x j=f j:=by simp[Nj,h]
theorem O2(w:World)(o:Obj){b:Nat}(h:b<w.heap.size):(w.alloc o).heap[b]? = w.heap[b]?:=heap_alloc_old w o (h:=h)
theorem γ_lt{nm:A2 Nat}{B:Bl}{g:Gh}{w:World}{X:A7}(h:HR nm B g w X){b:Nat}(hb:0<g.γ b):b<w.heap.size:=by obtain⟨v,hv⟩:=Blm.1 (h.Ik b 0 hb);exact block_lt_of_cell hv
theorem γ_top{nm:A2 Nat}{B:Bl}{g:Gh}{w:World}{X:A7}(h:HR nm B g w X){b:Nat}(hb:w.heap.size≤b):g.γ b=0:=by
 rcases Bmu (g.γ b)with h0|h0
 ·exact h0
 ·have:=γ_lt h h0;omega
theorem Ey{g:Gh}{w:World}{b:Nat}{o:Ob}(h:C3 g w b o):b<w.heap.size:=by
 cases h with
 |cells cs ty arr T hb=>exact(Blf.1 hb).1
 |map l clock es hb=>exact(Blf.1 hb).1
 |Oy s pos hb=>exact(Blf.1 hb).1
 |Jg j since seen last hb=>exact(Blf.1 hb).1
 |Dt hb=>exact(Blf.1 hb).1
 |Ck L sz l clock es hb=>exact(Blf.1 hb).1
def F9(F:A2 Nat):Ob→Bool
 |.cells cs _=>Bz F cs
 |.map _ _=>true
 |.Oy _ _=>true
 |.Jg k _ _ _=>!F.contains k
 |.Dt=>true
 |.Ck L _ _ _=>!F.contains L
def B7(F:A2 Nat)(X:A7):Bool:=F.isEmpty||X.objs.all fun p=>F9 F p.2
theorem C3.Dc{F:A2 Nat}{g g':Gh}{w w':World}{b:Nat}{o:Ob}(h:C3 g w b o)(ht:Trans F g w g' w')(hw:w'.heap[b]? = w.heap[b]?)(hF:F=[]∨F9 F o=true):C3 g' w' b o:=by
 cases h with
 |cells cs ty arr T hb hl hc h4 =>
  refine .cells cs ty arr T (hw.trans hb) hl (fun i x v hx hv=>(hc i x v hx hv).mono ht ?_) h4;rcases hF with rfl|hF
  ·exact .nil x
  ·exact Ot (M1 hF hx)
 |map l clock es hb hl hc h4 h5 =>exact .map l clock es (hw.trans hb) hl (fun i x e hx he=>⟨(hc i x e hx he).1,(hc i x e hx he).2.1,(hc i x e hx he).2.2.mono ht.le⟩) h4 h5
 |Oy s pos hb=>exact .Oy s pos (hw.trans hb)
 |Jg j since seen last hb =>
  refine .Jg j since seen last (hw.trans (hb.trans ?_));rw[ht.names j];rcases hF with rfl|hF
  ·simp
  ·simpa[F9]using hF
 |Dt hb=>exact .Dt (hw.trans hb)
 |Ck L sz l clock es hb hl hc h4 h5 =>
  refine .Ck L sz l clock es (hw.trans hb) hl (fun i x e hx he=>⟨(hc i x e hx he).1,(hc i x e hx he).2.1,(hc i x e hx he).2.2.1.mono ht.le,fun hf hL=>?_⟩) h4 h5;have hn:L∉F:=by
   rcases hF with rfl|hF
   ·simp
   ·simpa[F9]using hF
  obtain⟨ob,Gg⟩:=Blm.1 hL;exact((hc i x e hx he).2.2.2 hf (by rw[(ht.Aob L ob hn Gg).1];rfl)).Dc ht hn hL
theorem Hh{F:A2 Nat}{X:A7}(h:B7 F X=true){k:Nat}{o:Ob}(hk:X.objs.lookup k=some o):F=[]∨F9 F o=true:=by
 unfold B7 at h;rw[Bms]at h;rcases h with h|h
 ·exact .inl (by simpa using h)
 ·exact .inr (Bly.1 h _ (Di hk))
theorem HR.grow{nm:A2 Nat}{B:Bl}{g:Gh}{w w':World}{X:A7}(h:HR nm B g w X)(hs:w.heap.size≤w'.heap.size)(hold:∀b,b<w.heap.size→w'.heap[b]? = w.heap[b]?)(hio:w'.os=w.os∧w'.output=w.output∧w'.tape=w.tape∧w.drawn≤w'.drawn) :
  HR nm B g w' X∧Trans [] g w g w':=by
 have Jv:∀b i,i<g.γ b→w'.cell? ⟨b,i,none⟩=w.cell? ⟨b,i,none⟩:=fun b i hi=>O0 (hold b (γ_lt h (by omega))) i none
 have Oz:∀b s,w.shape? b=some s→w'.shape? b=some s:=by
  intro b s H4;have hb:b<w.heap.size:=by
   rcases Bng b w.heap.size with h1|h1
   ·exact h1
   ·simp[World.shape?,Bnv h1]at H4
  rw[M3 (hold b hb)];exact H4
 have ht:Trans [] g w g w':=⟨⟨fun _=>Bl1 _,Jv,Oz⟩,fun _ _=>rfl,fun n ob _ he=>⟨he,fun b hb=>⟨rfl,hold b (h.Cd n b (hb▸he))⟩⟩,fun L _ hL=>⟨rfl,fun i b hb=>⟨rfl,hold b (h.eta.lt L i b hL hb)⟩⟩⟩;refine⟨⟨h.Dc,?_,Bmh h.base hs,⟨hio.1.trans h.io.1,hio.2.1.trans h.io.2.1,hio.2.2.1.trans h.io.2.2.1,Bmh h.io.2.2.2 hio.2.2.2⟩,h.le.trans ht.le,?_,?_,h.Fx,h.C0,h.Ce,h.live,h.C4,h.Bo,h.Ca,?_,h.eta.same hs fun k o hk=>⟨o,hk⟩⟩,ht⟩
 ·intro b i hi;rw[Jv b i hi];exact h.Ik b i hi
 ·intro b hb hna;have:=h.frame b hb hna;exact⟨(hold b (Bmn hb h.base)).trans this.1,this.2⟩
 ·intro k o hk;have:=h.objs k o hk;exact this.Dc ht (hold _ (Ey this)) (.inl rfl)
 ·intro n b hn;exact Bmn (h.Cd n b hn) hs
theorem HR.drew{nm:A2 Nat}{B:Bl}{g:Gh}{w:World}{X:A7}(h:HR nm B g w X):HR nm B g w.drew X∧Trans [] g w g w.drew :=
 h.grow (Bl1 _) (fun _ _=>rfl) ⟨rfl,rfl,rfl,Nat.le_succ _⟩
theorem HR.newObj{nm:A2 Nat}{B:Bl}{g:Gh}{w:World}{X:A7}(h:HR nm B g w X){k:Nat}(hk:X.objs.lookup k=none)(hX:B7 [k] X=true)
  (ob:Obj) (o:Ob) (ho:∀g' w',Trans [k] g w g' w'→w'.heap[w.heap.size]? = some ob→C3 g' w' w.heap.size o) :
  HR nm B { g with ρ:=Nj g.ρ k w.heap.size } (w.alloc ob) ⟨(k,o)::X.objs,X.live⟩∧Trans [k] g w { g with ρ:=Nj g.ρ k w.heap.size } (w.alloc ob):=by
 have h1:=h.grow (w':=w.alloc ob) (by simp) (fun b hb=>O2 w ob hb) ⟨rfl,rfl,rfl,Bl1 _⟩;have Jv:=h1.2.le;have ht:Trans [k] g w { g with ρ:=Nj g.ρ k w.heap.size } (w.alloc ob) :=
  ⟨Jv,fun j hj=>Ae _ _ (by simpa using hj),fun n ob' _ he=>⟨he,fun b hb=>⟨rfl,O2 w ob (h.Cd n b (hb▸he))⟩⟩,fun L _ hL=>⟨rfl,fun i b hb=>⟨rfl,O2 w ob (h.eta.lt L i b hL hb)⟩⟩⟩
 have Kz:∀j o',List.lookup j ((k,o)::X.objs)=some o'→(j=k∧o'=o)∨(j≠k∧X.objs.lookup j=some o'):=by
  intro j o' hj;rw[Blw]at hj;by_cases he:j=k
  ·subst he;simp at hj;exact .inl ⟨rfl,hj.symm⟩
  ·have:(j==k)=false:=by simpa using he
   rw[this]at hj;exact .inr ⟨he,hj⟩
 have Bs:∀j o',X.objs.lookup j=some o'→g.ρ j<w.heap.size:=fun j o' hj=>Ey (h.objs j o' hj)
 refine⟨⟨?_,h1.1.Ik,h1.1.base,h1.1.io,h1.1.le,h1.1.frame,?_,?_,?_,?_,h.live,h.C4,?_,h.Ca,h1.1.Cd,h.eta.step (fun L hL=>.inl ⟨hL,rfl⟩) (by simp) (fun n b hb=>.inl ⟨n,hb⟩) fun j o' hj=>?_⟩,ht⟩
 rotate_right
 ·rcases Kz j o' hj with ⟨rfl,rfl⟩|⟨hne,hj⟩
  ·simp only[Aa];exact .inr (.inl (Bl1 _))
  ·simp only[Ae _ _ hne];exact .inl ⟨j,o',hj,rfl⟩
 ·intro j hj;obtain⟨h2,h3⟩:=h.Dc j hj;have hne:j≠k:=by rintro rfl;rw[hk]at h3;simp at h3
  refine⟨by simp only[Ae _ _ hne];exact h2,?_⟩;simp only[Blw];have:(j==k)=false:=by simpa using hne
  rw[this];exact h3
 ·intro j o' hj;rcases Kz j o' hj with ⟨rfl,rfl⟩|⟨hne,hj⟩
  ·simp only[Aa];exact ho _ _ ht (Bni w ob)
  ·simp only[Ae _ _ hne];exact(h.objs j o' hj).Dc ht (O2 w ob (Bs j o' hj)) (Hh hX hj)
 ·intro j o' hj;rcases Kz j o' hj with ⟨rfl,rfl⟩|⟨hne,hj⟩
  ·simp only[Aa];exact γ_top h (Bl1 _)
  ·simp only[Ae _ _ hne];exact h.Fx j o' hj
 ·intro j j' o1 o2 hj Gf he;have c1:=Kz j o1 hj;have c2:=Kz j' o2 Gf;clear hj Gf;rcases c1 with ⟨e1,_⟩|⟨hne,hj⟩<;>rcases c2 with ⟨e2,_⟩|⟨Ta,Gf⟩
  ·rw[e1,e2]
  ·rw[e1]at he;simp only[Aa,Ae _ _ Ta]at he;have:=Bs j' o2 Gf;omega
  ·rw[e2]at he;simp only[Aa,Ae _ _ hne]at he;have:=Bs j o1 hj;omega
  ·simp only[Ae _ _ hne,Ae _ _ Ta]at he;exact h.C0 j j' o1 o2 hj Gf he
 ·intro j o' hj;rcases Kz j o' hj with ⟨rfl,rfl⟩|⟨hne,hj⟩
  ·simp only[Aa];exact .inl h.base
  ·simp only[Ae _ _ hne];exact h.Ce j o' hj
 ·intro n b j o' hn hj;rcases Kz j o' hj with ⟨rfl,rfl⟩|⟨hne,hj⟩
  ·simp only[Aa];have:=h.Cd n b hn;omega
  ·simp only[Ae _ _ hne];exact h.Bo n b j o' hn hj
theorem HR.newRow{nm:A2 Nat}{B:Bl}{g:Gh}{w:World}{X:A7}(h:HR nm B g w X)(arr:Array Value)(T:TypeId)(n:Nat)(hn:n≤arr.size) :
  HR nm B { g with γ:=Nj g.γ w.heap.size n } (w.alloc (.cells arr T)) X∧Trans [] g w { g with γ:=Nj g.γ w.heap.size n } (w.alloc (.cells arr T)):=by
 have h1:=h.grow (w':=w.alloc (.cells arr T)) (by simp) (fun b hb=>O2 w _ hb) ⟨rfl,rfl,rfl,Bl1 _⟩;have hup:∀b,g.γ b≤Nj g.γ w.heap.size n b:=by
  intro b;by_cases hb:b=w.heap.size
  ·subst hb;rw[Aa,γ_top h (Bl1 _)];omega
  ·rw[Ae _ _ hb];exact Bl1 _
 have hne:∀b,b<w.heap.size→Nj g.γ w.heap.size n b=g.γ b:=fun b hb=>Ae _ _ (by omega)
 have ht:Trans [] g w { g with γ:=Nj g.γ w.heap.size n } (w.alloc (.cells arr T)) :=
  ⟨⟨hup,h1.2.le.cell,h1.2.le.shape⟩,fun _ _=>rfl,fun m ob _ he=>⟨he,fun b hb=>⟨hne b (h.Cd m b (hb▸he)),O2 w _ (h.Cd m b (hb▸he))⟩⟩,fun L _ hL=>⟨rfl,fun i b hb=>⟨hne b (h.eta.lt L i b hL hb),O2 w _ (h.eta.lt L i b hL hb)⟩⟩⟩
 refine⟨⟨h.Dc,?_,h1.1.base,h1.1.io,⟨fun b=>Bmh (h1.1.le.up b) (hup b),h1.1.le.cell,h1.1.le.shape⟩,?_,?_,?_,h.C0,h.Ce,h.live,h.C4,h.Bo,h.Ca,h1.1.Cd,h.eta.step (fun L hL=>.inl ⟨hL,rfl⟩) (by simp) (fun n b hb=>.inl ⟨n,hb⟩) fun k o hk=>.inl ⟨k,o,hk,rfl⟩⟩,ht⟩
 ·intro b i hi;by_cases hb:b=w.heap.size
  ·subst hb;simp only[Aa]at hi;rw[Bg (Bni w (.cells arr T))];simp;omega
  ·simp only[Ae _ _ hb]at hi;exact h1.1.Ik b i hi
 ·intro b hb hna;have:=h1.1.frame b hb hna;exact⟨this.1,by rw[← this.2];exact hne b (Bmn hb h.base)⟩
 ·intro k o hk;have:=h.objs k o hk;exact this.Dc ht (O2 w _ (Ey this)) (.inl rfl)
 ·intro k o hk;simp only[hne _ (Ey (h.objs k o hk))];exact h.Fx k o hk
def A5j:AV→Bool
 |.d (.sc (.agg _))=>false
 |_=>true
theorem L3{v:Value}(h:∀cs,v≠.agg cs):v.cells=#[v]:=by cases v<;>first|rfl|exact absurd rfl (h _)
section
variable{P:Program}{o:Oper}{X:A7}
theorem B5u{t:TypeId}{i:TypeInfo}{z:Value}{cs:A2 AV}(k:Nat)(ho:o.op = .alloc t)(hi:P.info? t=some i)(hz:i.zero=some z)
  (Q2:∀g w,RA g w (.agg cs) (.agg z.cells)) (hk:X.objs.lookup k=none) (hX:B7 [k] X=true) :
  Bp P o [] X ⟨(k,.cells cs (some t))::X.objs,X.live⟩ [k] (.ptr k 0):=by
 intro nm Ek B g w a hr _ next Q hn
 obtain⟨h1,h2⟩:=hr.newObj hk hX (.cells z.cells t) (.cells cs (some t)) (by
  intro g' w' _ hw;have:=Q2 g' w';cases this with
  |agg _ _ hl hc=>exact .cells cs _ z.cells t hw (Bry hl) hc (fun _ e=>(Bor e).symm))
 unfold Oper.wp;have:(execOp a.eval o).run P w = .ok (.value (.pointer (some ⟨w.heap.size,0,none⟩))) (w.alloc (.cells z.cells t)):=by simp only[execOp,ho];simp[Instr.alloc,zeroValue,typeInfo,hi,hz,newVar,Go.newRow]
 rw[this];refine hn _ _ _ h1 h2 ?_;have:=RA.ptr (g:={ g with ρ:=Nj g.ρ k w.heap.size }) (w:=w.alloc (.cells z.cells t)) k 0;simpa[Aa]using this
theorem Bdh{t:TypeId}{x:Operand}{v:AV}(k:Nat)(ho:o.op = .box t x)(hk:X.objs.lookup k=none)(hX:B7 [k] X=true)(hv:Bz [k] v.cells=true)(hs:A5j v=true) :
  Bp P o [(x,v)] X ⟨(k,.cells v.cells (some t))::X.objs,X.live⟩ [k] (.ptr k 0):=by
 intro nm Ek B g w a hr Aq next Q hn
 have e1:=H9 Aq;simp only at e1;obtain⟨h1,h2⟩:=hr.newObj hk hX (.cells (a.eval x).cells t) (.cells v.cells (some t)) (by
  intro g' w' ht hw;generalize a.eval x=u at e1 hw;have B5v:∀(cs:A2 AV) (vs:Array Value),v.cells=cs→u.cells=vs→cs.length=vs.size→(∀(i:Nat) x v,cs[i]? = some x→vs[i]? = some v→RA g w x v) →
    C3 g' w' w.heap.size (.cells v.cells (some t)):=by
   intro cs vs h1 h2 hl hc;rw[h1]at hv⊢;rw[h2]at hw;exact .cells cs _ vs t hw (Bry hl) (fun i x y hx hy=>(hc i x y hx hy).mono ht (Ot (M1 hv hx))) (fun _ e=>(Bor e).symm)
  have Iu:v.cells=[v]→u.cells=#[u]→C3 g' w' w.heap.size (.cells v.cells (some t)):=by
   intro h1 h2;refine B5v _ _ h1 h2 rfl ?_;intro i x y hx hy;cases i with
   |zero=>simp at hx hy;subst hx;subst hy;exact e1
   |succ i=>simp at hx
  cases e1 with
  |d y u h =>
   cases h with
   |agg cs vs hl hc =>refine B5v (cs.map .d) vs rfl rfl (by simpa using hl) ?_;intro i x y hx hy;rw[Bkt,Bky]at hx;obtain⟨c,hc',rfl⟩:=hx;exact .d _ _ (hc i c y hc' hy)
   |sc u =>exact Iu rfl (L3 fun cs he=>by subst he;simp[A5j]at hs)
   |nil sz=>exact Iu rfl rfl
   |sl sz es b off len cap=>exact Iu rfl rfl
   |ep cs b off=>exact Iu rfl rfl
   |any q u h1 h2=>exact Iu rfl (L3 fun cs he=>by subst he;cases h2)
  |nm k p u h=>exact Iu rfl (by cases p<;>(first|obtain⟨cap,_,_,rfl,_⟩:=h|cases h)<;>first|rfl|(rename_i b _;cases b<;>rfl))
  |Bu n sz es ty u h h' =>
   cases h with
   |nil=>exact Iu rfl rfl
   |sl=>exact Iu rfl rfl
  |Uo n e cs u h h'=>cases h with|ep=>exact Iu rfl rfl
  |E2 l vs hl hc=>exact Iu rfl rfl
  |agg l vs hl hc=>exact B5v l vs rfl rfl hl hc
  |Ff f l vs hl hc=>exact Iu rfl rfl)
 unfold Oper.wp;have:(execOp a.eval o).run P w = .ok (.value (.pointer (some ⟨w.heap.size,0,none⟩))) (w.alloc (.cells (a.eval x).cells t)):=by simp only[execOp,ho];simp[Instr.box,newVar,Go.newRow]
 rw[this];refine hn _ _ _ h1 h2 ?_;have:=RA.ptr (g:={ g with ρ:=Nj g.ρ k w.heap.size }) (w:=w.alloc (.cells (a.eval x).cells t)) k 0;simpa[Aa]using this
end
def setObj(k:Nat)(o:Ob):A2 (Nat×Ob)→A2 (Nat×Ob)
 |[]=>[(k,o)]
 |(j,p)::r=>if j=k then (k,o)::r else (j,p)::setObj k o r
theorem B3(k:Nat)(o:Ob)(l:A2 (Nat×Ob))(j:Nat):(setObj k o l).lookup j=if j=k then some o else l.lookup j:=by
 induction l with
 |nil =>
  simp only[setObj,Blw,List.lookup_nil];by_cases h:j=k
  ·simp[h]
  ·have:(j==k)=false:=by simpa using h
   simp[h,this]
 |cons p r ih =>
  obtain⟨i,p⟩:=p;simp only[setObj];by_cases hik:i=k
  ·subst hik;simp only[Bn5,Blw];by_cases h:j=i
   ·simp[h]
   ·have:(j==i)=false:=by simpa using h
    simp[h,this]
  ·simp only[hik,Bn2,Blw];by_cases h:j=i
   ·subst h;simp[hik]
   ·have:(j==i)=false:=by simpa using h
    simp only[this];exact ih
theorem HR.write{nm:A2 Nat}{B:Bl}{g:Gh}{w w':World}{X:A7}(h:HR nm B g w X){k:Nat}{o o':Ob}(hk:X.objs.lookup k=some o)
  (hs:w'.heap.size=w.heap.size) (hio:w'.os=w.os∧w'.output=w.output∧w'.tape=w.tape∧w.drawn≤w'.drawn) (Rh:∀b,b≠g.ρ k→w'.heap[b]? = w.heap[b]?) (A1r:∀(_:Trans [] g w g w'),C3 g w' (g.ρ k) o') (Bdi:∀s,w.shape? (g.ρ k)=some s→w'.shape? (g.ρ k)=some s) :
  HR nm B g w' ⟨setObj k o' X.objs,X.live⟩∧Trans [] g w g w':=by
 have h0:=h.Fx k o hk;have Bk1:B.γ0 (g.ρ k)=0:=by have:=h.le.up (g.ρ k);omega
 have Jv:∀b i,i<g.γ b→w'.cell? ⟨b,i,none⟩=w.cell? ⟨b,i,none⟩:=by intro b i hi;refine O0 (Rh b ?_) i none;rintro rfl;omega
 have Oz:∀b s,w.shape? b=some s→w'.shape? b=some s:=by
  intro b s H4;by_cases he:b=g.ρ k
  ·subst he;exact Bdi s H4
  ·rw[M3 (Rh b he)];exact H4
 have ht:Trans [] g w g w':=⟨⟨fun _=>Bl1 _,Jv,Oz⟩,fun _ _=>rfl,fun n ob _ he=>⟨he,fun b hb=>⟨rfl,Rh b (h.Bo n b k o (hb▸he) hk)⟩⟩,fun L _ hL=>⟨rfl,fun i b hb=>⟨rfl,Rh b (h.eta.obj L i b k o hL hb hk)⟩⟩⟩;have Kz:∀j p,(setObj k o' X.objs).lookup j=some p→(j=k∧p=o')∨(j≠k∧X.objs.lookup j=some p):=by
  intro j p hj;rw[B3]at hj;split at hj
  ·rename_i he;simp at hj;exact .inl ⟨he,hj.symm⟩
  ·rename_i he;exact .inr ⟨he,hj⟩
 have M5:∀j p,(setObj k o' X.objs).lookup j=some p→∃q,X.objs.lookup j=some q:=by
  intro j p hj;rcases Kz j p hj with ⟨rfl,_⟩|⟨_,hj⟩
  ·exact⟨o,hk⟩
  ·exact⟨p,hj⟩
 refine⟨⟨?_,?_,by rw[hs];exact h.base,⟨hio.1.trans h.io.1,hio.2.1.trans h.io.2.1,hio.2.2.1.trans h.io.2.2.1,Bmh h.io.2.2.2 hio.2.2.2⟩,⟨h.le.up,?_,fun b s hs=>Oz b s (h.le.shape b s hs)⟩,?_,?_,?_,?_,?_,h.live,h.C4,?_,h.Ca,?_,h.eta.same (by rw[hs];exact Bl1 _) fun j p hj=>M5 j p hj⟩,ht⟩
 ·intro j hj;obtain⟨h1,h2⟩:=h.Dc j hj;refine⟨h1,?_⟩;simp only[B3];split
  ·rfl
  ·exact h2
 ·intro b i hi;rw[Jv b i hi];exact h.Ik b i hi
 ·intro b i hi;rw[Jv b i (Bmn hi (h.le.up b))];exact h.le.cell b i hi
 ·intro b hb hna;have h1:=h.frame b hb hna;refine⟨(Rh b ?_).trans h1.1,h1.2⟩;rintro rfl;rcases h.Ce k o hk with h2|h2
  ·omega
  ·exact hna h2
 ·intro j p hj;rcases Kz j p hj with ⟨rfl,rfl⟩|⟨hne,hj⟩
  ·exact A1r ht
  ·refine(h.objs j p hj).Dc ht (Rh _ ?_) (.inl rfl);intro he;exact hne (h.C0 j k p o hj hk he)
 ·intro j p hj;obtain⟨q,hq⟩:=M5 j p hj;exact h.Fx j q hq
 ·intro j j' p p' hj Gf he;obtain⟨q,hq⟩:=M5 j p hj;obtain⟨q',hq'⟩:=M5 j' p' Gf;exact h.C0 j j' q q' hq hq' he
 ·intro j p hj;obtain⟨q,hq⟩:=M5 j p hj;exact h.Ce j q hq
 ·intro n b j p hn hj;obtain⟨q,hq⟩:=M5 j p hj;exact h.Bo n b j q hn hq
 ·intro n b hn;rw[hs];exact h.Cd n b hn
def At1:AV→Bool
 |.d (.sc u)=>u.oneCell'
 |.d (.agg _)=>false
 |.E2 _=>false
 |.agg _=>false
 |_=>true
theorem B5w{g:Gh}{w:World}{x:AV}{v:Value}(h:RA g w x v)(ho:At1 x=true):v.oneCell'=true:=by
 cases h with
 |d y v h =>
  cases h with
  |sc v=>exact ho
  |agg=>simp[At1]at ho
  |nil=>rfl
  |sl=>rfl
  |ep=>rfl
  |any q v h1 h2=>exact h2
 |nm k p v h=>cases p<;>(first|obtain⟨cap,_,_,rfl,_⟩:=h|cases h)<;>first|rfl|(rename_i b _;cases b<;>rfl)
 |Bu n sz es ty v h _=>cases h<;>rfl
 |Uo n e cs v h _=>cases h;rfl
 |E2=>simp[At1]at ho
 |agg=>simp[At1]at ho
 |Ff=>rfl
theorem A1s{P:Program}{b off:Nat}{T:TypeId}:∀(vs:A2 Value) (i:Nat) (w:World) (arr:Array Value),w.heap[b]? = some (.cells arr T (0,0)) →
  (∀v∈vs,v.oneCell'=true)→off+i+vs.length≤arr.size →
  ∃w' Ch,(storeCells ⟨b,off,none⟩ vs i).run P w = .ok () w'∧w'.heap[b]? = some (.cells Ch T (0,0))∧Ch.size=arr.size ∧
   (∀j,Ch[j]? = if off+i≤j∧j<off+i+vs.length then vs[j-(off+i)]? else arr[j]?)∧w'.heap.size=w.heap.size∧(∀b',b'≠b→w'.heap[b']? = w.heap[b']?)∧(w'.os=w.os∧w'.output=w.output∧w'.tape=w.tape∧w.drawn≤w'.drawn)
 |[],i,w,arr,hb,_,_=>⟨w,arr,rfl,hb,rfl,fun j=>by rw[Blj (by simp only[Bns];omega)],rfl,fun _ _=>rfl,rfl,rfl,rfl,Bl1 _⟩
 |v::vs,i,w,arr,hb,h1,hl=>by
  simp only[Blg]at hl;have Bs:off+i<arr.size:=by omega
  have hv:v.oneCell'=true:=h1 v Bkz;have Jv:w.cell? ⟨b,off+i,none⟩=some arr[off+i]:=by rw[Bg hb];simp[Bs]
  have hfr:w.frozen? ⟨b,off+i,none⟩=false:=frozen_of_row w b (off+i) arr T hb;have Xv:(w.setCell ⟨b,off+i,none⟩ v).heap[b]? = some (.cells (arr.setIfInBounds (off+i) v) T (0,0)):=heap_setCell_same w b (off+i) arr T v hb;have hst:(store (⟨b,off+i,none⟩:Addr) v).run P w = .ok () (w.setCell ⟨b,off+i,none⟩ v):=by rw[run_store P w _ v _ hv,Jv,hfr];rfl
  obtain⟨w',Ch,hr,G0,H4,hp',hz',ho',Lp⟩:=A1s (P:=P) (b:=b) (off:=off) (T:=T) vs (i+1) (w.setCell ⟨b,off+i,none⟩ v) _ Xv
   (fun u hu=>h1 u (Bkx _ hu)) (by simp;omega)
  refine⟨w',Ch,?_,G0,by rw[H4];simp,?_,by rw[hz'];simp,fun b' hne=>by rw[ho' b' hne];exact heap_setCell_other w _ b' v hne,Lp⟩
  ·simp only[storeCells];rw[addr_add,Blo,hst,Blk];exact hr
  ·intro j;rw[hp' j];by_cases h1:j=off+i
   ·subst h1;rw[Blj (by omega),Blv (by simp only[Blg];omega)];simp[Bs]
   ·by_cases h2:off+(i+1)≤j∧j<off+(i+1)+vs.length
    ·rw[Blv h2,Blv (by simp only[Blg];omega)];rw[show j-(off+i)=(j-(off+(i+1)))+1 by omega];rfl
    ·rw[Blj h2,Blj (by simp only[Blg];omega)];simp[Bnf h1]
def V1(cs:A2 AV)(off:Nat)(vs:A2 AV):A2 AV:=cs.take off++vs++cs.drop (off+vs.length)
theorem Xw{cs:A2 AV}{off:Nat}{vs:A2 AV}(h:off+vs.length≤cs.length):(V1 cs off vs).length=cs.length:=by simp[V1];omega
theorem Agc{cs:A2 AV}{off:Nat}{vs:A2 AV}(h:off+vs.length≤cs.length)(i:Nat) :
  (V1 cs off vs)[i]? = if off≤i∧i<off+vs.length then vs[i-off]? else cs[i]?:=by
 have hl:(cs.take off).length=off:=by simp;omega
 unfold V1;by_cases h1:i<off
 ·rw[Blj (by omega),Bnx,Bnl (by omega),Bm5,Blv h1]
 ·by_cases h2:i<off+vs.length
  ·rw[Blv (by omega),Bnx,Bnj (by omega),hl,Bnl (by omega)]
  ·rw[Blj (by omega),Bnj (by simp;omega)];rw[Bm9];congr 1;simp;omega
theorem RA.cells{g:Gh}{w:World}{x:AV}{v:Value}(h:RA g w x v)(hs:A5j x=true) :
  x.cells.length=v.cells.size∧∀(i:Nat) y u,x.cells[i]? = some y→v.cells[i]? = some u→RA g w y u:=by
 have Iu:x.cells=[x]→v.cells=#[v]→x.cells.length=v.cells.size∧∀(i:Nat) y u,x.cells[i]? = some y→v.cells[i]? = some u→RA g w y u:=by
  intro h1 h2;rw[h1,h2];refine⟨rfl,?_⟩;intro i y u hy hu;cases i with
  |zero=>simp at hy hu;subst hy;subst hu;exact h
  |succ i=>simp at hy
 cases h with
 |d y u h =>
  cases h with
  |agg cs vs hl hc =>refine⟨by simpa[AV.cells,D.cells,Value.cells]using hl,?_⟩;intro i x y hx hy;simp only[AV.cells,D.cells,Bkt,Bky]at hx;obtain⟨c,hc',rfl⟩:=hx;exact .d _ _ (hc i c y hc' hy)
  |sc u=>exact Iu rfl (L3 fun cs he=>by subst he;simp[A5j]at hs)
  |nil sz=>exact Iu rfl rfl
  |sl sz es b off len cap=>exact Iu rfl rfl
  |ep cs b off=>exact Iu rfl rfl
  |any q u h1 h2=>exact Iu rfl (L3 fun cs he=>by subst he;cases h2)
 |nm k p u h=>exact Iu rfl (by cases p<;>(first|obtain⟨cap,_,_,rfl,_⟩:=h|cases h)<;>first|rfl|(rename_i b _;cases b<;>rfl))
 |Bu n sz es ty u h h' =>
  cases h with
  |nil=>exact Iu rfl rfl
  |sl=>exact Iu rfl rfl
 |Uo n e cs u h h'=>cases h with|ep=>exact Iu rfl rfl
 |E2 l vs hl hc=>exact Iu rfl rfl
 |agg l vs hl hc=>exact⟨hl,hc⟩
 |Ff f l vs hl hc=>exact Iu rfl rfl
section
variable{P:Program}{o:Oper}{X:A7}
theorem At2{t:TypeId}{x y:Operand}{k off sz:Nat}{v:AV}{cs:A2 AV}{ty:A3 TypeId}{agg:Bool}(ho:o.op = .store t x y)(ht:TyI P t agg sz)(hk:X.objs.lookup k=some (.cells cs ty))
  (hv:v.cells.length=sz) (h1:v.cells.all At1=true) (hs:A5j v=true) (hl:off+sz≤cs.length) :
  Bp P o [(x,.ptr k off),(y,v)] X ⟨setObj k (.cells (V1 cs off v.cells) ty) X.objs,X.live⟩ [] (.d (.sc undef)):=by
 intro nm Ek B g w a hr Aq next Q hn
 have e1:=H9 Aq;have e2:=T9 Aq;simp only at e1 e2;obtain⟨c1,c2⟩:=e2.cells hs;cases hr.objs k _ hk with
 |cells _ _ arr T hb hlen hc Yl =>
  have Iu:∀u∈(a.eval y).cells.toList,u.oneCell'=true:=by
   intro u hu;obtain⟨i,hi⟩:=Bn1.1 hu;have Bs:i<v.cells.length:=by have:=(Bku.1 hi).1;simp at this;omega
   exact B5w (c2 i v.cells[i] u (by simp[Bs]) (by simpa using hi)) (Bly.1 h1 _ (Bmc Bs))
  obtain⟨w',Ch,C2,G0,H4,hp',hz',ho',Lp⟩:=A1s (P:=P) (off:=off) (a.eval y).cells.toList 0 w arr hb Iu (by simp;omega);obtain⟨r1,r2⟩:=hr.write hk (o':=.cells (V1 cs off v.cells) ty) hz' Lp ho' (by
   intro ht';refine .cells _ ty Ch T G0 (by rw[Xw (by omega),H4];exact hlen) ?_ Yl;intro i z u hz hu;rw[Agc (by omega)]at hz;rw[hp' i]at hu;simp only[Bnr,Bmv]at hu;by_cases Up:off≤i∧i<off+v.cells.length
   ·rw[Blv Up]at hz;rw[Blv (by omega)]at hu;exact(c2 _ z u hz (by simpa using hu)).mono ht' (.nil _)
   ·rw[Blj Up]at hz;rw[Blj (by omega)]at hu;exact(hc i z u hz hu).mono ht' (.nil _)) (by
   intro s hs0;simp only[World.shape?,hb]at hs0;simp only[World.shape?,G0,H4];exact hs0)
  unfold Oper.wp;have hx:a.eval x = .pointer (some ⟨g.ρ k,off,none⟩):=by exact e1.Is
  have:(execOp a.eval o).run P w = .ok .skip w':=by
   simp only[execOp,ho,hx,Instr.storeAt,Instr.sureAddr];have G9:¬((a.eval y).cells.size≠sz):=by omega
   simp[storeVar,ht.Yn,G9,C2]
  rw[this];exact hn g w' undef r1 r2 (.Fh _ _ _)
end
structure B0i(P:Program)(t:TypeId)(pl:List (Nat×Nat)):Prop where
 is:∃fs,P.underlying t=some (.struct fs)∧fs.toList.map (fun f=>(f.offset,(P.info? f.type).map (·.size)))=pl.map fun p=>(p.1,some p.2)
inductive V2:List AV→List Value→Prop
 |nil:V2 [] []
 |sc (v:Value) {r:List AV} {rs:List Value}:V2 r rs→V2 (.d (.sc v)::r) (v::rs)
 |sl (sz:Nat) {r:List AV} {rs:List Value}:V2 r rs→V2 (.d (.sl sz [])::r) (.slice none 0 0::rs)
theorem V2.ra{l:A2 AV}{vs:A2 Value}(h:V2 l vs)(g:Gh)(w:World):l.length=vs.length∧∀(i:Nat) x v,l[i]? = some x→vs[i]? = some v→RA g w x v:=by
 induction h with
 |nil=>exact⟨rfl,by simp⟩
 |sc v _ ih =>
  refine⟨by simp[ih.1],?_⟩;intro i x u hx hu;cases i with
  |zero=>simp at hx hu;subst hx;subst hu;exact .Fh _ _ _
  |succ i=>exact ih.2 i x u (by simpa using hx) (by simpa using hu)
 |sl sz _ ih =>
  refine⟨by simp[ih.1],?_⟩;intro i x u hx hu;cases i with
  |zero=>simp at hx hu;subst hx;subst hu;exact .d _ _ (.nil sz none 0 fun _=>rfl)
  |succ i=>exact ih.2 i x u (by simpa using hx) (by simpa using hu)
structure Agd(P:Program)(t:TypeId)(cs:List AV):Prop where
 is:∃i z,P.info? t=some i∧i.zero=some z∧V2 cs z.cells.toList
theorem Agd.ra{P:Program}{t:TypeId}{cs:A2 AV}{z:Value}(h:V2 cs z.cells.toList)(g:Gh)(w:World):RA g w (.agg cs) (.agg z.cells):=by obtain⟨h1,h2⟩:=h.ra g w;exact .agg _ _ (by simpa using h1) (fun i x v hx hv=>h2 i x v hx (by simpa using hv))
def Wv(place:Nat→A3 (Nat×Nat)):A2 AV→A2 (Nat×AV)→A3 (A2 AV)
 |cs,[]=>some cs
 |cs,(i,x)::r =>
  match place i with
  |none=>none
  |some (off,sz)=>if x.cells.length=sz∧off+x.cells.length≤cs.length then Wv place (V1 cs off x.cells) r else none
theorem Abr(vs:A2 Value)(off:Nat):∀(n:Nat) (cs:Array Value) (j:Nat),off+n+vs.length≤cs.size →
  ((vs.zipIdx n).foldl (fun cs p=>cs.setIfInBounds (off+p.2) p.1) cs)[j]? = if off+n≤j∧j<off+n+vs.length then vs[j-(off+n)]? else cs[j]?:=by
 induction vs with
 |nil=>intro n cs j _;rw[Blj (by simp only[Bns];omega)];rfl
 |cons v vs ih =>
  intro n cs j hl;simp only[Blg]at hl⊢;rw[List.zipIdx_cons,Bmd,ih (n+1) _ j (by simp;omega)];by_cases h1:j=off+n
  ·subst h1;rw[Blj (by omega),Blv (by omega)];have:off+n<cs.size:=by omega
   simp[this]
  ·by_cases h2:off+(n+1)≤j∧j<off+(n+1)+vs.length
   ·rw[Blv h2,Blv (by omega),show j-(off+n)=(j-(off+(n+1)))+1 by omega];rfl
   ·rw[Blj h2,Blj (by omega)];simp[Bnf h1]
theorem V3(vs:A2 (Value×Nat))(off:Nat):∀(cs:Array Value),(vs.foldl (fun cs p=>cs.setIfInBounds (off+p.2) p.1) cs).size=cs.size:=by
 induction vs with
 |nil=>intro cs;rfl
 |cons v vs ih=>intro cs;rw[Bmd,ih];simp
theorem Age{g:Gh}{w:World}{place:Nat→A3 (Nat×Nat)}:∀(Bke:A2 (Nat×AV)) (vs:A2 (Nat×Value)) (cs:A2 AV) (arr:Array Value) (out:A2 AV),
  Bke.length=vs.length→(∀(i:Nat) p q,Bke[i]? = some p→vs[i]? = some q→p.1=q.1∧RA g w p.2 q.2)→(Bke.all fun p=>A5j p.2)=true →
  cs.length=arr.size→(∀(i:Nat) x v,cs[i]? = some x→arr[i]? = some v→RA g w x v)→Wv place cs Bke=some out →
  ∃Ch,Instr.fill place arr vs=some Ch∧out.length=Ch.size∧∀(i:Nat) x v,out[i]? = some x→Ch[i]? = some v→RA g w x v
 |[],vs,cs,arr,out,hl,_,_,hs,hc,hf=>by
  cases vs with
  |nil=>simp[Wv]at hf;subst hf;exact⟨arr,rfl,hs,hc⟩
  |cons _ _=>simp at hl
 |(i,x)::Bke,vs,cs,arr,out,hl,hp,Ja,hs,hc,hf=>by
  cases vs with
  |nil=>simp at hl
  |cons q vs =>
   obtain⟨i',u⟩:=q;obtain⟨he,hx⟩:=hp 0 (i,x) (i',u) rfl rfl;simp only at he hx;subst he;simp only[Bqv,Bls]at Ja;obtain⟨c1,c2⟩:=hx.cells Ja.1;simp only[Wv]at hf;simp only[Instr.fill];cases hpl:place i with
   |none=>rw[hpl]at hf;cases hf
   |some q =>
    obtain⟨off,sz⟩:=q;rw[hpl]at hf;simp only at hf⊢;split at hf
    ·rename_i Bjo;have Bdj:¬(u.cells.size≠sz||off+u.cells.size>arr.size)=true:=by simp;omega
     rw[Blj Bdj];have hrw:(Array.foldl (fun cs (x:Value×Nat)=>match x with|(c,j)=>cs.setIfInBounds (off+j) c) arr u.cells.zipIdx)=(u.cells.toList.zipIdx 0).foldl (fun cs p=>cs.setIfInBounds (off+p.2) p.1) arr:=by rw[← Array.foldl_toList,Array.toList_zipIdx]
     rw[hrw];refine Age Bke vs _ _ out (by simpa using hl) (fun j p q hp' hq=>hp (j+1) p q (by simpa using hp') (by simpa using hq)) Ja.2 ?_ ?_ hf
     ·rw[Xw (by omega),V3,hs]
     ·intro j y v hy hv;rw[Agc (by omega)]at hy;rw[Abr _ _ _ _ _ (by simp;omega)]at hv;simp only[Bnr,Bmv]at hv;by_cases Up:off≤j∧j<off+x.cells.length
      ·rw[Blv Up]at hy;rw[Blv (by omega)]at hv;exact c2 _ y v hy (by simpa using hv)
      ·rw[Blj Up]at hy;rw[Blj (by omega)]at hv;exact hc j y v hy hv
    ·cases hf
theorem Adz{P:Program}{w:World}:∀(fs:A2 Field) (pl:A2 (Nat×Nat)),fs.map (fun f=>(f.offset,(P.info? f.type).map (·.size)))=pl.map (fun p=>(p.1,some p.2)) →
  (fs.mapM fun f=>(do pure (f.offset,← sizeOf f.type):Sem (Nat×Nat))).run P w = .ok pl w
 |[],pl,h=>by
  cases pl with
  |nil=>rfl
  |cons _ _=>simp at h
 |f::fs,pl,h=>by
  cases pl with
  |nil=>simp at h
  |cons q pl =>simp only[Bkv,Bos,Bld]at h;obtain⟨⟨h1,h2⟩,h3⟩:=h;obtain⟨i,hi,h4⟩:=Bky.1 h2;rw[List.mapM_cons,Blo,Blo,run_sizeOf hi,Blk];simp only[Bo1,Blk,Blo];rw[Adz fs pl h3];simp only[Blk];rw[h1,h4]
section
variable{P:Program}{o:Oper}{X:A7}
theorem B5x{t:TypeId}{Bke:Array (Nat×Operand)}{pl:A2 (Nat×Nat)}{zs out:A2 AV}{xs:A2 AV}(ho:o.op = .build t Bke)(ht:B0i P t pl)(hz:Agd P t zs)
  (hx:xs.length=Bke.size) (Ja:xs.all A5j=true) (hf:Wv (fun i=>pl[i]?) zs ((Bke.toList.map (·.1)).zip xs)=some out) :
  Bp P o ((Bke.toList.map (·.2)).zip xs) X X [] (Wt out) :=
 .quiet fun _ _ g w ac hr Aq=>by
  obtain⟨fs,hfs,hpl⟩:=ht.is;obtain⟨i,z,hi,hzz,hzc⟩:=hz.is;obtain⟨z1,z2⟩:=hzc.ra g w;obtain⟨Ch,A6a,hl,hc⟩:=Age (g:=g) (w:=w) (place:=fun i=>pl[i]?) ((Bke.toList.map (·.1)).zip xs) (Bke.toList.map fun p=>(p.1,ac.eval p.2)) zs z.cells out (by simp[hx]) (by
   intro j p q hp hq;rw[Bkt,Bky]at hq;obtain⟨pt,hpt,rfl⟩:=hq;rw[Bnw]at hp;obtain⟨hp1,hp2⟩:=hp;rw[Bkt,hpt]at hp1;simp at hp1;refine⟨hp1.symm,?_⟩;have:=Aq (pt.2,p.2) (Bln (i:=j) (by
    rw[Bnw];exact⟨by rw[Bkt,hpt];rfl,hp2⟩))
   exact this) (by
   rw[Bly]at Ja⊢;intro p hp;exact Ja _ (Brf hp).2) (by simpa using z1) (fun i x v hx hv=>z2 i x v hx (by simpa using hv)) hf
  refine⟨.agg Ch,?_,RA.join hl hc⟩;simp only[execOp,ho,Instr.build];have hm:(Array.mapM (fun f=>(do pure (f.offset,← sizeOf f.type):Sem (Nat×Nat))) fs).run P w = .ok pl.toArray w:=by rw[Br7,Sem.run_map,Adz _ _ hpl];rfl
  have P0:Instr.fill (fun x=>pl[x]?) z.cells (List.map (fun x=>(x.1,ac.eval x.2)) Bke.toList)=some Ch:=A6a;simp[zeroValue,typeInfo,hi,hzz,Bl0 hfs];simp at hm;rw[hm];simp[P0]
end
theorem HR.Afr{nm:A2 Nat}{B:Bl}{g:Gh}{w:World}{X:A7}(h:HR nm B g w X)(n:Nat) :
  HR nm B { g with β:=Nj g.β n none } w ⟨X.objs,X.live.filter (· != n)⟩∧Trans [] g w { g with β:=Nj g.β n none } w:=by
 have hβ:∀m ob,Nj g.β n none m=some ob→g.β m=some ob:=by
  intro m ob hm;by_cases he:m=n
  ·subst he;rw[Aa]at hm;cases hm
  ·rwa [Ae _ _ he]at hm
 have ht:Trans [] g w { g with β:=Nj g.β n none } w:=⟨.refl _ _,fun _ _=>rfl,fun m ob _ he=>⟨hβ m ob he,fun _ _=>⟨rfl,rfl⟩⟩,fun _ _ _=>⟨rfl,fun _ _ _=>⟨rfl,rfl⟩⟩⟩;refine⟨⟨h.Dc,h.Ik,h.base,h.io,h.le,h.frame,?_,h.Fx,h.C0,h.Ce,?_,?_,?_,?_,?_,h.eta.Asx (fun L hL=>.inl ⟨?_,rfl⟩) (Bl1 _) (fun m b hm=>h.eta.B5o (hβ m _ hm)) fun k o hk=>h.eta.B2h hk⟩,ht⟩
 rotate_right
 ·obtain⟨ob,Gg⟩:=Blm.1 hL;rw[hβ L ob Gg];rfl
 ·intro k o hk;exact(h.objs k o hk).Dc ht rfl (.inl rfl)
 ·intro m;simp only[Blu,bne_iff_ne,ne_eq];by_cases he:m=n
  ·subst he;simp[Aa]
  ·rw[Ae _ _ he];exact⟨fun hm=>(h.live m).1 hm.1,fun hm=>⟨(h.live m).2 hm,he⟩⟩
 ·intro m m' b hm T4;exact h.C4 m m' b (hβ m _ hm) (hβ m' _ T4)
 ·intro m b k o hm hk;exact h.Bo m b k o (hβ m _ hm) hk
 ·intro m b hm;exact h.Ca m b (hβ m _ hm)
 ·intro m b hm;exact h.Cd m b (hβ m _ hm)
theorem K8.A6b{B:Bl}{g:Gh}{w:World}{X:A7}(h:K8 B g w X){n m b:Nat}(Gg:g.β m=some (some b)):∀L i,(Nj g.β n none L).isSome→g.η L i≠some b:=by
 intro L i hL hb;refine h.Bu L i b m ?_ hb Gg;by_cases he:L=n
 ·subst he;rw[Aa]at hL;cases hL
 ·rwa [Ae _ _ he]at hL
theorem HR.P1{nm:A2 Nat}{B:Bl}{g:Gh}{w:World}{X:A7}(h:HR nm B g w X){m:Nat}(hm:m∉X.live)(ob:A3 Nat)(hX:B7 [m] X=true)
  (hb:∀b,ob=some b→b<w.heap.size∧(B.n0≤b∨B.allowed b)∧(∀k o,X.objs.lookup k=some o→b≠g.ρ k)∧(∀n,g.β n≠some (some b))∧∀L i,(g.β L).isSome→g.η L i≠some b) :
  HR nm B { g with β:=Nj g.β m (some ob),η:=Nj g.η m fun _=>none } w ⟨X.objs,m::X.live⟩∧Trans [m] g w { g with β:=Nj g.β m (some ob),η:=Nj g.η m fun _=>none } w:=by
 have ht:Trans [m] g w { g with β:=Nj g.β m (some ob),η:=Nj g.η m fun _=>none } w:=by
  refine⟨.refl _ _,fun _ _=>rfl,fun n ob' hn he=>?_,fun L hL _=>⟨Ae _ _ (by simpa using hL),fun _ _ _=>⟨rfl,rfl⟩⟩⟩;have hne:n≠m:=by simpa using hn
  simp only[Ae _ _ hne]at he;exact⟨he,fun _ _=>⟨rfl,rfl⟩⟩
 have hβ:∀n b,Nj g.β m (some ob) n=some (some b)→(n=m∧ob=some b)∨(n≠m∧g.β n=some (some b)):=by
  intro n b hn;by_cases he:n=m
  ·subst he;rw[Aa]at hn;exact .inl ⟨rfl,by simpa using hn⟩
  ·rw[Ae _ _ he]at hn;exact .inr ⟨he,hn⟩
 refine⟨⟨h.Dc,h.Ik,h.base,h.io,h.le,h.frame,?_,h.Fx,h.C0,h.Ce,?_,?_,?_,?_,?_,h.eta.Asx (fun L hL=>?_) (Bl1 _) (fun n b hn=>?_) fun k o hk=>h.eta.B2h hk⟩,ht⟩
 rotate_right 2
 ·by_cases he:L=m
  ·subst he;exact .inr fun i=>by simp only[Aa]
  ·exact .inl ⟨by simpa only [Ae _ _ he]using hL,Ae _ _ he⟩
 ·rcases hβ n b hn with ⟨rfl,e⟩|⟨hne,hn⟩
  ·exact(hb b e).2.2.2.2
  ·exact h.eta.B5o hn
 ·intro k o hk;exact(h.objs k o hk).Dc ht rfl (Hh hX hk)
 ·intro n;simp only[Bkq];by_cases he:n=m
  ·subst he;simp[Aa]
  ·simp only[he,Br9,Ae _ _ he];exact h.live n
 ·intro n n' b hn L0;have c1:=hβ n b hn;have c2:=hβ n' b L0;clear hn L0;rcases c1 with ⟨e1,e⟩|⟨hne,hn⟩<;>rcases c2 with ⟨e2,e'⟩|⟨Ta,L0⟩
  ·rw[e1,e2]
  ·exact((hb b e).2.2.2.1 n' L0).elim
  ·exact((hb b e').2.2.2.1 n hn).elim
  ·exact h.C4 n n' b hn L0
 ·intro n b k o hn hk;rcases hβ n b hn with ⟨rfl,e⟩|⟨hne,hn⟩
  ·exact(hb b e).2.2.1 k o hk
  ·exact h.Bo n b k o hn hk
 ·intro n b hn;rcases hβ n b hn with ⟨rfl,e⟩|⟨hne,hn⟩
  ·exact(hb b e).2.1
  ·exact h.Ca n b hn
 ·intro n b hn;rcases hβ n b hn with ⟨rfl,e⟩|⟨hne,hn⟩
  ·exact(hb b e).1
  ·exact h.Cd n b hn
theorem HR.raise{nm:A2 Nat}{B:Bl}{g:Gh}{w w':World}{X:A7}(h:HR nm B g w X){b n:Nat}(Bs:b<w.heap.size)(A1r:B.n0≤b∨B.allowed b)
  (A1e:∀k o,X.objs.lookup k=some o→b≠g.ρ k) (A8y:∀m,g.β m≠some (some b)) (Bi9:∀L i,(g.β L).isSome→g.η L i≠some b) (hs:w'.heap.size=w.heap.size) (hio:w'.os=w.os∧w'.output=w.output∧w'.tape=w.tape∧w.drawn≤w'.drawn) (Rh:∀b',b'≠b→w'.heap[b']? = w.heap[b']?)
  (hold:∀i,i<g.γ b→w'.cell? ⟨b,i,none⟩=w.cell? ⟨b,i,none⟩) (hn:g.γ b≤n) (B0h:∀i,i<n→(w'.cell? ⟨b,i,none⟩).isSome) (Bdi:∀s,w.shape? b=some s→w'.shape? b=some s) :
  HR nm B { g with γ:=Nj g.γ b n } w' X∧Trans [] g w { g with γ:=Nj g.γ b n } w':=by
 have hup:∀b',g.γ b'≤Nj g.γ b n b':=by
  intro b';by_cases he:b'=b
  ·subst he;rw[Aa];exact hn
  ·rw[Ae _ _ he];exact Bl1 _
 have Jv:∀b' i,i<g.γ b'→w'.cell? ⟨b',i,none⟩=w.cell? ⟨b',i,none⟩:=by
  intro b' i hi;by_cases he:b'=b
  ·subst he;exact hold i hi
  ·exact O0 (Rh b' he) i none
 have Oz:∀b' s,w.shape? b'=some s→w'.shape? b'=some s:=by
  intro b' s H4;by_cases he:b'=b
  ·subst he;exact Bdi s H4
  ·rw[M3 (Rh b' he)];exact H4
 have Bia:∀m b',g.β m=some (some b')→b'≠b:=fun m b' hm he=>A8y m (he▸hm)
 have ht:Trans [] g w { g with γ:=Nj g.γ b n } w':=⟨⟨hup,Jv,Oz⟩,fun _ _=>rfl,fun m ob _ he=>⟨he,fun b' G0=>by
  have:=Bia m b' (G0▸he);exact⟨Ae _ _ this,Rh b' this⟩⟩,fun L _ hL=>⟨rfl,fun i b' G0=>by
  have:b'≠b:=fun he=>Bi9 L i hL (he▸G0)
  exact⟨Ae _ _ this,Rh b' this⟩⟩⟩
 refine⟨⟨h.Dc,?_,by rw[hs];exact h.base,⟨hio.1.trans h.io.1,hio.2.1.trans h.io.2.1,hio.2.2.1.trans h.io.2.2.1,Bmh h.io.2.2.2 hio.2.2.2⟩,⟨fun b'=>Bmh (h.le.up b') (hup b'),fun b' i hi=>(Jv b' i (Bmn hi (h.le.up b'))).trans (h.le.cell b' i hi),fun b' s H4=>Oz b' s (h.le.shape b' s H4)⟩,?_,?_,?_,
  h.C0,h.Ce,h.live,h.C4,h.Bo,h.Ca,fun m b' hm=>by rw[hs];exact h.Cd m b' hm,h.eta.Asx (fun L hL=>.inl ⟨hL,rfl⟩) (by rw[hs];exact Bl1 _) (fun n b hn=>h.eta.B5o hn) fun k o hk=>h.eta.B2h hk⟩,ht⟩
 ·intro b' i hi;by_cases he:b'=b
  ·subst he;simp only[Aa]at hi;exact B0h i hi
  ·simp only[Ae _ _ he]at hi;rw[Jv b' i hi];exact h.Ik b' i hi
 ·intro b' G0 hna;have hne:b'≠b:=by
   rintro rfl;rcases A1r with h1|h1
   ·omega
   ·exact hna h1
  have:=h.frame b' G0 hna;exact⟨(Rh b' hne).trans this.1,by simp only[Ae _ _ hne];exact this.2⟩
 ·intro k o hk;exact(h.objs k o hk).Dc ht (Rh _ (A1e k o hk).symm) (.inl rfl)
 ·intro k o hk;simp only[Ae _ _ (A1e k o hk).symm];exact h.Fx k o hk
theorem RD.Zv{P:Program}{γ:Nat→Nat}{w:World}{sz:Nat}{es:A2 (A2 D)}{v:Value}(h:RD γ w (.sl sz es) v)(hs:∀b i,i<γ b→(w.cell? ⟨b,i,none⟩).isSome) :
  ∃base cap,v = .slice base es.length cap∧es.length≤cap∧(base=none→cap=0)∧(∀(i:Nat) (cs:A2 D),es[i]? = some cs→cs.length=sz) ∧
   ∃cells:A2 Value,cells.length=es.length*sz∧(∀w':World,(∀b i,i<γ b→w'.cell? ⟨b,i,none⟩=w.cell? ⟨b,i,none⟩)→(Builtin.firstCells sz es.length v).run P w' = .ok cells.toArray w') ∧
    ∀(i j:Nat) (cs:A2 D) c u,es[i]? = some cs→cs[j]? = some c→cells[i*sz+j]? = some u→RD γ w c u:=by
 cases h with
 |nil _ a cap h0=>exact⟨a,cap,rfl,Bnm _,h0,by simp,[],by simp,fun w' _=>by cases a<;>simp[Builtin.firstCells,loadCells,loadCellsFrom],by simp⟩
 |sl _ _ b off len cap hl hγ Sc G9 hc =>
  subst hl;have hex:∀i,i<es.length*sz→∃u,w.cell? ⟨b,off+i,none⟩=some u:=fun i hi=>Blm.1 (hs b (off+i) (by omega))
  have N5:∀i,i<es.length*sz→w.cell? ⟨b,off+i,none⟩=some ((w.cell? ⟨b,off+i,none⟩).getD undef):=fun i hi=>by
   obtain⟨u,hu⟩:=hex i hi;rw[hu];rfl
  refine⟨some ⟨b,off,none⟩,cap,rfl,Sc,by simp,G9,(List.range (es.length*sz)).map (fun i=>(w.cell? ⟨b,off+i,none⟩).getD undef),by simp,?_,?_⟩
  ·intro w' hw';refine run_firstCells_some w' sz es.length _ _ _ _ (by simp) ?_;intro j u hu;rw[Bkt,Bky]at hu;obtain⟨i,hi,rfl⟩:=hu;have Bs:j<es.length*sz:=by have:=(Bku.1 hi).1;simpa using this
   have:i=j:=by rw[Bpk Bs]at hi;simpa using hi.symm
   subst this;rw[addr_add,hw' b _ (by omega)];exact N5 i Bs
  ·intro i j cs c u hi hj hu;have h1:i<es.length:=(Bku.1 hi).1;have h2:j<cs.length:=(Bku.1 hj).1;rw[G9 i cs hi]at h2;have Bs:=S1 h1 h2;rw[Bkt,Bpk Bs]at hu;simp only[Blq,Bks]at hu;refine hc i cs j c u hi hj ?_;rw[Bo0,N5 _ Bs,hu]
theorem RD.Kh{γ:Nat→Nat}{w:World}{sz:Nat}{es:A2 (A2 D)}{b off cap:Nat}(hγ:off+es.length*sz≤γ b)(Sc:es.length≤cap)
  (G9:∀(i:Nat) (cs:A2 D),es[i]? = some cs→cs.length=sz)
  (hc:∀(i j:Nat) (cs:A2 D) c u,es[i]? = some cs→cs[j]? = some c→w.cell? ⟨b,off+(i*sz+j),none⟩=some u→RD γ w c u) :
  RD γ w (.sl sz es) (.slice (some ⟨b,off,none⟩) es.length cap) :=
 .sl sz es b off es.length cap rfl hγ Sc G9 fun i cs j c v hi hj hv=>hc i j cs c v hi hj (by rw[← Bo0];exact hv)
theorem RD.O3{γ:Nat→Nat}{w:World}{sz:Nat}{es:A2 (A2 D)}{b off len cap:Nat}(hl:len=es.length)(hγ:off+len*sz≤γ b)(Sc:len≤cap)
  (G9:∀(i:Nat) (cs:A2 D),es[i]? = some cs→cs.length=sz)
  (hc:∀(i j:Nat) (cs:A2 D) c u,es[i]? = some cs→cs[j]? = some c→w.cell? ⟨b,off+(i*sz+j),none⟩=some u→RD γ w c u) :
  RD γ w (.sl sz es) (.slice (some ⟨b,off,none⟩) len cap):=by
 subst hl;exact .Kh hγ Sc G9 hc
theorem L4{P:Program}{b off:Nat}{T:TypeId}{fr:Nat×Nat}:∀(vs:A2 Value) (i:Nat) (w:World) (arr:Array Value),w.heap[b]? = some (.cells arr T fr) →
  (∀v∈vs,v.oneCell'=true)→off+i+vs.length≤arr.size→(∀j,off+i≤j→j<off+i+vs.length→w.frozen? ⟨b,j,none⟩=false) →
  ∃w' Ch,(storeCells ⟨b,off,none⟩ vs i).run P w = .ok () w'∧w'.heap[b]? = some (.cells Ch T fr)∧Ch.size=arr.size ∧
   (∀j,Ch[j]? = if off+i≤j∧j<off+i+vs.length then vs[j-(off+i)]? else arr[j]?)∧w'.heap.size=w.heap.size∧(∀b',b'≠b→w'.heap[b']? = w.heap[b']?)∧(w'.os=w.os∧w'.output=w.output∧w'.tape=w.tape∧w.drawn≤w'.drawn)
 |[],i,w,arr,hb,_,_,_=>⟨w,arr,rfl,hb,rfl,fun j=>by rw[Blj (by simp only[Bns];omega)],rfl,fun _ _=>rfl,rfl,rfl,rfl,Bl1 _⟩
 |v::vs,i,w,arr,hb,h1,hl,hf=>by
  simp only[Blg]at hl hf;have Bs:off+i<arr.size:=by omega
  have hv:v.oneCell'=true:=h1 v Bkz;have Jv:w.cell? ⟨b,off+i,none⟩=some arr[off+i]:=by rw[Bg hb];simp[Bs]
  have hfr:w.frozen? ⟨b,off+i,none⟩=false:=hf (off+i) (Bl1 _) (by omega);have B2l:b<w.heap.size:=(Blf.1 hb).1;have Xv:(w.setCell ⟨b,off+i,none⟩ v).heap[b]? = some (.cells (arr.setIfInBounds (off+i) v) T fr):=by simp only[World.setCell,Bm7,hb,Bn5,Blq];rfl
  have hst:(store (⟨b,off+i,none⟩:Addr) v).run P w = .ok () (w.setCell ⟨b,off+i,none⟩ v):=by rw[run_store P w _ v _ hv,Jv,hfr];rfl
  obtain⟨w',Ch,hr,G0,H4,hp',hz',ho',Lp⟩:=L4 (P:=P) (b:=b) (off:=off) (T:=T) vs (i+1) (w.setCell ⟨b,off+i,none⟩ v) _ Xv
   (fun u hu=>h1 u (Bkx _ hu)) (by simp;omega) (fun j h2 h3=>by rw[World.frozen?_setCell];exact hf j (by omega) (by omega))
  refine⟨w',Ch,?_,G0,by rw[H4];simp,?_,by rw[hz'];simp,fun b' hne=>by rw[ho' b' hne];exact heap_setCell_other w _ b' v hne,Lp⟩
  ·simp only[storeCells];rw[addr_add,Blo,hst,Blk];exact hr
  ·intro j;rw[hp' j];by_cases h1:j=off+i
   ·subst h1;rw[Blj (by omega),Blv (by simp only[Blg];omega)];simp[Bs]
   ·by_cases h2:off+(i+1)≤j∧j<off+(i+1)+vs.length
    ·rw[Blv h2,Blv (by simp only[Blg];omega)];rw[show j-(off+i)=(j-(off+(i+1)))+1 by omega];rfl
    ·rw[Blj h2,Blj (by simp only[Blg];omega)];simp[Bnf h1]
def Zw:D→Bool
 |.sc u=>u.oneCell'
 |.agg _=>false
 |_=>true
theorem A92{γ:Nat→Nat}{w:World}{x:D}{v:Value}(h:RD γ w x v)(ho:Zw x=true):v.oneCell'=true:=by
 cases h with
 |sc v=>exact ho
 |agg=>simp[Zw]at ho
 |nil=>rfl
 |sl=>rfl
 |ep=>rfl
 |any q v h1 h2=>exact h2
theorem Rc{sz:Nat}{es fs:A2 (A2 D)}(he:∀(i:Nat) cs,es[i]? = some cs→cs.length=sz)(hf:∀(i:Nat) cs,fs[i]? = some cs→cs.length=sz)(i:Nat)(cs:A2 D)
  (h:(es++fs)[i]? = some cs):cs.length=sz:=by
 rw[Bm2]at h;split at h
 ·exact he i cs h
 ·exact hf _ cs h
theorem Ht{P:Program}{w w':World}{ts:Array TypeId}{ty t e u e':TypeId}{i:TypeInfo}(h0:ts[0]? = some t)(h1:ts[1]? = some u)(hu:P.underlying u=some (.slice e'))
  (ht:P.underlying t=some (.slice e)) (hi:P.info? e=some i)
  {base xb:A3 Addr} {len cap n xc:Nat} {Bkf:A2 Value} (hx:(Builtin.firstCells i.size n (.slice xb n xc)).run P w = .ok Bkf.toArray w) (G6:len+n≤cap)
  (hst:(base=none∧w'=w)∨∃a,base=some a∧(storeCells (a.add (len*i.size)) Bkf).run P w = .ok () w') :
  (Builtin.append_ ts ty #[.slice base len cap,.slice xb n xc]).run P w = .ok (.slice base (len+n) cap) w':=by
 rcases hst with ⟨rfl,rfl⟩|⟨a,rfl,hst⟩
 ·simp[Builtin.append_,h0,h1,Bl0 ht,Bl0 hu,sizeOf,typeInfo,hi,Builtin.lenOf,G6,hx]
 ·simp[Builtin.append_,h0,h1,Bl0 ht,Bl0 hu,sizeOf,typeInfo,hi,Builtin.lenOf,G6,hx,hst]
theorem Q3{P:Program}{w:World}{ts:Array TypeId}{ty t e u e':TypeId}{i:TypeInfo}{z:Value}(h0:ts[0]? = some t)(h1:ts[1]? = some u)(hu:P.underlying u=some (.slice e'))
  (ht:P.underlying t=some (.slice e)) (hi:P.info? e=some i) (hz:i.zero=some z)
  {base xb:A3 Addr} {len cap n xc:Nat} {Bkf olds:A2 Value} (hx:(Builtin.firstCells i.size n (.slice xb n xc)).run P w.drew = .ok Bkf.toArray w.drew)
  (ho:(Builtin.firstCells i.size len (.slice base len cap)).run P w.drew = .ok olds.toArray w.drew) (G6:¬len+n≤cap)
  (h63:((len+n:Nat):Int)≤9223372036854775807) (h48:(len+n)*i.bytes≤140737488355328) :
  (Builtin.append_ ts ty #[.slice base len cap,.slice xb n xc]).run P w =
   .ok (.slice (some ⟨w.heap.size,0,none⟩) (len+n) (grownCap w (len+n) cap e))
    (w.drew.alloc (.cells (olds.toArray++Bkf.toArray++Builtin.zeroCells z.cells (grownCap w (len+n) cap e-(len+n))) e)):=by
 have Bdk:¬(9223372036854775807<((len:Int)+(n:Int))):=by omega
 have A6y:=growslice_fits (need:=len+n) (old:=cap) (by omega) h48;have Bdl:¬(281474976710656<Builtin.nextslicecap (len+n) cap*i.bytes):=by omega
 simp[Builtin.append_,h0,h1,Bl0 ht,Bl0 hu,sizeOf,typeInfo,zeroValue,hi,hz,Builtin.lenOf,G6,Bdk,Bdl,Question.forced,hx,ho,Go.newRow,grownCap];congr 2;apply Array.ext';simp[Bnx]
theorem A1t{sz:Nat}{fs:A2 (A2 D)}(G9:∀(i:Nat) cs,fs[i]? = some cs→cs.length=sz){k:Nat}(hk:k<fs.length*sz) :
  ∃(i j:Nat) (cs:A2 D) (c:D),k=i*sz+j∧fs[i]? = some cs∧cs[j]? = some c:=by
 have A5k:0<sz:=by
  rcases Bmu sz with h|h
  ·subst h;simp at hk
  ·exact h
 have h1:k/sz<fs.length:=by rw[Bq8 A5k];exact hk
 have h2:k % sz<sz:=Bqb _ A5k;have h3:(fs[k/sz]).length=sz:=G9 (k/sz) _ (by simp[h1]);exact⟨k/sz,k % sz,fs[k/sz],(fs[k/sz])[k % sz]'(by omega),by rw[Nat.mul_comm];exact(Nat.div_add_mod k sz).symm,by simp[h1],by simp[h3,h2]⟩
section
variable{P:Program}{o:Oper}{X:A7}
def Bfs(P:Program)(g:Gh)(w:World)(sz:Nat)(fs:A2 (A2 D))(vx:Value):Prop :=
 ∃xb xc,vx = .slice xb fs.length xc∧(∀(i:Nat) (cs:A2 D),fs[i]? = some cs→cs.length=sz)∧∃Bkf:A2 Value,Bkf.length=fs.length*sz ∧
  (Builtin.firstCells sz fs.length vx).run P w = .ok Bkf.toArray w∧(Builtin.firstCells sz fs.length vx).run P w.drew = .ok Bkf.toArray w.drew ∧
   ∀(i j:Nat) (cs:A2 D) c u,fs[i]? = some cs→cs[j]? = some c→Bkf[i*sz+j]? = some u→RD g.γ w c u
theorem Akk{ty:A3 TypeId}{ts:Array TypeId}{s x:Operand}{n sz:Nat}{es fs:A2 (A2 D)}{t u e e':TypeId}{i:TypeInfo}{z:Value}(m:Nat)
  (ho:o.op = .call { callee:=.builtin .append,args:=#[s,x],argTypes:=ts }) (h0:ts[0]? = some t) (h1:ts[1]? = some u) (hu:P.underlying u=some (.slice e'))
  (ht:P.underlying t=some (.slice e)) (hi:P.info? e=some i) (hz:i.zero=some z) (hzs:z.cells.size=sz) (G9:i.size=sz) (hn:n∈X.live) (hm:m∉X.live.filter (· != n)) (hX:B7 [m] X=true)
  (Iu:∀cs∈fs,∀c∈cs,Zw c=true) (Wg:(es.length+fs.length)*i.bytes≤140737488355328) (hlen:es.length+fs.length≤4611686018427387904)
  (Yl:∀e',ty=some e'→e'=e) (ax:AV) (hax:∀ {nm:A2 Nat} {B:Bl} {g:Gh} {w:World} {v:Value},HR nm B g w X→RA g w ax v→Bfs P g w sz fs v) :
  Bp P o [(s,.Bu n sz es ty),(x,ax)] X ⟨X.objs,m::X.live.filter (· != n)⟩ [m] (.Bu m sz (es++fs) ty):=by
 subst G9;intro nm Ek B g w a hr Aq next Q Eo
 have e1:=H9 Aq;have e2:=T9 Aq;simp only at e1 e2;unfold Oper.wp;have C2:∀r,(Builtin.append_ ts o.type #[a.eval s,a.eval x]).run P w=r→(execOp a.eval o).run P w=r.andThen fun v w'=>.ok (.value v) w':=by intro r hr';simp only[execOp,ho,resolve];simp[invoke,builtin,hr']
 generalize a.eval s=vs at e1 C2;generalize a.eval x=vx at e2 C2;cases e1 with
 |Bu _ _ _ _ _ e1 A8y =>
 obtain⟨base,cap,rfl,Sc,hbn,Bdm,olds,hol,At3,hoc⟩:=e1.Zv (P:=P) hr.Ik;obtain⟨xb,xc,rfl,A6z,Bkf,hnl,Aoi,Bdn,hnc⟩:=hax hr e2;have Yp:=Rc Bdm A6z;have Gg:∃ob,g.β n=some ob:=Blm.1 ((hr.live n).1 hn);obtain⟨ob,Gg⟩:=Gg;obtain⟨Yk,ht1⟩:=hr.Afr n;have Agf:∀v∈Bkf,v.oneCell'=true:=by
  intro v hv;obtain⟨k,hk⟩:=Bn1.1 hv;have Bdo:k<fs.length*i.size:=by have:=(Bku.1 hk).1;omega
  obtain⟨p,q,cs,c,rfl,hp,hq⟩:=A1t A6z Bdo;exact A92 (hnc p q cs c v hp hq hk) (Iu cs (Bln hp) c (Bln hq))
 by_cases G6:es.length+fs.length≤cap
 ·
  have same:fs=[]→(Builtin.append_ ts o.type #[.slice base es.length cap,.slice xb fs.length xc]).run P w = .ok (.slice base es.length cap) w →
    base=none →
    Oper.upon P o a next Q ((execOp a.eval o).run P w):=by
   intro hf hrn B5y;obtain⟨Xx,V4⟩:=Yk.P1 (m:=m) hm none hX (by simp);rw[C2 _ hrn];subst hf;simp only[Blt]at *;refine Eo _ w _ Xx (ht1.trans V4) (.Bu m i.size es ty _ (e1.mono (ht1.trans V4).le) ?_);subst B5y;trivial
  cases hb:base with
  |none =>
   have h0':cap=0:=hbn hb;have hf:fs=[]:=by cases fs with
    |nil=>rfl
    |cons _ _=>simp at G6;omega
   have hrn:=Ht (P:=P) (w:=w) (w':=w) (ty:=o.type) h0 h1 hu ht hi (base:=base) Aoi G6 (.inl ⟨hb,rfl⟩);subst hb;refine same hf ?_ rfl;rw[hrn];subst hf;rfl
  |some b0 =>
   subst hb;obtain⟨b,off,sp⟩:=b0;obtain⟨hsp,htp⟩:=A8y ob Gg;simp only at hsp;subst hsp;by_cases hfe:fs=[]
   ·subst hfe;have hn0:Bkf=[]:=by simpa using hnl
    subst hn0;have hrn:=Ht (P:=P) (w:=w) (w':=w) (ty:=o.type) h0 h1 hu ht hi (base:=some ⟨b,off,none⟩) Aoi G6 (.inr ⟨_,rfl,rfl⟩);obtain⟨N6,hγ,V5,Agg⟩:=htp
    ·
     subst N6;obtain⟨Xx,V4⟩:=Yk.P1 (m:=m) hm (some b) hX (by
      intro b' G0;cases G0;refine⟨hr.Cd n b Gg,hr.Ca n b Gg,fun k p hk=>hr.Bo n b k p Gg hk,fun n' L0=>?_,hr.eta.A6b Gg⟩;by_cases he:n'=n
      ·subst he;simp[Aa]at L0
      ·simp only[Ae _ _ he]at L0;exact he (hr.C4 n' n b L0 Gg))
     rw[C2 _ hrn];simp only[Blt]at Eo;refine Eo _ w _ Xx (ht1.trans V4) (.Bu m i.size es ty _ (e1.mono (ht1.trans V4).le) ?_)
     ·intro ob' N6;simp only[Aa,Bks]at N6;exact⟨rfl,N6.symm,hγ,V5,Agg⟩
   ·have A5k:0<fs.length:=Bol.2 hfe;obtain⟨N6,hγ,V5,Agg⟩:=htp;subst N6;simp only at hγ V5;have B2l:=hr.Cd n b Gg;have Bkj:(es.length+fs.length)*i.size=es.length*i.size+fs.length*i.size:=Bmz _ _ _;have Bft:(es.length+fs.length)*i.size≤cap*i.size:=Bmm _ G6;have Bki:fs.length*i.size=0∨∃arr T fr,w.heap[b]? = some (.cells arr T fr)∧off+cap*i.size≤arr.size:=by
     rcases Bmu (fs.length*i.size)with h|h
     ·exact .inl h
     ·right;have Agh:=V5 (off+cap*i.size-1) (by omega) (by omega);obtain⟨v,hv⟩:=Blm.1 Agh.1;unfold World.cell? at hv;simp only at hv;split at hv
      ·rename_i arr T fr hh;refine⟨arr,T,fr,hh,?_⟩;simp at hv;have:=(Blf.1 hv).1;omega
      ·cases hv
    rcases Bki with Bkk|⟨arr,T,fr,Bki,Pp⟩
    ·
     have hn0:Bkf=[]:=Bnq.1 (by omega);subst hn0;have hrn:=Ht (P:=P) (w:=w) (w':=w) (ty:=o.type) h0 h1 hu ht hi (base:=some ⟨b,off,none⟩) Aoi G6 (.inr ⟨_,rfl,rfl⟩);obtain⟨Xx,V4⟩:=Yk.P1 (m:=m) hm (some b) hX (by
      intro b' G0;cases G0;refine⟨hr.Cd n b Gg,hr.Ca n b Gg,fun k p hk=>hr.Bo n b k p Gg hk,fun n' L0=>?_,hr.eta.A6b Gg⟩;by_cases he:n'=n
      ·subst he;simp[Aa]at L0
      ·simp only[Ae _ _ he]at L0;exact he (hr.C4 n' n b L0 Gg))
     rw[C2 _ hrn];refine Eo _ w _ Xx (ht1.trans V4) (.Bu m i.size _ ty _ ?_ ?_)
     ·refine .O3 Bme.symm (by simp only;omega) G6 Yp ?_;intro p q cs c v hp hq hv;have h2:q<cs.length:=(Bku.1 hq).1;rw[Yp p cs hp]at h2;have:i.size=0:=by
       rcases Nat.mul_eq_zero.1 Bkk with h|h
       ·omega
       ·exact h
      omega
     ·intro ob' N6;simp only[Aa,Bks]at N6;refine⟨rfl,N6.symm,?_,?_,Agg⟩
      ·simp only;omega
      ·intro p h3 h4;exact V5 p (by simp only at h3;omega) h4
    ·obtain⟨w',Ch,hst,G0,H4,hp',hz',Wh,Lp⟩:=L4 (P:=P) (off:=off+es.length*i.size) Bkf 0 w arr Bki Agf (by omega) (by
      intro j h3 h4;exact(V5 j (by omega) (by omega)).2)
     have hrn:=Ht (P:=P) (w:=w) (w':=w') (ty:=o.type) h0 h1 hu ht hi (base:=some ⟨b,off,none⟩) Aoi G6 (.inr ⟨_,rfl,by rw[addr_add];exact hst⟩);simp only[Bnr]at hp';have At4:∀k,k<off+es.length*i.size→w'.cell? ⟨b,k,none⟩=w.cell? ⟨b,k,none⟩:=by intro k hk;rw[Bg G0,Bg Bki,hp' k,Blj (by omega)]
     have Ax3:∀k,k<off+(es.length+fs.length)*i.size→(w'.cell? ⟨b,k,none⟩).isSome:=by
      intro k hk;rw[Bg G0];have:k<Ch.size:=by omega
      simp[this]
     obtain⟨Xx,V4⟩:=Yk.raise (w':=w') (b:=b) (n:=off+(es.length+fs.length)*i.size) B2l (hr.Ca n b Gg) (fun k p hk=>hr.Bo n b k p Gg hk) (by
      intro n' L0;by_cases he:n'=n
      ·subst he;simp[Aa]at L0
      ·simp only[Ae _ _ he]at L0;exact he (hr.C4 n' n b L0 Gg)) (hr.eta.A6b Gg) hz' Lp Wh (by intro k hk;exact At4 k (by simp only at hk;omega)) (by simp only;omega) Ax3 (by
      intro s hs0;simp only[World.shape?,Bki]at hs0;simp only[World.shape?,G0,H4];exact hs0)
     obtain⟨hr3,ht3⟩:=Xx.P1 (m:=m) hm (some b) hX (by
      intro b' G0;cases G0;refine⟨by rw[hz'];exact B2l,hr.Ca n b Gg,fun k p hk=>hr.Bo n b k p Gg hk,fun n' L0=>?_,hr.eta.A6b Gg⟩;by_cases he:n'=n
      ·subst he;simp[Aa]at L0
      ·simp only[Ae _ _ he]at L0;exact he (hr.C4 n' n b L0 Gg))
     have hT:=(ht1.trans V4).trans ht3;rw[C2 _ hrn];refine Eo _ w' _ hr3 hT (.Bu m i.size _ ty _ ?_ ?_)
     ·refine .O3 Bme.symm (by simp only[Aa];omega) G6 Yp ?_;intro p q cs c v hp hq hv;have h2:q<cs.length:=(Bku.1 hq).1;rw[Yp p cs hp]at h2;rw[Bm2]at hp;split at hp
      ·rename_i A70;have Bs:=S1 A70 h2;rw[At4 _ (by omega)]at hv;have hold:=At3 w fun _ _ _=>rfl
       cases e1 with
       |nil=>simp at hp
       |sl _ _ _ _ _ _ _ _ _ _ hc =>exact(hc p cs q c v hp hq (by rw[Bo0];exact hv)).mono hT.le
      ·rename_i Bdp;have A70:p-es.length<fs.length:=by have:=(Bku.1 hp).1;omega
       have Bs:=S1 A70 h2;have hpq:p*i.size+q=es.length*i.size+((p-es.length)*i.size+q):=by
        have:p=es.length+(p-es.length):=by omega
        conv=>lhs;rw[this,Bmz]
        omega
       rw[Bg G0,hp',Blv (by omega)]at hv;refine(hnc (p-es.length) q cs c v hp hq ?_).mono hT.le;rw[← hv];congr 1;omega
     ·intro ob' N6;simp only[Aa,Bks]at N6;refine⟨rfl,N6.symm,by simp only[Aa],?_,?_⟩
      rotate_left
      ·intro e1 he1;obtain⟨h1,c,h2⟩:=Agg e1 he1;refine⟨h1,Ch.size,?_⟩;simp only[World.shape?,Bki]at h2;simp only[World.shape?,G0];simp only[Bks,Bld]at h2;rw[h2.1]
      intro p h3 h4;simp only at h3 h4;have h5:=V5 p (by omega) h4;refine⟨?_,?_⟩
      ·rw[Bg G0];have:p<Ch.size:=by omega
       simp[this]
      ·have:=h5.2;simp only[World.frozen?,Bki]at this;simp only[World.frozen?,G0];exact this
 ·
  obtain⟨A1u,htd⟩:=Yk.drew;have hdc:∀b k,k<g.γ b→(w.drew).cell? ⟨b,k,none⟩=w.cell? ⟨b,k,none⟩:=fun _ _ _=>rfl
  have hrn:=Q3 (P:=P) (w:=w) (ty:=o.type) h0 h1 hu ht hi hz Bdn (At3 w.drew hdc) G6 (by omega) Wg;have hge:=Bqn w (es.length+fs.length) cap e;generalize grownCap w (es.length+fs.length) cap e=nc at hrn hge;have Bkj:(es.length+fs.length)*i.size=es.length*i.size+fs.length*i.size:=Bmz _ _ _;have Akl:(olds.toArray++Bkf.toArray++Builtin.zeroCells z.cells (nc-(es.length+fs.length))).size=nc*i.size:=by simp only[Box,Bnc,Bps,hol,hnl,hzs];rw[← Bkj,← Bmz];congr 1;omega
  have Bdq:(es.length+fs.length)*i.size≤nc*i.size:=Bmm _ hge;generalize A93:olds.toArray++Bkf.toArray++Builtin.zeroCells z.cells (nc-(es.length+fs.length))=arr at hrn Akl;obtain⟨Xx,V4⟩:=A1u.newRow arr e ((es.length+fs.length)*i.size) (by omega);obtain⟨hr3,ht3⟩:=Xx.P1 (m:=m) hm (some w.drew.heap.size) hX (by
   intro b' G0;cases G0;refine⟨by simp,.inl A1u.base,fun k p hk=>?_,fun n' L0=>?_,A1u.eta.Yj (Bl1 _)⟩
   ·have:=Ey (A1u.objs k p hk);simp only at this⊢;omega
   ·have:=A1u.Cd n' _ L0;omega)
  have hT:=((ht1.trans htd).trans V4).trans ht3;rw[C2 _ hrn];have Agi:∀k,(w.drew.alloc (.cells arr e)).cell? ⟨w.drew.heap.size,k,none⟩=arr[k]?:=fun k=>Bg (Bni w.drew (.cells arr e)) k
  refine Eo _ _ _ hr3 hT (.Bu m i.size _ ty _ ?_ ?_)
  ·have hww:w.heap.size=w.drew.heap.size:=rfl;rw[hww];refine .O3 Bme.symm (by simp only[Aa];omega) hge Yp ?_;intro p q cs c v hp hq hv;have h2:q<cs.length:=(Bku.1 hq).1;rw[Yp p cs hp]at h2;rw[Blx,Agi,← A93]at hv;rw[Bm2]at hp;split at hp
   ·rename_i A70;have Bs:=S1 A70 h2;rw[Bqo,Bn6 (by simp;omega)]at hv;exact(hoc p q cs c v hp hq (by simpa using hv)).mono hT.le
   ·rename_i Bdp;have A70:p-es.length<fs.length:=by have:=(Bku.1 hp).1;omega
    have Bs:=S1 A70 h2;have hpq:p*i.size+q=es.length*i.size+((p-es.length)*i.size+q):=by
     have:p=es.length+(p-es.length):=by omega
     conv=>lhs;rw[this,Bmz]
     omega
    rw[Bn6 (by simp;omega),Bo9 (by simp;omega)]at hv;refine(hnc (p-es.length) q cs c v hp hq ?_).mono hT.le;rw[← hv];simp only[Bnc,Bn8];congr 1;omega
  ·intro ob' N6;simp only[Aa,Bks]at N6;subst N6;have hww:w.heap.size=w.drew.heap.size:=rfl;refine⟨rfl,by rw[hww],by rw[hww];simp only[Aa,Blx],?_,?_⟩
   rotate_left
   ·intro e1 he1;rw[Yl e1 he1];refine⟨rfl,arr.size,?_⟩;have:=Bni w.drew (.cells arr e);simp only[World.shape?];rw[hww,this]
   intro p h3 h4;simp only[Blx]at h3 h4;rw[hww];refine⟨by rw[Agi];simp;omega,?_⟩;exact frozen_of_row _ _ _ arr e (Bni w.drew (.cells arr e))
theorem B2m{ty:A3 TypeId}{ts:Array TypeId}{s x:Operand}{n sz:Nat}{es fs:A2 (A2 D)}{t u e e':TypeId}{i:TypeInfo}{z:Value}(m:Nat)
  (ho:o.op = .call { callee:=.builtin .append,args:=#[s,x],argTypes:=ts }) (h0:ts[0]? = some t) (h1:ts[1]? = some u) (hu:P.underlying u=some (.slice e'))
  (ht:P.underlying t=some (.slice e)) (hi:P.info? e=some i) (hz:i.zero=some z) (hzs:z.cells.size=sz) (G9:i.size=sz) (hn:n∈X.live) (hm:m∉X.live.filter (· != n)) (hX:B7 [m] X=true)
  (Iu:∀cs∈fs,∀c∈cs,Zw c=true) (Wg:(es.length+fs.length)*i.bytes≤140737488355328) (hlen:es.length+fs.length≤4611686018427387904)
  (Yl:∀e',ty=some e'→e'=e) :
  Bp P o [(s,.Bu n sz es ty),(x,.d (.sl sz fs))] X ⟨X.objs,m::X.live.filter (· != n)⟩ [m] (.Bu m sz (es++fs) ty) :=
 Akk m ho h0 h1 hu ht hi hz hzs G9 hn hm hX Iu Wg hlen Yl _ fun hr e=>by
  cases e with
  |d _ _ e =>obtain⟨xb,xc,rfl,_,_,h1,Bkf,h2,h3,h4⟩:=e.Zv (P:=P) hr.Ik;exact⟨xb,xc,rfl,h1,Bkf,h2,h3 _ fun _ _ _=>rfl,h3 _ fun _ _ _=>rfl,h4⟩
end
structure Ez(P:Program)(f:FuncId):Prop where
 is : ∃ fn, P.funcs[f]? = some fn ∧ fn.body.isSome = true ∧ (fn.name == "runtime.NumGoroutine") = false
theorem D5{P:Program}{f:FuncId}(h:Ez P f)(args:Array Value)(w:World):(callFunc f args).run P w = .ok (.enter f args) w:=by
 obtain⟨fn,hf,hb,hn⟩:=h.is
 have L0 : ¬ (fn.name = "runtime.NumGoroutine") := by simpa using hn
 have G0:¬(fn.body=none):=by intro he;rw[he]at hb;cases hb
 simp[callFunc,hf,L0,G0]
section
variable{P:Program}{o:Oper}{X:A7}
theorem V6{g:Gh}{w:World}{a:Act}{args:Array Operand}{xs:A2 AV}(Aq:∀p∈args.toList.zip xs,RA g w p.2 (a.eval p.1)) :
  ∀(i:Nat) x v,xs[i]? = some x→(args.map a.eval)[i]? = some v→RA g w x v:=by
 intro i x v hx hv;rw[Bqp,Bky]at hv;obtain⟨op,hop,rfl⟩:=hv;exact Aq (op,x) (Bln (i:=i) (by rw[Bnw];exact⟨by simpa using hop,hx⟩))
theorem HR.At5{nm:A2 Nat}{B:Bl}{g gc:Gh}{w w':World}(h:HR nm B g w X)(h0:HR [] (Bl.of { g with β:=fun _=>none } w X0) gc w' X0) :
  HR nm B { gc with β:=g.β,ρ:=g.ρ,η:=g.η } w' X∧Trans [] g w { gc with β:=g.β,ρ:=g.ρ,η:=g.η } w':=by
 have hna:∀b,¬(Bl.of { g with β:=fun _=>none } w X0).allowed b:=by
  intro b hb;rcases hb with ⟨k,o,hk,_⟩|⟨n,hn⟩
  ·simp[X0]at hk
  ·cases hn
 have hf:∀b,b<w.heap.size→w'.heap[b]? = w.heap[b]?∧gc.γ b=g.γ b:=fun b hb=>h0.frame b hb (hna b)
 have hs:w.heap.size≤w'.heap.size:=h0.base;have hle:LeD g.γ w gc.γ w':=h0.le;have ht:Trans [] g w { gc with β:=g.β,ρ:=g.ρ,η:=g.η } w':=⟨hle,fun _ _=>rfl,fun n ob _ he=>⟨he,fun b hb=>⟨(hf b (h.Cd n b (hb▸he))).2,(hf b (h.Cd n b (hb▸he))).1⟩⟩,fun L _ hL=>⟨rfl,fun i b hb=>⟨(hf b (h.eta.lt L i b hL hb)).2,(hf b (h.eta.lt L i b hL hb)).1⟩⟩⟩;refine⟨⟨h.Dc,h0.Ik,Bmh h.base hs,⟨h0.io.1.trans h.io.1,h0.io.2.1.trans h.io.2.1,h0.io.2.2.1.trans h.io.2.2.1,Bmh h.io.2.2.2 h0.io.2.2.2⟩,h.le.trans hle,?_,?_,?_,h.C0,h.Ce,h.live,h.C4,h.Bo,h.Ca,?_,h.eta.step (fun L hL=>.inl ⟨hL,rfl⟩) hs (fun n b hb=>.inl ⟨n,hb⟩) fun k o hk=>.inl ⟨k,o,hk,rfl⟩⟩,ht⟩
 ·intro b hb hnb;have h1:=h.frame b hb hnb;have h2:=hf b (Bmn hb h.base);exact⟨h2.1.trans h1.1,h2.2.trans h1.2⟩
 ·intro k o hk;have:=h.objs k o hk;exact this.Dc ht (hf _ (Ey this)).1 (.inl rfl)
 ·intro k o hk;have:=h.objs k o hk;simp only[(hf _ (Ey this)).2];exact h.Fx k o hk
 ·intro n b hn;exact Bmn (h.Cd n b hn) hs
mutual
def Ki:AV→Bool
 |.d _=>true
 |.nm _ _=>false
 |.Bu _ _ _ _=>false
 |.Uo _ _ _=>false
 |.E2 l=>Ba l
 |.agg l=>Ba l
 |.Ff _ l=>Ba l
def Ba:List AV→Bool
 |[]=>true
 |x::r=>Ki x&&Ba r
end
theorem Iv{l:A2 AV}(h:Ba l=true){i:Nat}{x:AV}(hx:l[i]? = some x):Ki x=true:=by
 induction l generalizing i with
 |nil=>simp at hx
 |cons y r ih =>
  simp only[Ba,Bls]at h;cases i with
  |zero=>simp at hx;subst hx;exact h.1
  |succ i=>exact ih h.2 (by simpa using hx)
theorem RA.data{g g':Gh}{w w':World}{x:AV}{v:Value}(h:RA g w x v)(hd:Ki x=true)(hle:LeD g.γ w g'.γ w'):RA g' w' x v:=by
 induction h with
 |d x v h=>exact .d x v (h.mono hle)
 |nm=>simp[Ki]at hd
 |Bu=>simp[Ki]at hd
 |Uo=>simp[Ki]at hd
 |E2 l vs hl _ ih=>exact .E2 l vs hl fun i x v h1 h2=>ih i x v h1 h2 (Iv (by simpa[Ki]using hd) h1)
 |agg l vs hl _ ih=>exact .agg l vs hl fun i x v h1 h2=>ih i x v h1 h2 (Iv (by simpa[Ki]using hd) h1)
 |Ff f l vs hl _ ih=>exact .Ff f l vs hl fun i x v h1 h2=>ih i x v h1 h2 (Iv (by simpa[Ki]using hd) h1)
theorem Lz.use{f:FuncId}{xs:A2 AV}{res:AV}(hs:Lz P f xs X0 res X0)(hd:Ba xs=true)(Uq:Ki res=true){nm:A2 Nat}{B:Bl}{g:Gh}{w:World}
  (hr:HR nm B g w X) {vs:Array Value} (hl:xs.length=vs.size) (Nz:∀(i:Nat) x v,xs[i]? = some x→vs[i]? = some v→RA g w x v) :
  Calls P f vs w fun e w'=>∃v g',e = .returned v∧HR nm B g' w' X∧Trans [] g w g' w'∧RA g' w' res v:=by
 have h0:HR (X0.objs.map (·.1)) (Bl.of { g with β:=fun _=>none } w X0) { g with β:=fun _=>none } w X0 :=
  ⟨by simp[X0],hr.Ik,Bl1 _,⟨rfl,rfl,rfl,Bl1 _⟩,.refl _ _,fun b _ _=>⟨rfl,rfl⟩,by simp[X0],by simp[X0],by simp[X0],by simp[X0],by simp[X0],by simp,by simp,by simp,by simp,.off fun _=>rfl⟩
 have:=hs { g with β:=fun _=>none } w vs h0 hl fun i x v hx hv=>(Nz i x v hx hv).data (Iv hd hx) (.refl _ _)
 refine this.mono ?_;rintro e w' ⟨gc,v,rfl,T8,h1⟩;obtain⟨h2,h3⟩:=hr.At5 (gc:=gc) h1;exact⟨v,_,rfl,h2,h3,T8.data Uq (.refl _ _)⟩
theorem Aoj{f:FuncId}{args:Array Operand}{ts:Array TypeId}{xs:A2 AV}{res:AV}(ho:o.op = .call { callee:=.value (.func f),args:=args,argTypes:=ts })(hf:Ez P f)
  (hs:Lz P f xs X0 res X0) (hl:xs.length=args.size) (hd:Ba xs=true) (Uq:Ki res=true):Bp P o (args.toList.zip xs) X X [] res:=by
 intro nm Ek B g w a hr Aq next Q hn
 unfold Oper.wp;have:(execOp a.eval o).run P w = .ok (.enter f (args.map a.eval)) w:=by simp only[execOp,ho,resolve];simp[Act.eval,Deferred.ofValue,invoke,D5 hf]
 rw[this];refine(hs.use hd Uq hr (by simpa using hl) (V6 Aq)).mono ?_;rintro e w' ⟨v,g',rfl,h1,h2,h3⟩;exact hn g' w' v h1 h2 h3
theorem A71{g:Gh}{w:World}{sz:Nat}:∀(Bke:A2 (Nat×Value)) (es:A2 (A2 D)) (k:Nat) (arr:Array Value),
  Bke.length=es.length→(∀(i:Nat) p,Bke[i]? = some p→p.1=k+i)→(∀(i:Nat) p cs,Bke[i]? = some p→es[i]? = some cs→cs.length=sz∧p.2.cells.size=sz ∧
   ∀(j:Nat) c u,cs[j]? = some c→p.2.cells[j]? = some u→RD g.γ w c u)→(k+Bke.length)*sz≤arr.size →
  ∃Ch,Instr.fill (fun i=>some (i*sz,sz)) arr Bke=some Ch∧Ch.size=arr.size∧(∀j,j<k*sz→Ch[j]? = arr[j]?) ∧
   (∀(i j:Nat) cs c u,es[i]? = some cs→cs[j]? = some c→Ch[(k+i)*sz+j]? = some u→RD g.γ w c u)
 |[],es,k,arr,hl,_,_,_=>by
  cases es with
  |nil=>exact⟨arr,rfl,rfl,fun _ _=>rfl,by simp⟩
  |cons _ _=>simp at hl
 |(i0,v)::Bke,es,k,arr,hl,hi,hp,G9=>by
  cases es with
  |nil=>simp at hl
  |cons cs es =>
   have e0:i0=k:=by simpa using hi 0 (i0,v) rfl
   subst e0;obtain⟨h1,h2,h3⟩:=hp 0 (i0,v) cs rfl rfl;simp only at h2 h3;simp only[Blg]at G9 hl;have Bkj:(i0+(Bke.length+1))*sz=i0*sz+(Bke.length+1)*sz:=Bmz _ _ _;have Bjp:(Bke.length+1)*sz=Bke.length*sz+sz:=Bna _ _;have Bfu:(i0+1)*sz=i0*sz+sz:=Bna _ _;simp only[Instr.fill];rw[Blj (by simp;omega)];have hrw:(Array.foldl (fun cs (x:Value×Nat)=>match x with|(c,j)=>cs.setIfInBounds (i0*sz+j) c) arr v.cells.zipIdx)=(v.cells.toList.zipIdx 0).foldl (fun cs p=>cs.setIfInBounds (i0*sz+p.2) p.1) arr:=by rw[← Array.foldl_toList,Array.toList_zipIdx]
   rw[hrw];obtain⟨Ch,hf,H4,Lk,hr'⟩:=A71 (g:=g) (w:=w) (sz:=sz) Bke es (i0+1) ((v.cells.toList.zipIdx 0).foldl (fun cs p=>cs.setIfInBounds (i0*sz+p.2) p.1) arr) (by omega)
    (fun i p hp'=>by have:=hi (i+1) p (by simpa using hp');omega) (fun i p Wf hp' hc'=>hp (i+1) p Wf (by simpa using hp') (by simpa using hc'))
    (by rw[V3];rw[Bmz,Bfu];omega)
   refine⟨Ch,hf,by rw[H4,V3],?_,?_⟩
   ·intro j hj;rw[Lk j (by omega),Abr _ _ _ _ _ (by simp;omega),Blj (by omega)]
   ·intro i j Wf c u hc hj hu;cases i with
    |zero =>
     simp at hc;subst hc;have Ba4:j<sz:=by have:=(Bku.1 hj).1;omega
     rw[Bnr,Lk _ (by omega),Abr _ _ _ _ _ (by simp;omega)]at hu;rw[Blv (by simp;omega)]at hu;refine h3 j c u hj ?_;have:i0*sz+j-(i0*sz+0)=j:=by omega
     rw[this]at hu;simpa using hu
    |succ i =>
     refine hr' i j Wf c u (by simpa using hc) hj ?_;rw[← hu];have:i0+1+i=i0+(i+1):=by omega
     rw[this]
theorem Akm{t e:TypeId}{n sz:Nat}{Bke:Array (Nat×Operand)}{xs:A2 D}{i:TypeInfo}{z:Value}(ho:o.op = .buildSlice t n Bke)(ht:P.underlying t=some (.slice e))
  (hi:P.info? e=some i) (hz:i.zero=some z) (G9:i.size=sz) (hx:xs.length=n) (Ax4:Bke.toList.map (·.1)=List.range n) (Ja:(xs.all fun x=>A5j (.d x)&&x.cells.length==sz)=true)
  (Wg:n*sz≤16777216):Bp P o ((Bke.toList.map (·.2)).zip (xs.map .d)) X X [] (.d (.sl sz (xs.map D.cells))):=by
 subst G9;intro nm Ek B g w a hr Aq next Q hn
 have hpl:Bke.toList.length=n:=by rw[← Blb (f:=(·.1)),Ax4,Bqz]
 unfold Oper.wp;have B5z:∀(j:Nat) p x,Bke.toList[j]? = some p→xs[j]? = some x→RA g w (.d x) (a.eval p.2):=by
  intro j p x hp hx';exact Aq (p.2,.d x) (Bln (i:=j) (by
   rw[Bnw];exact⟨by rw[Bkt,hp];rfl,by rw[Bkt,hx'];rfl⟩))
 have Agj:∀(j:Nat) x,xs[j]? = some x→A5j (.d x)=true∧x.cells.length=i.size:=by intro j x hx';have:=Bly.1 Ja x (Bln hx');simpa using this
 generalize A17:((Array.range (n*i.size)).map fun x=>(if n*i.size=0 then #[]else z.cells)[x % (if n*i.size=0 then #[]else z.cells).size]!)=A94;have Agk:A94.size=n*i.size:=by subst A17;simp
 obtain⟨Ch,A6a,H4,_,hc'⟩:=A71 (g:=g) (w:=w) (sz:=i.size) (Bke.toList.map fun p=>(p.1,a.eval p.2)) (xs.map D.cells) 0 A94 (by simp[hpl,hx]) (by
  intro j p hp;rw[Bkt,Bky]at hp;obtain⟨q,hq,rfl⟩:=hp;have hj:j<n:=by have:=(Bku.1 hq).1;omega
  have:(Bke.toList.map (·.1))[j]? = some q.1:=by rw[Bkt,hq];rfl
  rw[Ax4,Bpk hj]at this;simp at this;simp[this]) (by
  intro j p cs hp Q2;rw[Bkt,Bky]at hp Q2;obtain⟨q,hq,rfl⟩:=hp;obtain⟨x,hx',rfl⟩:=Q2;obtain⟨f1,f2⟩:=Agj j x hx';obtain⟨c1,c2⟩:=(B5z j q x hq hx').cells f1;have hcl:(AV.d x).cells.length=x.cells.length:=by simp[AV.cells]
  refine⟨f2,by simp only;omega,?_⟩;intro k c u hk hu;have:=c2 k (.d c) u (by simp[AV.cells,hk]) hu;cases this with
  |d _ _ h=>exact h) (by simp[hpl,Agk])
 have C2:(execOp a.eval o).run P w = .ok (.value (.slice (some ⟨w.heap.size,0,none⟩) n n)) (w.alloc (.cells Ch e)):=by
  simp only[execOp,ho,Instr.buildSlice];have h24:¬(n*i.size>2 ^ 24):=by omega
  by_cases h0:n*i.size=0
  ·have e0:A94=#[]:=Bm8 (by omega);subst e0;have P0:Instr.fill (fun j=>some (j*i.size,i.size)) #[] (Bke.toList.map fun p=>(p.1,a.eval p.2))=some Ch:=A6a;have Bfv:¬(0>2 ^ 24):=by omega
   simp only[Blo,Bl0 ht,Blk,run_sizeOf hi,h0,Bn5];simp[Bpw,P0,Go.newRow]
  ·simp only[h0,Bn2]at A17;have P0:Instr.fill (fun j=>some (j*i.size,i.size)) A94 (Bke.toList.map fun p=>(p.1,a.eval p.2))=some Ch:=A6a;simp only[Blo,Bl0 ht,Blk,run_sizeOf hi,h24,Bn2,h0];simp[zeroValue,typeInfo,hi,hz,A17,P0,Go.newRow]
 rw[C2];obtain⟨h1,h2⟩:=hr.newRow Ch e (n*i.size) (by omega);refine hn _ _ _ h1 h2 (.d _ _ ?_);have Agi:∀k,(w.alloc (.cells Ch e)).cell? ⟨w.heap.size,k,none⟩=Ch[k]?:=fun k=>Bg (Bni w (.cells Ch e)) k
 refine .O3 (by simp[hx]) (by simp only[Aa];omega) (Bl1 _) ?_ ?_
 ·intro j cs Q2;rw[Bkt,Bky]at Q2;obtain⟨x,hx',rfl⟩:=Q2;exact(Agj j x hx').2
 ·intro p q cs c u hp hq hu;rw[Blx,Agi]at hu;exact(hc' p q cs c u hp hq (by rw[Blx];exact hu)).mono h2.le
end
mutual
def Ds(f:Nat→Nat):AV→AV
 |.d x=>.d x
 |.nm k p=>.nm (f k) p
 |.Bu n sz es ty=>.Bu n sz es ty
 |.Uo n e cs=>.Uo n e cs
 |.E2 l=>.E2 (Dj f l)
 |.agg l=>.agg (Dj f l)
 |.Ff g l=>.Ff g (Dj f l)
def Dj(f:Nat→Nat):List AV→List AV
 |[]=>[]
 |x::r=>Ds f x::Dj f r
end
mutual
def Cj(ks:List Nat):AV→Bool
 |.d _=>true
 |.nm k _=>ks.contains k
 |.Bu _ _ _ _=>false
 |.Uo _ _ _=>false
 |.E2 l=>Bx ks l
 |.agg l=>Bx ks l
 |.Ff _ l=>Bx ks l
def Bx(ks:List Nat):List AV→Bool
 |[]=>true
 |x::r=>Cj ks x&&Bx ks r
end
theorem Hi{ks:A2 Nat}{l:A2 AV}(h:Bx ks l=true){i:Nat}{x:AV}(hx:l[i]? = some x):Cj ks x=true:=by
 induction l generalizing i with
 |nil=>simp at hx
 |cons y r ih =>
  simp only[Bx,Bls]at h;cases i with
  |zero=>simp at hx;subst hx;exact h.1
  |succ i=>exact ih h.2 (by simpa using hx)
theorem Gb(f:Nat→Nat)(l:A2 AV):Dj f l=l.map (Ds f):=by
 induction l with
 |nil=>rfl
 |cons x r ih=>simp[Dj,ih]
theorem RA.Agl{g gc:Gh}{w:World}{ks:A2 Nat}{f:Nat→Nat}(hγ:gc.γ=g.γ)(hρ:∀k∈ks,gc.ρ k=g.ρ (f k)):∀(x:AV) (v:Value),Cj ks x=true→RA g w (Ds f x) v→RA gc w x v
 |.d x,v,_,h=>by
  simp only[Ds]at h;cases h with
  |d _ _ h=>exact .d _ _ (hγ▸h)
 |.nm k p,v,hn,h=>by
  simp only[Ds]at h;have hk:k∈ks:=by simpa[Cj]using hn
  cases h with
  |nm _ _ _ h=>exact .nm k p v (by rw[hρ k hk];exact h)
 |.Bu n sz es ty,v,hn,h=>by simp[Cj]at hn
 |.Uo n e cs,v,hn,h=>by simp[Cj]at hn
 |.E2 l,v,hn,h=>by
  simp only[Ds,Gb]at h;cases h with
  |E2 _ vs hl hx =>
   refine .E2 l vs (by simpa using hl) fun i x v h1 h2=>?_
   have:SizeOf.sizeOf x<SizeOf.sizeOf l:=Bn0 (Bln h1);exact RA.Agl hγ hρ x v (Hi (by simpa[Cj]using hn) h1) (hx i _ v (by rw[Bkt,h1];rfl) h2)
 |.agg l,v,hn,h=>by
  simp only[Ds,Gb]at h;cases h with
  |agg _ vs hl hx =>
   refine .agg l vs (by simpa using hl) fun i x v h1 h2=>?_
   have:SizeOf.sizeOf x<SizeOf.sizeOf l:=Bn0 (Bln h1);exact RA.Agl hγ hρ x v (Hi (by simpa[Cj]using hn) h1) (hx i _ v (by rw[Bkt,h1];rfl) h2)
 |.Ff c l,v,hn,h=>by
  simp only[Ds,Gb]at h;cases h with
  |Ff _ _ vs hl hx =>
   refine .Ff c l vs (by simpa using hl) fun i x v h1 h2=>?_
   have:SizeOf.sizeOf x<SizeOf.sizeOf l:=Bn0 (Bln h1);exact RA.Agl hγ hρ x v (Hi (by simpa[Cj]using hn) h1) (hx i _ v (by rw[Bkt,h1];rfl) h2)
termination_by x=>x
theorem RA.Am2{g gc:Gh}{w:World}{ks:A2 Nat}{f:Nat→Nat}(hγ:gc.γ=g.γ)(hρ:∀k∈ks,g.ρ (f k)=gc.ρ k){x:AV}{v:Value}(h:RA gc w x v)(hn:Cj ks x=true):RA g w (Ds f x) v:=by
 induction h with
 |d x v h=>simp only[Ds];exact .d _ _ (hγ▸h)
 |nm k p v h =>
  have hk:k∈ks:=by simpa[Cj]using hn
  simp only[Ds];exact .nm _ _ _ (by rw[hρ k hk];exact h)
 |Bu=>simp[Cj]at hn
 |Uo=>simp[Cj]at hn
 |E2 l vs hl _ ih =>
  simp only[Ds,Gb];refine .E2 _ vs (by simpa using hl) fun i x v h1 h2=>?_
  rw[Bkt,Bky]at h1;obtain⟨y,hy,rfl⟩:=h1;exact ih i y v hy h2 (Hi (by simpa[Cj]using hn) hy)
 |agg l vs hl _ ih =>
  simp only[Ds,Gb];refine .agg _ vs (by simpa using hl) fun i x v h1 h2=>?_
  rw[Bkt,Bky]at h1;obtain⟨y,hy,rfl⟩:=h1;exact ih i y v hy h2 (Hi (by simpa[Cj]using hn) hy)
 |Ff c l vs hl _ ih =>
  simp only[Ds,Gb];refine .Ff c _ vs (by simpa using hl) fun i x v h1 h2=>?_
  rw[Bkt,Bky]at h1;obtain⟨y,hy,rfl⟩:=h1;exact ih i y v hy h2 (Hi (by simpa[Cj]using hn) hy)
def E7(f:Nat→Nat):Ob→Ob
 |.cells cs ty=>.cells (Dj f cs) ty
 |.map l c=>.map l c
 |.Oy s pos=>.Oy s pos
 |.Jg k since seen last=>.Jg (f k) since seen last
 |.Dt=>.Dt
 |.Ck L sz l c=>.Ck L sz l c
def Ip(ks:A2 Nat):Ob→Bool
 |.cells cs _=>Bx ks cs
 |.map _ _=>true
 |.Oy _ _=>true
 |.Jg k _ _ _=>ks.contains k
 |.Dt=>true
 |.Ck _ _ _ _=>false
theorem C3.Agl{g gc:Gh}{w:World}{ks:A2 Nat}{f:Nat→Nat}(hγ:gc.γ=g.γ)(hρ:∀k∈ks,gc.ρ k=g.ρ (f k)){b:Nat}{o:Ob}(hn:Ip ks o=true)(h:C3 g w b (E7 f o)):C3 gc w b o:=by
 cases o with
 |cells cs ty =>
  simp only[E7,Gb]at h;cases h with
  |cells _ _ arr T hb hl hc h4 =>refine .cells cs ty arr T hb (by simpa using hl) (fun i x v hx hv=>?_) h4;exact RA.Agl hγ hρ x v (Hi (by simpa[Ip]using hn) hx) (hc i _ v (by rw[Bkt,hx];rfl) hv)
 |map l c =>
  simp only[E7]at h;cases h with
  |map _ _ es hb hl hc h4 h5=>exact .map l c es hb hl (fun i x e hx he=>⟨(hc i x e hx he).1,(hc i x e hx he).2.1,hγ▸(hc i x e hx he).2.2⟩) h4 h5
 |Oy s pos=>simp only[E7]at h;cases h with|Oy _ _ hb=>exact .Oy s pos hb
 |Jg k since seen last =>
  simp only[E7]at h;cases h with
  |Jg _ _ _ _ hb=>exact .Jg k since seen last (by rw[hρ k (Blz.1 hn)];exact hb)
 |Dt=>simp only[E7]at h;cases h with|Dt hb=>exact .Dt hb
 |Ck L sz l c=>simp[Ip]at hn
theorem C3.Am2{g gc:Gh}{w:World}{ks:A2 Nat}{f:Nat→Nat}(hγ:gc.γ=g.γ)(hρ:∀k∈ks,g.ρ (f k)=gc.ρ k){b:Nat}{o:Ob}(hn:Ip ks o=true)(h:C3 gc w b o):C3 g w b (E7 f o):=by
 cases h with
 |cells cs ty arr T hb hl hc h4 =>simp only[E7,Gb];refine .cells _ ty arr T hb (by simpa using hl) (fun i x v hx hv=>?_) h4;rw[Bkt,Bky]at hx;obtain⟨y,hy,rfl⟩:=hx;exact(hc i y v hy hv).Am2 hγ hρ (Hi (by simpa[Ip]using hn) hy)
 |map l c es hb hl hc h4 h5 =>exact .map l c es hb hl (fun i x e hx he=>⟨(hc i x e hx he).1,(hc i x e hx he).2.1,hγ▸(hc i x e hx he).2.2⟩) h4 h5
 |Oy s pos hb=>exact .Oy s pos hb
 |Jg k since seen last hb=>exact .Jg (f k) since seen last (by rw[hρ k (Blz.1 hn)];exact hb)
 |Dt hb=>exact .Dt hb
 |Ck L sz l c es hb hl hc h4 h5=>simp[Ip]at hn
def nf(σ:A2 (Nat×Nat))(k:Nat):Nat:=(σ.lookup k).getD 0
def Ou(f:Nat→Nat):A2 (Nat×Ob)→A2 (Nat×Ob)→A2 (Nat×Ob)
 |[],acc=>acc
 |p::r,acc=>Ou f r (setObj (f p.1) (E7 f p.2) acc)
theorem S2{f:Nat→Nat}:∀(l acc:A2 (Nat×Ob)) (j:Nat),(∀p∈l,f p.1≠j)→(Ou f l acc).lookup j=acc.lookup j
 |[],_,_,_=>rfl
 |p::r,acc,j,h=>by
  simp only[Ou];rw[S2 r _ j (fun q hq=>h q (Bkx _ hq)),B3,Blj (Bnf (h p Bkz))]
theorem A1v{f:Nat→Nat}:∀(l acc:A2 (Nat×Ob)) (p:Nat×Ob),(l.map fun p=>f p.1).Nodup→p∈l→(Ou f l acc).lookup (f p.1)=some (E7 f p.2)
 |[],_,_,_,h=>by simp at h
 |q::r,acc,p,hnd,h=>by
  simp only[Bkv,Bm1]at hnd;simp only[Ou];rcases Bkq.1 h with rfl|h
  ·rw[S2 r _ _ (fun q hq he=>hnd.1 (by rw[← he];exact Bl3 (f:=fun p:Nat×Ob=>f p.1) hq)),B3,Blv rfl]
  ·exact A1v r _ p hnd.2 h
theorem Be{α:Type}:∀ {l:A2 (Nat×α)} {k:Nat} {x:α},(l.map (·.1)).Nodup→(k,x)∈l→l.lookup k=some x
 |[],_,_,_,h=>by simp at h
 |(j,y)::r,k,x,hnd,h=>by
  simp only[Bkv,Bm1]at hnd;rw[Blw];rcases Bkq.1 h with h'|h'
  ·cases h';simp
  ·have hne:k≠j:=by rintro rfl;exact hnd.1 (Bl3 (f:=(·.1)) h')
   have:(k==j)=false:=by simpa using hne
   rw[this];exact Be hnd.2 h'
structure Afs(X Xc D1:A7)(f:Nat→Nat)(F:List Nat):Prop where
 live:Xc.live=[]∧D1.live=[]
 Sd:∀p∈Xc.objs,X.objs.lookup (f p.1)=some (E7 f p.2)
 Aok:(Xc.objs.all fun p=>Ip (Xc.objs.map (·.1)) p.2)=true
 Agm:(D1.objs.all fun p=>Ip (D1.objs.map (·.1)) p.2)=true
 nodup:(D1.objs.map fun p=>f p.1).Nodup
 Ax5:(Xc.objs.map (·.1)).Nodup
 new:∀p∈D1.objs,p.1∈Xc.objs.map (·.1)∨(f p.1∈F∧X.objs.lookup (f p.1)=none)
 sub:∀p∈Xc.objs,p.1∈D1.objs.map (·.1)
 free:B7 F X=true
theorem Jb{α β:Type}{f:α→β}:∀ {l:A2 α},(l.map f).Nodup→∀ {x y:α},x∈l→y∈l→f x=f y→x=y
 |[],_,_,_,h,_,_=>by simp at h
 |a::r,hnd,x,y,hx,hy,he=>by
  simp only[Bkv,Bm1]at hnd;rcases Bkq.1 hx with hx'|hx'<;>rcases Bkq.1 hy with hy'|hy'
  ·rw[hx',hy']
  ·rw[hx']at he;exact(hnd.1 (he▸Bl3 (f:=f) hy')).elim
  ·rw[hy']at he;exact(hnd.1 (he▸Bl3 (f:=f) hx')).elim
  ·exact Jb hnd.2 hx' hy' he
theorem Xy{α β γ:Type}{f:α→β}{h:β→γ}:∀ {l:A2 α},(l.map fun x=>h (f x)).Nodup→(l.map f).Nodup
 |[],_=>by simp
 |a::r,hnd=>by
  simp only[Bkv,Bm1]at hnd⊢;refine⟨fun hm=>hnd.1 ?_,Xy hnd.2⟩;obtain⟨x,hx,he⟩:=Bl2.1 hm;rw[← he];exact Bl3 (f:=fun x=>h (f x)) hx
section
variable{P:Program}{X:A7}
theorem Lz.Bdr{fn:FuncId}{xs:A2 AV}{res:AV}{Xc D1:A7}(hs:Lz P fn xs Xc res D1){f:Nat→Nat}{F:A2 Nat}(hc:Afs X Xc D1 f F)
  (hd:Bx (Xc.objs.map (·.1)) xs=true) (Uq:Cj (D1.objs.map (·.1)) res=true) {nm:A2 Nat} {B:Bl} {g:Gh} {w:World}
  (hr:HR nm B g w X) {vs:Array Value} (hl:xs.length=vs.size) (Nz:∀(i:Nat) x v,(Dj f xs)[i]? = some x→vs[i]? = some v→RA g w x v) :
  Calls P fn vs w fun e w'=>∃v g',e = .returned v∧HR nm B g' w' ⟨Ou f D1.objs X.objs,X.live⟩∧Trans F g w g' w'∧RA g' w' (Ds f res) v:=by
 let gc:Gh:={ γ:=g.γ,β:=fun _=>none,ρ:=fun k=>g.ρ (f k) };have Kz:∀k o,Xc.objs.lookup k=some o→X.objs.lookup (f k)=some (E7 f o):=fun k o hk=>hc.Sd _ (Di hk)
 have Aol:∀p∈D1.objs,∀q∈D1.objs,f p.1=f q.1→p=q:=fun p hp q hq he=>Jb hc.nodup hp hq he
 have Abs:(D1.objs.map (·.1)).Nodup:=Xy (h:=f) hc.nodup;have A95:∀k o,Xc.objs.lookup k=some o→∃p∈D1.objs,p.1=k:=by intro k o hk;obtain⟨p,hp,he⟩:=Bl2.1 (hc.sub _ (Di hk));exact⟨p,hp,he⟩
 have h0:HR (Xc.objs.map (·.1)) (Bl.of gc w Xc) gc w Xc:=by
  refine⟨?_,hr.Ik,Bl1 _,⟨rfl,rfl,rfl,Bl1 _⟩,.refl _ _,fun b _ _=>⟨rfl,rfl⟩,?_,?_,?_,?_,?_,by simp[gc],by simp[gc],by simp[gc],by simp[gc],.off fun _=>rfl⟩
  ·intro k hk;refine⟨rfl,?_⟩;obtain⟨p,hp,rfl⟩:=Bl2.1 hk;rw[Be hc.Ax5 (x:=p.2) hp];rfl
  ·intro k o hk;exact C3.Agl (g:=g) (gc:=gc) (f:=f) (ks:=Xc.objs.map (·.1)) rfl (fun _ _=>rfl) (Bly.1 hc.Aok _ (Di hk)) (hr.objs _ _ (Kz k o hk))
  ·intro k o hk;exact hr.Fx _ _ (Kz k o hk)
  ·intro k k' o o' hk Lk he;have h1:=hr.C0 _ _ _ _ (Kz k o hk) (Kz k' o' Lk) he;obtain⟨p,hp,e1⟩:=A95 k o hk;obtain⟨q,hq,e2⟩:=A95 k' o' Lk;have:=Aol p hp q hq (by rw[e1,e2];exact h1);rw[← e1,← e2,this]
  ·intro k o hk;exact .inr (.inl ⟨k,o,hk,rfl⟩)
  ·intro n;rw[hc.live.1];simp[gc]
 have:=hs gc w vs h0 hl fun i x v hx hv=>RA.Agl (g:=g) (gc:=gc) (ks:=Xc.objs.map (·.1)) rfl (fun _ _=>rfl) x v (Hi hd hx) (Nz i _ v (by rw[Gb,Bkt,hx];rfl) hv)
 refine this.mono ?_;rintro e w' ⟨g1,v,rfl,T8,h1⟩;let ρ':Nat→Nat:=fun j=>match D1.objs.find? (fun p=>f p.1==j) with
  |some p=>g1.ρ p.1
  |none=>g.ρ j
 have Ho:∀p∈D1.objs,ρ' (f p.1)=g1.ρ p.1:=by
  intro p hp;have H4:(D1.objs.find? (fun q=>f q.1==f p.1)).isSome=true:=by rw[Br0];exact⟨p,hp,by simp⟩
  obtain⟨q,hq⟩:=Blm.1 H4;have hq1:=Brg hq;have hq2:=Bpn hq;simp only[Bp8]at hq1;have:=Aol q hq2 p hp hq1;simp only[ρ',hq,this]
 have Dd:∀j,(∀p∈D1.objs,f p.1≠j)→ρ' j=g.ρ j:=by
  intro j hj;have:D1.objs.find? (fun p=>f p.1==j)=none:=by rw[Bqq];intro p hp;simpa using hj p hp
  simp only[ρ',this]
 have A72:∀j,(∃p∈D1.objs,f p.1=j)∨(∀p∈D1.objs,f p.1≠j):=by
  intro j;by_cases h:∃p∈D1.objs,f p.1=j
  ·exact .inl h
  ·exact .inr fun p hp he=>h ⟨p,hp,he⟩
 have hold:∀k,k∈Xc.objs.map (·.1)→g1.ρ k=g.ρ (f k):=fun k hk=>(h1.Dc k hk).1
 have hna:∀b,(¬ ∃k o,Xc.objs.lookup k=some o∧g.ρ (f k)=b)→¬(Bl.of gc w Xc).allowed b:=by
  rintro b hb (⟨k,o,hk,he⟩|⟨n,hn⟩)
  ·exact hb ⟨k,o,hk,he⟩
  ·cases hn
 have Q5:∀b,b<w.heap.size→(¬ ∃k o,Xc.objs.lookup k=some o∧g.ρ (f k)=b)→w'.heap[b]? = w.heap[b]?∧g1.γ b=g.γ b:=fun b hb hn=>h1.frame b hb (hna b hn)
 have G9:w.heap.size≤w'.heap.size:=h1.base;have hle:LeD g.γ w g1.γ w':=h1.le;have A1w:∀n b,g.β n=some (some b)→w'.heap[b]? = w.heap[b]?∧g1.γ b=g.γ b:=by intro n b hn;refine Q5 b (hr.Cd n b hn) ?_;rintro ⟨k,o,hk,he⟩;exact hr.Bo n b _ _ hn (Kz k o hk) he.symm
 have A1x:∀L i b,(g.β L).isSome→g.η L i=some b→w'.heap[b]? = w.heap[b]?∧g1.γ b=g.γ b:=by intro L i b hL hb;refine Q5 b (hr.eta.lt L i b hL hb) ?_;rintro ⟨k,o,hk,he⟩;exact hr.eta.obj L i b _ _ hL hb (Kz k o hk) he.symm
 have A1y:∀j o,X.objs.lookup j=some o→(∀p∈D1.objs,f p.1≠j)→w'.heap[g.ρ j]? = w.heap[g.ρ j]?∧g1.γ (g.ρ j)=g.γ (g.ρ j):=by intro j o hj hne;refine Q5 _ (Ey (hr.objs j o hj)) ?_;rintro ⟨k,o',hk,he⟩;have:=hr.C0 _ _ _ _ (Kz k o' hk) hj he;obtain⟨p,hp,e1⟩:=A95 k o' hk;exact hne p hp (by rw[e1];exact this)
 have Aft:∀p∈D1.objs,p.1∉Xc.objs.map (·.1)→w.heap.size≤g1.ρ p.1:=by
  intro p hp Bib;have hlp:D1.objs.lookup p.1=some p.2:=Be Abs hp;rcases h1.Ce _ _ hlp with h|h|⟨n,hn⟩
  ·exact h
  ·obtain⟨k,o,hk,he⟩:=h;exfalso;obtain⟨q,hq,e1⟩:=A95 k o hk;have hlq:D1.objs.lookup q.1=some q.2:=Be Abs hq;have hkm:k∈Xc.objs.map (·.1):=Bl3 (f:=(·.1)) (Di hk);have:g1.ρ q.1=g1.ρ p.1:=by rw[e1,hold k hkm];exact he
   have:=h1.C0 _ _ _ _ hlq hlp this;exact Bib (this▸e1▸hkm)
  ·cases hn
 have ht:Trans F g w { γ:=g1.γ,β:=g.β,ρ:=ρ',η:=g.η } w':=by
  refine⟨hle,?_,fun n ob _ he=>⟨he,fun b hb=>⟨(A1w n b (hb▸he)).2,(A1w n b (hb▸he)).1⟩⟩,fun L _ hL=>⟨rfl,fun i b hb=>⟨(A1x L i b hL hb).2,(A1x L i b hL hb).1⟩⟩⟩;intro j hj;simp only;rcases A72 j with ⟨p,hp,rfl⟩|hne
  ·rw[Ho p hp];rcases hc.new p hp with h|⟨h,_⟩
   ·exact hold _ h
   ·exact(hj h).elim
  ·exact Dd j hne
 have hX':∀j o,(Ou f D1.objs X.objs).lookup j=some o→(∃p∈D1.objs,f p.1=j∧o=E7 f p.2)∨((∀p∈D1.objs,f p.1≠j)∧X.objs.lookup j=some o):=by
  intro j o hj;rcases A72 j with ⟨p,hp,rfl⟩|hne
  ·rw[A1v _ _ p hc.nodup hp]at hj;exact .inl ⟨p,hp,rfl,by simpa using hj.symm⟩
  ·rw[S2 _ _ _ hne]at hj;exact .inr ⟨hne,hj⟩
 have Agn:∀k∈D1.objs.map (·.1),ρ' (f k)=g1.ρ k:=by intro k hk;obtain⟨p,hp,rfl⟩:=Bl2.1 hk;exact Ho p hp
 refine⟨v,{ γ:=g1.γ,β:=g.β,ρ:=ρ',η:=g.η },rfl,⟨?_,h1.Ik,Bmh hr.base G9,⟨h1.io.1.trans hr.io.1,h1.io.2.1.trans hr.io.2.1,h1.io.2.2.1.trans hr.io.2.2.1,Bmh hr.io.2.2.2 h1.io.2.2.2⟩,hr.le.trans hle,?_,?_,?_,?_,?_,hr.live,hr.C4,?_,hr.Ca,?_,hr.eta.step (fun L hL=>.inl ⟨hL,rfl⟩) G9 (fun n b hb=>.inl ⟨n,hb⟩) fun j o hj=>?_⟩,ht,?_⟩
 ·intro k hk;obtain⟨h2,h3⟩:=hr.Dc k hk;rcases A72 k with ⟨p,hp,rfl⟩|hne
  ·refine⟨?_,by simp only;rw[A1v _ _ p hc.nodup hp];rfl⟩;simp only;rw[Ho p hp];rcases hc.new p hp with h|⟨_,h⟩
   ·rw[hold _ h];exact h2
   ·rw[h]at h3;cases h3
  ·exact⟨by simp only;rw[Dd k hne];exact h2,by simp only;rw[S2 _ _ _ hne];exact h3⟩
 ·intro b hb hnb;have h2:=hr.frame b hb hnb;have h3:=Q5 b (Bmn hb hr.base) (by
   rintro ⟨k,o,hk,he⟩;rcases hr.Ce _ _ (Kz k o hk)with h|h
   ·rw[he]at h;omega
   ·rw[he]at h;exact hnb h)
  exact⟨h3.1.trans h2.1,h3.2.trans h2.2⟩
 ·intro j o hj;rcases hX' j o hj with ⟨p,hp,rfl,rfl⟩|⟨hne,Gf⟩
  ·simp only;rw[Ho p hp];exact C3.Am2 (g:={ γ:=g1.γ,β:=g.β,ρ:=ρ',η:=g.η }) (gc:=g1) rfl Agn (Bly.1 hc.Agm _ hp) (h1.objs _ _ (Be Abs hp))
  ·simp only;rw[Dd j hne];exact(hr.objs j o Gf).Dc ht (A1y j o Gf hne).1 (Hh hc.free Gf)
 ·intro j o hj;rcases hX' j o hj with ⟨p,hp,rfl,rfl⟩|⟨hne,Gf⟩
  ·simp only;rw[Ho p hp];exact h1.Fx _ _ (Be Abs hp)
  ·simp only;rw[Dd j hne,(A1y j o Gf hne).2];exact hr.Fx j o Gf
 ·intro j j' o o' hj Gf he;simp only at he;have mix:∀p∈D1.objs,∀j o,X.objs.lookup j=some o→(∀p∈D1.objs,f p.1≠j)→g1.ρ p.1≠g.ρ j:=by
   intro p hp j o hj hne he;by_cases Up:p.1∈Xc.objs.map (·.1)
   ·rw[hold _ Up]at he;obtain⟨q,hq,e1⟩:=Bl2.1 Up;have h4:=hc.Sd q hq;rw[e1]at h4;exact hne p hp (hr.C0 _ _ _ _ h4 hj he)
   ·have h5:=Aft p hp Up;have h6:=Ey (hr.objs j o hj);omega
  rcases hX' j o hj with ⟨p,hp,e1,_⟩|⟨hne,hj1⟩<;>rcases hX' j' o' Gf with ⟨q,hq,e2,_⟩|⟨Ta,At6⟩
  ·rw[← e1,← e2]at he⊢;rw[Ho p hp,Ho q hq]at he;rw[h1.C0 _ _ _ _ (Be Abs hp) (Be Abs hq) he]
  ·rw[← e1,Ho p hp,Dd j' Ta]at he;exact(mix p hp j' o' At6 Ta he).elim
  ·rw[← e2,Ho q hq,Dd j hne]at he;exact(mix q hq j o hj1 hne he.symm).elim
  ·rw[Dd j hne,Dd j' Ta]at he;exact hr.C0 j j' o o' hj1 At6 he
 ·intro j o hj;rcases hX' j o hj with ⟨p,hp,rfl,rfl⟩|⟨hne,Gf⟩
  ·simp only;rw[Ho p hp];by_cases Up:p.1∈Xc.objs.map (·.1)
   ·rw[hold _ Up];obtain⟨q,hq,e1⟩:=Bl2.1 Up;have h4:=hc.Sd q hq;rw[e1]at h4;exact hr.Ce _ _ h4
   ·exact .inl (Bmh hr.base (Aft p hp Up))
  ·simp only;rw[Dd j hne];exact hr.Ce j o Gf
 ·intro n b j o hn hj;rcases hX' j o hj with ⟨p,hp,rfl,rfl⟩|⟨hne,Gf⟩
  ·simp only;rw[Ho p hp];by_cases Up:p.1∈Xc.objs.map (·.1)
   ·rw[hold _ Up];obtain⟨q,hq,e1⟩:=Bl2.1 Up;have h4:=hc.Sd q hq;rw[e1]at h4;exact hr.Bo n b _ _ hn h4
   ·have:=Aft p hp Up;have:=hr.Cd n b hn;omega
  ·simp only;rw[Dd j hne];exact hr.Bo n b j o hn Gf
 ·intro n b hn;exact Bmn (hr.Cd n b hn) G9
 ·rcases hX' j o hj with ⟨p,hp,rfl,rfl⟩|⟨hne,Gf⟩
  ·simp only;rw[Ho p hp];by_cases Up:p.1∈Xc.objs.map (·.1)
   ·rw[hold _ Up];obtain⟨q,hq,e1⟩:=Bl2.1 Up;have h4:=hc.Sd q hq;rw[e1]at h4;exact .inl ⟨_,_,h4,rfl⟩
   ·exact .inr (.inl (Aft p hp Up))
  ·simp only;rw[Dd j hne];exact .inl ⟨j,o,Gf,rfl⟩
 ·exact RA.Am2 (g:={ γ:=g1.γ,β:=g.β,ρ:=ρ',η:=g.η }) (gc:=g1) rfl Agn T8 Uq
theorem Ae0{o:Oper}{fn:FuncId}{args:Array Operand}{ts:Array TypeId}{xs:A2 AV}{res:AV}{Xc D1:A7}(σ:A2 (Nat×Nat))(F:A2 Nat)
  (ho:o.op = .call { callee:=.value (.func fn),args:=args,argTypes:=ts }) (hf:Ez P fn) (hs:Lz P fn xs Xc res D1) (hc:Afs X Xc D1 (nf σ) F)
  (hl:xs.length=args.size) (hd:Bx (Xc.objs.map (·.1)) xs=true) (Uq:Cj (D1.objs.map (·.1)) res=true) :
  Bp P o (args.toList.zip (Dj (nf σ) xs)) X ⟨Ou (nf σ) D1.objs X.objs,X.live⟩ F (Ds (nf σ) res):=by
 intro nm Ek B g w a hr Aq next Q hn
 unfold Oper.wp;have:(execOp a.eval o).run P w = .ok (.enter fn (args.map a.eval)) w:=by simp only[execOp,ho,resolve];simp[Act.eval,Deferred.ofValue,invoke,D5 hf]
 rw[this];refine(hs.Bdr hc hd Uq hr (by simpa using hl) (V6 Aq)).mono ?_;rintro e w' ⟨v,g',rfl,h1,h2,h3⟩;exact hn g' w' v h1 h2 h3
end
inductive M6 where
 |none
 |look (ks:List Nat)
 |put (k:Nat) (c:Ob)
 |all (X:A7)
 |lab (L:List Nat)
 |Nl (k:Nat) (c:Ob) (L:List Nat)
 |new (os:List (Nat×Ob)) (L:List Nat)
def M6.apply:M6→A7→A7
 |.put k c,X=>⟨setObj k c X.objs,X.live⟩
 |.all X',_=>X'
 |.lab L,X=>⟨X.objs,L⟩
 |.Nl k c L,X=>⟨setObj k c X.objs,L⟩
 |.new os L,X=>⟨os++X.objs,L⟩
 |_,X=>X
def M6.writes(k:Nat):M6→Bool
 |.put j _=>j==k
 |.Nl j _ _=>j==k
 |.new os _=>(os.lookup k).isSome
 |.all _=>true
 |_=>false
def M6.Tp:M6→M6→Bool
 |.none,_|_,.none=>false
 |.look _,.look _=>false
 |.look js,.put k _|.put k _,.look js=>js.contains k
 |.look js,.Nl k _ _|.Nl k _ _,.look js=>js.contains k
 |.look _,.lab _|.lab _,.look _=>false
 |.look js,.new os _|.new os _,.look js=>js.any fun k=>(os.lookup k).isSome
 |.put j _,.put k _=>j==k
 |_,_=>true
structure It where
 o:Oper
 run:Bool
 rd:List (Operand×AV)
 U3:M6
 F:List Nat
 res:AV
inductive Gc(P:Program)(S:Sig)(ops:Array Oper):Nat→St→List It→St→Prop
 |nil (i:Nat) (st:St):Gc P S ops i st [] st
 |op {i:Nat} {o:Oper} {st Bq:St} {rd:List (Operand×AV)} {res:AV} {Ay:List It} :
   ops[i]? = some o→Guard ops st o.guard true→(∀p∈rd,E3 st p.1 p.2)→(∀X,Bp P o rd X X [] res)→Jh S.N o.dst=true →
   Gc P S ops (i+1) ⟨Du o.dst res st.env,st.X⟩ Ay Bq→Gc P S ops i st (⟨o,true,rd,.none,[],res⟩::Ay) Bq
 |look {i:Nat} {o:Oper} {st Bq:St} {rd:List (Operand×AV)} {res:AV} {Ay:List It} {ks:List Nat} :
   ops[i]? = some o→Guard ops st o.guard true→(∀p∈rd,E3 st p.1 p.2)→(∀X:A7,(∀k∈ks,X.objs.lookup k=st.X.objs.lookup k)→Bp P o rd X X [] res)→Jh S.N o.dst=true →
   Gc P S ops (i+1) ⟨Du o.dst res st.env,st.X⟩ Ay Bq→Gc P S ops i st (⟨o,true,rd,.look ks,[],res⟩::Ay) Bq
 |put {i:Nat} {o:Oper} {st Bq:St} {rd:List (Operand×AV)} {res:AV} {Ay:List It} {k:Nat} {c:Ob} :
   ops[i]? = some o→Guard ops st o.guard true→(∀p∈rd,E3 st p.1 p.2) →
   (∀X,X.objs.lookup k=st.X.objs.lookup k→Bp P o rd X ⟨setObj k c X.objs,X.live⟩ [] res)→Jh S.N o.dst=true →
   Gc P S ops (i+1) ⟨Du o.dst res st.env,⟨setObj k c st.X.objs,st.X.live⟩⟩ Ay Bq→Gc P S ops i st (⟨o,true,rd,.put k c,[],res⟩::Ay) Bq
 |U3 {i:Nat} {o:Oper} {st Bq:St} {rd:List (Operand×AV)} {res:AV} {Ay:List It} {X':A7} {F:List Nat} :
   ops[i]? = some o→Guard ops st o.guard true→(∀p∈rd,E3 st p.1 p.2)→Bp P o rd st.X X' F res→Jh S.N o.dst=true →
   Gc P S ops (i+1) ⟨Du o.dst res st.env,X'⟩ Ay Bq→Gc P S ops i st (⟨o,true,rd,.all X',F,res⟩::Ay) Bq
 |lab {i:Nat} {o:Oper} {st Bq:St} {rd:List (Operand×AV)} {res:AV} {Ay:List It} {L:List Nat} {F:List Nat} :
   ops[i]? = some o→Guard ops st o.guard true→(∀p∈rd,E3 st p.1 p.2)→Bp P o rd st.X ⟨st.X.objs,L⟩ F res→Jh S.N o.dst=true →
   Gc P S ops (i+1) ⟨Du o.dst res st.env,⟨st.X.objs,L⟩⟩ Ay Bq→Gc P S ops i st (⟨o,true,rd,.lab L,F,res⟩::Ay) Bq
 |Nl {i:Nat} {o:Oper} {st Bq:St} {rd:List (Operand×AV)} {res:AV} {Ay:List It} {k:Nat} {c:Ob} {L:List Nat} {F:List Nat} :
   ops[i]? = some o→Guard ops st o.guard true→(∀p∈rd,E3 st p.1 p.2)→Bp P o rd st.X ⟨setObj k c st.X.objs,L⟩ F res→Jh S.N o.dst=true →
   Gc P S ops (i+1) ⟨Du o.dst res st.env,⟨setObj k c st.X.objs,L⟩⟩ Ay Bq→Gc P S ops i st (⟨o,true,rd,.Nl k c L,F,res⟩::Ay) Bq
 |new {i:Nat} {o:Oper} {st Bq:St} {rd:List (Operand×AV)} {res:AV} {Ay:List It} {os:List (Nat×Ob)} {L:List Nat} {F:List Nat} :
   ops[i]? = some o→Guard ops st o.guard true→(∀p∈rd,E3 st p.1 p.2)→Bp P o rd st.X ⟨os++st.X.objs,L⟩ F res→Jh S.N o.dst=true →
   Gc P S ops (i+1) ⟨Du o.dst res st.env,⟨os++st.X.objs,L⟩⟩ Ay Bq→Gc P S ops i st (⟨o,true,rd,.new os L,F,res⟩::Ay) Bq
 |skip {i:Nat} {o:Oper} {st Bq:St} {Ay:List It} :
   ops[i]? = some o→Guard ops st o.guard false→Jh S.N o.dst=true →
   Gc P S ops (i+1) ⟨Du o.dst (.d (.sc undef)) st.env,st.X⟩ Ay Bq→Gc P S ops i st (⟨o,false,[],.none,[],.d (.sc undef)⟩::Ay) Bq
def E(base:Nat→A3 AV)(Ay:A2 It)(D:Nat→Bool):Nat→Nat→A3 AV
 |0,t=>base t
 |m+1,t=>match Ay[m]? with
  |some it=>if D m&&(it.o.dst==some t)then some it.res else E base Ay D m t
  |none=>E base Ay D m t
def XE(X0:A7)(Ay:A2 It)(D:Nat→Bool):Nat→A7
 |0=>X0
 |m+1=>match Ay[m]? with
  |some it=>if D m then it.U3.apply (XE X0 Ay D m)else XE X0 Ay D m
  |none=>XE X0 Ay D m
structure Ba5(P:Program)(S:Sig)(ops:Array Oper)(i:Nat)(it:It)(st:St):Prop where
 at_:ops[i]? = some it.o
 dst:Jh S.N it.o.dst=true
 guard:Guard ops st it.o.guard it.run
 Ri:∀p∈it.rd,E3 st p.1 p.2
 opt:it.run=true→match it.U3 with
  |.none=>it.F=[]∧∀X,Bp P it.o it.rd X X [] it.res
  |.look ks=>it.F=[]∧∀X:A7,(∀k∈ks,X.objs.lookup k=st.X.objs.lookup k)→Bp P it.o it.rd X X [] it.res
  |.put k c=>it.F=[]∧∀X,X.objs.lookup k=st.X.objs.lookup k→Bp P it.o it.rd X ⟨setObj k c X.objs,X.live⟩ [] it.res
  |.all X'=>Bp P it.o it.rd st.X X' it.F it.res
  |.lab L=>Bp P it.o it.rd st.X ⟨st.X.objs,L⟩ it.F it.res
  |.Nl k c L=>Bp P it.o it.rd st.X ⟨setObj k c st.X.objs,L⟩ it.F it.res
  |.new os L=>Bp P it.o it.rd st.X ⟨os++st.X.objs,L⟩ it.F it.res
 Ba6:it.run=false→it.U3 = .none∧it.F=[]∧it.res = .d (.sc undef)
theorem Aom(base:Nat→A3 AV)(it:It)(Ay:A2 It)(D:Nat→Bool):∀(m t:Nat),
  E (fun t=>if D 0&&(it.o.dst==some t)then some it.res else base t) Ay (fun k=>D (k+1)) m t=E base (it::Ay) D (m+1) t
 |0,t=>by simp[E]
 |m+1,t=>by
  have ih:=Aom base it Ay D m t
  conv=>lhs;unfold E
  rw[ih]
  conv=>rhs;unfold E
  simp
theorem Ago(X0:A7)(it:It)(Ay:A2 It)(D:Nat→Bool):∀(m:Nat),
  XE (if D 0 then it.U3.apply X0 else X0) Ay (fun k=>D (k+1)) m=XE X0 (it::Ay) D (m+1)
 |0=>by simp[XE]
 |m+1=>by
  have ih:=Ago X0 it Ay D m
  conv=>lhs;unfold XE
  rw[ih]
  conv=>rhs;unfold XE
  simp
theorem A6c(dst:A3 Tmp)(x:AV)(env:A2 (Nat×AV))(t:Nat):(Du dst x env).lookup t=if dst==some t then some x else env.lookup t:=by
 cases dst with
 |none=>rfl
 |some d =>
  simp only[Du,Blw];by_cases h:t=d
  ·subst h;simp
  ·have h1:(t==d)=false:=by simpa using h
   have h2:(some d==some t)=false:=by simpa using Bnf h
   rw[h1,h2];rfl
theorem Gc.items{P:Program}{S:Sig}{ops:Array Oper}{i:Nat}{st Bq:St}{Ay:A2 It}(h:Gc P S ops i st Ay Bq) :
  (∀m it,Ay[m]? = some it→∃stm,Ba5 P S ops (i+m) it stm∧(∀t,stm.env.lookup t=E (fun t=>st.env.lookup t) Ay (fun _=>true) m t)∧stm.X=XE st.X Ay (fun _=>true) m) ∧
  (∀t,Bq.env.lookup t=E (fun t=>st.env.lookup t) Ay (fun _=>true) Ay.length t)∧Bq.X=XE st.X Ay (fun _=>true) Ay.length:=by
 have key:∀ {i:Nat} {st Bq:St} {it:It} {Ay:A2 It} {X1:A7},Ba5 P S ops i it st→(X1=it.U3.apply st.X) →
   ((∀m it',Ay[m]? = some it'→∃stm,Ba5 P S ops (i+1+m) it' stm∧(∀t,stm.env.lookup t=E (fun t=>(Du it.o.dst it.res st.env).lookup t) Ay (fun _=>true) m t)∧stm.X=XE X1 Ay (fun _=>true) m) ∧
    (∀t,Bq.env.lookup t=E (fun t=>(Du it.o.dst it.res st.env).lookup t) Ay (fun _=>true) Ay.length t)∧Bq.X=XE X1 Ay (fun _=>true) Ay.length) →
   (∀m it',(it::Ay)[m]? = some it'→∃stm,Ba5 P S ops (i+m) it' stm∧(∀t,stm.env.lookup t=E (fun t=>st.env.lookup t) (it::Ay) (fun _=>true) m t)∧stm.X=XE st.X (it::Ay) (fun _=>true) m) ∧
    (∀t,Bq.env.lookup t=E (fun t=>st.env.lookup t) (it::Ay) (fun _=>true) (it::Ay).length t)∧Bq.X=XE st.X (it::Ay) (fun _=>true) (it::Ay).length:=by
  intro i st Bq it Ay X1 Ja hX ⟨h1,h2,h3⟩;have hb:(fun t=>(Du it.o.dst it.res st.env).lookup t)=fun t=>if (fun _:Nat=>true) 0&&(it.o.dst==some t)then some it.res else st.env.lookup t:=by funext t;rw[A6c];simp
  have hx:X1=(if (fun _:Nat=>true) 0 then it.U3.apply st.X else st.X):=by rw[hX];simp
  refine⟨?_,?_,?_⟩
  ·intro m it' hm;cases m with
   |zero=>simp at hm;subst hm;exact⟨st,Ja,fun _=>rfl,rfl⟩
   |succ m =>
    obtain⟨stm,k1,k2,k3⟩:=h1 m it' (by simpa using hm);refine⟨stm,by rw[show i+(m+1)=i+1+m by omega];exact k1,fun t=>?_,?_⟩
    ·rw[k2 t,hb];exact Aom (fun t=>st.env.lookup t) it Ay (fun _=>true) m t
    ·rw[k3,hx];exact Ago st.X it Ay (fun _=>true) m
  ·intro t;rw[h2 t,hb];exact Aom (fun t=>st.env.lookup t) it Ay (fun _=>true) Ay.length t
  ·rw[h3,hx];exact Ago st.X it Ay (fun _=>true) Ay.length
 induction h with
 |nil i st=>exact⟨by simp,fun _=>rfl,rfl⟩
 |op h1 h2 h3 h4 h5 _ ih=>exact key (it:=⟨_,true,_,.none,[],_⟩) ⟨h1,h5,h2,h3,fun _=>⟨rfl,h4⟩,by simp⟩ rfl ih
 |look h1 h2 h3 h4 h5 _ ih=>exact key (it:=⟨_,true,_,.look _,[],_⟩) ⟨h1,h5,h2,h3,fun _=>⟨rfl,h4⟩,by simp⟩ rfl ih
 |put h1 h2 h3 h4 h5 _ ih=>exact key (it:=⟨_,true,_,.put _ _,[],_⟩) ⟨h1,h5,h2,h3,fun _=>⟨rfl,h4⟩,by simp⟩ rfl ih
 |U3 h1 h2 h3 h4 h5 _ ih=>exact key (it:=⟨_,true,_,.all _,_,_⟩) ⟨h1,h5,h2,h3,fun _=>h4,by simp⟩ rfl ih
 |lab h1 h2 h3 h4 h5 _ ih=>exact key (it:=⟨_,true,_,.lab _,_,_⟩) ⟨h1,h5,h2,h3,fun _=>h4,by simp⟩ rfl ih
 |new h1 h2 h3 h4 h5 _ ih=>exact key (it:=⟨_,true,_,.new _ _,_,_⟩) ⟨h1,h5,h2,h3,fun _=>h4,by simp⟩ rfl ih
 |Nl h1 h2 h3 h4 h5 _ ih=>exact key (it:=⟨_,true,_,.Nl _ _ _,_,_⟩) ⟨h1,h5,h2,h3,fun _=>h4,by simp⟩ rfl ih
 |skip h1 h2 h5 _ ih=>exact key (it:=⟨_,false,[],.none,[],_⟩) ⟨h1,h5,h2,by simp,by simp,fun _=>⟨rfl,rfl,rfl⟩⟩ rfl ih
def A5l(ops:A2 Oper):A2 Nat :=
 ops.foldl (fun acc o=>acc++[o.after.toList.foldl (fun s e=>if Region.binds .any e then s ||| 2 ^ e.on ||| acc.getD e.on 0 else s) 0]) []
theorem Am3(acc:A2 Nat)(j:Nat):∀(l:A2 Edge) (s:Nat),(l.foldl (fun s e=>if Region.binds .any e then s ||| 2 ^ e.on ||| acc.getD e.on 0 else s) s).testBit j=true →
  s.testBit j=true∨∃e∈l,Region.binds .any e=true∧(e.on=j∨(acc.getD e.on 0).testBit j=true)
 |[],s,h=>.inl h
 |e::l,s,h=>by
  rw[Bmd]at h;rcases Am3 acc j l _ h with h|⟨e',he',h⟩
  ·split at h
   ·rename_i hb;rw[Nat.testBit_or,Nat.testBit_or,Bms,Bms]at h;rcases h with (h|h)|h
    ·exact .inl h
    ·refine .inr ⟨e,Bkz,hb,.inl ?_⟩;rw[Nat.testBit_two_pow]at h;simpa using h
    ·exact .inr ⟨e,Bkz,hb,.inr h⟩
   ·exact .inl h
  ·exact .inr ⟨e',Bkx _ he',h⟩
theorem B2n(ops:A2 Oper):∀(i j:Nat),((A5l ops).getD i 0).testBit j=true→∃o,ops[i]? = some o∧∃e∈o.after.toList,Region.binds .any e=true ∧
  (e.on=j∨(e.on<i∧((A5l ops).getD e.on 0).testBit j=true)):=by
 suffices H:∀(l:A2 Oper) (pre:A2 Oper) (acc:A2 Nat),acc.length=pre.length →
   (∀i j,(acc.getD i 0).testBit j=true→∃o,pre[i]? = some o∧∃e∈o.after.toList,Region.binds .any e=true∧(e.on=j∨(e.on<i∧(acc.getD e.on 0).testBit j=true))) →
   ∀i j,((l.foldl (fun acc o=>acc++[o.after.toList.foldl (fun s e=>if Region.binds .any e then s ||| 2 ^ e.on ||| acc.getD e.on 0 else s) 0]) acc).getD i 0).testBit j=true →
    ∃o,(pre++l)[i]? = some o∧∃e∈o.after.toList,Region.binds .any e=true∧(e.on=j∨(e.on<i ∧
     ((l.foldl (fun acc o=>acc++[o.after.toList.foldl (fun s e=>if Region.binds .any e then s ||| 2 ^ e.on ||| acc.getD e.on 0 else s) 0]) acc).getD e.on 0).testBit j=true)) by
  intro i j h;exact H ops [] [] rfl (by simp) i j h
 intro l;induction l with
 |nil=>intro pre acc _ h i j hb;simpa using h i j hb
 |cons o l ih =>
  intro pre acc hl h i j hb;rw[Bmd]at hb⊢;have:=ih (pre++[o]) (acc++[o.after.toList.foldl (fun s e=>if Region.binds .any e then s ||| 2 ^ e.on ||| acc.getD e.on 0 else s) 0]) (by simp[hl]) ?_ i j hb
  ·simpa using this
  ·intro i j hb;have Ci:∀k,k<acc.length→(acc++[o.after.toList.foldl (fun s e=>if Region.binds .any e then s ||| 2 ^ e.on ||| acc.getD e.on 0 else s) 0]).getD k 0=acc.getD k 0:=by intro k hk;simp only[Bo4,Bnl hk]
   by_cases hi:i<acc.length
   ·rw[Ci i hi]at hb;obtain⟨o',ho',e,he,hbd,hd⟩:=h i j hb;refine⟨o',by rw[Bnl (by omega)];exact ho',e,he,hbd,?_⟩;rcases hd with hd|⟨hd1,hd2⟩
    ·exact .inl hd
    ·exact .inr ⟨hd1,by rw[Ci _ (by omega)];exact hd2⟩
   ·by_cases hie:i=acc.length
    ·subst hie;have Agh:(acc++[o.after.toList.foldl (fun s e=>if Region.binds .any e then s ||| 2 ^ e.on ||| acc.getD e.on 0 else s) 0]).getD acc.length 0 =
       o.after.toList.foldl (fun s e=>if Region.binds .any e then s ||| 2 ^ e.on ||| acc.getD e.on 0 else s) 0:=by
      simp[Bo4]
     rw[Agh]at hb;rcases Am3 acc j _ 0 hb with h0|⟨e,he,hbd,hd⟩
     ·simp at h0
     ·refine⟨o,by rw[hl,Bnj (Bl1 _)];simp,e,he,hbd,?_⟩;rcases hd with hd|hd
      ·exact .inl hd
      ·have Bs:e.on<acc.length:=by
        rcases Bng e.on acc.length with h'|h'
        ·exact h'
        ·rw[Bo4,Bmp h']at hd;simp at hd
       exact .inr ⟨Bs,by rw[Ci _ Bs];exact hd⟩
    ·rw[Bo4,Bmp (by simp;omega)]at hb;simp at hb
theorem Ae1{ops:A2 Oper}{D:Nat→Bool}(hD:∀i o,ops[i]? = some o→D i=true→∀e∈o.after.toList,Region.binds .any e=true→D e.on=true) :
  ∀(i:Nat),(∀o,ops[i]? = some o→∀e∈o.after.toList,Region.binds .any e=true→D e.on=true)→∀j,((A5l ops).getD i 0).testBit j=true→D j=true:=by
 intro i;induction i using Nat.strongRecOn with
 |_ i ih =>
  intro hi j hj;obtain⟨o,ho,e,he,hb,hd⟩:=B2n ops i j hj;have hDe:=hi o ho e he hb;rcases hd with rfl|⟨Bs,hd⟩
  ·exact hDe
  ·exact ih e.on Bs (fun o' ho' e' he' G0=>hD e.on o' ho' hDe e' he' G0) j hd
def looks(ops:Array Oper)(it:It):A2 Nat :=
 it.rd.filterMap (fun p=>match p.1 with|.tmp t=>some t|.global k=>some (GB+k)|_=>none) ++
 (match it.o.guard with
  |some (j,_)=>((ops[j]?).bind (·.dst)).toList
  |none=>[])
def ahead(bs:A2 Nat)(j i:Nat):Bool:=(bs.getD i 0).testBit j
def Aon(ops:Array Oper)(Gi:A2 (Nat×AV))(Ay:A2 It):Bool :=
 let bs:=A5l ops.toList;let n:=Ay.length
 ops.size==n &&
 (List.range n).all fun i=>match Ay[i]? with
  |none=>false
  |some it =>
   Ln it.F Gi&&(it.o.after.toList.all fun e=>!Region.binds .any e||decide (e.on<i)) &&
   (List.range n).all fun k=>i==k||match Ay[k]? with
    |none=>false
    |some jt =>
     (match jt.o.dst with
      |none=>true
      |some d=>(!(looks ops it).contains d && !(it.o.dst==some d))||(if k<i then ahead bs k i else ahead bs i k)) &&
     (!(it.U3.Tp jt.U3)||(if k<i then ahead bs k i else ahead bs i k)) &&
     (it.F.isEmpty||ahead bs i k||Gm it.F jt.res)
structure DOk(ops:Array Oper)(Gi:List (Nat×AV))(Ay:List It):Prop where
 size:ops.size=Ay.length
 env:∀(i:Nat) it,Ay[i]? = some it→Ln it.F Gi=true
 Bic:∀(i:Nat) it,Ay[i]? = some it→∀e∈it.o.after.toList,Region.binds .any e=true→e.on<i
 ord:∀(i k:Nat) it jt d,Ay[i]? = some it→Ay[k]? = some jt→i≠k→jt.o.dst=some d→(d∈looks ops it∨it.o.dst=some d) →
  (k<i→ahead (A5l ops.toList) k i=true)∧(i<k→ahead (A5l ops.toList) i k=true)
 A1f:∀(i k:Nat) it jt,Ay[i]? = some it→Ay[k]? = some jt→i≠k→it.U3.Tp jt.U3=true →
  (k<i→ahead (A5l ops.toList) k i=true)∧(i<k→ahead (A5l ops.toList) i k=true)
 free:∀(i k:Nat) it jt,Ay[i]? = some it→Ay[k]? = some jt→i≠k→it.F=[]∨ahead (A5l ops.toList) i k=true∨Gm it.F jt.res=true
theorem At7{ops:Array Oper}{Gi:A2 (Nat×AV)}{Ay:A2 It}(h:Aon ops Gi Ay=true):DOk ops Gi Ay:=by
 unfold Aon at h;simp only[Bls,Bp8,Bly,Bqm]at h;obtain⟨hs,h⟩:=h;have one:∀(i:Nat) it,Ay[i]? = some it→i<Ay.length:=fun i it hi=>(Bku.1 hi).1
 have ifs:∀ {p q:Bool} {i k:Nat},i≠k→(if k<i then p else q)=true→(k<i→p=true)∧(i<k→q=true):=by
  intro p q i k hne hh;by_cases hk:k<i
  ·rw[Blv hk]at hh;exact⟨fun _=>hh,fun h=>by omega⟩
  ·rw[Blj hk]at hh;exact⟨fun h=>(hk h).elim,fun _=>hh⟩
 have two:∀(i k:Nat) it jt,Ay[i]? = some it→Ay[k]? = some jt→i≠k →
   ((match jt.o.dst with
    |none=>true
    |some d=>(!(looks ops it).contains d && !(it.o.dst==some d))||(if k<i then ahead (A5l ops.toList) k i else ahead (A5l ops.toList) i k))=true ∧
   (!(it.U3.Tp jt.U3)||(if k<i then ahead (A5l ops.toList) k i else ahead (A5l ops.toList) i k))=true) ∧
   (it.F.isEmpty||ahead (A5l ops.toList) i k||Gm it.F jt.res)=true:=by
  intro i k it jt hi hk hne;have h1:=h i (one i it hi);rw[hi]at h1;simp only[Bls,Bly,Bqm]at h1;have h2:=h1.2 k (one k jt hk);rw[hk]at h2;rw[Bms]at h2;rcases h2 with h2|h2
  ·exact(hne (by simpa using h2)).elim
  ·simpa only [Bls]using h2
 refine⟨hs,?_,?_,?_,?_,?_⟩
 ·intro i it hi;have h1:=h i (one i it hi);rw[hi]at h1;simp only[Bls]at h1;exact h1.1.1
 ·intro i it hi e he hb;have h1:=h i (one i it hi);rw[hi]at h1;simp only[Bls,Bly]at h1;have h2:=h1.1.2 e he;rw[hb]at h2;simpa using h2
 ·intro i k it jt d hi hk hne hd hl;have h1:=(two i k it jt hi hk hne).1.1;rw[hd]at h1;simp only[Bms]at h1;rcases h1 with h1|h1
  ·exfalso;simp only[Bls,Boy,Bp4,ne_eq]at h1;rcases hl with hl|hl
   ·have:(looks ops it).contains d=true:=by simpa using hl
    rw[this]at h1;cases h1.1
   ·exact h1.2 hl
  ·exact ifs hne h1
 ·intro i k it jt hi hk hne h3;have h1:=(two i k it jt hi hk hne).1.2;simp only[Bms]at h1;rcases h1 with h1|h1
  ·exfalso;rw[h3]at h1;cases h1
  ·exact ifs hne h1
 ·intro i k it jt hi hk hne;have h1:=(two i k it jt hi hk hne).2;simp only[Bms]at h1;rcases h1 with (h1|h1)|h1
  ·exact .inl (by simpa using h1)
  ·exact .inr (.inl h1)
  ·exact .inr (.inr h1)
theorem Aoo{base:Nat→A3 AV}{Ay:A2 It}{D:Nat→Bool}{t:Nat}{i:Nat}:∀(m:Nat),i≤m→(∀k it,Ay[k]? = some it→i≤k→it.o.dst=some t→D k=false) →
  E base Ay D m t=E base Ay D i t
 | 0, h, _ => by have : i = 0 := by omega
                 subst this;rfl
 |m+1,h,hd=>by
  rcases Bng m i with Bs|hge
  ·have:i=m+1:=by omega
   subst this;rfl
  ·have ih:=Aoo (base:=base) (Ay:=Ay) (D:=D) (t:=t) m hge hd;rw[← ih]
   conv=>lhs;unfold E
   cases R7:Ay[m]? with
   |none=>rfl
   |some it =>
    simp only;by_cases Wi:it.o.dst=some t
    ·rw[hd m it R7 hge Wi];simp
    ·have:(it.o.dst==some t)=false:=by simpa using Wi
     rw[this];simp
theorem Afu{base:Nat→A3 AV}{Ay:A2 It}{D D':Nat→Bool}{t:Nat}:∀(m:Nat),(∀k it,Ay[k]? = some it→k<m→it.o.dst=some t→D k=D' k)→E base Ay D m t=E base Ay D' m t
 |0,_=>rfl
 |m+1,hd=>by
  have ih:=Afu (base:=base) m fun k it hk hl Wi=>hd k it hk (by omega) Wi
  conv=>lhs;unfold E
  conv=>rhs;unfold E
  cases R7:Ay[m]? with
  |none=>exact ih
  |some it =>
   simp only;by_cases Wi:it.o.dst=some t
   ·rw[hd m it R7 (Boc m) Wi,ih]
   ·have:(it.o.dst==some t)=false:=by simpa using Wi
    rw[this];simpa using ih
theorem M6.A96{e:M6}{X:A7}{k:Nat}(h:e.writes k=false):(e.apply X).objs.lookup k=X.objs.lookup k:=by
 cases e with
 |none=>rfl
 |look=>rfl
 |lab=>rfl
 |put j c =>simp only[M6.apply,B3];rw[Blj];rintro rfl;simp[M6.writes]at h
 |Nl j c L =>simp only[M6.apply,B3];rw[Blj];rintro rfl;simp[M6.writes]at h
 |all=>simp[M6.writes]at h
 |new os L =>simp only[M6.writes,Option.isSome_eq_false_iff,Option.isNone_iff_eq_none]at h;simp only[M6.apply,Bmq,h,Bom]
def M6.isAll:M6→Bool
 |.all _=>true
 |.lab _=>true
 |.Nl _ _ _=>true
 |.new _ _=>true
 |_=>false
theorem M6.Agp{e:M6}{X:A7}(h:e.isAll=false):(e.apply X).live=X.live:=by cases e<;>first|rfl|simp[M6.isAll]at h
theorem Zx{X0:A7}{Ay:A2 It}{D:Nat→Bool}{i j:Nat}:∀(m:Nat),i≤m→(∀k it,Ay[k]? = some it→i≤k→it.U3.writes j=true→D k=false) →
  (XE X0 Ay D m).objs.lookup j=(XE X0 Ay D i).objs.lookup j
 | 0, h, _ => by have : i = 0 := by omega
                 subst this;rfl
 |m+1,h,hd=>by
  rcases Bng m i with Bs|hge
  ·have:i=m+1:=by omega
   subst this;rfl
  ·have ih:=Zx (X0:=X0) (Ay:=Ay) (D:=D) m hge hd;rw[← ih]
   conv=>lhs;unfold XE
   cases R7:Ay[m]? with
   |none=>rfl
   |some it =>
    simp only;cases hw:it.U3.writes j with
    |false=>split<;>simp[M6.A96 hw]
    |true=>rw[hd m it R7 hge hw];simp
theorem A97{X0:A7}{Ay:A2 It}{D D':Nat→Bool}{j:Nat}:∀(m:Nat),(∀k it,Ay[k]? = some it→k<m→it.U3.writes j=true→D k=D' k) →
  (XE X0 Ay D m).objs.lookup j=(XE X0 Ay D' m).objs.lookup j
 |0,_=>rfl
 |m+1,hd=>by
  have ih:=A97 (X0:=X0) m fun k it hk hl hw=>hd k it hk (by omega) hw
  conv=>lhs;unfold XE
  conv=>rhs;unfold XE
  cases R7:Ay[m]? with
  |none=>exact ih
  |some it =>
   simp only;cases hw:it.U3.writes j with
   |false=>split<;>split<;>simp[M6.A96 hw,ih]
   |true =>
    rw[hd m it R7 (Boc m) hw];split
    ·cases he:it.U3 with
     |none=>exact ih
     |look=>exact ih
     |put k c=>simp only[M6.apply,B3,ih]
     |all X'=>rfl
     |lab L=>exact ih
     |Nl k c L=>simp only[M6.apply,B3,ih]
     |new os L=>simp only[M6.apply,Bmq,ih]
    ·exact ih
theorem Gj{X0:A7}{Ay:A2 It}{D:Nat→Bool}{i:Nat}:∀(m:Nat),i≤m→(∀k it,Ay[k]? = some it→i≤k→it.U3.isAll=true→D k=false) →
  (XE X0 Ay D m).live=(XE X0 Ay D i).live
 | 0, h, _ => by have : i = 0 := by omega
                 subst this;rfl
 |m+1,h,hd=>by
  rcases Bng m i with Bs|hge
  ·have:i=m+1:=by omega
   subst this;rfl
  ·have ih:=Gj (X0:=X0) (Ay:=Ay) (D:=D) m hge hd;rw[← ih]
   conv=>lhs;unfold XE
   cases R7:Ay[m]? with
   |none=>rfl
   |some it =>
    simp only;cases hw:it.U3.isAll with
    |false=>split<;>simp[M6.Agp hw]
    |true=>rw[hd m it R7 hge hw];simp
theorem Jc{X0:A7}{Ay:A2 It}{D D':Nat→Bool}:∀(m:Nat),(∀k it,Ay[k]? = some it→k<m→it.U3.isAll=true→D k=D' k) →
  (XE X0 Ay D m).live=(XE X0 Ay D' m).live
 |0,_=>rfl
 |m+1,hd=>by
  have ih:=Jc (X0:=X0) m fun k it hk hl hw=>hd k it hk (by omega) hw
  conv=>lhs;unfold XE
  conv=>rhs;unfold XE
  cases R7:Ay[m]? with
  |none=>exact ih
  |some it =>
   simp only;cases hw:it.U3.isAll with
   |false=>split<;>split<;>simp[M6.Agp hw,ih]
   |true =>
    rw[hd m it R7 (Boc m) hw];cases he:it.U3 with
    |all X'=>split<;>simp[M6.apply,ih]
    |lab L=>split<;>simp[M6.apply,ih]
    |Nl k c L=>split<;>simp[M6.apply,ih]
    |new os L=>split<;>simp[M6.apply,ih]
    |_=>rw[he]at hw;simp[M6.isAll]at hw
theorem Zy(e:M6)(j:Nat)(h:(∃js,j∈js∧e = .look js)∨∃c,e = .put j c)(e':M6)(hw:e'.writes j=true):e.Tp e'=true:=by rcases h with ⟨js,hj,rfl⟩|⟨c,rfl⟩<;>cases e'<;>first|(simp_all [M6.Tp,M6.writes];done)|(simp only[M6.Tp,List.any_eq_true];exact⟨j,hj,hw⟩)
theorem Aop{e:M6}{j:Nat}(h:e.writes j=true):e≠.none:=by rintro rfl;cases h
theorem B2o{e:M6}(h:e.isAll=true):e≠.none:=by rintro rfl;cases h
theorem Am4(X:A7)(e:M6)(h:e≠.none):(M6.all X).Tp e=true:=by cases e<;>first|rfl|exact absurd rfl h
structure Alike(X Y:A7):Prop where
 objs:∀k,X.objs.lookup k=Y.objs.lookup k
 live:X.live=Y.live
theorem HR.alike{nm:A2 Nat}{B:Bl}{g:Gh}{w:World}{X Y:A7}(h:HR nm B g w X)(e:Alike X Y):HR nm B g w Y:=by
 refine⟨?_,h.Ik,h.base,h.io,h.le,h.frame,?_,?_,?_,?_,?_,h.C4,?_,h.Ca,h.Cd,h.eta.same (Bl1 _) fun k o hk=>⟨o,by rw[e.objs];exact hk⟩⟩
 ·intro k hk;rw[← e.objs];exact h.Dc k hk
 ·intro k o hk;rw[← e.objs]at hk;exact h.objs k o hk
 ·intro k o hk;rw[← e.objs]at hk;exact h.Fx k o hk
 ·intro k k' o o' hk Lk;rw[← e.objs]at hk Lk;exact h.C0 k k' o o' hk Lk
 ·intro k o hk;rw[← e.objs]at hk;exact h.Ce k o hk
 ·intro n;rw[← e.live];exact h.live n
 ·intro n b k o hn hk;rw[← e.objs]at hk;exact h.Bo n b k o hn hk
theorem Agq{base:Nat→A3 AV}{Ay:A2 It}{D:Nat→Bool}{t:Nat}{x:AV}:∀(m:Nat),E base Ay D m t=some x→base t=some x∨∃k it,Ay[k]? = some it∧D k=true∧it.res=x
 |0,h=>.inl h
 |m+1,h=>by
  unfold E at h;cases R7:Ay[m]? with
  |none=>rw[R7]at h;exact Agq m h
  |some it =>
   rw[R7]at h;simp only at h;split at h
   ·rename_i hc;simp only[Bls]at hc;exact .inr ⟨m,it,R7,hc.1,by simpa using h⟩
   ·exact Agq m h
def sub(L:A2 Nat)(env:A2 (Nat×AV)):A2 (Nat×AV):=L.filterMap fun t=>(env.lookup t).map fun x=>(t,x)
theorem Ax6{L:A2 Nat}{env:A2 (Nat×AV)}{t:Nat}{x:AV}(h:(sub L env).lookup t=some x):t∈L∧env.lookup t=some x:=by have:=Di h;unfold sub at this;rw[Bqr]at this;obtain⟨t',ht',he⟩:=this;obtain⟨y,hy,hp⟩:=Bky.1 he;cases hp;exact⟨ht',hy⟩
theorem Zz{env:A2 (Nat×AV)}{t:Nat}{x:AV}:∀ {L:A2 Nat},t∈L→env.lookup t=some x→(sub L env).lookup t=some x
 |[],h,_=>by simp at h
 |s::L,h,hx=>by
  unfold sub;rw[List.filterMap_cons];by_cases hst:t=s
  ·subst hst;simp[hx]
  ·have hL:t∈L:=by
    rcases Bkq.1 h with h|h
    ·exact(hst h).elim
    ·exact h
   have ih:=Zz hL hx;unfold sub at ih;cases hs:env.lookup s with
   |none=>simpa using ih
   |some y =>
    simp only[Blq,Blw];have:(t==s)=false:=by simpa using hst
    rw[this];exact ih
theorem Has.sub{env:A2 (Nat×AV)}{t:Nat}{x:AV}{L:A2 Nat}(h:Has env t x)(ht:t∈L):Has (sub L env) t x:=by
 cases h with
 |eq _ h=>exact .eq _ (Zz ht h)
 |Bu n sz es ty h=>exact .Bu n sz es ty (Zz ht h)
 |nil sz h=>exact .nil sz (Zz ht h)
 |le _ _ h hle=>exact .le _ _ (Zz ht h) hle
structure DR(S:Sig)(B:Bl)(st0:St)(Ay:List It)(D:Nat→Bool)(g:Gh)(w:World)(a:Act):Prop where
 defers:a.defers=[]
 size:a.tmps.size=S.N
 hr:HR S.names B g w (XE st0.X Ay D Ay.length)
 env:∀t x,E (fun t=>st0.env.lookup t) Ay D Ay.length t=some x→∃v,Ym a t=some v∧RA g w x v
theorem Ax7{D D':Nat→Bool}{n i:Nat}(hi:i<n)(h0:D i=false)(h1:D' i=true)(B0j:∀j,j≠i→D' j=D j) :
  ((List.range n).filter fun j=>!D' j).length<((List.range n).filter fun j=>!D j).length:=by
 have A95:∀l:A2 Nat,((l.filter fun j=>!D' j).length≤(l.filter fun j=>!D j).length)∧(i∈l→(l.filter fun j=>!D' j).length<(l.filter fun j=>!D j).length):=by
  intro l;induction l with
  |nil=>simp
  |cons x l ih =>
   rw[Bnk,Bnk];by_cases hx:x=i
   ·subst hx;simp only[h0,h1,Bn7,Bno,Bn5,Bmi,Bn2,Blg];exact⟨by have:=ih.1;omega,fun _=>by have:=ih.1;omega⟩
   ·rw[B0j x hx];have A5m:i∈x::l→i∈l:=fun h=>by
     rcases Bkq.1 h with h|h
     ·exact(hx h.symm).elim
     ·exact h
    split
    ·simp only[Blg];exact⟨by have:=ih.1;omega,fun h=>by have:=ih.2 (A5m h);omega⟩
    ·exact⟨ih.1,fun h=>ih.2 (A5m h)⟩
 exact(A95 (List.range n)).2 (Bqm.2 hi)
theorem Agr{P:Program}{S:Sig}{B:Bl}{ops:Array Oper}{st0 Bq:St}{Ay:A2 It}(hd:Gc P S ops 0 st0 Ay Bq)(ho:DOk ops st0.env Ay)
  {Q:Exit→Act→World→Prop} (hq:∀g' w' a',SR S B g' w' Bq a'→Q .normal a' w') :
  ∀(fuel:Nat) (listed:Array Bool) (g:Gh) (w:World) (a:Act),listed.size=ops.size →
   (∀i o,ops[i]? = some o→listed.getD i false=true→∀e∈o.after.toList,Region.binds .any e=true→listed.getD e.on false=true) →
   DR S B st0 Ay (fun i=>listed.getD i false) g w a→((List.range ops.size).filter fun j=>!listed.getD j false).length≤fuel →
   wpAny P .any ops Q fuel listed a w:=by
 obtain⟨items,Bid,Bie⟩:=hd.items;have B60:∀(i:Nat),i<ops.size→∃it,Ay[i]? = some it:=fun i hi=>⟨Ay[i]'(by rw[← ho.size];exact hi),by simp[← ho.size,hi]⟩
 have B61:∀(i:Nat) (it:It),Ay[i]? = some it→ops[i]? = some it.o:=by
  intro i it hi;obtain⟨stm,h1,_⟩:=items i it hi;have:=h1.at_
  rwa [Blx]at this
 have done:∀(listed:Array Bool) (g:Gh) (w:World) (a:Act),listed.size=ops.size→DR S B st0 Ay (fun i=>listed.getD i false) g w a →
   (∀i,i<ops.size→listed.getD i false=true)→Q .normal a w:=by
  intro listed g w a _ Uq hall;refine hq g w a ⟨Uq.defers,Uq.size,?_,?_⟩
  ·rw[Bie];refine Uq.hr.alike ⟨fun j=>?_,?_⟩
   ·exact A97 (X0:=st0.X) (Ay:=Ay) (D:=fun i=>listed.getD i false) (D':=fun _=>true) Ay.length fun k it hk hl _=>by
     (try simp only);exact hall k (by rw[ho.size];exact hl)
   ·exact Jc (X0:=st0.X) (Ay:=Ay) (D:=fun i=>listed.getD i false) (D':=fun _=>true) Ay.length fun k it hk hl _=>by
     (try simp only);exact hall k (by rw[ho.size];exact hl)
  ·intro t x hx;rw[Bid t]at hx;have:=Afu (base:=fun t=>st0.env.lookup t) (Ay:=Ay) (D:=fun i=>listed.getD i false) (D':=fun _=>true) (t:=t) Ay.length fun k it hk hl _=>by
    (try simp only);exact hall k (by rw[ho.size];exact hl)
   exact Uq.env t x (by rw[this];exact hx)
 have B62:∀(listed:Array Bool) (i:Nat) (d d':Bool),i<listed.size→listed.getD i d=listed.getD i d':=by intro listed i d d' hi;simp[Array.getD,hi]
 have B63:∀(listed:Array Bool),listed.size=ops.size→Region.ready .any ops listed=[]→∀i,i<ops.size→listed.getD i false=true:=by
  intro listed hs hr i;induction i using Nat.strongRecOn with
  |_ i ih =>
   intro hi;cases hl:listed.getD i false with
   |true=>rfl
   |false =>
    exfalso;obtain⟨it,R7⟩:=B60 i hi;have A5m:i∈Region.ready .any ops listed:=by rw[mem_ready];refine⟨by rw[B62 listed i true false (by omega)];exact hl,it.o,B61 i it R7,fun e he hb=>?_⟩;have Bs:=ho.Bic i it R7 e (by simpa using he) hb;exact ih e.on Bs (by omega)
    rw[hr]at A5m;simp at A5m
 intro fuel;induction fuel with
 |zero =>
  intro listed g w a hs hcl Uq hc;have hall:∀i,i<ops.size→listed.getD i false=true:=by
   intro i hi;have h0:(List.range ops.size).filter (fun j=>!listed.getD j false)=[]:=Bnq.1 (by omega);cases hl:listed.getD i false with
   |true=>rfl
   |false =>
    have:i∈(List.range ops.size).filter (fun j=>!listed.getD j false):=by rw[Blu];exact⟨Bqm.2 hi,by simp[hl]⟩
    rw[h0]at this;simp at this
  refine⟨?_,done listed g w a hs Uq hall⟩;cases hr:Region.ready .any ops listed with
  |nil=>rfl
  |cons i r =>
   have hm:i∈Region.ready .any ops listed:=by rw[hr];exact Bkz
   rw[mem_ready]at hm;obtain⟨h1,o,h2,_⟩:=hm;have hi:i<ops.size:=(Blf.1 h2).1;rw[B62 listed i true false (by omega),hall i hi]at h1;cases h1
 |succ fuel ih =>
  intro listed g w a hs hcl Uq hc;refine⟨fun hr=>done listed g w a hs Uq (B63 listed hs hr),?_⟩;intro i A5m;rw[mem_ready]at A5m;obtain⟨hun,o,hio,B64⟩:=A5m;have hi:i<ops.size:=(Blf.1 hio).1;have hDi:listed.getD i false=false:=by rw[B62 listed i false true (by omega)];exact hun
  obtain⟨it,R7⟩:=B60 i hi;have hoe:o=it.o:=by have:=B61 i it R7;rw[hio]at this;simpa using this
  subst hoe;obtain⟨stm,Ja,Big,hXm⟩:=items i it R7;have Bk2:i<Ay.length:=by rw[← ho.size];exact hi
  have B2p:∀i o,ops.toList[i]? = some o→listed.getD i false=true→∀e∈o.after.toList,Region.binds .any e=true→listed.getD e.on false=true :=
   fun i o h=>hcl i o (by simpa using h)
  have A45:∀k,ahead (A5l ops.toList) k i=true→listed.getD k false=true:=by
   intro k hk;refine Ae1 (D:=fun i=>listed.getD i false) B2p i ?_ k hk;intro o' ho' e he hb;have:o'=it.o:=by have h1:=B61 i it R7;rw[← Bml,ho']at h1;simpa using h1
   subst this;exact B64 e (by simpa using he) hb
  have Jk:∀k,ahead (A5l ops.toList) i k=true→listed.getD k false=false:=by
   intro k hk;cases hl:listed.getD k false with
   |false=>rfl
   |true =>
    have:=Ae1 (D:=fun i=>listed.getD i false) B2p k (fun o' ho' e he hb=>B2p k o' ho' hl e he hb) i hk
    (try simp only at this)
    rw[hDi]at this;cases this
  have Ae2:∀t,t∈looks ops it→E (fun t=>st0.env.lookup t) Ay (fun i=>listed.getD i false) Ay.length t=stm.env.lookup t:=by
   intro t ht;rw[Big t,Aoo (i:=i) Ay.length (by omega) ?_]
   ·refine Afu i fun k jt hk hl Wi=>?_
    (try simp only)
    exact A45 k ((ho.ord i k it jt t R7 hk (by omega) Wi (.inl ht)).1 hl)
   ·intro k jt hk hge Wi
    (try simp only)
    rcases Bng i k with Bs|hle
    ·exact Jk k ((ho.ord i k it jt t R7 hk (by omega) Wi (.inl ht)).2 Bs)
    ·have:k=i:=by omega
     subst this;exact hDi
  have hsr:∀X,X=XE st0.X Ay (fun i=>listed.getD i false) Ay.length→SR S B g w ⟨sub (looks ops it) stm.env,X⟩ a:=by intro X hX;subst hX;refine⟨Uq.defers,Uq.size,Uq.hr,?_⟩;intro t x hx;obtain⟨h1,h2⟩:=Ax6 hx;exact Uq.env t x (by rw[Ae2 t h1];exact h2)
  have Bds:Guard ops (⟨sub (looks ops it) stm.env,XE st0.X Ay (fun i=>listed.getD i false) Ay.length⟩:St) it.o.guard it.run:=by
   have h1:=Ja.guard;have h2:∀(j:Nat) (d:Nat) (o:Oper) (Bkg:Bool),it.o.guard=some (j,Bkg)→ops[j]? = some o→o.dst=some d→d∈looks ops it:=by intro j d o Bkg hg hj Wi;unfold looks;rw[hg];simp[hj,Wi]
   generalize it.o.guard=og at h1 h2;generalize it.run=rn at h1;cases h1 with
   |none=>exact .none
   |some j d o Bkg b h3 h4 h5=>exact .some j d o Bkg b h3 h4 (Zz (h2 j d o Bkg rfl h3 h4) h5)
   |undef j d o Bkg h3 h4 h5=>exact .undef j d o Bkg h3 h4 (Zz (h2 j d o Bkg rfl h3 h4) h5)
  have A98:∀p∈it.rd,E3 (⟨sub (looks ops it) stm.env,XE st0.X Ay (fun i=>listed.getD i false) Ay.length⟩:St) p.1 p.2:=by
   intro p hp;have h1:=Ja.Ri p hp;have h2:∀t,p.1 = .tmp t→t∈looks ops it:=by intro t ht;unfold looks;rw[Bkw,Bqr];exact .inl ⟨p,hp,by rw[ht]⟩
   have h3:∀k,p.1 = .global k→GB+k∈looks ops it:=by intro k ht;unfold looks;rw[Bkw,Bqr];exact .inl ⟨p,hp,by rw[ht]⟩
   obtain⟨p1,p2⟩:=p;simp only at h1 h2 h3⊢;cases h1 with
   |tmp t _ ht h=>exact .tmp t _ ht (h.sub (h2 t rfl))
   |Ag6 k _ h=>exact .Ag6 k _ (h.sub (h3 k rfl))
   |const v y h=>exact .const v y h
   |func f=>exact .func f
  have Bfx:=Bds.wanted (o:=it.o) (hsr _ rfl);have Xv:∀j,(listed.setIfInBounds i true).getD j false=if j=i then true else listed.getD j false:=by
   intro j;by_cases hj:j=i
   ·subst hj;have:j<listed.size:=by omega
    simp[this]
   ·rw[Blj hj,getD_set_ne false (Bnf hj)]
  have hD':(fun j=>(listed.setIfInBounds i true).getD j false)=fun j=>if j=i then true else listed.getD j false:=funext Xv
  have next:∀(g':Gh) (w':World) (v:Value),HR S.names B g' w' (XE st0.X Ay (fun j=>if j=i then true else listed.getD j false) Ay.length)→Trans it.F g w g' w'→RA g' w' it.res v →
    wpAny P .any ops Q fuel (listed.setIfInBounds i true) (a.put it.o.dst v) w':=by
   intro g' w' v hX ht hv;refine ih (listed.setIfInBounds i true) g' w' (a.put it.o.dst v) (by simp[hs]) ?_ ?_ ?_
   ·intro j o' hj hl e he hb;rw[Xv]at hl⊢;by_cases hji:j=i
    ·subst hji;have:o'=it.o:=by rw[hio]at hj;simpa using hj.symm
     subst this;have:=B64 e (by simpa using he) hb;split
     ·rfl
     ·exact this
    ·rw[Blj hji]at hl;have:=hcl j o' hj hl e he hb;split
     ·rfl
     ·exact this
   ·rw[hD'];refine⟨?_,?_,hX,?_⟩
    ·cases Wi:it.o.dst<;>simp[Act.put,Uq.defers]
    ·cases Wi:it.o.dst<;>simp[Act.put,Uq.size]
    ·intro t x hx;by_cases Wi:it.o.dst=some t
     ·
      have hE:E (fun t=>st0.env.lookup t) Ay (fun j=>if j=i then true else listed.getD j false) Ay.length t=some it.res:=by
       rw[Aoo (i:=i+1) Ay.length (by omega) ?_]
       ·unfold E;rw[R7];simp[Wi]
       ·intro k jt hk hge hkd
        (try simp only)
        rw[Blj (by omega)];exact Jk k ((ho.ord i k it jt t R7 hk (by omega) hkd (.inr Wi)).2 (by omega))
      rw[hE]at hx;simp only[Bks]at hx;subst hx;have Bs:t<a.tmps.size∧t<GB:=by have:=Ja.dst;rw[Wi]at this;rw[Uq.size];simpa[Jh]using this
      refine⟨v,?_,hv⟩;rw[Wi];exact Ag5 Bs.1 Bs.2
     ·have hE:E (fun t=>st0.env.lookup t) Ay (fun j=>if j=i then true else listed.getD j false) Ay.length t=E (fun t=>st0.env.lookup t) Ay (fun i=>listed.getD i false) Ay.length t:=by
       refine Afu Ay.length fun k jt hk hl hkd=>?_
       (try simp only)
       by_cases hki:k=i
       ·subst hki;rw[R7]at hk;simp only[Bks]at hk;subst hk;exact(Wi hkd).elim
       ·rw[Blj hki]
      rw[hE]at hx;obtain⟨u,hu,T8⟩:=Uq.env t x hx;have Pq:Xu it.F x:=by
       rcases Agq Ay.length hx with h|⟨k,jt,hk,hDk,rfl⟩
       ·exact V0 (ho.env i it R7) h
       ·have hki:i≠k:=by rintro rfl;(try simp only at hDk);rw[hDi]at hDk;cases hDk
        rcases ho.free i k it jt R7 hk hki with h|h|h
        ·exact .all _ _ h
        ·have:=Jk k h;(try simp only at hDk);rw[this]at hDk;cases hDk
        ·exact Ot h
      refine⟨u,?_,T8.mono ht Pq⟩;cases hdd:it.o.dst with
      |none=>simpa[Act.put]using hu
      |some d =>
       have:t≠d:=by rintro rfl;exact Wi hdd
       exact(Am0 this).trans hu
   ·have:=Ax7 (D:=fun j=>listed.getD j false) (D':=fun j=>(listed.setIfInBounds i true).getD j false) (n:=ops.size) (i:=i) hi hDi (by (try simp only);rw[Xv,Blv rfl]) (by
     intro j hj;(try simp only);rw[Xv,Blj hj])
    (try simp only at this)
    omega
  have sameAt:∀j,it.U3.writes j=false→(XE st0.X Ay (fun j=>if j=i then true else listed.getD j false) Ay.length).objs.lookup j=(XE st0.X Ay (fun i=>listed.getD i false) Ay.length).objs.lookup j:=by
   intro j hw;refine A97 Ay.length fun k jt hk hl hkw=>?_
   (try simp only)
   by_cases hki:k=i
   ·subst hki;rw[R7]at hk;simp only[Bks]at hk;subst hk;rw[hw]at hkw;cases hkw
   ·rw[Blj hki]
  have A99:it.U3.isAll=false→(XE st0.X Ay (fun j=>if j=i then true else listed.getD j false) Ay.length).live=(XE st0.X Ay (fun i=>listed.getD i false) Ay.length).live:=by
   intro hw;refine Jc Ay.length fun k jt hk hl hkw=>?_
   (try simp only)
   by_cases hki:k=i
   ·subst hki;rw[R7]at hk;simp only[Bks]at hk;subst hk;rw[hw]at hkw;cases hkw
   ·rw[Blj hki]
  have A9a:∀j,(∀e',e'.writes j=true→it.U3.Tp e'=true)→(XE st0.X Ay (fun i=>listed.getD i false) Ay.length).objs.lookup j=stm.X.objs.lookup j:=by
   intro j B2p;rw[hXm,Zx (i:=i) Ay.length (by omega) ?_]
   ·refine A97 i fun k jt hk hl hkw=>?_
    (try simp only)
    exact A45 k ((ho.A1f i k it jt R7 hk (by omega) (B2p _ hkw)).1 hl)
   ·intro k jt hk hge hkw
    (try simp only)
    rcases Bng i k with Bs|hle
    ·exact Jk k ((ho.A1f i k it jt R7 hk (by omega) (B2p _ hkw)).2 Bs)
    ·have:k=i:=by omega
     subst this;exact hDi
  unfold wpOp;rw[hio];simp only;rw[Bfx];cases C2:it.run with
  |false =>obtain⟨h1,h2,h3⟩:=Ja.Ba6 C2;simp only[Bmi,Bn2];refine next g w undef (Uq.hr.alike ⟨fun j=>(sameAt j (by rw[h1];rfl)).symm,(A99 (by rw[h1];rfl)).symm⟩) (by rw[h2];exact .refl _ _ _) (by rw[h3];exact .Fh _ _ _)
  |true =>
   simp only[Bn5];refine .inl ?_;have A9b:=Ja.opt C2;cases he:it.U3 with
   |none =>rw[he]at A9b;obtain⟨h2,hT⟩:=A9b;refine hT (XE st0.X Ay (fun i=>listed.getD i false) Ay.length) S.names S.small B g w a Uq.hr (fun p hp=>(A98 p hp).ra (hsr _ rfl)) _ Q ?_;intro g' w' v hX ht hv;exact next g' w' v (hX.alike ⟨fun j=>(sameAt j (by rw[he];rfl)).symm,(A99 (by rw[he];rfl)).symm⟩) (by rw[h2];exact ht) hv
   |look ks =>rw[he]at A9b;obtain⟨h2,hT⟩:=A9b;refine hT (XE st0.X Ay (fun i=>listed.getD i false) Ay.length) (fun k hk=>A9a k (fun e' hw=>by rw[he];exact Zy _ k (.inl ⟨ks,hk,rfl⟩) e' hw)) S.names S.small B g w a Uq.hr (fun p hp=>(A98 p hp).ra (hsr _ rfl)) _ Q ?_;intro g' w' v hX ht hv;exact next g' w' v (hX.alike ⟨fun j=>(sameAt j (by rw[he];rfl)).symm,(A99 (by rw[he];rfl)).symm⟩) (by rw[h2];exact ht) hv
   |put k c =>
    rw[he]at A9b;obtain⟨h2,hT⟩:=A9b;refine hT (XE st0.X Ay (fun i=>listed.getD i false) Ay.length) (A9a k (fun e' hw=>by rw[he];exact Zy _ k (.inr ⟨c,rfl⟩) e' hw)) S.names S.small B g w a Uq.hr (fun p hp=>(A98 p hp).ra (hsr _ rfl)) _ Q ?_;intro g' w' v hX ht hv;refine next g' w' v (hX.alike ⟨fun j=>?_,(A99 (by rw[he];rfl)).symm⟩) (by rw[h2];exact ht) hv
    simp only[B3];by_cases hjk:j=k
    ·subst hjk;rw[Blv rfl,Zx (i:=i+1) Ay.length (by omega) ?_]
     ·unfold XE;rw[R7];simp[he,M6.apply,B3]
     ·intro m jt hm hge hw
      (try simp only)
      rw[Blj (by omega)];exact Jk m ((ho.A1f i m it jt R7 hm (by omega) (by rw[he];exact Zy _ j (.inr ⟨c,rfl⟩) _ hw)).2 (by omega))
    ·rw[Blj hjk];refine(sameAt j ?_).symm;rw[he];simp only[M6.writes,Bp4,ne_eq];exact Bnf hjk
   |all X' =>
    rw[he]at A9b;have Rj:∀(e':M6) (j:Nat),e'.writes j=true→it.U3.Tp e'=true:=by intro e' j hw;rw[he];exact Am4 _ _ (Aop hw)
    have Kj:∀e':M6,e'.isAll=true→it.U3.Tp e'=true:=by intro e' hw;rw[he];exact Am4 _ _ (B2o hw)
    have hXD:Alike (XE st0.X Ay (fun i=>listed.getD i false) Ay.length) stm.X:=by
     refine⟨fun j=>A9a j (fun e' hw=>Rj e' j hw),?_⟩;rw[hXm,Gj (i:=i) Ay.length (by omega) ?_]
     ·refine Jc i fun k jt hk hl hkw=>?_
      (try simp only)
      exact A45 k ((ho.A1f i k it jt R7 hk (by omega) (Kj _ hkw)).1 hl)
     ·intro k jt hk hge hkw
      (try simp only)
      rcases Bng i k with Bs|hle
      ·exact Jk k ((ho.A1f i k it jt R7 hk (by omega) (Kj _ hkw)).2 Bs)
      ·have:k=i:=by omega
       subst this;exact hDi
    refine A9b S.names S.small B g w a (Uq.hr.alike hXD) (fun p hp=>(A98 p hp).ra (hsr _ rfl)) _ Q ?_;intro g' w' v hX ht hv;refine next g' w' v (hX.alike ⟨fun j=>?_,?_⟩) ht hv
    ·rw[Zx (i:=i+1) Ay.length (by omega) ?_]
     ·unfold XE;rw[R7];simp[he,M6.apply]
     ·intro m jt hm hge hw
      (try simp only)
      rw[Blj (by omega)];exact Jk m ((ho.A1f i m it jt R7 hm (by omega) (Rj _ j hw)).2 (by omega))
    ·rw[Gj (i:=i+1) Ay.length (by omega) ?_]
     ·unfold XE;rw[R7];simp[he,M6.apply]
     ·intro m jt hm hge hw
      (try simp only)
      rw[Blj (by omega)];exact Jk m ((ho.A1f i m it jt R7 hm (by omega) (Kj _ hw)).2 (by omega))
   |lab L =>
    rw[he]at A9b;have Rj:∀(e':M6) (j:Nat),e'.writes j=true→it.U3.Tp e'=true:=by intro e' j hw;rw[he];cases e'<;>first|rfl|(simp[M6.writes]at hw)
    have Kj:∀e':M6,e'.isAll=true→it.U3.Tp e'=true:=by intro e' hw;rw[he];cases e'<;>first|rfl|(simp[M6.isAll]at hw)
    have hXD:Alike (XE st0.X Ay (fun i=>listed.getD i false) Ay.length) stm.X:=by
     refine⟨fun j=>A9a j (fun e' hw=>Rj e' j hw),?_⟩;rw[hXm,Gj (i:=i) Ay.length (by omega) ?_]
     ·refine Jc i fun k jt hk hl hkw=>?_
      (try simp only)
      exact A45 k ((ho.A1f i k it jt R7 hk (by omega) (Kj _ hkw)).1 hl)
     ·intro k jt hk hge hkw
      (try simp only)
      rcases Bng i k with Bs|hle
      ·exact Jk k ((ho.A1f i k it jt R7 hk (by omega) (Kj _ hkw)).2 Bs)
      ·have:k=i:=by omega
       subst this;exact hDi
    refine A9b S.names S.small B g w a (Uq.hr.alike hXD) (fun p hp=>(A98 p hp).ra (hsr _ rfl)) _ Q ?_;intro g' w' v hX ht hv;refine next g' w' v (hX.alike ⟨fun j=>?_,?_⟩) ht hv
    ·rw[sameAt j (by rw[he];rfl),A9a j (fun e' hw=>Rj e' j hw)]
    ·rw[Gj (i:=i+1) Ay.length (by omega) ?_]
     ·unfold XE;rw[R7];simp[he,M6.apply]
     ·intro m jt hm hge hw
      (try simp only)
      rw[Blj (by omega)];exact Jk m ((ho.A1f i m it jt R7 hm (by omega) (Kj _ hw)).2 (by omega))
   |Nl k0 c0 L =>
    rw[he]at A9b;have Rj:∀(e':M6) (j:Nat),e'.writes j=true→it.U3.Tp e'=true:=by intro e' j hw;rw[he];cases e'<;>first|rfl|(simp[M6.writes]at hw)
    have Kj:∀e':M6,e'.isAll=true→it.U3.Tp e'=true:=by intro e' hw;rw[he];cases e'<;>first|rfl|(simp[M6.isAll]at hw)
    have hXD:Alike (XE st0.X Ay (fun i=>listed.getD i false) Ay.length) stm.X:=by
     refine⟨fun j=>A9a j (fun e' hw=>Rj e' j hw),?_⟩;rw[hXm,Gj (i:=i) Ay.length (by omega) ?_]
     ·refine Jc i fun k jt hk hl hkw=>?_
      (try simp only)
      exact A45 k ((ho.A1f i k it jt R7 hk (by omega) (Kj _ hkw)).1 hl)
     ·intro k jt hk hge hkw
      (try simp only)
      rcases Bng i k with Bs|hle
      ·exact Jk k ((ho.A1f i k it jt R7 hk (by omega) (Kj _ hkw)).2 Bs)
      ·have:k=i:=by omega
       subst this;exact hDi
    refine A9b S.names S.small B g w a (Uq.hr.alike hXD) (fun p hp=>(A98 p hp).ra (hsr _ rfl)) _ Q ?_;intro g' w' v hX ht hv;refine next g' w' v (hX.alike ⟨fun j=>?_,?_⟩) ht hv
    ·simp only[B3];by_cases hjk:j=k0
     ·subst hjk;rw[Blv rfl,Zx (i:=i+1) Ay.length (by omega) ?_]
      ·unfold XE;rw[R7];simp[he,M6.apply,B3]
      ·intro m jt hm hge hw
       (try simp only)
       rw[Blj (by omega)];exact Jk m ((ho.A1f i m it jt R7 hm (by omega) (Rj _ j hw)).2 (by omega))
     ·rw[Blj hjk,sameAt j (by rw[he];simp only[M6.writes,Bp4,ne_eq];exact Bnf hjk),A9a j (fun e' hw=>Rj e' j hw)]
    ·rw[Gj (i:=i+1) Ay.length (by omega) ?_]
     ·unfold XE;rw[R7];simp[he,M6.apply]
     ·intro m jt hm hge hw
      (try simp only)
      rw[Blj (by omega)];exact Jk m ((ho.A1f i m it jt R7 hm (by omega) (Kj _ hw)).2 (by omega))
   |new os L =>
    rw[he]at A9b;have Rj:∀(e':M6) (j:Nat),e'.writes j=true→it.U3.Tp e'=true:=by intro e' j hw;rw[he];cases e'<;>first|rfl|(simp[M6.writes]at hw)
    have Kj:∀e':M6,e'.isAll=true→it.U3.Tp e'=true:=by intro e' hw;rw[he];cases e'<;>first|rfl|(simp[M6.isAll]at hw)
    have hXD:Alike (XE st0.X Ay (fun i=>listed.getD i false) Ay.length) stm.X:=by
     refine⟨fun j=>A9a j (fun e' hw=>Rj e' j hw),?_⟩;rw[hXm,Gj (i:=i) Ay.length (by omega) ?_]
     ·refine Jc i fun k jt hk hl hkw=>?_
      (try simp only)
      exact A45 k ((ho.A1f i k it jt R7 hk (by omega) (Kj _ hkw)).1 hl)
     ·intro k jt hk hge hkw
      (try simp only)
      rcases Bng i k with Bs|hle
      ·exact Jk k ((ho.A1f i k it jt R7 hk (by omega) (Kj _ hkw)).2 Bs)
      ·have:k=i:=by omega
       subst this;exact hDi
    refine A9b S.names S.small B g w a (Uq.hr.alike hXD) (fun p hp=>(A98 p hp).ra (hsr _ rfl)) _ Q ?_;intro g' w' v hX ht hv;refine next g' w' v (hX.alike ⟨fun j=>?_,?_⟩) ht hv
    ·simp only[Bmq];cases hos:os.lookup j with
     |some y =>
      have hwj:(M6.new os L).writes j=true:=by simp[M6.writes,hos]
      rw[Zx (i:=i+1) Ay.length (by omega) ?_]
      ·unfold XE;rw[R7];simp[he,M6.apply,Bmq,hos]
      ·intro m jt hm hge hw
       (try simp only)
       rw[Blj (by omega)];exact Jk m ((ho.A1f i m it jt R7 hm (by omega) (Rj _ j hw)).2 (by omega))
     |none =>rw[Bom,sameAt j (by rw[he];simp[M6.writes,hos]),A9a j (fun e' hw=>Rj e' j hw)]
    ·rw[Gj (i:=i+1) Ay.length (by omega) ?_]
     ·unfold XE;rw[R7];simp[he,M6.apply]
     ·intro m jt hm hge hw
      (try simp only)
      rw[Blj (by omega)];exact Jk m ((ho.A1f i m it jt R7 hm (by omega) (Kj _ hw)).2 (by omega))
theorem Afe{P:Program}{S:Sig}{Q:Exit→St→Prop}{st Bq:St}{id:Nat}{ops:Array Oper}{Ay:A2 It}(hm:P.follows .mixedOrders=true)
  (hd:Gc P S ops 0 st Ay Bq) (ho:DOk ops st.env Ay) (hq:Q .normal Bq):AWp P S (.region id ops true) Q st:=by
 intro B g w a hs;refine wp_region_any hm ?_;obtain⟨hr,ht⟩:=hs.hr.drew;have hz:∀j,(Array.replicate ops.size false).getD j false=false:=by intro j;simp only[Array.getD];split<;>simp
 have hE0:∀m t,E (fun t=>st.env.lookup t) Ay (fun i=>(Array.replicate ops.size false).getD i false) m t=st.env.lookup t:=by intro m t;rw[Aoo (i:=0) m (Bnm _) (fun k it _ _ _=>hz k)];rfl
 have hX0:∀m,Alike st.X (XE st.X Ay (fun i=>(Array.replicate ops.size false).getD i false) m):=by
  intro m;refine⟨fun j=>?_,?_⟩
  ·rw[Zx (i:=0) m (Bnm _) (fun k it _ _ _=>hz k)];rfl
  ·rw[Gj (i:=0) m (Bnm _) (fun k it _ _ _=>hz k)];rfl
 refine Agr hd ho (B:=B) (fun g' w' a' H4=>⟨Bq,g',hq,H4⟩) ops.size _ g _ a (by simp) ?_ ⟨hs.defers,hs.size,hr.alike (hX0 _),?_⟩ ?_
 ·intro i o _ hl;rw[hz]at hl;cases hl
 ·intro t x hx;rw[hE0]at hx;obtain⟨v,hv,T8⟩:=hs.env t x hx;exact⟨v,hv,T8.mono ht (.nil x)⟩
 ·exact Bmh (Bmf _ _) (by simp)
inductive Kk(st:St):List (Operand×AV)→Prop
 |nil:Kk st []
 |cons {x:Operand} {v:AV} {r:List (Operand×AV)}:E3 st x v→Kk st r→Kk st ((x,v)::r)
theorem Kk.all{st:St}{l:A2 (Operand×AV)}(h:Kk st l):∀p∈l,E3 st p.1 p.2:=by
 induction h with
 |nil=>simp
 |cons h _ ih =>
  intro p hp;rcases Bkq.1 hp with rfl|hp
  ·exact h
  ·exact ih p hp
def Rw(P:Program)(S:Sig)(ops:Array Oper)(l:A2 Nat)(st:St)(K:St→Prop):Prop :=
 ∀(B:Bl) (g:Gh) (w:World) (a:Act) (Q:Exit→Act→World→Prop),SR S B g w st a→(∀g' w' a' Bq,K Bq→SR S B g' w' Bq a'→Q .normal a' w')→wpOps P ops Q l a w
section
variable{P:Program}{S:Sig}{ops:Array Oper}{i:Nat}{Bkh:A2 Nat}{st:St}{K:St→Prop}{o:Oper}{rd:A2 (Operand×AV)}{X':A7}{F:A2 Nat}{res:AV}
theorem Rw.done(h:K st):Rw P S ops [] st K:=fun _ g w a _ hs hq=>hq g w a st h hs
theorem Rw.opg(ho:ops[i]? = some o)(hg:Guard ops st o.guard true)(ht:Bp P o rd st.X X' F res)(hs:Kk st rd)(hF:Ln F st.env=true)(hd:Jh S.N o.dst=true)
  (h:Rw P S ops Bkh ⟨Du o.dst res st.env,X'⟩ K):Rw P S ops (i::Bkh) st K:=by
 intro B g w a Q hsr hq;unfold wpOps;simp only[ho,hg.wanted hsr,Bn5];refine .inl (ht S.names S.small B g w a hsr.hr (fun p hp=>(hs.all p hp).ra hsr) _ Q ?_);intro g' w' v hX htr hv;exact h B g' w' _ Q (hsr.put htr hF hX hd hv) hq
theorem Rw.skip(ho:ops[i]? = some o)(hg:Guard ops st o.guard false)(hd:Jh S.N o.dst=true)(h:Rw P S ops Bkh ⟨Du o.dst (.d (.sc undef)) st.env,st.X⟩ K):Rw P S ops (i::Bkh) st K:=by intro B g w a Q hsr hq;unfold wpOps;simp only[ho,hg.wanted hsr,Bmi,Bn2];exact h B g w _ Q (hsr.put (.refl [] g w) rfl hsr.hr hd (.d _ _ (.sc _))) hq
theorem SR.known{B:Bl}{g:Gh}{w:World}{a:Act}{d:Nat}{x:AV}(h:SR S B g w st a)(hl:st.env.lookup d=some x):SR S B g w ⟨(d,x)::st.env,st.X⟩ a:=by
 refine⟨h.defers,h.size,h.hr,?_⟩;intro t y hy;rw[Blw]at hy;split at hy
 ·rename_i he;have:t=d:=by simpa using he
  subst this;simp only[Bks]at hy;subst hy;exact h.env t x hl
 ·exact h.env t y hy
theorem Rw.cases{l:A2 Nat}{d:Nat}{b:Bool}(hl:st.env.lookup d=some (.d (.sc (.bool b))))(ht:b=true→Rw P S ops l ⟨(d,.d (.sc (.bool true)))::st.env,st.X⟩ K)
  (hf:b=false→Rw P S ops l ⟨(d,.d (.sc (.bool false)))::st.env,st.X⟩ K):Rw P S ops l st K:=by
 intro B g w a Q hsr hq;cases b with
 |true=>exact ht rfl B g w a Q (hsr.known hl) hq
 |false=>exact hf rfl B g w a Q (hsr.known hl) hq
theorem Bdt{Q:Exit→St→Prop}{id n:Nat}(hn:ops.size=n)(h:Rw P S ops (List.range n) st (Q .normal)):AWp P S (.region id ops false) Q st:=by subst hn;intro B g w a hs;exact wp_region (h B g w a _ hs fun g' w' a' Bq hk H4=>⟨Bq,g',hk,H4⟩)
structure Ags(st Bq:St):Prop where
 env:∀t,st.env.lookup t=Bq.env.lookup t
 X:st.X=Bq.X
theorem Ags.refl(st:St):Ags st st:=⟨fun _=>rfl,rfl⟩
theorem Ags.put{st Bq:St}(h:Ags st Bq)(dst:A3 Tmp)(x:AV)(X:A7):Ags ⟨Du dst x st.env,X⟩ ⟨Du dst x Bq.env,X⟩ :=
 ⟨fun t=>by simp only[A6c,h.env t],rfl⟩
theorem Has.same{e e':A2 (Nat×AV)}(h:∀t,e.lookup t=e'.lookup t){t:Nat}{x:AV}(hh:Has e t x):Has e' t x:=by
 cases hh with
 |eq _ h1=>exact .eq _ ((h t).symm.trans h1)
 |Bu n sz es ty h1=>exact .Bu n sz es ty ((h t).symm.trans h1)
 |nil sz h1=>exact .nil sz ((h t).symm.trans h1)
 |le _ _ h1 hle=>exact .le _ _ ((h t).symm.trans h1) hle
theorem E3.same{st Bq:St}(h:Ags st Bq){x:Operand}{v:AV}(hh:E3 st x v):E3 Bq x v:=by
 cases hh with
 |tmp t _ ht h1=>exact .tmp t _ ht (h1.same h.env)
 |Ag6 k _ h1=>exact .Ag6 k _ (h1.same h.env)
 |const v y h1=>exact .const v y h1
 |func f=>exact .func f
theorem Guard.same{st Bq:St}(h:Ags st Bq){og:A3 (Nat×Bool)}{b:Bool}(hh:Guard ops st og b):Guard ops Bq og b:=by
 cases hh with
 |none=>exact .none
 |some j d o Bkg b h1 h2 h3=>exact .some j d o Bkg b h1 h2 ((h.env d).symm.trans h3)
 |undef j d o Bkg h1 h2 h3=>exact .undef j d o Bkg h1 h2 ((h.env d).symm.trans h3)
theorem Gc.same{i:Nat}{st st1:St}{Ay:A2 It}(hc:Gc P S ops i st Ay st1):∀ {Bq:St},Ags st Bq→∃Xz,Gc P S ops i Bq Ay Xz∧Ags st1 Xz:=by
 induction hc with
 |nil i st=>intro Bq h;exact⟨Bq,.nil i Bq,h⟩
 |op h1 h2 h3 h4 h5 _ ih =>intro Bq h;obtain⟨s1,c1,e1⟩:=ih (h.put _ _ _);exact⟨s1,.op h1 (h2.same h) (fun p hp=>(h3 p hp).same h) h4 h5 (h.X▸c1),e1⟩
 |look h1 h2 h3 h4 h5 _ ih =>intro Bq h;obtain⟨s1,c1,e1⟩:=ih (h.put _ _ _);exact⟨s1,.look h1 (h2.same h) (fun p hp=>(h3 p hp).same h) (h.X▸h4) h5 (h.X▸c1),e1⟩
 |put h1 h2 h3 h4 h5 _ ih =>intro Bq h;obtain⟨s1,c1,e1⟩:=ih (h.put _ _ _);exact⟨s1,.put h1 (h2.same h) (fun p hp=>(h3 p hp).same h) (h.X▸h4) h5 (h.X▸c1),e1⟩
 |U3 h1 h2 h3 h4 h5 _ ih =>intro Bq h;obtain⟨s1,c1,e1⟩:=ih (h.put _ _ _);exact⟨s1,.U3 h1 (h2.same h) (fun p hp=>(h3 p hp).same h) (h.X▸h4) h5 c1,e1⟩
 |lab h1 h2 h3 h4 h5 _ ih =>intro Bq h;obtain⟨s1,c1,e1⟩:=ih (h.put _ _ _);exact⟨s1,.lab h1 (h2.same h) (fun p hp=>(h3 p hp).same h) (h.X▸h4) h5 (h.X▸c1),e1⟩
 |Nl h1 h2 h3 h4 h5 _ ih =>intro Bq h;obtain⟨s1,c1,e1⟩:=ih (h.put _ _ _);exact⟨s1,.Nl h1 (h2.same h) (fun p hp=>(h3 p hp).same h) (h.X▸h4) h5 (h.X▸c1),e1⟩
 |new h1 h2 h3 h4 h5 _ ih =>intro Bq h;obtain⟨s1,c1,e1⟩:=ih (h.put _ _ _);exact⟨s1,.new h1 (h2.same h) (fun p hp=>(h3 p hp).same h) (h.X▸h4) h5 (h.X▸c1),e1⟩
 |skip h1 h2 h5 _ ih =>intro Bq h;obtain⟨s1,c1,e1⟩:=ih (h.put _ _ _);exact⟨s1,.skip h1 (h2.same h) h5 (h.X▸c1),e1⟩
def Ax9(ops:Array Oper)(Ay:A2 It):Prop:=∀(m:Nat) it,Ay[m]? = some it→ops[m]? = some it.o
theorem Gc.link{i:Nat}{Bq:St}{Ay:A2 It}(h:Gc P S ops i st Ay Bq):∀(m:Nat) it,Ay[m]? = some it→ops[i+m]? = some it.o:=by
 have key:∀ {i:Nat} {it:It} {Ay:A2 It},ops[i]? = some it.o→(∀(m:Nat) jt,Ay[m]? = some jt→ops[i+1+m]? = some jt.o)→∀(m:Nat) jt,(it::Ay)[m]? = some jt→ops[i+m]? = some jt.o:=by
  intro i it Ay h1 h2 m jt hm;cases m with
  |zero=>simp only[Bo3,Bks]at hm;subst hm;exact h1
  |succ m=>rw[show i+(m+1)=i+1+m by omega];exact h2 m jt (by simpa using hm)
 induction h with
 |nil=>simp
 |op h1 _ _ _ _ _ ih=>exact key h1 ih
 |look h1 _ _ _ _ _ ih=>exact key h1 ih
 |put h1 _ _ _ _ _ ih=>exact key h1 ih
 |U3 h1 _ _ _ _ _ ih=>exact key h1 ih
 |lab h1 _ _ _ _ _ ih=>exact key h1 ih
 |Nl h1 _ _ _ _ _ ih=>exact key h1 ih
 |new h1 _ _ _ _ _ ih=>exact key h1 ih
 |skip h1 _ _ _ ih=>exact key h1 ih
def Dw(P:Program)(S:Sig)(ops:Array Oper)(i n:Nat)(st:St)(done:A2 It)(Gi:A2 (Nat×AV))(K:St→Prop):Prop :=
 ∃Ay Bq Wj,Gc P S ops i st Ay Bq∧Ay.length=n∧(Ax9 ops (done++Ay)→DOk ops Gi (done++Ay))∧Ags Bq Wj∧K Wj
variable{n:Nat}{done:A2 It}{Gi:A2 (Nat×AV)}
theorem Dw.fin(ho:Ax9 ops done→DOk ops Gi done)(hk:K st):Dw P S ops i 0 st done Gi K:=⟨[],st,st,.nil i st,rfl,by simpa using ho,.refl st,hk⟩
theorem Dw.cases{d:Nat}{b:Bool}(hl:st.env.lookup d=some (.d (.sc (.bool b))))(ht:b=true→Dw P S ops i n ⟨(d,.d (.sc (.bool true)))::st.env,st.X⟩ done Gi K)
  (hf:b=false→Dw P S ops i n ⟨(d,.d (.sc (.bool false)))::st.env,st.X⟩ done Gi K):Dw P S ops i n st done Gi K:=by
 have key:∀x,st.env.lookup d=some x→Dw P S ops i n ⟨(d,x)::st.env,st.X⟩ done Gi K→Dw P S ops i n st done Gi K:=by
  rintro x hx ⟨Ay,Bq,Wj,hc,hl,Ja,hs,hk⟩;have e:Ags ⟨(d,x)::st.env,st.X⟩ st:=by
   refine⟨fun t=>?_,rfl⟩;rw[Blw];split
   ·rename_i he;have:t=d:=by simpa using he
    subst this;exact hx.symm
   ·rfl
  obtain⟨s1,c1,e1⟩:=hc.same e;exact⟨Ay,s1,Wj,c1,hl,Ja,⟨fun t=>(e1.env t).symm.trans (hs.env t),e1.X.symm.trans hs.X⟩,hk⟩
 cases b with
 |true=>exact key _ hl (ht rfl)
 |false=>exact key _ hl (hf rfl)
theorem Am5{og:A3 (Nat×Bool)}(h:og = .none):Guard ops st og true:=by subst h;exact .none
theorem Dw.op(ho:ops[i]? = some o)(hg:Guard ops st o.guard true)(ht:∀X,Bp P o rd X X [] res)(hs:Kk st rd)(hd:Jh S.N o.dst=true)
  (h:Dw P S ops (i+1) n ⟨Du o.dst res st.env,st.X⟩ (done++[⟨o,true,rd,.none,[],res⟩]) Gi K):Dw P S ops i (n+1) st done Gi K:=by
 obtain⟨Ay,Bq,Wj,hc,hl,Ja,hk⟩:=h;exact⟨_::Ay,Bq,Wj,.op ho hg hs.all ht hd hc,by simp[hl],by simpa using Ja,hk⟩
theorem Dw.look{ks:A2 Nat}(ho:ops[i]? = some o)(hg:Guard ops st o.guard true)(ht:∀X:A7,(∀k∈ks,X.objs.lookup k=st.X.objs.lookup k)→Bp P o rd X X [] res)(hs:Kk st rd)(hd:Jh S.N o.dst=true)
  (h:Dw P S ops (i+1) n ⟨Du o.dst res st.env,st.X⟩ (done++[⟨o,true,rd,.look ks,[],res⟩]) Gi K):Dw P S ops i (n+1) st done Gi K:=by
 obtain⟨Ay,Bq,Wj,hc,hl,Ja,hk⟩:=h;exact⟨_::Ay,Bq,Wj,.look ho hg hs.all ht hd hc,by simp[hl],by simpa using Ja,hk⟩
theorem Dw.put{k:Nat}{c:Ob}(ho:ops[i]? = some o)(hg:Guard ops st o.guard true)(ht:∀X,X.objs.lookup k=st.X.objs.lookup k→Bp P o rd X ⟨setObj k c X.objs,X.live⟩ [] res)
  (hs:Kk st rd) (hd:Jh S.N o.dst=true)
  (h:Dw P S ops (i+1) n ⟨Du o.dst res st.env,⟨setObj k c st.X.objs,st.X.live⟩⟩ (done++[⟨o,true,rd,.put k c,[],res⟩]) Gi K):Dw P S ops i (n+1) st done Gi K:=by
 obtain⟨Ay,Bq,Wj,hc,hl,Ja,hk⟩:=h;exact⟨_::Ay,Bq,Wj,.put ho hg hs.all ht hd hc,by simp[hl],by simpa using Ja,hk⟩
theorem Dw.U3(ho:ops[i]? = some o)(hg:Guard ops st o.guard true)(ht:Bp P o rd st.X X' F res)(hs:Kk st rd)(hd:Jh S.N o.dst=true)
  (h:Dw P S ops (i+1) n ⟨Du o.dst res st.env,X'⟩ (done++[⟨o,true,rd,.all X',F,res⟩]) Gi K):Dw P S ops i (n+1) st done Gi K:=by
 obtain⟨Ay,Bq,Wj,hc,hl,Ja,hk⟩:=h;exact⟨_::Ay,Bq,Wj,.U3 ho hg hs.all ht hd hc,by simp[hl],by simpa using Ja,hk⟩
theorem Dw.lab{L:A2 Nat}(ho:ops[i]? = some o)(hg:Guard ops st o.guard true)(ht:Bp P o rd st.X ⟨st.X.objs,L⟩ F res)(hs:Kk st rd)(hd:Jh S.N o.dst=true)
  (h:Dw P S ops (i+1) n ⟨Du o.dst res st.env,⟨st.X.objs,L⟩⟩ (done++[⟨o,true,rd,.lab L,F,res⟩]) Gi K):Dw P S ops i (n+1) st done Gi K:=by
 obtain⟨Ay,Bq,Wj,hc,hl,Ja,hk⟩:=h;exact⟨_::Ay,Bq,Wj,.lab ho hg hs.all ht hd hc,by simp[hl],by simpa using Ja,hk⟩
theorem Dw.new{os:A2 (Nat×Ob)}{L:A2 Nat}(ho:ops[i]? = some o)(hg:Guard ops st o.guard true)(ht:Bp P o rd st.X ⟨os++st.X.objs,L⟩ F res)(hs:Kk st rd)(hd:Jh S.N o.dst=true)
  (h:Dw P S ops (i+1) n ⟨Du o.dst res st.env,⟨os++st.X.objs,L⟩⟩ (done++[⟨o,true,rd,.new os L,F,res⟩]) Gi K):Dw P S ops i (n+1) st done Gi K:=by
 obtain⟨Ay,Bq,Wj,hc,hl,Ja,hk⟩:=h;exact⟨_::Ay,Bq,Wj,.new ho hg hs.all ht hd hc,by simp[hl],by simpa using Ja,hk⟩
theorem Dw.Nl{k:Nat}{c:Ob}{L:A2 Nat}(ho:ops[i]? = some o)(hg:Guard ops st o.guard true)(ht:Bp P o rd st.X ⟨setObj k c st.X.objs,L⟩ F res)(hs:Kk st rd)(hd:Jh S.N o.dst=true)
  (h:Dw P S ops (i+1) n ⟨Du o.dst res st.env,⟨setObj k c st.X.objs,L⟩⟩ (done++[⟨o,true,rd,.Nl k c L,F,res⟩]) Gi K):Dw P S ops i (n+1) st done Gi K:=by
 obtain⟨Ay,Bq,Wj,hc,hl,Ja,hk⟩:=h;exact⟨_::Ay,Bq,Wj,.Nl ho hg hs.all ht hd hc,by simp[hl],by simpa using Ja,hk⟩
theorem Dw.skip(ho:ops[i]? = some o)(hg:Guard ops st o.guard false)(hd:Jh S.N o.dst=true)
  (h:Dw P S ops (i+1) n ⟨Du o.dst (.d (.sc undef)) st.env,st.X⟩ (done++[⟨o,false,[],.none,[],.d (.sc undef)⟩]) Gi K):Dw P S ops i (n+1) st done Gi K:=by
 obtain⟨Ay,Bq,Wj,hc,hl,Ja,hk⟩:=h;exact⟨_::Ay,Bq,Wj,.skip ho hg hd hc,by simp[hl],by simpa using Ja,hk⟩
theorem Bdu{Q:Exit→St→Prop}{id:Nat}(n:Nat)(hm:P.follows .mixedOrders=true)(h:Dw P S ops 0 n st [] st.env (Q .normal)):AWp P S (.region id ops true) Q st:=by obtain⟨Ay,Bq,Wj,hc,hl,Ja,hs,hk⟩:=h;have hM:AWp P S (.region id ops true) (fun e s=>e = .normal∧s=Bq) st:=Afe hm hc (Ja (by have:=hc.link;simpa[Ax9]using this)) ⟨rfl,rfl⟩;intro B g w a hsr;refine Bpd (hM B g w a hsr) ?_;rintro e a' w' ⟨s,g',⟨rfl,rfl⟩,H4⟩;exact⟨Wj,g',hk,H4.defers,H4.size,hs.X▸H4.hr,fun t x hx=>H4.env t x ((hs.env t).trans hx)⟩
theorem A46{j d:Nat}{oj:Oper}{Bkg:Bool}{og:A3 (Nat×Bool)}(hg:og=some (j,Bkg))(hj:ops[j]? = some oj)(hjd:oj.dst=some d)(hl:st.env.lookup d=some (.d (.sc (.bool Bkg)))) :
  Guard ops st og true:=by
 subst hg;have:=Guard.some (st:=st) j d oj Bkg Bkg hj hjd hl;simpa using this
theorem Ae3{j d:Nat}{oj:Oper}{Bkg:Bool}{og:A3 (Nat×Bool)}(hg:og=some (j,Bkg))(hj:ops[j]? = some oj)(hjd:oj.dst=some d)(hl:st.env.lookup d=some (.d (.sc undef))) :
  Guard ops st og false:=by
 subst hg;exact Guard.undef j d oj Bkg hj hjd hl
theorem A47{j d:Nat}{oj:Oper}{Bkg b:Bool}{og:A3 (Nat×Bool)}(hg:og=some (j,Bkg))(hj:ops[j]? = some oj)(hjd:oj.dst=some d)(hl:st.env.lookup d=some (.d (.sc (.bool b))))
  (hb:(b==Bkg)=false):Guard ops st og false:=by
 subst hg;have:=Guard.some (st:=st) j d oj Bkg b hj hjd hl
 rwa [hb]at this
end
inductive Axa(env:List (Nat×AV)):List (Nat×AV)→Prop
 |nil:Axa env []
 |cons {t:Nat} {x:AV} {r:List (Nat×AV)}:Has env t x→Axa env r→Axa env ((t,x)::r)
inductive Aoq(l:List (Nat×Ob)):List (Nat×Ob)→Prop
 |nil:Aoq l []
 |cons {k:Nat} {o:Ob} {r:List (Nat×Ob)}:l.lookup k=some o→Aoq l r→Aoq l ((k,o)::r)
inductive Axb(X:A7)(f:Nat→Nat):List (Nat×Ob)→Prop
 |nil:Axb X f []
 |cons {k:Nat} {o:Ob} {r:List (Nat×Ob)}:X.objs.lookup (f k)=some (E7 f o)→Axb X f r→Axb X f ((k,o)::r)
def fieldAt(P:Program)(s n:Nat):A3 (Nat×Nat) :=
 match P.underlying s with
 |some (.struct fs)=>(fs[n]?).map fun f=>(f.offset,f.type)
 |_=>none
theorem Ez.mk' {P : Program} {f : Nat} {fn : Func} (h : P.funcs[f]? = some fn) (hb : fn.body.isSome = true) (hn : (fn.name == "runtime.NumGoroutine") = false) : Ez P f := ⟨⟨fn, h, hb, hn⟩⟩
structure P2(P:Program)(t e sz bytes:Nat):Prop where
 und:P.underlying t=some (.slice e)
 elem:∃i z,P.info? e=some i∧i.size=sz∧i.bytes=bytes∧i.zero=some z∧z.cells.size=sz
section
variable{P:Program}{o:Oper}{X:A7}
theorem B0k{t:TypeId}{cs:A2 AV}(k:Nat)(ho:o.op = .alloc t)(hz:Agd P t cs)(hk:X.objs.lookup k=none)(hX:B7 [k] X=true) :
  Bp P o [] X ⟨(k,.cells cs (some t))::X.objs,X.live⟩ [k] (.ptr k 0):=by
 obtain⟨i,z,hi,hz',hzc⟩:=hz.is;exact B5u k ho hi hz' (fun g w=>Agd.ra (P:=P) (t:=t) hzc g w) hk hX
theorem At8{t e sz bytes:Nat}{x y:Operand}{es:A2 (A2 D)}{cs:A2 D}{k:IntKind}{i:Int}(ho:o.op = .indexAddr t x y)(ht:P2 P t e sz bytes)(h0:0≤i)(h1:es[i.toNat]? = some cs) :
  Bp P o [(x,.d (.sl sz es)),(y,.d (.sc (.int k i)))] X X [] (.d (.ep cs)):=by
 obtain⟨hu,i',z,hi,hs,hb,hz,hzs⟩:=ht;exact Aof ho hu hi hs h0 h1
theorem At9{ts:Array TypeId}{t e sz bytes sz':Nat}{x:Operand}{es:A2 (A2 D)}(ho:o.op = .call { callee:=.builtin .len,args:=#[x],argTypes:=ts })
  (h0:ts[0]? = some t) (ht:P2 P t e sz bytes):Bp P o [(x,.d (.sl sz' es))] X X [] (.d (.sc (.int .i64 es.length))):=A91 ho h0 ht.und
theorem Ata{ty:A3 TypeId}{ts:Array TypeId}{s x:Operand}{n sz:Nat}{es fs:A2 (A2 D)}{t u e e' bytes A73 sz':Nat}(m:Nat)
  (ho:o.op = .call { callee:=.builtin .append,args:=#[s,x],argTypes:=ts }) (h0:ts[0]? = some t) (h1:ts[1]? = some u) (hu:P2 P u e' sz' A73)
  (ht:P2 P t e sz bytes) (hn:n∈X.live) (hm:m∉X.live.filter (· != n)) (hX:B7 [m] X=true)
  (Iu:∀cs∈fs,∀c∈cs,Zw c=true) (Wg:(es.length+fs.length)*bytes≤140737488355328) (hlen:es.length+fs.length≤4611686018427387904)
  (Yl:(ty==none||ty==some e)=true:=by rfl) :
  Bp P o [(s,.Bu n sz es ty),(x,.d (.sl sz fs))] X ⟨X.objs,m::X.live.filter (· != n)⟩ [m] (.Bu m sz (es++fs) ty):=by
 obtain⟨hu',i',z,hi,hs,rfl,hz,hzs⟩:=ht;exact B2m m ho h0 h1 hu.und hu' hi hz hzs hs hn hm hX Iu Wg hlen (by
  intro e1 h1;subst h1;simpa using Yl)
theorem Aor{t e sz bytes n:Nat}{Bke:Array (Nat×Operand)}{xs:A2 D}(ho:o.op = .buildSlice t n Bke)(ht:P2 P t e sz bytes)
  (hx:xs.length=n) (Ax4:Bke.toList.map (·.1)=List.range n) (Ja:(xs.all fun x=>A5j (.d x)&&x.cells.length==sz)=true)
  (Wg:n*sz≤16777216):Bp P o ((Bke.toList.map (·.2)).zip (xs.map .d)) X X [] (.d (.sl sz (xs.map D.cells))):=by
 obtain⟨hu',i',z,hi,hs,hb,hz,hzs⟩:=ht;exact Akm ho hu' hi hz hs hx Ax4 Ja Wg
end
section
variable{P:Program}{S:Sig}{Q:Exit→St→Prop}{st:St}{N:St→Prop}
variable{o:Oper}{X:A7}
end
section
variable{P:Program}{o:Oper}{X:A7}
theorem A1z{t e:TypeId}(ht:P.underlying t=some (.pointer e))(a:A3 Addr)(w:World):(Op.equal t (.pointer a) (.pointer none)).run P w = .ok a.isNone w:=by
 have h:∀d:Nat,(Op.equalIn (d+1) t (.pointer a) (.pointer none)).run P w = .ok a.isNone w:=by intro d;cases a<;>simp[Op.equalIn,Bl0 ht]
 exact h 9999
end
section
variable{P:Program}{o:Oper}{X:A7}
theorem B65{t t':TypeId}{x y:Operand}{k:IntKind}{a b c:Int}(ho:o.op = .binOp .rem t x y t')(hb:b≠0)(hc:a.tmod b=c) :
  Bp P o [(x,.d (.sc (.int k a))),(y,.d (.sc (.int k b)))] X X [] (.d (.sc (.int k c))) :=
 .quiet fun _ _ g w ac _ Aq=>by
  have h1:=(H9 Aq).Al;have h2:=(T9 Aq).Al;simp only at h1 h2;refine⟨_,?_,.Fh _ _ _⟩;have hg:eqGuard .rem t x y (.int k a) (.int k b)=pure ():=rfl;simp only[execOp,ho,h1,h2,hg];simp[binOp,Op.intDiv,hb,hc]
theorem B66{t t':TypeId}{x y:Operand}{k:IntKind}{a b c:Int}(ho:o.op = .binOp .quo t x y t')(hb:b≠0)(hc:k.wrap (a.tdiv b)=c) :
  Bp P o [(x,.d (.sc (.int k a))),(y,.d (.sc (.int k b)))] X X [] (.d (.sc (.int k c))) :=
 .quiet fun _ _ g w ac _ Aq=>by
  have h1:=(H9 Aq).Al;have h2:=(T9 Aq).Al;simp only at h1 h2;refine⟨_,?_,.Fh _ _ _⟩;have hg:eqGuard .quo t x y (.int k a) (.int k b)=pure ():=rfl;simp only[execOp,ho,h1,h2,hg];simp[binOp,Op.intDiv,hb,hc]
end
inductive Rl(σ:Nat→Nat):AV→AV→Prop
 |d (x:D):Rl σ (.d x) (.d x)
 |nm (k:Nat) (p:PK):Rl σ (.nm k p) (.nm k p)
 |Bu (n sz:Nat) (es:List (List D)) (ty:Option TypeId):Rl σ (.Bu (σ n) sz es ty) (.Bu n sz es ty)
 |drop (n sz:Nat) (es:List (List D)) (ty:Option TypeId):Rl σ (.Bu n sz es ty) (.d (.sl sz es))
 |other (x:AV):Ki x=true→Rl σ x x
 |nil (sz:Nat):Rl σ (.d (.sc (.slice none 0 0))) (.d (.sl sz []))
 |agg (l l':List AV):l.length=l'.length→(∀(i:Nat) x x',l[i]? = some x→l'[i]? = some x'→Rl σ x x')→Rl σ (.agg l) (.agg l')
 |E2 (l l':List AV):l.length=l'.length→(∀(i:Nat) x x',l[i]? = some x→l'[i]? = some x'→Rl σ x x')→Rl σ (.E2 l) (.E2 l')
 |Ff (f:Nat) (l l':List AV):l.length=l'.length→(∀(i:Nat) x x',l[i]? = some x→l'[i]? = some x'→Rl σ x x')→Rl σ (.Ff f l) (.Ff f l')
inductive Axc(σ:Nat→Nat):Ob→Ob→Prop
 |cells (cs Wf:List AV) (ty:Option TypeId):cs.length=Wf.length→(∀(i:Nat) x x',cs[i]? = some x→Wf[i]? = some x'→Rl σ x x')→Axc σ (.cells cs ty) (.cells Wf ty)
 |map (l:List (Nat×Value×D)) (c:Nat):Axc σ (.map l c) (.map l c)
 |Oy (s:ByteArray) (pos:Nat):Axc σ (.Oy s pos) (.Oy s pos)
 |Jg (k since:Nat) (seen:Array Nat) (last:Nat):Axc σ (.Jg k since seen last) (.Jg k since seen last)
 |Dt:Axc σ .Dt .Dt
structure Bk5(nm:List Nat)(σ:Nat→Nat)(st Bq:St):Prop where
 env:∀p∈Bq.env,∃x,st.env.lookup p.1=some x∧Rl σ x p.2
 objs:∀p∈Bq.X.objs,∃o,st.X.objs.lookup p.1=some o∧Axc σ o p.2
 live:∀n∈Bq.X.live,σ n∈st.X.live
 inj:∀n∈Bq.X.live,∀m∈Bq.X.live,σ n=σ m→n=m
 Dc:∀k∈nm,(Bq.X.objs.lookup k).isSome
inductive B67(σ:Nat→Nat)(env:List (Nat×AV)):List (Nat×AV)→Prop
 |nil:B67 σ env []
 |cons {t:Nat} {x x' y:AV} {r:List (Nat×AV)}:env.lookup t=some x→x=y→Rl σ y x'→B67 σ env r→B67 σ env ((t,x')::r)
inductive Aos(σ:Nat→Nat):List AV→List AV→Prop
 |nil:Aos σ [] []
 |cons {x x':AV} {r r':List AV}:Rl σ x x'→Aos σ r r'→Aos σ (x::r) (x'::r')
inductive Axd(σ:Nat→Nat)(l:List (Nat×Ob)):List (Nat×Ob)→Prop
 |nil:Axd σ l []
 |cons {k:Nat} {o o' p:Ob} {r:List (Nat×Ob)}:l.lookup k=some o→o=p→Axc σ p o'→Axd σ l r→Axd σ l ((k,o')::r)
mutual
def Rk(f fl:Nat→Nat):AV→AV
 |.d x=>.d x
 |.nm k p=>.nm (f k) p
 |.Bu n sz es ty=>.Bu (fl n) sz es ty
 |.Uo n e cs=>.Uo (fl n) e cs
 |.E2 l=>.E2 (O4 f fl l)
 |.agg l=>.agg (O4 f fl l)
 |.Ff g l=>.Ff g (O4 f fl l)
def O4(f fl:Nat→Nat):List AV→List AV
 |[]=>[]
 |x::r=>Rk f fl x::O4 f fl r
end
mutual
def H5(ks ls:List Nat):AV→Bool
 |.d _=>true
 |.nm k _=>ks.contains k
 |.Bu n _ _ _=>ls.contains n
 |.Uo n _ _=>ls.contains n
 |.E2 l=>Kl ks ls l
 |.agg l=>Kl ks ls l
 |.Ff _ l=>Kl ks ls l
def Kl(ks ls:List Nat):List AV→Bool
 |[]=>true
 |x::r=>H5 ks ls x&&Kl ks ls r
end
theorem Iw{ks ls:A2 Nat}{l:A2 AV}(h:Kl ks ls l=true){i:Nat}{x:AV}(hx:l[i]? = some x):H5 ks ls x=true:=by
 induction l generalizing i with
 |nil=>simp at hx
 |cons y r ih =>
  simp only[Kl,Bls]at h;cases i with
  |zero=>simp at hx;subst hx;exact h.1
  |succ i=>exact ih h.2 (by simpa using hx)
theorem Ix(f fl:Nat→Nat)(l:A2 AV):O4 f fl l=l.map (Rk f fl):=by
 induction l with
 |nil=>rfl
 |cons x r ih=>simp[O4,ih]
theorem RA.A74{g gc:Gh}{w:World}{ks ls:A2 Nat}{f fl:Nat→Nat}(hγ:gc.γ=g.γ)(hρ:∀k∈ks,gc.ρ k=g.ρ (f k))(hβ:∀n∈ls,gc.β n=g.β (fl n)):∀(x:AV) (v:Value),H5 ks ls x=true→RA g w (Rk f fl x) v→RA gc w x v
 |.d x,v,_,h=>by
  simp only[Rk]at h;cases h with
  |d _ _ h=>exact .d _ _ (hγ▸h)
 |.nm k p,v,hn,h=>by
  simp only[Rk]at h;have hk:k∈ks:=by simpa[H5]using hn
  cases h with
  |nm _ _ _ h=>exact .nm k p v (by rw[hρ k hk];exact h)
 |.Uo n e cs,v,hn,h=>by
  simp only[Rk]at h;have hk:n∈ls:=by simpa[H5]using hn
  cases h with
  |Uo _ _ _ _ h1 h2 =>
   refine .Uo n e cs v (hγ▸h1) ?_;unfold Ag4 at h2⊢;split at h2
   ·exact⟨h2.1,fun ob Gg=>h2.2 ob (by rw[← hβ n hk];exact Gg)⟩
   ·trivial
 |.Bu n sz es ty,v,hn,h=>by
  simp only[Rk]at h;have hk:n∈ls:=by simpa[H5]using hn
  cases h with
  |Bu _ _ _ _ _ h1 h2 =>
   refine .Bu n sz es ty v (hγ▸h1) ?_;unfold A69 at h2⊢;split at h2
   ·intro ob Gg;rw[hβ n hk]at Gg;rw[hγ];exact h2 ob Gg
   ·trivial
 |.E2 l,v,hn,h=>by
  simp only[Rk,Ix]at h;cases h with
  |E2 _ vs hl hx =>
   refine .E2 l vs (by simpa using hl) fun i x v h1 h2=>?_
   have:SizeOf.sizeOf x<SizeOf.sizeOf l:=Bn0 (Bln h1);exact RA.A74 hγ hρ hβ x v (Iw (by simpa[H5]using hn) h1) (hx i _ v (by rw[Bkt,h1];rfl) h2)
 |.agg l,v,hn,h=>by
  simp only[Rk,Ix]at h;cases h with
  |agg _ vs hl hx =>
   refine .agg l vs (by simpa using hl) fun i x v h1 h2=>?_
   have:SizeOf.sizeOf x<SizeOf.sizeOf l:=Bn0 (Bln h1);exact RA.A74 hγ hρ hβ x v (Iw (by simpa[H5]using hn) h1) (hx i _ v (by rw[Bkt,h1];rfl) h2)
 |.Ff c l,v,hn,h=>by
  simp only[Rk,Ix]at h;cases h with
  |Ff _ _ vs hl hx =>
   refine .Ff c l vs (by simpa using hl) fun i x v h1 h2=>?_
   have:SizeOf.sizeOf x<SizeOf.sizeOf l:=Bn0 (Bln h1);exact RA.A74 hγ hρ hβ x v (Iw (by simpa[H5]using hn) h1) (hx i _ v (by rw[Bkt,h1];rfl) h2)
termination_by x=>x
theorem RA.Aot{g gc:Gh}{w:World}{ks ls:A2 Nat}{f fl:Nat→Nat}(hγ:gc.γ=g.γ)(hρ:∀k∈ks,g.ρ (f k)=gc.ρ k)(hβ:∀n∈ls,g.β (fl n)=gc.β n){x:AV}{v:Value}(h:RA gc w x v)(hn:H5 ks ls x=true):RA g w (Rk f fl x) v:=by
 induction h with
 |d x v h=>simp only[Rk];exact .d _ _ (hγ▸h)
 |nm k p v h =>
  have hk:k∈ks:=by simpa[H5]using hn
  simp only[Rk];exact .nm _ _ _ (by rw[hρ k hk];exact h)
 |Uo n e cs v h1 h2 =>
  have hk:n∈ls:=by simpa[H5]using hn
  simp only[Rk];refine .Uo _ e cs v (hγ▸h1) ?_;unfold Ag4 at h2⊢;split at h2
  ·exact⟨h2.1,fun ob Gg=>h2.2 ob (by rw[hβ n hk]at Gg;exact Gg)⟩
  ·trivial
 |Bu n sz es ty v h1 h2 =>
  have hk:n∈ls:=by simpa[H5]using hn
  simp only[Rk];refine .Bu _ sz es ty v (hγ▸h1) ?_;unfold A69 at h2⊢;split at h2
  ·intro ob Gg;rw[hβ n hk]at Gg;rw[← hγ];exact h2 ob Gg
  ·trivial
 |E2 l vs hl _ ih =>
  simp only[Rk,Ix];refine .E2 _ vs (by simpa using hl) fun i x v h1 h2=>?_
  rw[Bkt,Bky]at h1;obtain⟨y,hy,rfl⟩:=h1;exact ih i y v hy h2 (Iw (by simpa[H5]using hn) hy)
 |agg l vs hl _ ih =>
  simp only[Rk,Ix];refine .agg _ vs (by simpa using hl) fun i x v h1 h2=>?_
  rw[Bkt,Bky]at h1;obtain⟨y,hy,rfl⟩:=h1;exact ih i y v hy h2 (Iw (by simpa[H5]using hn) hy)
 |Ff c l vs hl _ ih =>
  simp only[Rk,Ix];refine .Ff c _ vs (by simpa using hl) fun i x v h1 h2=>?_
  rw[Bkt,Bky]at h1;obtain⟨y,hy,rfl⟩:=h1;exact ih i y v hy h2 (Iw (by simpa[H5]using hn) hy)
def Ll(f fl:Nat→Nat):Ob→Ob
 |.cells cs ty=>.cells (O4 f fl cs) ty
 |.map l c=>.map l c
 |.Oy s pos=>.Oy s pos
 |.Jg k since seen last=>.Jg (f k) since seen last
 |.Dt=>.Dt
 |.Ck L sz l c=>.Ck L sz l c
def Jw(ks ls:A2 Nat):Ob→Bool
 |.cells cs _=>Kl ks ls cs
 |.map _ _=>true
 |.Oy _ _=>true
 |.Jg k _ _ _=>ks.contains k
 |.Dt=>true
 |.Ck _ _ _ _=>false
theorem C3.A74{g gc:Gh}{w:World}{ks ls:A2 Nat}{f fl:Nat→Nat}(hγ:gc.γ=g.γ)(hρ:∀k∈ks,gc.ρ k=g.ρ (f k))(hβ:∀n∈ls,gc.β n=g.β (fl n)){b:Nat}{o:Ob}(hn:Jw ks ls o=true)(h:C3 g w b (Ll f fl o)):C3 gc w b o:=by
 cases o with
 |cells cs ty =>
  simp only[Ll,Ix]at h;cases h with
  |cells _ _ arr T hb hl hc h4 =>refine .cells cs ty arr T hb (by simpa using hl) (fun i x v hx hv=>?_) h4;exact RA.A74 hγ hρ hβ x v (Iw (by simpa[Jw]using hn) hx) (hc i _ v (by rw[Bkt,hx];rfl) hv)
 |map l c =>
  simp only[Ll]at h;cases h with
  |map _ _ es hb hl hc h4 h5=>exact .map l c es hb hl (fun i x e hx he=>⟨(hc i x e hx he).1,(hc i x e hx he).2.1,hγ▸(hc i x e hx he).2.2⟩) h4 h5
 |Oy s pos=>simp only[Ll]at h;cases h with|Oy _ _ hb=>exact .Oy s pos hb
 |Jg k since seen last =>
  simp only[Ll]at h;cases h with
  |Jg _ _ _ _ hb=>exact .Jg k since seen last (by rw[hρ k (Blz.1 hn)];exact hb)
 |Dt=>simp only[Ll]at h;cases h with|Dt hb=>exact .Dt hb
 |Ck L sz l c=>simp[Jw]at hn
theorem C3.Aot{g gc:Gh}{w:World}{ks ls:A2 Nat}{f fl:Nat→Nat}(hγ:gc.γ=g.γ)(hρ:∀k∈ks,g.ρ (f k)=gc.ρ k)(hβ:∀n∈ls,g.β (fl n)=gc.β n){b:Nat}{o:Ob}(hn:Jw ks ls o=true)(h:C3 gc w b o):C3 g w b (Ll f fl o):=by
 cases h with
 |cells cs ty arr T hb hl hc h4 =>simp only[Ll,Ix];refine .cells _ ty arr T hb (by simpa using hl) (fun i x v hx hv=>?_) h4;rw[Bkt,Bky]at hx;obtain⟨y,hy,rfl⟩:=hx;exact(hc i y v hy hv).Aot hγ hρ hβ (Iw (by simpa[Jw]using hn) hy)
 |map l c es hb hl hc h4 h5 =>exact .map l c es hb hl (fun i x e hx he=>⟨(hc i x e hx he).1,(hc i x e hx he).2.1,hγ▸(hc i x e hx he).2.2⟩) h4 h5
 |Oy s pos hb=>exact .Oy s pos hb
 |Jg k since seen last hb=>exact .Jg (f k) since seen last (by rw[hρ k (Blz.1 hn)];exact hb)
 |Dt hb=>exact .Dt hb
 |Ck L sz l c es hb hl hc h4 h5=>simp[Jw]at hn
def Cu(f fl:Nat→Nat):A2 (Nat×Ob)→A2 (Nat×Ob)→A2 (Nat×Ob)
 |[],acc=>acc
 |p::r,acc=>Cu f fl r (setObj (f p.1) (Ll f fl p.2) acc)
theorem M7{f fl:Nat→Nat}:∀(l acc:A2 (Nat×Ob)) (j:Nat),(∀p∈l,f p.1≠j)→(Cu f fl l acc).lookup j=acc.lookup j
 |[],_,_,_=>rfl
 |p::r,acc,j,h=>by
  simp only[Cu];rw[M7 r _ j (fun q hq=>h q (Bkx _ hq)),B3,Blj (Bnf (h p Bkz))]
theorem U4{f fl:Nat→Nat}:∀(l acc:A2 (Nat×Ob)) (p:Nat×Ob),(l.map fun p=>f p.1).Nodup→p∈l→(Cu f fl l acc).lookup (f p.1)=some (Ll f fl p.2)
 |[],_,_,_,h=>by simp at h
 |q::r,acc,p,hnd,h=>by
  simp only[Bkv,Bm1]at hnd;simp only[Cu];rcases Bkq.1 h with rfl|h
  ·rw[M7 r _ _ (fun q hq he=>hnd.1 (by rw[← he];exact Bl3 (f:=fun p:Nat×Ob=>f p.1) hq)),B3,Blv rfl]
  ·exact U4 r _ p hnd.2 h
structure A00(X Xc D1:A7)(f fl:Nat→Nat)(F:List Nat):Prop where
 Sd:∀p∈Xc.objs,X.objs.lookup (f p.1)=some (Ll f fl p.2)
 Aok:(Xc.objs.all fun p=>Jw (Xc.objs.map (·.1)) Xc.live p.2)=true
 Agm:(D1.objs.all fun p=>Jw (D1.objs.map (·.1)) D1.live p.2)=true
 nodup:(D1.objs.map fun p=>f p.1).Nodup
 Ax5:(Xc.objs.map (·.1)).Nodup
 new:∀p∈D1.objs,p.1∈Xc.objs.map (·.1)∨(f p.1∈F∧X.objs.lookup (f p.1)=none)
 sub:∀p∈Xc.objs,p.1∈D1.objs.map (·.1)
 free:∀j o,X.objs.lookup j=some o→(∀p∈D1.objs,f p.1≠j)→F=[]∨F9 F o=true
 Bdv:∀n∈Xc.live,fl n∈X.live
 Bfy:(Xc.live.map fl).Nodup
 Bdw:(D1.live.map fl).Nodup
 Bfz:∀n∈D1.live,fl n∈F
 Bih:∀n∈D1.live,fl n∈X.live→fl n∈Xc.live.map fl
def Hu(fl:Nat→Nat)(X Xc D1:A7):A2 Nat:=D1.live.map fl++X.live.filter fun m=>!(Xc.live.map fl).contains m
theorem Akn{fl:Nat→Nat}{X Xc D1:A7}{m:Nat}:m∈Hu fl X Xc D1↔(∃n∈D1.live,fl n=m)∨(m∈X.live∧∀n∈Xc.live,fl n≠m):=by
 unfold Hu;rw[Bkw,Bl2,Blu];refine or_congr Iff.rfl (and_congr Iff.rfl ?_);simp only[Boy];constructor
 ·intro h n hn he;have:(Xc.live.map fl).contains m=true:=by rw[Blz];exact Bl2.2 ⟨n,hn,he⟩
  rw[this]at h;cases h
 ·intro h;cases hc:(Xc.live.map fl).contains m with
  |false=>rfl
  |true =>rw[Blz]at hc;obtain⟨n,hn,he⟩:=Bl2.1 hc;exact(h n hn he).elim
section
variable{P:Program}{X:A7}
def GH(g:Gh)(w:World)(gs:A2 (Nat×AV)):Prop:=∀p∈gs,RA g w p.2 (.pointer (some ⟨p.1,0,none⟩))
def Ae4(P:Program)(f:FuncId)(args:A2 AV)(gs:A2 (Nat×AV))(X:A7)(res:AV)(X':A7):Prop :=
 ∀(g:Gh) (w:World) (vs:Array Value),HR (X.objs.map (·.1)) (Bl.of g w X) g w X→GH g w gs→args.length=vs.size →
  (∀(i:Nat) x v,args[i]? = some x→vs[i]? = some v→RA g w x v) →
  Calls P f vs w fun e w'=>∃g' v,e = .returned v∧RA g' w' res v∧HR (X.objs.map (·.1)) (Bl.of g w X) g' w' X'
theorem Lz.toH{f:FuncId}{args:A2 AV}{X:A7}{res:AV}{X':A7}(h:Lz P f args X res X'):Ae4 P f args [] X res X' :=
 fun g w vs hr _ hl ha=>h g w vs hr hl ha
theorem Ae4.plain{f:FuncId}{args:A2 AV}{X:A7}{res:AV}{X':A7}(h:Ae4 P f args [] X res X'):Lz P f args X res X' :=
 fun g w vs hr hl ha=>h g w vs hr (by simp[GH]) hl ha
theorem Ae4.Aou{fn:FuncId}{xs:A2 AV}{gs:A2 (Nat×AV)}{res:AV}{Xc D1:A7}(hs:Ae4 P fn xs gs Xc res D1)(hgd:Ba (gs.map (·.2))=true){f fl:Nat→Nat}{F:A2 Nat}(hc:A00 X Xc D1 f fl F)
  (hd:Kl (Xc.objs.map (·.1)) Xc.live xs=true) (Uq:H5 (D1.objs.map (·.1)) D1.live res=true) {nm:A2 Nat} {B:Bl} {g:Gh} {w:World}
  (hr:HR nm B g w X) (hgs:GH g w gs) {vs:Array Value} (hl:xs.length=vs.size) (Nz:∀(i:Nat) x v,(O4 f fl xs)[i]? = some x→vs[i]? = some v→RA g w x v) :
  Calls P fn vs w fun e w'=>∃v g',e = .returned v∧HR nm B g' w' ⟨Cu f fl D1.objs X.objs,Hu fl X Xc D1⟩∧Trans F g w g' w'∧RA g' w' (Rk f fl res) v:=by
 classical
 let gc:Gh:={ γ:=g.γ,β:=fun n=>if n∈Xc.live then g.β (fl n)else none,ρ:=fun k=>g.ρ (f k) };have B68:∀n∈Xc.live,gc.β n=g.β (fl n):=fun n hn=>by simp only[gc,hn,Bn5]
 have Abt:∀n ob,gc.β n=some ob→n∈Xc.live∧g.β (fl n)=some ob:=by
  intro n ob he;simp only[gc]at he;split at he
  ·exact⟨‹_›,he⟩
  ·cases he
 have Kz:∀k o,Xc.objs.lookup k=some o→X.objs.lookup (f k)=some (Ll f fl o):=fun k o hk=>hc.Sd _ (Di hk)
 have Aol:∀p∈D1.objs,∀q∈D1.objs,f p.1=f q.1→p=q:=fun p hp q hq he=>Jb hc.nodup hp hq he
 have Abs:(D1.objs.map (·.1)).Nodup:=Xy (h:=f) hc.nodup;have A95:∀k o,Xc.objs.lookup k=some o→∃p∈D1.objs,p.1=k:=by intro k o hk;obtain⟨p,hp,he⟩:=Bl2.1 (hc.sub _ (Di hk));exact⟨p,hp,he⟩
 have h0:HR (Xc.objs.map (·.1)) (Bl.of gc w Xc) gc w Xc:=by
  refine⟨?_,hr.Ik,Bl1 _,⟨rfl,rfl,rfl,Bl1 _⟩,.refl _ _,fun b _ _=>⟨rfl,rfl⟩,?_,?_,?_,?_,?_,?_,?_,?_,?_,.bare fun _ _=>rfl⟩
  ·intro k hk;refine⟨rfl,?_⟩;obtain⟨p,hp,rfl⟩:=Bl2.1 hk;rw[Be hc.Ax5 (x:=p.2) hp];rfl
  ·intro k o hk;exact C3.A74 (g:=g) (gc:=gc) (f:=f) (fl:=fl) (ks:=Xc.objs.map (·.1)) (ls:=Xc.live) rfl (fun _ _=>rfl) B68 (Bly.1 hc.Aok _ (Di hk)) (hr.objs _ _ (Kz k o hk))
  ·intro k o hk;exact hr.Fx _ _ (Kz k o hk)
  ·intro k k' o o' hk Lk he;have h1:=hr.C0 _ _ _ _ (Kz k o hk) (Kz k' o' Lk) he;obtain⟨p,hp,e1⟩:=A95 k o hk;obtain⟨q,hq,e2⟩:=A95 k' o' Lk;have:=Aol p hp q hq (by rw[e1,e2];exact h1);rw[← e1,← e2,this]
  ·intro k o hk;exact .inr (.inl ⟨k,o,hk,rfl⟩)
  ·intro n;by_cases hn:n∈Xc.live
   ·simp only[hn,true_iff,B68 n hn];exact(hr.live _).1 (hc.Bdv n hn)
   ·simp only[hn,false_iff,gc,Bn2];simp
  ·intro n m b hn hm;obtain⟨h1,h2⟩:=Abt n _ hn;obtain⟨h3,h4⟩:=Abt m _ hm;exact Jb hc.Bfy h1 h3 (hr.C4 _ _ b h2 h4)
  ·intro n b k o hn hk;exact hr.Bo _ b _ _ (Abt n _ hn).2 (Kz k o hk)
  ·intro n b hn;exact .inr (.inr ⟨n,hn⟩)
  ·intro n b hn;exact hr.Cd _ b (Abt n _ hn).2
 have Bdx:GH gc w gs:=by intro p hp;obtain⟨i,hi⟩:=Bpg hp;exact(hgs p hp).data (Iv hgd (i:=i) (by rw[Bkt,hi];rfl)) (.refl _ _)
 have:=hs gc w vs h0 Bdx hl fun i x v hx hv=>RA.A74 (g:=g) (gc:=gc) (ks:=Xc.objs.map (·.1)) (ls:=Xc.live) (f:=f) (fl:=fl) rfl (fun _ _=>rfl) B68 x v (Iw hd hx) (Nz i _ v (by rw[Ix,Bkt,hx];rfl) hv)
 refine this.mono ?_;rintro e w' ⟨g1,v,rfl,T8,h1⟩;let ρ':Nat→Nat:=fun j=>match D1.objs.find? (fun p=>f p.1==j) with
  |some p=>g1.ρ p.1
  |none=>g.ρ j
 let β':Nat→A3 (A3 Nat):=fun m=>match D1.live.find? (fun n=>fl n==m) with
  |some n=>g1.β n
  |none=>if m∈Xc.live.map fl then none else g.β m
 let η':Nat→Nat→A3 Nat:=fun m=>if m∈D1.live.map fl then fun _=>none else g.η m
 have Bg0:∀n∈D1.live,∀i,η' (fl n) i=none:=by intro n hn i;simp only[η',Bl2.2 ⟨n,hn,rfl⟩,Bn5]
 have B69:∀m,(∀n∈D1.live,fl n≠m)→η' m=g.η m:=by
  intro m hm;have:m∉D1.live.map fl:=fun h=>by obtain⟨n,hn,he⟩:=Bl2.1 h;exact hm n hn he
  simp only[η',this,Bn2]
 have Ho:∀p∈D1.objs,ρ' (f p.1)=g1.ρ p.1:=by
  intro p hp;have H4:(D1.objs.find? (fun q=>f q.1==f p.1)).isSome=true:=by rw[Br0];exact⟨p,hp,by simp⟩
  obtain⟨q,hq⟩:=Blm.1 H4;have hq1:=Brg hq;have hq2:=Bpn hq;simp only[Bp8]at hq1;have:=Aol q hq2 p hp hq1;simp only[ρ',hq,this]
 have Dd:∀j,(∀p∈D1.objs,f p.1≠j)→ρ' j=g.ρ j:=by
  intro j hj;have:D1.objs.find? (fun p=>f p.1==j)=none:=by rw[Bqq];intro p hp;simpa using hj p hp
  simp only[ρ',this]
 have Atb:∀n∈D1.live,β' (fl n)=g1.β n:=by
  intro n hn;have H4:(D1.live.find? (fun q=>fl q==fl n)).isSome=true:=by rw[Br0];exact⟨n,hn,by simp⟩
  obtain⟨q,hq⟩:=Blm.1 H4;have hq1:=Brg hq;have hq2:=Bpn hq;simp only[Bp8]at hq1;have:=Jb hc.Bdw hq2 hn hq1;simp only[β',hq,this]
 have B6a:∀m,(∀n∈D1.live,fl n≠m)→β' m=if m∈Xc.live.map fl then none else g.β m:=by
  intro m hm;have:D1.live.find? (fun n=>fl n==m)=none:=by rw[Bqq];intro n hn;simpa using hm n hn
  simp only[β',this]
 have O5:∀m ob,β' m=some ob→(∃n∈D1.live,fl n=m∧g1.β n=some ob)∨((∀n∈D1.live,fl n≠m)∧(∀n∈Xc.live,fl n≠m)∧g.β m=some ob):=by
  intro m ob he;by_cases h:∃n∈D1.live,fl n=m
  ·obtain⟨n,hn,rfl⟩:=h;rw[Atb n hn]at he;exact .inl ⟨n,hn,rfl,he⟩
  ·have h':∀n∈D1.live,fl n≠m:=fun n hn he=>h ⟨n,hn,he⟩
   rw[B6a m h']at he;split at he
   ·cases he
   ·rename_i Wk;exact .inr ⟨h',fun n hn e=>Wk (Bl2.2 ⟨n,hn,e⟩),he⟩
 have A72:∀j,(∃p∈D1.objs,f p.1=j)∨(∀p∈D1.objs,f p.1≠j):=by
  intro j;by_cases h:∃p∈D1.objs,f p.1=j
  ·exact .inl h
  ·exact .inr fun p hp he=>h ⟨p,hp,he⟩
 have hold:∀k,k∈Xc.objs.map (·.1)→g1.ρ k=g.ρ (f k):=fun k hk=>(h1.Dc k hk).1
 have Q5:∀b,b<w.heap.size→(¬ ∃k o,Xc.objs.lookup k=some o∧g.ρ (f k)=b)→(¬ ∃n∈Xc.live,g.β (fl n)=some (some b))→w'.heap[b]? = w.heap[b]?∧g1.γ b=g.γ b:=by
  intro b hb hn hn2;refine h1.frame b hb ?_;rintro (⟨k,o,hk,he⟩|⟨n,L0⟩)
  ·exact hn ⟨k,o,hk,he⟩
  ·exact hn2 ⟨n,Abt n _ L0⟩
 have G9:w.heap.size≤w'.heap.size:=h1.base;have hle:LeD g.γ w g1.γ w':=h1.le;have Atc:∀b,(w.heap.size≤b∨(Bl.of gc w Xc).allowed b)→w.heap.size≤b∨(∃k o,Xc.objs.lookup k=some o∧g.ρ (f k)=b)∨(∃n∈Xc.live,g.β (fl n)=some (some b)):=by
  rintro b (h|⟨k,o,hk,he⟩|⟨n,hn⟩)
  ·exact .inl h
  ·exact .inr (.inl ⟨k,o,hk,he⟩)
  ·exact .inr (.inr ⟨n,Abt n _ hn⟩)
 have A1w:∀m b,g.β m=some (some b)→(∀n∈Xc.live,fl n≠m)→w'.heap[b]? = w.heap[b]?∧g1.γ b=g.γ b:=by
  intro m b hm Wk;refine Q5 b (hr.Cd m b hm) ?_ ?_
  ·rintro ⟨k,o,hk,he⟩;exact hr.Bo m b _ _ hm (Kz k o hk) he.symm
  ·rintro ⟨n,hn,he⟩;exact Wk n hn (hr.C4 _ _ b he hm)
 have A1x:∀L i b,(g.β L).isSome→g.η L i=some b→w'.heap[b]? = w.heap[b]?∧g1.γ b=g.γ b:=by
  intro L i b hL hb;refine Q5 b (hr.eta.lt L i b hL hb) ?_ ?_
  ·rintro ⟨k,o,hk,he⟩;exact hr.eta.obj L i b _ _ hL hb (Kz k o hk) he.symm
  ·rintro ⟨n,_,he⟩;exact hr.eta.Bu L i b _ hL hb he
 have A1y:∀j o,X.objs.lookup j=some o→(∀p∈D1.objs,f p.1≠j)→w'.heap[g.ρ j]? = w.heap[g.ρ j]?∧g1.γ (g.ρ j)=g.γ (g.ρ j):=by
  intro j o hj hne;refine Q5 _ (Ey (hr.objs j o hj)) ?_ ?_
  ·rintro ⟨k,o',hk,he⟩;have:=hr.C0 _ _ _ _ (Kz k o' hk) hj he;obtain⟨p,hp,e1⟩:=A95 k o' hk;exact hne p hp (by rw[e1];exact this)
  ·rintro ⟨n,_,he⟩;exact hr.Bo _ _ j o he hj rfl
 have B6b:∀j,(∀p∈D1.objs,f p.1≠j)→∀k o,Xc.objs.lookup k=some o→f k≠j:=by intro j hne k o hk he;obtain⟨p,hp,e1⟩:=A95 k o hk;exact hne p hp (by rw[e1];exact he)
 have ht:Trans F g w { γ:=g1.γ,β:=β',ρ:=ρ',η:=η' } w':=by
  refine⟨hle,?_,?_,?_⟩
  rotate_right
  ·intro L hL he;obtain⟨ob,Gg⟩:=Blm.1 he;rcases O5 L ob Gg with ⟨n,hn,rfl,_⟩|⟨h2,h3,h4⟩
   ·exact(hL (hc.Bfz n hn)).elim
   ·exact⟨B69 L h2,fun i b hb=>⟨(A1x L i b (by rw[h4];rfl) hb).2,(A1x L i b (by rw[h4];rfl) hb).1⟩⟩
  ·intro j hj;simp only;rcases A72 j with ⟨p,hp,rfl⟩|hne
   ·rw[Ho p hp];rcases hc.new p hp with h|⟨h,_⟩
    ·exact hold _ h
    ·exact(hj h).elim
   ·exact Dd j hne
  ·intro m ob hm he;rcases O5 m ob he with ⟨n,hn,rfl,_⟩|⟨_,h3,h4⟩
   ·exact(hm (hc.Bfz n hn)).elim
   ·exact⟨h4,fun b hb=>⟨(A1w m b (hb▸h4) h3).2,(A1w m b (hb▸h4) h3).1⟩⟩
 have hX':∀j o,(Cu f fl D1.objs X.objs).lookup j=some o→(∃p∈D1.objs,f p.1=j∧o=Ll f fl p.2)∨((∀p∈D1.objs,f p.1≠j)∧X.objs.lookup j=some o):=by
  intro j o hj;rcases A72 j with ⟨p,hp,rfl⟩|hne
  ·rw[U4 _ _ p hc.nodup hp]at hj;exact .inl ⟨p,hp,rfl,by simpa using hj.symm⟩
  ·rw[M7 _ _ _ hne]at hj;exact .inr ⟨hne,hj⟩
 have Agn:∀k∈D1.objs.map (·.1),ρ' (f k)=g1.ρ k:=by intro k hk;obtain⟨p,hp,rfl⟩:=Bl2.1 hk;exact Ho p hp
 have Ako:∀p∈D1.objs,w.heap.size≤g1.ρ p.1∨(∃k o,Xc.objs.lookup k=some o∧g.ρ (f k)=g1.ρ p.1)∨(∃n∈Xc.live,g.β (fl n)=some (some (g1.ρ p.1))) :=
  fun p hp=>Atc _ (h1.Ce _ _ (Be Abs hp))
 refine⟨v,{ γ:=g1.γ,β:=β',ρ:=ρ',η:=η' },rfl,⟨?_,h1.Ik,Bmh hr.base G9,⟨h1.io.1.trans hr.io.1,h1.io.2.1.trans hr.io.2.1,h1.io.2.2.1.trans hr.io.2.2.1,Bmh hr.io.2.2.2 h1.io.2.2.2⟩,hr.le.trans hle,?_,?_,?_,?_,?_,?_,?_,?_,?_,?_,hr.eta.Asx (fun L hL=>?_) G9 (fun m b hm L i hL hb=>?_) (fun j o hj L i hL hb=>?_)⟩,ht,?_⟩
 ·intro k hk;obtain⟨h2,h3⟩:=hr.Dc k hk;rcases A72 k with ⟨p,hp,rfl⟩|hne
  ·refine⟨?_,by simp only;rw[U4 _ _ p hc.nodup hp];rfl⟩;simp only;rw[Ho p hp];rcases hc.new p hp with h|⟨_,h⟩
   ·rw[hold _ h];exact h2
   ·rw[h]at h3;cases h3
  ·exact⟨by simp only;rw[Dd k hne];exact h2,by simp only;rw[M7 _ _ _ hne];exact h3⟩
 ·intro b hb hnb;have h2:=hr.frame b hb hnb;have h3:=Q5 b (Bmn hb hr.base) (by
   rintro ⟨k,o,hk,he⟩;rcases hr.Ce _ _ (Kz k o hk)with h|h
   ·rw[he]at h;omega
   ·rw[he]at h;exact hnb h) (by
   rintro ⟨n,_,he⟩;rcases hr.Ca _ b he with h|h
   ·omega
   ·exact hnb h)
  exact⟨h3.1.trans h2.1,h3.2.trans h2.2⟩
 ·intro j o hj;rcases hX' j o hj with ⟨p,hp,rfl,rfl⟩|⟨hne,Gf⟩
  ·simp only;rw[Ho p hp];exact C3.Aot (g:={ γ:=g1.γ,β:=β',ρ:=ρ',η:=η' }) (gc:=g1) (ls:=D1.live) rfl Agn Atb (Bly.1 hc.Agm _ hp) (h1.objs _ _ (Be Abs hp))
  ·simp only;rw[Dd j hne];exact(hr.objs j o Gf).Dc ht (A1y j o Gf hne).1 (hc.free j o Gf hne)
 ·intro j o hj;rcases hX' j o hj with ⟨p,hp,rfl,rfl⟩|⟨hne,Gf⟩
  ·simp only;rw[Ho p hp];exact h1.Fx _ _ (Be Abs hp)
  ·simp only;rw[Dd j hne,(A1y j o Gf hne).2];exact hr.Fx j o Gf
 ·intro j j' o o' hj Gf he;simp only at he;have mix:∀p∈D1.objs,∀j o,X.objs.lookup j=some o→(∀p∈D1.objs,f p.1≠j)→g1.ρ p.1≠g.ρ j:=by
   intro p hp j o hj hne he;rcases Ako p hp with h|⟨k,o',hk,h⟩|⟨n,_,h⟩
   ·have:=Ey (hr.objs j o hj);omega
   ·exact B6b j hne k o' hk (hr.C0 _ _ _ _ (Kz k o' hk) hj (h.trans he))
   ·exact hr.Bo _ _ j o h hj he
  rcases hX' j o hj with ⟨p,hp,e1,_⟩|⟨hne,hj1⟩<;>rcases hX' j' o' Gf with ⟨q,hq,e2,_⟩|⟨Ta,At6⟩
  ·rw[← e1,← e2]at he⊢;rw[Ho p hp,Ho q hq]at he;rw[h1.C0 _ _ _ _ (Be Abs hp) (Be Abs hq) he]
  ·rw[← e1,Ho p hp,Dd j' Ta]at he;exact(mix p hp j' o' At6 Ta he).elim
  ·rw[← e2,Ho q hq,Dd j hne]at he;exact(mix q hq j o hj1 hne he.symm).elim
  ·rw[Dd j hne,Dd j' Ta]at he;exact hr.C0 j j' o o' hj1 At6 he
 ·intro j o hj;rcases hX' j o hj with ⟨p,hp,rfl,rfl⟩|⟨hne,Gf⟩
  ·simp only;rw[Ho p hp];rcases Ako p hp with h|⟨k,o',hk,h⟩|⟨n,_,h⟩
   ·exact .inl (Bmh hr.base h)
   ·rw[← h];exact hr.Ce _ _ (Kz k o' hk)
   ·exact hr.Ca _ _ h
  ·simp only;rw[Dd j hne];exact hr.Ce j o Gf
 ·intro m;rw[Akn];simp only;constructor
  ·rintro (⟨n,hn,rfl⟩|⟨hm,Wk⟩)
   ·rw[Atb n hn];exact(h1.live n).1 hn
   ·by_cases h:∃n∈D1.live,fl n=m
    ·obtain⟨n,hn,rfl⟩:=h;rw[Atb n hn];exact(h1.live n).1 hn
    ·rw[B6a m (fun n hn he=>h ⟨n,hn,he⟩),Blj (fun A5m=>by obtain⟨n,hn,he⟩:=Bl2.1 A5m;exact Wk n hn he)];exact(hr.live m).1 hm
  ·intro M5;obtain⟨ob,Gg⟩:=Blm.1 M5;rcases O5 m ob Gg with ⟨n,hn,he,_⟩|⟨_,h3,h4⟩
   ·exact .inl ⟨n,hn,he⟩
   ·exact .inr ⟨(hr.live m).2 (by rw[h4];rfl),h3⟩
 ·intro m m' b hm T4;have Bcn:∀n∈D1.live,g1.β n=some (some b)→∀m,(∀n∈Xc.live,fl n≠m)→g.β m=some (some b)→False:=by
   intro n _ h2 m h3 h4;rcases Atc b (h1.Ca n b h2)with h|⟨k,o,hk,h⟩|⟨n',L0,h⟩
   ·have:=hr.Cd m b h4;omega
   ·exact hr.Bo m b _ _ h4 (Kz k o hk) h.symm
   ·exact h3 n' L0 (hr.C4 _ _ b h h4)
  rcases O5 m _ hm with ⟨n,hn,e1,h2⟩|⟨_,h3,h4⟩<;>rcases O5 m' _ T4 with ⟨n',L0,e2,h2'⟩|⟨_,h3',h4'⟩
  ·rw[← e1,← e2,h1.C4 n n' b h2 h2']
  ·exact(Bcn n hn h2 m' h3' h4').elim
  ·exact(Bcn n' L0 h2' m h3 h4).elim
  ·exact hr.C4 m m' b h4 h4'
 ·intro m b j o hm hj;rcases O5 m _ hm with ⟨n,hn,_,h2⟩|⟨_,h3,h4⟩
  ·rcases hX' j o hj with ⟨p,hp,rfl,rfl⟩|⟨hne,Gf⟩
   ·simp only;rw[Ho p hp];exact h1.Bo n b _ _ h2 (Be Abs hp)
   ·simp only;rw[Dd j hne];rcases Atc b (h1.Ca n b h2)with h|⟨k,o',hk,h⟩|⟨n',_,h⟩
    ·have:=Ey (hr.objs j o Gf);omega
    ·intro he;exact B6b j hne k o' hk (hr.C0 _ _ _ _ (Kz k o' hk) Gf (h.trans he))
    ·exact hr.Bo _ b j o h Gf
  ·rcases hX' j o hj with ⟨p,hp,rfl,rfl⟩|⟨hne,Gf⟩
   ·simp only;rw[Ho p hp];rcases Ako p hp with h|⟨k,o',hk,h⟩|⟨n',L0,h⟩
    ·have:=hr.Cd m b h4;omega
    ·rw[← h];exact hr.Bo m b _ _ h4 (Kz k o' hk)
    ·intro he;rw[← he]at h;exact h3 n' L0 (hr.C4 _ _ b h h4)
   ·simp only;rw[Dd j hne];exact hr.Bo m b j o h4 Gf
 ·intro m b hm;rcases O5 m _ hm with ⟨n,hn,_,h2⟩|⟨_,h3,h4⟩
  ·rcases Atc b (h1.Ca n b h2)with h|⟨k,o',hk,h⟩|⟨n',_,h⟩
   ·exact .inl (Bmh hr.base h)
   ·rw[← h];exact hr.Ce _ _ (Kz k o' hk)
   ·exact hr.Ca _ b h
  ·exact hr.Ca m b h4
 ·intro m b hm;rcases O5 m _ hm with ⟨n,hn,_,h2⟩|⟨_,h3,h4⟩
  ·exact h1.Cd n b h2
  ·exact Bmn (hr.Cd m b h4) G9
 ·obtain⟨ob,Gg⟩:=Blm.1 hL;rcases O5 L ob Gg with ⟨n,hn,rfl,_⟩|⟨h2,h3,h4⟩
  ·exact .inr (Bg0 n hn)
  ·exact .inl ⟨by rw[h4];rfl,B69 L h2⟩
 ·rcases O5 m _ hm with ⟨n,hn,_,h2⟩|⟨_,h3,h4⟩
  ·rcases Atc b (h1.Ca n b h2)with h|⟨k,o',hk,h⟩|⟨n',_,h⟩
   ·exact hr.eta.Yj h L i hL hb
   ·exact hr.eta.obj L i b _ _ hL hb (Kz k o' hk) h.symm
   ·exact hr.eta.Bu L i b _ hL hb h
  ·exact hr.eta.Bu L i b m hL hb h4
 ·rcases hX' j o hj with ⟨p,hp,rfl,rfl⟩|⟨hne,Gf⟩
  ·simp only at hb;rw[Ho p hp]at hb;rcases Ako p hp with h|⟨k,o',hk,h⟩|⟨n',_,h⟩
   ·exact hr.eta.Yj h L i hL hb
   ·exact hr.eta.obj L i _ _ _ hL hb (Kz k o' hk) h.symm
   ·exact hr.eta.Bu L i _ _ hL hb h
  ·simp only at hb;rw[Dd j hne]at hb;exact hr.eta.B2h Gf L i hL hb
 ·exact RA.Aot (g:={ γ:=g1.γ,β:=β',ρ:=ρ',η:=η' }) (gc:=g1) (ls:=D1.live) rfl Agn Atb T8 Uq
theorem Lz.Aou{fn:FuncId}{xs:A2 AV}{res:AV}{Xc D1:A7}(hs:Lz P fn xs Xc res D1){f fl:Nat→Nat}{F:A2 Nat}(hc:A00 X Xc D1 f fl F)
  (hd:Kl (Xc.objs.map (·.1)) Xc.live xs=true) (Uq:H5 (D1.objs.map (·.1)) D1.live res=true) {nm:A2 Nat} {B:Bl} {g:Gh} {w:World}
  (hr:HR nm B g w X) {vs:Array Value} (hl:xs.length=vs.size) (Nz:∀(i:Nat) x v,(O4 f fl xs)[i]? = some x→vs[i]? = some v→RA g w x v) :
  Calls P fn vs w fun e w'=>∃v g',e = .returned v∧HR nm B g' w' ⟨Cu f fl D1.objs X.objs,Hu fl X Xc D1⟩∧Trans F g w g' w'∧RA g' w' (Rk f fl res) v :=
 hs.toH.Aou rfl hc hd Uq hr (by simp[GH]) hl Nz
end
open Go.Lib
inductive Aov(X:A7)(f fl:Nat→Nat):List (Nat×Ob)→Prop
 |nil:Aov X f fl []
 |cons {k:Nat} {o:Ob} {r:List (Nat×Ob)}:X.objs.lookup (f k)=some (Ll f fl o)→Aov X f fl r→Aov X f fl ((k,o)::r)
theorem B6c{m:Nat}{l:A2 Nat}(h:l.contains m=false):m∉l:=fun hm=>by
 have:=Blz.2 hm;rw[h]at this;cases this
section
variable{P:Program}{o:Oper}{X:A7}
theorem Trans.sub{F F':A2 Nat}{g g':Gh}{w w':World}(h:Trans F g w g' w')(hs:∀k,k∈F→k∈F'):Trans F' g w g' w' :=
 ⟨h.le,fun k hk=>h.names k fun hh=>hk (hs k hh),fun n ob hn he=>h.Aob n ob (fun hh=>hn (hs n hh)) he,fun L hL he=>h.eta L (fun hh=>hL (hs L hh)) he⟩
theorem Am6{m:Nat}{l:A2 Nat}(h:m∉l):(m::l).filter (· != m)=l:=by
 simp only[Bnk,Br1,Bmi,Bn2];exact List.filter_eq_self.2 fun x hx=>by
  have:x≠m:=fun e=>h (by rw[← e];exact hx)
  simpa using this
theorem Aow{ts:Array TypeId}{s x:Operand}{sz:Nat}{fs:A2 (A2 D)}{t u e e' bytes A73 sz':Nat}{ty:A3 TypeId}(m:Nat)
  (ho:o.op = .call { callee:=.builtin .append,args:=#[s,x],argTypes:=ts }) (h0:ts[0]? = some t) (h1:ts[1]? = some u) (hu:P2 P u e' sz' A73)
  (ht:P2 P t e sz bytes) (hm:m∉X.live) (hX:B7 [m] X=true)
  (Iu:∀cs∈fs,∀c∈cs,Zw c=true) (Wg:fs.length*bytes≤140737488355328) (hlen:fs.length≤4611686018427387904)
  (Yl:(ty==none||ty==some e)=true:=by rfl) :
  Bp P o [(s,.d (.sc (.slice none 0 0))),(x,.d (.sl sz fs))] X ⟨X.objs,m::X.live⟩ [m] (.Bu m sz fs ty):=by
 intro nm Ek B g w a hr Aq next Q hn
 have e1:=(H9 Aq).Al;have e2:=T9 Aq;simp only at e1 e2;obtain⟨h2,h3⟩:=hr.P1 hm none hX (by simp);have hap:=Ata (P:=P) (o:=o) (X:=⟨X.objs,m::X.live⟩) (n:=m) (sz:=sz) (es:=[]) (fs:=fs) (ty:=ty) m ho h0 h1 hu ht Bkz
  (by simp only[Am6 hm];exact hm) hX Iu (by simpa using Wg) (by simpa using hlen) Yl
 refine hap nm Ek B _ w a h2 ?_ next Q ?_
 ·intro p hp;simp only[Bkq,Blh,Bma]at hp;rcases hp with rfl|rfl
  ·simp only[e1];exact .Bu m sz [] ty _ (.nil sz none 0 fun _=>rfl) trivial
  ·exact e2.mono h3 (.d _)
 ·intro g' w' v hr' ht' T8;simp only[Am6 hm]at hr';exact hn g' w' v hr' ((h3.trans ht').sub (by simp)) (by simpa using T8)
theorem Axe{ts:Array TypeId}{t:TypeId}{x:Operand}{e sz bytes:Nat}(ho:o.op = .call { callee:=.builtin .len,args:=#[x],argTypes:=ts })
  (h0:ts[0]? = some t) (ht:P2 P t e sz bytes):Bp P o [(x,.d (.sc (.slice none 0 0)))] X X [] (.d (.sc (.int .i64 0))):=by
 intro nm Ek B g w a hr Aq;have e1:=(H9 Aq).Al;simp only at e1;refine At9 (es:=[]) (sz':=sz) ho h0 ht nm Ek B g w a hr ?_;intro p hp;simp only[Bkq,Blh,Bma]at hp;subst hp;simp only[e1];exact .d _ _ (.nil sz none 0 fun _=>rfl)
theorem B0l{nm:A2 Nat}{B:Bl}{g:Gh}{w:World}{X:A7}(hr:HR nm B g w X){k:Nat}{cs:A2 AV}{T:TypeId}(hk:X.objs.lookup k=some (.cells cs (some T))) :
  ∃c,w.shape? (g.ρ k)=some (T,c)∧cs.length≤c:=by
 cases hr.objs k _ hk with
 |cells _ _ arr T' hb hl hc h4 =>have:=h4 T rfl;subst this;exact⟨arr.size,by simp[World.shape?,hb],hl⟩
theorem Aox{s d t:TypeId}{i:TypeInfo}{x:Operand}{k off:Nat}{cs:A2 AV}{T:TypeId}(ho:o.op = .convert s d x)(hk:X.objs.lookup k=some (.cells cs (some T)))(Atd:off<cs.length)
  (hs:P.underlying s=some (.pointer t)) (hd:P.underlying d=some .unsafePointer) (hi:P.info? t=some i) (G9:i.size≠0):Bp P o [(x,.ptr k off)] X X [] (.ptr k off) :=
 .quiet fun _ _ g w ac hr Aq=>by
  have h1:=(H9 Aq).Is;simp only at h1;obtain⟨c,hc,hlc⟩:=B0l hr hk;refine⟨_,?_,.ptr k off⟩;simp only[execOp,ho,h1];have:=run_to_unsafe (P:=P) w (src:=s) (dst:=d) (a:=⟨g.ρ k,off,none⟩) hs hd hi G9 hc (by simp only;omega);simp[this]
theorem Agt{s d:TypeId}{i:TypeInfo}{x:Operand}{k:Nat}{cs:A2 AV}{T:TypeId}(ho:o.op = .convert s d x)(hk:X.objs.lookup k=some (.cells cs (some T)))
  (hs:P.underlying s=some .unsafePointer) (hd:P.underlying d=some (.pointer T)) (hi:P.info? T=some i) (G9:P.cellsOf T=cs.length) (A5k:cs.length≠0):Bp P o [(x,.ptr k 0)] X X [] (.ptr k 0) :=
 .quiet fun _ _ g w ac hr Aq=>by
  have h1:=(H9 Aq).Is;simp only at h1;obtain⟨c,hc,hlc⟩:=B0l hr hk;refine⟨_,?_,.ptr k 0⟩;simp only[execOp,ho,h1];have Bg1:liesAt P P.depth T (c/P.cellsOf T) 0 T 1=true:=by have hd':P.depth=(2*(P.types.size+Made.depth)+1)+1:=rfl;have hq:1≤c/cs.length:=(Nat.le_div_iff_mul_le (by omega)).2 (by omega);rw[hd'];simp only[liesAt,Bms];left;rw[hd'];simp[rowAt,sameLayout,G9,A5k];exact .inl hq
  have:=run_from_unsafe (P:=P) w (src:=s) (dst:=d) (a:=⟨g.ρ k,0,none⟩) hs hd hi hc Bg1;simp[this]
theorem Akp{s d t:TypeId}{x:Operand}{k off:Nat}{cs:A2 AV}{T:TypeId}(ho:o.op = .convert s d x)(hk:X.objs.lookup k=some (.cells cs (some T)))(Atd:off+1≤cs.length)
  (hs:P.underlying s=some (.pointer t)) (hd:P.underlying d=some .unsafePointer) (hi:∃i,P.info? t=some i∧i.size≠0):Bp P o [(x,.ptr k off)] X X [] (.ptr k off):=by
 obtain⟨i,hi,hz⟩:=hi;exact Aox ho hk Atd hs hd hi hz
theorem Aff{s d:TypeId}{x:Operand}{k:Nat}{cs:A2 AV}{T:TypeId}(ho:o.op = .convert s d x)(hk:X.objs.lookup k=some (.cells cs (some T)))
  (hs:P.underlying s=some .unsafePointer) (hd:P.underlying d=some (.pointer T)) (hi:∃i,P.info? T=some i∧i.size≠0) (G9:P.cellsOf T=cs.length) (A5k:cs.length≠0):Bp P o [(x,.ptr k 0)] X X [] (.ptr k 0):=by
 obtain⟨i,hi,_⟩:=hi;exact Agt ho hk hs hd hi G9 A5k
theorem Ate {f : FuncId} {fn : Func} {x : Operand} {ts : Array TypeId} {v : AV} (ho : o.op = .call { callee := .value (.func f), args := #[x], argTypes := ts }) (hf : P.funcs[f]? = some fn) (hn : (fn.name == "runtime.NumGoroutine") = false)
  (hb:fn.body=none) (hfn:Extern.findNext fn=none) (hfi:Extern.find fn=some Extern.AbiNoEscape.same):Bp P o [(x,v)] X X [] v :=
 .quiet fun _ _ g w ac hr Aq=>by
  have h1:=H9 Aq;simp only at h1;refine⟨ac.eval x,?_,h1⟩;simp only[execOp,ho,resolve]
  have L0 : ¬ (fn.name = "runtime.NumGoroutine") := by simpa using hn
  simp[Deferred.ofValue,Act.eval,invoke,callFunc,hf,L0,hb,hfn,hfi,run_noEscape w]
theorem Aoy{f:FuncId}{x:Operand}{ts:Array TypeId}{v:AV}(ho:o.op = .call { callee:=.value (.func f),args:=#[x],argTypes:=ts })
  (h : ∃ fn, P.funcs[f]? = some fn ∧ (fn.name == "runtime.NumGoroutine") = false ∧ fn.body = none ∧ Extern.findNext fn = none ∧ Extern.find fn = some Extern.AbiNoEscape.same) : Bp P o [(x, v)] X X [] v := by
 obtain⟨fn,h1,h2,h3,h4,h5⟩:=h;exact Ate ho h1 h2 h3 h4 h5
def Cv(l:A2 UInt8):A2 (A2 D):=l.map fun b=>[.sc (.int .u8 b.toNat)]
def A20(l:A2 UInt8):A2 D:=l.map fun b=>.sc (.int .u8 b.toNat)
theorem D0(l:A2 UInt8):(Cv l).length=l.length:=by simp[Cv]
theorem Km{l:A2 UInt8}{i:Nat}{cs:A2 D}(h:(Cv l)[i]? = some cs):∃b,l[i]? = some b∧cs=[.sc (.int .u8 b.toNat)]:=by simp only[Cv,Bkt,Bky]at h;obtain⟨b,hb,rfl⟩:=h;exact⟨b,hb,rfl⟩
theorem foldl_push:∀(l:A2 UInt8) (s:ByteArray),(l.map fun b=>(b.toNat:Int)).foldl (fun r (n:Int)=>r.push (UInt8.ofNat n.toNat)) s=⟨s.data++l.toArray⟩
 |[],s=>by apply Bqw;simp
 |b::r,s=>by
  simp only[Bkv,Bmd];rw[foldl_push r];apply Bqw;simp[ByteArray.push]
theorem Agu{s d e:TypeId}{x:Operand}{l:A2 UInt8}(ho:o.op = .convert s d x)(hs:P.underlying s=some (.slice e))(he:P.underlying e=some (.int .u8))(hd:P.underlying d=some .string) :
  Bp P o [(x,.d (.sl 1 (Cv l)))] X X [] (.d (.sc (.string ⟨l.toArray⟩))) :=
 .quiet fun _ _ g w ac hr Aq=>by
  have h1:=H9 Aq;simp only at h1;refine⟨_,?_,.Fh _ _ _⟩;simp only[execOp,ho];generalize ac.eval x=v at h1;cases h1 with
  |d _ _ h1 =>
   obtain⟨base,cap,rfl,_,hb,_,cells,hcl,C2,hc⟩:=h1.Zv (P:=P) hr.Ik;have Axf:cells=(l.map fun b=>(b.toNat:Int)).map (Value.int .u8):=by
    refine Bny fun i=>?_
    by_cases hi:i<l.length
    ·have h2:i<cells.length:=by rw[hcl,D0];omega
     have h3:=hc i 0 [.sc (.int .u8 l[i].toNat)] (.sc (.int .u8 l[i].toNat)) cells[i] (by simp[Cv,hi]) rfl (by simp[h2]);have h4:cells[i]=Value.int .u8 l[i].toNat:=RA.Al (g:=g) (w:=w) (.d _ _ h3);simp[h2,h4,hi]
    ·have h2:¬i<cells.length:=by rw[hcl,D0];omega
     simp[Bod hi,Bod h2]
   have hcv:=Bra w s d e base (Cv l).length cap hs he hd;rw[Blo,hcv];cases base with
   |none =>
    have hl0:l=[]:=by have:cap=0:=hb rfl;rename_i hle _ _ _;have:=D0 l;exact Bnq.1 (by omega)
    subst hl0;rfl
   |some a =>
    have hl:=C2 w fun _ _ _=>rfl
    have hfc:(Builtin.firstCells 1 (Cv l).length (.slice (some a) (Cv l).length cap))=loadCells a ((Cv l).length*1):=rfl;rw[hfc,Bp1]at hl;rw[run_bytesToString w a _ cap (l.map fun b=>(b.toNat:Int)) (by rw[hl,Axf]),foldl_push];simp
theorem Aoz{ts:Array TypeId}{x:Operand}{n e:Nat}{l:A2 UInt8}(ho:o.op = .call { callee:=.builtin .unsafeSliceData,args:=#[x],argTypes:=ts })(hl:l≠[]) :
  Bp P o [(x,.Bu n 1 (Cv l) (some e))] X X [] (.Uo n e (A20 l)) :=
 .quiet fun _ _ g w ac hr Aq=>by
  have h1:=H9 Aq;simp only at h1;simp only[execOp,ho,resolve];generalize hv:ac.eval x=v at h1;have hlen:0<l.length:=Bol.2 hl;cases h1 with
  |Bu _ _ _ _ _ h1 h2 =>
   have hes:Cv l≠[]:=by simpa[Cv]using hl
   generalize hE:Cv l=E at h1 hes;cases h1 with
   |nil=>exact absurd rfl hes
   |sl _ _ b off len cap Bjr hγ Sc G9 hc =>
    have Bg2:cap≠0:=by have:=D0 l;rw[hE]at this;omega
    refine⟨.pointer (some ⟨b,off,none⟩),?_,?_⟩
    ·simp[hv,invoke,builtin,run_unsafeSliceData_row w _ _ _ _ _ Bg2]
    ·refine .Uo n e _ _ (.ep _ b off (by have:=D0 l;rw[hE]at this;simp[A20];omega) ?_) ?_
     ·intro j c v hj hv';simp only[A20,Bkt,Bky]at hj;obtain⟨u,hu,rfl⟩:=hj;have hEj:E[j]? = some [.sc (.int .u8 u.toNat)]:=by rw[← hE];simp[Cv,hu]
      exact hc j _ 0 _ v hEj rfl (by simpa using hv')
     ·refine⟨rfl,fun ob Gg=>?_⟩;obtain⟨_,h3,_,_,h4⟩:=h2 ob Gg;obtain⟨h5,h6⟩:=h4 e rfl;exact⟨h3,h5,h6⟩
theorem Abu{ts:Array TypeId}{x:Operand}(ho:o.op = .call { callee:=.builtin .unsafeSliceData,args:=#[x],argTypes:=ts }) :
  Bp P o [(x,.d (.sc (.slice none 0 0)))] X X [] (.d (.sc (.pointer none))) :=
 .quiet fun _ _ g w ac hr Aq=>by
  have h1:=(H9 Aq).Al;simp only at h1;refine⟨.pointer none,?_,.Fh _ _ _⟩;simp[execOp,ho,resolve,h1,invoke,builtin,run_unsafeSliceData_nil]
theorem Akq{x y:Operand}{pt it:TypeId}(ho:o.op = .call { callee:=.builtin .unsafeString,args:=#[x,y],argTypes:=#[pt,it] }) :
  Bp P o [(x,.d (.sc (.pointer none))),(y,.d (.sc (.int .i64 0)))] X X [] (.d (.sc (.string .empty))) :=
 .quiet fun _ _ g w ac hr Aq=>by
  have h1:=(H9 Aq).Al;have h2:=(T9 Aq).Al;simp only at h1 h2;refine⟨.string .empty,?_,.Fh _ _ _⟩;simp[execOp,ho,resolve,h1,h2,invoke,builtin,run_unsafeString_none]
theorem B2q{x y:Operand}{pt it e n:Nat}{l:A2 UInt8}(ho:o.op = .call { callee:=.builtin .unsafeString,args:=#[x,y],argTypes:=#[pt,it] })(hn:n∈X.live)(hl:l≠[])
  (hp:P.underlying pt=some (.pointer e)) (hc:P.cellsOf e=1) (hlen:l.length≤9223372036854775807) :
  Bp P o [(x,.Uo n e (A20 l)),(y,.d (.sc (.int .i64 l.length)))] X ⟨X.objs,X.live.filter (· != n)⟩ [] (.d (.sc (.string ⟨l.toArray⟩))):=by
 intro nm Ek B g w a hr Aq next Q Eo
 have h1:=H9 Aq;have h2:=(T9 Aq).Al;simp only at h1 h2;obtain⟨ob,Gg⟩:=Blm.1 ((hr.live n).1 hn);generalize hv:a.eval x=v at h1;cases h1 with
 |Uo _ _ _ _ h1 h3 =>
 cases h1 with
 |ep _ b off hγ Q2 =>
 obtain⟨_,h4⟩:=h3;obtain⟨rfl,h5,c,h6⟩:=h4 ob Gg;simp only at h5 h6;subst h5;have Jv:∀j u,l[j]? = some u→w.cell? ((⟨b,0,none⟩:Addr).add j)=some (.int .u8 u.toNat):=by intro j u hu;rw[addr_add];have hjl:j<l.length:=(Bku.1 hu).1;have hs:(w.cell? ⟨b,0+j,none⟩).isSome:=hr.Ik b (0+j) (by simp[A20]at hγ;omega);obtain⟨v,hv⟩:=Blm.1 hs;have:=Q2 j (.sc (.int .u8 u.toNat)) v (by simp[A20,hu]) hv;cases this;exact hv
 have Pp:l.length≤c:=by
  rcases Bmu l.length with h|h
  ·omega
  ·have hs:=hr.Ik b (l.length-1) (by simp[A20]at hγ;omega);obtain⟨v,hv⟩:=Blm.1 hs;unfold World.shape? at h6;unfold World.cell? at hv;simp only at hv;split at hv
   ·rename_i arr T fr hh;simp only[hh,Bks,Bld]at h6;simp at hv;have:=(Blf.1 hv).1;omega
   ·cases hv
 have C2:=run_unsafeString_row (P:=P) w pt it o.type e hp hc b c h6 l hl Pp hlen Jv;obtain⟨Yk,ht1⟩:=hr.Afr n;have hfz:∀b',b'≠b→(w.freeze ⟨b,0,none⟩ l.length).heap[b']? = w.heap[b']?:=by
  intro b' G0;unfold World.freeze;split
  ·rfl
  ·simp only[Bm7];rw[Blj (by simpa using G0.symm)]
 have hfc:∀i,(w.freeze ⟨b,0,none⟩ l.length).cell? ⟨b,i,none⟩=w.cell? ⟨b,i,none⟩:=by
  intro i;unfold World.freeze;split
  ·rfl
  ·simp only[World.cell?,Bm7,Bn5];cases w.heap[b]? with
   |none=>rfl
   |some o=>cases o<;>rfl
 obtain⟨Xx,V4⟩:=Yk.raise (w':=w.freeze ⟨b,0,none⟩ l.length) (b:=b) (n:=g.γ b) (hr.Cd n b Gg) (hr.Ca n b Gg) (fun k p hk=>hr.Bo n b k p Gg hk) (by
   intro n' L0;by_cases he:n'=n
   ·subst he;simp[Aa]at L0
   ·simp only[Ae _ _ he]at L0;exact he (hr.C4 n' n b L0 Gg))
  (hr.eta.A6b Gg) (by unfold World.freeze;split<;>simp) (by unfold World.freeze;split<;>exact⟨rfl,rfl,rfl,Bl1 _⟩) hfz (fun i _=>hfc i) (Bl1 _) (fun i hi=>by rw[hfc];exact hr.Ik b i hi) (by
   intro s hs0;unfold World.freeze;split
   ·exact hs0
   ·simp only[World.shape?,Bm7,Bn5]at hs0⊢;cases hh:w.heap[b]? with
    |none=>rw[hh]at hs0;exact hs0
    |some o=>rw[hh]at hs0;cases o<;>exact hs0)
 unfold Oper.wp;have:(execOp a.eval o).run P w = .ok (.value (.string ⟨l.toArray⟩)) (w.freeze ⟨b,0,none⟩ l.length):=by simp[execOp,ho,resolve,hv,h2,invoke,builtin,C2]
 rw[this];exact Eo _ _ _ Xx (ht1.trans V4) (.Fh _ _ _)
end
abbrev D.bs(l:A2 UInt8):D:=.sc (.string ⟨l.toArray⟩)
theorem Ww(l:A2 UInt8):(⟨l.toArray⟩:ByteArray).size=l.length:=by simp[ByteArray.size]
theorem A75(l:A2 UInt8)(a b:Nat):(⟨l.toArray⟩:ByteArray).extract a b=⟨((l.drop a).take (b-a)).toArray⟩:=by apply Bqw;simp[Brl,List.extract_toArray]
theorem B2r(a b:A2 UInt8):(⟨a.toArray⟩:ByteArray)++⟨b.toArray⟩=⟨(a++b).toArray⟩:=by apply Bqw;simp
section
variable{P:Program}{o:Oper}{X:A7}
theorem B6d{ts:Array TypeId}{t:TypeId}{x:Operand}{l:A2 UInt8}(ho:o.op = .call { callee:=.builtin .len,args:=#[x],argTypes:=ts })
  (h0:ts[0]? = some t) (ht:P.underlying t=some .string):Bp P o [(x,.d (.bs l))] X X [] (.d (.int .i64 l.length)):=by
 have:=Ax1 (P:=P) (X:=X) (s:=⟨l.toArray⟩) ho h0 ht;rw[Ww]at this;exact this
theorem Axg{t:TypeId}{x y:Operand}{l:A2 UInt8}{k:IntKind}{i:Int}(ho:o.op = .index t x y)(ht:P.underlying t=some .string)(h0:0≤i)(h1:i<l.length) :
  Bp P o [(x,.d (.bs l)),(y,.d (.int k i))] X X [] (.d (.int .u8 ((l.getD i.toNat 0).toNat:Int))) :=
 Aod (s:=⟨l.toArray⟩) ho ht h0 (by rw[Ww];exact h1)
theorem Axh{t:TypeId}{x lo hi:Operand}{s:A2 UInt8}{k k':IntKind}{l h:Int}(ho:o.op = .slice t x (some lo) (some hi) none)(ht:P.underlying t=some .string)
  (h0:0≤l) (h1:l≤h) (h2:h≤s.length) :
  Bp P o [(x,.d (.bs s)),(lo,.d (.int k l)),(hi,.d (.int k' h))] X X [] (.d (.bs ((s.drop l.toNat).take (h.toNat-l.toNat)))):=by
 have:=Aoe (P:=P) (X:=X) (s:=⟨s.toArray⟩) (k:=k) (k':=k') ho ht h0 h1 (by rw[Ww];exact h2);rw[A75]at this;exact this
theorem Akr{t:TypeId}{x lo:Operand}{s:A2 UInt8}{k:IntKind}{l:Int}(ho:o.op = .slice t x (some lo) none none)(ht:P.underlying t=some .string)
  (h0:0≤l) (h1:l≤s.length) :
  Bp P o [(x,.d (.bs s)),(lo,.d (.int k l))] X X [] (.d (.bs (s.drop l.toNat))):=by
 have:=Afa (P:=P) (X:=X) (s:=⟨s.toArray⟩) (k:=k) ho ht h0 (by rw[Ww];exact h1);rw[A75,Ww,Bn3 (by simp)]at this;exact this
theorem Aks{t:TypeId}{x hi:Operand}{s:A2 UInt8}{k:IntKind}{h:Int}(ho:o.op = .slice t x none (some hi) none)(ht:P.underlying t=some .string)
  (h0:0≤h) (h1:h≤s.length) :
  Bp P o [(x,.d (.bs s)),(hi,.d (.int k h))] X X [] (.d (.bs (s.take h.toNat))):=by
 have:=Afb (P:=P) (X:=X) (s:=⟨s.toArray⟩) (k:=k) ho ht h0 (by rw[Ww];exact h1);rw[A75]at this;simpa using this
theorem B6e{t t':TypeId}{x y:Operand}{a b:A2 UInt8}(ho:o.op = .binOp .add t x y t')(h:a.length+b.length≤4611686018427387904) :
  Bp P o [(x,.d (.bs a)),(y,.d (.bs b))] X X [] (.d (.bs (a++b))):=by
 have:=Ax0 (P:=P) (X:=X) (a:=⟨a.toArray⟩) (b:=⟨b.toArray⟩) ho (by rw[Ww,Ww];exact h);rw[B2r]at this;exact this
theorem Ap0{b c:UInt8}:((b.toNat:Nat):Int)=((c.toNat:Nat):Int)↔b=c:=by
 constructor
 ·intro h;exact Brh.1 (by omega)
 ·intro h;rw[h]
end
section
variable{P:Program}{o:Oper}{X:A7}
theorem Agv{ts:Array TypeId}{t:TypeId}{x:Operand}{k off len sz:Nat}{e:TypeId}(ho:o.op = .call { callee:=.builtin .len,args:=#[x],argTypes:=ts })
  (h0:ts[0]? = some t) (ht:P.underlying t=some (.slice e)):Bp P o [(x,.osl k off len sz)] X X [] (.d (.sc (.int .i64 len))) :=
 .quiet fun _ _ g w ac _ Aq=>by
  have h1:=H9 Aq;simp only at h1;obtain⟨cap,q,_,hv,_⟩:=h1.Q1;refine⟨_,?_,.Fh _ _ _⟩;simp only[execOp,ho,resolve];simp[hv,invoke,builtin,h0,Bl0 ht,Builtin.len_,goInt]
theorem Yq{t e:TypeId}{x y:Operand}{k off len sz bytes:Nat}{j:IntKind}{i:Int}(ho:o.op = .indexAddr t x y)
  (ht:P2 P t e sz bytes) (h0:0≤i) (h1:i<len) :
  Bp P o [(x,.osl k off len sz),(y,.d (.sc (.int j i)))] X X [] (.ptr k (off+i.toNat*sz)) :=
 .quiet fun _ _ g w ac _ Aq=>by
  have e1:=H9 Aq;have e2:=(T9 Aq).Al;simp only at e1 e2;obtain⟨cap,q,Sc,hv,hq,_⟩:=e1.Q1;have hqo:q=off:=by
   rcases hq with h|h
   ·omega
   ·exact h
  subst hqo;obtain⟨hu,info,z,hi,G9,hb,hz,hzs⟩:=ht;refine⟨.pointer (some ⟨g.ρ k,q+i.toNat*sz,none⟩),?_,.ptr _ _⟩;have Pp:(sizeOf e).run P w = .ok sz w:=by rw[run_sizeOf hi,G9]
  simp only[execOp,ho,hv,e2];have Bs:i<(len:Int):=h1;simp[Instr.indexAt,asIntOf,Bl0 hu,h0,Bs,Pp,addr_add]
theorem Ap1{t e:TypeId}{x:Operand}{lo hi:A3 Operand}{k off len sz:Nat}{l h:Int}{rd:A2 (Operand×AV)}{i:TypeInfo}(ho:o.op = .slice t x lo hi none)(ht:P.underlying t=some (.slice e))
  (Lp:P.info? e=some i) (G9:i.size=sz) (h0:0≤l) (h1:l≤h) (h2:h≤(len:Int))
  (hlo:match lo with|some y=>∃j,(y,AV.d (.int j l))∈rd|none=>l=0) (hhi:match hi with|some y=>∃j,(y,AV.d (.int j h))∈rd|none=>h=(len:Int)) :
  Bp P o ((x,.osl k off len sz)::rd) X X [] (.osl k (off+l.toNat*sz) (h.toNat-l.toNat) sz) :=
 .quiet fun _ _ g w ac _ Aq=>by
  have h3:=Aq (x,.osl k off len sz) Bkz;simp only at h3;obtain⟨cap,q,Sc,hx,hq,T,c,hsh,hc⟩:=h3.Q1;have key:RA g w (.osl k (off+l.toNat*sz) (h.toNat-l.toNat) sz) (.slice (if cap=l.toNat then some ⟨g.ρ k,q,none⟩else (some ⟨g.ρ k,q,none⟩:A3 Addr).map (·.add (l.toNat*sz))) (h.toNat-l.toNat) (cap-l.toNat)):=by
   refine .nm _ _ _ ?_;by_cases hz:cap=l.toNat
   ·rw[Blv hz];refine⟨cap-l.toNat,q,by omega,rfl,.inl (by omega),T,c,hsh,?_⟩;rw[hz,Brz,Bnt];omega
   ·rw[Blj hz];have hqo:q=off:=by
     rcases hq with h|h
     ·omega
     ·exact h
    subst hqo;refine⟨cap-l.toNat,q+l.toNat*sz,by omega,by simp[addr_add],.inr rfl,T,c,hsh,?_⟩;have:l.toNat*sz+(cap-l.toNat)*sz=cap*sz:=by rw[← Bmz];congr 1;omega
    omega
  refine⟨_,?_,key⟩;have hsa:∀lo hi,(Instr.sliceAt t (.slice (some ⟨g.ρ k,q,none⟩) len cap) lo hi none).run P w=(Instr.slice t (.slice (some ⟨g.ρ k,q,none⟩) len cap) lo hi none).run P w:=by intro lo hi;simp[Instr.sliceAt,Bl0 ht]
  simp only[execOp,ho,hx];have eh:∀y,hi=some y→∃j,ac.eval y = .int j h:=by intro y hy;subst hy;obtain⟨j,hj⟩:=hhi;exact⟨j,(Aq _ (Bkx _ hj)).Al⟩
  have el:∀y,lo=some y→∃j,ac.eval y = .int j l:=by intro y hy;subst hy;obtain⟨j,hj⟩:=hlo;exact⟨j,(Aq _ (Bkx _ hj)).Al⟩
  have bh:∀(y:Nat) (c:BoundsCode) (k:IntKind),h≤(y:Int)→(Instr.sliceBound (.int k h) y c).run P w = .ok h.toNat w:=by intro y c k hy;simp[Instr.sliceBound,asIntOf,show 0≤h by omega,hy]
  have bl:∀(y:Nat) (c:BoundsCode) (k:IntKind),l≤(y:Int)→(Instr.sliceBound (.int k l) y c).run P w = .ok l.toNat w:=by intro y c k hy;simp[Instr.sliceBound,asIntOf,h0,hy]
  have Pp:(sizeOf e).run P w = .ok sz w:=by rw[run_sizeOf Lp,G9]
  cases hi with
  |none =>
   simp only at hhi;subst hhi;have e5:((len:Nat):Int).toNat=len:=by omega
   cases lo with
   |none =>simp only at hlo;subst hlo;simp[hsa,Instr.slice,Instr.sliceBounds,Bl0 ht,Pp]
   |some y =>obtain⟨j,hj⟩:=el y rfl;have b1:=bl len .sliceB j (by omega);simp[hsa,Instr.slice,Instr.sliceBounds,Bl0 ht,Pp,hj,b1]
  |some y' =>
   obtain⟨j',Gf⟩:=eh y' rfl;have b2:=bh cap .sliceAcap j' (by omega);cases lo with
   |none =>simp only at hlo;subst hlo;simp[hsa,Instr.slice,Instr.sliceBounds,Bl0 ht,Pp,Gf,b2]
   |some y =>obtain⟨j,hj⟩:=el y rfl;have b1:=bl h.toNat .sliceB j (by omega);simp[hsa,Instr.slice,Instr.sliceBounds,Bl0 ht,Pp,hj,Gf,b1,b2]
end
theorem F1{sz:Nat}:∀(fs:A2 (A2 D)),(∀(i:Nat) cs,fs[i]? = some cs→cs.length=sz)→fs.flatten.length=fs.length*sz
 |[],_=>by simp
 |c::r,h=>by
  have h0:=h 0 c rfl;have:=F1 r fun i cs hi=>h (i+1) cs (by simpa using hi)
  simp only[Bmj,Bme,Blg,this,h0,Bna];omega
theorem Yr{sz:Nat}:∀(fs:A2 (A2 D)),(∀(i:Nat) cs,fs[i]? = some cs→cs.length=sz)→∀(k:Nat) c,fs.flatten[k]? = some c→∃p q cs,k=p*sz+q∧fs[p]? = some cs∧cs[q]? = some c
 |[],_,k,c,hk=>by simp at hk
 |a::r,h,k,c,hk=>by
  have h0:=h 0 a rfl;simp only[Bmj,Bm2]at hk;split at hk
  ·exact⟨0,k,a,by omega,rfl,hk⟩
  ·rename_i hge;obtain⟨p,q,cs,h1,h2,h3⟩:=Yr r (fun i cs hi=>h (i+1) cs (by simpa using hi)) _ c hk;refine⟨p+1,q,cs,?_,by simpa using h2,h3⟩;rw[Bna];omega
def B1(k:Nat)(X:A7):A7:=⟨X.objs.filter (fun p=>p.1 != k),X.live⟩
theorem Dr{l:A2 (Nat×Ob)}{k j:Nat}:(l.filter (fun p=>p.1 != k)).lookup j=if j=k then none else l.lookup j:=by
 induction l with
 |nil=>simp
 |cons p r ih =>
  obtain⟨i,o⟩:=p;simp only[Bnk];by_cases hik:i=k
  ·subst hik;simp only[Br1,Bmi,Bn2,ih];by_cases hj:j=i
   ·simp[hj]
   ·have:(j==i)=false:=by simpa using hj
    simp[hj,Blw,this]
  ·have h1:(i != k)=true:=by simpa using hik
   simp only[h1,Bn5,Blw,ih];by_cases hj:j=i
   ·subst hj;simp[hik]
   ·have:(j==i)=false:=by simpa using hj
    simp[this]
theorem HR.B1{nm:A2 Nat}{B:Bl}{g:Gh}{w:World}{X:A7}(h:HR nm B g w X){k:Nat}(hk:k∉nm):HR nm B g w (Ab.B1 k X):=by
 have hl:∀j o,(Ab.B1 k X).objs.lookup j=some o→j≠k∧X.objs.lookup j=some o:=by
  intro j o hj;simp only[Ab.B1,Dr]at hj;split at hj
  ·cases hj
  ·exact⟨‹_›,hj⟩
 refine⟨?_,h.Ik,h.base,h.io,h.le,h.frame,?_,?_,?_,?_,h.live,h.C4,?_,h.Ca,h.Cd,h.eta.same (Bl1 _) fun j o hj=>⟨o,(hl j o hj).2⟩⟩
 ·intro j hj;refine⟨(h.Dc j hj).1,?_⟩;have hne:j≠k:=fun e=>hk (e▸hj)
  simp only[Ab.B1,Dr,Blj hne];exact(h.Dc j hj).2
 ·intro j o hj;exact h.objs j o (hl j o hj).2
 ·intro j o hj;exact h.Fx j o (hl j o hj).2
 ·intro j j' o o' hj Gf he;exact h.C0 j j' o o' (hl j o hj).2 (hl j' o' Gf).2 he
 ·intro j o hj;exact h.Ce j o (hl j o hj).2
 ·intro n b j o hn hj;exact h.Bo n b j o hn (hl j o hj).2
theorem HR.Abv{nm:A2 Nat}{B:Bl}{g:Gh}{w:World}{X:A7}(h:HR nm B g w X){k m:Nat}{o:Ob}(hk:k∉nm)(hmn:m∉nm)(hX:B7 [m] X=true)(ho:X.objs.lookup k=some o)(hm:m≠k) :
  HR nm B { g with ρ:=Nj g.ρ m (g.ρ k) } w ⟨(m,o)::(Ab.B1 m (Ab.B1 k X)).objs,X.live⟩∧Trans [m] g w { g with ρ:=Nj g.ρ m (g.ρ k) } w:=by
 have ht:Trans [m] g w { g with ρ:=Nj g.ρ m (g.ρ k) } w:=⟨.refl _ _,fun j hj=>Ae _ _ (by simpa using hj),fun n ob hn he=>⟨he,fun _ _=>⟨rfl,rfl⟩⟩,fun _ _ _=>⟨rfl,fun _ _ _=>⟨rfl,rfl⟩⟩⟩;have hl:∀j p,List.lookup j ((m,o)::(Ab.B1 m (Ab.B1 k X)).objs)=some p→(j=m∧p=o)∨(j≠m∧j≠k∧X.objs.lookup j=some p):=by
  intro j p hj;rw[Blw]at hj;by_cases he:j=m
  ·subst he;simp at hj;exact .inl ⟨rfl,hj.symm⟩
  ·have:(j==m)=false:=by simpa using he
   rw[this]at hj;simp only[Ab.B1,Dr,Blj he]at hj;split at hj
   ·cases hj
   ·exact .inr ⟨he,‹_›,hj⟩
 have Axi:({ g with ρ:=Nj g.ρ m (g.ρ k) }:Gh).ρ m=g.ρ k:=Aa _ _ _;have Akt:∀j,j≠m→({ g with ρ:=Nj g.ρ m (g.ρ k) }:Gh).ρ j=g.ρ j:=fun j hj=>Ae _ _ hj
 refine⟨⟨?_,h.Ik,h.base,h.io,h.le,h.frame,?_,?_,?_,?_,h.live,h.C4,?_,h.Ca,h.Cd,h.eta.step (fun L hL=>.inl ⟨hL,rfl⟩) (Bl1 _) (fun n b hb=>.inl ⟨n,hb⟩) fun j p hj=>?_⟩,ht⟩
 rotate_right
 ·rcases hl j p hj with ⟨rfl,rfl⟩|⟨h1,h2,h3⟩
  ·exact .inl ⟨k,_,ho,Axi⟩
  ·exact .inl ⟨j,p,h3,Akt j h1⟩
 ·intro j hj;have h1:j≠k:=fun e=>hk (e▸hj)
  have h2:j≠m:=fun e=>hmn (e▸hj)
  refine⟨by rw[Akt j h2];exact(h.Dc j hj).1,?_⟩;rw[Blw];have:(j==m)=false:=by simpa using h2
  rw[this];simp only[Ab.B1,Dr,Blj h1,Blj h2];exact(h.Dc j hj).2
 ·intro j p hj;rcases hl j p hj with ⟨rfl,rfl⟩|⟨h1,h2,h3⟩
  ·rw[Axi];exact(h.objs k _ ho).Dc ht rfl (Hh hX ho)
  ·rw[Akt j h1];exact(h.objs j p h3).Dc ht rfl (Hh hX h3)
 ·intro j p hj;rcases hl j p hj with ⟨rfl,rfl⟩|⟨h1,h2,h3⟩
  ·rw[Axi];exact h.Fx k _ ho
  ·rw[Akt j h1];exact h.Fx j p h3
 ·intro j j' p p' hj Gf he;rcases hl j p hj with ⟨rfl,rfl⟩|⟨h1,h2,h3⟩<;>rcases hl j' p' Gf with ⟨rfl,rfl⟩|⟨h1',h2',h3'⟩
  ·rfl
  ·rw[Axi,Akt j' h1']at he;exact absurd (h.C0 k j' _ _ ho h3' he).symm h2'
  ·rw[Axi,Akt j h1]at he;exact absurd (h.C0 j k _ _ h3 ho he) h2
  ·rw[Akt j h1,Akt j' h1']at he;exact h.C0 j j' _ _ h3 h3' he
 ·intro j p hj;rcases hl j p hj with ⟨rfl,rfl⟩|⟨h1,h2,h3⟩
  ·rw[Axi];exact h.Ce k _ ho
  ·rw[Akt j h1];exact h.Ce j p h3
 ·intro n b j p hn hj;rcases hl j p hj with ⟨rfl,rfl⟩|⟨h1,h2,h3⟩
  ·rw[Axi];exact h.Bo n b k _ hn ho
  ·rw[Akt j h1];exact h.Bo n b j p hn h3
section
variable{P:Program}{o:Oper}{X:A7}
theorem Aku{ts:Array TypeId}{s x:Operand}{k len sz:Nat}{cs:A2 AV}{cty:A3 TypeId}{fs:A2 (A2 D)}{t u e e' bytes A73 sz':Nat}(m:Nat)
  (ho:o.op = .call { callee:=.builtin .append,args:=#[s,x],argTypes:=ts }) (h0:ts[0]? = some t) (h1:ts[1]? = some u) (hu:P2 P u e' sz' A73)
  (ht:P2 P t e sz bytes) (hk:X.objs.lookup k=some (.cells cs none)) (Q2:cs.length=len*sz) (h1k:1000≤k) (h1m:1000≤m) (hmk:m≠k) (hX:B7 [m] X=true) (Bjs:cs.all At1=true)
  (Iu:∀c∈fs,∀d∈c,Zw d=true) (Wg:(len+fs.length)*bytes≤140737488355328) (hlen:len+fs.length≤4611686018427387904) :
  Bp P o [(s,.osl k 0 len sz),(x,.d (.sl sz fs))] X ⟨(m,.cells (cs++fs.flatten.map .d) none)::(B1 m (B1 k X)).objs,X.live⟩ [m] (.osl m 0 (len+fs.length) sz):=by
 obtain⟨htt,i,z,hi,G9,hbt,hz,hzs⟩:=ht;intro nm Ek B g w a hr Aq next Q Eo
 have hkn:k∉nm:=fun hh=>by have:=Ek k hh;omega
 have hmn:m∉nm:=fun hh=>by have:=Ek m hh;omega
 have e1:=H9 Aq;have e2:=T9 Aq;simp only at e1 e2;unfold Oper.wp;have C2:∀r,(Builtin.append_ ts o.type #[a.eval s,a.eval x]).run P w=r→(execOp a.eval o).run P w=r.andThen fun v w'=>.ok (.value v) w':=by intro r hr';simp only[execOp,ho,resolve];simp[invoke,builtin,hr']
 obtain⟨cap,q,Sc,hv,hq,T,c,hsh,hc⟩:=e1.Q1;rw[hv]at C2;generalize a.eval x=vx at e2 C2;cases e2 with
 |d _ _ e2 =>
 obtain⟨xb,xc,rfl,Bg3,_,A6z,Bkf,hnl,A21,hnc⟩:=e2.Zv (P:=P) hr.Ik;have Agf:∀v∈Bkf,v.oneCell'=true:=by
  intro v hv;obtain⟨j,hj⟩:=Bn1.1 hv;have Ba4:j<fs.length*sz:=by have:=(Bku.1 hj).1;omega
  obtain⟨p,q,ds,d,rfl,hp,hq⟩:=A1t A6z Ba4;exact A92 (hnc p q ds d v hp hq hj) (Iu ds (Bln hp) d (Bln hq))
 have A9c:=F1 fs A6z;have A1r:∀(j:Nat) (y:AV) v,((fs.flatten.map AV.d))[j]? = some y→Bkf[j]? = some v→RA g w y v:=by intro j y v hy hv;rw[Bkt,Bky]at hy;obtain⟨d,hd,rfl⟩:=hy;obtain⟨p,q,ds,rfl,hp,hq⟩:=Yr fs A6z j d hd;exact .d _ _ (hnc p q ds d v hp hq hv)
 cases hr.objs k _ hk with
 |cells _ _ arr T' Bki hl hcc Yl =>
 have Oz:w.shape? (g.ρ k)=some (T',arr.size):=by simp[World.shape?,Bki]
 rw[Oz]at hsh;simp only[Bks,Bld]at hsh;obtain⟨rfl,rfl⟩:=hsh;have Bkj:(len+fs.length)*sz=len*sz+fs.length*sz:=Bmz _ _ _;by_cases G6:len+fs.length≤cap
 ·
  have hle:(len+fs.length)*sz≤cap*sz:=Bmm sz G6;by_cases hz0:fs.length=0∧q≠0
  ·
   obtain⟨hf0,hq0⟩:=hz0;have hf:fs=[]:=Bnq.1 hf0;subst hf;have hn0:Bkf=[]:=by simpa using hnl
   subst hn0;have hrn:=Ht (P:=P) (w:=w) (w':=w) (ty:=o.type) h0 h1 hu.und htt hi (base:=some ⟨g.ρ k,q,none⟩) (by rw[G9];exact A21 w fun _ _ _=>rfl) G6 (.inr ⟨_,rfl,rfl⟩);obtain⟨Xx,V4⟩:=hr.Abv hkn hmn hX hk hmk;rw[C2 _ hrn];simp only[List.flatten_nil,Bll,Blt,Bns,Bnr]at *;refine Eo _ w _ Xx V4 (.nm _ _ _ ?_);simp only[Aa];exact⟨cap,q,Sc,rfl,hq,T',arr.size,Oz,hc⟩
  ·have hqz:q=0:=by
    rcases hq with h|h
    ·have:fs.length=0:=by omega
     by_cases hq:q=0
     ·exact hq
     ·exact absurd ⟨this,hq⟩ hz0
    ·exact h
   subst hqz;obtain⟨w',Ch,hst,G0,H4,hp',hz',Wh,Lp⟩:=L4 (P:=P) (off:=0+len*i.size) Bkf 0 w arr Bki Agf (by rw[G9];omega) (by
    intro j h3 h4;simp[World.frozen?,Bki])
   have hrn:=Ht (P:=P) (w:=w) (w':=w') (ty:=o.type) h0 h1 hu.und htt hi (base:=some ⟨g.ρ k,0,none⟩) (by rw[G9];exact A21 w fun _ _ _=>rfl) G6 (.inr ⟨_,rfl,by rw[addr_add];exact hst⟩);simp only[Bnr,Blx,G9]at hp';obtain⟨Yk,ht1⟩:=hr.write hk (o':=.cells (cs++fs.flatten.map .d) none) hz' Lp Wh (by
    intro ht';refine .cells _ none Ch T' G0 (by simp only[Bme,Blb,A9c,H4];omega) ?_ (by simp);intro j y v hy hv;rw[hp' j]at hv;rw[Bm2]at hy;split at hy
    ·rename_i Bs;rw[Blj (by omega)]at hv;exact(hcc j y v hy hv).mono ht' (.nil _)
    ·rename_i hge;have hjl:j-cs.length<fs.flatten.length:=by have:=(Bku.1 hy).1;rw[Blb]at this;exact this
     rw[Blv (by omega),← Q2]at hv;exact(A1r _ y v hy hv).mono ht' (.nil _)) (by
    intro s hs0;rw[Oz]at hs0;simp only[World.shape?,G0,H4];exact hs0)
   have hX1:B7 [m] ⟨Ab.setObj k (.cells (cs++fs.flatten.map .d) none) X.objs,X.live⟩=true:=by
    unfold B7 at hX⊢;simp only[Boz,Bou]at hX⊢;rw[Bly]at hX⊢;intro p hp;have:∀(l:A2 (Nat×Ob)),(∀p∈l,F9 [m] p.2=true)→∀p∈Ab.setObj k (.cells (cs++fs.flatten.map .d) none) l,F9 [m] p.2=true:=by
     have Bco:F9 [m] (.cells (cs++fs.flatten.map .d) none)=true:=by
      have h2:F9 [m] (.cells cs none)=true:=hX _ (Di hk);simp only[F9]at h2⊢;have app:∀(l r:A2 AV),Bz [m] l=true→Bz [m] r=true→Bz [m] (l++r)=true:=by
       intro l r;induction l with
       |nil=>intro _ h;exact h
       |cons y l ih=>intro h h';simp only[Bz,Bls,Bmx]at h⊢;exact⟨h.1,ih h.2 h'⟩
      refine app _ _ h2 ?_;generalize fs.flatten=fl;induction fl with
      |nil=>rfl
      |cons y r ih=>simp only[Bkv,Bz,Gm,Bp7];exact ih
     intro l;induction l with
     |nil =>intro _ p hp;simp only[Ab.setObj,Bl7]at hp;subst hp;exact Bco
     |cons a r ih =>
      intro hall p hp;obtain⟨j,oj⟩:=a;simp only[Ab.setObj]at hp;split at hp
      ·rcases Bkq.1 hp with rfl|hp
       ·exact Bco
       ·exact hall p (Bkx _ hp)
      ·rcases Bkq.1 hp with rfl|hp
       ·exact hall _ Bkz
       ·exact ih (fun p hp=>hall p (Bkx _ hp)) p hp
    exact this X.objs hX p hp
   obtain⟨Xx,V4⟩:=Yk.Abv (k:=k) (m:=m) hkn hmn hX1 (by rw[B3,Blv rfl]) hmk;rw[C2 _ hrn];refine Eo _ w' _ (Xx.alike ⟨fun j=>?_,rfl⟩) (ht1.trans V4) (.nm _ _ _ ?_)
   ·simp only[Blw,Ab.B1,Dr,B3];by_cases hj:j=k
    ·subst hj;simp
    ·simp[hj]
   ·simp only[Aa];exact⟨cap,0,G6,rfl,.inr rfl,T',arr.size,ht1.le.shape _ _ Oz,by omega⟩
 ·
  obtain⟨A1u,htd⟩:=hr.drew;have Ba8:len=0∨q=0:=by
   rcases hq with h|h
   ·left;omega
   ·exact .inr h
  have hl0:((arr.toList.drop q).take (len*sz)).length=len*sz:=by
   rcases Ba8 with h|h
   ·subst h;simp
   ·subst h;simp only[Bo6,Bm6,Bmv];omega
  have Bg4:(Builtin.firstCells i.size len (.slice (some ⟨g.ρ k,q,none⟩) len cap)).run P w.drew = .ok ((arr.toList.drop q).take (len*sz)).toArray w.drew:=by
   refine run_firstCells_some w.drew i.size len _ _ _ _ (by rw[G9,hl0]) ?_;intro j v hj;rw[Bm5]at hj;split at hj
   ·rw[Bm9]at hj;rw[addr_add];show w.cell? _=_;rw[Bg Bki];simpa using hj
   ·cases hj
  have hrn:=Q3 (P:=P) (w:=w) (ty:=o.type) h0 h1 hu.und htt hi hz (by rw[G9];exact A21 w.drew fun _ _ _=>rfl) Bg4 G6 (by omega) (by rw[hbt];exact Wg);have hge:=Bqn w (len+fs.length) cap e;generalize grownCap w (len+fs.length) cap e=nc at hrn hge;generalize A93:((arr.toList.drop q).take (len*sz)).toArray++Bkf.toArray++Builtin.zeroCells z.cells (nc-(len+fs.length))=Agw at hrn;have Akl:Agw.size=nc*sz:=by rw[← A93];simp only[Box,Bnc,Bps,hl0,hnl,hzs];rw[← Bkj,← Bmz];congr 1;omega
  have Bdq:(len+fs.length)*sz≤nc*sz:=Bmm _ hge;have Yk:=A1u.B1 (k:=m) hmn;have Bii:=Yk.B1 (k:=k) hkn;obtain⟨Xx,V4⟩:=Bii.newObj (k:=m) (by
   simp only[Ab.B1,Dr];split
   ·rfl
   ·rfl) (by
   unfold B7 at hX⊢;simp only[Boz,Bou]at hX⊢;rw[Bly]at hX⊢;intro p hp;simp only[Ab.B1,Blu]at hp;exact hX p hp.1.1) (.cells Agw e) (.cells (cs++fs.flatten.map .d) none) (by
   intro g' w' ht' hw';refine .cells _ none Agw e hw' (by simp only[Bme,Blb,A9c];omega) ?_ (by simp);intro j y v hy hv;rw[← A93]at hv;have Pq:Xu [m] y:=by
    rw[Bm2]at hy;split at hy
    ·have h2:F9 [m] (.cells cs none)=true:=by
      rcases Hh hX hk with h|h
      ·cases h
      ·exact h
     exact Ot (M1 h2 hy)
    ·rw[Bkt,Bky]at hy;obtain⟨d,_,rfl⟩:=hy;exact .d _
   rw[Bm2]at hy;split at hy
   ·rename_i Bs;rw[Bqo,Bn6 (by simp only[Bnc,hl0];omega)]at hv;rcases Ba8 with h|h
    ·subst h;simp only[Bnt]at Q2;omega
    ·subst h;simp only[Bo6,Bn8,Bm5]at hv;rw[Blv (by omega)]at hv;exact((hcc j y v hy (by simpa using hv)).mono htd (.nil _)).mono ht' Pq
   ·rename_i Bk6;have hjl:j-cs.length<fs.flatten.length:=by have:=(Bku.1 hy).1;rw[Blb]at this;exact this
    rw[Bn6 (by simp only[Box,Bnc,hl0,hnl];omega),Bo9 (by simp only[Bnc,hl0];omega)]at hv;simp only[Bnc,hl0,Bn8]at hv;rw[← Q2]at hv;exact((A1r _ y v hy hv).mono htd (.nil _)).mono ht' Pq)
  rw[C2 _ hrn];refine Eo _ _ _ (Xx.alike ⟨fun j=>?_,rfl⟩) (htd.trans V4) (.nm _ _ _ ?_)
  ·simp only[Blw,Ab.B1,Dr];by_cases hj:j=k
   ·subst hj;simp
   ·simp[hj]
  ·simp only[Aa];have hww:w.heap.size=w.drew.heap.size:=rfl;rw[hww];refine⟨nc,0,hge,rfl,.inr rfl,e,Agw.size,?_,by omega⟩;have:=Bni w.drew (.cells Agw e);simp only[World.shape?];rw[this]
end
theorem A48{sz:Nat}:∀(fs:A2 (A2 D)),(∀(i:Nat) cs,fs[i]? = some cs→cs.length=sz)→∀(p q:Nat) cs c,fs[p]? = some cs→cs[q]? = some c→fs.flatten[p*sz+q]? = some c
 |[],_,p,q,cs,c,hp,_=>by simp at hp
 |a::r,h,p,q,cs,c,hp,hq=>by
  have h0:=h 0 a rfl;simp only[Bmj,Bm2];cases p with
  |zero =>simp at hp;subst hp;have:q<a.length:=(Bku.1 hq).1;rw[Blv (by omega)];simpa using hq
  |succ p =>have ih:=A48 r (fun i cs hi=>h (i+1) cs (by simpa using hi)) p q cs c (by simpa using hp) hq;rw[Bna,Blj (by omega)];rw[show p*sz+sz+q-a.length=p*sz+q by omega];exact ih
theorem HR.freeze{nm:A2 Nat}{B:Bl}{g:Gh}{w:World}{X:A7}(h:HR nm B g w X){k sz:Nat}{es:A2 (A2 D)}{ty:A3 TypeId}(hk:k∉nm)(ho:X.objs.lookup k=some (.cells (es.flatten.map .d) ty))
  (G9:∀(i:Nat) cs,es[i]? = some cs→cs.length=sz) :
  HR nm B { g with γ:=Nj g.γ (g.ρ k) (es.length*sz) } w (Ab.B1 k X)∧Trans [] g w { g with γ:=Nj g.γ (g.ρ k) (es.length*sz) } w ∧
   ∀a len v,a+len≤es.length→RA g w (.osl k (a*sz) len sz) v→RA { g with γ:=Nj g.γ (g.ρ k) (es.length*sz) } w (.d (.sl sz ((es.drop a).take len))) v:=by
 have h0:=h.Fx k _ ho;have hup:∀b,g.γ b≤Nj g.γ (g.ρ k) (es.length*sz) b:=by
  intro b;by_cases he:b=g.ρ k
  ·subst he;rw[Aa,h0];omega
  ·rw[Ae _ _ he];exact Bl1 _
 have hne:∀n b,g.β n=some (some b)→b≠g.ρ k:=fun n b hn=>h.Bo n b k _ hn ho
 have ht:Trans [] g w { g with γ:=Nj g.γ (g.ρ k) (es.length*sz) } w:=⟨⟨hup,fun _ _ _=>rfl,fun _ _ h=>h⟩,fun _ _=>rfl,fun n ob _ he=>⟨he,fun b hb=>⟨Ae _ _ (hne n b (hb▸he)),rfl⟩⟩,fun L _ hL=>⟨rfl,fun i b hb=>⟨Ae _ _ (h.eta.obj L i b k _ hL hb ho),rfl⟩⟩⟩;have hfl:=F1 es G9;have hd:=h.B1 hk;have hl:∀j o,(Ab.B1 k X).objs.lookup j=some o→j≠k∧X.objs.lookup j=some o:=by
  intro j o hj;simp only[Ab.B1,Dr]at hj;split at hj
  ·cases hj
  ·exact⟨‹_›,hj⟩
 cases h.objs k _ ho with
 |cells _ _ arr T hb hle hc Yl =>
 rw[Blb,hfl]at hle;refine⟨⟨hd.Dc,?_,h.base,h.io,⟨fun b=>Bmh (h.le.up b) (hup b),h.le.cell,h.le.shape⟩,?_,?_,?_,hd.C0,hd.Ce,h.live,h.C4,hd.Bo,h.Ca,h.Cd,hd.eta.step (fun L hL=>.inl ⟨hL,rfl⟩) (Bl1 _) (fun n b hb=>.inl ⟨n,hb⟩) fun k o hk=>.inl ⟨k,o,hk,rfl⟩⟩,ht,?_⟩
 ·intro b i hi;by_cases he:b=g.ρ k
  ·subst he;simp only[Aa]at hi;rw[Bg hb];have:i<arr.size:=by omega
   simp[this]
  ·simp only[Ae _ _ he]at hi;exact h.Ik b i hi
 ·intro b hbn hna;have Ta:b≠g.ρ k:=by
   rintro rfl;rcases h.Ce k _ ho with h1|h1
   ·omega
   ·exact hna h1
  have:=h.frame b hbn hna;exact⟨this.1,by simp only[Ae _ _ Ta];exact this.2⟩
 ·intro j o hj;exact(h.objs j o (hl j o hj).2).Dc ht rfl (.inl rfl)
 ·intro j o hj;obtain⟨h1,h2⟩:=hl j o hj;have Ta:g.ρ j≠g.ρ k:=fun he=>h1 (h.C0 j k _ _ h2 ho he)
  simp only[Ae _ _ Ta];exact h.Fx j o h2
 ·intro a len v hal T8;obtain⟨cap,q,Sc,rfl,hq,T',c,hsh,hcc⟩:=T8.Q1;refine .d _ _ ?_;by_cases hlen:len=0
  ·subst hlen;simp only[List.take_zero];exact .nil sz _ cap (by simp)
  ·have hqa:q=a*sz:=by
    rcases hq with h|h
    ·omega
    ·exact h
   subst hqa;have Bs:((es.drop a).take len).length=len:=by simp;omega
   refine .O3 Bs.symm ?_ Sc ?_ ?_
   ·simp only[Aa];have:=Bmm sz hal;rw[Bmz]at this;exact this
   ·intro i cs hi;rw[Bm5]at hi;split at hi
    ·rw[Bm9]at hi;exact G9 _ cs hi
    ·cases hi
   ·intro p q cs c u hp hq hu;rw[Bm5]at hp;split at hp
    ·rw[Bm9]at hp;have h1:=A48 es G9 (a+p) q cs c hp hq;rw[Bg hb]at hu;have e:(a+p)*sz+q=a*sz+(p*sz+q):=by rw[Bmz];omega
     rw[e]at h1;have:=hc (a*sz+(p*sz+q)) (.d c) u (by rw[Bkt,h1];rfl) hu;cases this with
     |d _ _ h2=>exact h2.mono ht.le
    ·cases hp
structure Ba9(P:Program)(t e n sz:Nat):Prop where
 und:P.underlying t=some (.array n e)
 is:∃i,P.info? e=some i∧i.size=sz
section
variable{P:Program}{o:Oper}{X:A7}
theorem Abw{t e n sz:Nat}{x y:Operand}{es:A2 (A2 D)}{cs:A2 D}{k:IntKind}{i:Int}(ho:o.op = .indexAddr t x y)
  (ht:Ba9 P t e n sz) (G9:∀(i:Nat) cs,es[i]? = some cs→cs.length=sz) (hn:es.length≤n) (h0:0≤i) (h1:es[i.toNat]? = some cs) :
  Bp P o [(x,.d (.ep es.flatten)),(y,.d (.sc (.int k i)))] X X [] (.d (.ep cs)) :=
 .quiet fun _ _ g w ac _ Aq=>by
  have e1:=H9 Aq;have e2:=(T9 Aq).Al;simp only at e1 e2;obtain⟨hu,info,hi,hs⟩:=ht;simp only[execOp,ho,e2];generalize ac.eval x=u at e1;cases e1 with
  |d _ _ e1 =>
   have Bs:=(Bku.1 h1).1;cases e1 with
   |ep _ b off hγ hc =>
    have hil:i<n:=by omega
    refine⟨.pointer (some ⟨b,off+i.toNat*sz,none⟩),?_,.d _ _ (.ep cs b _ ?_ ?_)⟩
    ·simp[Instr.indexAt,Instr.sureAddr,asIntOf,Bl0 hu,h0,hil,sizeOf,typeInfo,hi,hs,addr_add]
    ·rw[G9 _ _ h1];rw[F1 es G9]at hγ;have:(i.toNat+1)*sz≤es.length*sz:=Bmm sz Bs;rw[Bna]at this;omega
    ·intro j c v hj hv;exact hc (i.toNat*sz+j) c v (A48 es G9 _ _ _ _ h1 hj) (by rw[← Bo0];exact hv)
theorem A9d{t e n sz:Nat}{x y:Operand}{j:Nat}{k:IntKind}{i:Int}(ho:o.op = .indexAddr t x y)
  (ht:Ba9 P t e n sz) (h0:0≤i) (h1:i<n) :
  Bp P o [(x,.ptr j 0),(y,.d (.sc (.int k i)))] X X [] (.ptr j (i.toNat*sz)) :=
 .quiet fun _ _ g w ac _ Aq=>by
  have e1:=(H9 Aq).Is;have e2:=(T9 Aq).Al;simp only at e1 e2;obtain⟨hu,info,hi,hs⟩:=ht;refine⟨.pointer (some ⟨g.ρ j,i.toNat*sz,none⟩),?_,.ptr _ _⟩;simp only[execOp,ho,e1,e2];simp[Instr.indexAt,Instr.sureAddr,asIntOf,Bl0 hu,h0,h1,sizeOf,typeInfo,hi,hs,addr_add]
end
section
variable{P:Program}{o:Oper}{X:A7}
theorem A9e{ts:Array TypeId}{s x:Operand}{sz:Nat}{fs:A2 (A2 D)}{t u e e' bytes A73 sz':Nat}(m:Nat)
  (ho:o.op = .call { callee:=.builtin .append,args:=#[s,x],argTypes:=ts }) (h0:ts[0]? = some t) (h1:ts[1]? = some u) (hu:P2 P u e' sz' A73)
  (ht:P2 P t e sz bytes) (h1m:1000≤m) (hX:B7 [m] X=true) (hne:fs≠[])
  (Iu:∀c∈fs,∀d∈c,Zw d=true) (Wg:fs.length*bytes≤140737488355328) (hlen:fs.length≤4611686018427387904) :
  Bp P o [(s,.d (.sc (.slice none 0 0))),(x,.d (.sl sz fs))] X ⟨(m,.cells (fs.flatten.map .d) none)::(B1 m X).objs,X.live⟩ [m] (.osl m 0 fs.length sz):=by
 obtain⟨htt,i,z,hi,G9,hbt,hz,hzs⟩:=ht;intro nm Ek B g w a hr Aq next Q Eo
 have hmn:m∉nm:=fun hh=>by have:=Ek m hh;omega
 have e1:=(H9 Aq).Al;have e2:=T9 Aq;simp only at e1 e2;unfold Oper.wp;have C2:∀r,(Builtin.append_ ts o.type #[a.eval s,a.eval x]).run P w=r→(execOp a.eval o).run P w=r.andThen fun v w'=>.ok (.value v) w':=by intro r hr';simp only[execOp,ho,resolve];simp[invoke,builtin,hr']
 rw[e1]at C2;generalize a.eval x=vx at e2 C2;cases e2 with
 |d _ _ e2 =>
 obtain⟨xb,xc,rfl,Bg3,_,A6z,Bkf,hnl,A21,hnc⟩:=e2.Zv (P:=P) hr.Ik;have A9c:=F1 fs A6z;have A1r:∀(j:Nat) (y:AV) v,((fs.flatten.map AV.d))[j]? = some y→Bkf[j]? = some v→RA g w y v:=by intro j y v hy hv;rw[Bkt,Bky]at hy;obtain⟨d,hd,rfl⟩:=hy;obtain⟨p,q,ds,rfl,hp,hq⟩:=Yr fs A6z j d hd;exact .d _ _ (hnc p q ds d v hp hq hv)
 have G6:¬0+fs.length≤0:=by have:=Bol.2 hne;omega
 obtain⟨A1u,htd⟩:=hr.drew;have hrn:=Q3 (P:=P) (w:=w) (ty:=o.type) (base:=none) (len:=0) (cap:=0) (olds:=[]) h0 h1 hu.und htt hi hz (by rw[G9];exact A21 w.drew fun _ _ _=>rfl) (by simp[Builtin.firstCells]) G6 (by omega) (by rw[hbt];simpa using Wg);have hge:=Bqn w (0+fs.length) 0 e;generalize grownCap w (0+fs.length) 0 e=nc at hrn hge;generalize A93:([]:A2 Value).toArray++Bkf.toArray++Builtin.zeroCells z.cells (nc-(0+fs.length))=Agw at hrn;have Akl:Agw.size=nc*sz:=by rw[← A93];simp only[Box,Bnc,Bps,Bns,hnl,hzs];rw[Blx,← Bmz];congr 1;omega
 have Bdq:fs.length*sz≤nc*sz:=Bmm _ (by omega);have Yk:=A1u.B1 (k:=m) hmn;obtain⟨Xx,V4⟩:=Yk.newObj (k:=m) (by simp only[Ab.B1,Dr,Bn5]) (by
  unfold B7 at hX⊢;simp only[Boz,Bou]at hX⊢;rw[Bly]at hX⊢;intro p hp;simp only[Ab.B1,Blu]at hp;exact hX p hp.1) (.cells Agw e) (.cells (fs.flatten.map .d) none) (by
  intro g' w' ht' hw';refine .cells _ none Agw e hw' (by simp only[Blb,A9c];omega) ?_ (by simp);intro j y v hy hv;have hjl:j<fs.flatten.length:=by have:=(Bku.1 hy).1;rw[Blb]at this;exact this
  have Pq:Xu [m] y:=by rw[Bkt,Bky]at hy;obtain⟨d,_,rfl⟩:=hy;exact .d _
  rw[← A93,Bn6 (by simp only[Box,Bnc,Bns,hnl];omega),Bo9 (by simp)]at hv;simp only[Bnc,Bns,Bnu,Bn8]at hv;exact((A1r j y v hy hv).mono htd (.nil _)).mono ht' Pq)
 rw[C2 _ hrn];have hww:w.heap.size=w.drew.heap.size:=rfl;refine Eo _ _ _ Xx (htd.trans V4) ?_;simp only[Blx]at hge⊢;refine .nm _ _ _ ?_;simp only[Aa];rw[hww];refine⟨nc,0,hge,rfl,.inr rfl,e,Agw.size,?_,by omega⟩;have:=Bni w.drew (.cells Agw e);simp only[World.shape?];rw[this]
end
section
variable{P:Program}{o:Oper}{X:A7}
theorem Akv{zs:Array Value}:∀ {n:Nat} {v:Value},v∈(Builtin.zeroCells zs n).toList→v∈zs.toList:=by
 intro n v h;unfold Builtin.zeroCells at h;simp at h;obtain⟨a,ha,h⟩:=h;have h0:0<zs.size:=by
  rcases Bmu zs.size with h0|h0
  ·rw[h0]at ha;simp at ha
  ·exact h0
 have Bs:=Bqb a h0;rw[Bpe zs _ Bs]at h;rw[← h];simp
theorem Ap2{ts:Array TypeId}{x:Operand}{k off len sz:Nat}{cs:A2 AV}{ty:A3 TypeId}{t e bytes:Nat}
  (ho:o.op = .call { callee:=.builtin .clear,args:=#[x],argTypes:=ts }) (h0:ts[0]? = some t) (ht:P2 P t e sz bytes) (hk:X.objs.lookup k=some (.cells cs ty))
  (Iu:∀z,(P.info? e).bind (·.zero)=some z→∀v∈z.cells.toList,v.oneCell'=true) :
  Bp P o [(x,.osl k off len sz)] X ⟨setObj k (.cells (cs.take off) ty) X.objs,X.live⟩ [] (.E2 []):=by
 obtain⟨htt,i,z,hi,G9,hbt,hz,hzs⟩:=ht;intro nm Ek B g w a hr Aq next Q Eo
 have e1:=H9 Aq;simp only at e1;obtain⟨cap,q,Sc,hv,hq,T,c,hsh,hc⟩:=e1.Q1;unfold Oper.wp;have C2:∀w',(Builtin.clear_ ts o.type #[a.eval x]).run P w = .ok (.tuple #[]) w'→(execOp a.eval o).run P w = .ok (.value (.tuple #[])) w':=by intro w' hr';simp only[execOp,ho,resolve];simp[invoke,builtin,hr']
 rw[hv]at C2;have Agf:=Iu z (by rw[hi];exact hz);cases hr.objs k _ hk with
 |cells _ _ arr T' hb hl hcc Yl =>
 have Oz:w.shape? (g.ρ k)=some (T',arr.size):=by simp[World.shape?,hb]
 rw[Oz]at hsh;simp only[Bks,Bld]at hsh;obtain⟨rfl,rfl⟩:=hsh;have shrink:∀w',w'=w→HR nm B g w' ⟨setObj k (.cells (cs.take off) ty) X.objs,X.live⟩∧Trans [] g w g w':=by
  rintro w' rfl;refine hr.write hk rfl ⟨rfl,rfl,rfl,Bl1 _⟩ (fun _ _=>rfl) (fun _=>?_) (fun s h=>h);refine .cells _ ty arr T' hb (by simp;omega) ?_ Yl;intro j y v hy hv;rw[Bm5]at hy;split at hy
  ·exact hcc j y v hy hv
  ·cases hy
 by_cases hlen:len=0
 ·subst hlen;have:(Builtin.clear_ ts o.type #[.slice (some ⟨g.ρ k,q,none⟩) 0 cap]).run P w = .ok (.tuple #[]) w:=by simp[Builtin.clear_,h0,Bl0 htt]
  rw[C2 _ this];obtain⟨r1,r2⟩:=shrink w rfl;exact Eo g w _ r1 r2 (.E2 [] #[] rfl (by simp))
 ·have hqo:q=off:=by
   rcases hq with h|h
   ·omega
   ·exact h
  subst hqo;have hle:len*sz≤cap*sz:=Bmm sz Sc;obtain⟨w',Ch,hst,G0,H4,hp',hz',Wh,Lp⟩:=L4 (P:=P) (off:=q) (Builtin.zeroCells z.cells len).toList 0 w arr hb (fun v hv=>Agf v (Akv hv)) (by
   rw[Bmv,Bps,hzs];omega) (by intro j h3 h4;simp[World.frozen?,hb])
  have:(Builtin.clear_ ts o.type #[.slice (some ⟨g.ρ k,q,none⟩) len cap]).run P w = .ok (.tuple #[]) w':=by
   have hn:∀n,len=n→n≠0:=fun n h=>h▸hlen
   obtain⟨n,rfl⟩:∃n,len=n+1:=⟨len-1,by omega⟩;simp[Builtin.clear_,h0,Bl0 htt,zeroValue,typeInfo,hi,hz,hst]
  rw[C2 _ this];obtain⟨r1,r2⟩:=hr.write hk (o':=.cells (cs.take q) ty) hz' Lp Wh (by
   intro ht';refine .cells _ ty Ch T' G0 (by simp;omega) ?_ Yl;intro j y v hy hv;rw[Bm5]at hy;split at hy
   ·rw[hp' j,Blj (by omega)]at hv;exact(hcc j y v hy hv).mono ht' (.nil _)
   ·cases hy) (by
   intro s hs0;rw[Oz]at hs0;simp only[World.shape?,G0,H4];exact hs0)
  exact Eo g w' _ r1 r2 (.E2 [] #[] rfl (by simp))
end
section
variable{P:Program}{o:Oper}{X:A7}
theorem A9f(m:Nat){t e:TypeId}{n sz:Nat}{Bke:Array (Nat×Operand)}{xs:A2 D}{i:TypeInfo}{z:Value}(ho:o.op = .buildSlice t n Bke)(ht:P.underlying t=some (.slice e))
  (hi:P.info? e=some i) (hz:i.zero=some z) (G9:i.size=sz) (hx:xs.length=n) (Ax4:Bke.toList.map (·.1)=List.range n) (Ja:(xs.all fun x=>A5j (.d x)&&x.cells.length==sz)=true)
  (Wg:n*sz≤16777216) (h1m:1000≤m) (hX:B7 [m] X=true) :
  Bp P o ((Bke.toList.map (·.2)).zip (xs.map .d)) X ⟨(m,.cells ((xs.map D.cells).flatten.map .d) none)::(B1 m X).objs,X.live⟩ [m] (.osl m 0 n sz):=by
 subst G9;intro nm Ek B g w a hr Aq next Q hn
 have hpl:Bke.toList.length=n:=by rw[← Blb (f:=(·.1)),Ax4,Bqz]
 unfold Oper.wp;have B5z:∀(j:Nat) p x,Bke.toList[j]? = some p→xs[j]? = some x→RA g w (.d x) (a.eval p.2):=by
  intro j p x hp hx';exact Aq (p.2,.d x) (Bln (i:=j) (by
   rw[Bnw];exact⟨by rw[Bkt,hp];rfl,by rw[Bkt,hx'];rfl⟩))
 have Agj:∀(j:Nat) x,xs[j]? = some x→A5j (.d x)=true∧x.cells.length=i.size:=by intro j x hx';have:=Bly.1 Ja x (Bln hx');simpa using this
 generalize A17:((Array.range (n*i.size)).map fun x=>(if n*i.size=0 then #[]else z.cells)[x % (if n*i.size=0 then #[]else z.cells).size]!)=A94;have Agk:A94.size=n*i.size:=by subst A17;simp
 obtain⟨Ch,A6a,H4,_,hc'⟩:=A71 (g:=g) (w:=w) (sz:=i.size) (Bke.toList.map fun p=>(p.1,a.eval p.2)) (xs.map D.cells) 0 A94 (by simp[hpl,hx]) (by
  intro j p hp;rw[Bkt,Bky]at hp;obtain⟨q,hq,rfl⟩:=hp;have hj:j<n:=by have:=(Bku.1 hq).1;omega
  have:(Bke.toList.map (·.1))[j]? = some q.1:=by rw[Bkt,hq];rfl
  rw[Ax4,Bpk hj]at this;simp at this;simp[this]) (by
  intro j p cs hp Q2;rw[Bkt,Bky]at hp Q2;obtain⟨q,hq,rfl⟩:=hp;obtain⟨x,hx',rfl⟩:=Q2;obtain⟨f1,f2⟩:=Agj j x hx';obtain⟨c1,c2⟩:=(B5z j q x hq hx').cells f1;have hcl:(AV.d x).cells.length=x.cells.length:=by simp[AV.cells]
  refine⟨f2,by simp only;omega,?_⟩;intro k c u hk hu;have:=c2 k (.d c) u (by simp[AV.cells,hk]) hu;cases this with
  |d _ _ h=>exact h) (by simp[hpl,Agk])
 have C2:(execOp a.eval o).run P w = .ok (.value (.slice (some ⟨w.heap.size,0,none⟩) n n)) (w.alloc (.cells Ch e)):=by
  simp only[execOp,ho,Instr.buildSlice];have h24:¬(n*i.size>2 ^ 24):=by omega
  by_cases h0:n*i.size=0
  ·have e0:A94=#[]:=Bm8 (by omega);subst e0;have P0:Instr.fill (fun j=>some (j*i.size,i.size)) #[] (Bke.toList.map fun p=>(p.1,a.eval p.2))=some Ch:=A6a;have Bfv:¬(0>2 ^ 24):=by omega
   simp only[Blo,Bl0 ht,Blk,run_sizeOf hi,h0,Bn5];simp[Bpw,P0,Go.newRow]
  ·simp only[h0,Bn2]at A17;have P0:Instr.fill (fun j=>some (j*i.size,i.size)) A94 (Bke.toList.map fun p=>(p.1,a.eval p.2))=some Ch:=A6a;simp only[Blo,Bl0 ht,Blk,run_sizeOf hi,h24,Bn2,h0];simp[zeroValue,typeInfo,hi,hz,A17,P0,Go.newRow]
 have hmn:m∉nm:=fun hh=>by have:=Ek m hh;omega
 have A6z:∀(i':Nat) cs,(xs.map D.cells)[i']? = some cs→cs.length=i.size:=by intro j cs Q2;rw[Bkt,Bky]at Q2;obtain⟨x,hx',rfl⟩:=Q2;exact(Agj j x hx').2
 have A9c:=F1 (xs.map D.cells) A6z;rw[Blb,hx]at A9c;have Yk:=hr.B1 (k:=m) hmn;obtain⟨Xx,V4⟩:=Yk.newObj (k:=m) (by simp only[Ab.B1,Dr,Bn5]) (by
  unfold B7 at hX⊢;simp only[Boz,Bou]at hX⊢;rw[Bly]at hX⊢;intro p hp;simp only[Ab.B1,Blu]at hp;exact hX p hp.1) (.cells Ch e) (.cells ((xs.map D.cells).flatten.map .d) none) (by
  intro g' w' ht' hw';refine .cells _ none Ch e hw' (by simp only[Blb,A9c];omega) ?_ (by simp);intro j y v hy hv;rw[Bkt,Bky]at hy;obtain⟨d,hd,rfl⟩:=hy;obtain⟨p,q,ds,rfl,hp,hq⟩:=Yr _ A6z j d hd;have:=hc' p q ds d v hp hq (by rw[Blx];exact hv);exact(RA.d _ _ this).mono ht' (.d _))
 rw[C2];refine hn _ _ _ Xx V4 (.nm _ _ _ ?_);simp only[Aa];exact⟨n,0,Bl1 _,rfl,.inr rfl,e,Ch.size,by unfold World.shape?;rw[Bni],by omega⟩
end
theorem A5n{P:Program}{o:Oper}{X:A7}{t e:TypeId}{i:TypeInfo}(m:Nat)(ho:o.op = .buildSlice t 0 #[])(ht:P.underlying t=some (.slice e))(hi:P.info? e=some i)
  (hm:m∉X.live) (hX:B7 [m] X=true):Bp P o [] X ⟨X.objs,m::X.live⟩ [m] (.Bu m i.size [] (some e)):=by
 intro nm Ek B g w a hr Aq next Q hn
 unfold Oper.wp;have C2:(execOp a.eval o).run P w = .ok (.value (.slice (some ⟨w.heap.size,0,none⟩) 0 0)) (w.alloc (.cells #[] e)):=by
  simp only[execOp,ho,Instr.buildSlice];have h0:0*i.size=0:=by omega
  have Bfv:¬(0>2 ^ 24):=by omega
  have P0:Instr.fill (fun j=>some (j*i.size,i.size)) #[] []=some #[]:=rfl;simp only[Blo,Bl0 ht,Blk,run_sizeOf hi,h0,Bn5];simp[Bpw,P0,Go.newRow]
 rw[C2];obtain⟨h1,h2⟩:=hr.newRow #[] e 0 (Bl1 _);have G9:(w.alloc (.cells #[] e)).heap.size=w.heap.size+1:=by simp
 obtain⟨h3,h4⟩:=h1.P1 hm (some w.heap.size) hX (by
  intro b hb;cases hb;refine⟨by omega,.inl hr.base,fun k ob hk he=>?_,fun n hn=>?_,hr.eta.Yj (Bl1 _)⟩
  ·have Gg:=hr.objs k ob hk;have:g.ρ k<w.heap.size:=by
    cases Gg with
    |cells _ _ _ _ hh=>exact(Blf.1 hh).1
    |map _ _ _ hh=>exact(Blf.1 hh).1
    |Oy _ _ hh=>exact(Blf.1 hh).1
    |Jg _ _ _ _ hh=>exact(Blf.1 hh).1
    |Dt hh=>exact(Blf.1 hh).1
    |Ck _ _ _ _ _ hh=>exact(Blf.1 hh).1
   simp only at he;omega
  ·have:=hr.Cd n _ hn;omega)
 refine hn _ _ _ h3 (by simpa using h2.trans h4) (.Bu m i.size [] (some e) _ (.nil _ _ _ (by simp)) ?_);intro ob Gg;simp only[Aa,Bks]at Gg;subst Gg;refine⟨rfl,rfl,by show Nj g.γ w.heap.size 0 w.heap.size=0+0*i.size;rw[Aa,Bnt],fun j h5 h6=>by simp at h5 h6,fun e' he'=>?_⟩;cases he';exact⟨rfl,_,by simp only[World.shape?,Bni];rfl⟩
theorem HR.Bij{nm:A2 Nat}{B:Bl}{g:Gh}{w:World}{X Y:A7}(h:HR nm B g w X)(hl:Y.live=X.live)(ho:∀j o,Y.objs.lookup j=some o→∃o',X.objs.lookup j=some o'∧(C3 g w (g.ρ j) o'→C3 g w (g.ρ j) o))
  (hk:∀j∈nm,(Y.objs.lookup j).isSome):HR nm B g w Y:=by
 refine⟨fun j hj=>⟨(h.Dc j hj).1,hk j hj⟩,h.Ik,h.base,h.io,h.le,h.frame,?_,?_,?_,?_,fun n=>by rw[hl];exact h.live n,h.C4,?_,h.Ca,h.Cd,h.eta.same (Bl1 _) fun j o hj=>let ⟨o',h1,_⟩:=ho j o hj;⟨o',h1⟩⟩
 ·intro j o hj;obtain⟨o',h1,h2⟩:=ho j o hj;exact h2 (h.objs j o' h1)
 ·intro j o hj;obtain⟨o',h1,h2⟩:=ho j o hj;exact h.Fx j o' h1
 ·intro j j' o o' hj Gf he;obtain⟨p,h1,_⟩:=ho j o hj;obtain⟨p',h1',_⟩:=ho j' o' Gf;exact h.C0 j j' p p' h1 h1' he
 ·intro j o hj;obtain⟨o',h1,h2⟩:=ho j o hj;exact h.Ce j o' h1
 ·intro n b j o hn hj;obtain⟨o',h1,h2⟩:=ho j o hj;exact h.Bo n b j o' hn h1
section
variable{P:Program}{o:Oper}{X:A7}
theorem Atf{t:TypeId}{cs:A2 AV}(k:Nat)(ho:o.op = .alloc t)(hz:Agd P t cs)(hk:X.objs.lookup k=none)(hX:B7 [k] X=true) :
  Bp P o [] X ⟨(k,.cells cs none)::X.objs,X.live⟩ [k] (.ptr k 0):=by
 intro nm Ek B g w a hr Aq next Q hn
 refine B0k k ho hz hk hX nm Ek B g w a hr Aq next Q ?_
 intro g' w' v h1 h2 h3;refine hn g' w' v (h1.Bij rfl ?_ ?_) h2 h3
 ·intro j ob hj;simp only[Blw]at hj⊢;split at hj
  ·cases hj;refine⟨_,rfl,fun h=>?_⟩;cases h with
   |cells _ _ arr T a1 a2 a3 a4=>exact .cells _ _ arr T a1 a2 a3 (by simp)
  ·exact⟨ob,hj,id⟩
 ·intro j hj;have:=(h1.Dc j hj).2;simp only[Blw]at this⊢;split
  ·rfl
  ·rename_i he;rw[he]at this;exact this
theorem Ap3{t e n sz:Nat}{x:Operand}{lo hi:A3 Operand}{k:Nat}{l h:Int}{rd:A2 (Operand×AV)}{cs:A2 AV}{ty:A3 TypeId}(ho:o.op = .slice t x lo hi none)(ht:Ba9 P t e n sz)
  (hk:X.objs.lookup k=some (.cells cs ty)) (hn:n*sz≤cs.length) (h0:0≤l) (h1:l≤h) (h2:h≤(n:Int))
  (hlo:match lo with|some y=>∃j,(y,AV.d (.int j l))∈rd|none=>l=0) (hhi:match hi with|some y=>∃j,(y,AV.d (.int j h))∈rd|none=>h=(n:Int)) :
  Bp P o ((x,.ptr k 0)::rd) X X [] (.osl k (l.toNat*sz) (h.toNat-l.toNat) sz) :=
 .quiet fun _ _ g w ac hr Aq=>by
  have h3:=Aq (x,.ptr k 0) Bkz;simp only at h3;have hx:=h3.Is;obtain⟨hu,i,Lp,G9⟩:=ht;obtain⟨T,c,hsh,hc⟩:∃T c,w.shape? (g.ρ k)=some (T,c)∧n*sz≤c:=by
   cases hr.objs k _ hk with
   |cells _ _ arr T hb hl hc h4=>exact⟨T,arr.size,by simp[World.shape?,hb],by omega⟩
  have key:RA g w (.osl k (l.toNat*sz) (h.toNat-l.toNat) sz) (.slice (some (if n=l.toNat then ⟨g.ρ k,0,none⟩else (⟨g.ρ k,0,none⟩:Addr).add (l.toNat*sz))) (h.toNat-l.toNat) (n-l.toNat)):=by
   refine .nm _ _ _ ?_;by_cases hz:n=l.toNat
   ·rw[Blv hz];refine⟨n-l.toNat,0,by omega,rfl,.inl (by omega),T,c,hsh,?_⟩;rw[← hz,Brz,Bnt];omega
   ·rw[Blj hz];refine⟨n-l.toNat,l.toNat*sz,by omega,by simp[addr_add],.inr rfl,T,c,hsh,?_⟩;have:l.toNat*sz+(n-l.toNat)*sz=n*sz:=by rw[← Bmz];congr 1;omega
    omega
  refine⟨_,?_,key⟩;simp only[execOp,ho,hx];have eh:∀y,hi=some y→∃j,ac.eval y = .int j h:=by intro y hy;subst hy;obtain⟨j,hj⟩:=hhi;exact⟨j,(Aq _ (Bkx _ hj)).Al⟩
  have el:∀y,lo=some y→∃j,ac.eval y = .int j l:=by intro y hy;subst hy;obtain⟨j,hj⟩:=hlo;exact⟨j,(Aq _ (Bkx _ hj)).Al⟩
  have bh:∀(y:Nat) (c:BoundsCode) (k:IntKind),h≤(y:Int)→(Instr.sliceBound (.int k h) y c).run P w = .ok h.toNat w:=by intro y c k hy;simp[Instr.sliceBound,asIntOf,show 0≤h by omega,hy]
  have bl:∀(y:Nat) (c:BoundsCode) (k:IntKind),l≤(y:Int)→(Instr.sliceBound (.int k l) y c).run P w = .ok l.toNat w:=by intro y c k hy;simp[Instr.sliceBound,asIntOf,h0,hy]
  have Pp:(sizeOf e).run P w = .ok sz w:=by rw[run_sizeOf Lp,G9]
  cases hi with
  |none =>
   simp only at hhi;subst hhi;have e5:((n:Nat):Int).toNat=n:=by omega
   cases lo with
   |none =>simp only at hlo;subst hlo;simp[Instr.sliceAt,Instr.sureAddr,Instr.sliceBounds,Bl0 hu,Pp]
   |some y =>obtain⟨j,hj⟩:=el y rfl;have b1:=bl n .sliceB j (by omega);simp[Instr.sliceAt,Instr.sureAddr,Instr.sliceBounds,Bl0 hu,Pp,hj,b1]
  |some y' =>
   obtain⟨j',Gf⟩:=eh y' rfl;have b2:=bh n .sliceAlen j' (by omega);have b3:=bh n .sliceAcap j' (by omega);cases lo with
   |none =>simp only at hlo;subst hlo;simp[Instr.sliceAt,Instr.sureAddr,Instr.sliceBounds,Bl0 hu,Pp,Gf,b2]
   |some y =>obtain⟨j,hj⟩:=el y rfl;have b1:=bl h.toNat .sliceB j (by omega);simp[Instr.sliceAt,Instr.sureAddr,Instr.sliceBounds,Bl0 hu,Pp,hj,Gf,b1,b2]
theorem Abx{γ:Nat→Nat}{w:World}{s d e:TypeId}{l:A2 UInt8}{v:Value}(B0h:∀b i,i<γ b→(w.cell? ⟨b,i,none⟩).isSome)(h1:RD γ w (.sl 1 (Cv l)) v)
  (hs:P.underlying s=some (.slice e)) (he:P.underlying e=some (.int .u8)) (hd:P.underlying d=some .string):(convert s d v).run P w = .ok (.string ⟨l.toArray⟩) w:=by
 obtain⟨base,cap,rfl,hle,hb,_,cells,hcl,C2,hc⟩:=h1.Zv (P:=P) B0h;have Axf:cells=(l.map fun b=>(b.toNat:Int)).map (Value.int .u8):=by
  refine Bny fun i=>?_
  by_cases hi:i<l.length
  ·have h2:i<cells.length:=by rw[hcl,D0];omega
   have h3:=hc i 0 [.sc (.int .u8 l[i].toNat)] (.sc (.int .u8 l[i].toNat)) cells[i] (by simp[Cv,hi]) rfl (by simp[h2]);have h4:cells[i]=Value.int .u8 l[i].toNat:=RA.Al (g:=⟨γ,fun _=>none,fun _=>0,fun _ _=>none⟩) (w:=w) (.d _ _ h3);simp[h2,h4,hi]
  ·have h2:¬i<cells.length:=by rw[hcl,D0];omega
   simp[Bod hi,Bod h2]
 rw[Bra w s d e base (Cv l).length cap hs he hd];cases base with
 |none =>
  have hl0:l=[]:=by have:cap=0:=hb rfl;have:=D0 l;exact Bnq.1 (by omega)
  subst hl0;rfl
 |some a =>
  have hl:=C2 w fun _ _ _=>rfl
  have hfc:(Builtin.firstCells 1 (Cv l).length (.slice (some a) (Cv l).length cap))=loadCells a ((Cv l).length*1):=rfl;rw[hfc,Bp1]at hl;rw[run_bytesToString w a _ cap (l.map fun b=>(b.toNat:Int)) (by rw[hl,Axf]),foldl_push];simp
theorem A5o{s d e:TypeId}{x:Operand}{k a len:Nat}{l:A2 UInt8}{ty:A3 TypeId}(ho:o.op = .convert s d x)(hs:P.underlying s=some (.slice e))(he:P.underlying e=some (.int .u8))(hd:P.underlying d=some .string)
  (hk:X.objs.lookup k=some (.cells ((Cv l).flatten.map .d) ty)) (hle:a+len≤l.length) :
  Bp P o [(x,.osl k (a*1) len 1)] X X [] (.d (.bs ((l.drop a).take len))) :=
 .quiet fun _ _ g w ac hr Aq=>by
  have h1:=H9 Aq;simp only at h1;have h':HR [] _ g w X:=⟨by simp,hr.Ik,hr.base,hr.io,hr.le,hr.frame,hr.objs,hr.Fx,hr.C0,hr.Ce,hr.live,hr.C4,hr.Bo,hr.Ca,hr.Cd,hr.eta⟩;obtain⟨f1,f2,f3⟩:=h'.freeze (k:=k) (sz:=1) (es:=Cv l) (by simp) hk (by
   intro i cs hc;obtain⟨b,_,rfl⟩:=Km hc;rfl)
  have f4:=f3 a len _ (by simpa[D0]using hle) h1;have e1:((Cv l).drop a).take len=Cv ((l.drop a).take len):=by simp[Cv,Bo5,Boi]
  rw[e1]at f4;cases f4 with
  |d _ _ f4 =>refine⟨_,?_,.Fh _ _ _⟩;simp only[execOp,ho];rw[Blo,Abx f1.Ik f4 hs he hd];rfl
end
end Go.Ab
