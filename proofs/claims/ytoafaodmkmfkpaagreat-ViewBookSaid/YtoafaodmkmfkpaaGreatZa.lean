import Derived.Calls
import Derived.ProofKit
import Derived.Laws.Cells
import Derived.Laws.Entries
import Derived.Laws.Append
import Derived.Laws.StructEq
import Derived.Laws.Strings
import Derived.Laws.Slices
import Derived.Laws.Small
import Derived.Tactics
import Derived.Laws.Rows
import Derived.Laws.AppendOwn
import Derived.Laws.NewBlocks
import Derived.Orders
import Derived.Lib.Builder
import Derived.Lib.UnsafeStr
import Derived.Laws.BytesString
import Derived.Lib.BufferWrite
import Derived.Laws.MakeOwn
import Derived.Lib.ConvBytes
import Derived.Laws.CopyRow
import Derived.Below
import Derived.Sort.Grow
import Derived.Shelf.GgSortFunc.InsertionK
import Derived.Shelf.SlSortCmp.NoneTotal
import Derived.LaidEqlPtr
import Derived.MapKept
import Derived.WideKeyRuns
import Derived.RangeFuncLeaves
import Derived.RangeFuncRecord
import Derived.RangeFuncCalls
import Derived.RangeFuncIn
import Derived.RangeFuncSeq
import Derived.TacticsIn
import Derived.Laws.StandIn
import Derived.Lib.Bytealg
import Derived.IntWalk
import Derived.KernelRfl
import Derived.Sort.AssemblyPlain
import Derived.Shelf.SlGeneric
import Derived.Ground.SlsfProg
set_option linter.all false
open Go.IntKind (i64 u64 u16)
noncomputable section
abbrev A6.{u}(α:Type u):=List α
abbrev A7.{u}(α:Type u):=Option α
abbrev Bna:=@cond_true
abbrev Bnb:=@Option.bind_some
abbrev Bnc:=@cond_false
abbrev Bnd:=@List.mem_cons
abbrev Bne:=@Nat.eq_of_beq_eq_true
abbrev Bnf:=@Option.some.injEq
abbrev Bng:=@List.getElem?_eq_getElem
abbrev Bnh:=@List.map_cons
abbrev Bni:=@List.getElem?_map
abbrev Bnj:=@List.getElem?_eq_some_iff
abbrev Bnk:=@List.mem_append
abbrev Bnl:=@List.mem_cons_of_mem
abbrev Bnm:=@List.mem_cons_self
abbrev Bnn:=@Option.map_eq_some_iff
abbrev Bno:=@Nat.le_refl
abbrev Bnp:=@List.mem_map
abbrev Bnq:=@decide_eq_true
abbrev Bnr:=@List.mem_map_of_mem
abbrev Bns:=@Go.run_underlying
abbrev Bnt:=@decide_eq_false
abbrev Bnu:=@Nat.le_of_ble_eq_true
abbrev Bnv:=@if_neg
abbrev Bnw:=@List.mem_singleton
abbrev Bnx:=@List.length_cons
abbrev Bny:=@Array.getElem?_eq_some_iff
abbrev Bnz:=@List.mem_append_right
abbrev Bo0:=@List.mem_append_left
abbrev Bo1:=@List.length_map
abbrev Bo2:=@Prod.mk.injEq
abbrev Bo3:=@if_pos
abbrev Bo4:=@List.map_append
abbrev Bo5:=@Go.Result.andThen_ok
abbrev Bo6:=@Int.toNat_natCast
abbrev Bo7:=@congrArg
abbrev Bo8:=@List.map_nil
abbrev Bo9:=@List.mem_filter
abbrev Boa:=@List.not_mem_nil
abbrev Bob:=@Array.getElem?_eq_getElem
abbrev Boc:=@Go.Sem.run_bind
abbrev Bod:=@List.pairwise_cons
abbrev Boe:=@List.mem_of_getElem?
abbrev Bof:=@List.length_take
abbrev Bog:=@Nat.zero_add
abbrev Boh:=@List.take_length
abbrev Boi:=@List.nodup_cons
abbrev Boj:=@Option.isSome_iff_exists
abbrev Bok:=@List.all_eq_true
abbrev Bol:=@Option.map_some
abbrev Bom:=@List.append_nil
abbrev Bon:=@Bool.false_eq_true
abbrev Boo:=@Bool.and_eq_true
abbrev Bop:=@Nat.le_trans
abbrev Boq:=@List.contains_iff_mem
abbrev Bor:=@Option.bind_eq_some_iff
abbrev Bos:=@Array.eq_empty_of_size_eq_zero
abbrev Bot:=@List.lookup_cons
abbrev Bou:=@List.nil_append
abbrev Bov:=@List.length_filter_le
abbrev Bow:=@List.getElem?_take
abbrev Box:=@Bool.eq_iff_iff
abbrev Boy:=@Nat.lt_irrefl
abbrev Boz:=@List.getElem?_append
abbrev Bp0:=@Nat.ble_eq_true_of_le
abbrev Bp1:=@List.foldl_cons
abbrev Bp2:=@Array.length_toList
abbrev Bp3:=@List.getElem?_drop
abbrev Bp4:=@List.length_append
abbrev Bp5:=@List.getElem_mem
abbrev Bp6:=@List.pairwise_iff_getElem
abbrev Bp7:=@Nat.lt_of_lt_of_le
abbrev Bp8:=@Bool.not_true
abbrev Bp9:=@List.take_add_one
abbrev Bpa:=@or_false
abbrev Bpb:=@Nat.blt_eq
abbrev Bpc:=@Bool.or_eq_true
abbrev Bpd:=@Array.getElem?_toList
abbrev Bpe:=@Bool.and_self
abbrev Bpf:=@Bool.not_false
abbrev Bpg:=@List.take_of_length_le
abbrev Bph:=@List.flatten_cons
abbrev Bpi:=@if_false
abbrev Bpj:=@List.length_nil
abbrev Bpk:=@decide_eq_true_eq
abbrev Bpl:=@Nat.eq_zero_or_pos
abbrev Bpm:=@List.filter_append
abbrev Bpn:=@Nat.mul_le_mul_right
abbrev Bpo:=@List.getElem?_eq_none
abbrev Bpp:=@List.lookup_append
abbrev Bpq:=@Go.wpIn_region_list
abbrev Bpr:=@decide_eq_false_iff_not
abbrev Bps:=@List.sizeOf_lt_of_mem
abbrev Bpt:=@Nat.lt_or_ge
abbrev Bpu:=@List.mem_iff_getElem?
abbrev Bpv:=@Nat.ne_of_beq_eq_false
abbrev Bpw:=@List.cons_append
abbrev Bpx:=@Nat.succ_mul
abbrev Bpy:=@Nat.sub_zero
abbrev Bpz:=@if_true
abbrev Bq0:=@List.filter_cons
abbrev Bq1:=@List.size_toArray
abbrev Bq2:=@Bool.and_true
abbrev Bq3:=@Go.MapKept.run_getObj_map
abbrev Bq4:=@List.pairwise_append
abbrev Bq5:=@Ne.symm
abbrev Bq6:=@List.map_map
abbrev Bq7:=@Array.getElem?_modify
abbrev Bq8:=@UInt8.lt_iff_toNat_lt
abbrev Bq9:=@Nat.zero_le
abbrev Bqa:=@Nat.add_assoc
abbrev Bqb:=@Bool.true_and
abbrev Bqc:=@Go.wpListIn_nil
abbrev Bqd:=@Array.getElem?_eq_none
abbrev Bqe:=@List.zip_cons_cons
abbrev Bqf:=@List.getElem?_toArray
abbrev Bqg:=@List.length_singleton
abbrev Bqh:=@Nat.add_mul
abbrev Bqi:=@List.getElem?_append_right
abbrev Bqj:=@Array.getElem?_append_left
abbrev Bqk:=@List.drop_zero
abbrev Bql:=@Go.Sem.run_pure
abbrev Bqm:=@List.getElem?_append_left
abbrev Bqn:=@List.getElem?_zip_eq_some
abbrev Bqo:=@List.drop_eq_getElem_cons
abbrev Bqp:=@beq_eq_false_iff_ne
abbrev Bqq:=@Bool.not_eq_true'
abbrev Bqr:=@Function.comp_def
abbrev Bqs:=@List.take_append_drop
abbrev Bqt:=@Go.World.putObj_heap_other
abbrev Bqu:=@List.getD_eq_getElem?_getD
abbrev Bqv:=@Nat.zero_mul
abbrev Bqw:=@Go.heap_alloc_new
abbrev Bqx:=@List.append_assoc
abbrev Bqy:=@List.ext_getElem?
abbrev Bqz:=@Bool.eq_false_iff
abbrev Br0:=@Nat.add_zero
abbrev Br1:=@Go.wpIn_seq
abbrev Br2:=@List.map_take
abbrev Br3:=@List.length_eq_zero_iff
abbrev Br4:=@List.flatten_append
abbrev Br5:=@Nat.lt_succ_self
abbrev Br6:=@Option.some.inj
abbrev Br7:=@List.cons.injEq
abbrev Br8:=@Nat.beq_refl
abbrev Br9:=@List.Pairwise.filter
abbrev Bra:=@List.pairwise_map
abbrev Brb:=@List.nodup_append
abbrev Brc:=@List.any_cons
abbrev Brd:=@List.eq_nil_of_length_eq_zero
abbrev Bre:=@List.getElem?_cons_zero
abbrev Brf:=@List.pairwise_mergeSort
abbrev Brg:=@List.mergeSort_perm
abbrev Brh:=@Option.some_or
abbrev Bri:=@Option.bind_none
abbrev Brj:=@List.drop_length
abbrev Brk:=@Array.getElem?_extract
abbrev Brl:=@List.getElem?_set_self
abbrev Brm:=@not_or
abbrev Brn:=@Array.getElem?_append_right
abbrev Bro:=@Option.map_none
abbrev Brp:=@UInt8.toNat_inj
abbrev Brq:=@Array.getElem?_append
abbrev Brr:=@List.map_drop
abbrev Brs:=@Bool.or_false
abbrev Brt:=@List.isEmpty_cons
abbrev Bru:=@Array.getElem_mem
abbrev Brv:=@beq_iff_eq
abbrev Brw:=@List.getElem?_set_ne
abbrev Brx:=@Option.none_or
abbrev Bry:=@Nat.le_of_not_lt
abbrev Brz:=@List.map_toArray
abbrev Bs0:=@List.range'_succ
abbrev Bs1:=@Option.getD_some
abbrev Bs2:=@Array.mem_filter
abbrev Bs3:=@List.any_nil
abbrev Bs4:=@List.take_set_of_le
abbrev Bs5:=@List.getLast?_singleton
abbrev Bs6:=@Bool.false_or
abbrev Bs7:=@UInt8.toNat_ofNat'
abbrev Bs8:=@List.length_pos_of_mem
abbrev Bs9:=@List.drop_eq_nil_of_le
abbrev Bsa:=@List.take_append_of_le_length
abbrev Bsb:=@List.drop_append_of_le_length
abbrev Bsc:=@Array.size_append
abbrev Bsd:=@List.foldl_append
abbrev Bse:=@List.mem_range
abbrev Bsf:=@UInt8.le_iff_toNat_le
abbrev Bsg:=@Nat.add_comm
abbrev Bsh:=@Array.getD_eq_getD_getElem?
abbrev Bsi:=@List.range_eq_range'
abbrev Bsj:=@List.append_cons
abbrev Bsk:=@List.getLast?_append
abbrev Bsl:=@List.perm_ext_iff_of_nodup
abbrev Bsm:=@Int.tdiv_eq_ediv_of_nonneg
abbrev Bsn:=@Go.wp_mono
abbrev Bso:=@List.getElem?_range
abbrev Bsp:=@List.length_pos_iff
abbrev Bsq:=@Std.Legacy.Range.forIn_eq_forIn_range'
abbrev Bsr:=@List.mem_of_find?_eq_some
abbrev Bss:=@Go.run_equalIn_int
abbrev Bst:=@List.zip_append
abbrev Bsu:=@Go.Proofs.AnyF.slices_SortFunc_none
abbrev Bsv:=@Go.run_sliceAt_string
abbrev Bsw:=@getElem!_pos
abbrev Bsx:=@Nat.add_sub_cancel
abbrev Bsy:=@true_and
abbrev Bsz:=@List.length_erase_of_mem
abbrev Bt0:=@Nat.mod_lt
abbrev Bt1:=@Go.IntWalk.i64_in
abbrev Bt2:=@List.take_take
abbrev Bt3:=@List.getElem?_cons_succ
abbrev Bt4:=@Go.Array.range_zero'
abbrev Bt5:=@beq_self_eq_true
abbrev Bt6:=@Bool.not_eq_true
abbrev Bt7:=@congrFun
abbrev Bt8:=@List.pairwise_iff_forall_sublist
abbrev Bt9:=@Nat.div_lt_iff_lt_mul
abbrev Bta:=@List.singleton_append
abbrev Btb:=@List.getElem?_of_mem
abbrev Btc:=@List.getElem!_eq_getElem?_getD
abbrev Btd:=@Go.Sort.heap_ahead
abbrev Bte:=@Go.MapKept.run_checkKey
abbrev Btf:=@Go.run_choose_drew
abbrev Btg:=@List.mem_erase_of_ne
abbrev Bth:=@exists_eq_left'
abbrev Bti:=@Go.World.alloc_heap_new
abbrev Btj:=@Nat.min_self
abbrev Btk:=@List.filter_nil
abbrev Btl:=@Go.ByteArray.toList_eq
abbrev Btm:=@List.map_congr_left
abbrev Btn:=@List.take_succ_cons
abbrev Bto:=@Array.getElem?_push
abbrev Btp:=@Go.size_zeroCells
abbrev Btq:=@Go.calls_of_wp
abbrev Btr:=@Int.le_refl
abbrev Bts:=@List.find?_eq_none
abbrev Btt:=@List.mem_filterMap
abbrev Btu:=@List.take_length_add_append
abbrev Btv:=@List.all_cons
abbrev Btw:=@ByteArray.ext
abbrev Btx:=@Int.fdiv_eq_ediv_of_nonneg
abbrev Bty:=@Go.Sort.scanDown_spec
abbrev Btz:=@Bool.or_assoc
abbrev Bu0:=@Go.callsIn_of_wp
abbrev Bu1:=@List.length_range
abbrev Bu2:=@List.find?_isSome
abbrev Bu3:=@bne_self_eq_false
abbrev Bu4:=@Array.all_eq_true
abbrev Bu5:=@Nat.lt_trichotomy
abbrev Bu6:=@List.flatMap_cons
abbrev Bu7:=@Array.mapM_eq_mapM_toList
abbrev Bu8:=@Array.filter_eq_empty_iff
abbrev Bu9:=@Classical.byContradiction
abbrev Bua:=@Int.not_lt
abbrev Bub:=@Nat.not_lt
abbrev Buc:=@Nat.ble_eq
abbrev Bud:=@dif_pos
abbrev Bue:=@false_or
abbrev Buf:=@Nat.mod_eq_of_lt
abbrev Bug:=@Go.callsIn_wide
abbrev Buh:=@List.of_mem_zip
abbrev Bui:=@List.find?_some
abbrev Buj:=@Nat.min_eq_left
abbrev Buk:=@List.forIn_cons
abbrev Bul:=@Int.natCast_add
abbrev Bum:=@Classical.epsilon_spec
abbrev Bun:=@decide_true
abbrev Buo:=@List.drop_of_length_le
abbrev Bup:=@Option.map_eq_none_iff
abbrev Buq:=@Array.getElem?_mapIdx
abbrev Bur:=@List.drop_drop
abbrev Bus:=@Go.wpListIn_plain
abbrev But:=@List.cons_lt_cons_iff
abbrev Buu:=@List.eq_nil_or_concat
abbrev Buv:=@Go.wpIn_block
abbrev Buw:=@List.cons.inj
abbrev Bux:=@List.nil_perm
abbrev Buy:=@Nat.le_of_eq
abbrev Buz:=@Nat.mul_comm
abbrev Bv0:=@and_assoc
abbrev Bv1:=(Int×Int)×UInt8×Int×UInt8×List UInt8×List (Int×Int)
abbrev Bv2:=Nat×(Int×Int)×(Int×Int)×UInt8×Int×UInt8×List UInt8×List (Int×Int)
abbrev Bv3:=Int×Int
abbrev Bv4:=Option (List Bv1×Nat)×Unit
abbrev Bv5:=UInt8×List UInt8×List (List UInt8)
abbrev Bv6:=Int×Unit
abbrev Bv7:=Int×List Bv3
abbrev Bv8:=(List Bv1×Unit)×Unit×Unit×Unit
abbrev Bv9:=List Bv2×Nat
abbrev Bva:=(List Bv7×Unit×Unit×Unit)×Unit
abbrev Bvb:=Option (List Bv3×Nat)×Unit
abbrev Bvc:=Int×Int×Unit
abbrev Bvd:=List Bv7×Option Bv9×Option Bv9×Unit
abbrev Bve:=Int×List Bv5
abbrev Bvf:=List Bv3×Int×Unit
abbrev Bvg:=List Bv1×Unit
abbrev Bvh:=Nat×List Nat×Nat
abbrev Bvi:=List UInt8
abbrev Bvj:=List Bv3
abbrev Bvk:=Bool×Unit
abbrev Bvl:=List Bv1×Int×Unit
abbrev Bvm:=Bv3×List UInt8
abbrev Bvn:=Option (List Bv3×Nat)×Option (List Bv3×Nat)×Unit
abbrev Bvo:=List Bv7×List Bv1
abbrev Bvp:=Bv6×Unit
abbrev Bvq:=Unit×Unit
abbrev Bvr:=Unit×Option Bvd×Int×Unit
namespace Go.Ab
inductive D where
 |sc (v:Value)
 |agg (cs:List D)
 |sl (sz:Nat) (es:List (List D))
 |ep (cs:List D)
 |any (q:Value→Prop)
abbrev D.int(k:IntKind)(n:Int):D:=.sc (.int k n)
abbrev D.bool(b:Bool):D:=.sc (.bool b)
def D.cells:D→A6 D
 |.agg cs=>cs
 |x=>[x]
inductive PK where
 |p (off:Nat)
 |s (off len sz:Nat)
 |m
 |z (b:Bool) (off:Nat)
def PK.val(w:World)(b:Nat):PK→Value→Prop
 |.p off,v=>v = .pointer (some ⟨b,off,none⟩)
 |.s off len sz,v=>∃cap o,len≤cap∧v = .slice (some ⟨b,o,none⟩) len cap∧(cap=0∨o=off)∧∃T c,w.shape? b=some (T,c)∧o+cap*sz≤c
 |.m,v=>v = .map (some b)
 |.z n off,v=>v=cond n (.pointer none) (.pointer (some ⟨b,off,none⟩))
inductive AV where
 |d (x:D)
 |nm (k:Nat) (p:PK)
 |Cv (n:Nat) (sz:Nat) (es:List (List D)) (ty:Option TypeId:=none)
 |tpt (n:Nat) (e:TypeId) (cs:List D)
 |Er (l:List AV)
 |agg (l:List AV)
 |Ek (f:Nat) (Jp:List AV)
@[match_pattern] abbrev AV.ptr (k off:Nat):AV:=.nm k (.p off)
@[match_pattern] abbrev AV.osl (k off len sz:Nat):AV:=.nm k (.s off len sz)
@[match_pattern] abbrev AV.mp (k:Nat):AV:=.nm k .m
def AV.cells:AV→A6 AV
 |.d x=>x.cells.map .d
 |.agg cs=>cs
 |x=>[x]
inductive RD(γ:Nat→Nat)(w:World):D→Value→Prop
 |sc (v:Value):RD γ w (.sc v) v
 |agg (cs:List D) (vs:Array Value):cs.length=vs.size →
   (∀(i:Nat) c v,cs[i]? = some c→vs[i]? = some v→RD γ w c v)→RD γ w (.agg cs) (.agg vs)
 |nil (sz:Nat) (a:Option Addr) (cap:Nat):(a=none→cap=0)→RD γ w (.sl sz []) (.slice a 0 cap)
 |sl (sz:Nat) (es:List (List D)) (b off len cap:Nat):len=es.length→off+es.length*sz≤γ b→es.length≤cap →
   (∀(i:Nat) cs,es[i]? = some cs→cs.length=sz) →
   (∀(i:Nat) cs (j:Nat) c v,es[i]? = some cs→cs[j]? = some c→w.cell? ⟨b,off+i*sz+j,none⟩=some v→RD γ w c v) →
   RD γ w (.sl sz es) (.slice (some ⟨b,off,none⟩) len cap)
 |ep (cs:List D) (b off:Nat):off+cs.length≤γ b →
   (∀(j:Nat) c v,cs[j]? = some c→w.cell? ⟨b,off+j,none⟩=some v→RD γ w c v) →
   RD γ w (.ep cs) (.pointer (some ⟨b,off,none⟩))
 |any (q:Value→Prop) (v:Value):q v→v.oneCell'=true→RD γ w (.any q) v
structure LeD(γ:Nat→Nat)(w:World)(γ':Nat→Nat)(w':World):Prop where
 up:∀b,γ b≤γ' b
 cell:∀b i,i<γ b→w'.cell? ⟨b,i,none⟩=w.cell? ⟨b,i,none⟩
 shape:∀b s,w.shape? b=some s→w'.shape? b=some s
def LeD.refl(γ:Nat→Nat)(w:World):LeD γ w γ w:=⟨fun _=>Bno _,fun _ _ _=>rfl,fun _ _ h=>h⟩
variable{γ γ':Nat→Nat}{w w₁ w₂ w':World}{i n sz b k t d:Nat}{v:Value}{x:AV}{F:A6 Nat}
theorem LeD.trans{γ₁ γ₂:Nat→Nat}(h:LeD γ w γ₁ w₁)(h':LeD γ₁ w₁ γ₂ w₂):LeD γ w γ₂ w₂ :=
 ⟨fun b=>Bop (h.up b) (h'.up b),fun b i hi=>(h'.cell b i (Bp7 hi (h.up b))).trans (h.cell b i hi),fun b s hs=>h'.shape b s (h.shape b s hs)⟩
def A56{j:Nat}(hi:i<n)(hj:j<sz):i*sz+j<n*sz:=by have h1:(i+1)*sz≤n*sz:=Bpn sz hi;rw[Bpx]at h1;omega
def PK.val.mono{p:PK}(h:p.val w b v)(hle:LeD γ w γ' w'):p.val w' b v:=by
 cases p with
 |p off=>exact h
 |m=>exact h
 |z n off=>exact h
 |s off len sz =>obtain⟨cap,o,h1,h2,h0,T,c,h3,h4⟩:=h;exact⟨cap,o,h1,h2,h0,T,c,hle.shape _ _ h3,h4⟩
def RD.mono{x:D}(h:RD γ w x v)(hle:LeD γ w γ' w'):RD γ' w' x v:=by
 induction h with
 |sc v=>exact .sc v
 |agg cs vs hl _ ih=>exact .agg cs vs hl ih
 |nil sz a cap h0=>exact .nil sz a cap h0
 |sl sz es b off len cap hlen hγ Yw Jq _ ih =>refine .sl sz es b off len cap hlen (Bop hγ (hle.up b)) Yw Jq ?_;intro i cs j c v hi hj hv;refine ih i cs j c v hi hj ?_;have h1:i<es.length:=(Bnj.1 hi).1;have h2:j<cs.length:=(Bnj.1 hj).1;rw[Jq i cs hi]at h2;have:=A56 h1 h2;rw[← hle.cell b _ (by omega)];exact hv
 |ep cs b off hγ _ ih =>refine .ep cs b off (Bop hγ (hle.up b)) ?_;intro j c v hj hv;refine ih j c v hj ?_;have h2:j<cs.length:=(Bnj.1 hj).1;rw[← hle.cell b _ (by omega)];exact hv
 |any q v h1 h2=>exact .any q v h1 h2
structure Gh where
 γ:Nat→Nat
 β:Nat→Option (Option Nat)
 ρ:Nat→Nat
 η:Nat→Nat→Option Nat:=fun _ _=>none
def Room(w:World)(b lo hi:Nat):Prop:=∀i,lo≤i→i<hi→(w.cell? ⟨b,i,none⟩).isSome∧w.frozen? ⟨b,i,none⟩=false
def A73(g:Gh)(w:World)(n sz:Nat)(ty:A7 TypeId):Value→Prop
 |.slice (some a) len cap=>∀ob,g.β n=some ob→a.spot=none∧ob=some a.block∧g.γ a.block=a.off+len*sz∧Room w a.block (a.off+len*sz) (a.off+cap*sz) ∧
   (∀e,ty=some e→a.off=0∧∃c,w.shape? a.block=some (e,c))
 |_=>True
def Acd(g:Gh)(w:World)(L i sz:Nat):Value→Prop
 |.slice (some a) len cap=>a.spot=none∧g.η L i=some a.block∧g.γ a.block=a.off+len*sz∧Room w a.block (a.off+len*sz) (a.off+cap*sz)
 |_=>True
def Ah4(g:Gh)(w:World)(n:Nat)(e:TypeId):Value→Prop
 |.pointer (some a)=>a.spot=none∧∀ob,g.β n=some ob→ob=some a.block∧a.off=0∧∃c,w.shape? a.block=some (e,c)
 |_=>True
inductive RA(g:Gh)(w:World):AV→Value→Prop
 |d (x:D) (v:Value):RD g.γ w x v→RA g w (.d x) v
 |nm (k:Nat) (p:PK) (v:Value):p.val w (g.ρ k) v→RA g w (.nm k p) v
 |Cv (n sz:Nat) (es:List (List D)) (ty:Option TypeId) (v:Value):RD g.γ w (.sl sz es) v→A73 g w n sz ty v→RA g w (.Cv n sz es ty) v
 |tpt (n:Nat) (e:TypeId) (cs:List D) (v:Value):RD g.γ w (.ep cs) v→Ah4 g w n e v→RA g w (.tpt n e cs) v
 |Er (l:List AV) (vs:Array Value):l.length=vs.size →
   (∀(i:Nat) x v,l[i]? = some x→vs[i]? = some v→RA g w x v)→RA g w (.Er l) (.tuple vs)
 |agg (l:List AV) (vs:Array Value):l.length=vs.size →
   (∀(i:Nat) x v,l[i]? = some x→vs[i]? = some v→RA g w x v)→RA g w (.agg l) (.agg vs)
 |Ek (f:Nat) (l:List AV) (vs:Array Value):l.length=vs.size →
   (∀(i:Nat) x v,l[i]? = some x→vs[i]? = some v→RA g w x v)→RA g w (.Ek f l) (.func (.func f) #[] vs)
variable{g g':Gh}
theorem RA.ptr(k off:Nat):RA g w (.ptr k off) (.pointer (some ⟨g.ρ k,off,none⟩)):=.nm k _ _ rfl
def RA.Qy{off:Nat}(h:RA g w (.ptr k off) v):v = .pointer (some ⟨g.ρ k,off,none⟩):=by cases h with|nm _ _ _ h=>exact h
def RA.T6{off len:Nat}(h:RA g w (.osl k off len sz) v):∃cap o,len≤cap∧v = .slice (some ⟨g.ρ k,o,none⟩) len cap∧(cap=0∨o=off)∧∃T c,w.shape? (g.ρ k)=some (T,c)∧o+cap*sz≤c:=by cases h with|nm _ _ _ h=>exact h
def RA.A11(h:RA g w (.mp k) v):v = .map (some (g.ρ k)):=by cases h with|nm _ _ _ h=>exact h
inductive Zn(F:List Nat):AV→Prop
 |d (x:D):Zn F (.d x)
 |nm (k:Nat) (p:PK):k∉F→Zn F (.nm k p)
 |Cv (n sz:Nat) (es:List (List D)) (ty:Option TypeId):n∉F→Zn F (.Cv n sz es ty)
 |tpt (n:Nat) (e:TypeId) (cs:List D):n∉F→Zn F (.tpt n e cs)
 |Er (l:List AV):(∀(i:Nat) x,l[i]? = some x→Zn F x)→Zn F (.Er l)
 |agg (l:List AV):(∀(i:Nat) x,l[i]? = some x→Zn F x)→Zn F (.agg l)
 |Ek (f:Nat) (l:List AV):(∀(i:Nat) x,l[i]? = some x→Zn F x)→Zn F (.Ek f l)
mutual
def Gs(F:List Nat):AV→Bool
 |.d _=>true
 |.nm k _=>!F.contains k
 |.Cv n _ _ _=>!F.contains n
 |.tpt n _ _=>!F.contains n
 |.Er l=>C9 F l
 |.agg l=>C9 F l
 |.Ek _ l=>C9 F l
def C9(F:List Nat):List AV→Bool
 |[]=>true
 |x::r=>Gs F x&&C9 F r
end
def Mz{l:A6 AV}(h:C9 F l=true)(hx:l[i]? = some x):Gs F x=true:=by
 induction l generalizing i with
 |nil=>simp at hx
 |cons y r ih =>
  simp only[C9,Boo]at h;cases i with
  |zero=>simp at hx;subst hx;exact h.1
  |succ i=>exact ih h.2 (by simpa using hx)
theorem Qz{F:A6 Nat}:∀ {x:AV},Gs F x=true→Zn F x
 |.d x,_=>.d x
 |.nm k p,h=>.nm k p (by simpa[Gs]using h)
 |.Cv n sz es ty,h=>.Cv n sz es ty (by simpa[Gs]using h)
 |.tpt n e cs,h=>.tpt n e cs (by simpa[Gs]using h)
 |.Er l,h=>.Er l fun i x hx=>by
   have:SizeOf.sizeOf x<SizeOf.sizeOf l:=Bps (Boe hx);exact Qz (Mz (by simpa[Gs]using h) hx)
 |.agg l,h=>.agg l fun i x hx=>by
   have:SizeOf.sizeOf x<SizeOf.sizeOf l:=Bps (Boe hx);exact Qz (Mz (by simpa[Gs]using h) hx)
 |.Ek f l,h=>.Ek f l fun i x hx=>by
   have:SizeOf.sizeOf x<SizeOf.sizeOf l:=Bps (Boe hx);exact Qz (Mz (by simpa[Gs]using h) hx)
termination_by x=>x
theorem Zn.nil(x:AV):Zn [] x:=by
 apply Qz
 suffices h:(∀y:AV,Gs [] y=true)from h x
 intro y
 suffices H:∀n,∀z:AV,SizeOf.sizeOf z≤n→Gs [] z=true from H _ y (Bno _)
 intro n;induction n with
 |zero=>intro z hz;cases z<;>simp at hz
 |succ n ih =>
  have hl:∀l:A6 AV,SizeOf.sizeOf l≤n+1→C9 [] l=true:=by
   intro l;induction l with
   |nil=>intro _;simp[C9]
   |cons a r ihr =>intro hs;simp at hs;simp only[C9,Boo];exact⟨ih a (by omega),ihr (by omega)⟩
  intro z hz;cases z<;>simp at hz<;>simp[Gs]
  ·exact hl _ (by omega)
  ·exact hl _ (by omega)
  ·exact hl _ (by omega)
structure Trans(F:List Nat)(g:Gh)(w:World)(g':Gh)(w':World):Prop where
 le:LeD g.γ w g'.γ w'
 names:∀k,k∉F→g'.ρ k=g.ρ k
 Aov:∀n ob,n∉F→g'.β n=some ob→g.β n=some ob∧∀b,ob=some b→g'.γ b=g.γ b∧w'.heap[b]? = w.heap[b]?
 eta:∀L,L∉F→(g'.β L).isSome→g'.η L=g.η L∧∀i b,g.η L i=some b→g'.γ b=g.γ b∧w'.heap[b]? = w.heap[b]?
theorem Trans.refl(F:A6 Nat)(g:Gh)(w:World):Trans F g w g w:=⟨.refl _ _,fun _ _=>rfl,fun _ _ _ h=>⟨h,fun _ _=>⟨rfl,rfl⟩⟩,fun _ _ _=>⟨rfl,fun _ _ _=>⟨rfl,rfl⟩⟩⟩
theorem Trans.trans{F':A6 Nat}{g₁ g₂:Gh}(h:Trans F g w g₁ w₁)(h':Trans F' g₁ w₁ g₂ w₂):Trans (F++F') g w g₂ w₂ where
 le:=h.le.trans h'.le
 names k hk:=by rw[Bnk,Brm]at hk;rw[h'.names k hk.2,h.names k hk.1]
 Aov n ob hn he:=by rw[Bnk,Brm]at hn;obtain⟨h1,h2⟩:=h'.Aov n ob hn.2 he;obtain⟨h3,h4⟩:=h.Aov n ob hn.1 h1;exact⟨h3,fun b hb=>⟨(h2 b hb).1.trans (h4 b hb).1,(h2 b hb).2.trans (h4 b hb).2⟩⟩
 eta L hL he:=by rw[Bnk,Brm]at hL;obtain⟨h1,h2⟩:=h'.eta L hL.2 he;obtain⟨ob,My⟩:=Boj.1 he;have h3:=(h'.Aov L ob hL.2 My).1;obtain⟨h4,h5⟩:=h.eta L hL.1 (by rw[h3];rfl);refine⟨h1.trans h4,fun i b hb=>?_⟩;obtain⟨a1,a2⟩:=h5 i b hb;obtain⟨a3,a4⟩:=h2 i b (by rw[h4];exact hb);exact⟨a3.trans a1,a4.trans a2⟩
def Gl(h:w'.heap[b]? = w.heap[b]?)(i:Nat)(s:A7 Nat):w'.cell? ⟨b,i,s⟩=w.cell? ⟨b,i,s⟩:=by simp only[World.cell?,h]
def Ag6(h:w'.heap[b]? = w.heap[b]?)(i:Nat)(s:A7 Nat):w'.frozen? ⟨b,i,s⟩=w.frozen? ⟨b,i,s⟩:=by simp only[World.frozen?,h]
def Room.Cc{lo hi:Nat}(h:Room w b lo hi)(hw:w'.heap[b]? = w.heap[b]?):Room w' b lo hi:=by intro i h1 h2;rw[Gl hw,Ag6 hw];exact h i h1 h2
def I2(h:w'.heap[b]? = w.heap[b]?):w'.shape? b=w.shape? b:=by simp only[World.shape?,h]
theorem A73.Cc{ty:A7 TypeId}(h:A73 g w n sz ty v)(ht:Trans F g w g' w')(hn:n∉F):A73 g' w' n sz ty v:=by
 unfold A73 at h⊢;split at h
 ·rename_i a len cap;intro ob My;obtain⟨h1,h2⟩:=ht.Aov n ob hn My;obtain⟨hs,hc⟩:=h ob h1;obtain⟨he,hγ,hr,hty⟩:=hc;obtain⟨h3,h4⟩:=h2 _ he;exact⟨hs,he,by rw[h3];exact hγ,hr.Cc h4,fun e hte=>⟨(hty e hte).1,by rw[I2 h4];exact(hty e hte).2⟩⟩
 ·trivial
theorem Acd.Cc{L:Nat}(h:Acd g w L i sz v)(ht:Trans F g w g' w')(hL:L∉F)(hl:(g'.β L).isSome):Acd g' w' L i sz v:=by
 unfold Acd at h⊢;split at h
 ·obtain⟨h1,h2⟩:=ht.eta L hL hl;obtain⟨a1,a2,a3,a4⟩:=h;obtain⟨b1,b2⟩:=h2 i _ a2;exact⟨a1,by rw[h1];exact a2,by rw[b1];exact a3,a4.Cc b2⟩
 ·trivial
def Ah4.Cc{e:TypeId}(h:Ah4 g w n e v)(ht:Trans F g w g' w')(hn:n∉F):Ah4 g' w' n e v:=by
 unfold Ah4 at h⊢;split at h
 ·refine⟨h.1,fun ob My=>?_⟩;obtain⟨h1,h2⟩:=ht.Aov n ob hn My;obtain⟨h3,h4,h5⟩:=h.2 ob h1;exact⟨h3,h4,by rw[I2 (h2 _ h3).2];exact h5⟩
 ·trivial
theorem RA.mono(h:RA g w x v)(ht:Trans F g w g' w')(hf:Zn F x):RA g' w' x v:=by
 induction h with
 |d x v h=>exact .d x v (h.mono ht.le)
 |nm k p v h =>
  cases hf with
  |nm _ _ hk=>exact .nm k p v (by rw[ht.names k hk];exact h.mono ht.le)
 |Cv n sz es ty v h h2 =>
  cases hf with
  |Cv _ _ _ _ hk=>exact .Cv n sz es ty v (h.mono ht.le) (h2.Cc ht hk)
 |tpt n e cs v h h2 =>
  cases hf with
  |tpt _ _ _ hk=>exact .tpt n e cs v (h.mono ht.le) (h2.Cc ht hk)
 |Er l vs hl _ ih =>
  cases hf with
  |Er _ hx=>exact .Er l vs hl fun i x v h1 h2=>ih i x v h1 h2 (hx i x h1)
 |agg l vs hl _ ih =>
  cases hf with
  |agg _ hx=>exact .agg l vs hl fun i x v h1 h2=>ih i x v h1 h2 (hx i x h1)
 |Ek f l vs hl _ ih =>
  cases hf with
  |Ek _ _ hx=>exact .Ek f l vs hl fun i x v h1 h2=>ih i x v h1 h2 (hx i x h1)
inductive Ob where
 |cells (cs:List AV) (ty:Option TypeId:=none)
 |map (l:List (Nat×Value×D)) (clock:Nat)
 |Vw (s:ByteArray) (pos:Nat)
 |Kn (k since:Nat) (seen:Array Nat) (last:Nat)
 |E5
 |Cx (L sz:Nat) (l:List (Nat×Value×Bool×List (List D))) (clock:Nat)
structure Ad where
 objs:List (Nat×Ob)
 live:List Nat
structure Sig where
 N:Nat
 names:List Nat
 small:∀j∈names,j<1000
structure B8 where
 n0:Nat
 w0:World
 γ0:Nat→Nat
 allowed:Nat→Prop
 Cc:Nat→Nat
inductive Ce(g:Gh)(w:World)(b:Nat):Ob→Prop
 |cells (cs:List AV) (ty:Option TypeId) (arr:Array Value) (T:TypeId):w.heap[b]? = some (.cells arr T (0,0))→cs.length≤arr.size →
   (∀(i:Nat) x v,cs[i]? = some x→arr[i]? = some v→RA g w x v)→(∀t,ty=some t→t=T)→Ce g w b (.cells cs ty)
 |map (l:List (Nat×Value×D)) (clock:Nat) (es:Array MapEntry):w.heap[b]? = some (.map es clock)→l.length=es.size →
   (∀(i:Nat) x e,l[i]? = some x→es[i]? = some e→e.born=x.1∧e.key=x.2.1∧RD g.γ w x.2.2 e.val) →
   (∀p∈l,p.1<clock)→(l.map (·.1)).Nodup→Ce g w b (.map l clock)
 |Vw (s:ByteArray) (pos:Nat):w.heap[b]? = some (.stringIter s pos)→Ce g w b (.Vw s pos)
 |Kn (k since:Nat) (seen:Array Nat) (last:Nat):w.heap[b]? = some (.mapIter (some (g.ρ k)) since seen last)→Ce g w b (.Kn k since seen last)
 |E5:w.heap[b]? = some (.mapIter none 0 #[] 0)→Ce g w b .E5
 |Cx (L sz:Nat) (l:List (Nat×Value×Bool×List (List D))) (clock:Nat) (es:Array MapEntry):w.heap[b]? = some (.map es clock)→l.length=es.size →
   (∀(i:Nat) x e,l[i]? = some x→es[i]? = some e→e.born=x.1∧e.key=x.2.1∧RD g.γ w (.sl sz x.2.2.2) e.val∧(x.2.2.1=true→(g.β L).isSome→Acd g w L x.1 sz e.val)) →
   (∀p∈l,p.1<clock)→(l.map (·.1)).Nodup→Ce g w b (.Cx L sz l clock)
structure J7(B:B8)(g:Gh)(w:World)(X:Ad):Prop where
 inj:∀L L' i i' b,(g.β L).isSome→(g.β L').isSome→g.η L i=some b→g.η L' i'=some b→L=L'∧i=i'
 Cv:∀L i b n,(g.β L).isSome→g.η L i=some b→g.β n≠some (some b)
 obj:∀L i b k o,(g.β L).isSome→g.η L i=some b→X.objs.lookup k=some o→b≠g.ρ k
 new:∀L i b,(g.β L).isSome→g.η L i=some b→B.n0≤b∨B.allowed b
 lt:∀L i b,(g.β L).isSome→g.η L i=some b→b<w.heap.size
variable{B:B8}{X X':Ad}{S:Sig}
def J7.step(h:J7 B g w X)(hη:∀L,(g'.β L).isSome→((g.β L).isSome∧g'.η L=g.η L)∨∀i,g'.η L i=none)(hs:w.heap.size≤w'.heap.size)
  (Ag7:∀n b,g'.β n=some (some b)→(∃m,g.β m=some (some b))∨w.heap.size≤b∨∃k o,X.objs.lookup k=some o∧b=g.ρ k)
  (A2k:∀k o,X'.objs.lookup k=some o→(∃k' o',X.objs.lookup k'=some o'∧g'.ρ k=g.ρ k')∨w.heap.size≤g'.ρ k∨∃m,g.β m=some (some (g'.ρ k))):J7 B g' w' X':=by
 have old:∀L i b,(g'.β L).isSome→g'.η L i=some b→(g.β L).isSome∧g.η L i=some b:=by
  intro L i b hL hb;rcases hη L hL with ⟨h1,h2⟩|h1
  ·exact⟨h1,by rw[← h2];exact hb⟩
  ·rw[h1 i]at hb;cases hb
 refine⟨?_,?_,?_,?_,?_⟩
 ·intro L L' i i' b hL hL' hb Iy;obtain⟨a1,a2⟩:=old L i b hL hb;obtain⟨a3,a4⟩:=old L' i' b hL' Iy;exact h.inj L L' i i' b a1 a3 a2 a4
 ·intro L i b n hL hb hn;obtain⟨a1,a2⟩:=old L i b hL hb;rcases Ag7 n b hn with ⟨m,hm⟩|hle|⟨k,o,hk,he⟩
  ·exact h.Cv L i b m a1 a2 hm
  ·have:=h.lt L i b a1 a2;omega
  ·exact h.obj L i b k o a1 a2 hk he
 ·intro L i b k o hL hb hk he;obtain⟨a1,a2⟩:=old L i b hL hb;rcases A2k k o hk with ⟨k',o',M1,he'⟩|hle|⟨m,hm⟩
  ·exact h.obj L i b k' o' a1 a2 M1 (he.trans he')
  ·have:=h.lt L i b a1 a2;omega
  ·exact h.Cv L i b m a1 a2 (by rw[he];exact hm)
 ·intro L i b hL hb;obtain⟨a1,a2⟩:=old L i b hL hb;exact h.new L i b a1 a2
 ·intro L i b hL hb;obtain⟨a1,a2⟩:=old L i b hL hb;exact Bp7 (h.lt L i b a1 a2) hs
def J7.Ati(h:J7 B g w X)(hη:∀L,(g'.β L).isSome→((g.β L).isSome∧g'.η L=g.η L)∨∀i,g'.η L i=none)(hs:w.heap.size≤w'.heap.size)
  (Ag7:∀n b,g'.β n=some (some b)→∀L i,(g.β L).isSome→g.η L i≠some b)
  (A2k:∀k o,X'.objs.lookup k=some o→∀L i,(g.β L).isSome→g.η L i≠some (g'.ρ k)):J7 B g' w' X':=by
 have old:∀L i b,(g'.β L).isSome→g'.η L i=some b→(g.β L).isSome∧g.η L i=some b:=by
  intro L i b hL hb;rcases hη L hL with ⟨h1,h2⟩|h1
  ·exact⟨h1,by rw[← h2];exact hb⟩
  ·rw[h1 i]at hb;cases hb
 refine⟨?_,?_,?_,?_,?_⟩
 ·intro L L' i i' b hL hL' hb Iy;obtain⟨a1,a2⟩:=old L i b hL hb;obtain⟨a3,a4⟩:=old L' i' b hL' Iy;exact h.inj L L' i i' b a1 a3 a2 a4
 ·intro L i b n hL hb hn;obtain⟨a1,a2⟩:=old L i b hL hb;exact Ag7 n b hn L i a1 a2
 ·intro L i b k o hL hb hk he;obtain⟨a1,a2⟩:=old L i b hL hb;exact A2k k o hk L i a1 (he▸a2)
 ·intro L i b hL hb;obtain⟨a1,a2⟩:=old L i b hL hb;exact h.new L i b a1 a2
 ·intro L i b hL hb;obtain⟨a1,a2⟩:=old L i b hL hb;exact Bp7 (h.lt L i b a1 a2) hs
def J7.B76(h:J7 B g w X)(hn:g.β n=some (some b)):∀L i,(g.β L).isSome→g.η L i≠some b:=fun L i hL hb=>h.Cv L i b n hL hb hn
def J7.B77(h:J7 B g w X){o:Ob}(hk:X.objs.lookup k=some o):∀L i,(g.β L).isSome→g.η L i≠some (g.ρ k):=fun L i hL hb=>h.obj L i _ k o hL hb hk rfl
def J7.ltN(h:J7 B g w X)(hb:w.heap.size≤b):∀L i,(g.β L).isSome→g.η L i≠some b:=fun L i hL he=>by have:=h.lt L i b hL he;omega
def J7.off(h:∀L,g.β L=none):J7 B g w X:=by refine⟨fun L L' i i' b hL=>?_,fun L i b n hL=>?_,fun L i b k o hL=>?_,fun L i b hL=>?_,fun L i b hL=>?_⟩<;>(rw[h L]at hL;cases hL)
def J7.bare(h:∀L i,g.η L i=none):J7 B g w X:=by refine⟨fun L L' i i' b _ _ hb=>?_,fun L i b n _ hb=>?_,fun L i b k o _ hb=>?_,fun L i b _ hb=>?_,fun L i b _ hb=>?_⟩<;>(rw[h L i]at hb;cases hb)
def J7.same(h:J7 B g w X)(hs:w.heap.size≤w'.heap.size)(A2k:∀k o,X'.objs.lookup k=some o→∃o',X.objs.lookup k=some o'):J7 B g w' X' :=
 h.step (fun L hL=>.inl ⟨hL,rfl⟩) hs (fun n b hb=>.inl ⟨n,hb⟩) fun k o hk=>let ⟨o',h'⟩:=A2k k o hk;.inl ⟨k,o',h',rfl⟩
structure HR(nm:List Nat)(B:B8)(g:Gh)(w:World)(X:Ad):Prop where
 Cc:∀k,k∈nm→g.ρ k=B.Cc k∧(X.objs.lookup k).isSome
 Iw:∀b i,i<g.γ b→(w.cell? ⟨b,i,none⟩).isSome
 base:B.n0≤w.heap.size
 io:w.os=B.w0.os∧w.output=B.w0.output∧w.tape=B.w0.tape∧B.w0.drawn≤w.drawn
 le:LeD B.γ0 B.w0 g.γ w
 frame:∀b,b<B.n0→¬B.allowed b→w.heap[b]? = B.w0.heap[b]?∧g.γ b=B.γ0 b
 objs:∀k o,X.objs.lookup k=some o→Ce g w (g.ρ k) o
 Fi:∀k o,X.objs.lookup k=some o→g.γ (g.ρ k)=0
 C1:∀k k' o o',X.objs.lookup k=some o→X.objs.lookup k'=some o'→g.ρ k=g.ρ k'→k=k'
 Cf:∀k o,X.objs.lookup k=some o→B.n0≤g.ρ k∨B.allowed (g.ρ k)
 live:∀n,n∈X.live↔(g.β n).isSome
 Cq:∀n m b,g.β n=some (some b)→g.β m=some (some b)→n=m
 Bz:∀n b k o,g.β n=some (some b)→X.objs.lookup k=some o→b≠g.ρ k
 D0:∀n b,g.β n=some (some b)→B.n0≤b∨B.allowed b
 D9:∀n b,g.β n=some (some b)→b<w.heap.size
 eta:J7 B g w X
def Ca(P:Program)(o:Oper)(rd:A6 (Operand×AV))(X X':Ad)(F:A6 Nat)(res:AV):Prop :=
 ∀(nm:A6 Nat),(∀j∈nm,j<1000)→∀(B:B8) (g:Gh) (w:World) (a:Act),HR nm B g w X→(∀p∈rd,RA g w p.2 (a.eval p.1)) →
  ∀(next:Act→World→Prop) (Q:Exit→Act→World→Prop),
   (∀g' w' v,HR nm B g' w' X'→Trans F g w g' w'→RA g' w' res v→next (a.put o.dst v) w')→o.wp P a w next Q
structure St where
 env:List (Nat×AV)
 X:Ad
def GB:Nat:=1000000
def Zo(a:Act)(t:Nat):A7 Value:=if t<GB then a.tmps[t]? else some (.pointer (some ⟨t-GB,0,none⟩))
variable{a:Act}{st:St}
def Qj(ht:t<GB):Zo a t=a.tmps[t]?:=Bo3 ht
def A7n(k:Nat):Zo a (GB+k)=some (.pointer (some ⟨k,0,none⟩)):=by unfold Zo;rw[Bnv (by omega),Nat.add_sub_cancel_left]
def Amq(h:t≠d):Zo (a.put (some d) v) t=Zo a t:=by simp[Zo,Act.put,Bq5 h]
def Ah6(h:d<a.tmps.size)(hd:d<GB):Zo (a.put (some d) v) d=some v:=by simp[Zo,Act.put,h,hd]
structure SR(S:Sig)(B:B8)(g:Gh)(w:World)(st:St)(a:Act):Prop where
 defers:a.defers=[]
 size:a.tmps.size=S.N
 hr:HR S.names B g w st.X
 env:∀t x,st.env.lookup t=some x→∃v,Zo a t=some v∧RA g w x v
inductive Has(env:List (Nat×AV))(t:Nat):AV→Prop
 |eq (x:AV):env.lookup t=some x→Has env t x
 |Cv (n sz:Nat) (es:List (List D)) (ty:Option TypeId):env.lookup t=some (.Cv n sz es ty)→Has env t (.d (.sl sz es))
 |nil (sz:Nat):env.lookup t=some (.d (.sc (.slice none 0 0)))→Has env t (.d (.sl sz []))
 |le (x y:AV):env.lookup t=some x→(∀(g:Gh) (w:World) (v:Value),RA g w x v→RA g w y v)→Has env t y
def Has.get(h:Has st.env t x)(hs:SR S B g w st a):∃v,Zo a t=some v∧RA g w x v:=by
 cases h with
 |eq _ h=>exact hs.env t _ h
 |Cv n sz es ty h =>
  obtain⟨v,hv,hr⟩:=hs.env t _ h;cases hr with
  |Cv _ _ _ _ _ h _=>exact⟨v,hv,.d _ _ h⟩
 |nil sz h =>
  obtain⟨v,hv,hr⟩:=hs.env t _ h;cases hr with
  |d _ _ h=>cases h;exact⟨_,hv,.d _ _ (.nil sz none 0 fun _=>rfl)⟩
 |le x _ h hle =>obtain⟨v,hv,hr⟩:=hs.env t _ h;exact⟨v,hv,hle g w v hr⟩
inductive Fc(st:St):Operand→AV→Prop
 |tmp (t:Nat) (y:AV):t<GB→Has st.env t y→Fc st (.tmp t) y
 |Ali (k:Nat) (y:AV):Has st.env (GB+k) y→Fc st (.global k) y
 |const (v:Value) (y:D):(∀γ w,RD γ w y v)→Fc st (.const v) (.d y)
 |func (f:Nat):Fc st (.func f) (.Ek f [])
def Fc.ra{x:Operand}{v:AV}(h:Fc st x v)(hs:SR S B g w st a):RA g w v (a.eval x):=by
 cases h with
 |Ali k _ h =>obtain⟨u,hv,hr⟩:=h.get hs;rw[A7n]at hv;cases hv;exact hr
 |tmp t _ ht h =>
  obtain⟨u,hv,hr⟩:=h.get hs;rw[Qj ht]at hv;have:a.eval (.tmp t)=u:=by show a.tmps.getD t undef=u;obtain⟨By,rfl⟩:=Bny.1 hv;simp[Array.getD,By]
  rw[this];exact hr
 |const _ _ h=>exact .d _ _ (h _ _)
 |func f=>exact .Ek f [] #[] rfl (by simp)
def E6(dst:A7 Tmp)(x:AV)(env:A6 (Nat×AV)):A6 (Nat×AV) :=
 match dst with
 |some d=>(d,x)::env
 |none=>env
def Jw(N:Nat):A7 Tmp→Bool
 |some d=>decide (d<N)&&decide (d<GB)
 |none=>true
def Mm(F:A6 Nat)(env:A6 (Nat×AV)):Bool:=F.isEmpty||env.all fun p=>Gs F p.2
def D3{α:Type}{l:A6 (Nat×α)}{x:α}(h:l.lookup k=some x):(k,x)∈l:=by
 induction l with
 |nil=>simp at h
 |cons p r ih =>
  obtain⟨k',y⟩:=p;rw[Bot]at h;split at h
  ·rename_i he;simp at he h;subst he;subst h;exact Bnm
  ·exact Bnl _ (ih h)
def Wa{env:A6 (Nat×AV)}(h:Mm F env=true)(hx:env.lookup t=some x):Zn F x:=by
 unfold Mm at h;rw[Bpc]at h;rcases h with h|h
 ·have:F=[]:=by simpa using h
  subst this;exact .nil x
 ·have:=Bok.1 h _ (D3 hx);exact Qz this
theorem SR.put(h:SR S B g w st a)(ht:Trans F g w g' w')(hF:Mm F st.env=true)
   (hX:HR S.names B g' w' X') {dst:A7 Tmp} (hd:Jw S.N dst=true)   (hv:RA g' w' x v) :
  SR S B g' w' ⟨E6 dst x st.env,X'⟩ (a.put dst v):=by
 cases dst with
 |none =>refine⟨h.defers,h.size,hX,?_⟩;intro t y hy;obtain⟨u,hu,hr⟩:=h.env t y hy;exact⟨u,hu,hr.mono ht (Wa hF hy)⟩
 |some d =>
  have Bhq:d<S.N∧d<GB:=by simpa[Jw]using hd
  refine⟨h.defers,by simp[Act.put,h.size],hX,?_⟩;intro t y hy;simp only[E6,Bot]at hy;by_cases he:t=d
  ·subst he;simp at hy;subst hy;exact⟨v,Ah6 (h.size▸Bhq.1) Bhq.2,hv⟩
  ·have hb:(t==d)=false:=by simpa using he
   rw[hb]at hy;obtain⟨u,hu,hr⟩:=h.env t y hy;exact⟨u,(Amq he).trans hu,hr.mono ht (Wa hF hy)⟩
inductive Guard(ops:Array Oper)(st:St):Option (Nat×Bool)→Bool→Prop
 |none:Guard ops st none true
 |some (j d:Nat) (o:Oper) (Bn5 b:Bool):ops[j]? = some o→o.dst=some d→st.env.lookup d=some (.d (.sc (.bool b)))→Guard ops st (some (j,Bn5)) (b==Bn5)
 |undef (j d:Nat) (o:Oper) (Bn5:Bool):ops[j]? = some o→o.dst=some d→st.env.lookup d=some (.d (.sc Go.undef))→Guard ops st (some (j,Bn5)) false
theorem Guard.wanted{ops:Array Oper}{o:Oper}{b:Bool}(h:Guard ops st o.guard b)(hs:SR S B g w st a) :
  Region.wanted o (yielded ops a.tmps)=b:=by
 unfold Region.wanted;generalize o.guard=og at h;cases h with
 |none=>rfl
 |some j d o Bn5 b ho hd hl =>
  obtain⟨v,hv,hr⟩:=hs.env d _ hl;cases hr with
  |d _ _ hr =>
   cases hr;unfold Zo at hv;split at hv
   ·simp only[yielded,ho,Bnb,hd,hv];cases b<;>cases Bn5<;>rfl
   ·cases hv
 |undef j d o Bn5 ho hd hl =>
  obtain⟨v,hv,hr⟩:=hs.env d _ hl;cases hr with
  |d _ _ hr =>
   cases hr;unfold Zo at hv;split at hv
   ·simp only[yielded,ho,Bnb,hd,hv];rfl
   ·cases hv
inductive Ee(P:Program)(S:Sig)(ops:Array Oper):List Nat→St→St→Prop
 |nil (st:St):Ee P S ops [] st st
 |op {i:Nat} {Bn4:List Nat} {o:Oper} {st Bw:St} {rd:List (Operand×AV)} {X':Ad} {F:List Nat} {res:AV} :
   ops[i]? = some o→Guard ops st o.guard true→(∀p∈rd,Fc st p.1 p.2)→Ca P o rd st.X X' F res→Mm F st.env=true →
   Jw S.N o.dst=true→Ee P S ops Bn4 ⟨E6 o.dst res st.env,X'⟩ Bw→Ee P S ops (i::Bn4) st Bw
 |skip {i:Nat} {Bn4:List Nat} {o:Oper} {st Bw:St} :
   ops[i]? = some o→Guard ops st o.guard false→Jw S.N o.dst=true →
   Ee P S ops Bn4 ⟨E6 o.dst (.d (.sc undef)) st.env,st.X⟩ Bw→Ee P S ops (i::Bn4) st Bw
def AWp(P:Program)(S:Sig)(c:Code)(Q:Exit→St→Prop)(st:St):Prop :=
 ∀B g w a,SR S B g w st a→c.wp P (fun e a' w'=>∃Bw g',Q e Bw∧SR S B g' w' Bw a') a w
section rules
variable{P:Program}{S:Sig}{Q:Exit→St→Prop}{st:St}
def B78(h:Q .normal st):AWp P S .skip Q st:=fun _ g _ _ hs=>wp_skip ⟨st,g,h,hs⟩
def B3q{l:Nat}(h:Q .normal st):AWp P S (.label l) Q st:=fun _ g _ _ hs=>wp_label ⟨st,g,h,hs⟩
def B79{id:Nat}(h:Q (.exit id) st):AWp P S (.exit id) Q st:=fun _ g _ _ hs=>wp_exit ⟨st,g,h,hs⟩
def Bbw(h:Q .ret st):AWp P S .ret Q st:=fun _ g _ _ hs=>wp_ret ⟨st,g,h,hs⟩
def Beg(next:St→Prop)(Q:Exit→St→Prop):Exit→St→Prop
 |.normal,st=>next st
 |e,st=>Q e st
variable{c y:Code}
def A2z{Q':Exit→St→Prop}(h:AWp P S c Q st)(hq:∀e st,Q e st→Q' e st):AWp P S c Q' st:=fun B g w a hs =>Bsn (h B g w a hs) fun _ _ _ ⟨Bw,g',q,s⟩=>⟨Bw,g',hq _ _ q,s⟩
def Agr{x:Code}(h:AWp P S x (Beg (AWp P S y Q) Q) st):AWp P S (.seq x y) Q st:=fun B g w a hs=>by
 refine wp_seq (Bsn (h B g w a hs) ?_);rintro e a' w' ⟨Bw,g',q,s⟩;cases e with
 |normal=>exact q B g' w' a' s
 |_=>exact⟨Bw,g',q,s⟩
def B7a{c:Operand}{x:Code}{b:Bool}(hc:Fc st c (.d (.sc (.bool b))))(ht:b=true→AWp P S x Q st)(hf:b=false→AWp P S y Q st) :
  AWp P S (.cond c x y) Q st:=fun B g w a hs=>by
 have hr:=hc.ra hs;have he:a.eval c = .bool b:=by
  generalize a.eval c=u at hr;cases hr with
  |d _ _ h=>cases h;rfl
 exact wp_cond_split he (fun h=>ht h B g w a hs) (fun h=>hf h B g w a hs)
def Axw(id:Nat)(Q:Exit→St→Prop):Exit→St→Prop
 |.exit id',st=>if id'=id then Q .normal st else Q (.exit id') st
 |e,st=>Q e st
def B3r{id:Nat}(h:AWp P S c (Axw id Q) st):AWp P S (.block id c) Q st:=fun B g w a hs=>by
 refine wp_block (Bsn (h B g w a hs) ?_);rintro e a' w' ⟨Bw,g',q,s⟩;cases e with
 |exit id' =>
  simp only[Axw]at q;simp only[Exit.inBlock];split at q
  ·rw[Bo3 ‹_›];exact⟨Bw,g',q,s⟩
  ·rw[Bnv ‹_›];exact⟨Bw,g',q,s⟩
 |_=>exact⟨Bw,g',q,s⟩
def Ah7(I:Nat→St→Prop)(n:Nat)(h0:I n st)
  (round:∀n st,I n st→AWp P S c (Beg (fun Bw=>∃m,m<n∧I m Bw) Q) st):AWp P S (.loop c) Q st:=fun B g w a hs=>by
 refine wp_loop (P:=P) (fun a w=>∃n g st,I n st∧SR S B g w st a) (fun a w=>Classical.epsilon fun n=>(∃g st,I n st∧SR S B g w st a)∧∀m,(∃g st,I m st∧SR S B g w st a)→n≤m) ⟨n,g,st,h0,hs⟩ ?_;have least:∀(p:Nat→Prop),(∃n,p n)→∃n,p n∧∀m,p m→n≤m:=by
  intro p ⟨n,hn⟩;induction n using Nat.strongRecOn with
  |_ n ih =>
   by_cases hm:∃m,m<n∧p m
   ·obtain⟨m,By,hp⟩:=hm;exact ih m By hp
   ·refine⟨n,hn,fun m hp=>?_⟩;rcases Bpt m n with By|hge
    ·exact(hm ⟨m,By,hp⟩).elim
    ·exact hge
 intro a w hI;have hI':∃n,(∃g st,I n st∧SR S B g w st a):=by obtain⟨n,g,st,h⟩:=hI;exact⟨n,g,st,h⟩
 have Bhr:=Bum (least _ hI');generalize hN:(Classical.epsilon fun n=>(∃g st,I n st∧SR S B g w st a)∧∀m,(∃g st,I m st∧SR S B g w st a)→n≤m)=N at Bhr;obtain⟨⟨g₁,Bhs,hi,Bht⟩,_⟩:=Bhr;refine Bsn (round N Bhs hi B g₁ w a Bht) ?_;rintro e a' w' ⟨Bw,g',q,s⟩;cases e with
 |normal =>obtain⟨m,By,hm⟩:=q;refine⟨⟨m,g',Bw,hm,s⟩,?_⟩;have Bkf:∃n,(∃g st,I n st∧SR S B g w' st a'):=⟨m,g',Bw,hm,s⟩;have Bhu:=Bum (least _ Bkf);exact Nat.lt_of_le_of_lt (Bhu.2 m ⟨g',Bw,hm,s⟩) By
 |_=>exact⟨Bw,g',q,s⟩
structure Axx(nm:List Nat)(st Bw:St):Prop where
 env:∀p∈Bw.env,Has st.env p.1 p.2
 objs:∀p∈Bw.X.objs,st.X.objs.lookup p.1=some p.2
 live:∀n∈Bw.X.live,n∈st.X.live
 Cc:∀k∈nm,(Bw.X.objs.lookup k).isSome
def SR.Ags{Bw:St}(h:SR S B g w st a)(hw:Axx S.names st Bw):∃g',Trans [] g w g' w∧SR S B g' w Bw a:=by
 classical
 let g':Gh:={ g with β:=fun n=>if n∈Bw.X.live then g.β n else none };have ht:Trans [] g w g' w:=by
  refine⟨.refl _ _,fun _ _=>rfl,fun n ob _ he=>?_,fun _ _ _=>⟨rfl,fun _ _ _=>⟨rfl,rfl⟩⟩⟩;simp only[g']at he;split at he
  ·exact⟨he,fun _ _=>⟨rfl,rfl⟩⟩
  ·cases he
 have hβ:∀n ob,g'.β n=some ob→g.β n=some ob:=fun n ob he=>(ht.Aov n ob (by simp) he).1
 refine⟨g',ht,h.defers,h.size,?_,?_⟩
 ·have hr:=h.hr;have hl:∀k o,Bw.X.objs.lookup k=some o→st.X.objs.lookup k=some o:=fun k o hk=>hw.objs _ (D3 hk)
  refine⟨?_,hr.Iw,hr.base,hr.io,hr.le,hr.frame,?_,?_,?_,?_,?_,?_,?_,?_,?_,hr.eta.step (fun L hL=>.inl ⟨?_,rfl⟩) (Bno _) (fun n b hb=>.inl ⟨n,hβ n _ hb⟩) fun k o hk=>.inl ⟨k,o,hl k o hk,rfl⟩⟩
  rotate_right
  ·obtain⟨ob,My⟩:=Boj.1 hL;rw[hβ L ob My];rfl
  ·intro k hk;exact⟨(hr.Cc k hk).1,hw.Cc k hk⟩
  ·intro k o hk;have:=hr.objs k o (hl k o hk);cases this with
   |cells cs ty arr T h1 h2 h3 h4=>exact .cells cs ty arr T h1 h2 (fun i x v hx hv=>(h3 i x v hx hv).mono ht (.nil x)) h4
   |map l clock es h1 h2 h3 h4 h5=>exact .map l clock es h1 h2 h3 h4 h5
   |Vw s pos h1=>exact .Vw s pos h1
   |Kn j since seen last h1=>exact .Kn j since seen last h1
   |E5 h1=>exact .E5 h1
   |Cx L sz l clock es h1 h2 h3 h4 h5 =>
    have h3':∀(i:Nat) x e,l[i]? = some x→es[i]? = some e→e.born=x.1∧e.key=x.2.1∧RD g'.γ w (.sl sz x.2.2.2) e.val∧(x.2.2.1=true→(g'.β L).isSome→Acd g' w L x.1 sz e.val):=by intro i x e hx he;obtain⟨a1,a2,a3,a4⟩:=h3 i x e hx he;refine⟨a1,a2,a3,fun hf hL=>?_⟩;obtain⟨ob,My⟩:=Boj.1 hL;exact a4 hf (by rw[hβ L ob My];rfl)
    exact .Cx L sz l clock es h1 h2 h3' h4 h5
  ·intro k o hk;exact hr.Fi k o (hl k o hk)
  ·intro k k' o o' hk M1 he;exact hr.C1 k k' o o' (hl k o hk) (hl k' o' M1) he
  ·intro k o hk;exact hr.Cf k o (hl k o hk)
  ·intro n;simp only[g'];by_cases hn:n∈Bw.X.live
   ·simp only[hn,Bpz,true_iff];exact(hr.live n).1 (hw.live n hn)
   ·simp[hn]
  ·intro n m b hn hm;exact hr.Cq n m b (hβ n _ hn) (hβ m _ hm)
  ·intro n b k o hn hk;exact hr.Bz n b k o (hβ n _ hn) (hl k o hk)
  ·intro n b hn;exact hr.D0 n b (hβ n _ hn)
  ·intro n b hn;exact hr.D9 n b (hβ n _ hn)
 ·intro t x hx;obtain⟨v,hv,hr⟩:=(hw.env _ (D3 hx)).get h;exact⟨v,hv,hr.mono ht (.nil x)⟩
end rules
end Go.Ab
namespace Go.Ab
def A9e:TypeDesc→Bool
 |.struct _=>true
 |.array _ _=>true
 |_=>false
structure TyI(P:Program)(t:TypeId)(agg:Bool)(sz:Nat):Prop where
 und:∃d,P.underlying t=some d∧A9e d=agg
 info:∃i,P.info? t=some i∧i.size=sz
variable{P:Program}{t u t' e e':TypeId}{agg Bn5:Bool}{sz b k off d j n fo m cap len xc sz' A7r:Nat}{γ fl:Nat→Nat}
def A57(h:TyI P t agg sz)(w:World):(isAgg t).run P w = .ok agg w:=by obtain⟨d,hd,ha⟩:=h.und;unfold isAgg;rw[Boc,Bns hd];subst ha;cases d<;>rfl
variable{i:TypeInfo}{w w':World}
def run_sizeOf(h:P.info? t=some i)(w:World):(sizeOf t).run P w = .ok i.size w:=by simp[sizeOf,typeInfo,h]
def TyI.Zp(h:TyI P t agg sz)(w:World):(sizeOf t).run P w = .ok sz w:=by obtain⟨i,hi,rfl⟩:=h.info;exact run_sizeOf hi w
def addr_add(b off i:Nat):(⟨b,off,none⟩:Addr).add i=⟨b,off+i,none⟩:=by
 unfold Addr.add;split
 ·rename_i h;subst h;rfl
 ·rfl
def J8(h:TyI P t agg sz)(w:World)(b off:Nat)(vs:Array Value)(hl:vs.size=sz)
  (hc:∀(i:Nat) v,vs[i]? = some v→w.cell? ⟨b,off+i,none⟩=some v) (h1:agg=false→sz=1) :
  (loadVar t ⟨b,off,none⟩).run P w = .ok (if agg then .agg vs else vs.getD 0 undef) w:=by
 unfold loadVar;rw[Boc,A57 h,Bo5];cases agg with
 |true =>
  have:=run_loadCells_list (P:=P) w ⟨b,off,none⟩ vs.toList (by
   intro j v hj;rw[addr_add];exact hc j v (by simpa using hj))
  simp only[Bpz,Boc,h.Zp,Bo5];rw[← hl,← Bp2,this];simp
 |false =>
  have h1:=h1 rfl;have h0:0<vs.size:=by omega
  have hc0:=hc 0 vs[0] (by simp[h0]);simp only[Bon,Bpi,run_load];rw[Br0]at hc0;rw[hc0];simp[Array.getD,h0]
def Ah8:A6 AV→A7 (A6 D)
 |[]=>some []
 |.d x::r=>(Ah8 r).map (x :: ·)
 |_::_=>none
def Y3(cs:A6 AV):AV :=
 match Ah8 cs with
 |some ds=>.d (.agg ds)
 |none=>.agg cs
variable{cs xs l args:A6 AV}{vs:Array Value}{nm F ks L ls:A6 Nat}{z v:Value}{res:AV}{ts:Array TypeId}{es fs:A6 (A6 D)}{ty:A7 TypeId}{xb:A7 Addr}{Bn6:A6 Value}{og:A7 (Nat×Bool)}
def B7b{ds:A6 D}(h:Ah8 cs=some ds):cs=ds.map .d:=by
 induction cs generalizing ds with
 |nil=>simp[Ah8]at h;subst h;rfl
 |cons x r ih =>
  cases x with
  |d x =>simp only[Ah8,Bnn]at h;obtain⟨l,hl,rfl⟩:=h;rw[ih hl];rfl
  |_=>simp[Ah8]at h
variable{g:Gh}
def RA.join(hl:cs.length=vs.size)
  (h:∀(i:Nat) x v,cs[i]? = some x→vs[i]? = some v→RA g w x v):RA g w (Y3 cs) (.agg vs):=by
 unfold Y3;split
 ·rename_i ds hd;have:=B7b hd;subst this;refine .d _ _ (.agg ds vs (by simpa using hl) fun i c v hc hv=>?_);have:=h i (.d c) v (by simp[hc]) hv;cases this with
  |d _ _ h=>exact h
 ·exact .agg cs vs hl h
inductive Ah9(P:Program)(X:Ad)(t:TypeId)(k off:Nat):AV→Prop
 |agg (sz:Nat) (cs:List AV) (ty:Option TypeId) (x:AV):TyI P t true sz→X.objs.lookup k=some (.cells cs ty)→off+sz≤cs.length→Y3 ((cs.drop off).take sz)=x→Ah9 P X t k off x
 |one (cs:List AV) (ty:Option TypeId) (x:AV):TyI P t false 1→X.objs.lookup k=some (.cells cs ty)→cs[off]? = some x→Ah9 P X t k off x
def Cg{arr:Array Value}{T:TypeId}{fr:Nat×Nat}(h:w.heap[b]? = some (.cells arr T fr))(i:Nat) :
  w.cell? ⟨b,i,none⟩=arr[i]?:=by simp[World.cell?,h]
variable{B:B8}{X Xc Dg Y X':Ad}
theorem Ah9.run{x:AV}(h:Ah9 P X t k off x)(hr:HR nm B g w X) :
  ∃v,(loadVar t ⟨g.ρ k,off,none⟩).run P w = .ok v w∧RA g w x v:=by
 cases h with
 |agg sz cs ty x ht hk hlen hx =>
  subst hx;cases hr.objs k _ hk with
  |cells _ _ arr T hb hl hc _ =>
   refine⟨.agg (arr.extract off (off+sz)),?_,?_⟩
   ·have:=J8 ht w (g.ρ k) off (arr.extract off (off+sz)) (by simp;omega) (by
     intro i v hv;rw[Cg hb];rw[Brk]at hv;split at hv
     ·exact hv
     ·cases hv) (by simp)
    simpa using this
   ·refine RA.join (by simp;omega) ?_;intro i x v hx hv;rw[Brk]at hv;split at hv
    ·rw[Bow]at hx;split at hx
     ·rw[Bp3]at hx;exact hc _ x v hx hv
     ·cases hx
    ·cases hv
 |one cs ty x ht hk hx =>
  cases hr.objs k _ hk with
  |cells _ _ arr T hb hl hc _ =>
   have By:off<arr.size:=by have:=(Bnj.1 hx).1;omega
   refine⟨arr[off],?_,hc off x _ hx (by simp[By])⟩;have:=J8 ht w (g.ρ k) off #[arr[off]] rfl (by
    intro i v hv;cases i with
    |zero=>simp at hv;subst hv;rw[Br0,Cg hb];simp[By]
    |succ i=>simp at hv) (fun _=>rfl)
   simpa using this
inductive RV(P:Program)(st:St):ResultVar→AV→Prop
 |tmp (t:Nat) (x:AV):t<GB→Has st.env t x→RV P st (.tmp t) x
 |cell (a:Nat) (ty:TypeId) (k off:Nat) (x:AV):a<GB→Has st.env a (.ptr k off)→Ah9 P st.X ty k off x→RV P st (.cell a ty) x
inductive RVs(P:Program)(st:St):List ResultVar→List AV→Prop
 |nil:RVs P st [] []
 |cons (r:ResultVar) (x:AV) (rs:List ResultVar) (xs:List AV):RV P st r x→RVs P st rs xs→RVs P st (r::rs) (x::xs)
def A12:A6 AV→AV
 |[x]=>x
 |l=>.Er l
def Aha(tmps:Array Value)(r:ResultVar):Sem Value :=
 match r with
 |.tmp t=>pure (tmps.getD t undef)
 |.cell c t=>do loadVar t (← asAddr (tmps.getD c undef))
def Axy(fn:Func)(tmps:Array Value):results fn tmps=(do
  let vs ← fn.results.mapM (Aha tmps)
  pure (if h:vs.size=1 then vs[0]else .tuple vs)):=by
 unfold results;congr 1
variable{S:Sig}{st Bw:St}{a:Act}
theorem RV.run{r:ResultVar}{x:AV}(h:RV P st r x)(hs:SR S B g w st a) :
  ∃v,(Aha a.tmps r).run P w = .ok v w∧RA g w x v:=by
 cases h with
 |tmp t _ ht h =>have:=(Fc.tmp t _ ht h).ra hs;exact⟨_,rfl,this⟩
 |cell c ty k off _ ht h hl =>
  have:=(Fc.tmp c _ ht h).ra hs;have he:a.tmps.getD c undef = .pointer (some ⟨g.ρ k,off,none⟩):=by have h1:a.eval (.tmp c)=a.tmps.getD c undef:=rfl;rw[h1]at this;exact this.Qy
  obtain⟨v,hv,Xt⟩:=hl.run hs.hr;refine⟨v,?_,Xt⟩;simp only[Aha,he,asAddr];simp[hv]
theorem RVs.run{rs:A6 ResultVar}(h:RVs P st rs xs)(hs:SR S B g w st a) :
  ∃vs:A6 Value,(rs.mapM (Aha a.tmps)).run P w = .ok vs w ∧
   xs.length=vs.length∧∀(i:Nat) x v,xs[i]? = some x→vs[i]? = some v→RA g w x v:=by
 induction h with
 |nil=>exact⟨[],rfl,rfl,by simp⟩
 |cons r x rs xs h _ ih =>
  obtain⟨v,hv,hx⟩:=h.run hs;obtain⟨vs,Qx,hl,hxs⟩:=ih;refine⟨v::vs,?_,by simp[hl],?_⟩
  ·rw[List.mapM_cons,Boc,hv,Bo5,Boc,Qx,Bo5];rfl
  ·intro i y u hy hu;cases i with
   |zero=>simp at hy hu;subst hy;subst hu;exact hx
   |succ i=>exact hxs i y u (by simpa using hy) (by simpa using hu)
def Qk{fn:Func}(h:RVs P st fn.results.toList xs)(hs:SR S B g w st a) :
  ∃v,(results fn a.tmps).run P w = .ok v w∧RA g w (A12 xs) v:=by
 obtain⟨vs,Qx,hl,hxs⟩:=h.run hs;have hm:(fn.results.mapM (Aha a.tmps)).run P w = .ok vs.toArray w:=by rw[Bu7,Sem.run_map,Qx];rfl
 refine⟨if h:vs.toArray.size=1 then vs.toArray[0]else .tuple vs.toArray,?_,?_⟩
 ·rw[Axy,Boc,hm];rfl
 ·cases vs with
  |nil =>
   cases xs with
   |nil=>exact .Er [] #[] rfl (by simp)
   |cons _ _=>simp at hl
  |cons v0 vs =>
   cases xs with
   |nil=>simp at hl
   |cons x0 xs =>
    cases vs with
    |nil =>
     cases xs with
     |nil=>exact hxs 0 x0 v0 rfl rfl
     |cons _ _=>simp at hl
    |cons v1 vs =>
     cases xs with
     |nil=>simp at hl
     |cons x1 xs =>
      have:¬((v0::v1::vs).toArray.size=1):=by simp
      rw[dif_neg this];exact .Er _ _ (by simpa using hl) (by intro i x v hx hv;exact hxs i x v hx (by simpa using hv))
def B8.of(g:Gh)(w:World)(X:Ad):B8 :=
 {n0:=w.heap.size,w0:=w,γ0:=g.γ,allowed:=fun b=>(∃k o,X.objs.lookup k=some o∧g.ρ k=b)∨∃n,g.β n=some (some b),Cc:=g.ρ }
def Does(P:Program)(f:FuncId)(args:A6 AV)(X:Ad)(res:AV)(X':Ad):Prop :=
 ∀(g:Gh) (w:World) (vs:Array Value),HR (X.objs.map (·.1)) (B8.of g w X) g w X→args.length=vs.size →
  (∀(i:Nat) x v,args[i]? = some x→vs[i]? = some v→RA g w x v) →
  Calls P f vs w fun e w'=>∃g' v,e = .returned v∧RA g' w' res v∧HR (X.objs.map (·.1)) (B8.of g w X) g' w' X'
def X0:Ad:=⟨[],[]⟩
def A30:Nat→A6 AV→A6 (Nat×AV)
 |_,[]=>[]
 |n,x::r=>(n,x)::A30 (n+1) r
def R0:∀ {n t:Nat} {x:AV},(A30 n l).lookup t=some x→n≤t∧l[t-n]? = some x:=by
 induction l with
 |nil=>intro n t x h;simp[A30]at h
 |cons y r ih =>
  intro n t x h;simp only[A30,Bot]at h;split at h
  ·rename_i he;simp at he h;subst he;subst h;simp
  ·have ⟨h1,h2⟩:=ih h;refine⟨by omega,?_⟩;rw[show t-n=(t-(n+1))+1 by omega];simpa using h2
inductive Bhv(P:Program)(nm:List Nat)(fn:Func)(res:AV)(X':Ad):Exit→St→Prop
 |ret (st:St) (xs:List AV):RVs P st fn.results.toList xs→A12 xs=res→Axx nm st ⟨[],X'⟩→Bhv P nm fn res X' .ret st
 |normal (st:St) (xs:List AV):RVs P st fn.results.toList xs→A12 xs=res→Axx nm st ⟨[],X'⟩→Bhv P nm fn res X' .normal st
def Zn.all(x:AV)(F:A6 Nat)(h:F=[]):Zn F x:=by subst h;exact .nil x
section
variable{P:Program}{o:Oper}{X:Ad}
variable{r:A6 (Operand×AV)}{s:TypeId}
def Lz{R:Operand×AV→Prop}{x:Operand×AV}(h:∀p∈x::r,R p):R x:=h _ Bnm
def rd1{R:Operand×AV→Prop}{x y:Operand×AV}(h:∀p∈x::y::r,R p):R y:=h _ (Bnl _ Bnm)
def rd2{R:Operand×AV→Prop}{x y z:Operand×AV}(h:∀p∈x::y::z::r,R p):R z:=h _ (Bnl _ (Bnl _ Bnm))
def Ca.quiet{rd:A6 (Operand×AV)}
  (h:∀(nm:A6 Nat) (B:B8) (g:Gh) (w:World) (a:Act),HR nm B g w X→(∀p∈rd,RA g w p.2 (a.eval p.1)) →
   ∃v,(execOp a.eval o).run P w = .ok (.value v) w∧RA g w res v):Ca P o rd X X [] res:=by
 intro nm G3 B g w a hr Bg next Q hn
 obtain⟨v,hv,Xt⟩:=h nm B g w a hr Bg;unfold Oper.wp;rw[hv];exact hn g w v hr (.refl _ _ _) Xt
def RA.Be{u:Value}(h:RA g w (.d (.sc u)) v):v=u:=by
 cases h with
 |d _ _ h=>cases h;rfl
def RA.Jz(g:Gh)(w:World)(v:Value):RA g w (.d (.sc v)) v:=.d _ _ (.sc v)
variable{x y c lo hi:Operand}
def Bbx{v:AV}(ho:o.op = .move x):Ca P o [(x,v)] X X [] v :=
 .quiet fun _ _ _ w a _ Bg=>⟨a.eval x,by simp[execOp,ho],Lz Bg⟩
def B3s{v:AV}(ho:o.op = .assign x):Ca P o [(x,v)] X X [] v :=
 .quiet fun _ _ _ w a _ Bg=>⟨a.eval x,by simp[execOp,ho],Lz Bg⟩
def Aow{u:AV}(ho:o.op = .pick c x y):Ca P o [(c,.d (.sc (.bool true))),(x,u)] X X [] u :=
 .quiet fun _ _ g w a _ Bg=>by
  have h1:=(Lz Bg).Be;have h2:=rd1 Bg;exact⟨a.eval x,by simp[execOp,ho,h1,asBool],h2⟩
def Alj{v:AV}(ho:o.op = .pick c x y):Ca P o [(c,.d (.sc (.bool false))),(y,v)] X X [] v :=
 .quiet fun _ _ g w a _ Bg=>by
  have h1:=(Lz Bg).Be;have h3:=rd1 Bg;exact⟨a.eval y,by simp[execOp,ho,h1,asBool],h3⟩
def Ahb:BinOp→IntKind→Int→Int→A7 Value
 |.add,k,a,b=>some (.int k (k.wrap (a+b)))
 |.sub,k,a,b=>some (.int k (k.wrap (a-b)))
 |.mul,k,a,b=>some (.int k (k.wrap (a*b)))
 |.eql,_,a,b=>some (.bool (a==b))
 |.neq,_,a,b=>some (.bool (a != b))
 |.lss,_,a,b=>some (.bool (decide (a<b)))
 |.leq,_,a,b=>some (.bool (decide (a≤b)))
 |.gtr,_,a,b=>some (.bool (decide (b<a)))
 |.geq,_,a,b=>some (.bool (decide (b≤a)))
 |.and,k,a,b=>some (.int k (bits .and k a b))
 |.or,k,a,b=>some (.int k (bits .or k a b))
 |.xor,k,a,b=>some (.int k (bits .xor k a b))
 |_,_,_,_=>none
def Axz{op:BinOp}{k:IntKind}{a b:Int}(h:Ahb op k a b=some v)(t:TypeId)(x y:Operand)(w:World) :
  (do eqGuard op t x y (.int k a) (.int k b);binOp op t (.int k a) (.int k b):Sem Value).run P w = .ok v w:=by
 have hg:eqGuard op t x y (.int k a) (.int k b)=pure ():=by cases op<;>rfl
 rw[hg];cases op<;>simp[Ahb]at h<;>subst h<;>simp[binOp,Op.intArith,Op.intCmp,intBits_and,intBits_or,intBits_xor]
def B7c{op:BinOp}{k:IntKind}{a b:Int}(ho:o.op = .binOp op t x y t')(h:Ahb op k a b=some v) :
  Ca P o [(x,.d (.sc (.int k a))),(y,.d (.sc (.int k b)))] X X [] (.d (.sc v)) :=
 .quiet fun _ _ g w ac _ Bg=>by
  have h1:=(Lz Bg).Be;have h2:=(rd1 Bg).Be;simp only at h1 h2;refine⟨v,?_,.Jz _ _ _⟩;have:=Axz (P:=P) h t x y w;simp only[execOp,ho,h1,h2];rw[Boc,this];rfl
def Ay0{a b:ByteArray}(ho:o.op = .binOp .add t x y t')(h:a.size+b.size≤4611686018427387904) :
  Ca P o [(x,.d (.sc (.string a))),(y,.d (.sc (.string b)))] X X [] (.d (.sc (.string (a++b)))) :=
 .quiet fun _ _ g w ac _ Bg=>by
  have h1:=(Lz Bg).Be;have h2:=(rd1 Bg).Be;simp only at h1 h2;refine⟨_,?_,.Jz _ _ _⟩;have hg:eqGuard .add t x y (.string a) (.string b)=pure ():=rfl;have hb:¬(((a.size+b.size:Nat):Int)>i64.max):=by rw[IntKind.max_i64];omega
  simp only[execOp,ho,h1,h2,hg];simp only[binOp,Op.stringOp];rw[Bnv hb];rfl
def Atj{a b:Bool}(ho:o.op = .binOp .eql t x y t')(ht:P.underlying t=some .bool) :
  Ca P o [(x,.d (.sc (.bool a))),(y,.d (.sc (.bool b)))] X X [] (.d (.sc (.bool (a==b)))) :=
 .quiet fun _ _ g w ac _ Bg=>by
  have h1:=(Lz Bg).Be;have h2:=(rd1 Bg).Be;simp only at h1 h2;refine⟨_,?_,.Jz _ _ _⟩;have hg:eqGuard .eql t x y (.bool a) (.bool b)=pure ():=rfl;simp only[execOp,ho,h1,h2,hg];simp[run_eql_bool w t a b ht]
def Atk{a b:Bool}(ho:o.op = .binOp .neq t x y t')(ht:P.underlying t=some .bool) :
  Ca P o [(x,.d (.sc (.bool a))),(y,.d (.sc (.bool b)))] X X [] (.d (.sc (.bool (!(a==b))))) :=
 .quiet fun _ _ g w ac _ Bg=>by
  have h1:=(Lz Bg).Be;have h2:=(rd1 Bg).Be;simp only at h1 h2;refine⟨_,?_,.Jz _ _ _⟩;have hg:eqGuard .neq t x y (.bool a) (.bool b)=pure ():=rfl;simp only[execOp,ho,h1,h2,hg];simp[run_neq_bool w t a b ht]
def Bfe{b:Bool}(ho:o.op = .unOp .not t x):Ca P o [(x,.d (.sc (.bool b)))] X X [] (.d (.sc (.bool (!b)))) :=
 .quiet fun _ _ g w ac _ Bg=>by
  have h1:=(Lz Bg).Be;simp only at h1;exact⟨.bool (!b),by simp[execOp,ho,h1,Op.unary],.Jz _ _ _⟩
def Aen{d:TypeId}{j k:IntKind}{n:Int}(ho:o.op = .convert s d x)(hs:(P.underlying s).isSome=true)(hd:P.underlying d=some (.int k)) :
  Ca P o [(x,.d (.sc (.int j n)))] X X [] (.d (.sc (.int k (k.wrap n)))) :=
 .quiet fun _ _ g w ac _ Bg=>by
  have h1:=(Lz Bg).Be;simp only at h1;refine⟨_,?_,.Jz _ _ _⟩;obtain⟨ds,hds⟩:=Boj.1 hs;simp only[execOp,ho,h1,convert];simp only[Boc,Bns hds,Bns hd,Bo5];cases ds<;>simp[Conv.intToInt]
def A9f(ho:o.op = .call { callee:=.builtin .len,args:=#[x],argTypes:=ts })
  (h0:ts[0]? = some t) (ht:P.underlying t=some (.slice e)):Ca P o [(x,.d (.sl sz es))] X X [] (.d (.sc (.int .i64 es.length))) :=
 .quiet fun _ _ g w ac _ Bg=>by
  have h1:=Lz Bg;simp only at h1;refine⟨.int .i64 es.length,?_,.Jz _ _ _⟩;simp only[execOp,ho,resolve];generalize hu:ac.eval x=u at h1;cases h1 with
  |d _ _ h1 =>
   cases h1 with
   |nil=>simp[hu,invoke,builtin,Builtin.len_,h0,Bns ht,goInt]
   |sl _ _ b off len cap hl=>subst hl;simp[hu,invoke,builtin,Builtin.len_,h0,Bns ht,goInt]
def Ay1{s:ByteArray}(ho:o.op = .call { callee:=.builtin .len,args:=#[x],argTypes:=ts })
  (h0:ts[0]? = some t) (ht:P.underlying t=some .string):Ca P o [(x,.d (.sc (.string s)))] X X [] (.d (.sc (.int .i64 s.size))) :=
 .quiet fun _ _ g w ac _ Bg=>by
  have h1:=(Lz Bg).Be;simp only at h1;refine⟨.int .i64 s.size,?_,.Jz _ _ _⟩;simp only[execOp,ho,resolve];simp[h1,invoke,builtin,Builtin.len_,h0,Bns ht,goInt]
def Bff{k:IntKind}{a b:Int}(ho:o.op = .call { callee:=.builtin .max,args:=#[x,y],argTypes:=ts }) :
  Ca P o [(x,.d (.sc (.int k a))),(y,.d (.sc (.int k b)))] X X [] (.d (.sc (.int k (if b>a then b else a)))) :=
 .quiet fun _ _ g w ac _ Bg=>by
  have h1:=(Lz Bg).Be;have h2:=(rd1 Bg).Be;simp only at h1 h2;refine⟨_,?_,.Jz _ _ _⟩;simp only[execOp,ho,resolve];have:=run_max_int2 (P:=P) w ts o.type k k a b;simp[h1,h2,invoke,builtin,this]
def Ay2{i:Nat}{v:AV}(ho:o.op = .extract x i)(h:l[i]? = some v):Ca P o [(x,.Er l)] X X [] v :=
 .quiet fun _ _ g w ac _ Bg=>by
  have h1:=Lz Bg;simp only at h1;simp only[execOp,ho];generalize ac.eval x=u at h1;cases h1 with
  |Er _ vs hl hx =>
   have By:i<vs.size:=by have:=(Bnj.1 h).1;omega
   refine⟨vs[i],?_,hx i v _ h (by simp[By])⟩;simp[Instr.extract,By]
def Aox{s:ByteArray}{k:IntKind}{i:Int}(ho:o.op = .index t x y)(ht:P.underlying t=some .string)(h0:0≤i)(h1:i<s.size) :
  Ca P o [(x,.d (.sc (.string s))),(y,.d (.sc (.int k i)))] X X [] (.d (.sc (.int .u8 ((s.data.toList.getD i.toNat 0).toNat:Int)))) :=
 .quiet fun _ _ g w ac _ Bg=>by
  have e1:=(Lz Bg).Be;have e2:=(rd1 Bg).Be;simp only at e1 e2;refine⟨_,?_,.Jz _ _ _⟩;have By:i.toNat<s.size:=by omega
  have hb:=ByteArray.getElem?_lt' s i.toNat By;have he:s[i.toNat]=s.data.toList.getD i.toNat 0:=by have Bkg:i.toNat<s.data.size:=By;rw[Bqu,Bpd,Bob Bkg];rfl
  simp only[execOp,ho,e1,e2,Instr.index];simp[asIntOf,Bns ht,h0,hb,he]
variable{h:Int}
def Aoy{s:ByteArray}{k k':IntKind}{l:Int}(ho:o.op = .slice t x (some lo) (some hi) none)(ht:P.underlying t=some .string)
  (h0:0≤l) (h1:l≤h) (h2:h≤s.size) :
  Ca P o [(x,.d (.sc (.string s))),(lo,.d (.sc (.int k l))),(hi,.d (.sc (.int k' h)))] X X [] (.d (.sc (.string (s.extract l.toNat h.toNat)))) :=
 .quiet fun _ _ g w ac _ Bg=>by
  have e1:=(Lz Bg).Be;have e2:=(rd1 Bg).Be;have e3:=(rd2 Bg).Be;simp only at e1 e2 e3;refine⟨_,?_,.Jz _ _ _⟩;have g1:0≤h:=by omega
  simp only[execOp,ho,Bol,Bro,e1,e2,e3];simp[Bsv w t _ _ _ _ ht,Instr.slice,Bns ht,Instr.sliceBounds,Instr.sliceBound,asIntOf,h0,h2,g1];intro Bmp;omega
def Ag8{s:ByteArray}{k:IntKind}{l:Int}(ho:o.op = .slice t x (some lo) none none)(ht:P.underlying t=some .string)
  (h0:0≤l) (h1:l≤s.size) :
  Ca P o [(x,.d (.sc (.string s))),(lo,.d (.sc (.int k l)))] X X [] (.d (.sc (.string (s.extract l.toNat s.size)))) :=
 .quiet fun _ _ g w ac _ Bg=>by
  have e1:=(Lz Bg).Be;have e2:=(rd1 Bg).Be;simp only at e1 e2;refine⟨_,?_,.Jz _ _ _⟩;simp only[execOp,ho,Bol,Bro,e1,e2];simp[Bsv w t _ _ _ _ ht,Instr.slice,Bns ht,Instr.sliceBounds,Instr.sliceBound,asIntOf,h0,h1]
def Ag9{s:ByteArray}{k:IntKind}(ho:o.op = .slice t x none (some hi) none)(ht:P.underlying t=some .string)
  (h0:0≤h) (h1:h≤s.size) :
  Ca P o [(x,.d (.sc (.string s))),(hi,.d (.sc (.int k h)))] X X [] (.d (.sc (.string (s.extract 0 h.toNat)))) :=
 .quiet fun _ _ g w ac _ Bg=>by
  have e1:=(Lz Bg).Be;have e2:=(rd1 Bg).Be;simp only at e1 e2;refine⟨_,?_,.Jz _ _ _⟩;simp only[execOp,ho,Bol,Bro,e1,e2];simp[Bsv w t _ _ _ _ ht,Instr.slice,Bns ht,Instr.sliceBounds,Instr.sliceBound,asIntOf,h0,h1]
def Aoz{cs:A6 D}{k:IntKind}{i:Int}{info:TypeInfo}(ho:o.op = .indexAddr t x y)
  (ht:P.underlying t=some (.slice e)) (hi:P.info? e=some info) (Jq:info.size=sz) (h0:0≤i) (h1:es[i.toNat]? = some cs) :
  Ca P o [(x,.d (.sl sz es)),(y,.d (.sc (.int k i)))] X X [] (.d (.ep cs)) :=
 .quiet fun _ _ g w ac _ Bg=>by
  have e1:=Lz Bg;have e2:=(rd1 Bg).Be;simp only at e1 e2;simp only[execOp,ho,e2];generalize ac.eval x=u at e1;cases e1 with
  |d _ _ e1 =>
   have By:=(Bnj.1 h1).1;cases e1 with
   |nil=>simp at By
   |sl _ _ b off len cap hl hγ Yw hs hc =>
    subst hl;have hil:i<es.length:=by omega
    refine⟨.pointer (some ⟨b,off+i.toNat*sz,none⟩),?_,.d _ _ (.ep cs b _ ?_ ?_)⟩
    ·simp[Instr.indexAt,asIntOf,Bns ht,h0,hil,sizeOf,typeInfo,hi,Jq,addr_add]
    ·rw[hs _ _ h1];have:(i.toNat+1)*sz≤es.length*sz:=Bpn sz By;rw[Bpx]at this;omega
    ·intro j c v hj hv;exact hc i.toNat cs j c v h1 hj (by rw[Bqa]at hv⊢;exact hv)
def Aeo{cs:A6 D}(ho:o.op = .load t x)(ht:TyI P t true sz)(hl:sz≤cs.length)(Beh:True) :
  Ca P o [(x,.d (.ep cs))] X X [] (.d (.agg (cs.take sz))) :=
 .quiet fun _ _ g w ac hr Bg=>by
  have e1:=Lz Bg;simp only at e1;simp only[execOp,ho];generalize ac.eval x=u at e1;cases e1 with
  |d _ _ e1 =>
   cases e1 with
   |ep _ b off hγ hc =>
    have hex:∀i,i<sz→∃v,w.cell? ⟨b,off+i,none⟩=some v:=fun i hi=>Boj.1 (hr.Iw b (off+i) (by omega))
    let vs:Array Value:=(Array.range sz).map fun i=>(w.cell? ⟨b,off+i,none⟩).getD undef
    have Qx:∀(i:Nat) v,vs[i]? = some v→w.cell? ⟨b,off+i,none⟩=some v:=by
     intro i v hv;have hi:i<sz:=by have:=(Bny.1 hv).1;simpa[vs]using this
     obtain⟨u,hu⟩:=hex i hi;simp[vs,hi,hu]at hv;rw[hu,hv]
    have Fj:=J8 ht w b off vs (by simp[vs]) Qx (by simp);refine⟨.agg vs,?_,.d _ _ (.agg _ vs (by simp[vs];omega) ?_)⟩
    ·simp only[Instr.loadAt,Instr.sureAddr];simp[Fj]
    ·intro i c v hi hv;rw[Bow]at hi;split at hi
     ·exact hc i c v hi (Qx i v hv)
     ·cases hi
def Aep{c:D}{cs:A6 D}(ho:o.op = .load t x)(ht:TyI P t false 1) :
  Ca P o [(x,.d (.ep (c::cs)))] X X [] (.d c) :=
 .quiet fun _ _ g w ac hr Bg=>by
  have e1:=Lz Bg;simp only at e1;simp only[execOp,ho];generalize ac.eval x=u at e1;cases e1 with
  |d _ _ e1 =>
   cases e1 with
   |ep _ b off hγ hc =>
    simp at hγ;obtain⟨v,hv⟩:=Boj.1 (hr.Iw b off (by omega));have Fj:=J8 ht w b off #[v] rfl (by
     intro i u hu;cases i with
     |zero=>simp at hu;subst hu;exact hv
     |succ i=>simp at hu) (fun _=>rfl)
    refine⟨v,?_,.d _ _ (hc 0 c v rfl hv)⟩;simp only[Instr.loadAt,Instr.sureAddr];simp[Fj]
def Y4{v:AV}(ho:o.op = .load t x)(hl:Ah9 P X t k off v):Ca P o [(x,.ptr k off)] X X [] v :=
 .quiet fun _ _ g w ac hr Bg=>by
  have e1:=Lz Bg;simp only at e1;obtain⟨u,hu,Xt⟩:=hl.run hr;refine⟨u,?_,Xt⟩;simp only[execOp,ho];rw[e1.Qy];simp only[Instr.loadAt,Instr.sureAddr];simp[hu]
def A31{f:Field}(hi:P.info? f.type=some i)(h0:i.size≠0)(b off:Nat)(w:World) :
  (fieldPlace ⟨b,off,none⟩ f).run P w = .ok ⟨b,off+f.offset,none⟩ w:=by
 simp[fieldPlace,run_sizeOf hi,h0,addr_add]
structure Ahc(P:Program)(s:TypeId)(n off sz:Nat)(agg:Bool):Prop where
 fld:∃fs f,P.underlying s=some (.struct fs)∧fs[n]? = some f∧f.offset=off∧TyI P f.type agg sz
 pos:sz≠0
def Zq(ho:o.op = .fieldAddr s x n)(hf:Ahc P s n fo sz agg) :
  Ca P o [(x,.ptr k off)] X X [] (.ptr k (off+fo)) :=
 .quiet fun _ _ g w ac hr Bg=>by
  have e1:=Lz Bg;simp only at e1;obtain⟨fs,f,hs,hn,rfl,ht⟩:=hf.fld;obtain⟨i,hi,Jq⟩:=ht.info;refine⟨.pointer (some ⟨g.ρ k,off+f.offset,none⟩),?_,.ptr k _⟩;simp only[execOp,ho];rw[e1.Qy];simp[Instr.fieldAt,Bns hs,hn,Instr.sureAddr,A31 hi (by rw[Jq];exact hf.pos)]
def Aga{cs:A6 D}(ho:o.op = .fieldAddr s x n)(hf:Ahc P s n fo sz agg)(hl:fo≤cs.length) :
  Ca P o [(x,.d (.ep cs))] X X [] (.d (.ep (cs.drop fo))) :=
 .quiet fun _ _ g w ac hr Bg=>by
  have e1:=Lz Bg;simp only at e1;obtain⟨fs,f,hs,hn,rfl,ht⟩:=hf.fld;obtain⟨i,hi,Jq⟩:=ht.info;simp only[execOp,ho];generalize ac.eval x=z at e1;cases e1 with
  |d _ _ e1 =>
   cases e1 with
   |ep _ b off hγ hc =>
    refine⟨.pointer (some ⟨b,off+f.offset,none⟩),?_,.d _ _ (.ep _ b _ ?_ ?_)⟩
    ·simp[Instr.fieldAt,Bns hs,hn,Instr.sureAddr,A31 hi (by rw[Jq];exact hf.pos)]
    ·simp;omega
    ·intro j c v hj hv;rw[Bp3]at hj;exact hc _ c v hj (by rw[← Bqa];exact hv)
def Ap0{cs:A6 D}{c:D}(ho:o.op = .field s x n)(hf:Ahc P s n fo 1 false)(hc:cs[fo]? = some c) :
  Ca P o [(x,.d (.agg cs))] X X [] (.d c) :=
 .quiet fun _ _ g w ac hr Bg=>by
  have e1:=Lz Bg;simp only at e1;obtain⟨fs,f,hs,hn,rfl,ht⟩:=hf.fld;simp only[execOp,ho];generalize ac.eval x=z at e1;cases e1 with
  |d _ _ e1 =>
   cases e1 with
   |agg _ vs hl h =>
    have By:f.offset<vs.size:=by have:=(Bnj.1 hc).1;omega
    refine⟨vs[f.offset],?_,.d _ _ (h _ c _ hc (by simp[By]))⟩;simp[Instr.field,Bns hs,hn,part,A57 ht,asAgg,By]
def Ap1{cs:A6 D}(ho:o.op = .field s x n)(hf:Ahc P s n fo sz true)(hl:fo+sz≤cs.length) :
  Ca P o [(x,.d (.agg cs))] X X [] (.d (.agg ((cs.drop fo).take sz))) :=
 .quiet fun _ _ g w ac hr Bg=>by
  have e1:=Lz Bg;simp only at e1;obtain⟨fs,f,hs,hn,rfl,ht⟩:=hf.fld;simp only[execOp,ho];generalize ac.eval x=z at e1;cases e1 with
  |d _ _ e1 =>
   cases e1 with
   |agg _ vs hlen h =>
    refine⟨.agg (vs.extract f.offset (f.offset+sz)),?_,.d _ _ (.agg _ _ (by simp;omega) ?_)⟩
    ·simp[Instr.field,Bns hs,hn,part,A57 ht,asAgg,ht.Zp]
    ·intro i c v hi hv;rw[Brk]at hv;split at hv
     ·rw[Bow]at hi;split at hi
      ·rw[Bp3]at hi;exact h _ c v hi hv
      ·cases hi
     ·cases hv
def Agb(ho:o.op = .nilCheck x):Ca P o [(x,.ptr k off)] X X [] (.ptr k off) :=
 .quiet fun _ _ g w ac hr Bg=>by
  have e1:=Lz Bg;simp only at e1;simp only[execOp,ho];rw[e1.Qy];exact⟨_,rfl,.ptr k off⟩
end
def O3{α:Type}(f:Nat→α)(k:Nat)(x:α):Nat→α:=fun j=>if j=k then x else f j
def Ah{α:Type}(f:Nat→α)(k:Nat)(x:α):O3 f k x k=x:=by simp[O3]
def Ai{α:Type}(f:Nat→α)(x:α)(h:j≠k):O3 f k x j=f j:=by simp[O3,h]
def J9(w:World)(o:Obj)(h:b<w.heap.size):(w.alloc o).heap[b]? = w.heap[b]?:=heap_alloc_old w o (h:=h)
def γ_lt(h:HR nm B g w X)(hb:0<g.γ b):b<w.heap.size:=by obtain⟨v,hv⟩:=Boj.1 (h.Iw b 0 hb);exact block_lt_of_cell hv
def γ_top(h:HR nm B g w X)(hb:w.heap.size≤b):g.γ b=0:=by
 rcases Bpl (g.γ b)with h0|h0
 ·exact h0
 ·have:=γ_lt h h0;omega
variable{x y c s lo hi:Operand}{r:A6 (Operand×AV)}{fn f:FuncId}{k':IntKind}{h:Int}{o:Ob}{g' gc:Gh}{Bn3:Array (Nat×Operand)}{ops:Array Oper}{oj:Oper}
def Gt(h:Ce g w b o):b<w.heap.size:=by
 cases h with
 |cells cs ty arr T hb=>exact(Bny.1 hb).1
 |map l clock es hb=>exact(Bny.1 hb).1
 |Vw s pos hb=>exact(Bny.1 hb).1
 |Kn j since seen last hb=>exact(Bny.1 hb).1
 |E5 hb=>exact(Bny.1 hb).1
 |Cx L sz l clock es hb=>exact(Bny.1 hb).1
def Fk(F:A6 Nat):Ob→Bool
 |.cells cs _=>C9 F cs
 |.map _ _=>true
 |.Vw _ _=>true
 |.Kn k _ _ _=>!F.contains k
 |.E5=>true
 |.Cx L _ _ _=>!F.contains L
def Br(F:A6 Nat)(X:Ad):Bool:=F.isEmpty||X.objs.all fun p=>Fk F p.2
theorem Ce.Cc(h:Ce g w b o)(ht:Trans F g w g' w')(hw:w'.heap[b]? = w.heap[b]?)(hF:F=[]∨Fk F o=true):Ce g' w' b o:=by
 cases h with
 |cells cs ty arr T hb hl hc h4 =>
  refine .cells cs ty arr T (hw.trans hb) hl (fun i x v hx hv=>(hc i x v hx hv).mono ht ?_) h4;rcases hF with rfl|hF
  ·exact .nil x
  ·exact Qz (Mz hF hx)
 |map l clock es hb hl hc h4 h5 =>exact .map l clock es (hw.trans hb) hl (fun i x e hx he=>⟨(hc i x e hx he).1,(hc i x e hx he).2.1,(hc i x e hx he).2.2.mono ht.le⟩) h4 h5
 |Vw s pos hb=>exact .Vw s pos (hw.trans hb)
 |Kn j since seen last hb =>
  refine .Kn j since seen last (hw.trans (hb.trans ?_));rw[ht.names j];rcases hF with rfl|hF
  ·simp
  ·simpa[Fk]using hF
 |E5 hb=>exact .E5 (hw.trans hb)
 |Cx L sz l clock es hb hl hc h4 h5 =>
  refine .Cx L sz l clock es (hw.trans hb) hl (fun i x e hx he=>⟨(hc i x e hx he).1,(hc i x e hx he).2.1,(hc i x e hx he).2.2.1.mono ht.le,fun hf hL=>?_⟩) h4 h5;have hn:L∉F:=by
   rcases hF with rfl|hF
   ·simp
   ·simpa[Fk]using hF
  obtain⟨ob,My⟩:=Boj.1 hL;exact((hc i x e hx he).2.2.2 hf (by rw[(ht.Aov L ob hn My).1];rfl)).Cc ht hn hL
def Ja(h:Br F X=true)(hk:X.objs.lookup k=some o):F=[]∨Fk F o=true:=by
 unfold Br at h;rw[Bpc]at h;rcases h with h|h
 ·exact .inl (by simpa using h)
 ·exact .inr (Bok.1 h _ (D3 hk))
def HR.grow(h:HR nm B g w X)(hs:w.heap.size≤w'.heap.size)(hold:∀b,b<w.heap.size→w'.heap[b]? = w.heap[b]?)(hio:w'.os=w.os∧w'.output=w.output∧w'.tape=w.tape∧w.drawn≤w'.drawn) :
  HR nm B g w' X∧Trans [] g w g w':=by
 have N0:∀b i,i<g.γ b→w'.cell? ⟨b,i,none⟩=w.cell? ⟨b,i,none⟩:=fun b i hi=>Gl (hold b (γ_lt h (by omega))) i none
 have N1:∀b s,w.shape? b=some s→w'.shape? b=some s:=by
  intro b s Hv;have hb:b<w.heap.size:=by
   rcases Bpt b w.heap.size with h1|h1
   ·exact h1
   ·simp[World.shape?,Bqd h1]at Hv
  rw[I2 (hold b hb)];exact Hv
 have ht:Trans [] g w g w':=⟨⟨fun _=>Bno _,N0,N1⟩,fun _ _=>rfl,fun n ob _ he=>⟨he,fun b hb=>⟨rfl,hold b (h.D9 n b (hb▸he))⟩⟩,fun L _ hL=>⟨rfl,fun i b hb=>⟨rfl,hold b (h.eta.lt L i b hL hb)⟩⟩⟩;refine⟨⟨h.Cc,?_,Bop h.base hs,⟨hio.1.trans h.io.1,hio.2.1.trans h.io.2.1,hio.2.2.1.trans h.io.2.2.1,Bop h.io.2.2.2 hio.2.2.2⟩,h.le.trans ht.le,?_,?_,h.Fi,h.C1,h.Cf,h.live,h.Cq,h.Bz,h.D0,?_,h.eta.same hs fun k o hk=>⟨o,hk⟩⟩,ht⟩
 ·intro b i hi;rw[N0 b i hi];exact h.Iw b i hi
 ·intro b hb hna;have:=h.frame b hb hna;exact⟨(hold b (Bp7 hb h.base)).trans this.1,this.2⟩
 ·intro k o hk;have:=h.objs k o hk;exact this.Cc ht (hold _ (Gt this)) (.inl rfl)
 ·intro n b hn;exact Bp7 (h.D9 n b hn) hs
theorem HR.drew(h:HR nm B g w X):HR nm B g w.drew X∧Trans [] g w g w.drew :=
 h.grow (Bno _) (fun _ _=>rfl) ⟨rfl,rfl,rfl,Nat.le_succ _⟩
def HR.newObj(h:HR nm B g w X)(hk:X.objs.lookup k=none)(hX:Br [k] X=true)
  (ob:Obj) (o:Ob) (ho:∀g' w',Trans [k] g w g' w'→w'.heap[w.heap.size]? = some ob→Ce g' w' w.heap.size o) :
  HR nm B { g with ρ:=O3 g.ρ k w.heap.size } (w.alloc ob) ⟨(k,o)::X.objs,X.live⟩∧Trans [k] g w { g with ρ:=O3 g.ρ k w.heap.size } (w.alloc ob):=by
 have h1:=h.grow (w':=w.alloc ob) (by simp) (fun b hb=>J9 w ob hb) ⟨rfl,rfl,rfl,Bno _⟩;have N0:=h1.2.le;have ht:Trans [k] g w { g with ρ:=O3 g.ρ k w.heap.size } (w.alloc ob) :=
  ⟨N0,fun j hj=>Ai _ _ (by simpa using hj),fun n ob' _ he=>⟨he,fun b hb=>⟨rfl,J9 w ob (h.D9 n b (hb▸he))⟩⟩,fun L _ hL=>⟨rfl,fun i b hb=>⟨rfl,J9 w ob (h.eta.lt L i b hL hb)⟩⟩⟩
 have P7:∀j o',List.lookup j ((k,o)::X.objs)=some o'→(j=k∧o'=o)∨(j≠k∧X.objs.lookup j=some o'):=by
  intro j o' hj;rw[Bot]at hj;by_cases he:j=k
  ·subst he;simp at hj;exact .inl ⟨rfl,hj.symm⟩
  ·have:(j==k)=false:=by simpa using he
   rw[this]at hj;exact .inr ⟨he,hj⟩
 have By:∀j o',X.objs.lookup j=some o'→g.ρ j<w.heap.size:=fun j o' hj=>Gt (h.objs j o' hj)
 refine⟨⟨?_,h1.1.Iw,h1.1.base,h1.1.io,h1.1.le,h1.1.frame,?_,?_,?_,?_,h.live,h.Cq,?_,h.D0,h1.1.D9,h.eta.step (fun L hL=>.inl ⟨hL,rfl⟩) (by simp) (fun n b hb=>.inl ⟨n,hb⟩) fun j o' hj=>?_⟩,ht⟩
 rotate_right
 ·rcases P7 j o' hj with ⟨rfl,rfl⟩|⟨hne,hj⟩
  ·simp only[Ah];exact .inr (.inl (Bno _))
  ·simp only[Ai _ _ hne];exact .inl ⟨j,o',hj,rfl⟩
 ·intro j hj;obtain⟨h2,h3⟩:=h.Cc j hj;have hne:j≠k:=by rintro rfl;rw[hk]at h3;simp at h3
  refine⟨by simp only[Ai _ _ hne];exact h2,?_⟩;simp only[Bot];have:(j==k)=false:=by simpa using hne
  rw[this];exact h3
 ·intro j o' hj;rcases P7 j o' hj with ⟨rfl,rfl⟩|⟨hne,hj⟩
  ·simp only[Ah];exact ho _ _ ht (Bqw w ob)
  ·simp only[Ai _ _ hne];exact(h.objs j o' hj).Cc ht (J9 w ob (By j o' hj)) (Ja hX hj)
 ·intro j o' hj;rcases P7 j o' hj with ⟨rfl,rfl⟩|⟨hne,hj⟩
  ·simp only[Ah];exact γ_top h (Bno _)
  ·simp only[Ai _ _ hne];exact h.Fi j o' hj
 ·intro j j' o1 o2 hj H7 he;have c1:=P7 j o1 hj;have c2:=P7 j' o2 H7;clear hj H7;rcases c1 with ⟨e1,_⟩|⟨hne,hj⟩<;>rcases c2 with ⟨e2,_⟩|⟨Ub,H7⟩
  ·rw[e1,e2]
  ·rw[e1]at he;simp only[Ah,Ai _ _ Ub]at he;have:=By j' o2 H7;omega
  ·rw[e2]at he;simp only[Ah,Ai _ _ hne]at he;have:=By j o1 hj;omega
  ·simp only[Ai _ _ hne,Ai _ _ Ub]at he;exact h.C1 j j' o1 o2 hj H7 he
 ·intro j o' hj;rcases P7 j o' hj with ⟨rfl,rfl⟩|⟨hne,hj⟩
  ·simp only[Ah];exact .inl h.base
  ·simp only[Ai _ _ hne];exact h.Cf j o' hj
 ·intro n b j o' hn hj;rcases P7 j o' hj with ⟨rfl,rfl⟩|⟨hne,hj⟩
  ·simp only[Ah];have:=h.D9 n b hn;omega
  ·simp only[Ai _ _ hne];exact h.Bz n b j o' hn hj
def HR.newRow(h:HR nm B g w X)(arr:Array Value)(T:TypeId)(n:Nat)(hn:n≤arr.size) :
  HR nm B { g with γ:=O3 g.γ w.heap.size n } (w.alloc (.cells arr T)) X∧Trans [] g w { g with γ:=O3 g.γ w.heap.size n } (w.alloc (.cells arr T)):=by
 have h1:=h.grow (w':=w.alloc (.cells arr T)) (by simp) (fun b hb=>J9 w _ hb) ⟨rfl,rfl,rfl,Bno _⟩;have hup:∀b,g.γ b≤O3 g.γ w.heap.size n b:=by
  intro b;by_cases hb:b=w.heap.size
  ·subst hb;rw[Ah,γ_top h (Bno _)];omega
  ·rw[Ai _ _ hb];exact Bno _
 have hne:∀b,b<w.heap.size→O3 g.γ w.heap.size n b=g.γ b:=fun b hb=>Ai _ _ (by omega)
 have ht:Trans [] g w { g with γ:=O3 g.γ w.heap.size n } (w.alloc (.cells arr T)) :=
  ⟨⟨hup,h1.2.le.cell,h1.2.le.shape⟩,fun _ _=>rfl,fun m ob _ he=>⟨he,fun b hb=>⟨hne b (h.D9 m b (hb▸he)),J9 w _ (h.D9 m b (hb▸he))⟩⟩,fun L _ hL=>⟨rfl,fun i b hb=>⟨hne b (h.eta.lt L i b hL hb),J9 w _ (h.eta.lt L i b hL hb)⟩⟩⟩
 refine⟨⟨h.Cc,?_,h1.1.base,h1.1.io,⟨fun b=>Bop (h1.1.le.up b) (hup b),h1.1.le.cell,h1.1.le.shape⟩,?_,?_,?_,h.C1,h.Cf,h.live,h.Cq,h.Bz,h.D0,h1.1.D9,h.eta.step (fun L hL=>.inl ⟨hL,rfl⟩) (by simp) (fun n b hb=>.inl ⟨n,hb⟩) fun k o hk=>.inl ⟨k,o,hk,rfl⟩⟩,ht⟩
 ·intro b i hi;by_cases hb:b=w.heap.size
  ·subst hb;simp only[Ah]at hi;rw[Cg (Bqw w (.cells arr T))];simp;omega
  ·simp only[Ai _ _ hb]at hi;exact h1.1.Iw b i hi
 ·intro b hb hna;have:=h1.1.frame b hb hna;exact⟨this.1,by rw[← this.2];exact hne b (Bp7 hb h.base)⟩
 ·intro k o hk;have:=h.objs k o hk;exact this.Cc ht (J9 w _ (Gt this)) (.inl rfl)
 ·intro k o hk;simp only[hne _ (Gt (h.objs k o hk))];exact h.Fi k o hk
def A6k:AV→Bool
 |.d (.sc (.agg _))=>false
 |_=>true
def M3(h:∀cs,v≠.agg cs):v.cells=#[v]:=by cases v<;>first|rfl|exact absurd rfl (h _)
section
variable{P:Program}{o:Oper}{X:Ad}
def B7d(k:Nat)(ho:o.op = .alloc t)(hi:P.info? t=some i)(hz:i.zero=some z)
  (Tg:∀g w,RA g w (.agg cs) (.agg z.cells)) (hk:X.objs.lookup k=none) (hX:Br [k] X=true) :
  Ca P o [] X ⟨(k,.cells cs (some t))::X.objs,X.live⟩ [k] (.ptr k 0):=by
 intro nm G3 B g w a hr _ next Q hn
 obtain⟨h1,h2⟩:=hr.newObj hk hX (.cells z.cells t) (.cells cs (some t)) (by
  intro g' w' _ hw;have:=Tg g' w';cases this with
  |agg _ _ hl hc=>exact .cells cs _ z.cells t hw (Buy hl) hc (fun _ e=>(Br6 e).symm))
 unfold Oper.wp;have:(execOp a.eval o).run P w = .ok (.value (.pointer (some ⟨w.heap.size,0,none⟩))) (w.alloc (.cells z.cells t)):=by simp only[execOp,ho];simp[Instr.alloc,zeroValue,typeInfo,hi,hz,newVar,Go.newRow]
 rw[this];refine hn _ _ _ h1 h2 ?_;have:=RA.ptr (g:={ g with ρ:=O3 g.ρ k w.heap.size }) (w:=w.alloc (.cells z.cells t)) k 0;simpa[Ah]using this
def Bfg{v:AV}(k:Nat)(ho:o.op = .box t x)(hk:X.objs.lookup k=none)(hX:Br [k] X=true)(hv:C9 [k] v.cells=true)(hs:A6k v=true) :
  Ca P o [(x,v)] X ⟨(k,.cells v.cells (some t))::X.objs,X.live⟩ [k] (.ptr k 0):=by
 intro nm G3 B g w a hr Bg next Q hn
 have e1:=Lz Bg;simp only at e1;obtain⟨h1,h2⟩:=hr.newObj hk hX (.cells (a.eval x).cells t) (.cells v.cells (some t)) (by
  intro g' w' ht hw;generalize a.eval x=u at e1 hw;have A9g:∀(cs:A6 AV) (vs:Array Value),v.cells=cs→u.cells=vs→cs.length=vs.size→(∀(i:Nat) x v,cs[i]? = some x→vs[i]? = some v→RA g w x v) →
    Ce g' w' w.heap.size (.cells v.cells (some t)):=by
   intro cs vs h1 h2 hl hc;rw[h1]at hv⊢;rw[h2]at hw;exact .cells cs _ vs t hw (Buy hl) (fun i x y hx hy=>(hc i x y hx hy).mono ht (Qz (Mz hv hx))) (fun _ e=>(Br6 e).symm)
  have K0:v.cells=[v]→u.cells=#[u]→Ce g' w' w.heap.size (.cells v.cells (some t)):=by
   intro h1 h2;refine A9g _ _ h1 h2 rfl ?_;intro i x y hx hy;cases i with
   |zero=>simp at hx hy;subst hx;subst hy;exact e1
   |succ i=>simp at hx
  cases e1 with
  |d y u h =>
   cases h with
   |agg cs vs hl hc =>refine A9g (cs.map .d) vs rfl rfl (by simpa using hl) ?_;intro i x y hx hy;rw[Bni,Bnn]at hx;obtain⟨c,hc',rfl⟩:=hx;exact .d _ _ (hc i c y hc' hy)
   |sc u =>exact K0 rfl (M3 fun cs he=>by subst he;simp[A6k]at hs)
   |nil sz=>exact K0 rfl rfl
   |sl sz es b off len cap=>exact K0 rfl rfl
   |ep cs b off=>exact K0 rfl rfl
   |any q u h1 h2=>exact K0 rfl (M3 fun cs he=>by subst he;cases h2)
  |nm k p u h=>exact K0 rfl (by cases p<;>(first|obtain⟨cap,_,_,rfl,_⟩:=h|cases h)<;>first|rfl|(rename_i b _;cases b<;>rfl))
  |Cv n sz es ty u h h' =>
   cases h with
   |nil=>exact K0 rfl rfl
   |sl=>exact K0 rfl rfl
  |tpt n e cs u h h'=>cases h with|ep=>exact K0 rfl rfl
  |Er l vs hl hc=>exact K0 rfl rfl
  |agg l vs hl hc=>exact A9g l vs rfl rfl hl hc
  |Ek f l vs hl hc=>exact K0 rfl rfl)
 unfold Oper.wp;have:(execOp a.eval o).run P w = .ok (.value (.pointer (some ⟨w.heap.size,0,none⟩))) (w.alloc (.cells (a.eval x).cells t)):=by simp only[execOp,ho];simp[Instr.box,newVar,Go.newRow]
 rw[this];refine hn _ _ _ h1 h2 ?_;have:=RA.ptr (g:={ g with ρ:=O3 g.ρ k w.heap.size }) (w:=w.alloc (.cells (a.eval x).cells t)) k 0;simpa[Ah]using this
end
def setObj(k:Nat)(o:Ob):A6 (Nat×Ob)→A6 (Nat×Ob)
 |[]=>[(k,o)]
 |(j,p)::r=>if j=k then (k,o)::r else (j,p)::setObj k o r
def B5(k:Nat)(o:Ob)(l:A6 (Nat×Ob))(j:Nat):(setObj k o l).lookup j=if j=k then some o else l.lookup j:=by
 induction l with
 |nil =>
  simp only[setObj,Bot,List.lookup_nil];by_cases h:j=k
  ·simp[h]
  ·have:(j==k)=false:=by simpa using h
   simp[h,this]
 |cons p r ih =>
  obtain⟨i,p⟩:=p;simp only[setObj];by_cases hik:i=k
  ·subst hik;simp only[Bpz,Bot];by_cases h:j=i
   ·simp[h]
   ·have:(j==i)=false:=by simpa using h
    simp[h,this]
  ·simp only[hik,Bpi,Bot];by_cases h:j=i
   ·subst h;simp[hik]
   ·have:(j==i)=false:=by simpa using h
    simp only[this];exact ih
variable{o':Ob}
def HR.write(h:HR nm B g w X)(hk:X.objs.lookup k=some o)
  (hs:w'.heap.size=w.heap.size) (hio:w'.os=w.os∧w'.output=w.output∧w'.tape=w.tape∧w.drawn≤w'.drawn) (Sa:∀b,b≠g.ρ k→w'.heap[b]? = w.heap[b]?) (A7o:∀(_:Trans [] g w g w'),Ce g w' (g.ρ k) o') (Bfh:∀s,w.shape? (g.ρ k)=some s→w'.shape? (g.ρ k)=some s) :
  HR nm B g w' ⟨setObj k o' X.objs,X.live⟩∧Trans [] g w g w':=by
 have h0:=h.Fi k o hk;have Bmq:B.γ0 (g.ρ k)=0:=by have:=h.le.up (g.ρ k);omega
 have N0:∀b i,i<g.γ b→w'.cell? ⟨b,i,none⟩=w.cell? ⟨b,i,none⟩:=by intro b i hi;refine Gl (Sa b ?_) i none;rintro rfl;omega
 have N1:∀b s,w.shape? b=some s→w'.shape? b=some s:=by
  intro b s Hv;by_cases he:b=g.ρ k
  ·subst he;exact Bfh s Hv
  ·rw[I2 (Sa b he)];exact Hv
 have ht:Trans [] g w g w':=⟨⟨fun _=>Bno _,N0,N1⟩,fun _ _=>rfl,fun n ob _ he=>⟨he,fun b hb=>⟨rfl,Sa b (h.Bz n b k o (hb▸he) hk)⟩⟩,fun L _ hL=>⟨rfl,fun i b hb=>⟨rfl,Sa b (h.eta.obj L i b k o hL hb hk)⟩⟩⟩;have P7:∀j p,(setObj k o' X.objs).lookup j=some p→(j=k∧p=o')∨(j≠k∧X.objs.lookup j=some p):=by
  intro j p hj;rw[B5]at hj;split at hj
  ·rename_i he;simp at hj;exact .inl ⟨he,hj.symm⟩
  ·rename_i he;exact .inr ⟨he,hj⟩
 have N2:∀j p,(setObj k o' X.objs).lookup j=some p→∃q,X.objs.lookup j=some q:=by
  intro j p hj;rcases P7 j p hj with ⟨rfl,_⟩|⟨_,hj⟩
  ·exact⟨o,hk⟩
  ·exact⟨p,hj⟩
 refine⟨⟨?_,?_,by rw[hs];exact h.base,⟨hio.1.trans h.io.1,hio.2.1.trans h.io.2.1,hio.2.2.1.trans h.io.2.2.1,Bop h.io.2.2.2 hio.2.2.2⟩,⟨h.le.up,?_,fun b s hs=>N1 b s (h.le.shape b s hs)⟩,?_,?_,?_,?_,?_,h.live,h.Cq,?_,h.D0,?_,h.eta.same (by rw[hs];exact Bno _) fun j p hj=>N2 j p hj⟩,ht⟩
 ·intro j hj;obtain⟨h1,h2⟩:=h.Cc j hj;refine⟨h1,?_⟩;simp only[B5];split
  ·rfl
  ·exact h2
 ·intro b i hi;rw[N0 b i hi];exact h.Iw b i hi
 ·intro b i hi;rw[N0 b i (Bp7 hi (h.le.up b))];exact h.le.cell b i hi
 ·intro b hb hna;have h1:=h.frame b hb hna;refine⟨(Sa b ?_).trans h1.1,h1.2⟩;rintro rfl;rcases h.Cf k o hk with h2|h2
  ·omega
  ·exact hna h2
 ·intro j p hj;rcases P7 j p hj with ⟨rfl,rfl⟩|⟨hne,hj⟩
  ·exact A7o ht
  ·refine(h.objs j p hj).Cc ht (Sa _ ?_) (.inl rfl);intro he;exact hne (h.C1 j k p o hj hk he)
 ·intro j p hj;obtain⟨q,hq⟩:=N2 j p hj;exact h.Fi j q hq
 ·intro j j' p p' hj H7 he;obtain⟨q,hq⟩:=N2 j p hj;obtain⟨q',hq'⟩:=N2 j' p' H7;exact h.C1 j j' q q' hq hq' he
 ·intro j p hj;obtain⟨q,hq⟩:=N2 j p hj;exact h.Cf j q hq
 ·intro n b j p hn hj;obtain⟨q,hq⟩:=N2 j p hj;exact h.Bz n b j q hn hq
 ·intro n b hn;rw[hs];exact h.D9 n b hn
def Atl:AV→Bool
 |.d (.sc u)=>u.oneCell'
 |.d (.agg _)=>false
 |.Er _=>false
 |.agg _=>false
 |_=>true
def B7e{x:AV}(h:RA g w x v)(ho:Atl x=true):v.oneCell'=true:=by
 cases h with
 |d y v h =>
  cases h with
  |sc v=>exact ho
  |agg=>simp[Atl]at ho
  |nil=>rfl
  |sl=>rfl
  |ep=>rfl
  |any q v h1 h2=>exact h2
 |nm k p v h=>cases p<;>(first|obtain⟨cap,_,_,rfl,_⟩:=h|cases h)<;>first|rfl|(rename_i b _;cases b<;>rfl)
 |Cv n sz es ty v h _=>cases h<;>rfl
 |tpt n e cs v h _=>cases h;rfl
 |Er=>simp[Atl]at ho
 |agg=>simp[Atl]at ho
 |Ek=>rfl
theorem A32{P:Program}{b off:Nat}{T:TypeId}:∀(vs:A6 Value) (i:Nat) (w:World) (arr:Array Value),w.heap[b]? = some (.cells arr T (0,0)) →
  (∀v∈vs,v.oneCell'=true)→off+i+vs.length≤arr.size →
  ∃w' Dq,(storeCells ⟨b,off,none⟩ vs i).run P w = .ok () w'∧w'.heap[b]? = some (.cells Dq T (0,0))∧Dq.size=arr.size ∧
   (∀j,Dq[j]? = if off+i≤j∧j<off+i+vs.length then vs[j-(off+i)]? else arr[j]?)∧w'.heap.size=w.heap.size∧(∀b',b'≠b→w'.heap[b']? = w.heap[b']?)∧(w'.os=w.os∧w'.output=w.output∧w'.tape=w.tape∧w.drawn≤w'.drawn)
 |[],i,w,arr,hb,_,_=>⟨w,arr,rfl,hb,rfl,fun j=>by rw[Bnv (by simp only[Bpj];omega)],rfl,fun _ _=>rfl,rfl,rfl,rfl,Bno _⟩
 |v::vs,i,w,arr,hb,h1,hl=>by
  simp only[Bnx]at hl;have By:off+i<arr.size:=by omega
  have hv:v.oneCell'=true:=h1 v Bnm;have N0:w.cell? ⟨b,off+i,none⟩=some arr[off+i]:=by rw[Cg hb];simp[By]
  have hfr:w.frozen? ⟨b,off+i,none⟩=false:=frozen_of_row w b (off+i) arr T hb;have Zr:(w.setCell ⟨b,off+i,none⟩ v).heap[b]? = some (.cells (arr.setIfInBounds (off+i) v) T (0,0)):=heap_setCell_same w b (off+i) arr T v hb;have hst:(store (⟨b,off+i,none⟩:Addr) v).run P w = .ok () (w.setCell ⟨b,off+i,none⟩ v):=by rw[run_store P w _ v _ hv,N0,hfr];rfl
  obtain⟨w',Dq,hr,Iy,Hv,Vx,hz',ho',Md⟩:=A32 (P:=P) (b:=b) (off:=off) (T:=T) vs (i+1) (w.setCell ⟨b,off+i,none⟩ v) _ Zr
   (fun u hu=>h1 u (Bnl _ hu)) (by simp;omega)
  refine⟨w',Dq,?_,Iy,by rw[Hv];simp,?_,by rw[hz'];simp,fun b' hne=>by rw[ho' b' hne];exact heap_setCell_other w _ b' v hne,Md⟩
  ·simp only[storeCells];rw[addr_add,Boc,hst,Bo5];exact hr
  ·intro j;rw[Vx j];by_cases h1:j=off+i
   ·subst h1;rw[Bnv (by omega),Bo3 (by simp only[Bnx];omega)];simp[By]
   ·by_cases h2:off+(i+1)≤j∧j<off+(i+1)+vs.length
    ·rw[Bo3 h2,Bo3 (by simp only[Bnx];omega)];rw[show j-(off+i)=(j-(off+(i+1)))+1 by omega];rfl
    ·rw[Bnv h2,Bnv (by simp only[Bnx];omega)];simp[Bq5 h1]
def Wb(cs:A6 AV)(off:Nat)(vs:A6 AV):A6 AV:=cs.take off++vs++cs.drop (off+vs.length)
def Yx{vs:A6 AV}(h:off+vs.length≤cs.length):(Wb cs off vs).length=cs.length:=by simp[Wb];omega
def Ahd{vs:A6 AV}(h:off+vs.length≤cs.length)(i:Nat) :
  (Wb cs off vs)[i]? = if off≤i∧i<off+vs.length then vs[i-off]? else cs[i]?:=by
 have hl:(cs.take off).length=off:=by simp;omega
 unfold Wb;by_cases h1:i<off
 ·rw[Bnv (by omega),Bqx,Bqm (by omega),Bow,Bo3 h1]
 ·by_cases h2:i<off+vs.length
  ·rw[Bo3 (by omega),Bqx,Bqi (by omega),hl,Bqm (by omega)]
  ·rw[Bnv (by omega),Bqi (by simp;omega)];rw[Bp3];congr 1;simp;omega
theorem RA.cells{x:AV}(h:RA g w x v)(hs:A6k x=true) :
  x.cells.length=v.cells.size∧∀(i:Nat) y u,x.cells[i]? = some y→v.cells[i]? = some u→RA g w y u:=by
 have K0:x.cells=[x]→v.cells=#[v]→x.cells.length=v.cells.size∧∀(i:Nat) y u,x.cells[i]? = some y→v.cells[i]? = some u→RA g w y u:=by
  intro h1 h2;rw[h1,h2];refine⟨rfl,?_⟩;intro i y u hy hu;cases i with
  |zero=>simp at hy hu;subst hy;subst hu;exact h
  |succ i=>simp at hy
 cases h with
 |d y u h =>
  cases h with
  |agg cs vs hl hc =>refine⟨by simpa[AV.cells,D.cells,Value.cells]using hl,?_⟩;intro i x y hx hy;simp only[AV.cells,D.cells,Bni,Bnn]at hx;obtain⟨c,hc',rfl⟩:=hx;exact .d _ _ (hc i c y hc' hy)
  |sc u=>exact K0 rfl (M3 fun cs he=>by subst he;simp[A6k]at hs)
  |nil sz=>exact K0 rfl rfl
  |sl sz es b off len cap=>exact K0 rfl rfl
  |ep cs b off=>exact K0 rfl rfl
  |any q u h1 h2=>exact K0 rfl (M3 fun cs he=>by subst he;cases h2)
 |nm k p u h=>exact K0 rfl (by cases p<;>(first|obtain⟨cap,_,_,rfl,_⟩:=h|cases h)<;>first|rfl|(rename_i b _;cases b<;>rfl))
 |Cv n sz es ty u h h' =>
  cases h with
  |nil=>exact K0 rfl rfl
  |sl=>exact K0 rfl rfl
 |tpt n e cs u h h'=>cases h with|ep=>exact K0 rfl rfl
 |Er l vs hl hc=>exact K0 rfl rfl
 |agg l vs hl hc=>exact⟨hl,hc⟩
 |Ek f l vs hl hc=>exact K0 rfl rfl
section
variable{P:Program}{o:Oper}{X:Ad}
def Atm{v:AV}(ho:o.op = .store t x y)(ht:TyI P t agg sz)(hk:X.objs.lookup k=some (.cells cs ty))
  (hv:v.cells.length=sz) (h1:v.cells.all Atl=true) (hs:A6k v=true) (hl:off+sz≤cs.length) :
  Ca P o [(x,.ptr k off),(y,v)] X ⟨setObj k (.cells (Wb cs off v.cells) ty) X.objs,X.live⟩ [] (.d (.sc undef)):=by
 intro nm G3 B g w a hr Bg next Q hn
 have e1:=Lz Bg;have e2:=rd1 Bg;simp only at e1 e2;obtain⟨c1,c2⟩:=e2.cells hs;cases hr.objs k _ hk with
 |cells _ _ arr T hb hlen hc hty =>
  have K0:∀u∈(a.eval y).cells.toList,u.oneCell'=true:=by
   intro u hu;obtain⟨i,hi⟩:=Bpu.1 hu;have By:i<v.cells.length:=by have:=(Bnj.1 hi).1;simp at this;omega
   exact B7e (c2 i v.cells[i] u (by simp[By]) (by simpa using hi)) (Bok.1 h1 _ (Bp5 By))
  obtain⟨w',Dq,Fj,Iy,Hv,Vx,hz',ho',Md⟩:=A32 (P:=P) (off:=off) (a.eval y).cells.toList 0 w arr hb K0 (by simp;omega);obtain⟨r1,r2⟩:=hr.write hk (o':=.cells (Wb cs off v.cells) ty) hz' Md ho' (by
   intro ht';refine .cells _ ty Dq T Iy (by rw[Yx (by omega),Hv];exact hlen) ?_ hty;intro i z u hz hu;rw[Ahd (by omega)]at hz;rw[Vx i]at hu;simp only[Br0,Bp2]at hu;by_cases Uc:off≤i∧i<off+v.cells.length
   ·rw[Bo3 Uc]at hz;rw[Bo3 (by omega)]at hu;exact(c2 _ z u hz (by simpa using hu)).mono ht' (.nil _)
   ·rw[Bnv Uc]at hz;rw[Bnv (by omega)]at hu;exact(hc i z u hz hu).mono ht' (.nil _)) (by
   intro s hs0;simp only[World.shape?,hb]at hs0;simp only[World.shape?,Iy,Hv];exact hs0)
  unfold Oper.wp;have hx:a.eval x = .pointer (some ⟨g.ρ k,off,none⟩):=by exact e1.Qy
  have:(execOp a.eval o).run P w = .ok .skip w':=by
   simp only[execOp,ho,hx,Instr.storeAt,Instr.sureAddr];have Jq:¬((a.eval y).cells.size≠sz):=by omega
   simp[storeVar,ht.Zp,Jq,Fj]
  rw[this];exact hn g w' undef r1 r2 (.Jz _ _ _)
end
structure B1i(P:Program)(t:TypeId)(pl:List (Nat×Nat)):Prop where
 is:∃fs,P.underlying t=some (.struct fs)∧fs.toList.map (fun f=>(f.offset,(P.info? f.type).map (·.size)))=pl.map fun p=>(p.1,some p.2)
inductive Wc:List AV→List Value→Prop
 |nil:Wc [] []
 |sc (v:Value) {r:List AV} {rs:List Value}:Wc r rs→Wc (.d (.sc v)::r) (v::rs)
 |sl (sz:Nat) {r:List AV} {rs:List Value}:Wc r rs→Wc (.d (.sl sz [])::r) (.slice none 0 0::rs)
def Wc.ra{vs:A6 Value}(h:Wc l vs)(g:Gh)(w:World):l.length=vs.length∧∀(i:Nat) x v,l[i]? = some x→vs[i]? = some v→RA g w x v:=by
 induction h with
 |nil=>exact⟨rfl,by simp⟩
 |sc v _ ih =>
  refine⟨by simp[ih.1],?_⟩;intro i x u hx hu;cases i with
  |zero=>simp at hx hu;subst hx;subst hu;exact .Jz _ _ _
  |succ i=>exact ih.2 i x u (by simpa using hx) (by simpa using hu)
 |sl sz _ ih =>
  refine⟨by simp[ih.1],?_⟩;intro i x u hx hu;cases i with
  |zero=>simp at hx hu;subst hx;subst hu;exact .d _ _ (.nil sz none 0 fun _=>rfl)
  |succ i=>exact ih.2 i x u (by simpa using hx) (by simpa using hu)
structure Atn(P:Program)(t:TypeId)(cs:List AV):Prop where
 is:∃i z,P.info? t=some i∧i.zero=some z∧Wc cs z.cells.toList
theorem Atn.ra{P:Program}{t:TypeId}(h:Wc cs z.cells.toList)(g:Gh)(w:World):RA g w (.agg cs) (.agg z.cells):=by obtain⟨h1,h2⟩:=h.ra g w;exact .agg _ _ (by simpa using h1) (fun i x v hx hv=>h2 i x v hx (by simpa using hv))
def Y5(place:Nat→A7 (Nat×Nat)):A6 AV→A6 (Nat×AV)→A7 (A6 AV)
 |cs,[]=>some cs
 |cs,(i,x)::r =>
  match place i with
  |none=>none
  |some (off,sz)=>if x.cells.length=sz∧off+x.cells.length≤cs.length then Y5 place (Wb cs off x.cells) r else none
def Ace(vs:A6 Value)(off:Nat):∀(n:Nat) (cs:Array Value) (j:Nat),off+n+vs.length≤cs.size →
  ((vs.zipIdx n).foldl (fun cs p=>cs.setIfInBounds (off+p.2) p.1) cs)[j]? = if off+n≤j∧j<off+n+vs.length then vs[j-(off+n)]? else cs[j]?:=by
 induction vs with
 |nil=>intro n cs j _;rw[Bnv (by simp only[Bpj];omega)];rfl
 |cons v vs ih =>
  intro n cs j hl;simp only[Bnx]at hl⊢;rw[List.zipIdx_cons,Bp1,ih (n+1) _ j (by simp;omega)];by_cases h1:j=off+n
  ·subst h1;rw[Bnv (by omega),Bo3 (by omega)];have:off+n<cs.size:=by omega
   simp[this]
  ·by_cases h2:off+(n+1)≤j∧j<off+(n+1)+vs.length
   ·rw[Bo3 h2,Bo3 (by omega),show j-(off+n)=(j-(off+(n+1)))+1 by omega];rfl
   ·rw[Bnv h2,Bnv (by omega)];simp[Bq5 h1]
def Wd(vs:A6 (Value×Nat))(off:Nat):∀(cs:Array Value),(vs.foldl (fun cs p=>cs.setIfInBounds (off+p.2) p.1) cs).size=cs.size:=by
 induction vs with
 |nil=>intro cs;rfl
 |cons v vs ih=>intro cs;rw[Bp1,ih];simp
theorem Ahe{g:Gh}{w:World}{place:Nat→A7 (Nat×Nat)}:∀(Bn3:A6 (Nat×AV)) (vs:A6 (Nat×Value)) (cs:A6 AV) (arr:Array Value) (out:A6 AV),
  Bn3.length=vs.length→(∀(i:Nat) p q,Bn3[i]? = some p→vs[i]? = some q→p.1=q.1∧RA g w p.2 q.2)→(Bn3.all fun p=>A6k p.2)=true →
  cs.length=arr.size→(∀(i:Nat) x v,cs[i]? = some x→arr[i]? = some v→RA g w x v)→Y5 place cs Bn3=some out →
  ∃Dq,Instr.fill place arr vs=some Dq∧out.length=Dq.size∧∀(i:Nat) x v,out[i]? = some x→Dq[i]? = some v→RA g w x v
 |[],vs,cs,arr,out,hl,_,_,hs,hc,hf=>by
  cases vs with
  |nil=>simp[Y5]at hf;subst hf;exact⟨arr,rfl,hs,hc⟩
  |cons _ _=>simp at hl
 |(i,x)::Bn3,vs,cs,arr,out,hl,hp,Jr,hs,hc,hf=>by
  cases vs with
  |nil=>simp at hl
  |cons q vs =>
   obtain⟨i',u⟩:=q;obtain⟨he,hx⟩:=hp 0 (i,x) (i',u) rfl rfl;simp only at he hx;subst he;simp only[Btv,Boo]at Jr;obtain⟨c1,c2⟩:=hx.cells Jr.1;simp only[Y5]at hf;simp only[Instr.fill];cases hpl:place i with
   |none=>rw[hpl]at hf;cases hf
   |some q =>
    obtain⟨off,sz⟩:=q;rw[hpl]at hf;simp only at hf⊢;split at hf
    ·rename_i Bme;have Bfi:¬(u.cells.size≠sz||off+u.cells.size>arr.size)=true:=by simp;omega
     rw[Bnv Bfi];have hrw:(Array.foldl (fun cs (x:Value×Nat)=>match x with|(c,j)=>cs.setIfInBounds (off+j) c) arr u.cells.zipIdx)=(u.cells.toList.zipIdx 0).foldl (fun cs p=>cs.setIfInBounds (off+p.2) p.1) arr:=by rw[← Array.foldl_toList,Array.toList_zipIdx]
     rw[hrw];refine Ahe Bn3 vs _ _ out (by simpa using hl) (fun j p q Vx hq=>hp (j+1) p q (by simpa using Vx) (by simpa using hq)) Jr.2 ?_ ?_ hf
     ·rw[Yx (by omega),Wd,hs]
     ·intro j y v hy hv;rw[Ahd (by omega)]at hy;rw[Ace _ _ _ _ _ (by simp;omega)]at hv;simp only[Br0,Bp2]at hv;by_cases Uc:off≤j∧j<off+x.cells.length
      ·rw[Bo3 Uc]at hy;rw[Bo3 (by omega)]at hv;exact c2 _ y v hy (by simpa using hv)
      ·rw[Bnv Uc]at hy;rw[Bnv (by omega)]at hv;exact hc j y v hy hv
    ·cases hf
theorem Aeq{P:Program}{w:World}:∀(fs:A6 Field) (pl:A6 (Nat×Nat)),fs.map (fun f=>(f.offset,(P.info? f.type).map (·.size)))=pl.map (fun p=>(p.1,some p.2)) →
  (fs.mapM fun f=>(do pure (f.offset,← sizeOf f.type):Sem (Nat×Nat))).run P w = .ok pl w
 |[],pl,h=>by
  cases pl with
  |nil=>rfl
  |cons _ _=>simp at h
 |f::fs,pl,h=>by
  cases pl with
  |nil=>simp at h
  |cons q pl =>simp only[Bnh,Br7,Bo2]at h;obtain⟨⟨h1,h2⟩,h3⟩:=h;obtain⟨i,hi,h4⟩:=Bnn.1 h2;rw[List.mapM_cons,Boc,Boc,run_sizeOf hi,Bo5];simp only[Bql,Bo5,Boc];rw[Aeq fs pl h3];simp only[Bo5];rw[h1,h4]
section
variable{P:Program}{o:Oper}{X:Ad}
def B7f{pl:A6 (Nat×Nat)}{zs out:A6 AV}(ho:o.op = .build t Bn3)(ht:B1i P t pl)(hz:Atn P t zs)
  (hx:xs.length=Bn3.size) (Jr:xs.all A6k=true) (hf:Y5 (fun i=>pl[i]?) zs ((Bn3.toList.map (·.1)).zip xs)=some out) :
  Ca P o ((Bn3.toList.map (·.2)).zip xs) X X [] (Y3 out) :=
 .quiet fun _ _ g w ac hr Bg=>by
  obtain⟨fs,hfs,hpl⟩:=ht.is;obtain⟨i,z,hi,hzz,hzc⟩:=hz.is;obtain⟨z1,z2⟩:=hzc.ra g w;obtain⟨Dq,A74,hl,hc⟩:=Ahe (g:=g) (w:=w) (place:=fun i=>pl[i]?) ((Bn3.toList.map (·.1)).zip xs) (Bn3.toList.map fun p=>(p.1,ac.eval p.2)) zs z.cells out (by simp[hx]) (by
   intro j p q hp hq;rw[Bni,Bnn]at hq;obtain⟨pt,hpt,rfl⟩:=hq;rw[Bqn]at hp;obtain⟨hp1,hp2⟩:=hp;rw[Bni,hpt]at hp1;simp at hp1;refine⟨hp1.symm,?_⟩;have:=Bg (pt.2,p.2) (Boe (i:=j) (by
    rw[Bqn];exact⟨by rw[Bni,hpt];rfl,hp2⟩))
   exact this) (by
   rw[Bok]at Jr⊢;intro p hp;exact Jr _ (Buh hp).2) (by simpa using z1) (fun i x v hx hv=>z2 i x v hx (by simpa using hv)) hf
  refine⟨.agg Dq,?_,RA.join hl hc⟩;simp only[execOp,ho,Instr.build];have hm:(Array.mapM (fun f=>(do pure (f.offset,← sizeOf f.type):Sem (Nat×Nat))) fs).run P w = .ok pl.toArray w:=by rw[Bu7,Sem.run_map,Aeq _ _ hpl];rfl
  have Pz:Instr.fill (fun x=>pl[x]?) z.cells (List.map (fun x=>(x.1,ac.eval x.2)) Bn3.toList)=some Dq:=A74;simp[zeroValue,typeInfo,hi,hzz,Bns hfs];simp at hm;rw[hm];simp[Pz]
end
def HR.B1j(h:HR nm B g w X)(n:Nat) :
  HR nm B { g with β:=O3 g.β n none } w ⟨X.objs,X.live.filter (· != n)⟩∧Trans [] g w { g with β:=O3 g.β n none } w:=by
 have hβ:∀m ob,O3 g.β n none m=some ob→g.β m=some ob:=by
  intro m ob hm;by_cases he:m=n
  ·subst he;rw[Ah]at hm;cases hm
  ·rwa [Ai _ _ he]at hm
 have ht:Trans [] g w { g with β:=O3 g.β n none } w:=⟨.refl _ _,fun _ _=>rfl,fun m ob _ he=>⟨hβ m ob he,fun _ _=>⟨rfl,rfl⟩⟩,fun _ _ _=>⟨rfl,fun _ _ _=>⟨rfl,rfl⟩⟩⟩;refine⟨⟨h.Cc,h.Iw,h.base,h.io,h.le,h.frame,?_,h.Fi,h.C1,h.Cf,?_,?_,?_,?_,?_,h.eta.Ati (fun L hL=>.inl ⟨?_,rfl⟩) (Bno _) (fun m b hm=>h.eta.B76 (hβ m _ hm)) fun k o hk=>h.eta.B77 hk⟩,ht⟩
 rotate_right
 ·obtain⟨ob,My⟩:=Boj.1 hL;rw[hβ L ob My];rfl
 ·intro k o hk;exact(h.objs k o hk).Cc ht rfl (.inl rfl)
 ·intro m;simp only[Bo9,bne_iff_ne,ne_eq];by_cases he:m=n
  ·subst he;simp[Ah]
  ·rw[Ai _ _ he];exact⟨fun hm=>(h.live m).1 hm.1,fun hm=>⟨(h.live m).2 hm,he⟩⟩
 ·intro m m' b hm Ut;exact h.Cq m m' b (hβ m _ hm) (hβ m' _ Ut)
 ·intro m b k o hm hk;exact h.Bz m b k o (hβ m _ hm) hk
 ·intro m b hm;exact h.D0 m b (hβ m _ hm)
 ·intro m b hm;exact h.D9 m b (hβ m _ hm)
def J7.Ato(h:J7 B g w X)(My:g.β m=some (some b)):∀L i,(O3 g.β n none L).isSome→g.η L i≠some b:=by
 intro L i hL hb;refine h.Cv L i b m ?_ hb My;by_cases he:L=n
 ·subst he;rw[Ah]at hL;cases hL
 ·rwa [Ai _ _ he]at hL
def HR.A13(h:HR nm B g w X)(hm:m∉X.live)(ob:A7 Nat)(hX:Br [m] X=true)
  (hb:∀b,ob=some b→b<w.heap.size∧(B.n0≤b∨B.allowed b)∧(∀k o,X.objs.lookup k=some o→b≠g.ρ k)∧(∀n,g.β n≠some (some b))∧∀L i,(g.β L).isSome→g.η L i≠some b) :
  HR nm B { g with β:=O3 g.β m (some ob),η:=O3 g.η m fun _=>none } w ⟨X.objs,m::X.live⟩∧Trans [m] g w { g with β:=O3 g.β m (some ob),η:=O3 g.η m fun _=>none } w:=by
 have ht:Trans [m] g w { g with β:=O3 g.β m (some ob),η:=O3 g.η m fun _=>none } w:=by
  refine⟨.refl _ _,fun _ _=>rfl,fun n ob' hn he=>?_,fun L hL _=>⟨Ai _ _ (by simpa using hL),fun _ _ _=>⟨rfl,rfl⟩⟩⟩;have hne:n≠m:=by simpa using hn
  simp only[Ai _ _ hne]at he;exact⟨he,fun _ _=>⟨rfl,rfl⟩⟩
 have hβ:∀n b,O3 g.β m (some ob) n=some (some b)→(n=m∧ob=some b)∨(n≠m∧g.β n=some (some b)):=by
  intro n b hn;by_cases he:n=m
  ·subst he;rw[Ah]at hn;exact .inl ⟨rfl,by simpa using hn⟩
  ·rw[Ai _ _ he]at hn;exact .inr ⟨he,hn⟩
 refine⟨⟨h.Cc,h.Iw,h.base,h.io,h.le,h.frame,?_,h.Fi,h.C1,h.Cf,?_,?_,?_,?_,?_,h.eta.Ati (fun L hL=>?_) (Bno _) (fun n b hn=>?_) fun k o hk=>h.eta.B77 hk⟩,ht⟩
 rotate_right 2
 ·by_cases he:L=m
  ·subst he;exact .inr fun i=>by simp only[Ah]
  ·exact .inl ⟨by simpa only [Ai _ _ he]using hL,Ai _ _ he⟩
 ·rcases hβ n b hn with ⟨rfl,e⟩|⟨hne,hn⟩
  ·exact(hb b e).2.2.2.2
  ·exact h.eta.B76 hn
 ·intro k o hk;exact(h.objs k o hk).Cc ht rfl (Ja hX hk)
 ·intro n;simp only[Bnd];by_cases he:n=m
  ·subst he;simp[Ah]
  ·simp only[he,Bue,Ai _ _ he];exact h.live n
 ·intro n n' b hn Th;have c1:=hβ n b hn;have c2:=hβ n' b Th;clear hn Th;rcases c1 with ⟨e1,e⟩|⟨hne,hn⟩<;>rcases c2 with ⟨e2,e'⟩|⟨Ub,Th⟩
  ·rw[e1,e2]
  ·exact((hb b e).2.2.2.1 n' Th).elim
  ·exact((hb b e').2.2.2.1 n hn).elim
  ·exact h.Cq n n' b hn Th
 ·intro n b k o hn hk;rcases hβ n b hn with ⟨rfl,e⟩|⟨hne,hn⟩
  ·exact(hb b e).2.2.1 k o hk
  ·exact h.Bz n b k o hn hk
 ·intro n b hn;rcases hβ n b hn with ⟨rfl,e⟩|⟨hne,hn⟩
  ·exact(hb b e).2.1
  ·exact h.D0 n b hn
 ·intro n b hn;rcases hβ n b hn with ⟨rfl,e⟩|⟨hne,hn⟩
  ·exact(hb b e).1
  ·exact h.D9 n b hn
def HR.raise(h:HR nm B g w X)(By:b<w.heap.size)(A7o:B.n0≤b∨B.allowed b)
  (A2k:∀k o,X.objs.lookup k=some o→b≠g.ρ k) (Ag7:∀m,g.β m≠some (some b)) (Bkh:∀L i,(g.β L).isSome→g.η L i≠some b) (hs:w'.heap.size=w.heap.size) (hio:w'.os=w.os∧w'.output=w.output∧w'.tape=w.tape∧w.drawn≤w'.drawn) (Sa:∀b',b'≠b→w'.heap[b']? = w.heap[b']?)
  (hold:∀i,i<g.γ b→w'.cell? ⟨b,i,none⟩=w.cell? ⟨b,i,none⟩) (hn:g.γ b≤n) (Beh:∀i,i<n→(w'.cell? ⟨b,i,none⟩).isSome) (Bfh:∀s,w.shape? b=some s→w'.shape? b=some s) :
  HR nm B { g with γ:=O3 g.γ b n } w' X∧Trans [] g w { g with γ:=O3 g.γ b n } w':=by
 have hup:∀b',g.γ b'≤O3 g.γ b n b':=by
  intro b';by_cases he:b'=b
  ·subst he;rw[Ah];exact hn
  ·rw[Ai _ _ he];exact Bno _
 have N0:∀b' i,i<g.γ b'→w'.cell? ⟨b',i,none⟩=w.cell? ⟨b',i,none⟩:=by
  intro b' i hi;by_cases he:b'=b
  ·subst he;exact hold i hi
  ·exact Gl (Sa b' he) i none
 have N1:∀b' s,w.shape? b'=some s→w'.shape? b'=some s:=by
  intro b' s Hv;by_cases he:b'=b
  ·subst he;exact Bfh s Hv
  ·rw[I2 (Sa b' he)];exact Hv
 have Bki:∀m b',g.β m=some (some b')→b'≠b:=fun m b' hm he=>Ag7 m (he▸hm)
 have ht:Trans [] g w { g with γ:=O3 g.γ b n } w':=⟨⟨hup,N0,N1⟩,fun _ _=>rfl,fun m ob _ he=>⟨he,fun b' Iy=>by
  have:=Bki m b' (Iy▸he);exact⟨Ai _ _ this,Sa b' this⟩⟩,fun L _ hL=>⟨rfl,fun i b' Iy=>by
  have:b'≠b:=fun he=>Bkh L i hL (he▸Iy)
  exact⟨Ai _ _ this,Sa b' this⟩⟩⟩
 refine⟨⟨h.Cc,?_,by rw[hs];exact h.base,⟨hio.1.trans h.io.1,hio.2.1.trans h.io.2.1,hio.2.2.1.trans h.io.2.2.1,Bop h.io.2.2.2 hio.2.2.2⟩,⟨fun b'=>Bop (h.le.up b') (hup b'),fun b' i hi=>(N0 b' i (Bp7 hi (h.le.up b'))).trans (h.le.cell b' i hi),fun b' s Hv=>N1 b' s (h.le.shape b' s Hv)⟩,?_,?_,?_,
  h.C1,h.Cf,h.live,h.Cq,h.Bz,h.D0,fun m b' hm=>by rw[hs];exact h.D9 m b' hm,h.eta.Ati (fun L hL=>.inl ⟨hL,rfl⟩) (by rw[hs];exact Bno _) (fun n b hn=>h.eta.B76 hn) fun k o hk=>h.eta.B77 hk⟩,ht⟩
 ·intro b' i hi;by_cases he:b'=b
  ·subst he;simp only[Ah]at hi;exact Beh i hi
  ·simp only[Ai _ _ he]at hi;rw[N0 b' i hi];exact h.Iw b' i hi
 ·intro b' Iy hna;have hne:b'≠b:=by
   rintro rfl;rcases A7o with h1|h1
   ·omega
   ·exact hna h1
  have:=h.frame b' Iy hna;exact⟨(Sa b' hne).trans this.1,by simp only[Ai _ _ hne];exact this.2⟩
 ·intro k o hk;exact(h.objs k o hk).Cc ht (Sa _ (A2k k o hk).symm) (.inl rfl)
 ·intro k o hk;simp only[Ai _ _ (A2k k o hk).symm];exact h.Fi k o hk
def RD.A9h(h:RD γ w (.sl sz es) v)(hs:∀b i,i<γ b→(w.cell? ⟨b,i,none⟩).isSome) :
  ∃base cap,v = .slice base es.length cap∧es.length≤cap∧(base=none→cap=0)∧(∀(i:Nat) (cs:A6 D),es[i]? = some cs→cs.length=sz) ∧
   ∃cells:A6 Value,cells.length=es.length*sz∧(∀w':World,(∀b i,i<γ b→w'.cell? ⟨b,i,none⟩=w.cell? ⟨b,i,none⟩)→(Builtin.firstCells sz es.length v).run P w' = .ok cells.toArray w') ∧
    ∀(i j:Nat) (cs:A6 D) c u,es[i]? = some cs→cs[j]? = some c→cells[i*sz+j]? = some u→RD γ w c u:=by
 cases h with
 |nil _ a cap h0=>exact⟨a,cap,rfl,Bq9 _,h0,by simp,[],by simp,fun w' _=>by cases a<;>simp[Builtin.firstCells,loadCells,loadCellsFrom],by simp⟩
 |sl _ _ b off len cap hl hγ Yw Jq hc =>
  subst hl;have hex:∀i,i<es.length*sz→∃u,w.cell? ⟨b,off+i,none⟩=some u:=fun i hi=>Boj.1 (hs b (off+i) (by omega))
  have Mi:∀i,i<es.length*sz→w.cell? ⟨b,off+i,none⟩=some ((w.cell? ⟨b,off+i,none⟩).getD undef):=fun i hi=>by
   obtain⟨u,hu⟩:=hex i hi;rw[hu];rfl
  refine⟨some ⟨b,off,none⟩,cap,rfl,Yw,by simp,Jq,(List.range (es.length*sz)).map (fun i=>(w.cell? ⟨b,off+i,none⟩).getD undef),by simp,?_,?_⟩
  ·intro w' hw';refine run_firstCells_some w' sz es.length _ _ _ _ (by simp) ?_;intro j u hu;rw[Bni,Bnn]at hu;obtain⟨i,hi,rfl⟩:=hu;have By:j<es.length*sz:=by have:=(Bnj.1 hi).1;simpa using this
   have:i=j:=by rw[Bso By]at hi;simpa using hi.symm
   subst this;rw[addr_add,hw' b _ (by omega)];exact Mi i By
  ·intro i j cs c u hi hj hu;have h1:i<es.length:=(Bnj.1 hi).1;have h2:j<cs.length:=(Bnj.1 hj).1;rw[Jq i cs hi]at h2;have By:=A56 h1 h2;rw[Bni,Bso By]at hu;simp only[Bol,Bnf]at hu;refine hc i cs j c u hi hj ?_;rw[Bqa,Mi _ By,hu]
def RD.L6(hγ:off+es.length*sz≤γ b)(Yw:es.length≤cap)
  (Jq:∀(i:Nat) (cs:A6 D),es[i]? = some cs→cs.length=sz)
  (hc:∀(i j:Nat) (cs:A6 D) c u,es[i]? = some cs→cs[j]? = some c→w.cell? ⟨b,off+(i*sz+j),none⟩=some u→RD γ w c u) :
  RD γ w (.sl sz es) (.slice (some ⟨b,off,none⟩) es.length cap) :=
 .sl sz es b off es.length cap rfl hγ Yw Jq fun i cs j c v hi hj hv=>hc i j cs c v hi hj (by rw[← Bqa];exact hv)
def RD.Zs(hl:len=es.length)(hγ:off+len*sz≤γ b)(Yw:len≤cap)
  (Jq:∀(i:Nat) (cs:A6 D),es[i]? = some cs→cs.length=sz)
  (hc:∀(i j:Nat) (cs:A6 D) c u,es[i]? = some cs→cs[j]? = some c→w.cell? ⟨b,off+(i*sz+j),none⟩=some u→RD γ w c u) :
  RD γ w (.sl sz es) (.slice (some ⟨b,off,none⟩) len cap):=by
 subst hl;exact .L6 hγ Yw Jq hc
theorem Pu{P:Program}{b off:Nat}{T:TypeId}{fr:Nat×Nat}:∀(vs:A6 Value) (i:Nat) (w:World) (arr:Array Value),w.heap[b]? = some (.cells arr T fr) →
  (∀v∈vs,v.oneCell'=true)→off+i+vs.length≤arr.size→(∀j,off+i≤j→j<off+i+vs.length→w.frozen? ⟨b,j,none⟩=false) →
  ∃w' Dq,(storeCells ⟨b,off,none⟩ vs i).run P w = .ok () w'∧w'.heap[b]? = some (.cells Dq T fr)∧Dq.size=arr.size ∧
   (∀j,Dq[j]? = if off+i≤j∧j<off+i+vs.length then vs[j-(off+i)]? else arr[j]?)∧w'.heap.size=w.heap.size∧(∀b',b'≠b→w'.heap[b']? = w.heap[b']?)∧(w'.os=w.os∧w'.output=w.output∧w'.tape=w.tape∧w.drawn≤w'.drawn)
 |[],i,w,arr,hb,_,_,_=>⟨w,arr,rfl,hb,rfl,fun j=>by rw[Bnv (by simp only[Bpj];omega)],rfl,fun _ _=>rfl,rfl,rfl,rfl,Bno _⟩
 |v::vs,i,w,arr,hb,h1,hl,hf=>by
  simp only[Bnx]at hl hf;have By:off+i<arr.size:=by omega
  have hv:v.oneCell'=true:=h1 v Bnm;have N0:w.cell? ⟨b,off+i,none⟩=some arr[off+i]:=by rw[Cg hb];simp[By]
  have hfr:w.frozen? ⟨b,off+i,none⟩=false:=hf (off+i) (Bno _) (by omega);have Bfj:b<w.heap.size:=(Bny.1 hb).1;have Zr:(w.setCell ⟨b,off+i,none⟩ v).heap[b]? = some (.cells (arr.setIfInBounds (off+i) v) T fr):=by simp only[World.setCell,Bq7,hb,Bpz,Bol];rfl
  have hst:(store (⟨b,off+i,none⟩:Addr) v).run P w = .ok () (w.setCell ⟨b,off+i,none⟩ v):=by rw[run_store P w _ v _ hv,N0,hfr];rfl
  obtain⟨w',Dq,hr,Iy,Hv,Vx,hz',ho',Md⟩:=Pu (P:=P) (b:=b) (off:=off) (T:=T) vs (i+1) (w.setCell ⟨b,off+i,none⟩ v) _ Zr
   (fun u hu=>h1 u (Bnl _ hu)) (by simp;omega) (fun j h2 h3=>by rw[World.frozen?_setCell];exact hf j (by omega) (by omega))
  refine⟨w',Dq,?_,Iy,by rw[Hv];simp,?_,by rw[hz'];simp,fun b' hne=>by rw[ho' b' hne];exact heap_setCell_other w _ b' v hne,Md⟩
  ·simp only[storeCells];rw[addr_add,Boc,hst,Bo5];exact hr
  ·intro j;rw[Vx j];by_cases h1:j=off+i
   ·subst h1;rw[Bnv (by omega),Bo3 (by simp only[Bnx];omega)];simp[By]
   ·by_cases h2:off+(i+1)≤j∧j<off+(i+1)+vs.length
    ·rw[Bo3 h2,Bo3 (by simp only[Bnx];omega)];rw[show j-(off+i)=(j-(off+(i+1)))+1 by omega];rfl
    ·rw[Bnv h2,Bnv (by simp only[Bnx];omega)];simp[Bq5 h1]
def A2l:D→Bool
 |.sc u=>u.oneCell'
 |.agg _=>false
 |_=>true
def Ahf{x:D}(h:RD γ w x v)(ho:A2l x=true):v.oneCell'=true:=by
 cases h with
 |sc v=>exact ho
 |agg=>simp[A2l]at ho
 |nil=>rfl
 |sl=>rfl
 |ep=>rfl
 |any q v h1 h2=>exact h2
def A2m(he:∀(i:Nat) cs,es[i]? = some cs→cs.length=sz)(hf:∀(i:Nat) cs,fs[i]? = some cs→cs.length=sz)(i:Nat)(cs:A6 D)
  (h:(es++fs)[i]? = some cs):cs.length=sz:=by
 rw[Boz]at h;split at h
 ·exact he i cs h
 ·exact hf _ cs h
def Hw{ty:TypeId}(h0:ts[0]? = some t)(h1:ts[1]? = some u)(hu:P.underlying u=some (.slice e'))
  (ht:P.underlying t=some (.slice e)) (hi:P.info? e=some i)
  {base:A7 Addr}   (hx:(Builtin.firstCells i.size n (.slice xb n xc)).run P w = .ok Bn6.toArray w) (Oq:len+n≤cap)
  (hst:(base=none∧w'=w)∨∃a,base=some a∧(storeCells (a.add (len*i.size)) Bn6).run P w = .ok () w') :
  (Builtin.append_ ts ty #[.slice base len cap,.slice xb n xc]).run P w = .ok (.slice base (len+n) cap) w':=by
 rcases hst with ⟨rfl,rfl⟩|⟨a,rfl,hst⟩
 ·simp[Builtin.append_,h0,h1,Bns ht,Bns hu,sizeOf,typeInfo,hi,Builtin.lenOf,Oq,hx]
 ·simp[Builtin.append_,h0,h1,Bns ht,Bns hu,sizeOf,typeInfo,hi,Builtin.lenOf,Oq,hx,hst]
def R1{ty:TypeId}(h0:ts[0]? = some t)(h1:ts[1]? = some u)(hu:P.underlying u=some (.slice e'))
  (ht:P.underlying t=some (.slice e)) (hi:P.info? e=some i) (hz:i.zero=some z)
  {base:A7 Addr}  {olds:A6 Value} (hx:(Builtin.firstCells i.size n (.slice xb n xc)).run P w.drew = .ok Bn6.toArray w.drew)
  (ho:(Builtin.firstCells i.size len (.slice base len cap)).run P w.drew = .ok olds.toArray w.drew) (Oq:¬len+n≤cap)
  (h63:((len+n:Nat):Int)≤9223372036854775807) (h48:(len+n)*i.bytes≤140737488355328) :
  (Builtin.append_ ts ty #[.slice base len cap,.slice xb n xc]).run P w =
   .ok (.slice (some ⟨w.heap.size,0,none⟩) (len+n) (grownCap w (len+n) cap e))
    (w.drew.alloc (.cells (olds.toArray++Bn6.toArray++Builtin.zeroCells z.cells (grownCap w (len+n) cap e-(len+n))) e)):=by
 have Bkj:¬(9223372036854775807<((len:Int)+(n:Int))):=by omega
 have Acf:=growslice_fits (need:=len+n) (old:=cap) (by omega) h48;have Bkk:¬(281474976710656<Builtin.nextslicecap (len+n) cap*i.bytes):=by omega
 simp[Builtin.append_,h0,h1,Bns ht,Bns hu,sizeOf,typeInfo,zeroValue,hi,hz,Builtin.lenOf,Oq,Bkj,Bkk,Question.forced,hx,ho,Go.newRow,grownCap];congr 2;apply Array.ext';simp[Bqx]
def Aer(Jq:∀(i:Nat) cs,fs[i]? = some cs→cs.length=sz)(hk:k<fs.length*sz) :
  ∃(i j:Nat) (cs:A6 D) (c:D),k=i*sz+j∧fs[i]? = some cs∧cs[j]? = some c:=by
 have Ud:0<sz:=by
  rcases Bpl sz with h|h
  ·subst h;simp at hk
  ·exact h
 have h1:k/sz<fs.length:=by rw[Bt9 Ud];exact hk
 have h2:k % sz<sz:=Bt0 _ Ud;have h3:(fs[k/sz]).length=sz:=Jq (k/sz) _ (by simp[h1]);exact⟨k/sz,k % sz,fs[k/sz],(fs[k/sz])[k % sz]'(by omega),by rw[Buz];exact(Nat.div_add_mod k sz).symm,by simp[h1],by simp[h3,h2]⟩
section
variable{P:Program}{o:Oper}{X:Ad}
def Bhw(P:Program)(g:Gh)(w:World)(sz:Nat)(fs:A6 (A6 D))(vx:Value):Prop :=
 ∃xb xc,vx = .slice xb fs.length xc∧(∀(i:Nat) (cs:A6 D),fs[i]? = some cs→cs.length=sz)∧∃Bn6:A6 Value,Bn6.length=fs.length*sz ∧
  (Builtin.firstCells sz fs.length vx).run P w = .ok Bn6.toArray w∧(Builtin.firstCells sz fs.length vx).run P w.drew = .ok Bn6.toArray w.drew ∧
   ∀(i j:Nat) (cs:A6 D) c u,fs[i]? = some cs→cs[j]? = some c→Bn6[i*sz+j]? = some u→RD g.γ w c u
def Alk(m:Nat)
  (ho:o.op = .call { callee:=.builtin .append,args:=#[s,x],argTypes:=ts }) (h0:ts[0]? = some t) (h1:ts[1]? = some u) (hu:P.underlying u=some (.slice e'))
  (ht:P.underlying t=some (.slice e)) (hi:P.info? e=some i) (hz:i.zero=some z) (hzs:z.cells.size=sz) (Jq:i.size=sz) (hn:n∈X.live) (hm:m∉X.live.filter (· != n)) (hX:Br [m] X=true)
  (K0:∀cs∈fs,∀c∈cs,A2l c=true) (A2n:(es.length+fs.length)*i.bytes≤140737488355328) (hlen:es.length+fs.length≤4611686018427387904)
  (hty:∀e',ty=some e'→e'=e) (ax:AV) (hax:∀ {nm:A6 Nat} {B:B8} {g:Gh} {w:World} {v:Value},HR nm B g w X→RA g w ax v→Bhw P g w sz fs v) :
  Ca P o [(s,.Cv n sz es ty),(x,ax)] X ⟨X.objs,m::X.live.filter (· != n)⟩ [m] (.Cv m sz (es++fs) ty):=by
 subst Jq;intro nm G3 B g w a hr Bg next Q Gu
 have e1:=Lz Bg;have e2:=rd1 Bg;simp only at e1 e2;unfold Oper.wp;have Fj:∀r,(Builtin.append_ ts o.type #[a.eval s,a.eval x]).run P w=r→(execOp a.eval o).run P w=r.andThen fun v w'=>.ok (.value v) w':=by intro r hr';simp only[execOp,ho,resolve];simp[invoke,builtin,hr']
 generalize a.eval s=vs at e1 Fj;generalize a.eval x=vx at e2 Fj;cases e1 with
 |Cv _ _ _ _ _ e1 Ag7 =>
 obtain⟨base,cap,rfl,Yw,hbn,Bkl,olds,hol,Bei,hoc⟩:=e1.A9h (P:=P) hr.Iw;obtain⟨xb,xc,rfl,Agc,Bn6,hnl,Ap2,Bfk,hnc⟩:=hax hr e2;have Amr:=A2m Bkl Agc;have My:∃ob,g.β n=some ob:=Boj.1 ((hr.live n).1 hn);obtain⟨ob,My⟩:=My;obtain⟨hr1,ht1⟩:=hr.B1j n;have Atp:∀v∈Bn6,v.oneCell'=true:=by
  intro v hv;obtain⟨k,hk⟩:=Bpu.1 hv;have Bkm:k<fs.length*i.size:=by have:=(Bnj.1 hk).1;omega
  obtain⟨p,q,cs,c,rfl,hp,hq⟩:=Aer Agc Bkm;exact Ahf (hnc p q cs c v hp hq hk) (K0 cs (Boe hp) c (Boe hq))
 by_cases Oq:es.length+fs.length≤cap
 ·
  have same:fs=[]→(Builtin.append_ ts o.type #[.slice base es.length cap,.slice xb fs.length xc]).run P w = .ok (.slice base es.length cap) w →
    base=none →
    Oper.upon P o a next Q ((execOp a.eval o).run P w):=by
   intro hf hrn Bhx;obtain⟨hr2,ht2⟩:=hr1.A13 (m:=m) hm none hX (by simp);rw[Fj _ hrn];subst hf;simp only[Bom]at *;refine Gu _ w _ hr2 (ht1.trans ht2) (.Cv m i.size es ty _ (e1.mono (ht1.trans ht2).le) ?_);subst Bhx;trivial
  cases hb:base with
  |none =>
   have h0':cap=0:=hbn hb;have hf:fs=[]:=by cases fs with
    |nil=>rfl
    |cons _ _=>simp at Oq;omega
   have hrn:=Hw (P:=P) (w:=w) (w':=w) (ty:=o.type) h0 h1 hu ht hi (base:=base) Ap2 Oq (.inl ⟨hb,rfl⟩);subst hb;refine same hf ?_ rfl;rw[hrn];subst hf;rfl
  |some b0 =>
   subst hb;obtain⟨b,off,sp⟩:=b0;obtain⟨hsp,htp⟩:=Ag7 ob My;simp only at hsp;subst hsp;by_cases hfe:fs=[]
   ·subst hfe;have hn0:Bn6=[]:=by simpa using hnl
    subst hn0;have hrn:=Hw (P:=P) (w:=w) (w':=w) (ty:=o.type) h0 h1 hu ht hi (base:=some ⟨b,off,none⟩) Ap2 Oq (.inr ⟨_,rfl,rfl⟩);obtain⟨A2o,hγ,Ahg,B3t⟩:=htp
    ·
     subst A2o;obtain⟨hr2,ht2⟩:=hr1.A13 (m:=m) hm (some b) hX (by
      intro b' Iy;cases Iy;refine⟨hr.D9 n b My,hr.D0 n b My,fun k p hk=>hr.Bz n b k p My hk,fun n' Th=>?_,hr.eta.Ato My⟩;by_cases he:n'=n
      ·subst he;simp[Ah]at Th
      ·simp only[Ai _ _ he]at Th;exact he (hr.Cq n' n b Th My))
     rw[Fj _ hrn];simp only[Bom]at Gu;refine Gu _ w _ hr2 (ht1.trans ht2) (.Cv m i.size es ty _ (e1.mono (ht1.trans ht2).le) ?_)
     ·intro ob' A2o;simp only[Ah,Bnf]at A2o;exact⟨rfl,A2o.symm,hγ,Ahg,B3t⟩
   ·have Ud:0<fs.length:=Bsp.2 hfe;obtain⟨A2o,hγ,Ahg,B3t⟩:=htp;subst A2o;simp only at hγ Ahg;have Bfj:=hr.D9 n b My;have Bn8:(es.length+fs.length)*i.size=es.length*i.size+fs.length*i.size:=Bqh _ _ _;have Bmf:(es.length+fs.length)*i.size≤cap*i.size:=Bpn _ Oq;have Bn7:fs.length*i.size=0∨∃arr T fr,w.heap[b]? = some (.cells arr T fr)∧off+cap*i.size≤arr.size:=by
     rcases Bpl (fs.length*i.size)with h|h
     ·exact .inl h
     ·right;have Atq:=Ahg (off+cap*i.size-1) (by omega) (by omega);obtain⟨v,hv⟩:=Boj.1 Atq.1;unfold World.cell? at hv;simp only at hv;split at hv
      ·rename_i arr T fr hh;refine⟨arr,T,fr,hh,?_⟩;simp at hv;have:=(Bny.1 hv).1;omega
      ·cases hv
    rcases Bn7 with Bn9|⟨arr,T,fr,Bn7,A2f⟩
    ·
     have hn0:Bn6=[]:=Br3.1 (by omega);subst hn0;have hrn:=Hw (P:=P) (w:=w) (w':=w) (ty:=o.type) h0 h1 hu ht hi (base:=some ⟨b,off,none⟩) Ap2 Oq (.inr ⟨_,rfl,rfl⟩);obtain⟨hr2,ht2⟩:=hr1.A13 (m:=m) hm (some b) hX (by
      intro b' Iy;cases Iy;refine⟨hr.D9 n b My,hr.D0 n b My,fun k p hk=>hr.Bz n b k p My hk,fun n' Th=>?_,hr.eta.Ato My⟩;by_cases he:n'=n
      ·subst he;simp[Ah]at Th
      ·simp only[Ai _ _ he]at Th;exact he (hr.Cq n' n b Th My))
     rw[Fj _ hrn];refine Gu _ w _ hr2 (ht1.trans ht2) (.Cv m i.size _ ty _ ?_ ?_)
     ·refine .Zs Bp4.symm (by simp only;omega) Oq Amr ?_;intro p q cs c v hp hq hv;have h2:q<cs.length:=(Bnj.1 hq).1;rw[Amr p cs hp]at h2;have:i.size=0:=by
       rcases Nat.mul_eq_zero.1 Bn9 with h|h
       ·omega
       ·exact h
      omega
     ·intro ob' A2o;simp only[Ah,Bnf]at A2o;refine⟨rfl,A2o.symm,?_,?_,B3t⟩
      ·simp only;omega
      ·intro p h3 h4;exact Ahg p (by simp only at h3;omega) h4
    ·obtain⟨w',Dq,hst,Iy,Hv,Vx,hz',A33,Md⟩:=Pu (P:=P) (off:=off+es.length*i.size) Bn6 0 w arr Bn7 Atp (by omega) (by
      intro j h3 h4;exact(Ahg j (by omega) (by omega)).2)
     have hrn:=Hw (P:=P) (w:=w) (w':=w') (ty:=o.type) h0 h1 hu ht hi (base:=some ⟨b,off,none⟩) Ap2 Oq (.inr ⟨_,rfl,by rw[addr_add];exact hst⟩);simp only[Br0]at Vx;have Bej:∀k,k<off+es.length*i.size→w'.cell? ⟨b,k,none⟩=w.cell? ⟨b,k,none⟩:=by intro k hk;rw[Cg Iy,Cg Bn7,Vx k,Bnv (by omega)]
     have Bfm:∀k,k<off+(es.length+fs.length)*i.size→(w'.cell? ⟨b,k,none⟩).isSome:=by
      intro k hk;rw[Cg Iy];have:k<Dq.size:=by omega
      simp[this]
     obtain⟨hr2,ht2⟩:=hr1.raise (w':=w') (b:=b) (n:=off+(es.length+fs.length)*i.size) Bfj (hr.D0 n b My) (fun k p hk=>hr.Bz n b k p My hk) (by
      intro n' Th;by_cases he:n'=n
      ·subst he;simp[Ah]at Th
      ·simp only[Ai _ _ he]at Th;exact he (hr.Cq n' n b Th My)) (hr.eta.Ato My) hz' Md A33 (by intro k hk;exact Bej k (by simp only at hk;omega)) (by simp only;omega) Bfm (by
      intro s hs0;simp only[World.shape?,Bn7]at hs0;simp only[World.shape?,Iy,Hv];exact hs0)
     obtain⟨hr3,ht3⟩:=hr2.A13 (m:=m) hm (some b) hX (by
      intro b' Iy;cases Iy;refine⟨by rw[hz'];exact Bfj,hr.D0 n b My,fun k p hk=>hr.Bz n b k p My hk,fun n' Th=>?_,hr.eta.Ato My⟩;by_cases he:n'=n
      ·subst he;simp[Ah]at Th
      ·simp only[Ai _ _ he]at Th;exact he (hr.Cq n' n b Th My))
     have hT:=(ht1.trans ht2).trans ht3;rw[Fj _ hrn];refine Gu _ w' _ hr3 hT (.Cv m i.size _ ty _ ?_ ?_)
     ·refine .Zs Bp4.symm (by simp only[Ah];omega) Oq Amr ?_;intro p q cs c v hp hq hv;have h2:q<cs.length:=(Bnj.1 hq).1;rw[Amr p cs hp]at h2;rw[Boz]at hp;split at hp
      ·rename_i Ay3;have By:=A56 Ay3 h2;rw[Bej _ (by omega)]at hv;have hold:=Bei w fun _ _ _=>rfl
       cases e1 with
       |nil=>simp at hp
       |sl _ _ _ _ _ _ _ _ _ _ hc =>exact(hc p cs q c v hp hq (by rw[Bqa];exact hv)).mono hT.le
      ·rename_i Bkn;have Ay3:p-es.length<fs.length:=by have:=(Bnj.1 hp).1;omega
       have By:=A56 Ay3 h2;have hpq:p*i.size+q=es.length*i.size+((p-es.length)*i.size+q):=by
        have:p=es.length+(p-es.length):=by omega
        conv=>lhs;rw[this,Bqh]
        omega
       rw[Cg Iy,Vx,Bo3 (by omega)]at hv;refine(hnc (p-es.length) q cs c v hp hq ?_).mono hT.le;rw[← hv];congr 1;omega
     ·intro ob' A2o;simp only[Ah,Bnf]at A2o;refine⟨rfl,A2o.symm,by simp only[Ah],?_,?_⟩
      rotate_left
      ·intro e1 he1;obtain⟨h1,c,h2⟩:=B3t e1 he1;refine⟨h1,Dq.size,?_⟩;simp only[World.shape?,Bn7]at h2;simp only[World.shape?,Iy];simp only[Bnf,Bo2]at h2;rw[h2.1]
      intro p h3 h4;simp only at h3 h4;have h5:=Ahg p (by omega) h4;refine⟨?_,?_⟩
      ·rw[Cg Iy];have:p<Dq.size:=by omega
       simp[this]
      ·have:=h5.2;simp only[World.frozen?,Bn7]at this;simp only[World.frozen?,Iy];exact this
 ·
  obtain⟨Ahh,htd⟩:=hr1.drew;have hdc:∀b k,k<g.γ b→(w.drew).cell? ⟨b,k,none⟩=w.cell? ⟨b,k,none⟩:=fun _ _ _=>rfl
  have hrn:=R1 (P:=P) (w:=w) (ty:=o.type) h0 h1 hu ht hi hz Bfk (Bei w.drew hdc) Oq (by omega) A2n;have hge:=grownCap_ge w (es.length+fs.length) cap e;generalize grownCap w (es.length+fs.length) cap e=nc at hrn hge;have Bn8:(es.length+fs.length)*i.size=es.length*i.size+fs.length*i.size:=Bqh _ _ _;have Bfn:(olds.toArray++Bn6.toArray++Builtin.zeroCells z.cells (nc-(es.length+fs.length))).size=nc*i.size:=by simp only[Bsc,Bq1,Btp,hol,hnl,hzs];rw[← Bn8,← Bqh];congr 1;omega
  have Bhy:(es.length+fs.length)*i.size≤nc*i.size:=Bpn _ hge;generalize Ahi:olds.toArray++Bn6.toArray++Builtin.zeroCells z.cells (nc-(es.length+fs.length))=arr at hrn Bfn;obtain⟨hr2,ht2⟩:=Ahh.newRow arr e ((es.length+fs.length)*i.size) (by omega);obtain⟨hr3,ht3⟩:=hr2.A13 (m:=m) hm (some w.drew.heap.size) hX (by
   intro b' Iy;cases Iy;refine⟨by simp,.inl Ahh.base,fun k p hk=>?_,fun n' Th=>?_,Ahh.eta.ltN (Bno _)⟩
   ·have:=Gt (Ahh.objs k p hk);simp only at this⊢;omega
   ·have:=Ahh.D9 n' _ Th;omega)
  have hT:=((ht1.trans htd).trans ht2).trans ht3;rw[Fj _ hrn];have B1k:∀k,(w.drew.alloc (.cells arr e)).cell? ⟨w.drew.heap.size,k,none⟩=arr[k]?:=fun k=>Cg (Bqw w.drew (.cells arr e)) k
  refine Gu _ _ _ hr3 hT (.Cv m i.size _ ty _ ?_ ?_)
  ·have hww:w.heap.size=w.drew.heap.size:=rfl;rw[hww];refine .Zs Bp4.symm (by simp only[Ah];omega) hge Amr ?_;intro p q cs c v hp hq hv;have h2:q<cs.length:=(Bnj.1 hq).1;rw[Amr p cs hp]at h2;rw[Bog,B1k,← Ahi]at hv;rw[Boz]at hp;split at hp
   ·rename_i Ay3;have By:=A56 Ay3 h2;rw[Array.append_assoc,Bqj (by simp;omega)]at hv;exact(hoc p q cs c v hp hq (by simpa using hv)).mono hT.le
   ·rename_i Bkn;have Ay3:p-es.length<fs.length:=by have:=(Bnj.1 hp).1;omega
    have By:=A56 Ay3 h2;have hpq:p*i.size+q=es.length*i.size+((p-es.length)*i.size+q):=by
     have:p=es.length+(p-es.length):=by omega
     conv=>lhs;rw[this,Bqh]
     omega
    rw[Bqj (by simp;omega),Brn (by simp;omega)]at hv;refine(hnc (p-es.length) q cs c v hp hq ?_).mono hT.le;rw[← hv];simp only[Bq1,Bqf];congr 1;omega
  ·intro ob' A2o;simp only[Ah,Bnf]at A2o;subst A2o;have hww:w.heap.size=w.drew.heap.size:=rfl;refine⟨rfl,by rw[hww],by rw[hww];simp only[Ah,Bog],?_,?_⟩
   rotate_left
   ·intro e1 he1;rw[hty e1 he1];refine⟨rfl,arr.size,?_⟩;have:=Bqw w.drew (.cells arr e);simp only[World.shape?];rw[hww,this]
   intro p h3 h4;simp only[Bog]at h3 h4;rw[hww];refine⟨by rw[B1k];simp;omega,?_⟩;exact frozen_of_row _ _ _ arr e (Bqw w.drew (.cells arr e))
def B3u(m:Nat)
  (ho:o.op = .call { callee:=.builtin .append,args:=#[s,x],argTypes:=ts }) (h0:ts[0]? = some t) (h1:ts[1]? = some u) (hu:P.underlying u=some (.slice e'))
  (ht:P.underlying t=some (.slice e)) (hi:P.info? e=some i) (hz:i.zero=some z) (hzs:z.cells.size=sz) (Jq:i.size=sz) (hn:n∈X.live) (hm:m∉X.live.filter (· != n)) (hX:Br [m] X=true)
  (K0:∀cs∈fs,∀c∈cs,A2l c=true) (A2n:(es.length+fs.length)*i.bytes≤140737488355328) (hlen:es.length+fs.length≤4611686018427387904)
  (hty:∀e',ty=some e'→e'=e) :
  Ca P o [(s,.Cv n sz es ty),(x,.d (.sl sz fs))] X ⟨X.objs,m::X.live.filter (· != n)⟩ [m] (.Cv m sz (es++fs) ty) :=
 Alk m ho h0 h1 hu ht hi hz hzs Jq hn hm hX K0 A2n hlen hty _ fun hr e=>by
  cases e with
  |d _ _ e =>obtain⟨xb,xc,rfl,_,_,h1,Bn6,h2,h3,h4⟩:=e.A9h (P:=P) hr.Iw;exact⟨xb,xc,rfl,h1,Bn6,h2,h3 _ fun _ _ _=>rfl,h3 _ fun _ _ _=>rfl,h4⟩
end
structure F6(P:Program)(f:FuncId):Prop where
 is : ∃ fn, P.funcs[f]? = some fn ∧ fn.body.isSome = true ∧ (fn.name == "runtime.NumGoroutine") = false
def Dl(h:F6 P f)(args:Array Value)(w:World):(callFunc f args).run P w = .ok (.enter f args) w:=by
 obtain⟨fn,hf,hb,hn⟩:=h.is
 have Th : ¬ (fn.name = "runtime.NumGoroutine") := by simpa using hn
 have Iy:¬(fn.body=none):=by intro he;rw[he]at hb;cases hb
 simp[callFunc,hf,Th,Iy]
section
variable{P:Program}{o:Oper}{X:Ad}
def Zt{args:Array Operand}(Bg:∀p∈args.toList.zip xs,RA g w p.2 (a.eval p.1)) :
  ∀(i:Nat) x v,xs[i]? = some x→(args.map a.eval)[i]? = some v→RA g w x v:=by
 intro i x v hx hv;rw[Array.getElem?_map,Bnn]at hv;obtain⟨op,hop,rfl⟩:=hv;exact Bg (op,x) (Boe (i:=i) (by rw[Bqn];exact⟨by simpa using hop,hx⟩))
def HR.Atr(h:HR nm B g w X)(h0:HR [] (B8.of { g with β:=fun _=>none } w X0) gc w' X0) :
  HR nm B { gc with β:=g.β,ρ:=g.ρ,η:=g.η } w' X∧Trans [] g w { gc with β:=g.β,ρ:=g.ρ,η:=g.η } w':=by
 have hna:∀b,¬(B8.of { g with β:=fun _=>none } w X0).allowed b:=by
  intro b hb;rcases hb with ⟨k,o,hk,_⟩|⟨n,hn⟩
  ·simp[X0]at hk
  ·cases hn
 have hf:∀b,b<w.heap.size→w'.heap[b]? = w.heap[b]?∧gc.γ b=g.γ b:=fun b hb=>h0.frame b hb (hna b)
 have hs:w.heap.size≤w'.heap.size:=h0.base;have hle:LeD g.γ w gc.γ w':=h0.le;have ht:Trans [] g w { gc with β:=g.β,ρ:=g.ρ,η:=g.η } w':=⟨hle,fun _ _=>rfl,fun n ob _ he=>⟨he,fun b hb=>⟨(hf b (h.D9 n b (hb▸he))).2,(hf b (h.D9 n b (hb▸he))).1⟩⟩,fun L _ hL=>⟨rfl,fun i b hb=>⟨(hf b (h.eta.lt L i b hL hb)).2,(hf b (h.eta.lt L i b hL hb)).1⟩⟩⟩;refine⟨⟨h.Cc,h0.Iw,Bop h.base hs,⟨h0.io.1.trans h.io.1,h0.io.2.1.trans h.io.2.1,h0.io.2.2.1.trans h.io.2.2.1,Bop h.io.2.2.2 h0.io.2.2.2⟩,h.le.trans hle,?_,?_,?_,h.C1,h.Cf,h.live,h.Cq,h.Bz,h.D0,?_,h.eta.step (fun L hL=>.inl ⟨hL,rfl⟩) hs (fun n b hb=>.inl ⟨n,hb⟩) fun k o hk=>.inl ⟨k,o,hk,rfl⟩⟩,ht⟩
 ·intro b hb hnb;have h1:=h.frame b hb hnb;have h2:=hf b (Bp7 hb h.base);exact⟨h2.1.trans h1.1,h2.2.trans h1.2⟩
 ·intro k o hk;have:=h.objs k o hk;exact this.Cc ht (hf _ (Gt this)).1 (.inl rfl)
 ·intro k o hk;have:=h.objs k o hk;simp only[(hf _ (Gt this)).2];exact h.Fi k o hk
 ·intro n b hn;exact Bp7 (h.D9 n b hn) hs
mutual
def N3:AV→Bool
 |.d _=>true
 |.nm _ _=>false
 |.Cv _ _ _ _=>false
 |.tpt _ _ _=>false
 |.Er l=>Ch l
 |.agg l=>Ch l
 |.Ek _ l=>Ch l
def Ch:List AV→Bool
 |[]=>true
 |x::r=>N3 x&&Ch r
end
def N4(h:Ch l=true){i:Nat}{x:AV}(hx:l[i]? = some x):N3 x=true:=by
 induction l generalizing i with
 |nil=>simp at hx
 |cons y r ih =>
  simp only[Ch,Boo]at h;cases i with
  |zero=>simp at hx;subst hx;exact h.1
  |succ i=>exact ih h.2 (by simpa using hx)
def RA.data{x:AV}(h:RA g w x v)(hd:N3 x=true)(hle:LeD g.γ w g'.γ w'):RA g' w' x v:=by
 induction h with
 |d x v h=>exact .d x v (h.mono hle)
 |nm=>simp[N3]at hd
 |Cv=>simp[N3]at hd
 |tpt=>simp[N3]at hd
 |Er l vs hl _ ih=>exact .Er l vs hl fun i x v h1 h2=>ih i x v h1 h2 (N4 (by simpa[N3]using hd) h1)
 |agg l vs hl _ ih=>exact .agg l vs hl fun i x v h1 h2=>ih i x v h1 h2 (N4 (by simpa[N3]using hd) h1)
 |Ek f l vs hl _ ih=>exact .Ek f l vs hl fun i x v h1 h2=>ih i x v h1 h2 (N4 (by simpa[N3]using hd) h1)
def Does.use(hs:Does P f xs X0 res X0)(hd:Ch xs=true)(Y6:N3 res=true)
  (hr:HR nm B g w X)  (hl:xs.length=vs.size) (Qx:∀(i:Nat) x v,xs[i]? = some x→vs[i]? = some v→RA g w x v) :
  Calls P f vs w fun e w'=>∃v g',e = .returned v∧HR nm B g' w' X∧Trans [] g w g' w'∧RA g' w' res v:=by
 have h0:HR (X0.objs.map (·.1)) (B8.of { g with β:=fun _=>none } w X0) { g with β:=fun _=>none } w X0 :=
  ⟨by simp[X0],hr.Iw,Bno _,⟨rfl,rfl,rfl,Bno _⟩,.refl _ _,fun b _ _=>⟨rfl,rfl⟩,by simp[X0],by simp[X0],by simp[X0],by simp[X0],by simp[X0],by simp,by simp,by simp,by simp,.off fun _=>rfl⟩
 have:=hs { g with β:=fun _=>none } w vs h0 hl fun i x v hx hv=>(Qx i x v hx hv).data (N4 hd hx) (.refl _ _)
 refine this.mono ?_;rintro e w' ⟨gc,v,rfl,Xt,h1⟩;obtain⟨h2,h3⟩:=hr.Atr (gc:=gc) h1;exact⟨v,_,rfl,h2,h3,Xt.data Y6 (.refl _ _)⟩
def Ap3{args:Array Operand}(ho:o.op = .call { callee:=.value (.func f),args:=args,argTypes:=ts })(hf:F6 P f)
  (hs:Does P f xs X0 res X0) (hl:xs.length=args.size) (hd:Ch xs=true) (Y6:N3 res=true):Ca P o (args.toList.zip xs) X X [] res:=by
 intro nm G3 B g w a hr Bg next Q hn
 unfold Oper.wp;have:(execOp a.eval o).run P w = .ok (.enter f (args.map a.eval)) w:=by simp only[execOp,ho,resolve];simp[Act.eval,Deferred.ofValue,invoke,Dl hf]
 rw[this];refine(hs.use hd Y6 hr (by simpa using hl) (Zt Bg)).mono ?_;rintro e w' ⟨v,g',rfl,h1,h2,h3⟩;exact hn g' w' v h1 h2 h3
theorem A7p{g:Gh}{w:World}{sz:Nat}:∀(Bn3:A6 (Nat×Value)) (es:A6 (A6 D)) (k:Nat) (arr:Array Value),
  Bn3.length=es.length→(∀(i:Nat) p,Bn3[i]? = some p→p.1=k+i)→(∀(i:Nat) p cs,Bn3[i]? = some p→es[i]? = some cs→cs.length=sz∧p.2.cells.size=sz ∧
   ∀(j:Nat) c u,cs[j]? = some c→p.2.cells[j]? = some u→RD g.γ w c u)→(k+Bn3.length)*sz≤arr.size →
  ∃Dq,Instr.fill (fun i=>some (i*sz,sz)) arr Bn3=some Dq∧Dq.size=arr.size∧(∀j,j<k*sz→Dq[j]? = arr[j]?) ∧
   (∀(i j:Nat) cs c u,es[i]? = some cs→cs[j]? = some c→Dq[(k+i)*sz+j]? = some u→RD g.γ w c u)
 |[],es,k,arr,hl,_,_,_=>by
  cases es with
  |nil=>exact⟨arr,rfl,rfl,fun _ _=>rfl,by simp⟩
  |cons _ _=>simp at hl
 |(i0,v)::Bn3,es,k,arr,hl,hi,hp,Jq=>by
  cases es with
  |nil=>simp at hl
  |cons cs es =>
   have e0:i0=k:=by simpa using hi 0 (i0,v) rfl
   subst e0;obtain⟨h1,h2,h3⟩:=hp 0 (i0,v) cs rfl rfl;simp only at h2 h3;simp only[Bnx]at Jq hl;have Bn8:(i0+(Bn3.length+1))*sz=i0*sz+(Bn3.length+1)*sz:=Bqh _ _ _;have Bmg:(Bn3.length+1)*sz=Bn3.length*sz+sz:=Bpx _ _;have Bhz:(i0+1)*sz=i0*sz+sz:=Bpx _ _;simp only[Instr.fill];rw[Bnv (by simp;omega)];have hrw:(Array.foldl (fun cs (x:Value×Nat)=>match x with|(c,j)=>cs.setIfInBounds (i0*sz+j) c) arr v.cells.zipIdx)=(v.cells.toList.zipIdx 0).foldl (fun cs p=>cs.setIfInBounds (i0*sz+p.2) p.1) arr:=by rw[← Array.foldl_toList,Array.toList_zipIdx]
   rw[hrw];obtain⟨Dq,hf,Hv,M1,hr'⟩:=A7p (g:=g) (w:=w) (sz:=sz) Bn3 es (i0+1) ((v.cells.toList.zipIdx 0).foldl (fun cs p=>cs.setIfInBounds (i0*sz+p.2) p.1) arr) (by omega)
    (fun i p Vx=>by have:=hi (i+1) p (by simpa using Vx);omega) (fun i p Xv Vx hc'=>hp (i+1) p Xv (by simpa using Vx) (by simpa using hc'))
    (by rw[Wd];rw[Bqh,Bhz];omega)
   refine⟨Dq,hf,by rw[Hv,Wd],?_,?_⟩
   ·intro j hj;rw[M1 j (by omega),Ace _ _ _ _ _ (by simp;omega),Bnv (by omega)]
   ·intro i j Xv c u hc hj hu;cases i with
    |zero =>
     simp at hc;subst hc;have Bby:j<sz:=by have:=(Bnj.1 hj).1;omega
     rw[Br0,M1 _ (by omega),Ace _ _ _ _ _ (by simp;omega)]at hu;rw[Bo3 (by simp;omega)]at hu;refine h3 j c u hj ?_;have:i0*sz+j-(i0*sz+0)=j:=by omega
     rw[this]at hu;simpa using hu
    |succ i =>
     refine hr' i j Xv c u (by simpa using hc) hj ?_;rw[← hu];have:i0+1+i=i0+(i+1):=by omega
     rw[this]
def All{xs:A6 D}(ho:o.op = .buildSlice t n Bn3)(ht:P.underlying t=some (.slice e))
  (hi:P.info? e=some i) (hz:i.zero=some z) (Jq:i.size=sz) (hx:xs.length=n) (Ay4:Bn3.toList.map (·.1)=List.range n) (Jr:(xs.all fun x=>A6k (.d x)&&x.cells.length==sz)=true)
  (A2n:n*sz≤16777216):Ca P o ((Bn3.toList.map (·.2)).zip (xs.map .d)) X X [] (.d (.sl sz (xs.map D.cells))):=by
 subst Jq;intro nm G3 B g w a hr Bg next Q hn
 have hpl:Bn3.toList.length=n:=by rw[← Bo1 (f:=(·.1)),Ay4,Bu1]
 unfold Oper.wp;have Ahj:∀(j:Nat) p x,Bn3.toList[j]? = some p→xs[j]? = some x→RA g w (.d x) (a.eval p.2):=by
  intro j p x hp hx';exact Bg (p.2,.d x) (Boe (i:=j) (by
   rw[Bqn];exact⟨by rw[Bni,hp];rfl,by rw[Bni,hx'];rfl⟩))
 have Ahk:∀(j:Nat) x,xs[j]? = some x→A6k (.d x)=true∧x.cells.length=i.size:=by intro j x hx';have:=Bok.1 Jr x (Boe hx');simpa using this
 generalize A2g:((Array.range (n*i.size)).map fun x=>(if n*i.size=0 then #[]else z.cells)[x % (if n*i.size=0 then #[]else z.cells).size]!)=A9i;have Ahl:A9i.size=n*i.size:=by subst A2g;simp
 obtain⟨Dq,A74,Hv,_,hc'⟩:=A7p (g:=g) (w:=w) (sz:=i.size) (Bn3.toList.map fun p=>(p.1,a.eval p.2)) (xs.map D.cells) 0 A9i (by simp[hpl,hx]) (by
  intro j p hp;rw[Bni,Bnn]at hp;obtain⟨q,hq,rfl⟩:=hp;have hj:j<n:=by have:=(Bnj.1 hq).1;omega
  have:(Bn3.toList.map (·.1))[j]? = some q.1:=by rw[Bni,hq];rfl
  rw[Ay4,Bso hj]at this;simp at this;simp[this]) (by
  intro j p cs hp Tg;rw[Bni,Bnn]at hp Tg;obtain⟨q,hq,rfl⟩:=hp;obtain⟨x,hx',rfl⟩:=Tg;obtain⟨f1,f2⟩:=Ahk j x hx';obtain⟨c1,c2⟩:=(Ahj j q x hq hx').cells f1;have hcl:(AV.d x).cells.length=x.cells.length:=by simp[AV.cells]
  refine⟨f2,by simp only;omega,?_⟩;intro k c u hk hu;have:=c2 k (.d c) u (by simp[AV.cells,hk]) hu;cases this with
  |d _ _ h=>exact h) (by simp[hpl,Ahl])
 have Fj:(execOp a.eval o).run P w = .ok (.value (.slice (some ⟨w.heap.size,0,none⟩) n n)) (w.alloc (.cells Dq e)):=by
  simp only[execOp,ho,Instr.buildSlice];have h24:¬(n*i.size>2 ^ 24):=by omega
  by_cases h0:n*i.size=0
  ·have e0:A9i=#[]:=Bos (by omega);subst e0;have Pz:Instr.fill (fun j=>some (j*i.size,i.size)) #[] (Bn3.toList.map fun p=>(p.1,a.eval p.2))=some Dq:=A74;have Bi0:¬(0>2 ^ 24):=by omega
   simp only[Boc,Bns ht,Bo5,run_sizeOf hi,h0,Bpz];simp[Bt4,Pz,Go.newRow]
  ·simp only[h0,Bpi]at A2g;have Pz:Instr.fill (fun j=>some (j*i.size,i.size)) A9i (Bn3.toList.map fun p=>(p.1,a.eval p.2))=some Dq:=A74;simp only[Boc,Bns ht,Bo5,run_sizeOf hi,h24,Bpi,h0];simp[zeroValue,typeInfo,hi,hz,A2g,Pz,Go.newRow]
 rw[Fj];obtain⟨h1,h2⟩:=hr.newRow Dq e (n*i.size) (by omega);refine hn _ _ _ h1 h2 (.d _ _ ?_);have B1k:∀k,(w.alloc (.cells Dq e)).cell? ⟨w.heap.size,k,none⟩=Dq[k]?:=fun k=>Cg (Bqw w (.cells Dq e)) k
 refine .Zs (by simp[hx]) (by simp only[Ah];omega) (Bno _) ?_ ?_
 ·intro j cs Tg;rw[Bni,Bnn]at Tg;obtain⟨x,hx',rfl⟩:=Tg;exact(Ahk j x hx').2
 ·intro p q cs c u hp hq hu;rw[Bog,B1k]at hu;exact(hc' p q cs c u hp hq (by rw[Bog];exact hu)).mono h2.le
end
mutual
def E2(f:Nat→Nat):AV→AV
 |.d x=>.d x
 |.nm k p=>.nm (f k) p
 |.Cv n sz es ty=>.Cv n sz es ty
 |.tpt n e cs=>.tpt n e cs
 |.Er l=>.Er (Dx f l)
 |.agg l=>.agg (Dx f l)
 |.Ek g l=>.Ek g (Dx f l)
def Dx(f:Nat→Nat):List AV→List AV
 |[]=>[]
 |x::r=>E2 f x::Dx f r
end
mutual
def Cy(ks:List Nat):AV→Bool
 |.d _=>true
 |.nm k _=>ks.contains k
 |.Cv _ _ _ _=>false
 |.tpt _ _ _=>false
 |.Er l=>C2 ks l
 |.agg l=>C2 ks l
 |.Ek _ l=>C2 ks l
def C2(ks:List Nat):List AV→Bool
 |[]=>true
 |x::r=>Cy ks x&&C2 ks r
end
def Hn(h:C2 ks l=true){i:Nat}{x:AV}(hx:l[i]? = some x):Cy ks x=true:=by
 induction l generalizing i with
 |nil=>simp at hx
 |cons y r ih =>
  simp only[C2,Boo]at h;cases i with
  |zero=>simp at hx;subst hx;exact h.1
  |succ i=>exact ih h.2 (by simpa using hx)
def Ge(f:Nat→Nat)(l:A6 AV):Dx f l=l.map (E2 f):=by
 induction l with
 |nil=>rfl
 |cons x r ih=>simp[Dx,ih]
theorem RA.Ahm{f:Nat→Nat}(hγ:gc.γ=g.γ)(hρ:∀k∈ks,gc.ρ k=g.ρ (f k)):∀(x:AV) (v:Value),Cy ks x=true→RA g w (E2 f x) v→RA gc w x v
 |.d x,v,_,h=>by
  simp only[E2]at h;cases h with
  |d _ _ h=>exact .d _ _ (hγ▸h)
 |.nm k p,v,hn,h=>by
  simp only[E2]at h;have hk:k∈ks:=by simpa[Cy]using hn
  cases h with
  |nm _ _ _ h=>exact .nm k p v (by rw[hρ k hk];exact h)
 |.Cv n sz es ty,v,hn,h=>by simp[Cy]at hn
 |.tpt n e cs,v,hn,h=>by simp[Cy]at hn
 |.Er l,v,hn,h=>by
  simp only[E2,Ge]at h;cases h with
  |Er _ vs hl hx =>
   refine .Er l vs (by simpa using hl) fun i x v h1 h2=>?_
   have:SizeOf.sizeOf x<SizeOf.sizeOf l:=Bps (Boe h1);exact RA.Ahm hγ hρ x v (Hn (by simpa[Cy]using hn) h1) (hx i _ v (by rw[Bni,h1];rfl) h2)
 |.agg l,v,hn,h=>by
  simp only[E2,Ge]at h;cases h with
  |agg _ vs hl hx =>
   refine .agg l vs (by simpa using hl) fun i x v h1 h2=>?_
   have:SizeOf.sizeOf x<SizeOf.sizeOf l:=Bps (Boe h1);exact RA.Ahm hγ hρ x v (Hn (by simpa[Cy]using hn) h1) (hx i _ v (by rw[Bni,h1];rfl) h2)
 |.Ek c l,v,hn,h=>by
  simp only[E2,Ge]at h;cases h with
  |Ek _ _ vs hl hx =>
   refine .Ek c l vs (by simpa using hl) fun i x v h1 h2=>?_
   have:SizeOf.sizeOf x<SizeOf.sizeOf l:=Bps (Boe h1);exact RA.Ahm hγ hρ x v (Hn (by simpa[Cy]using hn) h1) (hx i _ v (by rw[Bni,h1];rfl) h2)
termination_by x=>x
def RA.Ams{f:Nat→Nat}(hγ:gc.γ=g.γ)(hρ:∀k∈ks,g.ρ (f k)=gc.ρ k){x:AV}(h:RA gc w x v)(hn:Cy ks x=true):RA g w (E2 f x) v:=by
 induction h with
 |d x v h=>simp only[E2];exact .d _ _ (hγ▸h)
 |nm k p v h =>
  have hk:k∈ks:=by simpa[Cy]using hn
  simp only[E2];exact .nm _ _ _ (by rw[hρ k hk];exact h)
 |Cv=>simp[Cy]at hn
 |tpt=>simp[Cy]at hn
 |Er l vs hl _ ih =>
  simp only[E2,Ge];refine .Er _ vs (by simpa using hl) fun i x v h1 h2=>?_
  rw[Bni,Bnn]at h1;obtain⟨y,hy,rfl⟩:=h1;exact ih i y v hy h2 (Hn (by simpa[Cy]using hn) hy)
 |agg l vs hl _ ih =>
  simp only[E2,Ge];refine .agg _ vs (by simpa using hl) fun i x v h1 h2=>?_
  rw[Bni,Bnn]at h1;obtain⟨y,hy,rfl⟩:=h1;exact ih i y v hy h2 (Hn (by simpa[Cy]using hn) hy)
 |Ek c l vs hl _ ih =>
  simp only[E2,Ge];refine .Ek c _ vs (by simpa using hl) fun i x v h1 h2=>?_
  rw[Bni,Bnn]at h1;obtain⟨y,hy,rfl⟩:=h1;exact ih i y v hy h2 (Hn (by simpa[Cy]using hn) hy)
def Ef(f:Nat→Nat):Ob→Ob
 |.cells cs ty=>.cells (Dx f cs) ty
 |.map l c=>.map l c
 |.Vw s pos=>.Vw s pos
 |.Kn k since seen last=>.Kn (f k) since seen last
 |.E5=>.E5
 |.Cx L sz l c=>.Cx L sz l c
def J3(ks:A6 Nat):Ob→Bool
 |.cells cs _=>C2 ks cs
 |.map _ _=>true
 |.Vw _ _=>true
 |.Kn k _ _ _=>ks.contains k
 |.E5=>true
 |.Cx _ _ _ _=>false
theorem Ce.Ahm{f:Nat→Nat}(hγ:gc.γ=g.γ)(hρ:∀k∈ks,gc.ρ k=g.ρ (f k))(hn:J3 ks o=true)(h:Ce g w b (Ef f o)):Ce gc w b o:=by
 cases o with
 |cells cs ty =>
  simp only[Ef,Ge]at h;cases h with
  |cells _ _ arr T hb hl hc h4 =>refine .cells cs ty arr T hb (by simpa using hl) (fun i x v hx hv=>?_) h4;exact RA.Ahm hγ hρ x v (Hn (by simpa[J3]using hn) hx) (hc i _ v (by rw[Bni,hx];rfl) hv)
 |map l c =>
  simp only[Ef]at h;cases h with
  |map _ _ es hb hl hc h4 h5=>exact .map l c es hb hl (fun i x e hx he=>⟨(hc i x e hx he).1,(hc i x e hx he).2.1,hγ▸(hc i x e hx he).2.2⟩) h4 h5
 |Vw s pos=>simp only[Ef]at h;cases h with|Vw _ _ hb=>exact .Vw s pos hb
 |Kn k since seen last =>
  simp only[Ef]at h;cases h with
  |Kn _ _ _ _ hb=>exact .Kn k since seen last (by rw[hρ k (Boq.1 hn)];exact hb)
 |E5=>simp only[Ef]at h;cases h with|E5 hb=>exact .E5 hb
 |Cx L sz l c=>simp[J3]at hn
theorem Ce.Ams{f:Nat→Nat}(hγ:gc.γ=g.γ)(hρ:∀k∈ks,g.ρ (f k)=gc.ρ k)(hn:J3 ks o=true)(h:Ce gc w b o):Ce g w b (Ef f o):=by
 cases h with
 |cells cs ty arr T hb hl hc h4 =>simp only[Ef,Ge];refine .cells _ ty arr T hb (by simpa using hl) (fun i x v hx hv=>?_) h4;rw[Bni,Bnn]at hx;obtain⟨y,hy,rfl⟩:=hx;exact(hc i y v hy hv).Ams hγ hρ (Hn (by simpa[J3]using hn) hy)
 |map l c es hb hl hc h4 h5 =>exact .map l c es hb hl (fun i x e hx he=>⟨(hc i x e hx he).1,(hc i x e hx he).2.1,hγ▸(hc i x e hx he).2.2⟩) h4 h5
 |Vw s pos hb=>exact .Vw s pos hb
 |Kn k since seen last hb=>exact .Kn (f k) since seen last (by rw[hρ k (Boq.1 hn)];exact hb)
 |E5 hb=>exact .E5 hb
 |Cx L sz l c es hb hl hc h4 h5=>simp[J3]at hn
def nf(σ:A6 (Nat×Nat))(k:Nat):Nat:=(σ.lookup k).getD 0
def Pv(f:Nat→Nat):A6 (Nat×Ob)→A6 (Nat×Ob)→A6 (Nat×Ob)
 |[],acc=>acc
 |p::r,acc=>Pv f r (setObj (f p.1) (Ef f p.2) acc)
theorem T7{f:Nat→Nat}:∀(l acc:A6 (Nat×Ob)) (j:Nat),(∀p∈l,f p.1≠j)→(Pv f l acc).lookup j=acc.lookup j
 |[],_,_,_=>rfl
 |p::r,acc,j,h=>by
  simp only[Pv];rw[T7 r _ j (fun q hq=>h q (Bnl _ hq)),B5,Bnv (Bq5 (h p Bnm))]
theorem A34{f:Nat→Nat}:∀(l acc:A6 (Nat×Ob)) (p:Nat×Ob),(l.map fun p=>f p.1).Nodup→p∈l→(Pv f l acc).lookup (f p.1)=some (Ef f p.2)
 |[],_,_,_,h=>by simp at h
 |q::r,acc,p,hnd,h=>by
  simp only[Bnh,Boi]at hnd;simp only[Pv];rcases Bnd.1 h with rfl|h
  ·rw[T7 r _ _ (fun q hq he=>hnd.1 (by rw[← he];exact Bnr (f:=fun p:Nat×Ob=>f p.1) hq)),B5,Bo3 rfl]
  ·exact A34 r _ p hnd.2 h
theorem Bo{α:Type}:∀ {l:A6 (Nat×α)} {k:Nat} {x:α},(l.map (·.1)).Nodup→(k,x)∈l→l.lookup k=some x
 |[],_,_,_,h=>by simp at h
 |(j,y)::r,k,x,hnd,h=>by
  simp only[Bnh,Boi]at hnd;rw[Bot];rcases Bnd.1 h with h'|h'
  ·cases h';simp
  ·have hne:k≠j:=by rintro rfl;exact hnd.1 (Bnr (f:=(·.1)) h')
   have:(k==j)=false:=by simpa using hne
   rw[this];exact Bo hnd.2 h'
structure Agt(X Xc Dg:Ad)(f:Nat→Nat)(F:List Nat):Prop where
 live:Xc.live=[]∧Dg.live=[]
 Ti:∀p∈Xc.objs,X.objs.lookup (f p.1)=some (Ef f p.2)
 Ap4:(Xc.objs.all fun p=>J3 (Xc.objs.map (·.1)) p.2)=true
 Ahn:(Dg.objs.all fun p=>J3 (Dg.objs.map (·.1)) p.2)=true
 nodup:(Dg.objs.map fun p=>f p.1).Nodup
 Ay5:(Xc.objs.map (·.1)).Nodup
 new:∀p∈Dg.objs,p.1∈Xc.objs.map (·.1)∨(f p.1∈F∧X.objs.lookup (f p.1)=none)
 sub:∀p∈Xc.objs,p.1∈Dg.objs.map (·.1)
 free:Br F X=true
theorem Gm{α β:Type}{f:α→β}:∀ {l:A6 α},(l.map f).Nodup→∀ {x y:α},x∈l→y∈l→f x=f y→x=y
 |[],_,_,_,h,_,_=>by simp at h
 |a::r,hnd,x,y,hx,hy,he=>by
  simp only[Bnh,Boi]at hnd;rcases Bnd.1 hx with hx'|hx'<;>rcases Bnd.1 hy with hy'|hy'
  ·rw[hx',hy']
  ·rw[hx']at he;exact(hnd.1 (he▸Bnr (f:=f) hy')).elim
  ·rw[hy']at he;exact(hnd.1 (he▸Bnr (f:=f) hx')).elim
  ·exact Gm hnd.2 hx' hy' he
theorem Yy{α β γ:Type}{f:α→β}{h:β→γ}:∀ {l:A6 α},(l.map fun x=>h (f x)).Nodup→(l.map f).Nodup
 |[],_=>by simp
 |a::r,hnd=>by
  simp only[Bnh,Boi]at hnd⊢;refine⟨fun hm=>hnd.1 ?_,Yy hnd.2⟩;obtain⟨x,hx,he⟩:=Bnp.1 hm;rw[← he];exact Bnr (f:=fun x=>h (f x)) hx
section
variable{P:Program}{X:Ad}
def Does.Bfo(hs:Does P fn xs Xc res Dg){f:Nat→Nat}(hc:Agt X Xc Dg f F)
  (hd:C2 (Xc.objs.map (·.1)) xs=true) (Y6:Cy (Dg.objs.map (·.1)) res=true)    
  (hr:HR nm B g w X)  (hl:xs.length=vs.size) (Qx:∀(i:Nat) x v,(Dx f xs)[i]? = some x→vs[i]? = some v→RA g w x v) :
  Calls P fn vs w fun e w'=>∃v g',e = .returned v∧HR nm B g' w' ⟨Pv f Dg.objs X.objs,X.live⟩∧Trans F g w g' w'∧RA g' w' (E2 f res) v:=by
 let gc:Gh:={ γ:=g.γ,β:=fun _=>none,ρ:=fun k=>g.ρ (f k) };have P7:∀k o,Xc.objs.lookup k=some o→X.objs.lookup (f k)=some (Ef f o):=fun k o hk=>hc.Ti _ (D3 hk)
 have Ap5:∀p∈Dg.objs,∀q∈Dg.objs,f p.1=f q.1→p=q:=fun p hp q hq he=>Gm hc.nodup hp hq he
 have Acg:(Dg.objs.map (·.1)).Nodup:=Yy (h:=f) hc.nodup;have A9j:∀k o,Xc.objs.lookup k=some o→∃p∈Dg.objs,p.1=k:=by intro k o hk;obtain⟨p,hp,he⟩:=Bnp.1 (hc.sub _ (D3 hk));exact⟨p,hp,he⟩
 have h0:HR (Xc.objs.map (·.1)) (B8.of gc w Xc) gc w Xc:=by
  refine⟨?_,hr.Iw,Bno _,⟨rfl,rfl,rfl,Bno _⟩,.refl _ _,fun b _ _=>⟨rfl,rfl⟩,?_,?_,?_,?_,?_,by simp[gc],by simp[gc],by simp[gc],by simp[gc],.off fun _=>rfl⟩
  ·intro k hk;refine⟨rfl,?_⟩;obtain⟨p,hp,rfl⟩:=Bnp.1 hk;rw[Bo hc.Ay5 (x:=p.2) hp];rfl
  ·intro k o hk;exact Ce.Ahm (g:=g) (gc:=gc) (f:=f) (ks:=Xc.objs.map (·.1)) rfl (fun _ _=>rfl) (Bok.1 hc.Ap4 _ (D3 hk)) (hr.objs _ _ (P7 k o hk))
  ·intro k o hk;exact hr.Fi _ _ (P7 k o hk)
  ·intro k k' o o' hk M1 he;have h1:=hr.C1 _ _ _ _ (P7 k o hk) (P7 k' o' M1) he;obtain⟨p,hp,e1⟩:=A9j k o hk;obtain⟨q,hq,e2⟩:=A9j k' o' M1;have:=Ap5 p hp q hq (by rw[e1,e2];exact h1);rw[← e1,← e2,this]
  ·intro k o hk;exact .inr (.inl ⟨k,o,hk,rfl⟩)
  ·intro n;rw[hc.live.1];simp[gc]
 have:=hs gc w vs h0 hl fun i x v hx hv=>RA.Ahm (g:=g) (gc:=gc) (ks:=Xc.objs.map (·.1)) rfl (fun _ _=>rfl) x v (Hn hd hx) (Qx i _ v (by rw[Ge,Bni,hx];rfl) hv)
 refine this.mono ?_;rintro e w' ⟨g1,v,rfl,Xt,h1⟩;let ρ':Nat→Nat:=fun j=>match Dg.objs.find? (fun p=>f p.1==j) with
  |some p=>g1.ρ p.1
  |none=>g.ρ j
 have Hr:∀p∈Dg.objs,ρ' (f p.1)=g1.ρ p.1:=by
  intro p hp;have Hv:(Dg.objs.find? (fun q=>f q.1==f p.1)).isSome=true:=by rw[Bu2];exact⟨p,hp,by simp⟩
  obtain⟨q,hq⟩:=Boj.1 Hv;have hq1:=Bui hq;have hq2:=Bsr hq;simp only[Brv]at hq1;have:=Ap5 q hq2 p hp hq1;simp only[ρ',hq,this]
 have Dr:∀j,(∀p∈Dg.objs,f p.1≠j)→ρ' j=g.ρ j:=by
  intro j hj;have:Dg.objs.find? (fun p=>f p.1==j)=none:=by rw[Bts];intro p hp;simpa using hj p hp
  simp only[ρ',this]
 have A7q:∀j,(∃p∈Dg.objs,f p.1=j)∨(∀p∈Dg.objs,f p.1≠j):=by
  intro j;by_cases h:∃p∈Dg.objs,f p.1=j
  ·exact .inl h
  ·exact .inr fun p hp he=>h ⟨p,hp,he⟩
 have hold:∀k,k∈Xc.objs.map (·.1)→g1.ρ k=g.ρ (f k):=fun k hk=>(h1.Cc k hk).1
 have hna:∀b,(¬ ∃k o,Xc.objs.lookup k=some o∧g.ρ (f k)=b)→¬(B8.of gc w Xc).allowed b:=by
  rintro b hb (⟨k,o,hk,he⟩|⟨n,hn⟩)
  ·exact hb ⟨k,o,hk,he⟩
  ·cases hn
 have R2:∀b,b<w.heap.size→(¬ ∃k o,Xc.objs.lookup k=some o∧g.ρ (f k)=b)→w'.heap[b]? = w.heap[b]?∧g1.γ b=g.γ b:=fun b hb hn=>h1.frame b hb (hna b hn)
 have Jq:w.heap.size≤w'.heap.size:=h1.base;have hle:LeD g.γ w g1.γ w':=h1.le;have A35:∀n b,g.β n=some (some b)→w'.heap[b]? = w.heap[b]?∧g1.γ b=g.γ b:=by intro n b hn;refine R2 b (hr.D9 n b hn) ?_;rintro ⟨k,o,hk,he⟩;exact hr.Bz n b _ _ hn (P7 k o hk) he.symm
 have A36:∀L i b,(g.β L).isSome→g.η L i=some b→w'.heap[b]? = w.heap[b]?∧g1.γ b=g.γ b:=by intro L i b hL hb;refine R2 b (hr.eta.lt L i b hL hb) ?_;rintro ⟨k,o,hk,he⟩;exact hr.eta.obj L i b _ _ hL hb (P7 k o hk) he.symm
 have A37:∀j o,X.objs.lookup j=some o→(∀p∈Dg.objs,f p.1≠j)→w'.heap[g.ρ j]? = w.heap[g.ρ j]?∧g1.γ (g.ρ j)=g.γ (g.ρ j):=by intro j o hj hne;refine R2 _ (Gt (hr.objs j o hj)) ?_;rintro ⟨k,o',hk,he⟩;have:=hr.C1 _ _ _ _ (P7 k o' hk) hj he;obtain⟨p,hp,e1⟩:=A9j k o' hk;exact hne p hp (by rw[e1];exact this)
 have Agu:∀p∈Dg.objs,p.1∉Xc.objs.map (·.1)→w.heap.size≤g1.ρ p.1:=by
  intro p hp Bko;have hlp:Dg.objs.lookup p.1=some p.2:=Bo Acg hp;rcases h1.Cf _ _ hlp with h|h|⟨n,hn⟩
  ·exact h
  ·obtain⟨k,o,hk,he⟩:=h;exfalso;obtain⟨q,hq,e1⟩:=A9j k o hk;have hlq:Dg.objs.lookup q.1=some q.2:=Bo Acg hq;have hkm:k∈Xc.objs.map (·.1):=Bnr (f:=(·.1)) (D3 hk);have:g1.ρ q.1=g1.ρ p.1:=by rw[e1,hold k hkm];exact he
   have:=h1.C1 _ _ _ _ hlq hlp this;exact Bko (this▸e1▸hkm)
  ·cases hn
 have ht:Trans F g w { γ:=g1.γ,β:=g.β,ρ:=ρ',η:=g.η } w':=by
  refine⟨hle,?_,fun n ob _ he=>⟨he,fun b hb=>⟨(A35 n b (hb▸he)).2,(A35 n b (hb▸he)).1⟩⟩,fun L _ hL=>⟨rfl,fun i b hb=>⟨(A36 L i b hL hb).2,(A36 L i b hL hb).1⟩⟩⟩;intro j hj;simp only;rcases A7q j with ⟨p,hp,rfl⟩|hne
  ·rw[Hr p hp];rcases hc.new p hp with h|⟨h,_⟩
   ·exact hold _ h
   ·exact(hj h).elim
  ·exact Dr j hne
 have hX':∀j o,(Pv f Dg.objs X.objs).lookup j=some o→(∃p∈Dg.objs,f p.1=j∧o=Ef f p.2)∨((∀p∈Dg.objs,f p.1≠j)∧X.objs.lookup j=some o):=by
  intro j o hj;rcases A7q j with ⟨p,hp,rfl⟩|hne
  ·rw[A34 _ _ p hc.nodup hp]at hj;exact .inl ⟨p,hp,rfl,by simpa using hj.symm⟩
  ·rw[T7 _ _ _ hne]at hj;exact .inr ⟨hne,hj⟩
 have Aho:∀k∈Dg.objs.map (·.1),ρ' (f k)=g1.ρ k:=by intro k hk;obtain⟨p,hp,rfl⟩:=Bnp.1 hk;exact Hr p hp
 refine⟨v,{ γ:=g1.γ,β:=g.β,ρ:=ρ',η:=g.η },rfl,⟨?_,h1.Iw,Bop hr.base Jq,⟨h1.io.1.trans hr.io.1,h1.io.2.1.trans hr.io.2.1,h1.io.2.2.1.trans hr.io.2.2.1,Bop hr.io.2.2.2 h1.io.2.2.2⟩,hr.le.trans hle,?_,?_,?_,?_,?_,hr.live,hr.Cq,?_,hr.D0,?_,hr.eta.step (fun L hL=>.inl ⟨hL,rfl⟩) Jq (fun n b hb=>.inl ⟨n,hb⟩) fun j o hj=>?_⟩,ht,?_⟩
 ·intro k hk;obtain⟨h2,h3⟩:=hr.Cc k hk;rcases A7q k with ⟨p,hp,rfl⟩|hne
  ·refine⟨?_,by simp only;rw[A34 _ _ p hc.nodup hp];rfl⟩;simp only;rw[Hr p hp];rcases hc.new p hp with h|⟨_,h⟩
   ·rw[hold _ h];exact h2
   ·rw[h]at h3;cases h3
  ·exact⟨by simp only;rw[Dr k hne];exact h2,by simp only;rw[T7 _ _ _ hne];exact h3⟩
 ·intro b hb hnb;have h2:=hr.frame b hb hnb;have h3:=R2 b (Bp7 hb hr.base) (by
   rintro ⟨k,o,hk,he⟩;rcases hr.Cf _ _ (P7 k o hk)with h|h
   ·rw[he]at h;omega
   ·rw[he]at h;exact hnb h)
  exact⟨h3.1.trans h2.1,h3.2.trans h2.2⟩
 ·intro j o hj;rcases hX' j o hj with ⟨p,hp,rfl,rfl⟩|⟨hne,H7⟩
  ·simp only;rw[Hr p hp];exact Ce.Ams (g:={ γ:=g1.γ,β:=g.β,ρ:=ρ',η:=g.η }) (gc:=g1) rfl Aho (Bok.1 hc.Ahn _ hp) (h1.objs _ _ (Bo Acg hp))
  ·simp only;rw[Dr j hne];exact(hr.objs j o H7).Cc ht (A37 j o H7 hne).1 (Ja hc.free H7)
 ·intro j o hj;rcases hX' j o hj with ⟨p,hp,rfl,rfl⟩|⟨hne,H7⟩
  ·simp only;rw[Hr p hp];exact h1.Fi _ _ (Bo Acg hp)
  ·simp only;rw[Dr j hne,(A37 j o H7 hne).2];exact hr.Fi j o H7
 ·intro j j' o o' hj H7 he;simp only at he;have mix:∀p∈Dg.objs,∀j o,X.objs.lookup j=some o→(∀p∈Dg.objs,f p.1≠j)→g1.ρ p.1≠g.ρ j:=by
   intro p hp j o hj hne he;by_cases Uc:p.1∈Xc.objs.map (·.1)
   ·rw[hold _ Uc]at he;obtain⟨q,hq,e1⟩:=Bnp.1 Uc;have h4:=hc.Ti q hq;rw[e1]at h4;exact hne p hp (hr.C1 _ _ _ _ h4 hj he)
   ·have h5:=Agu p hp Uc;have h6:=Gt (hr.objs j o hj);omega
  rcases hX' j o hj with ⟨p,hp,e1,_⟩|⟨hne,hj1⟩<;>rcases hX' j' o' H7 with ⟨q,hq,e2,_⟩|⟨Ub,Ats⟩
  ·rw[← e1,← e2]at he⊢;rw[Hr p hp,Hr q hq]at he;rw[h1.C1 _ _ _ _ (Bo Acg hp) (Bo Acg hq) he]
  ·rw[← e1,Hr p hp,Dr j' Ub]at he;exact(mix p hp j' o' Ats Ub he).elim
  ·rw[← e2,Hr q hq,Dr j hne]at he;exact(mix q hq j o hj1 hne he.symm).elim
  ·rw[Dr j hne,Dr j' Ub]at he;exact hr.C1 j j' o o' hj1 Ats he
 ·intro j o hj;rcases hX' j o hj with ⟨p,hp,rfl,rfl⟩|⟨hne,H7⟩
  ·simp only;rw[Hr p hp];by_cases Uc:p.1∈Xc.objs.map (·.1)
   ·rw[hold _ Uc];obtain⟨q,hq,e1⟩:=Bnp.1 Uc;have h4:=hc.Ti q hq;rw[e1]at h4;exact hr.Cf _ _ h4
   ·exact .inl (Bop hr.base (Agu p hp Uc))
  ·simp only;rw[Dr j hne];exact hr.Cf j o H7
 ·intro n b j o hn hj;rcases hX' j o hj with ⟨p,hp,rfl,rfl⟩|⟨hne,H7⟩
  ·simp only;rw[Hr p hp];by_cases Uc:p.1∈Xc.objs.map (·.1)
   ·rw[hold _ Uc];obtain⟨q,hq,e1⟩:=Bnp.1 Uc;have h4:=hc.Ti q hq;rw[e1]at h4;exact hr.Bz n b _ _ hn h4
   ·have:=Agu p hp Uc;have:=hr.D9 n b hn;omega
  ·simp only;rw[Dr j hne];exact hr.Bz n b j o hn H7
 ·intro n b hn;exact Bp7 (hr.D9 n b hn) Jq
 ·rcases hX' j o hj with ⟨p,hp,rfl,rfl⟩|⟨hne,H7⟩
  ·simp only;rw[Hr p hp];by_cases Uc:p.1∈Xc.objs.map (·.1)
   ·rw[hold _ Uc];obtain⟨q,hq,e1⟩:=Bnp.1 Uc;have h4:=hc.Ti q hq;rw[e1]at h4;exact .inl ⟨_,_,h4,rfl⟩
   ·exact .inr (.inl (Agu p hp Uc))
  ·simp only;rw[Dr j hne];exact .inl ⟨j,o,H7,rfl⟩
 ·exact RA.Ams (g:={ γ:=g1.γ,β:=g.β,ρ:=ρ',η:=g.η }) (gc:=g1) rfl Aho Xt Y6
def Aes{o:Oper}{args:Array Operand}(σ:A6 (Nat×Nat))(F:A6 Nat)
  (ho:o.op = .call { callee:=.value (.func fn),args:=args,argTypes:=ts }) (hf:F6 P fn) (hs:Does P fn xs Xc res Dg) (hc:Agt X Xc Dg (nf σ) F)
  (hl:xs.length=args.size) (hd:C2 (Xc.objs.map (·.1)) xs=true) (Y6:Cy (Dg.objs.map (·.1)) res=true) :
  Ca P o (args.toList.zip (Dx (nf σ) xs)) X ⟨Pv (nf σ) Dg.objs X.objs,X.live⟩ F (E2 (nf σ) res):=by
 intro nm G3 B g w a hr Bg next Q hn
 unfold Oper.wp;have:(execOp a.eval o).run P w = .ok (.enter fn (args.map a.eval)) w:=by simp only[execOp,ho,resolve];simp[Act.eval,Deferred.ofValue,invoke,Dl hf]
 rw[this];refine(hs.Bfo hc hd Y6 hr (by simpa using hl) (Zt Bg)).mono ?_;rintro e w' ⟨v,g',rfl,h1,h2,h3⟩;exact hn g' w' v h1 h2 h3
end
inductive N5 where
 |none
 |look (ks:List Nat)
 |put (k:Nat) (c:Ob)
 |all (X:Ad)
 |lab (L:List Nat)
 |P9 (k:Nat) (c:Ob) (L:List Nat)
 |new (os:List (Nat×Ob)) (L:List Nat)
def N5.apply:N5→Ad→Ad
 |.put k c,X=>⟨setObj k c X.objs,X.live⟩
 |.all X',_=>X'
 |.lab L,X=>⟨X.objs,L⟩
 |.P9 k c L,X=>⟨setObj k c X.objs,L⟩
 |.new os L,X=>⟨os++X.objs,L⟩
 |_,X=>X
def N5.writes(k:Nat):N5→Bool
 |.put j _=>j==k
 |.P9 j _ _=>j==k
 |.new os _=>(os.lookup k).isSome
 |.all _=>true
 |_=>false
def N5.Uu:N5→N5→Bool
 |.none,_|_,.none=>false
 |.look _,.look _=>false
 |.look js,.put k _|.put k _,.look js=>js.contains k
 |.look js,.P9 k _ _|.P9 k _ _,.look js=>js.contains k
 |.look _,.lab _|.lab _,.look _=>false
 |.look js,.new os _|.new os _,.look js=>js.any fun k=>(os.lookup k).isSome
 |.put j _,.put k _=>j==k
 |_,_=>true
structure It where
 o:Oper
 run:Bool
 rd:List (Operand×AV)
 V7:N5
 F:List Nat
 res:AV
inductive Gf(P:Program)(S:Sig)(ops:Array Oper):Nat→St→List It→St→Prop
 |nil (i:Nat) (st:St):Gf P S ops i st [] st
 |op {i:Nat} {o:Oper} {st Bw:St} {rd:List (Operand×AV)} {res:AV} {Az:List It} :
   ops[i]? = some o→Guard ops st o.guard true→(∀p∈rd,Fc st p.1 p.2)→(∀X,Ca P o rd X X [] res)→Jw S.N o.dst=true →
   Gf P S ops (i+1) ⟨E6 o.dst res st.env,st.X⟩ Az Bw→Gf P S ops i st (⟨o,true,rd,.none,[],res⟩::Az) Bw
 |look {i:Nat} {o:Oper} {st Bw:St} {rd:List (Operand×AV)} {res:AV} {Az:List It} {ks:List Nat} :
   ops[i]? = some o→Guard ops st o.guard true→(∀p∈rd,Fc st p.1 p.2)→(∀X:Ad,(∀k∈ks,X.objs.lookup k=st.X.objs.lookup k)→Ca P o rd X X [] res)→Jw S.N o.dst=true →
   Gf P S ops (i+1) ⟨E6 o.dst res st.env,st.X⟩ Az Bw→Gf P S ops i st (⟨o,true,rd,.look ks,[],res⟩::Az) Bw
 |put {i:Nat} {o:Oper} {st Bw:St} {rd:List (Operand×AV)} {res:AV} {Az:List It} {k:Nat} {c:Ob} :
   ops[i]? = some o→Guard ops st o.guard true→(∀p∈rd,Fc st p.1 p.2) →
   (∀X,X.objs.lookup k=st.X.objs.lookup k→Ca P o rd X ⟨setObj k c X.objs,X.live⟩ [] res)→Jw S.N o.dst=true →
   Gf P S ops (i+1) ⟨E6 o.dst res st.env,⟨setObj k c st.X.objs,st.X.live⟩⟩ Az Bw→Gf P S ops i st (⟨o,true,rd,.put k c,[],res⟩::Az) Bw
 |V7 {i:Nat} {o:Oper} {st Bw:St} {rd:List (Operand×AV)} {res:AV} {Az:List It} {X':Ad} {F:List Nat} :
   ops[i]? = some o→Guard ops st o.guard true→(∀p∈rd,Fc st p.1 p.2)→Ca P o rd st.X X' F res→Jw S.N o.dst=true →
   Gf P S ops (i+1) ⟨E6 o.dst res st.env,X'⟩ Az Bw→Gf P S ops i st (⟨o,true,rd,.all X',F,res⟩::Az) Bw
 |lab {i:Nat} {o:Oper} {st Bw:St} {rd:List (Operand×AV)} {res:AV} {Az:List It} {L:List Nat} {F:List Nat} :
   ops[i]? = some o→Guard ops st o.guard true→(∀p∈rd,Fc st p.1 p.2)→Ca P o rd st.X ⟨st.X.objs,L⟩ F res→Jw S.N o.dst=true →
   Gf P S ops (i+1) ⟨E6 o.dst res st.env,⟨st.X.objs,L⟩⟩ Az Bw→Gf P S ops i st (⟨o,true,rd,.lab L,F,res⟩::Az) Bw
 |P9 {i:Nat} {o:Oper} {st Bw:St} {rd:List (Operand×AV)} {res:AV} {Az:List It} {k:Nat} {c:Ob} {L:List Nat} {F:List Nat} :
   ops[i]? = some o→Guard ops st o.guard true→(∀p∈rd,Fc st p.1 p.2)→Ca P o rd st.X ⟨setObj k c st.X.objs,L⟩ F res→Jw S.N o.dst=true →
   Gf P S ops (i+1) ⟨E6 o.dst res st.env,⟨setObj k c st.X.objs,L⟩⟩ Az Bw→Gf P S ops i st (⟨o,true,rd,.P9 k c L,F,res⟩::Az) Bw
 |new {i:Nat} {o:Oper} {st Bw:St} {rd:List (Operand×AV)} {res:AV} {Az:List It} {os:List (Nat×Ob)} {L:List Nat} {F:List Nat} :
   ops[i]? = some o→Guard ops st o.guard true→(∀p∈rd,Fc st p.1 p.2)→Ca P o rd st.X ⟨os++st.X.objs,L⟩ F res→Jw S.N o.dst=true →
   Gf P S ops (i+1) ⟨E6 o.dst res st.env,⟨os++st.X.objs,L⟩⟩ Az Bw→Gf P S ops i st (⟨o,true,rd,.new os L,F,res⟩::Az) Bw
 |skip {i:Nat} {o:Oper} {st Bw:St} {Az:List It} :
   ops[i]? = some o→Guard ops st o.guard false→Jw S.N o.dst=true →
   Gf P S ops (i+1) ⟨E6 o.dst (.d (.sc undef)) st.env,st.X⟩ Az Bw→Gf P S ops i st (⟨o,false,[],.none,[],.d (.sc undef)⟩::Az) Bw
def E(base:Nat→A7 AV)(Az:A6 It)(D:Nat→Bool):Nat→Nat→A7 AV
 |0,t=>base t
 |m+1,t=>match Az[m]? with
  |some it=>if D m&&(it.o.dst==some t)then some it.res else E base Az D m t
  |none=>E base Az D m t
def XE(X0:Ad)(Az:A6 It)(D:Nat→Bool):Nat→Ad
 |0=>X0
 |m+1=>match Az[m]? with
  |some it=>if D m then it.V7.apply (XE X0 Az D m)else XE X0 Az D m
  |none=>XE X0 Az D m
structure Bbz(P:Program)(S:Sig)(ops:Array Oper)(i:Nat)(it:It)(st:St):Prop where
 at_:ops[i]? = some it.o
 dst:Jw S.N it.o.dst=true
 guard:Guard ops st it.o.guard it.run
 V8:∀p∈it.rd,Fc st p.1 p.2
 opt:it.run=true→match it.V7 with
  |.none=>it.F=[]∧∀X,Ca P it.o it.rd X X [] it.res
  |.look ks=>it.F=[]∧∀X:Ad,(∀k∈ks,X.objs.lookup k=st.X.objs.lookup k)→Ca P it.o it.rd X X [] it.res
  |.put k c=>it.F=[]∧∀X,X.objs.lookup k=st.X.objs.lookup k→Ca P it.o it.rd X ⟨setObj k c X.objs,X.live⟩ [] it.res
  |.all X'=>Ca P it.o it.rd st.X X' it.F it.res
  |.lab L=>Ca P it.o it.rd st.X ⟨st.X.objs,L⟩ it.F it.res
  |.P9 k c L=>Ca P it.o it.rd st.X ⟨setObj k c st.X.objs,L⟩ it.F it.res
  |.new os L=>Ca P it.o it.rd st.X ⟨os++st.X.objs,L⟩ it.F it.res
 Bc0:it.run=false→it.V7 = .none∧it.F=[]∧it.res = .d (.sc undef)
theorem Ap6(base:Nat→A7 AV)(it:It)(Az:A6 It)(D:Nat→Bool):∀(m t:Nat),
  E (fun t=>if D 0&&(it.o.dst==some t)then some it.res else base t) Az (fun k=>D (k+1)) m t=E base (it::Az) D (m+1) t
 |0,t=>by simp[E]
 |m+1,t=>by
  have ih:=Ap6 base it Az D m t
  conv=>lhs;unfold E
  rw[ih]
  conv=>rhs;unfold E
  simp
theorem Ahp(X0:Ad)(it:It)(Az:A6 It)(D:Nat→Bool):∀(m:Nat),
  XE (if D 0 then it.V7.apply X0 else X0) Az (fun k=>D (k+1)) m=XE X0 (it::Az) D (m+1)
 |0=>by simp[XE]
 |m+1=>by
  have ih:=Ahp X0 it Az D m
  conv=>lhs;unfold XE
  rw[ih]
  conv=>rhs;unfold XE
  simp
def A75(dst:A7 Tmp)(x:AV)(env:A6 (Nat×AV))(t:Nat):(E6 dst x env).lookup t=if dst==some t then some x else env.lookup t:=by
 cases dst with
 |none=>rfl
 |some d =>
  simp only[E6,Bot];by_cases h:t=d
  ·subst h;simp
  ·have h1:(t==d)=false:=by simpa using h
   have h2:(some d==some t)=false:=by simpa using Bq5 h
   rw[h1,h2];rfl
variable{Az:A6 It}
def Gf.items{i:Nat}(h:Gf P S ops i st Az Bw) :
  (∀m it,Az[m]? = some it→∃stm,Bbz P S ops (i+m) it stm∧(∀t,stm.env.lookup t=E (fun t=>st.env.lookup t) Az (fun _=>true) m t)∧stm.X=XE st.X Az (fun _=>true) m) ∧
  (∀t,Bw.env.lookup t=E (fun t=>st.env.lookup t) Az (fun _=>true) Az.length t)∧Bw.X=XE st.X Az (fun _=>true) Az.length:=by
 have key:∀ {i:Nat} {st Bw:St} {it:It} {Az:A6 It} {X1:Ad},Bbz P S ops i it st→(X1=it.V7.apply st.X) →
   ((∀m it',Az[m]? = some it'→∃stm,Bbz P S ops (i+1+m) it' stm∧(∀t,stm.env.lookup t=E (fun t=>(E6 it.o.dst it.res st.env).lookup t) Az (fun _=>true) m t)∧stm.X=XE X1 Az (fun _=>true) m) ∧
    (∀t,Bw.env.lookup t=E (fun t=>(E6 it.o.dst it.res st.env).lookup t) Az (fun _=>true) Az.length t)∧Bw.X=XE X1 Az (fun _=>true) Az.length) →
   (∀m it',(it::Az)[m]? = some it'→∃stm,Bbz P S ops (i+m) it' stm∧(∀t,stm.env.lookup t=E (fun t=>st.env.lookup t) (it::Az) (fun _=>true) m t)∧stm.X=XE st.X (it::Az) (fun _=>true) m) ∧
    (∀t,Bw.env.lookup t=E (fun t=>st.env.lookup t) (it::Az) (fun _=>true) (it::Az).length t)∧Bw.X=XE st.X (it::Az) (fun _=>true) (it::Az).length:=by
  intro i st Bw it Az X1 Jr hX ⟨h1,h2,h3⟩;have hb:(fun t=>(E6 it.o.dst it.res st.env).lookup t)=fun t=>if (fun _:Nat=>true) 0&&(it.o.dst==some t)then some it.res else st.env.lookup t:=by funext t;rw[A75];simp
  have hx:X1=(if (fun _:Nat=>true) 0 then it.V7.apply st.X else st.X):=by rw[hX];simp
  refine⟨?_,?_,?_⟩
  ·intro m it' hm;cases m with
   |zero=>simp at hm;subst hm;exact⟨st,Jr,fun _=>rfl,rfl⟩
   |succ m =>
    obtain⟨stm,k1,k2,k3⟩:=h1 m it' (by simpa using hm);refine⟨stm,by rw[show i+(m+1)=i+1+m by omega];exact k1,fun t=>?_,?_⟩
    ·rw[k2 t,hb];exact Ap6 (fun t=>st.env.lookup t) it Az (fun _=>true) m t
    ·rw[k3,hx];exact Ahp st.X it Az (fun _=>true) m
  ·intro t;rw[h2 t,hb];exact Ap6 (fun t=>st.env.lookup t) it Az (fun _=>true) Az.length t
  ·rw[h3,hx];exact Ahp st.X it Az (fun _=>true) Az.length
 induction h with
 |nil i st=>exact⟨by simp,fun _=>rfl,rfl⟩
 |op h1 h2 h3 h4 h5 _ ih=>exact key (it:=⟨_,true,_,.none,[],_⟩) ⟨h1,h5,h2,h3,fun _=>⟨rfl,h4⟩,by simp⟩ rfl ih
 |look h1 h2 h3 h4 h5 _ ih=>exact key (it:=⟨_,true,_,.look _,[],_⟩) ⟨h1,h5,h2,h3,fun _=>⟨rfl,h4⟩,by simp⟩ rfl ih
 |put h1 h2 h3 h4 h5 _ ih=>exact key (it:=⟨_,true,_,.put _ _,[],_⟩) ⟨h1,h5,h2,h3,fun _=>⟨rfl,h4⟩,by simp⟩ rfl ih
 |V7 h1 h2 h3 h4 h5 _ ih=>exact key (it:=⟨_,true,_,.all _,_,_⟩) ⟨h1,h5,h2,h3,fun _=>h4,by simp⟩ rfl ih
 |lab h1 h2 h3 h4 h5 _ ih=>exact key (it:=⟨_,true,_,.lab _,_,_⟩) ⟨h1,h5,h2,h3,fun _=>h4,by simp⟩ rfl ih
 |new h1 h2 h3 h4 h5 _ ih=>exact key (it:=⟨_,true,_,.new _ _,_,_⟩) ⟨h1,h5,h2,h3,fun _=>h4,by simp⟩ rfl ih
 |P9 h1 h2 h3 h4 h5 _ ih=>exact key (it:=⟨_,true,_,.P9 _ _ _,_,_⟩) ⟨h1,h5,h2,h3,fun _=>h4,by simp⟩ rfl ih
 |skip h1 h2 h5 _ ih=>exact key (it:=⟨_,false,[],.none,[],_⟩) ⟨h1,h5,h2,by simp,by simp,fun _=>⟨rfl,rfl,rfl⟩⟩ rfl ih
def A6l(ops:A6 Oper):A6 Nat :=
 ops.foldl (fun acc o=>acc++[o.after.toList.foldl (fun s e=>if Region.binds .any e then s ||| 2 ^ e.on ||| acc.getD e.on 0 else s) 0]) []
theorem Amt(acc:A6 Nat)(j:Nat):∀(l:A6 Edge) (s:Nat),(l.foldl (fun s e=>if Region.binds .any e then s ||| 2 ^ e.on ||| acc.getD e.on 0 else s) s).testBit j=true →
  s.testBit j=true∨∃e∈l,Region.binds .any e=true∧(e.on=j∨(acc.getD e.on 0).testBit j=true)
 |[],s,h=>.inl h
 |e::l,s,h=>by
  rw[Bp1]at h;rcases Amt acc j l _ h with h|⟨e',he',h⟩
  ·split at h
   ·rename_i hb;rw[Nat.testBit_or,Nat.testBit_or,Bpc,Bpc]at h;rcases h with (h|h)|h
    ·exact .inl h
    ·refine .inr ⟨e,Bnm,hb,.inl ?_⟩;rw[Nat.testBit_two_pow]at h;simpa using h
    ·exact .inr ⟨e,Bnm,hb,.inr h⟩
   ·exact .inl h
  ·exact .inr ⟨e',Bnl _ he',h⟩
def B3v(ops:A6 Oper):∀(i j:Nat),((A6l ops).getD i 0).testBit j=true→∃o,ops[i]? = some o∧∃e∈o.after.toList,Region.binds .any e=true ∧
  (e.on=j∨(e.on<i∧((A6l ops).getD e.on 0).testBit j=true)):=by
 suffices H:∀(l:A6 Oper) (pre:A6 Oper) (acc:A6 Nat),acc.length=pre.length →
   (∀i j,(acc.getD i 0).testBit j=true→∃o,pre[i]? = some o∧∃e∈o.after.toList,Region.binds .any e=true∧(e.on=j∨(e.on<i∧(acc.getD e.on 0).testBit j=true))) →
   ∀i j,((l.foldl (fun acc o=>acc++[o.after.toList.foldl (fun s e=>if Region.binds .any e then s ||| 2 ^ e.on ||| acc.getD e.on 0 else s) 0]) acc).getD i 0).testBit j=true →
    ∃o,(pre++l)[i]? = some o∧∃e∈o.after.toList,Region.binds .any e=true∧(e.on=j∨(e.on<i ∧
     ((l.foldl (fun acc o=>acc++[o.after.toList.foldl (fun s e=>if Region.binds .any e then s ||| 2 ^ e.on ||| acc.getD e.on 0 else s) 0]) acc).getD e.on 0).testBit j=true)) by
  intro i j h;exact H ops [] [] rfl (by simp) i j h
 intro l;induction l with
 |nil=>intro pre acc _ h i j hb;simpa using h i j hb
 |cons o l ih =>
  intro pre acc hl h i j hb;rw[Bp1]at hb⊢;have:=ih (pre++[o]) (acc++[o.after.toList.foldl (fun s e=>if Region.binds .any e then s ||| 2 ^ e.on ||| acc.getD e.on 0 else s) 0]) (by simp[hl]) ?_ i j hb
  ·simpa using this
  ·intro i j hb;have Cb:∀k,k<acc.length→(acc++[o.after.toList.foldl (fun s e=>if Region.binds .any e then s ||| 2 ^ e.on ||| acc.getD e.on 0 else s) 0]).getD k 0=acc.getD k 0:=by intro k hk;simp only[Bqu,Bqm hk]
   by_cases hi:i<acc.length
   ·rw[Cb i hi]at hb;obtain⟨o',ho',e,he,hbd,hd⟩:=h i j hb;refine⟨o',by rw[Bqm (by omega)];exact ho',e,he,hbd,?_⟩;rcases hd with hd|⟨hd1,hd2⟩
    ·exact .inl hd
    ·exact .inr ⟨hd1,by rw[Cb _ (by omega)];exact hd2⟩
   ·by_cases hie:i=acc.length
    ·subst hie;have Atq:(acc++[o.after.toList.foldl (fun s e=>if Region.binds .any e then s ||| 2 ^ e.on ||| acc.getD e.on 0 else s) 0]).getD acc.length 0 =
       o.after.toList.foldl (fun s e=>if Region.binds .any e then s ||| 2 ^ e.on ||| acc.getD e.on 0 else s) 0:=by
      simp[Bqu]
     rw[Atq]at hb;rcases Amt acc j _ 0 hb with h0|⟨e,he,hbd,hd⟩
     ·simp at h0
     ·refine⟨o,by rw[hl,Bqi (Bno _)];simp,e,he,hbd,?_⟩;rcases hd with hd|hd
      ·exact .inl hd
      ·have By:e.on<acc.length:=by
        rcases Bpt e.on acc.length with h'|h'
        ·exact h'
        ·rw[Bqu,Bpo h']at hd;simp at hd
       exact .inr ⟨By,by rw[Cb _ By];exact hd⟩
    ·rw[Bqu,Bpo (by simp;omega)]at hb;simp at hb
def Aet{ops:A6 Oper}{D:Nat→Bool}(hD:∀i o,ops[i]? = some o→D i=true→∀e∈o.after.toList,Region.binds .any e=true→D e.on=true) :
  ∀(i:Nat),(∀o,ops[i]? = some o→∀e∈o.after.toList,Region.binds .any e=true→D e.on=true)→∀j,((A6l ops).getD i 0).testBit j=true→D j=true:=by
 intro i;induction i using Nat.strongRecOn with
 |_ i ih =>
  intro hi j hj;obtain⟨o,ho,e,he,hb,hd⟩:=B3v ops i j hj;have hDe:=hi o ho e he hb;rcases hd with rfl|⟨By,hd⟩
  ·exact hDe
  ·exact ih e.on By (fun o' ho' e' he' Iy=>hD e.on o' ho' hDe e' he' Iy) j hd
def looks(ops:Array Oper)(it:It):A6 Nat :=
 it.rd.filterMap (fun p=>match p.1 with|.tmp t=>some t|.global k=>some (GB+k)|_=>none) ++
 (match it.o.guard with
  |some (j,_)=>((ops[j]?).bind (·.dst)).toList
  |none=>[])
def ahead(bs:A6 Nat)(j i:Nat):Bool:=(bs.getD i 0).testBit j
def Ap7(ops:Array Oper)(Ga:A6 (Nat×AV))(Az:A6 It):Bool :=
 let bs:=A6l ops.toList;let n:=Az.length
 ops.size==n &&
 (List.range n).all fun i=>match Az[i]? with
  |none=>false
  |some it =>
   Mm it.F Ga&&(it.o.after.toList.all fun e=>!Region.binds .any e||decide (e.on<i)) &&
   (List.range n).all fun k=>i==k||match Az[k]? with
    |none=>false
    |some jt =>
     (match jt.o.dst with
      |none=>true
      |some d=>(!(looks ops it).contains d && !(it.o.dst==some d))||(if k<i then ahead bs k i else ahead bs i k)) &&
     (!(it.V7.Uu jt.V7)||(if k<i then ahead bs k i else ahead bs i k)) &&
     (it.F.isEmpty||ahead bs i k||Gs it.F jt.res)
structure DOk(ops:Array Oper)(Ga:List (Nat×AV))(Az:List It):Prop where
 size:ops.size=Az.length
 env:∀(i:Nat) it,Az[i]? = some it→Mm it.F Ga=true
 Bkp:∀(i:Nat) it,Az[i]? = some it→∀e∈it.o.after.toList,Region.binds .any e=true→e.on<i
 ord:∀(i k:Nat) it jt d,Az[i]? = some it→Az[k]? = some jt→i≠k→jt.o.dst=some d→(d∈looks ops it∨it.o.dst=some d) →
  (k<i→ahead (A6l ops.toList) k i=true)∧(i<k→ahead (A6l ops.toList) i k=true)
 A2p:∀(i k:Nat) it jt,Az[i]? = some it→Az[k]? = some jt→i≠k→it.V7.Uu jt.V7=true →
  (k<i→ahead (A6l ops.toList) k i=true)∧(i<k→ahead (A6l ops.toList) i k=true)
 free:∀(i k:Nat) it jt,Az[i]? = some it→Az[k]? = some jt→i≠k→it.F=[]∨ahead (A6l ops.toList) i k=true∨Gs it.F jt.res=true
def Att{Ga:A6 (Nat×AV)}(h:Ap7 ops Ga Az=true):DOk ops Ga Az:=by
 unfold Ap7 at h;simp only[Boo,Brv,Bok,Bse]at h;obtain⟨hs,h⟩:=h;have one:∀(i:Nat) it,Az[i]? = some it→i<Az.length:=fun i it hi=>(Bnj.1 hi).1
 have ifs:∀ {p q:Bool} {i k:Nat},i≠k→(if k<i then p else q)=true→(k<i→p=true)∧(i<k→q=true):=by
  intro p q i k hne hh;by_cases hk:k<i
  ·rw[Bo3 hk]at hh;exact⟨fun _=>hh,fun h=>by omega⟩
  ·rw[Bnv hk]at hh;exact⟨fun h=>(hk h).elim,fun _=>hh⟩
 have two:∀(i k:Nat) it jt,Az[i]? = some it→Az[k]? = some jt→i≠k →
   ((match jt.o.dst with
    |none=>true
    |some d=>(!(looks ops it).contains d && !(it.o.dst==some d))||(if k<i then ahead (A6l ops.toList) k i else ahead (A6l ops.toList) i k))=true ∧
   (!(it.V7.Uu jt.V7)||(if k<i then ahead (A6l ops.toList) k i else ahead (A6l ops.toList) i k))=true) ∧
   (it.F.isEmpty||ahead (A6l ops.toList) i k||Gs it.F jt.res)=true:=by
  intro i k it jt hi hk hne;have h1:=h i (one i it hi);rw[hi]at h1;simp only[Boo,Bok,Bse]at h1;have h2:=h1.2 k (one k jt hk);rw[hk]at h2;rw[Bpc]at h2;rcases h2 with h2|h2
  ·exact(hne (by simpa using h2)).elim
  ·simpa only [Boo]using h2
 refine⟨hs,?_,?_,?_,?_,?_⟩
 ·intro i it hi;have h1:=h i (one i it hi);rw[hi]at h1;simp only[Boo]at h1;exact h1.1.1
 ·intro i it hi e he hb;have h1:=h i (one i it hi);rw[hi]at h1;simp only[Boo,Bok]at h1;have h2:=h1.1.2 e he;rw[hb]at h2;simpa using h2
 ·intro i k it jt d hi hk hne hd hl;have h1:=(two i k it jt hi hk hne).1.1;rw[hd]at h1;simp only[Bpc]at h1;rcases h1 with h1|h1
  ·exfalso;simp only[Boo,Bqq,Bqp,ne_eq]at h1;rcases hl with hl|hl
   ·have:(looks ops it).contains d=true:=by simpa using hl
    rw[this]at h1;cases h1.1
   ·exact h1.2 hl
  ·exact ifs hne h1
 ·intro i k it jt hi hk hne h3;have h1:=(two i k it jt hi hk hne).1.2;simp only[Bpc]at h1;rcases h1 with h1|h1
  ·exfalso;rw[h3]at h1;cases h1
  ·exact ifs hne h1
 ·intro i k it jt hi hk hne;have h1:=(two i k it jt hi hk hne).2;simp only[Bpc]at h1;rcases h1 with (h1|h1)|h1
  ·exact .inl (by simpa using h1)
  ·exact .inr (.inl h1)
  ·exact .inr (.inr h1)
theorem Ap8{base:Nat→A7 AV}{Az:A6 It}{D:Nat→Bool}{t:Nat}{i:Nat}:∀(m:Nat),i≤m→(∀k it,Az[k]? = some it→i≤k→it.o.dst=some t→D k=false) →
  E base Az D m t=E base Az D i t
 | 0, h, _ => by have : i = 0 := by omega
                 subst this;rfl
 |m+1,h,hd=>by
  rcases Bpt m i with By|hge
  ·have:i=m+1:=by omega
   subst this;rfl
  ·have ih:=Ap8 (base:=base) (Az:=Az) (D:=D) (t:=t) m hge hd;rw[← ih]
   conv=>lhs;unfold E
   cases R3:Az[m]? with
   |none=>rfl
   |some it =>
    simp only;by_cases Xw:it.o.dst=some t
    ·rw[hd m it R3 hge Xw];simp
    ·have:(it.o.dst==some t)=false:=by simpa using Xw
     rw[this];simp
theorem Agv{base:Nat→A7 AV}{Az:A6 It}{D D':Nat→Bool}{t:Nat}:∀(m:Nat),(∀k it,Az[k]? = some it→k<m→it.o.dst=some t→D k=D' k)→E base Az D m t=E base Az D' m t
 |0,_=>rfl
 |m+1,hd=>by
  have ih:=Agv (base:=base) m fun k it hk hl Xw=>hd k it hk (by omega) Xw
  conv=>lhs;unfold E
  conv=>rhs;unfold E
  cases R3:Az[m]? with
  |none=>exact ih
  |some it =>
   simp only;by_cases Xw:it.o.dst=some t
   ·rw[hd m it R3 (Br5 m) Xw,ih]
   ·have:(it.o.dst==some t)=false:=by simpa using Xw
    rw[this];simpa using ih
def N5.A9k{e:N5}(h:e.writes k=false):(e.apply X).objs.lookup k=X.objs.lookup k:=by
 cases e with
 |none=>rfl
 |look=>rfl
 |lab=>rfl
 |put j c =>simp only[N5.apply,B5];rw[Bnv];rintro rfl;simp[N5.writes]at h
 |P9 j c L =>simp only[N5.apply,B5];rw[Bnv];rintro rfl;simp[N5.writes]at h
 |all=>simp[N5.writes]at h
 |new os L =>simp only[N5.writes,Option.isSome_eq_false_iff,Option.isNone_iff_eq_none]at h;simp only[N5.apply,Bpp,h,Brx]
def N5.isAll:N5→Bool
 |.all _=>true
 |.lab _=>true
 |.P9 _ _ _=>true
 |.new _ _=>true
 |_=>false
def N5.Ahq{e:N5}(h:e.isAll=false):(e.apply X).live=X.live:=by cases e<;>first|rfl|simp[N5.isAll]at h
theorem A14{X0:Ad}{Az:A6 It}{D:Nat→Bool}{i j:Nat}:∀(m:Nat),i≤m→(∀k it,Az[k]? = some it→i≤k→it.V7.writes j=true→D k=false) →
  (XE X0 Az D m).objs.lookup j=(XE X0 Az D i).objs.lookup j
 | 0, h, _ => by have : i = 0 := by omega
                 subst this;rfl
 |m+1,h,hd=>by
  rcases Bpt m i with By|hge
  ·have:i=m+1:=by omega
   subst this;rfl
  ·have ih:=A14 (X0:=X0) (Az:=Az) (D:=D) m hge hd;rw[← ih]
   conv=>lhs;unfold XE
   cases R3:Az[m]? with
   |none=>rfl
   |some it =>
    simp only;cases hw:it.V7.writes j with
    |false=>split<;>simp[N5.A9k hw]
    |true=>rw[hd m it R3 hge hw];simp
theorem A9l{X0:Ad}{Az:A6 It}{D D':Nat→Bool}{j:Nat}:∀(m:Nat),(∀k it,Az[k]? = some it→k<m→it.V7.writes j=true→D k=D' k) →
  (XE X0 Az D m).objs.lookup j=(XE X0 Az D' m).objs.lookup j
 |0,_=>rfl
 |m+1,hd=>by
  have ih:=A9l (X0:=X0) m fun k it hk hl hw=>hd k it hk (by omega) hw
  conv=>lhs;unfold XE
  conv=>rhs;unfold XE
  cases R3:Az[m]? with
  |none=>exact ih
  |some it =>
   simp only;cases hw:it.V7.writes j with
   |false=>split<;>split<;>simp[N5.A9k hw,ih]
   |true =>
    rw[hd m it R3 (Br5 m) hw];split
    ·cases he:it.V7 with
     |none=>exact ih
     |look=>exact ih
     |put k c=>simp only[N5.apply,B5,ih]
     |all X'=>rfl
     |lab L=>exact ih
     |P9 k c L=>simp only[N5.apply,B5,ih]
     |new os L=>simp only[N5.apply,Bpp,ih]
    ·exact ih
theorem Gn{X0:Ad}{Az:A6 It}{D:Nat→Bool}{i:Nat}:∀(m:Nat),i≤m→(∀k it,Az[k]? = some it→i≤k→it.V7.isAll=true→D k=false) →
  (XE X0 Az D m).live=(XE X0 Az D i).live
 | 0, h, _ => by have : i = 0 := by omega
                 subst this;rfl
 |m+1,h,hd=>by
  rcases Bpt m i with By|hge
  ·have:i=m+1:=by omega
   subst this;rfl
  ·have ih:=Gn (X0:=X0) (Az:=Az) (D:=D) m hge hd;rw[← ih]
   conv=>lhs;unfold XE
   cases R3:Az[m]? with
   |none=>rfl
   |some it =>
    simp only;cases hw:it.V7.isAll with
    |false=>split<;>simp[N5.Ahq hw]
    |true=>rw[hd m it R3 hge hw];simp
theorem Js{X0:Ad}{Az:A6 It}{D D':Nat→Bool}:∀(m:Nat),(∀k it,Az[k]? = some it→k<m→it.V7.isAll=true→D k=D' k) →
  (XE X0 Az D m).live=(XE X0 Az D' m).live
 |0,_=>rfl
 |m+1,hd=>by
  have ih:=Js (X0:=X0) m fun k it hk hl hw=>hd k it hk (by omega) hw
  conv=>lhs;unfold XE
  conv=>rhs;unfold XE
  cases R3:Az[m]? with
  |none=>exact ih
  |some it =>
   simp only;cases hw:it.V7.isAll with
   |false=>split<;>split<;>simp[N5.Ahq hw,ih]
   |true =>
    rw[hd m it R3 (Br5 m) hw];cases he:it.V7 with
    |all X'=>split<;>simp[N5.apply,ih]
    |lab L=>split<;>simp[N5.apply,ih]
    |P9 k c L=>split<;>simp[N5.apply,ih]
    |new os L=>split<;>simp[N5.apply,ih]
    |_=>rw[he]at hw;simp[N5.isAll]at hw
def A15(e:N5)(j:Nat)(h:(∃js,j∈js∧e = .look js)∨∃c,e = .put j c)(e':N5)(hw:e'.writes j=true):e.Uu e'=true:=by rcases h with ⟨js,hj,rfl⟩|⟨c,rfl⟩<;>cases e'<;>first|(simp_all [N5.Uu,N5.writes];done)|(simp only[N5.Uu,List.any_eq_true];exact⟨j,hj,hw⟩)
def Ap9{e:N5}(h:e.writes j=true):e≠.none:=by rintro rfl;cases h
def B3w{e:N5}(h:e.isAll=true):e≠.none:=by rintro rfl;cases h
def Amu(X:Ad)(e:N5)(h:e≠.none):(N5.all X).Uu e=true:=by cases e<;>first|rfl|exact absurd rfl h
structure Alike(X Y:Ad):Prop where
 objs:∀k,X.objs.lookup k=Y.objs.lookup k
 live:X.live=Y.live
def HR.alike(h:HR nm B g w X)(e:Alike X Y):HR nm B g w Y:=by
 refine⟨?_,h.Iw,h.base,h.io,h.le,h.frame,?_,?_,?_,?_,?_,h.Cq,?_,h.D0,h.D9,h.eta.same (Bno _) fun k o hk=>⟨o,by rw[e.objs];exact hk⟩⟩
 ·intro k hk;rw[← e.objs];exact h.Cc k hk
 ·intro k o hk;rw[← e.objs]at hk;exact h.objs k o hk
 ·intro k o hk;rw[← e.objs]at hk;exact h.Fi k o hk
 ·intro k k' o o' hk M1;rw[← e.objs]at hk M1;exact h.C1 k k' o o' hk M1
 ·intro k o hk;rw[← e.objs]at hk;exact h.Cf k o hk
 ·intro n;rw[← e.live];exact h.live n
 ·intro n b k o hn hk;rw[← e.objs]at hk;exact h.Bz n b k o hn hk
theorem Ahr{base:Nat→A7 AV}{Az:A6 It}{D:Nat→Bool}{t:Nat}{x:AV}:∀(m:Nat),E base Az D m t=some x→base t=some x∨∃k it,Az[k]? = some it∧D k=true∧it.res=x
 |0,h=>.inl h
 |m+1,h=>by
  unfold E at h;cases R3:Az[m]? with
  |none=>rw[R3]at h;exact Ahr m h
  |some it =>
   rw[R3]at h;simp only at h;split at h
   ·rename_i hc;simp only[Boo]at hc;exact .inr ⟨m,it,R3,hc.1,by simpa using h⟩
   ·exact Ahr m h
def sub(L:A6 Nat)(env:A6 (Nat×AV)):A6 (Nat×AV):=L.filterMap fun t=>(env.lookup t).map fun x=>(t,x)
def Ay6{env:A6 (Nat×AV)}{t:Nat}{x:AV}(h:(sub L env).lookup t=some x):t∈L∧env.lookup t=some x:=by have:=D3 h;unfold sub at this;rw[Btt]at this;obtain⟨t',ht',he⟩:=this;obtain⟨y,hy,hp⟩:=Bnn.1 he;cases hp;exact⟨ht',hy⟩
theorem A16{env:A6 (Nat×AV)}{t:Nat}{x:AV}:∀ {L:A6 Nat},t∈L→env.lookup t=some x→(sub L env).lookup t=some x
 |[],h,_=>by simp at h
 |s::L,h,hx=>by
  unfold sub;rw[List.filterMap_cons];by_cases hst:t=s
  ·subst hst;simp[hx]
  ·have hL:t∈L:=by
    rcases Bnd.1 h with h|h
    ·exact(hst h).elim
    ·exact h
   have ih:=A16 hL hx;unfold sub at ih;cases hs:env.lookup s with
   |none=>simpa using ih
   |some y =>
    simp only[Bol,Bot];have:(t==s)=false:=by simpa using hst
    rw[this];exact ih
theorem Has.sub{env:A6 (Nat×AV)}{t:Nat}{x:AV}{L:A6 Nat}(h:Has env t x)(ht:t∈L):Has (sub L env) t x:=by
 cases h with
 |eq _ h=>exact .eq _ (A16 ht h)
 |Cv n sz es ty h=>exact .Cv n sz es ty (A16 ht h)
 |nil sz h=>exact .nil sz (A16 ht h)
 |le _ _ h hle=>exact .le _ _ (A16 ht h) hle
structure DR(S:Sig)(B:B8)(st0:St)(Az:List It)(D:Nat→Bool)(g:Gh)(w:World)(a:Act):Prop where
 defers:a.defers=[]
 size:a.tmps.size=S.N
 hr:HR S.names B g w (XE st0.X Az D Az.length)
 env:∀t x,E (fun t=>st0.env.lookup t) Az D Az.length t=some x→∃v,Zo a t=some v∧RA g w x v
def Ay7{D D':Nat→Bool}{i:Nat}(hi:i<n)(h0:D i=false)(h1:D' i=true)(Amv:∀j,j≠i→D' j=D j) :
  ((List.range n).filter fun j=>!D' j).length<((List.range n).filter fun j=>!D j).length:=by
 have A9j:∀l:A6 Nat,((l.filter fun j=>!D' j).length≤(l.filter fun j=>!D j).length)∧(i∈l→(l.filter fun j=>!D' j).length<(l.filter fun j=>!D j).length):=by
  intro l;induction l with
  |nil=>simp
  |cons x l ih =>
   rw[Bq0,Bq0];by_cases hx:x=i
   ·subst hx;simp only[h0,h1,Bp8,Bpf,Bpz,Bon,Bpi,Bnx];exact⟨by have:=ih.1;omega,fun _=>by have:=ih.1;omega⟩
   ·rw[Amv x hx];have A9m:i∈x::l→i∈l:=fun h=>by
     rcases Bnd.1 h with h|h
     ·exact(hx h.symm).elim
     ·exact h
    split
    ·simp only[Bnx];exact⟨by have:=ih.1;omega,fun h=>by have:=ih.2 (A9m h);omega⟩
    ·exact⟨ih.1,fun h=>ih.2 (A9m h)⟩
 exact(A9j (List.range n)).2 (Bse.2 hi)
def Ahs{st0:St}(hd:Gf P S ops 0 st0 Az Bw)(ho:DOk ops st0.env Az)
  {Q:Exit→Act→World→Prop} (hq:∀g' w' a',SR S B g' w' Bw a'→Q .normal a' w') :
  ∀(fuel:Nat) (Aw:Array Bool) (g:Gh) (w:World) (a:Act),Aw.size=ops.size →
   (∀i o,ops[i]? = some o→Aw.getD i false=true→∀e∈o.after.toList,Region.binds .any e=true→Aw.getD e.on false=true) →
   DR S B st0 Az (fun i=>Aw.getD i false) g w a→((List.range ops.size).filter fun j=>!Aw.getD j false).length≤fuel →
   wpAny P .any ops Q fuel Aw a w:=by
 obtain⟨items,Bkq,Bkr⟩:=hd.items;have B7g:∀(i:Nat),i<ops.size→∃it,Az[i]? = some it:=fun i hi=>⟨Az[i]'(by rw[← ho.size];exact hi),by simp[← ho.size,hi]⟩
 have B7h:∀(i:Nat) (it:It),Az[i]? = some it→ops[i]? = some it.o:=by
  intro i it hi;obtain⟨stm,h1,_⟩:=items i it hi;have:=h1.at_
  rwa [Bog]at this
 have done:∀(Aw:Array Bool) (g:Gh) (w:World) (a:Act),Aw.size=ops.size→DR S B st0 Az (fun i=>Aw.getD i false) g w a →
   (∀i,i<ops.size→Aw.getD i false=true)→Q .normal a w:=by
  intro Aw g w a _ Y6 Ue;refine hq g w a ⟨Y6.defers,Y6.size,?_,?_⟩
  ·rw[Bkr];refine Y6.hr.alike ⟨fun j=>?_,?_⟩
   ·exact A9l (X0:=st0.X) (Az:=Az) (D:=fun i=>Aw.getD i false) (D':=fun _=>true) Az.length fun k it hk hl _=>by
     (try simp only);exact Ue k (by rw[ho.size];exact hl)
   ·exact Js (X0:=st0.X) (Az:=Az) (D:=fun i=>Aw.getD i false) (D':=fun _=>true) Az.length fun k it hk hl _=>by
     (try simp only);exact Ue k (by rw[ho.size];exact hl)
  ·intro t x hx;rw[Bkq t]at hx;have:=Agv (base:=fun t=>st0.env.lookup t) (Az:=Az) (D:=fun i=>Aw.getD i false) (D':=fun _=>true) (t:=t) Az.length fun k it hk hl _=>by
    (try simp only);exact Ue k (by rw[ho.size];exact hl)
   exact Y6.env t x (by rw[this];exact hx)
 have B7i:∀(Aw:Array Bool) (i:Nat) (d d':Bool),i<Aw.size→Aw.getD i d=Aw.getD i d':=by intro Aw i d d' hi;simp[Array.getD,hi]
 have B7j:∀(Aw:Array Bool),Aw.size=ops.size→Region.ready .any ops Aw=[]→∀i,i<ops.size→Aw.getD i false=true:=by
  intro Aw hs hr i;induction i using Nat.strongRecOn with
  |_ i ih =>
   intro hi;cases hl:Aw.getD i false with
   |true=>rfl
   |false =>
    exfalso;obtain⟨it,R3⟩:=B7g i hi;have A9m:i∈Region.ready .any ops Aw:=by rw[mem_ready];refine⟨by rw[B7i Aw i true false (by omega)];exact hl,it.o,B7h i it R3,fun e he hb=>?_⟩;have By:=ho.Bkp i it R3 e (by simpa using he) hb;exact ih e.on By (by omega)
    rw[hr]at A9m;simp at A9m
 intro fuel;induction fuel with
 |zero =>
  intro Aw g w a hs hcl Y6 hc;have Ue:∀i,i<ops.size→Aw.getD i false=true:=by
   intro i hi;have h0:(List.range ops.size).filter (fun j=>!Aw.getD j false)=[]:=Br3.1 (by omega);cases hl:Aw.getD i false with
   |true=>rfl
   |false =>
    have:i∈(List.range ops.size).filter (fun j=>!Aw.getD j false):=by rw[Bo9];exact⟨Bse.2 hi,by simp[hl]⟩
    rw[h0]at this;simp at this
  refine⟨?_,done Aw g w a hs Y6 Ue⟩;cases hr:Region.ready .any ops Aw with
  |nil=>rfl
  |cons i r =>
   have hm:i∈Region.ready .any ops Aw:=by rw[hr];exact Bnm
   rw[mem_ready]at hm;obtain⟨h1,o,h2,_⟩:=hm;have hi:i<ops.size:=(Bny.1 h2).1;rw[B7i Aw i true false (by omega),Ue i hi]at h1;cases h1
 |succ fuel ih =>
  intro Aw g w a hs hcl Y6 hc;refine⟨fun hr=>done Aw g w a hs Y6 (B7j Aw hs hr),?_⟩;intro i A9m;rw[mem_ready]at A9m;obtain⟨hun,o,hio,B7k⟩:=A9m;have hi:i<ops.size:=(Bny.1 hio).1;have hDi:Aw.getD i false=false:=by rw[B7i Aw i false true (by omega)];exact hun
  obtain⟨it,R3⟩:=B7g i hi;have hoe:o=it.o:=by have:=B7h i it R3;rw[hio]at this;simpa using this
  subst hoe;obtain⟨stm,Jr,Bkt,hXm⟩:=items i it R3;have Bmr:i<Az.length:=by rw[← ho.size];exact hi
  have B3x:∀i o,ops.toList[i]? = some o→Aw.getD i false=true→∀e∈o.after.toList,Region.binds .any e=true→Aw.getD e.on false=true :=
   fun i o h=>hcl i o (by simpa using h)
  have A59:∀k,ahead (A6l ops.toList) k i=true→Aw.getD k false=true:=by
   intro k hk;refine Aet (D:=fun i=>Aw.getD i false) B3x i ?_ k hk;intro o' ho' e he hb;have:o'=it.o:=by have h1:=B7h i it R3;rw[← Bpd,ho']at h1;simpa using h1
   subst this;exact B7k e (by simpa using he) hb
  have K3:∀k,ahead (A6l ops.toList) i k=true→Aw.getD k false=false:=by
   intro k hk;cases hl:Aw.getD k false with
   |false=>rfl
   |true =>
    have:=Aet (D:=fun i=>Aw.getD i false) B3x k (fun o' ho' e he hb=>B3x k o' ho' hl e he hb) i hk
    (try simp only at this)
    rw[hDi]at this;cases this
  have Aeu:∀t,t∈looks ops it→E (fun t=>st0.env.lookup t) Az (fun i=>Aw.getD i false) Az.length t=stm.env.lookup t:=by
   intro t ht;rw[Bkt t,Ap8 (i:=i) Az.length (by omega) ?_]
   ·refine Agv i fun k jt hk hl Xw=>?_
    (try simp only)
    exact A59 k ((ho.ord i k it jt t R3 hk (by omega) Xw (.inl ht)).1 hl)
   ·intro k jt hk hge Xw
    (try simp only)
    rcases Bpt i k with By|hle
    ·exact K3 k ((ho.ord i k it jt t R3 hk (by omega) Xw (.inl ht)).2 By)
    ·have:k=i:=by omega
     subst this;exact hDi
  have hsr:∀X,X=XE st0.X Az (fun i=>Aw.getD i false) Az.length→SR S B g w ⟨sub (looks ops it) stm.env,X⟩ a:=by intro X hX;subst hX;refine⟨Y6.defers,Y6.size,Y6.hr,?_⟩;intro t x hx;obtain⟨h1,h2⟩:=Ay6 hx;exact Y6.env t x (by rw[Aeu t h1];exact h2)
  have Bfp:Guard ops (⟨sub (looks ops it) stm.env,XE st0.X Az (fun i=>Aw.getD i false) Az.length⟩:St) it.o.guard it.run:=by
   have h1:=Jr.guard;have h2:∀(j:Nat) (d:Nat) (o:Oper) (Bn5:Bool),it.o.guard=some (j,Bn5)→ops[j]? = some o→o.dst=some d→d∈looks ops it:=by intro j d o Bn5 hg hj Xw;unfold looks;rw[hg];simp[hj,Xw]
   generalize it.o.guard=og at h1 h2;generalize it.run=rn at h1;cases h1 with
   |none=>exact .none
   |some j d o Bn5 b h3 h4 h5=>exact .some j d o Bn5 b h3 h4 (A16 (h2 j d o Bn5 rfl h3 h4) h5)
   |undef j d o Bn5 h3 h4 h5=>exact .undef j d o Bn5 h3 h4 (A16 (h2 j d o Bn5 rfl h3 h4) h5)
  have A9n:∀p∈it.rd,Fc (⟨sub (looks ops it) stm.env,XE st0.X Az (fun i=>Aw.getD i false) Az.length⟩:St) p.1 p.2:=by
   intro p hp;have h1:=Jr.V8 p hp;have h2:∀t,p.1 = .tmp t→t∈looks ops it:=by intro t ht;unfold looks;rw[Bnk,Btt];exact .inl ⟨p,hp,by rw[ht]⟩
   have h3:∀k,p.1 = .global k→GB+k∈looks ops it:=by intro k ht;unfold looks;rw[Bnk,Btt];exact .inl ⟨p,hp,by rw[ht]⟩
   obtain⟨p1,p2⟩:=p;simp only at h1 h2 h3⊢;cases h1 with
   |tmp t _ ht h=>exact .tmp t _ ht (h.sub (h2 t rfl))
   |Ali k _ h=>exact .Ali k _ (h.sub (h3 k rfl))
   |const v y h=>exact .const v y h
   |func f=>exact .func f
  have Bi2:=Bfp.wanted (o:=it.o) (hsr _ rfl);have Zr:∀j,(Aw.setIfInBounds i true).getD j false=if j=i then true else Aw.getD j false:=by
   intro j;by_cases hj:j=i
   ·subst hj;have:j<Aw.size:=by omega
    simp[this]
   ·rw[Bnv hj,getD_set_ne false (Bq5 hj)]
  have hD':(fun j=>(Aw.setIfInBounds i true).getD j false)=fun j=>if j=i then true else Aw.getD j false:=funext Zr
  have next:∀(g':Gh) (w':World) (v:Value),HR S.names B g' w' (XE st0.X Az (fun j=>if j=i then true else Aw.getD j false) Az.length)→Trans it.F g w g' w'→RA g' w' it.res v →
    wpAny P .any ops Q fuel (Aw.setIfInBounds i true) (a.put it.o.dst v) w':=by
   intro g' w' v hX ht hv;refine ih (Aw.setIfInBounds i true) g' w' (a.put it.o.dst v) (by simp[hs]) ?_ ?_ ?_
   ·intro j o' hj hl e he hb;rw[Zr]at hl⊢;by_cases hji:j=i
    ·subst hji;have:o'=it.o:=by rw[hio]at hj;simpa using hj.symm
     subst this;have:=B7k e (by simpa using he) hb;split
     ·rfl
     ·exact this
    ·rw[Bnv hji]at hl;have:=hcl j o' hj hl e he hb;split
     ·rfl
     ·exact this
   ·rw[hD'];refine⟨?_,?_,hX,?_⟩
    ·cases Xw:it.o.dst<;>simp[Act.put,Y6.defers]
    ·cases Xw:it.o.dst<;>simp[Act.put,Y6.size]
    ·intro t x hx;by_cases Xw:it.o.dst=some t
     ·
      have hE:E (fun t=>st0.env.lookup t) Az (fun j=>if j=i then true else Aw.getD j false) Az.length t=some it.res:=by
       rw[Ap8 (i:=i+1) Az.length (by omega) ?_]
       ·unfold E;rw[R3];simp[Xw]
       ·intro k jt hk hge hkd
        (try simp only)
        rw[Bnv (by omega)];exact K3 k ((ho.ord i k it jt t R3 hk (by omega) hkd (.inr Xw)).2 (by omega))
      rw[hE]at hx;simp only[Bnf]at hx;subst hx;have By:t<a.tmps.size∧t<GB:=by have:=Jr.dst;rw[Xw]at this;rw[Y6.size];simpa[Jw]using this
      refine⟨v,?_,hv⟩;rw[Xw];exact Ah6 By.1 By.2
     ·have hE:E (fun t=>st0.env.lookup t) Az (fun j=>if j=i then true else Aw.getD j false) Az.length t=E (fun t=>st0.env.lookup t) Az (fun i=>Aw.getD i false) Az.length t:=by
       refine Agv Az.length fun k jt hk hl hkd=>?_
       (try simp only)
       by_cases hki:k=i
       ·subst hki;rw[R3]at hk;simp only[Bnf]at hk;subst hk;exact(Xw hkd).elim
       ·rw[Bnv hki]
      rw[hE]at hx;obtain⟨u,hu,Xt⟩:=Y6.env t x hx;have Ql:Zn it.F x:=by
       rcases Ahr Az.length hx with h|⟨k,jt,hk,hDk,rfl⟩
       ·exact Wa (ho.env i it R3) h
       ·have hki:i≠k:=by rintro rfl;(try simp only at hDk);rw[hDi]at hDk;cases hDk
        rcases ho.free i k it jt R3 hk hki with h|h|h
        ·exact .all _ _ h
        ·have:=K3 k h;(try simp only at hDk);rw[this]at hDk;cases hDk
        ·exact Qz h
      refine⟨u,?_,Xt.mono ht Ql⟩;cases hdd:it.o.dst with
      |none=>simpa[Act.put]using hu
      |some d =>
       have:t≠d:=by rintro rfl;exact Xw hdd
       exact(Amq this).trans hu
   ·have:=Ay7 (D:=fun j=>Aw.getD j false) (D':=fun j=>(Aw.setIfInBounds i true).getD j false) (n:=ops.size) (i:=i) hi hDi (by (try simp only);rw[Zr,Bo3 rfl]) (by
     intro j hj;(try simp only);rw[Zr,Bnv hj])
    (try simp only at this)
    omega
  have sameAt:∀j,it.V7.writes j=false→(XE st0.X Az (fun j=>if j=i then true else Aw.getD j false) Az.length).objs.lookup j=(XE st0.X Az (fun i=>Aw.getD i false) Az.length).objs.lookup j:=by
   intro j hw;refine A9l Az.length fun k jt hk hl hkw=>?_
   (try simp only)
   by_cases hki:k=i
   ·subst hki;rw[R3]at hk;simp only[Bnf]at hk;subst hk;rw[hw]at hkw;cases hkw
   ·rw[Bnv hki]
  have A9o:it.V7.isAll=false→(XE st0.X Az (fun j=>if j=i then true else Aw.getD j false) Az.length).live=(XE st0.X Az (fun i=>Aw.getD i false) Az.length).live:=by
   intro hw;refine Js Az.length fun k jt hk hl hkw=>?_
   (try simp only)
   by_cases hki:k=i
   ·subst hki;rw[R3]at hk;simp only[Bnf]at hk;subst hk;rw[hw]at hkw;cases hkw
   ·rw[Bnv hki]
  have A9p:∀j,(∀e',e'.writes j=true→it.V7.Uu e'=true)→(XE st0.X Az (fun i=>Aw.getD i false) Az.length).objs.lookup j=stm.X.objs.lookup j:=by
   intro j B3x;rw[hXm,A14 (i:=i) Az.length (by omega) ?_]
   ·refine A9l i fun k jt hk hl hkw=>?_
    (try simp only)
    exact A59 k ((ho.A2p i k it jt R3 hk (by omega) (B3x _ hkw)).1 hl)
   ·intro k jt hk hge hkw
    (try simp only)
    rcases Bpt i k with By|hle
    ·exact K3 k ((ho.A2p i k it jt R3 hk (by omega) (B3x _ hkw)).2 By)
    ·have:k=i:=by omega
     subst this;exact hDi
  unfold wpOp;rw[hio];simp only;rw[Bi2];cases Fj:it.run with
  |false =>obtain⟨h1,h2,h3⟩:=Jr.Bc0 Fj;simp only[Bon,Bpi];refine next g w undef (Y6.hr.alike ⟨fun j=>(sameAt j (by rw[h1];rfl)).symm,(A9o (by rw[h1];rfl)).symm⟩) (by rw[h2];exact .refl _ _ _) (by rw[h3];exact .Jz _ _ _)
  |true =>
   simp only[Bpz];refine .inl ?_;have A9q:=Jr.opt Fj;cases he:it.V7 with
   |none =>rw[he]at A9q;obtain⟨h2,hT⟩:=A9q;refine hT (XE st0.X Az (fun i=>Aw.getD i false) Az.length) S.names S.small B g w a Y6.hr (fun p hp=>(A9n p hp).ra (hsr _ rfl)) _ Q ?_;intro g' w' v hX ht hv;exact next g' w' v (hX.alike ⟨fun j=>(sameAt j (by rw[he];rfl)).symm,(A9o (by rw[he];rfl)).symm⟩) (by rw[h2];exact ht) hv
   |look ks =>rw[he]at A9q;obtain⟨h2,hT⟩:=A9q;refine hT (XE st0.X Az (fun i=>Aw.getD i false) Az.length) (fun k hk=>A9p k (fun e' hw=>by rw[he];exact A15 _ k (.inl ⟨ks,hk,rfl⟩) e' hw)) S.names S.small B g w a Y6.hr (fun p hp=>(A9n p hp).ra (hsr _ rfl)) _ Q ?_;intro g' w' v hX ht hv;exact next g' w' v (hX.alike ⟨fun j=>(sameAt j (by rw[he];rfl)).symm,(A9o (by rw[he];rfl)).symm⟩) (by rw[h2];exact ht) hv
   |put k c =>
    rw[he]at A9q;obtain⟨h2,hT⟩:=A9q;refine hT (XE st0.X Az (fun i=>Aw.getD i false) Az.length) (A9p k (fun e' hw=>by rw[he];exact A15 _ k (.inr ⟨c,rfl⟩) e' hw)) S.names S.small B g w a Y6.hr (fun p hp=>(A9n p hp).ra (hsr _ rfl)) _ Q ?_;intro g' w' v hX ht hv;refine next g' w' v (hX.alike ⟨fun j=>?_,(A9o (by rw[he];rfl)).symm⟩) (by rw[h2];exact ht) hv
    simp only[B5];by_cases hjk:j=k
    ·subst hjk;rw[Bo3 rfl,A14 (i:=i+1) Az.length (by omega) ?_]
     ·unfold XE;rw[R3];simp[he,N5.apply,B5]
     ·intro m jt hm hge hw
      (try simp only)
      rw[Bnv (by omega)];exact K3 m ((ho.A2p i m it jt R3 hm (by omega) (by rw[he];exact A15 _ j (.inr ⟨c,rfl⟩) _ hw)).2 (by omega))
    ·rw[Bnv hjk];refine(sameAt j ?_).symm;rw[he];simp only[N5.writes,Bqp,ne_eq];exact Bq5 hjk
   |all X' =>
    rw[he]at A9q;have Sb:∀(e':N5) (j:Nat),e'.writes j=true→it.V7.Uu e'=true:=by intro e' j hw;rw[he];exact Amu _ _ (Ap9 hw)
    have L7:∀e':N5,e'.isAll=true→it.V7.Uu e'=true:=by intro e' hw;rw[he];exact Amu _ _ (B3w hw)
    have hXD:Alike (XE st0.X Az (fun i=>Aw.getD i false) Az.length) stm.X:=by
     refine⟨fun j=>A9p j (fun e' hw=>Sb e' j hw),?_⟩;rw[hXm,Gn (i:=i) Az.length (by omega) ?_]
     ·refine Js i fun k jt hk hl hkw=>?_
      (try simp only)
      exact A59 k ((ho.A2p i k it jt R3 hk (by omega) (L7 _ hkw)).1 hl)
     ·intro k jt hk hge hkw
      (try simp only)
      rcases Bpt i k with By|hle
      ·exact K3 k ((ho.A2p i k it jt R3 hk (by omega) (L7 _ hkw)).2 By)
      ·have:k=i:=by omega
       subst this;exact hDi
    refine A9q S.names S.small B g w a (Y6.hr.alike hXD) (fun p hp=>(A9n p hp).ra (hsr _ rfl)) _ Q ?_;intro g' w' v hX ht hv;refine next g' w' v (hX.alike ⟨fun j=>?_,?_⟩) ht hv
    ·rw[A14 (i:=i+1) Az.length (by omega) ?_]
     ·unfold XE;rw[R3];simp[he,N5.apply]
     ·intro m jt hm hge hw
      (try simp only)
      rw[Bnv (by omega)];exact K3 m ((ho.A2p i m it jt R3 hm (by omega) (Sb _ j hw)).2 (by omega))
    ·rw[Gn (i:=i+1) Az.length (by omega) ?_]
     ·unfold XE;rw[R3];simp[he,N5.apply]
     ·intro m jt hm hge hw
      (try simp only)
      rw[Bnv (by omega)];exact K3 m ((ho.A2p i m it jt R3 hm (by omega) (L7 _ hw)).2 (by omega))
   |lab L =>
    rw[he]at A9q;have Sb:∀(e':N5) (j:Nat),e'.writes j=true→it.V7.Uu e'=true:=by intro e' j hw;rw[he];cases e'<;>first|rfl|(simp[N5.writes]at hw)
    have L7:∀e':N5,e'.isAll=true→it.V7.Uu e'=true:=by intro e' hw;rw[he];cases e'<;>first|rfl|(simp[N5.isAll]at hw)
    have hXD:Alike (XE st0.X Az (fun i=>Aw.getD i false) Az.length) stm.X:=by
     refine⟨fun j=>A9p j (fun e' hw=>Sb e' j hw),?_⟩;rw[hXm,Gn (i:=i) Az.length (by omega) ?_]
     ·refine Js i fun k jt hk hl hkw=>?_
      (try simp only)
      exact A59 k ((ho.A2p i k it jt R3 hk (by omega) (L7 _ hkw)).1 hl)
     ·intro k jt hk hge hkw
      (try simp only)
      rcases Bpt i k with By|hle
      ·exact K3 k ((ho.A2p i k it jt R3 hk (by omega) (L7 _ hkw)).2 By)
      ·have:k=i:=by omega
       subst this;exact hDi
    refine A9q S.names S.small B g w a (Y6.hr.alike hXD) (fun p hp=>(A9n p hp).ra (hsr _ rfl)) _ Q ?_;intro g' w' v hX ht hv;refine next g' w' v (hX.alike ⟨fun j=>?_,?_⟩) ht hv
    ·rw[sameAt j (by rw[he];rfl),A9p j (fun e' hw=>Sb e' j hw)]
    ·rw[Gn (i:=i+1) Az.length (by omega) ?_]
     ·unfold XE;rw[R3];simp[he,N5.apply]
     ·intro m jt hm hge hw
      (try simp only)
      rw[Bnv (by omega)];exact K3 m ((ho.A2p i m it jt R3 hm (by omega) (L7 _ hw)).2 (by omega))
   |P9 k0 c0 L =>
    rw[he]at A9q;have Sb:∀(e':N5) (j:Nat),e'.writes j=true→it.V7.Uu e'=true:=by intro e' j hw;rw[he];cases e'<;>first|rfl|(simp[N5.writes]at hw)
    have L7:∀e':N5,e'.isAll=true→it.V7.Uu e'=true:=by intro e' hw;rw[he];cases e'<;>first|rfl|(simp[N5.isAll]at hw)
    have hXD:Alike (XE st0.X Az (fun i=>Aw.getD i false) Az.length) stm.X:=by
     refine⟨fun j=>A9p j (fun e' hw=>Sb e' j hw),?_⟩;rw[hXm,Gn (i:=i) Az.length (by omega) ?_]
     ·refine Js i fun k jt hk hl hkw=>?_
      (try simp only)
      exact A59 k ((ho.A2p i k it jt R3 hk (by omega) (L7 _ hkw)).1 hl)
     ·intro k jt hk hge hkw
      (try simp only)
      rcases Bpt i k with By|hle
      ·exact K3 k ((ho.A2p i k it jt R3 hk (by omega) (L7 _ hkw)).2 By)
      ·have:k=i:=by omega
       subst this;exact hDi
    refine A9q S.names S.small B g w a (Y6.hr.alike hXD) (fun p hp=>(A9n p hp).ra (hsr _ rfl)) _ Q ?_;intro g' w' v hX ht hv;refine next g' w' v (hX.alike ⟨fun j=>?_,?_⟩) ht hv
    ·simp only[B5];by_cases hjk:j=k0
     ·subst hjk;rw[Bo3 rfl,A14 (i:=i+1) Az.length (by omega) ?_]
      ·unfold XE;rw[R3];simp[he,N5.apply,B5]
      ·intro m jt hm hge hw
       (try simp only)
       rw[Bnv (by omega)];exact K3 m ((ho.A2p i m it jt R3 hm (by omega) (Sb _ j hw)).2 (by omega))
     ·rw[Bnv hjk,sameAt j (by rw[he];simp only[N5.writes,Bqp,ne_eq];exact Bq5 hjk),A9p j (fun e' hw=>Sb e' j hw)]
    ·rw[Gn (i:=i+1) Az.length (by omega) ?_]
     ·unfold XE;rw[R3];simp[he,N5.apply]
     ·intro m jt hm hge hw
      (try simp only)
      rw[Bnv (by omega)];exact K3 m ((ho.A2p i m it jt R3 hm (by omega) (L7 _ hw)).2 (by omega))
   |new os L =>
    rw[he]at A9q;have Sb:∀(e':N5) (j:Nat),e'.writes j=true→it.V7.Uu e'=true:=by intro e' j hw;rw[he];cases e'<;>first|rfl|(simp[N5.writes]at hw)
    have L7:∀e':N5,e'.isAll=true→it.V7.Uu e'=true:=by intro e' hw;rw[he];cases e'<;>first|rfl|(simp[N5.isAll]at hw)
    have hXD:Alike (XE st0.X Az (fun i=>Aw.getD i false) Az.length) stm.X:=by
     refine⟨fun j=>A9p j (fun e' hw=>Sb e' j hw),?_⟩;rw[hXm,Gn (i:=i) Az.length (by omega) ?_]
     ·refine Js i fun k jt hk hl hkw=>?_
      (try simp only)
      exact A59 k ((ho.A2p i k it jt R3 hk (by omega) (L7 _ hkw)).1 hl)
     ·intro k jt hk hge hkw
      (try simp only)
      rcases Bpt i k with By|hle
      ·exact K3 k ((ho.A2p i k it jt R3 hk (by omega) (L7 _ hkw)).2 By)
      ·have:k=i:=by omega
       subst this;exact hDi
    refine A9q S.names S.small B g w a (Y6.hr.alike hXD) (fun p hp=>(A9n p hp).ra (hsr _ rfl)) _ Q ?_;intro g' w' v hX ht hv;refine next g' w' v (hX.alike ⟨fun j=>?_,?_⟩) ht hv
    ·simp only[Bpp];cases hos:os.lookup j with
     |some y =>
      have hwj:(N5.new os L).writes j=true:=by simp[N5.writes,hos]
      rw[A14 (i:=i+1) Az.length (by omega) ?_]
      ·unfold XE;rw[R3];simp[he,N5.apply,Bpp,hos]
      ·intro m jt hm hge hw
       (try simp only)
       rw[Bnv (by omega)];exact K3 m ((ho.A2p i m it jt R3 hm (by omega) (Sb _ j hw)).2 (by omega))
     |none =>rw[Brx,sameAt j (by rw[he];simp[N5.writes,hos]),A9p j (fun e' hw=>Sb e' j hw)]
    ·rw[Gn (i:=i+1) Az.length (by omega) ?_]
     ·unfold XE;rw[R3];simp[he,N5.apply]
     ·intro m jt hm hge hw
      (try simp only)
      rw[Bnv (by omega)];exact K3 m ((ho.A2p i m it jt R3 hm (by omega) (L7 _ hw)).2 (by omega))
def Agd{Q:Exit→St→Prop}{id:Nat}(hm:P.follows .mixedOrders=true)
  (hd:Gf P S ops 0 st Az Bw) (ho:DOk ops st.env Az) (hq:Q .normal Bw):AWp P S (.region id ops true) Q st:=by
 intro B g w a hs;refine wp_region_any hm ?_;obtain⟨hr,ht⟩:=hs.hr.drew;have hz:∀j,(Array.replicate ops.size false).getD j false=false:=by intro j;simp only[Array.getD];split<;>simp
 have hE0:∀m t,E (fun t=>st.env.lookup t) Az (fun i=>(Array.replicate ops.size false).getD i false) m t=st.env.lookup t:=by intro m t;rw[Ap8 (i:=0) m (Bq9 _) (fun k it _ _ _=>hz k)];rfl
 have hX0:∀m,Alike st.X (XE st.X Az (fun i=>(Array.replicate ops.size false).getD i false) m):=by
  intro m;refine⟨fun j=>?_,?_⟩
  ·rw[A14 (i:=0) m (Bq9 _) (fun k it _ _ _=>hz k)];rfl
  ·rw[Gn (i:=0) m (Bq9 _) (fun k it _ _ _=>hz k)];rfl
 refine Ahs hd ho (B:=B) (fun g' w' a' Hv=>⟨Bw,g',hq,Hv⟩) ops.size _ g _ a (by simp) ?_ ⟨hs.defers,hs.size,hr.alike (hX0 _),?_⟩ ?_
 ·intro i o _ hl;rw[hz]at hl;cases hl
 ·intro t x hx;rw[hE0]at hx;obtain⟨v,hv,Xt⟩:=hs.env t x hx;exact⟨v,hv,Xt.mono ht (.nil x)⟩
 ·exact Bop (Bov _ _) (by simp)
inductive L8(st:St):List (Operand×AV)→Prop
 |nil:L8 st []
 |cons {x:Operand} {v:AV} {r:List (Operand×AV)}:Fc st x v→L8 st r→L8 st ((x,v)::r)
def L8.all{l:A6 (Operand×AV)}(h:L8 st l):∀p∈l,Fc st p.1 p.2:=by
 induction h with
 |nil=>simp
 |cons h _ ih =>
  intro p hp;rcases Bnd.1 hp with rfl|hp
  ·exact h
  ·exact ih p hp
def Rw(P:Program)(S:Sig)(ops:Array Oper)(l:A6 Nat)(st:St)(K:St→Prop):Prop :=
 ∀(B:B8) (g:Gh) (w:World) (a:Act) (Q:Exit→Act→World→Prop),SR S B g w st a→(∀g' w' a' Bw,K Bw→SR S B g' w' Bw a'→Q .normal a' w')→wpOps P ops Q l a w
section
variable{P:Program}{S:Sig}{ops:Array Oper}{i:Nat}{Bn4:A6 Nat}{st:St}{K:St→Prop}{o:Oper}{rd:A6 (Operand×AV)}{X':Ad}{F:A6 Nat}{res:AV}
def Rw.done(h:K st):Rw P S ops [] st K:=fun _ g w a _ hs hq=>hq g w a st h hs
def Rw.opg(ho:ops[i]? = some o)(hg:Guard ops st o.guard true)(ht:Ca P o rd st.X X' F res)(hs:L8 st rd)(hF:Mm F st.env=true)(hd:Jw S.N o.dst=true)
  (h:Rw P S ops Bn4 ⟨E6 o.dst res st.env,X'⟩ K):Rw P S ops (i::Bn4) st K:=by
 intro B g w a Q hsr hq;unfold wpOps;simp only[ho,hg.wanted hsr,Bpz];refine .inl (ht S.names S.small B g w a hsr.hr (fun p hp=>(hs.all p hp).ra hsr) _ Q ?_);intro g' w' v hX htr hv;exact h B g' w' _ Q (hsr.put htr hF hX hd hv) hq
def Rw.skip(ho:ops[i]? = some o)(hg:Guard ops st o.guard false)(hd:Jw S.N o.dst=true)(h:Rw P S ops Bn4 ⟨E6 o.dst (.d (.sc undef)) st.env,st.X⟩ K):Rw P S ops (i::Bn4) st K:=by intro B g w a Q hsr hq;unfold wpOps;simp only[ho,hg.wanted hsr,Bon,Bpi];exact h B g w _ Q (hsr.put (.refl [] g w) rfl hsr.hr hd (.d _ _ (.sc _))) hq
def SR.known{x:AV}(h:SR S B g w st a)(hl:st.env.lookup d=some x):SR S B g w ⟨(d,x)::st.env,st.X⟩ a:=by
 refine⟨h.defers,h.size,h.hr,?_⟩;intro t y hy;rw[Bot]at hy;split at hy
 ·rename_i he;have:t=d:=by simpa using he
  subst this;simp only[Bnf]at hy;subst hy;exact h.env t x hl
 ·exact h.env t y hy
theorem Rw.cases{l:A6 Nat}{d:Nat}{b:Bool}(hl:st.env.lookup d=some (.d (.sc (.bool b))))(ht:b=true→Rw P S ops l ⟨(d,.d (.sc (.bool true)))::st.env,st.X⟩ K)
  (hf:b=false→Rw P S ops l ⟨(d,.d (.sc (.bool false)))::st.env,st.X⟩ K):Rw P S ops l st K:=by
 intro B g w a Q hsr hq;cases b with
 |true=>exact ht rfl B g w a Q (hsr.known hl) hq
 |false=>exact hf rfl B g w a Q (hsr.known hl) hq
def Bfq{Q:Exit→St→Prop}{id:Nat}(hn:ops.size=n)(h:Rw P S ops (List.range n) st (Q .normal)):AWp P S (.region id ops false) Q st:=by subst hn;intro B g w a hs;exact wp_region (h B g w a _ hs fun g' w' a' Bw hk Hv=>⟨Bw,g',hk,Hv⟩)
structure Aht(st Bw:St):Prop where
 env:∀t,st.env.lookup t=Bw.env.lookup t
 X:st.X=Bw.X
def Aht.refl(st:St):Aht st st:=⟨fun _=>rfl,rfl⟩
def Aht.put(h:Aht st Bw)(dst:A7 Tmp)(x:AV)(X:Ad):Aht ⟨E6 dst x st.env,X⟩ ⟨E6 dst x Bw.env,X⟩ :=
 ⟨fun t=>by simp only[A75,h.env t],rfl⟩
def Has.same{e e':A6 (Nat×AV)}(h:∀t,e.lookup t=e'.lookup t){t:Nat}{x:AV}(hh:Has e t x):Has e' t x:=by
 cases hh with
 |eq _ h1=>exact .eq _ ((h t).symm.trans h1)
 |Cv n sz es ty h1=>exact .Cv n sz es ty ((h t).symm.trans h1)
 |nil sz h1=>exact .nil sz ((h t).symm.trans h1)
 |le _ _ h1 hle=>exact .le _ _ ((h t).symm.trans h1) hle
theorem Fc.same(h:Aht st Bw){v:AV}(hh:Fc st x v):Fc Bw x v:=by
 cases hh with
 |tmp t _ ht h1=>exact .tmp t _ ht (h1.same h.env)
 |Ali k _ h1=>exact .Ali k _ (h1.same h.env)
 |const v y h1=>exact .const v y h1
 |func f=>exact .func f
def Guard.same(h:Aht st Bw){b:Bool}(hh:Guard ops st og b):Guard ops Bw og b:=by
 cases hh with
 |none=>exact .none
 |some j d o Bn5 b h1 h2 h3=>exact .some j d o Bn5 b h1 h2 ((h.env d).symm.trans h3)
 |undef j d o Bn5 h1 h2 h3=>exact .undef j d o Bn5 h1 h2 ((h.env d).symm.trans h3)
theorem Gf.same{st1:St}(hc:Gf P S ops i st Az st1):∀ {Bw:St},Aht st Bw→∃Yz,Gf P S ops i Bw Az Yz∧Aht st1 Yz:=by
 induction hc with
 |nil i st=>intro Bw h;exact⟨Bw,.nil i Bw,h⟩
 |op h1 h2 h3 h4 h5 _ ih =>intro Bw h;obtain⟨s1,c1,e1⟩:=ih (h.put _ _ _);exact⟨s1,.op h1 (h2.same h) (fun p hp=>(h3 p hp).same h) h4 h5 (h.X▸c1),e1⟩
 |look h1 h2 h3 h4 h5 _ ih =>intro Bw h;obtain⟨s1,c1,e1⟩:=ih (h.put _ _ _);exact⟨s1,.look h1 (h2.same h) (fun p hp=>(h3 p hp).same h) (h.X▸h4) h5 (h.X▸c1),e1⟩
 |put h1 h2 h3 h4 h5 _ ih =>intro Bw h;obtain⟨s1,c1,e1⟩:=ih (h.put _ _ _);exact⟨s1,.put h1 (h2.same h) (fun p hp=>(h3 p hp).same h) (h.X▸h4) h5 (h.X▸c1),e1⟩
 |V7 h1 h2 h3 h4 h5 _ ih =>intro Bw h;obtain⟨s1,c1,e1⟩:=ih (h.put _ _ _);exact⟨s1,.V7 h1 (h2.same h) (fun p hp=>(h3 p hp).same h) (h.X▸h4) h5 c1,e1⟩
 |lab h1 h2 h3 h4 h5 _ ih =>intro Bw h;obtain⟨s1,c1,e1⟩:=ih (h.put _ _ _);exact⟨s1,.lab h1 (h2.same h) (fun p hp=>(h3 p hp).same h) (h.X▸h4) h5 (h.X▸c1),e1⟩
 |P9 h1 h2 h3 h4 h5 _ ih =>intro Bw h;obtain⟨s1,c1,e1⟩:=ih (h.put _ _ _);exact⟨s1,.P9 h1 (h2.same h) (fun p hp=>(h3 p hp).same h) (h.X▸h4) h5 (h.X▸c1),e1⟩
 |new h1 h2 h3 h4 h5 _ ih =>intro Bw h;obtain⟨s1,c1,e1⟩:=ih (h.put _ _ _);exact⟨s1,.new h1 (h2.same h) (fun p hp=>(h3 p hp).same h) (h.X▸h4) h5 (h.X▸c1),e1⟩
 |skip h1 h2 h5 _ ih =>intro Bw h;obtain⟨s1,c1,e1⟩:=ih (h.put _ _ _);exact⟨s1,.skip h1 (h2.same h) h5 (h.X▸c1),e1⟩
def Ay9(ops:Array Oper)(Az:A6 It):Prop:=∀(m:Nat) it,Az[m]? = some it→ops[m]? = some it.o
def Gf.link(h:Gf P S ops i st Az Bw):∀(m:Nat) it,Az[m]? = some it→ops[i+m]? = some it.o:=by
 have key:∀ {i:Nat} {it:It} {Az:A6 It},ops[i]? = some it.o→(∀(m:Nat) jt,Az[m]? = some jt→ops[i+1+m]? = some jt.o)→∀(m:Nat) jt,(it::Az)[m]? = some jt→ops[i+m]? = some jt.o:=by
  intro i it Az h1 h2 m jt hm;cases m with
  |zero=>simp only[Bre,Bnf]at hm;subst hm;exact h1
  |succ m=>rw[show i+(m+1)=i+1+m by omega];exact h2 m jt (by simpa using hm)
 induction h with
 |nil=>simp
 |op h1 _ _ _ _ _ ih=>exact key h1 ih
 |look h1 _ _ _ _ _ ih=>exact key h1 ih
 |put h1 _ _ _ _ _ ih=>exact key h1 ih
 |V7 h1 _ _ _ _ _ ih=>exact key h1 ih
 |lab h1 _ _ _ _ _ ih=>exact key h1 ih
 |P9 h1 _ _ _ _ _ ih=>exact key h1 ih
 |new h1 _ _ _ _ _ ih=>exact key h1 ih
 |skip h1 _ _ _ ih=>exact key h1 ih
def Dw(P:Program)(S:Sig)(ops:Array Oper)(i n:Nat)(st:St)(done:A6 It)(Ga:A6 (Nat×AV))(K:St→Prop):Prop :=
 ∃Az Bw Xx,Gf P S ops i st Az Bw∧Az.length=n∧(Ay9 ops (done++Az)→DOk ops Ga (done++Az))∧Aht Bw Xx∧K Xx
variable{n:Nat}{done:A6 It}{Ga:A6 (Nat×AV)}
def Dw.fin(ho:Ay9 ops done→DOk ops Ga done)(hk:K st):Dw P S ops i 0 st done Ga K:=⟨[],st,st,.nil i st,rfl,by simpa using ho,.refl st,hk⟩
theorem Dw.cases{d:Nat}{b:Bool}(hl:st.env.lookup d=some (.d (.sc (.bool b))))(ht:b=true→Dw P S ops i n ⟨(d,.d (.sc (.bool true)))::st.env,st.X⟩ done Ga K)
  (hf:b=false→Dw P S ops i n ⟨(d,.d (.sc (.bool false)))::st.env,st.X⟩ done Ga K):Dw P S ops i n st done Ga K:=by
 have key:∀x,st.env.lookup d=some x→Dw P S ops i n ⟨(d,x)::st.env,st.X⟩ done Ga K→Dw P S ops i n st done Ga K:=by
  rintro x hx ⟨Az,Bw,Xx,hc,hl,Jr,hs,hk⟩;have e:Aht ⟨(d,x)::st.env,st.X⟩ st:=by
   refine⟨fun t=>?_,rfl⟩;rw[Bot];split
   ·rename_i he;have:t=d:=by simpa using he
    subst this;exact hx.symm
   ·rfl
  obtain⟨s1,c1,e1⟩:=hc.same e;exact⟨Az,s1,Xx,c1,hl,Jr,⟨fun t=>(e1.env t).symm.trans (hs.env t),e1.X.symm.trans hs.X⟩,hk⟩
 cases b with
 |true=>exact key _ hl (ht rfl)
 |false=>exact key _ hl (hf rfl)
def Amw(h:og = .none):Guard ops st og true:=by subst h;exact .none
theorem Dw.op(ho:ops[i]? = some o)(hg:Guard ops st o.guard true)(ht:∀X,Ca P o rd X X [] res)(hs:L8 st rd)(hd:Jw S.N o.dst=true)
  (h:Dw P S ops (i+1) n ⟨E6 o.dst res st.env,st.X⟩ (done++[⟨o,true,rd,.none,[],res⟩]) Ga K):Dw P S ops i (n+1) st done Ga K:=by
 obtain⟨Az,Bw,Xx,hc,hl,Jr,hk⟩:=h;exact⟨_::Az,Bw,Xx,.op ho hg hs.all ht hd hc,by simp[hl],by simpa using Jr,hk⟩
theorem Dw.look(ho:ops[i]? = some o)(hg:Guard ops st o.guard true)(ht:∀X:Ad,(∀k∈ks,X.objs.lookup k=st.X.objs.lookup k)→Ca P o rd X X [] res)(hs:L8 st rd)(hd:Jw S.N o.dst=true)
  (h:Dw P S ops (i+1) n ⟨E6 o.dst res st.env,st.X⟩ (done++[⟨o,true,rd,.look ks,[],res⟩]) Ga K):Dw P S ops i (n+1) st done Ga K:=by
 obtain⟨Az,Bw,Xx,hc,hl,Jr,hk⟩:=h;exact⟨_::Az,Bw,Xx,.look ho hg hs.all ht hd hc,by simp[hl],by simpa using Jr,hk⟩
theorem Dw.put{c:Ob}(ho:ops[i]? = some o)(hg:Guard ops st o.guard true)(ht:∀X,X.objs.lookup k=st.X.objs.lookup k→Ca P o rd X ⟨setObj k c X.objs,X.live⟩ [] res)
  (hs:L8 st rd) (hd:Jw S.N o.dst=true)
  (h:Dw P S ops (i+1) n ⟨E6 o.dst res st.env,⟨setObj k c st.X.objs,st.X.live⟩⟩ (done++[⟨o,true,rd,.put k c,[],res⟩]) Ga K):Dw P S ops i (n+1) st done Ga K:=by
 obtain⟨Az,Bw,Xx,hc,hl,Jr,hk⟩:=h;exact⟨_::Az,Bw,Xx,.put ho hg hs.all ht hd hc,by simp[hl],by simpa using Jr,hk⟩
theorem Dw.V7(ho:ops[i]? = some o)(hg:Guard ops st o.guard true)(ht:Ca P o rd st.X X' F res)(hs:L8 st rd)(hd:Jw S.N o.dst=true)
  (h:Dw P S ops (i+1) n ⟨E6 o.dst res st.env,X'⟩ (done++[⟨o,true,rd,.all X',F,res⟩]) Ga K):Dw P S ops i (n+1) st done Ga K:=by
 obtain⟨Az,Bw,Xx,hc,hl,Jr,hk⟩:=h;exact⟨_::Az,Bw,Xx,.V7 ho hg hs.all ht hd hc,by simp[hl],by simpa using Jr,hk⟩
theorem Dw.lab(ho:ops[i]? = some o)(hg:Guard ops st o.guard true)(ht:Ca P o rd st.X ⟨st.X.objs,L⟩ F res)(hs:L8 st rd)(hd:Jw S.N o.dst=true)
  (h:Dw P S ops (i+1) n ⟨E6 o.dst res st.env,⟨st.X.objs,L⟩⟩ (done++[⟨o,true,rd,.lab L,F,res⟩]) Ga K):Dw P S ops i (n+1) st done Ga K:=by
 obtain⟨Az,Bw,Xx,hc,hl,Jr,hk⟩:=h;exact⟨_::Az,Bw,Xx,.lab ho hg hs.all ht hd hc,by simp[hl],by simpa using Jr,hk⟩
theorem Dw.new{os:A6 (Nat×Ob)}(ho:ops[i]? = some o)(hg:Guard ops st o.guard true)(ht:Ca P o rd st.X ⟨os++st.X.objs,L⟩ F res)(hs:L8 st rd)(hd:Jw S.N o.dst=true)
  (h:Dw P S ops (i+1) n ⟨E6 o.dst res st.env,⟨os++st.X.objs,L⟩⟩ (done++[⟨o,true,rd,.new os L,F,res⟩]) Ga K):Dw P S ops i (n+1) st done Ga K:=by
 obtain⟨Az,Bw,Xx,hc,hl,Jr,hk⟩:=h;exact⟨_::Az,Bw,Xx,.new ho hg hs.all ht hd hc,by simp[hl],by simpa using Jr,hk⟩
theorem Dw.P9{c:Ob}(ho:ops[i]? = some o)(hg:Guard ops st o.guard true)(ht:Ca P o rd st.X ⟨setObj k c st.X.objs,L⟩ F res)(hs:L8 st rd)(hd:Jw S.N o.dst=true)
  (h:Dw P S ops (i+1) n ⟨E6 o.dst res st.env,⟨setObj k c st.X.objs,L⟩⟩ (done++[⟨o,true,rd,.P9 k c L,F,res⟩]) Ga K):Dw P S ops i (n+1) st done Ga K:=by
 obtain⟨Az,Bw,Xx,hc,hl,Jr,hk⟩:=h;exact⟨_::Az,Bw,Xx,.P9 ho hg hs.all ht hd hc,by simp[hl],by simpa using Jr,hk⟩
theorem Dw.skip(ho:ops[i]? = some o)(hg:Guard ops st o.guard false)(hd:Jw S.N o.dst=true)
  (h:Dw P S ops (i+1) n ⟨E6 o.dst (.d (.sc undef)) st.env,st.X⟩ (done++[⟨o,false,[],.none,[],.d (.sc undef)⟩]) Ga K):Dw P S ops i (n+1) st done Ga K:=by
 obtain⟨Az,Bw,Xx,hc,hl,Jr,hk⟩:=h;exact⟨_::Az,Bw,Xx,.skip ho hg hd hc,by simp[hl],by simpa using Jr,hk⟩
def Bfr{Q:Exit→St→Prop}{id:Nat}(n:Nat)(hm:P.follows .mixedOrders=true)(h:Dw P S ops 0 n st [] st.env (Q .normal)):AWp P S (.region id ops true) Q st:=by obtain⟨Az,Bw,Xx,hc,hl,Jr,hs,hk⟩:=h;have hM:AWp P S (.region id ops true) (fun e s=>e = .normal∧s=Bw) st:=Agd hm hc (Jr (by have:=hc.link;simpa[Ay9]using this)) ⟨rfl,rfl⟩;intro B g w a hsr;refine Bsn (hM B g w a hsr) ?_;rintro e a' w' ⟨s,g',⟨rfl,rfl⟩,Hv⟩;exact⟨Xx,g',hk,Hv.defers,Hv.size,hs.X▸Hv.hr,fun t x hx=>Hv.env t x ((hs.env t).trans hx)⟩
def A5a(hg:og=some (j,Bn5))(hj:ops[j]? = some oj)(hjd:oj.dst=some d)(hl:st.env.lookup d=some (.d (.sc (.bool Bn5)))) :
  Guard ops st og true:=by
 subst hg;have:=Guard.some (st:=st) j d oj Bn5 Bn5 hj hjd hl;simpa using this
def Aev(hg:og=some (j,Bn5))(hj:ops[j]? = some oj)(hjd:oj.dst=some d)(hl:st.env.lookup d=some (.d (.sc undef))) :
  Guard ops st og false:=by
 subst hg;exact Guard.undef j d oj Bn5 hj hjd hl
def A5b{b:Bool}(hg:og=some (j,Bn5))(hj:ops[j]? = some oj)(hjd:oj.dst=some d)(hl:st.env.lookup d=some (.d (.sc (.bool b))))
  (hb:(b==Bn5)=false):Guard ops st og false:=by
 subst hg;have:=Guard.some (st:=st) j d oj Bn5 b hj hjd hl
 rwa [hb]at this
end
inductive Aya(env:List (Nat×AV)):List (Nat×AV)→Prop
 |nil:Aya env []
 |cons {t:Nat} {x:AV} {r:List (Nat×AV)}:Has env t x→Aya env r→Aya env ((t,x)::r)
inductive Apa(l:List (Nat×Ob)):List (Nat×Ob)→Prop
 |nil:Apa l []
 |cons {k:Nat} {o:Ob} {r:List (Nat×Ob)}:l.lookup k=some o→Apa l r→Apa l ((k,o)::r)
inductive Ayb(X:Ad)(f:Nat→Nat):List (Nat×Ob)→Prop
 |nil:Ayb X f []
 |cons {k:Nat} {o:Ob} {r:List (Nat×Ob)}:X.objs.lookup (f k)=some (Ef f o)→Ayb X f r→Ayb X f ((k,o)::r)
def fieldAt(P:Program)(s n:Nat):A7 (Nat×Nat) :=
 match P.underlying s with
 |some (.struct fs)=>(fs[n]?).map fun f=>(f.offset,f.type)
 |_=>none
def F6.mk'  {f : Nat} {fn : Func} (h : P.funcs[f]? = some fn) (hb : fn.body.isSome = true) (hn : (fn.name == "runtime.NumGoroutine") = false) : F6 P f := ⟨⟨fn, h, hb, hn⟩⟩
structure Q0(P:Program)(t e sz bytes:Nat):Prop where
 und:P.underlying t=some (.slice e)
 elem:∃i z,P.info? e=some i∧i.size=sz∧i.bytes=bytes∧i.zero=some z∧z.cells.size=sz
section
variable{P:Program}{o:Oper}{X:Ad}
def Bc1(k:Nat)(ho:o.op = .alloc t)(hz:Atn P t cs)(hk:X.objs.lookup k=none)(hX:Br [k] X=true) :
  Ca P o [] X ⟨(k,.cells cs (some t))::X.objs,X.live⟩ [k] (.ptr k 0):=by
 obtain⟨i,z,hi,hz',hzc⟩:=hz.is;exact B7d k ho hi hz' (fun g w=>Atn.ra (P:=P) (t:=t) hzc g w) hk hX
def Atu{t e bytes:Nat}{cs:A6 D}{k:IntKind}{i:Int}(ho:o.op = .indexAddr t x y)(ht:Q0 P t e sz bytes)(h0:0≤i)(h1:es[i.toNat]? = some cs) :
  Ca P o [(x,.d (.sl sz es)),(y,.d (.sc (.int k i)))] X X [] (.d (.ep cs)):=by
 obtain⟨hu,i',z,hi,hs,hb,hz,hzs⟩:=ht;exact Aoz ho hu hi hs h0 h1
def Atv{t e bytes:Nat}(ho:o.op = .call { callee:=.builtin .len,args:=#[x],argTypes:=ts })
  (h0:ts[0]? = some t) (ht:Q0 P t e sz bytes):Ca P o [(x,.d (.sl sz' es))] X X [] (.d (.sc (.int .i64 es.length))):=A9f ho h0 ht.und
def Atw{t u e e' bytes:Nat}(m:Nat)
  (ho:o.op = .call { callee:=.builtin .append,args:=#[s,x],argTypes:=ts }) (h0:ts[0]? = some t) (h1:ts[1]? = some u) (hu:Q0 P u e' sz' A7r)
  (ht:Q0 P t e sz bytes) (hn:n∈X.live) (hm:m∉X.live.filter (· != n)) (hX:Br [m] X=true)
  (K0:∀cs∈fs,∀c∈cs,A2l c=true) (A2n:(es.length+fs.length)*bytes≤140737488355328) (hlen:es.length+fs.length≤4611686018427387904)
  (hty:(ty==none||ty==some e)=true:=by rfl) :
  Ca P o [(s,.Cv n sz es ty),(x,.d (.sl sz fs))] X ⟨X.objs,m::X.live.filter (· != n)⟩ [m] (.Cv m sz (es++fs) ty):=by
 obtain⟨hu',i',z,hi,hs,rfl,hz,hzs⟩:=ht;exact B3u m ho h0 h1 hu.und hu' hi hz hzs hs hn hm hX K0 A2n hlen (by
  intro e1 h1;subst h1;simpa using hty)
def Apb{t e bytes:Nat}{xs:A6 D}(ho:o.op = .buildSlice t n Bn3)(ht:Q0 P t e sz bytes)
  (hx:xs.length=n) (Ay4:Bn3.toList.map (·.1)=List.range n) (Jr:(xs.all fun x=>A6k (.d x)&&x.cells.length==sz)=true)
  (A2n:n*sz≤16777216):Ca P o ((Bn3.toList.map (·.2)).zip (xs.map .d)) X X [] (.d (.sl sz (xs.map D.cells))):=by
 obtain⟨hu',i',z,hi,hs,hb,hz,hzs⟩:=ht;exact All ho hu' hi hz hs hx Ay4 Jr A2n
end
section
variable{P:Program}{S:Sig}{Q:Exit→St→Prop}{st:St}{N:St→Prop}
variable{o:Oper}{X:Ad}
end
section
variable{P:Program}{o:Oper}{X:Ad}
def Aew(ht:P.underlying t=some (.pointer e))(a:A7 Addr)(w:World):(Op.equal t (.pointer a) (.pointer none)).run P w = .ok a.isNone w:=by
 have h:∀d:Nat,(Op.equalIn (d+1) t (.pointer a) (.pointer none)).run P w = .ok a.isNone w:=by intro d;cases a<;>simp[Op.equalIn,Bns ht]
 exact h 9999
end
section
variable{P:Program}{o:Oper}{X:Ad}
def B7l{k:IntKind}{a b c:Int}(ho:o.op = .binOp .rem t x y t')(hb:b≠0)(hc:a.tmod b=c) :
  Ca P o [(x,.d (.sc (.int k a))),(y,.d (.sc (.int k b)))] X X [] (.d (.sc (.int k c))) :=
 .quiet fun _ _ g w ac _ Bg=>by
  have h1:=(Lz Bg).Be;have h2:=(rd1 Bg).Be;simp only at h1 h2;refine⟨_,?_,.Jz _ _ _⟩;have hg:eqGuard .rem t x y (.int k a) (.int k b)=pure ():=rfl;simp only[execOp,ho,h1,h2,hg];simp[binOp,Op.intDiv,hb,hc]
def B7m{k:IntKind}{a b c:Int}(ho:o.op = .binOp .quo t x y t')(hb:b≠0)(hc:k.wrap (a.tdiv b)=c) :
  Ca P o [(x,.d (.sc (.int k a))),(y,.d (.sc (.int k b)))] X X [] (.d (.sc (.int k c))) :=
 .quiet fun _ _ g w ac _ Bg=>by
  have h1:=(Lz Bg).Be;have h2:=(rd1 Bg).Be;simp only at h1 h2;refine⟨_,?_,.Jz _ _ _⟩;have hg:eqGuard .quo t x y (.int k a) (.int k b)=pure ():=rfl;simp only[execOp,ho,h1,h2,hg];simp[binOp,Op.intDiv,hb,hc]
end
inductive Rl(σ:Nat→Nat):AV→AV→Prop
 |d (x:D):Rl σ (.d x) (.d x)
 |nm (k:Nat) (p:PK):Rl σ (.nm k p) (.nm k p)
 |Cv (n sz:Nat) (es:List (List D)) (ty:Option TypeId):Rl σ (.Cv (σ n) sz es ty) (.Cv n sz es ty)
 |drop (n sz:Nat) (es:List (List D)) (ty:Option TypeId):Rl σ (.Cv n sz es ty) (.d (.sl sz es))
 |other (x:AV):N3 x=true→Rl σ x x
 |nil (sz:Nat):Rl σ (.d (.sc (.slice none 0 0))) (.d (.sl sz []))
 |agg (l l':List AV):l.length=l'.length→(∀(i:Nat) x x',l[i]? = some x→l'[i]? = some x'→Rl σ x x')→Rl σ (.agg l) (.agg l')
 |Er (l l':List AV):l.length=l'.length→(∀(i:Nat) x x',l[i]? = some x→l'[i]? = some x'→Rl σ x x')→Rl σ (.Er l) (.Er l')
 |Ek (f:Nat) (l l':List AV):l.length=l'.length→(∀(i:Nat) x x',l[i]? = some x→l'[i]? = some x'→Rl σ x x')→Rl σ (.Ek f l) (.Ek f l')
inductive Ayc(σ:Nat→Nat):Ob→Ob→Prop
 |cells (cs Xv:List AV) (ty:Option TypeId):cs.length=Xv.length→(∀(i:Nat) x x',cs[i]? = some x→Xv[i]? = some x'→Rl σ x x')→Ayc σ (.cells cs ty) (.cells Xv ty)
 |map (l:List (Nat×Value×D)) (c:Nat):Ayc σ (.map l c) (.map l c)
 |Vw (s:ByteArray) (pos:Nat):Ayc σ (.Vw s pos) (.Vw s pos)
 |Kn (k since:Nat) (seen:Array Nat) (last:Nat):Ayc σ (.Kn k since seen last) (.Kn k since seen last)
 |E5:Ayc σ .E5 .E5
structure Bmu(nm:List Nat)(σ:Nat→Nat)(st Bw:St):Prop where
 env:∀p∈Bw.env,∃x,st.env.lookup p.1=some x∧Rl σ x p.2
 objs:∀p∈Bw.X.objs,∃o,st.X.objs.lookup p.1=some o∧Ayc σ o p.2
 live:∀n∈Bw.X.live,σ n∈st.X.live
 inj:∀n∈Bw.X.live,∀m∈Bw.X.live,σ n=σ m→n=m
 Cc:∀k∈nm,(Bw.X.objs.lookup k).isSome
inductive B7n(σ:Nat→Nat)(env:List (Nat×AV)):List (Nat×AV)→Prop
 |nil:B7n σ env []
 |cons {t:Nat} {x x' y:AV} {r:List (Nat×AV)}:env.lookup t=some x→x=y→Rl σ y x'→B7n σ env r→B7n σ env ((t,x')::r)
inductive Apc(σ:Nat→Nat):List AV→List AV→Prop
 |nil:Apc σ [] []
 |cons {x x':AV} {r r':List AV}:Rl σ x x'→Apc σ r r'→Apc σ (x::r) (x'::r')
inductive Ayd(σ:Nat→Nat)(l:List (Nat×Ob)):List (Nat×Ob)→Prop
 |nil:Ayd σ l []
 |cons {k:Nat} {o o' p:Ob} {r:List (Nat×Ob)}:l.lookup k=some o→o=p→Ayc σ p o'→Ayd σ l r→Ayd σ l ((k,o')::r)
mutual
def Sc(f fl:Nat→Nat):AV→AV
 |.d x=>.d x
 |.nm k p=>.nm (f k) p
 |.Cv n sz es ty=>.Cv (fl n) sz es ty
 |.tpt n e cs=>.tpt (fl n) e cs
 |.Er l=>.Er (Pa f fl l)
 |.agg l=>.agg (Pa f fl l)
 |.Ek g l=>.Ek g (Pa f fl l)
def Pa(f fl:Nat→Nat):List AV→List AV
 |[]=>[]
 |x::r=>Sc f fl x::Pa f fl r
end
mutual
def Hf(ks ls:List Nat):AV→Bool
 |.d _=>true
 |.nm k _=>ks.contains k
 |.Cv n _ _ _=>ls.contains n
 |.tpt n _ _=>ls.contains n
 |.Er l=>L9 ks ls l
 |.agg l=>L9 ks ls l
 |.Ek _ l=>L9 ks ls l
def L9(ks ls:List Nat):List AV→Bool
 |[]=>true
 |x::r=>Hf ks ls x&&L9 ks ls r
end
def Jb(h:L9 ks ls l=true){i:Nat}{x:AV}(hx:l[i]? = some x):Hf ks ls x=true:=by
 induction l generalizing i with
 |nil=>simp at hx
 |cons y r ih =>
  simp only[L9,Boo]at h;cases i with
  |zero=>simp at hx;subst hx;exact h.1
  |succ i=>exact ih h.2 (by simpa using hx)
def Jc(f fl:Nat→Nat)(l:A6 AV):Pa f fl l=l.map (Sc f fl):=by
 induction l with
 |nil=>rfl
 |cons x r ih=>simp[Pa,ih]
theorem RA.A7s{f:Nat→Nat}(hγ:gc.γ=g.γ)(hρ:∀k∈ks,gc.ρ k=g.ρ (f k))(hβ:∀n∈ls,gc.β n=g.β (fl n)):∀(x:AV) (v:Value),Hf ks ls x=true→RA g w (Sc f fl x) v→RA gc w x v
 |.d x,v,_,h=>by
  simp only[Sc]at h;cases h with
  |d _ _ h=>exact .d _ _ (hγ▸h)
 |.nm k p,v,hn,h=>by
  simp only[Sc]at h;have hk:k∈ks:=by simpa[Hf]using hn
  cases h with
  |nm _ _ _ h=>exact .nm k p v (by rw[hρ k hk];exact h)
 |.tpt n e cs,v,hn,h=>by
  simp only[Sc]at h;have hk:n∈ls:=by simpa[Hf]using hn
  cases h with
  |tpt _ _ _ _ h1 h2 =>
   refine .tpt n e cs v (hγ▸h1) ?_;unfold Ah4 at h2⊢;split at h2
   ·exact⟨h2.1,fun ob My=>h2.2 ob (by rw[← hβ n hk];exact My)⟩
   ·trivial
 |.Cv n sz es ty,v,hn,h=>by
  simp only[Sc]at h;have hk:n∈ls:=by simpa[Hf]using hn
  cases h with
  |Cv _ _ _ _ _ h1 h2 =>
   refine .Cv n sz es ty v (hγ▸h1) ?_;unfold A73 at h2⊢;split at h2
   ·intro ob My;rw[hβ n hk]at My;rw[hγ];exact h2 ob My
   ·trivial
 |.Er l,v,hn,h=>by
  simp only[Sc,Jc]at h;cases h with
  |Er _ vs hl hx =>
   refine .Er l vs (by simpa using hl) fun i x v h1 h2=>?_
   have:SizeOf.sizeOf x<SizeOf.sizeOf l:=Bps (Boe h1);exact RA.A7s hγ hρ hβ x v (Jb (by simpa[Hf]using hn) h1) (hx i _ v (by rw[Bni,h1];rfl) h2)
 |.agg l,v,hn,h=>by
  simp only[Sc,Jc]at h;cases h with
  |agg _ vs hl hx =>
   refine .agg l vs (by simpa using hl) fun i x v h1 h2=>?_
   have:SizeOf.sizeOf x<SizeOf.sizeOf l:=Bps (Boe h1);exact RA.A7s hγ hρ hβ x v (Jb (by simpa[Hf]using hn) h1) (hx i _ v (by rw[Bni,h1];rfl) h2)
 |.Ek c l,v,hn,h=>by
  simp only[Sc,Jc]at h;cases h with
  |Ek _ _ vs hl hx =>
   refine .Ek c l vs (by simpa using hl) fun i x v h1 h2=>?_
   have:SizeOf.sizeOf x<SizeOf.sizeOf l:=Bps (Boe h1);exact RA.A7s hγ hρ hβ x v (Jb (by simpa[Hf]using hn) h1) (hx i _ v (by rw[Bni,h1];rfl) h2)
termination_by x=>x
def RA.Apd{f:Nat→Nat}(hγ:gc.γ=g.γ)(hρ:∀k∈ks,g.ρ (f k)=gc.ρ k)(hβ:∀n∈ls,g.β (fl n)=gc.β n){x:AV}(h:RA gc w x v)(hn:Hf ks ls x=true):RA g w (Sc f fl x) v:=by
 induction h with
 |d x v h=>simp only[Sc];exact .d _ _ (hγ▸h)
 |nm k p v h =>
  have hk:k∈ks:=by simpa[Hf]using hn
  simp only[Sc];exact .nm _ _ _ (by rw[hρ k hk];exact h)
 |tpt n e cs v h1 h2 =>
  have hk:n∈ls:=by simpa[Hf]using hn
  simp only[Sc];refine .tpt _ e cs v (hγ▸h1) ?_;unfold Ah4 at h2⊢;split at h2
  ·exact⟨h2.1,fun ob My=>h2.2 ob (by rw[hβ n hk]at My;exact My)⟩
  ·trivial
 |Cv n sz es ty v h1 h2 =>
  have hk:n∈ls:=by simpa[Hf]using hn
  simp only[Sc];refine .Cv _ sz es ty v (hγ▸h1) ?_;unfold A73 at h2⊢;split at h2
  ·intro ob My;rw[hβ n hk]at My;rw[← hγ];exact h2 ob My
  ·trivial
 |Er l vs hl _ ih =>
  simp only[Sc,Jc];refine .Er _ vs (by simpa using hl) fun i x v h1 h2=>?_
  rw[Bni,Bnn]at h1;obtain⟨y,hy,rfl⟩:=h1;exact ih i y v hy h2 (Jb (by simpa[Hf]using hn) hy)
 |agg l vs hl _ ih =>
  simp only[Sc,Jc];refine .agg _ vs (by simpa using hl) fun i x v h1 h2=>?_
  rw[Bni,Bnn]at h1;obtain⟨y,hy,rfl⟩:=h1;exact ih i y v hy h2 (Jb (by simpa[Hf]using hn) hy)
 |Ek c l vs hl _ ih =>
  simp only[Sc,Jc];refine .Ek c _ vs (by simpa using hl) fun i x v h1 h2=>?_
  rw[Bni,Bnn]at h1;obtain⟨y,hy,rfl⟩:=h1;exact ih i y v hy h2 (Jb (by simpa[Hf]using hn) hy)
def Mj(f fl:Nat→Nat):Ob→Ob
 |.cells cs ty=>.cells (Pa f fl cs) ty
 |.map l c=>.map l c
 |.Vw s pos=>.Vw s pos
 |.Kn k since seen last=>.Kn (f k) since seen last
 |.E5=>.E5
 |.Cx L sz l c=>.Cx L sz l c
def Kb(ks ls:A6 Nat):Ob→Bool
 |.cells cs _=>L9 ks ls cs
 |.map _ _=>true
 |.Vw _ _=>true
 |.Kn k _ _ _=>ks.contains k
 |.E5=>true
 |.Cx _ _ _ _=>false
theorem Ce.A7s{f:Nat→Nat}(hγ:gc.γ=g.γ)(hρ:∀k∈ks,gc.ρ k=g.ρ (f k))(hβ:∀n∈ls,gc.β n=g.β (fl n))(hn:Kb ks ls o=true)(h:Ce g w b (Mj f fl o)):Ce gc w b o:=by
 cases o with
 |cells cs ty =>
  simp only[Mj,Jc]at h;cases h with
  |cells _ _ arr T hb hl hc h4 =>refine .cells cs ty arr T hb (by simpa using hl) (fun i x v hx hv=>?_) h4;exact RA.A7s hγ hρ hβ x v (Jb (by simpa[Kb]using hn) hx) (hc i _ v (by rw[Bni,hx];rfl) hv)
 |map l c =>
  simp only[Mj]at h;cases h with
  |map _ _ es hb hl hc h4 h5=>exact .map l c es hb hl (fun i x e hx he=>⟨(hc i x e hx he).1,(hc i x e hx he).2.1,hγ▸(hc i x e hx he).2.2⟩) h4 h5
 |Vw s pos=>simp only[Mj]at h;cases h with|Vw _ _ hb=>exact .Vw s pos hb
 |Kn k since seen last =>
  simp only[Mj]at h;cases h with
  |Kn _ _ _ _ hb=>exact .Kn k since seen last (by rw[hρ k (Boq.1 hn)];exact hb)
 |E5=>simp only[Mj]at h;cases h with|E5 hb=>exact .E5 hb
 |Cx L sz l c=>simp[Kb]at hn
theorem Ce.Apd{f:Nat→Nat}(hγ:gc.γ=g.γ)(hρ:∀k∈ks,g.ρ (f k)=gc.ρ k)(hβ:∀n∈ls,g.β (fl n)=gc.β n)(hn:Kb ks ls o=true)(h:Ce gc w b o):Ce g w b (Mj f fl o):=by
 cases h with
 |cells cs ty arr T hb hl hc h4 =>simp only[Mj,Jc];refine .cells _ ty arr T hb (by simpa using hl) (fun i x v hx hv=>?_) h4;rw[Bni,Bnn]at hx;obtain⟨y,hy,rfl⟩:=hx;exact(hc i y v hy hv).Apd hγ hρ hβ (Jb (by simpa[Kb]using hn) hy)
 |map l c es hb hl hc h4 h5 =>exact .map l c es hb hl (fun i x e hx he=>⟨(hc i x e hx he).1,(hc i x e hx he).2.1,hγ▸(hc i x e hx he).2.2⟩) h4 h5
 |Vw s pos hb=>exact .Vw s pos hb
 |Kn k since seen last hb=>exact .Kn (f k) since seen last (by rw[hρ k (Boq.1 hn)];exact hb)
 |E5 hb=>exact .E5 hb
 |Cx L sz l c es hb hl hc h4 h5=>simp[Kb]at hn
def Da(f fl:Nat→Nat):A6 (Nat×Ob)→A6 (Nat×Ob)→A6 (Nat×Ob)
 |[],acc=>acc
 |p::r,acc=>Da f fl r (setObj (f p.1) (Mj f fl p.2) acc)
theorem N6{f fl:Nat→Nat}:∀(l acc:A6 (Nat×Ob)) (j:Nat),(∀p∈l,f p.1≠j)→(Da f fl l acc).lookup j=acc.lookup j
 |[],_,_,_=>rfl
 |p::r,acc,j,h=>by
  simp only[Da];rw[N6 r _ j (fun q hq=>h q (Bnl _ hq)),B5,Bnv (Bq5 (h p Bnm))]
theorem V9{f fl:Nat→Nat}:∀(l acc:A6 (Nat×Ob)) (p:Nat×Ob),(l.map fun p=>f p.1).Nodup→p∈l→(Da f fl l acc).lookup (f p.1)=some (Mj f fl p.2)
 |[],_,_,_,h=>by simp at h
 |q::r,acc,p,hnd,h=>by
  simp only[Bnh,Boi]at hnd;simp only[Da];rcases Bnd.1 h with rfl|h
  ·rw[N6 r _ _ (fun q hq he=>hnd.1 (by rw[← he];exact Bnr (f:=fun p:Nat×Ob=>f p.1) hq)),B5,Bo3 rfl]
  ·exact V9 r _ p hnd.2 h
structure A17(X Xc Dg:Ad)(f fl:Nat→Nat)(F:List Nat):Prop where
 Ti:∀p∈Xc.objs,X.objs.lookup (f p.1)=some (Mj f fl p.2)
 Ap4:(Xc.objs.all fun p=>Kb (Xc.objs.map (·.1)) Xc.live p.2)=true
 Ahn:(Dg.objs.all fun p=>Kb (Dg.objs.map (·.1)) Dg.live p.2)=true
 nodup:(Dg.objs.map fun p=>f p.1).Nodup
 Ay5:(Xc.objs.map (·.1)).Nodup
 new:∀p∈Dg.objs,p.1∈Xc.objs.map (·.1)∨(f p.1∈F∧X.objs.lookup (f p.1)=none)
 sub:∀p∈Xc.objs,p.1∈Dg.objs.map (·.1)
 free:∀j o,X.objs.lookup j=some o→(∀p∈Dg.objs,f p.1≠j)→F=[]∨Fk F o=true
 Bfs:∀n∈Xc.live,fl n∈X.live
 Bi3:(Xc.live.map fl).Nodup
 Bft:(Dg.live.map fl).Nodup
 Bi4:∀n∈Dg.live,fl n∈F
 Bku:∀n∈Dg.live,fl n∈X.live→fl n∈Xc.live.map fl
def Hx(fl:Nat→Nat)(X Xc Dg:Ad):A6 Nat:=Dg.live.map fl++X.live.filter fun m=>!(Xc.live.map fl).contains m
def Alm:m∈Hx fl X Xc Dg↔(∃n∈Dg.live,fl n=m)∨(m∈X.live∧∀n∈Xc.live,fl n≠m):=by
 unfold Hx;rw[Bnk,Bnp,Bo9];refine or_congr Iff.rfl (and_congr Iff.rfl ?_);simp only[Bqq];constructor
 ·intro h n hn he;have:(Xc.live.map fl).contains m=true:=by rw[Boq];exact Bnp.2 ⟨n,hn,he⟩
  rw[this]at h;cases h
 ·intro h;cases hc:(Xc.live.map fl).contains m with
  |false=>rfl
  |true =>rw[Boq]at hc;obtain⟨n,hn,he⟩:=Bnp.1 hc;exact(h n hn he).elim
section
variable{P:Program}{X:Ad}
def GH(g:Gh)(w:World)(gs:A6 (Nat×AV)):Prop:=∀p∈gs,RA g w p.2 (.pointer (some ⟨p.1,0,none⟩))
def Aex(P:Program)(f:FuncId)(args:A6 AV)(gs:A6 (Nat×AV))(X:Ad)(res:AV)(X':Ad):Prop :=
 ∀(g:Gh) (w:World) (vs:Array Value),HR (X.objs.map (·.1)) (B8.of g w X) g w X→GH g w gs→args.length=vs.size →
  (∀(i:Nat) x v,args[i]? = some x→vs[i]? = some v→RA g w x v) →
  Calls P f vs w fun e w'=>∃g' v,e = .returned v∧RA g' w' res v∧HR (X.objs.map (·.1)) (B8.of g w X) g' w' X'
def Does.toH(h:Does P f args X res X'):Aex P f args [] X res X' :=
 fun g w vs hr _ hl ha=>h g w vs hr hl ha
def Aex.plain(h:Aex P f args [] X res X'):Does P f args X res X' :=
 fun g w vs hr hl ha=>h g w vs hr (by simp[GH]) hl ha
def Aex.Ape{gs:A6 (Nat×AV)}(hs:Aex P fn xs gs Xc res Dg)(hgd:Ch (gs.map (·.2))=true){f:Nat→Nat}(hc:A17 X Xc Dg f fl F)
  (hd:L9 (Xc.objs.map (·.1)) Xc.live xs=true) (Y6:Hf (Dg.objs.map (·.1)) Dg.live res=true)    
  (hr:HR nm B g w X) (hgs:GH g w gs)  (hl:xs.length=vs.size) (Qx:∀(i:Nat) x v,(Pa f fl xs)[i]? = some x→vs[i]? = some v→RA g w x v) :
  Calls P fn vs w fun e w'=>∃v g',e = .returned v∧HR nm B g' w' ⟨Da f fl Dg.objs X.objs,Hx fl X Xc Dg⟩∧Trans F g w g' w'∧RA g' w' (Sc f fl res) v:=by
 classical
 let gc:Gh:={ γ:=g.γ,β:=fun n=>if n∈Xc.live then g.β (fl n)else none,ρ:=fun k=>g.ρ (f k) };have B7o:∀n∈Xc.live,gc.β n=g.β (fl n):=fun n hn=>by simp only[gc,hn,Bpz]
 have Ach:∀n ob,gc.β n=some ob→n∈Xc.live∧g.β (fl n)=some ob:=by
  intro n ob he;simp only[gc]at he;split at he
  ·exact⟨‹_›,he⟩
  ·cases he
 have P7:∀k o,Xc.objs.lookup k=some o→X.objs.lookup (f k)=some (Mj f fl o):=fun k o hk=>hc.Ti _ (D3 hk)
 have Ap5:∀p∈Dg.objs,∀q∈Dg.objs,f p.1=f q.1→p=q:=fun p hp q hq he=>Gm hc.nodup hp hq he
 have Acg:(Dg.objs.map (·.1)).Nodup:=Yy (h:=f) hc.nodup;have A9j:∀k o,Xc.objs.lookup k=some o→∃p∈Dg.objs,p.1=k:=by intro k o hk;obtain⟨p,hp,he⟩:=Bnp.1 (hc.sub _ (D3 hk));exact⟨p,hp,he⟩
 have h0:HR (Xc.objs.map (·.1)) (B8.of gc w Xc) gc w Xc:=by
  refine⟨?_,hr.Iw,Bno _,⟨rfl,rfl,rfl,Bno _⟩,.refl _ _,fun b _ _=>⟨rfl,rfl⟩,?_,?_,?_,?_,?_,?_,?_,?_,?_,.bare fun _ _=>rfl⟩
  ·intro k hk;refine⟨rfl,?_⟩;obtain⟨p,hp,rfl⟩:=Bnp.1 hk;rw[Bo hc.Ay5 (x:=p.2) hp];rfl
  ·intro k o hk;exact Ce.A7s (g:=g) (gc:=gc) (f:=f) (fl:=fl) (ks:=Xc.objs.map (·.1)) (ls:=Xc.live) rfl (fun _ _=>rfl) B7o (Bok.1 hc.Ap4 _ (D3 hk)) (hr.objs _ _ (P7 k o hk))
  ·intro k o hk;exact hr.Fi _ _ (P7 k o hk)
  ·intro k k' o o' hk M1 he;have h1:=hr.C1 _ _ _ _ (P7 k o hk) (P7 k' o' M1) he;obtain⟨p,hp,e1⟩:=A9j k o hk;obtain⟨q,hq,e2⟩:=A9j k' o' M1;have:=Ap5 p hp q hq (by rw[e1,e2];exact h1);rw[← e1,← e2,this]
  ·intro k o hk;exact .inr (.inl ⟨k,o,hk,rfl⟩)
  ·intro n;by_cases hn:n∈Xc.live
   ·simp only[hn,true_iff,B7o n hn];exact(hr.live _).1 (hc.Bfs n hn)
   ·simp only[hn,false_iff,gc,Bpi];simp
  ·intro n m b hn hm;obtain⟨h1,h2⟩:=Ach n _ hn;obtain⟨h3,h4⟩:=Ach m _ hm;exact Gm hc.Bi3 h1 h3 (hr.Cq _ _ b h2 h4)
  ·intro n b k o hn hk;exact hr.Bz _ b _ _ (Ach n _ hn).2 (P7 k o hk)
  ·intro n b hn;exact .inr (.inr ⟨n,hn⟩)
  ·intro n b hn;exact hr.D9 _ b (Ach n _ hn).2
 have Bkv:GH gc w gs:=by intro p hp;obtain⟨i,hi⟩:=Btb hp;exact(hgs p hp).data (N4 hgd (i:=i) (by rw[Bni,hi];rfl)) (.refl _ _)
 have:=hs gc w vs h0 Bkv hl fun i x v hx hv=>RA.A7s (g:=g) (gc:=gc) (ks:=Xc.objs.map (·.1)) (ls:=Xc.live) (f:=f) (fl:=fl) rfl (fun _ _=>rfl) B7o x v (Jb hd hx) (Qx i _ v (by rw[Jc,Bni,hx];rfl) hv)
 refine this.mono ?_;rintro e w' ⟨g1,v,rfl,Xt,h1⟩;let ρ':Nat→Nat:=fun j=>match Dg.objs.find? (fun p=>f p.1==j) with
  |some p=>g1.ρ p.1
  |none=>g.ρ j
 let β':Nat→A7 (A7 Nat):=fun m=>match Dg.live.find? (fun n=>fl n==m) with
  |some n=>g1.β n
  |none=>if m∈Xc.live.map fl then none else g.β m
 let η':Nat→Nat→A7 Nat:=fun m=>if m∈Dg.live.map fl then fun _=>none else g.η m
 have Bi5:∀n∈Dg.live,∀i,η' (fl n) i=none:=by intro n hn i;simp only[η',Bnp.2 ⟨n,hn,rfl⟩,Bpz]
 have B7p:∀m,(∀n∈Dg.live,fl n≠m)→η' m=g.η m:=by
  intro m hm;have:m∉Dg.live.map fl:=fun h=>by obtain⟨n,hn,he⟩:=Bnp.1 h;exact hm n hn he
  simp only[η',this,Bpi]
 have Hr:∀p∈Dg.objs,ρ' (f p.1)=g1.ρ p.1:=by
  intro p hp;have Hv:(Dg.objs.find? (fun q=>f q.1==f p.1)).isSome=true:=by rw[Bu2];exact⟨p,hp,by simp⟩
  obtain⟨q,hq⟩:=Boj.1 Hv;have hq1:=Bui hq;have hq2:=Bsr hq;simp only[Brv]at hq1;have:=Ap5 q hq2 p hp hq1;simp only[ρ',hq,this]
 have Dr:∀j,(∀p∈Dg.objs,f p.1≠j)→ρ' j=g.ρ j:=by
  intro j hj;have:Dg.objs.find? (fun p=>f p.1==j)=none:=by rw[Bts];intro p hp;simpa using hj p hp
  simp only[ρ',this]
 have Atx:∀n∈Dg.live,β' (fl n)=g1.β n:=by
  intro n hn;have Hv:(Dg.live.find? (fun q=>fl q==fl n)).isSome=true:=by rw[Bu2];exact⟨n,hn,by simp⟩
  obtain⟨q,hq⟩:=Boj.1 Hv;have hq1:=Bui hq;have hq2:=Bsr hq;simp only[Brv]at hq1;have:=Gm hc.Bft hq2 hn hq1;simp only[β',hq,this]
 have B7q:∀m,(∀n∈Dg.live,fl n≠m)→β' m=if m∈Xc.live.map fl then none else g.β m:=by
  intro m hm;have:Dg.live.find? (fun n=>fl n==m)=none:=by rw[Bts];intro n hn;simpa using hm n hn
  simp only[β',this]
 have Pb:∀m ob,β' m=some ob→(∃n∈Dg.live,fl n=m∧g1.β n=some ob)∨((∀n∈Dg.live,fl n≠m)∧(∀n∈Xc.live,fl n≠m)∧g.β m=some ob):=by
  intro m ob he;by_cases h:∃n∈Dg.live,fl n=m
  ·obtain⟨n,hn,rfl⟩:=h;rw[Atx n hn]at he;exact .inl ⟨n,hn,rfl,he⟩
  ·have h':∀n∈Dg.live,fl n≠m:=fun n hn he=>h ⟨n,hn,he⟩
   rw[B7q m h']at he;split at he
   ·cases he
   ·rename_i Uv;exact .inr ⟨h',fun n hn e=>Uv (Bnp.2 ⟨n,hn,e⟩),he⟩
 have A7q:∀j,(∃p∈Dg.objs,f p.1=j)∨(∀p∈Dg.objs,f p.1≠j):=by
  intro j;by_cases h:∃p∈Dg.objs,f p.1=j
  ·exact .inl h
  ·exact .inr fun p hp he=>h ⟨p,hp,he⟩
 have hold:∀k,k∈Xc.objs.map (·.1)→g1.ρ k=g.ρ (f k):=fun k hk=>(h1.Cc k hk).1
 have R2:∀b,b<w.heap.size→(¬ ∃k o,Xc.objs.lookup k=some o∧g.ρ (f k)=b)→(¬ ∃n∈Xc.live,g.β (fl n)=some (some b))→w'.heap[b]? = w.heap[b]?∧g1.γ b=g.γ b:=by
  intro b hb hn hn2;refine h1.frame b hb ?_;rintro (⟨k,o,hk,he⟩|⟨n,Th⟩)
  ·exact hn ⟨k,o,hk,he⟩
  ·exact hn2 ⟨n,Ach n _ Th⟩
 have Jq:w.heap.size≤w'.heap.size:=h1.base;have hle:LeD g.γ w g1.γ w':=h1.le;have Aty:∀b,(w.heap.size≤b∨(B8.of gc w Xc).allowed b)→w.heap.size≤b∨(∃k o,Xc.objs.lookup k=some o∧g.ρ (f k)=b)∨(∃n∈Xc.live,g.β (fl n)=some (some b)):=by
  rintro b (h|⟨k,o,hk,he⟩|⟨n,hn⟩)
  ·exact .inl h
  ·exact .inr (.inl ⟨k,o,hk,he⟩)
  ·exact .inr (.inr ⟨n,Ach n _ hn⟩)
 have A35:∀m b,g.β m=some (some b)→(∀n∈Xc.live,fl n≠m)→w'.heap[b]? = w.heap[b]?∧g1.γ b=g.γ b:=by
  intro m b hm Uv;refine R2 b (hr.D9 m b hm) ?_ ?_
  ·rintro ⟨k,o,hk,he⟩;exact hr.Bz m b _ _ hm (P7 k o hk) he.symm
  ·rintro ⟨n,hn,he⟩;exact Uv n hn (hr.Cq _ _ b he hm)
 have A36:∀L i b,(g.β L).isSome→g.η L i=some b→w'.heap[b]? = w.heap[b]?∧g1.γ b=g.γ b:=by
  intro L i b hL hb;refine R2 b (hr.eta.lt L i b hL hb) ?_ ?_
  ·rintro ⟨k,o,hk,he⟩;exact hr.eta.obj L i b _ _ hL hb (P7 k o hk) he.symm
  ·rintro ⟨n,_,he⟩;exact hr.eta.Cv L i b _ hL hb he
 have A37:∀j o,X.objs.lookup j=some o→(∀p∈Dg.objs,f p.1≠j)→w'.heap[g.ρ j]? = w.heap[g.ρ j]?∧g1.γ (g.ρ j)=g.γ (g.ρ j):=by
  intro j o hj hne;refine R2 _ (Gt (hr.objs j o hj)) ?_ ?_
  ·rintro ⟨k,o',hk,he⟩;have:=hr.C1 _ _ _ _ (P7 k o' hk) hj he;obtain⟨p,hp,e1⟩:=A9j k o' hk;exact hne p hp (by rw[e1];exact this)
  ·rintro ⟨n,_,he⟩;exact hr.Bz _ _ j o he hj rfl
 have B7r:∀j,(∀p∈Dg.objs,f p.1≠j)→∀k o,Xc.objs.lookup k=some o→f k≠j:=by intro j hne k o hk he;obtain⟨p,hp,e1⟩:=A9j k o hk;exact hne p hp (by rw[e1];exact he)
 have ht:Trans F g w { γ:=g1.γ,β:=β',ρ:=ρ',η:=η' } w':=by
  refine⟨hle,?_,?_,?_⟩
  rotate_right
  ·intro L hL he;obtain⟨ob,My⟩:=Boj.1 he;rcases Pb L ob My with ⟨n,hn,rfl,_⟩|⟨h2,h3,h4⟩
   ·exact(hL (hc.Bi4 n hn)).elim
   ·exact⟨B7p L h2,fun i b hb=>⟨(A36 L i b (by rw[h4];rfl) hb).2,(A36 L i b (by rw[h4];rfl) hb).1⟩⟩
  ·intro j hj;simp only;rcases A7q j with ⟨p,hp,rfl⟩|hne
   ·rw[Hr p hp];rcases hc.new p hp with h|⟨h,_⟩
    ·exact hold _ h
    ·exact(hj h).elim
   ·exact Dr j hne
  ·intro m ob hm he;rcases Pb m ob he with ⟨n,hn,rfl,_⟩|⟨_,h3,h4⟩
   ·exact(hm (hc.Bi4 n hn)).elim
   ·exact⟨h4,fun b hb=>⟨(A35 m b (hb▸h4) h3).2,(A35 m b (hb▸h4) h3).1⟩⟩
 have hX':∀j o,(Da f fl Dg.objs X.objs).lookup j=some o→(∃p∈Dg.objs,f p.1=j∧o=Mj f fl p.2)∨((∀p∈Dg.objs,f p.1≠j)∧X.objs.lookup j=some o):=by
  intro j o hj;rcases A7q j with ⟨p,hp,rfl⟩|hne
  ·rw[V9 _ _ p hc.nodup hp]at hj;exact .inl ⟨p,hp,rfl,by simpa using hj.symm⟩
  ·rw[N6 _ _ _ hne]at hj;exact .inr ⟨hne,hj⟩
 have Aho:∀k∈Dg.objs.map (·.1),ρ' (f k)=g1.ρ k:=by intro k hk;obtain⟨p,hp,rfl⟩:=Bnp.1 hk;exact Hr p hp
 have Aln:∀p∈Dg.objs,w.heap.size≤g1.ρ p.1∨(∃k o,Xc.objs.lookup k=some o∧g.ρ (f k)=g1.ρ p.1)∨(∃n∈Xc.live,g.β (fl n)=some (some (g1.ρ p.1))) :=
  fun p hp=>Aty _ (h1.Cf _ _ (Bo Acg hp))
 refine⟨v,{ γ:=g1.γ,β:=β',ρ:=ρ',η:=η' },rfl,⟨?_,h1.Iw,Bop hr.base Jq,⟨h1.io.1.trans hr.io.1,h1.io.2.1.trans hr.io.2.1,h1.io.2.2.1.trans hr.io.2.2.1,Bop hr.io.2.2.2 h1.io.2.2.2⟩,hr.le.trans hle,?_,?_,?_,?_,?_,?_,?_,?_,?_,?_,hr.eta.Ati (fun L hL=>?_) Jq (fun m b hm L i hL hb=>?_) (fun j o hj L i hL hb=>?_)⟩,ht,?_⟩
 ·intro k hk;obtain⟨h2,h3⟩:=hr.Cc k hk;rcases A7q k with ⟨p,hp,rfl⟩|hne
  ·refine⟨?_,by simp only;rw[V9 _ _ p hc.nodup hp];rfl⟩;simp only;rw[Hr p hp];rcases hc.new p hp with h|⟨_,h⟩
   ·rw[hold _ h];exact h2
   ·rw[h]at h3;cases h3
  ·exact⟨by simp only;rw[Dr k hne];exact h2,by simp only;rw[N6 _ _ _ hne];exact h3⟩
 ·intro b hb hnb;have h2:=hr.frame b hb hnb;have h3:=R2 b (Bp7 hb hr.base) (by
   rintro ⟨k,o,hk,he⟩;rcases hr.Cf _ _ (P7 k o hk)with h|h
   ·rw[he]at h;omega
   ·rw[he]at h;exact hnb h) (by
   rintro ⟨n,_,he⟩;rcases hr.D0 _ b he with h|h
   ·omega
   ·exact hnb h)
  exact⟨h3.1.trans h2.1,h3.2.trans h2.2⟩
 ·intro j o hj;rcases hX' j o hj with ⟨p,hp,rfl,rfl⟩|⟨hne,H7⟩
  ·simp only;rw[Hr p hp];exact Ce.Apd (g:={ γ:=g1.γ,β:=β',ρ:=ρ',η:=η' }) (gc:=g1) (ls:=Dg.live) rfl Aho Atx (Bok.1 hc.Ahn _ hp) (h1.objs _ _ (Bo Acg hp))
  ·simp only;rw[Dr j hne];exact(hr.objs j o H7).Cc ht (A37 j o H7 hne).1 (hc.free j o H7 hne)
 ·intro j o hj;rcases hX' j o hj with ⟨p,hp,rfl,rfl⟩|⟨hne,H7⟩
  ·simp only;rw[Hr p hp];exact h1.Fi _ _ (Bo Acg hp)
  ·simp only;rw[Dr j hne,(A37 j o H7 hne).2];exact hr.Fi j o H7
 ·intro j j' o o' hj H7 he;simp only at he;have mix:∀p∈Dg.objs,∀j o,X.objs.lookup j=some o→(∀p∈Dg.objs,f p.1≠j)→g1.ρ p.1≠g.ρ j:=by
   intro p hp j o hj hne he;rcases Aln p hp with h|⟨k,o',hk,h⟩|⟨n,_,h⟩
   ·have:=Gt (hr.objs j o hj);omega
   ·exact B7r j hne k o' hk (hr.C1 _ _ _ _ (P7 k o' hk) hj (h.trans he))
   ·exact hr.Bz _ _ j o h hj he
  rcases hX' j o hj with ⟨p,hp,e1,_⟩|⟨hne,hj1⟩<;>rcases hX' j' o' H7 with ⟨q,hq,e2,_⟩|⟨Ub,Ats⟩
  ·rw[← e1,← e2]at he⊢;rw[Hr p hp,Hr q hq]at he;rw[h1.C1 _ _ _ _ (Bo Acg hp) (Bo Acg hq) he]
  ·rw[← e1,Hr p hp,Dr j' Ub]at he;exact(mix p hp j' o' Ats Ub he).elim
  ·rw[← e2,Hr q hq,Dr j hne]at he;exact(mix q hq j o hj1 hne he.symm).elim
  ·rw[Dr j hne,Dr j' Ub]at he;exact hr.C1 j j' o o' hj1 Ats he
 ·intro j o hj;rcases hX' j o hj with ⟨p,hp,rfl,rfl⟩|⟨hne,H7⟩
  ·simp only;rw[Hr p hp];rcases Aln p hp with h|⟨k,o',hk,h⟩|⟨n,_,h⟩
   ·exact .inl (Bop hr.base h)
   ·rw[← h];exact hr.Cf _ _ (P7 k o' hk)
   ·exact hr.D0 _ _ h
  ·simp only;rw[Dr j hne];exact hr.Cf j o H7
 ·intro m;rw[Alm];simp only;constructor
  ·rintro (⟨n,hn,rfl⟩|⟨hm,Uv⟩)
   ·rw[Atx n hn];exact(h1.live n).1 hn
   ·by_cases h:∃n∈Dg.live,fl n=m
    ·obtain⟨n,hn,rfl⟩:=h;rw[Atx n hn];exact(h1.live n).1 hn
    ·rw[B7q m (fun n hn he=>h ⟨n,hn,he⟩),Bnv (fun A9m=>by obtain⟨n,hn,he⟩:=Bnp.1 A9m;exact Uv n hn he)];exact(hr.live m).1 hm
  ·intro N2;obtain⟨ob,My⟩:=Boj.1 N2;rcases Pb m ob My with ⟨n,hn,he,_⟩|⟨_,h3,h4⟩
   ·exact .inl ⟨n,hn,he⟩
   ·exact .inr ⟨(hr.live m).2 (by rw[h4];rfl),h3⟩
 ·intro m m' b hm Ut;have Bek:∀n∈Dg.live,g1.β n=some (some b)→∀m,(∀n∈Xc.live,fl n≠m)→g.β m=some (some b)→False:=by
   intro n _ h2 m h3 h4;rcases Aty b (h1.D0 n b h2)with h|⟨k,o,hk,h⟩|⟨n',Th,h⟩
   ·have:=hr.D9 m b h4;omega
   ·exact hr.Bz m b _ _ h4 (P7 k o hk) h.symm
   ·exact h3 n' Th (hr.Cq _ _ b h h4)
  rcases Pb m _ hm with ⟨n,hn,e1,h2⟩|⟨_,h3,h4⟩<;>rcases Pb m' _ Ut with ⟨n',Th,e2,h2'⟩|⟨_,h3',h4'⟩
  ·rw[← e1,← e2,h1.Cq n n' b h2 h2']
  ·exact(Bek n hn h2 m' h3' h4').elim
  ·exact(Bek n' Th h2' m h3 h4).elim
  ·exact hr.Cq m m' b h4 h4'
 ·intro m b j o hm hj;rcases Pb m _ hm with ⟨n,hn,_,h2⟩|⟨_,h3,h4⟩
  ·rcases hX' j o hj with ⟨p,hp,rfl,rfl⟩|⟨hne,H7⟩
   ·simp only;rw[Hr p hp];exact h1.Bz n b _ _ h2 (Bo Acg hp)
   ·simp only;rw[Dr j hne];rcases Aty b (h1.D0 n b h2)with h|⟨k,o',hk,h⟩|⟨n',_,h⟩
    ·have:=Gt (hr.objs j o H7);omega
    ·intro he;exact B7r j hne k o' hk (hr.C1 _ _ _ _ (P7 k o' hk) H7 (h.trans he))
    ·exact hr.Bz _ b j o h H7
  ·rcases hX' j o hj with ⟨p,hp,rfl,rfl⟩|⟨hne,H7⟩
   ·simp only;rw[Hr p hp];rcases Aln p hp with h|⟨k,o',hk,h⟩|⟨n',Th,h⟩
    ·have:=hr.D9 m b h4;omega
    ·rw[← h];exact hr.Bz m b _ _ h4 (P7 k o' hk)
    ·intro he;rw[← he]at h;exact h3 n' Th (hr.Cq _ _ b h h4)
   ·simp only;rw[Dr j hne];exact hr.Bz m b j o h4 H7
 ·intro m b hm;rcases Pb m _ hm with ⟨n,hn,_,h2⟩|⟨_,h3,h4⟩
  ·rcases Aty b (h1.D0 n b h2)with h|⟨k,o',hk,h⟩|⟨n',_,h⟩
   ·exact .inl (Bop hr.base h)
   ·rw[← h];exact hr.Cf _ _ (P7 k o' hk)
   ·exact hr.D0 _ b h
  ·exact hr.D0 m b h4
 ·intro m b hm;rcases Pb m _ hm with ⟨n,hn,_,h2⟩|⟨_,h3,h4⟩
  ·exact h1.D9 n b h2
  ·exact Bp7 (hr.D9 m b h4) Jq
 ·obtain⟨ob,My⟩:=Boj.1 hL;rcases Pb L ob My with ⟨n,hn,rfl,_⟩|⟨h2,h3,h4⟩
  ·exact .inr (Bi5 n hn)
  ·exact .inl ⟨by rw[h4];rfl,B7p L h2⟩
 ·rcases Pb m _ hm with ⟨n,hn,_,h2⟩|⟨_,h3,h4⟩
  ·rcases Aty b (h1.D0 n b h2)with h|⟨k,o',hk,h⟩|⟨n',_,h⟩
   ·exact hr.eta.ltN h L i hL hb
   ·exact hr.eta.obj L i b _ _ hL hb (P7 k o' hk) h.symm
   ·exact hr.eta.Cv L i b _ hL hb h
  ·exact hr.eta.Cv L i b m hL hb h4
 ·rcases hX' j o hj with ⟨p,hp,rfl,rfl⟩|⟨hne,H7⟩
  ·simp only at hb;rw[Hr p hp]at hb;rcases Aln p hp with h|⟨k,o',hk,h⟩|⟨n',_,h⟩
   ·exact hr.eta.ltN h L i hL hb
   ·exact hr.eta.obj L i _ _ _ hL hb (P7 k o' hk) h.symm
   ·exact hr.eta.Cv L i _ _ hL hb h
  ·simp only at hb;rw[Dr j hne]at hb;exact hr.eta.B77 H7 L i hL hb
 ·exact RA.Apd (g:={ γ:=g1.γ,β:=β',ρ:=ρ',η:=η' }) (gc:=g1) (ls:=Dg.live) rfl Aho Atx Xt Y6
theorem Does.Ape(hs:Does P fn xs Xc res Dg){f:Nat→Nat}(hc:A17 X Xc Dg f fl F)
  (hd:L9 (Xc.objs.map (·.1)) Xc.live xs=true) (Y6:Hf (Dg.objs.map (·.1)) Dg.live res=true)    
  (hr:HR nm B g w X)  (hl:xs.length=vs.size) (Qx:∀(i:Nat) x v,(Pa f fl xs)[i]? = some x→vs[i]? = some v→RA g w x v) :
  Calls P fn vs w fun e w'=>∃v g',e = .returned v∧HR nm B g' w' ⟨Da f fl Dg.objs X.objs,Hx fl X Xc Dg⟩∧Trans F g w g' w'∧RA g' w' (Sc f fl res) v :=
 hs.toH.Ape rfl hc hd Y6 hr (by simp[GH]) hl Qx
end
open Go.Lib
inductive Apf(X:Ad)(f fl:Nat→Nat):List (Nat×Ob)→Prop
 |nil:Apf X f fl []
 |cons {k:Nat} {o:Ob} {r:List (Nat×Ob)}:X.objs.lookup (f k)=some (Mj f fl o)→Apf X f fl r→Apf X f fl ((k,o)::r)
def B7s{l:A6 Nat}(h:l.contains m=false):m∉l:=fun hm=>by
 have:=Boq.2 hm;rw[h]at this;cases this
section
variable{P:Program}{o:Oper}{X:Ad}
def Trans.sub{F':A6 Nat}(h:Trans F g w g' w')(hs:∀k,k∈F→k∈F'):Trans F' g w g' w' :=
 ⟨h.le,fun k hk=>h.names k fun hh=>hk (hs k hh),fun n ob hn he=>h.Aov n ob (fun hh=>hn (hs n hh)) he,fun L hL he=>h.eta L (fun hh=>hL (hs L hh)) he⟩
def Amx{l:A6 Nat}(h:m∉l):(m::l).filter (· != m)=l:=by
 simp only[Bq0,Bu3,Bon,Bpi];exact List.filter_eq_self.2 fun x hx=>by
  have:x≠m:=fun e=>h (by rw[← e];exact hx)
  simpa using this
def Apg{t u e e' bytes:Nat}(m:Nat)
  (ho:o.op = .call { callee:=.builtin .append,args:=#[s,x],argTypes:=ts }) (h0:ts[0]? = some t) (h1:ts[1]? = some u) (hu:Q0 P u e' sz' A7r)
  (ht:Q0 P t e sz bytes) (hm:m∉X.live) (hX:Br [m] X=true)
  (K0:∀cs∈fs,∀c∈cs,A2l c=true) (A2n:fs.length*bytes≤140737488355328) (hlen:fs.length≤4611686018427387904)
  (hty:(ty==none||ty==some e)=true:=by rfl) :
  Ca P o [(s,.d (.sc (.slice none 0 0))),(x,.d (.sl sz fs))] X ⟨X.objs,m::X.live⟩ [m] (.Cv m sz fs ty):=by
 intro nm G3 B g w a hr Bg next Q hn
 have e1:=(Lz Bg).Be;have e2:=rd1 Bg;simp only at e1 e2;obtain⟨h2,h3⟩:=hr.A13 hm none hX (by simp);have hap:=Atw (P:=P) (o:=o) (X:=⟨X.objs,m::X.live⟩) (n:=m) (sz:=sz) (es:=[]) (fs:=fs) (ty:=ty) m ho h0 h1 hu ht Bnm
  (by simp only[Amx hm];exact hm) hX K0 (by simpa using A2n) (by simpa using hlen) hty
 refine hap nm G3 B _ w a h2 ?_ next Q ?_
 ·intro p hp;simp only[Bnd,Boa,Bpa]at hp;rcases hp with rfl|rfl
  ·simp only[e1];exact .Cv m sz [] ty _ (.nil sz none 0 fun _=>rfl) trivial
  ·exact e2.mono h3 (.d _)
 ·intro g' w' v hr' ht' Xt;simp only[Amx hm]at hr';exact hn g' w' v hr' ((h3.trans ht').sub (by simp)) (by simpa using Xt)
def Aye{e bytes:Nat}(ho:o.op = .call { callee:=.builtin .len,args:=#[x],argTypes:=ts })
  (h0:ts[0]? = some t) (ht:Q0 P t e sz bytes):Ca P o [(x,.d (.sc (.slice none 0 0)))] X X [] (.d (.sc (.int .i64 0))):=by
 intro nm G3 B g w a hr Bg;have e1:=(Lz Bg).Be;simp only at e1;refine Atv (es:=[]) (sz':=sz) ho h0 ht nm G3 B g w a hr ?_;intro p hp;simp only[Bnd,Boa,Bpa]at hp;subst hp;simp only[e1];exact .d _ _ (.nil sz none 0 fun _=>rfl)
def A18(l:A6 UInt8):A6 (A6 D):=l.map fun b=>[.sc (.int .u8 b.toNat)]
def Bfu(l:A6 UInt8):A6 D:=l.map fun b=>.sc (.int .u8 b.toNat)
def Z0(l:A6 UInt8):(A18 l).length=l.length:=by simp[A18]
theorem foldl_push:∀(l:A6 UInt8) (s:ByteArray),(l.map fun b=>(b.toNat:Int)).foldl (fun r (n:Int)=>r.push (UInt8.ofNat n.toNat)) s=⟨s.data++l.toArray⟩
 |[],s=>by apply Btw;simp
 |b::r,s=>by
  simp only[Bnh,Bp1];rw[foldl_push r];apply Btw;simp[ByteArray.push]
def Ahu{s d:TypeId}{l:A6 UInt8}(ho:o.op = .convert s d x)(hs:P.underlying s=some (.slice e))(he:P.underlying e=some (.int .u8))(hd:P.underlying d=some .string) :
  Ca P o [(x,.d (.sl 1 (A18 l)))] X X [] (.d (.sc (.string ⟨l.toArray⟩))) :=
 .quiet fun _ _ g w ac hr Bg=>by
  have h1:=Lz Bg;simp only at h1;refine⟨_,?_,.Jz _ _ _⟩;simp only[execOp,ho];generalize ac.eval x=v at h1;cases h1 with
  |d _ _ h1 =>
   obtain⟨base,cap,rfl,_,hb,_,cells,hcl,Fj,hc⟩:=h1.A9h (P:=P) hr.Iw;have Bfv:cells=(l.map fun b=>(b.toNat:Int)).map (Value.int .u8):=by
    refine Bqy fun i=>?_
    by_cases hi:i<l.length
    ·have h2:i<cells.length:=by rw[hcl,Z0];omega
     have h3:=hc i 0 [.sc (.int .u8 l[i].toNat)] (.sc (.int .u8 l[i].toNat)) cells[i] (by simp[A18,hi]) rfl (by simp[h2]);have h4:cells[i]=Value.int .u8 l[i].toNat:=RA.Be (g:=g) (w:=w) (.d _ _ h3);simp[h2,h4,hi]
    ·have h2:¬i<cells.length:=by rw[hcl,Z0];omega
     simp[Bry hi,Bry h2]
   have hcv:=run_convert_bytes_string w s d e base (A18 l).length cap hs he hd;rw[Boc,hcv];cases base with
   |none =>
    have hl0:l=[]:=by have:cap=0:=hb rfl;rename_i hle _ _ _;have:=Z0 l;exact Br3.1 (by omega)
    subst hl0;rfl
   |some a =>
    have hl:=Fj w fun _ _ _=>rfl
    have hfc:(Builtin.firstCells 1 (A18 l).length (.slice (some a) (A18 l).length cap))=loadCells a ((A18 l).length*1):=rfl;rw[hfc,Nat.mul_one]at hl;rw[run_bytesToString w a _ cap (l.map fun b=>(b.toNat:Int)) (by rw[hl,Bfv]),foldl_push];simp
end
abbrev D.bs(l:A6 UInt8):D:=.sc (.string ⟨l.toArray⟩)
def Y7(l:A6 UInt8):(⟨l.toArray⟩:ByteArray).size=l.length:=by simp[ByteArray.size]
def A7t(l:A6 UInt8)(a b:Nat):(⟨l.toArray⟩:ByteArray).extract a b=⟨((l.drop a).take (b-a)).toArray⟩:=by apply Btw;simp[ByteArray.data_extract,List.extract_toArray]
def B3y(a b:A6 UInt8):(⟨a.toArray⟩:ByteArray)++⟨b.toArray⟩=⟨(a++b).toArray⟩:=by apply Btw;simp
section
variable{P:Program}{o:Oper}{X:Ad}
def B7t{l:A6 UInt8}(ho:o.op = .call { callee:=.builtin .len,args:=#[x],argTypes:=ts })
  (h0:ts[0]? = some t) (ht:P.underlying t=some .string):Ca P o [(x,.d (.bs l))] X X [] (.d (.int .i64 l.length)):=by
 have:=Ay1 (P:=P) (X:=X) (s:=⟨l.toArray⟩) ho h0 ht;rw[Y7]at this;exact this
def Ayf{l:A6 UInt8}{k:IntKind}{i:Int}(ho:o.op = .index t x y)(ht:P.underlying t=some .string)(h0:0≤i)(h1:i<l.length) :
  Ca P o [(x,.d (.bs l)),(y,.d (.int k i))] X X [] (.d (.int .u8 ((l.getD i.toNat 0).toNat:Int))) :=
 Aox (s:=⟨l.toArray⟩) ho ht h0 (by rw[Y7];exact h1)
def Ayg{s:A6 UInt8}{k:IntKind}{l:Int}(ho:o.op = .slice t x (some lo) (some hi) none)(ht:P.underlying t=some .string)
  (h0:0≤l) (h1:l≤h) (h2:h≤s.length) :
  Ca P o [(x,.d (.bs s)),(lo,.d (.int k l)),(hi,.d (.int k' h))] X X [] (.d (.bs ((s.drop l.toNat).take (h.toNat-l.toNat)))):=by
 have:=Aoy (P:=P) (X:=X) (s:=⟨s.toArray⟩) (k:=k) (k':=k') ho ht h0 h1 (by rw[Y7];exact h2);rw[A7t]at this;exact this
def Alo{s:A6 UInt8}{k:IntKind}{l:Int}(ho:o.op = .slice t x (some lo) none none)(ht:P.underlying t=some .string)
  (h0:0≤l) (h1:l≤s.length) :
  Ca P o [(x,.d (.bs s)),(lo,.d (.int k l))] X X [] (.d (.bs (s.drop l.toNat))):=by
 have:=Ag8 (P:=P) (X:=X) (s:=⟨s.toArray⟩) (k:=k) ho ht h0 (by rw[Y7];exact h1);rw[A7t,Y7,Bpg (by simp)]at this;exact this
def Alp{s:A6 UInt8}{k:IntKind}(ho:o.op = .slice t x none (some hi) none)(ht:P.underlying t=some .string)
  (h0:0≤h) (h1:h≤s.length) :
  Ca P o [(x,.d (.bs s)),(hi,.d (.int k h))] X X [] (.d (.bs (s.take h.toNat))):=by
 have:=Ag9 (P:=P) (X:=X) (s:=⟨s.toArray⟩) (k:=k) ho ht h0 (by rw[Y7];exact h1);rw[A7t]at this;simpa using this
def B7u{a b:A6 UInt8}(ho:o.op = .binOp .add t x y t')(h:a.length+b.length≤4611686018427387904) :
  Ca P o [(x,.d (.bs a)),(y,.d (.bs b))] X X [] (.d (.bs (a++b))):=by
 have:=Ay0 (P:=P) (X:=X) (a:=⟨a.toArray⟩) (b:=⟨b.toArray⟩) ho (by rw[Y7,Y7];exact h);rw[B3y]at this;exact this
def Aph{b c:UInt8}:((b.toNat:Nat):Int)=((c.toNat:Nat):Int)↔b=c:=by
 constructor
 ·intro h;exact Brp.1 (by omega)
 ·intro h;rw[h]
end
section
variable{P:Program}{o:Oper}{X:Ad}
def Ahv(ho:o.op = .call { callee:=.builtin .len,args:=#[x],argTypes:=ts })
  (h0:ts[0]? = some t) (ht:P.underlying t=some (.slice e)):Ca P o [(x,.osl k off len sz)] X X [] (.d (.sc (.int .i64 len))) :=
 .quiet fun _ _ g w ac _ Bg=>by
  have h1:=Lz Bg;simp only at h1;obtain⟨cap,q,_,hv,_⟩:=h1.T6;refine⟨_,?_,.Jz _ _ _⟩;simp only[execOp,ho,resolve];simp[hv,invoke,builtin,h0,Bns ht,Builtin.len_,goInt]
def Zu{bytes:Nat}{j:IntKind}{i:Int}(ho:o.op = .indexAddr t x y)
  (ht:Q0 P t e sz bytes) (h0:0≤i) (h1:i<len) :
  Ca P o [(x,.osl k off len sz),(y,.d (.sc (.int j i)))] X X [] (.ptr k (off+i.toNat*sz)) :=
 .quiet fun _ _ g w ac _ Bg=>by
  have e1:=Lz Bg;have e2:=(rd1 Bg).Be;simp only at e1 e2;obtain⟨cap,q,Yw,hv,hq,_⟩:=e1.T6;have hqo:q=off:=by
   rcases hq with h|h
   ·omega
   ·exact h
  subst hqo;obtain⟨hu,info,z,hi,Jq,hb,hz,hzs⟩:=ht;refine⟨.pointer (some ⟨g.ρ k,q+i.toNat*sz,none⟩),?_,.ptr _ _⟩;have A2f:(sizeOf e).run P w = .ok sz w:=by rw[run_sizeOf hi,Jq]
  simp only[execOp,ho,hv,e2];have By:i<(len:Int):=h1;simp[Instr.indexAt,asIntOf,Bns hu,h0,By,A2f,addr_add]
def Api{lo hi:A7 Operand}{l:Int}{rd:A6 (Operand×AV)}(ho:o.op = .slice t x lo hi none)(ht:P.underlying t=some (.slice e))
  (Md:P.info? e=some i) (Jq:i.size=sz) (h0:0≤l) (h1:l≤h) (h2:h≤(len:Int))
  (hlo:match lo with|some y=>∃j,(y,AV.d (.int j l))∈rd|none=>l=0) (hhi:match hi with|some y=>∃j,(y,AV.d (.int j h))∈rd|none=>h=(len:Int)) :
  Ca P o ((x,.osl k off len sz)::rd) X X [] (.osl k (off+l.toNat*sz) (h.toNat-l.toNat) sz) :=
 .quiet fun _ _ g w ac _ Bg=>by
  have h3:=Bg (x,.osl k off len sz) Bnm;simp only at h3;obtain⟨cap,q,Yw,hx,hq,T,c,hsh,hc⟩:=h3.T6;have key:RA g w (.osl k (off+l.toNat*sz) (h.toNat-l.toNat) sz) (.slice (if cap=l.toNat then some ⟨g.ρ k,q,none⟩else (some ⟨g.ρ k,q,none⟩:A7 Addr).map (·.add (l.toNat*sz))) (h.toNat-l.toNat) (cap-l.toNat)):=by
   refine .nm _ _ _ ?_;by_cases hz:cap=l.toNat
   ·rw[Bo3 hz];refine⟨cap-l.toNat,q,by omega,rfl,.inl (by omega),T,c,hsh,?_⟩;rw[hz,Nat.sub_self,Bqv];omega
   ·rw[Bnv hz];have hqo:q=off:=by
     rcases hq with h|h
     ·omega
     ·exact h
    subst hqo;refine⟨cap-l.toNat,q+l.toNat*sz,by omega,by simp[addr_add],.inr rfl,T,c,hsh,?_⟩;have:l.toNat*sz+(cap-l.toNat)*sz=cap*sz:=by rw[← Bqh];congr 1;omega
    omega
  refine⟨_,?_,key⟩;have hsa:∀lo hi,(Instr.sliceAt t (.slice (some ⟨g.ρ k,q,none⟩) len cap) lo hi none).run P w=(Instr.slice t (.slice (some ⟨g.ρ k,q,none⟩) len cap) lo hi none).run P w:=by intro lo hi;simp[Instr.sliceAt,Bns ht]
  simp only[execOp,ho,hx];have eh:∀y,hi=some y→∃j,ac.eval y = .int j h:=by intro y hy;subst hy;obtain⟨j,hj⟩:=hhi;exact⟨j,(Bg _ (Bnl _ hj)).Be⟩
  have el:∀y,lo=some y→∃j,ac.eval y = .int j l:=by intro y hy;subst hy;obtain⟨j,hj⟩:=hlo;exact⟨j,(Bg _ (Bnl _ hj)).Be⟩
  have bh:∀(y:Nat) (c:BoundsCode) (k:IntKind),h≤(y:Int)→(Instr.sliceBound (.int k h) y c).run P w = .ok h.toNat w:=by intro y c k hy;simp[Instr.sliceBound,asIntOf,show 0≤h by omega,hy]
  have bl:∀(y:Nat) (c:BoundsCode) (k:IntKind),l≤(y:Int)→(Instr.sliceBound (.int k l) y c).run P w = .ok l.toNat w:=by intro y c k hy;simp[Instr.sliceBound,asIntOf,h0,hy]
  have A2f:(sizeOf e).run P w = .ok sz w:=by rw[run_sizeOf Md,Jq]
  cases hi with
  |none =>
   simp only at hhi;subst hhi;have e5:((len:Nat):Int).toNat=len:=by omega
   cases lo with
   |none =>simp only at hlo;subst hlo;simp[hsa,Instr.slice,Instr.sliceBounds,Bns ht,A2f]
   |some y =>obtain⟨j,hj⟩:=el y rfl;have b1:=bl len .sliceB j (by omega);simp[hsa,Instr.slice,Instr.sliceBounds,Bns ht,A2f,hj,b1]
  |some y' =>
   obtain⟨j',H7⟩:=eh y' rfl;have b2:=bh cap .sliceAcap j' (by omega);cases lo with
   |none =>simp only at hlo;subst hlo;simp[hsa,Instr.slice,Instr.sliceBounds,Bns ht,A2f,H7,b2]
   |some y =>obtain⟨j,hj⟩:=el y rfl;have b1:=bl h.toNat .sliceB j (by omega);simp[hsa,Instr.slice,Instr.sliceBounds,Bns ht,A2f,hj,H7,b1,b2]
end
theorem Kr{sz:Nat}:∀(fs:A6 (A6 D)),(∀(i:Nat) cs,fs[i]? = some cs→cs.length=sz)→fs.flatten.length=fs.length*sz
 |[],_=>by simp
 |c::r,h=>by
  have h0:=h 0 c rfl;have:=Kr r fun i cs hi=>h (i+1) cs (by simpa using hi)
  simp only[Bph,Bp4,Bnx,this,h0,Bpx];omega
theorem A9r{sz:Nat}:∀(fs:A6 (A6 D)),(∀(i:Nat) cs,fs[i]? = some cs→cs.length=sz)→∀(k:Nat) c,fs.flatten[k]? = some c→∃p q cs,k=p*sz+q∧fs[p]? = some cs∧cs[q]? = some c
 |[],_,k,c,hk=>by simp at hk
 |a::r,h,k,c,hk=>by
  have h0:=h 0 a rfl;simp only[Bph,Boz]at hk;split at hk
  ·exact⟨0,k,a,by omega,rfl,hk⟩
  ·rename_i hge;obtain⟨p,q,cs,h1,h2,h3⟩:=A9r r (fun i cs hi=>h (i+1) cs (by simpa using hi)) _ c hk;refine⟨p+1,q,cs,?_,by simpa using h2,h3⟩;rw[Bpx];omega
def B6(k:Nat)(X:Ad):Ad:=⟨X.objs.filter (fun p=>p.1 != k),X.live⟩
def En{l:A6 (Nat×Ob)}:(l.filter (fun p=>p.1 != k)).lookup j=if j=k then none else l.lookup j:=by
 induction l with
 |nil=>simp
 |cons p r ih =>
  obtain⟨i,o⟩:=p;simp only[Bq0];by_cases hik:i=k
  ·subst hik;simp only[Bu3,Bon,Bpi,ih];by_cases hj:j=i
   ·simp[hj]
   ·have:(j==i)=false:=by simpa using hj
    simp[hj,Bot,this]
  ·have h1:(i != k)=true:=by simpa using hik
   simp only[h1,Bpz,Bot,ih];by_cases hj:j=i
   ·subst hj;simp[hik]
   ·have:(j==i)=false:=by simpa using hj
    simp[this]
theorem HR.B6(h:HR nm B g w X)(hk:k∉nm):HR nm B g w (Ab.B6 k X):=by
 have hl:∀j o,(Ab.B6 k X).objs.lookup j=some o→j≠k∧X.objs.lookup j=some o:=by
  intro j o hj;simp only[Ab.B6,En]at hj;split at hj
  ·cases hj
  ·exact⟨‹_›,hj⟩
 refine⟨?_,h.Iw,h.base,h.io,h.le,h.frame,?_,?_,?_,?_,h.live,h.Cq,?_,h.D0,h.D9,h.eta.same (Bno _) fun j o hj=>⟨o,(hl j o hj).2⟩⟩
 ·intro j hj;refine⟨(h.Cc j hj).1,?_⟩;have hne:j≠k:=fun e=>hk (e▸hj)
  simp only[Ab.B6,En,Bnv hne];exact(h.Cc j hj).2
 ·intro j o hj;exact h.objs j o (hl j o hj).2
 ·intro j o hj;exact h.Fi j o (hl j o hj).2
 ·intro j j' o o' hj H7 he;exact h.C1 j j' o o' (hl j o hj).2 (hl j' o' H7).2 he
 ·intro j o hj;exact h.Cf j o (hl j o hj).2
 ·intro n b j o hn hj;exact h.Bz n b j o hn (hl j o hj).2
def HR.Zv(h:HR nm B g w X)(hk:k∉nm)(hmn:m∉nm)(hX:Br [m] X=true)(ho:X.objs.lookup k=some o)(hm:m≠k) :
  HR nm B { g with ρ:=O3 g.ρ m (g.ρ k) } w ⟨(m,o)::(Ab.B6 m (Ab.B6 k X)).objs,X.live⟩∧Trans [m] g w { g with ρ:=O3 g.ρ m (g.ρ k) } w:=by
 have ht:Trans [m] g w { g with ρ:=O3 g.ρ m (g.ρ k) } w:=⟨.refl _ _,fun j hj=>Ai _ _ (by simpa using hj),fun n ob hn he=>⟨he,fun _ _=>⟨rfl,rfl⟩⟩,fun _ _ _=>⟨rfl,fun _ _ _=>⟨rfl,rfl⟩⟩⟩;have hl:∀j p,List.lookup j ((m,o)::(Ab.B6 m (Ab.B6 k X)).objs)=some p→(j=m∧p=o)∨(j≠m∧j≠k∧X.objs.lookup j=some p):=by
  intro j p hj;rw[Bot]at hj;by_cases he:j=m
  ·subst he;simp at hj;exact .inl ⟨rfl,hj.symm⟩
  ·have:(j==m)=false:=by simpa using he
   rw[this]at hj;simp only[Ab.B6,En,Bnv he]at hj;split at hj
   ·cases hj
   ·exact .inr ⟨he,‹_›,hj⟩
 have Ayh:({ g with ρ:=O3 g.ρ m (g.ρ k) }:Gh).ρ m=g.ρ k:=Ah _ _ _;have Alq:∀j,j≠m→({ g with ρ:=O3 g.ρ m (g.ρ k) }:Gh).ρ j=g.ρ j:=fun j hj=>Ai _ _ hj
 refine⟨⟨?_,h.Iw,h.base,h.io,h.le,h.frame,?_,?_,?_,?_,h.live,h.Cq,?_,h.D0,h.D9,h.eta.step (fun L hL=>.inl ⟨hL,rfl⟩) (Bno _) (fun n b hb=>.inl ⟨n,hb⟩) fun j p hj=>?_⟩,ht⟩
 rotate_right
 ·rcases hl j p hj with ⟨rfl,rfl⟩|⟨h1,h2,h3⟩
  ·exact .inl ⟨k,_,ho,Ayh⟩
  ·exact .inl ⟨j,p,h3,Alq j h1⟩
 ·intro j hj;have h1:j≠k:=fun e=>hk (e▸hj)
  have h2:j≠m:=fun e=>hmn (e▸hj)
  refine⟨by rw[Alq j h2];exact(h.Cc j hj).1,?_⟩;rw[Bot];have:(j==m)=false:=by simpa using h2
  rw[this];simp only[Ab.B6,En,Bnv h1,Bnv h2];exact(h.Cc j hj).2
 ·intro j p hj;rcases hl j p hj with ⟨rfl,rfl⟩|⟨h1,h2,h3⟩
  ·rw[Ayh];exact(h.objs k _ ho).Cc ht rfl (Ja hX ho)
  ·rw[Alq j h1];exact(h.objs j p h3).Cc ht rfl (Ja hX h3)
 ·intro j p hj;rcases hl j p hj with ⟨rfl,rfl⟩|⟨h1,h2,h3⟩
  ·rw[Ayh];exact h.Fi k _ ho
  ·rw[Alq j h1];exact h.Fi j p h3
 ·intro j j' p p' hj H7 he;rcases hl j p hj with ⟨rfl,rfl⟩|⟨h1,h2,h3⟩<;>rcases hl j' p' H7 with ⟨rfl,rfl⟩|⟨h1',h2',h3'⟩
  ·rfl
  ·rw[Ayh,Alq j' h1']at he;exact absurd (h.C1 k j' _ _ ho h3' he).symm h2'
  ·rw[Ayh,Alq j h1]at he;exact absurd (h.C1 j k _ _ h3 ho he) h2
  ·rw[Alq j h1,Alq j' h1']at he;exact h.C1 j j' _ _ h3 h3' he
 ·intro j p hj;rcases hl j p hj with ⟨rfl,rfl⟩|⟨h1,h2,h3⟩
  ·rw[Ayh];exact h.Cf k _ ho
  ·rw[Alq j h1];exact h.Cf j p h3
 ·intro n b j p hn hj;rcases hl j p hj with ⟨rfl,rfl⟩|⟨h1,h2,h3⟩
  ·rw[Ayh];exact h.Bz n b k _ hn ho
  ·rw[Alq j h1];exact h.Bz n b j p hn h3
section
variable{P:Program}{o:Oper}{X:Ad}
def Alr{cty:A7 TypeId}{t u e e' bytes:Nat}(m:Nat)
  (ho:o.op = .call { callee:=.builtin .append,args:=#[s,x],argTypes:=ts }) (h0:ts[0]? = some t) (h1:ts[1]? = some u) (hu:Q0 P u e' sz' A7r)
  (ht:Q0 P t e sz bytes) (hk:X.objs.lookup k=some (.cells cs none)) (Tg:cs.length=len*sz) (h1k:1000≤k) (h1m:1000≤m) (hmk:m≠k) (hX:Br [m] X=true) (Bmi:cs.all Atl=true)
  (K0:∀c∈fs,∀d∈c,A2l d=true) (A2n:(len+fs.length)*bytes≤140737488355328) (hlen:len+fs.length≤4611686018427387904) :
  Ca P o [(s,.osl k 0 len sz),(x,.d (.sl sz fs))] X ⟨(m,.cells (cs++fs.flatten.map .d) none)::(B6 m (B6 k X)).objs,X.live⟩ [m] (.osl m 0 (len+fs.length) sz):=by
 obtain⟨htt,i,z,hi,Jq,hbt,hz,hzs⟩:=ht;intro nm G3 B g w a hr Bg next Q Gu
 have hkn:k∉nm:=fun hh=>by have:=G3 k hh;omega
 have hmn:m∉nm:=fun hh=>by have:=G3 m hh;omega
 have e1:=Lz Bg;have e2:=rd1 Bg;simp only at e1 e2;unfold Oper.wp;have Fj:∀r,(Builtin.append_ ts o.type #[a.eval s,a.eval x]).run P w=r→(execOp a.eval o).run P w=r.andThen fun v w'=>.ok (.value v) w':=by intro r hr';simp only[execOp,ho,resolve];simp[invoke,builtin,hr']
 obtain⟨cap,q,Yw,hv,hq,T,c,hsh,hc⟩:=e1.T6;rw[hv]at Fj;generalize a.eval x=vx at e2 Fj;cases e2 with
 |d _ _ e2 =>
 obtain⟨xb,xc,rfl,Bi6,_,Agc,Bn6,hnl,Atz,hnc⟩:=e2.A9h (P:=P) hr.Iw;have Atp:∀v∈Bn6,v.oneCell'=true:=by
  intro v hv;obtain⟨j,hj⟩:=Bpu.1 hv;have Bby:j<fs.length*sz:=by have:=(Bnj.1 hj).1;omega
  obtain⟨p,q,ds,d,rfl,hp,hq⟩:=Aer Agc Bby;exact Ahf (hnc p q ds d v hp hq hj) (K0 ds (Boe hp) d (Boe hq))
 have A9s:=Kr fs Agc;have A7o:∀(j:Nat) (y:AV) v,((fs.flatten.map AV.d))[j]? = some y→Bn6[j]? = some v→RA g w y v:=by intro j y v hy hv;rw[Bni,Bnn]at hy;obtain⟨d,hd,rfl⟩:=hy;obtain⟨p,q,ds,rfl,hp,hq⟩:=A9r fs Agc j d hd;exact .d _ _ (hnc p q ds d v hp hq hv)
 cases hr.objs k _ hk with
 |cells _ _ arr T' Bn7 hl hcc hty =>
 have N1:w.shape? (g.ρ k)=some (T',arr.size):=by simp[World.shape?,Bn7]
 rw[N1]at hsh;simp only[Bnf,Bo2]at hsh;obtain⟨rfl,rfl⟩:=hsh;have Bn8:(len+fs.length)*sz=len*sz+fs.length*sz:=Bqh _ _ _;by_cases Oq:len+fs.length≤cap
 ·
  have hle:(len+fs.length)*sz≤cap*sz:=Bpn sz Oq;by_cases hz0:fs.length=0∧q≠0
  ·
   obtain⟨hf0,hq0⟩:=hz0;have hf:fs=[]:=Br3.1 hf0;subst hf;have hn0:Bn6=[]:=by simpa using hnl
   subst hn0;have hrn:=Hw (P:=P) (w:=w) (w':=w) (ty:=o.type) h0 h1 hu.und htt hi (base:=some ⟨g.ρ k,q,none⟩) (by rw[Jq];exact Atz w fun _ _ _=>rfl) Oq (.inr ⟨_,rfl,rfl⟩);obtain⟨hr2,ht2⟩:=hr.Zv hkn hmn hX hk hmk;rw[Fj _ hrn];simp only[List.flatten_nil,Bo8,Bom,Bpj,Br0]at *;refine Gu _ w _ hr2 ht2 (.nm _ _ _ ?_);simp only[Ah];exact⟨cap,q,Yw,rfl,hq,T',arr.size,N1,hc⟩
  ·have hqz:q=0:=by
    rcases hq with h|h
    ·have:fs.length=0:=by omega
     by_cases hq:q=0
     ·exact hq
     ·exact absurd ⟨this,hq⟩ hz0
    ·exact h
   subst hqz;obtain⟨w',Dq,hst,Iy,Hv,Vx,hz',A33,Md⟩:=Pu (P:=P) (off:=0+len*i.size) Bn6 0 w arr Bn7 Atp (by rw[Jq];omega) (by
    intro j h3 h4;simp[World.frozen?,Bn7])
   have hrn:=Hw (P:=P) (w:=w) (w':=w') (ty:=o.type) h0 h1 hu.und htt hi (base:=some ⟨g.ρ k,0,none⟩) (by rw[Jq];exact Atz w fun _ _ _=>rfl) Oq (.inr ⟨_,rfl,by rw[addr_add];exact hst⟩);simp only[Br0,Bog,Jq]at Vx;obtain⟨hr1,ht1⟩:=hr.write hk (o':=.cells (cs++fs.flatten.map .d) none) hz' Md A33 (by
    intro ht';refine .cells _ none Dq T' Iy (by simp only[Bp4,Bo1,A9s,Hv];omega) ?_ (by simp);intro j y v hy hv;rw[Vx j]at hv;rw[Boz]at hy;split at hy
    ·rename_i By;rw[Bnv (by omega)]at hv;exact(hcc j y v hy hv).mono ht' (.nil _)
    ·rename_i hge;have hjl:j-cs.length<fs.flatten.length:=by have:=(Bnj.1 hy).1;rw[Bo1]at this;exact this
     rw[Bo3 (by omega),← Tg]at hv;exact(A7o _ y v hy hv).mono ht' (.nil _)) (by
    intro s hs0;rw[N1]at hs0;simp only[World.shape?,Iy,Hv];exact hs0)
   have hX1:Br [m] ⟨Ab.setObj k (.cells (cs++fs.flatten.map .d) none) X.objs,X.live⟩=true:=by
    unfold Br at hX⊢;simp only[Brt,Bs6]at hX⊢;rw[Bok]at hX⊢;intro p hp;have:∀(l:A6 (Nat×Ob)),(∀p∈l,Fk [m] p.2=true)→∀p∈Ab.setObj k (.cells (cs++fs.flatten.map .d) none) l,Fk [m] p.2=true:=by
     have Bel:Fk [m] (.cells (cs++fs.flatten.map .d) none)=true:=by
      have h2:Fk [m] (.cells cs none)=true:=hX _ (D3 hk);simp only[Fk]at h2⊢;have app:∀(l r:A6 AV),C9 [m] l=true→C9 [m] r=true→C9 [m] (l++r)=true:=by
       intro l r;induction l with
       |nil=>intro _ h;exact h
       |cons y l ih=>intro h h';simp only[C9,Boo,Bpw]at h⊢;exact⟨h.1,ih h.2 h'⟩
      refine app _ _ h2 ?_;generalize fs.flatten=fl;induction fl with
      |nil=>rfl
      |cons y r ih=>simp only[Bnh,C9,Gs,Bqb];exact ih
     intro l;induction l with
     |nil =>intro _ p hp;simp only[Ab.setObj,Bnw]at hp;subst hp;exact Bel
     |cons a r ih =>
      intro Ue p hp;obtain⟨j,oj⟩:=a;simp only[Ab.setObj]at hp;split at hp
      ·rcases Bnd.1 hp with rfl|hp
       ·exact Bel
       ·exact Ue p (Bnl _ hp)
      ·rcases Bnd.1 hp with rfl|hp
       ·exact Ue _ Bnm
       ·exact ih (fun p hp=>Ue p (Bnl _ hp)) p hp
    exact this X.objs hX p hp
   obtain⟨hr2,ht2⟩:=hr1.Zv (k:=k) (m:=m) hkn hmn hX1 (by rw[B5,Bo3 rfl]) hmk;rw[Fj _ hrn];refine Gu _ w' _ (hr2.alike ⟨fun j=>?_,rfl⟩) (ht1.trans ht2) (.nm _ _ _ ?_)
   ·simp only[Bot,Ab.B6,En,B5];by_cases hj:j=k
    ·subst hj;simp
    ·simp[hj]
   ·simp only[Ah];exact⟨cap,0,Oq,rfl,.inr rfl,T',arr.size,ht1.le.shape _ _ N1,by omega⟩
 ·
  obtain⟨Ahh,htd⟩:=hr.drew;have Bc3:len=0∨q=0:=by
   rcases hq with h|h
   ·left;omega
   ·exact .inr h
  have hl0:((arr.toList.drop q).take (len*sz)).length=len*sz:=by
   rcases Bc3 with h|h
   ·subst h;simp
   ·subst h;simp only[Bqk,Bof,Bp2];omega
  have Bi7:(Builtin.firstCells i.size len (.slice (some ⟨g.ρ k,q,none⟩) len cap)).run P w.drew = .ok ((arr.toList.drop q).take (len*sz)).toArray w.drew:=by
   refine run_firstCells_some w.drew i.size len _ _ _ _ (by rw[Jq,hl0]) ?_;intro j v hj;rw[Bow]at hj;split at hj
   ·rw[Bp3]at hj;rw[addr_add];show w.cell? _=_;rw[Cg Bn7];simpa using hj
   ·cases hj
  have hrn:=R1 (P:=P) (w:=w) (ty:=o.type) h0 h1 hu.und htt hi hz (by rw[Jq];exact Atz w.drew fun _ _ _=>rfl) Bi7 Oq (by omega) (by rw[hbt];exact A2n);have hge:=grownCap_ge w (len+fs.length) cap e;generalize grownCap w (len+fs.length) cap e=nc at hrn hge;generalize Ahi:((arr.toList.drop q).take (len*sz)).toArray++Bn6.toArray++Builtin.zeroCells z.cells (nc-(len+fs.length))=Ahw at hrn;have Bfn:Ahw.size=nc*sz:=by rw[← Ahi];simp only[Bsc,Bq1,Btp,hl0,hnl,hzs];rw[← Bn8,← Bqh];congr 1;omega
  have Bhy:(len+fs.length)*sz≤nc*sz:=Bpn _ hge;have hr1:=Ahh.B6 (k:=m) hmn;have Bkw:=hr1.B6 (k:=k) hkn;obtain⟨hr2,ht2⟩:=Bkw.newObj (k:=m) (by
   simp only[Ab.B6,En];split
   ·rfl
   ·rfl) (by
   unfold Br at hX⊢;simp only[Brt,Bs6]at hX⊢;rw[Bok]at hX⊢;intro p hp;simp only[Ab.B6,Bo9]at hp;exact hX p hp.1.1) (.cells Ahw e) (.cells (cs++fs.flatten.map .d) none) (by
   intro g' w' ht' hw';refine .cells _ none Ahw e hw' (by simp only[Bp4,Bo1,A9s];omega) ?_ (by simp);intro j y v hy hv;rw[← Ahi]at hv;have Ql:Zn [m] y:=by
    rw[Boz]at hy;split at hy
    ·have h2:Fk [m] (.cells cs none)=true:=by
      rcases Ja hX hk with h|h
      ·cases h
      ·exact h
     exact Qz (Mz h2 hy)
    ·rw[Bni,Bnn]at hy;obtain⟨d,_,rfl⟩:=hy;exact .d _
   rw[Boz]at hy;split at hy
   ·rename_i By;rw[Array.append_assoc,Bqj (by simp only[Bq1,hl0];omega)]at hv;rcases Bc3 with h|h
    ·subst h;simp only[Bqv]at Tg;omega
    ·subst h;simp only[Bqk,Bqf,Bow]at hv;rw[Bo3 (by omega)]at hv;exact((hcc j y v hy (by simpa using hv)).mono htd (.nil _)).mono ht' Ql
   ·rename_i Bmv;have hjl:j-cs.length<fs.flatten.length:=by have:=(Bnj.1 hy).1;rw[Bo1]at this;exact this
    rw[Bqj (by simp only[Bsc,Bq1,hl0,hnl];omega),Brn (by simp only[Bq1,hl0];omega)]at hv;simp only[Bq1,hl0,Bqf]at hv;rw[← Tg]at hv;exact((A7o _ y v hy hv).mono htd (.nil _)).mono ht' Ql)
  rw[Fj _ hrn];refine Gu _ _ _ (hr2.alike ⟨fun j=>?_,rfl⟩) (htd.trans ht2) (.nm _ _ _ ?_)
  ·simp only[Bot,Ab.B6,En];by_cases hj:j=k
   ·subst hj;simp
   ·simp[hj]
  ·simp only[Ah];have hww:w.heap.size=w.drew.heap.size:=rfl;rw[hww];refine⟨nc,0,hge,rfl,.inr rfl,e,Ahw.size,?_,by omega⟩;have:=Bqw w.drew (.cells Ahw e);simp only[World.shape?];rw[this]
end
theorem A9t{sz:Nat}:∀(fs:A6 (A6 D)),(∀(i:Nat) cs,fs[i]? = some cs→cs.length=sz)→∀(p q:Nat) cs c,fs[p]? = some cs→cs[q]? = some c→fs.flatten[p*sz+q]? = some c
 |[],_,p,q,cs,c,hp,_=>by simp at hp
 |a::r,h,p,q,cs,c,hp,hq=>by
  have h0:=h 0 a rfl;simp only[Bph,Boz];cases p with
  |zero =>simp at hp;subst hp;have:q<a.length:=(Bnj.1 hq).1;rw[Bo3 (by omega)];simpa using hq
  |succ p =>have ih:=A9t r (fun i cs hi=>h (i+1) cs (by simpa using hi)) p q cs c (by simpa using hp) hq;rw[Bpx,Bnv (by omega)];rw[show p*sz+sz+q-a.length=p*sz+q by omega];exact ih
def HR.freeze(h:HR nm B g w X)(hk:k∉nm)(ho:X.objs.lookup k=some (.cells (es.flatten.map .d) ty))
  (Jq:∀(i:Nat) cs,es[i]? = some cs→cs.length=sz) :
  HR nm B { g with γ:=O3 g.γ (g.ρ k) (es.length*sz) } w (Ab.B6 k X)∧Trans [] g w { g with γ:=O3 g.γ (g.ρ k) (es.length*sz) } w ∧
   ∀a len v,a+len≤es.length→RA g w (.osl k (a*sz) len sz) v→RA { g with γ:=O3 g.γ (g.ρ k) (es.length*sz) } w (.d (.sl sz ((es.drop a).take len))) v:=by
 have h0:=h.Fi k _ ho;have hup:∀b,g.γ b≤O3 g.γ (g.ρ k) (es.length*sz) b:=by
  intro b;by_cases he:b=g.ρ k
  ·subst he;rw[Ah,h0];omega
  ·rw[Ai _ _ he];exact Bno _
 have hne:∀n b,g.β n=some (some b)→b≠g.ρ k:=fun n b hn=>h.Bz n b k _ hn ho
 have ht:Trans [] g w { g with γ:=O3 g.γ (g.ρ k) (es.length*sz) } w:=⟨⟨hup,fun _ _ _=>rfl,fun _ _ h=>h⟩,fun _ _=>rfl,fun n ob _ he=>⟨he,fun b hb=>⟨Ai _ _ (hne n b (hb▸he)),rfl⟩⟩,fun L _ hL=>⟨rfl,fun i b hb=>⟨Ai _ _ (h.eta.obj L i b k _ hL hb ho),rfl⟩⟩⟩;have hfl:=Kr es Jq;have hd:=h.B6 hk;have hl:∀j o,(Ab.B6 k X).objs.lookup j=some o→j≠k∧X.objs.lookup j=some o:=by
  intro j o hj;simp only[Ab.B6,En]at hj;split at hj
  ·cases hj
  ·exact⟨‹_›,hj⟩
 cases h.objs k _ ho with
 |cells _ _ arr T hb hle hc hty =>
 rw[Bo1,hfl]at hle;refine⟨⟨hd.Cc,?_,h.base,h.io,⟨fun b=>Bop (h.le.up b) (hup b),h.le.cell,h.le.shape⟩,?_,?_,?_,hd.C1,hd.Cf,h.live,h.Cq,hd.Bz,h.D0,h.D9,hd.eta.step (fun L hL=>.inl ⟨hL,rfl⟩) (Bno _) (fun n b hb=>.inl ⟨n,hb⟩) fun k o hk=>.inl ⟨k,o,hk,rfl⟩⟩,ht,?_⟩
 ·intro b i hi;by_cases he:b=g.ρ k
  ·subst he;simp only[Ah]at hi;rw[Cg hb];have:i<arr.size:=by omega
   simp[this]
  ·simp only[Ai _ _ he]at hi;exact h.Iw b i hi
 ·intro b hbn hna;have Ub:b≠g.ρ k:=by
   rintro rfl;rcases h.Cf k _ ho with h1|h1
   ·omega
   ·exact hna h1
  have:=h.frame b hbn hna;exact⟨this.1,by simp only[Ai _ _ Ub];exact this.2⟩
 ·intro j o hj;exact(h.objs j o (hl j o hj).2).Cc ht rfl (.inl rfl)
 ·intro j o hj;obtain⟨h1,h2⟩:=hl j o hj;have Ub:g.ρ j≠g.ρ k:=fun he=>h1 (h.C1 j k _ _ h2 ho he)
  simp only[Ai _ _ Ub];exact h.Fi j o h2
 ·intro a len v hal Xt;obtain⟨cap,q,Yw,rfl,hq,T',c,hsh,hcc⟩:=Xt.T6;refine .d _ _ ?_;by_cases hlen:len=0
  ·subst hlen;simp only[List.take_zero];exact .nil sz _ cap (by simp)
  ·have hqa:q=a*sz:=by
    rcases hq with h|h
    ·omega
    ·exact h
   subst hqa;have By:((es.drop a).take len).length=len:=by simp;omega
   refine .Zs By.symm ?_ Yw ?_ ?_
   ·simp only[Ah];have:=Bpn sz hal;rw[Bqh]at this;exact this
   ·intro i cs hi;rw[Bow]at hi;split at hi
    ·rw[Bp3]at hi;exact Jq _ cs hi
    ·cases hi
   ·intro p q cs c u hp hq hu;rw[Bow]at hp;split at hp
    ·rw[Bp3]at hp;have h1:=A9t es Jq (a+p) q cs c hp hq;rw[Cg hb]at hu;have e:(a+p)*sz+q=a*sz+(p*sz+q):=by rw[Bqh];omega
     rw[e]at h1;have:=hc (a*sz+(p*sz+q)) (.d c) u (by rw[Bni,h1];rfl) hu;cases this with
     |d _ _ h2=>exact h2.mono ht.le
    ·cases hp
structure Bfw(P:Program)(t e n sz:Nat):Prop where
 und:P.underlying t=some (.array n e)
 is:∃i,P.info? e=some i∧i.size=sz
section
variable{P:Program}{o:Oper}{X:Ad}
def Aci{t e:Nat}{cs:A6 D}{k:IntKind}{i:Int}(ho:o.op = .indexAddr t x y)
  (ht:Bfw P t e n sz) (Jq:∀(i:Nat) cs,es[i]? = some cs→cs.length=sz) (hn:es.length≤n) (h0:0≤i) (h1:es[i.toNat]? = some cs) :
  Ca P o [(x,.d (.ep es.flatten)),(y,.d (.sc (.int k i)))] X X [] (.d (.ep cs)) :=
 .quiet fun _ _ g w ac _ Bg=>by
  have e1:=Lz Bg;have e2:=(rd1 Bg).Be;simp only at e1 e2;obtain⟨hu,info,hi,hs⟩:=ht;simp only[execOp,ho,e2];generalize ac.eval x=u at e1;cases e1 with
  |d _ _ e1 =>
   have By:=(Bnj.1 h1).1;cases e1 with
   |ep _ b off hγ hc =>
    have hil:i<n:=by omega
    refine⟨.pointer (some ⟨b,off+i.toNat*sz,none⟩),?_,.d _ _ (.ep cs b _ ?_ ?_)⟩
    ·simp[Instr.indexAt,Instr.sureAddr,asIntOf,Bns hu,h0,hil,sizeOf,typeInfo,hi,hs,addr_add]
    ·rw[Jq _ _ h1];rw[Kr es Jq]at hγ;have:(i.toNat+1)*sz≤es.length*sz:=Bpn sz By;rw[Bpx]at this;omega
    ·intro j c v hj hv;exact hc (i.toNat*sz+j) c v (A9t es Jq _ _ _ _ h1 hj) (by rw[← Bqa];exact hv)
def A9u{t e:Nat}{k:IntKind}{i:Int}(ho:o.op = .indexAddr t x y)
  (ht:Bfw P t e n sz) (h0:0≤i) (h1:i<n) :
  Ca P o [(x,.ptr j 0),(y,.d (.sc (.int k i)))] X X [] (.ptr j (i.toNat*sz)) :=
 .quiet fun _ _ g w ac _ Bg=>by
  have e1:=(Lz Bg).Qy;have e2:=(rd1 Bg).Be;simp only at e1 e2;obtain⟨hu,info,hi,hs⟩:=ht;refine⟨.pointer (some ⟨g.ρ j,i.toNat*sz,none⟩),?_,.ptr _ _⟩;simp only[execOp,ho,e1,e2];simp[Instr.indexAt,Instr.sureAddr,asIntOf,Bns hu,h0,h1,sizeOf,typeInfo,hi,hs,addr_add]
end
section
variable{P:Program}{o:Oper}{X:Ad}
def A9v{t u e e' bytes:Nat}(m:Nat)
  (ho:o.op = .call { callee:=.builtin .append,args:=#[s,x],argTypes:=ts }) (h0:ts[0]? = some t) (h1:ts[1]? = some u) (hu:Q0 P u e' sz' A7r)
  (ht:Q0 P t e sz bytes) (h1m:1000≤m) (hX:Br [m] X=true) (hne:fs≠[])
  (K0:∀c∈fs,∀d∈c,A2l d=true) (A2n:fs.length*bytes≤140737488355328) (hlen:fs.length≤4611686018427387904) :
  Ca P o [(s,.d (.sc (.slice none 0 0))),(x,.d (.sl sz fs))] X ⟨(m,.cells (fs.flatten.map .d) none)::(B6 m X).objs,X.live⟩ [m] (.osl m 0 fs.length sz):=by
 obtain⟨htt,i,z,hi,Jq,hbt,hz,hzs⟩:=ht;intro nm G3 B g w a hr Bg next Q Gu
 have hmn:m∉nm:=fun hh=>by have:=G3 m hh;omega
 have e1:=(Lz Bg).Be;have e2:=rd1 Bg;simp only at e1 e2;unfold Oper.wp;have Fj:∀r,(Builtin.append_ ts o.type #[a.eval s,a.eval x]).run P w=r→(execOp a.eval o).run P w=r.andThen fun v w'=>.ok (.value v) w':=by intro r hr';simp only[execOp,ho,resolve];simp[invoke,builtin,hr']
 rw[e1]at Fj;generalize a.eval x=vx at e2 Fj;cases e2 with
 |d _ _ e2 =>
 obtain⟨xb,xc,rfl,Bi6,_,Agc,Bn6,hnl,Atz,hnc⟩:=e2.A9h (P:=P) hr.Iw;have A9s:=Kr fs Agc;have A7o:∀(j:Nat) (y:AV) v,((fs.flatten.map AV.d))[j]? = some y→Bn6[j]? = some v→RA g w y v:=by intro j y v hy hv;rw[Bni,Bnn]at hy;obtain⟨d,hd,rfl⟩:=hy;obtain⟨p,q,ds,rfl,hp,hq⟩:=A9r fs Agc j d hd;exact .d _ _ (hnc p q ds d v hp hq hv)
 have Oq:¬0+fs.length≤0:=by have:=Bsp.2 hne;omega
 obtain⟨Ahh,htd⟩:=hr.drew;have hrn:=R1 (P:=P) (w:=w) (ty:=o.type) (base:=none) (len:=0) (cap:=0) (olds:=[]) h0 h1 hu.und htt hi hz (by rw[Jq];exact Atz w.drew fun _ _ _=>rfl) (by simp[Builtin.firstCells]) Oq (by omega) (by rw[hbt];simpa using A2n);have hge:=grownCap_ge w (0+fs.length) 0 e;generalize grownCap w (0+fs.length) 0 e=nc at hrn hge;generalize Ahi:([]:A6 Value).toArray++Bn6.toArray++Builtin.zeroCells z.cells (nc-(0+fs.length))=Ahw at hrn;have Bfn:Ahw.size=nc*sz:=by rw[← Ahi];simp only[Bsc,Bq1,Btp,Bpj,hnl,hzs];rw[Bog,← Bqh];congr 1;omega
 have Bhy:fs.length*sz≤nc*sz:=Bpn _ (by omega);have hr1:=Ahh.B6 (k:=m) hmn;obtain⟨hr2,ht2⟩:=hr1.newObj (k:=m) (by simp only[Ab.B6,En,Bpz]) (by
  unfold Br at hX⊢;simp only[Brt,Bs6]at hX⊢;rw[Bok]at hX⊢;intro p hp;simp only[Ab.B6,Bo9]at hp;exact hX p hp.1) (.cells Ahw e) (.cells (fs.flatten.map .d) none) (by
  intro g' w' ht' hw';refine .cells _ none Ahw e hw' (by simp only[Bo1,A9s];omega) ?_ (by simp);intro j y v hy hv;have hjl:j<fs.flatten.length:=by have:=(Bnj.1 hy).1;rw[Bo1]at this;exact this
  have Ql:Zn [m] y:=by rw[Bni,Bnn]at hy;obtain⟨d,_,rfl⟩:=hy;exact .d _
  rw[← Ahi,Bqj (by simp only[Bsc,Bq1,Bpj,hnl];omega),Brn (by simp)]at hv;simp only[Bq1,Bpj,Bpy,Bqf]at hv;exact((A7o j y v hy hv).mono htd (.nil _)).mono ht' Ql)
 rw[Fj _ hrn];have hww:w.heap.size=w.drew.heap.size:=rfl;refine Gu _ _ _ hr2 (htd.trans ht2) ?_;simp only[Bog]at hge⊢;refine .nm _ _ _ ?_;simp only[Ah];rw[hww];refine⟨nc,0,hge,rfl,.inr rfl,e,Ahw.size,?_,by omega⟩;have:=Bqw w.drew (.cells Ahw e);simp only[World.shape?];rw[this]
end
section
variable{P:Program}{o:Oper}{X:Ad}
def Als{zs:Array Value}:∀ {n:Nat} {v:Value},v∈(Builtin.zeroCells zs n).toList→v∈zs.toList:=by
 intro n v h;unfold Builtin.zeroCells at h;simp at h;obtain⟨a,ha,h⟩:=h;have h0:0<zs.size:=by
  rcases Bpl zs.size with h0|h0
  ·rw[h0]at ha;simp at ha
  ·exact h0
 have By:=Bt0 a h0;rw[Bsw zs _ By]at h;rw[← h];simp
def Apj{t e bytes:Nat}
  (ho:o.op = .call { callee:=.builtin .clear,args:=#[x],argTypes:=ts }) (h0:ts[0]? = some t) (ht:Q0 P t e sz bytes) (hk:X.objs.lookup k=some (.cells cs ty))
  (K0:∀z,(P.info? e).bind (·.zero)=some z→∀v∈z.cells.toList,v.oneCell'=true) :
  Ca P o [(x,.osl k off len sz)] X ⟨setObj k (.cells (cs.take off) ty) X.objs,X.live⟩ [] (.Er []):=by
 obtain⟨htt,i,z,hi,Jq,hbt,hz,hzs⟩:=ht;intro nm G3 B g w a hr Bg next Q Gu
 have e1:=Lz Bg;simp only at e1;obtain⟨cap,q,Yw,hv,hq,T,c,hsh,hc⟩:=e1.T6;unfold Oper.wp;have Fj:∀w',(Builtin.clear_ ts o.type #[a.eval x]).run P w = .ok (.tuple #[]) w'→(execOp a.eval o).run P w = .ok (.value (.tuple #[])) w':=by intro w' hr';simp only[execOp,ho,resolve];simp[invoke,builtin,hr']
 rw[hv]at Fj;have Atp:=K0 z (by rw[hi];exact hz);cases hr.objs k _ hk with
 |cells _ _ arr T' hb hl hcc hty =>
 have N1:w.shape? (g.ρ k)=some (T',arr.size):=by simp[World.shape?,hb]
 rw[N1]at hsh;simp only[Bnf,Bo2]at hsh;obtain⟨rfl,rfl⟩:=hsh;have shrink:∀w',w'=w→HR nm B g w' ⟨setObj k (.cells (cs.take off) ty) X.objs,X.live⟩∧Trans [] g w g w':=by
  rintro w' rfl;refine hr.write hk rfl ⟨rfl,rfl,rfl,Bno _⟩ (fun _ _=>rfl) (fun _=>?_) (fun s h=>h);refine .cells _ ty arr T' hb (by simp;omega) ?_ hty;intro j y v hy hv;rw[Bow]at hy;split at hy
  ·exact hcc j y v hy hv
  ·cases hy
 by_cases hlen:len=0
 ·subst hlen;have:(Builtin.clear_ ts o.type #[.slice (some ⟨g.ρ k,q,none⟩) 0 cap]).run P w = .ok (.tuple #[]) w:=by simp[Builtin.clear_,h0,Bns htt]
  rw[Fj _ this];obtain⟨r1,r2⟩:=shrink w rfl;exact Gu g w _ r1 r2 (.Er [] #[] rfl (by simp))
 ·have hqo:q=off:=by
   rcases hq with h|h
   ·omega
   ·exact h
  subst hqo;have hle:len*sz≤cap*sz:=Bpn sz Yw;obtain⟨w',Dq,hst,Iy,Hv,Vx,hz',A33,Md⟩:=Pu (P:=P) (off:=q) (Builtin.zeroCells z.cells len).toList 0 w arr hb (fun v hv=>Atp v (Als hv)) (by
   rw[Bp2,Btp,hzs];omega) (by intro j h3 h4;simp[World.frozen?,hb])
  have:(Builtin.clear_ ts o.type #[.slice (some ⟨g.ρ k,q,none⟩) len cap]).run P w = .ok (.tuple #[]) w':=by
   have hn:∀n,len=n→n≠0:=fun n h=>h▸hlen
   obtain⟨n,rfl⟩:∃n,len=n+1:=⟨len-1,by omega⟩;simp[Builtin.clear_,h0,Bns htt,zeroValue,typeInfo,hi,hz,hst]
  rw[Fj _ this];obtain⟨r1,r2⟩:=hr.write hk (o':=.cells (cs.take q) ty) hz' Md A33 (by
   intro ht';refine .cells _ ty Dq T' Iy (by simp;omega) ?_ hty;intro j y v hy hv;rw[Bow]at hy;split at hy
   ·rw[Vx j,Bnv (by omega)]at hv;exact(hcc j y v hy hv).mono ht' (.nil _)
   ·cases hy) (by
   intro s hs0;rw[N1]at hs0;simp only[World.shape?,Iy,Hv];exact hs0)
  exact Gu g w' _ r1 r2 (.Er [] #[] rfl (by simp))
end
section
variable{P:Program}{o:Oper}{X:Ad}
def A9w(m:Nat){xs:A6 D}(ho:o.op = .buildSlice t n Bn3)(ht:P.underlying t=some (.slice e))
  (hi:P.info? e=some i) (hz:i.zero=some z) (Jq:i.size=sz) (hx:xs.length=n) (Ay4:Bn3.toList.map (·.1)=List.range n) (Jr:(xs.all fun x=>A6k (.d x)&&x.cells.length==sz)=true)
  (A2n:n*sz≤16777216) (h1m:1000≤m) (hX:Br [m] X=true) :
  Ca P o ((Bn3.toList.map (·.2)).zip (xs.map .d)) X ⟨(m,.cells ((xs.map D.cells).flatten.map .d) none)::(B6 m X).objs,X.live⟩ [m] (.osl m 0 n sz):=by
 subst Jq;intro nm G3 B g w a hr Bg next Q hn
 have hpl:Bn3.toList.length=n:=by rw[← Bo1 (f:=(·.1)),Ay4,Bu1]
 unfold Oper.wp;have Ahj:∀(j:Nat) p x,Bn3.toList[j]? = some p→xs[j]? = some x→RA g w (.d x) (a.eval p.2):=by
  intro j p x hp hx';exact Bg (p.2,.d x) (Boe (i:=j) (by
   rw[Bqn];exact⟨by rw[Bni,hp];rfl,by rw[Bni,hx'];rfl⟩))
 have Ahk:∀(j:Nat) x,xs[j]? = some x→A6k (.d x)=true∧x.cells.length=i.size:=by intro j x hx';have:=Bok.1 Jr x (Boe hx');simpa using this
 generalize A2g:((Array.range (n*i.size)).map fun x=>(if n*i.size=0 then #[]else z.cells)[x % (if n*i.size=0 then #[]else z.cells).size]!)=A9i;have Ahl:A9i.size=n*i.size:=by subst A2g;simp
 obtain⟨Dq,A74,Hv,_,hc'⟩:=A7p (g:=g) (w:=w) (sz:=i.size) (Bn3.toList.map fun p=>(p.1,a.eval p.2)) (xs.map D.cells) 0 A9i (by simp[hpl,hx]) (by
  intro j p hp;rw[Bni,Bnn]at hp;obtain⟨q,hq,rfl⟩:=hp;have hj:j<n:=by have:=(Bnj.1 hq).1;omega
  have:(Bn3.toList.map (·.1))[j]? = some q.1:=by rw[Bni,hq];rfl
  rw[Ay4,Bso hj]at this;simp at this;simp[this]) (by
  intro j p cs hp Tg;rw[Bni,Bnn]at hp Tg;obtain⟨q,hq,rfl⟩:=hp;obtain⟨x,hx',rfl⟩:=Tg;obtain⟨f1,f2⟩:=Ahk j x hx';obtain⟨c1,c2⟩:=(Ahj j q x hq hx').cells f1;have hcl:(AV.d x).cells.length=x.cells.length:=by simp[AV.cells]
  refine⟨f2,by simp only;omega,?_⟩;intro k c u hk hu;have:=c2 k (.d c) u (by simp[AV.cells,hk]) hu;cases this with
  |d _ _ h=>exact h) (by simp[hpl,Ahl])
 have Fj:(execOp a.eval o).run P w = .ok (.value (.slice (some ⟨w.heap.size,0,none⟩) n n)) (w.alloc (.cells Dq e)):=by
  simp only[execOp,ho,Instr.buildSlice];have h24:¬(n*i.size>2 ^ 24):=by omega
  by_cases h0:n*i.size=0
  ·have e0:A9i=#[]:=Bos (by omega);subst e0;have Pz:Instr.fill (fun j=>some (j*i.size,i.size)) #[] (Bn3.toList.map fun p=>(p.1,a.eval p.2))=some Dq:=A74;have Bi0:¬(0>2 ^ 24):=by omega
   simp only[Boc,Bns ht,Bo5,run_sizeOf hi,h0,Bpz];simp[Bt4,Pz,Go.newRow]
  ·simp only[h0,Bpi]at A2g;have Pz:Instr.fill (fun j=>some (j*i.size,i.size)) A9i (Bn3.toList.map fun p=>(p.1,a.eval p.2))=some Dq:=A74;simp only[Boc,Bns ht,Bo5,run_sizeOf hi,h24,Bpi,h0];simp[zeroValue,typeInfo,hi,hz,A2g,Pz,Go.newRow]
 have hmn:m∉nm:=fun hh=>by have:=G3 m hh;omega
 have Agc:∀(i':Nat) cs,(xs.map D.cells)[i']? = some cs→cs.length=i.size:=by intro j cs Tg;rw[Bni,Bnn]at Tg;obtain⟨x,hx',rfl⟩:=Tg;exact(Ahk j x hx').2
 have A9s:=Kr (xs.map D.cells) Agc;rw[Bo1,hx]at A9s;have hr1:=hr.B6 (k:=m) hmn;obtain⟨hr2,ht2⟩:=hr1.newObj (k:=m) (by simp only[Ab.B6,En,Bpz]) (by
  unfold Br at hX⊢;simp only[Brt,Bs6]at hX⊢;rw[Bok]at hX⊢;intro p hp;simp only[Ab.B6,Bo9]at hp;exact hX p hp.1) (.cells Dq e) (.cells ((xs.map D.cells).flatten.map .d) none) (by
  intro g' w' ht' hw';refine .cells _ none Dq e hw' (by simp only[Bo1,A9s];omega) ?_ (by simp);intro j y v hy hv;rw[Bni,Bnn]at hy;obtain⟨d,hd,rfl⟩:=hy;obtain⟨p,q,ds,rfl,hp,hq⟩:=A9r _ Agc j d hd;have:=hc' p q ds d v hp hq (by rw[Bog];exact hv);exact(RA.d _ _ this).mono ht' (.d _))
 rw[Fj];refine hn _ _ _ hr2 ht2 (.nm _ _ _ ?_);simp only[Ah];exact⟨n,0,Bno _,rfl,.inr rfl,e,Dq.size,by unfold World.shape?;rw[Bqw],by omega⟩
end
def A6m{o:Oper}(m:Nat)(ho:o.op = .buildSlice t 0 #[])(ht:P.underlying t=some (.slice e))(hi:P.info? e=some i)
  (hm:m∉X.live) (hX:Br [m] X=true):Ca P o [] X ⟨X.objs,m::X.live⟩ [m] (.Cv m i.size [] (some e)):=by
 intro nm G3 B g w a hr Bg next Q hn
 unfold Oper.wp;have Fj:(execOp a.eval o).run P w = .ok (.value (.slice (some ⟨w.heap.size,0,none⟩) 0 0)) (w.alloc (.cells #[] e)):=by
  simp only[execOp,ho,Instr.buildSlice];have h0:0*i.size=0:=by omega
  have Bi0:¬(0>2 ^ 24):=by omega
  have Pz:Instr.fill (fun j=>some (j*i.size,i.size)) #[] []=some #[]:=rfl;simp only[Boc,Bns ht,Bo5,run_sizeOf hi,h0,Bpz];simp[Bt4,Pz,Go.newRow]
 rw[Fj];obtain⟨h1,h2⟩:=hr.newRow #[] e 0 (Bno _);have Jq:(w.alloc (.cells #[] e)).heap.size=w.heap.size+1:=by simp
 obtain⟨h3,h4⟩:=h1.A13 hm (some w.heap.size) hX (by
  intro b hb;cases hb;refine⟨by omega,.inl hr.base,fun k ob hk he=>?_,fun n hn=>?_,hr.eta.ltN (Bno _)⟩
  ·have My:=hr.objs k ob hk;have:g.ρ k<w.heap.size:=by
    cases My with
    |cells _ _ _ _ hh=>exact(Bny.1 hh).1
    |map _ _ _ hh=>exact(Bny.1 hh).1
    |Vw _ _ hh=>exact(Bny.1 hh).1
    |Kn _ _ _ _ hh=>exact(Bny.1 hh).1
    |E5 hh=>exact(Bny.1 hh).1
    |Cx _ _ _ _ _ hh=>exact(Bny.1 hh).1
   simp only at he;omega
  ·have:=hr.D9 n _ hn;omega)
 refine hn _ _ _ h3 (by simpa using h2.trans h4) (.Cv m i.size [] (some e) _ (.nil _ _ _ (by simp)) ?_);intro ob My;simp only[Ah,Bnf]at My;subst My;refine⟨rfl,rfl,by show O3 g.γ w.heap.size 0 w.heap.size=0+0*i.size;rw[Ah,Bqv],fun j h5 h6=>by simp at h5 h6,fun e' he'=>?_⟩;cases he';exact⟨rfl,_,by simp only[World.shape?,Bqw];rfl⟩
def HR.Bkx(h:HR nm B g w X)(hl:Y.live=X.live)(ho:∀j o,Y.objs.lookup j=some o→∃o',X.objs.lookup j=some o'∧(Ce g w (g.ρ j) o'→Ce g w (g.ρ j) o))
  (hk:∀j∈nm,(Y.objs.lookup j).isSome):HR nm B g w Y:=by
 refine⟨fun j hj=>⟨(h.Cc j hj).1,hk j hj⟩,h.Iw,h.base,h.io,h.le,h.frame,?_,?_,?_,?_,fun n=>by rw[hl];exact h.live n,h.Cq,?_,h.D0,h.D9,h.eta.same (Bno _) fun j o hj=>let ⟨o',h1,_⟩:=ho j o hj;⟨o',h1⟩⟩
 ·intro j o hj;obtain⟨o',h1,h2⟩:=ho j o hj;exact h2 (h.objs j o' h1)
 ·intro j o hj;obtain⟨o',h1,h2⟩:=ho j o hj;exact h.Fi j o' h1
 ·intro j j' o o' hj H7 he;obtain⟨p,h1,_⟩:=ho j o hj;obtain⟨p',h1',_⟩:=ho j' o' H7;exact h.C1 j j' p p' h1 h1' he
 ·intro j o hj;obtain⟨o',h1,h2⟩:=ho j o hj;exact h.Cf j o' h1
 ·intro n b j o hn hj;obtain⟨o',h1,h2⟩:=ho j o hj;exact h.Bz n b j o' hn h1
section
variable{P:Program}{o:Oper}{X:Ad}
end
open Go Go.RowKit
section
variable{P:Program}{o:Oper}{X:Ad}
end
section
variable{P:Program}{o:Oper}{X:Ad}
end
def J7.sub(h:J7 B g w X)
  (hη:∀L i b,(g'.β L).isSome→g'.η L i=some b→(g.β L).isSome∧g.η L i=some b) (hs:w.heap.size≤w'.heap.size)
  (Ag7:∀n b,g'.β n=some (some b)→g.β n=some (some b))
  (A2k:∀k o,X'.objs.lookup k=some o→∃o',X.objs.lookup k=some o'∧g'.ρ k=g.ρ k):J7 B g' w' X':=by
 refine⟨?_,?_,?_,?_,?_⟩
 ·intro L L' i i' b hL hL' hb Iy;obtain⟨a1,a2⟩:=hη L i b hL hb;obtain⟨a3,a4⟩:=hη L' i' b hL' Iy;exact h.inj L L' i i' b a1 a3 a2 a4
 ·intro L i b n hL hb hn;obtain⟨a1,a2⟩:=hη L i b hL hb;exact h.Cv L i b n a1 a2 (Ag7 n b hn)
 ·intro L i b k o hL hb hk he;obtain⟨a1,a2⟩:=hη L i b hL hb;obtain⟨o',h1,h2⟩:=A2k k o hk;exact h.obj L i b k o' a1 a2 h1 (he.trans h2)
 ·intro L i b hL hb;obtain⟨a1,a2⟩:=hη L i b hL hb;exact h.new L i b a1 a2
 ·intro L i b hL hb;obtain⟨a1,a2⟩:=hη L i b hL hb;exact Bp7 (h.lt L i b a1 a2) hs
def Zw(k L:Nat)(X:Ad):Prop:=∀j o,j≠k→X.objs.lookup j=some o→Fk [L] o=true
def Y8{l:A6 (Nat×Ob)}(hk:l.lookup k=some o){p:Ob}(hj:(setObj k o' l).lookup j=some p):∃q,l.lookup j=some q:=by
 rw[B5]at hj;split at hj
 ·rename_i he;subst he;exact⟨o,hk⟩
 ·exact⟨p,hj⟩
def HR.B7v(h:HR nm B g w X){L:Nat}(hk:X.objs.lookup k=some o)(Ql:Zw k L X)(e:Nat→A7 Nat)
  (hE:J7 B { g with η:=O3 g.η L e } w ⟨setObj k o' X.objs,X.live⟩)
  (A7o:Trans [L] g w { g with η:=O3 g.η L e } w→Ce { g with η:=O3 g.η L e } w (g.ρ k) o') :
  HR nm B { g with η:=O3 g.η L e } w ⟨setObj k o' X.objs,X.live⟩∧Trans [L] g w { g with η:=O3 g.η L e } w:=by
 have ht:Trans [L] g w { g with η:=O3 g.η L e } w:=⟨.refl _ _,fun _ _=>rfl,fun n ob _ he=>⟨he,fun _ _=>⟨rfl,rfl⟩⟩,fun L' hL' _=>⟨Ai _ _ (by simpa using hL'),fun _ _ _=>⟨rfl,rfl⟩⟩⟩;have N2:∀j p,(setObj k o' X.objs).lookup j=some p→∃q,X.objs.lookup j=some q:=fun j p hj=>Y8 hk hj
 refine⟨⟨?_,h.Iw,h.base,h.io,h.le,h.frame,?_,?_,?_,?_,h.live,h.Cq,?_,h.D0,h.D9,hE⟩,ht⟩
 ·intro j hj;obtain⟨h1,h2⟩:=h.Cc j hj;refine⟨h1,?_⟩;simp only[B5];split
  ·rfl
  ·exact h2
 ·intro j p hj;simp only[B5]at hj;split at hj
  ·rename_i he;cases hj;subst he;exact A7o ht
  ·rename_i he;exact(h.objs j p hj).Cc ht rfl (.inr (Ql j p he hj))
 ·intro j p hj;obtain⟨q,hq⟩:=N2 j p hj;exact h.Fi j q hq
 ·intro j j' p p' hj H7 he;obtain⟨q,hq⟩:=N2 j p hj;obtain⟨q',hq'⟩:=N2 j' p' H7;exact h.C1 j j' q q' hq hq' he
 ·intro j p hj;obtain⟨q,hq⟩:=N2 j p hj;exact h.Cf j q hq
 ·intro n b j p hn hj;obtain⟨q,hq⟩:=N2 j p hj;exact h.Bz n b j q hn hq
def Acd.eta{L i:Nat}{e:Nat→A7 Nat}(h:Acd g w L i sz v)(he:e i=g.η L i):Acd { g with η:=O3 g.η L e } w L i sz v:=by
 unfold Acd at h⊢;split at h
 ·exact⟨h.1,by simp only[Ah,he];exact h.2.1,h.2.2⟩
 ·trivial
abbrev B7w:Type:=Nat×Value×Bool×A6 (A6 D)
abbrev B3z:Type:=A6 B7w
def Au0(l l':B3z):Prop:=l'.length=l.length∧∀(j:Nat) (x':B7w),l'[j]? = some x'→∃x:B7w,l[j]? = some x∧x'.1=x.1∧x'.2.1=x.2.1∧x'.2.2.2=x.2.2.2
variable{l':B3z}
def Au0.Apk{l:B3z}(h:Au0 l l'):l'.map (·.1)=l.map (·.1):=by
 apply Bqy;intro i;rw[Bni,Bni];by_cases hi:i<l'.length
 ·obtain⟨x,h1,h2,_⟩:=h.2 i l'[i] (by simp[hi]);rw[h1,Bng hi];simp[h2]
 ·rw[Bpo (by omega),Bpo (by have:=h.1;omega)]
def HR.Bi8(h:HR nm B g w X){L i c:Nat}{l:B3z}(hk:X.objs.lookup k=some (.Cx L sz l c))(Ql:Zw k L X)
  (hs:Au0 l l') (hl':∀(j:Nat) (x' x:B7w),l'[j]? = some x'→l[j]? = some x→x'.2.2.1=true→x.2.2.1=true∧x.1≠i) :
  HR nm B { g with η:=O3 g.η L (O3 (g.η L) i none) } w ⟨setObj k (.Cx L sz l' c) X.objs,X.live⟩∧Trans [L] g w { g with η:=O3 g.η L (O3 (g.η L) i none) } w:=by
 refine h.B7v hk Ql _ (h.eta.sub ?_ (Bno _) (fun n b hn=>hn) ?_) ?_
 ·intro L' i' b hL hb;refine⟨hL,?_⟩;simp only at hb;by_cases he:L'=L
  ·subst he;rw[Ah]at hb;by_cases hi:i'=i
   ·subst hi;rw[Ah]at hb;cases hb
   ·rwa [Ai _ _ hi]at hb
  ·rwa [Ai _ _ he]at hb
 ·intro j o hj;obtain⟨q,hq⟩:=Y8 hk hj;exact⟨q,hq,rfl⟩
 ·intro ht;have h0:=h.objs k _ hk;cases h0 with
  |Cx _ _ _ _ es h1 h2 h3 h4 h5 =>
   refine .Cx L sz l' c es h1 (hs.1.trans h2) ?_ ?_ (by rw[hs.Apk];exact h5)
   ·intro j x' e hx he;obtain⟨x,hx0,a1,a2,a3⟩:=hs.2 j x' hx;obtain⟨b1,b2,b3,b4⟩:=h3 j x e hx0 he;refine⟨b1.trans a1.symm,b2.trans a2.symm,by rw[a3];exact b3,fun hf hL=>?_⟩;obtain⟨c1,c2⟩:=hl' j x' x hx hx0 hf;rw[a1];exact(b4 c1 hL).eta (Ai _ _ c2)
   ·intro p hp;have:p.1∈l.map (·.1):=by rw[← hs.Apk];exact Bnr (f:=(·.1)) hp
    obtain⟨q,hq,he⟩:=Bnp.1 this;rw[← he];exact h4 q hq
def Bi9(B:B8)(g:Gh)(w:World)(X:Ad)(b:Nat):Prop :=
 b<w.heap.size∧(B.n0≤b∨B.allowed b)∧(∀k o,X.objs.lookup k=some o→b≠g.ρ k)∧(∀n,g.β n≠some (some b))∧∀L i,(g.β L).isSome→g.η L i≠some b
def HR.Bia(h:HR nm B g w X){L i c:Nat}{ob:A7 Nat}{l:B3z}(hk:X.objs.lookup k=some (.Cx L sz l c))(Ql:Zw k L X)
  (hb:∀b,ob=some b→Bi9 B g w X b)
  (hs:Au0 l l') (hl':∀(j:Nat) (x' x:B7w),l'[j]? = some x'→l[j]? = some x→x'.2.2.1=true→(x.2.2.1=true∧x.1≠i)∨(x.1=i∧∀C5 e,w.heap[g.ρ k]? = some (.map C5 c)→C5[j]? = some e→Acd { g with η:=O3 g.η L (O3 (g.η L) i ob) } w L i sz e.val)) :
  HR nm B { g with η:=O3 g.η L (O3 (g.η L) i ob) } w ⟨setObj k (.Cx L sz l' c) X.objs,X.live⟩∧Trans [L] g w { g with η:=O3 g.η L (O3 (g.η L) i ob) } w:=by
 have old:∀L' i' b,O3 g.η L (O3 (g.η L) i ob) L' i'=some b→(L'=L∧i'=i∧ob=some b)∨(¬(L'=L∧i'=i)∧g.η L' i'=some b):=by
  intro L' i' b he;by_cases hL:L'=L
  ·subst hL;rw[Ah]at he;by_cases hi:i'=i
   ·subst hi;rw[Ah]at he;exact .inl ⟨rfl,rfl,he⟩
   ·rw[Ai _ _ hi]at he;exact .inr ⟨fun hh=>hi hh.2,he⟩
  ·rw[Ai _ _ hL]at he;exact .inr ⟨fun hh=>hL hh.1,he⟩
 refine h.B7v hk Ql _ ⟨?_,?_,?_,?_,?_⟩ ?_
 ·intro L1 L2 i1 i2 b h1 h2 e1 e2;rcases old L1 i1 b e1 with ⟨a1,a2,a3⟩|⟨a1,a2⟩<;>rcases old L2 i2 b e2 with ⟨c1,c2,c3⟩|⟨c1,c2⟩
  ·exact⟨a1.trans c1.symm,a2.trans c2.symm⟩
  ·exact((hb b a3).2.2.2.2 L2 i2 h2 c2).elim
  ·exact((hb b c3).2.2.2.2 L1 i1 h1 a2).elim
  ·exact h.eta.inj L1 L2 i1 i2 b h1 h2 a2 c2
 ·intro L1 i1 b n h1 e1 hn;rcases old L1 i1 b e1 with ⟨a1,a2,a3⟩|⟨a1,a2⟩
  ·exact(hb b a3).2.2.2.1 n hn
  ·exact h.eta.Cv L1 i1 b n h1 a2 hn
 ·intro L1 i1 b j o h1 e1 hj;obtain⟨q,hq⟩:=Y8 hk hj;rcases old L1 i1 b e1 with ⟨a1,a2,a3⟩|⟨a1,a2⟩
  ·exact(hb b a3).2.2.1 j q hq
  ·exact h.eta.obj L1 i1 b j q h1 a2 hq
 ·intro L1 i1 b h1 e1;rcases old L1 i1 b e1 with ⟨a1,a2,a3⟩|⟨a1,a2⟩
  ·exact(hb b a3).2.1
  ·exact h.eta.new L1 i1 b h1 a2
 ·intro L1 i1 b h1 e1;rcases old L1 i1 b e1 with ⟨a1,a2,a3⟩|⟨a1,a2⟩
  ·exact(hb b a3).1
  ·exact h.eta.lt L1 i1 b h1 a2
 ·intro ht;have h0:=h.objs k _ hk;cases h0 with
  |Cx _ _ _ _ es h1 h2 h3 h4 h5 =>
   refine .Cx L sz l' c es h1 (hs.1.trans h2) ?_ ?_ (by rw[hs.Apk];exact h5)
   ·intro j x' e hx he;obtain⟨x,hx0,a1,a2,a3⟩:=hs.2 j x' hx;obtain⟨b1,b2,b3,b4⟩:=h3 j x e hx0 he;refine⟨b1.trans a1.symm,b2.trans a2.symm,by rw[a3];exact b3,fun hf hL=>?_⟩;rw[a1];rcases hl' j x' x hx hx0 hf with ⟨c1,c2⟩|⟨c1,c2⟩
    ·exact(b4 c1 hL).eta (Ai _ _ c2)
    ·rw[c1];exact c2 es e h1 he
   ·intro p hp;have:p.1∈l.map (·.1):=by rw[← hs.Apk];exact Bnr (f:=(·.1)) hp
    obtain⟨q,hq,he⟩:=Bnp.1 this;rw[← he];exact h4 q hq
def Uf(sz:Nat)(l:B3z):A6 (Nat×Value×D):=l.map fun e=>(e.1,e.2.1,.sl sz e.2.2.2)
def HR.plain(h:HR nm B g w X)(B7x:X'.live=X.live)(Uc:∀k,(X.objs.lookup k).isSome→(X'.objs.lookup k).isSome)
  (My:∀k o',X'.objs.lookup k=some o'→X.objs.lookup k=some o'∨∃L sz l c,X.objs.lookup k=some (.Cx L sz l c)∧o' = .map (Uf sz l) c):HR nm B g w X':=by
 have N2:∀j p,X'.objs.lookup j=some p→∃q,X.objs.lookup j=some q:=by intro j p hj;rcases My j p hj with h1|⟨L,sz,l,c,h1,_⟩<;>exact⟨_,h1⟩
 refine⟨?_,h.Iw,h.base,h.io,h.le,h.frame,?_,?_,?_,?_,by rw[B7x];exact h.live,h.Cq,?_,h.D0,h.D9,h.eta.same (Bno _) fun j p hj=>N2 j p hj⟩
 ·intro j hj;obtain⟨h1,h2⟩:=h.Cc j hj;exact⟨h1,Uc j h2⟩
 ·intro j p hj;rcases My j p hj with h1|⟨L,sz,l,c,h1,rfl⟩
  ·exact h.objs j p h1
  ·have h0:=h.objs j _ h1;cases h0 with
   |Cx _ _ _ _ es a1 a2 a3 a4 a5 =>
    refine .map _ c es a1 (by simpa[Uf]using a2) ?_ ?_ ?_
    ·intro i x e hx he;simp only[Uf,Bni,Bnn]at hx;obtain⟨y,hy,rfl⟩:=hx;obtain⟨b1,b2,b3,_⟩:=a3 i y e hy he;exact⟨b1,b2,b3⟩
    ·intro q hq;simp only[Uf,Bnp]at hq;obtain⟨y,hy,rfl⟩:=hq;exact a4 y hy
    ·simpa[Uf,Bq6,Bqr]using a5
 ·intro j p hj;obtain⟨q,hq⟩:=N2 j p hj;exact h.Fi j q hq
 ·intro j j' p p' hj H7 he;obtain⟨q,hq⟩:=N2 j p hj;obtain⟨q',hq'⟩:=N2 j' p' H7;exact h.C1 j j' q q' hq hq' he
 ·intro j p hj;obtain⟨q,hq⟩:=N2 j p hj;exact h.Cf j q hq
 ·intro n b j p hn hj;obtain⟨q,hq⟩:=N2 j p hj;exact h.Bz n b j q hn hq
section
variable{P:Program}{o:Oper}{X:Ad}
end
def Ug(w:World)(b:Nat):Nat :=
 match w.heap[b]? with
 |some (.cells c _ _)=>c.size
 |_=>0
def full(w:World):Gh:={ γ:=Ug w,β:=fun _=>none,ρ:=fun _=>0 }
def B1l(w:World):HR [] (B8.of (full w) w X0) (full w) w X0:=by
 refine⟨by simp,?_,Bno _,⟨rfl,rfl,rfl,Bno _⟩,.refl _ _,fun _ _ _=>⟨rfl,rfl⟩,by simp[X0],by simp[X0],by simp[X0],by simp[X0],by simp[X0,full],by simp[full],by simp[full],by simp[full],by simp[full],.off fun _=>rfl⟩;intro b i hi;simp only[full,Ug]at hi;split at hi
 ·rename_i c T fr h;rw[Cg h];simp[hi]
 ·omega
def Does.below(h:Does P f args X0 res X0)(hl:args.length=vs.size)
  (ha:∀(i:Nat) x v,args[i]? = some x→vs[i]? = some v→RA (full w) w x v) :
  Calls P f vs w fun e w'=>∃v g',e = .returned v∧RA g' w' res v∧Below w.heap.size w w':=by
 refine(h (full w) w vs (B1l w) hl ha).mono ?_;rintro e w' ⟨g',v,rfl,hr,h1⟩;refine⟨v,g',rfl,hr,⟨h1.io.1,h1.io.2.2.1,h1.io.2.1,h1.base,fun b hb=>(h1.frame b hb ?_).1⟩⟩;rintro (⟨k,o,hk,_⟩|⟨n,hn⟩)
 ·simp[X0]at hk
 ·simp[full]at hn
def Does.law(h:Does P f args X0 (.d (.sc (.bool true))) X0)(hl:args.length=vs.size)
  (ha:∀(i:Nat) x v,args[i]? = some x→vs[i]? = some v→RA (full w) w x v) :
  Calls P f vs w fun e w'=>e = .returned (.bool true)∧Below w.heap.size w w':=by
 refine(h.below hl ha).mono ?_;rintro e w' ⟨v,g',rfl,hr,hb⟩;exact⟨by rw[hr.Be],hb⟩
inductive RAs(g:Gh)(w:World):List AV→List Value→Prop
 |nil:RAs g w [] []
 |cons {x:AV} {v:Value} {r:List AV} {rs:List Value}:RA g w x v→RAs g w r rs→RAs g w (x::r) (v::rs)
def RAs.get{vs:A6 Value}(h:RAs g w l vs):l.length=vs.length∧∀(i:Nat) x v,l[i]? = some x→vs[i]? = some v→RA g w x v:=by
 induction h with
 |nil=>exact⟨rfl,by simp⟩
 |cons h _ ih =>
  refine⟨by simp[ih.1],?_⟩;intro i x u hx hu;cases i with
  |zero=>simp at hx hu;subst hx;subst hu;exact h
  |succ i=>exact ih.2 i x u (by simpa using hx) (by simpa using hu)
def Does.lawAs(h:Does P f args X0 (.d (.sc (.bool true))) X0)(ha:RAs (full w) w args vs.toList) :
  Calls P f vs w fun e w'=>e = .returned (.bool true)∧Below w.heap.size w w' :=
 h.law (by have:=ha.get.1;simpa using this) fun i x v hx hv=>ha.get.2 i x v hx (by simpa using hv)
def Au1{i:Nat}(h:w.cell? ⟨b,i,none⟩=some v):i<Ug w b:=by
 unfold World.cell? at h;unfold Ug;simp only at h;split at h
 ·rename_i c T fr hh;rw[hh];simp at h;exact(Bny.1 h).1
 ·cases h
open Go.Sort Go.Proofs
section
variable{P:Program}{o:Oper}{X:Ad}
def Ho{α:Type}{enc:α→A6 Value}(hk:∀x,(enc x).length=sz)(l:A6 α):(l.map enc).flatten.length=l.length*sz:=by
 induction l with
 |nil=>simp
 |cons x r ih=>simp only[Bnh,Bph,Bp4,ih,hk,Bnx,Bpx];omega
theorem Amy{α:Type}{sz:Nat}{enc:α→A6 Value}(hk:∀x,(enc x).length=sz):∀(l:A6 α) (j:Nat),(l.map enc).flatten[j]? = (l[j/sz]?).bind fun x=>(enc x)[j % sz]?
 |[],j=>by simp
 |x::r,j=>by
  have h0:=hk x;simp only[Bnh,Bph,Boz];by_cases hj:j<(enc x).length
  ·rw[Bo3 hj,Nat.div_eq_of_lt (by omega),Buf (by omega)];simp
  ·rw[Bnv hj,Amy hk r,h0];by_cases hz:sz=0
   ·subst hz;simp;have:∀y,enc y=[]:=fun y=>Brd (hk y)
    cases r<;>simp[this]
   ·have hle:sz≤j:=by omega
    rw[← Nat.sub_add_cancel hle];simp only[Bsx,Nat.add_mod_right,Nat.add_div_right _ (by omega:0<sz)];simp
def Acj{α:Type}[Inhabited α]{enc:α→A6 Value}(hk:∀x,(enc x).length=sz)(l:A6 α)(j:Nat)(hj:j<l.length*sz):(l.map enc).flatten[j]? = some (flatK enc sz l.toArray)[j]!:=by
 have hs:0<sz:=by
  rcases Bpl sz with h|h
  ·rw[h]at hj;omega
  ·exact h
 have h1:j/sz<l.length:=by rw[Bt9 hs];exact hj
 have h2:j % sz<sz:=Bt0 _ hs;rw[Amy hk,get_flatK enc sz _ _ (by simpa using hj)];have e1:l[j/sz]? = some l[j/sz]:=Bng h1;have e2:l.toArray[j/sz]! = l[j/sz]:=by rw[Bsw _ _ (by simpa using h1)];simp
 rw[e1,e2];simp only[Bnb];have h3:j % sz<(enc l[j/sz]).length:=by rw[hk];exact h2
 rw[Btc,Bng h3];rfl
def Bem{u:Value}(h:RA g w (.d (.sc v)) u):u=v:=by
 cases h with
 |d _ _ h=>cases h;rfl
def B7y{α:Type}[Inhabited α]{c:FuncId}{enc:α→A6 Value}(hk:∀x,(enc x).length=sz){l:A6 α}(φ:A6 α→A6 α)
  (ho:o.op = .call { callee:=.value (.func f),args:=#[s,x],argTypes:=ts }) (hf:F6 P f) (P7:X.objs.lookup k=some (.cells ((l.map enc).flatten.map fun v=>.d (.sc v)) ty)) (hlen:len≤l.length) (hφ:∀d,(φ d).length=d.length)
  (hN:∀p cap w,Calls P f #[.slice p 0 cap,.func (.func c) #[] #[]] w fun e w'=>e = .returned (.tuple #[])∧w'=w)
  (hC:∀blk cap w,HoldsK enc sz w blk 0 (l.take len).toArray→blk<w.heap.size→Calls P f #[.slice (some ⟨blk,0,none⟩) len cap,.func (.func c) #[] #[]] w fun e w'=>e = .returned (.tuple #[])∧∃n os,w'=sortWorldK enc sz w blk 0 n (φ (l.take len)).toArray os) :
  Ca P o [(s,.osl k 0 len sz),(x,.Ek c [])] X ⟨setObj k (.cells (((φ (l.take len)++l.drop len).map enc).flatten.map fun v=>.d (.sc v)) ty) X.objs,X.live⟩ [] (.Er []):=by
 intro nm G3 B g w a hr Bg next Q Gu
 have e1:=Lz Bg;have e2:=Bg (x,.Ek c []) (by simp);simp only at e1 e2;obtain⟨cap,q,Yw,hv,hq,T,c',hsh,hc⟩:=e1.T6;generalize hfv:a.eval x=fv at e2;cases e2 with
 |Ek _ _ vs hl0 _ =>
 have Qx:vs=#[]:=by apply Bos;rw[← hl0];rfl
 subst Qx;unfold Oper.wp;have Fj:(execOp a.eval o).run P w = .ok (.enter f #[.slice (some ⟨g.ρ k,q,none⟩) len cap,.func (.func c) #[] #[]]) w:=by
  have h1:(execOp a.eval o).run P w = .ok (.enter f (#[s,x].map a.eval)) w:=by simp only[execOp,ho,resolve];simp[Act.eval,Deferred.ofValue,invoke,Dl hf]
  rw[h1];have h2:#[s,x].map a.eval=#[.slice (some ⟨g.ρ k,q,none⟩) len cap,.func (.func c) #[] #[]]:=by
   have h3:#[s,x].map a.eval=#[a.eval s,a.eval x]:=by simp only[Brz,Bnh,Bo8]
   rw[h3,hv,hfv]
  rw[h2]
 rw[Fj];cases hr.objs k _ P7 with
 |cells _ _ arr T' hb hl hcc hty =>
 have hval:∀(j:Nat) (v:Value),(l.map enc).flatten[j]? = some v→arr[j]? = some v:=by
  intro j v hj;have By:j<arr.size:=by have:=(Bnj.1 hj).1;rw[Bo1]at hl;omega
  have hr':=hcc j (.d (.sc v)) arr[j] (by rw[Bni,hj];rfl) (by simp[By]);rw[← Bem hr'];simp[By]
 have Jq:(l.map enc).flatten.length=l.length*sz:=Ho hk l;have Apl:l.length*sz≤arr.size:=by rw[← Jq];rw[Bo1]at hl;exact hl
 by_cases B7z:len=0
 ·subst B7z;refine(hN _ _ _).mono ?_;rintro e w' ⟨rfl,rfl⟩;have he:φ (l.take 0)++l.drop 0=l:=by have:φ (l.take 0)=[]:=Brd (by rw[hφ];simp);rw[this];simp
  rw[he]at Gu;obtain⟨hw1,hw2⟩:=hr.write P7 (w':=w') (o':=.cells ((l.map enc).flatten.map fun v=>.d (.sc v)) ty) rfl ⟨rfl,rfl,rfl,Bno _⟩ (fun _ _=>rfl) (fun _=>.cells _ _ arr T' hb hl hcc hty) (fun s h=>h);exact Gu g w' _ hw1 hw2 (.Er _ _ rfl (by simp))
 ·have hq0:q=0:=hq.resolve_left (by omega);subst hq0;have Bn7:g.ρ k<w.heap.size:=Gt (hr.objs k _ P7);have hd:(l.take len).length=len:=by simp;omega
  have hH:HoldsK enc sz w (g.ρ k) 0 (l.take len).toArray:=by
   intro j hj;have H7:j<len*sz:=by rw[size_flatK]at hj;simpa[Buj hlen]using hj
   have hfl:((l.take len).map enc).flatten[j]? = (l.map enc).flatten[j]?:=by
    have:(l.map enc).flatten=((l.take len).map enc).flatten++((l.drop len).map enc).flatten:=by rw[← Br4,← Bo4,Bqs]
    rw[this,Bqm (by rw[Ho hk,hd];exact H7)]
   have:=Acj hk (l.take len) j (by rw[hd];exact H7);rw[hfl]at this;have h3:=hval j _ this;constructor
   ·rw[Cg hb,Bog,h3];rfl
   ·simp[World.frozen?,hb]
  refine(hC _ cap w hH Bn7).mono ?_;rintro e w' ⟨rfl,n,os,rfl⟩;generalize hd':(φ (l.take len)).toArray=d';have B40:d'.size=len:=by rw[← hd'];simp[hφ,hd]
  have A9x:(φ (l.take len)++l.drop len).length=l.length:=by simp[hφ];omega
  let Dq:=putCells id 0 (flatK enc sz d') arr;have Iy:(putRowK enc sz (Sort.ahead w n) (g.ρ k) 0 d').heap[g.ρ k]? = some (.cells Dq T' (0,0)):=by simp only[putRowK,putRow,mapBlock,Bq7,Btd,hb];simp[onCells,Dq]
  have Au2:Dq.size=arr.size:=by simp[Dq,putCells]
  have Mi:∀j (hj:j<arr.size),Dq[j]? = some (if j<len*sz then (flatK enc sz d')[j]! else arr[j]):=by intro j hj;simp only[Dq,putCells,Buq,Bob hj,Bol,size_flatK,B40,Bq9,Bsy,Bog,Bpy,id]
  have hwr:HR nm B g (putRowK enc sz (Sort.ahead w n) (g.ρ k) 0 d') ⟨setObj k (.cells (((φ (l.take len)++l.drop len).map enc).flatten.map fun v=>.d (.sc v)) ty) X.objs,X.live⟩∧Trans [] g w g (putRowK enc sz (Sort.ahead w n) (g.ρ k) 0 d'):=by
   refine hr.write P7 (by simp[putRowK]) ⟨rfl,rfl,rfl,by simp[putRowK]⟩ (fun b B80=>?_) (fun _=>?_) (fun s hs=>?_)
   ·simp only[putRowK,putRow,mapBlock,Bq7,Btd];rw[Bnv (Bq5 B80)]
   ·refine .cells _ _ Dq T' Iy (by rw[Au2];simp only[Bo1];rw[Ho hk,A9x];exact Apl) ?_ hty;intro j y v hy hv';rw[Bni,Bnn]at hy;obtain⟨u,hu,rfl⟩:=hy;have Bby:j<l.length*sz:=by have:=(Bnj.1 hu).1;rw[Ho hk,A9x]at this;exact this
    have hja:j<arr.size:=by omega
    rw[Mi j hja]at hv';simp only[Bnf]at hv';rw[Bo4,Br4]at hu;have hl1:((φ (l.take len)).map enc).flatten.length=len*sz:=by rw[Ho hk,hφ,hd]
    rw[Boz,hl1]at hu;by_cases hj:j<len*sz
    ·rw[Bo3 hj]at hu hv';rw[Acj hk _ _ (by rw[hφ,hd];exact hj),hd']at hu;simp only[Bnf]at hu;rw[← hv',hu];exact .d _ _ (.sc _)
    ·rw[Bnv hj]at hu hv';have h4:(l.map enc).flatten[j]? = some u:=by
      have:(l.map enc).flatten=((l.take len).map enc).flatten++((l.drop len).map enc).flatten:=by rw[← Br4,← Bo4,Bqs]
      rw[this,Bqi (by rw[Ho hk,hd];omega),Ho hk,hd];exact hu
     have h5:=hval j u h4;rw[Bob hja]at h5;simp only[Bnf]at h5;rw[← hv',h5];exact .d _ _ (.sc _)
   ·simp only[World.shape?,hb]at hs;simp only[World.shape?,Iy,Au2];exact hs
  obtain⟨h6,h7⟩:=hwr;have Au3:HR nm B g (sortWorldK enc sz w (g.ρ k) 0 n d' os) _∧Trans [] g (putRowK enc sz (Sort.ahead w n) (g.ρ k) 0 d') g (sortWorldK enc sz w (g.ρ k) 0 n d' os) :=
   h6.grow (by simp[sortWorldK]) (fun b hbl=>heap_grow_old _ _ hbl) ⟨rfl,rfl,rfl,Bno _⟩
  exact Gu g _ _ Au3.1 (h7.trans Au3.2) (.Er _ _ rfl (by simp))
def Aey{c:FuncId}(ho:o.op = .call { callee:=.value (.func f),args:=#[s,x],argTypes:=ts })(hf:F6 P f)
  (hN:∀p cap w,Calls P f #[.slice p 0 cap,.func (.func c) #[] #[]] w fun e w'=>e = .returned (.tuple #[])∧w'=w) :
  Ca P o [(s,.d (.sl sz [])),(x,.Ek c [])] X X [] (.Er []):=by
 intro nm G3 B g w a hr Bg next Q Gu
 have e1:=Lz Bg;have e2:=Bg (x,.Ek c []) (by simp);simp only at e1 e2;have hv:∃p cap,a.eval s = .slice p 0 cap:=by
  generalize a.eval s=v at e1;cases e1 with
  |d _ _ h =>
   cases h with
   |nil=>exact⟨_,_,rfl⟩
   |sl _ _ b off len cap hl=>subst hl;exact⟨_,_,rfl⟩
 obtain⟨p,cap,hv⟩:=hv;generalize hfv:a.eval x=fv at e2;cases e2 with
 |Ek _ _ vs hl0 _ =>
 have Qx:vs=#[]:=by apply Bos;rw[← hl0];rfl
 subst Qx;unfold Oper.wp;have Fj:(execOp a.eval o).run P w = .ok (.enter f #[.slice p 0 cap,.func (.func c) #[] #[]]) w:=by
  have h1:(execOp a.eval o).run P w = .ok (.enter f (#[s,x].map a.eval)) w:=by simp only[execOp,ho,resolve];simp[Act.eval,Deferred.ofValue,invoke,Dl hf]
  rw[h1];have h2:#[s,x].map a.eval=#[.slice p 0 cap,.func (.func c) #[] #[]]:=by
   have h3:#[s,x].map a.eval=#[a.eval s,a.eval x]:=by simp only[Brz,Bnh,Bo8]
   rw[h3,hv,hfv]
  rw[h2]
 rw[Fj];refine(hN _ _ _).mono ?_;rintro e w' ⟨rfl,rfl⟩;exact Gu g w' _ hr (.refl _ _ _) (.Er _ _ rfl (by simp))
def Does.grown{rv:Value}(h:Does P f args X0 (.d (.sc rv)) X0)(hl:args.length=vs.size)
  (ha:∀(i:Nat) x v,args[i]? = some x→vs[i]? = some v→RA (full w) w x v) :
  Calls P f vs w fun e w'=>e = .returned rv∧∃q os',w'=Sort.grow (w.drewN q) os':=by
 refine(h (full w) w vs (B1l w) hl ha).mono ?_;rintro e w' ⟨g',v,rfl,hr,h1⟩;rw[Bem hr];refine⟨rfl,w'.drawn-w.drawn,w'.heap.extract w.heap.size w'.heap.size,?_⟩;have hna:∀b,¬(B8.of (full w) w X0).allowed b:=by
  rintro b (⟨k,o,hk,_⟩|⟨n,hn⟩)
  ·simp[X0]at hk
  ·simp[full]at hn
 have hb:w.heap.size≤w'.heap.size:=h1.base;have Ben:w'.heap=w.heap++w'.heap.extract w.heap.size w'.heap.size:=by
  apply Array.ext_getElem?;intro b;rw[Brq];split
  ·rename_i By;exact(h1.frame b By (hna b)).1
  ·rename_i hge;simp only[Brk];split
   ·congr 1;omega
   ·rw[Bqd];omega
 have hio:=h1.io;have hd:w.drawn+(w'.drawn-w.drawn)=w'.drawn:=Nat.add_sub_cancel' hio.2.2.2;obtain⟨hp,tp,dr,os,ou⟩:=w';obtain⟨hp0,tp0,dr0,os0,ou0⟩:=w;simp only at Ben hd⊢;obtain⟨i1,i2,i3,_⟩:=hio;change os=os0 at i1;change ou=ou0 at i2;change tp=tp0 at i3;subst i1 i2 i3;unfold Sort.grow World.drewN;simp only[hd];rw[← Ben]
end
end Go.Ab
