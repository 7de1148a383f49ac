import Derived.Test.YtdofeahkajcpbaaGreatDoorZd
import Derived.KernelRfl
import Derived.Test.YtdofeahkajcpbaaGreatDoorZc
import Derived.Shelf.Strings.Builder2
import Derived.Test.YtdofeahkajcpbaaGreatDoorZa
set_option linter.unusedVariables false
set_option maxRecDepth 100000
set_option maxRecDepth 1000000
set_option linter.unusedSimpArgs false
set_option linter.unnecessarySimpa false
open Go.IntKind (i64 u64 u16)
open Go.Proofs.Tryz
noncomputable section
namespace Go.Proofs.Xg
open Go Go.Xl Go.Ab Go.Proofs
@[reducible] def tepitaphlaw18Act:Ty:=(.pair .u8 (.pair A5 (.sl B2)))
@[reducible] def Ax:Ty:=(.pair (.sl B2) (.sl A5))
def Kc(N:Nat):C1 [(.sl Bd)] (A3 (B6 [(.sl Bd)])):=fun(x:Bsh)=>iter (fun(rec:Bs7×Unit×Bs9×Unit→A3 Bsh) (z:Bs7×Unit×Bs9×Unit)=>A4 z.2.2.1.1 (bif decide (z.1.1<(↑x.length:Int))then (at? x z.1.1).bind
 fun(e:Bs3)=>bif decide (0<e.1)then bif decide (e.1≤e.2)then bif decide (e.2≤281474976710655)then rec ((i64.wrap (z.1.1+1),()),(),(some ([e],[e].length),()),())else rec ((i64.wrap
 (z.1.1+1),()),(),(none,()),())else rec ((i64.wrap (z.1.1+1),()),(),(none,()),())else rec ((i64.wrap (z.1.1+1),()),(),(none,()),())else iter (fun(rec:Bs7×Unit×Bsm×Unit→A3 Bsh)
 (z:Bs7×Unit×Bsm×Unit)=>A4 z.2.2.1.1 (A4 z.2.2.1.2.1 (bif decide (z.1.1<0)then none else some []) fun(y:A2 Bs3×Nat)=>bif decide (z.1.1<0)then bif decide (0≤z.1.1)&&decide (z.1.1<(↑y.2:Int))then y.1[0+z.1.1.toNat]?.bind
 fun(e:Bs3)=>rec ((i64.wrap (z.1.1+1),()),(),(some ([e],[e].length),some y,()),())else none else some []) fun(y:A2 Bs3×Nat)=>A4 z.2.2.1.2.1 (bif decide (z.1.1<0)then none else bif bif (0+y.2).ble y.1.length
 then true else false then some (List.take y.2 (List.drop 0 y.1))else none) fun(Bn:A2 Bs3×Nat)=>bif decide (z.1.1<0)then bif decide (0≤z.1.1)&&decide (z.1.1<(↑Bn.2:Int))then Bn.1[0+z.1.1.toNat]?.bind fun(e:Bs3)=>bif
 decide (0≤i64.wrap ((↑y.2:Int)-1))then bif decide (0≤i64.wrap ((↑y.2:Int)-1))&&decide (i64.wrap ((↑y.2:Int)-1)<(↑y.2:Int))then y.1[0+(i64.wrap ((↑y.2:Int)-1)).toNat]?.bind
 fun(Cr:Bs3)=>bif decide (e.1≤u64.wrap (Cr.2+1))then bif decide (0≤i64.wrap ((↑y.2:Int)-1))&&decide (i64.wrap ((↑y.2:Int)-1)<(↑y.2:Int))then y.1[0+(i64.wrap ((↑y.2:Int)-1)).toNat]?.bind
 fun(e_2:Bs3)=>bif decide (0≤i64.wrap ((↑y.2:Int)-1))&&decide (i64.wrap ((↑y.2:Int)-1)<(↑y.2:Int))then y.1[0+(i64.wrap ((↑y.2:Int)-1)).toNat]?.bind fun(e_3:Bs3)=>rec ((i64.wrap
 (z.1.1+1),()),(),(some (y.1.set (0+(i64.wrap ((↑y.2:Int)-1)).toNat) (e_3.1,bif false then if e.2<e_2.2 then e.2 else e_2.2 else if e.2>e_2.2 then e.2 else e_2.2),y.2),some Bn,()),())else none else none else bif
 y.1.length.beq y.2 then bif Aw (y.2 + [e].length) 16 then rec ((i64.wrap (z.1.1+1),()),(),(some (y.1++[e],y.2 + [e].length),some Bn,()),())else none else none else none else bif y.1.length.beq y.2 then bif Aw
 (y.2 + [e].length) 16 then rec ((i64.wrap (z.1.1+1),()),(),(some (y.1++[e],y.2 + [e].length),some Bn,()),())else none else none else none else bif bif (0+y.2).ble y.1.length then true else false then some
 (List.take y.2 (List.drop 0 y.1))else none) N ((0,()),(),(none,none,()),())) fun(y:A2 Bs3×Nat)=>bif decide (z.1.1<(↑x.length:Int))then (at? x z.1.1).bind fun(e:Bs3)=>bif decide (0<e.1)then bif decide (e.1≤e.2)then bif
 decide (e.2≤281474976710655)then bif y.1.length.beq y.2 then bif Aw (y.2 + [e].length) 16 then rec ((i64.wrap (z.1.1+1),()),(),(some (y.1++[e],y.2 + [e].length),()),())else none else none else rec
 ((i64.wrap (z.1.1+1),()),(),(some y,()),())else rec ((i64.wrap (z.1.1+1),()),(),(some y,()),())else rec ((i64.wrap (z.1.1+1),()),(),(some y,()),())else bif y.2.ble y.1.length then bif y.2.ble
 4611686018427387903 then iter (fun(rec:Bs7×Unit×Bsm×Unit→A3 Bsh) (z:Bs7×Unit×Bsm×Unit)=>A4 z.2.2.1.1 (A4 z.2.2.1.2.1 (bif decide (z.1.1<(↑y.2:Int))then none else some []) fun(Bn:A2 Bs3×Nat)=>bif decide
 (z.1.1<(↑y.2:Int))then bif decide (0≤z.1.1)&&decide (z.1.1<(↑Bn.2:Int))then Bn.1[0+z.1.1.toNat]?.bind fun(e:Bs3)=>rec ((i64.wrap (z.1.1+1),()),(),(some ([e],[e].length),some Bn,()),())else none else some [])
 fun(Bn:A2 Bs3×Nat)=>A4 z.2.2.1.2.1 (bif decide (z.1.1<(↑y.2:Int))then none else bif bif (0+Bn.2).ble Bn.1.length then true else false then some (List.take Bn.2 (List.drop 0 Bn.1))else none) fun(F7:A2 Bs3×Nat)=>bif
 decide (z.1.1<(↑y.2:Int))then bif decide (0≤z.1.1)&&decide (z.1.1<(↑F7.2:Int))then F7.1[0+z.1.1.toNat]?.bind fun(e:Bs3)=>bif decide (0≤i64.wrap ((↑Bn.2:Int)-1))then bif decide (0≤i64.wrap
 ((↑Bn.2:Int)-1))&&decide (i64.wrap ((↑Bn.2:Int)-1)<(↑Bn.2:Int))then Bn.1[0+(i64.wrap ((↑Bn.2:Int)-1)).toNat]?.bind fun(Cr:Bs3)=>bif decide (e.1≤u64.wrap (Cr.2+1))then bif decide
 (0≤i64.wrap ((↑Bn.2:Int)-1))&&decide (i64.wrap ((↑Bn.2:Int)-1)<(↑Bn.2:Int))then Bn.1[0+(i64.wrap ((↑Bn.2:Int)-1)).toNat]?.bind fun(e_2:Bs3)=>bif decide (0≤i64.wrap
 ((↑Bn.2:Int)-1))&&decide (i64.wrap ((↑Bn.2:Int)-1)<(↑Bn.2:Int))then Bn.1[0+(i64.wrap ((↑Bn.2:Int)-1)).toNat]?.bind fun(e_3:Bs3)=>rec ((i64.wrap (z.1.1+1),()),(),(some (Bn.1.set
 (0+(i64.wrap ((↑Bn.2:Int)-1)).toNat) (e_3.1,bif false then if e.2<e_2.2 then e.2 else e_2.2 else if e.2>e_2.2 then e.2 else e_2.2),Bn.2),some F7,()),())else none else none else bif Bn.1.length.beq Bn.2 then bif
 Aw (Bn.2 + [e].length) 16 then rec ((i64.wrap (z.1.1+1),()),(),(some (Bn.1++[e],Bn.2 + [e].length),some F7,()),())else none else none else none else bif Bn.1.length.beq Bn.2 then bif Aw (Bn.2 + [e].length) 16
 then rec ((i64.wrap (z.1.1+1),()),(),(some (Bn.1++[e],Bn.2 + [e].length),some F7,()),())else none else none else none else bif bif (0+Bn.2).ble Bn.1.length then true else false then some (List.take Bn.2
 (List.drop 0 Bn.1))else none) N ((0,()),(),(none,some (Dn (List.take y.2 y.1)++List.drop y.2 y.1,y.2),()),())else none else none) N ((0,()),(),(none,()),())
def A3a(N:Nat):=D7 [Vx N,Alo N] [34,75] N 101 (A1 (A1 (.seq (A1 (.blk (.loop ⟨[(12,.d A0)],[],[10,11],[],[(3,400003,Bd)],[]⟩ .lf))) (A1 (A1 (.seq (A1 (.blk (.loop ⟨[(40,.d A0)],[],[39],[],[(6,400006,Bd),(38,400038,Bd)],[]⟩ .lf))) .lf)))))) [(.sl Bd)] [(.sl Bd)] (Kc N) mixed func101 rfl (by decide) rfl (by kernel_rfl)
@[reducible] def A3b:Fg:=⟨[.p 1 777777777],[],[(1,.map (.int .u16) (.sl Bd))],⟨[(2,.d (.sl B2))],[],[],[1],[],[]⟩⟩
def Xo(N:Nat):Fg.C1 A3b (A3 A3b.out.T):=fun(l:A2 (Nat×Int×A2 Bs3)×Nat)=>iter (fun(rec:Unit×Unit×(A3 (A2 Bs6×Nat)×Unit)×Bsb×Unit→A3 ((A2 Bs6×Unit)×Unit×Unit×Unit)) (z:Unit×Unit×(Option
 (A2 Bs6×Nat)×Unit)×Bsb×Unit)=>A4 z.2.2.1.1 (bif Io z.2.2.2.1.1 z.2.2.2.1.2.2 l.1 then Ef (B4 z.2.2.2.1.2.1 l.1) (some (([],()),(),(),())) fun(e:Nat×Int×A2 Bs3)=>bif l.2.beq l.2 then A4 (Dg (z.2.2.2.1.2.1++[e.1]))
 none fun(p:A2 Nat×Nat)=>A4 (Cx (Ty.int u16) Bd.sl p.2 l.1) none fun(Cr:Nat×Int×A2 Bs3)=>Option.bind (Kc N Cr.2.2) fun(y:Bsh)=>bif decide (0<(↑y.length:Int))then rec ((),(),(some
 ([(Cr.2.1,y)],[(Cr.2.1,y)].length),()),(z.2.2.2.1.1,z.2.2.2.1.2.1++[e.1],l.2),())else rec ((),(),(none,()),(z.2.2.2.1.1,z.2.2.2.1.2.1++[e.1],l.2),())else none else none) fun(y:A2 Bs6×Nat)=>bif Io z.2.2.2.1.1
 z.2.2.2.1.2.2 l.1 then Ef (B4 z.2.2.2.1.2.1 l.1) (bif y.2.ble y.1.length then bif y.2.ble 4611686018427387903 then bif A39 (List.take y.2 y.1)then bif bif (0+y.2).ble (Ox (List.take y.2 y.1)++List.drop y.2 y.1).length
 then true else false then some ((List.take y.2 (List.drop 0 (Ox (List.take y.2 y.1)++List.drop y.2 y.1)),()),(),(),())else none else none else none else none) fun(e:Nat×Int×A2 Bs3)=>bif l.2.beq l.2 then A4 (Dg
 (z.2.2.2.1.2.1++[e.1])) none fun(p:A2 Nat×Nat)=>A4 (Cx (Ty.int u16) Bd.sl p.2 l.1) none fun(Cr:Nat×Int×A2 Bs3)=>Option.bind (Kc N Cr.2.2) fun(Bn:Bsh)=>bif decide (0<(↑Bn.length:Int))then bif y.1.length.beq
 y.2 then bif Aw (y.2 + [(Cr.2.1,Bn)].length) 32 then rec ((),(),(some (y.1++[(Cr.2.1,Bn)],y.2 + [(Cr.2.1,Bn)].length),()),(z.2.2.2.1.1,z.2.2.2.1.2.1++[e.1],l.2),())else none else none else rec ((),(),(some
 y,()),(z.2.2.2.1.1,z.2.2.2.1.2.1++[e.1],l.2),())else none else none) N ((),(),(none,()),(l.2,[],l.2),())
def Aw6(N:Nat):=M0 [A3a N,Vy N,Alp N] [23] N 61 (A1 (A1 (.seq (A1 (.blk (.loop ⟨[],[],[7],[1],[(3,400003,B2)],[(1007,.Jg 1)]⟩ .lf))) (.fz [3] .lf .lf)))) A3b (Xo N) mixed func61 rfl (by decide) rfl rfl rfl (by kernel_rfl)
@[reducible] def A8e:Fg:=⟨[.d (.sl B2)],[],[],⟨[(2,.p 1006 777777777)],[],[],[],[],[(1006,.map (.int .u16) (.sl Bd))]⟩⟩
def Rv(N:Nat):Fg.C1 A8e (A3 A8e.out.T):=fun(y:A2 Bs6)=>iter (fun(rec:Bs7×Unit×Unit×(A2 (Nat×Int×Bool×A2 Bs3)×Nat)×Unit→A3 (Bso×Unit×Unit×(A2 (Nat×Int×A2 Bs3)×Nat)×Unit))
 (z:Bs7×Unit×Unit×(A2 (Nat×Int×Bool×A2 Bs3)×Nat)×Unit)=>bif decide (z.1.1<(↑y.length:Int))then (at? y z.1.1).bind fun(e:Bs6)=>bif decide (0<e.1)then bif B7n (Ty.int u16) Bd e.1 z.2.2.2.1.1 then bif Aw ((B7m
 (Ty.int u16) Bd e.1 z.2.2.2.1.1).length+e.2.length) 16 then rec ((i64.wrap (z.1.1+1),()),(),(),(Bgt (Ty.int u16) Bd e.1 (B7m (Ty.int u16) Bd e.1 z.2.2.2.1.1++e.2) true z.2.2.2.1.2 (Bcz
 (Ty.int u16) Bd e.1 z.2.2.2.1.1),A2m (Ty.int u16) Bd.sl e.1 (Bgs (Ty.int u16) Bd (Bcz (Ty.int u16) Bd e.1 z.2.2.2.1.1)) z.2.2.2.1.2),())else none else none else rec ((i64.wrap
 (z.1.1+1),()),(),(),z.2.2.2.1,())else some (((),()),(),(),(Bgs (Ty.int u16) Bd z.2.2.2.1.1,z.2.2.2.1.2),())) N ((0,()),(),(),([],0),())
def Ajd(N:Nat):=M0 [] [6] N 62 (A1 (A1 (.fg (A1 (.blk (.loop ⟨[(9,.d A0)],[],[3,7,8],[],[],[(1006,.Ck 501006 (.int .u16) Bd)]⟩ .lf))) .lf))) A8e (Rv N) mixed func62 rfl (by decide) rfl rfl rfl (by kernel_rfl)
def Vz(N:Nat):C1 [(.sl B2)] (A3 (B6 [(.sl B2)])):=fun(x:A2 Bs6)=>Option.bind (Rv N x) fun(y:Bso×Unit×Unit×(A2 (Nat×Int×A2 Bs3)×Nat)×Unit)=>Option.bind (Xo N y.2.2.2.1) fun(y:(List
 Bs6×Unit)×Unit×Unit×Unit)=>some y.1.1
def Aje(N:Nat):=D7 [Aw6 N,Ajd N] [] N 23 .lf [(.sl B2)] [(.sl B2)] (Vz N) mixed func23 rfl (by decide) rfl (by kernel_rfl)
def Gz(N:Nat):C1 [(.sl Bd),(.sl Bd)] (A3 (B6 [.bool])):=fun(x C8:Bsh)=>bif (↑x.length:Int) != (↑C8.length:Int)then some false else iter (fun(rec:Bs7×Unit×Unit×Unit→A3 Bool)
 (z:Bs7×Unit×Unit×Unit)=>bif decide (z.1.1<(↑x.length:Int))then (at? x z.1.1).bind fun(e:Bs3)=>(at? C8 z.1.1).bind fun(Cr:Bs3)=>bif !(e.1==Cr.1&&e.2==Cr.2)then some false else rec ((i64.wrap
 (z.1.1+1),()),(),(),())else some true) N ((0,()),(),(),())
def Zh(N:Nat):=D7 [] [] N 110 (A1 (A1 (.seq (A1 (.blk (.loop ⟨[(13,.d A0)],[],[0,1,12],[],[],[]⟩ .lf))) .lf))) [(.sl Bd),(.sl Bd)] [.bool] (Gz N) mixed func110 rfl (by decide) rfl (by kernel_rfl)
def W0(N:Nat):C1 [B2,B2] (A3 (B6 [.bool])):=fun(x C8:Bs6)=>bif x.1==C8.1 then Option.bind (Gz N x.2 C8.2) fun(y:Bool)=>some y else some false
def Ajf(N:Nat):=D7 [Zh N] [] N 109 .lf [B2,B2] [.bool] (W0 N) mixed func109 rfl (by decide) rfl (by kernel_rfl)
@[reducible] def E4:Fg:=⟨[.d (.sl B2),.d (.sl B2),.Ff 109 []],[],[],⟨[(6,.d .bool)],[],[],[],[],[]⟩⟩
def E5(N:Nat):Fg.C1 E4 (A3 E4.out.T):=fun(y Bn:A2 Bs6)=>bif (↑y.length:Int) != (↑Bn.length:Int)then some ((false,()),(),(),())else iter (fun(rec:Bs7×Unit×Unit×Unit→A3 (Bsj×Unit×Unit×Unit))
 (z:Bs7×Unit×Unit×Unit)=>bif decide (z.1.1<(↑y.length:Int))then (at? y z.1.1).bind fun(e:Bs6)=>(at? Bn z.1.1).bind fun(Cr:Bs6)=>Option.bind (W0 N e Cr) fun(y:Bool)=>bif !y then some ((false,()),(),(),())else rec
 ((i64.wrap (z.1.1+1),()),(),(),())else some ((true,()),(),(),())) N ((0,()),(),(),())
def Nr(N:Nat):=M0 [Ajf N] [] N 108 (A1 (A1 (.seq (A1 (.blk (.loop ⟨[(17,.d A0)],[],[1,2,15,16],[],[],[]⟩ .lf))) .lf))) E4 (E5 N) mixed func108 rfl (by decide) rfl rfl rfl (by kernel_rfl)
def Ab8(N:Nat):C1 [(.sl B2),(.sl B2)] (A3 (B6 [.bool])):=fun(x C8:A2 Bs6)=>Option.bind (E5 N x C8) fun(y:Bsj×Unit×Unit×Unit)=>some y.1.1
def B9g(N:Nat):=D7 [Nr N,Ajf N] [] N 71 .lf [(.sl B2),(.sl B2)] [.bool] (Ab8 N) mixed func71 rfl (by decide) rfl (by kernel_rfl)
def Mk(N:Nat):C1 [(.sl B2)] (A3 (B6 [.bool])):=fun(x:A2 Bs6)=>Option.bind (Vz N x) fun(y:A2 Bs6)=>Option.bind (Ab8 N x y) fun(y:Bool)=>some y
def Azp(N:Nat):=D7 [Aje N,B9g N] [] N 28 .lf [(.sl B2)] [.bool] (Mk N) mixed func28 rfl (by decide) rfl (by kernel_rfl)
def Qv(N:Nat):C1 [Bd,(.int .u64)] (A3 (B6 [A0])):=fun(x:Bs3) (C8:Int)=>Option.bind (C7 N x.2 C8) fun(y:Int)=>some y
def Ab9(N:Nat):=D7 [F5 N] [] N 174 .lf [Bd,(.int .u64)] [A0] (Qv N) mixed func174 rfl (by decide) rfl (by kernel_rfl)
@[reducible] def Cy:Fg:=⟨[.d (.sl Bd),.d (.int .u64),.Ff 174 []],[],[],⟨[(6,.d A0),(7,.d .bool)],[],[],[],[],[]⟩⟩
def Bh(N:Nat):Fg.C1 Cy (A3 Cy.out.T):=fun(y:Bsh) (Bn:Int)=>iter (fun(rec:Bsf×Unit×Unit×Unit→A3 ((Int×Bool×Unit)×Unit×Unit×Unit)) (z:Bsf×Unit×Unit×Unit)=>bif decide (z.1.1<z.1.2.1)then (at? y
 (i64.wrap ((u64.wrap (i64.wrap (z.1.1+z.1.2.1))).fdiv 2))).bind fun(e:Bs3)=>Option.bind (Qv N e Bn) fun(y:Int)=>bif decide (y<0)then rec ((i64.wrap (i64.wrap ((u64.wrap
 (i64.wrap (z.1.1+z.1.2.1))).fdiv 2)+1),z.1.2.1,()),(),(),())else rec ((z.1.1,i64.wrap ((u64.wrap (i64.wrap (z.1.1+z.1.2.1))).fdiv 2),()),(),(),())else bif decide
 (z.1.1<(↑y.length:Int))then (at? y z.1.1).bind fun(e:Bs3)=>Option.bind (Qv N e Bn) fun(y:Int)=>some ((z.1.1,y==0,()),(),(),())else some ((z.1.1,false,()),(),(),())) N ((0,(↑y.length:Int),()),(),(),())
def La(N:Nat):=M0 [Ab9 N] [] N 173 (A1 (A1 (A1 (.seq (.blk (.loop ⟨[(9,.d A0),(10,.d A0)],[],[0,1,2,8],[],[],[]⟩ .lf)) .lf)))) Cy (Bh N) mixed func173 rfl (by decide) rfl rfl rfl (by kernel_rfl)
def A0t(N:Nat):C1 [(.sl Bd),(.int .u64)] (A3 (B6 [.bool])):=fun(x:Bsh) (C8:Int)=>Option.bind (Kc N x) fun(y:Bsh)=>Option.bind (Bh N y C8) fun(Bn:(Int×Bool×Unit)×Unit×Unit×Unit)=>bif decide
 (Bn.1.1<(↑y.length:Int))then (at? y Bn.1.1).bind fun(e:Bs3)=>some (decide (e.1≤C8))else some false
def Azq(N:Nat):=D7 [A3a N,La N,Ab9 N] [] N 142 .lf [(.sl Bd),(.int .u64)] [.bool] (A0t N) mixed func142 rfl (by decide) rfl (by kernel_rfl)
def A8f(N:Nat):C1 [(.sl B2),(.int .u16)] (A3 (B6 [(.sl Bd)])):=fun(x:A2 Bs6) (C8:Int)=>Option.bind (Rv N x) fun(y:Bso×Unit×Unit×(A2 (Nat×Int×A2 Bs3)×Nat)×Unit)=>Option.bind (Kc N ((A6k (Ty.int
 u16) Bd.sl C8 y.2.2.2.1.1).getD [])) fun(y:Bsh)=>some y
def Azr(N:Nat):=D7 [A3a N,Ajd N] [] N 143 .lf [(.sl B2),(.int .u16)] [(.sl Bd)] (A8f N) mixed func143 rfl (by decide) rfl (by kernel_rfl)
def A5a(N:Nat):C1 [(.sl B2),Af] (A3 (B6 [.bool])):=fun(x:A2 Bs6) (C8:Bs3)=>bif decide (0<C8.1)then Option.bind (A8f N x C8.1) fun(y:Bsh)=>Option.bind (A0t N y C8.2) fun(y:Bool)=>some y else some false
def B52(N:Nat):=D7 [Azq N,Azr N] [] N 111 .lf [(.sl B2),Af] [.bool] (A5a N) mixed func111 rfl (by decide) rfl (by kernel_rfl)
def H2(N:Nat):C1 [(.sl Af),Af] (A3 (B6 [A0])):=fun(x:Bsh) (C8:Bs3)=>iter (fun(rec:Bs7×Unit×Unit×Unit→A3 Int) (z:Bs7×Unit×Unit×Unit)=>bif decide (z.1.1<(↑x.length:Int))then (at? x
 z.1.1).bind fun(e:Bs3)=>bif C8.1==e.1&&C8.2==e.2 then some z.1.1 else rec ((i64.wrap (z.1.1+1),()),(),(),())else some (-1)) N ((0,()),(),(),())
def Zi(N:Nat):=D7 [] [] N 172 (A1 (.seq (A1 (.blk (.loop ⟨[(8,.d A0)],[],[0,3,7],[1003],[],[]⟩ .lf))) .lf)) [(.sl Af),Af] [A0] (H2 N) mixed func172 rfl (by decide) rfl (by kernel_rfl)
def I4(N:Nat):C1 [(.sl Af),Af] (A3 (B6 [.bool])):=fun(x:Bsh) (C8:Bs3)=>Option.bind (H2 N x C8) fun(y:Int)=>some (decide (0≤y))
def W1(N:Nat):=D7 [Zi N] [] N 141 .lf [(.sl Af),Af] [.bool] (I4 N) mixed func141 rfl (by decide) rfl (by kernel_rfl)
def A5b(N:Nat):C1 [(.sl Af),Af] (A3 (B6 [.bool])):=fun(x:Bsh) (C8:Bs3)=>Option.bind (I4 N x C8) fun(y:Bool)=>some y
def B53(N:Nat):=D7 [W1 N] [] N 106 .lf [(.sl Af),Af] [.bool] (A5b N) mixed func106 rfl (by decide) rfl (by kernel_rfl)
def Sb(N:Nat):C1 [A5,Af] (A3 (B6 [.bool])):=fun(x:Bs3×UInt8×Int×UInt8×A2 UInt8×A2 Bs3) (C8:Bs3)=>Option.bind (A5b N x.2.2.2.2.2 C8) fun(y:Bool)=>some y
def Alr(N:Nat):=D7 [B53 N] [] N 69 .lf [A5,Af] [.bool] (Sb N) mixed func69 rfl (by decide) rfl (by kernel_rfl)
def D9(N:Nat):C1 [(.sl A5),Af] (A3 (B6 [.bool])):=fun(x:A2 Bs1) (C8:Bs3)=>iter (fun(rec:Bs7×Unit×Unit×Unit→A3 Bool) (z:Bs7×Unit×Unit×Unit)=>bif decide (z.1.1<(↑x.length:Int))then (at? x
 z.1.1).bind fun(e:Bs3×UInt8×Int×UInt8×A2 UInt8×A2 Bs3)=>Option.bind (Sb N e C8) fun(y:Bool)=>bif y then some true else rec ((i64.wrap (z.1.1+1),()),(),(),())else some false) N ((0,()),(),(),())
def As8(N:Nat):=D7 [Alr N] [] N 26 (A1 (.seq (A1 (.blk (.loop ⟨[(9,.d A0)],[],[3,7,8],[1003],[],[]⟩ .lf))) .lf)) [(.sl A5),Af] [.bool] (D9 N) mixed func26 rfl (by decide) rfl (by kernel_rfl)
def Rx(N:Nat):C1 [(.sl Af)] (A3 (B6 [(.sl Af)])):=fun(x:Bsh)=>(Ee x (some none) fun(y:Xg.Af.T) (r:A2 Xg.Af.T)=>bif Aw (y::r).length 16 then some (some (y::r,(y::r).length))else none).bind fun(y:Option
 (A2 Bs3×Nat))=>A4 y (Option.bind (Mj N) fun(y:Bsh)=>some y) fun(z:A2 Bs3×Nat)=>bif z.2.ble z.1.length then bif z.2.ble 4611686018427387903 then Option.bind (G3 N (Dm (List.take z.2 z.1)++List.drop z.2 z.1) z.2)
 fun(y:A2 Bs3×Nat)=>bif bif (0+y.2).ble y.1.length then true else false then some (List.take y.2 (List.drop 0 y.1))else none else none else none
def Ajg(N:Nat):=D7 [Zf N,Vw N,Wp N,Ru N] [] N 73 .lf [(.sl Af)] [(.sl Af)] (Rx N) mixed func73 rfl (by decide) rfl (by kernel_rfl)
def Uh(N:Nat):C1 [(.sl Af),(.sl B2),.bool] (A3 (B6 [(.sl Af)])):=fun(x:Bsh) (C8:A2 Bs6) (x_2:Bool)=>iter (fun(rec:Bsd×Unit×Unit×Unit→A3 Bsh) (z:Bsd×Unit×Unit×Unit)=>bif decide
 (z.1.2.1<(↑x.length:Int))then (at? x z.1.2.1).bind fun(e:Bs3)=>Option.bind (A5a N C8 e) fun(y:Bool)=>bif y==x_2 then bif Aw (z.1.1.length + [e].length) 16 then rec ((z.1.1++[e],i64.wrap
 (z.1.2.1+1),()),(),(),())else none else rec ((z.1.1,i64.wrap (z.1.2.1+1),()),(),(),())else Option.bind (Rx N z.1.1) fun(y:Bsh)=>some y) N (([],0,()),(),(),())
def As9(N:Nat):=D7 [B52 N,Ajg N] [] N 72 (A1 (A1 (.seq (A1 (.blk (.loop ⟨[(7,.Bu 200007 Af none),(12,.d A0)],[],[1,2,10,11],[],[],[]⟩ .lf))) .lf))) [(.sl Af),(.sl B2),.bool] [(.sl Af)] (Uh N) mixed func72 rfl (by decide) rfl (by kernel_rfl)
def Ks(N:Nat):C1 [(.sl Af),(.sl B2)] (A3 (B6 [(.sl Af)])):=fun(x:Bsh) (C8:A2 Bs6)=>Option.bind (Uh N x C8 false) fun(y:Bsh)=>some y
def Asa(N:Nat):=D7 [As9 N] [] N 29 .lf [(.sl Af),(.sl B2)] [(.sl Af)] (Ks N) mixed func29 rfl (by decide) rfl (by kernel_rfl)
def Yc(N:Nat):C1 [(.int .u64)] (A3 (B6 [(.int .u16),(.int .u64)])):=fun(x:Int)=>some (u16.wrap (x.fdiv 281474976710656),bits BinOp.and u64 x 281474976710655)
def Als(N:Nat):=D7 [] [] N 104 .lf [(.int .u64)] [(.int .u16),(.int .u64)] (Yc N) mixed func104 rfl (by decide) rfl (by kernel_rfl)
def Ry(N:Nat):C1 [Af] (A3 (B6 [.bool])):=fun(x:Bs3)=>bif decide (0<x.1)then bif decide (0<x.2)then some (decide (x.2≤281474976710655))else some false else some false
def Ajh(N:Nat):=D7 [] [] N 64 .lf [Af] [.bool] (Ry N) mixed func64 rfl (by decide) rfl (by kernel_rfl)
def A0u(N:Nat):C1 [(.int .u64)] (A3 (B6 [Af,.bool])):=fun(x:Int)=>Option.bind (Yc N x) fun(y:Bs3)=>Option.bind (Ry N y) fun(Bn:Bool)=>bif !Bn then some ((0,0),false)else some (y,true)
def Asb(N:Nat):=D7 [Als N,Ajh N] [] N 63 .lf [(.int .u64)] [Af,.bool] (A0u N) mixed func63 rfl (by decide) rfl (by kernel_rfl)
def Ui(N:Nat):C1 [.u8] (A3 (B6 [.bool])):=fun(x:UInt8)=>bif decide (1≤x)then some (decide (x≤5))else some false
def A0v(N:Nat):=D7 [] [] N 65 .lf [.u8] [.bool] (Ui N) mixed func65 rfl (by decide) rfl (by kernel_rfl)
def Uj(N:Nat):C1 [.str] (A3 (B6 [.bool])):=fun(x:A2 UInt8)=>bif decide (60<(↑x.length:Int))then some false else iter (fun(rec:Bs7×Unit×Unit×Unit→A3 Bool) (z:Bs7×Unit×Unit×Unit)=>bif decide
 (z.1.1<(↑x.length:Int))then (at? x z.1.1).bind fun(c:UInt8)=>bif decide (c<32)then some false else (at? x z.1.1).bind fun(c:UInt8)=>bif decide (126<c)then some false else rec ((i64.wrap
 (z.1.1+1),()),(),(),())else some true) N ((0,()),(),(),())
def Asd(N:Nat):=D7 [] [] N 66 (A1 (A1 (.seq (A1 (.blk (.loop ⟨[(9,.d A0)],[],[0,8],[],[],[]⟩ .lf))) .lf))) [.str] [.bool] (Uj N) mixed func66 rfl (by decide) rfl (by kernel_rfl)
def Qw(N:Nat):C1 [(.sl Af)] (A3 (B6 [.bool])):=fun(x:Bsh)=>iter (fun(rec:Bs7×Unit×Unit×Unit→A3 Bool) (z:Bs7×Unit×Unit×Unit)=>bif decide (z.1.1<(↑x.length:Int))then bif decide (0<z.1.1)then (at? x
 (i64.wrap (z.1.1-1))).bind fun(e:Bs3)=>(at? x z.1.1).bind fun(Cr:Bs3)=>Option.bind (K0 N e Cr) fun(y:Int)=>bif decide (0≤y)then some false else rec ((i64.wrap (z.1.1+1),()),(),(),())else rec
 ((i64.wrap (z.1.1+1),()),(),(),())else some true) N ((0,()),(),(),())
def Ase(N:Nat):=D7 [Ru N] [] N 67 (A1 (.seq (A1 (.blk (.loop ⟨[(6,.d A0)],[],[0,5],[],[],[]⟩ .lf))) .lf)) [(.sl Af)] [.bool] (Qw N) mixed func67 rfl (by decide) rfl (by kernel_rfl)
def J2(N:Nat):C1 [A5] (A3 (B6 [.bool])):=fun(x:Bs3×UInt8×Int×UInt8×A2 UInt8×A2 Bs3)=>Option.bind (A0u N x.2.2.1) fun(y:Bs3×Bool)=>bif !y.2 then some false else Option.bind (Ry N x.1)
 fun(y:Bool)=>bif !y then some false else Bw (fun(z:Unit×Unit×Unit×Unit)=>bif decide (256<(↑x.2.2.2.2.2.length:Int))then some false else Option.bind (Qw N x.2.2.2.2.2) fun(y:Bool)=>bif !y then some false else iter
 (fun(rec:Bs7×Unit×Unit×Unit→A3 Bool) (z:Bs7×Unit×Unit×Unit)=>bif decide (z.1.1<(↑x.2.2.2.2.2.length:Int))then (at? x.2.2.2.2.2 z.1.1).bind fun(e:Bs3)=>Option.bind (Ry N e) fun(y:Bool)=>bif !y then some false else
 bif e.1==x.1.1&&e.2==x.1.2 then some false else rec ((i64.wrap (z.1.1+1),()),(),(),())else some true) N ((0,()),(),(),())) fun(k:Unit×Unit×Unit×Unit→A3 Bool)=>bif x.2.1==1 then Option.bind (Ui N x.2.2.2.1)
 fun(y:Bool)=>bif !y then some false else Option.bind (Uj N x.2.2.2.2.1) fun(y:Bool)=>bif !y then some false else k ((),(),(),())else bif x.2.1==2 then bif x.2.2.2.1 != 0 then some false else bif x.2.2.2.2.1 != []then
 some false else k ((),(),(),())else some false
def A0w(N:Nat):=D7 [Asb N,Ajh N,A0v N,Asd N,Ase N] [] N 24 (A1 (A1 (.join ⟨[],[],[1],[1001],[],[]⟩ .lf (A1 (.seq (A1 (.blk (.loop ⟨[(58,.d A0)],[],[1,56,57],[1001],[],[]⟩ .lf))) .lf))))) [A5] [.bool] (J2 N) mixed func24 rfl (by decide) rfl (by kernel_rfl)
def J3(N:Nat):C1 [(.sl A5)] (A3 (B6 [(.sl Af)])):=fun(x:A2 Bs1)=>iter (fun(rec:Bsd×Unit×Unit×Unit→A3 Bsh) (z:Bsd×Unit×Unit×Unit)=>bif decide (z.1.2.1<(↑x.length:Int))then (at? x z.1.2.1).bind
 fun(e:Bs3×UInt8×Int×UInt8×A2 UInt8×A2 Bs3)=>bif Aw (z.1.1.length + [e.1].length) 16 then bif Aw ((z.1.1++[e.1]).length+e.2.2.2.2.2.length) 16 then rec ((z.1.1++[e.1]++e.2.2.2.2.2,i64.wrap
 (z.1.2.1+1),()),(),(),())else none else none else Option.bind (Rx N z.1.1) fun(y:Bsh)=>some y) N (([],0,()),(),(),())
def Asf(N:Nat):=D7 [Ajg N] [] N 30 (A1 (A1 (.seq (A1 (.blk (.loop ⟨[(3,.Bu 200003 Af none),(8,.d A0)],[],[6,7],[],[],[]⟩ .lf))) .lf))) [(.sl A5)] [(.sl Af)] (J3 N) mixed func30 rfl (by decide) rfl (by kernel_rfl)
def Bf(N:Nat):C1 [A5] (A3 (B6 [A5])):=fun(x:Bs3×UInt8×Int×UInt8×A2 UInt8×A2 Bs3)=>Option.bind (G4 N x.2.2.2.2.2) fun(y:Bsh)=>some (x.1,x.2.1,x.2.2.1,x.2.2.2.1,x.2.2.2.2.1,y)
def Gk(N:Nat):=D7 [Wq N] [] N 70 .lf [A5] [A5] (Bf N) mixed func70 rfl (by decide) rfl (by kernel_rfl)
def I5(N:Nat):C1 [(.sl A5),A0] (A3 (B6 [.bool])):=fun(x:A2 Bs1) (C8:Int)=>bif decide (C8<(↑x.length:Int))then some false else iter (fun(rec:Bs7×Unit×Unit×Unit→A3 Bool)
 (z:Bs7×Unit×Unit×Unit)=>bif decide (z.1.1<(↑x.length:Int))then (at? x z.1.1).bind fun(e:Bs3×UInt8×Int×UInt8×A2 UInt8×A2 Bs3)=>bif decide (300<(↑e.2.2.2.2.2.length:Int))then some false else (at? x z.1.1).bind
 fun(e:Bs3×UInt8×Int×UInt8×A2 UInt8×A2 Bs3)=>bif decide (200<(↑e.2.2.2.2.1.length:Int))then some false else rec ((i64.wrap (z.1.1+1),()),(),(),())else some true) N ((0,()),(),(),())
def A8g(N:Nat):=D7 [] [] N 16 (A1 (A1 (.seq (A1 (.blk (.loop ⟨[(5,.d A0)],[],[0],[],[],[]⟩ .lf))) .lf))) [(.sl A5),A0] [.bool] (I5 N) mixed func16 rfl (by decide) rfl (by kernel_rfl)
def I6(N:Nat):C1 [(.sl B2)] (A3 (B6 [.bool])):=fun(x:A2 Bs6)=>bif decide (30<(↑x.length:Int))then some false else iter (fun(rec:Bs7×Unit×Unit×Unit→A3 Bool) (z:Bs7×Unit×Unit×Unit)=>bif decide
 (z.1.1<(↑x.length:Int))then (at? x z.1.1).bind fun(e:Bs6)=>bif decide (30<(↑e.2.length:Int))then some false else rec ((i64.wrap (z.1.1+1),()),(),(),())else some true) N ((0,()),(),(),())
def A8h(N:Nat):=D7 [] [] N 17 (A1 (A1 (.seq (A1 (.blk (.loop ⟨[(3,.d A0)],[],[0],[],[],[]⟩ .lf))) .lf))) [(.sl B2)] [.bool] (I6 N) mixed func17 rfl (by decide) rfl (by kernel_rfl)
def I7(N:Nat):C1 [(.sl tepitaphlaw18Act),A0] (A3 (B6 [A0])):=fun(x:A2 (UInt8×Bs1×A2 Bs6)) (C8:Int)=>bif decide (C8<(↑x.length:Int))then some 0 else iter
 (fun(rec:Bs7×Unit×Unit×Unit→A3 Int) (z:Bs7×Unit×Unit×Unit)=>bif decide (z.1.1<(↑x.length:Int))then (at? x z.1.1).bind fun(e:UInt8×Bs1×A2 Bs6)=>Option.bind (I5 N [e.2.1] 1) fun(y:Bool)=>bif !y then some 0 else (at?
 x z.1.1).bind fun(e:UInt8×Bs1×A2 Bs6)=>Option.bind (I6 N e.2.2) fun(y:Bool)=>bif !y then some 0 else rec ((i64.wrap (z.1.1+1),()),(),(),())else some 1) N ((0,()),(),(),())
def A8i(N:Nat):=D7 [A8g N,A8h N] [] N 4 (A1 (A1 (.seq (A1 (.blk (.loop ⟨[(5,.d A0)],[],[0],[],[],[]⟩ .lf))) .lf))) [(.sl tepitaphlaw18Act),A0] [A0] (I7 N) mixed func4 rfl (by decide) rfl (by kernel_rfl)
def Bj(N:Nat):C1 [(.sl Af),Af] (A3 (B6 [.bool])):=fun(x:Bsh) (C8:Bs3)=>iter (fun(rec:Bs7×Unit×Unit×Unit→A3 Bool) (z:Bs7×Unit×Unit×Unit)=>bif decide (z.1.1<(↑x.length:Int))then (at? x z.1.1).bind
 fun(e:Bs3)=>bif e.1==C8.1&&e.2==C8.2 then some true else rec ((i64.wrap (z.1.1+1),()),(),(),())else some false) N ((0,()),(),(),())
def W2(N:Nat):=D7 [] [] N 52 (A1 (.seq (A1 (.blk (.loop ⟨[(5,.d A0)],[],[0,3],[1003],[],[]⟩ .lf))) .lf)) [(.sl Af),Af] [.bool] (Bj N) mixed func52 rfl (by decide) rfl (by kernel_rfl)
def Ml(N:Nat):C1 [(.int .u64)] (A3 (B6 [(.int .u16),(.int .u64)])):=fun(x:Int)=>some (u16.wrap (u64.wrap (x.tdiv 281474976710656)),x.tmod 281474976710656)
def A3c(N:Nat):=D7 [] [] N 136 .lf [(.int .u64)] [(.int .u16),(.int .u64)] (Ml N) mixed func136 rfl (by decide) rfl (by kernel_rfl)
def Am(N:Nat):C1 [Af] (A3 (B6 [.bool])):=fun(x:Bs3)=>bif decide (1≤x.1)then bif decide (1≤x.2)then some (decide (x.2<281474976710656))else some false else some false
def Jo(N:Nat):=D7 [] [] N 93 .lf [Af] [.bool] (Am N) mixed func93 rfl (by decide) rfl (by kernel_rfl)
def G8(N:Nat):C1 [(.int .u64)] (A3 (B6 [Af,.bool])):=fun(x:Int)=>Option.bind (Ml N x) fun(y:Bs3)=>Option.bind (Am N y) fun(Bn:Bool)=>bif !Bn then some ((0,0),false)else some (y,true)
def A1l(N:Nat):=D7 [A3c N,Jo N] [] N 92 .lf [(.int .u64)] [Af,.bool] (G8 N) mixed func92 rfl (by decide) rfl (by kernel_rfl)
def Fq(N:Nat):C1 [.u8] (A3 (B6 [.bool])):=fun(x:UInt8)=>bif decide (1≤x)then some (decide (x≤5))else some false
def A5v(N:Nat):=D7 [] [] N 94 .lf [.u8] [.bool] (Fq N) mixed func94 rfl (by decide) rfl (by kernel_rfl)
def Fs(N:Nat):C1 [.str] (A3 (B6 [.bool])):=fun(x:A2 UInt8)=>iter (fun(rec:Bs7×Unit×Unit×Unit→A3 Bool) (z:Bs7×Unit×Unit×Unit)=>bif decide (z.1.1<(↑x.length:Int))then (at? x z.1.1).bind
 fun(c:UInt8)=>bif decide (c<32)then some false else (at? x z.1.1).bind fun(c:UInt8)=>bif decide (126<c)then some false else rec ((i64.wrap (z.1.1+1),()),(),(),())else some (decide ((↑x.length:Int)≤60))) N
 ((0,()),(),(),())
def A5w(N:Nat):=D7 [] [] N 95 (A1 (.seq (A1 (.blk (.loop ⟨[(3,.d A0)],[],[0],[],[],[]⟩ .lf))) .lf)) [.str] [.bool] (Fs N) mixed func95 rfl (by decide) rfl (by kernel_rfl)
def Es(N:Nat):C1 [Af,Af] (A3 (B6 [A0])):=fun(x C8:Bs3)=>bif x.1==C8.1&&x.2==C8.2 then some 0 else bif decide (x.1<C8.1)then some (-1)else bif x.1==C8.1 then bif decide (x.2<C8.2)then some
 (-1)else some 1 else some 1
def P9(N:Nat):=D7 [] [] N 99 .lf [Af,Af] [A0] (Es N) mixed func99 rfl (by decide) rfl (by kernel_rfl)
def Bc(N:Nat):C1 [(.sl Af)] (A3 (B6 [.bool])):=fun(x:Bsh)=>iter (fun(rec:Bs7×Unit×Unit×Unit→A3 Bool) (z:Bs7×Unit×Unit×Unit)=>bif decide (z.1.1<(↑x.length:Int))then (at? x (i64.wrap
 (z.1.1-1))).bind fun(e:Bs3)=>(at? x z.1.1).bind fun(Cr:Bs3)=>Option.bind (Es N e Cr) fun(y:Int)=>bif decide (0≤y)then some false else rec ((i64.wrap (z.1.1+1),()),(),(),())else some true) N ((1,()),(),(),())
def A1m(N:Nat):=D7 [P9 N] [] N 96 (A1 (.seq (A1 (.blk (.loop ⟨[(3,.d A0)],[],[0],[],[],[]⟩ .lf))) .lf)) [(.sl Af)] [.bool] (Bc N) mixed func96 rfl (by decide) rfl (by kernel_rfl)
def Hd(N:Nat):C1 [A5] (A3 (B6 [.bool])):=fun(x:Bs3×UInt8×Int×UInt8×A2 UInt8×A2 Bs3)=>Option.bind (G8 N x.2.2.1) fun(y:Bs3×Bool)=>bif !y.2 then some false else Option.bind (Am N x.1) fun(y:Bool)=>bif
 !y then some false else bif x.2.1 != 1 then bif x.2.1 != 2 then some false else bif x.2.1==1 then Option.bind (Fq N x.2.2.2.1) fun(y:Bool)=>bif !y then some false else Option.bind (Fs N x.2.2.2.2.1) fun(y:Bool)=>bif !y
 then some false else bif x.2.1==2 then bif x.2.2.2.1 != 0 then some false else bif x.2.2.2.2.1 != []then some false else iter (fun(rec:Bs7×Unit×Unit×Unit→A3 Bool) (z:Bs7×Unit×Unit×Unit)=>bif decide
 (z.1.1<(↑x.2.2.2.2.2.length:Int))then (at? x.2.2.2.2.2 z.1.1).bind fun(e:Bs3)=>Option.bind (Am N e) fun(y:Bool)=>bif !y then some false else rec ((i64.wrap (z.1.1+1),()),(),(),())else bif decide
 ((↑x.2.2.2.2.2.length:Int)≤256)then Option.bind (Bc N x.2.2.2.2.2) fun(y:Bool)=>bif y then Option.bind (Bj N x.2.2.2.2.2 x.1) fun(y:Bool)=>some !y else some false else some false) N ((0,()),(),(),())else iter
 (fun(rec:Bs7×Unit×Unit×Unit→A3 Bool) (z:Bs7×Unit×Unit×Unit)=>bif decide (z.1.1<(↑x.2.2.2.2.2.length:Int))then (at? x.2.2.2.2.2 z.1.1).bind fun(e:Bs3)=>Option.bind (Am N e) fun(y:Bool)=>bif !y then some false else
 rec ((i64.wrap (z.1.1+1),()),(),(),())else bif decide ((↑x.2.2.2.2.2.length:Int)≤256)then Option.bind (Bc N x.2.2.2.2.2) fun(y:Bool)=>bif y then Option.bind (Bj N x.2.2.2.2.2 x.1) fun(y:Bool)=>some !y else some
 false else some false) N ((0,()),(),(),())else bif x.2.1==2 then bif x.2.2.2.1 != 0 then some false else bif x.2.2.2.2.1 != []then some false else iter (fun(rec:Bs7×Unit×Unit×Unit→A3 Bool)
 (z:Bs7×Unit×Unit×Unit)=>bif decide (z.1.1<(↑x.2.2.2.2.2.length:Int))then (at? x.2.2.2.2.2 z.1.1).bind fun(e:Bs3)=>Option.bind (Am N e) fun(y:Bool)=>bif !y then some false else rec ((i64.wrap
 (z.1.1+1),()),(),(),())else bif decide ((↑x.2.2.2.2.2.length:Int)≤256)then Option.bind (Bc N x.2.2.2.2.2) fun(y:Bool)=>bif y then Option.bind (Bj N x.2.2.2.2.2 x.1) fun(y:Bool)=>some !y else some false else some false)
 N ((0,()),(),(),())else iter (fun(rec:Bs7×Unit×Unit×Unit→A3 Bool) (z:Bs7×Unit×Unit×Unit)=>bif decide (z.1.1<(↑x.2.2.2.2.2.length:Int))then (at? x.2.2.2.2.2 z.1.1).bind fun(e:Bs3)=>Option.bind (Am N e)
 fun(y:Bool)=>bif !y then some false else rec ((i64.wrap (z.1.1+1),()),(),(),())else bif decide ((↑x.2.2.2.2.2.length:Int)≤256)then Option.bind (Bc N x.2.2.2.2.2) fun(y:Bool)=>bif y then Option.bind (Bj N
 x.2.2.2.2.2 x.1) fun(y:Bool)=>some !y else some false else some false) N ((0,()),(),(),())else bif x.2.1==1 then Option.bind (Fq N x.2.2.2.1) fun(y:Bool)=>bif !y then some false else Option.bind (Fs N x.2.2.2.2.1)
 fun(y:Bool)=>bif !y then some false else bif x.2.1==2 then bif x.2.2.2.1 != 0 then some false else bif x.2.2.2.2.1 != []then some false else iter (fun(rec:Bs7×Unit×Unit×Unit→A3 Bool) (z:Bs7×Unit×Unit×Unit)=>bif
 decide (z.1.1<(↑x.2.2.2.2.2.length:Int))then (at? x.2.2.2.2.2 z.1.1).bind fun(e:Bs3)=>Option.bind (Am N e) fun(y:Bool)=>bif !y then some false else rec ((i64.wrap (z.1.1+1),()),(),(),())else bif decide
 ((↑x.2.2.2.2.2.length:Int)≤256)then Option.bind (Bc N x.2.2.2.2.2) fun(y:Bool)=>bif y then Option.bind (Bj N x.2.2.2.2.2 x.1) fun(y:Bool)=>some !y else some false else some false) N ((0,()),(),(),())else iter
 (fun(rec:Bs7×Unit×Unit×Unit→A3 Bool) (z:Bs7×Unit×Unit×Unit)=>bif decide (z.1.1<(↑x.2.2.2.2.2.length:Int))then (at? x.2.2.2.2.2 z.1.1).bind fun(e:Bs3)=>Option.bind (Am N e) fun(y:Bool)=>bif !y then some false else
 rec ((i64.wrap (z.1.1+1),()),(),(),())else bif decide ((↑x.2.2.2.2.2.length:Int)≤256)then Option.bind (Bc N x.2.2.2.2.2) fun(y:Bool)=>bif y then Option.bind (Bj N x.2.2.2.2.2 x.1) fun(y:Bool)=>some !y else some
 false else some false) N ((0,()),(),(),())else bif x.2.1==2 then bif x.2.2.2.1 != 0 then some false else bif x.2.2.2.2.1 != []then some false else iter (fun(rec:Bs7×Unit×Unit×Unit→A3 Bool)
 (z:Bs7×Unit×Unit×Unit)=>bif decide (z.1.1<(↑x.2.2.2.2.2.length:Int))then (at? x.2.2.2.2.2 z.1.1).bind fun(e:Bs3)=>Option.bind (Am N e) fun(y:Bool)=>bif !y then some false else rec ((i64.wrap
 (z.1.1+1),()),(),(),())else bif decide ((↑x.2.2.2.2.2.length:Int)≤256)then Option.bind (Bc N x.2.2.2.2.2) fun(y:Bool)=>bif y then Option.bind (Bj N x.2.2.2.2.2 x.1) fun(y:Bool)=>some !y else some false else some false)
 N ((0,()),(),(),())else iter (fun(rec:Bs7×Unit×Unit×Unit→A3 Bool) (z:Bs7×Unit×Unit×Unit)=>bif decide (z.1.1<(↑x.2.2.2.2.2.length:Int))then (at? x.2.2.2.2.2 z.1.1).bind fun(e:Bs3)=>Option.bind (Am N e)
 fun(y:Bool)=>bif !y then some false else rec ((i64.wrap (z.1.1+1),()),(),(),())else bif decide ((↑x.2.2.2.2.2.length:Int)≤256)then Option.bind (Bc N x.2.2.2.2.2) fun(y:Bool)=>bif y then Option.bind (Bj N
 x.2.2.2.2.2 x.1) fun(y:Bool)=>some !y else some false else some false) N ((0,()),(),(),())
def Tx(N:Nat):=D7 [W2 N,A1l N,Jo N,A5v N,A5w N,A1m N] [] N 50 (A1 (A1 (A1 (A1 (.seq (A1 (.blk (.loop ⟨[(5,.d A0)],[],[1],[1001],[],[]⟩ .lf))) .lf))))) [A5] [.bool] (Hd N) mixed func50 rfl (by decide) rfl (by kernel_rfl)
def I8(N:Nat):C1 [Bd] (A3 (B6 [.bool])):=fun(x:Bs3)=>bif decide (1≤x.1)then bif decide (x.1≤x.2)then some (decide (x.2≤281474976710655))else some false else some false
def W3(N:Nat):=D7 [] [] N 137 .lf [Bd] [.bool] (I8 N) mixed func137 rfl (by decide) rfl (by kernel_rfl)
def I9(N:Nat):C1 [(.sl (.int .u64)),(.int .u64)] (A3 (B6 [(.sl (.int .u64))])):=fun(x:A2 Int) (C8:Int)=>iter (fun(rec:(A2 Int×Bool×Int×Unit)×Unit×Unit×Unit→A3 (A2 Int)) (z:(List
 Int×Bool×Int×Unit)×Unit×Unit×Unit)=>bif decide (z.1.2.2.1<(↑x.length:Int))then Bw (fun(B9:(A2 Int×Bool×Unit)×Unit×Unit×Unit)=>(at? x z.1.2.2.1).bind fun(e:Int)=>bif e != C8 then (at? x z.1.2.2.1).bind fun(e:Int)=>bif
 Aw (B9.1.1.length + [e].length) 8 then rec ((B9.1.1++[e],B9.1.2.1,i64.wrap (z.1.2.2.1+1),()),(),(),())else none else rec ((B9.1.1,B9.1.2.1,i64.wrap (z.1.2.2.1+1),()),(),(),())) fun(k:(List
 Int×Bool×Unit)×Unit×Unit×Unit→A3 (A2 Int))=>bif !z.1.2.1 then (at? x z.1.2.2.1).bind fun(e:Int)=>bif decide (C8≤e)then bif Aw (z.1.1.length + [C8].length) 8 then k ((z.1.1++[C8],true,()),(),(),())else none else k
 ((z.1.1,z.1.2.1,()),(),(),())else k ((z.1.1,z.1.2.1,()),(),(),())else bif !z.1.2.1 then bif Aw (z.1.1.length + [C8].length) 8 then some (z.1.1++[C8])else none else some z.1.1) N (([],false,0,()),(),(),())
def A8j(N:Nat):=D7 [] [] N 175 (A1 (A1 (A1 (.seq (A1 (.blk (.loop ⟨[(5,.Bu 200005 (.int .u64) none),(6,.d .bool),(7,.d A0)],[],[0,1],[],[],[]⟩ (A1 (.seq (.blk (.join ⟨[(5,.Bu 200005 (.int .u64) none),(6,.d .bool)],[],[0,1,7],[],[],[]⟩ .lf .lf)) .lf))))) .lf)))) [(.sl (.int .u64)),(.int .u64)] [(.sl (.int .u64))] (I9 N) mixed func175 rfl (by decide) rfl (by kernel_rfl)
def Ii(N:Nat):C1 [(.sl Bd),(.sl Bd)] (A3 (B6 [(.sl (.int .u64))])):=fun(x C8:Bsh)=>bif Aw (0+x.length) 16 then bif Aw (([]++x).length+C8.length) 16 then iter (fun(rec:(List
 Int×Int×Unit)×Unit×Unit×Unit→A3 (A2 Int)) (z:(A2 Int×Int×Unit)×Unit×Unit×Unit)=>bif decide (z.1.2.1<(↑([]++x++C8).length:Int))then (at? ([]++x++C8) z.1.2.1).bind fun(e:Bs3)=>Option.bind (I8 N e) fun(y:Bool)=>bif
 y then (at? ([]++x++C8) z.1.2.1).bind fun(e:Bs3)=>Option.bind (I9 N z.1.1 e.1) fun(y:A2 Int)=>(at? ([]++x++C8) z.1.2.1).bind fun(e:Bs3)=>Option.bind (I9 N y (u64.wrap (e.2+1))) fun(y:A2 Int)=>rec
 ((y,i64.wrap (z.1.2.1+1),()),(),(),())else rec ((z.1.1,i64.wrap (z.1.2.1+1),()),(),(),())else some z.1.1) N (([],0,()),(),(),())else none else none
def A1n(N:Nat):=D7 [W3 N,A8j N] [] N 144 (A1 (A1 (A1 (.seq (A1 (.blk (.loop ⟨[(5,.d (.sl (.int .u64))),(7,.d A0)],[],[6],[],[],[]⟩ .lf))) .lf)))) [(.sl Bd),(.sl Bd)] [(.sl (.int .u64))] (Ii N) mixed func144 rfl (by decide) rfl (by kernel_rfl)
def Dp(N:Nat):C1 [(.sl Bd),(.int .u64)] (A3 (B6 [.bool])):=fun(x:Bsh) (C8:Int)=>iter (fun(rec:Bs7×Unit×Unit×Unit→A3 Bool) (z:Bs7×Unit×Unit×Unit)=>bif decide (z.1.1<(↑x.length:Int))then (at? x
 z.1.1).bind fun(e:Bs3)=>Option.bind (I8 N e) fun(y:Bool)=>bif y then (at? x z.1.1).bind fun(e:Bs3)=>bif decide (e.1≤C8)then (at? x z.1.1).bind fun(e:Bs3)=>bif decide (C8≤e.2)then some true else rec ((i64.wrap
 (z.1.1+1),()),(),(),())else rec ((i64.wrap (z.1.1+1),()),(),(),())else rec ((i64.wrap (z.1.1+1),()),(),(),())else some false) N ((0,()),(),(),())
def W4(N:Nat):=D7 [W3 N] [] N 97 (A1 (.seq (A1 (.blk (.loop ⟨[(5,.d A0)],[],[0,1],[],[],[]⟩ .lf))) .lf)) [(.sl Bd),(.int .u64)] [.bool] (Dp N) mixed func97 rfl (by decide) rfl (by kernel_rfl)
def Aba(y:A2 Int)(rec:(Int×Unit)×Unit×(A3 (A2 (Int×Int)×Nat)×Unit)×Unit→A3 (A2 (Int×Int)))(z:(Int×Unit)×Unit×(A3 (A2 (Int×Int) ×
 Nat)×Unit)×Unit):=  fun(z_2:(Bool×Unit)×Unit×(A3 (A2 (Int×Int)×Nat)×Unit)×Unit)=>A4 z_2.snd.snd.fst.fst (bif z_2.fst.fst then bif z_2.fst.fst then (at? y
 z.fst.fst).bind fun(e:Int)=>(at? y (i64.wrap (z.fst.fst+1))).bind fun(Cr:Int)=>rec ((i64.wrap (z.fst.fst+1),()),(),(some ([(e,u64.wrap (Cr-1))],[(e,
 u64.wrap (Cr-1))].length),()),())else rec ((i64.wrap (z.fst.fst+1),()),(),(none,()),())else bif z_2.fst.fst then (at? y z.fst.fst).bind fun(e:Int)=>(at? y
 (i64.wrap (z.fst.fst+1))).bind fun(Cr:Int)=>rec ((i64.wrap (z.fst.fst+1),()),(),(some ([(e,u64.wrap (Cr-1))],[(e,u64.wrap (Cr-1))].length),()),
 ())else rec ((i64.wrap (z.fst.fst+1),()),(),(none,()),())) fun(Gv:A2 (Int×Int)×Nat)=>bif z_2.fst.fst then bif decide (0≤i64.wrap ((↑Gv.snd:Int)-1)) then
 bif decide (0≤i64.wrap ((↑Gv.snd:Int)-1))&&decide (i64.wrap ((↑Gv.snd:Int)-1)<(↑Gv.snd:Int))then Gv.fst[0+(i64.wrap ((↑Gv.snd:Int) -
 1)).toNat]?.bind fun(e:Int×Int)=>(at? y z.fst.fst).bind fun(Cr:Int)=>bif u64.wrap (e.snd+1)==Cr then (at? y (i64.wrap (z.fst.fst+1))).bind fun(e:Int)=>bif
 decide (0≤i64.wrap ((↑Gv.snd:Int)-1))&&decide (i64.wrap ((↑Gv.snd:Int)-1)<(↑Gv.snd:Int))then Gv.fst[0+(i64.wrap ((↑Gv.snd:Int)-1)).toNat]?.bind
 fun(e_2:Int×Int)=>rec ((i64.wrap (z.fst.fst+1),()),(),(some (Gv.fst.set (0+(i64.wrap ((↑Gv.snd:Int)-1)).toNat) (e_2.fst,u64.wrap (e-1)),Gv.snd),()),
 ())else none else bif z_2.fst.fst then (at? y z.fst.fst).bind fun(e:Int)=>(at? y (i64.wrap (z.fst.fst+1))).bind fun(e_2:Int)=>bif Gv.fst.length.beq Gv.snd then bif Aw
 (Gv.snd + [(e,u64.wrap (e_2-1))].length) 16 then rec ((i64.wrap (z.fst.fst+1),()),(),(some (Gv.fst++[(e,u64.wrap (e_2-1))],Gv.snd + [(e,u64.wrap
 (e_2-1))].length),()),())else none else none else rec ((i64.wrap (z.fst.fst+1),()),(),(some Gv,()),())else none else bif z_2.fst.fst then (at? y z.fst.fst).bind fun(e:Int)
 => (at? y (i64.wrap (z.fst.fst+1))).bind fun(Cr:Int)=>bif Gv.fst.length.beq Gv.snd then bif Aw (Gv.snd + [(e,u64.wrap (Cr-1))].length) 16 then rec
 ((i64.wrap (z.fst.fst+1),()),(),(some (Gv.fst++[(e,u64.wrap (Cr-1))],Gv.snd + [(e,u64.wrap (Cr-1))].length),()),())else none else none else rec
 ((i64.wrap (z.fst.fst+1),()),(),(some Gv,()),())else bif z_2.fst.fst then (at? y z.fst.fst).bind fun(e:Int)=>(at? y (i64.wrap (z.fst.fst+1))).bind fun(Cr:Int) =>
 bif Gv.fst.length.beq Gv.snd then bif Aw (Gv.snd + [(e,u64.wrap (Cr-1))].length) 16 then rec ((i64.wrap (z.fst.fst+1),()),(),(some (Gv.fst++[(e,u64.wrap
 (Cr-1))],Gv.snd + [(e,u64.wrap (Cr-1))].length),()),())else none else none else rec ((i64.wrap (z.fst.fst+1),()),(),(some Gv,()),())
def Ge(N:Nat):C1 [(.sl Bd),(.sl Bd),A0] (A3 (B6 [(.sl Bd)])):=fun(x C8:Bsh) (x_2:Int)=>Option.bind (Ii N x C8) fun(y:A2 Int)=>iter (fun(rec:Bs7×Unit×Bs9×Unit→A3 Bsh)
 (z:Bs7×Unit×Bs9×Unit)=>A4 z.2.2.1.1 (bif decide (i64.wrap (z.1.1+1)<(↑y.length:Int))then (at? y z.1.1).bind fun(e:Int)=>Option.bind (Dp N x e) fun(Bn:Bool)=>(at? y z.1.1).bind fun(e:Int)=>Option.bind (Dp N C8 e)
 fun(F7:Bool)=>bif Bn then Bw (fun(B9:Bsj×Unit×Bs9×Unit)=>A4 B9.2.2.1.1 (Bw (Aba y rec z) fun(k:Bsj×Unit×Bs9×Unit→A3 Bsh)=>bif x_2==2 then bif Bn then k ((!F7,()),(),(none,()),())else k
 ((false,()),(),(none,()),())else k ((B9.1.1,()),(),(none,()),())) fun(Gv:A2 Bs3×Nat)=>Bw (Aba y rec z) fun(k:Bsj×Unit×Bs9×Unit→A3 Bsh)=>bif x_2==2 then bif Bn then k ((!F7,()),(),(some Gv,()),())else k
 ((false,()),(),(some Gv,()),())else k ((B9.1.1,()),(),(some Gv,()),())) fun(k:Bsj×Unit×Bs9×Unit→A3 Bsh)=>bif x_2==1 then bif Bn then k ((F7,()),(),(none,()),())else k ((false,()),(),(none,()),())else k
 ((true,()),(),(none,()),())else Bw (fun(B9:Bsj×Unit×Bs9×Unit)=>A4 B9.2.2.1.1 (Bw (Aba y rec z) fun(k:Bsj×Unit×Bs9×Unit→A3 Bsh)=>bif x_2==2 then bif Bn then k ((!F7,()),(),(none,()),())else k
 ((false,()),(),(none,()),())else k ((B9.1.1,()),(),(none,()),())) fun(Gv:A2 Bs3×Nat)=>Bw (Aba y rec z) fun(k:Bsj×Unit×Bs9×Unit→A3 Bsh)=>bif x_2==2 then bif Bn then k ((!F7,()),(),(some Gv,()),())else k
 ((false,()),(),(some Gv,()),())else k ((B9.1.1,()),(),(some Gv,()),())) fun(k:Bsj×Unit×Bs9×Unit→A3 Bsh)=>bif x_2==1 then bif Bn then k ((F7,()),(),(none,()),())else k ((false,()),(),(none,()),())else k
 ((F7,()),(),(none,()),())else some []) fun(Bn:A2 Bs3×Nat)=>bif decide (i64.wrap (z.1.1+1)<(↑y.length:Int))then (at? y z.1.1).bind fun(e:Int)=>Option.bind (Dp N x e) fun(F7:Bool)=>(at? y z.1.1).bind
 fun(e:Int)=>Option.bind (Dp N C8 e) fun(Gv:Bool)=>bif F7 then Bw (fun(B9:Bsj×Unit×Bs9×Unit)=>A4 B9.2.2.1.1 (Bw (Aba y rec z) fun(k:Bsj×Unit×Bs9×Unit→A3 Bsh)=>bif x_2==2 then bif F7 then k
 ((!Gv,()),(),(none,()),())else k ((false,()),(),(none,()),())else k ((B9.1.1,()),(),(none,()),())) fun(y_4:A2 Bs3×Nat)=>Bw (Aba y rec z) fun(k:Bsj×Unit×Bs9×Unit→A3 Bsh)=>bif x_2==2 then bif F7 then k
 ((!Gv,()),(),(some y_4,()),())else k ((false,()),(),(some y_4,()),())else k ((B9.1.1,()),(),(some y_4,()),())) fun(k:Bsj×Unit×Bs9×Unit→A3 Bsh)=>bif x_2==1 then bif F7 then k ((Gv,()),(),(some Bn,()),())else k
 ((false,()),(),(some Bn,()),())else k ((true,()),(),(some Bn,()),())else Bw (fun(B9:Bsj×Unit×Bs9×Unit)=>A4 B9.2.2.1.1 (Bw (Aba y rec z) fun(k:Bsj×Unit×Bs9×Unit→A3 Bsh)=>bif x_2==2 then bif F7 then k
 ((!Gv,()),(),(none,()),())else k ((false,()),(),(none,()),())else k ((B9.1.1,()),(),(none,()),())) fun(y_4:A2 Bs3×Nat)=>Bw (Aba y rec z) fun(k:Bsj×Unit×Bs9×Unit→A3 Bsh)=>bif x_2==2 then bif F7 then k
 ((!Gv,()),(),(some y_4,()),())else k ((false,()),(),(some y_4,()),())else k ((B9.1.1,()),(),(some y_4,()),())) fun(k:Bsj×Unit×Bs9×Unit→A3 Bsh)=>bif x_2==1 then bif F7 then k ((Gv,()),(),(some Bn,()),())else k
 ((false,()),(),(some Bn,()),())else k ((Gv,()),(),(some Bn,()),())else bif bif (0+Bn.2).ble Bn.1.length then true else false then some (List.take Bn.2 (List.drop 0 Bn.1))else none) N ((0,()),(),(none,()),())
def Pa(N:Nat):=D7 [A1n N,W4 N] [98] N 114 (A1 (A1 (A1 (.seq (A1 (.blk (.loop ⟨[(9,.d A0)],[],[0,1,2,7],[],[(8,400008,Bd)],[]⟩ (A1 (.seq (.blk (A1 (A1 (.join ⟨[(12,.d .bool)],[],[0,1,2,7,9,10,11],[],[(8,400008,Bd)],[]⟩ .lf (.join ⟨[(12,.d .bool)],[],[0,1,2,7,9],[],[(8,400008,Bd)],[]⟩ .lf .lf))))) .lf))))) .lf)))) [(.sl Bd),(.sl Bd),A0] [(.sl Bd)] (Ge N) mixed func114 rfl (by decide) rfl (by kernel_rfl)
def Ft(N:Nat):C1 [(.sl Bd),(.sl Bd)] (A3 (B6 [(.sl Bd)])):=fun(x C8:Bsh)=>Option.bind (Ge N x C8 0) fun(y:Bsh)=>some y
def Tz(N:Nat):=D7 [Pa N] [] N 76 .lf [(.sl Bd),(.sl Bd)] [(.sl Bd)] (Ft N) mixed func76 rfl (by decide) rfl (by kernel_rfl)
def Fu(N:Nat):C1 [(.sl B2),(.int .u16)] (A3 (B6 [(.sl Bd)])):=fun(x:A2 Bs6) (C8:Int)=>iter (fun(rec:Bsd×Unit×Unit×Unit→A3 Bsh) (z:Bsd×Unit×Unit×Unit)=>bif decide (z.1.2.1<(↑x.length:Int))then (at?
 x z.1.2.1).bind fun(e:Bs6)=>bif e.1==C8 then bif C8 != 0 then (at? x z.1.2.1).bind fun(e:Bs6)=>Option.bind (Ft N z.1.1 e.2) fun(y:Bsh)=>rec ((y,i64.wrap (z.1.2.1+1),()),(),(),())else rec ((z.1.1,i64.wrap
 (z.1.2.1+1),()),(),(),())else rec ((z.1.1,i64.wrap (z.1.2.1+1),()),(),(),())else some z.1.1) N (([],0,()),(),(),())
def U0(N:Nat):=D7 [Tz N] [] N 75 (A1 (A1 (.seq (A1 (.blk (.loop ⟨[(5,.d (.sl Bd)),(6,.d A0)],[],[0,1],[],[],[]⟩ .lf))) .lf))) [(.sl B2),(.int .u16)] [(.sl Bd)] (Fu N) mixed func75 rfl (by decide) rfl (by kernel_rfl)
def Et(N:Nat):C1 [(.sl B2),Af] (A3 (B6 [.bool])):=fun(x:A2 Bs6) (C8:Bs3)=>Option.bind (Am N C8) fun(y:Bool)=>bif y then Option.bind (Fu N x C8.1) fun(y:Bsh)=>Option.bind (Dp N y C8.2)
 fun(y:Bool)=>some y else some false
def Kt(N:Nat):=D7 [U0 N,Jo N,W4 N] [] N 51 .lf [(.sl B2),Af] [.bool] (Et N) mixed func51 rfl (by decide) rfl (by kernel_rfl)
def Eu(N:Nat):C1 [(.sl Af),Af] (A3 (B6 [(.sl Af)])):=fun(x:Bsh) (C8:Bs3)=>iter (fun(rec:Bsd×Unit×Unit×Unit→A3 Bsh) (z:Bsd×Unit×Unit×Unit)=>bif decide (z.1.2.1<(↑x.length:Int))then (at? x
 z.1.2.1).bind fun(e:Bs3)=>Option.bind (Es N e C8) fun(y:Int)=>bif decide (y<0)then (at? x z.1.2.1).bind fun(e:Bs3)=>bif Aw (z.1.1.length + [e].length) 16 then rec ((z.1.1++[e],i64.wrap
 (z.1.2.1+1),()),(),(),())else none else rec ((z.1.1,i64.wrap (z.1.2.1+1),()),(),(),())else bif Aw (z.1.1.length + [C8].length) 16 then iter (fun(rec:Bsd×Unit×Unit×Unit→A3 Bsh) (z:Bsd×Unit×Unit×Unit)=>bif
 decide (z.1.2.1<(↑x.length:Int))then (at? x z.1.2.1).bind fun(e:Bs3)=>Option.bind (Es N e C8) fun(y:Int)=>bif decide (0<y)then (at? x z.1.2.1).bind fun(e:Bs3)=>bif Aw (z.1.1.length + [e].length) 16 then rec
 ((z.1.1++[e],i64.wrap (z.1.2.1+1),()),(),(),())else none else rec ((z.1.1,i64.wrap (z.1.2.1+1),()),(),(),())else some z.1.1) N ((z.1.1++[C8],0,()),(),(),())else none) N (([],0,()),(),(),())
def W5(N:Nat):=D7 [P9 N] [] N 98 (A1 (A1 (.seq (A1 (.blk (.loop ⟨[(5,.Bu 200005 Af none),(6,.d A0)],[],[0,3],[1003],[],[]⟩ .lf))) (A1 (.seq (A1 (.blk (.loop ⟨[(5,.Bu 200005 Af none),(7,.d A0)],[],[0,3],[1003],[],[]⟩ .lf))) .lf))))) [(.sl Af),Af] [(.sl Af)] (Eu N) mixed func98 rfl (by decide) rfl (by kernel_rfl)
def Jp(N:Nat):C1 [(.sl B2),(.sl B2)] (A3 (B6 [(.sl Af)])):=fun(x C8:A2 Bs6)=>iter (fun(rec:Bsd×Unit×Unit×Unit→A3 Bsh) (z:Bsd×Unit×Unit×Unit)=>bif decide (z.1.2.1<(↑x.length:Int))then (at? x
 z.1.2.1).bind fun(e:Bs6)=>Option.bind (Eu N z.1.1 (e.1,1)) fun(y:Bsh)=>rec ((y,i64.wrap (z.1.2.1+1),()),(),(),())else iter (fun(rec:Bsd×Unit×Unit×Unit→A3 Bsh) (z:Bsd×Unit×Unit×Unit)=>bif decide
 (z.1.2.1<(↑C8.length:Int))then (at? C8 z.1.2.1).bind fun(e:Bs6)=>Option.bind (Eu N z.1.1 (e.1,1)) fun(y:Bsh)=>rec ((y,i64.wrap (z.1.2.1+1),()),(),(),())else some z.1.1) N ((z.1.1,0,()),(),(),())) N
 (([],0,()),(),(),())
def A5x(N:Nat):=D7 [W5 N] [] N 74 (A1 (A1 (.seq (A1 (.blk (.loop ⟨[(5,.d (.sl Af)),(6,.d A0)],[],[0,1],[],[],[]⟩ .lf))) (.seq (A1 (.blk (.loop ⟨[(5,.d (.sl Af)),(7,.d A0)],[],[1],[],[],[]⟩ .lf))) .lf)))) [(.sl B2),(.sl B2)] [(.sl Af)] (Jp N) mixed func74 rfl (by decide) rfl (by kernel_rfl)
def U1(N:Nat):C1 [(.sl Bd),(.sl Bd)] (A3 (B6 [(.sl Bd)])):=fun(x C8:Bsh)=>Option.bind (Ge N x C8 1) fun(y:Bsh)=>some y
def A5y(N:Nat):=D7 [Pa N] [] N 77 .lf [(.sl Bd),(.sl Bd)] [(.sl Bd)] (U1 N) mixed func77 rfl (by decide) rfl (by kernel_rfl)
def Sx(N:Nat):C1 [(.sl Bd),(.sl Bd)] (A3 (B6 [(.sl Bd)])):=fun(x C8:Bsh)=>Option.bind (Ge N x C8 2) fun(y:Bsh)=>some y
def A3d(N:Nat):=D7 [Pa N] [] N 78 .lf [(.sl Bd),(.sl Bd)] [(.sl Bd)] (Sx N) mixed func78 rfl (by decide) rfl (by kernel_rfl)
def Ia(N:Nat):C1 [(.sl B2),(.sl B2),A0] (A3 (B6 [(.sl B2)])):=fun(x C8:A2 Bs6) (x_2:Int)=>Option.bind (Jp N x C8) fun(y:Bsh)=>iter (fun(rec:(A2 Bs6×Int×Unit)×Unit×Unit×Unit→A3 (List
 Bs6)) (z:(A2 Bs6×Int×Unit)×Unit×Unit×Unit)=>bif decide (z.1.2.1<(↑y.length:Int))then (at? y z.1.2.1).bind fun(e:Bs3)=>Option.bind (Fu N x e.1) fun(Bn:Bsh)=>(at? y z.1.2.1).bind fun(e:Bs3)=>Option.bind (Fu N C8 e.1)
 fun(F7:Bsh)=>Option.bind (Ft N Bn F7) fun(Gv:Bsh)=>Bw (fun(B9:(A2 Bs3×Unit)×Unit×Unit×Unit)=>Bw (fun(z_2:(A2 Bs3×Unit)×Unit×Unit×Unit)=>bif decide (0<(↑z_2.1.1.length:Int))then (at? y z.1.2.1).bind fun(e:Bs3)=>bif
 Aw (z.1.1.length + [(e.1,z_2.1.1)].length) 32 then rec ((z.1.1++[(e.1,z_2.1.1)],i64.wrap (z.1.2.1+1),()),(),(),())else none else rec ((z.1.1,i64.wrap (z.1.2.1+1),()),(),(),())) fun(k:(List
 Bs3×Unit)×Unit×Unit×Unit→A3 (A2 Bs6))=>bif x_2==2 then Option.bind (Sx N Bn F7) fun(y:Bsh)=>k ((y,()),(),(),())else k ((B9.1.1,()),(),(),())) fun(k:(A2 Bs3×Unit)×Unit×Unit×Unit→A3 (A2 Bs6))=>bif x_2==1
 then Option.bind (U1 N Bn F7) fun(y:Bsh)=>k ((y,()),(),(),())else k ((Gv,()),(),(),())else some z.1.1) N (([],0,()),(),(),())
def W6(N:Nat):=D7 [A5x N,U0 N,Tz N,A5y N,A3d N] [] N 31 (A1 (A1 (A1 (.seq (A1 (.blk (.loop ⟨[(7,.Bu 200007 B2 none),(9,.d A0)],[],[0,1,2,8],[],[],[]⟩ (A1 (.seq (.blk (A1 (A1 (.join ⟨[(12,.d (.sl Bd))],[],[0,1,2,7,8,9,10,11],[],[],[]⟩ .lf (.join ⟨[(12,.d (.sl Bd))],[],[0,1,2,7,8,9],[],[],[]⟩ .lf .lf))))) .lf))))) .lf)))) [(.sl B2),(.sl B2),A0] [(.sl B2)] (Ia N) mixed func31 rfl (by decide) rfl (by kernel_rfl)
def Fw(N:Nat):C1 [(.sl B2),(.sl B2)] (A3 (B6 [(.sl B2)])):=fun(x C8:A2 Bs6)=>Option.bind (Ia N x C8 0) fun(y:A2 Bs6)=>some y
def Ns(N:Nat):=D7 [W6 N] [] N 53 .lf [(.sl B2),(.sl B2)] [(.sl B2)] (Fw N) mixed func53 rfl (by decide) rfl (by kernel_rfl)
def Lv(N:Nat):C1 [(.sl Af)] (A3 (B6 [(.sl B2)])):=fun(x:Bsh)=>iter (fun(rec:(A2 Bs6×Int×Unit)×Unit×Unit×Unit→A3 (A2 Bs6)) (z:(A2 Bs6×Int×Unit)×Unit×Unit×Unit)=>bif decide
 (z.1.2.1<(↑x.length:Int))then (at? x z.1.2.1).bind fun(e:Bs3)=>Option.bind (Am N e) fun(y:Bool)=>bif y then (at? x z.1.2.1).bind fun(e:Bs3)=>(at? x z.1.2.1).bind fun(Cr:Bs3)=>(at? x z.1.2.1).bind
 fun(e_2:Bs3)=>Option.bind (Fw N z.1.1 [(e.1,[(Cr.2,e_2.2)])]) fun(y:A2 Bs6)=>rec ((y,i64.wrap (z.1.2.1+1),()),(),(),())else rec ((z.1.1,i64.wrap (z.1.2.1+1),()),(),(),())else some z.1.1) N
 (([],0,()),(),(),())
def Abb(N:Nat):=D7 [Ns N,Jo N] [] N 54 (A1 (A1 (.seq (A1 (.blk (.loop ⟨[(3,.d (.sl B2)),(4,.d A0)],[],[0],[],[],[]⟩ .lf))) .lf))) [(.sl Af)] [(.sl B2)] (Lv N) mixed func54 rfl (by decide) rfl (by kernel_rfl)
def D2(N:Nat):C1 [(.sl A5)] (A3 (B6 [(.sl Af)])):=fun(x:A2 Bs1)=>iter (fun(rec:Bsd×Unit×Unit×Unit→A3 Bsh) (z:Bsd×Unit×Unit×Unit)=>bif decide (z.1.2.1<(↑x.length:Int))then (at? x z.1.2.1).bind
 fun(e:Bs3×UInt8×Int×UInt8×A2 UInt8×A2 Bs3)=>Option.bind (Eu N z.1.1 e.1) fun(y:Bsh)=>iter (fun(rec_1:Bsd×Unit×Unit×Unit→A3 Bsh) (B9:Bsd×Unit×Unit×Unit)=>(at? x z.1.2.1).bind fun(e:Bs3×UInt8×Int×UInt8×List
 UInt8×A2 Bs3)=>bif decide (B9.1.2.1<(↑e.2.2.2.2.2.length:Int))then (at? x z.1.2.1).bind fun(e:Bs3×UInt8×Int×UInt8×A2 UInt8×A2 Bs3)=>(at? e.2.2.2.2.2 B9.1.2.1).bind fun(e:Bs3)=>Option.bind (Eu N B9.1.1 e)
 fun(y:Bsh)=>rec_1 ((y,i64.wrap (B9.1.2.1+1),()),(),(),())else rec ((B9.1.1,i64.wrap (z.1.2.1+1),()),(),(),())) N ((y,0,()),(),(),())else some z.1.1) N (([],0,()),(),(),())
def Nt(N:Nat):=D7 [W5 N] [] N 55 (A1 (A1 (.seq (A1 (.blk (.loop ⟨[(3,.d (.sl Af)),(4,.d A0)],[],[0],[],[],[]⟩ (A1 (.seq (.blk (A1 (A1 (.blk (.loop ⟨[(3,.d (.sl Af)),(5,.d A0)],[],[0,4],[],[],[]⟩ .lf))))) .lf))))) .lf))) [(.sl A5)] [(.sl Af)] (D2 N) mixed func55 rfl (by decide) rfl (by kernel_rfl)
def Ku(N:Nat):C1 [(.sl A5),A5] (A3 (B6 [(.sl A5)])):=fun(x:A2 Bs1) (C8:Bs3×UInt8×Int×UInt8×A2 UInt8×A2 Bs3)=>iter (fun(rec:(A2 Bs1×Bool×Int×Unit)×Unit×Unit×Unit→A3 (A2 Bs1)) (z:(List
 Bs1×Bool×Int×Unit)×Unit×Unit×Unit)=>bif decide (z.1.2.2.1<(↑x.length:Int))then (at? x z.1.2.2.1).bind fun(e:Bs3×UInt8×Int×UInt8×A2 UInt8×A2 Bs3)=>Option.bind (Es N e.1 C8.1) fun(y:Int)=>bif y==0 then some x else Bw
 (fun(B9:(A2 Bs1×Bool×Unit)×Unit×Unit×Unit)=>(at? x z.1.2.2.1).bind fun(e:Bs3×UInt8×Int×UInt8×A2 UInt8×A2 Bs3)=>bif Aw (B9.1.1.length + [e].length) 80 then rec ((B9.1.1++[e],B9.1.2.1,i64.wrap
 (z.1.2.2.1+1),()),(),(),())else none) fun(k:(A2 Bs1×Bool×Unit)×Unit×Unit×Unit→A3 (A2 Bs1))=>bif decide (0<y)then bif !z.1.2.1 then bif Aw (z.1.1.length + [C8].length) 80 then k
 ((z.1.1++[C8],true,()),(),(),())else none else k ((z.1.1,z.1.2.1,()),(),(),())else k ((z.1.1,z.1.2.1,()),(),(),())else bif !z.1.2.1 then bif Aw (z.1.1.length + [C8].length) 80 then some (z.1.1++[C8])else none else some
 z.1.1) N (([],false,0,()),(),(),())
def A8k(N:Nat):=D7 [P9 N] [] N 56 (A1 (A1 (A1 (.seq (A1 (.blk (.loop ⟨[(5,.Bu 200005 A5 none),(6,.d .bool),(7,.d A0)],[],[0,3],[1003],[],[]⟩ (A1 (.seq (.blk (A1 (A1 (.join ⟨[(5,.Bu 200005 A5 none),(6,.d .bool)],[],[0,3,7],[1003],[],[]⟩ .lf .lf)))) .lf))))) .lf)))) [(.sl A5),A5] [(.sl A5)] (Ku N) mixed func56 rfl (by decide) rfl (by kernel_rfl)
def Ib(N:Nat):C1 [Ax,A5] (A3 (B6 [Ax,A0])):=fun(x:Bsn) (C8:Bs3×UInt8×Int×UInt8×A2 UInt8×A2 Bs3)=>Option.bind (Hd N C8) fun(y:Bool)=>bif !y then some (x,1)else Option.bind (Et N x.1 C8.1)
 fun(y:Bool)=>bif y then some (x,7)else iter (fun(rec:Bsl×Unit×Unit×Unit→A3 (Bsn×Int)) (z:Bsl×Unit×Unit×Unit)=>bif decide (z.1.2.1<(↑x.2.length:Int))then (at? x.2 z.1.2.1).bind fun(e:Bs3×UInt8×Int×UInt8×List
 UInt8×A2 Bs3)=>bif e.2.1 != 1 then (at? x.2 z.1.2.1).bind fun(e:Bs3×UInt8×Int×UInt8×A2 UInt8×A2 Bs3)=>bif Aw (z.1.1.length + [e].length) 80 then rec ((z.1.1++[e],i64.wrap (z.1.2.1+1),()),(),(),())else none
 else (at? x.2 z.1.2.1).bind fun(e:Bs3×UInt8×Int×UInt8×A2 UInt8×A2 Bs3)=>Option.bind (Bj N C8.2.2.2.2.2 e.1) fun(y:Bool)=>bif !y then (at? x.2 z.1.2.1).bind fun(e:Bs3×UInt8×Int×UInt8×A2 UInt8×A2 Bs3)=>bif Aw
 (z.1.1.length + [e].length) 80 then rec ((z.1.1++[e],i64.wrap (z.1.2.1+1),()),(),(),())else none else rec ((z.1.1,i64.wrap (z.1.2.1+1),()),(),(),())else Option.bind (D2 N [C8]) fun(y:Bsh)=>Option.bind
 (Lv N y) fun(y:A2 Bs6)=>Option.bind (Fw N x.1 y) fun(y:A2 Bs6)=>Option.bind (Ku N z.1.1 C8) fun(Bn:A2 Bs1)=>some ((y,Bn),0)) N (([],0,()),(),(),())
def A8l(N:Nat):=D7 [Tx N,Kt N,W2 N,Ns N,Abb N,Nt N,A8k N] [] N 19 (A1 (A1 (A1 (A1 (.seq (A1 (.blk (.loop ⟨[(6,.Bu 200006 A5 none),(7,.d A0)],[],[2,3,4],[1002,1003,1004],[],[]⟩ .lf))) .lf))))) [Ax,A5] [Ax,A0] (Ib N) mixed func19 rfl (by decide) rfl (by kernel_rfl)
def Ij(N:Nat):C1 [(.sl A5),(.int .u64)] (A3 (B6 [(.sl Af)])):=fun(x:A2 Bs1) (C8:Int)=>iter (fun(rec:Bsl×Unit×Unit×Unit→A3 Bsh) (z:Bsl×Unit×Unit×Unit)=>bif decide (z.1.2.1<(↑x.length:Int))then (at?
 x z.1.2.1).bind fun(e:Bs3×UInt8×Int×UInt8×A2 UInt8×A2 Bs3)=>bif e.2.1==1 then (at? x z.1.2.1).bind fun(e:Bs3×UInt8×Int×UInt8×A2 UInt8×A2 Bs3)=>bif e.2.2.1==C8 then (at? x z.1.2.1).bind
 fun(e:Bs3×UInt8×Int×UInt8×A2 UInt8×A2 Bs3)=>bif Aw (z.1.1.length + [e].length) 80 then rec ((z.1.1++[e],i64.wrap (z.1.2.1+1),()),(),(),())else none else rec ((z.1.1,i64.wrap
 (z.1.2.1+1),()),(),(),())else rec ((z.1.1,i64.wrap (z.1.2.1+1),()),(),(),())else Option.bind (D2 N z.1.1) fun(y:Bsh)=>some y) N (([],0,()),(),(),())
def A1o(N:Nat):=D7 [Nt N] [] N 57 (A1 (A1 (.seq (A1 (.blk (.loop ⟨[(5,.Bu 200005 A5 none),(6,.d A0)],[],[0,1],[],[],[]⟩ .lf))) .lf))) [(.sl A5),(.int .u64)] [(.sl Af)] (Ij N) mixed func57 rfl (by decide) rfl (by kernel_rfl)
def Jq(N:Nat):C1 [(.sl A5),.u8] (A3 (B6 [(.sl A5)])):=fun(x:A2 Bs1) (C8:UInt8)=>iter (fun(rec:Bsl×Unit×Unit×Unit→A3 (A2 Bs1)) (z:Bsl×Unit×Unit×Unit)=>bif decide (z.1.2.1<(↑x.length:Int))then
 (at? x z.1.2.1).bind fun(e:Bs3×UInt8×Int×UInt8×A2 UInt8×A2 Bs3)=>bif e.2.1==C8 then (at? x z.1.2.1).bind fun(e:Bs3×UInt8×Int×UInt8×A2 UInt8×A2 Bs3)=>bif Aw (z.1.1.length + [e].length) 80 then rec
 ((z.1.1++[e],i64.wrap (z.1.2.1+1),()),(),(),())else none else rec ((z.1.1,i64.wrap (z.1.2.1+1),()),(),(),())else some z.1.1) N (([],0,()),(),(),())
def A5z(N:Nat):=D7 [] [] N 100 (A1 (A1 (.seq (A1 (.blk (.loop ⟨[(5,.Bu 200005 A5 none),(6,.d A0)],[],[0,1],[],[],[]⟩ .lf))) .lf))) [(.sl A5),.u8] [(.sl A5)] (Jq N) mixed func100 rfl (by decide) rfl (by kernel_rfl)
def He(N:Nat):C1 [Ax] (A3 (B6 [(.sl A5)])):=fun(x:Bsn)=>Option.bind (Jq N x.2 1) fun(y:A2 Bs1)=>some y
def A60(N:Nat):=D7 [A5z N] [] N 58 .lf [Ax] [(.sl A5)] (He N) mixed func58 rfl (by decide) rfl (by kernel_rfl)
def Jr(N:Nat):C1 [(.sl A5),(.int .u64),.u8] (A3 (B6 [(.sl Af)])):=fun(x:A2 Bs1) (C8:Int) (x_2:UInt8)=>iter (fun(rec:Bsl×Unit×Unit×Unit→A3 Bsh) (z:Bsl×Unit×Unit×Unit)=>bif decide
 (z.1.2.1<(↑x.length:Int))then (at? x z.1.2.1).bind fun(e:Bs3×UInt8×Int×UInt8×A2 UInt8×A2 Bs3)=>bif e.2.1==1 then (at? x z.1.2.1).bind fun(e:Bs3×UInt8×Int×UInt8×A2 UInt8×A2 Bs3)=>bif e.2.2.1==C8 then (at? x
 z.1.2.1).bind fun(e:Bs3×UInt8×Int×UInt8×A2 UInt8×A2 Bs3)=>bif e.2.2.2.1==x_2 then (at? x z.1.2.1).bind fun(e:Bs3×UInt8×Int×UInt8×A2 UInt8×A2 Bs3)=>bif Aw (z.1.1.length + [e].length) 80 then rec
 ((z.1.1++[e],i64.wrap (z.1.2.1+1),()),(),(),())else none else rec ((z.1.1,i64.wrap (z.1.2.1+1),()),(),(),())else rec ((z.1.1,i64.wrap (z.1.2.1+1),()),(),(),())else rec ((z.1.1,i64.wrap
 (z.1.2.1+1),()),(),(),())else Option.bind (D2 N z.1.1) fun(y:Bsh)=>some y) N (([],0,()),(),(),())
def A61(N:Nat):=D7 [Nt N] [] N 59 (A1 (A1 (.seq (A1 (.blk (.loop ⟨[(7,.Bu 200007 A5 none),(8,.d A0)],[],[0,1,2],[],[],[]⟩ .lf))) .lf))) [(.sl A5),(.int .u64),.u8] [(.sl Af)] (Jr N) mixed func59 rfl (by decide) rfl (by kernel_rfl)
def Js(N:Nat):C1 [Ax,A5] (A3 (B6 [A5,A0])):=fun(x:Bsn) (C8:Bs3×UInt8×Int×UInt8×A2 UInt8×A2 Bs3)=>Option.bind (Hd N (C8.1,C8.2.1,C8.2.2.1,C8.2.2.2.1,C8.2.2.2.2.1,[])) fun(y:Bool)=>bif !y
 then some (((0,0),0,0,0,[],[]),1)else Option.bind (Et N x.1 C8.1) fun(y:Bool)=>bif y then some (((0,0),0,0,0,[],[]),7)else Option.bind (He N x) fun(y:A2 Bs1)=>Option.bind (Ij N y C8.2.2.1) fun(y:Bsh)=>Bw
 (fun(z:Unit×((Bs1×Unit)×Unit)×Unit×Unit)=>bif decide (256<(↑z.2.1.1.1.2.2.2.2.2.length:Int))then some (((0,0),0,0,0,[],[]),3)else some (z.2.1.1.1,0)) fun(k:Unit×((Bs1×Unit)×Unit)×Unit×Unit→A3 (Bs1×Int))=>bif
 C8.2.1==1 then Option.bind (He N x) fun(y:A2 Bs1)=>Option.bind (Jr N y C8.2.2.1 C8.2.2.2.1) fun(y:Bsh)=>k ((),(((C8.1,C8.2.1,C8.2.2.1,C8.2.2.2.1,C8.2.2.2.2.1,y),()),()),(),())else k
 ((),(((C8.1,C8.2.1,C8.2.2.1,C8.2.2.2.1,C8.2.2.2.2.1,y),()),()),(),())
def A62(N:Nat):=D7 [Tx N,Kt N,A1o N,A60 N,A61 N] [] N 20 (A1 (A1 (A1 (A1 (A1 (.join ⟨[],[(1003,[.d A5],some 44)],[3,4],[1004],[],[]⟩ .lf .lf)))))) [Ax,A5] [A5,A0] (Js N) mixed func20 rfl (by decide) rfl (by kernel_rfl)
def Kv(N:Nat):C1 [Ax,(.sl B2)] (A3 (B6 [Ax])):=fun(x:Bsn) (C8:A2 Bs6)=>Option.bind (Fw N x.1 C8) fun(y:A2 Bs6)=>some (y,x.2)
def A8m(N:Nat):=D7 [Ns N] [] N 21 .lf [Ax,(.sl B2)] [Ax] (Kv N) mixed func21 rfl (by decide) rfl (by kernel_rfl)
def Gq(N:Nat):C1 [A5,(.sl B2)] (A3 (B6 [A5])):=fun(x:Bs3×UInt8×Int×UInt8×A2 UInt8×A2 Bs3) (C8:A2 Bs6)=>Option.bind (Et N C8 x.1) fun(y:Bool)=>bif y then some
 (x.1,x.2.1,x.2.2.1,x.2.2.2.1,x.2.2.2.2.1,[])else some x
def A3e(N:Nat):=D7 [Kt N] [] N 60 .lf [A5,(.sl B2)] [A5] (Gq N) mixed func60 rfl (by decide) rfl (by kernel_rfl)
def J4(N:Nat):C1 [Ax,(.sl B2)] (A3 (B6 [Ax,A0])):=fun(x:Bsn) (C8:A2 Bs6)=>iter (fun(rec:Bsl×Unit×Unit×Unit→A3 (Bsn×Int)) (z:Bsl×Unit×Unit×Unit)=>bif decide (z.1.2.1<(↑x.2.length:Int))then
 (at? x.2 z.1.2.1).bind fun(e:Bs3×UInt8×Int×UInt8×A2 UInt8×A2 Bs3)=>bif e.2.1==1 then (at? x.2 z.1.2.1).bind fun(e:Bs3×UInt8×Int×UInt8×A2 UInt8×A2 Bs3)=>Option.bind (Gq N e C8) fun(y:Bs3×UInt8×Int×UInt8×List
 UInt8×A2 Bs3)=>bif Aw (z.1.1.length + [y].length) 80 then rec ((z.1.1++[y],i64.wrap (z.1.2.1+1),()),(),(),())else none else (at? x.2 z.1.2.1).bind fun(e:Bs3×UInt8×Int×UInt8×A2 UInt8×A2 Bs3)=>Option.bind
 (Et N C8 e.1) fun(y:Bool)=>bif !y then (at? x.2 z.1.2.1).bind fun(e:Bs3×UInt8×Int×UInt8×A2 UInt8×A2 Bs3)=>Option.bind (Gq N e C8) fun(y:Bs3×UInt8×Int×UInt8×A2 UInt8×A2 Bs3)=>bif Aw (z.1.1.length + [y].length) 80
 then rec ((z.1.1++[y],i64.wrap (z.1.2.1+1),()),(),(),())else none else rec ((z.1.1,i64.wrap (z.1.2.1+1),()),(),(),())else some ((x.1,z.1.1),i64.wrap ((↑x.2.length:Int)-(↑z.1.1.length:Int)))) N
 (([],0,()),(),(),())
def A3f(N:Nat):=D7 [Kt N,A3e N] [] N 22 (A1 (A1 (.seq (A1 (.blk (.loop ⟨[(6,.Bu 200006 A5 none),(7,.d A0)],[],[1,2,4],[1002,1004],[],[]⟩ .lf))) .lf))) [Ax,(.sl B2)] [Ax,A0] (J4 N) mixed func22 rfl (by decide) rfl (by kernel_rfl)
def Lw(N:Nat):C1 [(.sl tepitaphlaw18Act)] (A3 (B6 [Ax])):=fun(x:A2 (UInt8×Bs1×A2 Bs6))=>iter (fun(rec:Bs7×((Bsn×Unit)×Unit)×Unit×Unit→A3 Bsn) (z:Bs7×((Bsn×Unit)×Unit)×Unit×Unit)=>bif decide
 (z.1.1<(↑x.length:Int))then (at? x z.1.1).bind fun(e:UInt8×Bs1×A2 Bs6)=>bif e.1==0 then Option.bind (Ib N z.2.1.1.1 e.2.1) fun(y:Bsn×Int)=>rec ((i64.wrap (z.1.1+1),()),((y.1,()),()),(),())else bif e.1==1 then
 Option.bind (Js N z.2.1.1.1 e.2.1) fun(y:Bs1×Int)=>Option.bind (Ib N z.2.1.1.1 y.1) fun(y:Bsn×Int)=>rec ((i64.wrap (z.1.1+1),()),((y.1,()),()),(),())else bif e.1==2 then Option.bind (Kv N z.2.1.1.1 e.2.2)
 fun(y:Bsn)=>rec ((i64.wrap (z.1.1+1),()),((y,()),()),(),())else bif e.1==3 then Option.bind (J4 N z.2.1.1.1 e.2.2) fun(y:Bsn×Int)=>rec ((i64.wrap (z.1.1+1),()),((y.1,()),()),(),())else rec
 ((i64.wrap (z.1.1+1),()),((z.2.1.1.1,()),()),(),())else some z.2.1.1.1) N ((0,()),((([],[]),()),()),(),())
def Abc(N:Nat):=D7 [A8l N,A62 N,A8m N,A3f N] [] N 6 (A1 (A1 (.seq (A1 (.blk (.loop ⟨[(4,.d A0)],[(1003,[.d Ax],some 29)],[0,2,3],[1002],[],[]⟩ .lf))) .lf))) [(.sl tepitaphlaw18Act)] [Ax] (Lw N) mixed func6 rfl (by decide) rfl (by kernel_rfl)
def Jt(N:Nat):C1 [(.sl B2)] (A3 (B6 [(.sl B2)])):=fun(x:A2 Bs6)=>Option.bind (Ia N x [] 0) fun(y:A2 Bs6)=>some y
def A63(N:Nat):=D7 [W6 N] [] N 8 .lf [(.sl B2)] [(.sl B2)] (Jt N) mixed func8 rfl (by decide) rfl (by kernel_rfl)
@[reducible] def Sh1:Sh:=.d (.sl B2) (.m Af A5 (.m Af A5 .nil))
@[reducible] def A0x:Fg:=⟨[.p 1 777777777,.d A5],[],[(1,.map Af A5)],⟨[(4,.p 1 777777777)],[],[],[],[],[(1,.map Af A5)]⟩⟩
def Kw(N:Nat):Fg.C1 A0x (A3 A0x.out.T):=fun(y:Bs3×UInt8×Int×UInt8×A2 UInt8×A2 Bs3) (l:Bsc)=>Option.bind (Bf N y) fun(Bn:Bs3×UInt8×Int×UInt8×A2 UInt8×A2 Bs3)=>some (((),()),(),(),(A6l Af A5 y.1
 Bn l.2 l.1,A2m Af A5 y.1 l.1 l.2),())
def Asg(N:Nat):=M0 [Gk N] [] N 27 .lf A0x (Kw N) mixed func27 rfl (by decide) rfl rfl rfl (by kernel_rfl)
@[reducible] def A0y:Fg:=⟨[.nil false,.d A5],[],[],⟨[(4,.p 1007 777777777)],[],[],[],[],[(1007,.map Af A5)]⟩⟩
def Kx(N:Nat):Fg.C1 A0y (A3 A0y.out.T):=fun(y:Bs3×UInt8×Int×UInt8×A2 UInt8×A2 Bs3)=>Option.bind (Bf N y) fun(Bn:Bs3×UInt8×Int×UInt8×A2 UInt8×A2 Bs3)=>some (((),()),(),(),(A6l Af A5 y.1 Bn 0
 [],A2m Af A5 y.1 [] 0),())
def Ash(N:Nat):=M0 [Gk N] [] N 27 .lf A0y (Kx N) mixed func27 rfl (by decide) rfl rfl rfl (by kernel_rfl)
@[reducible] def Yd:Fg:=⟨[.p 1 900001001],[(1,[.p 2 777777777],some 65)],[(2,.map Af A5)],⟨[(2,.d (.sl A5))],[],[],[1,2],[],[]⟩⟩
def Hr(N:Nat):Fg.C1 Yd (A3 Yd.out.T):=fun(l:Bsc)=>iter (fun(rec:Unit×Unit×Bs4×Bsb×Unit→A3 Bs8) (z:Unit×Unit×Bs4×Bsb×Unit)=>A4 z.2.2.1.1 (bif Io z.2.2.2.1.1 z.2.2.2.1.2.2 l.1 then Ef (B4
 z.2.2.2.1.2.1 l.1) (some (([],()),(),(),())) fun(e:Nat×Bs3×Bs3×UInt8×Int×UInt8×A2 UInt8×A2 Bs3)=>bif l.2.beq l.2 then A4 (Dg (z.2.2.2.1.2.1++[e.1])) none fun(p:A2 Nat×Nat)=>A4 (Cx Af A5 p.2 l.1) none
 fun(Cr:Nat×Bs3×Bs3×UInt8×Int×UInt8×A2 UInt8×A2 Bs3)=>Option.bind (Bf N Cr.2.2) fun(y:Bs3×UInt8×Int×UInt8×A2 UInt8×A2 Bs3)=>rec ((),(),(some ([y],[y].length),()),(z.2.2.2.1.1,z.2.2.2.1.2.1++[e.1],l.2),())else
 none else none) fun(y:A2 Bs1×Nat)=>bif Io z.2.2.2.1.1 z.2.2.2.1.2.2 l.1 then Ef (B4 z.2.2.2.1.2.1 l.1) (bif y.2.ble y.1.length then bif y.2.ble 4611686018427387903 then bif Cs (List.take y.2 y.1)then bif bif
 (0+y.2).ble (Ai (List.take y.2 y.1)++List.drop y.2 y.1).length then true else false then some ((List.take y.2 (List.drop 0 (Ai (List.take y.2 y.1)++List.drop y.2 y.1)),()),(),(),())else none else none else none else
 none) fun(e:Nat×Bs3×Bs3×UInt8×Int×UInt8×A2 UInt8×A2 Bs3)=>bif l.2.beq l.2 then A4 (Dg (z.2.2.2.1.2.1++[e.1])) none fun(p:A2 Nat×Nat)=>A4 (Cx Af A5 p.2 l.1) none fun(Cr:Nat×Bs3×Bs3×UInt8×Int×UInt8×A2 UInt8×List
 Bs3)=>Option.bind (Bf N Cr.2.2) fun(Bn:Bs3×UInt8×Int×UInt8×A2 UInt8×A2 Bs3)=>bif y.1.length.beq y.2 then bif Aw (y.2 + [Bn].length) 80 then rec ((),(),(some (y.1++[Bn],y.2 +
 [Bn].length),()),(z.2.2.2.1.1,z.2.2.2.1.2.1++[e.1],l.2),())else none else none else none else none) N ((),(),(none,()),(l.2,[],l.2),())
def Alu(N:Nat):=M0 [Gk N,Bb N] [24] N 32 (A1 (A1 (.seq (A1 (.blk (.rnd (A1 (A1 (.seq (.blk (A1 (A1 (.blk (.loop ⟨[],[],[8,9,10,15],[1,2],[(3,400003,A5)],[(1015,.Jg 2)]⟩ .lf))))) .lf))) (.rnd (A1 (A1 (.seq (.blk (A1 (A1 (.blk (.loop ⟨[],[],[8,9,10,15],[1,2],[(3,400003,A5)],[(1015,.Dt)]⟩ .lf))))) .lf))) (.rnd (A1 (A1 (.seq (.blk (A1 (A1 (.blk (.loop ⟨[],[],[8,9,10,15],[1,2],[(3,400003,A5)],[(1015,.Dt)]⟩ .lf))))) .lf))) .lf))))) (.fz [3] .lf .lf)))) Yd (Hr N) mixed func32 rfl (by decide) rfl rfl rfl (by kernel_rfl)
@[reducible] def Ye:Fg:=⟨[.p 1 900001001],[(1,[.Wo],some 65)],[],⟨[(2,.d (.sl A5))],[],[],[1],[],[]⟩⟩
def Je(N:Nat):Fg.C1 Ye (A3 Ye.out.T):=iter (fun(rec:Unit×Unit×Bs4×Unit×Unit→A3 Bs8) (z:Unit×Unit×Bs4×Unit×Unit)=>A4 z.2.2.1.1 (some (([],()),(),(),())) fun(y:A2 Bs1×Nat)=>bif y.2.ble y.1.length
 then bif y.2.ble 4611686018427387903 then bif Cs (List.take y.2 y.1)then bif bif (0+y.2).ble (Ai (List.take y.2 y.1)++List.drop y.2 y.1).length then true else false then some ((List.take y.2 (List.drop 0 (Ai (List.take
 y.2 y.1)++List.drop y.2 y.1)),()),(),(),())else none else none else none else none) N ((),(),(none,()),(),())
def Alv(N:Nat):=M0 [Gk N,Bb N] [24] N 32 (A1 (A1 (.seq (A1 (.blk (.rnd (A1 (A1 (.seq (.blk (A1 (A1 (.blk (.loop ⟨[],[],[8,9,10,15],[1],[(3,400003,A5)],[(1015,.Dt)]⟩ .lf))))) .lf))) (.rnd (A1 (A1 (.seq (.blk (A1 (A1 (.blk (.loop ⟨[],[],[8,9,10,15],[1],[(3,400003,A5)],[(1015,.Dt)]⟩ .lf))))) .lf))) (.rnd (A1 (A1 (.seq (.blk (A1 (A1 (.blk (.loop ⟨[],[],[8,9,10,15],[1],[(3,400003,A5)],[(1015,.Dt)]⟩ .lf))))) .lf))) .lf))))) (.fz [3] .lf .lf)))) Ye (Je N) mixed func32 rfl (by decide) rfl rfl rfl (by kernel_rfl)
@[reducible] def W7:Fg:=⟨[.p 1 900002001],[(1,[.p 2 777777777,.p 3 777777777],some 65)],[(2,.map Af A5),(3,.map Af A5)],⟨[(2,.d (.sl A5))],[],[],[1,2,3],[],[]⟩⟩
def Aji(N:Nat):Fg.C1 W7 (A3 W7.out.T):=fun(l l_1:Bsc)=>Bw (fun(z:Unit×Unit×Bs4×Unit)=>A4 z.2.2.1.1 (Bw (fun(z:Unit×Unit×Bs4×Unit)=>A4 z.2.2.1.1 (some (([],()),(),(),())) fun(y:A2 Bs1×Nat)=>bif y.2.ble
 y.1.length then bif y.2.ble 4611686018427387903 then bif Cs (List.take y.2 y.1)then bif bif (0+y.2).ble (Ai (List.take y.2 y.1)++List.drop y.2 y.1).length then true else false then some ((List.take y.2 (List.drop 0 (Ai
 (List.take y.2 y.1)++List.drop y.2 y.1)),()),(),(),())else none else none else none else none) fun(k:Unit×Unit×Bs4×Unit→A3 Bs8)=>iter (fun(rec:Unit×Unit×Bs4×Bsb×Unit→A3 Bs8) (z:Unit×Unit×Bs4×Bsb×Unit)=>A4
 z.2.2.1.1 (bif Io z.2.2.2.1.1 z.2.2.2.1.2.2 l_1.1 then Ef (B4 z.2.2.2.1.2.1 l_1.1) (k ((),(),(none,()),())) fun(e:Nat×Bs3×Bs3×UInt8×Int×UInt8×A2 UInt8×A2 Bs3)=>bif l_1.2.beq l_1.2 then A4 (Dg (z.2.2.2.1.2.1++[e.1]))
 none fun(p:A2 Nat×Nat)=>A4 (Cx Af A5 p.2 l_1.1) none fun(Cr:Nat×Bs3×Bs3×UInt8×Int×UInt8×A2 UInt8×A2 Bs3)=>Option.bind (Bf N Cr.2.2) fun(y:Bs3×UInt8×Int×UInt8×A2 UInt8×A2 Bs3)=>rec ((),(),(some
 ([y],[y].length),()),(z.2.2.2.1.1,z.2.2.2.1.2.1++[e.1],l_1.2),())else none else none) fun(y:A2 Bs1×Nat)=>bif Io z.2.2.2.1.1 z.2.2.2.1.2.2 l_1.1 then Ef (B4 z.2.2.2.1.2.1 l_1.1) (k ((),(),(some y,()),()))
 fun(e:Nat×Bs3×Bs3×UInt8×Int×UInt8×A2 UInt8×A2 Bs3)=>bif l_1.2.beq l_1.2 then A4 (Dg (z.2.2.2.1.2.1++[e.1])) none fun(p:A2 Nat×Nat)=>A4 (Cx Af A5 p.2 l_1.1) none fun(Cr:Nat×Bs3×Bs3×UInt8×Int×UInt8×A2 UInt8×List
 Bs3)=>Option.bind (Bf N Cr.2.2) fun(Bn:Bs3×UInt8×Int×UInt8×A2 UInt8×A2 Bs3)=>bif y.1.length.beq y.2 then bif Aw (y.2 + [Bn].length) 80 then rec ((),(),(some (y.1++[Bn],y.2 +
 [Bn].length),()),(z.2.2.2.1.1,z.2.2.2.1.2.1++[e.1],l_1.2),())else none else none else none else none) N ((),(),(none,()),(l_1.2,[],l_1.2),())) fun(y:A2 Bs1×Nat)=>Bw (fun(z:Unit×Unit×Bs4×Unit)=>A4 z.2.2.1.1 (some
 (([],()),(),(),())) fun(y:A2 Bs1×Nat)=>bif y.2.ble y.1.length then bif y.2.ble 4611686018427387903 then bif Cs (List.take y.2 y.1)then bif bif (0+y.2).ble (Ai (List.take y.2 y.1)++List.drop y.2 y.1).length then true
 else false then some ((List.take y.2 (List.drop 0 (Ai (List.take y.2 y.1)++List.drop y.2 y.1)),()),(),(),())else none else none else none else none) fun(k:Unit×Unit×Bs4×Unit→A3 Bs8)=>iter
 (fun(rec:Unit×Unit×Bs4×Bsb×Unit→A3 Bs8) (z:Unit×Unit×Bs4×Bsb×Unit)=>A4 z.2.2.1.1 (bif Io z.2.2.2.1.1 z.2.2.2.1.2.2 l_1.1 then Ef (B4 z.2.2.2.1.2.1 l_1.1) (k ((),(),(none,()),()))
 fun(e:Nat×Bs3×Bs3×UInt8×Int×UInt8×A2 UInt8×A2 Bs3)=>bif l_1.2.beq l_1.2 then A4 (Dg (z.2.2.2.1.2.1++[e.1])) none fun(p:A2 Nat×Nat)=>A4 (Cx Af A5 p.2 l_1.1) none fun(Cr:Nat×Bs3×Bs3×UInt8×Int×UInt8×A2 UInt8×List
 Bs3)=>Option.bind (Bf N Cr.2.2) fun(y:Bs3×UInt8×Int×UInt8×A2 UInt8×A2 Bs3)=>rec ((),(),(some ([y],[y].length),()),(z.2.2.2.1.1,z.2.2.2.1.2.1++[e.1],l_1.2),())else none else none) fun(y:A2 Bs1×Nat)=>bif Io
 z.2.2.2.1.1 z.2.2.2.1.2.2 l_1.1 then Ef (B4 z.2.2.2.1.2.1 l_1.1) (k ((),(),(some y,()),())) fun(e:Nat×Bs3×Bs3×UInt8×Int×UInt8×A2 UInt8×A2 Bs3)=>bif l_1.2.beq l_1.2 then A4 (Dg (z.2.2.2.1.2.1++[e.1])) none fun(p:List
 Nat×Nat)=>A4 (Cx Af A5 p.2 l_1.1) none fun(Cr:Nat×Bs3×Bs3×UInt8×Int×UInt8×A2 UInt8×A2 Bs3)=>Option.bind (Bf N Cr.2.2) fun(Bn:Bs3×UInt8×Int×UInt8×A2 UInt8×A2 Bs3)=>bif y.1.length.beq y.2 then bif Aw (y.2 +
 [Bn].length) 80 then rec ((),(),(some (y.1++[Bn],y.2 + [Bn].length),()),(z.2.2.2.1.1,z.2.2.2.1.2.1++[e.1],l_1.2),())else none else none else none else none) N ((),(),(some y,()),(l_1.2,[],l_1.2),()))
 fun(k:Unit×Unit×Bs4×Unit→A3 Bs8)=>iter (fun(rec:Unit×Unit×Bs4×Bsb×Unit→A3 Bs8) (z:Unit×Unit×Bs4×Bsb×Unit)=>A4 z.2.2.1.1 (bif Io z.2.2.2.1.1 z.2.2.2.1.2.2 l.1 then Ef (B4 z.2.2.2.1.2.1 l.1) (k
 ((),(),(none,()),())) fun(e:Nat×Bs3×Bs3×UInt8×Int×UInt8×A2 UInt8×A2 Bs3)=>bif l.2.beq l.2 then A4 (Dg (z.2.2.2.1.2.1++[e.1])) none fun(p:A2 Nat×Nat)=>A4 (Cx Af A5 p.2 l.1) none
 fun(Cr:Nat×Bs3×Bs3×UInt8×Int×UInt8×A2 UInt8×A2 Bs3)=>Option.bind (Bf N Cr.2.2) fun(y:Bs3×UInt8×Int×UInt8×A2 UInt8×A2 Bs3)=>rec ((),(),(some ([y],[y].length),()),(z.2.2.2.1.1,z.2.2.2.1.2.1++[e.1],l.2),())else
 none else none) fun(y:A2 Bs1×Nat)=>bif Io z.2.2.2.1.1 z.2.2.2.1.2.2 l.1 then Ef (B4 z.2.2.2.1.2.1 l.1) (k ((),(),(some y,()),())) fun(e:Nat×Bs3×Bs3×UInt8×Int×UInt8×A2 UInt8×A2 Bs3)=>bif l.2.beq l.2 then A4 (Dg
 (z.2.2.2.1.2.1++[e.1])) none fun(p:A2 Nat×Nat)=>A4 (Cx Af A5 p.2 l.1) none fun(Cr:Nat×Bs3×Bs3×UInt8×Int×UInt8×A2 UInt8×A2 Bs3)=>Option.bind (Bf N Cr.2.2) fun(Bn:Bs3×UInt8×Int×UInt8×A2 UInt8×A2 Bs3)=>bif
 y.1.length.beq y.2 then bif Aw (y.2 + [Bn].length) 80 then rec ((),(),(some (y.1++[Bn],y.2 + [Bn].length),()),(z.2.2.2.1.1,z.2.2.2.1.2.1++[e.1],l.2),())else none else none else none else none) N
 ((),(),(none,()),(l.2,[],l.2),())
def Ajj(N:Nat):=M0 [Gk N,Bb N] [24] N 32 (A1 (A1 (.seq (A1 (.blk (.rnd (A1 (A1 (.join ⟨[],[],[8,9,10],[1,2,3],[(3,400003,A5)],[]⟩ (.blk (A1 (A1 (.blk (.loop ⟨[],[],[8,9,10,15],[1,2,3],[(3,400003,A5)],[(1015,.Jg 2)]⟩ .lf))))) .lf))) (.rnd (A1 (A1 (.join ⟨[],[],[8,9,10],[1,2,3],[(3,400003,A5)],[]⟩ (.blk (A1 (A1 (.blk (.loop ⟨[],[],[8,9,10,15],[1,2,3],[(3,400003,A5)],[(1015,.Jg 3)]⟩ .lf))))) .lf))) (.rnd (A1 (A1 (.join ⟨[],[],[8,9,10],[1,2,3],[(3,400003,A5)],[]⟩ (.blk (A1 (A1 (.blk (.loop ⟨[],[],[8,9,10,15],[1,2,3],[(3,400003,A5)],[(1015,.Dt)]⟩ .lf))))) .lf))) .lf))))) (.fz [3] .lf .lf)))) W7 (Aji N) mixed func32 rfl (by decide) rfl rfl rfl (by kernel_rfl)
@[reducible] def W8:Fg:=⟨[.p 1 900002001],[(1,[.p 2 777777777,.Wo],some 65)],[(2,.map Af A5)],⟨[(2,.d (.sl A5))],[],[],[1,2],[],[]⟩⟩
def Ajk(N:Nat):Fg.C1 W8 (A3 W8.out.T):=fun(l:Bsc)=>Bw (fun(z:Unit×Unit×Bs4×Unit)=>A4 z.2.2.1.1 (Bw (fun(z:Unit×Unit×Bs4×Unit)=>A4 z.2.2.1.1 (some (([],()),(),(),())) fun(y:A2 Bs1×Nat)=>bif y.2.ble
 y.1.length then bif y.2.ble 4611686018427387903 then bif Cs (List.take y.2 y.1)then bif bif (0+y.2).ble (Ai (List.take y.2 y.1)++List.drop y.2 y.1).length then true else false then some ((List.take y.2 (List.drop 0 (Ai
 (List.take y.2 y.1)++List.drop y.2 y.1)),()),(),(),())else none else none else none else none) fun(k:Unit×Unit×Bs4×Unit→A3 Bs8)=>iter (fun(rec:Unit×Unit×Bs4×Unit×Unit→A3 Bs8) (z:Unit×Unit×Bs4×Unit×Unit)=>A4
 z.2.2.1.1 (k ((),(),(none,()),())) fun(y:A2 Bs1×Nat)=>k ((),(),(some y,()),())) N ((),(),(none,()),(),())) fun(y:A2 Bs1×Nat)=>Bw (fun(z:Unit×Unit×Bs4×Unit)=>A4 z.2.2.1.1 (some (([],()),(),(),())) fun(y:List
 Bs1×Nat)=>bif y.2.ble y.1.length then bif y.2.ble 4611686018427387903 then bif Cs (List.take y.2 y.1)then bif bif (0+y.2).ble (Ai (List.take y.2 y.1)++List.drop y.2 y.1).length then true else false then some ((List.take
 y.2 (List.drop 0 (Ai (List.take y.2 y.1)++List.drop y.2 y.1)),()),(),(),())else none else none else none else none) fun(k:Unit×Unit×Bs4×Unit→A3 Bs8)=>iter (fun(rec:Unit×Unit×Bs4×Unit×Unit→A3 Bs8)
 (z:Unit×Unit×Bs4×Unit×Unit)=>A4 z.2.2.1.1 (k ((),(),(none,()),())) fun(y:A2 Bs1×Nat)=>k ((),(),(some y,()),())) N ((),(),(some y,()),(),())) fun(k:Unit×Unit×Bs4×Unit→A3 Bs8)=>iter
 (fun(rec:Unit×Unit×Bs4×Bsb×Unit→A3 Bs8) (z:Unit×Unit×Bs4×Bsb×Unit)=>A4 z.2.2.1.1 (bif Io z.2.2.2.1.1 z.2.2.2.1.2.2 l.1 then Ef (B4 z.2.2.2.1.2.1 l.1) (k ((),(),(none,()),())) fun(e:Nat×Bs3×Bs3×UInt8×Int×UInt8×List
 UInt8×A2 Bs3)=>bif l.2.beq l.2 then A4 (Dg (z.2.2.2.1.2.1++[e.1])) none fun(p:A2 Nat×Nat)=>A4 (Cx Af A5 p.2 l.1) none fun(Cr:Nat×Bs3×Bs3×UInt8×Int×UInt8×A2 UInt8×A2 Bs3)=>Option.bind (Bf N Cr.2.2)
 fun(y:Bs3×UInt8×Int×UInt8×A2 UInt8×A2 Bs3)=>rec ((),(),(some ([y],[y].length),()),(z.2.2.2.1.1,z.2.2.2.1.2.1++[e.1],l.2),())else none else none) fun(y:A2 Bs1×Nat)=>bif Io z.2.2.2.1.1 z.2.2.2.1.2.2 l.1 then Ef (B4
 z.2.2.2.1.2.1 l.1) (k ((),(),(some y,()),())) fun(e:Nat×Bs3×Bs3×UInt8×Int×UInt8×A2 UInt8×A2 Bs3)=>bif l.2.beq l.2 then A4 (Dg (z.2.2.2.1.2.1++[e.1])) none fun(p:A2 Nat×Nat)=>A4 (Cx Af A5 p.2 l.1) none
 fun(Cr:Nat×Bs3×Bs3×UInt8×Int×UInt8×A2 UInt8×A2 Bs3)=>Option.bind (Bf N Cr.2.2) fun(Bn:Bs3×UInt8×Int×UInt8×A2 UInt8×A2 Bs3)=>bif y.1.length.beq y.2 then bif Aw (y.2 + [Bn].length) 80 then rec ((),(),(some
 (y.1++[Bn],y.2 + [Bn].length),()),(z.2.2.2.1.1,z.2.2.2.1.2.1++[e.1],l.2),())else none else none else none else none) N ((),(),(none,()),(l.2,[],l.2),())
def Ajl(N:Nat):=M0 [Gk N,Bb N] [24] N 32 (A1 (A1 (.seq (A1 (.blk (.rnd (A1 (A1 (.join ⟨[],[],[8,9,10],[1,2],[(3,400003,A5)],[]⟩ (.blk (A1 (A1 (.blk (.loop ⟨[],[],[8,9,10,15],[1,2],[(3,400003,A5)],[(1015,.Jg 2)]⟩ .lf))))) .lf))) (.rnd (A1 (A1 (.join ⟨[],[],[8,9,10],[1,2],[(3,400003,A5)],[]⟩ (.blk (A1 (A1 (.blk (.loop ⟨[],[],[8,9,10,15],[1,2],[(3,400003,A5)],[(1015,.Dt)]⟩ .lf))))) .lf))) (.rnd (A1 (A1 (.join ⟨[],[],[8,9,10],[1,2],[(3,400003,A5)],[]⟩ (.blk (A1 (A1 (.blk (.loop ⟨[],[],[8,9,10,15],[1,2],[(3,400003,A5)],[(1015,.Dt)]⟩ .lf))))) .lf))) .lf))))) (.fz [3] .lf .lf)))) W8 (Ajk N) mixed func32 rfl (by decide) rfl rfl rfl (by kernel_rfl)
@[reducible] def W9:Fg:=⟨[.p 1 900002001],[(1,[.Wo,.p 3 777777777],some 65)],[(3,.map Af A5)],⟨[(2,.d (.sl A5))],[],[],[1,3],[],[]⟩⟩
def Ajm(N:Nat):Fg.C1 W9 (A3 W9.out.T):=fun(l:Bsc)=>Bw (fun(z:Unit×Unit×Bs4×Unit)=>A4 z.2.2.1.1 (Bw (fun(z:Unit×Unit×Bs4×Unit)=>A4 z.2.2.1.1 (some (([],()),(),(),())) fun(y:A2 Bs1×Nat)=>bif y.2.ble
 y.1.length then bif y.2.ble 4611686018427387903 then bif Cs (List.take y.2 y.1)then bif bif (0+y.2).ble (Ai (List.take y.2 y.1)++List.drop y.2 y.1).length then true else false then some ((List.take y.2 (List.drop 0 (Ai
 (List.take y.2 y.1)++List.drop y.2 y.1)),()),(),(),())else none else none else none else none) fun(k:Unit×Unit×Bs4×Unit→A3 Bs8)=>iter (fun(rec:Unit×Unit×Bs4×Bsb×Unit→A3 Bs8) (z:Unit×Unit×Bs4×Bsb×Unit)=>A4
 z.2.2.1.1 (bif Io z.2.2.2.1.1 z.2.2.2.1.2.2 l.1 then Ef (B4 z.2.2.2.1.2.1 l.1) (k ((),(),(none,()),())) fun(e:Nat×Bs3×Bs3×UInt8×Int×UInt8×A2 UInt8×A2 Bs3)=>bif l.2.beq l.2 then A4 (Dg (z.2.2.2.1.2.1++[e.1])) none
 fun(p:A2 Nat×Nat)=>A4 (Cx Af A5 p.2 l.1) none fun(Cr:Nat×Bs3×Bs3×UInt8×Int×UInt8×A2 UInt8×A2 Bs3)=>Option.bind (Bf N Cr.2.2) fun(y:Bs3×UInt8×Int×UInt8×A2 UInt8×A2 Bs3)=>rec ((),(),(some
 ([y],[y].length),()),(z.2.2.2.1.1,z.2.2.2.1.2.1++[e.1],l.2),())else none else none) fun(y:A2 Bs1×Nat)=>bif Io z.2.2.2.1.1 z.2.2.2.1.2.2 l.1 then Ef (B4 z.2.2.2.1.2.1 l.1) (k ((),(),(some y,()),()))
 fun(e:Nat×Bs3×Bs3×UInt8×Int×UInt8×A2 UInt8×A2 Bs3)=>bif l.2.beq l.2 then A4 (Dg (z.2.2.2.1.2.1++[e.1])) none fun(p:A2 Nat×Nat)=>A4 (Cx Af A5 p.2 l.1) none fun(Cr:Nat×Bs3×Bs3×UInt8×Int×UInt8×A2 UInt8×List
 Bs3)=>Option.bind (Bf N Cr.2.2) fun(Bn:Bs3×UInt8×Int×UInt8×A2 UInt8×A2 Bs3)=>bif y.1.length.beq y.2 then bif Aw (y.2 + [Bn].length) 80 then rec ((),(),(some (y.1++[Bn],y.2 +
 [Bn].length),()),(z.2.2.2.1.1,z.2.2.2.1.2.1++[e.1],l.2),())else none else none else none else none) N ((),(),(none,()),(l.2,[],l.2),())) fun(y:A2 Bs1×Nat)=>Bw (fun(z:Unit×Unit×Bs4×Unit)=>A4 z.2.2.1.1 (some
 (([],()),(),(),())) fun(y:A2 Bs1×Nat)=>bif y.2.ble y.1.length then bif y.2.ble 4611686018427387903 then bif Cs (List.take y.2 y.1)then bif bif (0+y.2).ble (Ai (List.take y.2 y.1)++List.drop y.2 y.1).length then true
 else false then some ((List.take y.2 (List.drop 0 (Ai (List.take y.2 y.1)++List.drop y.2 y.1)),()),(),(),())else none else none else none else none) fun(k:Unit×Unit×Bs4×Unit→A3 Bs8)=>iter
 (fun(rec:Unit×Unit×Bs4×Bsb×Unit→A3 Bs8) (z:Unit×Unit×Bs4×Bsb×Unit)=>A4 z.2.2.1.1 (bif Io z.2.2.2.1.1 z.2.2.2.1.2.2 l.1 then Ef (B4 z.2.2.2.1.2.1 l.1) (k ((),(),(none,()),())) fun(e:Nat×Bs3×Bs3×UInt8×Int×UInt8×List
 UInt8×A2 Bs3)=>bif l.2.beq l.2 then A4 (Dg (z.2.2.2.1.2.1++[e.1])) none fun(p:A2 Nat×Nat)=>A4 (Cx Af A5 p.2 l.1) none fun(Cr:Nat×Bs3×Bs3×UInt8×Int×UInt8×A2 UInt8×A2 Bs3)=>Option.bind (Bf N Cr.2.2)
 fun(y:Bs3×UInt8×Int×UInt8×A2 UInt8×A2 Bs3)=>rec ((),(),(some ([y],[y].length),()),(z.2.2.2.1.1,z.2.2.2.1.2.1++[e.1],l.2),())else none else none) fun(y:A2 Bs1×Nat)=>bif Io z.2.2.2.1.1 z.2.2.2.1.2.2 l.1 then Ef (B4
 z.2.2.2.1.2.1 l.1) (k ((),(),(some y,()),())) fun(e:Nat×Bs3×Bs3×UInt8×Int×UInt8×A2 UInt8×A2 Bs3)=>bif l.2.beq l.2 then A4 (Dg (z.2.2.2.1.2.1++[e.1])) none fun(p:A2 Nat×Nat)=>A4 (Cx Af A5 p.2 l.1) none
 fun(Cr:Nat×Bs3×Bs3×UInt8×Int×UInt8×A2 UInt8×A2 Bs3)=>Option.bind (Bf N Cr.2.2) fun(Bn:Bs3×UInt8×Int×UInt8×A2 UInt8×A2 Bs3)=>bif y.1.length.beq y.2 then bif Aw (y.2 + [Bn].length) 80 then rec ((),(),(some
 (y.1++[Bn],y.2 + [Bn].length),()),(z.2.2.2.1.1,z.2.2.2.1.2.1++[e.1],l.2),())else none else none else none else none) N ((),(),(some y,()),(l.2,[],l.2),())) fun(k:Unit×Unit×Bs4×Unit→A3 Bs8)=>iter
 (fun(rec:Unit×Unit×Bs4×Unit×Unit→A3 Bs8) (z:Unit×Unit×Bs4×Unit×Unit)=>A4 z.2.2.1.1 (k ((),(),(none,()),())) fun(y:A2 Bs1×Nat)=>k ((),(),(some y,()),())) N ((),(),(none,()),(),())
def Ajn(N:Nat):=M0 [Gk N,Bb N] [24] N 32 (A1 (A1 (.seq (A1 (.blk (.rnd (A1 (A1 (.join ⟨[],[],[8,9,10],[1,3],[(3,400003,A5)],[]⟩ (.blk (A1 (A1 (.blk (.loop ⟨[],[],[8,9,10,15],[1,3],[(3,400003,A5)],[(1015,.Dt)]⟩ .lf))))) .lf))) (.rnd (A1 (A1 (.join ⟨[],[],[8,9,10],[1,3],[(3,400003,A5)],[]⟩ (.blk (A1 (A1 (.blk (.loop ⟨[],[],[8,9,10,15],[1,3],[(3,400003,A5)],[(1015,.Jg 3)]⟩ .lf))))) .lf))) (.rnd (A1 (A1 (.join ⟨[],[],[8,9,10],[1,3],[(3,400003,A5)],[]⟩ (.blk (A1 (A1 (.blk (.loop ⟨[],[],[8,9,10,15],[1,3],[(3,400003,A5)],[(1015,.Dt)]⟩ .lf))))) .lf))) .lf))))) (.fz [3] .lf .lf)))) W9 (Ajm N) mixed func32 rfl (by decide) rfl rfl rfl (by kernel_rfl)
@[reducible] def Wa:Fg:=⟨[.p 1 900002001],[(1,[.Wo,.Wo],some 65)],[],⟨[(2,.d (.sl A5))],[],[],[1],[],[]⟩⟩
def Ajo(N:Nat):Fg.C1 Wa (A3 Wa.out.T):=Bw (fun(z:Unit×Unit×Bs4×Unit)=>A4 z.2.2.1.1 (Bw (fun(z:Unit×Unit×Bs4×Unit)=>A4 z.2.2.1.1 (some (([],()),(),(),())) fun(y:A2 Bs1×Nat)=>bif y.2.ble y.1.length then
 bif y.2.ble 4611686018427387903 then bif Cs (List.take y.2 y.1)then bif bif (0+y.2).ble (Ai (List.take y.2 y.1)++List.drop y.2 y.1).length then true else false then some ((List.take y.2 (List.drop 0 (Ai (List.take y.2
 y.1)++List.drop y.2 y.1)),()),(),(),())else none else none else none else none) fun(k:Unit×Unit×Bs4×Unit→A3 Bs8)=>iter (fun(rec:Unit×Unit×Bs4×Unit×Unit→A3 Bs8) (z:Unit×Unit×Bs4×Unit×Unit)=>A4 z.2.2.1.1 (k
 ((),(),(none,()),())) fun(y:A2 Bs1×Nat)=>k ((),(),(some y,()),())) N ((),(),(none,()),(),())) fun(y:A2 Bs1×Nat)=>Bw (fun(z:Unit×Unit×Bs4×Unit)=>A4 z.2.2.1.1 (some (([],()),(),(),())) fun(y:A2 Bs1×Nat)=>bif y.2.ble
 y.1.length then bif y.2.ble 4611686018427387903 then bif Cs (List.take y.2 y.1)then bif bif (0+y.2).ble (Ai (List.take y.2 y.1)++List.drop y.2 y.1).length then true else false then some ((List.take y.2 (List.drop 0 (Ai
 (List.take y.2 y.1)++List.drop y.2 y.1)),()),(),(),())else none else none else none else none) fun(k:Unit×Unit×Bs4×Unit→A3 Bs8)=>iter (fun(rec:Unit×Unit×Bs4×Unit×Unit→A3 Bs8) (z:Unit×Unit×Bs4×Unit×Unit)=>A4
 z.2.2.1.1 (k ((),(),(none,()),())) fun(y:A2 Bs1×Nat)=>k ((),(),(some y,()),())) N ((),(),(some y,()),(),())) fun(k:Unit×Unit×Bs4×Unit→A3 Bs8)=>iter (fun(rec:Unit×Unit×Bs4×Unit×Unit→A3 Bs8)
 (z:Unit×Unit×Bs4×Unit×Unit)=>A4 z.2.2.1.1 (k ((),(),(none,()),())) fun(y:A2 Bs1×Nat)=>k ((),(),(some y,()),())) N ((),(),(none,()),(),())
def Ajp(N:Nat):=M0 [Gk N,Bb N] [24] N 32 (A1 (A1 (.seq (A1 (.blk (.rnd (A1 (A1 (.join ⟨[],[],[8,9,10],[1],[(3,400003,A5)],[]⟩ (.blk (A1 (A1 (.blk (.loop ⟨[],[],[8,9,10,15],[1],[(3,400003,A5)],[(1015,.Dt)]⟩ .lf))))) .lf))) (.rnd (A1 (A1 (.join ⟨[],[],[8,9,10],[1],[(3,400003,A5)],[]⟩ (.blk (A1 (A1 (.blk (.loop ⟨[],[],[8,9,10,15],[1],[(3,400003,A5)],[(1015,.Dt)]⟩ .lf))))) .lf))) (.rnd (A1 (A1 (.join ⟨[],[],[8,9,10],[1],[(3,400003,A5)],[]⟩ (.blk (A1 (A1 (.blk (.loop ⟨[],[],[8,9,10,15],[1],[(3,400003,A5)],[(1015,.Dt)]⟩ .lf))))) .lf))) .lf))))) (.fz [3] .lf .lf)))) Wa (Ajo N) mixed func32 rfl (by decide) rfl rfl rfl (by kernel_rfl)
@[reducible] def Wb:Fg:=⟨[.p 1 900001001],[(1,[.p 2 777777777],some 65)],[(2,.map Af A5)],⟨[],[],[],[1,2],[(2,2002,A5)],[]⟩⟩
def K1(N:Nat):Fg.C1 Wb (A3 Wb.out.T):=fun(l:Bsc)=>iter (fun(rec:Unit×Unit×Bs4×Bsb×Unit→A3 (Unit×Unit×Bs4×Unit)) (z:Unit×Unit×Bs4×Bsb×Unit)=>A4 z.2.2.1.1 (bif Io z.2.2.2.1.1 z.2.2.2.1.2.2 l.1 then Ef
 (B4 z.2.2.2.1.2.1 l.1) (some ((),(),(none,()),())) fun(e:Nat×Bs3×Bs3×UInt8×Int×UInt8×A2 UInt8×A2 Bs3)=>bif l.2.beq l.2 then A4 (Dg (z.2.2.2.1.2.1++[e.1])) none fun(p:A2 Nat×Nat)=>A4 (Cx Af A5 p.2 l.1) none
 fun(Cr:Nat×Bs3×Bs3×UInt8×Int×UInt8×A2 UInt8×A2 Bs3)=>Option.bind (Bf N Cr.2.2) fun(y:Bs3×UInt8×Int×UInt8×A2 UInt8×A2 Bs3)=>rec ((),(),(some ([y],[y].length),()),(z.2.2.2.1.1,z.2.2.2.1.2.1++[e.1],l.2),())else
 none else none) fun(y:A2 Bs1×Nat)=>bif Io z.2.2.2.1.1 z.2.2.2.1.2.2 l.1 then Ef (B4 z.2.2.2.1.2.1 l.1) (bif y.2.ble y.1.length then bif y.2.ble 4611686018427387903 then bif Cs (List.take y.2 y.1)then some ((),(),(some
 (Ai (List.take y.2 y.1)++List.drop y.2 y.1,y.2),()),())else none else none else none) fun(e:Nat×Bs3×Bs3×UInt8×Int×UInt8×A2 UInt8×A2 Bs3)=>bif l.2.beq l.2 then A4 (Dg (z.2.2.2.1.2.1++[e.1])) none fun(p:List
 Nat×Nat)=>A4 (Cx Af A5 p.2 l.1) none fun(Cr:Nat×Bs3×Bs3×UInt8×Int×UInt8×A2 UInt8×A2 Bs3)=>Option.bind (Bf N Cr.2.2) fun(Bn:Bs3×UInt8×Int×UInt8×A2 UInt8×A2 Bs3)=>bif y.1.length.beq y.2 then bif Aw (y.2 +
 [Bn].length) 80 then rec ((),(),(some (y.1++[Bn],y.2 + [Bn].length),()),(z.2.2.2.1.1,z.2.2.2.1.2.1++[e.1],l.2),())else none else none else none else none) N ((),(),(none,()),(l.2,[],l.2),())
def Ajq(N:Nat):=M0 [Gk N,Bb N] [24] N 32 (A1 (A1 (.seq (A1 (.blk (.rnd (A1 (A1 (.seq (.blk (A1 (A1 (.blk (.loop ⟨[],[],[8,9,10,15],[1,2],[(3,400003,A5)],[(1015,.Jg 2)]⟩ .lf))))) .lf))) (.rnd (A1 (A1 (.seq (.blk (A1 (A1 (.blk (.loop ⟨[],[],[8,9,10,15],[1,2],[(3,400003,A5)],[(1015,.Dt)]⟩ .lf))))) .lf))) (.rnd (A1 (A1 (.seq (.blk (A1 (A1 (.blk (.loop ⟨[],[],[8,9,10,15],[1,2],[(3,400003,A5)],[(1015,.Dt)]⟩ .lf))))) .lf))) .lf))))) .lf))) Wb (K1 N) mixed func32 rfl (by decide) rfl rfl rfl (by kernel_rfl)
@[reducible] def Wc:Fg:=⟨[.p 1 900001001],[(1,[.Wo],some 65)],[],⟨[],[],[],[1],[(2,2002,A5)],[]⟩⟩
def Mm(N:Nat):Fg.C1 Wc (A3 Wc.out.T):=iter (fun(rec:Unit×Unit×Bs4×Unit×Unit→A3 (Unit×Unit×Bs4×Unit)) (z:Unit×Unit×Bs4×Unit×Unit)=>A4 z.2.2.1.1 (some ((),(),(none,()),())) fun(y:A2 Bs1×Nat)=>bif
 y.2.ble y.1.length then bif y.2.ble 4611686018427387903 then bif Cs (List.take y.2 y.1)then some ((),(),(some (Ai (List.take y.2 y.1)++List.drop y.2 y.1,y.2),()),())else none else none else none) N
 ((),(),(none,()),(),())
def Ajr(N:Nat):=M0 [Gk N,Bb N] [24] N 32 (A1 (A1 (.seq (A1 (.blk (.rnd (A1 (A1 (.seq (.blk (A1 (A1 (.blk (.loop ⟨[],[],[8,9,10,15],[1],[(3,400003,A5)],[(1015,.Dt)]⟩ .lf))))) .lf))) (.rnd (A1 (A1 (.seq (.blk (A1 (A1 (.blk (.loop ⟨[],[],[8,9,10,15],[1],[(3,400003,A5)],[(1015,.Dt)]⟩ .lf))))) .lf))) (.rnd (A1 (A1 (.seq (.blk (A1 (A1 (.blk (.loop ⟨[],[],[8,9,10,15],[1],[(3,400003,A5)],[(1015,.Dt)]⟩ .lf))))) .lf))) .lf))))) .lf))) Wc (Mm N) mixed func32 rfl (by decide) rfl rfl rfl (by kernel_rfl)
def J5(N:Nat):Ga prog:=Np 32 (Bhp 1) (Np 32 (Lu 0) (Alv N) (Alu N) rfl rfl) (Np 32 (Lu 0) (Np 32 (Lu 1) (Ajp N) (Ajn N) rfl rfl) (Np 32 (Lu 1) (Ajl N) (Ajj N) rfl rfl) rfl rfl) rfl rfl
@[reducible] def Mn:Fg:=⟨[.p 1 0],[(1,[.d (.sl B2),.p 2 777777777,.p 3 777777777],some 67)],[(2,.map Af A5),(3,.map Af A5)],⟨[(2,.d (.sl A5))],[],[],[1,2,3],[],[]⟩⟩
def Mo(N:Nat):Fg.C1 Mn (A3 Mn.out.T):=fun(y:A2 Bs6) (l l_1:Bsc)=>Option.bind (Hr N l) fun(y:Bse×Unit×Unit×Unit)=>some ((y.1.1,()),(),(),())
def A3g(N:Nat):=M0 [J5 N] [] N 9 .lf Mn (Mo N) mixed func9 rfl (by decide) rfl rfl rfl (by kernel_rfl)
@[reducible] def Mp:Fg:=⟨[.p 1 0],[(1,[.d (.sl B2),.p 2 777777777,.Wo],some 67)],[(2,.map Af A5)],⟨[(2,.d (.sl A5))],[],[],[1,2],[],[]⟩⟩
def Mq(N:Nat):Fg.C1 Mp (A3 Mp.out.T):=fun(y:A2 Bs6) (l:Bsc)=>Option.bind (Hr N l) fun(y:Bse×Unit×Unit×Unit)=>some ((y.1.1,()),(),(),())
def A3h(N:Nat):=M0 [J5 N] [] N 9 .lf Mp (Mq N) mixed func9 rfl (by decide) rfl rfl rfl (by kernel_rfl)
@[reducible] def Mr:Fg:=⟨[.p 1 0],[(1,[.d (.sl B2),.Wo,.p 3 777777777],some 67)],[(3,.map Af A5)],⟨[(2,.d (.sl A5))],[],[],[1,3],[],[]⟩⟩
def Ms(N:Nat):Fg.C1 Mr (A3 Mr.out.T):=fun(y:A2 Bs6) (l:Bsc)=>Option.bind (Je N) fun(y:Bse×Unit×Unit×Unit)=>some ((y.1.1,()),(),(),())
def A3i(N:Nat):=M0 [J5 N] [] N 9 .lf Mr (Ms N) mixed func9 rfl (by decide) rfl rfl rfl (by kernel_rfl)
@[reducible] def Mt:Fg:=⟨[.p 1 0],[(1,[.d (.sl B2),.Wo,.Wo],some 67)],[],⟨[(2,.d (.sl A5))],[],[],[1],[],[]⟩⟩
def Mu(N:Nat):Fg.C1 Mt (A3 Mt.out.T):=fun(y:A2 Bs6)=>Option.bind (Je N) fun(y:Bse×Unit×Unit×Unit)=>some ((y.1.1,()),(),(),())
def A3j(N:Nat):=M0 [J5 N] [] N 9 .lf Mt (Mu N) mixed func9 rfl (by decide) rfl rfl rfl (by kernel_rfl)
@[reducible] def Pb:Fg:=⟨[.nil true],[],[],⟨[(2,.d (.sl A5))],[],[],[],[],[]⟩⟩
def Ic(N:Nat):Fg.C1 Pb (A3 Pb.out.T):=some (([],()),(),(),())
def A8n(N:Nat):=M0 [J5 N] [] N 9 .lf Pb (Ic N) mixed func9 rfl (by decide) rfl rfl rfl (by kernel_rfl)
@[reducible] def Zj:ASp:=⟨[.p 0 0],[(0,Sh1,some 67)],[.d (.sl A5)]⟩
def Ni(N:Nat):ASp.C1 Zj:=fun(x:A2 Bs6×A3 Bsc×A3 Bsc×Unit)=>A4 x.2.1 (A4 x.2.2.1 (Option.bind (Je N) fun(y:Bse×Unit×Unit×Unit)=>some (((x.1,none,none,()),()),y.1.1,())) fun(y:Bsc)=>Option.bind (Je
 N) fun(Bn:Bse×Unit×Unit×Unit)=>some (((x.1,none,some y,()),()),Bn.1.1,())) fun(y:Bsc)=>A4 x.2.2.1 (Option.bind (Hr N y) fun(Bn:Bse×Unit×Unit×Unit)=>some (((x.1,some y,none,()),()),Bn.1.1,())) fun(Bn:Bsc)=>Option.bind
 (Hr N y) fun(F7:Bse×Unit×Unit×Unit)=>some (((x.1,some y,some Bn,()),()),F7.1.1,())
def Adk(N:Nat):=Arv [J5 N] [] N 9 (fun _=>.lf) Zj (Ni N) mixed func9 rfl (by decide) rfl rfl (by kernel_rfl)
def Uk(N:Nat):Ga prog:=Np 32 (Lu 0) (Ajr N) (Ajq N) rfl rfl
@[reducible] def Mv:Fg:=⟨[.p 1 0],[(1,[.d (.sl B2),.p 2 777777777,.p 3 777777777],some 67)],[(2,.map Af A5),(3,.map Af A5)],⟨[],[],[],[1,2,3],[(2,2002,A5)],[]⟩⟩
def Mw(N:Nat):Fg.C1 Mv (A3 Mv.out.T):=fun(y:A2 Bs6) (l l_1:Bsc)=>Option.bind (K1 N l) fun(y:Unit×Unit×Bs4×Unit)=>A4 y.2.2.1.1 (some ((),(),(none,()),())) fun(y:A2 Bs1×Nat)=>some ((),(),(some
 y,()),())
def A3k(N:Nat):=M0 [Uk N] [] N 9 .lf Mv (Mw N) mixed func9 rfl (by decide) rfl rfl rfl (by kernel_rfl)
@[reducible] def Mx:Fg:=⟨[.p 1 0],[(1,[.d (.sl B2),.p 2 777777777,.Wo],some 67)],[(2,.map Af A5)],⟨[],[],[],[1,2],[(2,2002,A5)],[]⟩⟩
def My(N:Nat):Fg.C1 Mx (A3 Mx.out.T):=fun(y:A2 Bs6) (l:Bsc)=>Option.bind (K1 N l) fun(y:Unit×Unit×Bs4×Unit)=>A4 y.2.2.1.1 (some ((),(),(none,()),())) fun(y:A2 Bs1×Nat)=>some ((),(),(some y,()),())
def A3l(N:Nat):=M0 [Uk N] [] N 9 .lf Mx (My N) mixed func9 rfl (by decide) rfl rfl rfl (by kernel_rfl)
@[reducible] def Mz:Fg:=⟨[.p 1 0],[(1,[.d (.sl B2),.Wo,.p 3 777777777],some 67)],[(3,.map Af A5)],⟨[],[],[],[1,3],[(2,2002,A5)],[]⟩⟩
def N0(N:Nat):Fg.C1 Mz (A3 Mz.out.T):=fun(y:A2 Bs6) (l:Bsc)=>Option.bind (Mm N) fun(y:Unit×Unit×Bs4×Unit)=>A4 y.2.2.1.1 (some ((),(),(none,()),())) fun(y:A2 Bs1×Nat)=>some ((),(),(some y,()),())
def A3m(N:Nat):=M0 [Uk N] [] N 9 .lf Mz (N0 N) mixed func9 rfl (by decide) rfl rfl rfl (by kernel_rfl)
@[reducible] def N1:Fg:=⟨[.p 1 0],[(1,[.d (.sl B2),.Wo,.Wo],some 67)],[],⟨[],[],[],[1],[(2,2002,A5)],[]⟩⟩
def N2(N:Nat):Fg.C1 N1 (A3 N1.out.T):=fun(y:A2 Bs6)=>Option.bind (Mm N) fun(y:Unit×Unit×Bs4×Unit)=>A4 y.2.2.1.1 (some ((),(),(none,()),())) fun(y:A2 Bs1×Nat)=>some ((),(),(some y,()),())
def A3n(N:Nat):=M0 [Uk N] [] N 9 .lf N1 (N2 N) mixed func9 rfl (by decide) rfl rfl rfl (by kernel_rfl)
@[reducible] def Nu:Fg:=⟨[.nil true],[],[],⟨[],[],[],[],[(2,2002,A5)],[]⟩⟩
def Nv(N:Nat):Fg.C1 Nu (A3 Nu.out.T):=some ((),(),(none,()),())
def A64(N:Nat):=M0 [J5 N] [] N 9 .lf Nu (Nv N) mixed func9 rfl (by decide) rfl rfl rfl (by kernel_rfl)
@[reducible] def Rz:Fg:=⟨[.d A5,.p 2 0],[(2,[.d (.int .u64)],some 39)],[],⟨[(3,.d .bool)],[],[],[2],[],[]⟩⟩
def F6(N:Nat):Fg.C1 Rz (A3 Rz.out.T):=fun(y:Bs3×UInt8×Int×UInt8×A2 UInt8×A2 Bs3) (Bn:Int)=>some ((y.2.2.1 != Bn,()),(),(),())
def Dz(N:Nat):=M0 [] [] N 82 .lf Rz (F6 N) mixed func82 rfl (by decide) rfl rfl rfl (by kernel_rfl)
@[reducible] def Fb:Fg:=⟨[.os 1 A5,.Ff 82 [(2,0)]],[(2,[.d (.int .u64)],some 39)],[(1,.arr A5)],⟨[(4,.d A0)],[],[],[2,1],[],[]⟩⟩
def Cz(N:Nat):Fg.C1 Fb (A3 Fb.out.T):=fun(n:Nat) (y:Int) (l:A2 Bs1)=>iter (fun(rec:Bs7×Unit×Unit×Unit→A3 (Bs7×Unit×Unit×Unit)) (z:Bs7×Unit×Unit×Unit)=>bif decide (z.1.1<(↑n:Int))then bif decide
 (0≤z.1.1)&&decide (z.1.1<(↑n:Int))then l[0+z.1.1.toNat]?.bind fun(e:Bs3×UInt8×Int×UInt8×A2 UInt8×A2 Bs3)=>Option.bind (F6 N e y) fun(y:Bsj×Unit×Unit×Unit)=>bif y.1.1 then some ((z.1.1,()),(),(),())else rec
 ((i64.wrap (z.1.1+1),()),(),(),())else none else some ((-1,()),(),(),())) N ((0,()),(),(),())
def Pz(N:Nat):=M0 [Dz N] [] N 116 (A1 (.seq (A1 (.blk (.loop ⟨[(8,.d A0)],[],[0,1,7],[1,2],[],[]⟩ .lf))) .lf)) Fb (Cz N) mixed func116 rfl (by decide) rfl rfl rfl (by kernel_rfl)
@[reducible] def Ew:Fg:=⟨[.os 1 A5,.Ff 82 [(2,0)]],[(2,[.d (.int .u64)],some 39)],[(1,.arr A5)],⟨[(4,.os 1 A5)],[],[],[2],[],[(1,.arr A5)]⟩⟩
def Ar(N:Nat):Fg.C1 Ew (A3 Ew.out.T):=fun(n:Nat) (y:Int) (l:A2 Bs1)=>Option.bind (Cz N n y l) fun(Bn:Bs7×Unit×Unit×Unit)=>bif Bn.1.1 == -1 then some ((n,()),(),(),l,())else iter
 (fun(rec:Bsf×Unit×Unit×A2 Bs1×Unit→A3 ((Nat×Unit)×Unit×Unit×A2 Bs1×Unit)) (z:Bsf×Unit×Unit×A2 Bs1×Unit)=>bif decide (z.1.2.1<(↑n:Int))then bif decide (0≤z.1.2.1)&&decide (z.1.2.1<(↑n:Int))then
 z.2.2.2.1[0+z.1.2.1.toNat]?.bind fun(e:Bs3×UInt8×Int×UInt8×A2 UInt8×A2 Bs3)=>Option.bind (F6 N e y) fun(y:Bsj×Unit×Unit×Unit)=>bif !y.1.1 then bif decide (0≤z.1.1)&&decide (z.1.1<(↑n:Int))then
 z.2.2.2.1[0+z.1.1.toNat]?.bind fun(Cr:Bs3×UInt8×Int×UInt8×A2 UInt8×A2 Bs3)=>rec ((i64.wrap (z.1.1+1),i64.wrap (z.1.2.1+1),()),(),(),z.2.2.2.1.set (0+z.1.1.toNat) e,())else none else rec
 ((z.1.1,i64.wrap (z.1.2.1+1),()),(),(),z.2.2.2.1,())else none else bif Lq z.1.1 (↑n:Int) n then bif Lq 0 z.1.1 n then some ((z.1.1.toNat-0,()),(),(),List.take (0+z.1.1.toNat) z.2.2.2.1,())else none else none) N
 ((Bn.1.1,i64.wrap (Bn.1.1+1),()),(),(),l,())
def Pd(N:Nat):=M0 [Pz N,Dz N] [] N 81 (A1 (A1 (A1 (.seq (A1 (.blk (.loop ⟨[(5,.d A0),(6,.d A0)],[],[0,1],[2],[],[(1,.arr A5)]⟩ .lf))) .lf)))) Ew (Ar N) mixed func81 rfl (by decide) rfl rfl rfl (by kernel_rfl)
@[reducible] def Fc:Fg:=⟨[.d (.sl A5),.Ff 82 [(2,0)]],[(2,[.d (.int .u64)],some 39)],[],⟨[(4,.d A0)],[],[],[2],[],[]⟩⟩
def Fe(N:Nat):Fg.C1 Fc (A3 Fc.out.T):=fun(y:A2 Bs1) (Bn:Int)=>iter (fun(rec:Bs7×Unit×Unit×Unit→A3 (Bs7×Unit×Unit×Unit)) (z:Bs7×Unit×Unit×Unit)=>bif decide (z.1.1<(↑y.length:Int))then (at? y
 z.1.1).bind fun(e:Bs3×UInt8×Int×UInt8×A2 UInt8×A2 Bs3)=>Option.bind (F6 N e Bn) fun(y:Bsj×Unit×Unit×Unit)=>bif y.1.1 then some ((z.1.1,()),(),(),())else rec ((i64.wrap (z.1.1+1),()),(),(),())else some
 ((-1,()),(),(),())) N ((0,()),(),(),())
def Q0(N:Nat):=M0 [Dz N] [] N 116 (A1 (.seq (A1 (.blk (.loop ⟨[(8,.d A0)],[],[0,1,7],[2],[],[]⟩ .lf))) .lf)) Fc (Fe N) mixed func116 rfl (by decide) rfl rfl rfl (by kernel_rfl)
@[reducible] def Ex:Fg:=⟨[.nil none,.Ff 82 [(2,0)]],[(2,[.d (.int .u64)],some 39)],[],⟨[],[],[],[2],[(4,2004,A5)],[]⟩⟩
def As(N:Nat):Fg.C1 Ex (A3 Ex.out.T):=fun(y:Int)=>Option.bind (Fe N [] y) fun(y:Bs7×Unit×Unit×Unit)=>bif y.1.1 == -1 then some ((),(),(none,()),())else none
def Pe(N:Nat):=M0 [Q0 N,Dz N] [] N 81 (A1 (A1 (.seq (A1 (.cond .lf .stop)) (.seq (A1 (.blk (.loop ⟨[(5,.d A0),(6,.d A0)],[],[0,1],[2],[],[]⟩ (.seq (A1 (.cond .lf .stop)) (.seq (.blk (A1 (A1 (.cond .lf .stop)))) .lf))))) .lf)))) Ex (As N) mixed func81 rfl (by decide) rfl rfl rfl (by kernel_rfl)
def Cm(N:Nat):Ga prog:=Aj1 81 Bhq (Pd N) (Pe N) rfl rfl
def Gr(N:Nat):Ga prog:=Aj1 9 (Aj0 0) (A64 N) (Np 9 (Lu 1) (Np 9 (Lu 2) (A3n N) (A3m N) rfl rfl) (Np 9 (Lu 2) (A3l N) (A3k N) rfl rfl) rfl rfl) rfl rfl
@[reducible] def Pf:Fg:=⟨[.p 1 0,.d (.int .u64)],[(1,[.d (.sl B2),.p 2 777777777,.p 3 777777777],some 67)],[(2,.map Af A5),(3,.map Af A5)],⟨[],[],[],[1,2,3],[(4,2004,A5)],[]⟩⟩
def Pg(N:Nat):Fg.C1 Pf (A3 Pf.out.T):=fun(y:Int) (Bn:A2 Bs6) (l l_1:Bsc)=>Option.bind (Mw N Bn l l_1) fun(F7:Unit×Unit×Bs4×Unit)=>A4 F7.2.2.1.1 (Option.bind (As N y) fun(y:Unit×Unit×Bs4×Unit)=>A4
 y.2.2.1.1 (some ((),(),(none,()),())) fun(y:A2 Bs1×Nat)=>some ((),(),(some y,()),())) fun(Gv:A2 Bs1×Nat)=>Option.bind (Ar N Gv.2 y Gv.1) fun(y:(Nat×Unit)×Unit×Unit×A2 Bs1×Unit)=>some ((),(),(some
 (y.2.2.2.1,y.1.1),()),())
def A8o(N:Nat):=M0 [Dz N,Cm N,Gr N] [] N 33 .lf Pf (Pg N) mixed func33 rfl (by decide) rfl rfl rfl (by kernel_rfl)
@[reducible] def Ph:Fg:=⟨[.p 1 0,.d (.int .u64)],[(1,[.d (.sl B2),.p 2 777777777,.Wo],some 67)],[(2,.map Af A5)],⟨[],[],[],[1,2],[(4,2004,A5)],[]⟩⟩
def Pj(N:Nat):Fg.C1 Ph (A3 Ph.out.T):=fun(y:Int) (Bn:A2 Bs6) (l:Bsc)=>Option.bind (My N Bn l) fun(F7:Unit×Unit×Bs4×Unit)=>A4 F7.2.2.1.1 (Option.bind (As N y) fun(y:Unit×Unit×Bs4×Unit)=>A4 y.2.2.1.1
 (some ((),(),(none,()),())) fun(y:A2 Bs1×Nat)=>some ((),(),(some y,()),())) fun(Gv:A2 Bs1×Nat)=>Option.bind (Ar N Gv.2 y Gv.1) fun(y:(Nat×Unit)×Unit×Unit×A2 Bs1×Unit)=>some ((),(),(some (y.2.2.2.1,y.1.1),()),())
def A8p(N:Nat):=M0 [Dz N,Cm N,Gr N] [] N 33 .lf Ph (Pj N) mixed func33 rfl (by decide) rfl rfl rfl (by kernel_rfl)
@[reducible] def Pk:Fg:=⟨[.p 1 0,.d (.int .u64)],[(1,[.d (.sl B2),.Wo,.p 3 777777777],some 67)],[(3,.map Af A5)],⟨[],[],[],[1,3],[(4,2004,A5)],[]⟩⟩
def Pl(N:Nat):Fg.C1 Pk (A3 Pk.out.T):=fun(y:Int) (Bn:A2 Bs6) (l:Bsc)=>Option.bind (N0 N Bn l) fun(F7:Unit×Unit×Bs4×Unit)=>A4 F7.2.2.1.1 (Option.bind (As N y) fun(y:Unit×Unit×Bs4×Unit)=>A4 y.2.2.1.1
 (some ((),(),(none,()),())) fun(y:A2 Bs1×Nat)=>some ((),(),(some y,()),())) fun(Gv:A2 Bs1×Nat)=>Option.bind (Ar N Gv.2 y Gv.1) fun(y:(Nat×Unit)×Unit×Unit×A2 Bs1×Unit)=>some ((),(),(some (y.2.2.2.1,y.1.1),()),())
def A8q(N:Nat):=M0 [Dz N,Cm N,Gr N] [] N 33 .lf Pk (Pl N) mixed func33 rfl (by decide) rfl rfl rfl (by kernel_rfl)
@[reducible] def Pm:Fg:=⟨[.p 1 0,.d (.int .u64)],[(1,[.d (.sl B2),.Wo,.Wo],some 67)],[],⟨[],[],[],[1],[(4,2004,A5)],[]⟩⟩
def Pn(N:Nat):Fg.C1 Pm (A3 Pm.out.T):=fun(y:Int) (Bn:A2 Bs6)=>Option.bind (N2 N Bn) fun(F7:Unit×Unit×Bs4×Unit)=>A4 F7.2.2.1.1 (Option.bind (As N y) fun(y:Unit×Unit×Bs4×Unit)=>A4 y.2.2.1.1 (some
 ((),(),(none,()),())) fun(y:A2 Bs1×Nat)=>some ((),(),(some y,()),())) fun(Gv:A2 Bs1×Nat)=>Option.bind (Ar N Gv.2 y Gv.1) fun(y:(Nat×Unit)×Unit×Unit×A2 Bs1×Unit)=>some ((),(),(some (y.2.2.2.1,y.1.1),()),())
def A8r(N:Nat):=M0 [Dz N,Cm N,Gr N] [] N 33 .lf Pm (Pn N) mixed func33 rfl (by decide) rfl rfl rfl (by kernel_rfl)
@[reducible] def Qx:Fg:=⟨[.nil true,.d (.int .u64)],[],[],⟨[],[],[],[],[(4,2004,A5)],[]⟩⟩
def Qy(N:Nat):Fg.C1 Qx (A3 Qx.out.T):=fun(y:Int)=>Option.bind (Nv N) fun(Bn:Unit×Unit×Bs4×Unit)=>A4 Bn.2.2.1.1 (Option.bind (As N y) fun(y:Unit×Unit×Bs4×Unit)=>A4 y.2.2.1.1 (some ((),(),(none,()),()))
 fun(y:A2 Bs1×Nat)=>some ((),(),(some y,()),())) fun(F7:A2 Bs1×Nat)=>Option.bind (Ar N F7.2 y F7.1) fun(y:(Nat×Unit)×Unit×Unit×A2 Bs1×Unit)=>some ((),(),(some (y.2.2.2.1,y.1.1),()),())
def Abd(N:Nat):=M0 [Dz N,Cm N,Gr N] [] N 33 .lf Qx (Qy N) mixed func33 rfl (by decide) rfl rfl rfl (by kernel_rfl)
@[reducible] def Nw:Fg:=⟨[.nil true],[],[],⟨[(2,.d (.sl A5))],[],[],[],[],[]⟩⟩
def U2(N:Nat):Fg.C1 Nw (A3 Nw.out.T):=some (([],()),(),(),())
def A65(N:Nat):=M0 [J5 N] [] N 40 .lf Nw (U2 N) mixed func40 rfl (by decide) rfl rfl rfl (by kernel_rfl)
@[reducible] def Qz:Fg:=⟨[.nil true],[],[],⟨[(2,.d (.sl A5))],[],[],[],[],[]⟩⟩
def R0(N:Nat):Fg.C1 Qz (A3 Qz.out.T):=some (([],()),(),(),())
def Xp(N:Nat):=M0 [J5 N] [] N 39 .lf Qz (R0 N) mixed func39 rfl (by decide) rfl rfl rfl (by kernel_rfl)
def Azs(N:Nat):Ga prog:=Aj1 27 (Aj0 0) (Ash N) (Asg N) rfl rfl
@[reducible] def Af3:ASp:=⟨[.d (.sl B2),.d (.sl A5)],[],[.z 10 Sh1 (some 67),.d A0]⟩
def Xq(N:Nat):ASp.C1 Af3:=fun(y:A2 Bs6) (Bn:A2 Bs1)=>Option.bind (Vz N y) fun(F7:A2 Bs6)=>iter (fun(rec:Bs7×Bsa×Unit×Bsc×Bsc×Unit ⊕ Bs7×Bsa×Unit×Bsc×Unit ⊕ Bs7×Bsa×Unit×Bsc×Unit ⊕
 Bs7×Bsa×Unit×Unit→A3 Bsp) (z:Bs7×Bsa×Unit×Bsc×Bsc×Unit ⊕ Bs7×Bsa×Unit×Bsc×Unit ⊕ Bs7×Bsa×Unit×Bsc×Unit ⊕ Bs7×Bsa×Unit×Unit)=>Ql z (fun(z:Bs7×Bsa×Unit×Bsc×Bsc×Unit)=>bif decide (z.1.1<(↑Bn.length:Int))then (at? Bn
 z.1.1).bind fun(e:Bs3×UInt8×Int×UInt8×A2 UInt8×A2 Bs3)=>Bw (fun(B9:Unit×Unit×Unit×Unit)=>bif e.2.1==1 then Option.bind (Kw N e z.2.2.2.1) fun(y:Bso×Unit×Unit×Bsc×Unit)=>rec (Sum.inl ((i64.wrap
 (z.1.1+1),()),((z.2.1.1.1,(),(),()),()),(),y.2.2.2.1,z.2.2.2.2.1,()))else Option.bind (Kw N e z.2.2.2.2.1) fun(y:Bso×Unit×Unit×Bsc×Unit)=>rec (Sum.inl ((i64.wrap
 (z.1.1+1),()),((z.2.1.1.1,(),(),()),()),(),z.2.2.2.1,y.2.2.2.1,()))) fun(k:Unit×Unit×Unit×Unit→A3 Bsp)=>Option.bind (J2 N e) fun(y:Bool)=>bif !y then some ((),none,1,())else bif decide (0<z.1.1)then (at? Bn
 (i64.wrap (z.1.1-1))).bind fun(Cr:Bs3×UInt8×Int×UInt8×A2 UInt8×A2 Bs3)=>Option.bind (K0 N Cr.1 e.1) fun(y:Int)=>bif decide (0≤y)then some ((),none,1,())else bif e.2.1==1 then Option.bind (D9 N Bn e.1)
 fun(y:Bool)=>bif y then some ((),none,1,())else k ((),(),(),())else k ((),(),(),())else bif e.2.1==1 then Option.bind (D9 N Bn e.1) fun(y:Bool)=>bif y then some ((),none,1,())else k ((),(),(),())else k ((),(),(),())else
 Option.bind (Mk N y) fun(Gv:Bool)=>bif !Gv then some ((),none,1,())else Option.bind (J3 N Bn) fun(y_4:Bsh)=>Option.bind (Ks N y_4 y) fun(y:Bsh)=>bif decide (0<(↑y.length:Int))then some ((),none,1,())else some ((),some
 (z.2.1.1.1,some z.2.2.2.1,some z.2.2.2.2.1,()),0,())) fun(z:Bs7×Bsa×Unit×Bsc×Unit ⊕ Bs7×Bsa×Unit×Bsc×Unit ⊕ Bs7×Bsa×Unit×Unit)=>Ql z (fun(z:Bs7×Bsa×Unit×Bsc×Unit)=>bif decide (z.1.1<(↑Bn.length:Int))then (at? Bn
 z.1.1).bind fun(e:Bs3×UInt8×Int×UInt8×A2 UInt8×A2 Bs3)=>Bw (fun(B9:Unit×Unit×Unit×Unit)=>bif e.2.1==1 then Option.bind (Kx N e) fun(y:Bso×Unit×Unit×Bsc×Unit)=>rec (Sum.inl ((i64.wrap
 (z.1.1+1),()),((z.2.1.1.1,(),(),()),()),(),y.2.2.2.1,z.2.2.2.1,()))else Option.bind (Kw N e z.2.2.2.1) fun(y:Bso×Unit×Unit×Bsc×Unit)=>rec (Sum.inr (Sum.inl ((i64.wrap
 (z.1.1+1),()),((z.2.1.1.1,(),(),()),()),(),y.2.2.2.1,())))) fun(k:Unit×Unit×Unit×Unit→A3 Bsp)=>Option.bind (J2 N e) fun(y:Bool)=>bif !y then some ((),none,1,())else bif decide (0<z.1.1)then (at? Bn (i64.wrap
 (z.1.1-1))).bind fun(Cr:Bs3×UInt8×Int×UInt8×A2 UInt8×A2 Bs3)=>Option.bind (K0 N Cr.1 e.1) fun(y:Int)=>bif decide (0≤y)then some ((),none,1,())else bif e.2.1==1 then Option.bind (D9 N Bn e.1) fun(y:Bool)=>bif y then
 some ((),none,1,())else k ((),(),(),())else k ((),(),(),())else bif e.2.1==1 then Option.bind (D9 N Bn e.1) fun(y:Bool)=>bif y then some ((),none,1,())else k ((),(),(),())else k ((),(),(),())else Option.bind (Mk N y)
 fun(Gv:Bool)=>bif !Gv then some ((),none,1,())else Option.bind (J3 N Bn) fun(y_4:Bsh)=>Option.bind (Ks N y_4 y) fun(y:Bsh)=>bif decide (0<(↑y.length:Int))then some ((),none,1,())else some ((),some (z.2.1.1.1,none,some
 z.2.2.2.1,()),0,())) fun(z:Bs7×Bsa×Unit×Bsc×Unit ⊕ Bs7×Bsa×Unit×Unit)=>Ql z (fun(z:Bs7×Bsa×Unit×Bsc×Unit)=>bif decide (z.1.1<(↑Bn.length:Int))then (at? Bn z.1.1).bind fun(e:Bs3×UInt8×Int×UInt8×A2 UInt8×A2 Bs3)=>Bw
 (fun(B9:Unit×Unit×Unit×Unit)=>bif e.2.1==1 then Option.bind (Kw N e z.2.2.2.1) fun(y:Bso×Unit×Unit×Bsc×Unit)=>rec (Sum.inr (Sum.inr (Sum.inl ((i64.wrap
 (z.1.1+1),()),((z.2.1.1.1,(),(),()),()),(),y.2.2.2.1,()))))else Option.bind (Kx N e) fun(y:Bso×Unit×Unit×Bsc×Unit)=>rec (Sum.inl ((i64.wrap (z.1.1+1),()),((z.2.1.1.1,(),(),()),()),(),z.2.2.2.1,y.2.2.2.1,())))
 fun(k:Unit×Unit×Unit×Unit→A3 Bsp)=>Option.bind (J2 N e) fun(y:Bool)=>bif !y then some ((),none,1,())else bif decide (0<z.1.1)then (at? Bn (i64.wrap (z.1.1-1))).bind fun(Cr:Bs3×UInt8×Int×UInt8×A2 UInt8×List
 Bs3)=>Option.bind (K0 N Cr.1 e.1) fun(y:Int)=>bif decide (0≤y)then some ((),none,1,())else bif e.2.1==1 then Option.bind (D9 N Bn e.1) fun(y:Bool)=>bif y then some ((),none,1,())else k ((),(),(),())else k
 ((),(),(),())else bif e.2.1==1 then Option.bind (D9 N Bn e.1) fun(y:Bool)=>bif y then some ((),none,1,())else k ((),(),(),())else k ((),(),(),())else Option.bind (Mk N y) fun(Gv:Bool)=>bif !Gv then some
 ((),none,1,())else Option.bind (J3 N Bn) fun(y_4:Bsh)=>Option.bind (Ks N y_4 y) fun(y:Bsh)=>bif decide (0<(↑y.length:Int))then some ((),none,1,())else some ((),some (z.2.1.1.1,some z.2.2.2.1,none,()),0,()))
 fun(z:Bs7×Bsa×Unit×Unit)=>bif decide (z.1.1<(↑Bn.length:Int))then (at? Bn z.1.1).bind fun(e:Bs3×UInt8×Int×UInt8×A2 UInt8×A2 Bs3)=>Bw (fun(B9:Unit×Unit×Unit×Unit)=>bif e.2.1==1 then Option.bind (Kx N e)
 fun(y:Bso×Unit×Unit×Bsc×Unit)=>rec (Sum.inr (Sum.inr (Sum.inl ((i64.wrap (z.1.1+1),()),((z.2.1.1.1,(),(),()),()),(),y.2.2.2.1,()))))else Option.bind (Kx N e) fun(y:Bso×Unit×Unit×Bsc×Unit)=>rec (Sum.inr (Sum.inl
 ((i64.wrap (z.1.1+1),()),((z.2.1.1.1,(),(),()),()),(),y.2.2.2.1,())))) fun(k:Unit×Unit×Unit×Unit→A3 Bsp)=>Option.bind (J2 N e) fun(y:Bool)=>bif !y then some ((),none,1,())else bif decide (0<z.1.1)then (at?
 Bn (i64.wrap (z.1.1-1))).bind fun(Cr:Bs3×UInt8×Int×UInt8×A2 UInt8×A2 Bs3)=>Option.bind (K0 N Cr.1 e.1) fun(y:Int)=>bif decide (0≤y)then some ((),none,1,())else bif e.2.1==1 then Option.bind (D9 N Bn e.1)
 fun(y:Bool)=>bif y then some ((),none,1,())else k ((),(),(),())else k ((),(),(),())else bif e.2.1==1 then Option.bind (D9 N Bn e.1) fun(y:Bool)=>bif y then some ((),none,1,())else k ((),(),(),())else k ((),(),(),())else
 Option.bind (Mk N y) fun(Gv:Bool)=>bif !Gv then some ((),none,1,())else Option.bind (J3 N Bn) fun(y_4:Bsh)=>Option.bind (Ks N y_4 y) fun(y:Bsh)=>bif decide (0<(↑y.length:Int))then some ((),none,1,())else some ((),some
 (z.2.1.1.1,none,none,()),0,())) N (Sum.inr (Sum.inr (Sum.inr ((0,()),((F7,(),(),()),()),(),()))))
def Aw7(N:Nat):=Arv [Aje N,A0w N,Ru N,As8 N,Azp N,Asa N,Asf N,Azs N] [] N 7 (fun _=>(A1 (A1 (.seq (A1 (.blk (.alt ⟨[(15,.d A0)],[(1012,[.d (.sl B2),.p 1060007 777777777,.p 1069007 777777777],some 67)],[0,1,6,13,14],[],[],[(1060007,.map Af A5),(1069007,.map Af A5)]⟩ (A1 (A1 (.seq (.blk (A1 (.join ⟨[],[],[0,1,6,8,13,14,15],[1008,1012,1060007,1069007],[],[]⟩ .lf .lf))) .lf))) (.alt ⟨[(15,.d A0)],[(1012,[.d (.sl B2),.Wo,.p 1069007 777777777],some 67)],[0,1,6,13,14],[],[],[(1069007,.map Af A5)]⟩ (A1 (A1 (.seq (.blk (A1 (.join ⟨[],[],[0,1,6,8,13,14,15],[1008,1012,1069007],[],[]⟩ .lf .lf))) .lf))) (.alt ⟨[(15,.d A0)],[(1012,[.d (.sl B2),.p 1060007 777777777,.Wo],some 67)],[0,1,6,13,14],[],[],[(1060007,.map Af A5)]⟩ (A1 (A1 (.seq (.blk (A1 (.join ⟨[],[],[0,1,6,8,13,14,15],[1008,1012,1060007],[],[]⟩ .lf .lf))) .lf))) (.loop ⟨[(15,.d A0)],[(1012,[.d (.sl B2),.Wo,.Wo],some 67)],[0,1,6,13,14],[],[],[]⟩ (A1 (A1 (.seq (.blk (A1 (.join ⟨[],[],[0,1,6,8,13,14,15],[1008,1012],[],[]⟩ .lf .lf))) .lf))))))))) .lf)))) Af3 (Xq N) mixed func7 rfl (by decide) rfl rfl (by kernel_rfl)
def J6(N:Nat):Ga prog:=Aj1 9 (Aj0 0) (A8n N) (Np 9 Bho (Adk N) (Np 9 (Lu 1) (Np 9 (Lu 2) (A3j N) (A3i N) rfl rfl) (Np 9 (Lu 2) (A3h N) (A3g N) rfl rfl) rfl rfl) rfl rfl) rfl rfl
def Wd(N:Nat):Ga prog:=Aj1 33 (Aj0 0) (Abd N) (Np 33 (Lu 1) (Np 33 (Lu 2) (A8r N) (A8q N) rfl rfl) (Np 33 (Lu 2) (A8p N) (A8o N) rfl rfl) rfl rfl) rfl rfl
def R1(N:Nat):C1 [A5,A5] (A3 (B6 [A0])):=fun(x C8:Bs3×UInt8×Int×UInt8×A2 UInt8×A2 Bs3)=>Option.bind (C7 N x.1.2 C8.1.2) fun(y:Int)=>some y
def R2(N:Nat):=D7 [F5 N] [] N 35 .lf [A5,A5] [A0] (R1 N) mixed func35 rfl (by decide) rfl (by kernel_rfl)
def Bv(N:Nat):Oe [.d A0,.d A0,.c 35] (A3 (B6 (Tu A5 []))):=fun(x C8:Int)=>iter (fun(rec:Bs7×Unit×Unit×Unit→A3 Unit) (z:Bs7×Unit×Unit×Unit)=>bif decide (z.1.1<C8)then iter
 (fun(rec_1:Bs7×Unit×Unit×Unit→A3 Unit) (B9:Bs7×Unit×Unit×Unit)=>bif decide (x<B9.1.1)then (at? [] B9.1.1).bind fun(e:Bs3×UInt8×Int×UInt8×A2 UInt8×A2 Bs3)=>(at? [] (i64.wrap (B9.1.1-1))).bind
 fun(Cr:Bs3×UInt8×Int×UInt8×A2 UInt8×A2 Bs3)=>Option.bind (R1 N e Cr) fun(y:Int)=>bif decide (y<0)then (at? [] (i64.wrap (B9.1.1-1))).bind fun(e:Bs3×UInt8×Int×UInt8×A2 UInt8×A2 Bs3)=>(at? [] B9.1.1).bind
 fun(e:Bs3×UInt8×Int×UInt8×A2 UInt8×A2 Bs3)=>(at? [] B9.1.1).bind fun(e:Bs3×UInt8×Int×UInt8×A2 UInt8×A2 Bs3)=>none else rec ((i64.wrap (z.1.1+1),()),(),(),())else rec ((i64.wrap
 (z.1.1+1),()),(),(),())) N ((z.1.1,()),(),(),())else some ()) N ((i64.wrap (x+1),()),(),(),())
def Az(N:Nat):A2 (A5:Ty).T→Nat→Oe [.d A0,.d A0,.c 35] (A3 (A2 (A5:Ty).T×Sn [])):=fun(l:A2 Bs1) (n:Nat) (x C8:Int)=>iter (fun(rec:Bs7×Unit×Unit×A2 Bs1×Unit→A3 Bse)
 (z:Bs7×Unit×Unit×A2 Bs1×Unit)=>bif decide (z.1.1<C8)then iter (fun(rec_1:Bs7×Unit×Unit×A2 Bs1×Unit→A3 Bse) (B9:Bs7×Unit×Unit×A2 Bs1×Unit)=>bif decide (x<B9.1.1)then bif decide (0≤B9.1.1)&&decide
 (B9.1.1<(↑n:Int))then B9.2.2.2.1[0+B9.1.1.toNat]?.bind fun(e:Bs3×UInt8×Int×UInt8×A2 UInt8×A2 Bs3)=>bif decide (0≤i64.wrap (B9.1.1-1))&&decide (i64.wrap (B9.1.1-1)<(↑n:Int))then
 B9.2.2.2.1[0+(i64.wrap (B9.1.1-1)).toNat]?.bind fun(Cr:Bs3×UInt8×Int×UInt8×A2 UInt8×A2 Bs3)=>Option.bind (R1 N e Cr) fun(y:Int)=>bif decide (y<0)then bif decide (0≤i64.wrap (B9.1.1-1))&&decide
 (i64.wrap (B9.1.1-1)<(↑n:Int))then B9.2.2.2.1[0+(i64.wrap (B9.1.1-1)).toNat]?.bind fun(e:Bs3×UInt8×Int×UInt8×A2 UInt8×A2 Bs3)=>bif decide (0≤B9.1.1)&&decide (B9.1.1<(↑n:Int))then
 B9.2.2.2.1[0+B9.1.1.toNat]?.bind fun(e_2:Bs3×UInt8×Int×UInt8×A2 UInt8×A2 Bs3)=>bif decide (0≤B9.1.1)&&decide (B9.1.1<(↑n:Int))then B9.2.2.2.1[0+B9.1.1.toNat]?.bind fun(e_3:Bs3×UInt8×Int×UInt8×A2 UInt8×List
 Bs3)=>bif decide (0≤i64.wrap (B9.1.1-1))&&decide (i64.wrap (B9.1.1-1)<(↑n:Int))then (B9.2.2.2.1.set (0+B9.1.1.toNat) e)[0+(i64.wrap (B9.1.1-1)).toNat]?.bind fun(e_4:Bs3×UInt8×Int×UInt8×List
 UInt8×A2 Bs3)=>rec_1 ((i64.wrap (B9.1.1-1),()),(),(),(B9.2.2.2.1.set (0+B9.1.1.toNat) e).set (0+(i64.wrap (B9.1.1-1)).toNat) e_2,())else none else none else none else none else rec ((i64.wrap
 (z.1.1+1),()),(),(),B9.2.2.2.1,())else none else none else rec ((i64.wrap (z.1.1+1),()),(),(),B9.2.2.2.1,())) N ((z.1.1,()),(),(),z.2.2.2.1,())else some (z.2.2.2.1,())) N ((i64.wrap (x+1),()),(),(),l,())
def Ol(N:Nat):=B1m [R2 N] [] N 117 (A1 (.blk (.loop ⟨[(8,.d A0)],[],[0,1,2,3],[],[],[(1,.arr A5)]⟩ (A1 (.seq (.blk (A1 (.blk (.loop ⟨[(9,.d A0)],[],[0,1,2,3,8],[],[],[(1,.arr A5)]⟩ .lf)))) .lf))))) (A1 (.blk (.loop ⟨[(8,.d A0)],[],[0,1,2,3],[],[],[]⟩ (A1 (.seq (.blk (A1 (.blk (.loop ⟨[(9,.d A0)],[],[0,1,2,3,8],[],[],[]⟩ .lf)))) .lf))))) A5 [.d A0,.d A0,.c 35] [] (Az N) (Bv N) mixed func117 rfl (by decide) rfl (by kernel_rfl) (by kernel_rfl)
def S0(N:Nat):Ga prog:=mkNone 118
def E8(N:Nat):Oe [.d A0,.c 35] (A3 (B6 (Tu A5 []))):=fun(x:Int)=>iter (fun(rec:Bsf×Unit×Unit×Unit→A3 Unit) (z:Bsf×Unit×Unit×Unit)=>bif decide (z.1.2.1≤x)then Option.bind (Bv N z.1.1
 z.1.2.1) fun(y:Unit)=>rec ((z.1.2.1,i64.wrap (z.1.2.1+20),()),(),(),())else Option.bind (Bv N z.1.1 x) fun(y:Unit)=>iter (fun(rec:Bs7×Unit×Unit×Unit→A3 Unit) (z:Bs7×Unit×Unit×Unit)=>bif decide (z.1.1<x)then
 iter (fun(rec_1:Bsf×Unit×Unit×Unit→A3 Unit) (B9:Bsf×Unit×Unit×Unit)=>bif decide (B9.1.2.1≤x)then none else bif decide (i64.wrap (B9.1.1+z.1.1)<x)then none else rec ((i64.wrap (z.1.1*2),()),(),(),()))
 N ((0,i64.wrap (2*z.1.1),()),(),(),())else some ()) N ((20,()),(),(),())) N ((0,20,()),(),(),())
def Em(N:Nat):A2 (A5:Ty).T→Nat→Oe [.d A0,.c 35] (A3 (A2 (A5:Ty).T×Sn [])):=fun(l:A2 Bs1) (n:Nat) (x:Int)=>iter (fun(rec:Bsf×Unit×Unit×A2 Bs1×Unit→A3 Bse) (z:Bsf×Unit×Unit×List
 Bs1×Unit)=>bif decide (z.1.2.1≤x)then Option.bind (Az N z.2.2.2.1 n z.1.1 z.1.2.1) fun(y:Bse)=>rec ((z.1.2.1,i64.wrap (z.1.2.1+20),()),(),(),y.1,())else Option.bind (Az N z.2.2.2.1 n z.1.1 x) fun(y:Bse)=>iter
 (fun(rec:Bs7×Unit×Unit×A2 Bs1×Unit→A3 Bse) (z:Bs7×Unit×Unit×A2 Bs1×Unit)=>bif decide (z.1.1<x)then iter (fun(rec_1:Bsf×Unit×Unit×A2 Bs1×Unit→A3 Bse) (B9:Bsf×Unit×Unit×A2 Bs1×Unit)=>bif decide
 (B9.1.2.1≤x)then none else bif decide (i64.wrap (B9.1.1+z.1.1)<x)then none else rec ((i64.wrap (z.1.1*2),()),(),(),B9.2.2.2.1,())) N ((0,i64.wrap (2*z.1.1),()),(),(),z.2.2.2.1,())else some
 (z.2.2.2.1,())) N ((20,()),(),(),y.1,())) N ((0,20,()),(),(),l,())
def Tk(N:Nat):=B1m [Ol N,S0 N,R2 N] [] N 83 (A1 (A1 (.seq (.blk (.loop ⟨[(7,.d A0),(8,.d A0)],[],[0,1,2,6],[],[],[(1,.arr A5)]⟩ .lf)) (A1 (.blk (.loop ⟨[(6,.d A0)],[],[0,1,2],[],[],[(1,.arr A5)]⟩ (A1 (.blk (A1 (.seq (.blk (.loop ⟨[(7,.d A0),(8,.d A0)],[],[0,1,2,6],[],[],[(1,.arr A5)]⟩ .lf)) .lf)))))))))) (A1 (A1 (.seq (.blk (.loop ⟨[(7,.d A0),(8,.d A0)],[],[0,1,2,6],[],[],[]⟩ .lf)) (A1 (.blk (.loop ⟨[(6,.d A0)],[],[0,1,2],[],[],[]⟩ (A1 (.blk (A1 (.seq (.blk (.loop ⟨[(7,.d A0),(8,.d A0)],[],[0,1,2,6],[],[],[]⟩ .lf)) .lf)))))))))) A5 [.d A0,.c 35] [] (Em N) (E8 N) mixed func83 rfl (by decide) rfl (by kernel_rfl) (by kernel_rfl)
def Ak(N:Nat):Oe [.c 35] (A3 (B6 (Tu A5 []))):=Option.bind (E8 N 0) fun(y:Unit)=>some ()
def Ao(N:Nat):A2 (A5:Ty).T→Nat→Oe [.c 35] (A3 (A2 (A5:Ty).T×Sn [])):=fun(l:A2 Bs1) (n:Nat)=>Option.bind (Em N l n (↑n:Int)) fun(y:Bse)=>some (y.1,())
def Hf(N:Nat):=B1m [R2 N,Tk N] [] N 34 .lf .lf A5 [.c 35] [] (Ao N) (Ak N) mixed func34 rfl (by decide) rfl (by kernel_rfl) (by kernel_rfl)
@[reducible] def Abe:ASp:=⟨[.nil true,.d (.int .u64)],[],[.d (.sl A5)]⟩
def Ky(N:Nat):ASp.C1 Abe:=fun(y:Int)=>Option.bind (Qy N y) fun(y:Unit×Unit×Bs4×Unit)=>A4 y.2.2.1.1 (Option.bind (Ak N) fun(y:Unit)=>some ((),[],())) fun(y:A2 Bs1×Nat)=>Option.bind (Ao N y.1 y.2)
 fun(Bn:Bse)=>bif bif (0+y.2).ble Bn.1.length then true else false then some ((),List.take y.2 (List.drop 0 Bn.1),())else none
def Asi(N:Nat):=Arv [Hf N,R2 N,Wd N] [] N 10 (fun _=>.lf) Abe (Ky N) mixed func10 rfl (by decide) rfl rfl (by kernel_rfl)
@[reducible] def Ajs:ASp:=⟨[.p 0 0,.d (.int .u64)],[(0,Sh1,some 67)],[.d (.sl A5)]⟩
def A0z(N:Nat):ASp.C1 Ajs:=fun(y:Int) (x:A2 Bs6×A3 Bsc×A3 Bsc×Unit)=>A4 x.2.1 (A4 x.2.2.1 (Option.bind (Pn N y x.1) fun(y:Unit×Unit×Bs4×Unit)=>A4 y.2.2.1.1 (Option.bind (Ak N) fun(y:Unit)=>some
 (((x.1,none,none,()),()),[],())) fun(y:A2 Bs1×Nat)=>Option.bind (Ao N y.1 y.2) fun(Bn:Bse)=>bif bif (0+y.2).ble Bn.1.length then true else false then some (((x.1,none,none,()),()),List.take y.2 (List.drop 0
 Bn.1),())else none) fun(Bn:Bsc)=>Option.bind (Pl N y x.1 Bn) fun(y:Unit×Unit×Bs4×Unit)=>A4 y.2.2.1.1 (Option.bind (Ak N) fun(y:Unit)=>some (((x.1,none,some Bn,()),()),[],())) fun(y:A2 Bs1×Nat)=>Option.bind (Ao N y.1
 y.2) fun(F7:Bse)=>bif bif (0+y.2).ble F7.1.length then true else false then some (((x.1,none,some Bn,()),()),List.take y.2 (List.drop 0 F7.1),())else none) fun(Bn:Bsc)=>A4 x.2.2.1 (Option.bind (Pj N y x.1 Bn)
 fun(y:Unit×Unit×Bs4×Unit)=>A4 y.2.2.1.1 (Option.bind (Ak N) fun(y:Unit)=>some (((x.1,some Bn,none,()),()),[],())) fun(y:A2 Bs1×Nat)=>Option.bind (Ao N y.1 y.2) fun(F7:Bse)=>bif bif (0+y.2).ble F7.1.length then true
 else false then some (((x.1,some Bn,none,()),()),List.take y.2 (List.drop 0 F7.1),())else none) fun(F7:Bsc)=>Option.bind (Pg N y x.1 Bn F7) fun(y:Unit×Unit×Bs4×Unit)=>A4 y.2.2.1.1 (Option.bind (Ak N) fun(y:Unit)=>some
 (((x.1,some Bn,some F7,()),()),[],())) fun(y:A2 Bs1×Nat)=>Option.bind (Ao N y.1 y.2) fun(Gv:Bse)=>bif bif (0+y.2).ble Gv.1.length then true else false then some (((x.1,some Bn,some F7,()),()),List.take y.2 (List.drop
 0 Gv.1),())else none
def Azt(N:Nat):=Arv [Hf N,R2 N,Wd N] [] N 10 (fun _=>.lf) Ajs (A0z N) mixed func10 rfl (by decide) rfl rfl (by kernel_rfl)
@[reducible] def Zk:ASp:=⟨[.nil true],[],[.d (.sl Af)]⟩
def Hv(N:Nat):ASp.C1 Zk:=Option.bind (Ic N) fun(y:Bse×Unit×Unit×Unit)=>iter (fun(rec:Bs7×Unit×Unit×Bsg×Unit→A3 (Unit×A2 Bs3×Unit)) (z:Bs7×Unit×Unit×Bsg×Unit)=>bif decide
 (z.1.1<(↑y.1.1.length:Int))then (at? y.1.1 z.1.1).bind fun(e:Bs3×UInt8×Int×UInt8×A2 UInt8×A2 Bs3)=>rec ((i64.wrap (z.1.1+1),()),(),(),(A6l (Ty.int u16) (Ty.int u64) e.1.1 (u64.wrap
 ((A6k (Ty.int u16) (Ty.int u64) e.1.1 z.2.2.2.1.1).getD 0+1)) z.2.2.2.1.2 z.2.2.2.1.1,A2m (Ty.int u16) (Ty.int u64) e.1.1 z.2.2.2.1.1 z.2.2.2.1.2),())else iter
 (fun(rec:Unit×Unit×Bs9×Bsb×Unit→A3 (Unit×A2 Bs3×Unit)) (B9:Unit×Unit×Bs9×Bsb×Unit)=>A4 B9.2.2.1.1 (bif Io B9.2.2.2.1.1 B9.2.2.2.1.2.2 z.2.2.2.1.1 then Ef (B4 B9.2.2.2.1.2.1 z.2.2.2.1.1) (some ((),[],()))
 fun(e:Nat×Int×Int)=>bif z.2.2.2.1.2.beq z.2.2.2.1.2 then A4 (Dg (B9.2.2.2.1.2.1++[e.1])) none fun(p:A2 Nat×Nat)=>A4 (Cx (Ty.int u16) (Ty.int u64) p.2 z.2.2.2.1.1) none fun(Cr:Nat×Int×Int)=>rec
 ((),(),(some ([Cr.2],[Cr.2].length),()),(B9.2.2.2.1.1,B9.2.2.2.1.2.1++[e.1],z.2.2.2.1.2),())else none else none) fun(y:A2 Bs3×Nat)=>bif Io B9.2.2.2.1.1 B9.2.2.2.1.2.2 z.2.2.2.1.1 then Ef (B4 B9.2.2.2.1.2.1
 z.2.2.2.1.1) (bif y.2.ble y.1.length then bif y.2.ble 4611686018427387903 then bif Jd (List.take y.2 y.1)then bif bif (0+y.2).ble (Bi (List.take y.2 y.1)++List.drop y.2 y.1).length then true else false then some
 ((),List.take y.2 (List.drop 0 (Bi (List.take y.2 y.1)++List.drop y.2 y.1)),())else none else none else none else none) fun(e:Nat×Int×Int)=>bif z.2.2.2.1.2.beq z.2.2.2.1.2 then A4 (Dg (B9.2.2.2.1.2.1++[e.1])) none
 fun(p:A2 Nat×Nat)=>A4 (Cx (Ty.int u16) (Ty.int u64) p.2 z.2.2.2.1.1) none fun(Cr:Nat×Int×Int)=>bif y.1.length.beq y.2 then bif Aw (y.2 + [Cr.2].length) 16 then rec ((),(),(some (y.1++[Cr.2],y.2 +
 [Cr.2].length),()),(B9.2.2.2.1.1,B9.2.2.2.1.2.1++[e.1],z.2.2.2.1.2),())else none else none else none else none) N ((),(),(none,()),(z.2.2.2.1.2,[],z.2.2.2.1.2),())) N ((0,()),(),(),([],0),())
def Adl(N:Nat):=Arv [Ru N,Nk N,J6 N] [36] N 12 (fun _=>(A1 (A1 (.seq (A1 (.blk (.loop ⟨[(13,.d A0)],[],[3,11,12],[],[],[(1009,.map (.int .u16) (.int .u64))]⟩ .lf))) (A1 (.seq (A1 (.blk (.loop ⟨[],[],[25],[1009],[(6,400006,Af)],[(1025,.Jg 1009)]⟩ .lf))) (.fz [6] .lf .lf))))))) Zk (Hv N) mixed func12 rfl (by decide) rfl rfl (by kernel_rfl)
@[reducible] def A3o:ASp:=⟨[.p 0 0],[(0,Sh1,some 67)],[.d (.sl Af)]⟩
def R3(N:Nat):ASp.C1 A3o:=fun(x:A2 Bs6×A3 Bsc×A3 Bsc×Unit)=>A4 x.2.1 (A4 x.2.2.1 (Option.bind (Mu N x.1) fun(y:Bse×Unit×Unit×Unit)=>iter (fun(rec:Bs7×Unit×Unit×Bsg×Unit→A3 Bsi)
 (z:Bs7×Unit×Unit×Bsg×Unit)=>bif decide (z.1.1<(↑y.1.1.length:Int))then (at? y.1.1 z.1.1).bind fun(e:Bs3×UInt8×Int×UInt8×A2 UInt8×A2 Bs3)=>rec ((i64.wrap (z.1.1+1),()),(),(),(A6l (Ty.int u16) (Ty.int
 u64) e.1.1 (u64.wrap ((A6k (Ty.int u16) (Ty.int u64) e.1.1 z.2.2.2.1.1).getD 0+1)) z.2.2.2.1.2 z.2.2.2.1.1,A2m (Ty.int u16) (Ty.int u64) e.1.1 z.2.2.2.1.1
 z.2.2.2.1.2),())else iter (fun(rec:Unit×Unit×Bs9×Bsb×Unit→A3 Bsi) (B9:Unit×Unit×Bs9×Bsb×Unit)=>A4 B9.2.2.1.1 (bif Io B9.2.2.2.1.1 B9.2.2.2.1.2.2 z.2.2.2.1.1 then Ef (B4 B9.2.2.2.1.2.1 z.2.2.2.1.1) (some
 (((x.1,none,none,()),()),[],())) fun(e:Nat×Int×Int)=>bif z.2.2.2.1.2.beq z.2.2.2.1.2 then A4 (Dg (B9.2.2.2.1.2.1++[e.1])) none fun(p:A2 Nat×Nat)=>A4 (Cx (Ty.int u16) (Ty.int u64) p.2 z.2.2.2.1.1) none
 fun(Cr:Nat×Int×Int)=>rec ((),(),(some ([Cr.2],[Cr.2].length),()),(B9.2.2.2.1.1,B9.2.2.2.1.2.1++[e.1],z.2.2.2.1.2),())else none else none) fun(y:A2 Bs3×Nat)=>bif Io B9.2.2.2.1.1 B9.2.2.2.1.2.2 z.2.2.2.1.1 then Ef (B4
 B9.2.2.2.1.2.1 z.2.2.2.1.1) (bif y.2.ble y.1.length then bif y.2.ble 4611686018427387903 then bif Jd (List.take y.2 y.1)then bif bif (0+y.2).ble (Bi (List.take y.2 y.1)++List.drop y.2 y.1).length then true else false
 then some (((x.1,none,none,()),()),List.take y.2 (List.drop 0 (Bi (List.take y.2 y.1)++List.drop y.2 y.1)),())else none else none else none else none) fun(e:Nat×Int×Int)=>bif z.2.2.2.1.2.beq z.2.2.2.1.2 then A4 (Dg
 (B9.2.2.2.1.2.1++[e.1])) none fun(p:A2 Nat×Nat)=>A4 (Cx (Ty.int u16) (Ty.int u64) p.2 z.2.2.2.1.1) none fun(Cr:Nat×Int×Int)=>bif y.1.length.beq y.2 then bif Aw (y.2 + [Cr.2].length) 16 then rec
 ((),(),(some (y.1++[Cr.2],y.2 + [Cr.2].length),()),(B9.2.2.2.1.1,B9.2.2.2.1.2.1++[e.1],z.2.2.2.1.2),())else none else none else none else none) N ((),(),(none,()),(z.2.2.2.1.2,[],z.2.2.2.1.2),())) N
 ((0,()),(),(),([],0),())) fun(y:Bsc)=>Option.bind (Ms N x.1 y) fun(Bn:Bse×Unit×Unit×Unit)=>iter (fun(rec:Bs7×Unit×Unit×Bsg×Unit→A3 Bsi) (z:Bs7×Unit×Unit×Bsg×Unit)=>bif decide (z.1.1<(↑Bn.1.1.length:Int))then (at?
 Bn.1.1 z.1.1).bind fun(e:Bs3×UInt8×Int×UInt8×A2 UInt8×A2 Bs3)=>rec ((i64.wrap (z.1.1+1),()),(),(),(A6l (Ty.int u16) (Ty.int u64) e.1.1 (u64.wrap ((A6k (Ty.int u16) (Ty.int
 u64) e.1.1 z.2.2.2.1.1).getD 0+1)) z.2.2.2.1.2 z.2.2.2.1.1,A2m (Ty.int u16) (Ty.int u64) e.1.1 z.2.2.2.1.1 z.2.2.2.1.2),())else iter (fun(rec:Unit×Unit×Bs9×Bsb×Unit→A3 Bsi)
 (B9:Unit×Unit×Bs9×Bsb×Unit)=>A4 B9.2.2.1.1 (bif Io B9.2.2.2.1.1 B9.2.2.2.1.2.2 z.2.2.2.1.1 then Ef (B4 B9.2.2.2.1.2.1 z.2.2.2.1.1) (some (((x.1,none,some y,()),()),[],())) fun(e:Nat×Int×Int)=>bif z.2.2.2.1.2.beq
 z.2.2.2.1.2 then A4 (Dg (B9.2.2.2.1.2.1++[e.1])) none fun(p:A2 Nat×Nat)=>A4 (Cx (Ty.int u16) (Ty.int u64) p.2 z.2.2.2.1.1) none fun(Cr:Nat×Int×Int)=>rec ((),(),(some
 ([Cr.2],[Cr.2].length),()),(B9.2.2.2.1.1,B9.2.2.2.1.2.1++[e.1],z.2.2.2.1.2),())else none else none) fun(F7:A2 Bs3×Nat)=>bif Io B9.2.2.2.1.1 B9.2.2.2.1.2.2 z.2.2.2.1.1 then Ef (B4 B9.2.2.2.1.2.1 z.2.2.2.1.1) (bif
 F7.2.ble F7.1.length then bif F7.2.ble 4611686018427387903 then bif Jd (List.take F7.2 F7.1)then bif bif (0+F7.2).ble (Bi (List.take F7.2 F7.1)++List.drop F7.2 F7.1).length then true else false then some
 (((x.1,none,some y,()),()),List.take F7.2 (List.drop 0 (Bi (List.take F7.2 F7.1)++List.drop F7.2 F7.1)),())else none else none else none else none) fun(e:Nat×Int×Int)=>bif z.2.2.2.1.2.beq z.2.2.2.1.2 then A4 (Dg
 (B9.2.2.2.1.2.1++[e.1])) none fun(p:A2 Nat×Nat)=>A4 (Cx (Ty.int u16) (Ty.int u64) p.2 z.2.2.2.1.1) none fun(Cr:Nat×Int×Int)=>bif F7.1.length.beq F7.2 then bif Aw (F7.2 + [Cr.2].length) 16 then rec
 ((),(),(some (F7.1++[Cr.2],F7.2 + [Cr.2].length),()),(B9.2.2.2.1.1,B9.2.2.2.1.2.1++[e.1],z.2.2.2.1.2),())else none else none else none else none) N ((),(),(none,()),(z.2.2.2.1.2,[],z.2.2.2.1.2),())) N
 ((0,()),(),(),([],0),())) fun(y:Bsc)=>A4 x.2.2.1 (Option.bind (Mq N x.1 y) fun(Bn:Bse×Unit×Unit×Unit)=>iter (fun(rec:Bs7×Unit×Unit×Bsg×Unit→A3 Bsi) (z:Bs7×Unit×Unit×Bsg×Unit)=>bif decide
 (z.1.1<(↑Bn.1.1.length:Int))then (at? Bn.1.1 z.1.1).bind fun(e:Bs3×UInt8×Int×UInt8×A2 UInt8×A2 Bs3)=>rec ((i64.wrap (z.1.1+1),()),(),(),(A6l (Ty.int u16) (Ty.int u64) e.1.1 (u64.wrap
 ((A6k (Ty.int u16) (Ty.int u64) e.1.1 z.2.2.2.1.1).getD 0+1)) z.2.2.2.1.2 z.2.2.2.1.1,A2m (Ty.int u16) (Ty.int u64) e.1.1 z.2.2.2.1.1 z.2.2.2.1.2),())else iter
 (fun(rec:Unit×Unit×Bs9×Bsb×Unit→A3 Bsi) (B9:Unit×Unit×Bs9×Bsb×Unit)=>A4 B9.2.2.1.1 (bif Io B9.2.2.2.1.1 B9.2.2.2.1.2.2 z.2.2.2.1.1 then Ef (B4 B9.2.2.2.1.2.1 z.2.2.2.1.1) (some (((x.1,some y,none,()),()),[],()))
 fun(e:Nat×Int×Int)=>bif z.2.2.2.1.2.beq z.2.2.2.1.2 then A4 (Dg (B9.2.2.2.1.2.1++[e.1])) none fun(p:A2 Nat×Nat)=>A4 (Cx (Ty.int u16) (Ty.int u64) p.2 z.2.2.2.1.1) none fun(Cr:Nat×Int×Int)=>rec
 ((),(),(some ([Cr.2],[Cr.2].length),()),(B9.2.2.2.1.1,B9.2.2.2.1.2.1++[e.1],z.2.2.2.1.2),())else none else none) fun(F7:A2 Bs3×Nat)=>bif Io B9.2.2.2.1.1 B9.2.2.2.1.2.2 z.2.2.2.1.1 then Ef (B4 B9.2.2.2.1.2.1
 z.2.2.2.1.1) (bif F7.2.ble F7.1.length then bif F7.2.ble 4611686018427387903 then bif Jd (List.take F7.2 F7.1)then bif bif (0+F7.2).ble (Bi (List.take F7.2 F7.1)++List.drop F7.2 F7.1).length then true else false then
 some (((x.1,some y,none,()),()),List.take F7.2 (List.drop 0 (Bi (List.take F7.2 F7.1)++List.drop F7.2 F7.1)),())else none else none else none else none) fun(e:Nat×Int×Int)=>bif z.2.2.2.1.2.beq z.2.2.2.1.2 then A4 (Dg
 (B9.2.2.2.1.2.1++[e.1])) none fun(p:A2 Nat×Nat)=>A4 (Cx (Ty.int u16) (Ty.int u64) p.2 z.2.2.2.1.1) none fun(Cr:Nat×Int×Int)=>bif F7.1.length.beq F7.2 then bif Aw (F7.2 + [Cr.2].length) 16 then rec
 ((),(),(some (F7.1++[Cr.2],F7.2 + [Cr.2].length),()),(B9.2.2.2.1.1,B9.2.2.2.1.2.1++[e.1],z.2.2.2.1.2),())else none else none else none else none) N ((),(),(none,()),(z.2.2.2.1.2,[],z.2.2.2.1.2),())) N
 ((0,()),(),(),([],0),())) fun(Bn:Bsc)=>Option.bind (Mo N x.1 y Bn) fun(F7:Bse×Unit×Unit×Unit)=>iter (fun(rec:Bs7×Unit×Unit×Bsg×Unit→A3 Bsi) (z:Bs7×Unit×Unit×Bsg×Unit)=>bif decide (z.1.1<(↑F7.1.1.length:Int))then
 (at? F7.1.1 z.1.1).bind fun(e:Bs3×UInt8×Int×UInt8×A2 UInt8×A2 Bs3)=>rec ((i64.wrap (z.1.1+1),()),(),(),(A6l (Ty.int u16) (Ty.int u64) e.1.1 (u64.wrap ((A6k (Ty.int u16)
 (Ty.int u64) e.1.1 z.2.2.2.1.1).getD 0+1)) z.2.2.2.1.2 z.2.2.2.1.1,A2m (Ty.int u16) (Ty.int u64) e.1.1 z.2.2.2.1.1 z.2.2.2.1.2),())else iter (fun(rec:Unit×Unit×Bs9×Bsb×Unit→A3 Bsi)
 (B9:Unit×Unit×Bs9×Bsb×Unit)=>A4 B9.2.2.1.1 (bif Io B9.2.2.2.1.1 B9.2.2.2.1.2.2 z.2.2.2.1.1 then Ef (B4 B9.2.2.2.1.2.1 z.2.2.2.1.1) (some (((x.1,some y,some Bn,()),()),[],())) fun(e:Nat×Int×Int)=>bif z.2.2.2.1.2.beq
 z.2.2.2.1.2 then A4 (Dg (B9.2.2.2.1.2.1++[e.1])) none fun(p:A2 Nat×Nat)=>A4 (Cx (Ty.int u16) (Ty.int u64) p.2 z.2.2.2.1.1) none fun(Cr:Nat×Int×Int)=>rec ((),(),(some
 ([Cr.2],[Cr.2].length),()),(B9.2.2.2.1.1,B9.2.2.2.1.2.1++[e.1],z.2.2.2.1.2),())else none else none) fun(Gv:A2 Bs3×Nat)=>bif Io B9.2.2.2.1.1 B9.2.2.2.1.2.2 z.2.2.2.1.1 then Ef (B4 B9.2.2.2.1.2.1 z.2.2.2.1.1) (bif
 Gv.2.ble Gv.1.length then bif Gv.2.ble 4611686018427387903 then bif Jd (List.take Gv.2 Gv.1)then bif bif (0+Gv.2).ble (Bi (List.take Gv.2 Gv.1)++List.drop Gv.2 Gv.1).length then true else false then some (((x.1,some
 y,some Bn,()),()),List.take Gv.2 (List.drop 0 (Bi (List.take Gv.2 Gv.1)++List.drop Gv.2 Gv.1)),())else none else none else none else none) fun(e:Nat×Int×Int)=>bif z.2.2.2.1.2.beq z.2.2.2.1.2 then A4 (Dg
 (B9.2.2.2.1.2.1++[e.1])) none fun(p:A2 Nat×Nat)=>A4 (Cx (Ty.int u16) (Ty.int u64) p.2 z.2.2.2.1.1) none fun(Cr:Nat×Int×Int)=>bif Gv.1.length.beq Gv.2 then bif Aw (Gv.2 + [Cr.2].length) 16 then rec
 ((),(),(some (Gv.1++[Cr.2],Gv.2 + [Cr.2].length),()),(B9.2.2.2.1.1,B9.2.2.2.1.2.1++[e.1],z.2.2.2.1.2),())else none else none else none else none) N ((),(),(none,()),(z.2.2.2.1.2,[],z.2.2.2.1.2),())) N
 ((0,()),(),(),([],0),())
def Ajt(N:Nat):=Arv [Ru N,Nk N,J6 N] [36] N 12 (fun ns=>(cond (inl 101 ns) (cond (inl 102 ns) (A1 (A1 (.seq (A1 (.blk (.loop ⟨[(13,.d A0)],[],[3,11,12],[0,101,102],[],[(1009,.map (.int .u16) (.int .u64))]⟩ .lf))) (A1 (.seq (A1 (.blk (.loop ⟨[],[],[25],[0,101,102,1009],[(6,400006,Af)],[(1025,.Jg 1009)]⟩ .lf))) (.fz [6] .lf .lf)))))) (A1 (A1 (.seq (A1 (.blk (.loop ⟨[(13,.d A0)],[],[3,11,12],[0,101],[],[(1009,.map (.int .u16) (.int .u64))]⟩ .lf))) (A1 (.seq (A1 (.blk (.loop ⟨[],[],[25],[0,101,1009],[(6,400006,Af)],[(1025,.Jg 1009)]⟩ .lf))) (.fz [6] .lf .lf))))))) (cond (inl 102 ns) (A1 (A1 (.seq (A1 (.blk (.loop ⟨[(13,.d A0)],[],[3,11,12],[0,102],[],[(1009,.map (.int .u16) (.int .u64))]⟩ .lf))) (A1 (.seq (A1 (.blk (.loop ⟨[],[],[25],[0,102,1009],[(6,400006,Af)],[(1025,.Jg 1009)]⟩ .lf))) (.fz [6] .lf .lf)))))) (A1 (A1 (.seq (A1 (.blk (.loop ⟨[(13,.d A0)],[],[3,11,12],[0],[],[(1009,.map (.int .u16) (.int .u64))]⟩ .lf))) (A1 (.seq (A1 (.blk (.loop ⟨[],[],[25],[0,1009],[(6,400006,Af)],[(1025,.Jg 1009)]⟩ .lf))) (.fz [6] .lf .lf))))))))) A3o (R3 N) mixed func12 rfl (by decide) rfl rfl (by kernel_rfl)
open Go.RowKit Go.Shelf
set_option maxHeartbeats 2000000 in
theorem Azu(b n:Nat)(arr:Array Value)(T:TypeId)(w:World)(hb:w.heap[b]? = some (.cells arr T (0,0)))(h1:arr[1]? = some (.slice none 0 0))(hn:n≤140737488355328) :
  Calls prog 134 #[.pointer (some ⟨b,0,none⟩),.int .i64 n] w fun e w'=>e = .returned (.tuple #[])∧∃cs:Array Value,n≤cs.size ∧
   w'=((w.setCell ⟨b,1,none⟩ (.slice (some ⟨w.heap.size,0,none⟩) 0 cs.size)).alloc (.cells cs 5)).drew.drew.drew:=by
 have Bs:b<w.heap.size:=by
  rcases Bng b w.heap.size with h'|h'
  ·exact h'
  ·simp[Bnv h']at hb
 obtain⟨cs,C2,hle,Bkc⟩:=Lib.run_makeNoZero (P:=prog) w.drew #[3] 84 5 underlying84 n (by omega);have hw:i64.wrap (i64.wrap 0+(n:Int))=n:=by rw[Bre,Bre];omega
 have Tq:(callFunc 162 #[.int .i64 (i64.wrap (i64.wrap 0+(n:Int)))]).run prog w.drew = .ok (.value (.slice (some ⟨w.drew.heap.size,0,none⟩) n cs.size)) (w.drew.drew.drew.alloc (.cells cs 5)):=by rw[hw,run_callFunc_extern func162 (by kernel_rfl) (by kernel_rfl) (by kernel_rfl) (e:=Extern.BytealgMakeNoZero.makeNoZero #[3] #[84]) (by kernel_rfl),C2];rfl
 have c1:w.drew.cell? ⟨b,1,none⟩=some (.slice none 0 0):=by have:w.drew.heap[b]? = _:=hb;rw[Brb this];exact h1
 have ha:∀W:World,(W.alloc (.cells cs 5)).heap[b]? = some (.cells arr T (0,0))→(W.alloc (.cells cs 5)).cell? ⟨b,1,none⟩=some (.slice none 0 0)∧(W.alloc (.cells cs 5)).frozen? ⟨b,1,none⟩=false:=fun W h=>⟨by rw[Brb h];exact h1,Lib.frozen_of_heap h 1⟩
 obtain⟨c2,f2⟩:=ha w ((Lib.alloc_old w _ b Bs).trans hb);have Bjx:∀W:World,(Builtin.copy_ #[84,84] 3 #[.slice (some ⟨w.heap.size,0,none⟩) 0 cs.size,.slice none 0 0]).run prog W = .ok (goInt 0) W :=
  fun W=>run_copy_none W 84 84 3 5 _ _ 0 cs.size 0 0 underlying84 (by kernel_rfl) rfl
 clear hw;have mixed:=mixed
 go_enter func134,ntmps134
 go_wp2
 go_region_o
 all_goals (go_wp2;go_end0;exact⟨rfl,cs,hle,rfl⟩)
def H3(N:Nat):Ga prog:=Bbo 129 ⟨_,rfl,rfl,rfl,by kernel_rfl,by kernel_rfl⟩
@[reducible] def Cn:Fg:=⟨[.p 1 0],[(1,[.P5 (some true),.P5 none],some 86)],[],⟨[],[(1,[.p 1 0,.P5 none],some 86)],[],[],[],[]⟩⟩
def Kd(N:Nat):Fg.C1 Cn (A3 Cn.out.T):=A1k prog [H3 N] [] N f87 .lf Cn
theorem Sy(N:Nat):A1k prog [H3 N] [] N f87 .lf Cn=Kd N:=rfl
def Ke(N:Nat):Ga prog:=mkC 87 f87 _ Cn (Kd N) mixed func87 (.mk' func87 rfl (by decide)) rfl rfl rfl (Sy N)
def R4(N:Nat):Ga prog:=Bfb (.mk' func134 rfl (by decide)) (fun b n arr T w=>Azu b n arr T w)
@[reducible] def Eh:Fg:=⟨[.p 1 0,.d A0],[(1,[.P5 (some true),.P5 none],some 86)],[],⟨[],[(1,[.z 1 0,.Bu 350001 .u8 (some 5)],some 86)],[],[],[],[]⟩⟩
def Om(N:Nat):Fg.C1 Eh (A3 Eh.out.T):=A1k prog [Ke N,R4 N] [] N f90 (A1 (.join ⟨[],[],[0,1],[1],[],[]⟩ .lf .lf)) Eh
theorem Yf(N:Nat):A1k prog [Ke N,R4 N] [] N f90 (A1 (.join ⟨[],[],[0,1],[1],[],[]⟩ .lf .lf)) Eh=Om N:=rfl
def On(N:Nat):Ga prog:=mkC 90 f90 _ Eh (Om N) mixed func90 (.mk' func90 rfl (by decide)) rfl rfl rfl (Yf N)
@[reducible] def Da:Fg:=⟨[.p 1 0],[(1,[.z 1 0,.Bu 300001 .u8 (some 5)],some 86)],[],⟨[],[(1,[.z 1 0,.Bu 350001 .u8 (some 5)],some 86)],[],[],[],[]⟩⟩
def Lx(N:Nat):Fg.C1 Da (A3 Da.out.T):=A1k prog [H3 N] [] N f87 .lf Da
theorem Ul(N:Nat):A1k prog [H3 N] [] N f87 .lf Da=Lx N:=rfl
def F8(N:Nat):Ga prog:=mkC 87 f87 _ Da (Lx N) mixed func87 (.mk' func87 rfl (by decide)) rfl rfl rfl (Ul N)
@[reducible] def Co:Fg:=⟨[.p 1 0,.d .str],[(1,[.z 1 0,.Bu 300001 .u8 (some 5)],some 86)],[],⟨[(4,.d A0),(5,.d .err)],[(1,[.z 1 0,.Bu 350001 .u8 (some 5)],some 86)],[],[],[],[]⟩⟩
def Gs(N:Nat):Fg.C1 Co (A3 Co.out.T):=A1k prog [F8 N] [] N f41 .lf Co
theorem Sz(N:Nat):A1k prog [F8 N] [] N f41 .lf Co=Gs N:=rfl
def Gt(N:Nat):Ga prog:=mkC 41 f41 _ Co (Gs N) mixed func41 (.mk' func41 rfl (by decide)) rfl rfl rfl (Sz N)
@[reducible] def Ei:Fg:=⟨[.p 1 0],[(1,[.z 1 0,.Bu 300001 .u8 (some 5)],some 86)],[],⟨[(2,.d .str)],[(1,[.z 1 0,.d (.sl .u8)],some 86)],[],[],[],[]⟩⟩
def Jf(N:Nat):Fg.C1 Ei (A3 Ei.out.T):=A1k prog [] [] N f43 .lf Ei
theorem Yg(N:Nat):A1k prog [] [] N f43 .lf Ei=Jf N:=rfl
def Ej(N:Nat):Ga prog:=mkC 43 f43 _ Ei (Jf N) mixed func43 (.mk' func43 rfl (by decide)) rfl rfl rfl (Yg N)
@[reducible] def K2:Fg:=⟨[.os 1 .str,.d .str],[],[(1,.arr .str)],⟨[(4,.d .str)],[],[],[1],[],[]⟩⟩
def Zl(N:Nat):Fg.C1 K2 (A3 K2.out.T):=A1k prog [On N,Gt N,Ej N] [] N f48 (A1 (A1 (A1 (A1 (.seq (A1 (.blk (.loop ⟨[(5,.d A0),(41,.d (.int
 .i64))],[],[0,1,39,40],[1],[],[]⟩ .lf))) (A1 (A1 (A1 (.seq (A1 (.blk (.loop ⟨[(65,.d A0)],[(1008,[.z 1008 0,.Bu 300801 .u8 (some 5)],some 86)],[1,8,63,64],[1],[],[]⟩ .lf))) .lf)))))))))
 K2
theorem Adm(N:Nat):A1k prog [On N,Gt N,Ej N] [] N f48 (A1 (A1 (A1 (A1 (.seq (A1 (.blk (.loop ⟨[(5,.d A0),(41,.d A0)],[],[0,1,39,40],[1],[],[]⟩ .lf))) (A1 (A1 (A1 (.seq (A1 (.blk (.loop ⟨[(65,.d A0)],[(1008,[.z 1008 0,.Bu 300801 .u8 (some 5)],some 86)],[1,8,63,64],[1],[],[]⟩ .lf))) .lf))))))))) K2=Zl N:=rfl
def Zm(N:Nat):Ga prog:=mkC 48 f48 _ K2 (Zl N) mixed func48 (.mk' func48 rfl (by decide)) rfl rfl rfl (Adm N)
def Oo(N:Nat):C1 [A0] (A3 (B6 [.str])):=A0l prog [] [] N f130 .lf [A0] [.str]
theorem Yh(N:Nat):A0l prog [] [] N f130 .lf [A0] [.str]=Oo N:=rfl
def Gl(N:Nat):Ga prog:=Alf 130 f130 _ [A0] [.str] (Oo N) mixed func130 (.mk' func130 rfl (by decide)) rfl (Yh N)
def Xr(N:Nat):C1 [(.int .u64)] (A3 (B6 [A0])):=A0l prog [] [] N f128 (A1 (.join ⟨[(0,.d (.int .u64)),(2,.d A0)],[],[],[],[],[]⟩ .lf (.join ⟨[(0,.d (.int .u64)),(2,.d
 A0)],[],[],[],[],[]⟩ .lf (.join ⟨[(0,.d (.int .u64)),(2,.d A0)],[],[],[],[],[]⟩ .lf .lf)))) [(.int .u64)] [A0]
theorem Abf(N:Nat):A0l prog [] [] N f128 (A1 (.join ⟨[(0,.d (.int .u64)),(2,.d A0)],[],[],[],[],[]⟩ .lf (.join ⟨[(0,.d (.int .u64)),(2,.d A0)],[],[],[],[],[]⟩ .lf (.join ⟨[(0,.d (.int .u64)),(2,.d A0)],[],[],[],[],[]⟩ .lf .lf)))) [(.int .u64)] [A0]=Xr N:=rfl
def Xs(N:Nat):Ga prog:=Alf 128 f128 _ [(.int .u64)] [A0] (Xr N) mixed func128 (.mk' func128 rfl (by decide)) rfl (Abf N)
def Lb(N:Nat):C1 [A0] (A3 (B6 [A0])):=A0l prog [] [] N f158 .lf [A0] [A0]
theorem Tl(N:Nat):A0l prog [] [] N f158 .lf [A0] [A0]=Lb N:=rfl
def Lc(N:Nat):Ga prog:=Alf 158 f158 _ [A0] [A0] (Lb N) mixed func158 (.mk' func158 rfl (by decide)) rfl (Tl N)
def Ld(N:Nat):C1 [.bool] (A3 (B6 [A0])):=A0l prog [] [] N f159 .lf [.bool] [A0]
theorem Tm(N:Nat):A0l prog [] [] N f159 .lf [.bool] [A0]=Ld N:=rfl
def Le(N:Nat):Ga prog:=Alf 159 f159 _ [.bool] [A0] (Ld N) mixed func159 (.mk' func159 rfl (by decide)) rfl (Tm N)
def Lf(N:Nat):C1 [(.int .u64),(.tab (.int .u64))] (A3 (B6 [A0])):=Vn prog [Xs N,Lc N,Le N] [] N f131 .lf [(.int .u64),(.tab (.int .u64))] [A0] 1 [1]
theorem Tn(N:Nat):Vn prog [Xs N,Lc N,Le N] [] N f131 .lf [(.int .u64),(.tab (.int .u64))] [A0] 1 [1]=Lf N:=rfl
def En(N:Nat):Ga prog:=A6q 131 f131 _ [(.int .u64),(.tab (.int .u64))] [A0] 1 [1] (Lf N) mixed func131 (.mk' func131 rfl (by decide)) rfl (Tn N)
def J7(N:Nat):Oe [.d (.int .u64)] (A3 (B6 (Tu .u8 []))):=Av1 prog [] [] N f132 (A1 (.seq (.blk (.loop ⟨[(1,.d (.int .u64)),(4,.d A0)],[],[0],[],[],[]⟩ .lf)) (A1 (.join
 ⟨[(4,.d A0),(12,.d (.int .u32))],[],[0],[],[],[]⟩ .lf (.join ⟨[(4,.d A0),(12,.d (.int .u32))],[],[0],[],[],[]⟩ .lf .lf))))) .u8 [.d (.int .u64)] []
theorem R5(N:Nat):Av1 prog [] [] N f132 (A1 (.seq (.blk (.loop ⟨[(1,.d (.int .u64)),(4,.d A0)],[],[0],[],[],[]⟩ .lf)) (A1 (.join ⟨[(4,.d A0),(12,.d (.int .u32))],[],[0],[],[],[]⟩ .lf (.join ⟨[(4,.d A0),(12,.d (.int .u32))],[],[0],[],[],[]⟩ .lf .lf))))) .u8 [.d (.int .u64)] []=J7 N:=rfl
def Jj(N:Nat):A2 (.u8:Ty).T→Nat→Oe [.d (.int .u64)] (A3 (A2 (.u8:Ty).T×Sn [])):=B49 prog [] [] N f132 (A1 (.seq (.blk (.loop ⟨[(1,.d (.int .u64)),(4,.d (.int
 .i64))],[],[0],[],[],[(1,.arr .u8)]⟩ .lf)) (A1 (.join ⟨[(4,.d A0),(12,.d (.int .u32))],[],[0],[],[],[(1,.arr .u8)]⟩ .lf (.join ⟨[(4,.d A0),(12,.d (.int .u32))],[],[0],[],[],[(1,.arr .u8)]⟩ .lf
 .lf))))) .u8 [.d (.int .u64)] []
theorem Rb(N:Nat):B49 prog [] [] N f132 (A1 (.seq (.blk (.loop ⟨[(1,.d (.int .u64)),(4,.d A0)],[],[0],[],[],[(1,.arr .u8)]⟩ .lf)) (A1 (.join ⟨[(4,.d A0),(12,.d (.int .u32))],[],[0],[],[],[(1,.arr .u8)]⟩ .lf (.join ⟨[(4,.d A0),(12,.d (.int .u32))],[],[0],[],[],[(1,.arr .u8)]⟩ .lf .lf))))) .u8 [.d (.int .u64)] []=Jj N:=rfl
def Dh(N:Nat):Ga prog:=Bh7 132 f132 _ _ .u8 [.d (.int .u64)] [] (Jj N) (J7 N) mixed func132 (.mk' func132 rfl (by decide)) rfl (Rb N) (R5 N)
def E9(N:Nat):Ga prog:=mkNone 133
def Kf(N:Nat):C1 [(.int .u64),A0,(.tab (.int .u64))] (A3 (B6 [.str])):=Vn prog [Gl N,En N,Dh N,E9 N] [5] N f88 .lf [(.int .u64),A0,(.tab (.int .u64))] [.str] 2 [1]
theorem T0(N:Nat):Vn prog [Gl N,En N,Dh N,E9 N] [5] N f88 .lf [(.int .u64),A0,(.tab (.int .u64))] [.str] 2 [1]=Kf N:=rfl
def Kg(N:Nat):Ga prog:=A6q 88 f88 _ [(.int .u64),A0,(.tab (.int .u64))] [.str] 2 [1] (Kf N) mixed func88 (.mk' func88 rfl (by decide)) rfl (T0 N)
def T1(N:Nat):C1 [(.int .u64),A0,(.tab (.int .u64))] (A3 (B6 [.str])):=Vn prog [Kg N] [] N f45 .lf [(.int .u64),A0,(.tab (.int .u64))] [.str] 2 [1]
theorem A3p(N:Nat):Vn prog [Kg N] [] N f45 .lf [(.int .u64),A0,(.tab (.int .u64))] [.str] 2 [1]=T1 N:=rfl
def J8(N:Nat):Ga prog:=A6q 45 f45 _ [(.int .u64),A0,(.tab (.int .u64))] [.str] 2 [1] (T1 N) mixed func45 (.mk' func45 rfl (by decide)) rfl (A3p N)
def Aju(N:Nat):C1 [Af,(.tab (.int .u64))] (A3 (B6 [.str])):=Vn prog [J8 N] [] N f44 .lf [Af,(.tab (.int .u64))] [.str] 1 [1]
theorem Azv(N:Nat):Vn prog [J8 N] [] N f44 .lf [Af,(.tab (.int .u64))] [.str] 1 [1]=Aju N:=rfl
def Ajv(N:Nat):Ga prog:=A6q 44 f44 _ [Af,(.tab (.int .u64))] [.str] 1 [1] (Aju N) mixed func44 (.mk' func44 rfl (by decide)) rfl (Azv N)
def Abg(N:Nat):C1 [.u8,(.tab .str)] (A3 (B6 [.str])):=Vn prog [A0v N] [] N f46 .lf [.u8,(.tab .str)] [.str] 1 [0]
theorem Asj(N:Nat):Vn prog [A0v N] [] N f46 .lf [.u8,(.tab .str)] [.str] 1 [0]=Abg N:=rfl
def Abh(N:Nat):Ga prog:=A6q 46 f46 _ [.u8,(.tab .str)] [.str] 1 [0] (Abg N) mixed func46 (.mk' func46 rfl (by decide)) rfl (Asj N)
@[reducible] def Db:Fg:=⟨[.p 1 0,.d .u8],[(1,[.z 1 0,.Bu 300001 .u8 (some 5)],some 86)],[],⟨[(4,.d .err)],[(1,[.z 1 0,.Bu 350001 .u8 (some 5)],some 86)],[],[],[],[]⟩⟩
def Hm(N:Nat):Fg.C1 Db (A3 Db.out.T):=A1k prog [F8 N] [] N f42 .lf Db
theorem Um(N:Nat):A1k prog [F8 N] [] N f42 .lf Db=Hm N:=rfl
def Hn(N:Nat):Ga prog:=mkC 42 f42 _ Db (Hm N) mixed func42 (.mk' func42 rfl (by decide)) rfl rfl rfl (Um N)
def A3q(N:Nat):C1 [.u8] (A3 (B6 [.bool])):=A0l prog [] [] N f89 .lf [.u8] [.bool]
theorem Ajw(N:Nat):A0l prog [] [] N f89 .lf [.u8] [.bool]=A3q N:=rfl
def A3r(N:Nat):Ga prog:=Alf 89 f89 _ [.u8] [.bool] (A3q N) mixed func89 (.mk' func89 rfl (by decide)) rfl (Ajw N)
def A6u(N:Nat):C1 [.str] (A3 (B6 [.str])):=A0l prog [Hn N,Ej N,A3r N] [] N f47 (A1 (.join ⟨[(3,.p 1003 0)],[(1003,[.z 1003 0,.Bu 300301 .u8 (some 5)],some 86)],[0],[],[],[]⟩ .lf (.seq
 .lf (.seq (A1 (.blk (.loop ⟨[(8,.d A0)],[(1003,[.z 1003 0,.Bu 300301 .u8 (some 5)],some 86)],[0,3,7],[],[],[]⟩ .lf))) .lf)))) [.str] [.str]
theorem Alw(N:Nat):A0l prog [Hn N,Ej N,A3r N] [] N f47 (A1 (.join ⟨[(3,.p 1003 0)],[(1003,[.z 1003 0,.Bu 300301 .u8 (some 5)],some 86)],[0],[],[],[]⟩ .lf (A1 (.seq (A1 (.blk (.loop ⟨[(8,.d A0)],[(1003,[.z 1003 0,.Bu 300301 .u8 (some 5)],some 86)],[0,3,7],[],[],[]⟩ .lf))) .lf)))) [.str] [.str]=A6u N:=rfl
def A6v(N:Nat):Ga prog:=Alf 47 f47 _ [.str] [.str] (A6u N) mixed func47 (.mk' func47 rfl (by decide)) rfl (Alw N)
def Lg(N:Nat):C1 [A0,A0,(.tab (.int .u64))] (A3 (B6 [.str])):=Vn prog [Gl N,En N,Dh N,E9 N] [5] N f135 (A1 (.seq (A1 (.cond (A1 (A1 (A1 (.join
 ⟨[(6,.d (.int .u64))],[],[0,5,1000001],[1005],[],[]⟩ .lf .lf)))) .lf)) .lf)) [A0,A0,(.tab (.int .u64))] [.str] 2 [1]
theorem To(N:Nat):Vn prog [Gl N,En N,Dh N,E9 N] [5] N f135 (A1 (.seq (A1 (.cond (A1 (A1 (A1 (.join ⟨[(6,.d (.int .u64))],[],[0,5,1000001],[1005],[],[]⟩ .lf .lf)))) .lf)) .lf)) [A0,A0,(.tab (.int .u64))] [.str] 2 [1]=Lg N:=rfl
def Lh(N:Nat):Ga prog:=A6q 135 f135 _ [A0,A0,(.tab (.int .u64))] [.str] 2 [1] (Lg N) mixed func135 (.mk' func135 rfl (by decide)) rfl (To N)
def Pv(N:Nat):C1 [A0,(.tab (.int .u64))] (A3 (B6 [.str])):=Vn prog [Lh N] [] N f91 .lf [A0,(.tab (.int .u64))] [.str] 1 [1]
theorem Zn(N:Nat):Vn prog [Lh N] [] N f91 .lf [A0,(.tab (.int .u64))] [.str] 1 [1]=Pv N:=rfl
def Pw(N:Nat):Ga prog:=A6q 91 f91 _ [A0,(.tab (.int .u64))] [.str] 1 [1] (Pv N) mixed func91 (.mk' func91 rfl (by decide)) rfl (Zn N)
def A3s(N:Nat):C1 [A0,(.tab (.int .u64))] (A3 (B6 [.str])):=Vn prog [Pw N] [] N f49 .lf [A0,(.tab (.int .u64))] [.str] 1 [1]
theorem Ajx(N:Nat):Vn prog [Pw N] [] N f49 .lf [A0,(.tab (.int .u64))] [.str] 1 [1]=A3s N:=rfl
def A3t(N:Nat):Ga prog:=A6q 49 f49 _ [A0,(.tab (.int .u64))] [.str] 1 [1] (A3s N) mixed func49 (.mk' func49 rfl (by decide)) rfl (Ajx N)
def A10(N:Nat):C1 [A5,(.tab .str),(.tab (.int .u64))] (A3 (B6 [.str])):=Vn prog [Zm N,A0w N,Ajv N,J8 N,Abh N,A6v N,A3t N] [13,27,34] N f18 (A1 (A1 (A1 (.join
 ⟨[],[],[1,1000000,1000001],[1001],[(3,400003,.str)],[]⟩ .lf .lf)))) [A5,(.tab .str),(.tab (.int .u64))] [.str] 1 [0,1]
theorem Asl(N:Nat):Vn prog [Zm N,A0w N,Ajv N,J8 N,Abh N,A6v N,A3t N] [13,27,34] N f18 (A1 (A1 (A1 (.join ⟨[],[],[1,1000000,1000001],[1001],[(3,400003,.str)],[]⟩ .lf .lf)))) [A5,(.tab .str),(.tab (.int .u64))] [.str] 1 [0,1]=A10 N:=rfl
def A11(N:Nat):Ga prog:=A6q 18 f18 _ [A5,(.tab .str),(.tab (.int .u64))] [.str] 1 [0,1] (A10 N) mixed func18 (.mk' func18 rfl (by decide)) rfl (Asl N)
def Dq(N:Nat):C1 [(.tab .str),(.tab (.int .u64))] (A3 (B6 [.bool])):=Vn prog [A11 N] [] N f5 .lf [(.tab .str),(.tab (.int .u64))] [.bool] 0 [0,1]
theorem A3u(N:Nat):Vn prog [A11 N] [] N f5 .lf [(.tab .str),(.tab (.int .u64))] [.bool] 0 [0,1]=Dq N:=rfl
def A3v(N:Nat):Ga prog:=A6q 5 f5 _ [(.tab .str),(.tab (.int .u64))] [.bool] 0 [0,1] (Dq N) mixed func5 (.mk' func5 rfl (by decide)) rfl (A3u N)
def A3w(N:Nat):Ga prog:=Aj1 10 (Aj0 0) (Asi N) (Azt N) rfl rfl
@[reducible] def Zo:ASp:=⟨[.nil true,.d (.int .u64)],[],[.d A5,.d .bool]⟩
def K3(N:Nat):ASp.C1 Zo:=fun(y:Int)=>Option.bind (Ky N y) fun(y:Unit×A2 Bs1×Unit)=>bif (↑y.2.1.length:Int)==0 then some ((),((0,0),0,0,0,[],[]),false,())else (at? y.2.1 (i64.wrap
 ((↑y.2.1.length:Int)-1))).bind fun(e:Bs3×UInt8×Int×UInt8×A2 UInt8×A2 Bs3)=>some ((),e,true,())
def Adn(N:Nat):=Arv [A3w N] [] N 13 (fun _=>.lf) Zo (K3 N) mixed func13 rfl (by decide) rfl rfl (by kernel_rfl)
@[reducible] def Zp:ASp:=⟨[.nil true],[],[.d A0,.d A0,.d A0]⟩
def K4(N:Nat):ASp.C1 Zp:=Option.bind (R0 N) fun(y:Bse×Unit×Unit×Unit)=>iter (fun(rec:Bsf×Unit×Unit×Unit→A3 (Unit×Int×Int×Int×Unit)) (z:Bsf×Unit×Unit×Unit)=>bif decide (z.1.2.1<(↑y.1.1.length:Int))then
 (at? y.1.1 z.1.2.1).bind fun(e:Bs3×UInt8×Int×UInt8×A2 UInt8×A2 Bs3)=>rec ((i64.wrap (z.1.1+(↑e.2.2.2.2.2.length:Int)),i64.wrap (z.1.2.1+1),()),(),(),())else Option.bind (Ic N)
 fun(y:Bse×Unit×Unit×Unit)=>Option.bind (U2 N) fun(Bn:Bse×Unit×Unit×Unit)=>some ((),(↑y.1.1.length:Int),(↑Bn.1.1.length:Int),z.1.1,())) N ((0,0,()),(),(),())
def Ado(N:Nat):=Arv [Xp N,A65 N,J6 N] [] N 14 (fun _=>(A1 (A1 (.seq (A1 (.blk (.loop ⟨[(5,.d A0),(11,.d A0)],[],[0,9,10],[],[],[]⟩ .lf))) .lf)))) Zp (K4 N) mixed func14 rfl (by decide) rfl rfl (by kernel_rfl)
@[reducible] def A3x:ASp:=⟨[.nil true,.g 0 (.tab .str),.g 1 (.tab (.int .u64))],[],[.d .str]⟩
def N3(N:Nat):ASp.C1 A3x:=fun(y:A2 (A2 UInt8)) (Bn:A2 Int)=>Bw (fun(z:Bso×Bsk×Unit×Unit)=>Option.bind (R0 N) fun(F7:Bse×Unit×Unit×Unit)=>iter (fun(rec:Bs7×Bsk×Unit×Unit→A3 (Unit×A2 UInt8×Unit))
 (z:Bs7×Bsk×Unit×Unit)=>bif decide (z.1.1<(↑F7.1.1.length:Int))then (at? F7.1.1 z.1.1).bind fun(e:Bs3×UInt8×Int×UInt8×A2 UInt8×A2 Bs3)=>Option.bind (A10 N e y Bn) fun(y:A2 UInt8)=>Option.bind (Gs N y z.2.1.1.1
 z.2.1.1.2.1) fun(y:(Int×Bool×Unit)×Bsk×Unit×Unit)=>Option.bind (Hm N 10 y.2.1.1.1 y.2.1.1.2.1) fun(y:Bsj×Bsk×Unit×Unit)=>rec ((i64.wrap (z.1.1+1),()),((y.2.1.1.1,y.2.1.1.2.1,()),()),(),())else Option.bind (Jf N
 z.2.1.1.1 z.2.1.1.2.1) fun(y:(A2 UInt8×Unit)×Bsk×Unit×Unit)=>some ((),y.1.1,())) N ((0,()),((z.2.1.1.1,z.2.1.1.2.1,()),()),(),())) fun(k:Bso×Bsk×Unit×Unit→A3 (Unit×A2 UInt8×Unit))=>k
 (((),()),((true,[],()),()),(),())
def Ajy(N:Nat):=Arv [Xp N,A11 N,Gt N,Hn N,Ej N] [] N 15 (fun _=>(A1 (.join ⟨[(3,.p 1003 0)],[(1003,[.z 1003 0,.Bu 300301 .u8 (some 5)],some 86)],[0,1000000,1000001],[],[],[]⟩ .lf (.seq (A1 (.blk (.loop ⟨[(9,.d A0)],[(1003,[.z 1003 0,.Bu 300301 .u8 (some 5)],some 86)],[3,7,8,1000000,1000001],[],[],[]⟩ .lf))) .lf)))) A3x (N3 N) mixed func15 rfl (by decide) rfl rfl (by kernel_rfl)
def A8s(N:Nat):Ga prog:=Aj1 12 (Aj0 0) (Adl N) (Ajt N) rfl rfl
def Ju(N:Nat):C1 [(.sl Af),(.sl Af)] (A3 (B6 [.bool])):=fun(x C8:Bsh)=>bif (↑x.length:Int) != (↑C8.length:Int)then some false else iter (fun(rec:Bs7×Unit×Unit×Unit→A3 Bool)
 (z:Bs7×Unit×Unit×Unit)=>bif decide (z.1.1<(↑x.length:Int))then (at? x z.1.1).bind fun(e:Bs3)=>(at? C8 z.1.1).bind fun(Cr:Bs3)=>bif !(e.1==Cr.1&&e.2==Cr.2)then some false else rec ((i64.wrap
 (z.1.1+1),()),(),(),())else some true) N ((0,()),(),(),())
def A66(N:Nat):=D7 [] [] N 37 (A1 (A1 (.seq (A1 (.blk (.loop ⟨[(5,.d A0)],[],[0,1],[],[],[]⟩ .lf))) .lf))) [(.sl Af),(.sl Af)] [.bool] (Ju N) mixed func37 rfl (by decide) rfl (by kernel_rfl)
def Hg(N:Nat):C1 [A5,A5] (A3 (B6 [.bool])):=fun(x C8:Bs3×UInt8×Int×UInt8×A2 UInt8×A2 Bs3)=>bif x.1.1==C8.1.1&&x.1.2==C8.1.2 then bif x.2.1==C8.2.1 then bif x.2.2.1==C8.2.2.1 then bif
 x.2.2.2.1==C8.2.2.2.1 then bif x.2.2.2.2.1==C8.2.2.2.2.1 then Option.bind (Ju N x.2.2.2.2.2 C8.2.2.2.2.2) fun(y:Bool)=>some y else some false else some false else some false else some false else some false
def A67(N:Nat):=D7 [A66 N] [] N 11 .lf [A5,A5] [.bool] (Hg N) mixed func11 rfl (by decide) rfl (by kernel_rfl)
def G5(N:Nat):C1 [(.sl tepitaphlaw18Act),(.tab .str),(.tab (.int .u64))] (A3 (B6 [.bool])):=fun(x:A2 (UInt8×Bs1×A2 Bs6)) (C8:A2 (A2 UInt8)) (x_2:A2 Int)=>Option.bind (I7 N x 20)
 fun(y:Int)=>bif y==0 then Option.bind (Dq N C8 x_2) fun(y:Bool)=>some y else Option.bind (Lw N x) fun(y:Bsn)=>Option.bind (Jt N y.1) fun(Bn:A2 Bs6)=>Option.bind (Xq N Bn y.2) fun(y:Bsp)=>A4 y.2.1 (Option.bind (Ic N)
 fun(y:Bse×Unit×Unit×Unit)=>iter (fun(rec:Bs7×Unit×Unit×Unit→A3 Bool) (z:Bs7×Unit×Unit×Unit)=>bif decide (z.1.1<(↑y.1.1.length:Int))then (at? y.1.1 z.1.1).bind fun(e:Bs3×UInt8×Int×UInt8×A2 UInt8×List
 Bs3)=>Option.bind (Ky N e.2.2.1) fun(F7:Unit×A2 Bs1×Unit)=>iter (fun(rec_1:(Bool×Int×Unit)×Unit×Unit×Unit→A3 Bool) (B9:(Bool×Int×Unit)×Unit×Unit×Unit)=>bif decide (B9.1.2.1<(↑F7.2.1.length:Int))then bif B9.1.1
 then (at? F7.2.1 B9.1.2.1).bind fun(e:Bs3×UInt8×Int×UInt8×A2 UInt8×A2 Bs3)=>(at? y.1.1 z.1.1).bind fun(Cr:Bs3×UInt8×Int×UInt8×A2 UInt8×A2 Bs3)=>bif e.2.2.1 != Cr.2.2.1 then some false else bif decide
 (0<B9.1.2.1)then (at? F7.2.1 (i64.wrap (B9.1.2.1-1))).bind fun(e:Bs3×UInt8×Int×UInt8×A2 UInt8×A2 Bs3)=>(at? F7.2.1 B9.1.2.1).bind fun(e_2:Bs3×UInt8×Int×UInt8×A2 UInt8×A2 Bs3)=>bif decide
 (e_2.1.2<e.1.2)then some false else rec_1 ((true,i64.wrap (B9.1.2.1+1),()),(),(),())else rec_1 ((true,i64.wrap (B9.1.2.1+1),()),(),(),())else (at? F7.2.1 B9.1.2.1).bind fun(e:Bs3×UInt8×Int×UInt8×List
 UInt8×A2 Bs3)=>(at? y.1.1 z.1.1).bind fun(Cr:Bs3×UInt8×Int×UInt8×A2 UInt8×A2 Bs3)=>Option.bind (Hg N e Cr) fun(Gv:Bool)=>(at? F7.2.1 B9.1.2.1).bind fun(e:Bs3×UInt8×Int×UInt8×A2 UInt8×A2 Bs3)=>(at? y.1.1
 z.1.1).bind fun(e_2:Bs3×UInt8×Int×UInt8×A2 UInt8×A2 Bs3)=>bif e.2.2.1 != e_2.2.2.1 then some false else bif decide (0<B9.1.2.1)then (at? F7.2.1 (i64.wrap (B9.1.2.1-1))).bind fun(e:Bs3×UInt8×Int×UInt8×List
 UInt8×A2 Bs3)=>(at? F7.2.1 B9.1.2.1).bind fun(e_3:Bs3×UInt8×Int×UInt8×A2 UInt8×A2 Bs3)=>bif decide (e_3.1.2<e.1.2)then some false else rec_1 ((Gv,i64.wrap (B9.1.2.1+1),()),(),(),())else rec_1
 ((Gv,i64.wrap (B9.1.2.1+1),()),(),(),())else bif !B9.1.1 then some false else rec ((i64.wrap (z.1.1+1),()),(),(),())) N ((false,0,()),(),(),())else Option.bind (Hv N) fun(F7:Unit×A2 Bs3×Unit)=>iter
 (fun(rec:Bsf×Unit×Unit×Unit→A3 Bool) (z:Bsf×Unit×Unit×Unit)=>bif decide (z.1.2.1<(↑F7.2.1.length:Int))then (at? F7.2.1 z.1.2.1).bind fun(e:Bs3)=>rec ((i64.wrap (z.1.1+i64.wrap e.2),i64.wrap
 (z.1.2.1+1),()),(),(),())else Option.bind (K3 N 5) fun(Gv:Unit×Bs1×Bool×Unit)=>Option.bind (K4 N) fun(y_4:Unit×Int×Int×Int×Unit)=>bif z.1.1==(↑y.1.1.length:Int)then bif !Gv.2.2.1 then Option.bind (Ky N 5)
 fun(y:Unit×A2 Bs1×Unit)=>Option.bind (Hv N) fun(y_5:Unit×A2 Bs3×Unit)=>Option.bind (N3 N C8 x_2) fun(y_6:Unit×A2 UInt8×Unit)=>bif i64.wrap (i64.wrap (i64.wrap (i64.wrap
 (i64.wrap (y_4.2.1+y_4.2.2.1)+y_4.2.2.2.1)+(↑y.2.1.length:Int))+(↑y_5.2.1.length:Int))+(↑y_6.2.1.length:Int))==0 then Option.bind (Dq N C8 x_2) fun(y:Bool)=>some y else some false else some false else some
 false) N ((0,0,()),(),(),())) N ((0,()),(),(),())) fun(z:A2 Bs6×A3 Bsc×A3 Bsc×Unit)=>Option.bind (Ni N z) fun(y:(Bs5×Unit)×A2 Bs1×Unit)=>iter (fun(rec:Bs7×Unit×Unit×Bs5×Unit→A3 Bool)
 (z:Bs7×Unit×Unit×Bs5×Unit)=>bif decide (z.1.1<(↑y.2.1.length:Int))then (at? y.2.1 z.1.1).bind fun(e:Bs3×UInt8×Int×UInt8×A2 UInt8×A2 Bs3)=>Option.bind (A0z N e.2.2.1 z.2.2.2.1) fun(F7:(Bs5×Unit)×A2 Bs1×Unit)=>iter
 (fun(rec_1:(Bool×Int×Unit)×Unit×Unit×Bs5×Unit→A3 Bool) (B9:(Bool×Int×Unit)×Unit×Unit×Bs5×Unit)=>bif decide (B9.1.2.1<(↑F7.2.1.length:Int))then bif B9.1.1 then (at? F7.2.1 B9.1.2.1).bind
 fun(e:Bs3×UInt8×Int×UInt8×A2 UInt8×A2 Bs3)=>(at? y.2.1 z.1.1).bind fun(Cr:Bs3×UInt8×Int×UInt8×A2 UInt8×A2 Bs3)=>bif e.2.2.1 != Cr.2.2.1 then some false else bif decide (0<B9.1.2.1)then (at? F7.2.1
 (i64.wrap (B9.1.2.1-1))).bind fun(e:Bs3×UInt8×Int×UInt8×A2 UInt8×A2 Bs3)=>(at? F7.2.1 B9.1.2.1).bind fun(e_2:Bs3×UInt8×Int×UInt8×A2 UInt8×A2 Bs3)=>bif decide (e_2.1.2<e.1.2)then some false else rec_1
 ((true,i64.wrap (B9.1.2.1+1),()),(),(),B9.2.2.2.1,())else rec_1 ((true,i64.wrap (B9.1.2.1+1),()),(),(),B9.2.2.2.1,())else (at? F7.2.1 B9.1.2.1).bind fun(e:Bs3×UInt8×Int×UInt8×A2 UInt8×A2 Bs3)=>(at?
 y.2.1 z.1.1).bind fun(Cr:Bs3×UInt8×Int×UInt8×A2 UInt8×A2 Bs3)=>Option.bind (Hg N e Cr) fun(Gv:Bool)=>(at? F7.2.1 B9.1.2.1).bind fun(e:Bs3×UInt8×Int×UInt8×A2 UInt8×A2 Bs3)=>(at? y.2.1 z.1.1).bind
 fun(e_2:Bs3×UInt8×Int×UInt8×A2 UInt8×A2 Bs3)=>bif e.2.2.1 != e_2.2.2.1 then some false else bif decide (0<B9.1.2.1)then (at? F7.2.1 (i64.wrap (B9.1.2.1-1))).bind fun(e:Bs3×UInt8×Int×UInt8×A2 UInt8×List
 Bs3)=>(at? F7.2.1 B9.1.2.1).bind fun(e_3:Bs3×UInt8×Int×UInt8×A2 UInt8×A2 Bs3)=>bif decide (e_3.1.2<e.1.2)then some false else rec_1 ((Gv,i64.wrap (B9.1.2.1+1),()),(),(),B9.2.2.2.1,())else rec_1
 ((Gv,i64.wrap (B9.1.2.1+1),()),(),(),B9.2.2.2.1,())else bif !B9.1.1 then some false else rec ((i64.wrap (z.1.1+1),()),(),(),B9.2.2.2.1,())) N ((false,0,()),(),(),F7.1.1,())else Option.bind (R3 N
 z.2.2.2.1) fun(F7:Bsi)=>iter (fun(rec:Bsf×Unit×Unit×Bs5×Unit→A3 Bool) (z:Bsf×Unit×Unit×Bs5×Unit)=>bif decide (z.1.2.1<(↑F7.2.1.length:Int))then (at? F7.2.1 z.1.2.1).bind fun(e:Bs3)=>rec ((i64.wrap
 (z.1.1+i64.wrap e.2),i64.wrap (z.1.2.1+1),()),(),(),z.2.2.2.1,())else Option.bind (K3 N 5) fun(Gv:Unit×Bs1×Bool×Unit)=>Option.bind (K4 N) fun(y_4:Unit×Int×Int×Int×Unit)=>bif
 z.1.1==(↑y.2.1.length:Int)then bif !Gv.2.2.1 then Option.bind (Ky N 5) fun(y:Unit×A2 Bs1×Unit)=>Option.bind (Hv N) fun(y_5:Unit×A2 Bs3×Unit)=>Option.bind (N3 N C8 x_2) fun(y_6:Unit×A2 UInt8×Unit)=>bif
 i64.wrap (i64.wrap (i64.wrap (i64.wrap (i64.wrap (y_4.2.1+y_4.2.2.1)+y_4.2.2.2.1)+(↑y.2.1.length:Int))+(↑y_5.2.1.length:Int))+(↑y_6.2.1.length:Int))==0 then Option.bind (Dq N C8
 x_2) fun(y:Bool)=>some y else some false else some false else some false) N ((0,0,()),(),(),F7.1.1,())) N ((0,()),(),(),y.1.1,())
theorem Wr(N:Nat):Vn prog [Adn N,Ado N,Ajy N,A67 N,A8i N,A3v N,Abc N,Aw7 N,A63 N,J6 N,A8s N,A3w N] [] N f3 (A1 (A1 (A1 (A1 (A1 (.seq (A1 (.blk (.sel 1031010 (.loop ⟨[(8,.d A0)],[],[4,6,7,1000000,1000001],[],[],[(1031010,.abs 1031010 Sh1 (some 67))]⟩ (A1 (.seq (.blk (A1 (A1 (.seq (A1 (.blk (.sel 1031010 (.loop ⟨[(10,.d .bool),(11,.d A0)],[],[4,6,7,8,9,1000000,1000001],[],[],[(1031010,.abs 1031010 Sh1 (some 67))]⟩ .lf) (.loop ⟨[(10,.d .bool),(11,.d A0)],[],[4,6,7,8,9,1000000,1000001],[],[],[]⟩ .lf)))) .lf)))) .lf))) (.loop ⟨[(8,.d A0)],[],[4,6,7,1000000,1000001],[],[],[]⟩ (A1 (.seq (.blk (A1 (A1 (.seq (A1 (.blk (.sel 1031010 (.loop ⟨[(10,.d .bool),(11,.d A0)],[],[4,6,7,8,9,1000000,1000001],[],[],[(1031010,.abs 1031010 Sh1 (some 67))]⟩ .lf) (.loop ⟨[(10,.d .bool),(11,.d A0)],[],[4,6,7,8,9,1000000,1000001],[],[],[]⟩ .lf)))) .lf)))) .lf)))))) (A1 (.seq (A1 (.blk (.sel 1031010 (.loop ⟨[(7,.d A0),(13,.d A0)],[],[6,12,1000000,1000001],[],[],[(1031010,.abs 1031010 Sh1 (some 67))]⟩ .lf) (.loop ⟨[(7,.d A0),(13,.d A0)],[],[6,12,1000000,1000001],[],[],[]⟩ .lf)))) .lf)))))))) [(.sl tepitaphlaw18Act),(.tab .str),(.tab (.int .u64))] [.bool] 1 [0,1]=G5 N:=by kernel_rfl
theorem D_epitaphlaw51_TrailWhole(N:Nat):Ad7 prog 3 [.bool] 1 [0,1] [(.sl tepitaphlaw18Act),(.tab .str),(.tab (.int .u64))] (G5 N) []:=Wr N▸Aij mixed func3 rfl
def tabPow:A2 Int:=[1,10,100,1000,10000,100000,1000000,10000000,100000000,1000000000,10000000000,100000000000,1000000000000,10000000000000,100000000000000,1000000000000000,10000000000000000,100000000000000000,1000000000000000000,10000000000000000000]
def tabNames:A2 (A2 UInt8):=[[110,97,109,101],[112,104,111,110,101],[109,97,105,108],[116,111,119,110],[110,111,116,101]]
theorem Bc5:Dq 2000000000000 tabNames tabPow=some true:=by kernel_rfl
open Go.Sort
section
variable{α:Type}[DecidableEq α]
def Po(p:α):A2 α→A2 α
 |[]=>[]
 |y::r=>if y=p then Po p r else y::Po y r
def comp:A2 α→A2 α
 |[]=>[]
 |x::r=>x::Po x r
theorem Af4(q y:α):∀(p:α) (l:A2 α),(p::l).getLast? = some q→Po p (l++[y])=if y=q then Po p l else Po p l++[y]
 |p,[],h=>by
  simp at h;subst h;simp[Po]
 |p,x::r,h=>by
  rw[List.getLast?_cons_cons]at h;simp only[Bmx,Po];have ih:=Af4 q y x r h;by_cases hx:x=p
  ·subst hx;rw[Blv rfl,Blv rfl,ih]
  ·rw[Blj hx,Blj hx,ih];by_cases hy:y=q
   ·rw[Blv hy,Blv hy]
   ·rw[Blj hy,Blj hy];rfl
theorem A3y{l:A2 α}{m:Nat}(hm:0<m){a b:α}(ha:l[m-1]? = some a)(hb:l[m]? = some b):comp (l.take (m+1))=if b=a then comp (l.take m)else comp (l.take m)++[b]:=by
 have Bs:m<l.length:=(Bku.1 hb).1;have e:l.take (m+1)=l.take m++[b]:=by rw[Bmy,hb];rfl
 rw[e];cases hl:l.take m with
 |nil=>simp at hl;rcases hl with h|h<;>(subst h;simp at *)
 |cons x r =>
  have Agh:(x::r).getLast? = some a:=by rw[← hl,List.getLast?_eq_getElem?,Bm6,Bm5,Nat.min_eq_left (by omega),Blv (by omega)];exact ha
  simp only[Bmx,comp];rw[Af4 a b x r Agh];by_cases h:b=a
  ·rw[Blv h,Blv h]
  ·rw[Blj h,Blj h]
theorem Aw8(l:A2 α):comp (l.take 1)=l.take 1:=by
 cases l with
 |nil=>rfl
 |cons x r=>simp[comp,Po]
end
theorem Azw(e f:Int×Int):(e.fst==f.fst&&e.snd==f.snd)=decide (e=f):=by obtain⟨a,b⟩:=e;obtain⟨c,d⟩:=f;by_cases h1:a=c<;>by_cases h2:b=d<;>simp[h1,h2]
theorem Hs{α:Type}{l:A2 α}{i:Nat}(h:i<l.length):l[i]? = some l[i]:=Bl8 h
theorem Ed(n:Nat):((n:Int)).toNat=n:=rfl
def B9h(l:A2 (Int×Int))(r:A2 (Int×Int)×Nat):Prop:=r.1.take r.2=comp l∧r.2≤r.1.length
theorem Azx(N:Nat)(l:A2 (Int×Int))(hb:l.length<4611686018427387904)(hN:l.length<N):∃r,G3 N l l.length=some r∧B9h l r:=by
 unfold G3;simp only[cond_eq_ite,Azw];by_cases h2:((l.length:Nat):Int)<2
 ·rw[Blv (by simpa using h2)];refine⟨_,rfl,?_,Bl1 _⟩;have:l=l.take 1:=by rw[Bn3 (by omega)]
  rw[Bm4,this,Aw8]
 ·rw[Blj (by simpa using h2)];refine G2 (fun n z=>∃k:Nat,z=(((k:Int),()),(),(),l,())∧1≤k∧k≤l.length∧n=l.length-k∧comp (l.take k)=l.take k) ?_ N (l.length-1) _ ⟨1,rfl,by omega,by omega,rfl,Aw8 l⟩ (by omega);rintro n z rec ⟨k,rfl,k1,k2,hn,hc⟩ ih;simp only;by_cases hk:k<l.length
  ·have e1:i64.wrap ((k:Int)-1)=((k-1:Nat):Int):=Oi (by omega) (by omega);have e2:i64.wrap ((k:Int)+1)=((k+1:Nat):Int):=Ah (by omega);simp only[e1,e2,Ed,Blx,Hs hk,Hs (show k-1<l.length by omega),Bkp];rw[Blv (by simp;omega),Blv (by simp;omega),Blv (by simp;omega)];have Bdb:=A3y (l:=l) (m:=k) (by omega) (Hs (show k-1<l.length by omega)) (Hs hk);by_cases he:l[k]=l[k-1]
   ·rw[Blv (by simpa using he),Blv (by simp[Lq];omega)];refine G2 (fun n z=>∃(i q:Nat) (c:A2 (Int×Int)),z=(((i:Int),(q:Int),()),(),(),c,())∧1≤q∧k+q≤l.length∧i+1≤k+q∧c.length=l.length ∧
     (∀j,i≤j→c[j]? = l[j]?)∧c.take i=comp (l.take (k+q))∧n=l.length-(k+q)) ?_ N (l.length-(k+1)) _
     ⟨k,1,l,rfl,by omega,by omega,by omega,rfl,fun _ _=>rfl,by rw[Bdb,Blv he,hc],rfl⟩ (by omega)
    rintro n z rec ⟨i,q,c,rfl,q1,q2,q3,hcl,hcj,hct,hn⟩ ih';simp only;by_cases hq:k+q<l.length
    ·have f1:i64.wrap ((q:Int)-1)=((q-1:Nat):Int):=Oi (by omega) (by omega);have f2:i64.wrap ((q:Int)+1)=((q+1:Nat):Int):=Ah (by omega);have f3:i64.wrap ((i:Int)+1)=((i+1:Nat):Int):=Ah (by omega);have g1:c[k+q]? = some l[k+q]:=by rw[hcj _ (by omega),Hs hq]
     have g2:c[k+(q-1)]? = some l[k+(q-1)]:=by rw[hcj _ (by omega),Hs (by omega)]
     have g3:c[i]? = some (c[i]'(by omega)):=Hs (by omega);simp only[f1,f2,f3,Ed,g1,g2,g3,Bkp];rw[Blv (by simp;omega),Blv (by simp;omega),Blv (by simp;omega)];have hs:=A3y (l:=l) (m:=k+q) (a:=l[k+(q-1)]) (by omega) (by rw[show k+q-1=k+(q-1) by omega];exact Hs _) (Hs hq);by_cases hne:l[k+q]=l[k+(q-1)]
     ·rw[Blj (by simpa using hne)];refine ih' (l.length-(k+(q+1))) _ (by omega) ⟨i,q+1,c,rfl,by omega,by omega,by omega,hcl,hcj,?_,rfl⟩;rw[hct,← Bo0,hs,Blv hne]
     ·rw[Blv (by simpa using hne),Blv (by simp;omega),Blv (by simp;omega)];refine ih' (l.length-(k+(q+1))) _ (by omega) ⟨i+1,q+1,c.set i l[k+q],rfl,by omega,by omega,by omega,by simpa using hcl,?_,?_,rfl⟩
      ·intro j hj;rw[Bqh (by omega)];exact hcj j (by omega)
      ·rw[← Bo0,hs,Blj hne,← hct,Bmy,List.take_set_of_le (Bl1 _),Brq (by omega)];rfl
    ·rw[Blj (by simp;omega),Blv (by simp[Lq];omega),Blv (by simp[Lq];omega)];refine⟨_,rfl,?_,?_⟩
     ·have:k+q=l.length:=by omega
      rw[this,Bm4]at hct;simp only[Ed,Bnu];rw[← hct,List.take_take,Nat.min_self]
     ·simp only[Ed,Bnu,Bm6];omega
   ·rw[Blj (by simpa using he)];refine ih (l.length-(k+1)) _ (by omega) ⟨k+1,rfl,by omega,by omega,rfl,?_⟩;rw[Bdb,Blj he,hc,Bmy,Hs hk];rfl
  ·rw[Blj (by simp;omega)];refine⟨_,rfl,?_,Bl1 _⟩;have:k=l.length:=by omega
   subst this;rw[Bm4]at hc⊢;exact hc.symm
def Gu(l:A2 (Int×Int)):A2 (Int×Int):=comp (Dm l)
theorem Aw9(l:A2 (Int×Int)):(Dm l).length=l.length:=by simp[Dm]
theorem Ajz(N:Nat)(l:A2 (Int×Int))(hb:l.length*16≤140737488355328)(hN:l.length<N):Rx N l=some (Gu l):=by
 unfold Rx;cases l with
 |nil =>simp only[Ee,A4,Bkp,Gu,Dm,List.mergeSort_nil,comp];rfl
 |cons x r =>
  have hlen:(x::r).length<4611686018427387904:=by omega
  have A6y:Aw (x::r).length 16=true:=by simp only[Aw,Bls,Bnp];omega
  generalize hl:x::r=l at *;have hs:=Aw9 l;obtain⟨q,hq,h1,h2⟩:=Azx N (Dm l) (by omega) (by omega);rw[hs]at hq;have e:Ee l (some none) (fun(y:Int×Int) r=>bif Aw (y::r).length 16 then some (some (y::r,(y::r).length))else none)=some (some (l,l.length)):=by subst hl;simp only[Ee,A6y,Bkn]
  rw[e];simp only[Bkp,A4,Bm4,Bof,Blt,hq];have b1:Nat.ble l.length l.length=true:=by simp
  have b2:Nat.ble l.length 4611686018427387903=true:=by simp only[Nat.ble_eq];omega
  have b3:Nat.ble (0+q.2) q.1.length=true:=by simp only[Nat.ble_eq];omega
  simp only[b1,b2,b3,Bkn,Bo6,h1];rfl
theorem Ci{α:Type}{l:A2 α}{i:Nat}(h:i<l.length):l[i]? = some l[i]:=Bl8 h
theorem dec_lt(a b:Nat):decide ((a:Int)<(b:Int))=decide (a<b):=by simp
theorem Ao0(N:Nat)(l:A2 (Int×Int))(d:Int×Int)(hl:l.length<9223372036854775807)(hN:l.length<N):Bj N l d=some (decide (d∈l)):=by
 unfold Bj;refine(Arx l.length (fun k=>some (decide (d∈l.drop k))) 0 ?_ ?_ N hN).trans rfl
 ·intro rec k _ hk hr;simp only[dec_lt,B8,Ci hk,Bkp,Ah (show k+1<9223372036854775808 by omega),hr,Bl6 hk,Bkn,Azw];have e:l.drop k=l[k]::l.drop (k+1):=Bnb hk;rw[e];by_cases h:l[k]=d
  ·subst h;simp[-List.getElem_cons_drop]
  ·rw[Bl4 h,Bko];have:(d∈l[k]::l.drop (k+1))↔d∈l.drop (k+1):=by simp[-List.getElem_cons_drop,Bnf h]
   simp only[this]
 ·intro rec k hk;simp only[dec_lt,Bl4 (show ¬k<l.length by omega),Bko];rw[Bp9 hk];rfl
theorem B9i(N:Nat)(l:A2 (Int×Int))(d:Int×Int)(hl:l.length<9223372036854775807)(hN:l.length<N) :
  ∃i:Int,H2 N l d=some i∧decide (0≤i)=decide (d∈l):=by
 unfold H2;refine G2 (Q:=fun i:Int=>decide (0≤i)=decide (d∈l)) (fun n z=>∃k:Nat,z=(((k:Int),()),(),(),())∧k≤l.length∧n=l.length-k∧¬d∈l.take k) ?_ N l.length _ ⟨0,rfl,Bnm _,rfl,by simp⟩ hN;rintro n z rec ⟨k,rfl,h1,h2,h3⟩ ih;by_cases hk:k<l.length
 ·simp only[dec_lt,B8,Ci hk,Bkp,Ah (show k+1<9223372036854775808 by omega),Bl6 hk,Bkn,Azw];by_cases he:d=l[k]
  ·refine⟨(k:Int),by simp[he],?_⟩;have:d∈l:=by rw[he];exact Bmc hk
   rw[Bl6 this];simp
  ·rw[Bl4 he,Bko];refine ih (l.length-(k+1)) _ (by omega) ⟨k+1,rfl,by omega,rfl,?_⟩;rw[Bmy,Bkw,Ci hk];simp[h3,he]
 ·simp only[dec_lt,Bl4 hk,Bko];refine⟨-1,rfl,?_⟩;rw[Bn3 (by omega)]at h3;rw[Bl4 h3];rfl
theorem has_eq(N:Nat)(l:A2 (Int×Int))(d:Int×Int)(hl:l.length<9223372036854775807)(hN:l.length<N):A5b N l d=some (decide (d∈l)):=by obtain⟨i,h1,h2⟩:=B9i N l d hl hN;unfold A5b I4;rw[h1];simp only[Bkp,h2]
abbrev Ev:=(Int×Int)×UInt8×Int×UInt8×A2 UInt8×A2 (Int×Int)
theorem B9j(N:Nat)(a:Ev)(d:Int×Int)(hl:a.2.2.2.2.2.length<9223372036854775807)(hN:a.2.2.2.2.2.length<N):Sb N a d=some (decide (d∈a.2.2.2.2.2)):=by unfold Sb;simp only[has_eq N _ _ hl hN,Bkp]
def smE(e:Ev):Prop:=e.2.2.2.2.2.length≤5000
theorem copy_eq(N:Nat)(e:Ev)(he:smE e):Bf N e=some e:=by
 unfold Bf;have:G4 N e.2.2.2.2.2=some e.2.2.2.2.2:=by
  unfold G4 Aii;unfold smE at he;cases hk:e.2.2.2.2.2 with
  |nil=>rfl
  |cons y r =>
   rw[hk]at he;have A6y:Aw (y::r).length 16=true:=by simp only[Aw,Bls,Bnp];omega
   simp only[Ee,A6y,Bkn]
 rw[this];rfl
theorem A5c(N:Nat)(x y:Int×Int):Es N x y=some (Gy x y):=by
 simp only[Es,Gy,cond_eq_ite]
 grind
def Ws(x y:Int×Int):Bool:=ltOf Gy x y
theorem Adp(x y:Int×Int)(h:Ws x y=true):Ws y x=false:=by unfold Ws at *;rw[Ti]at *;simp at *;omega
theorem Ao1{x y z:Int×Int}(h:Ws x y=true)(h':Ws y z=true):Ws x z=true:=by unfold Ws at *;rw[Ti]at *;simp at *;omega
theorem Ao2(x y:Int×Int)(h1:Ws x y=false)(h2:Ws y x=false):x=y:=A58 x y h1 h2
theorem gtD(x y:Int×Int):decide (0<Gy x y)=Ws y x:=by
 unfold Ws;rw[Ti,Bmb];unfold Gy;simp only[Bnp]
 grind
theorem Bc6(x y:Int×Int):decide (Gy x y<0)=Ws x y:=rfl
def Nx(d:Int×Int)(l:A2 (Int×Int)):A2 (Int×Int):=l.filter (fun x=>Ws x d)++[d]++l.filter (fun x=>Ws d x)
theorem Xt(d:Int×Int)(l:A2 (Int×Int)):(Nx d l).length≤l.length+1:=by
 unfold Nx;have:∀l:A2 (Int×Int),(l.filter (fun x=>Ws x d)).length+(l.filter (fun x=>Ws d x)).length≤l.length:=by
  intro l;induction l with
  |nil=>simp
  |cons x r ih =>
   simp only[Bnk];cases h1:Ws x d with
   |true=>rw[Adp _ _ h1];simp;omega
   |false=>cases Ws d x<;>simp<;>omega
 have:=this l;simp;omega
theorem Ak0(d x:Int×Int)(l:A2 (Int×Int)):x∈Nx d l↔x=d∨x∈l:=by
 unfold Nx;simp only[Bkw,Blu,Bl7];constructor
 ·rintro ((⟨h,_⟩|h)|⟨h,_⟩)
  ·exact .inr h
  ·exact .inl h
  ·exact .inr h
 ·rintro (h|h)
  ·exact .inl (.inr h)
  ·cases h1:Ws x d with
   |true=>exact .inl (.inl ⟨h,rfl⟩)
   |false =>
    cases h2:Ws d x with
    |true=>exact .inr ⟨h,rfl⟩
    |false=>exact .inl (.inr (Ao2 _ _ h1 h2))
theorem Awa(d:Int×Int)(l:A2 (Int×Int))(h:Tg Ws l):Tg Ws (Nx d l):=by
 unfold Nx Tg;rw[Bnx,Bn4,Bq9,Blp];refine⟨Bpj _ h,⟨fun y hy=>(Blu.1 hy).2,Bpj _ h⟩,?_⟩;intro a ha b hb;have h1:=(Blu.1 ha).2;rcases Bkq.1 hb with rfl|hb
 ·exact h1
 ·exact Ao1 h1 (Blu.1 hb).2
def Awb(l:A2 (Int×Int)):A2 (Int×Int):=l.foldl (fun q d=>Nx d q) []
theorem A3z:∀(l q:A2 (Int×Int)),Tg Ws q→Tg Ws (l.foldl (fun q d=>Nx d q) q)∧(∀x,x∈l.foldl (fun q d=>Nx d q) q↔x∈q∨x∈l)∧(l.foldl (fun q d=>Nx d q) q).length≤q.length+l.length
 |[],q,h=>⟨h,by simp,by simp⟩
 |d::r,q,h=>by
  obtain⟨h1,h2,h3⟩:=A3z r (Nx d q) (Awa d q h);refine⟨h1,fun x=>?_,?_⟩
  ·rw[Bmd,h2,Ak0];simp;constructor<;>rintro (h|h)<;>grind
  ·rw[Bmd];have:=Xt d q;simp;omega
theorem A8t{p x:Int×Int}:∀ {l:A2 (Int×Int)},(x=p∨x∈Po p l)↔(x=p∨x∈l)
 |[]=>by simp[Po]
 |y::r=>by
  simp only[Po];by_cases hy:y=p
  ·subst hy;rw[Blv rfl,A8t (l:=r)];simp
  ·rw[Blj hy];have:=A8t (p:=y) (x:=x) (l:=r);simp only[Bkq];rw[this]
theorem A8u:∀(p:Int×Int) (l:A2 (Int×Int)),(p::l).Pairwise (fun a b=>Ws b a=false)→Tg Ws (p::Po p l)
 |p,[],h=>by simp[Po,Tg]
 |p,y::r,h=>by
  have h':=h;simp only[Blp,Bkq]at h';simp only[Po];by_cases hy:y=p
  ·subst hy;rw[Blv rfl];exact A8u y r (by simp only[Blp];exact⟨fun a ha=>h'.1 a (.inr ha),h'.2.2⟩)
  ·rw[Blj hy];have ih:=A8u y r (by simp only[Blp];exact h'.2);have hpy:Ws p y=true:=by
    cases hh:Ws p y with
    |true=>rfl
    |false=>exact absurd (Ao2 _ _ (h'.1 y (.inl rfl)) hh) hy
   unfold Tg at *;rw[Blp];refine⟨fun a ha=>?_,ih⟩;rcases Bkq.1 ha with rfl|ha
   ·exact hpy
   ·exact Ao1 hpy ((Blp.1 ih).1 a ha)
theorem Ak1(l:A2 (Int×Int)):Tg Ws (Gu l)∧∀x,x∈Gu l↔x∈l:=by
 have hp:(Dm l).Pairwise (fun a b=>Ws b a=false):=by
  have:=Bpu (le:=fun x y=>!(ltOf Gy) y x) (by
   intro a b c h1 h2;simp only[Boy]at *;exact Qt.ntrans _ _ _ h2 h1) (by
   intro a b;cases h:ltOf Gy b a with
   |false=>simp
   |true=>simp ;exact Adp b a h) l
  refine this.imp ?_;intro a b h;simpa[Ws]using h
 have hm:∀x,x∈Dm l↔x∈l:=fun x=>by simp[Dm]
 unfold Gu;cases hs:Dm l with
 |nil =>rw[hs]at hm;exact⟨by simp[comp,Tg],by simpa[comp]using hm⟩
 |cons p r =>rw[hs]at hm hp;refine⟨A8u p r hp,fun x=>?_⟩;simp only[comp,Bkq];rw[A8t,← hm x,Bkq]
theorem A6w(l:A2 (Int×Int)):Gu l=Awb l:=by obtain⟨h1,h2⟩:=Ak1 l;obtain⟨h3,h4,_⟩:=A3z l [] (by simp[Tg]);exact Tg.ext Adp h1 h3 fun x=>by rw[h2,Awb,h4];simp
theorem A5d(N:Nat)(l:A2 (Int×Int))(d:Int×Int)(hl:l.length≤1000000)(hN:1000000<N):Eu N l d=some (Nx d l):=by
 unfold Eu;have e0:=foldl_filter (fun x=>Ws x d) l [];rw[Ir l (fun a x=>cond (Ws x d) (a++[x]) a) [] (fun a=>some (a++[d]++l.filter (fun x=>Ws d x))) ?_ ?_ N (by omega),e0]
 ·rfl
 ·intro rec k a hk ha;have hal:a.length≤k:=by rw[ha,foldl_filter,Bm0];have:=Bmf (fun x=>Ws x d) (l.take k);rw[Bm6]at this;omega
  have hf:Aw (a.length + [l[k]].length) 16=true:=fit (by simp;omega) (by simp;omega);simp only[dec_lt,Bl6 hk,Bkn,B8,Ci hk,Bkp,A5c,Bc6,hf,Ah (show k+1<9223372036854775808 by omega)];cases Ws l[k] d<;>rfl
 ·intro rec;have hal:(l.foldl (fun a x=>cond (Ws x d) (a++[x]) a) []).length≤l.length:=by rw[foldl_filter,Bm0];exact Bmf _ _
  generalize l.foldl (fun a x=>cond (Ws x d) (a++[x]) a) []=b at *;have hf:Aw (b.length + [d].length) 16=true:=fit (by simp;omega) (by simp;omega);simp only[dec_lt,Bl4 (Bmr _),Bko,hf,Bkn];have e1:=foldl_filter (fun x=>Ws d x) l (b++[d]);rw[Ir l (fun a x=>cond (Ws d x) (a++[x]) a) (b++[d]) (fun a=>some a) ?_ ?_ N (by omega),e1]
  ·intro rec k a hk ha;have hal:a.length≤k+b.length+1:=by rw[ha,foldl_filter];have:=Bmf (Ws d) (l.take k);rw[Bm6]at this;rw[Bme,Bme,Bn9];omega
   have hf:Aw (a.length + [l[k]].length) 16=true:=fit (by simp;omega) (by simp;omega);simp only[dec_lt,Bl6 hk,Bkn,B8,Ci hk,Bkp,A5c,gtD,hf,Ah (show k+1<9223372036854775808 by omega)];cases Ws d l[k]<;>rfl
  ·intro rec;simp only[dec_lt,Bl4 (Bmr _),Bko]
def dsE(e:Ev):A2 (Int×Int):=e.1::e.2.2.2.2.2
theorem Bc7{e:Ev}(h:smE e):(dsE e).length≤5001:=by unfold dsE smE at *;simp;omega
theorem Abi{l:A2 Ev}(h:∀e∈l,smE e):(l.flatMap dsE).length≤5001*l.length:=by
 induction l with
 |nil=>simp
 |cons e r ih =>
  have h1:=Bc7 (h e Bkz);have h2:=ih fun x hx=>h x (Bkx _ hx)
  rw[Br5,Bme,Blg];omega
theorem B2b{l:A2 Ev}(h:∀e∈l,smE e)(k:Nat):∀e∈l.take k,smE e:=fun e he=>h e (Bqi he)
theorem Bc8(N:Nat)(l:A2 Ev)(hl:l.length≤100)(Ek:∀e∈l,smE e)(hN:1000000<N):J3 N l=some (Gu (l.flatMap dsE)):=by
 unfold J3;have e0:=foldl_flatMap dsE l [];have hfl:=Abi Ek;rw[Ir l (fun a e=>a++dsE e) [] (fun a=>Option.bind (Rx N a) fun y=>some y) ?_ ?_ N (by omega),e0]
 ·rw[Bm0,Ajz N _ (by omega) (by omega)];rfl
 ·intro rec k a hk ha;have hal:a.length≤5001*100:=by rw[ha,foldl_flatMap,Bm0];have:=Abi (B2b Ek k);rw[Bm6]at this;omega
  have hk2:l[k].2.2.2.2.2.length≤5000:=Ek _ (Bmc hk);have hf1:Aw (a.length + [l[k].1].length) 16=true:=fit (by simp;omega) (by simp;omega);have hf2:Aw ((a++[l[k].1]).length+l[k].2.2.2.2.2.length) 16=true:=fit (by simp;omega) (by simp;omega);simp only[dec_lt,Bl6 hk,Bkn,B8,Ci hk,Bkp,hf1,hf2,Ah (show k+1<9223372036854775808 by omega)];simp[dsE]
 ·intro rec;simp only[dec_lt,Bl4 (Bmr _),Bko]
def dead(l:A2 Ev)(d:Int×Int):Bool:=l.any fun e=>decide (d∈e.2.2.2.2.2)
theorem Bc9(N:Nat)(l:A2 Ev)(d:Int×Int)(hl:l.length≤100)(Ek:∀e∈l,smE e)(hN:10000<N):D9 N l d=some (dead l d):=by
 unfold D9 dead;refine(Arx l.length (fun k=>some ((l.drop k).any fun e=>decide (d∈e.2.2.2.2.2))) 0 ?_ ?_ N (by omega)).trans rfl
 ·intro rec k _ hk hr;have hk2:l[k].2.2.2.2.2.length≤5000:=Ek _ (Bmc hk);simp only[dec_lt,B8,Ci hk,Bkp,Ah (show k+1<9223372036854775808 by omega),hr,Bl6 hk,Bkn];rw[B9j N _ _ (by omega) (by omega),Bkp];have e:l.drop k=l[k]::l.drop (k+1):=Bnb hk;rw[e,Boj];cases decide (d∈l[k].2.2.2.2.2)<;>simp
 ·intro rec k hk;simp only[dec_lt,Bl4 (show ¬k<l.length by omega),Bko];rw[Bp9 hk];rfl
theorem B54{l:A2 Ev}(h:∀e∈l,smE e)(p:Ev→Bool):∀e∈l.filter p,smE e:=fun e he=>h e (Blu.1 he).1
abbrev Ct:Type:=Int×Int
def Dl(r:Ct):Bool:=decide (1≤r.1)&&decide (r.1≤r.2)&&decide (r.2≤281474976710655)
def inR(r:Ct)(n:Int):Bool:=Dl r&&decide (r.1≤n)&&decide (n≤r.2)
def Ec(l:A2 Ct)(n:Int):Bool:=l.any fun r=>inR r n
theorem C6{r:Ct}:Dl r=true↔1≤r.1∧r.1≤r.2∧r.2≤281474976710655:=by simp[Dl,Bs0]
theorem Jn{r:Ct}{n:Int}:inR r n=true↔Dl r=true∧r.1≤n∧n≤r.2:=by simp[inR,Bs0]
theorem Fm{l:A2 Ct}{n:Int}:Ec l n=true↔∃r∈l,Dl r=true∧r.1≤n∧n≤r.2:=by simp[Ec,Jn]
theorem D4(a b:A2 Ct)(n:Int):Ec (a++b) n=(Ec a n||Ec b n):=by simp[Ec]
theorem Ue(n:Int):Ec [] n=false:=rfl
theorem Qp(r:Ct)(a:A2 Ct)(n:Int):Ec (r::a) n=(inR r n||Ec a n):=rfl
theorem B9k(N:Nat)(r:Ct):I8 N r=some (Dl r):=by
 simp only[I8,Dl,cond_eq_ite]
 grind
theorem A8v(N:Nat)(l:A2 Ct)(n:Int)(hl:l.length<9223372036854775807)(hN:l.length<N):Dp N l n=some (Ec l n):=by
 unfold Dp;refine(Arx l.length (fun k=>some (Ec (l.drop k) n)) 0 ?_ ?_ N hN).trans rfl
 ·intro rec k _ hk hr;simp only[dec_lt,B8,Ci hk,Bkp,Ah (show k+1<9223372036854775808 by omega),hr,Bl6 hk,Bkn,B9k];have e:l.drop k=l[k]::l.drop (k+1):=Bnb hk;rw[e,Qp,inR];cases Dl l[k]<;>simp;cases decide (l[k].1≤n)<;>cases decide (n≤l[k].2)<;>simp
 ·intro rec k hk;simp only[dec_lt,Bl4 (show ¬k<l.length by omega),Bko];rw[Bp9 hk];rfl
def Fz(out:A2 Ct)(x:Ct):A2 Ct :=
 match out.getLast? with
 |none=>[x]
 |some e=>if x.1≤e.2+1 then out.set (out.length-1) (e.1,if x.2>e.2 then x.2 else e.2)else out++[x]
def Ly(l:A2 Ct):A2 Ct:=(Dn (l.filter Dl)).foldl Fz []
structure A40(out:List Ct):Prop where
 may:∀r∈out,Dl r=true
 apart:out.Pairwise fun a b=>a.2+1<b.1
theorem A54(x:Ct):Fz [] x=[x]:=rfl
theorem Rs(o:A2 Ct)(e x:Ct):Fz (o++[e]) x=if x.1≤e.2+1 then o++[(e.1,if x.2>e.2 then x.2 else e.2)]else (o++[e])++[x]:=by
 simp only[Fz,Bpi,Bp6,Boh];split
 ·simp
 ·rfl
theorem I2{α:Type}(l:A2 α):l=[]∨∃o e,l=o++[e]:=by
 rcases Bqa l with h|⟨o,e,h⟩
 ·exact .inl h
 ·exact .inr ⟨o,e,by simpa using h⟩
theorem A38{out:A2 Ct}{x:Ct}(h:A40 out)(hx:Dl x=true)(hle:∀r∈out,r.1≤x.1) :
  A40 (Fz out x)∧(∀n,Ec (Fz out x) n=(Ec out n||inR x n))∧(∀r∈Fz out x,r.1≤x.1):=by
 rcases I2 out with rfl|⟨o,e,rfl⟩
 ·rw[A54];refine⟨⟨by simpa using hx,by simp⟩,fun n=>by simp[Ec],by simp⟩
 ·have he:=h.may e (by simp);have hee:=hle e (by simp);rw[C6]at he hx;have hap:=h.apart;rw[Bn4]at hap;obtain⟨p1,_,p3⟩:=hap;rw[Rs];split
  ·rename_i hm;refine⟨⟨?_,?_⟩,?_,?_⟩
   ·intro r hr;rcases Bkw.1 hr with hr|hr
    ·exact h.may r (by simp[hr])
    ·simp at hr;subst hr;rw[C6];simp only;split<;>omega
   ·rw[Bn4];refine⟨p1,by simp,?_⟩;intro a ha b hb;simp at hb;subst hb;exact p3 a ha e (by simp)
   ·intro n;rw[D4,D4];have:Ec [(e.1,if x.2>e.2 then x.2 else e.2)] n=(Ec [e] n||inR x n):=by rw[Bmb];simp only[Ec,Boj,Bp3,Bov,Bms,Jn,C6];split<;>constructor<;>intro hh<;>omega
    rw[this,Bqx]
   ·intro r hr;rcases Bkw.1 hr with hr|hr
    ·exact hle r (by simp[hr])
    ·simp at hr;subst hr;exact hee
  ·rename_i hm;refine⟨⟨?_,?_⟩,?_,?_⟩
   ·intro r hr;rcases Bkw.1 hr with hr|hr
    ·exact h.may r hr
    ·simp at hr;subst hr;rw[C6];exact hx
   ·rw[Bn4];refine⟨h.apart,by simp,?_⟩;intro a ha b hb;simp at hb;subst hb;rcases Bkw.1 ha with ha|ha
    ·have:=p3 a ha e (by simp);omega
    ·simp at ha;subst ha;omega
   ·intro n;rw[D4];simp[Ec]
   ·intro r hr;rcases Bkw.1 hr with hr|hr
    ·exact hle r hr
    ·simp at hr;subst hr;omega
theorem Rt:∀(s out:A2 Ct),A40 out→(∀x∈s,Dl x=true)→s.Pairwise (fun x y=>x.1≤y.1)→(∀r∈out,∀x∈s,r.1≤x.1) →
  A40 (s.foldl Fz out)∧∀n,Ec (s.foldl Fz out) n=(Ec out n||Ec s n)
 |[],out,h,_,_,_=>⟨h,fun n=>by simp[Ue]⟩
 |x::s,out,h,hs,hp,hle=>by
  obtain⟨h1,h2,h3⟩:=A38 h (hs x (by simp)) fun r hr=>hle r hr x (by simp)
  rw[Blp]at hp;obtain⟨i1,i2⟩:=Rt s (Fz out x) h1 (fun y hy=>hs y (by simp[hy])) hp.2 (fun r hr y hy=>by
   have:=h3 r hr;have:=hp.1 y hy;omega)
  refine⟨i1,fun n=>?_⟩;rw[Bmd,i2 n,h2 n,Qp,Bqx]
theorem Aj7{a b:A2 Ct}(h:a.Perm b)(n:Int):Ec a n=Ec b n:=by
 rw[Bmb,Fm,Fm];constructor<;>rintro ⟨r,hr,hh⟩
 ·exact⟨r,h.mem_iff.1 hr,hh⟩
 ·exact⟨r,h.mem_iff.2 hr,hh⟩
theorem A89(l:A2 Ct)(n:Int):Ec (l.filter Dl) n=Ec l n:=by
 rw[Bmb,Fm,Fm];constructor
 ·rintro ⟨r,hr,hh⟩;exact⟨r,(Blu.1 hr).1,hh⟩
 ·rintro ⟨r,hr,hh⟩;exact⟨r,Blu.2 ⟨hr,hh.1⟩,hh⟩
theorem T2(l:A2 Ct):A40 (Ly l)∧∀n,Ec (Ly l) n=Ec l n:=by obtain⟨p1,p2⟩:=Ug (l.filter Dl);obtain⟨h1,h2⟩:=Rt (Dn (l.filter Dl)) [] ⟨by simp,by simp⟩ (fun x hx=>(Blu.1 (p1.mem_iff.1 hx)).2) p2 (by simp);refine⟨h1,fun n=>?_⟩;unfold Ly;rw[h2 n,Ue,Bou,Aj7 p1,A89]
theorem A0r(out:A2 Ct)(x:Ct):(Fz out x).length≤out.length+1:=by
 rcases I2 out with rfl|⟨o,e,rfl⟩
 ·simp[Fz]
 ·rw[Rs];split<;>simp
theorem Ss:∀(s out:A2 Ct),(s.foldl Fz out).length≤out.length+s.length
 |[],out=>by simp
 |x::s,out=>by
  have:=Ss s (Fz out x);have:=A0r out x;simp only[Bmd,Blg];omega
theorem Abj(l:A2 Ct):(Ly l).length≤l.length:=by have h1:=Ss (Dn (l.filter Dl)) [];have h2:=(Ug (l.filter Dl)).1.length_eq;have h3:=Bmf Dl l;unfold Ly;simp at h1;omega
def owR(g:A2 Ct):A3 (A2 Ct×Nat):=if g=[]then none else some (g,g.length)
theorem A5e:owR []=none:=rfl
theorem Abk{g:A2 Ct}(h:g≠[]):owR g=some (g,g.length):=by simp[owR,h]
theorem R6(o:A2 Ct)(e:Ct):owR (o++[e])=some (o++[e],(o++[e]).length):=Abk (by simp)
theorem Uz{x:Int}(h:0≤x)(h':x<18446744073709551616):u64.wrap x=x:=by simp[IntKind.wrap,IntKind.bits,IntKind.signed];omega
theorem Awc:Dn []=[]:=by have:=(Ug []).1.length_eq;exact Bnq.1 (by simpa using this)
theorem B55(e:Ct){R:Type}(a b:R):(bif decide (0<e.1)then (bif decide (e.1≤e.2)then (bif decide (e.2≤281474976710655)then a else b)else b)else b)=bif Dl e then a else b:=by
 have:decide (0<e.1)=decide (1≤e.1):=by rw[decide_eq_decide];omega
 rw[this,Dl];cases decide (1≤e.1)<;>cases decide (e.1≤e.2)<;>cases decide (e.2≤281474976710655)<;>rfl
theorem Adq(l:A2 Ct){k:Nat}(hk:k<l.length):(l.take (k+1)).filter Dl=bif Dl l[k]then (l.take k).filter Dl++[l[k]]else (l.take k).filter Dl:=by rw[Bmy,Ci hk,Bo2];cases h:Dl l[k]<;>simp[h]
theorem Ak2(s:A2 Ct){k:Nat}(hk:k<s.length):(s.take (k+1)).foldl Fz []=Fz ((s.take k).foldl Fz []) s[k]:=by rw[Bmy,Ci hk,Bpy];rfl
theorem Ak3(n:Nat):Nat.ble n n=true:=Bm3 (Bl1 n)
theorem Adr(n:Nat):Nat.beq n n=true:=Bob n
theorem norm_eq(N:Nat)(l:A2 Ct)(hl:l.length≤1000000000000)(hN:1000000000000<N):Kc N l=some (Ly l):=by
 unfold Kc;refine iter_eq (G:=fun _=>some (Ly l)) (fun n z=>∃k:Nat,z=(((k:Int),()),(),(owR ((l.take k).filter Dl),()),())∧k≤l.length∧n=l.length-k) ?_ N l.length _ ⟨0,rfl,by omega,by omega⟩ (by omega);rintro n z rec ⟨k,rfl,hk,rfl⟩ ih;have hfl:((l.take k).filter Dl).length≤k:=by have:=Bmf Dl (l.take k);rw[Bm6]at this;omega
 have next:k<l.length→rec ((((k+1:Nat):Int),()),(),(owR ((l.take (k+1)).filter Dl),()),())=some (Ly l):=fun h=>ih (l.length-(k+1)) _ (by omega) ⟨k+1,rfl,by omega,rfl⟩
 by_cases Im:k<l.length
 ·have hn:=next Im
  rw[Adq l Im]at hn;simp only[dec_lt,Bl6 Im,Bkn,B8,Ci Im,Bkp,Ah (show k+1<9223372036854775808 by omega),B55];generalize (l.take k).filter Dl=g at *;by_cases hg:g=[]
  ·subst hg;simp only[A5e,A4];cases hm:Dl l[k] with
   |true=>rw[hm]at hn;simpa[owR]using hn
   |false=>rw[hm]at hn;simpa[owR]using hn
  ·simp only[Abk hg,A4];have hf:Aw (g.length + [l[k]].length) 16=true:=fit (by simp;omega) (by simp;omega);simp only[Adr,hf,Bkn];cases hm:Dl l[k] with
   |true =>rw[hm]at hn;simp only[Bkn,R6]at hn⊢;simpa using hn
   |false =>rw[hm]at hn;simp only[Bko,Abk hg]at hn⊢;exact hn
 ·have:k=l.length:=by omega
  subst this;rw[Bm4]at *;simp only[dec_lt,Bl4 Im,Bko];have hgd:l.filter Dl=l.filter Dl:=rfl;unfold Ly;obtain⟨p1,p2⟩:=Ug (l.filter Dl);have Bht:∀x∈l.filter Dl,Dl x=true:=fun x hx=>(Blu.1 hx).2
  generalize l.filter Dl=g at *;by_cases hg:g=[]
  ·subst hg;simp only[A5e,A4,Awc,List.foldl_nil];cases N with
   |zero=>omega
   |succ M=>rfl
  ·simp only[Abk hg,A4,Ak3,Bkn,Bm4,Bof,Blt];have hb:Nat.ble g.length 4611686018427387903=true:=Bm3 (by omega);rw[hb,Bkn];have hsl:(Dn g).length=g.length:=p1.length_eq;rw[← hsl];have Bhu:∀x∈Dn g,Dl x=true:=fun x hx=>Bht x (p1.mem_iff.1 hx)
   have hsb:g.length≤1000000000000:=Bmh hfl hl;clear hgd p1 Bht next ih
   generalize Dn g=s at *;refine iter_eq (G:=fun _=>some (s.foldl Fz [])) (fun n z=>∃k:Nat,z=(((k:Int),()),(),(owR ((s.take k).foldl Fz []),some (s,s.length),()),())∧k≤s.length∧n=s.length-k) ?_ N s.length _ ⟨0,rfl,by omega,by omega⟩ (by omega);rintro n z rec ⟨k,rfl,hk,rfl⟩ ih;have hch:A40 ((s.take k).foldl Fz []):=(Rt (s.take k) [] ⟨by simp,by simp⟩ (fun x hx=>Bhu x (Bqi hx)) (p2.sublist (List.take_sublist _ _)) (by simp)).1;have hln:((s.take k).foldl Fz []).length≤k:=by have:=Ss (s.take k) [];rw[Bm6]at this;simp at this;omega
   by_cases hks:k<s.length
   ·have hn:=ih (s.length-(k+1)) _ (by omega) ⟨k+1,rfl,by omega,rfl⟩;rw[Ak2 s hks]at hn;have c1:(decide (0≤(k:Int))&&decide ((k:Int)<(s.length:Int)))=true:=by simp;omega
    generalize Afh:(s.take k).foldl Fz []=out at *;rcases I2 out with rfl|⟨o,e1,rfl⟩
    ·simp only[A5e,dec_lt,Bl6 hks,Bkn,Blx,Ed,Ci hks,Bkp,Ah (show k+1<9223372036854775808 by omega)];rw[A54]at hn;simpa[owR]using hn
    ·have he1:=hch.may e1 (by simp);rw[C6]at he1;have hlen:(o++[e1]).length=o.length+1:=by simp
     have w1:i64.wrap (((o++[e1]).length:Int)-1)=(o.length:Int):=by rw[Oi (by simp) (by omega),hlen];simp
     have c2:decide (0≤(o.length:Int))=true:=by simp
     have c3:decide ((o.length:Int)<((o++[e1]).length:Int))=true:=by simp;omega
     have g1:(o++[e1])[o.length]? = some e1:=by simp
     have w2:u64.wrap (e1.2+1)=e1.2+1:=Uz (by omega) (by omega);have hf:Aw ((o++[e1]).length + [s[k]].length) 16=true:=fit (by simp at hln⊢;omega) (by simp at hln⊢;omega);simp only[R6,dec_lt,Bl6 hks,Bkn,Blx,Ed,Ci hks,Bkp,Ah (show k+1<9223372036854775808 by omega),w1,c2,c3,Bmo,g1,w2,Adr,hf];rw[Rs]at hn;by_cases hm:s[k].1≤e1.2+1
     ·rw[Blv hm,R6]at hn;rw[Bl6 hm,Bkn,← hn];simp[cond_eq_ite]
     ·rw[Blj hm,R6]at hn;rw[Bl4 hm,Bko,← hn];simp
   ·have:k=s.length:=by omega
    subst this;rw[Bm4]at *;generalize s.foldl Fz []=out at *;rcases I2 out with rfl|⟨o,e1,rfl⟩
    ·simp only[A5e,dec_lt,Bl4 hks,Bko]
    ·simp only[R6,dec_lt,Bl4 hks,Bko,Blx,Ak3,Bkn,Bo6,Bm4]
theorem B2c(N:Nat)(x:Ct)(n:Int):Qv N x n=some (if x.2<n then -1 else if n<x.2 then 1 else 0):=by
 simp only[Qv,C7,Er,cond_eq_ite,Bkp]
 grind
theorem half{i j:Nat}(h:i<j)(hj:j≤1000000000000):i64.wrap ((u64.wrap (i64.wrap ((i:Int)+(j:Int)))).fdiv 2)=(((i+j)/2:Nat):Int):=by
 have e:(i:Int)+(j:Int)=((i+j:Nat):Int):=by omega
 rw[e,B26 (by omega),Uz (by omega) (by omega)];have:((i+j:Nat):Int).fdiv 2=(((i+j)/2:Nat):Int):=by rw[Int.fdiv_eq_ediv_of_nonneg _ (by omega)];omega
 rw[this,B26 (by omega)]
theorem Azy(N:Nat)(y:A2 Ct)(n:Int)(hy:A40 y)(hl:y.length≤1000000000000)(hN:1000000000000<N) :
  ∃(i:Nat) (b:Bool),Bh N y n=some (((i:Int),b,()),(),(),())∧i≤y.length∧(∀k r,k<i→y[k]? = some r→r.2<n)∧(∀k r,i≤k→y[k]? = some r→¬r.2<n):=by
 have mono:∀(k k':Nat) (r r':Ct),k<k'→y[k]? = some r→y[k']? = some r'→r.2<r'.2:=by intro k k' r r' hk h1 h2;obtain⟨l1,rfl⟩:=Bku.1 h1;obtain⟨l2,rfl⟩:=Bku.1 h2;have:=Bmg.1 hy.apart k k' l1 l2 hk;have h3:=C6.1 (hy.may y[k'] (Bmc l2));omega
 suffices H:∃r,Bh N y n=some r∧∃(i:Nat) (b:Bool),r=(((i:Int),b,()),(),(),())∧i≤y.length∧(∀(k:Nat) (r:Ct),k<i→y[k]? = some r→r.2<n)∧(∀(k:Nat) (r:Ct),i≤k→y[k]? = some r→¬r.2<n) by obtain⟨r,h1,i,b,rfl,h2⟩:=H;exact⟨i,b,h1,h2⟩
 unfold Bh;refine G2 (Q:=fun r:(Int×Bool×Unit)×Unit×Unit×Unit=>∃(i:Nat) (b:Bool),r=(((i:Int),b,()),(),(),())∧i≤y.length∧(∀(k:Nat) (r:Ct),k<i→y[k]? = some r→r.2<n)∧(∀(k:Nat) (r:Ct),i≤k→y[k]? = some r→¬r.2<n))
  (fun m z=>∃i j:Nat,z=(((i:Int),(j:Int),()),(),(),())∧i≤j∧j≤y.length∧m=j-i∧(∀(k:Nat) (r:Ct),k<i→y[k]? = some r→r.2<n)∧(∀(k:Nat) (r:Ct),j≤k→y[k]? = some r→¬r.2<n)) ?_ N y.length _ ⟨0,y.length,rfl,by omega,by omega,by omega,by simp,fun k r hk h=>by rw[Bmp hk]at h;cases h⟩ (by omega)
 ·rintro m z rec ⟨i,j,rfl,hij,hj,rfl,ha,hb⟩ ih;by_cases Bs:i<j
  ·have hh:(i+j)/2<y.length:=by omega
   simp only[dec_lt,Bl6 Bs,Bkn,half Bs (by omega),B8,Ci hh,Bkp,B2c];by_cases hc:y[(i+j)/2].2<n
   ·rw[Blv hc];simp only[show decide ((-1:Int)<0)=true from rfl,Bkn,Ah (show(i+j)/2+1<9223372036854775808 by omega)];refine ih (j-((i+j)/2+1)) _ (by omega) ⟨(i+j)/2+1,j,rfl,by omega,hj,rfl,?_,hb⟩;intro k r hk hr;by_cases hk2:k<(i+j)/2
    ·have:=mono k _ r _ hk2 hr (Ci hh);omega
    ·have:k=(i+j)/2:=by omega
     subst this;rw[Ci hh]at hr;cases hr;exact hc
   ·rw[Blj hc];have:decide ((if n<y[(i+j)/2].2 then (1:Int)else 0)<0)=false:=by split<;>rfl
    simp only[this,Bko];refine ih ((i+j)/2-i) _ (by omega) ⟨i,(i+j)/2,rfl,by omega,by omega,rfl,ha,?_⟩;intro k r hk hr;by_cases hk2:(i+j)/2<k
    ·have:=mono _ k _ r hk2 (Ci hh) hr;omega
    ·have:k=(i+j)/2:=by omega
     subst this;rw[Ci hh]at hr;cases hr;exact hc
  ·have:j=i:=by omega
   subst this;simp only[dec_lt,Bl4 Bs,Bko];by_cases hil:j<y.length
   ·simp only[Bl6 hil,Bkn,B8,Ci hil,Bkp,B2c];exact⟨_,rfl,j,_,rfl,by omega,ha,hb⟩
   ·simp only[Bl4 hil,Bko];exact⟨_,rfl,j,_,rfl,by omega,ha,hb⟩
theorem Bca(N:Nat)(l:A2 Ct)(n:Int)(hl:l.length≤1000000000000)(hN:1000000000000<N):A0t N l n=some (Ec l n):=by
 unfold A0t;rw[norm_eq N l hl hN,Bkp];obtain⟨hc,Bji⟩:=T2 l;have hlen:=Abj l;rw[← Bji n];generalize Ly l=y at *;obtain⟨i,b,h1,h2,h3,h4⟩:=Azy N y n hc (by omega) hN;rw[h1];simp only[Bkp,dec_lt];have key:Ec y n=true↔∃h:i<y.length,y[i].1≤n:=by
  rw[Fm];constructor
  ·rintro ⟨r,hr,hm,ha,hb⟩;obtain⟨k,hk⟩:=Bn1.1 hr;have hki:i≤k:=by
    rcases Bng k i with h|h
    ·have:=h3 k r h hk;omega
    ·exact h
   obtain⟨Im,rfl⟩:=Bku.1 hk;refine⟨by omega,?_⟩;rcases Bng i k with h|h
   ·have hil:i<y.length:=by omega
    have:=Bmg.1 hc.apart i k hil Im h;have h5:=h4 i y[i] (Bl1 _) (Ci hil);omega
   ·have:k=i:=by omega
    subst this;exact ha
  ·rintro ⟨h,ha⟩;refine⟨y[i],Bmc h,hc.may _ (Bmc h),ha,?_⟩;have:=h4 i y[i] (Bl1 _) (Ci h);omega
 by_cases hil:i<y.length
 ·simp only[Bl6 hil,Bkn,B8,Ci hil,Bkp,Bks];rw[Bmb,key];simp[hil]
 ·simp only[Bl4 hil,Bko,Bks];cases h:Ec y n with
  |false=>rfl
  |true=>obtain⟨h',_⟩:=key.1 h;exact absurd h' hil
section
variable{kt vt:Ty}
theorem A12(hk:kt.key=true)(a a':kt.T)(v:List vt.T)(f:Bool)(c:Nat)[DecidableEq kt.T]:∀es:Jy kt vt,Yx a' (K7 a v f c (Py a es))=if a'=a then some (Tr a es c,f,v)else Yx a' es
 |[]=>by
  by_cases h:a'=a
  ·subst h;simp[Py,K7,Yx,Tr,(Ty.Lr kt a' a' hk).2 rfl]
  ·have:kt.eqv a' a=false:=by rw[Bp0];exact fun hh=>h ((Ty.Lr kt a' a hk).1 hh)
   simp[Py,K7,Yx,this,h]
 |e::r=>by
  cases he:kt.eqv a e.2.1 with
  |true =>
   have e1:=(Ty.Lr kt _ _ hk).1 he;simp only[Py,he,Bkn,K7,Yx];by_cases h:a'=a
   ·subst h;simp[Tr,Yx,he,(Ty.Lr kt a' a' hk).2 rfl]
   ·have:kt.eqv a' a=false:=by rw[Bp0];exact fun hh=>h ((Ty.Lr kt a' a hk).1 hh)
    rw[← e1];simp[this,h]
  |false =>
   have ih:=A12 hk a a' v f c r;simp only[Py,he,Bko,K7,Yx];rw[ih];by_cases h:a'=a
   ·subst h;simp[he,Tr,Yx]
   ·simp[h]
theorem B2d(a:kt.T):∀es:Jy kt vt,Nn a (Re es)=(Yx a es).map (·.2.2)
 |[]=>rfl
 |e::r=>by
  have ih:=B2d a r;simp only[Re,Bkv,Nn,Yx]at ih⊢;cases kt.eqv a e.2.1 with
  |true=>rfl
  |false=>exact ih
end
abbrev Part:Type:=Int×A2 Ct
def tl(c:A2 Part)(dev:Int):A2 Ct:=(c.filter fun p=>p.1==dev).flatMap (·.2)
structure Afo(c:List Part):Prop where
 len:c.length≤30
 runs:∀p∈c,p.2.length≤30
theorem A13(c:A2 Part){k:Nat}(hk:k<c.length)(dev:Int):tl (c.take (k+1)) dev=if c[k].1=dev then tl (c.take k) dev++c[k].2 else tl (c.take k) dev:=by unfold tl;rw[Bmy,Ci hk,Bo2,List.flatMap_append];by_cases h:c[k].1=dev<;>simp[h]
theorem B56(N:Nat)(c:A2 Part)(hN:100<N):∃b,I6 N c=some b∧(b=true→Afo c):=by
 unfold I6;by_cases hl:30<c.length
 ·have:decide ((30:Int)<(c.length:Int))=true:=by simp;omega
  rw[this];exact⟨false,rfl,by simp⟩
 ·have:decide ((30:Int)<(c.length:Int))=false:=by simp;omega
  rw[this,Bko];refine G2 (Q:=fun b=>b=true→Afo c) (fun n z=>∃k:Nat,z=(((k:Int),()),(),(),())∧k≤c.length∧n=c.length-k∧∀e∈c.take k,e.2.length≤30) ?_ N c.length _ ⟨0,rfl,Bnm _,rfl,by simp⟩ (by omega);rintro n z rec ⟨k,rfl,hk,rfl,hall⟩ ih;simp only[dec_lt];by_cases Im:k<c.length
  ·simp only[Bl6 Im,Bkn,B8,Ci Im,Bkp];by_cases h1:(30:Int)<(c[k].2.length:Int)
   ·rw[Bl6 h1];exact⟨false,rfl,by simp⟩
   ·rw[Bl4 h1,Bko,Ah (by omega)];refine ih (c.length-(k+1)) _ (by omega) ⟨k+1,rfl,by omega,rfl,?_⟩;intro e he;rw[Bmy,Ci Im]at he;rcases Bkw.1 he with he|he
    ·exact hall e he
    ·simp at he;subst he;omega
  ·simp only[Bl4 Im,Bko];refine⟨true,rfl,fun _=>⟨by omega,?_⟩⟩
   rwa [Bn3 (by omega)]at hall
def G7(n:Int):A2 Int→A2 Int
 |[]=>[n]
 |x::r=>if n≤x then n::(x::r).filter (· != n)else x::G7 n r
theorem Oj{n y:Int}:∀ {l:A2 Int},y∈G7 n l↔y=n∨y∈l
 |[]=>by simp[G7]
 |x::r=>by
  simp only[G7];split
  ·by_cases h:y=n<;>simp[h]
  ·rw[Bkq,Oj,Bkq];constructor
   ·rintro (h|h|h)<;>simp[h]
   ·rintro (h|h|h)<;>simp[h]
theorem Qr(n:Int):∀l:A2 Int,(G7 n l).length≤l.length+1
 |[]=>by simp[G7]
 |x::r=>by
  simp only[G7];split
  ·have:=Bmf (· != n) (x::r);simp only[Blg]at this⊢;omega
  ·have:=Qr n r;simp only[Blg];omega
theorem Sv(n:Int):∀ {l:A2 Int},l.Pairwise (· < ·)→(G7 n l).Pairwise (· < ·)
 |[],_=>by simp[G7]
 |x::r,h=>by
  simp only[G7];split
  ·rename_i hn;rw[Blp];refine⟨?_,h.filter _⟩;intro y hy;obtain⟨h1,h2⟩:=Blu.1 hy;have h2:y≠n:=by simpa using h2
   rcases Bkq.1 h1 with e|e
   ·omega
   ·have:=(Blp.1 h).1 y e;omega
  ·rename_i hn;rw[Blp]at h⊢;refine⟨?_,Sv n h.2⟩;intro y hy;rcases Oj.1 hy with e|e
   ·omega
   ·exact h.1 y e
theorem Ak4(N:Nat)(l:A2 Int)(n:Int)(hl:l.length≤1000000000000)(hN:1000000000000<N):I9 N l n=some (G7 n l):=by
 unfold I9;refine(iter_eq (G:=fun z=>some (bif z.1.2.1 then z.1.1++(l.drop z.1.2.2.1.toNat).filter (· != n)else z.1.1++G7 n (l.drop z.1.2.2.1.toNat))) (fun m z=>∃(out:A2 Int) (done:Bool) (k:Nat),z=((out,done,(k:Int),()),(),(),())∧k≤l.length∧m=l.length-k∧out.length≤k+1+1∧(done=false→out.length≤k)) ?_ N l.length _ ⟨[],false,0,rfl,by omega,by omega,by simp,by simp⟩ (by omega)).trans ?_
 ·rintro m z rec ⟨out,done,k,rfl,hk,rfl,ho,hd⟩ ih;by_cases Im:k<l.length
  ·have hf:∀(o:A2 Int) (x:Int),o.length≤k+3→Aw (o.length + [x].length) 8=true:=fun o x h=>fit (by simp;omega) (by simp;omega)
   have e:l.drop k=l[k]::l.drop (k+1):=Bnb Im;have next:∀(o:A2 Int) (d:Bool),o.length≤k+1+1+1→(d=false→o.length≤k+1)→rec ((o,d,((k+1:Nat):Int),()),(),(),())=some (bif d then o++(l.drop (k+1)).filter (· != n)else o++G7 n (l.drop (k+1))):=by intro o d h1 h2;exact ih (l.length-(k+1)) _ (by omega) ⟨o,d,k+1,rfl,by omega,rfl,h1,h2⟩
   simp only[dec_lt,Bl6 Im,Bkn,B8,Ci Im,Bkp,Ah (show k+1<9223372036854775808 by omega),Bw,Ed,e];cases done with
   |true =>
    simp only[Bn7,Bko,Bkn];by_cases hn:l[k]=n
    ·have:(l[k] != n)=false:=by simp[hn]
     simp only[this,Bko];rw[next out true (by omega) (by simp)];simp[-List.getElem_cons_drop,hn]
    ·have:(l[k] != n)=true:=by simp[hn]
     simp only[this,Bkn];rw[hf out l[k] (by omega),Bkn,next (out++[l[k]]) true (by simp;omega) (by simp)];simp[-List.getElem_cons_drop,hn]
   |false =>
    have ho':=hd rfl;simp only[Bno,Bko,Bkn];by_cases hle:n≤l[k]
    ·rw[Bl6 hle,Bkn,hf out n (by omega),Bkn];simp only[G7,Blv hle];by_cases hn:l[k]=n
     ·have:(l[k] != n)=false:=by simp[hn]
      simp only[this,Bko];rw[next (out++[n]) true (by simp;omega) (by simp)];simp[-List.getElem_cons_drop,hn]
     ·have:(l[k] != n)=true:=by simp[hn]
      simp only[this,Bkn];rw[hf (out++[n]) l[k] (by simp;omega),Bkn,next (out++[n]++[l[k]]) true (by simp;omega) (by simp)];simp[-List.getElem_cons_drop,hn]
    ·have:(l[k] != n)=true:=by simp;omega
     rw[Bl4 hle,Bko];simp only[this,Bkn,G7,Blj hle];rw[hf out l[k] (by omega),Bkn,next (out++[l[k]]) false (by simp;omega) (by simp;omega)];simp[-List.getElem_cons_drop]
  ·have:k=l.length:=by omega
   subst this;have hf:done=false→Aw (out.length + [n].length) 8=true:=fun h=>fit (by have:=hd h;simp;omega) (by have:=hd h;simp;omega)
   simp only[dec_lt,Bl4 Im,Bko,Ed,Bof,List.filter_nil,Blt,G7];cases done with
   |true=>rfl
   |false =>have:=hf rfl;simp only[Bn9]at this;simp[this]
 ·simp
def T7(l:A2 Ct):A2 Int:=l.foldl (fun q r=>bif Dl r then G7 (r.2+1) (G7 r.1 q)else q) []
theorem Kb:∀(l:A2 Ct) (q:A2 Int),q.Pairwise (· < ·) →
  (l.foldl (fun q r=>bif Dl r then G7 (r.2+1) (G7 r.1 q)else q) q).Pairwise (· < ·) ∧
  (∀p,p∈l.foldl (fun q r=>bif Dl r then G7 (r.2+1) (G7 r.1 q)else q) q↔p∈q∨∃r∈l,Dl r=true∧(p=r.1∨p=r.2+1)) ∧
  (l.foldl (fun q r=>bif Dl r then G7 (r.2+1) (G7 r.1 q)else q) q).length≤q.length+2*l.length
 |[],q,h=>⟨h,by simp,by simp⟩
 |r::l,q,h=>by
  simp only[Bmd];cases hm:Dl r with
  |false =>obtain⟨i1,i2,i3⟩:=Kb l q h;simp only[Bko];refine⟨i1,fun p=>?_,by simp only[Blg];omega⟩;rw[i2 p];simp[hm]
  |true =>
   obtain⟨i1,i2,i3⟩:=Kb l (G7 (r.2+1) (G7 r.1 q)) (Sv _ (Sv _ h));have h1:=Qr (r.2+1) (G7 r.1 q);have h2:=Qr r.1 q;simp only[Bkn];refine⟨i1,fun p=>?_,by simp only[Blg];omega⟩;rw[i2 p,Oj,Oj];simp only[Bkq,exists_eq_or_imp,hm,Bq3]
   grind
theorem Ng(l:A2 Ct):(T7 l).Pairwise (· < ·)∧(∀p,p∈T7 l↔∃r∈l,Dl r=true∧(p=r.1∨p=r.2+1))∧(T7 l).length≤2*l.length:=by obtain⟨h1,h2,h3⟩:=Kb l [] (by simp);exact⟨h1,fun p=>by have:=h2 p;simpa[T7]using this,by simpa[T7]using h3⟩
theorem B57(N:Nat)(a b:A2 Ct)(hl:a.length+b.length≤100000000000)(hN:1000000000000<N):Ii N a b=some (T7 (a++b)):=by
 unfold Ii;have f1:Aw (0+a.length) 16=true:=fit (by omega) (by omega);have f2:Aw (a.length+b.length) 16=true:=fit (by omega) (by omega);simp only[Bm0,f1,f2,Bkn];refine(Ir (a++b) (fun q r=>bif Dl r then G7 (r.2+1) (G7 r.1 q)else q) [] (fun q=>some q) ?_ ?_ N (by simp;omega))
 ·intro rec k q hk hq;have hlq:q.length≤2*k:=by have:=(Kb ((a++b).take k) [] (by simp)).2.2;rw[← hq]at this;simp only[Bns,Bm6]at this;omega
  have hlen:(a++b).length=a.length+b.length:=by simp
  simp only[dec_lt,Bl6 hk,Bkn,B8,Ci hk,Bkp,B9k];cases hm:Dl (a++b)[k] with
  |false=>simp only[Bko,Ah (show k+1<9223372036854775808 by omega)]
  |true =>have hmm:=C6.1 hm;have h2:=Qr (a++b)[k].1 q;simp only[Bkn];rw[Ak4 N q _ (by omega) hN,Bkp,Uz (by omega) (by omega),Ak4 N _ _ (by omega) hN,Bkp,Ah (show k+1<9223372036854775808 by omega)]
 ·intro rec;simp only[dec_lt,Bl4 (Bmr _),Bko]
theorem seg{l:A2 Ct}{k:Nat}{lo hi n:Int}(h0:(T7 l)[k]? = some lo)(h1:(T7 l)[k+1]? = some hi)(ha:lo≤n)(hb:n<hi):Ec l n=Ec l lo:=by
 obtain⟨p1,p2,_⟩:=Ng l;have gap:∀p∈T7 l,p≤lo∨hi≤p:=by
  intro p hp;obtain⟨j,hj⟩:=Bn1.1 hp;obtain⟨l0,rfl⟩:=Bku.1 h0;obtain⟨l1,rfl⟩:=Bku.1 h1;obtain⟨lj,rfl⟩:=Bku.1 hj;have hp:=Bmg.1 p1;rcases Br3 j k with h|h|h
  ·have:=hp j k lj l0 h;omega
  ·subst h;omega
  ·by_cases h2:j=k+1
   ·subst h2;omega
   ·have:=hp (k+1) j l1 lj (by omega);omega
 rw[Bmb,Fm,Fm];constructor
 ·rintro ⟨r,hr,hm,h2,h3⟩;have:=gap r.1 ((p2 r.1).2 ⟨r,hr,hm,.inl rfl⟩);exact⟨r,hr,hm,by omega,by omega⟩
 ·rintro ⟨r,hr,hm,h2,h3⟩;have:=gap (r.2+1) ((p2 (r.2+1)).2 ⟨r,hr,hm,.inr rfl⟩);exact⟨r,hr,hm,by omega,by omega⟩
def Vv(out:A2 Ct)(lo hi:Int):A2 Ct :=
 match out.getLast? with
 |none=>[(lo,hi-1)]
 |some e=>if e.2+1=lo then out.set (out.length-1) (e.1,hi-1)else out++[(lo,hi-1)]
theorem A57(o:A2 Ct)(e:Ct)(lo hi:Int):Vv (o++[e]) lo hi=if e.2+1=lo then o++[(e.1,hi-1)]else (o++[e])++[(lo,hi-1)]:=by
 simp only[Vv,Bpi,Bp6,Boh];split
 ·simp
 ·rfl
theorem A8a{out:A2 Ct}{lo hi:Int}(h:∀r∈out,Dl r=true)(h1:1≤lo)(h2:lo<hi)(h3:hi≤281474976710656) :
  (∀r∈Vv out lo hi,Dl r=true)∧(∀n,Ec (Vv out lo hi) n=true↔Ec out n=true∨(lo≤n∧n<hi))∧(Vv out lo hi).length≤out.length+1:=by
 rcases I2 out with rfl|⟨o,e,rfl⟩
 ·refine⟨?_,?_,by simp[Vv]⟩
  ·intro r hr;simp[Vv]at hr;subst hr;rw[C6];simp only;omega
  ·intro n;simp only[Vv,List.getLast?_nil,Ec,Boj,Bp3,Bov,Jn,C6,Bmi,Br9];omega
 ·have he:=C6.1 (h e (by simp));rw[A57];split
  ·rename_i heq;refine⟨?_,?_,by simp⟩
   ·intro r hr;rcases Bkw.1 hr with hr|hr
    ·exact h r (by simp[hr])
    ·simp at hr;subst hr;rw[C6];simp only;omega
   ·intro n;rw[D4,D4];simp only[Ec,Boj,Bp3,Bov,Bms,Jn,C6];constructor
    ·rintro (h|h)
     ·exact .inl (.inl h)
     ·omega
    ·rintro ((h|h)|h)
     ·exact .inl h
     ·exact .inr (by omega)
     ·exact .inr (by omega)
  ·refine⟨?_,?_,by simp⟩
   ·intro r hr;rcases Bkw.1 hr with hr|hr
    ·exact h r hr
    ·simp at hr;subst hr;rw[C6];simp only;omega
   ·intro n;rw[D4];simp only[Ec,Boj,Bp3,Bov,Bms,Jn,C6];constructor
    ·rintro (h|h)
     ·exact .inl h
     ·omega
    ·rintro (h|h)
     ·exact .inl h
     ·exact .inr (by omega)
structure A8b(l:List Ct)(k:Nat)(out:List Ct):Prop where
 may:∀r∈out,Dl r=true
 len:out.length≤k
 Ec:∀n,Ec out n=true↔Ec l n=true∧∃p,(T7 l)[k]? = some p∧n<p
theorem Anw(l:A2 Ct):A8b l 0 []:=by
 refine⟨by simp,by simp,fun n=>?_⟩;rw[Ue];simp only[Bmi,false_iff];rintro ⟨h1,p,hp,hn⟩;obtain⟨r,hr,hm,h2,h3⟩:=Fm.1 h1;obtain⟨p1,p2,_⟩:=Ng l;obtain⟨j,hj⟩:=Bn1.1 ((p2 r.1).2 ⟨r,hr,hm,.inl rfl⟩);obtain⟨l0,rfl⟩:=Bku.1 hp;obtain⟨lj,e⟩:=Bku.1 hj;rcases Bmu j with h|h
 ·subst h;omega
 ·have:=Bmg.1 p1 0 j l0 lj h;omega
theorem B4r{l:A2 Ct}{k:Nat}{lo hi:Int}(h0:(T7 l)[k]? = some lo)(h1:(T7 l)[k+1]? = some hi):lo<hi∧1≤lo∧hi≤281474976710656:=by obtain⟨p1,p2,_⟩:=Ng l;obtain⟨r,hr,hm,h⟩:=(p2 lo).1 (Bln h0);obtain⟨r',hr',T4,h'⟩:=(p2 hi).1 (Bln h1);obtain⟨l0,rfl⟩:=Bku.1 h0;obtain⟨l1,rfl⟩:=Bku.1 h1;have:=Bmg.1 p1 k (k+1) l0 l1 (by omega);rw[C6]at hm T4;omega
theorem B29{l:A2 Ct}{k:Nat}{lo hi:Int}{out:A2 Ct}(h:A8b l k out)(h0:(T7 l)[k]? = some lo)(h1:(T7 l)[k+1]? = some hi)(hc:Xg.Ec l lo=true):A8b l (k+1) (Vv out lo hi):=by
 obtain⟨e1,e2,e3⟩:=B4r h0 h1;obtain⟨s1,s2,s3⟩:=A8a h.may e2 e1 e3;refine⟨s1,by have:=h.len;omega,fun n=>?_⟩;rw[s2 n,h.Ec n,h0,h1];simp only[Bks,Bqg];constructor
 ·rintro (⟨a1,a2⟩|⟨a1,a2⟩)
  ·exact⟨a1,by omega⟩
  ·exact⟨by rw[seg h0 h1 a1 a2];exact hc,a2⟩
 ·rintro ⟨a1,a2⟩;by_cases h:n<lo
  ·exact .inl ⟨a1,h⟩
  ·exact .inr ⟨by omega,a2⟩
theorem Aw0{l:A2 Ct}{k:Nat}{lo hi:Int}{out:A2 Ct}(h:A8b l k out)(h0:(T7 l)[k]? = some lo)(h1:(T7 l)[k+1]? = some hi)(hc:Xg.Ec l lo=false):A8b l (k+1) out:=by
 obtain⟨e1,e2,e3⟩:=B4r h0 h1;refine⟨h.may,by have:=h.len;omega,fun n=>?_⟩;rw[h.Ec n,h0,h1];simp only[Bks,Bqg];constructor
 ·rintro ⟨a1,a2⟩;exact⟨a1,by omega⟩
 ·rintro ⟨a1,a2⟩;by_cases h:n<lo
  ·exact⟨a1,h⟩
  ·rw[seg h0 h1 (by omega) a2,hc]at a1;cases a1
theorem Aw1{l:A2 Ct}{k:Nat}{out:A2 Ct}(h:A8b l k out)(hk:(T7 l).length≤k+1)(hk2:k<(T7 l).length∨(T7 l).length=0)(n:Int):Xg.Ec out n=Xg.Ec l n:=by
 rw[Bmb,h.Ec n];constructor
 ·exact fun hh=>hh.1
 ·intro hc;refine⟨hc,?_⟩;obtain⟨r,hr,hm,h2,h3⟩:=Fm.1 hc;obtain⟨p1,p2,_⟩:=Ng l;obtain⟨j,hj⟩:=Bn1.1 ((p2 (r.2+1)).2 ⟨r,hr,hm,.inr rfl⟩);obtain⟨lj,e⟩:=Bku.1 hj;have Im:k<(T7 l).length:=by omega
  refine⟨(T7 l)[k],Ci Im,?_⟩;rcases Bng j k with h|h
  ·have:=Bmg.1 p1 j k lj Im h;omega
  ·have:j=k:=by omega
   subst this;omega
def hasB(c:A2 Part)(d:Int×Int):Bool:=decide (0<d.1)&&Ec (tl c d.1) d.2
theorem Awd{l:A2 Ct}(h:A40 l):Pc.E6 l:=⟨h.may,h.apart⟩
theorem Ao3(l:A2 Ct):Ly l=Pc.Nq l:=Pc.As3 (Awd (T2 l).1) (T2 l).2
structure Sm(c:List Part):Prop where
 len:c.length≤1000000000
 T6:Pc.T6 c≤1000000000
theorem Sm.nil:Sm []:=⟨by simp,by simp[Pc.T6]⟩
theorem Afo.sm{c:A2 Part}(h:Afo c):Sm c:=by
 refine⟨by have:=h.len;omega,?_⟩;have key:∀c:A2 Part,(∀p∈c,p.2.length≤30)→Pc.T6 c≤30*c.length:=by
  intro c;induction c with
  |nil=>intro _;simp[Pc.T6]
  |cons p c ih =>
   intro h;have h1:=ih fun q hq=>h q (by simp[hq])
   have h2:=h p (by simp);rw[Pc.Ze,Blg];omega
 have:=key c h.runs;have:=h.len;omega
theorem Ak5(c:A2 Part)(k:Nat)(d:Int):(tl (c.take k) d).length≤Pc.T6 c:=by
 have h1:=Pc.Anv (c.take k) d;have h2:Pc.T6 c=Pc.T6 (c.take k)+Pc.T6 (c.drop k):=by rw[← Pc.Aja,Bmt]
 exact Bmh h1 (by omega)
theorem Asm{c:A2 Part}{p:Part}(h:p∈c):p.2.length≤Pc.T6 c:=by
 induction c with
 |nil=>simp at h
 |cons q c ih =>
  rw[Pc.Ze];rcases Bkq.1 h with e|h
  ·subst e;omega
  ·have:=ih h;omega
theorem Awe(N:Nat)(c:A2 Part)(hc:Sm c)(hN:1000000000000<N):∃(es:Fa (.int .u16) (.sl Bd)) (Ih:Nat),Rv N c=some (((),()),(),(),(es,Ih),())∧WfE es Ih∧es.length≤c.length∧(∀e∈es,0<e.2.1)∧∀dev:Int,0<dev→(Nn (kt:=.int .u16) (vt:=.sl Bd) dev es).getD []=tl c dev:=by
 suffices H:∃r,Rv N c=some r∧∃(es:Fa (.int .u16) (.sl Bd)) (Ih:Nat),r=(((),()),(),(),(es,Ih),())∧WfE es Ih∧es.length≤c.length∧(∀e∈es,0<e.2.1)∧∀dev:Int,0<dev→(Nn (kt:=.int .u16) (vt:=.sl Bd) dev es).getD []=tl c dev by obtain⟨r,h1,es,Ih,rfl,h2⟩:=H;exact⟨es,Ih,h1,h2⟩
 unfold Rv;refine G2 (Q:=fun r:(Unit×Unit)×Unit×Unit×(A2 (Nat×Int×A2 (Int×Int))×Nat)×Unit=>∃(es:Fa (.int .u16) (.sl Bd)) (Ih:Nat),r=(((),()),(),(),(es,Ih),())∧WfE es Ih∧es.length≤c.length∧(∀e∈es,0<e.2.1)∧∀dev:Int,0<dev→(Nn (kt:=.int .u16) (vt:=.sl Bd) dev es).getD []=tl c dev)
  (fun m z=>∃(k:Nat) (es:Jy (.int .u16) Bd) (Ih:Nat),z=(((k:Int),()),(),(),(es,Ih),())∧k≤c.length∧m=c.length-k∧(∀dev:Int,Aea (kt:=.int .u16) dev es=true)∧(∀dev:Int,0<dev→Ahr (kt:=.int .u16) dev es=tl (c.take k) dev)∧WfE (Re es) Ih∧(Re es).length≤k∧∀x∈(Re es).map (·.2.1),0<x) ?_ N c.length _ ⟨0,[],0,rfl,by omega,by omega,fun _=>rfl,fun _ _=>rfl,.nil 0,Bl1 _,by simp[Re]⟩ (by have:=hc.len;omega)
 ·rintro m z rec ⟨k,es,Ih,rfl,hk,rfl,hf,hv,hw,hl,hp⟩ ih;have hlen:=hc.len;by_cases Im:k<c.length
  ·simp only[dec_lt,Bl6 Im,Bkn,B8,Ci Im,Bkp,Ah (show k+1<9223372036854775808 by omega)];by_cases h0:0<c[k].1
   ·have hb1:=Ak5 c k c[k].1;have hb2:=Asm (Bmc Im);have hb3:=hc.T6;rw[Bl6 h0,Bkn];have e1:B7n (.int .u16) Bd c[k].1 es=true:=hf c[k].1;have e2:B7m (.int .u16) Bd c[k].1 es=tl (c.take k) c[k].1:=hv c[k].1 h0;rw[e1,Bkn,e2];have A6y:Aw ((tl (c.take k) c[k].1).length+c[k].2.length) 16=true:=fit (by omega) (by omega);rw[A6y,Bkn];have Bfc:Re (K7 (kt:=.int .u16) (vt:=Bd) c[k].1 (tl (c.take k) c[k].1++c[k].2) true Ih (Py (kt:=.int .u16) c[k].1 es))=Jx (kt:=.int .u16) (vt:=.sl Bd) c[k].1 (tl (c.take k) c[k].1++c[k].2) Ih (Re es):=by rw[Aqh,Aqi]
    have Atd:Re (Py (kt:=.int .u16) (vt:=Bd) c[k].1 es)=Re es:=Aqi _ es;refine ih (c.length-(k+1)) _ (by omega) ⟨k+1,_,_,rfl,by omega,rfl,?_,?_,?_,?_,?_⟩
    ·intro dev;show Aea dev (K7 c[k].1 _ true Ih (Py c[k].1 es))=true;unfold Aea;rw[A12 rfl];by_cases he:dev=c[k].1
     ·rw[Blv he]
     ·rw[Blj he];exact hf dev
    ·intro dev hd;show Ahr dev (K7 c[k].1 _ true Ih (Py c[k].1 es))=_;unfold Ahr;rw[A12 rfl,A13 c Im];by_cases he:c[k].1=dev
     ·subst he;simp
     ·rw[Blj (Bnf he),Blj he];exact hv dev hd
    ·show WfE (Re (K7 c[k].1 _ true Ih (Py c[k].1 es))) (R9 c[k].1 (Re (Py c[k].1 es)) Ih);rw[Bfc,Atd];exact hw.put rfl _ _
    ·show(Re (K7 c[k].1 _ true Ih (Py c[k].1 es))).length≤k+1;rw[Bfc];have:=A37 (kt:=.int .u16) (vt:=.sl Bd) c[k].1 (tl (c.take k) c[k].1++c[k].2) Ih (Re es);omega
    ·show ∀x∈(Re (K7 c[k].1 _ true Ih (Py c[k].1 es))).map (·.2.1),0<x;rw[Bfc];intro x hx;rcases(Adh rfl _ _ _ _ x).1 hx with e|hx
     ·subst e;exact h0
     ·exact hp x hx
   ·rw[Bl4 h0,Bko];refine ih (c.length-(k+1)) _ (by omega) ⟨k+1,es,Ih,rfl,by omega,rfl,hf,?_,hw,by omega,hp⟩;intro dev hd;rw[A13 c Im,Blj (by omega)];exact hv dev hd
  ·have:k=c.length:=by omega
   subst this;simp only[dec_lt,Bl4 Im,Bko];refine⟨_,rfl,Re es,Ih,rfl,hw,hl,fun e he=>hp _ (Bl3 (f:=(·.2.1)) he),fun dev hd=>?_⟩;have:=hv dev hd;rw[Bm4]at this;rw[B2d,← this];unfold Ahr;cases Yx (kt:=.int .u16) (vt:=Bd) dev es<;>rfl
theorem We:∀(l:A2 Nat) (b:Nat),Dg (l++[b])=some (l,b)
 |[],b=>rfl
 |a::l,b=>by
  have ih:=We l b;cases l with
  |nil=>rfl
  |cons c r =>simp only[Bmx]at ih⊢;unfold Dg;rw[ih]
theorem Zq{kt vt:Ty}:∀ {es:Fa kt vt} {e:Nat×kt.T×vt.T},(es.map (·.1)).Nodup→e∈es→A2n e.1 es=some e
 |[],e,_,h=>by simp at h
 |x::r,e,hn,h=>by
  rw[Bkv,Bm1]at hn;simp only[A2n];rcases Bkq.1 h with rfl|h
  ·simp
  ·have:x.1≠e.1:=fun hh=>hn.1 (hh▸Bl3 (f:=(·.1)) h)
   rw[nbF this,Bko,Zq hn.2 h]
def A68(d:Fa (.int .u16) (.sl Bd)):A2 Part:=(d.map fun e=>((e.2.1,Ly e.2.2):Part)).filter fun p=>!p.2.isEmpty
def owP(g:A2 Part):A3 (A2 Part×Nat):=match g with
 |[]=>none
 |a::r=>some (a::r,(a::r).length)
theorem A5f(d:Fa (.int .u16) (.sl Bd))(e:Nat×Int×A2 (Int×Int)):A68 (d++[e])=if (Ly e.2.2).isEmpty then A68 d else A68 d++[(e.2.1,Ly e.2.2)]:=by unfold A68;rw[Ble,Bo2];cases h:(Ly e.2.2).isEmpty<;>simp[h]
theorem B9l(d:Fa (.int .u16) (.sl Bd)):(A68 d).length≤d.length:=by unfold A68;have:=Bmf (fun p:Part=>!p.2.isEmpty) (d.map fun e=>((e.2.1,Ly e.2.2):Part));simpa using this
theorem Ao4{d es:Fa (.int .u16) (.sl Bd)}(h:d.Perm es):(A68 d).Perm (A68 es):=(h.map _).filter _
theorem Ads{es:Fa (.int .u16) (.sl Bd)}{Ih:Nat}(h:WfE es Ih):Tw Tj (A68 es)=true:=by
 rw[Ux];have hk:(es.map (·.2.1)).Pairwise (·≠·):=h.keys;unfold A68;refine Bpj _ ?_;rw[Bo8]at hk⊢;refine hk.imp fun {a b} hab=>?_
 rw[A59,A59];simp only[Bnp];exact Int.lt_or_gt_of_ne hab
theorem A5g{α:Type}{cf:α→α→Int}{a b:A2 α}(h:a.Perm b)(hd:Tw cf b=true):Tw cf a=true:=by rw[Ux]at *;exact(h.pairwise_iff (R:=fun x y=>ltOf cf x y=true∨ltOf cf y x=true) (fun {x y} h=>h.symm)).2 hd
theorem Zr{α:Type}(cf:α→α→Int):A1c cf ([]:A2 α)=[]:=List.perm_nil.1 (Bql _ _)
theorem Azz{α:Type}(a:α)(r:A2 α):decide ((0:Int)<((a::r).length:Int))=true:=by rw[Bnp,Blg];omega
def Asn(es:Fa (.int .u16) (.sl Bd)):A2 Part:=A1c Tj (A68 es)
theorem B9m(N:Nat)(es:Fa (.int .u16) (.sl Bd))(Ih:Nat)(hw:WfE es Ih)(hl:es.length≤1000000000)(hv:∀e∈es,e.2.2.length≤1000000000)(hN:1000000000000<N):Xo N (es,Ih)=some ((Asn es,()),(),(),()):=by
 unfold Xo;refine As0 (es:=es) hw.born (fun d z=>z=((),(),(owP (A68 d),()),(Ih,d.map (·.1),Ih),())) _ ?_ N (by omega) rfl;rintro rec d z hd rfl ih;have hold:Io Ih Ih es=true:=Ag2 hw.lt hw.lt;have hdl:=hd.len;have hpl:=B9l d;have step:∀e∈B4 (d.map (·.1)) es,Dg (d.map (·.1)++[e.1])=some (d.map (·.1),e.1)∧Cx (.int .u16) Bd.sl e.1 es=some e∧Kc N e.2.2=some (Ly e.2.2):=by intro e he;have hm:=(Rr.1 he).1;exact⟨We _ _,Zq hw.born hm,norm_eq N _ (by have:=hv e hm;omega) hN⟩
 have seen:∀e:Nat×Int×A2 (Int×Int),d.map (·.1)++[e.1]=(d++[e]).map (·.1):=fun e=>by simp
 cases hp:A68 d with
 |nil =>
  simp only[owP,A4,hold,Bkn,Bob];by_cases hn:B4 (d.map (·.1)) es=[]
  ·rw[hn,Pt];have Hp:=Ao4 (hd.all hw.born hn);rw[hp]at Hp;have:A68 es=[]:=Bqy.1 Hp;simp only[Asn,this,Zr]
  ·refine Si hn fun e he=>?_
   obtain⟨s1,s2,s3⟩:=step e he;simp only[s1,s2,s3,Bkp];cases hy:Ly e.2.2 with
   |nil =>simp only[Bns];refine ih e he _ ?_;rw[A5f,hy,seen];simp[hp,owP]
   |cons a r =>have:decide ((0:Int)<((a::r).length:Int))=true:=Azz a r;rw[this,Bkn];refine ih e he _ ?_;rw[A5f,hy,seen];simp[hp,owP]
 |cons q0 qs =>
  have e1:(q0::qs).length≤1000000000:=by rw[← hp];omega
  simp only[owP,A4,hold,Bkn,Bob];have B00:Nat.ble (q0::qs).length (q0::qs).length=true:=Bm3 (Bl1 _);have Ak6:Nat.ble (q0::qs).length 4611686018427387903=true:=Bm3 (by omega);by_cases hn:B4 (d.map (·.1)) es=[]
  ·have Hp:=Ao4 (hd.all hw.born hn);rw[hp]at Hp;have Ak7:A39 (q0::qs)=true:=A5g Hp (Ads hw);have hs:Ox (q0::qs)=Asn es:=by obtain⟨p,s⟩:=Ep Zg (q0::qs);exact Uy Zg (Ads hw) (p.trans Hp) s
   have hsl:(Asn es).length=(q0::qs).length:=by rw[← hs];exact(Ep Zg (q0::qs)).1.length_eq
   rw[hn,Pt,B00,Bkn,Ak6,Bkn,Bm4,Bof,Ak7,Bkn,hs,Blt];have Awf:Nat.ble (0+(q0::qs).length) (Asn es).length=true:=Bm3 (by omega);rw[Awf];simp only[Bkn,Bo6];rw[← hsl,Bm4]
  ·refine Si hn fun e he=>?_
   obtain⟨s1,s2,s3⟩:=step e he;simp only[s1,s2,s3,Bkp];cases hy:Ly e.2.2 with
   |nil =>simp only[Bns];refine ih e he _ ?_;rw[A5f,hy,seen];simp[hp,owP]
   |cons a r =>have:decide ((0:Int)<((a::r).length:Int))=true:=Azz a r;rw[this,Bkn];have A6y:Aw ((q0::qs).length + [((e.2.1,a::r):Part)].length) 32=true:=fit (by simp only[Bn9];omega) (by simp only[Bn9];omega);rw[A6y,Bkn];refine ih e he _ ?_;rw[A5f,hy,seen];simp[hp,owP]
theorem Awg{es:Fa (.int .u16) (.sl Bd)}{Ih:Nat}(hw:WfE es Ih)(hp:∀e∈es,0<e.2.1):Pc.Uf (Asn es):=by
 obtain⟨p,s⟩:=Ep Zg (A68 es);have hs:=Ya p (Ads hw) s;have mem:∀q∈Asn es,∃e∈es,q=(e.2.1,Ly e.2.2)∧Ly e.2.2≠[]:=by intro q hq;have hq:=p.mem_iff.1 hq;obtain⟨h1,h2⟩:=Blu.1 hq;obtain⟨e,he,rfl⟩:=Bl2.1 h1;exact⟨e,he,rfl,by intro hh;simp[hh]at h2⟩
 refine⟨?_,?_,?_,?_⟩
 ·refine hs.imp fun {a b} h=>?_
  rw[A59]at h;simpa using h
 ·intro q hq;obtain⟨e,he,rfl,_⟩:=mem q hq;exact hp e he
 ·intro q hq;obtain⟨e,he,rfl,h⟩:=mem q hq;exact h
 ·intro q hq;obtain⟨e,he,rfl,_⟩:=mem q hq;exact Awd (T2 _).1
theorem Bcb{es:Fa (.int .u16) (.sl Bd)}{Ih:Nat}(hw:WfE es Ih)(hp:∀e∈es,0<e.2.1){dev:Int}(hd:0<dev):Pc.tl (Asn es) dev=Ly ((Nn (kt:=.int .u16) (vt:=.sl Bd) dev es).getD []):=by
 have hc:=Awg hw hp;obtain⟨p,s⟩:=Ep Zg (A68 es);cases hm:Nn (kt:=.int .u16) (vt:=.sl Bd) dev es with
 |none =>
  have hn:=(Anp (kt:=.int .u16) (vt:=.sl Bd) rfl).1 hm;rw[Pc.A55]
  ·simp only[Option.getD_none];rw[Ao3,Pc.Ab7]
  ·intro q hq he;obtain⟨h1,_⟩:=Blu.1 (p.mem_iff.1 hq);obtain⟨e,he',rfl⟩:=Bl2.1 h1;exact hn (he▸Bl3 (f:=(·.2.1)) he')
 |some v =>
  obtain⟨i,hi⟩:=(Ab6 (kt:=.int .u16) (vt:=.sl Bd) rfl hw.keys).1 hm;simp only[Boe];by_cases hv:Ly v=[]
  ·rw[hv,Pc.A55];intro q hq he;obtain⟨h1,h2⟩:=Blu.1 (p.mem_iff.1 hq);obtain⟨e,he',rfl⟩:=Bl2.1 h1;have he2:Nn (kt:=.int .u16) (vt:=.sl Bd) e.2.1 es=some e.2.2:=(Ab6 (kt:=.int .u16) (vt:=.sl Bd) rfl hw.keys).2 ⟨e.1,he'⟩;have he:e.2.1=dev:=he;rw[he,hm]at he2;cases he2;simp[hv]at h2
  ·have:((dev,Ly v):Part)∈Asn es:=p.mem_iff.2 (Blu.2 ⟨Bl2.2 ⟨(i,dev,v),hi,rfl⟩,by simp[hv]⟩);exact hc.B9a this
theorem Awh(N:Nat)(c:A2 Part)(hc:Sm c)(hN:1000000000000<N):Vz N c=some (Pc.Avz c):=by
 unfold Vz;obtain⟨es,Ih,h1,hw,hl,hp,hv⟩:=Awe N c hc hN;have hlen:=hc.len;rw[h1,Bkp,B9m N es Ih hw (by omega) ?_ hN,Bkp]
 ·refine Blc some (Pc.Bc0 (Awg hw hp) fun d n=>?_);unfold Pc.A5u;by_cases hd:0<d
  ·rw[Bcb hw hp hd,hv d hd,Ao3,Pc.Qq];rfl
  ·simp[hd]
 ·intro e he;have he2:Nn (kt:=.int .u16) (vt:=.sl Bd) e.2.1 es=some e.2.2:=(Ab6 (kt:=.int .u16) (vt:=.sl Bd) rfl hw.keys).2 ⟨e.1,he⟩;have:=hv e.2.1 (hp e he);rw[he2]at this;simp only[Boe]at this;rw[this];exact Bmh (Pc.Anv c _) hc.T6
def ltE(x y:Ev):Bool:=ltOf Gy x.1 y.1
def eqE(x y:Ev):Bool:=x.1.1==y.1.1&&x.1.2==y.1.2
theorem Bjj:LO ltE eqE where
 asymm x y h:=by unfold ltE at *;rw[Ti]at *;simp at *;omega
 ntrans x y z h1 h2:=by unfold ltE at *;rw[Ti]at *;simp at *;omega
 eq_def x y:=by unfold ltE eqE;rw[Ti,Ti,Bmb];simp;omega
theorem Ao5(a:A2 (Int×Int)):(Awb a).length≤a.length:=by have:=(A3z a [] (by simp[Tg])).2.2;simpa[Awb]using this
theorem Ak8(N:Nat)(l:A2 Ev)(hl:l.length≤100)(Ek:∀e∈l,smE e)(hN:1000000<N):D2 N l=some (Gu (l.flatMap dsE)):=by
 rw[A6w];unfold D2;have Bdc:∀(m:A2 Ev) (q:A2 (Int×Int)),m.foldl (fun q e=>(dsE e).foldl (fun q d=>Nx d q) q) q=(m.flatMap dsE).foldl (fun q d=>Nx d q) q:=by
  intro m;induction m with
  |nil=>intro q;rfl
  |cons e r ih=>intro q;rw[Bmd,ih,Br5,Bpy]
 rw[Ir l (fun q e=>(dsE e).foldl (fun q d=>Nx d q) q) [] (fun a=>some a) ?_ ?_ N (by omega),Bdc]
 ·rfl
 ·intro rec k a hk ha;rw[Bdc]at ha;have hal:a.length≤5001*100:=by rw[ha];have h1:=Ao5 ((l.take k).flatMap dsE);have:=Abi (B2b Ek k);rw[Bm6]at this;unfold Awb at h1;omega
  have hk2:l[k].2.2.2.2.2.length≤5000:=Ek _ (Bmc hk);simp only[dec_lt,Bl6 hk,Bkn,B8,Ci hk,Bkp];rw[A5d N a _ (by omega) hN];simp only[Bkp];have hpl:=Xt l[k].1 a;generalize hp:Nx l[k].1 a=p at hpl;rw[Ir l[k].2.2.2.2.2 (fun q d=>Nx d q) p (fun a=>rec ((a,i64.wrap ((k:Int)+1),()),(),(),())) ?_ ?_ N (by omega)]
  ·rw[Ah (by omega),← hp];rfl
  ·intro Bcc j b hj hb;have hbl:b.length≤5001*100+5002:=by
    rw[hb];have:∀(m q:A2 (Int×Int)),(m.foldl (fun q d=>Nx d q) q).length≤q.length+m.length:=by
     intro m;induction m with
     |nil=>simp
     |cons d r ih=>intro q;rw[Bmd];have:=ih (Nx d q);have:=Xt d q;simp;omega
    have:=this (l[k].2.2.2.2.2.take j) p;rw[Bm6]at this;omega
   simp only[dec_lt,Bl6 hj,Bkn,B8,Ci hj,Bkp];rw[A5d N b _ (by omega) hN];simp only[Bkp];rw[Ah (by omega)]
  ·intro Bcc;simp only[dec_lt,Bl4 (Bmr _),Bko]
 ·intro rec;simp only[dec_lt,Bl4 (Bmr _),Bko]
theorem B9n(x y:Ev):(Gy x.1 y.1==0)=eqE x y:=by
 unfold eqE Gy;rw[Bmb];simp only[Bp8,Bls]
 grind
theorem B01(N:Nat)(l:A2 Ev)(e:Ev)(hl:l.length≤100)(hN:10000<N):Ku N l e=some (As1 ltE eqE e l):=by
 unfold Ku;refine Ary ?_;refine G2 (Q:=fun r=>r=As1 ltE eqE e l) (fun n z=>∃(k:Nat) (out:A2 Ev) (done:Bool),z=((out,done,(k:Int),()),(),(),())∧k≤l.length∧out.length≤k+cond done 1 0∧n=l.length-k ∧
  As1 ltE eqE e l=cond ((l.drop k).any (eqE e)) l (out++cond done (l.drop k) (Th ltE e (l.drop k)))) ?_ N l.length _ ⟨0,[],false,rfl,Bnm _,by simp,by simp,rfl⟩ (by omega)
 rintro n z rec ⟨k,out,done,rfl,hk,ho',rfl,hT⟩ ih;have ho:out.length≤k+1:=by cases done<;>simp at ho'<;>omega
 simp only[dec_lt];by_cases Im:k<l.length
 ·have hd:l.drop k=l[k]::l.drop (k+1):=Bnb Im;rw[hd]at hT;generalize l[k]=x at *;have gx:l[k]? = some x:=by
   have:(l.drop k)[0]? = some x:=by rw[hd];rfl
   rwa [Bm9,Bnr]at this
  simp only[Bl6 Im,Bkn,B8,gx,Bkp,A5c,B9n,gtD,Bw];rw[Bjj.eq_symm];cases hx:eqE e x with
  |true =>simp only[Bkn];refine⟨_,rfl,?_⟩;rw[hT];simp[hx]
  |false =>
   simp only[Bko];have hT':As1 ltE eqE e l=cond ((l.drop (k+1)).any (eqE e)) l (out++cond done (x::l.drop (k+1)) (Th ltE e (x::l.drop (k+1)))):=by rw[hT];simp[hx]
   have hw:i64.wrap ((k:Int)+1)=((k+1:Nat):Int):=Ah (by omega);have hg:Ws e.1 x.1=ltE e x:=rfl;have hf1:Aw (out.length + [x].length) 80=true:=fit (by simp;omega) (by simp;omega);have hf2:Aw (out.length + [e].length) 80=true:=fit (by simp;omega) (by simp;omega);have hf3:Aw ((out++[e]).length + [x].length) 80=true:=fit (by simp;omega) (by simp;omega);rw[hg];cases Bs:ltE e x with
   |true =>
    cases done with
    |true =>simp only[Bkn,Bn7,Bko,hf1,hw];refine ih (l.length-(k+1)) _ (by omega) ⟨k+1,out++[x],true,rfl,by omega,by simp at ho'⊢;omega,rfl,?_⟩;rw[hT'];simp
    |false =>simp only[Bkn,Bno,hf2,hf3,hw];refine ih (l.length-(k+1)) _ (by omega) ⟨k+1,out++[e]++[x],true,rfl,by omega,by simp at ho'⊢;omega,rfl,?_⟩;rw[hT'];simp[Aj5 Bs]
   |false =>simp only[Bko,hf1,hw,Bkn];refine ih (l.length-(k+1)) _ (by omega) ⟨k+1,out++[x],done,rfl,by omega,by cases done<;>simp at ho'⊢<;>omega,rfl,?_⟩;rw[hT'];cases done<;>simp[Ans Bs]
 ·have hd:l.drop k=[]:=Bp9 (by omega);rw[hd]at hT;simp only[Bl4 Im,Bko];have hf2:Aw (out.length + [e].length) 80=true:=fit (by simp;omega) (by simp;omega);cases done with
  |true =>simp only[Bn7,Bko];exact⟨_,rfl,by rw[hT];simp⟩
  |false =>simp only[Bno,Bkn,hf2];exact⟨_,rfl,by rw[hT];simp[Th]⟩
theorem Awi(e:Ev)(l:A2 Ev):(As1 ltE eqE e l).length≤l.length+1:=by
 unfold As1;cases l.any (eqE e) with
 |true=>simp
 |false=>simp[Aez]
abbrev EsB:Type:=Fa Af A5
abbrev Afp:Type:=A3 (A2 (Nat×(Int×Int)×Ev)×Nat)
abbrev BkC:Type:=A2 Part×Afp×Afp×Unit
def Oq(m:Afp):A2 (Nat×(Int×Int)×Ev):=match m with
 |none=>[]
 |some y=>y.1
structure WfM(n:Nat)(m:Afp):Prop where
 wf:∀y,m=some y→WfE (kt:=Af) (vt:=A5) y.1 y.2
 key:∀e∈Oq m,e.2.1=e.2.2.1
 sm:∀e∈Oq m,smE e.2.2
 len:(Oq m).length≤n
def Un(es:A2 (Nat×(Int×Int)×Ev)):A2 Ev:=A1c Qu (es.map (·.2.2))
def owE(g:A2 Ev):A3 (A2 Ev×Nat):=match g with
 |[]=>none
 |a::r=>some (a::r,(a::r).length)
theorem Abl{es:EsB}{Ih:Nat}(h:WfE es Ih)(hk:∀e∈es,e.2.1=e.2.2.1):Tw Qu (es.map (·.2.2))=true:=by
 rw[Ux,Bo8];have h1:(es.map (·.2.1)).Pairwise (·≠·):=h.keys;rw[Bo8]at h1;refine(List.Pairwise.and_mem.1 h1).imp ?_;rintro a b ⟨ha,hb,hab⟩;have e1:=hk a ha;have e2:=hk b hb;cases h3:ltOf Qu a.2.2 b.2.2 with
 |true=>exact .inl rfl
 |false =>
  cases h4:ltOf Qu b.2.2 a.2.2 with
  |true=>exact .inr rfl
  |false=>exact absurd (by rw[e1,e2];exact A58 _ _ h3 h4) hab
theorem Ao6{d es:EsB}(h:d.Perm es):(d.map (·.2.2)).Perm (es.map (·.2.2)):=h.map _
section
variable(N:Nat)(es:EsB)(Ih:Nat)(hw:WfE es Ih)(hk:∀e∈es,e.2.1=e.2.2.1)(Ek:∀e∈es,smE e.2.2)(hl:es.length≤1000)(hN:1000000<N)
include hw hk Ek hl hN
theorem B58:Hr N (es,Ih)=some ((Un es,()),(),(),()):=by
 unfold Hr;refine As0 (es:=es) hw.born (fun d z=>z=((),(),(owE (d.map (·.2.2)),()),(Ih,d.map (·.1),Ih),())) _ ?_ N (by omega) rfl;rintro rec d z hd rfl ih;have hold:Io Ih Ih es=true:=Ag2 hw.lt hw.lt;have hdl:=hd.len;have step:∀e∈B4 (d.map (·.1)) es,Dg (d.map (·.1)++[e.1])=some (d.map (·.1),e.1)∧Cx Af A5 e.1 es=some e∧Bf N e.2.2=some e.2.2:=by intro e he;have hm:=(Rr.1 he).1;exact⟨We _ _,Zq hw.born hm,copy_eq N _ (Ek e hm)⟩
 have seen:∀e:Nat×(Int×Int)×Ev,d.map (·.1)++[e.1]=(d++[e]).map (·.1):=fun e=>by simp
 have hpl:(d.map (·.2.2)).length=d.length:=by simp
 cases hp:d.map (·.2.2) with
 |nil =>
  have hd0:d=[]:=by simpa using hp
  simp only[owE,A4,hold,Bkn,Bob];by_cases hn:B4 (d.map (·.1)) es=[]
  ·rw[hn,Pt];have Hp:=hd.all hw.born hn;rw[hd0]at Hp;have:es=[]:=Bqy.1 Hp;rw[this];simp only[Un,Bll,Zr]
  ·refine Si hn fun e he=>?_
   obtain⟨s1,s2,s3⟩:=step e he;simp only[s1,s2,s3,Bkp];refine ih e he _ ?_;rw[hd0];rfl
 |cons q0 qs =>
  have e1:(q0::qs).length≤1000:=by rw[← hp];omega
  simp only[owE,A4,hold,Bkn,Bob];have B00:Nat.ble (q0::qs).length (q0::qs).length=true:=Bm3 (Bl1 _);have Ak6:Nat.ble (q0::qs).length 4611686018427387903=true:=Bm3 (by omega);by_cases hn:B4 (d.map (·.1)) es=[]
  ·have Hp:=Ao6 (hd.all hw.born hn);rw[hp]at Hp;have Ak7:Cs (q0::qs)=true:=A5g Hp (Abl hw hk);have hs:Ai (q0::qs)=Un es:=by obtain⟨p,s⟩:=Ep Nh (q0::qs);exact Uy Nh (Abl hw hk) (p.trans Hp) s
   have hsl:(Un es).length=(q0::qs).length:=by rw[← hs];exact(Ep Nh (q0::qs)).1.length_eq
   rw[hn,Pt,B00,Bkn,Ak6,Bkn,Bm4,Bof,Ak7,Bkn,hs,Blt];have Awf:Nat.ble (0+(q0::qs).length) (Un es).length=true:=Bm3 (by omega);rw[Awf];simp only[Bkn,Bo6];rw[← hsl,Bm4]
  ·refine Si hn fun e he=>?_
   obtain⟨s1,s2,s3⟩:=step e he;have A6y:Aw ((q0::qs).length + [e.2.2].length) 80=true:=fit (by simp only[Bn9];omega) (by simp only[Bn9];omega);simp only[s1,s2,s3,Bkp,A6y,Bkn];refine ih e he _ ?_;rw[Ble,hp,seen];simp[owE]
theorem B02:K1 N (es,Ih)=some ((),(),(owE (Un es),()),()):=by
 unfold K1;refine As0 (es:=es) hw.born (fun d z=>z=((),(),(owE (d.map (·.2.2)),()),(Ih,d.map (·.1),Ih),())) _ ?_ N (by omega) rfl;rintro rec d z hd rfl ih;have hold:Io Ih Ih es=true:=Ag2 hw.lt hw.lt;have hdl:=hd.len;have step:∀e∈B4 (d.map (·.1)) es,Dg (d.map (·.1)++[e.1])=some (d.map (·.1),e.1)∧Cx Af A5 e.1 es=some e∧Bf N e.2.2=some e.2.2:=by intro e he;have hm:=(Rr.1 he).1;exact⟨We _ _,Zq hw.born hm,copy_eq N _ (Ek e hm)⟩
 have seen:∀e:Nat×(Int×Int)×Ev,d.map (·.1)++[e.1]=(d++[e]).map (·.1):=fun e=>by simp
 have hpl:(d.map (·.2.2)).length=d.length:=by simp
 cases hp:d.map (·.2.2) with
 |nil =>
  have hd0:d=[]:=by simpa using hp
  simp only[owE,A4,hold,Bkn,Bob];by_cases hn:B4 (d.map (·.1)) es=[]
  ·rw[hn,Pt];have Hp:=hd.all hw.born hn;rw[hd0]at Hp;have:es=[]:=Bqy.1 Hp;rw[this];simp only[Un,Bll,Zr]
  ·refine Si hn fun e he=>?_
   obtain⟨s1,s2,s3⟩:=step e he;simp only[s1,s2,s3,Bkp];refine ih e he _ ?_;rw[hd0];rfl
 |cons q0 qs =>
  have e1:(q0::qs).length≤1000:=by rw[← hp];omega
  simp only[owE,A4,hold,Bkn,Bob];have B00:Nat.ble (q0::qs).length (q0::qs).length=true:=Bm3 (Bl1 _);have Ak6:Nat.ble (q0::qs).length 4611686018427387903=true:=Bm3 (by omega);by_cases hn:B4 (d.map (·.1)) es=[]
  ·have Hp:=Ao6 (hd.all hw.born hn);rw[hp]at Hp;have Ak7:Cs (q0::qs)=true:=A5g Hp (Abl hw hk);have hs:Ai (q0::qs)=Un es:=by obtain⟨p,s⟩:=Ep Nh (q0::qs);exact Uy Nh (Abl hw hk) (p.trans Hp) s
   have hsl:(Un es).length=(q0::qs).length:=by rw[← hs];exact(Ep Nh (q0::qs)).1.length_eq
   rw[hn,Pt,B00,Bkn,Ak6,Bkn,Bm4,Bof,Ak7,Bkn,hs,Blt,← hsl];cases he:Un es with
   |nil=>rw[he]at hsl;simp at hsl
   |cons a r=>rfl
  ·refine Si hn fun e he=>?_
   obtain⟨s1,s2,s3⟩:=step e he;have A6y:Aw ((q0::qs).length + [e.2.2].length) 80=true:=fit (by simp only[Bn9];omega) (by simp only[Bn9];omega);simp only[s1,s2,s3,Bkp,A6y,Bkn];refine ih e he _ ?_;rw[Ble,hp,seen];simp[owE]
end
theorem A5h(N:Nat)(hN:1000000<N):Je N=some (([],()),(),(),()):=by unfold Je;obtain⟨M,rfl⟩:∃M,N=M+1:=⟨N-1,by omega⟩;rfl
theorem Ak9(N:Nat)(hN:1000000<N):Mm N=some ((),(),(none,()),()):=by unfold Mm;obtain⟨M,rfl⟩:∃M,N=M+1:=⟨N-1,by omega⟩;rfl
def A1d(x:BkC):A2 Ev:=Un (Oq x.2.1)
theorem Abm:Un []=[]:=Zr _
structure Abn(x:BkC):Prop where
 live:WfM 20 x.2.1
 Bjy:WfM 20 x.2.2.1
 edit:∀e∈Oq x.2.1,(e.2.2.2.1==1)=true
theorem WfM.list(N:Nat){y:A2 (Nat×(Int×Int)×Ev)×Nat}(h:WfM 20 (some y))(hN:1000000<N):Hr N y=some ((Un y.1,()),(),(),())∧K1 N y=some ((),(),(owE (Un y.1),()),()):=by have h1:=h.wf y rfl;have h2:=h.key;have h3:=h.sm;have h4:=h.len;exact⟨B58 N y.1 y.2 h1 h2 h3 (by simp only[Oq]at h4;omega) hN,B02 N y.1 y.2 h1 h2 h3 (by simp only[Oq]at h4;omega) hN⟩
theorem Bcd(N:Nat)(x:BkC)(h:Abn x)(hN:1000000<N):Ni N x=some ((x,()),A1d x,()):=by
 obtain⟨c,lv,tb,u⟩:=x;have hl:=h.live;unfold Ni A1d;cases lv with
 |none =>
  cases tb with
  |none=>simp only[A4,A5h N hN,Bkp,Oq,Abm]
  |some b=>simp only[A4,A5h N hN,Bkp,Oq,Abm]
 |some a =>
  cases tb with
  |none=>simp only[A4,(hl.list N hN).1,Bkp,Oq]
  |some b=>simp only[A4,(hl.list N hN).1,Bkp,Oq]
theorem B2e:∀ {a b:A2 Int},a.Pairwise (· < ·)→b.Pairwise (· < ·)→(∀x,x∈a↔x∈b)→a=b:=by intro a b ha hb h;exact Tg.ext (lt:=fun x y:Int=>decide (x<y)) (by intro x y h;simp at *;omega) (ha.imp fun {x y} h=>by simpa using h) (hb.imp fun {x y} h=>by simpa using h) h
theorem Bfd(l:A2 Ct):T7 l=Pc.T7 l:=by obtain⟨a1,a2,_⟩:=Ng l;obtain⟨b1,b2,_⟩:=Pc.Ng l;exact B2e a1 b1 fun x=>by rw[a2,b2];rfl
theorem B59(l:A2 Ct):Pc.Ajb (T7 l) (Ec l):=by rw[Bfd];exact Pc.B4q fun r h=>h
theorem B9o(N:Nat)(a b:A2 Ct)(hl:a.length+b.length≤100000000000)(hN:1000000000000<N) :
  ∃r,Ge N a b 0=some r∧Pc.E6 r∧∀n,Ec r n=Ec (a++b) n:=by
 unfold Ge Aba;rw[B57 N a b hl hN];obtain⟨p1,p2,p3⟩:=Ng (a++b);have p3:(T7 (a++b)).length≤2*(a.length+b.length):=by simpa using p3
 have ht:=B59 (a++b);simp only[Bkp];refine G2 (Q:=fun r:A2 Ct=>Pc.E6 r∧∀n,Ec r n=Ec (a++b) n)
  (fun m z=>∃(k:Nat) (out:A2 Ct),z=(((k:Int),()),(),(owR out,()),())∧(k<(T7 (a++b)).length∨(k=0∧(T7 (a++b)).length=0))∧m=(T7 (a++b)).length-k∧Pc.A8b (T7 (a++b)) (Ec (a++b)) k out) ?_ N (T7 (a++b)).length _ ⟨0,[],rfl,by omega,by omega,Pc.Anw ht⟩ (by omega)
 rintro m z rec ⟨k,out,rfl,hk,rfl,hu⟩ ih;have w0:i64.wrap ((k:Int)+1)=((k+1:Nat):Int):=Ah (by omega);have z1:((0:Int)==1)=false:=rfl;have z2:((0:Int)==2)=false:=rfl;by_cases Bs:k+1<(T7 (a++b)).length
 ·have Im:k<(T7 (a++b)).length:=by omega
  have h0:=Ci Im;have h1:=Ci Bs;obtain⟨e1,e2,e3⟩:=Pc.B4r ht h0 h1;have hca:=A8v N a (T7 (a++b))[k] (by omega) (by omega);have hcb:=A8v N b (T7 (a++b))[k] (by omega) (by omega);have hor:=D4 a b (T7 (a++b))[k];have w1:u64.wrap ((T7 (a++b))[k+1]-1)=(T7 (a++b))[k+1]-1:=Uz (by omega) (by omega);have next:∀Bce,Pc.A8b (T7 (a++b)) (Ec (a++b)) (k+1) Bce→∃r,rec ((((k+1:Nat):Int),()),(),(owR Bce,()),())=some r∧Pc.E6 r∧∀n,Ec r n=Ec (a++b) n:=by intro Bce h';exact ih ((T7 (a++b)).length-(k+1)) _ (by omega) ⟨k+1,Bce,rfl,by omega,rfl,h'⟩
  have nin:Ec (a++b) (T7 (a++b))[k]=true→_:=fun hc=>next _ (Pc.B29 ht hu h0 h1 hc)
  have B9p:Ec (a++b) (T7 (a++b))[k]=false→_:=fun hc=>next _ (Pc.Aw0 ht hu h0 h1 hc)
  rw[hor]at nin B9p;have hul:=hu.len;have hum:=hu.ch.may;clear next ih hu p1 p2
  generalize hlo:(T7 (a++b))[k]=lo at *;generalize hhi:(T7 (a++b))[k+1]=hi at *;have hd:decide (((k+1:Nat):Int)<((T7 (a++b)).length:Int))=true:=by simp;omega
  rcases I2 out with rfl|⟨o,e,rfl⟩
  ·have es:Pc.Vv [] lo hi=[(lo,hi-1)]:=rfl;rw[es]at nin;simp only[w0,hd,Bkn,B8,h0,h1,Bkp,hca,hcb,Bw,A4,z1,z2,Bko,w1,A5e]at nin B9p⊢;cases ha:Ec a lo with
   |true =>have:=nin (by rw[ha];rfl);simpa[owR]using this
   |false =>
    cases hb:Ec b lo with
    |true =>have:=nin (by rw[ha,hb];rfl);simpa[owR]using this
    |false =>have:=B9p (by rw[ha,hb];rfl);simpa[owR]using this
  ·have he:=C6.1 (hum e (by simp));have hlen:(o++[e]).length=o.length+1:=by simp
   have w2:i64.wrap (((o++[e]).length:Int)-1)=(o.length:Int):=by rw[Oi (by simp) (by omega),hlen];simp
   have c2:decide (0≤(o.length:Int))=true:=by simp
   have c3:decide ((o.length:Int)<((o++[e]).length:Int))=true:=by simp;omega
   have g1:(o++[e])[o.length]? = some e:=by simp
   have w3:u64.wrap (e.2+1)=e.2+1:=Uz (by omega) (by omega);have hf:∀x:Ct,Aw ((o++[e]).length + [x].length) 16=true:=fun x=>fit (by simp;omega) (by simp;omega)
   rw[Pc.A57]at nin;simp only[w0,hd,Bkn,B8,h0,h1,Bkp,hca,hcb,Bw,A4,z1,z2,Bko,w1,R6,w2,c2,c3,Bmo,Blx,Ed,g1,w3,Adr,hf]at nin B9p⊢;have fin:(Ec a lo||Ec b lo)=true→∃r,(bif e.2+1==lo then rec ((((k+1:Nat):Int),()),(),(some ((o++[e]).set o.length (e.1,hi-1),(o++[e]).length),()),())else rec ((((k+1:Nat):Int),()),(),(some (o++[e]++[(lo,hi-1)],(o++[e]).length + [(lo,hi-1)].length),()),()))=some r∧Pc.E6 r∧∀n,Ec r n=Ec (a++b) n:=by
    intro hc;have:=nin hc;by_cases hm:e.2+1=lo
    ·rw[Blv hm,R6]at this;have hb:(e.2+1==lo)=true:=by simpa using hm
     rw[hb,Bkn];simpa using this
    ·rw[Blj hm,R6]at this;have hb:(e.2+1==lo)=false:=by simpa using hm
     rw[hb,Bko];simpa using this
   cases ha:Ec a lo with
   |true=>exact fin (by rw[ha];rfl)
   |false =>
    cases hb:Ec b lo with
    |true=>exact fin (by rw[ha,hb];rfl)
    |false=>exact B9p (by rw[ha,hb];rfl)
 ·have hd:decide (((k+1:Nat):Int)<((T7 (a++b)).length:Int))=false:=by simp;omega
  have hcv:=Pc.Aw1 ht hu (by omega) (by omega);have hch:=hu.ch;rcases I2 out with rfl|⟨o,e,rfl⟩
  ·simp only[w0,hd,Bko,A5e,A4];exact⟨[],rfl,hch,hcv⟩
  ·simp only[w0,hd,Bko,R6,A4,Blx,Ak3,Bkn,Bo6,Bm4];exact⟨_,rfl,hch,hcv⟩
theorem Adt(N:Nat)(a b:A2 Ct)(hl:a.length+b.length≤100000000000)(hN:1000000000000<N):Ft N a b=some (Pc.Nq (a++b)):=by unfold Ft;obtain⟨r,h1,h2,h3⟩:=B9o N a b hl hN;rw[h1,Bkp,Pc.As3 h2 h3]
theorem Adu(N:Nat)(c:A2 Part)(dev:Int)(hc:Sm c)(hN:1000000000000<N):Fu N c dev=some (if dev=0 then []else Pc.Nq (tl c dev)):=by
 unfold Fu;have hlen:=hc.len;have Bhv:=hc.T6;refine Ary (G2 (Q:=fun r:A2 Ct=>r=if dev=0 then []else Pc.Nq (tl c dev))
  (fun m z=>∃(k:Nat),z=((if dev=0 then []else Pc.Nq (tl (c.take k) dev),(k:Int),()),(),(),())∧k≤c.length∧m=c.length-k) ?_ N c.length _ ⟨0,by simp[tl,Pc.Ab7],by omega,by omega⟩ (by omega))
 rintro m z rec ⟨k,rfl,hk,rfl⟩ ih;by_cases Im:k<c.length
 ·simp only[dec_lt,Bl6 Im,Bkn,B8,Ci Im,Bkp,Ah (show k+1<9223372036854775808 by omega)];have hx:=A13 c Im dev;by_cases hdv:c[k].1=dev
  ·have hb:(c[k].1==dev)=true:=by simpa using hdv
   rw[hb,Bkn];by_cases h0:dev=0
   ·have hb0:(dev != 0)=false:=by simpa using h0
    rw[hb0,Bko];refine ih (c.length-(k+1)) _ (by omega) ⟨k+1,by simp[h0],by omega,rfl⟩
   ·have hb0:(dev != 0)=true:=by simpa using h0
    have h1:=Ak5 c k dev;have h2:=Asm (Bmc Im);have h3:=Pc.Su (tl (c.take k) dev);rw[Blv hdv]at hx;rw[hb0,Bkn,Blj h0,Adt N _ _ (by omega) hN,Bkp];refine ih (c.length-(k+1)) _ (by omega) ⟨k+1,?_,by omega,rfl⟩;rw[Blj h0,hx,Pc.Avx]
  ·have hb:(c[k].1==dev)=false:=by simpa using hdv
   rw[Blj hdv]at hx;rw[hb,Bko];refine ih (c.length-(k+1)) _ (by omega) ⟨k+1,by rw[hx],by omega,rfl⟩
 ·have:k=c.length:=by omega
  subst this;simp only[dec_lt,Bl4 Im,Bko];exact⟨_,rfl,by rw[Bm4]⟩
theorem Ao7(N:Nat)(d:Int×Int):Am N d=some (decide (1≤d.1)&&(decide (1≤d.2)&&decide (d.2≤281474976710655))):=by simp only[Am,cond_eq_ite];by_cases a1:1≤d.1<;>by_cases a2:1≤d.2<;>by_cases a3:d.2≤281474976710655<;>simp[a1,a2,a3]<;>omega
theorem Abo(N:Nat)(c:A2 Part)(d:Int×Int)(hc:Sm c)(hN:1000000000000<N):Et N c d=some (hasB c d):=by
 unfold Et;rw[Ao7,Bkp];have hcd:Ec (tl c d.1) d.2=true→1≤d.2∧d.2≤281474976710655:=Pc.B4m;have hl:=Pc.Su (tl c d.1);have hl2:(tl c d.1).length≤Pc.T6 c:=Pc.Anv c d.1;have Bhv:=hc.T6;unfold hasB;by_cases h1:1≤d.1
 ·by_cases h2:1≤d.2∧d.2≤281474976710655
  ·rw[Bl6 h1,Bl6 h2.1,Bl6 h2.2,Bl6 (show 0<d.1 by omega)];simp only[Bmo,Bkn,Bp7];rw[Adu N c d.1 hc hN,Bkp,Blj (by omega),A8v N _ _ (by omega) (by omega),Bkp];exact Blc some (Pc.Qq _ _)
  ·have e:(decide (1≤d.2)&&decide (d.2≤281474976710655))=false:=by rw[Bp0];intro hh;simp at hh;exact h2 hh
   have e2:Ec (tl c d.1) d.2=false:=by rw[Bp0];intro hh;exact h2 (hcd hh)
   rw[e,Bool.and_false,Bko,e2,Bool.and_false]
 ·rw[Bl4 h1,Bl4 (show ¬0<d.1 by omega)];rfl
theorem Bcf(N:Nat)(a b:A2 Part)(ha:a.length+b.length≤1000000)(hN:1000000000000<N):Jp N a b=some ((a++b).foldl (fun q p=>Nx (p.1,1) q) []):=by
 unfold Jp;have bound:∀(l:A2 Part) (q:A2 (Int×Int)),(l.foldl (fun q p=>Nx (p.1,1) q) q).length≤q.length+l.length:=by
  intro l;induction l with
  |nil=>intro q;simp
  |cons p l ih =>intro q;have:=ih (Nx (p.1,1) q);have:=Xt (p.1,1) q;simp only[Bmd,Blg];omega
 rw[Ir a (fun q p=>Nx (p.1,1) q) [] (fun q=>some (b.foldl (fun q p=>Nx (p.1,1) q) q)) ?_ ?_ N (by omega)]
 ·rw[Bpy]
 ·intro rec k q hk hq;have hql:q.length≤k:=by have:=bound (a.take k) [];rw[← hq,Bm6]at this;simp at this;omega
  simp only[dec_lt,Bl6 hk,Bkn,B8,Ci hk,Bkp,A5d N q _ (by omega) (by omega),Ah (show k+1<9223372036854775808 by omega)]
 ·intro rec;have hq0:=bound a [];simp only[Bns,Blx]at hq0;generalize a.foldl (fun q p=>Nx (p.1,1) q) []=q0 at *;simp only[dec_lt,Bl4 (Bmr _),Bko];refine(Ir b (fun q p=>Nx (p.1,1) q) q0 (fun q=>some q) ?_ ?_ N (by omega))
  ·intro rec k q hk hq;have hql:q.length≤q0.length+k:=by have:=bound (b.take k) q0;rw[← hq,Bm6]at this;omega
   simp only[dec_lt,Bl6 hk,Bkn,B8,Ci hk,Bkp,A5d N q _ (by omega) (by omega),Ah (show k+1<9223372036854775808 by omega)]
  ·intro rec;simp only[dec_lt,Bl4 (Bmr _),Bko]
theorem B03(c:A2 Part):(c.foldl (fun q p=>Nx (p.1,1) q) []).map (·.1)=Pc.A6r (c.map (·.1)):=by
 have key:∀(l:A2 Part) (q:A2 (Int×Int)),Tg Ws q→(∀x∈q,x.2=1) →
   Tg Ws (l.foldl (fun q p=>Nx (p.1,1) q) q)∧(∀x∈l.foldl (fun q p=>Nx (p.1,1) q) q,x.2=1)∧∀d,(d,1)∈l.foldl (fun q p=>Nx (p.1,1) q) q↔(d,1)∈q∨d∈l.map (·.1):=by
  intro l;induction l with
  |nil=>intro q h1 h2;exact⟨h1,h2,by simp⟩
  |cons p l ih =>
   intro q h1 h2;obtain⟨i1,i2,i3⟩:=ih (Nx (p.1,1) q) (Awa _ _ h1) (by
    intro x hx;rcases(Ak0 _ _ _).1 hx with e|hx
    ·subst e;rfl
    ·exact h2 x hx)
   refine⟨i1,i2,fun d=>?_⟩;rw[Bmd,i3,Ak0,Bkv,Bkq,or_assoc];simp only[Bld,and_true];constructor
   ·rintro (h|h|h);exact .inr (.inl h);exact .inl h;exact .inr (.inr h)
   ·rintro (h|h|h);exact .inr (.inl h);exact .inl h;exact .inr (.inr h)
 obtain⟨k1,k2,k3⟩:=key c [] (by simp[Tg]) (by simp);refine B2e ?_ (Pc.A56 _) fun x=>?_
 ·rw[Bo8];refine(Bq7.2 fun {a b} hs=>?_);have h1:=Bq7.1 k1 hs;have ha:=k2 a (hs.subset (by simp));have hb:=k2 b (hs.subset (by simp));have h1:ltOf Gy a b=true:=h1;rw[Ti]at h1;simp at h1;omega
 ·rw[Pc.Adj,Bl2];constructor
  ·rintro ⟨y,hy,rfl⟩;have:=k2 y hy;have hy':(y.1,(1:Int))∈c.foldl (fun q p=>Nx (p.1,1) q) []:=by rw[show((y.1,(1:Int)):Int×Int)=y from Prod.ext rfl this.symm];exact hy
   have:=(k3 y.1).1 hy';simpa using this
  ·intro hx;exact⟨(x,1),(k3 x).2 (.inr hx),rfl⟩
theorem Aka(g:Int→A2 Ct):∀(l:A2 (Int×Int)) (q:A2 Part),l.foldl (fun q d=>if (g d.1).isEmpty then q else q++[((d.1,g d.1):Part)]) q=q++Pc.partsOf g (l.map (·.1))
 |[],q=>by simp[Pc.partsOf]
 |d::l,q=>by
  rw[Bmd,Aka g l];unfold Pc.partsOf;rw[Bkv,Bkv,Bnk];cases hg:g d.1 with
  |nil=>simp
  |cons x r=>simp
theorem Awj(N:Nat)(a b:A2 Part)(hl:a.length+b.length≤1000000)(ha:Sm a)(hb:Sm b)(hN:1000000000000<N):Ia N a b 0=some (Pc.partsOf (fun d=>if d=0 then []else Pc.Nq (tl a d++tl b d)) (Pc.A6r ((a++b).map (·.1)))):=by
 unfold Ia;rw[Bcf N a b hl hN,Bkp];have Bhw:=B03 (a++b);generalize (a++b).foldl (fun q p=>Nx (p.1,1) q) []=ds at *;have hdl:ds.length≤1000000:=by have h1:=Blc List.length Bhw;have h2:=Pc.Anu ((a++b).map (·.1));simp at h1 h2;omega
 rw[← Bhw];have z1:((0:Int)==1)=false:=rfl;have z2:((0:Int)==2)=false:=rfl;have ff:=Aka (fun d:Int=>if d=0 then ([]:A2 Ct)else Pc.Nq (tl a d++tl b d));have hg:=ff ds [];rw[Bm0]at hg;rw[← hg];refine Ir ds _ [] (fun q=>some q) ?_ ?_ N (by omega)
 ·intro rec k q hk hq;have hql:q.length≤k:=by rw[ff,Bm0]at hq;have h1:=Pc.Af1 (fun d=>if d=0 then []else Pc.Nq (tl a d++tl b d)) ((ds.take k).map (·.1));rw[← hq,Blb,Bm6]at h1;omega
  have l1:=Pc.Su (tl a ds[k].1);have l2:=Pc.Su (tl b ds[k].1);have l3:(tl a ds[k].1).length≤Pc.T6 a:=Pc.Anv a _;have l4:(tl b ds[k].1).length≤Pc.T6 b:=Pc.Anv b _;have ha2:=ha.T6;have hb2:=hb.T6;have hj:Ft N (if ds[k].1=0 then []else Pc.Nq (tl a ds[k].1)) (if ds[k].1=0 then []else Pc.Nq (tl b ds[k].1))=some (if ds[k].1=0 then []else Pc.Nq (tl a ds[k].1++tl b ds[k].1)):=by
   by_cases h0:ds[k].1=0
   ·simp only[h0,Bn5];rw[Adt N [] [] (by simp) hN];exact Blc some Pc.Ab7
   ·simp only[h0,Bn2];rw[Adt N _ _ (by omega) hN,Pc.Avx,Pc.B4n]
  simp only[dec_lt,Bl6 hk,Bkn,B8,Ci hk,Bkp,Adu N a _ ha hN,Adu N b _ hb hN,hj,Bw,z1,z2,Bko,Ah (show k+1<9223372036854775808 by omega)];generalize (if ds[k].1=0 then ([]:A2 Ct)else Pc.Nq (tl a ds[k].1++tl b ds[k].1))=zz;cases zz with
  |nil=>simp
  |cons x r =>have hf:Aw (q.length + [((ds[k].1,x::r):Part)].length) 32=true:=fit (by simp;omega) (by simp;omega);rw[Azz,Bkn,hf,Bkn];rfl
 ·intro rec;simp only[dec_lt,Bl4 (Bmr _),Bko]
theorem Px{σ R:Type}{f:(σ→A3 R)→σ→A3 R}(st:Nat→σ)(a n:Nat)(han:a≤n)
  (hs:∀(rec:σ→A3 R) (k:Nat),a≤k→k<n→(∃r,rec (st (k+1))=some r)→∃r,f rec (st k)=some r) (he:∀rec,∃r,f rec (st n)=some r) (N:Nat) (hN:n<N):∃r,iter f N (st a)=some r:=by
 have key:∀(m k:Nat),a≤k→k≤n→n-k<m→∃r,iter f m (st k)=some r:=by
  intro m;induction m with
  |zero=>intro k _ _ h;omega
  |succ m ih =>
   intro k h1 h2 h3;simp only[iter];by_cases hk:k<n
   ·exact hs _ k h1 hk (ih (k+1) (by omega) (by omega) (by omega))
   ·have:k=n:=by omega
    subst this;exact he _
 exact key N a (Bl1 _) han (by omega)
abbrev Xz(k:Nat):(Int×Unit)×Unit×Unit×Unit:=(((k:Int),()),(),(),())
theorem B5a(N:Nat)(t:A2 UInt8)(ht:t.length≤1000)(hN:1000000<N):∃b,Fs N t=some b:=by
 unfold Fs;refine Px Xz 0 t.length (by omega) ?_ ?_ N (by omega)
 ·rintro rec k _ hk ⟨r,hr⟩;simp only[Xz]at hr;simp only[dec_lt,Bl6 hk,Bkn,B8,Ci hk,Bkp,Ah (show k+1<9223372036854775808 by omega),hr];cases decide (t[k]<32)<;>cases decide (126<t[k])<;>exact⟨_,rfl⟩
 ·intro rec;simp only[dec_lt,Bl4 (Bmr _),Bko];exact⟨_,rfl⟩
theorem Awk(N:Nat)(l:A2 (Int×Int))(hl:l.length≤1000)(hN:1000000<N):∃b,Bc N l=some b:=by
 unfold Bc;rcases Bmu l.length with h0|h0
 ·obtain⟨M,rfl⟩:∃M,N=M+1:=⟨N-1,by omega⟩;have:decide ((1:Int)<(l.length:Int))=false:=by rw[h0];rfl
  simp only[iter,this,Bko];exact⟨_,rfl⟩
 ·refine Px Xz 1 l.length h0 ?_ ?_ N (by omega)
  ·rintro rec k h1 hk ⟨r,hr⟩;simp only[Xz]at hr;have hk1:k-1<l.length:=by omega
   simp only[dec_lt,Bl6 hk,Bkn,Oi (show 0<k by omega) (show k<9223372036854775808 by omega),B8,Ci hk,Ci hk1,Bkp,Ah (show k+1<9223372036854775808 by omega),hr,A5c];cases decide (0≤Gy l[k-1] l[k])<;>exact⟨_,rfl⟩
  ·intro rec;simp only[dec_lt,Bl4 (Bmr _),Bko];exact⟨_,rfl⟩
theorem A41(N:Nat)(d:Int×Int):∃b,Am N d=some b:=by unfold Am;cases decide (1≤d.1)<;>cases decide (1≤d.2)<;>exact⟨_,rfl⟩
theorem Awl(N:Nat)(c:Int):∃u,G8 N c=some u:=by unfold G8 Ml;simp only[Bkp];obtain⟨b,hb⟩:=A41 N (u16.wrap (u64.wrap (c.tdiv 281474976710656)),c.tmod 281474976710656);rw[hb];cases b<;>exact⟨_,rfl⟩
theorem Awm(N:Nat)(r:UInt8):∃b,Fq N r=some b:=by unfold Fq;cases decide (1≤r)<;>exact⟨_,rfl⟩
structure Bdd(N:Nat)(e:Ev):Prop where
 cid:∃u,G8 N e.2.2.1=some (u,true)
 reg:e.2.1=1→Fq N e.2.2.2.1=some true
 txt:e.2.1=1→Fs N e.2.2.2.2.1=some true
structure SmE(e:Ev):Prop where
 Awn:e.2.2.2.2.2.length≤300
 text:e.2.2.2.2.1.length≤200
theorem Bhx(N:Nat)(l:A2 (Int×Int))(hl:l.length≤300)(hN:1000000<N)(o:A3 Bool)(ho:∃b,o=some b){f:((Int×Unit)×Unit×Unit×Unit→A3 Bool)→(Int×Unit)×Unit×Unit×Unit→A3 Bool}
  (hf:∀rec z,f rec z=bif decide (z.fst.fst<(l.length:Int)) then
    (at? l z.fst.fst).bind fun(e:Int×Int)=>Option.bind (Am N e) fun(y:Bool)=>bif !y then some false else rec ((i64.wrap (z.fst.fst+1),()),(),(),())
   else o):∃b,iter f N ((0,()),(),(),())=some b:=by
 refine Px Xz 0 l.length (by omega) ?_ ?_ N (by omega)
 ·rintro rec k _ hk ⟨r,hr⟩;simp only[Xz]at hr;obtain⟨b,hb⟩:=A41 N l[k];simp only[hf,Xz,dec_lt,Bl6 hk,Bkn,B8,Ci hk,Bkp,Ah (show k+1<9223372036854775808 by omega),hr,hb];cases b<;>exact⟨_,rfl⟩
 ·intro rec;simp only[hf,Xz,dec_lt,Bl4 (Bmr _),Bko];exact ho
def Bhy(N:Nat)(l:A2 (Int×Int))(d:Int×Int):((Int×Unit)×Unit×Unit×Unit→A3 Bool)→(Int×Unit)×Unit×Unit×Unit→A3 Bool:=fun rec z =>
 bif decide (z.fst.fst<(l.length:Int)) then
  (at? l z.fst.fst).bind fun(e:Int×Int)=>Option.bind (Am N e) fun(y:Bool)=>bif !y then some false else rec ((i64.wrap (z.fst.fst+1),()),(),(),())
 else
  bif decide ((l.length:Int)≤256) then
   Option.bind (Bc N l) fun(y:Bool) =>bif y then Option.bind (Bj N l d) fun(y:Bool)=>some !y else some false
  else some false
theorem B9q(N:Nat)(e:Ev)(he:SmE e)(hN:1000000<N):∃b,Hd N e=some b∧(b=true→Bdd N e):=by
 have hk:=he.Awn;have ht:=he.text;unfold Hd;obtain⟨⟨u,ok⟩,hu⟩:=Awl N e.2.2.1;obtain⟨g,hg⟩:=A41 N e.1;obtain⟨rg,hrg⟩:=Awm N e.2.2.2.1;obtain⟨tx,htx⟩:=B5a N e.2.2.2.2.1 (by omega) hN;obtain⟨ri,hri⟩:=Awk N e.2.2.2.2.2 (by omega) hN;have B5b:=Ao0 N e.2.2.2.2.2 e.1 (by omega) (by omega);obtain⟨bl,hbl⟩:∃b,iter (Bhy N e.2.2.2.2.2 e.1) N ((0,()),(),(),())=some b:=by refine Bhx N e.2.2.2.2.2 hk hN _ ?_ (fun _ _=>rfl);simp only[hri,B5b,Bkp];cases decide ((e.2.2.2.2.2.length:Int)≤256)<;>cases ri<;>exact⟨_,rfl⟩
 unfold Bhy at hbl;simp only[hu,hg,hrg,htx,Bkp,hbl];cases ok with
 |false=>exact⟨false,rfl,by simp⟩
 |true =>
  cases g with
  |false=>exact⟨false,rfl,by simp⟩
  |true =>
   simp only[Bn7,Bko];by_cases k1:e.2.1=1
   ·have b1:(e.2.1==1)=true:=by simpa using k1
    have b2:(e.2.1==2)=false:=by rw[k1];rfl
    simp only[bne,b1,b2,Bn7,Bno,Bko,Bkn];cases rg with
    |false=>exact⟨false,rfl,by simp⟩
    |true =>
     cases tx with
     |false=>exact⟨false,rfl,by simp⟩
     |true =>simp only[Bn7,Bko];exact⟨bl,rfl,fun _=>⟨⟨u,hu⟩,fun _=>hrg,fun _=>htx⟩⟩
   ·have b1:(e.2.1==1)=false:=by simpa using k1
    have G:Bdd N e:=⟨⟨u,hu⟩,fun h=>absurd h k1,fun h=>absurd h k1⟩;simp only[bne,b1,Bno,Bkn,Bko];cases h2:e.2.1==2 with
    |false=>exact⟨false,rfl,fun _=>G⟩
    |true =>
     simp only[Bn7,Bko,Bkn];cases h3:e.2.2.2.1==0 with
     |false=>exact⟨false,rfl,fun _=>G⟩
     |true =>
      cases h4:e.2.2.2.2.1 == [] with
      |false=>exact⟨false,rfl,fun _=>G⟩
      |true=>exact⟨bl,rfl,fun _=>G⟩
def Yi(a b:A2 Part):A2 Part:=Pc.partsOf (fun d=>if d=0 then []else Pc.Nq (tl a d++tl b d)) (Pc.A6r ((a++b).map (·.1)))
theorem A14(a b:A2 Part):(Yi a b).length≤a.length+b.length:=by have h1:=Pc.Af1 (fun d=>if d=0 then []else Pc.Nq (tl a d++tl b d)) (Pc.A6r ((a++b).map (·.1)));have h2:=Pc.Anu ((a++b).map (·.1));rw[Blb,Bme]at h2;unfold Yi;omega
theorem A15(a b:A2 Part):Pc.T6 (Yi a b)≤Pc.T6 a+Pc.T6 b:=by
 unfold Yi;rw[Pc.Af0,← Pc.Aja];refine Bmh (Pc.B9f (g:=fun d=>(Pc.tl (a++b) d).length) (fun d=>?_) _) (Pc.B9e (a++b) (Pc.B4p (Pc.A56 _)));split
 ·simp
 ·rw[Pc.B4o];exact Pc.Su _
theorem Akb(N:Nat)(a b:A2 Part)(hl:a.length+b.length≤1000000)(ha:Sm a)(hb:Sm b)(hN:1000000000000<N):Fw N a b=some (Yi a b):=by unfold Fw;rw[Awj N a b hl ha hb hN];rfl
theorem B5c(N:Nat)(l:A2 (Int×Int))(hl:l.length≤100000)(hN:1000000000000<N):∃r,Lv N l=some r∧r.length≤l.length∧Pc.T6 r≤l.length:=by
 unfold Lv;refine G2 (Q:=fun r:A2 Part=>r.length≤l.length∧Pc.T6 r≤l.length)
  (fun m z=>∃(k:Nat) (c:A2 Part),z=((c,(k:Int),()),(),(),())∧k≤l.length∧m=l.length-k∧c.length≤k∧Pc.T6 c≤k) ?_ N l.length _ ⟨0,[],rfl,by omega,by omega,by simp,by simp[Pc.T6]⟩ (by omega)
 rintro m z rec ⟨k,c,rfl,hk,rfl,h1,h2⟩ ih;by_cases Im:k<l.length
 ·simp only[dec_lt,Bl6 Im,Bkn,B8,Ci Im,Bkp,Ao7,Ah (show k+1<9223372036854775808 by omega)];cases(decide (1≤l[k].1)&&(decide (1≤l[k].2)&&decide (l[k].2≤281474976710655))) with
  |false =>rw[Bko];exact ih (l.length-(k+1)) _ (by omega) ⟨k+1,c,rfl,by omega,rfl,by omega,by omega⟩
  |true =>have e1:Pc.T6 [((l[k].1,[(l[k].2,l[k].2)]):Part)]=1:=rfl;rw[Bkn,Akb N c _ (by simp;omega) ⟨by omega,by omega⟩ ⟨by simp,by rw[e1];omega⟩ hN,Bkp];have j1:=A14 c [((l[k].1,[(l[k].2,l[k].2)]):Part)];have j2:=A15 c [((l[k].1,[(l[k].2,l[k].2)]):Part)];rw[e1]at j2;exact ih (l.length-(k+1)) _ (by omega) ⟨k+1,_,rfl,by omega,rfl,by simpa using Bmh j1 (by simp;omega),by omega⟩
 ·have:k=l.length:=by omega
  subst this;simp only[dec_lt,Bl4 Im,Bko];exact⟨c,rfl,h1,h2⟩
theorem B04{e:Ev}(h:SmE e):smE e:=Bmh h.Awn (by omega)
theorem Bjk(N:Nat)(e:Ev)(hN:10000<N):∃b,I5 N [e] 1=some b∧(b=true→SmE e):=by
 unfold I5;obtain⟨M,rfl⟩:∃M,N=M+2:=⟨N-2,by omega⟩;have w1:i64.wrap ((0:Int)+1)=1:=rfl;have d1:decide ((1:Int)<(([e]:A2 Ev).length:Int))=false:=rfl;have d0:decide ((0:Int)<(([e]:A2 Ev).length:Int))=true:=rfl;have a0:at? [e] 0=some e:=rfl;simp only[iter,d0,d1,w1,Bkn,Bko,a0,Bkp];by_cases h1:300<e.2.2.2.2.2.length
 ·have:decide ((300:Int)<(e.2.2.2.2.2.length:Int))=true:=by simp;omega
  simp only[this,Bkn];exact⟨false,rfl,by simp⟩
 ·have h1':decide ((300:Int)<(e.2.2.2.2.2.length:Int))=false:=by simp;omega
  simp only[h1',Bko];by_cases h2:200<e.2.2.2.2.1.length
  ·have:decide ((200:Int)<(e.2.2.2.2.1.length:Int))=true:=by simp;omega
   simp only[this,Bkn];exact⟨false,rfl,by simp⟩
  ·have h2':decide ((200:Int)<(e.2.2.2.2.1.length:Int))=false:=by simp;omega
   simp only[h2',Bko];exact⟨true,rfl,fun _=>⟨by omega,by omega⟩⟩
abbrev Bk:Type:=A2 Part×A2 Ev
structure BdB(k:Nat)(x:Bk):Prop where
 len:x.2.length≤k
 evs:∀e∈x.2,SmE e
 cl:x.1.length≤400*k
 ct:Pc.T6 x.1≤2000*k
theorem BdB.sm{k:Nat}{x:Bk}(h:BdB k x)(hk:k≤30):Sm x.1:=⟨by have:=h.cl;omega,by have:=h.ct;omega⟩
theorem BdB.up{k:Nat}{x:Bk}(h:BdB k x):BdB (k+1) x:=⟨by have:=h.len;omega,h.evs,by have:=h.cl;omega,by have:=h.ct;omega⟩
theorem B5d{e x:Ev}{l:A2 Ev}(h:x∈As1 ltE eqE e l):x=e∨x∈l:=by
 unfold As1 at h;cases hc:l.any (eqE e) with
 |true=>rw[hc,Bkn]at h;exact .inr h
 |false=>rw[hc,Bko]at h;exact Aj4.1 h
theorem A42(l:A2 (Int×Int)):(Gu l).length≤l.length:=by rw[A6w];exact Ao5 l
theorem Akc(N:Nat)(x:Bk)(e:Ev)(k:Nat)(hk:k≤29)(hb:BdB k x)(he:SmE e)(hN:1000000000000<N):∃r,Ib N x e=some r∧BdB (k+1) r.1:=by
 unfold Ib;obtain⟨b1,h1,_⟩:=B9q N e he (by omega);rw[h1,Bkp];have Ek:=hb.sm (by omega);cases b1 with
 |false=>exact⟨_,rfl,hb.up⟩
 |true =>
  rw[Bn7,Bko,Abo N x.1 e.1 Ek hN,Bkp];cases hasB x.1 e.1 with
  |true=>exact⟨_,rfl,hb.up⟩
  |false =>
   rw[Bko];have hxl:=hb.len;refine G2 (Q:=fun r:Bk×Int=>BdB (k+1) r.1)
    (fun m z=>∃(j:Nat) (l:A2 Ev),z=((l,(j:Int),()),(),(),())∧j≤x.2.length∧m=x.2.length-j∧l.length≤j∧∀f∈l,f∈x.2) ?_ N x.2.length _ ⟨0,[],rfl,by omega,by omega,by simp,by simp⟩ (by omega)
   rintro m z rec ⟨j,l,rfl,hj,rfl,hl,hm⟩ ih;by_cases hjl:j<x.2.length
   ·have hf:Aw (l.length + [x.2[j]].length) 80=true:=fit (by simp;omega) (by simp;omega);have B5b:=Ao0 N e.2.2.2.2.2 x.2[j].1 (by have:=he.Awn;omega) (by have:=he.Awn;omega);have go:∃r,rec ((l++[x.2[j]],((j+1:Nat):Int),()),(),(),())=some r∧BdB (k+1) r.1:=by
     refine ih (x.2.length-(j+1)) _ (by omega) ⟨j+1,l++[x.2[j]],rfl,by omega,rfl,by simp;omega,?_⟩;intro f hf;rcases Bkw.1 hf with hf|hf
     ·exact hm f hf
     ·simp at hf;subst hf;exact Bmc hjl
    have no:∃r,rec ((l,((j+1:Nat):Int),()),(),(),())=some r∧BdB (k+1) r.1 :=
     ih (x.2.length-(j+1)) _ (by omega) ⟨j+1,l,rfl,by omega,rfl,by omega,hm⟩
    simp only[dec_lt,Bl6 hjl,Bkn,B8,Ci hjl,Bkp,hf,B5b,Ah (show j+1<9223372036854775808 by omega)];cases(x.2[j].2.1 != 1) with
    |true=>exact go
    |false =>
     simp only[Bko];cases decide (x.2[j].1∈e.2.2.2.2.2) with
     |true=>exact no
     |false=>exact go
   ·have:j=x.2.length:=by omega
    subst this;simp only[dec_lt,Bl4 hjl,Bko];have hds:(([e]:A2 Ev).flatMap dsE).length≤301:=by have:=he.Awn;simp[dsE];omega
    have hsd:=A42 (([e]:A2 Ev).flatMap dsE);obtain⟨c,c1,c2,c3⟩:=B5c N (Gu (([e]:A2 Ev).flatMap dsE)) (by omega) hN;have j1:=A14 x.1 c;have j2:=A15 x.1 c;have hcl:=hb.cl;have hct:=hb.ct;have hpl:=Awi e l;rw[Ak8 N [e] (by simp) (by simp[B04 he]) (by omega),Bkp,c1,Bkp,Akb N x.1 c (by omega) Ek ⟨by omega,by omega⟩ hN,Bkp,B01 N l e (by omega) (by omega),Bkp];refine⟨_,rfl,?_,?_,?_,?_⟩
    ·show(As1 ltE eqE e l).length≤k+1;omega
    ·intro f hf;rcases B5d hf with h|h
     ·subst h;exact he
     ·exact hb.evs f (hm f h)
    ·show(Yi x.1 c).length≤400*(k+1);omega
    ·show Pc.T6 (Yi x.1 c)≤2000*(k+1);omega
theorem Bcg(N:Nat)(l:A2 Ev)(k:UInt8)(hl:l.length≤1000)(hN:10000<N):Jq N l k=some (l.filter fun e=>e.2.1==k):=by
 unfold Jq;have e0:=foldl_filter (fun e:Ev=>e.2.1==k) l [];rw[Ir l (fun a x=>cond (x.2.1==k) (a++[x]) a) [] (fun a=>some a) ?_ ?_ N (by omega),e0]
 ·rfl
 ·intro rec j a hj ha;have hal:a.length≤j:=by rw[ha,foldl_filter,Bm0];have:=Bmf (fun e:Ev=>e.2.1==k) (l.take j);rw[Bm6]at this;omega
  have hf:Aw (a.length + [l[j]].length) 80=true:=fit (by simp;omega) (by simp;omega);simp only[dec_lt,Bl6 hj,Bkn,B8,Ci hj,Bkp,hf,Ah (show j+1<9223372036854775808 by omega)];cases(l[j].2.1==k)<;>rfl
 ·intro rec;simp only[dec_lt,Bl4 (Bmr _),Bko]
theorem B5e(N:Nat)(x:Bk)(hl:x.2.length≤1000)(hN:10000<N):He N x=some (x.2.filter fun e=>e.2.1==1):=by unfold He;rw[Bcg N x.2 1 hl hN];rfl
theorem Af5(N:Nat)(l:A2 Ev)(p:Ev→Bool)(hl:l.length≤100)(Ek:∀e∈l,smE e)(hN:1000000<N){f:((A2 Ev×Int×Unit)×Unit×Unit×Unit→A3 (A2 (Int×Int)))→(A2 Ev×Int×Unit)×Unit×Unit×Unit→A3 (A2 (Int×Int))}
  (hs:∀(rec:(A2 Ev×Int×Unit)×Unit×Unit×Unit→A3 (A2 (Int×Int))) (k:Nat) (a:A2 Ev) (hk:k<l.length),a.length≤k→f rec ((a,(k:Int),()),(),(),())=rec ((cond (p l[k]) (a++[l[k]]) a,((k+1:Nat):Int),()),(),(),()))
  (he:∀(rec:(A2 Ev×Int×Unit)×Unit×Unit×Unit→A3 (A2 (Int×Int))) (a:A2 Ev),f rec ((a,(l.length:Int),()),(),(),())=Option.bind (D2 N a) fun y=>some y) :
  iter f N (([],0,()),(),(),())=some (Gu ((l.filter p).flatMap dsE)):=by
 have e0:=foldl_filter p l [];have hfl:(l.filter p).length≤l.length:=Bmf _ _;rw[Ir l (fun a x=>cond (p x) (a++[x]) a) [] (fun a=>Option.bind (D2 N a) fun y=>some y) ?_ ?_ N (by omega),e0,Bm0,Ak8 N _ (by omega) (B54 Ek p) hN]
 ·rfl
 ·intro rec j a hj ha;refine hs rec j a hj ?_;rw[ha,foldl_filter,Bm0];have:=Bmf p (l.take j);rw[Bm6]at this;omega
 ·intro rec;exact he rec _
theorem Awo(N:Nat)(l:A2 Ev)(c:Int)(hl:l.length≤100)(Ek:∀e∈l,smE e)(hN:1000000<N):Ij N l c=some (Gu ((l.filter fun e=>cond (e.2.1==1) (e.2.2.1==c) false).flatMap dsE)):=by
 unfold Ij;refine Af5 N l _ hl Ek hN ?_ ?_
 ·intro rec k a hk hal;have hf:Aw (a.length + [l[k]].length) 80=true:=fit (by simp;omega) (by simp;omega);simp only[dec_lt,Bl6 hk,Bkn,B8,Ci hk,Bkp,hf,Ah (show k+1<9223372036854775808 by omega)];cases(l[k].2.1==1)<;>cases(l[k].2.2.1==c)<;>rfl
 ·intro rec a;simp only[dec_lt,Bl4 (Bmr _),Bko]
theorem B5f(N:Nat)(l:A2 Ev)(c:Int)(r:UInt8)(hl:l.length≤100)(Ek:∀e∈l,smE e)(hN:1000000<N):Jr N l c r=some (Gu ((l.filter fun e=>cond (e.2.1==1) (cond (e.2.2.1==c) (e.2.2.2.1==r) false) false).flatMap dsE)):=by
 unfold Jr;refine Af5 N l _ hl Ek hN ?_ ?_
 ·intro rec k a hk hal;have hf:Aw (a.length + [l[k]].length) 80=true:=fit (by simp;omega) (by simp;omega);simp only[dec_lt,Bl6 hk,Bkn,B8,Ci hk,Bkp,hf,Ah (show k+1<9223372036854775808 by omega)];cases(l[k].2.1==1)<;>cases(l[k].2.2.1==c)<;>cases(l[k].2.2.2.1==r)<;>rfl
 ·intro rec a;simp only[dec_lt,Bl4 (Bmr _),Bko]
theorem Aso:SmE ((0,0),0,0,0,[],[]):=⟨by simp,by simp⟩
theorem Awp(N:Nat)(x:Bk)(e:Ev)(k:Nat)(hk:k≤29)(hb:BdB k x)(he:SmE e)(hN:1000000000000<N):∃r,Js N x e=some r∧SmE r.1:=by
 unfold Js;obtain⟨b1,h1,_⟩:=B9q N (e.1,e.2.1,e.2.2.1,e.2.2.2.1,e.2.2.2.2.1,[]) ⟨by simp,he.text⟩ (by omega);rw[h1,Bkp];have Ek:=hb.sm (by omega);have hl:=hb.len;cases b1 with
 |false=>exact⟨_,rfl,Aso⟩
 |true =>
  rw[Bn7,Bko,Abo N x.1 e.1 Ek hN,Bkp];cases hasB x.1 e.1 with
  |true=>exact⟨_,rfl,Aso⟩
  |false =>
   have hfl:(x.2.filter fun e=>e.2.1==1).length≤x.2.length:=Bmf _ _;have hfs:∀f∈x.2.filter (fun e=>e.2.1==1),smE f:=fun f hf=>B04 (hb.evs f (Blu.1 hf).1)
   rw[Bko,B5e N x (by omega) (by omega),Bkp,Awo N _ _ (by omega) hfs (by omega),Bkp];have fin:∀(ds:A2 (Int×Int)),∃r,(bif decide ((256:Int)<(ds.length:Int))then some ((((0,0),0,0,0,[],[]):Ev),(3:Int))else some (((e.1,e.2.1,e.2.2.1,e.2.2.2.1,e.2.2.2.2.1,ds):Ev),0))=some r∧SmE r.1:=by
    intro ds;by_cases h:256<ds.length
    ·have:decide ((256:Int)<(ds.length:Int))=true:=by simp;omega
     rw[this];exact⟨_,rfl,Aso⟩
    ·have:decide ((256:Int)<(ds.length:Int))=false:=by simp;omega
     rw[this];exact⟨_,rfl,⟨by show ds.length≤300;omega,he.text⟩⟩
   simp only[Bw];cases(e.2.1==1) with
   |true =>rw[Bkn,Bkp,B5f N _ _ _ (by omega) hfs (by omega),Bkp];exact fin _
   |false=>exact fin _
theorem B05(N:Nat)(x:Bk)(c:A2 Part)(k:Nat)(hk:k≤29)(hb:BdB k x)(hc:Afo c)(hN:1000000000000<N):∃r,Kv N x c=some r∧BdB (k+1) r:=by
 unfold Kv;have Q2:=hc.sm;have hcl:=hb.cl;have hct:=hb.ct;have h1:=hc.len;have h2:Pc.T6 c≤900:=by
  have key:∀c:A2 Part,(∀p∈c,p.2.length≤30)→Pc.T6 c≤30*c.length:=by
   intro c;induction c with
   |nil=>intro _;simp[Pc.T6]
   |cons p c ih =>
    intro h;have h1:=ih fun q hq=>h q (by simp[hq])
    have h2:=h p (by simp);rw[Pc.Ze,Blg];omega
  have:=key c hc.runs;omega
 have j1:=A14 x.1 c;have j2:=A15 x.1 c;rw[Akb N x.1 c (by omega) (hb.sm (by omega)) Q2 hN,Bkp];exact⟨_,rfl,⟨by have:=hb.len;show x.2.length≤k+1;omega,hb.evs,by show(Yi x.1 c).length≤_;omega,by show Pc.T6 (Yi x.1 c)≤_;omega⟩⟩
theorem Asp(N:Nat)(e:Ev)(c:A2 Part)(he:SmE e)(hc:Afo c)(hN:1000000000000<N):∃r,Gq N e c=some r∧SmE r:=by
 unfold Gq;rw[Abo N c e.1 hc.sm hN,Bkp];cases hasB c e.1 with
 |true=>exact⟨_,rfl,⟨by simp,he.text⟩⟩
 |false=>exact⟨_,rfl,he⟩
theorem Asq(N:Nat)(x:Bk)(c:A2 Part)(k:Nat)(hk:k≤29)(hb:BdB k x)(hc:Afo c)(hN:1000000000000<N):∃r,J4 N x c=some r∧BdB (k+1) r.1:=by
 unfold J4;have hxl:=hb.len;refine G2 (Q:=fun r:Bk×Int=>BdB (k+1) r.1)
  (fun m z=>∃(j:Nat) (l:A2 Ev),z=((l,(j:Int),()),(),(),())∧j≤x.2.length∧m=x.2.length-j∧l.length≤j∧∀f∈l,SmE f) ?_ N x.2.length _ ⟨0,[],rfl,by omega,by omega,by simp,by simp⟩ (by omega)
 rintro m z rec ⟨j,l,rfl,hj,rfl,hl,hm⟩ ih;by_cases hjl:j<x.2.length
 ·obtain⟨y,hy,hys⟩:=Asp N x.2[j] c (hb.evs _ (Bmc hjl)) hc hN;have hf:Aw (l.length + [y].length) 80=true:=fit (by simp;omega) (by simp;omega);have go:∃r,rec ((l++[y],((j+1:Nat):Int),()),(),(),())=some r∧BdB (k+1) r.1:=by
   refine ih (x.2.length-(j+1)) _ (by omega) ⟨j+1,l++[y],rfl,by omega,rfl,by simp;omega,?_⟩;intro f hf;rcases Bkw.1 hf with hf|hf
   ·exact hm f hf
   ·simp at hf;subst hf;exact hys
  have no:∃r,rec ((l,((j+1:Nat):Int),()),(),(),())=some r∧BdB (k+1) r.1 :=
   ih (x.2.length-(j+1)) _ (by omega) ⟨j+1,l,rfl,by omega,rfl,by omega,hm⟩
  simp only[dec_lt,Bl6 hjl,Bkn,B8,Ci hjl,Bkp,hy,hf,Abo N c x.2[j].1 hc.sm hN,Ah (show j+1<9223372036854775808 by omega)];cases(x.2[j].2.1==1) with
  |true=>exact go
  |false =>
   simp only[Bko];cases hasB c x.2[j].1 with
   |true=>exact no
   |false=>exact go
 ·have:j=x.2.length:=by omega
  subst this;simp only[dec_lt,Bl4 hjl,Bko];exact⟨_,rfl,⟨by show l.length≤k+1;omega,hm,by have:=hb.cl;show x.1.length≤_;omega,by have:=hb.ct;show Pc.T6 x.1≤_;omega⟩⟩
abbrev Awq:Type:=UInt8×Ev×A2 Part
theorem B5g(N:Nat)(l:A2 Awq)(hl:l.length≤20)(he:∀a∈l,SmE a.2.1∧Afo a.2.2)(hN:1000000000000<N):∃r,Lw N l=some r∧BdB 20 r:=by
 unfold Lw;have up:∀(k j:Nat) (x:Bk),BdB k x→BdB (k+j) x:=by
  intro k j x h;induction j with
  |zero=>exact h
  |succ j ih=>exact ih.up
 refine G2 (Q:=fun r:Bk=>BdB 20 r)
  (fun m z=>∃(k:Nat) (x:Bk),z=(((k:Int),()),((x,()),()),(),())∧k≤l.length∧m=l.length-k∧BdB k x) ?_ N l.length _ ⟨0,([],[]),rfl,by omega,by omega,⟨by simp,by simp,by simp,by simp[Pc.T6]⟩⟩ (by omega)
 rintro m z rec ⟨k,x,rfl,hk,rfl,hb⟩ ih;by_cases Im:k<l.length
 ·obtain⟨he1,he2⟩:=he l[k] (Bmc Im);have go:∀y:Bk,BdB (k+1) y→∃r,rec ((((k+1:Nat):Int),()),((y,()),()),(),())=some r∧BdB 20 r:=fun y hy=>ih (l.length-(k+1)) _ (by omega) ⟨k+1,y,rfl,by omega,rfl,hy⟩
  simp only[dec_lt,Bl6 Im,Bkn,B8,Ci Im,Bkp,Ah (show k+1<9223372036854775808 by omega)];cases(l[k].1==0) with
  |true =>obtain⟨r,h1,h2⟩:=Akc N x l[k].2.1 k (by omega) hb he1 hN;rw[Bkn,h1,Bkp];exact go _ h2
  |false =>
   rw[Bko];cases(l[k].1==1) with
   |true =>obtain⟨r,h1,h2⟩:=Awp N x l[k].2.1 k (by omega) hb he1 hN;obtain⟨r2,h3,h4⟩:=Akc N x r.1 k (by omega) hb h2 hN;rw[Bkn,h1,Bkp,h3,Bkp];exact go _ h4
   |false =>
    rw[Bko];cases(l[k].1==2) with
    |true =>obtain⟨r,h1,h2⟩:=B05 N x l[k].2.2 k (by omega) hb he2 hN;rw[Bkn,h1,Bkp];exact go _ h2
    |false =>
     rw[Bko];cases(l[k].1==3) with
     |true =>obtain⟨r,h1,h2⟩:=Asq N x l[k].2.2 k (by omega) hb he2 hN;rw[Bkn,h1,Bkp];exact go _ h2
     |false=>exact go _ hb.up
 ·have:k=l.length:=by omega
  subst this;simp only[dec_lt,Bl4 Im,Bko];refine⟨x,rfl,?_⟩;have:=up l.length (20-l.length) x hb
  rwa [show l.length+(20-l.length)=20 by omega]at this
theorem B06(N:Nat)(l:A2 Awq)(hN:1000000000000<N):I7 N l 20=some 0∨(I7 N l 20=some 1∧l.length≤20∧∀a∈l,SmE a.2.1∧Afo a.2.2):=by
 unfold I7;by_cases hl:20<l.length
 ·have:decide ((20:Int)<(l.length:Int))=true:=by simp;omega
  rw[this];exact .inl rfl
 ·have:decide ((20:Int)<(l.length:Int))=false:=by simp;omega
  rw[this,Bko]
  suffices H:∃r,iter (fun(rec:(Int×Unit)×Unit×Unit×Unit→A3 Int) (z:(Int×Unit)×Unit×Unit×Unit) =>
    bif decide (z.fst.fst<(l.length:Int)) then
     (at? l z.fst.fst).bind fun(e:Awq) =>
      Option.bind (I5 N [e.snd.fst] 1) fun(y:Bool) =>
       bif !y then some 0
       else
        (at? l z.fst.fst).bind fun(e:Awq) =>Option.bind (I6 N e.snd.snd) fun(y:Bool) =>bif !y then some 0 else rec ((i64.wrap (z.fst.fst+1),()),(),(),())
    else some 1) N ((0,()),(),(),())=some r∧(r=0∨r=1∧∀a∈l,SmE a.2.1∧Afo a.2.2) by
   obtain⟨r,h1,h2⟩:=H;rcases h2 with rfl|⟨rfl,h2⟩
   ·exact .inl h1
   ·exact .inr ⟨h1,by omega,h2⟩
  refine G2 (Q:=fun r:Int=>r=0∨r=1∧∀a∈l,SmE a.2.1∧Afo a.2.2)
   (fun m z=>∃k:Nat,z=(((k:Int),()),(),(),())∧k≤l.length∧m=l.length-k∧∀a∈l.take k,SmE a.2.1∧Afo a.2.2) ?_ N l.length _ ⟨0,rfl,by omega,by omega,by simp⟩ (by omega)
  rintro m z rec ⟨k,rfl,hk,rfl,hm⟩ ih;by_cases Im:k<l.length
  ·obtain⟨b1,h1,h2⟩:=Bjk N l[k].2.1 (by omega);obtain⟨b2,h3,h4⟩:=B56 N l[k].2.2 (by omega);simp only[dec_lt,Bl6 Im,Bkn,B8,Ci Im,Bkp,h1,h3,Ah (show k+1<9223372036854775808 by omega)];cases b1 with
   |false=>exact⟨0,rfl,.inl rfl⟩
   |true =>
    cases b2 with
    |false=>exact⟨0,rfl,.inl rfl⟩
    |true =>
     refine ih (l.length-(k+1)) _ (by omega) ⟨k+1,rfl,by omega,rfl,?_⟩;intro a ha;rw[Bmy,Ci Im]at ha;rcases Bkw.1 ha with ha|ha
     ·exact hm a ha
     ·simp at ha;subst ha;exact⟨h2 rfl,h4 rfl⟩
  ·have:k=l.length:=by omega
   subst this;simp only[dec_lt,Bl4 Im,Bko];refine⟨1,rfl,.inr ⟨rfl,fun a ha=>hm a (by rwa [Bm4])⟩⟩
theorem B9r(N:Nat)(d:Int×Int):Ry N d=some (decide (0<d.1)&&(decide (0<d.2)&&decide (d.2≤281474976710655))):=by simp only[Ry,cond_eq_ite];by_cases a1:0<d.1<;>by_cases a2:0<d.2<;>simp[a1,a2]
theorem B07(N:Nat)(t:A2 UInt8)(hN:1000000<N):∃b,Uj N t=some b:=by
 unfold Uj;by_cases h:60<t.length
 ·have:decide ((60:Int)<(t.length:Int))=true:=by simp;omega
  rw[this];exact⟨_,rfl⟩
 ·have:decide ((60:Int)<(t.length:Int))=false:=by simp;omega
  rw[this,Bko];refine Px Xz 0 t.length (by omega) ?_ ?_ N (by omega)
  ·rintro rec k _ hk ⟨r,hr⟩;simp only[Xz]at hr;simp only[dec_lt,Bl6 hk,Bkn,B8,Ci hk,Bkp,Ah (show k+1<9223372036854775808 by omega),hr];cases decide (t[k]<32)<;>cases decide (126<t[k])<;>exact⟨_,rfl⟩
  ·intro rec;simp only[dec_lt,Bl4 (Bmr _),Bko];exact⟨_,rfl⟩
theorem Asr(N:Nat)(l:A2 (Int×Int))(hl:l.length≤1000)(hN:1000000<N):∃b,Qw N l=some b:=by
 unfold Qw;refine Px Xz 0 l.length (by omega) ?_ ?_ N (by omega)
 ·rintro rec k _ hk ⟨r,hr⟩;simp only[Xz]at hr;simp only[dec_lt,Bl6 hk,Bkn];by_cases h0:0<k
  ·have hk1:k-1<l.length:=by omega
   have:decide ((0:Int)<(k:Int))=true:=by simp;omega
   simp only[this,Bkn,Oi h0 (show k<9223372036854775808 by omega),B8,Ci hk,Ci hk1,Bkp,As6,Ah (show k+1<9223372036854775808 by omega),hr];cases decide (0≤Gy l[k-1] l[k])<;>exact⟨_,rfl⟩
  ·have:decide ((0:Int)<(k:Int))=false:=by simp;omega
   simp only[this,Bko,Ah (show k+1<9223372036854775808 by omega),hr];exact⟨_,rfl⟩
 ·intro rec;simp only[dec_lt,Bl4 (Bmr _),Bko];exact⟨_,rfl⟩
theorem B08(N:Nat)(e:Ev)(he:smE e)(hN:1000000<N):∃b,J2 N e=some b:=by
 unfold J2 A0u Yc;simp only[Bkp,B9r,Bw];have tail:∃b,(bif decide ((256:Int)<(e.2.2.2.2.2.length:Int))then some false
   else Option.bind (Qw N e.2.2.2.2.2) fun(y:Bool)=>bif !y then some false
    else iter (fun(rec:(Int×Unit)×Unit×Unit×Unit→A3 Bool) (z:(Int×Unit)×Unit×Unit×Unit) =>
     bif decide (z.fst.fst<(e.2.2.2.2.2.length:Int)) then
      (at? e.2.2.2.2.2 z.fst.fst).bind fun(d:Int×Int) =>
       bif !(decide (0<d.1)&&(decide (0<d.2)&&decide (d.2≤281474976710655)))then some false
       else bif d.fst==e.1.fst&&d.snd==e.1.snd then some false else rec ((i64.wrap (z.fst.fst+1),()),(),(),())
     else some true) N ((0,()),(),(),()))=some b:=by
  by_cases h:256<e.2.2.2.2.2.length
  ·have:decide ((256:Int)<(e.2.2.2.2.2.length:Int))=true:=by simp;omega
   rw[this];exact⟨_,rfl⟩
  ·have:decide ((256:Int)<(e.2.2.2.2.2.length:Int))=false:=by simp;omega
   obtain⟨b,hb⟩:=Asr N e.2.2.2.2.2 (by omega) hN;rw[this,Bko,hb,Bkp];cases b with
   |false=>exact⟨_,rfl⟩
   |true =>
    rw[Bn7,Bko];refine Px Xz 0 e.2.2.2.2.2.length (by omega) ?_ ?_ N (by omega)
    ·rintro rec k _ hk ⟨r,hr⟩;simp only[Xz]at hr;simp only[dec_lt,Bl6 hk,Bkn,B8,Ci hk,Bkp,Ah (show k+1<9223372036854775808 by omega),hr];generalize (decide (0<e.2.2.2.2.2[k].1)&&(decide (0<e.2.2.2.2.2[k].2)&&decide (e.2.2.2.2.2[k].2≤281474976710655)))=b1;generalize (e.2.2.2.2.2[k].fst==e.1.fst&&e.2.2.2.2.2[k].snd==e.1.snd)=b2;cases b1<;>cases b2<;>exact⟨_,rfl⟩
    ·intro rec;simp only[dec_lt,Bl4 (Bmr _),Bko];exact⟨_,rfl⟩
 obtain⟨bt,ht⟩:=B07 N e.2.2.2.2.1 hN;obtain⟨b0,h0⟩:=tail;have hf:∃b,Ui N e.2.2.2.1=some b:=by unfold Ui;cases decide (1≤e.2.2.2.1)<;>exact⟨_,rfl⟩
 obtain⟨bf,hf⟩:=hf;rw[ht,hf,h0];simp only[Bkp];generalize (!(decide (0<(u16.wrap (e.2.2.1.fdiv 281474976710656)))&&_))=c1;cases c1 with
 |true=>exact⟨_,rfl⟩
 |false =>simp only[Bko,Bkp,Bn7];generalize (!(decide (0<e.1.1)&&_))=c2;cases c2<;>cases(e.2.1==1)<;>cases(e.2.1==2)<;>cases bf<;>cases bt<;>cases(e.2.2.2.1 != 0)<;>cases(e.2.2.2.2.1 != [])<;>exact⟨_,rfl⟩
theorem B09(N:Nat)(c:A2 Part)(d:Int×Int)(hc:Sm c)(hN:1000000000000<N):A5a N c d=some (hasB c d):=by
 unfold A5a hasB;by_cases h0:0<d.1
 ·have hlen:(tl c d.1).length≤Pc.T6 c:=Pc.Anv c d.1;have Bhv:=hc.T6;obtain⟨es,Ih,h1,_,_,_,h2⟩:=Awe N c hc hN;rw[Bl6 h0,Bkn];unfold A8f;rw[h1];simp only[Bkp];have e:=h2 d.1 h0;have e':(A6k (.int .u16) Bd.sl d.1 es).getD []=tl c d.1:=e;rw[e',norm_eq N _ (by omega) hN];simp only[Bkp];have hn:=Abj (tl c d.1);rw[Bca N _ _ (by omega) hN,(T2 _).2];rfl
 ·rw[Bl4 h0];rfl
theorem B9s(N:Nat)(l:A2 (Int×Int))(c:A2 Part)(b:Bool)(hl:l.length≤1000000)(hc:Sm c)(hN:1000000000000<N):Uh N l c b=some (Gu (l.filter fun d=>hasB c d==b)):=by
 unfold Uh;have e0:=foldl_filter (fun d=>hasB c d==b) l [];rw[Ir l (fun a x=>cond (hasB c x==b) (a++[x]) a) [] (fun a=>some (Gu a)) ?_ ?_ N (by omega),e0]
 ·rfl
 ·intro rec k a hk ha;have hal:a.length≤k:=by rw[ha,foldl_filter,Bm0];have:=Bmf (fun d=>hasB c d==b) (l.take k);rw[Bm6]at this;omega
  have hf:Aw (a.length + [l[k]].length) 16=true:=fit (by simp;omega) (by simp;omega);simp only[dec_lt,Bl6 hk,Bkn,B8,Ci hk,Bkp,B09 N c _ hc hN,hf,Ah (show k+1<9223372036854775808 by omega)];cases(hasB c l[k]==b)<;>rfl
 ·intro rec;have hal:(l.foldl (fun a x=>cond (hasB c x==b) (a++[x]) a) []).length≤l.length:=by rw[foldl_filter,Bm0];exact Bmf _ _
  generalize l.foldl (fun a x=>cond (hasB c x==b) (a++[x]) a) []=q at *;simp only[dec_lt,Bl4 (Bmr _),Bko];rw[Ajz N q (by omega) (by omega)];rfl
theorem Akd(N:Nat)(a b:A2 Ct)(hl:a.length≤1000000000)(hN:1000000000000<N):∃r,Gz N a b=some r:=by
 unfold Gz;by_cases h:a.length=b.length
 ·have e:((a.length:Int) != (b.length:Int))=false:=by simp[h]
  rw[e,Bko];refine Px Xz 0 a.length (by omega) ?_ ?_ N (by omega)
  ·rintro rec k _ hk ⟨r,hr⟩;simp only[Xz]at hr;have hk2:k<b.length:=by omega
   simp only[dec_lt,Bl6 hk,Bkn,B8,Ci hk,Ci hk2,Bkp,Ah (show k+1<9223372036854775808 by omega),hr];generalize (!(a[k].fst==b[k].fst&&a[k].snd==b[k].snd))=c;cases c<;>exact⟨_,rfl⟩
  ·intro rec;simp only[dec_lt,Bl4 (Bmr _),Bko];exact⟨_,rfl⟩
 ·have e:((a.length:Int) != (b.length:Int))=true:=by simp;omega
  rw[e];exact⟨_,rfl⟩
theorem B0a(N:Nat)(a b:A2 Part)(ha:Sm a)(hN:1000000000000<N):∃r,Ab8 N a b=some r:=by
 unfold Ab8 E5;have hl:=ha.len;by_cases h:a.length=b.length
 ·have e:((a.length:Int) != (b.length:Int))=false:=by simp[h]
  rw[e,Bko]
  suffices H:∃r,iter (fun(rec:(Int×Unit)×Unit×Unit×Unit→A3 ((Bool×Unit)×Unit×Unit×Unit)) (z:(Int×Unit)×Unit×Unit×Unit) =>
    bif decide (z.fst.fst<(a.length:Int)) then
     (at? a z.fst.fst).bind fun(e:Part)=>(at? b z.fst.fst).bind fun(Cr:Part) =>Option.bind (W0 N e Cr) fun(y:Bool) =>bif !y then some ((false,()),(),(),())else rec ((i64.wrap (z.fst.fst+1),()),(),(),())
    else some ((true,()),(),(),())) N ((0,()),(),(),())=some r by
   obtain⟨r,hr⟩:=H;refine⟨r.1.1,?_⟩;exact(Blc (fun o=>Option.bind o fun y:(Bool×Unit)×Unit×Unit×Unit=>some y.fst.fst) hr)
  refine Px Xz 0 a.length (by omega) ?_ ?_ N (by omega)
  ·rintro rec k _ hk ⟨r,hr⟩;simp only[Xz]at hr;have hk2:k<b.length:=by omega
   have hq:∃q,W0 N a[k] b[k]=some q:=by unfold W0;obtain⟨q,hq⟩:=Akd N a[k].2 b[k].2 (by have:=Asm (Bmc hk);have:=ha.T6;omega) hN;rw[hq];cases(a[k].1==b[k].1)<;>exact⟨_,rfl⟩
   obtain⟨q,hq⟩:=hq;simp only[dec_lt,Bl6 hk,Bkn,B8,Ci hk,Ci hk2,Bkp,Ah (show k+1<9223372036854775808 by omega),hr,hq];cases q<;>exact⟨_,rfl⟩
  ·intro rec;simp only[dec_lt,Bl4 (Bmr _),Bko];exact⟨_,rfl⟩
 ·have e:((a.length:Int) != (b.length:Int))=true:=by simp;omega
  rw[e];exact⟨false,rfl⟩
theorem Ass(N:Nat)(c:A2 Part)(hc:Sm c)(hN:1000000000000<N):∃r,Mk N c=some r:=by unfold Mk;obtain⟨r,hr⟩:=B0a N c (Pc.Avz c) hc hN;rw[Awh N c hc hN,Bkp,hr];exact⟨_,rfl⟩
abbrev B5h:Type:=A2 (Nat×(Int×Int)×Ev)×Nat
def B0b(m:Afp)(e:Ev):B5h:=match m with
 |none=>(Jx (kt:=Af) (vt:=A5) e.1 e 0 [],R9 (kt:=Af) (vt:=A5) e.1 [] 0)
 |some y=>(Jx (kt:=Af) (vt:=A5) e.1 e y.2 y.1,R9 (kt:=Af) (vt:=A5) e.1 y.1 y.2)
theorem Ake(N:Nat)(e:Ev)(y:B5h)(he:smE e):Kw N e y=some (((),()),(),(),B0b (some y) e,()):=by unfold Kw;rw[copy_eq N e he];rfl
theorem Akf(N:Nat)(e:Ev)(he:smE e):Kx N e=some (((),()),(),(),B0b none e,()):=by unfold Kx;rw[copy_eq N e he];rfl
theorem A43(e:Ev)(c:Nat):∀(es:EsB) (x:Nat×(Int×Int)×Ev),x∈Jx (kt:=Af) (vt:=A5) e.1 e c es→x.2=(e.1,e)∨x∈es
 |[],x,h=>by simp[Jx]at h;subst h;exact .inl rfl
 |y::r,x,h=>by
  simp only[Jx]at h;cases hb:Af.eqv e.1 y.2.1 with
  |true =>
   rw[hb,Bkn]at h;rcases Bkq.1 h with h|h
   ·subst h;exact .inl rfl
   ·exact .inr (Bkx _ h)
  |false =>
   rw[hb,Bko]at h;rcases Bkq.1 h with h|h
   ·subst h;exact .inr (by simp)
   ·rcases A43 e c r x h with h|h
    ·exact .inl h
    ·exact .inr (Bkx _ h)
theorem WfM.none(n:Nat):WfM n none:=⟨by simp,by simp[Oq],by simp[Oq],by simp[Oq]⟩
theorem WfM.up{n:Nat}{m:Afp}(h:WfM n m):WfM (n+1) m:=⟨h.wf,h.key,h.sm,by have:=h.len;omega⟩
theorem WfM.mono{n k:Nat}{m:Afp}(h:WfM n m)(hk:n≤k):WfM k m:=⟨h.wf,h.key,h.sm,by have:=h.len;omega⟩
theorem WfM.add{n:Nat}{m:Afp}(h:WfM n m){e:Ev}(he:smE e):WfM (n+1) (some (B0b m e)):=by
 have mem:∀x∈(B0b m e).1,x.2=(e.1,e)∨x∈Oq m:=by
  intro x hx;cases m with
  |none=>exact(A43 e 0 [] x hx)
  |some y=>exact(A43 e y.2 y.1 x hx)
 refine⟨?_,?_,?_,?_⟩
 ·intro y hy;cases hy;cases m with
  |none=>exact WfE.put (kt:=Af) (vt:=A5) rfl (WfE.nil 0) e.1 e
  |some y=>exact WfE.put (kt:=Af) (vt:=A5) rfl (h.wf y rfl) e.1 e
 ·intro x hx;rcases mem x hx with h1|h1
  ·rw[h1]
  ·exact h.key x h1
 ·intro x hx;rcases mem x hx with h1|h1
  ·rw[h1];exact he
  ·exact h.sm x h1
 ·have hl:=h.len;cases m with
  |none =>have:=A37 (kt:=Af) (vt:=A5) e.1 e 0 [];show(Jx (kt:=Af) (vt:=A5) e.1 e 0 []).length≤n+1;simp at this;omega
  |some y =>have:=A37 (kt:=Af) (vt:=A5) e.1 e y.2 y.1;show(Jx (kt:=Af) (vt:=A5) e.1 e y.2 y.1).length≤n+1;have hl':y.1.length≤n:=hl;omega
theorem B9t{m:Afp}{e:Ev}(he:(e.2.1==1)=true)(h:∀x∈Oq m,(x.2.2.2.1==1)=true):∀x∈Oq (some (B0b m e)),(x.2.2.2.1==1)=true:=by
 intro x hx;have:x.2=(e.1,e)∨x∈Oq m:=by
  cases m with
  |none=>exact(A43 e 0 [] x hx)
  |some y=>exact(A43 e y.2 y.1 x hx)
 rcases this with h1|h1
 ·rw[h1];exact he
 ·exact h x h1
abbrev StF:Type:=((Int×Unit)×((A2 Part×Unit×Unit×Unit)×Unit)×Unit×B5h×B5h×Unit) ⊕ ((Int×Unit)×((A2 Part×Unit×Unit×Unit)×Unit)×Unit×B5h×Unit) ⊕
 ((Int×Unit)×((A2 Part×Unit×Unit×Unit)×Unit)×Unit×B5h×Unit) ⊕ ((Int×Unit)×((A2 Part×Unit×Unit×Unit)×Unit)×Unit×Unit)
def Awr(k:Int)(c:A2 Part):Afp→Afp→StF
 |some a,some b=>.inl ((k,()),((c,(),(),()),()),(),a,b,())
 |none,some b=>.inr (.inl ((k,()),((c,(),(),()),()),(),b,()))
 |some a,none=>.inr (.inr (.inl ((k,()),((c,(),(),()),()),(),a,())))
 |none,none=>.inr (.inr (.inr ((k,()),((c,(),(),()),()),(),())))
abbrev Bch:Type:=Unit×A3 BkC×Int×Unit
def QF(r:Bch):Prop:=r.2.1=none∨∃x,r.2.1=some x∧Abn x
theorem QF.no:QF ((),none,1,()):=.inl rfl
theorem Ast{P:A3 Bch→Prop}(N:Nat)(l:A2 Ev)(k:Nat)(hk:k<l.length)(hl:l.length≤20)(hs:∀e∈l,smE e)(hN:1000000000000<N)(K:A3 Bch)(hK:∃r,K=some r∧QF r) :
  ∃r,(Option.bind (J2 N l[k]) fun(y:Bool) =>
   bif !y then some ((),none,1,())
   else
    bif decide (0<(k:Int)) then
     (at? l (i64.wrap ((k:Int)-1))).bind fun(Cr:Ev) =>
      Option.bind (K0 N Cr.fst l[k].fst) fun(y:Int) =>
       bif decide (0≤y)then some ((),none,1,())
       else bif l[k].snd.fst==1 then Option.bind (D9 N l l[k].fst) fun(y:Bool)=>bif y then some ((),none,1,())else K
       else K
    else bif l[k].snd.fst==1 then Option.bind (D9 N l l[k].fst) fun(y:Bool)=>bif y then some ((),none,1,())else K
     else K)=some r∧QF r:=by
 obtain⟨g,hg⟩:=B08 N l[k] (hs _ (Bmc hk)) (by omega);rw[hg,Bkp];cases g with
 |false=>exact⟨_,rfl,.no⟩
 |true =>
  have Bkh : ∃ r, (bif l[k].snd.fst == 1 then Option.bind (D9 N l l[k].fst) fun (y : Bool) => bif y then some ((), none, 1, ()) else K
     else K)=some r∧QF r:=by
   cases(l[k].2.1==1) with
   |false=>exact hK
   |true =>
    rw[Bkn,Bc9 N l _ (by omega) hs (by omega),Bkp];cases dead l l[k].1 with
    |true=>exact⟨_,rfl,.no⟩
    |false=>exact hK
  rw[Bn7,Bko];by_cases h0:0<k
  ·have hk1:k-1<l.length:=by omega
   have:decide ((0:Int)<(k:Int))=true:=by simp;omega
   rw[this,Bkn,Oi h0 (by omega),B8,Ci hk1,Bkp,As6,Bkp];cases decide (0≤Gy l[k-1].1 l[k].1) with
   |true=>exact⟨_,rfl,.no⟩
   |false=>exact Bkh
  ·have:decide ((0:Int)<(k:Int))=false:=by simp;omega
   rw[this,Bko];exact Bkh
theorem Bci(N:Nat)(c:A2 Part)(l:A2 Ev)(hc:Sm c)(hl:l.length≤20)(hs:∀e∈l,smE e)(hN:1000000000000<N)(x:BkC)(hx:Abn x) :
  ∃r,(Option.bind (Mk N c) fun(Gv:Bool) =>
   bif !Gv then some ((),none,1,())
   else
    Option.bind (J3 N l) fun(y_4:A2 (Int×Int)) =>
     Option.bind (Ks N y_4 c) fun(y:A2 (Int×Int)) =>
      bif decide (0<(y.length:Int))then some ((),none,1,())
      else some (((),some x,0,()):Bch))=some r∧QF r:=by
 obtain⟨g,hg⟩:=Ass N c hc hN;rw[hg,Bkp];cases g with
 |false=>exact⟨_,rfl,.no⟩
 |true =>
  have h1:=Abi hs;have h2:=A42 (l.flatMap dsE);unfold Ks;rw[Bn7,Bko,Bc8 N l (by omega) hs (by omega),Bkp,B9s N _ c false (by omega) hc hN,Bkp,Bkp];cases decide ((0:Int)<((Gu ((Gu (l.flatMap dsE)).filter fun d=>hasB c d==false)).length:Int)) with
  |true=>exact⟨_,rfl,.no⟩
  |false=>exact⟨_,rfl,.inr ⟨x,rfl,hx⟩⟩
theorem B5i(N:Nat)(c:A2 Part)(l:A2 Ev)(hc:Sm c)(hl:l.length≤20)(hs:∀e∈l,smE e)(hN:1000000000000<N):∃r,Xq N c l=some r∧QF r:=by
 unfold Xq;rw[Awh N c hc hN,Bkp];refine G2 (Q:=QF) (fun m z=>∃(k:Nat) (d:A2 Part) (lv tb:Afp),z=Awr (k:Int) d lv tb∧k≤l.length∧m=l.length-k∧WfM k lv∧WfM k tb∧∀e∈Oq lv,(e.2.2.2.1==1)=true) ?_ N l.length _ ⟨0,Pc.Avz c,none,none,rfl,by omega,by omega,.none 0,.none 0,by simp[Oq]⟩ (by omega);rintro m z rec ⟨k,d,lv,tb,rfl,hk,rfl,h1,h2,h3⟩ ih;by_cases Im:k<l.length
 ·have he:=hs _ (Bmc Im);have goL:(l[k].2.1==1)=true→∃r,rec (Awr (((k+1:Nat):Int)) d (some (B0b lv l[k])) tb)=some r∧QF r:=fun hkd=>ih (l.length-(k+1)) _ (by omega) ⟨k+1,d,_,_,rfl,by omega,rfl,h1.add he,h2.up,B9t hkd h3⟩
  have goT:∃r,rec (Awr (((k+1:Nat):Int)) d lv (some (B0b tb l[k])))=some r∧QF r:=ih (l.length-(k+1)) _ (by omega) ⟨k+1,d,_,_,rfl,by omega,rfl,h1.up,h2.add he,h3⟩;cases lv with
  |none =>
   cases tb with
   |none =>
    simp only[Awr,Ql,dec_lt,Bl6 Im,Bkn,B8,Ci Im,Bkp,Bw,Akf N _ he,Ah (show k+1<9223372036854775808 by omega)]at goL goT⊢;refine Ast (P:=fun _=>True) N l k Im hl hs hN _ ?_;cases hkd:(l[k].2.1==1) with
    |true=>exact goL hkd
    |false=>exact goT
   |some b =>
    simp only[Awr,Ql,dec_lt,Bl6 Im,Bkn,B8,Ci Im,Bkp,Bw,Akf N _ he,Ake N _ _ he,Ah (show k+1<9223372036854775808 by omega)]at goL goT⊢;refine Ast (P:=fun _=>True) N l k Im hl hs hN _ ?_;cases hkd:(l[k].2.1==1) with
    |true=>exact goL hkd
    |false=>exact goT
  |some a =>
   cases tb with
   |none =>
    simp only[Awr,Ql,dec_lt,Bl6 Im,Bkn,B8,Ci Im,Bkp,Bw,Akf N _ he,Ake N _ _ he,Ah (show k+1<9223372036854775808 by omega)]at goL goT⊢;refine Ast (P:=fun _=>True) N l k Im hl hs hN _ ?_;cases hkd:(l[k].2.1==1) with
    |true=>exact goL hkd
    |false=>exact goT
   |some b =>
    simp only[Awr,Ql,dec_lt,Bl6 Im,Bkn,B8,Ci Im,Bkp,Bw,Ake N _ _ he,Ah (show k+1<9223372036854775808 by omega)]at goL goT⊢;refine Ast (P:=fun _=>True) N l k Im hl hs hN _ ?_;cases hkd:(l[k].2.1==1) with
    |true=>exact goL hkd
    |false=>exact goT
 ·have:k=l.length:=by omega
  subst this;have hx:Abn (d,lv,tb,()):=⟨h1.mono (by omega),h2.mono (by omega),h3⟩;have:=Bci N c l hc hl hs hN _ hx;cases lv<;>cases tb<;>(simp only[Awr,Ql,dec_lt,Bl4 Im,Bko];exact this)
def cfN(x y:Ev):Int:=if x.1.2<y.1.2 then -1 else if y.1.2<x.1.2 then 1 else 0
def Yj(x y:Ev):Bool:=decide (cfN x y<0)
def eqN(x y:Ev):Bool:=x.1.2==y.1.2
theorem Asu(x y:Ev):Yj x y=decide (x.1.2<y.1.2):=by
 unfold Yj cfN
 grind
theorem Bfe:LO Yj eqN where
 asymm x y h:=by simp only[Asu,Bnp,Bpv]at *;omega
 ntrans x y z h1 h2:=by simp only[Asu,Bpv]at *;omega
 eq_def x y:=by simp only[Asu,eqN];rw[Bmb];simp;omega
theorem Bff(N:Nat)(x y:Ev):R1 N x y=some (cfN x y):=by
 simp only[R1,C7,Er,cfN,cond_eq_ite,Bkp]
 grind
theorem A8w{α:Type}{lt:α→α→Bool}{x:α}:∀ {p q:A2 α},(∀y∈p,lt x y=false)→(∀y∈q,lt x y=true)→Th lt x (p++q)=p++x::q
 |[],[],_,_=>rfl
 |[],y::q,_,h=>by
  simp only[Bm0];exact Aj5 (h y Bkz)
 |y::p,q,h,h'=>by
  simp only[Bmx];rw[Ans (h y Bkz),A8w (fun z hz=>h z (Bkx _ hz)) h']
theorem B9u{α:Type}(pre:A2 α)(x y:α)(S:A2 α):((pre++y::x::S).set (pre.length+1) y).set pre.length x=pre++x::y::S:=by
 rw[Brw _ _ (by omega),Brw _ _ (by omega)];have:pre.length+1-pre.length=1:=by omega
 rw[this,Brz];rfl
theorem B2f{α:Type}(pre:A2 α)(y:α)(S:A2 α):(pre++y::S)[pre.length]? = some y:=by simp
theorem B9v{α:Type}(pre:A2 α)(y x:α)(S:A2 α):(pre++y::x::S)[pre.length+1]? = some x:=by
 rw[Bnj (by omega)];have:pre.length+1-pre.length=1:=by omega
 rw[this];rfl
theorem Abp(N:Nat)(l:A2 Ev)(a b:Nat)(hab:a≤b)(hb:b≤l.length)(hl:l.length<4611686018427387904)(hN:l.length<N) :
  Az N l l.length a b=some (l.take a++Hc Yj ((l.take b).drop a)++l.drop b,()):=by
 unfold Az;have e0:i64.wrap ((a:Int)+1)=((a+1:Nat):Int):=Ah (by omega);rw[e0];refine Ary ?_;refine G2 (Q:=fun r=>r=(l.take a++Hc Yj ((l.take b).drop a)++l.drop b,())) (fun n z=>∃(i:Nat) (arr:A2 Ev),z=(((i:Int),()),(),(),arr,())∧a+1≤i∧i≤b+1∧n=b-i ∧
  arr=l.take a++Hc Yj ((l.take (min i b)).drop a)++l.drop (min i b)) ?_ N (b-(a+1)) _ ⟨a+1,l,rfl,Bl1 _,by omega,rfl,?_⟩ (by omega)
 ·rintro n z rec ⟨i,arr,rfl,hi1,hi2,rfl,Akl⟩ ih;simp only[dec_lt];by_cases hib:i<b
  ·rw[Bl6 hib,Bkn];have hil:i<l.length:=by omega
   have hm:min i b=i:=by omega
   rw[hm]at Akl;have hP:((l.take (i+1)).drop a)=((l.take i).drop a)++[l[i]]:=by rw[Bmy,Ci hil,Bo7 (by simp;omega)];rfl
   have Bhz:l.drop i=l[i]::l.drop (i+1):=Bnb hil;have Bi0:=Anq Bfe ((l.take i).drop a);have hPl:(Hc Yj ((l.take i).drop a)).length=i-a:=by rw[Ud];simp;omega
   have hA:(l.take a).length=a:=by simp;omega
   have next:∀Ch,Ch=l.take a++Th Yj l[i] (Hc Yj ((l.take i).drop a))++l.drop (i+1)→∃r,rec ((i64.wrap ((i:Int)+1),()),(),(),Ch,())=some r∧r=(l.take a++Hc Yj ((l.take b).drop a)++l.drop b,()):=by
    intro Ch he;rw[Ah (by omega)];refine ih (b-(i+1)) _ (by omega) ⟨i+1,Ch,rfl,by omega,by omega,rfl,?_⟩;have T4:min (i+1) b=i+1:=by omega
    rw[T4,hP,Azk,he]
   generalize Hc Yj ((l.take i).drop a)=P at *;generalize l[i]=x at *;refine G2 (Q:=fun r=>r=(l.take a++Hc Yj ((l.take b).drop a)++l.drop b,())) (fun m z=>∃p q:A2 Ev,P=p++q∧(∀y∈q,Yj x y=true)∧z=((((a+p.length:Nat):Int),()),(),(),l.take a++p++x::(q++l.drop (i+1)),())∧m=p.length) ?_ N (i-a) _
    ⟨P,[],by simp,by simp,by rw[Akl,Bhz,hPl];simp;omega,by rw[hPl]⟩ (by omega)
   rintro m z1 Bcc ⟨p,q,hpq,hq,rfl,rfl⟩ ih1;simp only[dec_lt];rcases Bqa p with rfl|⟨p',y,rfl⟩
   ·rw[Bl4 (by simp),Bko];refine next _ ?_
    rw[hpq,A8w (by simp) hq];simp
   ·rw[List.concat_eq_append]at *;have hlen:(p'++[y]).length=p'.length+1:=by simp
    have hpl:p'.length+1+q.length=i-a:=by rw[← hPl,hpq];simp;omega
    have hj:a+(p'.length+1)<l.length:=by omega
    have Agx:l.take a++(p'++[y])++x::(q++l.drop (i+1))=(l.take a++p')++y::x::(q++l.drop (i+1)):=by simp
    have Bkd:(l.take a++p').length=a+p'.length:=by simp;omega
    have w1:i64.wrap (((a+(p'.length+1):Nat):Int)-1)=((a+p'.length:Nat):Int):=by rw[Oi (by omega) (by omega)];congr 1
    rw[hlen,Agx];generalize hpg:l.take a++p'=pre at *;have g1:(pre++y::x::(q++l.drop (i+1)))[0+(((a+(p'.length+1):Nat):Int)).toNat]? = some x:=by rw[Ed,Blx,show a+(p'.length+1)=pre.length+1 by omega];exact B9v _ _ _ _
    have g2:(pre++y::x::(q++l.drop (i+1)))[0+(((a+p'.length:Nat):Int)).toNat]? = some y:=by rw[Ed,Blx,show a+p'.length=pre.length by omega];exact B2f _ _ _
    have c1:decide (a<a+(p'.length+1))=true:=by simp
    have c2:decide ((0:Int)≤((a+(p'.length+1):Nat):Int))=true:=Bl6 (Bqt _);have c3:decide (a+(p'.length+1)<l.length)=true:=by simpa using hj
    have c4:decide ((0:Int)≤((a+p'.length:Nat):Int))=true:=Bl6 (Bqt _);have c5:decide (a+p'.length<l.length)=true:=by simp;omega
    simp only[w1,dec_lt,c1,c2,c3,c4,c5,Bmo,Bkn,g1,g2,Bkp,Bff];cases Bs:Yj x y with
    |true =>
     have hc:decide (cfN x y<0)=true:=Bs;rw[hc,Bkn];have g3:((pre++y::x::(q++l.drop (i+1))).set (0+(((a+(p'.length+1):Nat):Int)).toNat) y)[0+(((a+p'.length:Nat):Int)).toNat]? = some y:=by rw[Ed,Ed,Blx,Blx,Bqh (by omega),show a+p'.length=pre.length by omega];exact B2f _ _ _
     rw[g3,Bkp];have hs:((pre++y::x::(q++l.drop (i+1))).set (0+(((a+(p'.length+1):Nat):Int)).toNat) y).set (0+(((a+p'.length:Nat):Int)).toNat) x=pre++x::y::(q++l.drop (i+1)):=by rw[Ed,Ed,Blx,Blx,show a+(p'.length+1)=pre.length+1 by omega,show a+p'.length=pre.length by omega];exact B9u _ _ _ _
     rw[hs];refine ih1 p'.length _ (by simp) ⟨p',y::q,by rw[hpq];simp,?_,by rw[hpg];rfl,rfl⟩;intro z hz;rcases Bkq.1 hz with rfl|hz
     ·exact Bs
     ·exact hq z hz
    |false =>
     have hc:decide (cfN x y<0)=false:=Bs;rw[hc,Bko];refine next _ ?_
     rw[hpq,A8w ?_ hq]
     ·rw[← hpg];simp
     ·intro z hz;rcases Bkw.1 hz with hz|hz
      ·rw[hpq]at Bi0;have:Yj y z=false:=by have h1:=(Bn4.1 Bi0).1;exact(Bn4.1 h1).2.2 z hz y (by simp)
       exact Bfe.ntrans _ _ _ Bs this
      ·rw[Bl7.1 hz];exact Bs
  ·rw[Bl4 hib,Bko];have hm:min i b=b:=by omega
   rw[hm]at Akl;exact⟨_,rfl,by rw[Akl]⟩
 ·by_cases h:a<b
  ·have hm:min (a+1) b=a+1:=by omega
   have ha:a<l.length:=by omega
   rw[hm];have:((l.take (a+1)).drop a)=[l[a]]:=by rw[Bmy,Ci ha,Bo7 (by simp;omega)];simp
   rw[this];have h2:l.drop a=l[a]::l.drop (a+1):=Bnb ha;have h3:Hc Yj [l[a]]=[l[a]]:=rfl;rw[h3,Bnx,Bq9,← h2,Bmt]
  ·have hm:min (a+1) b=b:=by omega
   have:b=a:=by omega
   subst this;rw[hm];have:(l.take b).drop b=[]:=by simp
   rw[this];have h3:Hc Yj ([]:A2 Ev)=[]:=rfl;rw[h3,Blt,Bmt]
theorem Alx(N:Nat)(l:A2 Ev)(hl:l.length<4611686018427387904)(hN:l.length<N) :
  Az N l l.length 0 l.length=some (Hc Yj l,()):=by
 have:=Abp N l 0 l.length (Bnm _) (Bl1 _) hl hN;simpa using this
theorem B5j(N:Nat)(l:A2 Ev)(h20:l.length≤20)(hN:30<N):Em N l l.length l.length=some (Hc Yj l,()):=by
 unfold Em;have e1:∀M,iter (fun(rec:(Int×Unit)×Unit×Unit×A2 Ev×Unit→A3 (A2 Ev×Unit)) (z:(Int×Unit)×Unit×Unit×A2 Ev×Unit) =>
   bif decide (z.fst.fst<(l.length:Int)) then
    iter (fun(rec_1:(Int×Int×Unit)×Unit×Unit×A2 Ev×Unit→A3 (A2 Ev×Unit)) (B9:(Int×Int×Unit)×Unit×Unit×A2 Ev×Unit) =>
      bif decide (B9.fst.snd.fst≤(l.length:Int))then none
      else bif decide (i64.wrap (B9.fst.fst+z.fst.fst)<(l.length:Int))then none
       else rec ((i64.wrap (z.fst.fst*2),()),(),(),B9.snd.snd.snd.fst,()))
     N ((0,i64.wrap (2*z.fst.fst),()),(),(),z.snd.snd.snd.fst,())
   else some (z.snd.snd.snd.fst,())) (N-3+1+1+1) ((20,()),(),(),M,())=some (M,()):=by
  intro M;simp only[iter];rw[Bl4 (by omega),Bko]
 rw[show N=N-3+1+1+1 by omega]at e1⊢;have hi:=Ud (lt:=Yj) l;have Bfg:=Alx (N-3+1+1+1) l (by omega) (by omega);by_cases h:l.length=20
 ·have e2:i64.wrap (20+20)=40:=by decide
  have B9w:=Abp (N-3+1+1+1) (Hc Yj l) 20 20 (Bl1 _) (by omega) (by omega) (by omega);rw[hi,h]at B9w;rw[h]at Bfg;have e3:(Hc Yj l).take 20++Hc Yj (((Hc Yj l).take 20).drop 20)++(Hc Yj l).drop 20=Hc Yj l:=by
   have:((Hc Yj l).take 20).drop 20=[]:=by simp
   rw[this];show _++[]++_=_;rw[Blt,Bmt]
  rw[e3]at B9w;rw[h]at e1⊢;simp only[iter];rw[Bl6 (by decide),Bkn];simp only[iter]at e1;have Bi1:Az (N-3+1+1+1) l 20 0 20=some (Hc Yj l,()):=Bfg;have Bfh:Az (N-3+1+1+1) (Hc Yj l) 20 20 20=some (Hc Yj l,()):=B9w;have c1:decide ((40:Int)≤((20:Nat):Int))=false:=by decide
  have c2:(((20:Nat):Int))=(20:Int):=rfl;simp only[c2]at *;rw[Bi1];simp only[Bkp,e2,c1,Bko,Bfh];exact e1 _
 ·simp only[iter];simp only[iter]at e1;rw[Bl4 (by omega),Bko];rw[Bfg];simp only[Bkp];exact e1 _
theorem Aly(N:Nat)(l:A2 Ev)(h20:l.length≤20)(hN:30<N):Ao N l l.length=some (Hc Yj l,()):=by unfold Ao;rw[B5j N l h20 hN];rfl
theorem Zs{α:Type}{l:A2 α}{k:Nat}(h:k<l.length):l.take (k+1)=l.take k++[l[k]]:=by rw[Bmy,Ci h];rfl
theorem B5k(N n:Nat)(w:Int)(l:A2 Ev)(hn:n≤l.length)(hl:n≤1000000)(hN:1000000<N) :
  ∃i:Int,Cz N n w l=some ((i,()),(),(),())∧((i = -1∧(l.take n).filter (fun e=>!(e.2.2.1 != w))=l.take n)∨∃m:Nat,i=(m:Int)∧m<n∧(l.take (m+1)).filter (fun e=>!(e.2.2.1 != w))=l.take m):=by
 unfold Cz;have key:=G2 (σ:=(Int×Unit)×Unit×Unit×Unit) (R:=(Int×Unit)×Unit×Unit×Unit)
  (Q:=fun r=>∃i:Int,r=((i,()),(),(),())∧((i = -1∧(l.take n).filter (fun e=>!(e.2.2.1 != w))=l.take n)∨∃m:Nat,i=(m:Int)∧m<n∧(l.take (m+1)).filter (fun e=>!(e.2.2.1 != w))=l.take m))
  (f:=fun(rec:(Int×Unit)×Unit×Unit×Unit→A3 ((Int×Unit)×Unit×Unit×Unit)) (z:(Int×Unit)×Unit×Unit×Unit) =>
   bif decide (z.fst.fst<(↑n:Int)) then
    bif decide (0≤z.fst.fst)&&decide (z.fst.fst<(↑n:Int)) then
     l[0+z.fst.fst.toNat]?.bind fun(e:Ev) =>
      Option.bind (F6 N e w) fun(y:(Bool×Unit)×Unit×Unit×Unit) =>
       bif y.fst.fst then some ((z.fst.fst,()),(),(),())
       else rec ((i64.wrap (z.fst.fst+1),()),(),(),())
    else none
   else some ((-1,()),(),(),()))
  (fun m z=>∃k:Nat,z=(((k:Int),()),(),(),())∧k≤n∧m=n-k∧(l.take k).filter (fun e=>!(e.2.2.1 != w))=l.take k) ?_ N n ((((0:Nat):Int),()),(),(),()) ?_ (by omega)
 ·obtain⟨r,h1,i,rfl,h2⟩:=key;exact⟨i,h1,h2⟩
 ·rintro m z rec ⟨k,rfl,h1,h2,h3⟩ ih;by_cases hk:k<n
  ·have Im:k<l.length:=by omega
   have hb:decide (0≤(k:Int))=true:=by simp
   simp only[dec_lt,Bl6 hk,Bkn,hb,Bmo,Ed,Blx,Ci Im,Bkp,F6,Ah (show k+1<9223372036854775808 by omega)];cases he:(l[k].2.2.1 != w) with
   |true =>refine⟨_,rfl,_,rfl,.inr ⟨k,rfl,hk,?_⟩⟩;rw[Zs Im,Bo2,h3];simp[he]
   |false =>refine ih (n-(k+1)) _ (by omega) ⟨k+1,rfl,by omega,rfl,?_⟩;rw[Zs Im,Bo2,h3];simp[he]
  ·have:k=n:=by omega
   subst this;simp only[dec_lt,Bl4 hk,Bko];exact⟨_,rfl,_,rfl,.inl ⟨rfl,h3⟩⟩
 ·exact⟨0,rfl,Bnm _,rfl,by simp⟩
theorem B0c(N n:Nat)(w:Int)(l:A2 Ev)(hn:n≤l.length)(hl:n≤1000000)(hN:1000000<N) :
  ∃(m:Nat) (c:A2 Ev),Ar N n w l=some ((m,()),(),(),c,())∧(n=l.length→m=c.length)∧c.take m=(l.take n).filter (fun e=>!(e.2.2.1 != w)):=by
 obtain⟨i,hi,hc⟩:=B5k N n w l hn hl hN;unfold Ar;simp only[hi,Bkp];rcases hc with ⟨rfl,h⟩|⟨i0,rfl,hi0,h⟩
 ·exact⟨n,l,rfl,id,h.symm⟩
 ·have hb:((i0:Int) == -1)=false:=by rw[Bp4];omega
  simp only[hb,Bko];rw[Ah (show i0+1<9223372036854775808 by omega)];have key:=G2 (σ:=(Int×Int×Unit)×Unit×Unit×A2 Ev×Unit) (R:=(Nat×Unit)×Unit×Unit×A2 Ev×Unit)
   (Q:=fun r=>∃(m:Nat) (c:A2 Ev),r=((m,()),(),(),c,())∧(n=l.length→m=c.length)∧c.take m=(l.take n).filter (fun e=>!(e.2.2.1 != w)))
   (f:=fun rec z =>
     bif decide (z.fst.snd.fst<(↑n:Int)) then
      bif decide (0≤z.fst.snd.fst)&&decide (z.fst.snd.fst<(↑n:Int)) then
       z.snd.snd.snd.fst[0+z.fst.snd.fst.toNat]?.bind fun(e:Ev) =>
        Option.bind (F6 N e w) fun(y:(Bool×Unit)×Unit×Unit×Unit) =>
         bif !y.fst.fst then
          bif decide (0≤z.fst.fst)&&decide (z.fst.fst<(↑n:Int)) then
           z.snd.snd.snd.fst[0+z.fst.fst.toNat]?.bind fun(Cr:Ev) =>
            rec
             ((i64.wrap (z.fst.fst+1),i64.wrap (z.fst.snd.fst+1),()),(),(),
              z.snd.snd.snd.fst.set (0+z.fst.fst.toNat) e,())
          else none
         else rec ((z.fst.fst,i64.wrap (z.fst.snd.fst+1),()),(),(),z.snd.snd.snd.fst,())
      else none
     else
      bif Lq z.fst.fst (↑n:Int) n then
       bif Lq 0 z.fst.fst n then
        some ((z.fst.fst.toNat-0,()),(),(),List.take (0+z.fst.fst.toNat) z.snd.snd.snd.fst,())
       else none
      else none)
   (fun r z=>∃(a j:Nat) (c:A2 Ev),z=(((a:Int),(j:Int),()),(),(),c,())∧a<j∧j≤n∧r=n-j∧c.length=l.length∧(∀t,j≤t→c[t]? = l[t]?)∧c.take a=(l.take j).filter (fun e=>!(e.2.2.1 != w))) ?_ N (n-(i0+1)) (((i0:Int),((i0+1:Nat):Int),()),(),(),l,()) ?_ (by omega)
  ·obtain⟨r,h1,m,c,rfl,h2⟩:=key;exact⟨m,c,h1,h2⟩
  ·rintro r z rec ⟨a,j,c,rfl,haj,hjn,rfl,hcl,hct,hca⟩ ih;by_cases hj:j<n
   ·have hjl:j<l.length:=by omega
    have hb1:decide (0≤(j:Int))=true:=by simp
    have hb2:decide (0≤(a:Int))=true:=by simp
    have han:a<n:=by omega
    have hcj:c[j]? = some l[j]:=by rw[hct _ (Bl1 _),Ci hjl]
    have hac:a<c.length:=by omega
    simp only[dec_lt,Bl6 hj,Bl6 han,Bkn,hb1,hb2,Bmo,Ed,Blx,hcj,Ci hac,Bkp,F6,Ah (show j+1<9223372036854775808 by omega),Ah (show a+1<9223372036854775808 by omega)];cases he:(l[j].2.2.1 != w) with
    |true =>simp only[Bn7,Bko];refine ih (n-(j+1)) _ (by omega) ⟨a,j+1,c,rfl,by omega,by omega,rfl,hcl,fun t ht=>hct t (by omega),?_⟩;rw[Zs hjl,Bo2,hca];simp[he]
    |false =>
     simp only[Bno,Bkn];refine ih (n-(j+1)) _ (by omega) ⟨a+1,j+1,c.set a l[j],rfl,by omega,by omega,rfl,by simpa using hcl,fun t ht=>?_,?_⟩
     ·rw[Bqh (by omega)];exact hct t (by omega)
     ·rw[Zs hjl,Bo2,← hca,Bmy,List.take_set_of_le (Bl1 _),Brq hac];simp[he]
   ·have:j=n:=by omega
    subst this;have hb1:Lq (a:Int) (j:Int) j=true:=by simp[Lq];omega
    have hb2:Lq 0 (a:Int) j=true:=by simp[Lq];omega
    simp only[dec_lt,Bl4 hj,Bko,hb1,hb2,Bkn,Ed,Blx,Bnu];refine⟨_,rfl,_,_,rfl,?_,?_⟩
    ·intro _;rw[Bm6];omega
    ·rw[List.take_take,Nat.min_self,hca]
  ·exact⟨i0,i0+1,l,rfl,by omega,by omega,rfl,rfl,fun _ _=>rfl,h.symm⟩
theorem Aws(N:Nat)(hN:0<N):Ak N=some ():=by
 have h1:Bv N 0 0=some ():=by
  unfold Bv;have e:i64.wrap (0+1)=1:=by decide
  rw[e];obtain⟨M,rfl⟩:∃M,N=M+1:=⟨N-1,by omega⟩;simp only[iter];rfl
 unfold Ak;have h2:E8 N 0=some ():=by unfold E8;obtain⟨M,rfl⟩:∃M,N=M+1:=⟨N-1,by omega⟩;simp only[iter];rw[Bl4 (by decide),Bko];rw[h1];simp only[Bkp];rw[Bl4 (by decide),Bko]
 rw[h2];rfl
def Ny(L:A2 Ev)(w:Int):A2 Ev:=Hc Yj (L.filter fun e=>e.2.2.1==w)
theorem A5i(N:Nat)(w:Int)(hN:1000000<N):As N w=some ((),(),(none,()),()):=by unfold As Fe;obtain⟨M,rfl⟩:∃M,N=M+1:=⟨N-1,by omega⟩;rfl
def ofO(L:A2 Ev)(w:Int):A3 (A2 Ev×Nat):=match L with
 |[]=>none
 |a::r=>some ((a::r).filter (fun e=>e.2.2.1==w),((a::r).filter fun e=>e.2.2.1==w).length)
theorem B9x(N:Nat)(L:A2 Ev)(w:Int)(hL:L.length≤1000)(hN:1000000<N) :
  (A4 (owE L) (Option.bind (As N w) fun(y:Unit×Unit×(A3 (A2 Ev×Nat)×Unit)×Unit) =>
    A4 y.snd.snd.fst.fst (some ((),(),((none:A3 (A2 Ev×Nat)),()),())) fun(y:A2 Ev×Nat)=>some ((),(),(some y,()),()))
   fun(z:A2 Ev×Nat)=>Option.bind (Ar N z.snd w z.fst) fun(y:(Nat×Unit)×Unit×Unit×A2 Ev×Unit) =>
    some ((),(),(some (y.snd.snd.snd.fst,y.fst.fst),()),()))=some ((),(),(ofO L w,()),()):=by
 cases L with
 |nil=>simp only[owE,A4,A5i N w hN,Bkp,ofO]
 |cons a r =>
  obtain⟨m,c,h1,h2,h3⟩:=B0c N (a::r).length w (a::r) (Bl1 _) (by omega) hN;have hm:=h2 rfl;subst hm;rw[Bm4,Bm4]at h3;have e:(fun e:Ev=>!(e.2.2.1 != w))=fun e:Ev=>e.2.2.1==w:=by funext e;cases h:(e.2.2.1==w)<;>simp[bne,h]
  rw[e]at h3;simp only[owE,A4,h1,Bkp,ofO,h3]
theorem Adv{x:BkC}(h:Abn x):(A1d x).length≤20:=by unfold A1d Un;rw[(Ep Nh _).1.length_eq,Blb];exact h.live.len
theorem Ag3(N:Nat)(L:A2 Ev)(w:Int)(hL:L.length≤20)(hN:1000000<N){R:Type}(g:A2 Ev→R) :
  (A4 (ofO L w) (Option.bind (Ak N) fun(y:Unit)=>some (g []))
   fun(y:A2 Ev×Nat)=>Option.bind (Ao N y.fst y.snd) fun(Bn:A2 Ev×Unit) =>
    bif bif (0+y.snd).ble Bn.fst.length then true else false then some (g (List.take y.snd (List.drop 0 Bn.fst)))else none)=some (g (Ny L w)):=by
 cases L with
 |nil=>simp only[ofO,A4,Aws N (by omega),Bkp];rfl
 |cons a r =>have hf:=Bmf (fun e:Ev=>e.2.2.1==w) (a::r);have hl:=Ud (lt:=Yj) ((a::r).filter fun e=>e.2.2.1==w);simp only[ofO,A4];rw[Aly N _ (by omega) (by omega)];have hb:(0+((a::r).filter fun e=>e.2.2.1==w).length).ble (Hc Yj ((a::r).filter fun e=>e.2.2.1==w)).length=true:=Bm3 (by omega);simp only[Bkp,hb,Bkn,Bo6];rw[← hl,Bm4];rfl
theorem B0d(N:Nat)(w:Int)(x:BkC)(h:Abn x)(hN:1000000<N):A0z N w x=some ((x,()),Ny (A1d x) w,()):=by
 have hlen:=Adv h;obtain⟨c,lv,tb,u⟩:=x;have hl:=h.live;have ow:∀L:A2 Ev,(A4 (owE L) (some ((),(),((none:A3 (A2 Ev×Nat)),()),())) fun(y:A2 Ev×Nat)=>some ((),(),(some y,()),()))=some ((),(),(owE L,()),()):=by intro L;cases L<;>rfl
 unfold A0z Pn Pl Pj Pg N2 N0 My Mw;cases lv with
 |none =>
  have e0:A1d (c,none,tb,u)=[]:=Abm;rw[e0];have t0:=B9x N [] w (by simp) hN;simp only[owE]at t0;cases tb with
  |none =>have t1:=Ag3 N [] w (by simp) hN (fun r=>((((c,none,none,()):BkC),()),r,()));simp only[A4,Ak9 N hN,Bkp,A5i N w hN];exact t1
  |some b =>have t1:=Ag3 N [] w (by simp) hN (fun r=>((((c,none,some b,()):BkC),()),r,()));simp only[A4,Ak9 N hN,Bkp,A5i N w hN];exact t1
 |some a =>
  have e0:A1d (c,some a,tb,u)=Un a.1:=rfl;rw[e0]at hlen⊢;have t0:=B9x N (Un a.1) w (by omega) hN;cases tb with
  |none =>
   have t1:=Ag3 N (Un a.1) w hlen hN (fun r=>((((c,some a,none,()):BkC),()),r,()));simp only[A4,(hl.list N hN).2,Bkp];cases hL:Un a.1 with
   |nil =>rw[hL]at t1;simp only[owE,A4,Bkp,A5i N w hN];exact t1
   |cons q r =>rw[hL]at t0 t1;simp only[owE,A4,Bkp]at t0⊢;rw[t0];exact t1
  |some b =>
   have t1:=Ag3 N (Un a.1) w hlen hN (fun r=>((((c,some a,some b,()):BkC),()),r,()));simp only[A4,(hl.list N hN).2,Bkp];cases hL:Un a.1 with
   |nil =>rw[hL]at t1;simp only[owE,A4,Bkp,A5i N w hN];exact t1
   |cons q r =>rw[hL]at t0 t1;simp only[owE,A4,Bkp]at t0⊢;rw[t0];exact t1
end Go.Proofs.Xg
