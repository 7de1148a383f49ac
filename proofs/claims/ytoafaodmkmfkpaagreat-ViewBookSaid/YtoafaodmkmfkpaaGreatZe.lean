import Derived.Test.YtoafaodmkmfkpaaGreatZd
import Derived.Test.YtoafaodmkmfkpaaGreatZc
import Derived.KernelRfl
import Derived.Test.YtoafaodmkmfkpaaGreatProg
import Derived.Test.YtoafaodmkmfkpaaGreatZa
set_option linter.all false
set_option maxRecDepth 100000
open Go.IntKind (i64 u64 u16)
open Go.Proofs.Tryz
noncomputable section
namespace Go.Proofs.Xg
open Go Go.Xl Go.Ab Go.Proofs
@[reducible] def tepitaphlaw18Act:Ty:=(.pair .u8 (.pair A8 (.sl Bb)))
@[reducible] def Ay:Ty:=(.pair (.sl Bb) (.sl A8))
variable(N:Nat)
def L3:Cw [(.sl Bn)] (A7 (Bd [(.sl Bn)])):=fun(x:Bvj)=>iter (fun(rec:Bv6×Unit×Bvb×Unit→A7 Bvj) (z:Bv6×Unit×Bvb×Unit)=>A9 z.2.2.1.1 (bif decide (z.1.1<(↑x.length:Int))then (at? x z.1.1).bind
 fun(e:Bv3)=>bif decide (0<e.1)then bif decide (e.1≤e.2)then bif decide (e.2≤281474976710655)then rec ((i64.wrap (z.1.1+1),()),(),(some ([e],[e].length),()),())else rec ((i64.wrap
 (z.1.1+1),()),(),(none,()),())else rec ((i64.wrap (z.1.1+1),()),(),(none,()),())else rec ((i64.wrap (z.1.1+1),()),(),(none,()),())else iter (fun(rec:Bv6×Unit×Bvn×Unit→A7 Bvj)
 (z:Bv6×Unit×Bvn×Unit)=>A9 z.2.2.1.1 (A9 z.2.2.1.2.1 (bif decide (z.1.1<0)then none else some []) fun(y:A6 Bv3×Nat)=>bif decide (z.1.1<0)then bif decide (0≤z.1.1)&&decide (z.1.1<(↑y.2:Int))then y.1[0+z.1.1.toNat]?.bind
 fun(e:Bv3)=>rec ((i64.wrap (z.1.1+1),()),(),(some ([e],[e].length),some y,()),())else none else some []) fun(y:A6 Bv3×Nat)=>A9 z.2.2.1.2.1 (bif decide (z.1.1<0)then none else bif bif (0+y.2).ble y.1.length
 then true else false then some (List.take y.2 (List.drop 0 y.1))else none) fun(B9:A6 Bv3×Nat)=>bif decide (z.1.1<0)then bif decide (0≤z.1.1)&&decide (z.1.1<(↑B9.2:Int))then B9.1[0+z.1.1.toNat]?.bind fun(e:Bv3)=>bif
 decide (0≤i64.wrap ((↑y.2:Int)-1))then bif decide (0≤i64.wrap ((↑y.2:Int)-1))&&decide (i64.wrap ((↑y.2:Int)-1)<(↑y.2:Int))then y.1[0+(i64.wrap ((↑y.2:Int)-1)).toNat]?.bind
 fun(Dt:Bv3)=>bif decide (e.1≤u64.wrap (Dt.2+1))then bif decide (0≤i64.wrap ((↑y.2:Int)-1))&&decide (i64.wrap ((↑y.2:Int)-1)<(↑y.2:Int))then y.1[0+(i64.wrap ((↑y.2:Int)-1)).toNat]?.bind
 fun(e_2:Bv3)=>bif decide (0≤i64.wrap ((↑y.2:Int)-1))&&decide (i64.wrap ((↑y.2:Int)-1)<(↑y.2:Int))then y.1[0+(i64.wrap ((↑y.2:Int)-1)).toNat]?.bind fun(e_3:Bv3)=>rec ((i64.wrap
 (z.1.1+1),()),(),(some (y.1.set (0+(i64.wrap ((↑y.2:Int)-1)).toNat) (e_3.1,bif false then if e.2<e_2.2 then e.2 else e_2.2 else if e.2>e_2.2 then e.2 else e_2.2),y.2),some B9,()),())else none else none else bif
 y.1.length.beq y.2 then bif Au (y.2 + [e].length) 16 then rec ((i64.wrap (z.1.1+1),()),(),(some (y.1++[e],y.2 + [e].length),some B9,()),())else none else none else none else bif y.1.length.beq y.2 then bif Au
 (y.2 + [e].length) 16 then rec ((i64.wrap (z.1.1+1),()),(),(some (y.1++[e],y.2 + [e].length),some B9,()),())else none else none else none else bif bif (0+y.2).ble y.1.length then true else false then some
 (List.take y.2 (List.drop 0 y.1))else none) N ((0,()),(),(none,none,()),())) fun(y:A6 Bv3×Nat)=>bif decide (z.1.1<(↑x.length:Int))then (at? x z.1.1).bind fun(e:Bv3)=>bif decide (0<e.1)then bif decide (e.1≤e.2)then bif
 decide (e.2≤281474976710655)then bif y.1.length.beq y.2 then bif Au (y.2 + [e].length) 16 then rec ((i64.wrap (z.1.1+1),()),(),(some (y.1++[e],y.2 + [e].length),()),())else none else none else rec
 ((i64.wrap (z.1.1+1),()),(),(some y,()),())else rec ((i64.wrap (z.1.1+1),()),(),(some y,()),())else rec ((i64.wrap (z.1.1+1),()),(),(some y,()),())else bif y.2.ble y.1.length then bif y.2.ble
 4611686018427387903 then iter (fun(rec:Bv6×Unit×Bvn×Unit→A7 Bvj) (z:Bv6×Unit×Bvn×Unit)=>A9 z.2.2.1.1 (A9 z.2.2.1.2.1 (bif decide (z.1.1<(↑y.2:Int))then none else some []) fun(B9:A6 Bv3×Nat)=>bif decide
 (z.1.1<(↑y.2:Int))then bif decide (0≤z.1.1)&&decide (z.1.1<(↑B9.2:Int))then B9.1[0+z.1.1.toNat]?.bind fun(e:Bv3)=>rec ((i64.wrap (z.1.1+1),()),(),(some ([e],[e].length),some B9,()),())else none else some [])
 fun(B9:A6 Bv3×Nat)=>A9 z.2.2.1.2.1 (bif decide (z.1.1<(↑y.2:Int))then none else bif bif (0+B9.2).ble B9.1.length then true else false then some (List.take B9.2 (List.drop 0 B9.1))else none) fun(Lo:A6 Bv3×Nat)=>bif
 decide (z.1.1<(↑y.2:Int))then bif decide (0≤z.1.1)&&decide (z.1.1<(↑Lo.2:Int))then Lo.1[0+z.1.1.toNat]?.bind fun(e:Bv3)=>bif decide (0≤i64.wrap ((↑B9.2:Int)-1))then bif decide (0≤i64.wrap
 ((↑B9.2:Int)-1))&&decide (i64.wrap ((↑B9.2:Int)-1)<(↑B9.2:Int))then B9.1[0+(i64.wrap ((↑B9.2:Int)-1)).toNat]?.bind fun(Dt:Bv3)=>bif decide (e.1≤u64.wrap (Dt.2+1))then bif decide
 (0≤i64.wrap ((↑B9.2:Int)-1))&&decide (i64.wrap ((↑B9.2:Int)-1)<(↑B9.2:Int))then B9.1[0+(i64.wrap ((↑B9.2:Int)-1)).toNat]?.bind fun(e_2:Bv3)=>bif decide (0≤i64.wrap
 ((↑B9.2:Int)-1))&&decide (i64.wrap ((↑B9.2:Int)-1)<(↑B9.2:Int))then B9.1[0+(i64.wrap ((↑B9.2:Int)-1)).toNat]?.bind fun(e_3:Bv3)=>rec ((i64.wrap (z.1.1+1),()),(),(some (B9.1.set
 (0+(i64.wrap ((↑B9.2:Int)-1)).toNat) (e_3.1,bif false then if e.2<e_2.2 then e.2 else e_2.2 else if e.2>e_2.2 then e.2 else e_2.2),B9.2),some Lo,()),())else none else none else bif B9.1.length.beq B9.2 then bif
 Au (B9.2 + [e].length) 16 then rec ((i64.wrap (z.1.1+1),()),(),(some (B9.1++[e],B9.2 + [e].length),some Lo,()),())else none else none else none else bif B9.1.length.beq B9.2 then bif Au (B9.2 + [e].length) 16
 then rec ((i64.wrap (z.1.1+1),()),(),(some (B9.1++[e],B9.2 + [e].length),some Lo,()),())else none else none else none else bif bif (0+B9.2).ble B9.1.length then true else false then some (List.take B9.2
 (List.drop 0 B9.1))else none) N ((0,()),(),(none,some (E0 (List.take y.2 y.1)++List.drop y.2 y.1,y.2),()),())else none else none) N ((0,()),(),(none,()),())
def A4d:=Cn [X8 N,Ami N] [34,75] N 83 (A5 (A5 (.seq (A5 (.blk (.loop ⟨[(12,.d A4)],[],[10,11],[],[(3,400003,Bn)],[]⟩ .lf))) (A5 (A5 (.seq (A5 (.blk (.loop ⟨[(40,.d A4)],[],[39],[],[(6,400006,Bn),(38,400038,Bn)],[]⟩ .lf))) .lf)))))) [(.sl Bn)] [(.sl Bn)] (L3 N) mixed func83 rfl (by decide) rfl (by kernel_rfl)
@[reducible] def A4e:H8:=⟨[.p 1 777777777],[],[(1,.map (.int .u16) (.sl Bn))],⟨[(2,.d (.sl Bb))],[],[],[1],[],[]⟩⟩
def Yq:H8.Cw A4e (A7 A4e.out.T):=fun(l:A6 (Nat×Int×A6 Bv3)×Nat)=>iter (fun(rec:Unit×Unit×(A7 (A6 Bv7×Nat)×Unit)×Bvh×Unit→A7 ((A6 Bv7×Unit)×Unit×Unit×Unit)) (z:Unit×Unit×(Option
 (A6 Bv7×Nat)×Unit)×Bvh×Unit)=>A9 z.2.2.1.1 (bif Rz z.2.2.2.1.1 z.2.2.2.1.2.2 l.1 then Ke (Bx z.2.2.2.1.2.1 l.1) (some (([],()),(),(),())) fun(e:Nat×Int×A6 Bv3)=>bif l.2.beq l.2 then A9 (I6 (z.2.2.2.1.2.1++[e.1]))
 none fun(p:A6 Nat×Nat)=>A9 (Jt (Ty.int u16) Bn.sl p.2 l.1) none fun(Dt:Nat×Int×A6 Bv3)=>Option.bind (L3 N Dt.2.2) fun(y:Bvj)=>bif decide (0<(↑y.length:Int))then rec ((),(),(some
 ([(Dt.2.1,y)],[(Dt.2.1,y)].length),()),(z.2.2.2.1.1,z.2.2.2.1.2.1++[e.1],l.2),())else rec ((),(),(none,()),(z.2.2.2.1.1,z.2.2.2.1.2.1++[e.1],l.2),())else none else none) fun(y:A6 Bv7×Nat)=>bif Rz z.2.2.2.1.1
 z.2.2.2.1.2.2 l.1 then Ke (Bx z.2.2.2.1.2.1 l.1) (bif y.2.ble y.1.length then bif y.2.ble 4611686018427387903 then bif A4c (List.take y.2 y.1)then bif bif (0+y.2).ble (Py (List.take y.2 y.1)++List.drop y.2 y.1).length
 then true else false then some ((List.take y.2 (List.drop 0 (Py (List.take y.2 y.1)++List.drop y.2 y.1)),()),(),(),())else none else none else none else none) fun(e:Nat×Int×A6 Bv3)=>bif l.2.beq l.2 then A9 (I6
 (z.2.2.2.1.2.1++[e.1])) none fun(p:A6 Nat×Nat)=>A9 (Jt (Ty.int u16) Bn.sl p.2 l.1) none fun(Dt:Nat×Int×A6 Bv3)=>Option.bind (L3 N Dt.2.2) fun(B9:Bvj)=>bif decide (0<(↑B9.length:Int))then bif y.1.length.beq
 y.2 then bif Au (y.2 + [(Dt.2.1,B9)].length) 32 then rec ((),(),(some (y.1++[(Dt.2.1,B9)],y.2 + [(Dt.2.1,B9)].length),()),(z.2.2.2.1.1,z.2.2.2.1.2.1++[e.1],l.2),())else none else none else rec ((),(),(some
 y,()),(z.2.2.2.1.1,z.2.2.2.1.2.1++[e.1],l.2),())else none else none) N ((),(),(none,()),(l.2,[],l.2),())
def Awq:=K1 [A4d N,X9 N,Amj N] [23] N 46 (A5 (A5 (.seq (A5 (.blk (.loop ⟨[],[],[7],[1],[(3,400003,Bb)],[(1007,.Kn 1)]⟩ .lf))) (.fz [3] .lf .lf)))) A4e (Yq N) mixed func46 rfl (by decide) rfl rfl rfl (by kernel_rfl)
@[reducible] def A8x:H8:=⟨[.d (.sl Bb)],[],[],⟨[(2,.p 1006 777777777)],[],[],[],[],[(1006,.map (.int .u16) (.sl Bn))]⟩⟩
def T1:H8.Cw A8x (A7 A8x.out.T):=fun(y:A6 Bv7)=>iter (fun(rec:Bv6×Unit×Unit×(A6 (Nat×Int×Bool×A6 Bv3)×Nat)×Unit→A7 (Bvq×Unit×Unit×(A6 (Nat×Int×A6 Bv3)×Nat)×Unit))
 (z:Bv6×Unit×Unit×(A6 (Nat×Int×Bool×A6 Bv3)×Nat)×Unit)=>bif decide (z.1.1<(↑y.length:Int))then (at? y z.1.1).bind fun(e:Bv7)=>bif decide (0<e.1)then bif Aqv (Ty.int u16) Bn e.1 z.2.2.2.1.1 then bif Au ((Af3
 (Ty.int u16) Bn e.1 z.2.2.2.1.1).length+e.2.length) 16 then rec ((i64.wrap (z.1.1+1),()),(),(),(Bet (Ty.int u16) Bn e.1 (Af3 (Ty.int u16) Bn e.1 z.2.2.2.1.1++e.2) true z.2.2.2.1.2 (B26
 (Ty.int u16) Bn e.1 z.2.2.2.1.1),B28 (Ty.int u16) Bn.sl e.1 (Agh (Ty.int u16) Bn (B26 (Ty.int u16) Bn e.1 z.2.2.2.1.1)) z.2.2.2.1.2),())else none else none else rec ((i64.wrap
 (z.1.1+1),()),(),(),z.2.2.2.1,())else some (((),()),(),(),(Agh (Ty.int u16) Bn z.2.2.2.1.1,z.2.2.2.1.2),())) N ((0,()),(),(),([],0),())
def Aka:=K1 [] [6] N 47 (A5 (A5 (.fg (A5 (.blk (.loop ⟨[(9,.d A4)],[],[3,7,8],[],[],[(1006,.Cx 501006 (.int .u16) Bn)]⟩ .lf))) .lf))) A8x (T1 N) mixed func47 rfl (by decide) rfl rfl rfl (by kernel_rfl)
def Xa:Cw [(.sl Bb)] (A7 (Bd [(.sl Bb)])):=fun(x:A6 Bv7)=>Option.bind (T1 N x) fun(y:Bvq×Unit×Unit×(A6 (Nat×Int×A6 Bv3)×Nat)×Unit)=>Option.bind (Yq N y.2.2.2.1) fun(y:(List
 Bv7×Unit)×Unit×Unit×Unit)=>some y.1.1
def Akb:=Cn [Awq N,Aka N] [] N 19 .lf [(.sl Bb)] [(.sl Bb)] (Xa N) mixed func19 rfl (by decide) rfl (by kernel_rfl)
def Hc:Cw [(.sl Bn),(.sl Bn)] (A7 (Bd [.bool])):=fun(x Bh:Bvj)=>bif (↑x.length:Int) != (↑Bh.length:Int)then some false else iter (fun(rec:Bv6×Unit×Unit×Unit→A7 Bool)
 (z:Bv6×Unit×Unit×Unit)=>bif decide (z.1.1<(↑x.length:Int))then (at? x z.1.1).bind fun(e:Bv3)=>(at? Bh z.1.1).bind fun(Dt:Bv3)=>bif !(e.1==Dt.1&&e.2==Dt.2)then some false else rec ((i64.wrap
 (z.1.1+1),()),(),(),())else some true) N ((0,()),(),(),())
def A0r:=Cn [] [] N 93 (A5 (A5 (.seq (A5 (.blk (.loop ⟨[(13,.d A4)],[],[0,1,12],[],[],[]⟩ .lf))) .lf))) [(.sl Bn),(.sl Bn)] [.bool] (Hc N) mixed func93 rfl (by decide) rfl (by kernel_rfl)
def Xb:Cw [Bb,Bb] (A7 (Bd [.bool])):=fun(x Bh:Bv7)=>bif x.1==Bh.1 then Option.bind (Hc N x.2 Bh.2) fun(y:Bool)=>some y else some false
def Akc:=Cn [A0r N] [] N 92 .lf [Bb,Bb] [.bool] (Xb N) mixed func92 rfl (by decide) rfl (by kernel_rfl)
@[reducible] def Ec:H8:=⟨[.d (.sl Bb),.d (.sl Bb),.Ek 92 []],[],[],⟨[(6,.d .bool)],[],[],[],[],[]⟩⟩
def Ed:H8.Cw Ec (A7 Ec.out.T):=fun(y B9:A6 Bv7)=>bif (↑y.length:Int) != (↑B9.length:Int)then some ((false,()),(),(),())else iter (fun(rec:Bv6×Unit×Unit×Unit→A7 (Bvk×Unit×Unit×Unit))
 (z:Bv6×Unit×Unit×Unit)=>bif decide (z.1.1<(↑y.length:Int))then (at? y z.1.1).bind fun(e:Bv7)=>(at? B9 z.1.1).bind fun(Dt:Bv7)=>Option.bind (Xb N e Dt) fun(y:Bool)=>bif !y then some ((false,()),(),(),())else rec
 ((i64.wrap (z.1.1+1),()),(),(),())else some ((true,()),(),(),())) N ((0,()),(),(),())
def P2:=K1 [Akc N] [] N 91 (A5 (A5 (.seq (A5 (.blk (.loop ⟨[(17,.d A4)],[],[1,2,15,16],[],[],[]⟩ .lf))) .lf))) Ec (Ed N) mixed func91 rfl (by decide) rfl rfl rfl (by kernel_rfl)
def Abv:Cw [(.sl Bb),(.sl Bb)] (A7 (Bd [.bool])):=fun(x Bh:A6 Bv7)=>Option.bind (Ed N x Bh) fun(y:Bvk×Unit×Unit×Unit)=>some y.1.1
def Bar:=Cn [P2 N,Akc N] [] N 57 .lf [(.sl Bb),(.sl Bb)] [.bool] (Abv N) mixed func57 rfl (by decide) rfl (by kernel_rfl)
def Nl:Cw [(.sl Bb)] (A7 (Bd [.bool])):=fun(x:A6 Bv7)=>Option.bind (Xa N x) fun(y:A6 Bv7)=>Option.bind (Abv N x y) fun(y:Bool)=>some y
def B0n:=Cn [Akb N,Bar N] [] N 24 .lf [(.sl Bb)] [.bool] (Nl N) mixed func24 rfl (by decide) rfl (by kernel_rfl)
def Rt:Cw [Bn,(.int .u64)] (A7 (Bd [A4])):=fun(x:Bv3) (Bh:Int)=>Option.bind (C0 N x.2 Bh) fun(y:Int)=>some y
def Abw:=Cn [Fa N] [] N 156 .lf [Bn,(.int .u64)] [A4] (Rt N) mixed func156 rfl (by decide) rfl (by kernel_rfl)
@[reducible] def Dc:H8:=⟨[.d (.sl Bn),.d (.int .u64),.Ek 156 []],[],[],⟨[(6,.d A4),(7,.d .bool)],[],[],[],[],[]⟩⟩
def Bt:H8.Cw Dc (A7 Dc.out.T):=fun(y:Bvj) (B9:Int)=>iter (fun(rec:Bvc×Unit×Unit×Unit→A7 ((Int×Bool×Unit)×Unit×Unit×Unit)) (z:Bvc×Unit×Unit×Unit)=>bif decide (z.1.1<z.1.2.1)then (at? y
 (i64.wrap ((u64.wrap (i64.wrap (z.1.1+z.1.2.1))).fdiv 2))).bind fun(e:Bv3)=>Option.bind (Rt N e B9) fun(y:Int)=>bif decide (y<0)then rec ((i64.wrap (i64.wrap ((u64.wrap
 (i64.wrap (z.1.1+z.1.2.1))).fdiv 2)+1),z.1.2.1,()),(),(),())else rec ((z.1.1,i64.wrap ((u64.wrap (i64.wrap (z.1.1+z.1.2.1))).fdiv 2),()),(),(),())else bif decide
 (z.1.1<(↑y.length:Int))then (at? y z.1.1).bind fun(e:Bv3)=>Option.bind (Rt N e B9) fun(y:Int)=>some ((z.1.1,y==0,()),(),(),())else some ((z.1.1,false,()),(),(),())) N ((0,(↑y.length:Int),()),(),(),())
def Mb:=K1 [Abw N] [] N 155 (A5 (A5 (A5 (.seq (.blk (.loop ⟨[(9,.d A4),(10,.d A4)],[],[0,1,2,8],[],[],[]⟩ .lf)) .lf)))) Dc (Bt N) mixed func155 rfl (by decide) rfl rfl rfl (by kernel_rfl)
def A23:Cw [(.sl Bn),(.int .u64)] (A7 (Bd [.bool])):=fun(x:Bvj) (Bh:Int)=>Option.bind (L3 N x) fun(y:Bvj)=>Option.bind (Bt N y Bh) fun(B9:(Int×Bool×Unit)×Unit×Unit×Unit)=>bif decide
 (B9.1.1<(↑y.length:Int))then (at? y B9.1.1).bind fun(e:Bv3)=>some (decide (e.1≤Bh))else some false
def B0o:=Cn [Mb N,Abw N,A4d N] [] N 119 .lf [(.sl Bn),(.int .u64)] [.bool] (A23 N) mixed func119 rfl (by decide) rfl (by kernel_rfl)
def A8y:Cw [(.sl Bb),(.int .u16)] (A7 (Bd [(.sl Bn)])):=fun(x:A6 Bv7) (Bh:Int)=>Option.bind (T1 N x) fun(y:Bvq×Unit×Unit×(A6 (Nat×Int×A6 Bv3)×Nat)×Unit)=>Option.bind (L3 N ((B27 (Ty.int
 u16) Bn.sl Bh y.2.2.2.1.1).getD [])) fun(y:Bvj)=>some y
def B0p:=Cn [Aka N,A4d N] [] N 120 .lf [(.sl Bb),(.int .u16)] [(.sl Bn)] (A8y N) mixed func120 rfl (by decide) rfl (by kernel_rfl)
def A68:Cw [(.sl Bb),Al] (A7 (Bd [.bool])):=fun(x:A6 Bv7) (Bh:Bv3)=>bif decide (0<Bh.1)then Option.bind (A8y N x Bh.1) fun(y:Bvj)=>Option.bind (A23 N y Bh.2) fun(y:Bool)=>some y else some false
def B6a:=Cn [B0o N,B0p N] [] N 94 .lf [(.sl Bb),Al] [.bool] (A68 N) mixed func94 rfl (by decide) rfl (by kernel_rfl)
def Hd:Cw [(.sl Al),Al] (A7 (Bd [A4])):=fun(x:Bvj) (Bh:Bv3)=>iter (fun(rec:Bv6×Unit×Unit×Unit→A7 Int) (z:Bv6×Unit×Unit×Unit)=>bif decide (z.1.1<(↑x.length:Int))then (at? x
 z.1.1).bind fun(e:Bv3)=>bif Bh.1==e.1&&Bh.2==e.2 then some z.1.1 else rec ((i64.wrap (z.1.1+1),()),(),(),())else some (-1)) N ((0,()),(),(),())
def A0s:=Cn [] [] N 154 (A5 (.seq (A5 (.blk (.loop ⟨[(8,.d A4)],[],[0,3,7],[1003],[],[]⟩ .lf))) .lf)) [(.sl Al),Al] [A4] (Hd N) mixed func154 rfl (by decide) rfl (by kernel_rfl)
def Ii:Cw [(.sl Al),Al] (A7 (Bd [.bool])):=fun(x:Bvj) (Bh:Bv3)=>Option.bind (Hd N x Bh) fun(y:Int)=>some (decide (0≤y))
def Xd:=Cn [A0s N] [] N 118 .lf [(.sl Al),Al] [.bool] (Ii N) mixed func118 rfl (by decide) rfl (by kernel_rfl)
def A69:Cw [(.sl Al),Al] (A7 (Bd [.bool])):=fun(x:Bvj) (Bh:Bv3)=>Option.bind (Ii N x Bh) fun(y:Bool)=>some y
def B6b:=Cn [Xd N] [] N 89 .lf [(.sl Al),Al] [.bool] (A69 N) mixed func89 rfl (by decide) rfl (by kernel_rfl)
def Tf:Cw [A8,Al] (A7 (Bd [.bool])):=fun(x:Bv3×UInt8×Int×UInt8×A6 UInt8×A6 Bv3) (Bh:Bv3)=>Option.bind (A69 N x.2.2.2.2.2 Bh) fun(y:Bool)=>some y
def Aml:=Cn [B6b N] [] N 55 .lf [A8,Al] [.bool] (Tf N) mixed func55 rfl (by decide) rfl (by kernel_rfl)
def Dp:Cw [(.sl A8),Al] (A7 (Bd [.bool])):=fun(x:A6 Bv1) (Bh:Bv3)=>iter (fun(rec:Bv6×Unit×Unit×Unit→A7 Bool) (z:Bv6×Unit×Unit×Unit)=>bif decide (z.1.1<(↑x.length:Int))then (at? x
 z.1.1).bind fun(e:Bv3×UInt8×Int×UInt8×A6 UInt8×A6 Bv3)=>Option.bind (Tf N e Bh) fun(y:Bool)=>bif y then some true else rec ((i64.wrap (z.1.1+1),()),(),(),())else some false) N ((0,()),(),(),())
def Asl:=Cn [Aml N] [] N 22 (A5 (.seq (A5 (.blk (.loop ⟨[(9,.d A4)],[],[3,7,8],[1003],[],[]⟩ .lf))) .lf)) [(.sl A8),Al] [.bool] (Dp N) mixed func22 rfl (by decide) rfl (by kernel_rfl)
def T2:Cw [(.sl Al)] (A7 (Bd [(.sl Al)])):=fun(x:Bvj)=>(Fl x (some none) fun(y:Xg.Al.T) (r:A6 Xg.Al.T)=>bif Au (y::r).length 16 then some (some (y::r,(y::r).length))else none).bind fun(y:Option
 (A6 Bv3×Nat))=>A9 y (Option.bind (Nk N) fun(y:Bvj)=>some y) fun(z:A6 Bv3×Nat)=>bif z.2.ble z.1.length then bif z.2.ble 4611686018427387903 then Option.bind (G8 N (Dz (List.take z.2 z.1)++List.drop z.2 z.1) z.2)
 fun(y:A6 Bv3×Nat)=>bif bif (0+y.2).ble y.1.length then true else false then some (List.take y.2 (List.drop 0 y.1))else none else none else none
def Akd:=Cn [A0o N,A0p N,X7 N,Y0 N] [] N 59 .lf [(.sl Al)] [(.sl Al)] (T2 N) mixed func59 rfl (by decide) rfl (by kernel_rfl)
def Vp:Cw [(.sl Al),(.sl Bb),.bool] (A7 (Bd [(.sl Al)])):=fun(x:Bvj) (Bh:A6 Bv7) (Ku:Bool)=>iter (fun(rec:Bvf×Unit×Unit×Unit→A7 Bvj) (z:Bvf×Unit×Unit×Unit)=>bif decide
 (z.1.2.1<(↑x.length:Int))then (at? x z.1.2.1).bind fun(e:Bv3)=>Option.bind (A68 N Bh e) fun(y:Bool)=>bif y==Ku then bif Au (z.1.1.length + [e].length) 16 then rec ((z.1.1++[e],i64.wrap
 (z.1.2.1+1),()),(),(),())else none else rec ((z.1.1,i64.wrap (z.1.2.1+1),()),(),(),())else Option.bind (T2 N z.1.1) fun(y:Bvj)=>some y) N (([],0,()),(),(),())
def Asm:=Cn [Akd N,B6a N] [] N 58 (A5 (A5 (.seq (A5 (.blk (.loop ⟨[(7,.Cv 200007 Al none),(12,.d A4)],[],[1,2,10,11],[],[],[]⟩ .lf))) .lf))) [(.sl Al),(.sl Bb),.bool] [(.sl Al)] (Vp N) mixed func58 rfl (by decide) rfl (by kernel_rfl)
def Lr:Cw [(.sl Al),(.sl Bb)] (A7 (Bd [(.sl Al)])):=fun(x:Bvj) (Bh:A6 Bv7)=>Option.bind (Vp N x Bh false) fun(y:Bvj)=>some y
def Asn:=Cn [Asm N] [] N 25 .lf [(.sl Al),(.sl Bb)] [(.sl Al)] (Lr N) mixed func25 rfl (by decide) rfl (by kernel_rfl)
def T3(N:Nat):Cw [Al] (A7 (Bd [.bool])):=fun(x:Bv3)=>bif decide (0<x.1)then bif decide (0<x.2)then some (decide (x.2≤281474976710655))else some false else some false
def Ake:=Cn [] [] N 49 .lf [Al] [.bool] (T3 N) mixed func49 rfl (by decide) rfl (by kernel_rfl)
def Zi(N:Nat):Cw [(.int .u64)] (A7 (Bd [(.int .u16),(.int .u64)])):=fun(x:Int)=>some (u16.wrap (x.fdiv 281474976710656),bits BinOp.and u64 x 281474976710655)
def Amm:=Cn [] [] N 86 .lf [(.int .u64)] [(.int .u16),(.int .u64)] (Zi N) mixed func86 rfl (by decide) rfl (by kernel_rfl)
def A24:Cw [(.int .u64)] (A7 (Bd [Al,.bool])):=fun(x:Int)=>Option.bind (Zi N x) fun(y:Bv3)=>Option.bind (T3 N y) fun(B9:Bool)=>bif !B9 then some ((0,0),false)else some (y,true)
def Aso:=Cn [Ake N,Amm N] [] N 48 .lf [(.int .u64)] [Al,.bool] (A24 N) mixed func48 rfl (by decide) rfl (by kernel_rfl)
def Vq(N:Nat):Cw [.u8] (A7 (Bd [.bool])):=fun(x:UInt8)=>bif decide (1≤x)then some (decide (x≤5))else some false
def Asp:=Cn [] [] N 50 .lf [.u8] [.bool] (Vq N) mixed func50 rfl (by decide) rfl (by kernel_rfl)
def Vr:Cw [.str] (A7 (Bd [.bool])):=fun(x:Bvi)=>bif decide (60<(↑x.length:Int))then some false else iter (fun(rec:Bv6×Unit×Unit×Unit→A7 Bool) (z:Bv6×Unit×Unit×Unit)=>bif decide
 (z.1.1<(↑x.length:Int))then (at? x z.1.1).bind fun(c:UInt8)=>bif decide (c<32)then some false else (at? x z.1.1).bind fun(c:UInt8)=>bif decide (126<c)then some false else rec ((i64.wrap
 (z.1.1+1),()),(),(),())else some true) N ((0,()),(),(),())
def Asq:=Cn [] [] N 51 (A5 (A5 (.seq (A5 (.blk (.loop ⟨[(9,.d A4)],[],[0,8],[],[],[]⟩ .lf))) .lf))) [.str] [.bool] (Vr N) mixed func51 rfl (by decide) rfl (by kernel_rfl)
def Ru:Cw [(.sl Al)] (A7 (Bd [.bool])):=fun(x:Bvj)=>iter (fun(rec:Bv6×Unit×Unit×Unit→A7 Bool) (z:Bv6×Unit×Unit×Unit)=>bif decide (z.1.1<(↑x.length:Int))then bif decide (0<z.1.1)then (at? x
 (i64.wrap (z.1.1-1))).bind fun(e:Bv3)=>(at? x z.1.1).bind fun(Dt:Bv3)=>Option.bind (Kh N e Dt) fun(y:Int)=>bif decide (0≤y)then some false else rec ((i64.wrap (z.1.1+1),()),(),(),())else rec
 ((i64.wrap (z.1.1+1),()),(),(),())else some true) N ((0,()),(),(),())
def Asr:=Cn [A0o N] [] N 52 (A5 (.seq (A5 (.blk (.loop ⟨[(6,.d A4)],[],[0,5],[],[],[]⟩ .lf))) .lf)) [(.sl Al)] [.bool] (Ru N) mixed func52 rfl (by decide) rfl (by kernel_rfl)
def Jh:Cw [A8] (A7 (Bd [.bool])):=fun(x:Bv3×UInt8×Int×UInt8×A6 UInt8×A6 Bv3)=>Option.bind (A24 N x.2.2.1) fun(y:Bv3×Bool)=>bif !y.2 then some false else Option.bind (T3 N x.1)
 fun(y:Bool)=>bif !y then some false else Ar (fun(z:Unit×Unit×Unit×Unit)=>bif decide (256<(↑x.2.2.2.2.2.length:Int))then some false else Option.bind (Ru N x.2.2.2.2.2) fun(y:Bool)=>bif !y then some false else iter
 (fun(rec:Bv6×Unit×Unit×Unit→A7 Bool) (z:Bv6×Unit×Unit×Unit)=>bif decide (z.1.1<(↑x.2.2.2.2.2.length:Int))then (at? x.2.2.2.2.2 z.1.1).bind fun(e:Bv3)=>Option.bind (T3 N e) fun(y:Bool)=>bif !y then some false else
 bif e.1==x.1.1&&e.2==x.1.2 then some false else rec ((i64.wrap (z.1.1+1),()),(),(),())else some true) N ((0,()),(),(),())) fun(k:Unit×Unit×Unit×Unit→A7 Bool)=>bif x.2.1==1 then Option.bind (Vq N x.2.2.2.1)
 fun(y:Bool)=>bif !y then some false else Option.bind (Vr N x.2.2.2.2.1) fun(y:Bool)=>bif !y then some false else k ((),(),(),())else bif x.2.1==2 then bif x.2.2.2.1 != 0 then some false else bif x.2.2.2.2.1 != []then
 some false else k ((),(),(),())else some false
def Ass:=Cn [Aso N,Ake N,Asp N,Asq N,Asr N] [] N 20 (A5 (A5 (.join ⟨[],[],[1],[1001],[],[]⟩ .lf (A5 (.seq (A5 (.blk (.loop ⟨[(58,.d A4)],[],[1,56,57],[1001],[],[]⟩ .lf))) .lf))))) [A8] [.bool] (Jh N) mixed func20 rfl (by decide) rfl (by kernel_rfl)
def Ji:Cw [(.sl A8)] (A7 (Bd [(.sl Al)])):=fun(x:A6 Bv1)=>iter (fun(rec:Bvf×Unit×Unit×Unit→A7 Bvj) (z:Bvf×Unit×Unit×Unit)=>bif decide (z.1.2.1<(↑x.length:Int))then (at? x z.1.2.1).bind
 fun(e:Bv3×UInt8×Int×UInt8×A6 UInt8×A6 Bv3)=>bif Au (z.1.1.length + [e.1].length) 16 then bif Au ((z.1.1++[e.1]).length+e.2.2.2.2.2.length) 16 then rec ((z.1.1++[e.1]++e.2.2.2.2.2,i64.wrap
 (z.1.2.1+1),()),(),(),())else none else none else Option.bind (T2 N z.1.1) fun(y:Bvj)=>some y) N (([],0,()),(),(),())
def Ast:=Cn [Akd N] [] N 26 (A5 (A5 (.seq (A5 (.blk (.loop ⟨[(3,.Cv 200003 Al none),(8,.d A4)],[],[6,7],[],[],[]⟩ .lf))) .lf))) [(.sl A8)] [(.sl Al)] (Ji N) mixed func26 rfl (by decide) rfl (by kernel_rfl)
def Bq:Cw [A8] (A7 (Bd [A8])):=fun(x:Bv3×UInt8×Int×UInt8×A6 UInt8×A6 Bv3)=>Option.bind (G9 N x.2.2.2.2.2) fun(y:Bvj)=>some (x.1,x.2.1,x.2.2.1,x.2.2.2.1,x.2.2.2.2.1,y)
def Gq:=Cn [Y1 N] [] N 56 .lf [A8] [A8] (Bq N) mixed func56 rfl (by decide) rfl (by kernel_rfl)
def Ij:Cw [(.sl A8),A4] (A7 (Bd [.bool])):=fun(x:A6 Bv1) (Bh:Int)=>bif decide (Bh<(↑x.length:Int))then some false else iter (fun(rec:Bv6×Unit×Unit×Unit→A7 Bool)
 (z:Bv6×Unit×Unit×Unit)=>bif decide (z.1.1<(↑x.length:Int))then (at? x z.1.1).bind fun(e:Bv3×UInt8×Int×UInt8×A6 UInt8×A6 Bv3)=>bif decide (300<(↑e.2.2.2.2.2.length:Int))then some false else (at? x z.1.1).bind
 fun(e:Bv3×UInt8×Int×UInt8×A6 UInt8×A6 Bv3)=>bif decide (200<(↑e.2.2.2.2.1.length:Int))then some false else rec ((i64.wrap (z.1.1+1),()),(),(),())else some true) N ((0,()),(),(),())
def A8z:=Cn [] [] N 12 (A5 (A5 (.seq (A5 (.blk (.loop ⟨[(5,.d A4)],[],[0],[],[],[]⟩ .lf))) .lf))) [(.sl A8),A4] [.bool] (Ij N) mixed func12 rfl (by decide) rfl (by kernel_rfl)
def Ik:Cw [(.sl Bb)] (A7 (Bd [.bool])):=fun(x:A6 Bv7)=>bif decide (30<(↑x.length:Int))then some false else iter (fun(rec:Bv6×Unit×Unit×Unit→A7 Bool) (z:Bv6×Unit×Unit×Unit)=>bif decide
 (z.1.1<(↑x.length:Int))then (at? x z.1.1).bind fun(e:Bv7)=>bif decide (30<(↑e.2.length:Int))then some false else rec ((i64.wrap (z.1.1+1),()),(),(),())else some true) N ((0,()),(),(),())
def A90:=Cn [] [] N 13 (A5 (A5 (.seq (A5 (.blk (.loop ⟨[(3,.d A4)],[],[0],[],[],[]⟩ .lf))) .lf))) [(.sl Bb)] [.bool] (Ik N) mixed func13 rfl (by decide) rfl (by kernel_rfl)
def Il:Cw [(.sl tepitaphlaw18Act),A4] (A7 (Bd [A4])):=fun(x:A6 (UInt8×Bv1×A6 Bv7)) (Bh:Int)=>bif decide (Bh<(↑x.length:Int))then some 0 else iter
 (fun(rec:Bv6×Unit×Unit×Unit→A7 Int) (z:Bv6×Unit×Unit×Unit)=>bif decide (z.1.1<(↑x.length:Int))then (at? x z.1.1).bind fun(e:UInt8×Bv1×A6 Bv7)=>Option.bind (Ij N [e.2.1] 1) fun(y:Bool)=>bif !y then some 0 else (at?
 x z.1.1).bind fun(e:UInt8×Bv1×A6 Bv7)=>Option.bind (Ik N e.2.2) fun(y:Bool)=>bif !y then some 0 else rec ((i64.wrap (z.1.1+1),()),(),(),())else some 1) N ((0,()),(),(),())
def A91:=Cn [A8z N,A90 N] [] N 4 (A5 (A5 (.seq (A5 (.blk (.loop ⟨[(5,.d A4)],[],[0],[],[],[]⟩ .lf))) .lf))) [(.sl tepitaphlaw18Act),A4] [A4] (Il N) mixed func4 rfl (by decide) rfl (by kernel_rfl)
def Bv:Cw [(.sl Al),Al] (A7 (Bd [.bool])):=fun(x:Bvj) (Bh:Bv3)=>iter (fun(rec:Bv6×Unit×Unit×Unit→A7 Bool) (z:Bv6×Unit×Unit×Unit)=>bif decide (z.1.1<(↑x.length:Int))then (at? x z.1.1).bind
 fun(e:Bv3)=>bif e.1==Bh.1&&e.2==Bh.2 then some true else rec ((i64.wrap (z.1.1+1),()),(),(),())else some false) N ((0,()),(),(),())
def Xe:=Cn [] [] N 37 (A5 (.seq (A5 (.blk (.loop ⟨[(5,.d A4)],[],[0,3],[1003],[],[]⟩ .lf))) .lf)) [(.sl Al),Al] [.bool] (Bv N) mixed func37 rfl (by decide) rfl (by kernel_rfl)
def Nn(N:Nat):Cw [(.int .u64)] (A7 (Bd [(.int .u16),(.int .u64)])):=fun(x:Int)=>some (u16.wrap (u64.wrap (x.tdiv 281474976710656)),x.tmod 281474976710656)
def A4f:=Cn [] [] N 109 .lf [(.int .u64)] [(.int .u16),(.int .u64)] (Nn N) mixed func109 rfl (by decide) rfl (by kernel_rfl)
def Ao(N:Nat):Cw [Al] (A7 (Bd [.bool])):=fun(x:Bv3)=>bif decide (1≤x.1)then bif decide (1≤x.2)then some (decide (x.2<281474976710656))else some false else some false
def K6:=Cn [] [] N 73 .lf [Al] [.bool] (Ao N) mixed func73 rfl (by decide) rfl (by kernel_rfl)
def Gd:Cw [(.int .u64)] (A7 (Bd [Al,.bool])):=fun(x:Int)=>Option.bind (Nn N x) fun(y:Bv3)=>Option.bind (Ao N y) fun(B9:Bool)=>bif !B9 then some ((0,0),false)else some (y,true)
def A2u:=Cn [A4f N,K6 N] [] N 72 .lf [(.int .u64)] [Al,.bool] (Gd N) mixed func72 rfl (by decide) rfl (by kernel_rfl)
def Fx(N:Nat):Cw [.u8] (A7 (Bd [.bool])):=fun(x:UInt8)=>bif decide (1≤x)then some (decide (x≤5))else some false
def A6u:=Cn [] [] N 74 .lf [.u8] [.bool] (Fx N) mixed func74 rfl (by decide) rfl (by kernel_rfl)
def Fy:Cw [.str] (A7 (Bd [.bool])):=fun(x:Bvi)=>iter (fun(rec:Bv6×Unit×Unit×Unit→A7 Bool) (z:Bv6×Unit×Unit×Unit)=>bif decide (z.1.1<(↑x.length:Int))then (at? x z.1.1).bind fun(c:UInt8)=>bif
 decide (c<32)then some false else (at? x z.1.1).bind fun(c:UInt8)=>bif decide (126<c)then some false else rec ((i64.wrap (z.1.1+1),()),(),(),())else some (decide ((↑x.length:Int)≤60))) N ((0,()),(),(),())
def A6v:=Cn [] [] N 75 (A5 (.seq (A5 (.blk (.loop ⟨[(3,.d A4)],[],[0],[],[],[]⟩ .lf))) .lf)) [.str] [.bool] (Fy N) mixed func75 rfl (by decide) rfl (by kernel_rfl)
def Ex(N:Nat):Cw [Al,Al] (A7 (Bd [A4])):=fun(x Bh:Bv3)=>bif x.1==Bh.1&&x.2==Bh.2 then some 0 else bif decide (x.1<Bh.1)then some (-1)else bif x.1==Bh.1 then bif decide (x.2<Bh.2)then some
 (-1)else some 1 else some 1
def Qd:=Cn [] [] N 81 .lf [Al,Al] [A4] (Ex N) mixed func81 rfl (by decide) rfl (by kernel_rfl)
def Bi:Cw [(.sl Al)] (A7 (Bd [.bool])):=fun(x:Bvj)=>iter (fun(rec:Bv6×Unit×Unit×Unit→A7 Bool) (z:Bv6×Unit×Unit×Unit)=>bif decide (z.1.1<(↑x.length:Int))then (at? x (i64.wrap
 (z.1.1-1))).bind fun(e:Bv3)=>(at? x z.1.1).bind fun(Dt:Bv3)=>Option.bind (Ex N e Dt) fun(y:Int)=>bif decide (0≤y)then some false else rec ((i64.wrap (z.1.1+1),()),(),(),())else some true) N ((1,()),(),(),())
def A2v:=Cn [Qd N] [] N 76 (A5 (.seq (A5 (.blk (.loop ⟨[(3,.d A4)],[],[0],[],[],[]⟩ .lf))) .lf)) [(.sl Al)] [.bool] (Bi N) mixed func76 rfl (by decide) rfl (by kernel_rfl)
def Hl:Cw [A8] (A7 (Bd [.bool])):=fun(x:Bv3×UInt8×Int×UInt8×A6 UInt8×A6 Bv3)=>Option.bind (Gd N x.2.2.1) fun(y:Bv3×Bool)=>bif !y.2 then some false else Option.bind (Ao N x.1) fun(y:Bool)=>bif
 !y then some false else bif x.2.1 != 1 then bif x.2.1 != 2 then some false else bif x.2.1==1 then Option.bind (Fx N x.2.2.2.1) fun(y:Bool)=>bif !y then some false else Option.bind (Fy N x.2.2.2.2.1) fun(y:Bool)=>bif !y
 then some false else bif x.2.1==2 then bif x.2.2.2.1 != 0 then some false else bif x.2.2.2.2.1 != []then some false else iter (fun(rec:Bv6×Unit×Unit×Unit→A7 Bool) (z:Bv6×Unit×Unit×Unit)=>bif decide
 (z.1.1<(↑x.2.2.2.2.2.length:Int))then (at? x.2.2.2.2.2 z.1.1).bind fun(e:Bv3)=>Option.bind (Ao N e) fun(y:Bool)=>bif !y then some false else rec ((i64.wrap (z.1.1+1),()),(),(),())else bif decide
 ((↑x.2.2.2.2.2.length:Int)≤256)then Option.bind (Bi N x.2.2.2.2.2) fun(y:Bool)=>bif y then Option.bind (Bv N x.2.2.2.2.2 x.1) fun(y:Bool)=>some !y else some false else some false) N ((0,()),(),(),())else iter
 (fun(rec:Bv6×Unit×Unit×Unit→A7 Bool) (z:Bv6×Unit×Unit×Unit)=>bif decide (z.1.1<(↑x.2.2.2.2.2.length:Int))then (at? x.2.2.2.2.2 z.1.1).bind fun(e:Bv3)=>Option.bind (Ao N e) fun(y:Bool)=>bif !y then some false else
 rec ((i64.wrap (z.1.1+1),()),(),(),())else bif decide ((↑x.2.2.2.2.2.length:Int)≤256)then Option.bind (Bi N x.2.2.2.2.2) fun(y:Bool)=>bif y then Option.bind (Bv N x.2.2.2.2.2 x.1) fun(y:Bool)=>some !y else some
 false else some false) N ((0,()),(),(),())else bif x.2.1==2 then bif x.2.2.2.1 != 0 then some false else bif x.2.2.2.2.1 != []then some false else iter (fun(rec:Bv6×Unit×Unit×Unit→A7 Bool)
 (z:Bv6×Unit×Unit×Unit)=>bif decide (z.1.1<(↑x.2.2.2.2.2.length:Int))then (at? x.2.2.2.2.2 z.1.1).bind fun(e:Bv3)=>Option.bind (Ao N e) fun(y:Bool)=>bif !y then some false else rec ((i64.wrap
 (z.1.1+1),()),(),(),())else bif decide ((↑x.2.2.2.2.2.length:Int)≤256)then Option.bind (Bi N x.2.2.2.2.2) fun(y:Bool)=>bif y then Option.bind (Bv N x.2.2.2.2.2 x.1) fun(y:Bool)=>some !y else some false else some false)
 N ((0,()),(),(),())else iter (fun(rec:Bv6×Unit×Unit×Unit→A7 Bool) (z:Bv6×Unit×Unit×Unit)=>bif decide (z.1.1<(↑x.2.2.2.2.2.length:Int))then (at? x.2.2.2.2.2 z.1.1).bind fun(e:Bv3)=>Option.bind (Ao N e)
 fun(y:Bool)=>bif !y then some false else rec ((i64.wrap (z.1.1+1),()),(),(),())else bif decide ((↑x.2.2.2.2.2.length:Int)≤256)then Option.bind (Bi N x.2.2.2.2.2) fun(y:Bool)=>bif y then Option.bind (Bv N
 x.2.2.2.2.2 x.1) fun(y:Bool)=>some !y else some false else some false) N ((0,()),(),(),())else bif x.2.1==1 then Option.bind (Fx N x.2.2.2.1) fun(y:Bool)=>bif !y then some false else Option.bind (Fy N x.2.2.2.2.1)
 fun(y:Bool)=>bif !y then some false else bif x.2.1==2 then bif x.2.2.2.1 != 0 then some false else bif x.2.2.2.2.1 != []then some false else iter (fun(rec:Bv6×Unit×Unit×Unit→A7 Bool) (z:Bv6×Unit×Unit×Unit)=>bif
 decide (z.1.1<(↑x.2.2.2.2.2.length:Int))then (at? x.2.2.2.2.2 z.1.1).bind fun(e:Bv3)=>Option.bind (Ao N e) fun(y:Bool)=>bif !y then some false else rec ((i64.wrap (z.1.1+1),()),(),(),())else bif decide
 ((↑x.2.2.2.2.2.length:Int)≤256)then Option.bind (Bi N x.2.2.2.2.2) fun(y:Bool)=>bif y then Option.bind (Bv N x.2.2.2.2.2 x.1) fun(y:Bool)=>some !y else some false else some false) N ((0,()),(),(),())else iter
 (fun(rec:Bv6×Unit×Unit×Unit→A7 Bool) (z:Bv6×Unit×Unit×Unit)=>bif decide (z.1.1<(↑x.2.2.2.2.2.length:Int))then (at? x.2.2.2.2.2 z.1.1).bind fun(e:Bv3)=>Option.bind (Ao N e) fun(y:Bool)=>bif !y then some false else
 rec ((i64.wrap (z.1.1+1),()),(),(),())else bif decide ((↑x.2.2.2.2.2.length:Int)≤256)then Option.bind (Bi N x.2.2.2.2.2) fun(y:Bool)=>bif y then Option.bind (Bv N x.2.2.2.2.2 x.1) fun(y:Bool)=>some !y else some
 false else some false) N ((0,()),(),(),())else bif x.2.1==2 then bif x.2.2.2.1 != 0 then some false else bif x.2.2.2.2.1 != []then some false else iter (fun(rec:Bv6×Unit×Unit×Unit→A7 Bool)
 (z:Bv6×Unit×Unit×Unit)=>bif decide (z.1.1<(↑x.2.2.2.2.2.length:Int))then (at? x.2.2.2.2.2 z.1.1).bind fun(e:Bv3)=>Option.bind (Ao N e) fun(y:Bool)=>bif !y then some false else rec ((i64.wrap
 (z.1.1+1),()),(),(),())else bif decide ((↑x.2.2.2.2.2.length:Int)≤256)then Option.bind (Bi N x.2.2.2.2.2) fun(y:Bool)=>bif y then Option.bind (Bv N x.2.2.2.2.2 x.1) fun(y:Bool)=>some !y else some false else some false)
 N ((0,()),(),(),())else iter (fun(rec:Bv6×Unit×Unit×Unit→A7 Bool) (z:Bv6×Unit×Unit×Unit)=>bif decide (z.1.1<(↑x.2.2.2.2.2.length:Int))then (at? x.2.2.2.2.2 z.1.1).bind fun(e:Bv3)=>Option.bind (Ao N e)
 fun(y:Bool)=>bif !y then some false else rec ((i64.wrap (z.1.1+1),()),(),(),())else bif decide ((↑x.2.2.2.2.2.length:Int)≤256)then Option.bind (Bi N x.2.2.2.2.2) fun(y:Bool)=>bif y then Option.bind (Bv N
 x.2.2.2.2.2 x.1) fun(y:Bool)=>some !y else some false else some false) N ((0,()),(),(),())
def Uz:=Cn [Xe N,A2u N,K6 N,A6u N,A6v N,A2v N] [] N 35 (A5 (A5 (A5 (A5 (.seq (A5 (.blk (.loop ⟨[(5,.d A4)],[],[1],[1001],[],[]⟩ .lf))) .lf))))) [A8] [.bool] (Hl N) mixed func35 rfl (by decide) rfl (by kernel_rfl)
def Im(N:Nat):Cw [Bn] (A7 (Bd [.bool])):=fun(x:Bv3)=>bif decide (1≤x.1)then bif decide (x.1≤x.2)then some (decide (x.2≤281474976710655))else some false else some false
def Xf:=Cn [] [] N 110 .lf [Bn] [.bool] (Im N) mixed func110 rfl (by decide) rfl (by kernel_rfl)
def E1:Cw [(.sl Bn),(.int .u64)] (A7 (Bd [.bool])):=fun(x:Bvj) (Bh:Int)=>iter (fun(rec:Bv6×Unit×Unit×Unit→A7 Bool) (z:Bv6×Unit×Unit×Unit)=>bif decide (z.1.1<(↑x.length:Int))then (at? x
 z.1.1).bind fun(e:Bv3)=>Option.bind (Im N e) fun(y:Bool)=>bif y then (at? x z.1.1).bind fun(e:Bv3)=>bif decide (e.1≤Bh)then (at? x z.1.1).bind fun(e:Bv3)=>bif decide (Bh≤e.2)then some true else rec ((i64.wrap
 (z.1.1+1),()),(),(),())else rec ((i64.wrap (z.1.1+1),()),(),(),())else rec ((i64.wrap (z.1.1+1),()),(),(),())else some false) N ((0,()),(),(),())
def Xh:=Cn [Xf N] [] N 77 (A5 (.seq (A5 (.blk (.loop ⟨[(5,.d A4)],[],[0,1],[],[],[]⟩ .lf))) .lf)) [(.sl Bn),(.int .u64)] [.bool] (E1 N) mixed func77 rfl (by decide) rfl (by kernel_rfl)
def Io:Cw [(.sl (.int .u64)),(.int .u64)] (A7 (Bd [(.sl (.int .u64))])):=fun(x:A6 Int) (Bh:Int)=>iter (fun(rec:(A6 Int×Bool×Int×Unit)×Unit×Unit×Unit→A7 (A6 Int)) (z:(List
 Int×Bool×Int×Unit)×Unit×Unit×Unit)=>bif decide (z.1.2.2.1<(↑x.length:Int))then Ar (fun(B1:(A6 Int×Bool×Unit)×Unit×Unit×Unit)=>(at? x z.1.2.2.1).bind fun(e:Int)=>bif e != Bh then (at? x z.1.2.2.1).bind fun(e:Int)=>bif
 Au (B1.1.1.length + [e].length) 8 then rec ((B1.1.1++[e],B1.1.2.1,i64.wrap (z.1.2.2.1+1),()),(),(),())else none else rec ((B1.1.1,B1.1.2.1,i64.wrap (z.1.2.2.1+1),()),(),(),())) fun(k:(List
 Int×Bool×Unit)×Unit×Unit×Unit→A7 (A6 Int))=>bif !z.1.2.1 then (at? x z.1.2.2.1).bind fun(e:Int)=>bif decide (Bh≤e)then bif Au (z.1.1.length + [Bh].length) 8 then k ((z.1.1++[Bh],true,()),(),(),())else none else k
 ((z.1.1,z.1.2.1,()),(),(),())else k ((z.1.1,z.1.2.1,()),(),(),())else bif !z.1.2.1 then bif Au (z.1.1.length + [Bh].length) 8 then some (z.1.1++[Bh])else none else some z.1.1) N (([],false,0,()),(),(),())
def A92:=Cn [] [] N 215 (A5 (A5 (A5 (.seq (A5 (.blk (.loop ⟨[(5,.Cv 200005 (.int .u64) none),(6,.d .bool),(7,.d A4)],[],[0,1],[],[],[]⟩ (A5 (.seq (.blk (.join ⟨[(5,.Cv 200005 (.int .u64) none),(6,.d .bool)],[],[0,1,7],[],[],[]⟩ .lf .lf)) .lf))))) .lf)))) [(.sl (.int .u64)),(.int .u64)] [(.sl (.int .u64))] (Io N) mixed func215 rfl (by decide) rfl (by kernel_rfl)
def Iu:Cw [(.sl Bn),(.sl Bn)] (A7 (Bd [(.sl (.int .u64))])):=fun(x Bh:Bvj)=>bif Au (0+x.length) 16 then bif Au (([]++x).length+Bh.length) 16 then iter (fun(rec:(List
 Int×Int×Unit)×Unit×Unit×Unit→A7 (A6 Int)) (z:(A6 Int×Int×Unit)×Unit×Unit×Unit)=>bif decide (z.1.2.1<(↑([]++x++Bh).length:Int))then (at? ([]++x++Bh) z.1.2.1).bind fun(e:Bv3)=>Option.bind (Im N e) fun(y:Bool)=>bif
 y then (at? ([]++x++Bh) z.1.2.1).bind fun(e:Bv3)=>Option.bind (Io N z.1.1 e.1) fun(y:A6 Int)=>(at? ([]++x++Bh) z.1.2.1).bind fun(e:Bv3)=>Option.bind (Io N y (u64.wrap (e.2+1))) fun(y:A6 Int)=>rec
 ((y,i64.wrap (z.1.2.1+1),()),(),(),())else rec ((z.1.1,i64.wrap (z.1.2.1+1),()),(),(),())else some z.1.1) N (([],0,()),(),(),())else none else none
def A2w:=Cn [Xf N,A92 N] [] N 191 (A5 (A5 (A5 (.seq (A5 (.blk (.loop ⟨[(5,.d (.sl (.int .u64))),(7,.d A4)],[],[6],[],[],[]⟩ .lf))) .lf)))) [(.sl Bn),(.sl Bn)] [(.sl (.int .u64))] (Iu N) mixed func191 rfl (by decide) rfl (by kernel_rfl)
def Abx(y:A6 Int)(rec:(Int×Unit)×Unit×(A7 (A6 (Int×Int)×Nat)×Unit)×Unit→A7 (A6 (Int×Int)))(z:(Int×Unit)×Unit×(A7 (A6 (Int×Int) ×
 Nat)×Unit)×Unit):=  fun(Po:(Bool×Unit)×Unit×(A7 (A6 (Int×Int)×Nat)×Unit)×Unit)=>A9 Po.snd.snd.fst.fst (bif Po.fst.fst then bif Po.fst.fst then (at? y
 z.fst.fst).bind fun(e:Int)=>(at? y (i64.wrap (z.fst.fst+1))).bind fun(Dt:Int)=>rec ((i64.wrap (z.fst.fst+1),()),(),(some ([(e,u64.wrap (Dt-1))],[(e,
 u64.wrap (Dt-1))].length),()),())else rec ((i64.wrap (z.fst.fst+1),()),(),(none,()),())else bif Po.fst.fst then (at? y z.fst.fst).bind fun(e:Int)=>(at? y
 (i64.wrap (z.fst.fst+1))).bind fun(Dt:Int)=>rec ((i64.wrap (z.fst.fst+1),()),(),(some ([(e,u64.wrap (Dt-1))],[(e,u64.wrap (Dt-1))].length),()),
 ())else rec ((i64.wrap (z.fst.fst+1),()),(),(none,()),())) fun(Kv:A6 (Int×Int)×Nat)=>bif Po.fst.fst then bif decide (0≤i64.wrap ((↑Kv.snd:Int)-1)) then
 bif decide (0≤i64.wrap ((↑Kv.snd:Int)-1))&&decide (i64.wrap ((↑Kv.snd:Int)-1)<(↑Kv.snd:Int))then Kv.fst[0+(i64.wrap ((↑Kv.snd:Int) -
 1)).toNat]?.bind fun(e:Int×Int)=>(at? y z.fst.fst).bind fun(Dt:Int)=>bif u64.wrap (e.snd+1)==Dt then (at? y (i64.wrap (z.fst.fst+1))).bind fun(e:Int)=>bif
 decide (0≤i64.wrap ((↑Kv.snd:Int)-1))&&decide (i64.wrap ((↑Kv.snd:Int)-1)<(↑Kv.snd:Int))then Kv.fst[0+(i64.wrap ((↑Kv.snd:Int)-1)).toNat]?.bind
 fun(e_2:Int×Int)=>rec ((i64.wrap (z.fst.fst+1),()),(),(some (Kv.fst.set (0+(i64.wrap ((↑Kv.snd:Int)-1)).toNat) (e_2.fst,u64.wrap (e-1)),Kv.snd),()),
 ())else none else bif Po.fst.fst then (at? y z.fst.fst).bind fun(e:Int)=>(at? y (i64.wrap (z.fst.fst+1))).bind fun(e_2:Int)=>bif Kv.fst.length.beq Kv.snd then bif Au
 (Kv.snd + [(e,u64.wrap (e_2-1))].length) 16 then rec ((i64.wrap (z.fst.fst+1),()),(),(some (Kv.fst++[(e,u64.wrap (e_2-1))],Kv.snd + [(e,u64.wrap
 (e_2-1))].length),()),())else none else none else rec ((i64.wrap (z.fst.fst+1),()),(),(some Kv,()),())else none else bif Po.fst.fst then (at? y z.fst.fst).bind fun(e:Int)
 => (at? y (i64.wrap (z.fst.fst+1))).bind fun(Dt:Int)=>bif Kv.fst.length.beq Kv.snd then bif Au (Kv.snd + [(e,u64.wrap (Dt-1))].length) 16 then rec
 ((i64.wrap (z.fst.fst+1),()),(),(some (Kv.fst++[(e,u64.wrap (Dt-1))],Kv.snd + [(e,u64.wrap (Dt-1))].length),()),())else none else none else rec
 ((i64.wrap (z.fst.fst+1),()),(),(some Kv,()),())else bif Po.fst.fst then (at? y z.fst.fst).bind fun(e:Int)=>(at? y (i64.wrap (z.fst.fst+1))).bind fun(Dt:Int) =>
 bif Kv.fst.length.beq Kv.snd then bif Au (Kv.snd + [(e,u64.wrap (Dt-1))].length) 16 then rec ((i64.wrap (z.fst.fst+1),()),(),(some (Kv.fst++[(e,u64.wrap
 (Dt-1))],Kv.snd + [(e,u64.wrap (Dt-1))].length),()),())else none else none else rec ((i64.wrap (z.fst.fst+1),()),(),(some Kv,()),())
def Gk:Cw [(.sl Bn),(.sl Bn),A4] (A7 (Bd [(.sl Bn)])):=fun(x Bh:Bvj) (Ku:Int)=>Option.bind (Iu N x Bh) fun(y:A6 Int)=>iter (fun(rec:Bv6×Unit×Bvb×Unit→A7 Bvj)
 (z:Bv6×Unit×Bvb×Unit)=>A9 z.2.2.1.1 (bif decide (i64.wrap (z.1.1+1)<(↑y.length:Int))then (at? y z.1.1).bind fun(e:Int)=>Option.bind (E1 N x e) fun(B9:Bool)=>(at? y z.1.1).bind fun(e:Int)=>Option.bind (E1 N Bh e)
 fun(Lo:Bool)=>bif B9 then Ar (fun(B1:Bvk×Unit×Bvb×Unit)=>A9 B1.2.2.1.1 (Ar (Abx y rec z) fun(k:Bvk×Unit×Bvb×Unit→A7 Bvj)=>bif Ku==2 then bif B9 then k ((!Lo,()),(),(none,()),())else k
 ((false,()),(),(none,()),())else k ((B1.1.1,()),(),(none,()),())) fun(Kv:A6 Bv3×Nat)=>Ar (Abx y rec z) fun(k:Bvk×Unit×Bvb×Unit→A7 Bvj)=>bif Ku==2 then bif B9 then k ((!Lo,()),(),(some Kv,()),())else k
 ((false,()),(),(some Kv,()),())else k ((B1.1.1,()),(),(some Kv,()),())) fun(k:Bvk×Unit×Bvb×Unit→A7 Bvj)=>bif Ku==1 then bif B9 then k ((Lo,()),(),(none,()),())else k ((false,()),(),(none,()),())else k
 ((true,()),(),(none,()),())else Ar (fun(B1:Bvk×Unit×Bvb×Unit)=>A9 B1.2.2.1.1 (Ar (Abx y rec z) fun(k:Bvk×Unit×Bvb×Unit→A7 Bvj)=>bif Ku==2 then bif B9 then k ((!Lo,()),(),(none,()),())else k
 ((false,()),(),(none,()),())else k ((B1.1.1,()),(),(none,()),())) fun(Kv:A6 Bv3×Nat)=>Ar (Abx y rec z) fun(k:Bvk×Unit×Bvb×Unit→A7 Bvj)=>bif Ku==2 then bif B9 then k ((!Lo,()),(),(some Kv,()),())else k
 ((false,()),(),(some Kv,()),())else k ((B1.1.1,()),(),(some Kv,()),())) fun(k:Bvk×Unit×Bvb×Unit→A7 Bvj)=>bif Ku==1 then bif B9 then k ((Lo,()),(),(none,()),())else k ((false,()),(),(none,()),())else k
 ((Lo,()),(),(none,()),())else some []) fun(B9:A6 Bv3×Nat)=>bif decide (i64.wrap (z.1.1+1)<(↑y.length:Int))then (at? y z.1.1).bind fun(e:Int)=>Option.bind (E1 N x e) fun(Lo:Bool)=>(at? y z.1.1).bind
 fun(e:Int)=>Option.bind (E1 N Bh e) fun(Kv:Bool)=>bif Lo then Ar (fun(B1:Bvk×Unit×Bvb×Unit)=>A9 B1.2.2.1.1 (Ar (Abx y rec z) fun(k:Bvk×Unit×Bvb×Unit→A7 Bvj)=>bif Ku==2 then bif Lo then k
 ((!Kv,()),(),(none,()),())else k ((false,()),(),(none,()),())else k ((B1.1.1,()),(),(none,()),())) fun(y_4:A6 Bv3×Nat)=>Ar (Abx y rec z) fun(k:Bvk×Unit×Bvb×Unit→A7 Bvj)=>bif Ku==2 then bif Lo then k
 ((!Kv,()),(),(some y_4,()),())else k ((false,()),(),(some y_4,()),())else k ((B1.1.1,()),(),(some y_4,()),())) fun(k:Bvk×Unit×Bvb×Unit→A7 Bvj)=>bif Ku==1 then bif Lo then k ((Kv,()),(),(some B9,()),())else k
 ((false,()),(),(some B9,()),())else k ((true,()),(),(some B9,()),())else Ar (fun(B1:Bvk×Unit×Bvb×Unit)=>A9 B1.2.2.1.1 (Ar (Abx y rec z) fun(k:Bvk×Unit×Bvb×Unit→A7 Bvj)=>bif Ku==2 then bif Lo then k
 ((!Kv,()),(),(none,()),())else k ((false,()),(),(none,()),())else k ((B1.1.1,()),(),(none,()),())) fun(y_4:A6 Bv3×Nat)=>Ar (Abx y rec z) fun(k:Bvk×Unit×Bvb×Unit→A7 Bvj)=>bif Ku==2 then bif Lo then k
 ((!Kv,()),(),(some y_4,()),())else k ((false,()),(),(some y_4,()),())else k ((B1.1.1,()),(),(some y_4,()),())) fun(k:Bvk×Unit×Bvb×Unit→A7 Bvj)=>bif Ku==1 then bif Lo then k ((Kv,()),(),(some B9,()),())else k
 ((false,()),(),(some B9,()),())else k ((Kv,()),(),(some B9,()),())else bif bif (0+B9.2).ble B9.1.length then true else false then some (List.take B9.2 (List.drop 0 B9.1))else none) N ((0,()),(),(none,()),())
def Qe:=Cn [A2w N,Xh N] [98] N 144 (A5 (A5 (A5 (.seq (A5 (.blk (.loop ⟨[(9,.d A4)],[],[0,1,2,7],[],[(8,400008,Bn)],[]⟩ (A5 (.seq (.blk (A5 (A5 (.join ⟨[(12,.d .bool)],[],[0,1,2,7,9,10,11],[],[(8,400008,Bn)],[]⟩ .lf (.join ⟨[(12,.d .bool)],[],[0,1,2,7,9],[],[(8,400008,Bn)],[]⟩ .lf .lf))))) .lf))))) .lf)))) [(.sl Bn),(.sl Bn),A4] [(.sl Bn)] (Gk N) mixed func144 rfl (by decide) rfl (by kernel_rfl)
def Fz:Cw [(.sl Bn),(.sl Bn)] (A7 (Bd [(.sl Bn)])):=fun(x Bh:Bvj)=>Option.bind (Gk N x Bh 0) fun(y:Bvj)=>some y
def V1:=Cn [Qe N] [] N 111 .lf [(.sl Bn),(.sl Bn)] [(.sl Bn)] (Fz N) mixed func111 rfl (by decide) rfl (by kernel_rfl)
def G0:Cw [(.sl Bb),(.int .u16)] (A7 (Bd [(.sl Bn)])):=fun(x:A6 Bv7) (Bh:Int)=>iter (fun(rec:Bvf×Unit×Unit×Unit→A7 Bvj) (z:Bvf×Unit×Unit×Unit)=>bif decide (z.1.2.1<(↑x.length:Int))then (at?
 x z.1.2.1).bind fun(e:Bv7)=>bif e.1==Bh then bif Bh != 0 then (at? x z.1.2.1).bind fun(e:Bv7)=>Option.bind (Fz N z.1.1 e.2) fun(y:Bvj)=>rec ((y,i64.wrap (z.1.2.1+1),()),(),(),())else rec ((z.1.1,i64.wrap
 (z.1.2.1+1),()),(),(),())else rec ((z.1.1,i64.wrap (z.1.2.1+1),()),(),(),())else some z.1.1) N (([],0,()),(),(),())
def V4:=Cn [V1 N] [] N 78 (A5 (A5 (.seq (A5 (.blk (.loop ⟨[(5,.d (.sl Bn)),(6,.d A4)],[],[0,1],[],[],[]⟩ .lf))) .lf))) [(.sl Bb),(.int .u16)] [(.sl Bn)] (G0 N) mixed func78 rfl (by decide) rfl (by kernel_rfl)
def Ey:Cw [(.sl Bb),Al] (A7 (Bd [.bool])):=fun(x:A6 Bv7) (Bh:Bv3)=>Option.bind (Ao N Bh) fun(y:Bool)=>bif y then Option.bind (G0 N x Bh.1) fun(y:Bvj)=>Option.bind (E1 N y Bh.2)
 fun(y:Bool)=>some y else some false
def Ls:=Cn [K6 N,Xh N,V4 N] [] N 36 .lf [(.sl Bb),Al] [.bool] (Ey N) mixed func36 rfl (by decide) rfl (by kernel_rfl)
def Ez:Cw [(.sl Al),Al] (A7 (Bd [(.sl Al)])):=fun(x:Bvj) (Bh:Bv3)=>iter (fun(rec:Bvf×Unit×Unit×Unit→A7 Bvj) (z:Bvf×Unit×Unit×Unit)=>bif decide (z.1.2.1<(↑x.length:Int))then (at? x
 z.1.2.1).bind fun(e:Bv3)=>Option.bind (Ex N e Bh) fun(y:Int)=>bif decide (y<0)then (at? x z.1.2.1).bind fun(e:Bv3)=>bif Au (z.1.1.length + [e].length) 16 then rec ((z.1.1++[e],i64.wrap
 (z.1.2.1+1),()),(),(),())else none else rec ((z.1.1,i64.wrap (z.1.2.1+1),()),(),(),())else bif Au (z.1.1.length + [Bh].length) 16 then iter (fun(rec:Bvf×Unit×Unit×Unit→A7 Bvj) (z:Bvf×Unit×Unit×Unit)=>bif
 decide (z.1.2.1<(↑x.length:Int))then (at? x z.1.2.1).bind fun(e:Bv3)=>Option.bind (Ex N e Bh) fun(y:Int)=>bif decide (0<y)then (at? x z.1.2.1).bind fun(e:Bv3)=>bif Au (z.1.1.length + [e].length) 16 then rec
 ((z.1.1++[e],i64.wrap (z.1.2.1+1),()),(),(),())else none else rec ((z.1.1,i64.wrap (z.1.2.1+1),()),(),(),())else some z.1.1) N ((z.1.1++[Bh],0,()),(),(),())else none) N (([],0,()),(),(),())
def Xi:=Cn [Qd N] [] N 80 (A5 (A5 (.seq (A5 (.blk (.loop ⟨[(5,.Cv 200005 Al none),(6,.d A4)],[],[0,3],[1003],[],[]⟩ .lf))) (A5 (.seq (A5 (.blk (.loop ⟨[(5,.Cv 200005 Al none),(7,.d A4)],[],[0,3],[1003],[],[]⟩ .lf))) .lf))))) [(.sl Al),Al] [(.sl Al)] (Ez N) mixed func80 rfl (by decide) rfl (by kernel_rfl)
def K7:Cw [(.sl Bb),(.sl Bb)] (A7 (Bd [(.sl Al)])):=fun(x Bh:A6 Bv7)=>iter (fun(rec:Bvf×Unit×Unit×Unit→A7 Bvj) (z:Bvf×Unit×Unit×Unit)=>bif decide (z.1.2.1<(↑x.length:Int))then (at? x
 z.1.2.1).bind fun(e:Bv7)=>Option.bind (Ez N z.1.1 (e.1,1)) fun(y:Bvj)=>rec ((y,i64.wrap (z.1.2.1+1),()),(),(),())else iter (fun(rec:Bvf×Unit×Unit×Unit→A7 Bvj) (z:Bvf×Unit×Unit×Unit)=>bif decide
 (z.1.2.1<(↑Bh.length:Int))then (at? Bh z.1.2.1).bind fun(e:Bv7)=>Option.bind (Ez N z.1.1 (e.1,1)) fun(y:Bvj)=>rec ((y,i64.wrap (z.1.2.1+1),()),(),(),())else some z.1.1) N ((z.1.1,0,()),(),(),())) N
 (([],0,()),(),(),())
def A6w:=Cn [Xi N] [] N 112 (A5 (A5 (.seq (A5 (.blk (.loop ⟨[(5,.d (.sl Al)),(6,.d A4)],[],[0,1],[],[],[]⟩ .lf))) (.seq (A5 (.blk (.loop ⟨[(5,.d (.sl Al)),(7,.d A4)],[],[1],[],[],[]⟩ .lf))) .lf)))) [(.sl Bb),(.sl Bb)] [(.sl Al)] (K7 N) mixed func112 rfl (by decide) rfl (by kernel_rfl)
def V5:Cw [(.sl Bn),(.sl Bn)] (A7 (Bd [(.sl Bn)])):=fun(x Bh:Bvj)=>Option.bind (Gk N x Bh 1) fun(y:Bvj)=>some y
def A6x:=Cn [Qe N] [] N 113 .lf [(.sl Bn),(.sl Bn)] [(.sl Bn)] (V5 N) mixed func113 rfl (by decide) rfl (by kernel_rfl)
def U3:Cw [(.sl Bn),(.sl Bn)] (A7 (Bd [(.sl Bn)])):=fun(x Bh:Bvj)=>Option.bind (Gk N x Bh 2) fun(y:Bvj)=>some y
def A4g:=Cn [Qe N] [] N 114 .lf [(.sl Bn),(.sl Bn)] [(.sl Bn)] (U3 N) mixed func114 rfl (by decide) rfl (by kernel_rfl)
def Lt:Cw [(.sl Bb),(.sl Bb),A4] (A7 (Bd [(.sl Bb)])):=fun(x Bh:A6 Bv7) (Ku:Int)=>Option.bind (K7 N x Bh) fun(y:Bvj)=>iter (fun(rec:(A6 Bv7×Int×Unit)×Unit×Unit×Unit→A7 (List
 Bv7)) (z:(A6 Bv7×Int×Unit)×Unit×Unit×Unit)=>bif decide (z.1.2.1<(↑y.length:Int))then (at? y z.1.2.1).bind fun(e:Bv3)=>Option.bind (G0 N x e.1) fun(B9:Bvj)=>(at? y z.1.2.1).bind fun(e:Bv3)=>Option.bind (G0 N Bh e.1)
 fun(Lo:Bvj)=>Option.bind (Fz N B9 Lo) fun(Kv:Bvj)=>Ar (fun(B1:(A6 Bv3×Unit)×Unit×Unit×Unit)=>Ar (fun(Po:(A6 Bv3×Unit)×Unit×Unit×Unit)=>bif decide (0<(↑Po.1.1.length:Int))then (at? y z.1.2.1).bind fun(e:Bv3)=>bif Au
 (z.1.1.length + [(e.1,Po.1.1)].length) 32 then rec ((z.1.1++[(e.1,Po.1.1)],i64.wrap (z.1.2.1+1),()),(),(),())else none else rec ((z.1.1,i64.wrap (z.1.2.1+1),()),(),(),())) fun(k:(List
 Bv3×Unit)×Unit×Unit×Unit→A7 (A6 Bv7))=>bif Ku==2 then Option.bind (U3 N B9 Lo) fun(y:Bvj)=>k ((y,()),(),(),())else k ((B1.1.1,()),(),(),())) fun(k:(A6 Bv3×Unit)×Unit×Unit×Unit→A7 (A6 Bv7))=>bif Ku==1 then
 Option.bind (V5 N B9 Lo) fun(y:Bvj)=>k ((y,()),(),(),())else k ((Kv,()),(),(),())else some z.1.1) N (([],0,()),(),(),())
def A93:=Cn [V1 N,A6w N,A6x N,A4g N,V4 N] [] N 79 (A5 (A5 (A5 (.seq (A5 (.blk (.loop ⟨[(7,.Cv 200007 Bb none),(9,.d A4)],[],[0,1,2,8],[],[],[]⟩ (A5 (.seq (.blk (A5 (A5 (.join ⟨[(12,.d (.sl Bn))],[],[0,1,2,7,8,9,10,11],[],[],[]⟩ .lf (.join ⟨[(12,.d (.sl Bn))],[],[0,1,2,7,8,9],[],[],[]⟩ .lf .lf))))) .lf))))) .lf)))) [(.sl Bb),(.sl Bb),A4] [(.sl Bb)] (Lt N) mixed func79 rfl (by decide) rfl (by kernel_rfl)
def G1:Cw [(.sl Bb),(.sl Bb)] (A7 (Bd [(.sl Bb)])):=fun(x Bh:A6 Bv7)=>Option.bind (Lt N x Bh 0) fun(y:A6 Bv7)=>some y
def P3:=Cn [A93 N] [] N 38 .lf [(.sl Bb),(.sl Bb)] [(.sl Bb)] (G1 N) mixed func38 rfl (by decide) rfl (by kernel_rfl)
def Mt:Cw [(.sl Al)] (A7 (Bd [(.sl Bb)])):=fun(x:Bvj)=>iter (fun(rec:(A6 Bv7×Int×Unit)×Unit×Unit×Unit→A7 (A6 Bv7)) (z:(A6 Bv7×Int×Unit)×Unit×Unit×Unit)=>bif decide
 (z.1.2.1<(↑x.length:Int))then (at? x z.1.2.1).bind fun(e:Bv3)=>Option.bind (Ao N e) fun(y:Bool)=>bif y then (at? x z.1.2.1).bind fun(e:Bv3)=>(at? x z.1.2.1).bind fun(Dt:Bv3)=>(at? x z.1.2.1).bind
 fun(e_2:Bv3)=>Option.bind (G1 N z.1.1 [(e.1,[(Dt.2,e_2.2)])]) fun(y:A6 Bv7)=>rec ((y,i64.wrap (z.1.2.1+1),()),(),(),())else rec ((z.1.1,i64.wrap (z.1.2.1+1),()),(),(),())else some z.1.1) N
 (([],0,()),(),(),())
def Aby:=Cn [P3 N,K6 N] [] N 39 (A5 (A5 (.seq (A5 (.blk (.loop ⟨[(3,.d (.sl Bb)),(4,.d A4)],[],[0],[],[],[]⟩ .lf))) .lf))) [(.sl Al)] [(.sl Bb)] (Mt N) mixed func39 rfl (by decide) rfl (by kernel_rfl)
def Dh:Cw [(.sl A8)] (A7 (Bd [(.sl Al)])):=fun(x:A6 Bv1)=>iter (fun(rec:Bvf×Unit×Unit×Unit→A7 Bvj) (z:Bvf×Unit×Unit×Unit)=>bif decide (z.1.2.1<(↑x.length:Int))then (at? x z.1.2.1).bind
 fun(e:Bv3×UInt8×Int×UInt8×A6 UInt8×A6 Bv3)=>Option.bind (Ez N z.1.1 e.1) fun(y:Bvj)=>iter (fun(rec_1:Bvf×Unit×Unit×Unit→A7 Bvj) (B1:Bvf×Unit×Unit×Unit)=>(at? x z.1.2.1).bind fun(e:Bv3×UInt8×Int×UInt8×List
 UInt8×A6 Bv3)=>bif decide (B1.1.2.1<(↑e.2.2.2.2.2.length:Int))then (at? x z.1.2.1).bind fun(e:Bv3×UInt8×Int×UInt8×A6 UInt8×A6 Bv3)=>(at? e.2.2.2.2.2 B1.1.2.1).bind fun(e:Bv3)=>Option.bind (Ez N B1.1.1 e)
 fun(y:Bvj)=>rec_1 ((y,i64.wrap (B1.1.2.1+1),()),(),(),())else rec ((B1.1.1,i64.wrap (z.1.2.1+1),()),(),(),())) N ((y,0,()),(),(),())else some z.1.1) N (([],0,()),(),(),())
def P4:=Cn [Xi N] [] N 40 (A5 (A5 (.seq (A5 (.blk (.loop ⟨[(3,.d (.sl Al)),(4,.d A4)],[],[0],[],[],[]⟩ (A5 (.seq (.blk (A5 (A5 (.blk (.loop ⟨[(3,.d (.sl Al)),(5,.d A4)],[],[0,4],[],[],[]⟩ .lf))))) .lf))))) .lf))) [(.sl A8)] [(.sl Al)] (Dh N) mixed func40 rfl (by decide) rfl (by kernel_rfl)
def Lu:Cw [(.sl A8),A8] (A7 (Bd [(.sl A8)])):=fun(x:A6 Bv1) (Bh:Bv3×UInt8×Int×UInt8×A6 UInt8×A6 Bv3)=>iter (fun(rec:(A6 Bv1×Bool×Int×Unit)×Unit×Unit×Unit→A7 (A6 Bv1)) (z:(List
 Bv1×Bool×Int×Unit)×Unit×Unit×Unit)=>bif decide (z.1.2.2.1<(↑x.length:Int))then (at? x z.1.2.2.1).bind fun(e:Bv3×UInt8×Int×UInt8×A6 UInt8×A6 Bv3)=>Option.bind (Ex N e.1 Bh.1) fun(y:Int)=>bif y==0 then some x else Ar
 (fun(B1:(A6 Bv1×Bool×Unit)×Unit×Unit×Unit)=>(at? x z.1.2.2.1).bind fun(e:Bv3×UInt8×Int×UInt8×A6 UInt8×A6 Bv3)=>bif Au (B1.1.1.length + [e].length) 80 then rec ((B1.1.1++[e],B1.1.2.1,i64.wrap
 (z.1.2.2.1+1),()),(),(),())else none) fun(k:(A6 Bv1×Bool×Unit)×Unit×Unit×Unit→A7 (A6 Bv1))=>bif decide (0<y)then bif !z.1.2.1 then bif Au (z.1.1.length + [Bh].length) 80 then k
 ((z.1.1++[Bh],true,()),(),(),())else none else k ((z.1.1,z.1.2.1,()),(),(),())else k ((z.1.1,z.1.2.1,()),(),(),())else bif !z.1.2.1 then bif Au (z.1.1.length + [Bh].length) 80 then some (z.1.1++[Bh])else none else some
 z.1.1) N (([],false,0,()),(),(),())
def A94:=Cn [Qd N] [] N 41 (A5 (A5 (A5 (.seq (A5 (.blk (.loop ⟨[(5,.Cv 200005 A8 none),(6,.d .bool),(7,.d A4)],[],[0,3],[1003],[],[]⟩ (A5 (.seq (.blk (A5 (A5 (.join ⟨[(5,.Cv 200005 A8 none),(6,.d .bool)],[],[0,3,7],[1003],[],[]⟩ .lf .lf)))) .lf))))) .lf)))) [(.sl A8),A8] [(.sl A8)] (Lu N) mixed func41 rfl (by decide) rfl (by kernel_rfl)
def Ip:Cw [Ay,A8] (A7 (Bd [Ay,A4])):=fun(x:Bvo) (Bh:Bv3×UInt8×Int×UInt8×A6 UInt8×A6 Bv3)=>Option.bind (Hl N Bh) fun(y:Bool)=>bif !y then some (x,1)else Option.bind (Ey N x.1 Bh.1)
 fun(y:Bool)=>bif y then some (x,7)else iter (fun(rec:Bvl×Unit×Unit×Unit→A7 (Bvo×Int)) (z:Bvl×Unit×Unit×Unit)=>bif decide (z.1.2.1<(↑x.2.length:Int))then (at? x.2 z.1.2.1).bind fun(e:Bv3×UInt8×Int×UInt8×List
 UInt8×A6 Bv3)=>bif e.2.1 != 1 then (at? x.2 z.1.2.1).bind fun(e:Bv3×UInt8×Int×UInt8×A6 UInt8×A6 Bv3)=>bif Au (z.1.1.length + [e].length) 80 then rec ((z.1.1++[e],i64.wrap (z.1.2.1+1),()),(),(),())else none
 else (at? x.2 z.1.2.1).bind fun(e:Bv3×UInt8×Int×UInt8×A6 UInt8×A6 Bv3)=>Option.bind (Bv N Bh.2.2.2.2.2 e.1) fun(y:Bool)=>bif !y then (at? x.2 z.1.2.1).bind fun(e:Bv3×UInt8×Int×UInt8×A6 UInt8×A6 Bv3)=>bif Au
 (z.1.1.length + [e].length) 80 then rec ((z.1.1++[e],i64.wrap (z.1.2.1+1),()),(),(),())else none else rec ((z.1.1,i64.wrap (z.1.2.1+1),()),(),(),())else Option.bind (Dh N [Bh]) fun(y:Bvj)=>Option.bind
 (Mt N y) fun(y:A6 Bv7)=>Option.bind (G1 N x.1 y) fun(y:A6 Bv7)=>Option.bind (Lu N z.1.1 Bh) fun(B9:A6 Bv1)=>some ((y,B9),0)) N (([],0,()),(),(),())
def A95:=Cn [Uz N,Ls N,Xe N,P3 N,Aby N,P4 N,A94 N] [] N 15 (A5 (A5 (A5 (A5 (.seq (A5 (.blk (.loop ⟨[(6,.Cv 200006 A8 none),(7,.d A4)],[],[2,3,4],[1002,1003,1004],[],[]⟩ .lf))) .lf))))) [Ay,A8] [Ay,A4] (Ip N) mixed func15 rfl (by decide) rfl (by kernel_rfl)
def Iv:Cw [(.sl A8),(.int .u64)] (A7 (Bd [(.sl Al)])):=fun(x:A6 Bv1) (Bh:Int)=>iter (fun(rec:Bvl×Unit×Unit×Unit→A7 Bvj) (z:Bvl×Unit×Unit×Unit)=>bif decide (z.1.2.1<(↑x.length:Int))then (at?
 x z.1.2.1).bind fun(e:Bv3×UInt8×Int×UInt8×A6 UInt8×A6 Bv3)=>bif e.2.1==1 then (at? x z.1.2.1).bind fun(e:Bv3×UInt8×Int×UInt8×A6 UInt8×A6 Bv3)=>bif e.2.2.1==Bh then (at? x z.1.2.1).bind
 fun(e:Bv3×UInt8×Int×UInt8×A6 UInt8×A6 Bv3)=>bif Au (z.1.1.length + [e].length) 80 then rec ((z.1.1++[e],i64.wrap (z.1.2.1+1),()),(),(),())else none else rec ((z.1.1,i64.wrap
 (z.1.2.1+1),()),(),(),())else rec ((z.1.1,i64.wrap (z.1.2.1+1),()),(),(),())else Option.bind (Dh N z.1.1) fun(y:Bvj)=>some y) N (([],0,()),(),(),())
def A2x:=Cn [P4 N] [] N 42 (A5 (A5 (.seq (A5 (.blk (.loop ⟨[(5,.Cv 200005 A8 none),(6,.d A4)],[],[0,1],[],[],[]⟩ .lf))) .lf))) [(.sl A8),(.int .u64)] [(.sl Al)] (Iv N) mixed func42 rfl (by decide) rfl (by kernel_rfl)
def K8:Cw [(.sl A8),.u8] (A7 (Bd [(.sl A8)])):=fun(x:A6 Bv1) (Bh:UInt8)=>iter (fun(rec:Bvl×Unit×Unit×Unit→A7 (A6 Bv1)) (z:Bvl×Unit×Unit×Unit)=>bif decide (z.1.2.1<(↑x.length:Int))then
 (at? x z.1.2.1).bind fun(e:Bv3×UInt8×Int×UInt8×A6 UInt8×A6 Bv3)=>bif e.2.1==Bh then (at? x z.1.2.1).bind fun(e:Bv3×UInt8×Int×UInt8×A6 UInt8×A6 Bv3)=>bif Au (z.1.1.length + [e].length) 80 then rec
 ((z.1.1++[e],i64.wrap (z.1.2.1+1),()),(),(),())else none else rec ((z.1.1,i64.wrap (z.1.2.1+1),()),(),(),())else some z.1.1) N (([],0,()),(),(),())
def A6y:=Cn [] [] N 82 (A5 (A5 (.seq (A5 (.blk (.loop ⟨[(5,.Cv 200005 A8 none),(6,.d A4)],[],[0,1],[],[],[]⟩ .lf))) .lf))) [(.sl A8),.u8] [(.sl A8)] (K8 N) mixed func82 rfl (by decide) rfl (by kernel_rfl)
def Hm:Cw [Ay] (A7 (Bd [(.sl A8)])):=fun(x:Bvo)=>Option.bind (K8 N x.2 1) fun(y:A6 Bv1)=>some y
def A6z:=Cn [A6y N] [] N 43 .lf [Ay] [(.sl A8)] (Hm N) mixed func43 rfl (by decide) rfl (by kernel_rfl)
def K9:Cw [(.sl A8),(.int .u64),.u8] (A7 (Bd [(.sl Al)])):=fun(x:A6 Bv1) (Bh:Int) (Ku:UInt8)=>iter (fun(rec:Bvl×Unit×Unit×Unit→A7 Bvj) (z:Bvl×Unit×Unit×Unit)=>bif decide
 (z.1.2.1<(↑x.length:Int))then (at? x z.1.2.1).bind fun(e:Bv3×UInt8×Int×UInt8×A6 UInt8×A6 Bv3)=>bif e.2.1==1 then (at? x z.1.2.1).bind fun(e:Bv3×UInt8×Int×UInt8×A6 UInt8×A6 Bv3)=>bif e.2.2.1==Bh then (at? x
 z.1.2.1).bind fun(e:Bv3×UInt8×Int×UInt8×A6 UInt8×A6 Bv3)=>bif e.2.2.2.1==Ku then (at? x z.1.2.1).bind fun(e:Bv3×UInt8×Int×UInt8×A6 UInt8×A6 Bv3)=>bif Au (z.1.1.length + [e].length) 80 then rec
 ((z.1.1++[e],i64.wrap (z.1.2.1+1),()),(),(),())else none else rec ((z.1.1,i64.wrap (z.1.2.1+1),()),(),(),())else rec ((z.1.1,i64.wrap (z.1.2.1+1),()),(),(),())else rec ((z.1.1,i64.wrap
 (z.1.2.1+1),()),(),(),())else Option.bind (Dh N z.1.1) fun(y:Bvj)=>some y) N (([],0,()),(),(),())
def A70:=Cn [P4 N] [] N 44 (A5 (A5 (.seq (A5 (.blk (.loop ⟨[(7,.Cv 200007 A8 none),(8,.d A4)],[],[0,1,2],[],[],[]⟩ .lf))) .lf))) [(.sl A8),(.int .u64),.u8] [(.sl Al)] (K9 N) mixed func44 rfl (by decide) rfl (by kernel_rfl)
def Ka:Cw [Ay,A8] (A7 (Bd [A8,A4])):=fun(x:Bvo) (Bh:Bv3×UInt8×Int×UInt8×A6 UInt8×A6 Bv3)=>Option.bind (Hl N (Bh.1,Bh.2.1,Bh.2.2.1,Bh.2.2.2.1,Bh.2.2.2.2.1,[])) fun(y:Bool)=>bif !y
 then some (((0,0),0,0,0,[],[]),1)else Option.bind (Ey N x.1 Bh.1) fun(y:Bool)=>bif y then some (((0,0),0,0,0,[],[]),7)else Option.bind (Hm N x) fun(y:A6 Bv1)=>Option.bind (Iv N y Bh.2.2.1) fun(y:Bvj)=>Ar
 (fun(z:Unit×((Bv1×Unit)×Unit)×Unit×Unit)=>bif decide (256<(↑z.2.1.1.1.2.2.2.2.2.length:Int))then some (((0,0),0,0,0,[],[]),3)else some (z.2.1.1.1,0)) fun(k:Unit×((Bv1×Unit)×Unit)×Unit×Unit→A7 (Bv1×Int))=>bif
 Bh.2.1==1 then Option.bind (Hm N x) fun(y:A6 Bv1)=>Option.bind (K9 N y Bh.2.2.1 Bh.2.2.2.1) fun(y:Bvj)=>k ((),(((Bh.1,Bh.2.1,Bh.2.2.1,Bh.2.2.2.1,Bh.2.2.2.2.1,y),()),()),(),())else k
 ((),(((Bh.1,Bh.2.1,Bh.2.2.1,Bh.2.2.2.1,Bh.2.2.2.2.1,y),()),()),(),())
def A71:=Cn [Uz N,Ls N,A2x N,A6z N,A70 N] [] N 16 (A5 (A5 (A5 (A5 (A5 (.join ⟨[],[(1003,[.d A8],some 52)],[3,4],[1004],[],[]⟩ .lf .lf)))))) [Ay,A8] [A8,A4] (Ka N) mixed func16 rfl (by decide) rfl (by kernel_rfl)
def Lv:Cw [Ay,(.sl Bb)] (A7 (Bd [Ay])):=fun(x:Bvo) (Bh:A6 Bv7)=>Option.bind (G1 N x.1 Bh) fun(y:A6 Bv7)=>some (y,x.2)
def A96:=Cn [P3 N] [] N 17 .lf [Ay,(.sl Bb)] [Ay] (Lv N) mixed func17 rfl (by decide) rfl (by kernel_rfl)
def Gx:Cw [A8,(.sl Bb)] (A7 (Bd [A8])):=fun(x:Bv3×UInt8×Int×UInt8×A6 UInt8×A6 Bv3) (Bh:A6 Bv7)=>Option.bind (Ey N Bh x.1) fun(y:Bool)=>bif y then some
 (x.1,x.2.1,x.2.2.1,x.2.2.2.1,x.2.2.2.2.1,[])else some x
def A4h:=Cn [Ls N] [] N 45 .lf [A8,(.sl Bb)] [A8] (Gx N) mixed func45 rfl (by decide) rfl (by kernel_rfl)
def Jj:Cw [Ay,(.sl Bb)] (A7 (Bd [Ay,A4])):=fun(x:Bvo) (Bh:A6 Bv7)=>iter (fun(rec:Bvl×Unit×Unit×Unit→A7 (Bvo×Int)) (z:Bvl×Unit×Unit×Unit)=>bif decide (z.1.2.1<(↑x.2.length:Int))then
 (at? x.2 z.1.2.1).bind fun(e:Bv3×UInt8×Int×UInt8×A6 UInt8×A6 Bv3)=>bif e.2.1==1 then (at? x.2 z.1.2.1).bind fun(e:Bv3×UInt8×Int×UInt8×A6 UInt8×A6 Bv3)=>Option.bind (Gx N e Bh) fun(y:Bv3×UInt8×Int×UInt8×List
 UInt8×A6 Bv3)=>bif Au (z.1.1.length + [y].length) 80 then rec ((z.1.1++[y],i64.wrap (z.1.2.1+1),()),(),(),())else none else (at? x.2 z.1.2.1).bind fun(e:Bv3×UInt8×Int×UInt8×A6 UInt8×A6 Bv3)=>Option.bind
 (Ey N Bh e.1) fun(y:Bool)=>bif !y then (at? x.2 z.1.2.1).bind fun(e:Bv3×UInt8×Int×UInt8×A6 UInt8×A6 Bv3)=>Option.bind (Gx N e Bh) fun(y:Bv3×UInt8×Int×UInt8×A6 UInt8×A6 Bv3)=>bif Au (z.1.1.length + [y].length) 80
 then rec ((z.1.1++[y],i64.wrap (z.1.2.1+1),()),(),(),())else none else rec ((z.1.1,i64.wrap (z.1.2.1+1),()),(),(),())else some ((x.1,z.1.1),i64.wrap ((↑x.2.length:Int)-(↑z.1.1.length:Int)))) N
 (([],0,()),(),(),())
def A4i:=Cn [Ls N,A4h N] [] N 18 (A5 (A5 (.seq (A5 (.blk (.loop ⟨[(6,.Cv 200006 A8 none),(7,.d A4)],[],[1,2,4],[1002,1004],[],[]⟩ .lf))) .lf))) [Ay,(.sl Bb)] [Ay,A4] (Jj N) mixed func18 rfl (by decide) rfl (by kernel_rfl)
def Mu:Cw [(.sl tepitaphlaw18Act)] (A7 (Bd [Ay])):=fun(x:A6 (UInt8×Bv1×A6 Bv7))=>iter (fun(rec:Bv6×((Bvo×Unit)×Unit)×Unit×Unit→A7 Bvo) (z:Bv6×((Bvo×Unit)×Unit)×Unit×Unit)=>bif decide
 (z.1.1<(↑x.length:Int))then (at? x z.1.1).bind fun(e:UInt8×Bv1×A6 Bv7)=>bif e.1==0 then Option.bind (Ip N z.2.1.1.1 e.2.1) fun(y:Bvo×Int)=>rec ((i64.wrap (z.1.1+1),()),((y.1,()),()),(),())else bif e.1==1 then
 Option.bind (Ka N z.2.1.1.1 e.2.1) fun(y:Bv1×Int)=>Option.bind (Ip N z.2.1.1.1 y.1) fun(y:Bvo×Int)=>rec ((i64.wrap (z.1.1+1),()),((y.1,()),()),(),())else bif e.1==2 then Option.bind (Lv N z.2.1.1.1 e.2.2)
 fun(y:Bvo)=>rec ((i64.wrap (z.1.1+1),()),((y,()),()),(),())else bif e.1==3 then Option.bind (Jj N z.2.1.1.1 e.2.2) fun(y:Bvo×Int)=>rec ((i64.wrap (z.1.1+1),()),((y.1,()),()),(),())else rec
 ((i64.wrap (z.1.1+1),()),((z.2.1.1.1,()),()),(),())else some z.2.1.1.1) N ((0,()),((([],[]),()),()),(),())
def Abz:=Cn [A95 N,A71 N,A96 N,A4i N] [] N 6 (A5 (A5 (.seq (A5 (.blk (.loop ⟨[(4,.d A4)],[(1003,[.d Ay],some 30)],[0,2,3],[1002],[],[]⟩ .lf))) .lf))) [(.sl tepitaphlaw18Act)] [Ay] (Mu N) mixed func6 rfl (by decide) rfl (by kernel_rfl)
@[reducible] def Sh1:Sh:=.d (.sl Bb) (.m Al A8 (.m Al A8 .nil))
@[reducible] def A25:H8:=⟨[.p 1 777777777,.d A8],[],[(1,.map Al A8)],⟨[(4,.p 1 777777777)],[],[],[],[],[(1,.map Al A8)]⟩⟩
def Lw:H8.Cw A25 (A7 A25.out.T):=fun(y:Bv3×UInt8×Int×UInt8×A6 UInt8×A6 Bv3) (l:Bv9)=>Option.bind (Bq N y) fun(B9:Bv3×UInt8×Int×UInt8×A6 UInt8×A6 Bv3)=>some (((),()),(),(),(Beu Al A8 y.1
 B9 l.2 l.1,B28 Al A8 y.1 l.1 l.2),())
def Asu:=K1 [Gq N] [] N 23 .lf A25 (Lw N) mixed func23 rfl (by decide) rfl rfl rfl (by kernel_rfl)
@[reducible] def A26:H8:=⟨[.nil false,.d A8],[],[],⟨[(4,.p 1007 777777777)],[],[],[],[],[(1007,.map Al A8)]⟩⟩
def Lx:H8.Cw A26 (A7 A26.out.T):=fun(y:Bv3×UInt8×Int×UInt8×A6 UInt8×A6 Bv3)=>Option.bind (Bq N y) fun(B9:Bv3×UInt8×Int×UInt8×A6 UInt8×A6 Bv3)=>some (((),()),(),(),(Beu Al A8 y.1 B9 0
 [],B28 Al A8 y.1 [] 0),())
def Asv:=K1 [Gq N] [] N 23 .lf A26 (Lx N) mixed func23 rfl (by decide) rfl rfl rfl (by kernel_rfl)
@[reducible] def Zj:H8:=⟨[.p 1 900001001],[(1,[.p 2 777777777],some 67)],[(2,.map Al A8)],⟨[(2,.d (.sl A8))],[],[],[1,2],[],[]⟩⟩
def Hu:H8.Cw Zj (A7 Zj.out.T):=fun(l:Bv9)=>iter (fun(rec:Unit×Unit×Bv4×Bvh×Unit→A7 Bv8) (z:Unit×Unit×Bv4×Bvh×Unit)=>A9 z.2.2.1.1 (bif Rz z.2.2.2.1.1 z.2.2.2.1.2.2 l.1 then Ke (Bx
 z.2.2.2.1.2.1 l.1) (some (([],()),(),(),())) fun(e:Nat×Bv3×Bv3×UInt8×Int×UInt8×A6 UInt8×A6 Bv3)=>bif l.2.beq l.2 then A9 (I6 (z.2.2.2.1.2.1++[e.1])) none fun(p:A6 Nat×Nat)=>A9 (Jt Al A8 p.2 l.1) none
 fun(Dt:Nat×Bv3×Bv3×UInt8×Int×UInt8×A6 UInt8×A6 Bv3)=>Option.bind (Bq N Dt.2.2) fun(y:Bv3×UInt8×Int×UInt8×A6 UInt8×A6 Bv3)=>rec ((),(),(some ([y],[y].length),()),(z.2.2.2.1.1,z.2.2.2.1.2.1++[e.1],l.2),())else
 none else none) fun(y:A6 Bv1×Nat)=>bif Rz z.2.2.2.1.1 z.2.2.2.1.2.2 l.1 then Ke (Bx z.2.2.2.1.2.1 l.1) (bif y.2.ble y.1.length then bif y.2.ble 4611686018427387903 then bif D6 (List.take y.2 y.1)then bif bif
 (0+y.2).ble (Aj (List.take y.2 y.1)++List.drop y.2 y.1).length then true else false then some ((List.take y.2 (List.drop 0 (Aj (List.take y.2 y.1)++List.drop y.2 y.1)),()),(),(),())else none else none else none else
 none) fun(e:Nat×Bv3×Bv3×UInt8×Int×UInt8×A6 UInt8×A6 Bv3)=>bif l.2.beq l.2 then A9 (I6 (z.2.2.2.1.2.1++[e.1])) none fun(p:A6 Nat×Nat)=>A9 (Jt Al A8 p.2 l.1) none fun(Dt:Nat×Bv3×Bv3×UInt8×Int×UInt8×A6 UInt8×List
 Bv3)=>Option.bind (Bq N Dt.2.2) fun(B9:Bv3×UInt8×Int×UInt8×A6 UInt8×A6 Bv3)=>bif y.1.length.beq y.2 then bif Au (y.2 + [B9].length) 80 then rec ((),(),(some (y.1++[B9],y.2 +
 [B9].length),()),(z.2.2.2.1.1,z.2.2.2.1.2.1++[e.1],l.2),())else none else none else none else none) N ((),(),(none,()),(l.2,[],l.2),())
def Amn:=K1 [Gq N,Bf N] [24] N 60 (A5 (A5 (.seq (A5 (.blk (.rnd (A5 (A5 (.seq (.blk (A5 (A5 (.blk (.loop ⟨[],[],[8,9,10,15],[1,2],[(3,400003,A8)],[(1015,.Kn 2)]⟩ .lf))))) .lf))) (.rnd (A5 (A5 (.seq (.blk (A5 (A5 (.blk (.loop ⟨[],[],[8,9,10,15],[1,2],[(3,400003,A8)],[(1015,.E5)]⟩ .lf))))) .lf))) (.rnd (A5 (A5 (.seq (.blk (A5 (A5 (.blk (.loop ⟨[],[],[8,9,10,15],[1,2],[(3,400003,A8)],[(1015,.E5)]⟩ .lf))))) .lf))) .lf))))) (.fz [3] .lf .lf)))) Zj (Hu N) mixed func60 rfl (by decide) rfl rfl rfl (by kernel_rfl)
@[reducible] def Zk:H8:=⟨[.p 1 900001001],[(1,[.Ld],some 67)],[],⟨[(2,.d (.sl A8))],[],[],[1],[],[]⟩⟩
def Ju:H8.Cw Zk (A7 Zk.out.T):=iter (fun(rec:Unit×Unit×Bv4×Unit×Unit→A7 Bv8) (z:Unit×Unit×Bv4×Unit×Unit)=>A9 z.2.2.1.1 (some (([],()),(),(),())) fun(y:A6 Bv1×Nat)=>bif y.2.ble y.1.length
 then bif y.2.ble 4611686018427387903 then bif D6 (List.take y.2 y.1)then bif bif (0+y.2).ble (Aj (List.take y.2 y.1)++List.drop y.2 y.1).length then true else false then some ((List.take y.2 (List.drop 0 (Aj (List.take
 y.2 y.1)++List.drop y.2 y.1)),()),(),(),())else none else none else none else none) N ((),(),(none,()),(),())
def Amo:=K1 [Gq N,Bf N] [24] N 60 (A5 (A5 (.seq (A5 (.blk (.rnd (A5 (A5 (.seq (.blk (A5 (A5 (.blk (.loop ⟨[],[],[8,9,10,15],[1],[(3,400003,A8)],[(1015,.E5)]⟩ .lf))))) .lf))) (.rnd (A5 (A5 (.seq (.blk (A5 (A5 (.blk (.loop ⟨[],[],[8,9,10,15],[1],[(3,400003,A8)],[(1015,.E5)]⟩ .lf))))) .lf))) (.rnd (A5 (A5 (.seq (.blk (A5 (A5 (.blk (.loop ⟨[],[],[8,9,10,15],[1],[(3,400003,A8)],[(1015,.E5)]⟩ .lf))))) .lf))) .lf))))) (.fz [3] .lf .lf)))) Zk (Ju N) mixed func60 rfl (by decide) rfl rfl rfl (by kernel_rfl)
@[reducible] def Xj:H8:=⟨[.p 1 900002001],[(1,[.p 2 777777777,.p 3 777777777],some 67)],[(2,.map Al A8),(3,.map Al A8)],⟨[(2,.d (.sl A8))],[],[],[1,2,3],[],[]⟩⟩
def Akf:H8.Cw Xj (A7 Xj.out.T):=fun(l l_1:Bv9)=>Ar (fun(z:Unit×Unit×Bv4×Unit)=>A9 z.2.2.1.1 (Ar (fun(z:Unit×Unit×Bv4×Unit)=>A9 z.2.2.1.1 (some (([],()),(),(),())) fun(y:A6 Bv1×Nat)=>bif y.2.ble
 y.1.length then bif y.2.ble 4611686018427387903 then bif D6 (List.take y.2 y.1)then bif bif (0+y.2).ble (Aj (List.take y.2 y.1)++List.drop y.2 y.1).length then true else false then some ((List.take y.2 (List.drop 0 (Aj
 (List.take y.2 y.1)++List.drop y.2 y.1)),()),(),(),())else none else none else none else none) fun(k:Unit×Unit×Bv4×Unit→A7 Bv8)=>iter (fun(rec:Unit×Unit×Bv4×Bvh×Unit→A7 Bv8) (z:Unit×Unit×Bv4×Bvh×Unit)=>A9
 z.2.2.1.1 (bif Rz z.2.2.2.1.1 z.2.2.2.1.2.2 l_1.1 then Ke (Bx z.2.2.2.1.2.1 l_1.1) (k ((),(),(none,()),())) fun(e:Nat×Bv3×Bv3×UInt8×Int×UInt8×A6 UInt8×A6 Bv3)=>bif l_1.2.beq l_1.2 then A9 (I6 (z.2.2.2.1.2.1++[e.1]))
 none fun(p:A6 Nat×Nat)=>A9 (Jt Al A8 p.2 l_1.1) none fun(Dt:Nat×Bv3×Bv3×UInt8×Int×UInt8×A6 UInt8×A6 Bv3)=>Option.bind (Bq N Dt.2.2) fun(y:Bv3×UInt8×Int×UInt8×A6 UInt8×A6 Bv3)=>rec ((),(),(some
 ([y],[y].length),()),(z.2.2.2.1.1,z.2.2.2.1.2.1++[e.1],l_1.2),())else none else none) fun(y:A6 Bv1×Nat)=>bif Rz z.2.2.2.1.1 z.2.2.2.1.2.2 l_1.1 then Ke (Bx z.2.2.2.1.2.1 l_1.1) (k ((),(),(some y,()),()))
 fun(e:Nat×Bv3×Bv3×UInt8×Int×UInt8×A6 UInt8×A6 Bv3)=>bif l_1.2.beq l_1.2 then A9 (I6 (z.2.2.2.1.2.1++[e.1])) none fun(p:A6 Nat×Nat)=>A9 (Jt Al A8 p.2 l_1.1) none fun(Dt:Nat×Bv3×Bv3×UInt8×Int×UInt8×A6 UInt8×List
 Bv3)=>Option.bind (Bq N Dt.2.2) fun(B9:Bv3×UInt8×Int×UInt8×A6 UInt8×A6 Bv3)=>bif y.1.length.beq y.2 then bif Au (y.2 + [B9].length) 80 then rec ((),(),(some (y.1++[B9],y.2 +
 [B9].length),()),(z.2.2.2.1.1,z.2.2.2.1.2.1++[e.1],l_1.2),())else none else none else none else none) N ((),(),(none,()),(l_1.2,[],l_1.2),())) fun(y:A6 Bv1×Nat)=>Ar (fun(z:Unit×Unit×Bv4×Unit)=>A9 z.2.2.1.1 (some
 (([],()),(),(),())) fun(y:A6 Bv1×Nat)=>bif y.2.ble y.1.length then bif y.2.ble 4611686018427387903 then bif D6 (List.take y.2 y.1)then bif bif (0+y.2).ble (Aj (List.take y.2 y.1)++List.drop y.2 y.1).length then true
 else false then some ((List.take y.2 (List.drop 0 (Aj (List.take y.2 y.1)++List.drop y.2 y.1)),()),(),(),())else none else none else none else none) fun(k:Unit×Unit×Bv4×Unit→A7 Bv8)=>iter
 (fun(rec:Unit×Unit×Bv4×Bvh×Unit→A7 Bv8) (z:Unit×Unit×Bv4×Bvh×Unit)=>A9 z.2.2.1.1 (bif Rz z.2.2.2.1.1 z.2.2.2.1.2.2 l_1.1 then Ke (Bx z.2.2.2.1.2.1 l_1.1) (k ((),(),(none,()),()))
 fun(e:Nat×Bv3×Bv3×UInt8×Int×UInt8×A6 UInt8×A6 Bv3)=>bif l_1.2.beq l_1.2 then A9 (I6 (z.2.2.2.1.2.1++[e.1])) none fun(p:A6 Nat×Nat)=>A9 (Jt Al A8 p.2 l_1.1) none fun(Dt:Nat×Bv3×Bv3×UInt8×Int×UInt8×A6 UInt8×List
 Bv3)=>Option.bind (Bq N Dt.2.2) fun(y:Bv3×UInt8×Int×UInt8×A6 UInt8×A6 Bv3)=>rec ((),(),(some ([y],[y].length),()),(z.2.2.2.1.1,z.2.2.2.1.2.1++[e.1],l_1.2),())else none else none) fun(y:A6 Bv1×Nat)=>bif Rz
 z.2.2.2.1.1 z.2.2.2.1.2.2 l_1.1 then Ke (Bx z.2.2.2.1.2.1 l_1.1) (k ((),(),(some y,()),())) fun(e:Nat×Bv3×Bv3×UInt8×Int×UInt8×A6 UInt8×A6 Bv3)=>bif l_1.2.beq l_1.2 then A9 (I6 (z.2.2.2.1.2.1++[e.1])) none fun(p:List
 Nat×Nat)=>A9 (Jt Al A8 p.2 l_1.1) none fun(Dt:Nat×Bv3×Bv3×UInt8×Int×UInt8×A6 UInt8×A6 Bv3)=>Option.bind (Bq N Dt.2.2) fun(B9:Bv3×UInt8×Int×UInt8×A6 UInt8×A6 Bv3)=>bif y.1.length.beq y.2 then bif Au (y.2 +
 [B9].length) 80 then rec ((),(),(some (y.1++[B9],y.2 + [B9].length),()),(z.2.2.2.1.1,z.2.2.2.1.2.1++[e.1],l_1.2),())else none else none else none else none) N ((),(),(some y,()),(l_1.2,[],l_1.2),()))
 fun(k:Unit×Unit×Bv4×Unit→A7 Bv8)=>iter (fun(rec:Unit×Unit×Bv4×Bvh×Unit→A7 Bv8) (z:Unit×Unit×Bv4×Bvh×Unit)=>A9 z.2.2.1.1 (bif Rz z.2.2.2.1.1 z.2.2.2.1.2.2 l.1 then Ke (Bx z.2.2.2.1.2.1 l.1) (k
 ((),(),(none,()),())) fun(e:Nat×Bv3×Bv3×UInt8×Int×UInt8×A6 UInt8×A6 Bv3)=>bif l.2.beq l.2 then A9 (I6 (z.2.2.2.1.2.1++[e.1])) none fun(p:A6 Nat×Nat)=>A9 (Jt Al A8 p.2 l.1) none
 fun(Dt:Nat×Bv3×Bv3×UInt8×Int×UInt8×A6 UInt8×A6 Bv3)=>Option.bind (Bq N Dt.2.2) fun(y:Bv3×UInt8×Int×UInt8×A6 UInt8×A6 Bv3)=>rec ((),(),(some ([y],[y].length),()),(z.2.2.2.1.1,z.2.2.2.1.2.1++[e.1],l.2),())else
 none else none) fun(y:A6 Bv1×Nat)=>bif Rz z.2.2.2.1.1 z.2.2.2.1.2.2 l.1 then Ke (Bx z.2.2.2.1.2.1 l.1) (k ((),(),(some y,()),())) fun(e:Nat×Bv3×Bv3×UInt8×Int×UInt8×A6 UInt8×A6 Bv3)=>bif l.2.beq l.2 then A9 (I6
 (z.2.2.2.1.2.1++[e.1])) none fun(p:A6 Nat×Nat)=>A9 (Jt Al A8 p.2 l.1) none fun(Dt:Nat×Bv3×Bv3×UInt8×Int×UInt8×A6 UInt8×A6 Bv3)=>Option.bind (Bq N Dt.2.2) fun(B9:Bv3×UInt8×Int×UInt8×A6 UInt8×A6 Bv3)=>bif
 y.1.length.beq y.2 then bif Au (y.2 + [B9].length) 80 then rec ((),(),(some (y.1++[B9],y.2 + [B9].length),()),(z.2.2.2.1.1,z.2.2.2.1.2.1++[e.1],l.2),())else none else none else none else none) N
 ((),(),(none,()),(l.2,[],l.2),())
def Akg:=K1 [Gq N,Bf N] [24] N 60 (A5 (A5 (.seq (A5 (.blk (.rnd (A5 (A5 (.join ⟨[],[],[8,9,10],[1,2,3],[(3,400003,A8)],[]⟩ (.blk (A5 (A5 (.blk (.loop ⟨[],[],[8,9,10,15],[1,2,3],[(3,400003,A8)],[(1015,.Kn 2)]⟩ .lf))))) .lf))) (.rnd (A5 (A5 (.join ⟨[],[],[8,9,10],[1,2,3],[(3,400003,A8)],[]⟩ (.blk (A5 (A5 (.blk (.loop ⟨[],[],[8,9,10,15],[1,2,3],[(3,400003,A8)],[(1015,.Kn 3)]⟩ .lf))))) .lf))) (.rnd (A5 (A5 (.join ⟨[],[],[8,9,10],[1,2,3],[(3,400003,A8)],[]⟩ (.blk (A5 (A5 (.blk (.loop ⟨[],[],[8,9,10,15],[1,2,3],[(3,400003,A8)],[(1015,.E5)]⟩ .lf))))) .lf))) .lf))))) (.fz [3] .lf .lf)))) Xj (Akf N) mixed func60 rfl (by decide) rfl rfl rfl (by kernel_rfl)
@[reducible] def Xk:H8:=⟨[.p 1 900002001],[(1,[.p 2 777777777,.Ld],some 67)],[(2,.map Al A8)],⟨[(2,.d (.sl A8))],[],[],[1,2],[],[]⟩⟩
def Akh:H8.Cw Xk (A7 Xk.out.T):=fun(l:Bv9)=>Ar (fun(z:Unit×Unit×Bv4×Unit)=>A9 z.2.2.1.1 (Ar (fun(z:Unit×Unit×Bv4×Unit)=>A9 z.2.2.1.1 (some (([],()),(),(),())) fun(y:A6 Bv1×Nat)=>bif y.2.ble
 y.1.length then bif y.2.ble 4611686018427387903 then bif D6 (List.take y.2 y.1)then bif bif (0+y.2).ble (Aj (List.take y.2 y.1)++List.drop y.2 y.1).length then true else false then some ((List.take y.2 (List.drop 0 (Aj
 (List.take y.2 y.1)++List.drop y.2 y.1)),()),(),(),())else none else none else none else none) fun(k:Unit×Unit×Bv4×Unit→A7 Bv8)=>iter (fun(rec:Unit×Unit×Bv4×Unit×Unit→A7 Bv8) (z:Unit×Unit×Bv4×Unit×Unit)=>A9
 z.2.2.1.1 (k ((),(),(none,()),())) fun(y:A6 Bv1×Nat)=>k ((),(),(some y,()),())) N ((),(),(none,()),(),())) fun(y:A6 Bv1×Nat)=>Ar (fun(z:Unit×Unit×Bv4×Unit)=>A9 z.2.2.1.1 (some (([],()),(),(),())) fun(y:List
 Bv1×Nat)=>bif y.2.ble y.1.length then bif y.2.ble 4611686018427387903 then bif D6 (List.take y.2 y.1)then bif bif (0+y.2).ble (Aj (List.take y.2 y.1)++List.drop y.2 y.1).length then true else false then some ((List.take
 y.2 (List.drop 0 (Aj (List.take y.2 y.1)++List.drop y.2 y.1)),()),(),(),())else none else none else none else none) fun(k:Unit×Unit×Bv4×Unit→A7 Bv8)=>iter (fun(rec:Unit×Unit×Bv4×Unit×Unit→A7 Bv8)
 (z:Unit×Unit×Bv4×Unit×Unit)=>A9 z.2.2.1.1 (k ((),(),(none,()),())) fun(y:A6 Bv1×Nat)=>k ((),(),(some y,()),())) N ((),(),(some y,()),(),())) fun(k:Unit×Unit×Bv4×Unit→A7 Bv8)=>iter
 (fun(rec:Unit×Unit×Bv4×Bvh×Unit→A7 Bv8) (z:Unit×Unit×Bv4×Bvh×Unit)=>A9 z.2.2.1.1 (bif Rz z.2.2.2.1.1 z.2.2.2.1.2.2 l.1 then Ke (Bx z.2.2.2.1.2.1 l.1) (k ((),(),(none,()),())) fun(e:Nat×Bv3×Bv3×UInt8×Int×UInt8×List
 UInt8×A6 Bv3)=>bif l.2.beq l.2 then A9 (I6 (z.2.2.2.1.2.1++[e.1])) none fun(p:A6 Nat×Nat)=>A9 (Jt Al A8 p.2 l.1) none fun(Dt:Nat×Bv3×Bv3×UInt8×Int×UInt8×A6 UInt8×A6 Bv3)=>Option.bind (Bq N Dt.2.2)
 fun(y:Bv3×UInt8×Int×UInt8×A6 UInt8×A6 Bv3)=>rec ((),(),(some ([y],[y].length),()),(z.2.2.2.1.1,z.2.2.2.1.2.1++[e.1],l.2),())else none else none) fun(y:A6 Bv1×Nat)=>bif Rz z.2.2.2.1.1 z.2.2.2.1.2.2 l.1 then Ke (Bx
 z.2.2.2.1.2.1 l.1) (k ((),(),(some y,()),())) fun(e:Nat×Bv3×Bv3×UInt8×Int×UInt8×A6 UInt8×A6 Bv3)=>bif l.2.beq l.2 then A9 (I6 (z.2.2.2.1.2.1++[e.1])) none fun(p:A6 Nat×Nat)=>A9 (Jt Al A8 p.2 l.1) none
 fun(Dt:Nat×Bv3×Bv3×UInt8×Int×UInt8×A6 UInt8×A6 Bv3)=>Option.bind (Bq N Dt.2.2) fun(B9:Bv3×UInt8×Int×UInt8×A6 UInt8×A6 Bv3)=>bif y.1.length.beq y.2 then bif Au (y.2 + [B9].length) 80 then rec ((),(),(some
 (y.1++[B9],y.2 + [B9].length),()),(z.2.2.2.1.1,z.2.2.2.1.2.1++[e.1],l.2),())else none else none else none else none) N ((),(),(none,()),(l.2,[],l.2),())
def Aki:=K1 [Gq N,Bf N] [24] N 60 (A5 (A5 (.seq (A5 (.blk (.rnd (A5 (A5 (.join ⟨[],[],[8,9,10],[1,2],[(3,400003,A8)],[]⟩ (.blk (A5 (A5 (.blk (.loop ⟨[],[],[8,9,10,15],[1,2],[(3,400003,A8)],[(1015,.Kn 2)]⟩ .lf))))) .lf))) (.rnd (A5 (A5 (.join ⟨[],[],[8,9,10],[1,2],[(3,400003,A8)],[]⟩ (.blk (A5 (A5 (.blk (.loop ⟨[],[],[8,9,10,15],[1,2],[(3,400003,A8)],[(1015,.E5)]⟩ .lf))))) .lf))) (.rnd (A5 (A5 (.join ⟨[],[],[8,9,10],[1,2],[(3,400003,A8)],[]⟩ (.blk (A5 (A5 (.blk (.loop ⟨[],[],[8,9,10,15],[1,2],[(3,400003,A8)],[(1015,.E5)]⟩ .lf))))) .lf))) .lf))))) (.fz [3] .lf .lf)))) Xk (Akh N) mixed func60 rfl (by decide) rfl rfl rfl (by kernel_rfl)
@[reducible] def Xm:H8:=⟨[.p 1 900002001],[(1,[.Ld,.p 3 777777777],some 67)],[(3,.map Al A8)],⟨[(2,.d (.sl A8))],[],[],[1,3],[],[]⟩⟩
def Akj:H8.Cw Xm (A7 Xm.out.T):=fun(l:Bv9)=>Ar (fun(z:Unit×Unit×Bv4×Unit)=>A9 z.2.2.1.1 (Ar (fun(z:Unit×Unit×Bv4×Unit)=>A9 z.2.2.1.1 (some (([],()),(),(),())) fun(y:A6 Bv1×Nat)=>bif y.2.ble
 y.1.length then bif y.2.ble 4611686018427387903 then bif D6 (List.take y.2 y.1)then bif bif (0+y.2).ble (Aj (List.take y.2 y.1)++List.drop y.2 y.1).length then true else false then some ((List.take y.2 (List.drop 0 (Aj
 (List.take y.2 y.1)++List.drop y.2 y.1)),()),(),(),())else none else none else none else none) fun(k:Unit×Unit×Bv4×Unit→A7 Bv8)=>iter (fun(rec:Unit×Unit×Bv4×Bvh×Unit→A7 Bv8) (z:Unit×Unit×Bv4×Bvh×Unit)=>A9
 z.2.2.1.1 (bif Rz z.2.2.2.1.1 z.2.2.2.1.2.2 l.1 then Ke (Bx z.2.2.2.1.2.1 l.1) (k ((),(),(none,()),())) fun(e:Nat×Bv3×Bv3×UInt8×Int×UInt8×A6 UInt8×A6 Bv3)=>bif l.2.beq l.2 then A9 (I6 (z.2.2.2.1.2.1++[e.1])) none
 fun(p:A6 Nat×Nat)=>A9 (Jt Al A8 p.2 l.1) none fun(Dt:Nat×Bv3×Bv3×UInt8×Int×UInt8×A6 UInt8×A6 Bv3)=>Option.bind (Bq N Dt.2.2) fun(y:Bv3×UInt8×Int×UInt8×A6 UInt8×A6 Bv3)=>rec ((),(),(some
 ([y],[y].length),()),(z.2.2.2.1.1,z.2.2.2.1.2.1++[e.1],l.2),())else none else none) fun(y:A6 Bv1×Nat)=>bif Rz z.2.2.2.1.1 z.2.2.2.1.2.2 l.1 then Ke (Bx z.2.2.2.1.2.1 l.1) (k ((),(),(some y,()),()))
 fun(e:Nat×Bv3×Bv3×UInt8×Int×UInt8×A6 UInt8×A6 Bv3)=>bif l.2.beq l.2 then A9 (I6 (z.2.2.2.1.2.1++[e.1])) none fun(p:A6 Nat×Nat)=>A9 (Jt Al A8 p.2 l.1) none fun(Dt:Nat×Bv3×Bv3×UInt8×Int×UInt8×A6 UInt8×List
 Bv3)=>Option.bind (Bq N Dt.2.2) fun(B9:Bv3×UInt8×Int×UInt8×A6 UInt8×A6 Bv3)=>bif y.1.length.beq y.2 then bif Au (y.2 + [B9].length) 80 then rec ((),(),(some (y.1++[B9],y.2 +
 [B9].length),()),(z.2.2.2.1.1,z.2.2.2.1.2.1++[e.1],l.2),())else none else none else none else none) N ((),(),(none,()),(l.2,[],l.2),())) fun(y:A6 Bv1×Nat)=>Ar (fun(z:Unit×Unit×Bv4×Unit)=>A9 z.2.2.1.1 (some
 (([],()),(),(),())) fun(y:A6 Bv1×Nat)=>bif y.2.ble y.1.length then bif y.2.ble 4611686018427387903 then bif D6 (List.take y.2 y.1)then bif bif (0+y.2).ble (Aj (List.take y.2 y.1)++List.drop y.2 y.1).length then true
 else false then some ((List.take y.2 (List.drop 0 (Aj (List.take y.2 y.1)++List.drop y.2 y.1)),()),(),(),())else none else none else none else none) fun(k:Unit×Unit×Bv4×Unit→A7 Bv8)=>iter
 (fun(rec:Unit×Unit×Bv4×Bvh×Unit→A7 Bv8) (z:Unit×Unit×Bv4×Bvh×Unit)=>A9 z.2.2.1.1 (bif Rz z.2.2.2.1.1 z.2.2.2.1.2.2 l.1 then Ke (Bx z.2.2.2.1.2.1 l.1) (k ((),(),(none,()),())) fun(e:Nat×Bv3×Bv3×UInt8×Int×UInt8×List
 UInt8×A6 Bv3)=>bif l.2.beq l.2 then A9 (I6 (z.2.2.2.1.2.1++[e.1])) none fun(p:A6 Nat×Nat)=>A9 (Jt Al A8 p.2 l.1) none fun(Dt:Nat×Bv3×Bv3×UInt8×Int×UInt8×A6 UInt8×A6 Bv3)=>Option.bind (Bq N Dt.2.2)
 fun(y:Bv3×UInt8×Int×UInt8×A6 UInt8×A6 Bv3)=>rec ((),(),(some ([y],[y].length),()),(z.2.2.2.1.1,z.2.2.2.1.2.1++[e.1],l.2),())else none else none) fun(y:A6 Bv1×Nat)=>bif Rz z.2.2.2.1.1 z.2.2.2.1.2.2 l.1 then Ke (Bx
 z.2.2.2.1.2.1 l.1) (k ((),(),(some y,()),())) fun(e:Nat×Bv3×Bv3×UInt8×Int×UInt8×A6 UInt8×A6 Bv3)=>bif l.2.beq l.2 then A9 (I6 (z.2.2.2.1.2.1++[e.1])) none fun(p:A6 Nat×Nat)=>A9 (Jt Al A8 p.2 l.1) none
 fun(Dt:Nat×Bv3×Bv3×UInt8×Int×UInt8×A6 UInt8×A6 Bv3)=>Option.bind (Bq N Dt.2.2) fun(B9:Bv3×UInt8×Int×UInt8×A6 UInt8×A6 Bv3)=>bif y.1.length.beq y.2 then bif Au (y.2 + [B9].length) 80 then rec ((),(),(some
 (y.1++[B9],y.2 + [B9].length),()),(z.2.2.2.1.1,z.2.2.2.1.2.1++[e.1],l.2),())else none else none else none else none) N ((),(),(some y,()),(l.2,[],l.2),())) fun(k:Unit×Unit×Bv4×Unit→A7 Bv8)=>iter
 (fun(rec:Unit×Unit×Bv4×Unit×Unit→A7 Bv8) (z:Unit×Unit×Bv4×Unit×Unit)=>A9 z.2.2.1.1 (k ((),(),(none,()),())) fun(y:A6 Bv1×Nat)=>k ((),(),(some y,()),())) N ((),(),(none,()),(),())
def Akk:=K1 [Gq N,Bf N] [24] N 60 (A5 (A5 (.seq (A5 (.blk (.rnd (A5 (A5 (.join ⟨[],[],[8,9,10],[1,3],[(3,400003,A8)],[]⟩ (.blk (A5 (A5 (.blk (.loop ⟨[],[],[8,9,10,15],[1,3],[(3,400003,A8)],[(1015,.E5)]⟩ .lf))))) .lf))) (.rnd (A5 (A5 (.join ⟨[],[],[8,9,10],[1,3],[(3,400003,A8)],[]⟩ (.blk (A5 (A5 (.blk (.loop ⟨[],[],[8,9,10,15],[1,3],[(3,400003,A8)],[(1015,.Kn 3)]⟩ .lf))))) .lf))) (.rnd (A5 (A5 (.join ⟨[],[],[8,9,10],[1,3],[(3,400003,A8)],[]⟩ (.blk (A5 (A5 (.blk (.loop ⟨[],[],[8,9,10,15],[1,3],[(3,400003,A8)],[(1015,.E5)]⟩ .lf))))) .lf))) .lf))))) (.fz [3] .lf .lf)))) Xm (Akj N) mixed func60 rfl (by decide) rfl rfl rfl (by kernel_rfl)
@[reducible] def Xn:H8:=⟨[.p 1 900002001],[(1,[.Ld,.Ld],some 67)],[],⟨[(2,.d (.sl A8))],[],[],[1],[],[]⟩⟩
def Akl:H8.Cw Xn (A7 Xn.out.T):=Ar (fun(z:Unit×Unit×Bv4×Unit)=>A9 z.2.2.1.1 (Ar (fun(z:Unit×Unit×Bv4×Unit)=>A9 z.2.2.1.1 (some (([],()),(),(),())) fun(y:A6 Bv1×Nat)=>bif y.2.ble y.1.length then
 bif y.2.ble 4611686018427387903 then bif D6 (List.take y.2 y.1)then bif bif (0+y.2).ble (Aj (List.take y.2 y.1)++List.drop y.2 y.1).length then true else false then some ((List.take y.2 (List.drop 0 (Aj (List.take y.2
 y.1)++List.drop y.2 y.1)),()),(),(),())else none else none else none else none) fun(k:Unit×Unit×Bv4×Unit→A7 Bv8)=>iter (fun(rec:Unit×Unit×Bv4×Unit×Unit→A7 Bv8) (z:Unit×Unit×Bv4×Unit×Unit)=>A9 z.2.2.1.1 (k
 ((),(),(none,()),())) fun(y:A6 Bv1×Nat)=>k ((),(),(some y,()),())) N ((),(),(none,()),(),())) fun(y:A6 Bv1×Nat)=>Ar (fun(z:Unit×Unit×Bv4×Unit)=>A9 z.2.2.1.1 (some (([],()),(),(),())) fun(y:A6 Bv1×Nat)=>bif y.2.ble
 y.1.length then bif y.2.ble 4611686018427387903 then bif D6 (List.take y.2 y.1)then bif bif (0+y.2).ble (Aj (List.take y.2 y.1)++List.drop y.2 y.1).length then true else false then some ((List.take y.2 (List.drop 0 (Aj
 (List.take y.2 y.1)++List.drop y.2 y.1)),()),(),(),())else none else none else none else none) fun(k:Unit×Unit×Bv4×Unit→A7 Bv8)=>iter (fun(rec:Unit×Unit×Bv4×Unit×Unit→A7 Bv8) (z:Unit×Unit×Bv4×Unit×Unit)=>A9
 z.2.2.1.1 (k ((),(),(none,()),())) fun(y:A6 Bv1×Nat)=>k ((),(),(some y,()),())) N ((),(),(some y,()),(),())) fun(k:Unit×Unit×Bv4×Unit→A7 Bv8)=>iter (fun(rec:Unit×Unit×Bv4×Unit×Unit→A7 Bv8)
 (z:Unit×Unit×Bv4×Unit×Unit)=>A9 z.2.2.1.1 (k ((),(),(none,()),())) fun(y:A6 Bv1×Nat)=>k ((),(),(some y,()),())) N ((),(),(none,()),(),())
def Akm:=K1 [Gq N,Bf N] [24] N 60 (A5 (A5 (.seq (A5 (.blk (.rnd (A5 (A5 (.join ⟨[],[],[8,9,10],[1],[(3,400003,A8)],[]⟩ (.blk (A5 (A5 (.blk (.loop ⟨[],[],[8,9,10,15],[1],[(3,400003,A8)],[(1015,.E5)]⟩ .lf))))) .lf))) (.rnd (A5 (A5 (.join ⟨[],[],[8,9,10],[1],[(3,400003,A8)],[]⟩ (.blk (A5 (A5 (.blk (.loop ⟨[],[],[8,9,10,15],[1],[(3,400003,A8)],[(1015,.E5)]⟩ .lf))))) .lf))) (.rnd (A5 (A5 (.join ⟨[],[],[8,9,10],[1],[(3,400003,A8)],[]⟩ (.blk (A5 (A5 (.blk (.loop ⟨[],[],[8,9,10,15],[1],[(3,400003,A8)],[(1015,.E5)]⟩ .lf))))) .lf))) .lf))))) (.fz [3] .lf .lf)))) Xn (Akl N) mixed func60 rfl (by decide) rfl rfl rfl (by kernel_rfl)
@[reducible] def Xo:H8:=⟨[.p 1 900001001],[(1,[.p 2 777777777],some 67)],[(2,.map Al A8)],⟨[],[],[],[1,2],[(2,2002,A8)],[]⟩⟩
def Ki:H8.Cw Xo (A7 Xo.out.T):=fun(l:Bv9)=>iter (fun(rec:Unit×Unit×Bv4×Bvh×Unit→A7 (Unit×Unit×Bv4×Unit)) (z:Unit×Unit×Bv4×Bvh×Unit)=>A9 z.2.2.1.1 (bif Rz z.2.2.2.1.1 z.2.2.2.1.2.2 l.1 then Ke
 (Bx z.2.2.2.1.2.1 l.1) (some ((),(),(none,()),())) fun(e:Nat×Bv3×Bv3×UInt8×Int×UInt8×A6 UInt8×A6 Bv3)=>bif l.2.beq l.2 then A9 (I6 (z.2.2.2.1.2.1++[e.1])) none fun(p:A6 Nat×Nat)=>A9 (Jt Al A8 p.2 l.1) none
 fun(Dt:Nat×Bv3×Bv3×UInt8×Int×UInt8×A6 UInt8×A6 Bv3)=>Option.bind (Bq N Dt.2.2) fun(y:Bv3×UInt8×Int×UInt8×A6 UInt8×A6 Bv3)=>rec ((),(),(some ([y],[y].length),()),(z.2.2.2.1.1,z.2.2.2.1.2.1++[e.1],l.2),())else
 none else none) fun(y:A6 Bv1×Nat)=>bif Rz z.2.2.2.1.1 z.2.2.2.1.2.2 l.1 then Ke (Bx z.2.2.2.1.2.1 l.1) (bif y.2.ble y.1.length then bif y.2.ble 4611686018427387903 then bif D6 (List.take y.2 y.1)then some ((),(),(some
 (Aj (List.take y.2 y.1)++List.drop y.2 y.1,y.2),()),())else none else none else none) fun(e:Nat×Bv3×Bv3×UInt8×Int×UInt8×A6 UInt8×A6 Bv3)=>bif l.2.beq l.2 then A9 (I6 (z.2.2.2.1.2.1++[e.1])) none fun(p:List
 Nat×Nat)=>A9 (Jt Al A8 p.2 l.1) none fun(Dt:Nat×Bv3×Bv3×UInt8×Int×UInt8×A6 UInt8×A6 Bv3)=>Option.bind (Bq N Dt.2.2) fun(B9:Bv3×UInt8×Int×UInt8×A6 UInt8×A6 Bv3)=>bif y.1.length.beq y.2 then bif Au (y.2 +
 [B9].length) 80 then rec ((),(),(some (y.1++[B9],y.2 + [B9].length),()),(z.2.2.2.1.1,z.2.2.2.1.2.1++[e.1],l.2),())else none else none else none else none) N ((),(),(none,()),(l.2,[],l.2),())
def Akn:=K1 [Gq N,Bf N] [24] N 60 (A5 (A5 (.seq (A5 (.blk (.rnd (A5 (A5 (.seq (.blk (A5 (A5 (.blk (.loop ⟨[],[],[8,9,10,15],[1,2],[(3,400003,A8)],[(1015,.Kn 2)]⟩ .lf))))) .lf))) (.rnd (A5 (A5 (.seq (.blk (A5 (A5 (.blk (.loop ⟨[],[],[8,9,10,15],[1,2],[(3,400003,A8)],[(1015,.E5)]⟩ .lf))))) .lf))) (.rnd (A5 (A5 (.seq (.blk (A5 (A5 (.blk (.loop ⟨[],[],[8,9,10,15],[1,2],[(3,400003,A8)],[(1015,.E5)]⟩ .lf))))) .lf))) .lf))))) .lf))) Xo (Ki N) mixed func60 rfl (by decide) rfl rfl rfl (by kernel_rfl)
@[reducible] def Xp:H8:=⟨[.p 1 900001001],[(1,[.Ld],some 67)],[],⟨[],[],[],[1],[(2,2002,A8)],[]⟩⟩
def No:H8.Cw Xp (A7 Xp.out.T):=iter (fun(rec:Unit×Unit×Bv4×Unit×Unit→A7 (Unit×Unit×Bv4×Unit)) (z:Unit×Unit×Bv4×Unit×Unit)=>A9 z.2.2.1.1 (some ((),(),(none,()),())) fun(y:A6 Bv1×Nat)=>bif
 y.2.ble y.1.length then bif y.2.ble 4611686018427387903 then bif D6 (List.take y.2 y.1)then some ((),(),(some (Aj (List.take y.2 y.1)++List.drop y.2 y.1,y.2),()),())else none else none else none) N
 ((),(),(none,()),(),())
def Ako:=K1 [Gq N,Bf N] [24] N 60 (A5 (A5 (.seq (A5 (.blk (.rnd (A5 (A5 (.seq (.blk (A5 (A5 (.blk (.loop ⟨[],[],[8,9,10,15],[1],[(3,400003,A8)],[(1015,.E5)]⟩ .lf))))) .lf))) (.rnd (A5 (A5 (.seq (.blk (A5 (A5 (.blk (.loop ⟨[],[],[8,9,10,15],[1],[(3,400003,A8)],[(1015,.E5)]⟩ .lf))))) .lf))) (.rnd (A5 (A5 (.seq (.blk (A5 (A5 (.blk (.loop ⟨[],[],[8,9,10,15],[1],[(3,400003,A8)],[(1015,.E5)]⟩ .lf))))) .lf))) .lf))))) .lf))) Xp (No N) mixed func60 rfl (by decide) rfl rfl rfl (by kernel_rfl)
def Qq:Ix prog:=Sp 60 (Bjo 1) (Sp 60 (Ri 0) (Amo N) (Amn N) rfl rfl) (Sp 60 (Ri 0) (Sp 60 (Ri 1) (Akm N) (Akk N) rfl rfl) (Sp 60 (Ri 1) (Aki N) (Akg N) rfl rfl) rfl rfl) rfl rfl
@[reducible] def Np:H8:=⟨[.p 1 0],[(1,[.d (.sl Bb),.p 2 777777777,.p 3 777777777],some 69)],[(2,.map Al A8),(3,.map Al A8)],⟨[(2,.d (.sl A8))],[],[],[1,2,3],[],[]⟩⟩
def Gy:H8.Cw Np (A7 Np.out.T):=fun(y:A6 Bv7) (l l_1:Bv9)=>Option.bind (Hu N l) fun(y:Bvg×Unit×Unit×Unit)=>some ((y.1.1,()),(),(),())
def A4j:=K1 [Qq N] [] N 27 .lf Np (Gy N) mixed func27 rfl (by decide) rfl rfl rfl (by kernel_rfl)
@[reducible] def Nq:H8:=⟨[.p 1 0],[(1,[.d (.sl Bb),.p 2 777777777,.Ld],some 69)],[(2,.map Al A8)],⟨[(2,.d (.sl A8))],[],[],[1,2],[],[]⟩⟩
def Gz:H8.Cw Nq (A7 Nq.out.T):=fun(y:A6 Bv7) (l:Bv9)=>Option.bind (Hu N l) fun(y:Bvg×Unit×Unit×Unit)=>some ((y.1.1,()),(),(),())
def A4k:=K1 [Qq N] [] N 27 .lf Nq (Gz N) mixed func27 rfl (by decide) rfl rfl rfl (by kernel_rfl)
@[reducible] def Nr:H8:=⟨[.p 1 0],[(1,[.d (.sl Bb),.Ld,.p 3 777777777],some 69)],[(3,.map Al A8)],⟨[(2,.d (.sl A8))],[],[],[1,3],[],[]⟩⟩
def H2:H8.Cw Nr (A7 Nr.out.T):=fun(y:A6 Bv7) (l:Bv9)=>Option.bind (Ju N) fun(y:Bvg×Unit×Unit×Unit)=>some ((y.1.1,()),(),(),())
def A4l:=K1 [Qq N] [] N 27 .lf Nr (H2 N) mixed func27 rfl (by decide) rfl rfl rfl (by kernel_rfl)
@[reducible] def Ns:H8:=⟨[.p 1 0],[(1,[.d (.sl Bb),.Ld,.Ld],some 69)],[],⟨[(2,.d (.sl A8))],[],[],[1],[],[]⟩⟩
def H3:H8.Cw Ns (A7 Ns.out.T):=fun(y:A6 Bv7)=>Option.bind (Ju N) fun(y:Bvg×Unit×Unit×Unit)=>some ((y.1.1,()),(),(),())
def A4m:=K1 [Qq N] [] N 27 .lf Ns (H3 N) mixed func27 rfl (by decide) rfl rfl rfl (by kernel_rfl)
@[reducible] def Qf:H8:=⟨[.nil true],[],[],⟨[(2,.d (.sl A8))],[],[],[],[],[]⟩⟩
def F1(N:Nat):H8.Cw Qf (A7 Qf.out.T):=some (([],()),(),(),())
def Xq:=K1 [Qq N] [] N 27 .lf Qf (F1 N) mixed func27 rfl (by decide) rfl rfl rfl (by kernel_rfl)
@[reducible] def A0t:ASp:=⟨[.p 0 0],[(0,Sh1,some 69)],[.d (.sl A8)]⟩
def Ae7:ASp.Cw A0t:=fun(x:Bvd)=>A9 x.2.1 (A9 x.2.2.1 (Option.bind (Ju N) fun(y:Bvg×Unit×Unit×Unit)=>some (((x.1,none,none,()),()),y.1.1,())) fun(y:Bv9)=>Option.bind (Ju N)
 fun(B9:Bvg×Unit×Unit×Unit)=>some (((x.1,none,some y,()),()),B9.1.1,())) fun(y:Bv9)=>A9 x.2.2.1 (Option.bind (Hu N y) fun(B9:Bvg×Unit×Unit×Unit)=>some (((x.1,some y,none,()),()),B9.1.1,())) fun(B9:Bv9)=>Option.bind (Hu N
 y) fun(Lo:Bvg×Unit×Unit×Unit)=>some (((x.1,some y,some B9,()),()),Lo.1.1,())
def Ae8:=Aw9 [Qq N] [] N 27 (fun _=>.lf) A0t (Ae7 N) mixed func27 rfl (by decide) rfl rfl (by kernel_rfl)
def Vs:Ix prog:=Sp 60 (Ri 0) (Ako N) (Akn N) rfl rfl
@[reducible] def Nt:H8:=⟨[.p 1 0],[(1,[.d (.sl Bb),.p 2 777777777,.p 3 777777777],some 69)],[(2,.map Al A8),(3,.map Al A8)],⟨[],[],[],[1,2,3],[(2,2002,A8)],[]⟩⟩
def Nu:H8.Cw Nt (A7 Nt.out.T):=fun(y:A6 Bv7) (l l_1:Bv9)=>Option.bind (Ki N l) fun(y:Unit×Unit×Bv4×Unit)=>A9 y.2.2.1.1 (some ((),(),(none,()),())) fun(y:A6 Bv1×Nat)=>some ((),(),(some
 y,()),())
def A4n:=K1 [Vs N] [] N 27 .lf Nt (Nu N) mixed func27 rfl (by decide) rfl rfl rfl (by kernel_rfl)
@[reducible] def Nv:H8:=⟨[.p 1 0],[(1,[.d (.sl Bb),.p 2 777777777,.Ld],some 69)],[(2,.map Al A8)],⟨[],[],[],[1,2],[(2,2002,A8)],[]⟩⟩
def Nw:H8.Cw Nv (A7 Nv.out.T):=fun(y:A6 Bv7) (l:Bv9)=>Option.bind (Ki N l) fun(y:Unit×Unit×Bv4×Unit)=>A9 y.2.2.1.1 (some ((),(),(none,()),())) fun(y:A6 Bv1×Nat)=>some ((),(),(some y,()),())
def A4o:=K1 [Vs N] [] N 27 .lf Nv (Nw N) mixed func27 rfl (by decide) rfl rfl rfl (by kernel_rfl)
@[reducible] def Nx:H8:=⟨[.p 1 0],[(1,[.d (.sl Bb),.Ld,.p 3 777777777],some 69)],[(3,.map Al A8)],⟨[],[],[],[1,3],[(2,2002,A8)],[]⟩⟩
def Ny:H8.Cw Nx (A7 Nx.out.T):=fun(y:A6 Bv7) (l:Bv9)=>Option.bind (No N) fun(y:Unit×Unit×Bv4×Unit)=>A9 y.2.2.1.1 (some ((),(),(none,()),())) fun(y:A6 Bv1×Nat)=>some ((),(),(some y,()),())
def A4p:=K1 [Vs N] [] N 27 .lf Nx (Ny N) mixed func27 rfl (by decide) rfl rfl rfl (by kernel_rfl)
@[reducible] def Nz:H8:=⟨[.p 1 0],[(1,[.d (.sl Bb),.Ld,.Ld],some 69)],[],⟨[],[],[],[1],[(2,2002,A8)],[]⟩⟩
def O0:H8.Cw Nz (A7 Nz.out.T):=fun(y:A6 Bv7)=>Option.bind (No N) fun(y:Unit×Unit×Bv4×Unit)=>A9 y.2.2.1.1 (some ((),(),(none,()),())) fun(y:A6 Bv1×Nat)=>some ((),(),(some y,()),())
def A4q:=K1 [Vs N] [] N 27 .lf Nz (O0 N) mixed func27 rfl (by decide) rfl rfl rfl (by kernel_rfl)
@[reducible] def T4:H8:=⟨[.d A8,.p 2 0],[(2,[.d (.int .u64)],some 23)],[],⟨[(3,.d .bool)],[],[],[2],[],[]⟩⟩
def Fb(N:Nat):H8.Cw T4 (A7 T4.out.T):=fun(y:Bv3×UInt8×Int×UInt8×A6 UInt8×A6 Bv3) (B9:Int)=>some ((y.2.2.1 != B9,()),(),(),())
def I0:=K1 [] [] N 31 .lf T4 (Fb N) mixed func31 rfl (by decide) rfl rfl rfl (by kernel_rfl)
@[reducible] def Fe:H8:=⟨[.os 1 A8,.Ek 31 [(2,0)]],[(2,[.d (.int .u64)],some 23)],[(1,.arr A8)],⟨[(4,.d A4)],[],[],[2,1],[],[]⟩⟩
def Dd:H8.Cw Fe (A7 Fe.out.T):=fun(n:Nat) (y:Int) (l:A6 Bv1)=>iter (fun(rec:Bv6×Unit×Unit×Unit→A7 (Bv6×Unit×Unit×Unit)) (z:Bv6×Unit×Unit×Unit)=>bif decide (z.1.1<(↑n:Int))then bif decide
 (0≤z.1.1)&&decide (z.1.1<(↑n:Int))then l[0+z.1.1.toNat]?.bind fun(e:Bv3×UInt8×Int×UInt8×A6 UInt8×A6 Bv3)=>Option.bind (Fb N e y) fun(y:Bvk×Unit×Unit×Unit)=>bif y.1.1 then some ((z.1.1,()),(),(),())else rec
 ((i64.wrap (z.1.1+1),()),(),(),())else none else some ((-1,()),(),(),())) N ((0,()),(),(),())
def Qu:=K1 [I0 N] [] N 64 (A5 (.seq (A5 (.blk (.loop ⟨[(8,.d A4)],[],[0,1,7],[1,2],[],[]⟩ .lf))) .lf)) Fe (Dd N) mixed func64 rfl (by decide) rfl rfl rfl (by kernel_rfl)
@[reducible] def F2:H8:=⟨[.os 1 A8,.Ek 31 [(2,0)]],[(2,[.d (.int .u64)],some 23)],[(1,.arr A8)],⟨[(4,.os 1 A8)],[],[],[2],[],[(1,.arr A8)]⟩⟩
def B4:H8.Cw F2 (A7 F2.out.T):=fun(n:Nat) (y:Int) (l:A6 Bv1)=>Option.bind (Dd N n y l) fun(B9:Bv6×Unit×Unit×Unit)=>bif B9.1.1 == -1 then some ((n,()),(),(),l,())else iter
 (fun(rec:Bvc×Unit×Unit×A6 Bv1×Unit→A7 ((Nat×Unit)×Unit×Unit×A6 Bv1×Unit)) (z:Bvc×Unit×Unit×A6 Bv1×Unit)=>bif decide (z.1.2.1<(↑n:Int))then bif decide (0≤z.1.2.1)&&decide (z.1.2.1<(↑n:Int))then
 z.2.2.2.1[0+z.1.2.1.toNat]?.bind fun(e:Bv3×UInt8×Int×UInt8×A6 UInt8×A6 Bv3)=>Option.bind (Fb N e y) fun(y:Bvk×Unit×Unit×Unit)=>bif !y.1.1 then bif decide (0≤z.1.1)&&decide (z.1.1<(↑n:Int))then
 z.2.2.2.1[0+z.1.1.toNat]?.bind fun(Dt:Bv3×UInt8×Int×UInt8×A6 UInt8×A6 Bv3)=>rec ((i64.wrap (z.1.1+1),i64.wrap (z.1.2.1+1),()),(),(),z.2.2.2.1.set (0+z.1.1.toNat) e,())else none else rec
 ((z.1.1,i64.wrap (z.1.2.1+1),()),(),(),z.2.2.2.1,())else none else bif Ew z.1.1 (↑n:Int) n then bif Ew 0 z.1.1 n then some ((z.1.1.toNat-0,()),(),(),List.take (0+z.1.1.toNat) z.2.2.2.1,())else none else none) N
 ((B9.1.1,i64.wrap (B9.1.1+1),()),(),(),l,())
def Qg:=K1 [Qu N,I0 N] [] N 30 (A5 (A5 (A5 (.seq (A5 (.blk (.loop ⟨[(5,.d A4),(6,.d A4)],[],[0,1],[2],[],[(1,.arr A8)]⟩ .lf))) .lf)))) F2 (B4 N) mixed func30 rfl (by decide) rfl rfl rfl (by kernel_rfl)
@[reducible] def Ff:H8:=⟨[.d (.sl A8),.Ek 31 [(2,0)]],[(2,[.d (.int .u64)],some 23)],[],⟨[(4,.d A4)],[],[],[2],[],[]⟩⟩
def Fg:H8.Cw Ff (A7 Ff.out.T):=fun(y:A6 Bv1) (B9:Int)=>iter (fun(rec:Bv6×Unit×Unit×Unit→A7 (Bv6×Unit×Unit×Unit)) (z:Bv6×Unit×Unit×Unit)=>bif decide (z.1.1<(↑y.length:Int))then (at? y
 z.1.1).bind fun(e:Bv3×UInt8×Int×UInt8×A6 UInt8×A6 Bv3)=>Option.bind (Fb N e B9) fun(y:Bvk×Unit×Unit×Unit)=>bif y.1.1 then some ((z.1.1,()),(),(),())else rec ((i64.wrap (z.1.1+1),()),(),(),())else some
 ((-1,()),(),(),())) N ((0,()),(),(),())
def Qv:=K1 [I0 N] [] N 64 (A5 (.seq (A5 (.blk (.loop ⟨[(8,.d A4)],[],[0,1,7],[2],[],[]⟩ .lf))) .lf)) Ff (Fg N) mixed func64 rfl (by decide) rfl rfl rfl (by kernel_rfl)
@[reducible] def F4:H8:=⟨[.d (.sl A8),.Ek 31 [(2,0)]],[(2,[.d (.int .u64)],some 23)],[],⟨[(4,.d (.sl A8))],[],[],[2],[],[]⟩⟩
def As:H8.Cw F4 (A7 F4.out.T):=fun(y:A6 Bv1) (B9:Int)=>Option.bind (Fg N y B9) fun(Lo:Bv6×Unit×Unit×Unit)=>bif Lo.1.1 == -1 then some ((y,()),(),(),())else none
def Qh:=K1 [Qv N,I0 N] [] N 30 (A5 (A5 (.seq (A5 (.cond .lf .stop)) (.seq (A5 (.blk (.loop ⟨[(5,.d A4),(6,.d A4)],[],[0,1],[2],[],[]⟩ (.seq (A5 (.cond .lf .stop)) (.seq (.blk (A5 (A5 (.cond .lf .stop)))) .lf))))) .lf)))) F4 (As N) mixed func30 rfl (by decide) rfl rfl rfl (by kernel_rfl)
def L4:Ix prog:=Ajt 30 Bjp (Qg N) (Qh N) rfl rfl
def U4:Ix prog:=Ajt 27 (Ajs 0) (Xq N) (Sp 27 (Ri 1) (Sp 27 (Ri 2) (A4q N) (A4p N) rfl rfl) (Sp 27 (Ri 2) (A4o N) (A4n N) rfl rfl) rfl rfl) rfl rfl
@[reducible] def A0u:ASp:=⟨[.nil true,.d (.int .u64)],[],[.d (.sl A8)]⟩
def Oo:ASp.Cw A0u:=fun(y:Int)=>Option.bind (F1 N) fun(B9:Bvg×Unit×Unit×Unit)=>Option.bind (As N B9.1.1 y) fun(y:Bvg×Unit×Unit×Unit)=>some ((),y.1.1,())
def Ae9:=Aw9 [I0 N,L4 N,U4 N] [] N 11 (fun _=>.lf) A0u (Oo N) mixed func11 rfl (by decide) rfl rfl (by kernel_rfl)
@[reducible] def A4r:ASp:=⟨[.p 0 0,.d (.int .u64)],[(0,Sh1,some 69)],[.d (.sl A8)]⟩
def Rv:ASp.Cw A4r:=fun(y:Int) (x:Bvd)=>A9 x.2.1 (A9 x.2.2.1 (Option.bind (O0 N x.1) fun(B9:Unit×Unit×Bv4×Unit)=>A9 B9.2.2.1.1 (Option.bind (As N [] y) fun(y:Bvg×Unit×Unit×Unit)=>some
 (((x.1,none,none,()),()),y.1.1,())) fun(Lo:A6 Bv1×Nat)=>Option.bind (B4 N Lo.2 y Lo.1) fun(y:(Nat×Unit)×Unit×Unit×A6 Bv1×Unit)=>bif bif (0+y.1.1).ble y.2.2.2.1.length then true else false then some
 (((x.1,none,none,()),()),List.take y.1.1 (List.drop 0 y.2.2.2.1),())else none) fun(B9:Bv9)=>Option.bind (Ny N x.1 B9) fun(Lo:Unit×Unit×Bv4×Unit)=>A9 Lo.2.2.1.1 (Option.bind (As N [] y) fun(y:Bvg×Unit×Unit×Unit)=>some
 (((x.1,none,some B9,()),()),y.1.1,())) fun(Kv:A6 Bv1×Nat)=>Option.bind (B4 N Kv.2 y Kv.1) fun(y:(Nat×Unit)×Unit×Unit×A6 Bv1×Unit)=>bif bif (0+y.1.1).ble y.2.2.2.1.length then true else false then some
 (((x.1,none,some B9,()),()),List.take y.1.1 (List.drop 0 y.2.2.2.1),())else none) fun(B9:Bv9)=>A9 x.2.2.1 (Option.bind (Nw N x.1 B9) fun(Lo:Unit×Unit×Bv4×Unit)=>A9 Lo.2.2.1.1 (Option.bind (As N [] y)
 fun(y:Bvg×Unit×Unit×Unit)=>some (((x.1,some B9,none,()),()),y.1.1,())) fun(Kv:A6 Bv1×Nat)=>Option.bind (B4 N Kv.2 y Kv.1) fun(y:(Nat×Unit)×Unit×Unit×A6 Bv1×Unit)=>bif bif (0+y.1.1).ble y.2.2.2.1.length then true
 else false then some (((x.1,some B9,none,()),()),List.take y.1.1 (List.drop 0 y.2.2.2.1),())else none) fun(Lo:Bv9)=>Option.bind (Nu N x.1 B9 Lo) fun(Kv:Unit×Unit×Bv4×Unit)=>A9 Kv.2.2.1.1 (Option.bind (As N [] y)
 fun(y:Bvg×Unit×Unit×Unit)=>some (((x.1,some B9,some Lo,()),()),y.1.1,())) fun(y_4:A6 Bv1×Nat)=>Option.bind (B4 N y_4.2 y y_4.1) fun(y:(Nat×Unit)×Unit×Unit×A6 Bv1×Unit)=>bif bif (0+y.1.1).ble y.2.2.2.1.length then
 true else false then some (((x.1,some B9,some Lo,()),()),List.take y.1.1 (List.drop 0 y.2.2.2.1),())else none
def Akp:=Aw9 [I0 N,L4 N,U4 N] [] N 11 (fun _=>.lf) A4r (Rv N) mixed func11 rfl (by decide) rfl rfl (by kernel_rfl)
def B0q:Ix prog:=Ajt 23 (Ajs 0) (Asv N) (Asu N) rfl rfl
@[reducible] def Afx:ASp:=⟨[.d (.sl Bb),.d (.sl A8)],[],[.z 10 Sh1 (some 69),.d A4]⟩
def Yr:ASp.Cw Afx:=fun(y:A6 Bv7) (B9:A6 Bv1)=>Option.bind (Xa N y) fun(Lo:A6 Bv7)=>iter (fun(rec:Bv6×Bva×Unit×Bv9×Bv9×Unit ⊕ Bv6×Bva×Unit×Bv9×Unit ⊕ Bv6×Bva×Unit×Bv9×Unit ⊕
 Bv6×Bva×Unit×Unit→A7 Bvr) (z:Bv6×Bva×Unit×Bv9×Bv9×Unit ⊕ Bv6×Bva×Unit×Bv9×Unit ⊕ Bv6×Bva×Unit×Bv9×Unit ⊕ Bv6×Bva×Unit×Unit)=>Rf z (fun(z:Bv6×Bva×Unit×Bv9×Bv9×Unit)=>bif decide (z.1.1<(↑B9.length:Int))then (at? B9
 z.1.1).bind fun(e:Bv3×UInt8×Int×UInt8×A6 UInt8×A6 Bv3)=>Ar (fun(B1:Unit×Unit×Unit×Unit)=>bif e.2.1==1 then Option.bind (Lw N e z.2.2.2.1) fun(y:Bvq×Unit×Unit×Bv9×Unit)=>rec (Sum.inl ((i64.wrap
 (z.1.1+1),()),((z.2.1.1.1,(),(),()),()),(),y.2.2.2.1,z.2.2.2.2.1,()))else Option.bind (Lw N e z.2.2.2.2.1) fun(y:Bvq×Unit×Unit×Bv9×Unit)=>rec (Sum.inl ((i64.wrap
 (z.1.1+1),()),((z.2.1.1.1,(),(),()),()),(),z.2.2.2.1,y.2.2.2.1,()))) fun(k:Unit×Unit×Unit×Unit→A7 Bvr)=>Option.bind (Jh N e) fun(y:Bool)=>bif !y then some ((),none,1,())else bif decide (0<z.1.1)then (at? B9
 (i64.wrap (z.1.1-1))).bind fun(Dt:Bv3×UInt8×Int×UInt8×A6 UInt8×A6 Bv3)=>Option.bind (Kh N Dt.1 e.1) fun(y:Int)=>bif decide (0≤y)then some ((),none,1,())else bif e.2.1==1 then Option.bind (Dp N B9 e.1)
 fun(y:Bool)=>bif y then some ((),none,1,())else k ((),(),(),())else k ((),(),(),())else bif e.2.1==1 then Option.bind (Dp N B9 e.1) fun(y:Bool)=>bif y then some ((),none,1,())else k ((),(),(),())else k ((),(),(),())else
 Option.bind (Nl N y) fun(Kv:Bool)=>bif !Kv then some ((),none,1,())else Option.bind (Ji N B9) fun(y_4:Bvj)=>Option.bind (Lr N y_4 y) fun(y:Bvj)=>bif decide (0<(↑y.length:Int))then some ((),none,1,())else some ((),some
 (z.2.1.1.1,some z.2.2.2.1,some z.2.2.2.2.1,()),0,())) fun(z:Bv6×Bva×Unit×Bv9×Unit ⊕ Bv6×Bva×Unit×Bv9×Unit ⊕ Bv6×Bva×Unit×Unit)=>Rf z (fun(z:Bv6×Bva×Unit×Bv9×Unit)=>bif decide (z.1.1<(↑B9.length:Int))then (at? B9
 z.1.1).bind fun(e:Bv3×UInt8×Int×UInt8×A6 UInt8×A6 Bv3)=>Ar (fun(B1:Unit×Unit×Unit×Unit)=>bif e.2.1==1 then Option.bind (Lx N e) fun(y:Bvq×Unit×Unit×Bv9×Unit)=>rec (Sum.inl ((i64.wrap
 (z.1.1+1),()),((z.2.1.1.1,(),(),()),()),(),y.2.2.2.1,z.2.2.2.1,()))else Option.bind (Lw N e z.2.2.2.1) fun(y:Bvq×Unit×Unit×Bv9×Unit)=>rec (Sum.inr (Sum.inl ((i64.wrap
 (z.1.1+1),()),((z.2.1.1.1,(),(),()),()),(),y.2.2.2.1,())))) fun(k:Unit×Unit×Unit×Unit→A7 Bvr)=>Option.bind (Jh N e) fun(y:Bool)=>bif !y then some ((),none,1,())else bif decide (0<z.1.1)then (at? B9 (i64.wrap
 (z.1.1-1))).bind fun(Dt:Bv3×UInt8×Int×UInt8×A6 UInt8×A6 Bv3)=>Option.bind (Kh N Dt.1 e.1) fun(y:Int)=>bif decide (0≤y)then some ((),none,1,())else bif e.2.1==1 then Option.bind (Dp N B9 e.1) fun(y:Bool)=>bif y then
 some ((),none,1,())else k ((),(),(),())else k ((),(),(),())else bif e.2.1==1 then Option.bind (Dp N B9 e.1) fun(y:Bool)=>bif y then some ((),none,1,())else k ((),(),(),())else k ((),(),(),())else Option.bind (Nl N y)
 fun(Kv:Bool)=>bif !Kv then some ((),none,1,())else Option.bind (Ji N B9) fun(y_4:Bvj)=>Option.bind (Lr N y_4 y) fun(y:Bvj)=>bif decide (0<(↑y.length:Int))then some ((),none,1,())else some ((),some (z.2.1.1.1,none,some
 z.2.2.2.1,()),0,())) fun(z:Bv6×Bva×Unit×Bv9×Unit ⊕ Bv6×Bva×Unit×Unit)=>Rf z (fun(z:Bv6×Bva×Unit×Bv9×Unit)=>bif decide (z.1.1<(↑B9.length:Int))then (at? B9 z.1.1).bind fun(e:Bv3×UInt8×Int×UInt8×A6 UInt8×A6 Bv3)=>Ar
 (fun(B1:Unit×Unit×Unit×Unit)=>bif e.2.1==1 then Option.bind (Lw N e z.2.2.2.1) fun(y:Bvq×Unit×Unit×Bv9×Unit)=>rec (Sum.inr (Sum.inr (Sum.inl ((i64.wrap
 (z.1.1+1),()),((z.2.1.1.1,(),(),()),()),(),y.2.2.2.1,()))))else Option.bind (Lx N e) fun(y:Bvq×Unit×Unit×Bv9×Unit)=>rec (Sum.inl ((i64.wrap (z.1.1+1),()),((z.2.1.1.1,(),(),()),()),(),z.2.2.2.1,y.2.2.2.1,())))
 fun(k:Unit×Unit×Unit×Unit→A7 Bvr)=>Option.bind (Jh N e) fun(y:Bool)=>bif !y then some ((),none,1,())else bif decide (0<z.1.1)then (at? B9 (i64.wrap (z.1.1-1))).bind fun(Dt:Bv3×UInt8×Int×UInt8×A6 UInt8×List
 Bv3)=>Option.bind (Kh N Dt.1 e.1) fun(y:Int)=>bif decide (0≤y)then some ((),none,1,())else bif e.2.1==1 then Option.bind (Dp N B9 e.1) fun(y:Bool)=>bif y then some ((),none,1,())else k ((),(),(),())else k
 ((),(),(),())else bif e.2.1==1 then Option.bind (Dp N B9 e.1) fun(y:Bool)=>bif y then some ((),none,1,())else k ((),(),(),())else k ((),(),(),())else Option.bind (Nl N y) fun(Kv:Bool)=>bif !Kv then some
 ((),none,1,())else Option.bind (Ji N B9) fun(y_4:Bvj)=>Option.bind (Lr N y_4 y) fun(y:Bvj)=>bif decide (0<(↑y.length:Int))then some ((),none,1,())else some ((),some (z.2.1.1.1,some z.2.2.2.1,none,()),0,()))
 fun(z:Bv6×Bva×Unit×Unit)=>bif decide (z.1.1<(↑B9.length:Int))then (at? B9 z.1.1).bind fun(e:Bv3×UInt8×Int×UInt8×A6 UInt8×A6 Bv3)=>Ar (fun(B1:Unit×Unit×Unit×Unit)=>bif e.2.1==1 then Option.bind (Lx N e)
 fun(y:Bvq×Unit×Unit×Bv9×Unit)=>rec (Sum.inr (Sum.inr (Sum.inl ((i64.wrap (z.1.1+1),()),((z.2.1.1.1,(),(),()),()),(),y.2.2.2.1,()))))else Option.bind (Lx N e) fun(y:Bvq×Unit×Unit×Bv9×Unit)=>rec (Sum.inr (Sum.inl
 ((i64.wrap (z.1.1+1),()),((z.2.1.1.1,(),(),()),()),(),y.2.2.2.1,())))) fun(k:Unit×Unit×Unit×Unit→A7 Bvr)=>Option.bind (Jh N e) fun(y:Bool)=>bif !y then some ((),none,1,())else bif decide (0<z.1.1)then (at?
 B9 (i64.wrap (z.1.1-1))).bind fun(Dt:Bv3×UInt8×Int×UInt8×A6 UInt8×A6 Bv3)=>Option.bind (Kh N Dt.1 e.1) fun(y:Int)=>bif decide (0≤y)then some ((),none,1,())else bif e.2.1==1 then Option.bind (Dp N B9 e.1)
 fun(y:Bool)=>bif y then some ((),none,1,())else k ((),(),(),())else k ((),(),(),())else bif e.2.1==1 then Option.bind (Dp N B9 e.1) fun(y:Bool)=>bif y then some ((),none,1,())else k ((),(),(),())else k ((),(),(),())else
 Option.bind (Nl N y) fun(Kv:Bool)=>bif !Kv then some ((),none,1,())else Option.bind (Ji N B9) fun(y_4:Bvj)=>Option.bind (Lr N y_4 y) fun(y:Bvj)=>bif decide (0<(↑y.length:Int))then some ((),none,1,())else some ((),some
 (z.2.1.1.1,none,none,()),0,())) N (Sum.inr (Sum.inr (Sum.inr ((0,()),((Lo,(),(),()),()),(),()))))
def Awr:=Aw9 [Akb N,Ass N,A0o N,Asl N,B0n N,Asn N,Ast N,B0q N] [] N 7 (fun _=>(A5 (A5 (.seq (A5 (.blk (.alt ⟨[(15,.d A4)],[(1012,[.d (.sl Bb),.p 1060007 777777777,.p 1069007 777777777],some 69)],[0,1,6,13,14],[],[],[(1060007,.map Al A8),(1069007,.map Al A8)]⟩ (A5 (A5 (.seq (.blk (A5 (.join ⟨[],[],[0,1,6,8,13,14,15],[1008,1012,1060007,1069007],[],[]⟩ .lf .lf))) .lf))) (.alt ⟨[(15,.d A4)],[(1012,[.d (.sl Bb),.Ld,.p 1069007 777777777],some 69)],[0,1,6,13,14],[],[],[(1069007,.map Al A8)]⟩ (A5 (A5 (.seq (.blk (A5 (.join ⟨[],[],[0,1,6,8,13,14,15],[1008,1012,1069007],[],[]⟩ .lf .lf))) .lf))) (.alt ⟨[(15,.d A4)],[(1012,[.d (.sl Bb),.p 1060007 777777777,.Ld],some 69)],[0,1,6,13,14],[],[],[(1060007,.map Al A8)]⟩ (A5 (A5 (.seq (.blk (A5 (.join ⟨[],[],[0,1,6,8,13,14,15],[1008,1012,1060007],[],[]⟩ .lf .lf))) .lf))) (.loop ⟨[(15,.d A4)],[(1012,[.d (.sl Bb),.Ld,.Ld],some 69)],[0,1,6,13,14],[],[],[]⟩ (A5 (A5 (.seq (.blk (A5 (.join ⟨[],[],[0,1,6,8,13,14,15],[1008,1012],[],[]⟩ .lf .lf))) .lf))))))))) .lf)))) Afx (Yr N) mixed func7 rfl (by decide) rfl rfl (by kernel_rfl)
def Jk:Ix prog:=Ajt 27 (Ajs 0) (Xq N) (Sp 27 Bjn (Ae8 N) (Sp 27 (Ri 1) (Sp 27 (Ri 2) (A4m N) (A4l N) rfl rfl) (Sp 27 (Ri 2) (A4k N) (A4j N) rfl rfl) rfl rfl) rfl rfl) rfl rfl
def A97:Ix prog:=Ajt 11 (Ajs 0) (Ae9 N) (Akp N) rfl rfl
structure Asw(ex:Nat)(w w':World):Prop where
 size:w.heap.size≤w'.heap.size
 io:w'.os=w.os∧w'.output=w.output∧w'.tape=w.tape∧w.drawn≤w'.drawn
 block:∀b,b<w.heap.size→b≠ex→w'.heap[b]? = w.heap[b]?
 none:w.heap[ex]? = none∨∃m s c d,w.heap[ex]? = some (.mapIter m s c d)
variable{w V:World}{b k lp Bm m clock i M0:Nat}{v:Value}{l:A6 UInt8}{S:A6 UInt8→A6 UInt8}{n lo hi:Int}
def Bhb{P:Program}{t:TypeId}(hT:TyI P t false 1)(h:w.cell? ⟨b,0,none⟩=some v):(loadVar t ⟨b,0,none⟩).run P w = .ok v w:=by
 have:=J8 hT w b 0 #[v] rfl (by
  intro i x hx;cases i with
  |zero=>simp at hx;subst hx;simpa using h
  |succ i=>simp at hx) (fun _=>rfl)
 simpa using this
variable{es:Array MapEntry}
def B6c{seen:A6 Nat}{e:MapEntry}(h:e∈Wo es seen):e∈es∧e.born∉seen:=by obtain⟨h1,h2⟩:=Bs2.1 h;exact⟨h1,by simpa using h2⟩
def Ao0{l:A6 MapEntry}(h:(l.map MapEntry.born).Nodup){x y:MapEntry}(hx:x∈l)(hy:y∈l)(e:x.born=y.born):x=y:=Gm h hx hy e
theorem A0m{α:Type}[BEq α][LawfulBEq α]:∀(l m:A6 α),l.Nodup→(∀x∈l,x∈m)→l.length≤m.length
 |[],m,_,_=>Bq9 _
 |a::l,m,hn,hs=>by
  have Th:=Boi.1 hn;have ha:=hs a Bnm;have:=A0m l (m.erase a) Th.2 (fun x hx=>by
   have hne:x≠a:=fun e=>Th.1 (e▸hx)
   exact(Btg hne).2 (hs x (Bnl _ hx)))
  have hl:=Bsz ha;have Ud:0<m.length:=Bs8 ha;simp only[Bnx];omega
theorem Jf{α β:Type}{f:α→β}:∀ {l:A6 α},(l.map f).Nodup→l.Nodup
 |[],_=>.nil
 |a::l,h=>by
  simp only[Bnh,Boi]at h;exact Boi.2 ⟨fun hm=>h.1 (Bnr hm),Jf h.2⟩
variable{L:A6 MapEntry}{xs:MapEntry→UInt8}
def B0r{E:A6 MapEntry}(hL:(L.map MapEntry.born).Nodup)(hE:(E.map MapEntry.born).Nodup)(h1:∀e∈L,e∈E)(h2:∀e∈E,e∈L):L.Perm E :=
 (Bsl (Jf hL) (Jf hE)).2 fun e=>⟨h1 e,h2 e⟩
section
variable{l Bm m:Nat}{es:Array MapEntry}{clock:Nat}{W:World}{J:A6 Value→World→Prop}
def Yields(l:Nat)(es:Array MapEntry)(J:A6 Value→World→Prop):Prop :=
 ∀(pre:A6 Value) (e:MapEntry) (V:World),J pre V→e∈es→pre.length<es.size→YieldAt Fence.wide 0 prog l #[e.key] V fun r V'=>r = .returned (.bool true)∧J (pre++[e.key]) V'∧∀(b:Nat) (m':A7 Nat) (s:Nat) (c:Array Nat) (d:Nat),V.heap[b]? = some (Obj.mapIter m' s c d)→V'.heap[b]? = V.heap[b]?
abbrev Bjx(es:Array MapEntry)(J:A6 Value→World→Prop):Exit→Act→World→Prop:=bodyPost prog f67 fun r W'=>(∃v,r = .returned v)∧∃L:A6 MapEntry,L.Perm es.toList∧J (L.map MapEntry.key) W'
set_option maxHeartbeats 4000000 in
def B0s(hT:TyI prog 83 false 1)(hu:∃k e,prog.underlying 83=some (.map k e))(Bas:W.cell? ⟨Bm,0,none⟩=some (.map (some m)))
  (hold:∀e∈es,e.born<clock) (hnd:(es.toList.map MapEntry.born).Nodup)
  (hJm:∀pre V,J pre V→V.heap[m]? = some (.map es clock))
  (hJ:∀pre V V' ex,J pre V→W.heap.size≤ex→Asw ex V V'→J pre V')
  (hY:Yields l es J) (h0:J [] W) (c:Code) (hc:f67.body=some c) (A:Act) (a1:A.tmps.size=14) (a2:A.defers=[]) (a3:A.eval (.tmp 0) = .func (.yield l) #[] #[]) (a4:A.eval (.tmp 1) = .pointer (some ⟨Bm,0,none⟩)) :
  c.wpIn Fence.wide 0 prog (Bjx es J) A W:=by
 have hF:∀f,Fence.wide.fn f:=fun _=>trivial
 have hm:=hJm [] W h0;obtain⟨kt,et,hu⟩:=hu;have hb1:(W.alloc (.mapIter (some m) clock #[] clock)).heap[m]? = some (.map es clock):=by have By:m<W.heap.size:=(Bny.1 hm).1;rw[J9 W _ By];exact hm
 unfold f67 at hc;simp only[Bnf]at hc;subst hc;refine Br1 (Bpq ?_);refine C3 hF (v:=.map (some m)) (w':=W) rfl (by simp) ?_ ?_
 ·have:=Bhb hT Bas;simp only[execOp,a4];simp[Instr.loadAt,Instr.sureAddr,this,Result.andThen]
 refine C3 hF (v:=.pointer (some ⟨W.heap.size,0,none⟩)) (w':=W.alloc (.mapIter (some m) clock #[] clock)) rfl (by simp) ?_ ?_
 ·have e2:=I5 (P:=prog) hm (by simp);simp only[execOp];rw[Cp (by omega)];simp[Instr.range,Boc,Bns hu,e2,Result.andThen]
 have hA0:(Act.put (Act.put A (some 4) (.map (some m))) (some 5) (.pointer (some ⟨W.heap.size,0,none⟩))).tmps.size=14∧(Act.put (Act.put A (some 4) (.map (some m))) (some 5) (.pointer (some ⟨W.heap.size,0,none⟩))).defers=[] ∧
   (Act.put (Act.put A (some 4) (.map (some m))) (some 5) (.pointer (some ⟨W.heap.size,0,none⟩))).eval (.tmp 0) = .func (.yield l) #[] #[]∧(Act.put (Act.put A (some 4) (.map (some m))) (some 5) (.pointer (some ⟨W.heap.size,0,none⟩))).eval (.tmp 5) = .pointer (some ⟨W.heap.size,0,none⟩) :=
  ⟨by rw[Am,Am,a1],a2,by rw[Bl (by decide),Bl (by decide),a3],Cp (by rw[Am];omega)⟩
 generalize Act.put (Act.put A (some 4) (.map (some m))) (some 5) (.pointer (some ⟨W.heap.size,0,none⟩))=A0 at hA0⊢;refine Bqc ?_;show Code.wpIn _ _ _ _ _ A0 _;have hk1:Asw W.heap.size W (W.alloc (.mapIter (some m) clock #[] clock)) :=
  ⟨by simp,⟨rfl,rfl,rfl,Bno _⟩,fun b hb _=>J9 W _ hb,.inl (by simp)⟩
 have Bhc:(W.alloc (.mapIter (some m) clock #[] clock)).heap[W.heap.size]? = some (.mapIter (some m) clock #[] clock):=Bti W _;have hJ1:=hJ [] W _ _ h0 (Bno _) hk1;generalize W.alloc (.mapIter (some m) clock #[] clock)=W1 at hb1 Bhc hJ1⊢;clear hk1;refine Buv (wpIn_loop (fun a V=>a.tmps.size=14∧a.defers=[]∧a.eval (.tmp 0) = .func (.yield l) #[] #[]∧a.eval (.tmp 5) = .pointer (some ⟨W.heap.size,0,none⟩) ∧
   ∃L:A6 MapEntry,(∀e∈L,e∈es)∧(L.map MapEntry.born).Nodup∧V.heap[W.heap.size]? = some (.mapIter (some m) clock (L.map MapEntry.born).toArray clock)∧J (L.map MapEntry.key) V)
  (fun a V=>match V.heap[W.heap.size]? with|some (.mapIter _ _ s _)=>es.size-s.size|_=>0) ⟨hA0.1,hA0.2.1,hA0.2.2.1,hA0.2.2.2,[],by simp,by simp,by simpa using Bhc,hJ1⟩ ?_)
 clear hJ1 Bhc hA0 hb1 a1 a2 a3 a4;rintro a V ⟨ha1,ha2,ha3,ha4,L,hL1,hL2,hL3,hL4⟩;have hw:Ava V m W.heap.size es clock (L.map MapEntry.born):=⟨hJm _ _ hL4,hL3⟩;refine Br1 (Bpq ?_);by_cases hl:Wo es (L.map MapEntry.born)=#[]
 ·
  refine C3 hF (v:=.tuple #[.bool false]) (w':=V) rfl (by simp) ?_ ?_
  ·have:=Am3 (P:=prog) (ty:=0) hw hold hl;simp only[execOp,ha4];simp[this,Result.andThen]
  refine C3 hF (v:=.bool false) (w':=V) rfl (by simp) ?_ ?_
  ·simp only[execOp];rw[Cp (by omega)];rfl
  refine Bqc ?_;refine Br1 (wpIn_cond_false (Cp (by rw[Am];omega)) (wpIn_exit ?_));refine⟨ha2,.tuple #[],by simp[results,f67],⟨_,rfl⟩,L,B0r hL2 hnd (fun e he=>by simpa using hL1 e he) fun e he=>?_,hL4⟩;by_cases Uc:e.born∈L.map MapEntry.born
  ·obtain⟨e',he',hb⟩:=Bnp.1 Uc;rw[← Ao0 hnd (by simpa using hL1 e' he') he hb];exact he'
  ·have:e∈Wo es (L.map MapEntry.born):=Bs2.2 ⟨by simpa using he,by simpa using Uc⟩;rw[hl]at this;simp at this
 ·obtain⟨e,he,w1,hw1,hr⟩:=Am4 (P:=prog) (ty:=0) hw hold hl;obtain⟨he1,he2⟩:=B6c he;have R3:W.heap.size<V.heap.size:=(Bny.1 hL3).1;have hh1:w1.heap=V.heap:=by rcases hw1 with rfl|rfl<;>rfl
  have Bm2:w1.os=V.os∧w1.output=V.output∧w1.tape=V.tape∧V.drawn≤w1.drawn:=by
   rcases hw1 with rfl|rfl
   ·exact⟨rfl,rfl,rfl,Bno _⟩
   ·exact⟨rfl,rfl,rfl,Nat.le_succ _⟩
  have hk:Asw W.heap.size V { w1 with heap:=w1.heap.setIfInBounds W.heap.size (.mapIter (some m) clock (L.map MapEntry.born++[e.born]).toArray clock) }:=by refine⟨by simp[hh1],Bm2,fun b hb hne=>?_,.inr ⟨_,_,_,_,hL3⟩⟩;simp[Bq5 hne,hh1]
  have hn3:({ w1 with heap:=w1.heap.setIfInBounds W.heap.size (.mapIter (some m) clock (L.map MapEntry.born++[e.born]).toArray clock) }:World).heap[W.heap.size]? = some (.mapIter (some m) clock ((L++[e]).map MapEntry.born).toArray clock):=by simp[hh1,R3]
  have hJ2:=hJ _ _ _ _ hL4 (Bno _) hk;refine C3 hF rfl (by simp) (v:=.tuple #[.bool true,e.key,e.val]) (w':={ w1 with heap:=w1.heap.setIfInBounds W.heap.size (.mapIter (some m) clock (L.map MapEntry.born++[e.born]).toArray clock) }) ?_ ?_
  ·simp only[execOp,ha4];simp only[Boc,hr,Bo5];rfl
  generalize ({ w1 with heap:=w1.heap.setIfInBounds W.heap.size (.mapIter (some m) clock (L.map MapEntry.born++[e.born]).toArray clock) }:World)=V2 at hk hn3 hJ2⊢;refine C3 hF (v:=.bool true) (w':=V2) rfl (by simp) ?_ ?_
  ·simp only[execOp];rw[Cp (by omega)];rfl
  refine Bqc ?_;refine Br1 (wpIn_cond_true (Cp (by rw[Am];omega)) (wpIn_skip ?_));refine Buv (Br1 (Bpq ?_));have hnL:((L++[e]).map MapEntry.born).Nodup:=by rw[Bo4,Brb];refine⟨hL2,by simp,?_⟩;intro x hx y hy;simp at hy;subst hy;rintro rfl;exact he2 hx
  have Bjy:∀x∈L++[e],x∈es:=by
   intro x hx;rcases Bnk.1 hx with h|h
   ·exact hL1 x h
   ·simp at h;subst h;exact he1
  have hlen:(L++[e]).length≤es.size:=by
   have:=A0m _ (es.toList.map MapEntry.born) hnL (by
    intro x hx;obtain⟨y,hy,rfl⟩:=Bnp.1 hx;exact Bnr (f:=MapEntry.born) (by simpa using Bjy y hy))
   simpa using this
  have b1:∀x y,(Act.put (Act.put a (some 6) x) (some 7) y).tmps.size=14:=fun x y=>by rw[Am,Am,ha1]
  have b2:∀x y,(Act.put (Act.put a (some 6) x) (some 7) y).eval (.tmp 0) = .func (.yield l) #[] #[]:=fun x y=>by rw[Bl (by decide),Bl (by decide),ha3]
  have b3:∀x y,(Act.put (Act.put a (some 6) x) (some 7) y).eval (.tmp 5) = .pointer (some ⟨W.heap.size,0,none⟩):=fun x y=>by rw[Bl (by decide),Bl (by decide),ha4]
  generalize hA2:Act.put (Act.put a (some 6) (.tuple #[.bool true,e.key,e.val])) (some 7) (.bool true)=A2;have c1:A2.tmps.size=14:=by rw[← hA2];exact b1 _ _
  have c2:A2.eval (.tmp 0) = .func (.yield l) #[] #[]:=by rw[← hA2];exact b2 _ _
  have c3:A2.eval (.tmp 5) = .pointer (some ⟨W.heap.size,0,none⟩):=by rw[← hA2];exact b3 _ _
  have c4:A2.defers=[]:=by rw[← hA2];exact ha2
  clear hA2 b1 b2 b3;have hw2:Ava V2 m W.heap.size es clock (L.map MapEntry.born++[e.born]):=⟨hJm _ _ hJ2,by simpa using hn3⟩;refine C3 hF (v:=.tuple #[e.key,e.val]) (w':=V2) rfl (by simp) ?_ ?_
  ·have:=B50 (P:=prog) hw2 he1 hnd;simp only[execOp,c3];simp[this,Result.andThen]
  refine C3 hF (v:=e.key) (w':=V2) rfl (by simp) ?_ ?_
  ·simp only[execOp];rw[Cp (by omega)];rfl
  refine C3 hF (v:=e.key) (w':=V2) rfl (by simp) ?_ ?_
  ·simp only[execOp];rw[Cp (by rw[Am];omega)];rfl
  refine Bqc ?_;refine Br1 (Bpq ?_);refine C3 hF (v:=.func (.yield l) #[] #[]) (w':=V2) rfl (by simp) ?_ ?_
  ·simp only[execOp];rw[Bl (by decide),Bl (by decide),Bl (by decide),c2];rfl
  refine C3 hF (v:=e.key) (w':=V2) rfl (by simp) ?_ ?_
  ·simp only[execOp];rw[Bl (by decide),Cp (by rw[Am,Am];omega)];rfl
  have By:(L.map MapEntry.key).length<es.size:=by rw[Bp4]at hlen;rw[Bo1];exact hlen
  obtain⟨fn,tmps,assign,body,hy,hR⟩:=hY (L.map MapEntry.key) e V2 hJ2 he1 By;have d10:∀x y z u v,(Act.put (Act.put (Act.put (Act.put (Act.put A2 (some 8) x) (some 9) y) (some 3) z) (some 10) u) (some 11) v).eval (.tmp 10)=u:=fun x y z u v=>by
   rw[Bl (by decide),Cp (by rw[Am,Am,Am];omega)]
  have d11:∀x y z u v,(Act.put (Act.put (Act.put (Act.put (Act.put A2 (some 8) x) (some 9) y) (some 3) z) (some 10) u) (some 11) v).eval (.tmp 11)=v:=fun x y z u v=>by
   rw[Cp (by rw[Am,Am,Am,Am];omega)]
  have c5:∀x y z u v,(Act.put (Act.put (Act.put (Act.put (Act.put A2 (some 8) x) (some 9) y) (some 3) z) (some 10) u) (some 11) v).tmps.size=14:=fun x y z u v=>by
   rw[Am,Am,Am,Am,Am,c1]
  have c6:∀x y z u v,(Act.put (Act.put (Act.put (Act.put (Act.put A2 (some 8) x) (some 9) y) (some 3) z) (some 10) u) (some 11) v).eval (.tmp 0) = .func (.yield l) #[] #[]:=fun x y z u v=>by
   rw[Bl (by decide),Bl (by decide),Bl (by decide),Bl (by decide),Bl (by decide),c2]
  have c7:∀x y z u v,(Act.put (Act.put (Act.put (Act.put (Act.put A2 (some 8) x) (some 9) y) (some 3) z) (some 10) u) (some 11) v).eval (.tmp 5) = .pointer (some ⟨W.heap.size,0,none⟩):=fun x y z u v=>by
   rw[Bl (by decide),Bl (by decide),Bl (by decide),Bl (by decide),Bl (by decide),c3]
  have c8:(Act.put (Act.put (Act.put (Act.put (Act.put A2 (some 8) (.tuple #[e.key,e.val])) (some 9) e.key) (some 3) e.key) (some 10) (.func (.yield l) #[] #[])) (some 11) e.key).defers=[]:=c4;generalize hA3:Act.put (Act.put (Act.put (Act.put (Act.put A2 (some 8) (.tuple #[e.key,e.val])) (some 9) e.key) (some 3) e.key) (some 10) (.func (.yield l) #[] #[])) (some 11) e.key=A3 at c8⊢;have k10:A3.eval (.tmp 10) = .func (.yield l) #[] #[]:=by rw[← hA3];exact d10 _ _ _ _ _
  have k11:A3.eval (.tmp 11)=e.key:=by rw[← hA3];exact d11 _ _ _ _ _
  have k0:A3.eval (.tmp 0) = .func (.yield l) #[] #[]:=by rw[← hA3];exact c6 _ _ _ _ _
  have k5:A3.eval (.tmp 5) = .pointer (some ⟨W.heap.size,0,none⟩):=by rw[← hA3];exact c7 _ _ _ _ _
  have ks:A3.tmps.size=14:=by rw[← hA3];exact c5 _ _ _ _ _
  clear hA3 d10 d11 c5 c6 c7;have hx:∀o:Oper,o.op = .call { callee:=.value (.tmp 10),args:=#[.tmp 11],argTypes:=#[5] }→(execOp A3.eval o).run prog V2 = .ok (.round l fn tmps assign body) V2:=by intro o ho;simp only[execOp,ho,resolve,k10];simp[Act.eval,Deferred.ofValue,invoke]at k11⊢;simp[k11,hy]
  refine list_round hF rfl rfl rfl (hx _ rfl) hR ?_;rintro r V3 ⟨rfl,hJ3,hk3⟩;refine⟨_,rfl,?_⟩;refine C3 hF (v:=.bool false) (w':=V3) rfl (by simp) ?_ ?_
  ·simp only[execOp];rw[Cp (by omega)];rfl
  refine Bqc ?_;refine wpIn_cond_false (Cp (by rw[Am];omega)) (wpIn_skip ?_);have hV3:=hk3 _ _ _ _ _ hn3;rw[hn3]at hV3;refine⟨⟨by rw[Am,Am,ks],c8,by rw[Bl (by decide),Bl (by decide),k0],by rw[Bl (by decide),Bl (by decide),k5],L++[e],Bjy,hnL,hV3,by simpa using hJ3⟩,?_⟩;show(match V3.heap[W.heap.size]? with|some (.mapIter _ _ s _)=>es.size-s.size|_=>0)<(match V.heap[W.heap.size]? with|some (.mapIter _ _ s _)=>es.size-s.size|_=>0);rw[hV3,hL3];simp at hlen⊢;omega
def Aws(hT:TyI prog 83 false 1)(hu:∃k e,prog.underlying 83=some (.map k e))(Bas:W.cell? ⟨Bm,0,none⟩=some (.map (some m)))
  (hold:∀e∈es,e.born<clock) (hnd:(es.toList.map MapEntry.born).Nodup)
  (hJm:∀pre V,J pre V→V.heap[m]? = some (.map es clock))
  (hJ:∀pre V V' ex,J pre V→W.heap.size≤ex→Asw ex V V'→J pre V')
  (hY:Yields l es J) (h0:J [] W) :
  CallsIn Fence.wide 0 prog 67 #[.func (.yield l) #[] #[],.pointer (some ⟨Bm,0,none⟩)] W fun r W'=>(∃v,r = .returned v)∧∃L:A6 MapEntry,L.Perm es.toList∧J (L.map MapEntry.key) W' :=
 Bu0 func67 rfl trivial (B0s hT hu Bas hold hnd hJm hJ hY h0 _ rfl _ (by simp[f67]) rfl (by simp[Act.eval,f67,Array.getD]) (by simp[Act.eval,f67,Array.getD])) rfl
end
def Kj:Array Oper:=match f101.body with
 |some (.seq _ (.seq (.seq _ (.block _ (.rangeFunc _ _ _ (.block _ (.region _ ops _))))) _))=>ops
 |_=>#[]
def Awt(x:UInt8):A6 (Nat×XV):=[(2,.nm 1 (.p 0)),(5,.d (Ty.xv .u8 x))]
def stN(x:UInt8):Ak:=⟨Awt x,[(1,.cells [.d (.v (.slice none 0 0))] none)],[],[],[]⟩
def stL(x:UInt8)(l:A6 UInt8)(n:Nat):Ak:=⟨Awt x,[(1,.cells [.os 2000 .u8 0 n] none),(2000,.arr .u8 l)],[],[],[]⟩
def B6d(l:A6 UInt8)(n:Nat):Ad:=⟨Aa [(1011,.arr .u8 l),(1,.cells [.os 1011 .u8 0 n] none)],[]⟩
def apN(x:UInt8):A1l prog [] [11] 13 Kj false (Awt x) (fun s=>some s.X) Kj.toList [] (stN x)=cond (Au 1 1) (some (B6d [x] 1)) none:=by kernel_rfl
def apL(x:UInt8)(l:A6 UInt8)(n:Nat):A1l prog [] [11] 13 Kj false (Awt x) (fun s=>some s.X) Kj.toList [] (stL x l n)=cond (Nat.beq l.length n) (cond (Au (n+1) 1) (some (B6d (l++[x]) (n+1))) none) none:=by kernel_rfl
def op0:Array Oper:=match f101.body with|some (.seq (.region _ ops _) _)=>ops|_=>#[]
def op1:Array Oper:=match f101.body with|some (.seq _ (.seq (.seq (.region _ ops _) _) _))=>ops|_=>#[]
def op2:Array Oper:=match f101.body with|some (.seq _ (.seq (.seq _ (.block _ (.rangeFunc _ _ (.region _ ops _) _))) _))=>ops|_=>#[]
def op4:Array Oper:=match f101.body with|some (.seq _ (.seq _ (.seq (.region _ ops _) _)))=>ops|_=>#[]
def Bhd:f101.body=some (.seq (.region 0 op0 false) (.seq (.seq (.region 1 op1 false) (.block 0 (.rangeFunc (.tmp 6) #[7] (.region 2 op2 false) (.block 1 (.region 3 Kj false))))) (.seq (.region 4 op4 false) .ret))):=rfl
def Vt:A6 UInt8→Ad
 |[]=>⟨Aa [(1,.cells [.d (.v (.slice none 0 0))] none)],[]⟩
 |a::l=>⟨Aa [(1,.cells [.os 2000 .u8 0 (a::l).length] none),(2000,.arr .u8 (a::l))],[]⟩
def B3f(h:l≠[]):Vt l=⟨Aa [(1,.cells [.os 2000 .u8 0 l.length] none),(2000,.arr .u8 l)],[]⟩:=by
 cases l with
 |nil=>exact absurd rfl h
 |cons a l=>rfl
def W9(l:A6 UInt8):(Vt l).live=[]:=by cases l<;>rfl
def Akq{o:Ob}(h:(Vt l).objs.lookup k=some o):∃cs ty,o = .cells cs ty:=by
 have:=D3 h;cases l with
 |nil =>simp only[Vt,Aa,Cz,D4,Af.C7,Bom,Bnh,Bo8,Bnd,Boa,Bpa,Bo2]at this;exact⟨_,_,this.2⟩
 |cons a l =>
  simp only[Vt,Aa,Cz,D4,Af.C7,Bom,Bnh,Bo8,Bnd,Boa,Bpa,Bo2]at this;rcases this with h|h
  ·exact⟨_,_,h.2⟩
  ·exact⟨_,_,h.2⟩
def A4s(x:UInt8):Value:=.int .u8 (x.toNat:Int)
structure B3g(B:B8)(rc:Loop)(lp D:Nat)(l:List UInt8)(V:World):Prop where
 st:∃g,HR [1] B g V (Vt l)
 loop:V.heap[lp]? = some (.loop rc)
 dfr:V.heap[D]? = some (.deferred (some []))
variable{B:B8}{g:Gh}{ob:Obj}
def B3h(h:HR [1] B g V (Vt l))(hb:V.heap[b]? = some ob)(hc:∀a t f,ob≠.cells a t f):∀k o,(Vt l).objs.lookup k=some o→g.ρ k≠b:=by
 intro k o hk he;obtain⟨cs,ty,rfl⟩:=Akq hk;cases h.objs k _ hk with
 |cells _ _ arr T h1 _ _ _ =>rw[he,hb]at h1;simp only[Bnf]at h1;exact hc _ _ _ h1
def Awu(h:HR [1] B g V (Vt l))(hb:V.heap[b]? = some ob)(hc:∀a t f,ob≠.cells a t f):¬(B8.of g V (Vt l)).allowed b:=by
 rintro (⟨k,o,hk,he⟩|⟨n,hn⟩)
 ·exact B3h h hb hc k o hk he
 ·rw[h.beta (W9 l) n]at hn;cases hn
def Ah1(h:HR [1] B g V (Vt l))(hb:V.heap[lp]? = some ob)(hc:∀a t f,ob≠.cells a t f)(N0:∀i,V.cell? ⟨lp,i,none⟩=none)(hsh:V.shape? lp=none)(hge:B.n0≤lp)(o':Obj):HR [1] B g (V.putObj lp o') (Vt l) :=
 h.Bis (W9 l) (B3h h hb hc) N0 hsh hge (by simp[World.putObj]) (fun b _ hne=>Bqt hne) ⟨rfl,rfl,rfl,Bno _⟩
def Aea{rc:Loop}(hb:V.heap[lp]? = some (.loop rc)):(∀i,V.cell? ⟨lp,i,none⟩=none)∧V.shape? lp=none:=by
 refine⟨fun i=>?_,?_⟩
 ·simp[World.cell?,hb]
 ·simp[World.shape?,hb]
def S13:Sig:=⟨13,[1],by simp⟩
def Awv(hl:l≠[])(h:HR [1] B g w (B6d l l.length)):∃g',HR [1] B g' w (Vt l):=by
 obtain⟨h1,h2⟩:=h.Zv (k:=1011) (m:=2000) (o:=(Af.arr .u8 l).o) (by simp) (by simp) (O7 rfl) rfl (by decide);refine⟨_,h1.Bkx (Y:=Vt l) (W9 l) ?_ ?_⟩
 ·rw[B3f hl];intro j o hj;have:=D3 hj;simp only[Aa,Cz,D4,Af.C7,Bom,Bnh,Bo8,Bnd,Boa,Bpa,Bo2]at this;rcases this with ⟨rfl,rfl⟩|⟨rfl,rfl⟩
  ·refine⟨(Af.cells [.os 1011 .u8 0 l.length] none).o,rfl,fun hr=>?_⟩;cases hr with
   |cells _ _ arr T h1 h2 h3 h4 =>
    refine .cells _ _ arr T h1 h2 (fun i x v hx hv=>?_) h4;have hx':i=0∧x = .nm 2000 (.s 0 l.length 1):=by
     cases i with
     |zero=>simp[Ae,XV.a]at hx;exact⟨rfl,hx.symm▸rfl⟩
     |succ i=>simp[Ae]at hx
    obtain⟨rfl,rfl⟩:=hx';have:=h3 0 (.nm 1011 (.s 0 l.length 1)) v rfl hv;cases this with
    |nm _ _ _ hp =>refine .nm 2000 _ _ ?_;simpa[O3]using hp
  ·exact⟨_,rfl,id⟩
 ·intro j hj;simp at hj;subst hj;rw[B3f hl];rfl
set_option maxHeartbeats 4000000 in
def Bat{Bs D:Nat}(hB:B.Cc 1=Bs)(hlp:B.n0≤lp)(hne:D≠lp){fn:FuncId}{tmps:Array Value}(ht:tmps.size=13)(ht2:tmps[2]? = some (.pointer (some ⟨Bs,0,none⟩)))(x:UInt8)(l:A6 UInt8)(Acf:l.length+1≤1000000000000)(V:World)
  (h:B3g B { state:=.ready,pending:=none,fn:=fn,tmps:=tmps,params:=#[7],assign:=.region 2 op2 false,body:=.block 1 (.region 3 Kj false),defers:=D } lp D l V) :
  YieldAt Fence.wide 0 prog lp #[A4s x] V fun r V'=>r = .returned (.bool true)∧B3g B { state:=.ready,pending:=none,fn:=fn,tmps:=tmps,params:=#[7],assign:=.region 2 op2 false,body:=.block 1 (.region 3 Kj false),defers:=D } lp D (l++[x]) V' ∧
   ∀(b:Nat) (m':A7 Nat) (s:Nat) (c:Array Nat) (d:Nat),V.heap[b]? = some (Obj.mapIter m' s c d)→V'.heap[b]? = V.heap[b]?:=by
 have hF:∀f,(Fence.wide.inRound lp).fn f:=fun _=>trivial
 refine⟨fn,_,_,_,run_yield (P:=prog) (args:=#[A4s x]) h.loop rfl,roundIn_of_wpIn trivial ?_⟩;obtain⟨g,hg⟩:=h.st;have Bau:g.ρ 1=Bs:=(hg.Cc 1 (by simp)).1.trans hB;obtain⟨q1,q2⟩:=Aea h.loop;have By:lp<V.heap.size:=(Bny.1 h.loop).1;refine Bpq ?_
 have e2 : op2.toList = [{ dst := some 5, op := .assign (.tmp 7), type := 5, pos := "iter.go:51", after := #[], guard := none }] := rfl
 rw[e2];generalize hA:({ tmps:=(Array.zip #[7] #[A4s x]).foldl (fun tmps (t,a)=>tmps.setIfInBounds t a) tmps,defers:=[] }:Act)=A;have a1:A.tmps.size=13:=by rw[← hA];simp[ht]
 have a2:A.defers=[]:=by rw[← hA]
 have a3:A.eval (.tmp 7)=A4s x:=by rw[← hA];simp[Act.eval,Array.getD,ht]
 have a4:A.tmps[2]? = some (.pointer (some ⟨Bs,0,none⟩)):=by rw[← hA];simp[ht2]
 refine C3 hF (v:=A4s x) (w':=V) rfl (by simp) (by simp only[execOp,a3];rfl) ?_;refine Bqc ?_;refine⟨_,run_beginRound h.loop rfl,?_⟩;have hg2:=Ah1 hg h.loop (by simp) q1 q2 hlp (.loop { state:=.busy,pending:=none,fn:=fn,tmps:=tmps,params:=#[7],assign:=.region 2 op2 false,body:=.block 1 (.region 3 Kj false),defers:=D });have hl2:(V.putObj lp (.loop { state:=.busy,pending:=none,fn:=fn,tmps:=tmps,params:=#[7],assign:=.region 2 op2 false,body:=.block 1 (.region 3 Kj false),defers:=D })).heap[lp]? = some (.loop { state:=.busy,pending:=none,fn:=fn,tmps:=tmps,params:=#[7],assign:=.region 2 op2 false,body:=.block 1 (.region 3 Kj false),defers:=D }):=World.putObj_heap_same By;have ho2:∀b,b≠lp→(V.putObj lp (.loop { state:=.busy,pending:=none,fn:=fn,tmps:=tmps,params:=#[7],assign:=.region 2 op2 false,body:=.block 1 (.region 3 Kj false),defers:=D })).heap[b]? = V.heap[b]?:=fun b hb=>Bqt hb
 show Code.wpIn _ _ _ _ _ _ (V.putObj lp (.loop { state:=.busy,pending:=none,fn:=fn,tmps:=tmps,params:=#[7],assign:=.region 2 op2 false,body:=.block 1 (.region 3 Kj false),defers:=D }));generalize V.putObj lp (.loop { state:=.busy,pending:=none,fn:=fn,tmps:=tmps,params:=#[7],assign:=.region 2 op2 false,body:=.block 1 (.region 3 Kj false),defers:=D })=V2 at hg2 hl2 ho2⊢;have Bm3:=hg2.Aqy (W9 l);refine Buv (wpIn_region (Oc ?_ ?_ _ _ _ ?_))
 ·rintro ⟨a,w,hq⟩;exact hq
 ·intro i o hi c hc;have:o∈Kj.toList:=by have:=Boe (l:=Kj.toList) (i:=i) (a:=o) (by simpa using hi);exact this
  have Ue:Kj.toList.all (fun o=>match o.op with|.defer _=>false|_=>true)=true:=by kernel_rfl
  have:=Bok.1 Ue o this;rw[hc]at this;cases this
 ·rw[Bsi];have hsr:∀X,X=Vt l→SR S13 (B8.of g V2 (Vt l)) g V2 ⟨Eo (Awt x),X⟩ (A.put (some 5) (A4s x)):=by
   rintro X rfl;refine⟨a2,by rw[Am];exact a1,Bm3,?_⟩;intro t y hy;have:=D3 hy;simp only[Eo,Awt,Bnh,Bo8,Bnd,Boa,Bpa,Bo2]at this;rcases this with ⟨rfl,rfl⟩|⟨rfl,rfl⟩
   ·refine⟨.pointer (some ⟨Bs,0,none⟩),?_,?_⟩
    ·rw[Qj (by decide)];show(A.tmps.setIfInBounds 5 (A4s x))[2]? = _;simp[a4]
    ·rw[← Bau];exact RA.ptr 1 0
   ·refine⟨A4s x,?_,.d _ _ (.sc _)⟩;rw[Qj (by decide)];show(A.tmps.setIfInBounds 5 (A4s x))[5]? = _;simp[a1]
  have fin:∀(g':Gh) (w':World) (a':Act) (s:St),s.X=B6d (l++[x]) (l.length+1)→SR S13 (B8.of g V2 (Vt l)) g' w' s a' →
    Exit.inBlock 1 (roundPost prog lp fun r V'=>r = .returned (.bool true)∧B3g B { state:=.ready,pending:=none,fn:=fn,tmps:=tmps,params:=#[7],assign:=.region 2 op2 false,body:=.block 1 (.region 3 Kj false),defers:=D } lp D (l++[x]) V' ∧
     ∀(b:Nat) (m':A7 Nat) (s:Nat) (c:Array Nat) (d:Nat),V.heap[b]? = some (Obj.mapIter m' s c d)→V'.heap[b]? = V.heap[b]?) .normal a' w':=by
   intro g' w' a' s hs Bm4;have hr:=Bm4.hr;rw[hs]at hr;have fr:∀(b:Nat) (ob:Obj),V2.heap[b]? = some ob→(∀a t f,ob≠.cells a t f)→w'.heap[b]? = some ob:=by intro b ob hb hc;rw[(hr.frame b (Bny.1 hb).1 (Awu hg2 hb hc)).1];exact hb
   have hl3:=fr lp _ hl2 (by simp);have Bf7:=hg2.comp hr (W9 l) rfl;rw[show l.length+1=(l++[x]).length by simp]at Bf7;obtain⟨g4,h4⟩:=Awv (by simp) Bf7;obtain⟨q3,q4⟩:=Aea hl3;have h5:=Ah1 h4 hl3 (by simp) q3 q4 hlp (.loop { state:=.ready,pending:=none,fn:=fn,tmps:=tmps,params:=#[7],assign:=.region 2 op2 false,body:=.block 1 (.region 3 Kj false),defers:=D });have Bm5:lp<w'.heap.size:=(Bny.1 hl3).1;refine⟨_,_,run_endRound none hl3,rfl,⟨⟨g4,h5⟩,World.putObj_heap_same Bm5,?_⟩,?_⟩
   ·rw[Bqt hne];exact fr D _ ((ho2 D hne).trans h.dfr) (by simp)
   ·intro b m' s c d hb;have hbl:b≠lp:=by rintro rfl;rw[h.loop]at hb;cases hb
    rw[Bqt hbl,hb];exact fr b _ ((ho2 b hbl).trans hb) (by simp)
  have Bjz:Au (l.length+1) 1=true:=by simp[Au];omega
  cases l with
  |nil =>
   have hrw:=A5p (P:=prog) (Γ:=[]) (own:=[11]) (S:=S13) (ops:=Kj) (Ga:=Awt x) (K:=fun s=>some s.X) (r:=B6d [x] 1) (s0:=stN x) Kj.toList 0 [] (stN x) (A1t Kj) (.refl _) (by
    rw[show S13.N=13 from rfl,apN];rw[show Au 1 1=true from Bjz];rfl)
   refine hrw _ _ _ _ _ (hsr _ rfl) ?_;rintro g' w' a' s ⟨Bw,rfl,_,hX⟩ hs;exact fin g' w' a' _ (Br6 hX) hs
  |cons y l =>
   have hrw:=A5p (P:=prog) (Γ:=[]) (own:=[11]) (S:=S13) (ops:=Kj) (Ga:=Awt x) (K:=fun s=>some s.X) (r:=B6d ((y::l)++[x]) ((y::l).length+1)) (s0:=stL x (y::l) (y::l).length) Kj.toList 0 [] (stL x (y::l) (y::l).length) (A1t Kj) (.refl _) (by
    rw[show S13.N=13 from rfl,apL];rw[Bjz,Br8];rfl)
   refine hrw _ _ _ _ _ (hsr _ rfl) ?_;rintro g' w' a' s ⟨Bw,rfl,_,hX⟩ hs;exact fin g' w' a' _ (Br6 hX) hs
def Bav:A6 UInt8→Ad
 |[]=>X0
 |a::l=>⟨Aa [(2000,.arr .u8 (a::l))],[]⟩
def Bhe:A6 UInt8→AV
 |[]=>.d (.sc (.slice none 0 0))
 |a::l=>.nm 2000 (.s 0 (a::l).length 1)
def Baw{x y:UInt8}(h:A4s x=A4s y):x=y:=by simp only[A4s,Value.int.injEq,Bsy]at h;exact Brp.1 (by omega)
def Bdv(hk:∀e∈L,e.key=A4s (xs e)):∀ {l:A6 UInt8},L.map MapEntry.key=l.map A4s→l=L.map xs:=by
 induction L with
 |nil=>intro l h;cases l with|nil=>rfl|cons _ _=>simp at h
 |cons e L ih =>
  intro l h;cases l with
  |nil=>simp at h
  |cons x l =>simp only[Bnh,Br7]at h;rw[hk e Bnm]at h;rw[Bnh,← Baw h.1,ih (fun e he=>hk e (Bnl _ he)) h.2]
structure Aww(w:World)(Bm m:Nat)(es:Array MapEntry)(clock:Nat)(xs:MapEntry→UInt8):Prop where
 box:w.cell? ⟨Bm,0,none⟩=some (.map (some m))
 map:w.heap[m]? = some (.map es clock)
 old:∀e∈es,e.born<clock
 nodup:(es.toList.map MapEntry.born).Nodup
 key:∀e∈es,e.key=A4s (xs e)
 size:es.size≤1000000000
structure Bax:Prop where
 map:TyI prog 83 false 1
 und:∃k e,prog.underlying 83=some (.map k e)
 sl:TyI prog 87 false 1
abbrev A0v(g:Gh)(w:World)(es:Array MapEntry)(xs:MapEntry→UInt8):Ending→World→Prop:=fun r w' =>∃g' v L,r = .returned v∧List.Perm L es.toList∧HR [] (B8.of g w X0) g' w' (Bav (L.map xs))∧RA g' w' (Bhe (L.map xs)) v
def Bdw(h:HR [] B g w (Vt l)):HR [] B g w (Bav l):=by
 have h1:=h.B6 (k:=1) (by simp);refine h1.alike ⟨fun k=>?_,?_⟩
 ·cases l with
  |nil=>simp[Vt,Bav,X0,Aa,Cz,D4,Af.C7,Ab.B6]
  |cons a l =>simp only[Vt,Bav,Aa,Cz,D4,Af.C7,Bom,Ab.B6,Bnh,Bo8];rfl
 ·cases l<;>rfl
set_option maxHeartbeats 4000000 in
def Awx(hI:Bax)(h0:HR [] (B8.of g w X0) g w X0)(hM:Aww w Bm m es clock xs)
  (A:Act) (a1:A.tmps.size=13) (a2:A.defers=[]) (a3:A.eval (.tmp 0) = .slice none 0 0) (a4:A.eval (.tmp 1) = .func (.func 67) #[] #[.pointer (some ⟨Bm,0,none⟩)]) :
  (Code.seq (.region 0 op0 false) (.seq (.seq (.region 1 op1 false) (.block 0 (.rangeFunc (.tmp 6) #[7] (.region 2 op2 false) (.block 1 (.region 3 Kj false))))) (.seq (.region 4 op4 false) .ret))).wpIn Fence.wide 0 prog
   (bodyPostM Fence.wide 0 prog f101 (A0v g w es xs)) A w:=by
 have hF:∀f,Fence.wide.fn f:=fun _=>trivial
 have hβ:∀n,g.β n=none:=h0.beta rfl;have hna:∀b,¬(B8.of g w X0).allowed b:=by
  rintro b (⟨k,o,hk,_⟩|⟨n,hn⟩)
  ·simp[X0]at hk
  ·rw[hβ n]at hn;cases hn
 have Bm6:m<w.heap.size:=(Bny.1 hM.map).1;have Bm7:Bm<w.heap.size:=World.block_lt_of_cell? w ⟨Bm,0,none⟩ hM.box;refine Br1 (Bpq ?_)
 rw [show op0.toList = [{ dst := some 2, op := .box 87 (.tmp 0), type := 0, pos := "iter.go:50", after := #[], guard := none }, { dst := some 4, op := .assign (.const (.slice none 0 0)), type := 87, pos := "iter.go:50", after := #[], guard := none }] from rfl]
 refine C3 hF (v:=.pointer (some ⟨w.heap.size,0,none⟩)) (w':=w.alloc (.cells #[.slice none 0 0] 87)) rfl (by simp) ?_ ?_
 ·simp only[execOp,a3];simp[Instr.box,newVar,Go.newRow,Value.cells]
 refine C3 hF (v:=.slice none 0 0) (w':=w.alloc (.cells #[.slice none 0 0] 87)) rfl (by simp) (by simp only[execOp];rfl) ?_;refine Bqc ?_;have hn:=h0.newObj (k:=1) rfl rfl (.cells #[.slice none 0 0] 87) (.cells [.d (.sc (.slice none 0 0))] none) (fun g' w' _ hb=>.cells _ _ _ _ hb (by simp) (fun i x v hx hv=>by
  cases i with
  |zero=>simp at hx hv;subst hx;subst hv;exact .d _ _ (.sc _)
  |succ i=>simp at hx) (by simp))
 have hg1:=hn.1;generalize hgg:({ g with ρ:=O3 g.ρ 1 w.heap.size }:Gh)=g1 at hg1;have hρ:g1.ρ 1=w.heap.size:=by rw[← hgg];exact Ah g.ρ 1 w.heap.size
 have hr1:HR [1] { B8.of g w X0 with Cc:=fun _=>w.heap.size } g1 (w.alloc (.cells #[.slice none 0 0] 87)) (Vt []):=hg1.B2a (fun _=>w.heap.size) (fun k hk=>by
  simp at hk;subst hk;exact⟨hρ,rfl⟩)
 have hV0:(w.alloc (.cells #[.slice none 0 0] 87)).heap.size=w.heap.size+1:=by simp
 have Bf8:∀b,b<w.heap.size→(w.alloc (.cells #[.slice none 0 0] 87)).heap[b]? = w.heap[b]?:=fun b hb=>J9 w _ hb
 have Bf9:(w.alloc (.cells #[.slice none 0 0] 87)).cell? ⟨Bm,0,none⟩=some (.map (some m)):=by rw[Gl (Bf8 Bm Bm7)];exact hM.box
 generalize hW:w.alloc (.cells #[.slice none 0 0] 87)=V0 at hr1 hV0 Bf8 Bf9⊢;clear hn hg1 hW;have c1:(Act.put (Act.put A (some 2) (.pointer (some ⟨w.heap.size,0,none⟩))) (some 4) (.slice none 0 0)).tmps.size=13:=by rw[Am,Am,a1]
 have c2:(Act.put (Act.put A (some 2) (.pointer (some ⟨w.heap.size,0,none⟩))) (some 4) (.slice none 0 0)).eval (.tmp 1) = .func (.func 67) #[] #[.pointer (some ⟨Bm,0,none⟩)]:=by rw[Bl (by decide),Bl (by decide),a4]
 have c3:(Act.put (Act.put A (some 2) (.pointer (some ⟨w.heap.size,0,none⟩))) (some 4) (.slice none 0 0)).eval (.tmp 2) = .pointer (some ⟨w.heap.size,0,none⟩):=by rw[Bl (by decide),Cp (by omega)]
 have c4:(Act.put (Act.put A (some 2) (.pointer (some ⟨w.heap.size,0,none⟩))) (some 4) (.slice none 0 0)).defers=[]:=a2;show Code.wpIn _ _ _ _ _ (Act.put (Act.put A (some 2) (.pointer (some ⟨w.heap.size,0,none⟩))) (some 4) (.slice none 0 0)) V0;generalize Act.put (Act.put A (some 2) (.pointer (some ⟨w.heap.size,0,none⟩))) (some 4) (.slice none 0 0)=A1 at c1 c2 c3 c4⊢;clear a1 a2 a3 a4;refine Br1 (Br1 (Bpq ?_))
 rw [show op1.toList = [{ dst := some 6, op := .move (.tmp 1), type := 90, pos := "iter.go:51", after := #[], guard := none }] from rfl]
 refine C3 hF (v:=.func (.func 67) #[] #[.pointer (some ⟨Bm,0,none⟩)]) (w':=V0) rfl (by simp) (by simp only[execOp,c2];rfl) ?_;refine Bqc ?_;have d1:(A1.put (some 6) (.func (.func 67) #[] #[.pointer (some ⟨Bm,0,none⟩)])).tmps.size=13:=by rw[Am,c1]
 have d2:(A1.put (some 6) (.func (.func 67) #[] #[.pointer (some ⟨Bm,0,none⟩)])).eval (.tmp 6) = .func (.func 67) #[] #[.pointer (some ⟨Bm,0,none⟩)]:=Cp (by omega);have d3:(A1.put (some 6) (.func (.func 67) #[] #[.pointer (some ⟨Bm,0,none⟩)])).eval (.tmp 2) = .pointer (some ⟨w.heap.size,0,none⟩):=by rw[Bl (by decide),c3]
 have d4:(A1.put (some 6) (.func (.func 67) #[] #[.pointer (some ⟨Bm,0,none⟩)])).defers=[]:=c4;show Code.wpIn _ _ _ _ _ (A1.put (some 6) (.func (.func 67) #[] #[.pointer (some ⟨Bm,0,none⟩)])) V0;generalize A1.put (some 6) (.func (.func 67) #[] #[.pointer (some ⟨Bm,0,none⟩)])=A2 at d1 d2 d3 d4⊢;clear c1 c2 c3 c4;have d5:A2.tmps[2]? = some (.pointer (some ⟨w.heap.size,0,none⟩)):=by
  have:A2.tmps.getD 2 undef = .pointer (some ⟨w.heap.size,0,none⟩):=d3;have h2:2<A2.tmps.size:=by omega
  simp only[Array.getD,h2,Bud]at this;simp[h2,← this]
 refine Buv (wpIn_rangeFunc ?_);intro fn _;generalize hrc:({ state:=.ready,pending:=none,fn:=fn,tmps:=A2.tmps,params:=#[7],assign:=.region 2 op2 false,body:=.block 1 (.region 3 Kj false),defers:=V0.heap.size }:Loop)=rc;have Bk1:((V0.alloc (.deferred (some []))).alloc (.loop rc)).heap.size=V0.heap.size+2:=by simp
 have Bhf:∀b,b<V0.heap.size→((V0.alloc (.deferred (some []))).alloc (.loop rc)).heap[b]? = V0.heap[b]?:=fun b hb=>by
  rw[J9 (V0.alloc (.deferred (some []))) _ (by simp;omega),J9 V0 _ hb]
 have hr2:HR [1] { B8.of g w X0 with Cc:=fun _=>w.heap.size } g1 ((V0.alloc (.deferred (some []))).alloc (.loop rc)) (Vt []):=(hr1.grow (by rw[Bk1];omega) Bhf ⟨rfl,rfl,rfl,Bno _⟩).1;have hlp:((V0.alloc (.deferred (some []))).alloc (.loop rc)).heap[V0.heap.size+1]? = some (.loop rc):=by have:=Bti (V0.alloc (.deferred (some []))) (.loop rc);simpa using this
 have hD:((V0.alloc (.deferred (some []))).alloc (.loop rc)).heap[V0.heap.size]? = some (.deferred (some [])):=by rw[J9 (V0.alloc (.deferred (some []))) _ (by simp)];exact Bti V0 _
 have Bfa:((V0.alloc (.deferred (some []))).alloc (.loop rc)).cell? ⟨Bm,0,none⟩=some (.map (some m)):=by rw[Gl (Bhf Bm (by omega))];exact Bf9
 have Aqi:=run_enterLoop_outer (P:=prog) (w:=V0) fn A2.tmps #[7] (.region 2 op2 false) (.block 1 (.region 3 Kj false));rw[hrc]at Aqi;generalize (V0.alloc (.deferred (some []))).alloc (.loop rc)=W1 at Bk1 Bhf hr2 hlp hD Bfa Aqi;refine⟨V0.heap.size+1,[{ target:=.collected V0.heap.size,args:=#[] }],W1,{ target:=.fn (.func 67) #[.pointer (some ⟨Bm,0,none⟩)],args:=#[.func (.yield (V0.heap.size+1)) #[] #[]] },W1,67,
  #[.func (.yield (V0.heap.size+1)) #[] #[],.pointer (some ⟨Bm,0,none⟩)],W1,Aqi,?_,fun _ _=>trivial,?_,fun h=>by simp[Fence.wide]at h,?_⟩
 ·simp only[resolve,d2];simp[Act.eval,Deferred.ofValue]
 ·have hc:F6 prog 67:=.mk' func67 rfl (by decide);have:=Dl hc #[.func (.yield (V0.heap.size+1)) #[] #[],.pointer (some ⟨Bm,0,none⟩)] W1;simp[invoke,this]
 ·have hB1:({ B8.of g w X0 with Cc:=fun _=>w.heap.size }:B8).n0=w.heap.size:=rfl;refine(Aws (l:=V0.heap.size+1) (Bm:=Bm) (m:=m) (es:=es) (clock:=clock) (W:=W1) (J:=fun pre V=>∃l:A6 UInt8,pre=l.map A4s∧B3g { B8.of g w X0 with Cc:=fun _=>w.heap.size } rc (V0.heap.size+1) V0.heap.size l V)
   hI.map hI.und Bfa hM.old hM.nodup ?_ ?_ ?_ ⟨[],rfl,⟨g1,hr2⟩,hlp,hD⟩).mono ?_
  ·rintro pre V ⟨l,rfl,hA⟩;obtain⟨g',hg'⟩:=hA.st;rw[(hg'.frame m Bm6 (hna m)).1];exact hM.map
  ·rintro pre V V' ex ⟨l,rfl,hA⟩ hex hk;obtain⟨g',hg'⟩:=hA.st;have lt1:V0.heap.size+1<V.heap.size:=(Bny.1 hA.loop).1;refine⟨l,rfl,⟨g',hg'.Bis (ex:=ex) (W9 l) ?_ ?_ ?_ (by rw[hB1];omega) hk.size hk.block hk.io⟩,?_,?_⟩
   ·intro k o hko he;obtain⟨cs,ty,rfl⟩:=Akq hko;cases hg'.objs k _ hko with
    |cells _ _ arr T h1 _ _ _ =>rw[he]at h1;rcases hk.none with h2|⟨_,_,_,_,h2⟩<;>rw[h2]at h1<;>cases h1
   ·intro i;rcases hk.none with h2|⟨_,_,_,_,h2⟩<;>simp[World.cell?,h2]
   ·rcases hk.none with h2|⟨_,_,_,_,h2⟩<;>simp[World.shape?,h2]
   ·rw[hk.block _ lt1 (by omega)];exact hA.loop
   ·rw[hk.block _ (by omega) (by omega)];exact hA.dfr
  ·rintro pre e V ⟨l,rfl,hA⟩ he hl;have hs:=hM.size;subst hrc;have:=Bat (B:={ B8.of g w X0 with Cc:=fun _=>w.heap.size }) (Bs:=w.heap.size) (lp:=V0.heap.size+1) (D:=V0.heap.size) rfl (by rw[hB1];omega) (by omega) d1 d5 (xs e) l (by simp at hl;omega) V hA;rw[← hM.key e he]at this;obtain⟨fn',Bk2,as',bd',y1,y2⟩:=this;refine⟨fn',Bk2,as',bd',y1,y2.mono ?_⟩;rintro r V' ⟨rfl,hA',hk⟩;exact⟨rfl,⟨l++[xs e],by simp[hM.key e he],hA'⟩,hk⟩
  ·rintro r W2 ⟨⟨v,rfl⟩,L,hL,l,hl,hA⟩;have hLe:∀e∈L,e∈es:=fun e he=>by simpa using hL.subset he
   have e1:=Bdv (xs:=xs) (fun e he=>hM.key e (hLe e he)) hl;rw[e1]at hA;obtain⟨g',hg'⟩:=hA.st;obtain⟨q1,q2⟩:=Aea hA.loop;have hge:({ B8.of g w X0 with Cc:=fun _=>w.heap.size }:B8).n0≤V0.heap.size+1:=by rw[hB1];omega
   have hg3:=Ah1 hg' hA.loop (by simp) q1 q2 hge (.loop { rc with state:=.exhausted });have hrs:rc.state≠.busy:=by rw[← hrc];simp
   have hrp:rc.pending=none:=by rw[← hrc]
   have Avn:=run_endLoop (P:=prog) hA.loop hrs;have hD3:(W2.putObj (V0.heap.size+1) (.loop { rc with state:=.exhausted })).heap[V0.heap.size]? = some (.deferred (some [])):=by rw[Bqt (by omega)];exact hA.dfr
   generalize W2.putObj (V0.heap.size+1) (.loop { rc with state:=.exhausted })=W3 at hg3 hD3 Avn;rw[hrp]at Avn;refine⟨none,W3,Avn,?_⟩;have Bau:g'.ρ 1=w.heap.size:=(hg3.Cc 1 (by simp)).1;have hld:Ah9 prog (Vt (L.map xs)) 87 1 0 (Bhe (L.map xs)):=by
    cases L.map xs with
    |nil=>exact .one [.d (.sc (.slice none 0 0))] none _ hI.sl rfl rfl
    |cons a l=>exact .one [.nm 2000 (.s 0 (a::l).length 1)] none _ hI.sl rfl rfl
   obtain⟨u,hu,hru⟩:=hld.run hg3;rw[Bau]at hu;show Code.wpIn _ _ _ _ _ _ W3;refine Br1 (Bpq ?_)
   rw [show op4.toList = [{ dst := some 12, op := .load 87 (.tmp 2), type := 87, pos := "iter.go:54", after := #[], guard := none }, { dst := some 4, op := .assign (.tmp 12), type := 87, pos := "iter.go:54", after := #[{ on := 0, ground := .data }, { on := 0, ground := .phase }], guard := none }] from rfl]
   refine C3 hF (v:=u) (w':=W3) rfl (by simp) ?_ ?_
   ·have:({ tmps:=A2.tmps,defers:=[{ target:=.collected V0.heap.size,args:=#[] }]++A2.defers }:Act).eval (.tmp 2) = .pointer (some ⟨w.heap.size,0,none⟩):=d3;simp only[execOp,this];simp[Instr.loadAt,Instr.sureAddr,hu,Result.andThen]
   refine C3 hF (v:=u) (w':=W3) rfl (by simp) ?_ ?_
   ·simp only[execOp];rw[Cp (by show 12<A2.tmps.size;omega)];rfl
   refine Bqc ?_;refine wpIn_ret ?_;have e2:∀(q:Act),q.tmps.size=13→(q.put (some 4) u).tmps.getD 4 undef=u:=fun q hq=>by simp[Act.put,Array.getD,hq]
   show LeavesInM _ _ _ _ _ _ _ _ _;have hdf:(Act.put (Act.put ({ tmps:=A2.tmps,defers:=[{ target:=.collected V0.heap.size,args:=#[] }]++A2.defers }:Act) (some 12) u) (some 4) u).defers=[{ target:=.collected V0.heap.size,args:=#[] }]:=by show[_]++A2.defers=_;rw[d4];rfl
   rw[show(Act.put (Act.put ({ tmps:=A2.tmps,defers:=[{ target:=.collected V0.heap.size,args:=#[] }]++A2.defers }:Act) (some 12) u) (some 4) u).defers=[{ target:=.collected V0.heap.size,args:=#[] }]from hdf];have hg4:HR [1] { B8.of g w X0 with Cc:=fun _=>w.heap.size } g' (W3.putObj V0.heap.size (.deferred none)) (Vt (L.map xs)):=Ah1 hg3 hD3 (by simp) (by simp[World.cell?,hD3]) (by simp[World.shape?,hD3]) (by rw[hB1];omega) _;refine⟨by simp,.inl ⟨V0.heap.size,_,rfl,run_takeDeferred hD3,u,?_,g',u,L,rfl,hL,Bdw (hg4.B2a (nm':=[]) _ (by simp)),?_⟩⟩
   ·have Bm8:∀(t:Array Value) (w:World),t.getD 4 undef=u→(results f101 t).run prog w = .ok u w:=fun t w ht=>by
     simp[results,f101];simpa[Bsh]using ht
    exact Bm8 _ _ (e2 _ (by rw[Am];exact d1))
   ·have ht:LeD g'.γ W3 g'.γ (W3.putObj V0.heap.size (.deferred none)):=by
     refine⟨fun _=>Bno _,fun b i hi=>?_,fun b s hs=>?_⟩
     ·by_cases hb:b=V0.heap.size
      ·subst hb;have:=hg3.Iw _ _ hi;simp[World.cell?,hD3]at this
      ·exact Gl (Bqt hb) i none
     ·by_cases hb:b=V0.heap.size
      ·subst hb;simp[World.shape?,hD3]at hs
      ·rw[I2 (Bqt hb)];exact hs
    cases hlm:L.map xs with
    |nil =>
     rw[hlm]at hru;cases hru with
     |d _ _ h=>exact .d _ _ (h.mono ht)
    |cons a l =>
     rw[hlm]at hru;cases hru with
     |nm _ _ _ h=>exact .nm _ _ _ (h.mono ht)
def Asx(hI:Bax)(h0:HR [] (B8.of g w X0) g w X0)(hM:Aww w Bm m es clock xs) :
  CallsIn Fence.wide 0 prog 101 #[.slice none 0 0,.func (.func 67) #[] #[.pointer (some ⟨Bm,0,none⟩)]] w (A0v g w es xs) :=
 callsIn_of_wp_marks func101 Bhd trivial (Awx hI h0 hM _ (by simp[f101]) rfl (by simp[Act.eval,f101,Array.getD]) (by simp[Act.eval,f101,Array.getD])) rfl
def cop(k:Nat):Array Oper:=match f65.body,k with
 |some (.seq (.region _ ops _) _),0=>ops
 |some (.seq _ (.seq (.region _ ops _) _)),1=>ops
 |_,_=>#[]
def Bhg:f65.body=some (.seq (.region 0 (cop 0) false) (.seq (.region 1 (cop 1) false) .ret)):=rfl
def sop(k:Nat):Array Oper:=match f32.body,k with
 |some (.seq (.region _ ops _) _),0=>ops
 |some (.seq _ (.seq (.region _ ops _) _)),1=>ops
 |some (.seq _ (.seq _ (.seq (.region _ ops _) _))),2=>ops
 |some (.seq _ (.seq _ (.seq _ (.seq (.region _ ops _) _)))),3=>ops
 |_,_=>#[]
def Bhh:f32.body=some (.seq (.region 0 (sop 0) false) (.seq (.region 1 (sop 1) false) (.seq (.region 2 (sop 2) false) (.seq (.region 3 (sop 3) false) .ret)))):=rfl
section
variable{g:Gh}{w:World}{Bm m:Nat}{es:Array MapEntry}{clock:Nat}{xs:MapEntry→UInt8}
def Asy{fn:Func}{t:Tmp}{R:Ending→World→Prop}{A:Act}(hf:fn.results=#[.tmp t])(hd:A.defers=[])(he:A.eval (.tmp t)=v)(h:R (.returned v) V):bodyPost prog fn R .ret A V:=by refine⟨hd,v,?_,h⟩;have:A.tmps.getD t undef=v:=he;simp[results,hf];simpa[Bsh]using this
def Amp(hI:Bax)(h0:HR [] (B8.of g w X0) g w X0)(hM:Aww w Bm m es clock xs) :
  CallsIn Fence.wide 0 prog 65 #[.func (.func 67) #[] #[.pointer (some ⟨Bm,0,none⟩)]] w (A0v g w es xs):=by
 have hF:∀f,Fence.wide.fn f:=fun _=>trivial
 refine Bu0 func65 Bhg trivial ?_ rfl;generalize hA:({ tmps:=#[.func (.func 67) #[] #[.pointer (some ⟨Bm,0,none⟩)]]++Array.replicate (f65.ntmps-(#[Value.func (.func 67) #[] #[.pointer (some ⟨Bm,0,none⟩)]]:Array Value).size) undef,defers:=[] }:Act)=A;have a1:A.tmps.size=5:=by rw[← hA];simp[f65]
 have a2:A.defers=[]:=by rw[← hA]
 have a3:A.eval (.tmp 0) = .func (.func 67) #[] #[.pointer (some ⟨Bm,0,none⟩)]:=by rw[← hA];simp[Act.eval,f65,Array.getD]
 clear hA;refine Br1 (Bpq ?_);refine C3 hF (v:=.slice none 0 0) (w':=w) rfl (by simp) rfl (Bqc ?_);refine Br1 (Bpq ?_);refine C3 hF (v:=.func (.func 67) #[] #[.pointer (some ⟨Bm,0,none⟩)]) (w':=w) rfl (by simp) ?_ ?_
 ·simp only[execOp];rw[Bl (by decide),a3];rfl
 refine Adb hF rfl rfl rfl (A3q rfl (.mk' func101 rfl (by decide))) (R:=A0v g w es xs) ?_ ?_
 ·have:=Asx hI h0 hM;simp only[Brz,Bnh,Bo8];rw[Cp (by rw[Am];omega)];exact this
 rintro r w' ⟨g',v,L,rfl,h1,h2,h3⟩;refine⟨v,rfl,?_⟩;refine C3 hF (v:=v) (w':=w') rfl (by simp) ?_ (Bqc (wpIn_ret ?_))
 ·simp only[execOp];rw[Cp (by rw[Am,Am];omega)];rfl
 ·exact Asy rfl a2 (Cp (by rw[Am,Am,Am];omega)) ⟨g',v,L,rfl,h1,h2,h3⟩
structure Bay(S:List UInt8→List UInt8):Prop where
 Bfb:∀l,l≠[]→l.length≤1000000000000→Does prog 66 [.nm 1 (.s 0 l.length 1)] (O1 .u8 l) (.Er []) (O1 .u8 (S l))
 nil:Does prog 66 [.d (.sl 1 [])] X0 (.Er []) X0
 len:∀l,(S l).length=l.length
 perm:∀l l':List UInt8,l.Perm l'→S l=S l'
abbrev Awy(S:A6 UInt8→A6 UInt8)(g:Gh)(w:World)(es:Array MapEntry)(xs:MapEntry→UInt8):Ending→World→Prop:=fun r w' =>∃g' v,r = .returned v∧HR [] (B8.of g w X0) g' w' X0∧RA g' w' (.d (.sl 1 ((S (es.toList.map xs)).map (Ty.ds .u8)))) v
def B6e(hS:Bay S){g1:Gh}{w1:World}(hl:l.length≤1000000000000)(h1:HR [] B g1 w1 (Bav l)){u:Value}(hu:RA g1 w1 (Bhe l) u) :
  Calls prog 66 #[u] w1 fun r w'=>∃v,r = .returned v∧∃g',HR [] B g' w' X0∧RA g' w' (.d (.sl 1 ((S l).map (Ty.ds .u8)))) u:=by
 cases l with
 |nil =>
  have Bm9:S []=[]:=Brd (hS.len []);have hr:=h1.Aqy rfl;have hu':u = .slice none 0 0:=by
   cases hu with
   |d _ _ h=>cases h;rfl
  subst hu';refine(hS.nil g1 w1 #[.slice none 0 0] hr rfl ?_).mono ?_
  ·intro i x v hx hv;cases i with
   |zero=>simp at hx hv;subst hx;subst hv;exact .d _ _ (.nil 1 none 0 fun _=>rfl)
   |succ i=>simp at hx
  ·rintro r w' ⟨g',v,rfl,_,h3⟩;refine⟨v,rfl,g',h1.comp h3 rfl rfl,?_⟩;rw[Bm9];exact .d _ _ (.nil 1 none 0 fun _=>rfl)
 |cons a l =>
  obtain⟨r1,r2⟩:=h1.Zv (k:=2000) (m:=1) (o:=(Af.arr .u8 (a::l)).o) (by simp) (by simp) (O7 rfl) rfl (by decide);generalize hgg:({ g1 with ρ:=O3 g1.ρ 1 (g1.ρ 2000) }:Gh)=g2 at r1 r2;have hρ:g2.ρ 1=g1.ρ 2000:=by rw[← hgg];exact Ah g1.ρ 1 _
  have r3:HR [] B g2 w1 (O1 .u8 (a::l)):=r1.alike ⟨fun k=>by rfl,rfl⟩;have r4:=(r3.B2a (nm':=[1]) (fun _=>g2.ρ 1) (fun k hk=>by simp at hk;subst hk;exact⟨rfl,rfl⟩));have hr:=r4.Aqy rfl;have hu':RA g2 w1 (.nm 1 (.s 0 (a::l).length 1)) u:=by
   cases hu with
   |nm _ _ _ h =>refine .nm _ _ _ ?_;rw[hρ];exact h
  refine(hS.Bfb (a::l) (by simp) hl g2 w1 #[u] hr rfl ?_).mono ?_
  ·intro i x v hx hv;cases i with
   |zero=>simp at hx hv;subst hx;subst hv;exact hu'
   |succ i=>simp at hx
  ·rintro r w' ⟨g',v,rfl,_,h3⟩;refine⟨v,rfl,?_⟩;have hk:=(h3.Cc 1 (by simp[O1])).1;have hu3:RA g' w' (.osl 1 (0*1) (a::l).length 1) u:=by
    cases hu' with
    |nm _ _ _ h =>refine .nm _ _ _ ?_;rw[hk];exact h.mono h3.le
   have h4:=(r4.comp h3 rfl rfl).B2a (nm':=[]) (fun _=>0) (by simp);have h4':HR [] B g' w' (O1 .u8 (S (a::l))):=⟨fun k hk=>(by cases hk),h4.Iw,h4.base,h4.io,h4.le,h4.frame,h4.objs,h4.Fi,h4.C1,h4.Cf,h4.live,h4.Cq,h4.Bz,h4.D0,h4.D9,h4.eta.base rfl fun _ h=>h⟩;obtain⟨f1,f2,f3⟩:=h4'.freeze (k:=1) (sz:=1) (es:=(S (a::l)).map (Ty.ds .u8)) (ty:=none) (by simp) rfl (by
    intro i cs hi;rw[Bni,Bnn]at hi;obtain⟨x,_,rfl⟩:=hi;rfl)
   refine⟨_,f1.alike ⟨fun k=>by rfl,rfl⟩,?_⟩;have:=f3 0 (a::l).length u (by simp[hS.len]) hu3;rw[Bqk,Bpg (by simp[hS.len])]at this;exact this
def Asz(hS:Bay S)(hI:Bax)(h0:HR [] (B8.of g w X0) g w X0)(hM:Aww w Bm m es clock xs) :
  CallsIn Fence.wide 0 prog 32 #[.func (.func 67) #[] #[.pointer (some ⟨Bm,0,none⟩)]] w (Awy S g w es xs):=by
 have hF:∀f,Fence.wide.fn f:=fun _=>trivial
 refine Bu0 func32 Bhh trivial ?_ rfl;generalize hA:({ tmps:=#[.func (.func 67) #[] #[.pointer (some ⟨Bm,0,none⟩)]]++Array.replicate (f32.ntmps-(#[Value.func (.func 67) #[] #[.pointer (some ⟨Bm,0,none⟩)]]:Array Value).size) undef,defers:=[] }:Act)=A;have a1:A.tmps.size=9:=by rw[← hA];simp[f32]
 have a2:A.defers=[]:=by rw[← hA]
 have a3:A.eval (.tmp 0) = .func (.func 67) #[] #[.pointer (some ⟨Bm,0,none⟩)]:=by rw[← hA];simp[Act.eval,f32,Array.getD]
 clear hA;refine Br1 (Bpq ?_);refine C3 hF (v:=.slice none 0 0) (w':=w) rfl (by simp) rfl (Bqc ?_);refine Br1 (Bpq ?_);refine C3 hF (v:=.func (.func 67) #[] #[.pointer (some ⟨Bm,0,none⟩)]) (w':=w) rfl (by simp) ?_ ?_
 ·simp only[execOp];rw[Bl (by decide),a3];rfl
 refine Adb hF rfl rfl rfl (A3q rfl (.mk' func65 rfl (by decide))) (R:=A0v g w es xs) ?_ ?_
 ·have:=Amp hI h0 hM;simp only[Brz,Bnh,Bo8];rw[Cp (by rw[Am];omega)];exact this
 rintro r w1 ⟨g1,u,L,rfl,h1,h2,h3⟩;refine⟨u,rfl,?_⟩;refine C3 hF (v:=u) (w':=w1) rfl (by simp) ?_ (Bqc ?_)
 ·simp only[execOp];rw[Cp (by rw[Am,Am];omega)];rfl
 refine Br1 (Bpq ?_);have b1:∀x y z v,(Act.put (Act.put (Act.put (Act.put A (some 2) x) (some 4) y) (some 5) z) (some 3) v).eval (.tmp 3)=v:=fun x y z v=>Cp (by rw[Am,Am,Am];omega)
 have b2:∀x y z v,(Act.put (Act.put (Act.put (Act.put A (some 2) x) (some 4) y) (some 5) z) (some 3) v).tmps.size=9:=fun x y z v=>by rw[Am,Am,Am,Am,a1]
 have b3:(Act.put (Act.put (Act.put (Act.put A (some 2) (.slice none 0 0)) (some 4) (.func (.func 67) #[] #[.pointer (some ⟨Bm,0,none⟩)])) (some 5) u) (some 3) u).defers=[]:=a2;show wpListIn _ _ _ _ _ _ (Act.put (Act.put (Act.put (Act.put A (some 2) (.slice none 0 0)) (some 4) (.func (.func 67) #[] #[.pointer (some ⟨Bm,0,none⟩)])) (some 5) u) (some 3) u) _;generalize hA3:Act.put (Act.put (Act.put (Act.put A (some 2) (.slice none 0 0)) (some 4) (.func (.func 67) #[] #[.pointer (some ⟨Bm,0,none⟩)])) (some 5) u) (some 3) u=A3 at b3⊢;have c1:A3.eval (.tmp 3)=u:=by rw[← hA3];exact b1 _ _ _ _
 have c2:A3.tmps.size=9:=by rw[← hA3];exact b2 _ _ _ _
 clear hA3 b1 b2;refine C3 hF (v:=u) (w':=w1) rfl (by simp) (by simp only[execOp,c1];rfl) ?_;have hlen:(L.map xs).length≤1000000000000:=by have:=h1.length_eq;have h5:=hM.size;simp only[Bp2]at this;rw[Bo1];omega
 refine Adb hF rfl rfl rfl (A3q rfl (.mk' func66 rfl (by decide))) (R:=fun r w'=>∃v,r = .returned v∧∃g',HR [] (B8.of g w X0) g' w' X0∧RA g' w' (.d (.sl 1 ((S (L.map xs)).map (Ty.ds .u8)))) u) ?_ ?_
 ·have:=(Bug (n:=0)).2 (B6e hS hlen h2 h3);simp only[Brz,Bnh,Bo8];rw[Cp (by omega)];exact this
 rintro r w2 ⟨v,rfl,g',h4,h5⟩;refine⟨v,rfl,Bqc ?_⟩;refine Br1 (Bpq ?_);refine C3 hF (v:=u) (w':=w2) rfl (by simp) ?_ ?_
 ·simp only[execOp];rw[Bl (by decide),Bl (by decide),c1];rfl
 refine C3 hF (v:=u) (w':=w2) rfl (by simp) ?_ (Bqc (wpIn_ret ?_))
 ·simp only[execOp];rw[Cp (by rw[Am,Am];omega)];rfl
 ·refine Asy rfl b3 (Cp (by rw[Am,Am,Am];omega)) ⟨g',u,rfl,h4,?_⟩;rw[hS.perm _ _ (h1.map xs)]at h5;exact h5
end
def Bma:Bax where
 map:=Uw (by kernel_rfl)
 und:=⟨_,_,underlying83⟩
 sl:=Uw (by kernel_rfl)
def B6f(l:A6 UInt8):A6 UInt8:=Xu.B.srt l
def A6a(l:A6 UInt8):(B6f l).Perm l:=Brg l _
def Afy(l:A6 UInt8):(B6f l).Pairwise (fun x y=>x≤y):=by
 have:=Brf (le:=fun x y=>!Xu.B.Dk y x) (by
  intro a b c h1 h2;simp only[Xu.B.Dk,Bqq,Bpr,Bq8]at *;omega) (by
  intro a b;simp only[Xu.B.Dk,Bpc,Bqq,Bpr,Bq8];omega) l
 refine this.imp ?_;intro a b h;simp only[Xu.B.Dk,Bqq,Bpr,Bq8]at h;rw[Bsf];omega
def Afz{l':A6 UInt8}(h:l.Perm l')(hs:l'.Pairwise (fun x y=>x≤y)):B6f l=l':=by refine List.Perm.eq_of_pairwise (le:=fun x y:UInt8=>x≤y) (fun a b _ _ h1 h2=>?_) (Afy l) hs ((A6a l).trans h);rw[Bsf]at h1 h2;exact Brp.1 (by omega)
def Bk3:Xu.G5 N 0=some 0:=by kernel_rfl
def Bdx:Xu.Zg (El:=UInt8) 2000000000000=some ():=by unfold Xu.Zg Xu.A0l;rw[Bk3,Bnb];obtain⟨N,hN⟩:∃N,(2000000000000:Nat)=N+1:=⟨1999999999999,rfl⟩;rw[hN];unfold Xu.J6;simp only[iter];rfl
def Bk4:Bay B6f where
 Bfb l hl hlen:=by have h:=A1u (P:=prog) (Γ:=[Xu.C6 2000000000000,Xu.Es 2000000000000]) (own:=[]) (N:=2000000000000) (an:=.lf) (ks:=[]) (rs:=[]) Xu.mixed func66 rfl l l.length;have e:Arm prog [Xu.C6 2000000000000,Xu.Es 2000000000000] [] 2000000000000 f66 .lf .u8 [] []=Xu.Ig 2000000000000:=Xu.X4 2000000000000;rw[e]at h;exact h (B6f l,()) (Xu.B.Vj 2000000000000 l hlen (by decide))
 nil:=by have h:=A41 (P:=prog) (Γ:=[Xu.C6 2000000000000,Xu.Es 2000000000000]) (own:=[]) (N:=2000000000000) (an:=.lf) (t:=.u8) (ks:=[]) (rs:=[]) Xu.mixed func66 rfl;have e:Ant prog [Xu.C6 2000000000000,Xu.Es 2000000000000] [] 2000000000000 f66 .lf .u8 [] []=Xu.Zg (El:=UInt8) 2000000000000:=Xu.Vk 2000000000000;rw[e]at h;exact h () Bdx
 len l:=(A6a l).length_eq
 perm l l' h:=Afz (h.trans (A6a l').symm) (Afy l')
def B0t(w:World)(mb:Nat):Calls prog 33 #[.map (some mb)] w fun r w'=>r = .returned (.func (.func 67) #[] #[.pointer (some ⟨w.heap.size,0,none⟩)])∧w'=w.alloc (.cells #[.map (some mb)] 83):=by
 have hF:∀f,Fence.wide.fn f:=fun _=>trivial
 refine(Bug (n:=0)).1 (Bu0 func33 rfl trivial ?_ rfl);generalize hA:({ tmps:=#[.map (some mb)]++Array.replicate (f33.ntmps-(#[Value.map (some mb)]:Array Value).size) undef,defers:=[] }:Act)=A;have a1:A.tmps.size=4:=by rw[← hA];simp[f33]
 have a2:A.defers=[]:=by rw[← hA]
 have a3:A.eval (.tmp 0) = .map (some mb):=by rw[← hA];simp[Act.eval,f33,Array.getD]
 clear hA;refine Br1 (Bpq ?_);refine C3 hF (v:=.pointer (some ⟨w.heap.size,0,none⟩)) (w':=w.alloc (.cells #[.map (some mb)] 83)) rfl (by simp) ?_ ?_
 ·simp only[execOp,a3];simp[Instr.box,newVar,Go.newRow,Value.cells]
 refine C3 hF (v:=.nilFunc) (w':=w.alloc (.cells #[.map (some mb)] 83)) rfl (by simp) rfl (Bqc ?_);refine Br1 (Bpq ?_);refine C3 hF (v:=.func (.func 67) #[] #[.pointer (some ⟨w.heap.size,0,none⟩)]) (w':=w.alloc (.cells #[.map (some mb)] 83)) rfl (by simp) ?_ ?_
 ·simp only[execOp];have:(Act.put (Act.put A (some 1) (.pointer (some ⟨w.heap.size,0,none⟩))) (some 2) .nilFunc).eval (.tmp 1) = .pointer (some ⟨w.heap.size,0,none⟩):=by rw[Bl (by decide),Cp (by omega)]
  simp[Instr.makeFunc,this]
 refine C3 hF (v:=.func (.func 67) #[] #[.pointer (some ⟨w.heap.size,0,none⟩)]) (w':=w.alloc (.cells #[.map (some mb)] 83)) rfl (by simp) ?_ (Bqc (wpIn_ret ?_))
 ·simp only[execOp];rw[Cp (by rw[Am,Am];omega)];rfl
 ·exact Asy rfl a2 (Cp (by rw[Am,Am,Am];omega)) ⟨rfl,rfl⟩
def At0{R:Type}(o:Oper)(st:Ak)(vs:A6 XV)(K:Out→A7 R):A7 R :=
 match o.op,vs,newName o with
 |.call c,[.nm k .m],some b=>match c.args.toList with
  |[x]=>cond (Nat.beq k b) none (cond (fresh b st) (K ⟨.all,.Ek 67 [.nm b (.p 0)],[(x,.nm k .m)],(b,.cells [.nm k .m] (some 83))::st.objs,st.live,[b],[b]⟩) none)
  |_=>none
 |_,_,_=>none
variable{x:Operand}
def Baz{st:Ak}{v:XV}(h:Ci st [x]=some [v]):Bj st x=some v:=by
 simp only[Ci]at h;split at h
 ·rename_i y ys hy hys;simp only[Bnf,Br7]at h;obtain⟨rfl,_⟩:=h;exact hy
 ·cases h
def B0u{R:Type}(o:Oper)(st:Ak)(args:Array Operand)(ts:Array TypeId)(vs:A6 XV)(K:Out→A7 R)(r:R)
  (ho:o.op = .call { callee:=.value (.func 33),args:=args,argTypes:=ts }) (hv:Ci st args.toList=some vs) (h:At0 o st vs K=some r):∃out,K out=some r∧Cr prog o st out:=by
 unfold At0 at h;rw[ho]at h;split at h
 ·rename_i c k b hc hb;cases hc;split at h
  ·rename_i x hx;have ha:args=#[x]:=Array.toList_inj.1 hx;subst ha;cases hkb:Nat.beq k b with
   |true=>simp[hkb]at h
   |false =>
   have hne:k≠b:=Bpv hkb;cases hf:fresh b st with
   |false=>simp[hkb,hf]at h
   |true =>
    simp only[hkb,hf,Bna,Bnc]at h;obtain⟨h1,h2⟩:=Tj hf;have hx':=Baz hv;refine⟨_,h,⟨Ea hx',?_,fun j z hj hz=>?_⟩⟩
    ·intro nm G3 B g w a hr Bg next Q hn
     have e1:=(Lz Bg).A11;simp only at e1;unfold Oper.wp;rw[A3q ho (.mk' func33 rfl (by decide))];have hc:=B0t w (g.ρ k);rw[show(#[x]:Array Operand).map a.eval=#[.map (some (g.ρ k))] by simp[e1]];refine hc.mono ?_;rintro e w' ⟨rfl,rfl⟩;obtain⟨n1,n2⟩:=hr.newObj (k:=b) (Tk h1) h2 (.cells #[.map (some (g.ρ k))] 83) (.cells [.nm k .m] (some 83)) (fun g' w' ht hb=>.cells _ _ _ _ hb (by simp) (fun i x v hx hv=>by
      cases i with
      |zero =>simp at hx hv;subst hx;subst hv;refine .nm _ _ _ ?_;show _=_;rw[ht.names k (by simpa using hne)]
      |succ i=>simp at hx) (by simp))
     refine hn _ _ _ n1 n2 ?_;refine .Ek 67 _ _ rfl ?_;intro i x v hx hv;cases i with
     |zero =>simp[Ae,XV.a]at hx hv;subst hx;subst hv;have:=RA.ptr (g:={ g with ρ:=O3 g.ρ b w.heap.size }) (w:=w.alloc (.cells #[.map (some (g.ρ k))] 83)) b 0;simpa[Ah]using this
     |succ i=>simp[Ae]at hx
    ·rw[Eb (by simpa using hj)]at hz;exact hz
  ·cases h
 ·cases h
def Awz(N:Nat):Ix prog where
 id:=33
 run:=At0
 ok:=B0u
def ks8(e:MapEntry):UInt8:=match e.key with
 |.int _ n=>UInt8.ofNat n.toNat
 |_=>0
def Ac0{vt:Ty}(es:F8 .u8 vt):A6 UInt8:=B6f (es.map fun e=>e.2.1)
def Aeb{R:Type}(o:Oper)(st:Ak)(vs:A6 XV)(K:Out→A7 R):A7 R :=
 match o.op,vs with
 |.call c,[.Ek 67 [.nm b (.p 0)]]=>match c.args.toList,lk b st.objs with
  |[x],some (.cells [.nm k .m] ty)=>match lk k st.objs with
   |some (.Cx L .u8 vt es clock)=>cond (Nat.ble (P8 es).length 1000000000) (K ⟨.look [b,k],.d (.sl .u8 (Ac0 (P8 es))),[(x,.Ek 67 [.nm b (.p 0)])],st.objs,st.live,[],[]⟩) none
   |some (.map .u8 vt es clock)=>cond (Nat.ble es.length 1000000000) (K ⟨.look [b,k],.d (.sl .u8 (Ac0 es)),[(x,.Ek 67 [.nm b (.p 0)])],st.objs,st.live,[],[]⟩) none
   |_=>none
  |_,_=>none
 |_,_=>none
def Aoj{vt:Ty}{es:F8 .u8 vt}{o:Oper}{ts:Array TypeId}{X:Ad}{ty:A7 TypeId}(ho:o.op = .call { callee:=.value (.func 32),args:=#[x],argTypes:=ts })
  (Iy:X.objs.lookup b=some (Af.cells [.nm k .m] ty).o) (M1:∀nm B g w,HR nm B g w X→∃ar,A6o .u8 vt g w (g.ρ k) es clock ar) (hlen:es.length≤1000000000) :
  Ca prog o [(x,.Ek 67 [.ptr b 0])] X X [] (.d (.sl 1 ((Ac0 es).map (Ty.ds .u8)))):=by
 intro nm G3 B g w a hr Bg next Q hn
 have e1:=Lz Bg;simp only at e1;have e2:a.eval x = .func (.func 67) #[] #[.pointer (some ⟨g.ρ b,0,none⟩)]:=by
  generalize a.eval x=v at e1;cases e1 with
  |Ek _ _ us hl hus =>
   have h1:us.size=1:=by simpa using hl.symm
   have h2:=hus 0 _ us[0] (by rfl) (by simp[h1]);have h3:=h2.Qy;have:us=#[.pointer (some ⟨g.ρ b,0,none⟩)]:=by
    apply Array.ext
    ·simpa using h1
    ·intro i hi1 hi2;have:i=0:=by omega
     subst this;simpa using h3
   rw[this]
 unfold Oper.wp;rw[A3q ho (.mk' func32 rfl (by decide))];rw[show(#[x]:Array Operand).map a.eval=#[.func (.func 67) #[] #[.pointer (some ⟨g.ρ b,0,none⟩)]] by simp[e2]];obtain⟨ar,hm⟩:=M1 nm B g w hr;have Bas:w.cell? ⟨g.ρ b,0,none⟩=some (.map (some (g.ρ k))):=by
  cases hr.objs b _ Iy with
  |cells _ _ arr T h1 h2 h3 h4 =>
   have Ud:0<arr.size:=by simp[Ae]at h2;omega
   have:=(h3 0 (.mp k) arr[0] rfl (by simp[Ud])).A11;rw[Cg h1];simp[Ud,this]
 have Bk5:ar.toList.map ks8=es.map fun e=>e.2.1:=by
  have:=hm.keys;have h5:ar.toList.map ks8=(ar.toList.map (·.key)).map fun v=>match v with|.int _ n=>UInt8.ofNat n.toNat|_=>0:=by rw[Bq6];rfl
  rw[h5,this,Bq6,Bq6];apply Btm;intro e _;show UInt8.ofNat ((e.2.1.toNat:Nat):Int).toNat=e.2.1;simp
 have hM:Aww w (g.ρ b) (g.ρ k) ar clock ks8:=by
  have Mi:∀e∈ar,∃(i:Nat),∃y,es[i]? = some y∧ar[i]? = some e:=by
   intro e he;obtain⟨i,hi⟩:=Bpu.1 (Array.mem_toList_iff.2 he);have Md:ar[i]? = some e:=by simpa using hi
   have By:i<es.length:=by rw[hm.len];exact(Bny.1 Md).1
   exact⟨i,es[i],by simp[By],Md⟩
  refine⟨Bas,hm.heap,?_,?_,?_,?_⟩
  ·intro e he;obtain⟨i,y,hy,hi⟩:=Mi e he;rw[(hm.at' i y e hy hi).1];exact hm.lt y (Boe hy)
  ·have:ar.toList.map MapEntry.born=es.map (·.1):=by
    apply Bqy;intro i;rw[Bni,Bni,Bpd];by_cases hi:i<ar.size
    ·have Md:i<es.length:=by rw[hm.len];exact hi
     rw[Bob hi,Bng Md];have:=(hm.at' i es[i] ar[i] (by simp[Md]) (by simp[hi])).1;simp[this]
    ·rw[Bqd (by omega),Bpo (by rw[hm.len];omega)];rfl
   rw[this];exact hm.nodup
  ·intro e he;obtain⟨i,y,hy,hi⟩:=Mi e he;have:=(hm.at' i y e hy hi).2.1;show e.key=A4s (ks8 e);rw[show ks8 e=y.2.1 by
    unfold ks8;rw[this];show UInt8.ofNat ((y.2.1.toNat:Nat):Int).toNat=y.2.1;simp]
   rw[this];rfl
  ·have:=hm.len;omega
 have h0:HR [] (B8.of { g with β:=fun _=>none } w X0) { g with β:=fun _=>none } w X0 :=
  ⟨by simp,hr.Iw,Bno _,⟨rfl,rfl,rfl,Bno _⟩,.refl _ _,fun b _ _=>⟨rfl,rfl⟩,by simp[X0],by simp[X0],by simp[X0],by simp[X0],by simp[X0],by simp,by simp,by simp,by simp,.off fun _=>rfl⟩
 refine((Bug (n:=0)).1 (Asz Bk4 Bma h0 hM)).mono ?_;rintro e w' ⟨gc,v,rfl,h1,h2⟩;obtain⟨h3,h4⟩:=hr.Atr (gc:=gc) h1;refine hn _ _ _ h3 h4 ?_;rw[Bk5]at h2;cases h2 with
 |d _ _ h=>exact .d _ _ h
def At1{R:Type}(o:Oper)(st:Ak)(args:Array Operand)(ts:Array TypeId)(vs:A6 XV)(K:Out→A7 R)(r:R)
  (ho:o.op = .call { callee:=.value (.func 32),args:=args,argTypes:=ts }) (hv:Ci st args.toList=some vs) (h:Aeb o st vs K=some r):∃out,K out=some r∧Cr prog o st out:=by
 unfold Aeb at h;rw[ho]at h;split at h
 ·rename_i c b hc;cases hc;split at h
  ·rename_i x k ty hx hb;have ha:args=#[x]:=Array.toList_inj.1 hx;subst ha;have hx':=Baz hv;split at h
   ·rename_i L vt es clock hk;cases hle:Nat.ble (P8 es).length 1000000000 with
    |false=>simp[hle]at h
    |true =>
     simp only[hle,Bna]at h;refine⟨_,h,⟨Ea hx',⟨rfl,rfl,rfl,fun X hX=>?_⟩,fun _ _ _ h=>h⟩⟩;exact Aoj ho ((hX b (by simp)).trans (Q2 hb)) (fun nm B g w hr=>by
      obtain⟨ar,hm⟩:=Aqr (kt:=.u8) rfl (hr.objs k _ ((hX k (by simp)).trans (Q2 hk)));exact⟨ar,hm.m⟩) (Bnu hle)
   ·rename_i vt es clock hk;cases hle:Nat.ble es.length 1000000000 with
    |false=>simp[hle]at h
    |true =>simp only[hle,Bna]at h;refine⟨_,h,⟨Ea hx',⟨rfl,rfl,rfl,fun X hX=>?_⟩,fun _ _ _ h=>h⟩⟩;exact Aoj ho ((hX b (by simp)).trans (Q2 hb)) (fun nm B g w hr=>Va (kt:=.u8) rfl (hr.objs k _ ((hX k (by simp)).trans (Q2 hk)))) (Bnu hle)
   ·cases h
  ·cases h
 ·cases h
def A2y(N:Nat):Ix prog where
 id:=32
 run:=Aeb
 ok:=At1
open Go.Proofs.Xg Go.Proofs.Xu
@[reducible] def C8:Ty:=(.pair Al .str)
@[reducible] def Ag0:Ty:=(.pair .u8 (.pair .str (.sl .str)))
@[reducible] def A0w:Ty:=(.pair (.int .u64) (.sl Ag0))
def Mc:Ix prog:=Awz N
def Vu:Cw [(.sl A4)] (A7 (Bd [A4])):=fun(x:A6 Int)=>iter (fun(rec:Bv6×Unit×Unit×Unit→A7 Int) (z:Bv6×Unit×Unit×Unit)=>bif decide (z.1.1<(↑x.length:Int))then (at? x
 z.1.1).bind fun(e:Int)=>bif e != 0 then some e else rec ((i64.wrap (z.1.1+1),()),(),(),())else some 0) N ((0,()),(),(),())
def At2:=Cn [] [] N 105 (A5 (A5 (.seq (A5 (.blk (.loop ⟨[(8,.d A4)],[],[3,6,7],[],[],[]⟩ .lf))) .lf))) [(.sl A4)] [A4] (Vu N) mixed func105 rfl (by decide) rfl (by kernel_rfl)
def O2:Cw [C8,C8] (A7 (Bd [A4])):=fun(x Bh:Bvm)=>Option.bind (C0 N x.1.2 Bh.1.2) fun(y:Int)=>Option.bind (D2 N x.1.1 Bh.1.1) fun(B9:Int)=>Option.bind (Vu N [y,B9]) fun(y:Int)=>some y
def A4t:=Cn [At2 N,Gw N,Fa N] [] N 104 .lf [C8,C8] [A4] (O2 N) mixed func104 rfl (by decide) rfl (by kernel_rfl)
@[reducible] def H4:H8:=⟨[.d (.sl C8),.Ek 104 []],[],[],⟨[(4,.p 1004 0)],[(1004,[.d C8],some 86)],[],[],[],[]⟩⟩
def Eh:H8.Cw H4 (A7 H4.out.T):=fun(y:A6 Bvm)=>Ar (fun(z:Unit×Unit×Unit×Unit)=>y[0]?.bind fun(e:Bvm)=>iter (fun(rec:Bv6×((Bvm×Unit)×Unit)×Unit×Unit→A7 (Bvq×((Bvm×Unit)×Unit)×Unit×Unit))
 (z:Bv6×((Bvm×Unit)×Unit)×Unit×Unit)=>bif decide (z.1.1<(↑y.length:Int))then (at? y z.1.1).bind fun(e:Bvm)=>Option.bind (O2 N e z.2.1.1.1) fun(B9:Int)=>bif decide (0<B9)then (at? y z.1.1).bind fun(e:Bvm)=>rec
 ((i64.wrap (z.1.1+1),()),((e,()),()),(),())else rec ((i64.wrap (z.1.1+1),()),((z.2.1.1.1,()),()),(),())else some (((),()),((z.2.1.1.1,()),()),(),())) N ((1,()),((e,()),()),(),()))
 fun(k:Unit×Unit×Unit×Unit→A7 (Bvq×((Bvm×Unit)×Unit)×Unit×Unit))=>bif decide ((↑y.length:Int)<1)then none else k ((),(),(),())
def U5:=K1 [A4t N] [] N 103 (A5 (.join ⟨[],[],[0,1,4],[1004],[],[]⟩ .lf (A5 (.seq (A5 (.blk (.loop ⟨[(6,.d A4)],[(1005,[.d C8],some 86)],[0,1,4,5],[1004],[],[]⟩ .lf))) .lf)))) H4 (Eh N) mixed func103 rfl (by decide) rfl rfl rfl (by kernel_rfl)
def Vv:Cw [(.sl C8)] (A7 (Bd [C8,.bool])):=fun(x:A6 Bvm)=>bif (↑x.length:Int)==0 then some (((0,0),[]),false)else Option.bind (Eh N x) fun(y:Bvq×((Bvm×Unit)×Unit)×Unit×Unit)=>some
 (y.2.1.1.1,true)
def At3:=Cn [U5 N,A4t N] [] N 68 .lf [(.sl C8)] [C8,.bool] (Vv N) mixed func68 rfl (by decide) rfl (by kernel_rfl)
@[reducible] def A27:H8:=⟨[.d .str,.p 2 0],[(2,[.d C8],some 86)],[],⟨[(3,.d .bool)],[],[],[2],[],[]⟩⟩
def Ly(N:Nat):H8.Cw A27 (A7 A27.out.T):=fun(y:Bvi) (B9:Bvm)=>some ((y==B9.2,()),(),(),())
def A28:=K1 [] [] N 71 .lf A27 (Ly N) mixed func71 rfl (by decide) rfl rfl rfl (by kernel_rfl)
@[reducible] def Fh:H8:=⟨[.os 1 .str,.Ek 71 [(2,0)]],[(2,[.d C8],some 86)],[(1,.arr .str)],⟨[(4,.d A4)],[],[],[2,1],[],[]⟩⟩
def De:H8.Cw Fh (A7 Fh.out.T):=fun(n:Nat) (y:Bvm) (l:A6 Bvi)=>iter (fun(rec:Bv6×Unit×Unit×Unit→A7 (Bv6×Unit×Unit×Unit)) (z:Bv6×Unit×Unit×Unit)=>bif decide (z.1.1<(↑n:Int))then bif decide
 (0≤z.1.1)&&decide (z.1.1<(↑n:Int))then l[0+z.1.1.toNat]?.bind fun(e:Bvi)=>Option.bind (Ly N e y) fun(y:Bvk×Unit×Unit×Unit)=>bif y.1.1 then some ((z.1.1,()),(),(),())else rec ((i64.wrap
 (z.1.1+1),()),(),(),())else none else some ((-1,()),(),(),())) N ((0,()),(),(),())
def Qw:=K1 [A28 N] [] N 106 (A5 (.seq (A5 (.blk (.loop ⟨[(8,.d A4)],[],[0,1,7],[1,2],[],[]⟩ .lf))) .lf)) Fh (De N) mixed func106 rfl (by decide) rfl rfl rfl (by kernel_rfl)
@[reducible] def F5:H8:=⟨[.os 1 .str,.Ek 71 [(2,0)]],[(2,[.d C8],some 86)],[(1,.arr .str)],⟨[(4,.os 1 .str)],[],[],[2],[],[(1,.arr .str)]⟩⟩
def D7:H8.Cw F5 (A7 F5.out.T):=fun(n:Nat) (y:Bvm) (l:A6 Bvi)=>Option.bind (De N n y l) fun(B9:Bv6×Unit×Unit×Unit)=>bif B9.1.1 == -1 then some ((n,()),(),(),l,())else iter
 (fun(rec:Bvc×Unit×Unit×A6 Bvi×Unit→A7 ((Nat×Unit)×Unit×Unit×A6 Bvi×Unit)) (z:Bvc×Unit×Unit×A6 Bvi×Unit)=>bif decide (z.1.2.1<(↑n:Int))then bif decide (0≤z.1.2.1)&&decide (z.1.2.1<(↑n:Int))then
 z.2.2.2.1[0+z.1.2.1.toNat]?.bind fun(e:Bvi)=>Option.bind (Ly N e y) fun(y:Bvk×Unit×Unit×Unit)=>bif !y.1.1 then bif decide (0≤z.1.1)&&decide (z.1.1<(↑n:Int))then z.2.2.2.1[0+z.1.1.toNat]?.bind fun(Dt:Bvi)=>rec
 ((i64.wrap (z.1.1+1),i64.wrap (z.1.2.1+1),()),(),(),z.2.2.2.1.set (0+z.1.1.toNat) e,())else none else rec ((z.1.1,i64.wrap (z.1.2.1+1),()),(),(),z.2.2.2.1,())else none else bif Ew z.1.1 (↑n:Int)
 n then bif Ew 0 z.1.1 n then some ((z.1.1.toNat-0,()),(),(),List.take (0+z.1.1.toNat) z.2.2.2.1,())else none else none) N ((B9.1.1,i64.wrap (B9.1.1+1),()),(),(),l,())
def Qi:=K1 [Qw N,A28 N] [] N 69 (A5 (A5 (A5 (.seq (A5 (.blk (.loop ⟨[(5,.d A4),(6,.d A4)],[],[0,1],[2],[],[(1,.arr .str)]⟩ .lf))) .lf)))) F5 (D7 N) mixed func69 rfl (by decide) rfl rfl rfl (by kernel_rfl)
def Jl(N:Nat):Mx [] (A7 (Bd (Wt .str [.s]))):=some []
def Du:A6 (.str:Ty).T→Nat→Mx [] (A7 (A6 (.str:Ty).T×Sk [.s])):=fun(l:A6 Bvi) (n:Nat)=>bif decide ((↑n:Int)<2)then some (l,n)else iter (fun(rec:Bv6×Unit×Unit×A6 Bvi×Unit→A7 (List
 Bvi×Nat)) (z:Bv6×Unit×Unit×A6 Bvi×Unit)=>bif decide (z.1.1<(↑n:Int))then bif decide (0≤z.1.1)&&decide (z.1.1<(↑n:Int))then z.2.2.2.1[0+z.1.1.toNat]?.bind fun(e:Bvi)=>bif decide (0≤i64.wrap (z.1.1-1))&&decide
 (i64.wrap (z.1.1-1)<(↑n:Int))then z.2.2.2.1[0+(i64.wrap (z.1.1-1)).toNat]?.bind fun(Dt:Bvi)=>bif e==Dt then bif Ew z.1.1 (↑n:Int) n then iter (fun(rec:Bvc×Unit×Unit×A6 Bvi×Unit→A7 (A6 Bvi×Nat))
 (B1:Bvc×Unit×Unit×A6 Bvi×Unit)=>bif decide (B1.1.2.1<(↑((↑n:Int).toNat-z.1.1.toNat):Int))then bif decide (0≤B1.1.2.1)&&decide (B1.1.2.1<(↑((↑n:Int).toNat-z.1.1.toNat):Int))then
 B1.2.2.2.1[0+z.1.1.toNat+B1.1.2.1.toNat]?.bind fun(e:Bvi)=>bif decide (0≤i64.wrap (B1.1.2.1-1))&&decide (i64.wrap (B1.1.2.1-1)<(↑((↑n:Int).toNat-z.1.1.toNat):Int))then
 B1.2.2.2.1[0+z.1.1.toNat+(i64.wrap (B1.1.2.1-1)).toNat]?.bind fun(e_2:Bvi)=>bif e != e_2 then bif decide (0≤B1.1.2.1)&&decide (B1.1.2.1<(↑((↑n:Int).toNat-z.1.1.toNat):Int))then
 B1.2.2.2.1[0+z.1.1.toNat+B1.1.2.1.toNat]?.bind fun(e:Bvi)=>bif decide (0≤B1.1.1)&&decide (B1.1.1<(↑n:Int))then B1.2.2.2.1[0+B1.1.1.toNat]?.bind fun(e_3:Bvi)=>rec ((i64.wrap (B1.1.1+1),i64.wrap
 (B1.1.2.1+1),()),(),(),B1.2.2.2.1.set (0+B1.1.1.toNat) e,())else none else none else rec ((B1.1.1,i64.wrap (B1.1.2.1+1),()),(),(),B1.2.2.2.1,())else none else none else bif Ew B1.1.1 (↑n:Int) n then bif Ew 0
 B1.1.1 n then some (List.take (0+B1.1.1.toNat) B1.2.2.2.1,B1.1.1.toNat-0)else none else none) N ((z.1.1,1,()),(),(),z.2.2.2.1,())else none else rec ((i64.wrap (z.1.1+1),()),(),(),z.2.2.2.1,())else none else none
 else some (z.2.2.2.1,n)) N ((1,()),(),(),l,())
def S7:=Afh [] [] N 108 (A5 (A5 (.seq (A5 (.blk (.loop ⟨[(3,.d A4)],[],[0],[],[],[(1,.arr .str)]⟩ (A5 (.seq (.blk (A5 (.cond (A5 (.seq (A5 (.blk (.loop ⟨[(3,.d A4),(5,.d A4)],[],[0,4],[],[],[(1,.arr .str)]⟩ .lf))) .lf)) .lf))) .lf))))) .lf))) (A5 (A5 (.seq (A5 (.blk (.loop ⟨[(3,.d A4)],[],[0],[],[],[]⟩ (A5 (.seq (.blk (A5 (.cond (A5 (.seq (A5 (.blk (.loop ⟨[(3,.d A4),(5,.d A4)],[],[0,4],[],[],[]⟩ .lf))) .lf)) .lf))) .lf))))) .lf))) .str [] [.s] (Du N) (Jl N) mixed func108 rfl (by decide) rfl (by kernel_rfl) (by kernel_rfl)
def U6:Mx [.d (.sl C8)] (A7 (A7 (A6 (.str:Ty).T×Nat))):=fun(x:A6 Bvm)=>iter (fun(rec:Bv6×Unit×(A7 (A6 Bvi×Nat)×Unit)×Unit→A7 (A7 (A6 Bvi×Nat))) (z:Bv6×Unit×(A7 (List
 Bvi×Nat)×Unit)×Unit)=>A9 z.2.2.1.1 (bif decide (z.1.1<(↑x.length:Int))then (at? x z.1.1).bind fun(e:Bvm)=>rec ((i64.wrap (z.1.1+1),()),(),(some ([e.2],[e.2].length),()),())else Option.bind (Zg (El:=A6 UInt8)
 N) fun(y:Unit)=>Option.bind (Jl N) fun(y:A6 Bvi)=>Fl y (some none) fun(x:Bvi) (Bh:A6 Bvi)=>none) fun(y:A6 Bvi×Nat)=>bif decide (z.1.1<(↑x.length:Int))then (at? x z.1.1).bind fun(e:Bvm)=>bif y.1.length.beq y.2 then
 bif Au (y.2 + [e.2].length) 16 then rec ((i64.wrap (z.1.1+1),()),(),(some (y.1++[e.2],y.2 + [e.2].length),()),())else none else none else Option.bind (Eu N y.1 y.2) fun(B9:A6 Bvi×Unit)=>Option.bind (Du N B9.1
 y.2) fun(y:A6 Bvi×Nat)=>some (some y)) N ((0,()),(),(none,()),())
def Ax0:Go.Xl.runN prog [Uq N,S7 N] [16] N f70 (A5 (A5 (.seq (A5 (.blk (.loop ⟨[(8,.d A4)],[],[6,7],[],[(3,400003,.str)],[]⟩ .lf))) .lf))) .str [.d (.sl C8)]=U6 N:=by kernel_rfl
def Ax1:Ix prog:=Go.Xl.mkN 70 f70 _ .str [.d (.sl C8)] (U6 N) mixed func70 (.mk' func70 rfl (by decide)) rfl (Ax0 N)
def A29:Cw [.u8,(.sl C8)] (A7 (Bd [Ag0])):=fun(x:UInt8) (Bh:A6 Bvm)=>Option.bind (Vv N Bh) fun(y:Bvm×Bool)=>bif !y.2 then some (0,[],[])else Option.bind (U6 N Bh) fun(B9:A7 (List
 Bvi×Nat))=>A9 B9 none fun(z:A6 Bvi×Nat)=>Option.bind (D7 N z.2 y.1 z.1) fun(Lo:(Nat×Unit)×Unit×Unit×A6 Bvi×Unit)=>bif bif (0+Lo.1.1).ble Lo.2.2.2.1.length then true else false then some (x,y.1.2,List.take Lo.1.1
 (List.drop 0 Lo.2.2.2.1))else none
def B0v:=Cn [At3 N,Qi N,Ax1 N,A28 N] [] N 34 (A5 (A5 (A5 (.fz [7] .lf .lf)))) [.u8,(.sl C8)] [Ag0] (A29 N) mixed func34 rfl (by decide) rfl (by kernel_rfl)
def H5:Cw [(.sl A8),(.int .u64)] (A7 (Bd [A0w,.bool])):=fun(x:A6 Bv1) (Bh:Int)=>iter (fun(rec:Bv6×Unit×Unit×(A6 (Nat×UInt8×Bool×A6 Bvm)×Nat)×Unit→A7 (Bve×Bool)) (z:Bv6×Unit×Unit×(List
 (Nat×UInt8×Bool×A6 Bvm)×Nat)×Unit)=>bif decide (z.1.1<(↑x.length:Int))then (at? x z.1.1).bind fun(e:Bv3×UInt8×Int×UInt8×A6 UInt8×A6 Bv3)=>bif e.2.1==1 then bif e.2.2.1==Bh then bif Aqv Ty.u8 C8 e.2.2.2.1
 z.2.2.2.1.1 then bif Au ((Af3 Ty.u8 C8 e.2.2.2.1 z.2.2.2.1.1).length + [(e.1,e.2.2.2.2.1)].length) 32 then rec ((i64.wrap (z.1.1+1),()),(),(),(Bet Ty.u8 C8 e.2.2.2.1 (Af3 Ty.u8 C8 e.2.2.2.1
 z.2.2.2.1.1++[(e.1,e.2.2.2.2.1)]) true z.2.2.2.1.2 (B26 Ty.u8 C8 e.2.2.2.1 z.2.2.2.1.1),B28 Ty.u8 C8.sl e.2.2.2.1 (Agh Ty.u8 C8 (B26 Ty.u8 C8 e.2.2.2.1 z.2.2.2.1.1)) z.2.2.2.1.2),())else none else none else rec
 ((i64.wrap (z.1.1+1),()),(),(),z.2.2.2.1,())else rec ((i64.wrap (z.1.1+1),()),(),(),z.2.2.2.1,())else bif (↑(List.length (Agh Ty.u8 C8 z.2.2.2.1.1)):Int)==0 then some ((0,[]),false)else bif (List.length
 (Agh Ty.u8 C8 z.2.2.2.1.1)).ble 1000000000 then iter (fun(rec:Bv6×((Int×A6 Bv5×Unit)×Unit)×Unit×Unit→A7 (Bve×Bool)) (B1:Bv6×((Int×A6 Bv5×Unit)×Unit)×Unit×Unit)=>bif decide (B1.1.1<(↑(Ac0 (Agh Ty.u8 C8
 z.2.2.2.1.1)).length:Int))then (at? (Ac0 (Agh Ty.u8 C8 z.2.2.2.1.1)) B1.1.1).bind fun(e:UInt8)=>Option.bind (A29 N e ((B27 Ty.u8 C8.sl e (Agh Ty.u8 C8 z.2.2.2.1.1)).getD [])) fun(y:UInt8×A6 UInt8×A6 Bvi)=>bif Au
 (B1.2.1.1.2.1.length + [y].length) 48 then rec ((i64.wrap (B1.1.1+1),()),((B1.2.1.1.1,B1.2.1.1.2.1++[y],()),()),(),())else none else some ((B1.2.1.1.1,B1.2.1.1.2.1),true)) N ((0,()),((Bh,[],()),()),(),())else
 none) N ((0,()),(),(),([],0),())
def Ys:=Cn [A2y N,Mc N,B0v N] [12] N 14 (A5 (A5 (.fg (A5 (.blk (.loop ⟨[(15,.d A4)],[],[1,4,6,13,14],[1004],[],[(1012,.Cx 501012 .u8 C8)]⟩ .lf))) (A5 (A5 (.seq (A5 (.blk (.loop ⟨[(53,.d A4)],[(1009,[.d (.int .u64),.Cv 300901 Ag0 none],some 38)],[4,6,9,51,52],[1004,1012],[],[]⟩ .lf))) .lf)))))) [(.sl A8),(.int .u64)] [A0w,.bool] (H5 N) mixed func14 rfl (by decide) rfl (by kernel_rfl)
def Ft(N:Nat):Mx [] (A7 (Bd (Wt (.int .u64) [.s]))):=some []
def Dv:A6 ((.int .u64):Ty).T→Nat→Mx [] (A7 (A6 ((.int .u64):Ty).T×Sk [.s])):=fun(l:A6 Int) (n:Nat)=>bif decide ((↑n:Int)<2)then some (l,n)else iter (fun(rec:Bv6×Unit×Unit×List
 Int×Unit→A7 (A6 Int×Nat)) (z:Bv6×Unit×Unit×A6 Int×Unit)=>bif decide (z.1.1<(↑n:Int))then bif decide (0≤z.1.1)&&decide (z.1.1<(↑n:Int))then z.2.2.2.1[0+z.1.1.toNat]?.bind fun(e:Int)=>bif decide
 (0≤i64.wrap (z.1.1-1))&&decide (i64.wrap (z.1.1-1)<(↑n:Int))then z.2.2.2.1[0+(i64.wrap (z.1.1-1)).toNat]?.bind fun(Dt:Int)=>bif e==Dt then bif Ew z.1.1 (↑n:Int) n then iter
 (fun(rec:Bvc×Unit×Unit×A6 Int×Unit→A7 (A6 Int×Nat)) (B1:Bvc×Unit×Unit×A6 Int×Unit)=>bif decide (B1.1.2.1<(↑((↑n:Int).toNat-z.1.1.toNat):Int))then bif decide (0≤B1.1.2.1)&&decide
 (B1.1.2.1<(↑((↑n:Int).toNat-z.1.1.toNat):Int))then B1.2.2.2.1[0+z.1.1.toNat+B1.1.2.1.toNat]?.bind fun(e:Int)=>bif decide (0≤i64.wrap (B1.1.2.1-1))&&decide (i64.wrap
 (B1.1.2.1-1)<(↑((↑n:Int).toNat-z.1.1.toNat):Int))then B1.2.2.2.1[0+z.1.1.toNat+(i64.wrap (B1.1.2.1-1)).toNat]?.bind fun(e_2:Int)=>bif e != e_2 then bif decide (0≤B1.1.2.1)&&decide
 (B1.1.2.1<(↑((↑n:Int).toNat-z.1.1.toNat):Int))then B1.2.2.2.1[0+z.1.1.toNat+B1.1.2.1.toNat]?.bind fun(e:Int)=>bif decide (0≤B1.1.1)&&decide (B1.1.1<(↑n:Int))then B1.2.2.2.1[0+B1.1.1.toNat]?.bind fun(e_3:Int)=>rec
 ((i64.wrap (B1.1.1+1),i64.wrap (B1.1.2.1+1),()),(),(),B1.2.2.2.1.set (0+B1.1.1.toNat) e,())else none else none else rec ((B1.1.1,i64.wrap (B1.1.2.1+1),()),(),(),B1.2.2.2.1,())else none else none
 else bif Ew B1.1.1 (↑n:Int) n then bif Ew 0 B1.1.1 n then some (List.take (0+B1.1.1.toNat) B1.2.2.2.1,B1.1.1.toNat-0)else none else none) N ((z.1.1,1,()),(),(),z.2.2.2.1,())else none else rec ((i64.wrap
 (z.1.1+1),()),(),(),z.2.2.2.1,())else none else none else some (z.2.2.2.1,n)) N ((1,()),(),(),l,())
def S8:=Afh [] [] N 62 (A5 (A5 (.seq (A5 (.blk (.loop ⟨[(3,.d A4)],[],[0],[],[],[(1,.arr (.int .u64))]⟩ (A5 (.seq (.blk (A5 (.cond (A5 (.seq (A5 (.blk (.loop ⟨[(3,.d A4),(5,.d A4)],[],[0,4],[],[],[(1,.arr (.int .u64))]⟩ .lf))) .lf)) .lf))) .lf))))) .lf))) (A5 (A5 (.seq (A5 (.blk (.loop ⟨[(3,.d A4)],[],[0],[],[],[]⟩ (A5 (.seq (.blk (A5 (.cond (A5 (.seq (A5 (.blk (.loop ⟨[(3,.d A4),(5,.d A4)],[],[0,4],[],[],[]⟩ .lf))) .lf)) .lf))) .lf))))) .lf))) (.int .u64) [] [.s] (Dv N) (Ft N) mixed func62 rfl (by decide) rfl (by kernel_rfl) (by kernel_rfl)
def L5:Cw [(.sl A8)] (A7 (Bd [(.sl A0w)])):=fun(x:A6 Bv1)=>iter (fun(rec:Bv6×Unit×(A7 (A6 Int×Nat)×Unit)×Unit→A7 (A6 Bve)) (z:Bv6×Unit×(A7 (A6 Int×Nat)×Unit)×Unit)=>A9
 z.2.2.1.1 (bif decide (z.1.1<(↑x.length:Int))then (at? x z.1.1).bind fun(e:Bv3×UInt8×Int×UInt8×A6 UInt8×A6 Bv3)=>bif e.2.1==1 then rec ((i64.wrap (z.1.1+1),()),(),(some
 ([e.2.2.1],[e.2.2.1].length),()),())else rec ((i64.wrap (z.1.1+1),()),(),(none,()),())else Option.bind (Zg (El:=Int) N) fun(y:Unit)=>Option.bind (Ft N) fun(y:A6 Int)=>iter (fun(rec:(List
 Bve×Int×Unit)×Unit×Unit×Unit→A7 (A6 Bve)) (z:(A6 Bve×Int×Unit)×Unit×Unit×Unit)=>bif decide (z.1.2.1<(↑y.length:Int))then (at? y z.1.2.1).bind fun(e:Int)=>Option.bind (H5 N x e) fun(y:Bve×Bool)=>bif Au
 (z.1.1.length + [y.1].length) 32 then rec ((z.1.1++[y.1],i64.wrap (z.1.2.1+1),()),(),(),())else none else some z.1.1) N (([],0,()),(),(),())) fun(y:A6 Int×Nat)=>bif decide (z.1.1<(↑x.length:Int))then (at? x
 z.1.1).bind fun(e:Bv3×UInt8×Int×UInt8×A6 UInt8×A6 Bv3)=>bif e.2.1==1 then bif y.1.length.beq y.2 then bif Au (y.2 + [e.2.2.1].length) 8 then rec ((i64.wrap (z.1.1+1),()),(),(some (y.1++[e.2.2.1],y.2 +
 [e.2.2.1].length),()),())else none else none else rec ((i64.wrap (z.1.1+1),()),(),(some y,()),())else Option.bind (Et N y.1 y.2) fun(B9:A6 Int×Unit)=>Option.bind (Dv N B9.1 y.2) fun(y:A6 Int×Nat)=>bif bif
 (0+y.2).ble y.1.length then true else false then iter (fun(rec:(A6 Bve×Int×Unit)×Unit×Unit×Unit→A7 (A6 Bve)) (z:(A6 Bve×Int×Unit)×Unit×Unit×Unit)=>bif decide (z.1.2.1<(↑y.2:Int))then (at? (List.take y.2
 (List.drop 0 y.1)) z.1.2.1).bind fun(e:Int)=>Option.bind (H5 N x e) fun(y:Bve×Bool)=>bif Au (z.1.1.length + [y.1].length) 32 then rec ((z.1.1++[y.1],i64.wrap (z.1.2.1+1),()),(),(),())else none else some z.1.1) N
 (([],0,()),(),(),())else none) N ((0,()),(),(none,()),())
def Ag1:=Cn [Ys N,Uo N,S8 N] [24] N 28 (A5 (A5 (.seq (A5 (.blk (.loop ⟨[(13,.d A4)],[],[0,11,12],[],[(3,400003,(.int .u64))],[]⟩ .lf))) (A5 (A5 (.seq (.fz [29] .lf (.blk (.loop ⟨[(6,.Cv 200006 A0w none),(31,.d A4)],[],[0,29,30],[],[],[]⟩ .lf))) .lf)))))) [(.sl A8)] [(.sl A0w)] (L5 N) mixed func28 rfl (by decide) rfl (by kernel_rfl)
def Jm:Cw [(.sl .str),(.sl .str)] (A7 (Bd [.bool])):=fun(x Bh:A6 Bvi)=>bif (↑x.length:Int) != (↑Bh.length:Int)then some false else iter (fun(rec:Bv6×Unit×Unit×Unit→A7 Bool)
 (z:Bv6×Unit×Unit×Unit)=>bif decide (z.1.1<(↑x.length:Int))then (at? x z.1.1).bind fun(e:Bvi)=>(at? Bh z.1.1).bind fun(Dt:Bvi)=>bif e != Dt then some false else rec ((i64.wrap (z.1.1+1),()),(),(),())else some
 true) N ((0,()),(),(),())
def A4u:=Cn [] [] N 63 (A5 (A5 (.seq (A5 (.blk (.loop ⟨[(5,.d A4)],[],[0,1],[],[],[]⟩ .lf))) .lf))) [(.sl .str),(.sl .str)] [.bool] (Jm N) mixed func63 rfl (by decide) rfl (by kernel_rfl)
def Jn:Cw [(.sl Ag0),(.sl Ag0)] (A7 (Bd [.bool])):=fun(x Bh:A6 Bv5)=>bif (↑x.length:Int) != (↑Bh.length:Int)then some false else iter (fun(rec:Bv6×Unit×Unit×Unit→A7 Bool)
 (z:Bv6×Unit×Unit×Unit)=>bif decide (z.1.1<(↑x.length:Int))then (at? x z.1.1).bind fun(e:UInt8×A6 UInt8×A6 Bvi)=>(at? Bh z.1.1).bind fun(Dt:UInt8×A6 UInt8×A6 Bvi)=>bif e.1 != Dt.1 then some false else (at? x
 z.1.1).bind fun(e:UInt8×A6 UInt8×A6 Bvi)=>(at? Bh z.1.1).bind fun(e_2:UInt8×A6 UInt8×A6 Bvi)=>bif e.2.1 != e_2.2.1 then some false else (at? x z.1.1).bind fun(e:UInt8×A6 UInt8×A6 Bvi)=>(at? Bh z.1.1).bind
 fun(e_3:UInt8×A6 UInt8×A6 Bvi)=>Option.bind (Jm N e.2.2 e_3.2.2) fun(y:Bool)=>bif !y then some false else rec ((i64.wrap (z.1.1+1),()),(),(),())else some true) N ((0,()),(),(),())
def A4v:=Cn [A4u N] [] N 29 (A5 (A5 (.seq (A5 (.blk (.loop ⟨[(5,.d A4)],[],[0,1],[],[],[]⟩ .lf))) .lf))) [(.sl Ag0),(.sl Ag0)] [.bool] (Jn N) mixed func29 rfl (by decide) rfl (by kernel_rfl)
def Di:Cw [A0w,A0w] (A7 (Bd [.bool])):=fun(x Bh:Bve)=>bif x.1==Bh.1 then Option.bind (Jn N x.2 Bh.2) fun(y:Bool)=>some y else some false
def V6:=Cn [A4v N] [] N 10 .lf [A0w,A0w] [.bool] (Di N) mixed func10 rfl (by decide) rfl (by kernel_rfl)
def Ba:Cw [] (A7 (Bd [.bool])):=Option.bind (H5 N [((1,1),1,5,1,[97],[]),((2,1),1,5,1,[98],[])] 5) fun(y:Bve×Bool)=>bif y.2 then Option.bind (Di N y.1 (5,[(1,[98],[[97]])])) fun(y:Bool)=>some y
 else some false
def A4w:=Cn [V6 N,Ys N] [] N 5 .lf [] [.bool] (Ba N) mixed func5 rfl (by decide) rfl (by kernel_rfl)
@[reducible] def Ac1:ASp:=⟨[.nil true,.d (.int .u64)],[],[.d A0w,.d .bool]⟩
def Jo:ASp.Cw Ac1:=fun(y:Int)=>Option.bind (F1 N) fun(B9:Bvg×Unit×Unit×Unit)=>Option.bind (H5 N B9.1.1 y) fun(y:Bve×Bool)=>some ((),y.1,y.2,())
def At4:=Aw9 [Ys N,Jk N] [] N 8 (fun _=>.lf) Ac1 (Jo N) mixed func8 rfl (by decide) rfl rfl (by kernel_rfl)
@[reducible] def Akr:ASp:=⟨[.p 0 0,.d (.int .u64)],[(0,Sh1,some 69)],[.d A0w,.d .bool]⟩
def Xr:ASp.Cw Akr:=fun(y:Int) (x:Bvd)=>A9 x.2.1 (A9 x.2.2.1 (Option.bind (H3 N x.1) fun(B9:Bvg×Unit×Unit×Unit)=>Option.bind (H5 N B9.1.1 y) fun(y:Bve×Bool)=>some (((x.1,none,none,()),()),y.1,y.2,()))
 fun(B9:Bv9)=>Option.bind (H2 N x.1 B9) fun(Lo:Bvg×Unit×Unit×Unit)=>Option.bind (H5 N Lo.1.1 y) fun(y:Bve×Bool)=>some (((x.1,none,some B9,()),()),y.1,y.2,())) fun(B9:Bv9)=>A9 x.2.2.1 (Option.bind (Gz N x.1 B9)
 fun(Lo:Bvg×Unit×Unit×Unit)=>Option.bind (H5 N Lo.1.1 y) fun(y:Bve×Bool)=>some (((x.1,some B9,none,()),()),y.1,y.2,())) fun(Lo:Bv9)=>Option.bind (Gy N x.1 B9 Lo) fun(Kv:Bvg×Unit×Unit×Unit)=>Option.bind (H5 N Kv.1.1 y)
 fun(y:Bve×Bool)=>some (((x.1,some B9,some Lo,()),()),y.1,y.2,())
def B0w:=Aw9 [Ys N,Jk N] [] N 8 (fun _=>.lf) Akr (Xr N) mixed func8 rfl (by decide) rfl rfl (by kernel_rfl)
@[reducible] def Ac2:ASp:=⟨[.nil true],[],[.d (.sl A0w)]⟩
def Gr:ASp.Cw Ac2:=Option.bind (F1 N) fun(y:Bvg×Unit×Unit×Unit)=>Option.bind (L5 N y.1.1) fun(y:A6 Bve)=>some ((),y,())
def At5:=Aw9 [Ag1 N,Jk N] [] N 9 (fun _=>.lf) Ac2 (Gr N) mixed func9 rfl (by decide) rfl rfl (by kernel_rfl)
@[reducible] def Aks:ASp:=⟨[.p 0 0],[(0,Sh1,some 69)],[.d (.sl A0w)]⟩
def A2a:ASp.Cw Aks:=fun(x:Bvd)=>A9 x.2.1 (A9 x.2.2.1 (Option.bind (H3 N x.1) fun(y:Bvg×Unit×Unit×Unit)=>Option.bind (L5 N y.1.1) fun(y:A6 Bve)=>some (((x.1,none,none,()),()),y,()))
 fun(y:Bv9)=>Option.bind (H2 N x.1 y) fun(B9:Bvg×Unit×Unit×Unit)=>Option.bind (L5 N B9.1.1) fun(Lo:A6 Bve)=>some (((x.1,none,some y,()),()),Lo,())) fun(y:Bv9)=>A9 x.2.2.1 (Option.bind (Gz N x.1 y)
 fun(B9:Bvg×Unit×Unit×Unit)=>Option.bind (L5 N B9.1.1) fun(Lo:A6 Bve)=>some (((x.1,some y,none,()),()),Lo,())) fun(B9:Bv9)=>Option.bind (Gy N x.1 y B9) fun(Lo:Bvg×Unit×Unit×Unit)=>Option.bind (L5 N Lo.1.1) fun(Kv:List
 Bve)=>some (((x.1,some y,some B9,()),()),Kv,())
def B0x:=Aw9 [Ag1 N,Jk N] [] N 9 (fun _=>.lf) Aks (A2a N) mixed func9 rfl (by decide) rfl rfl (by kernel_rfl)
def Akt:Ix prog:=Ajt 8 (Ajs 0) (At4 N) (B0w N) rfl rfl
def Aku:Ix prog:=Ajt 9 (Ajs 0) (At5 N) (B0x N) rfl rfl
def He:Cw [(.sl tepitaphlaw18Act),(.int .u64)] (A7 (Bd [.bool])):=fun(x:A6 (UInt8×Bv1×A6 Bv7)) (Bh:Int)=>Option.bind (Il N x 20) fun(y:Int)=>bif y==0 then Option.bind (Ba N) fun(y:Bool)=>some
 y else Option.bind (Mu N x) fun(y:Bvo)=>Option.bind (Yr N y.1 y.2) fun(y:Bvr)=>A9 y.2.1 (Option.bind (Jo N Bh) fun(y:Unit×Bve×Bool×Unit)=>Option.bind (Gr N) fun(B9:Unit×A6 Bve×Unit)=>iter
 (fun(rec:Bvc×Unit×Unit×Unit→A7 Bool) (z:Bvc×Unit×Unit×Unit)=>bif decide (z.1.2.1<(↑B9.2.1.length:Int))then (at? B9.2.1 z.1.2.1).bind fun(e:Bve)=>Option.bind (Jo N e.1) fun(y:Unit×Bve×Bool×Unit)=>bif !y.2.2.1 then
 some false else (at? B9.2.1 z.1.2.1).bind fun(e:Bve)=>Option.bind (Di N y.2.1 e) fun(y:Bool)=>bif !y then some false else bif decide (0<z.1.2.1)then (at? B9.2.1 (i64.wrap (z.1.2.1-1))).bind fun(e:Bve)=>(at?
 B9.2.1 z.1.2.1).bind fun(Dt:Bve)=>bif decide (Dt.1≤e.1)then some false else (at? B9.2.1 z.1.2.1).bind fun(e:Bve)=>bif e.1==Bh then rec ((i64.wrap (z.1.1+1),i64.wrap (z.1.2.1+1),()),(),(),())else rec
 ((z.1.1,i64.wrap (z.1.2.1+1),()),(),(),())else (at? B9.2.1 z.1.2.1).bind fun(e:Bve)=>bif e.1==Bh then rec ((i64.wrap (z.1.1+1),i64.wrap (z.1.2.1+1),()),(),(),())else rec ((z.1.1,i64.wrap
 (z.1.2.1+1),()),(),(),())else Option.bind (Jo N Bh) fun(Lo:Unit×Bve×Bool×Unit)=>Option.bind (Oo N Bh) fun(Kv:Unit×A6 Bv1×Unit)=>bif y.2.2.1==decide (0<(↑Kv.2.1.length:Int))then bif y.2.2.1==(z.1.1==1)then bif y.2.2.1
 then bif !Lo.2.2.1 then Option.bind (Gr N) fun(y:Unit×A6 Bve×Unit)=>bif (↑y.2.1.length:Int)==0 then Option.bind (Ba N) fun(y:Bool)=>some y else some false else some false else bif (↑y.2.1.2.length:Int)==0 then bif
 !Lo.2.2.1 then Option.bind (Gr N) fun(y:Unit×A6 Bve×Unit)=>bif (↑y.2.1.length:Int)==0 then Option.bind (Ba N) fun(y:Bool)=>some y else some false else some false else some false else some false else some false) N
 ((0,0,()),(),(),())) fun(z:Bvd)=>Option.bind (Xr N Bh z) fun(y:(Bvd×Unit)×Bve×Bool×Unit)=>Option.bind (A2a N y.1.1) fun(B9:(Bvd×Unit)×A6 Bve×Unit)=>iter (fun(rec:Bvc×Unit×Unit×Bvd×Unit→A7 Bool)
 (z:Bvc×Unit×Unit×Bvd×Unit)=>bif decide (z.1.2.1<(↑B9.2.1.length:Int))then (at? B9.2.1 z.1.2.1).bind fun(e:Bve)=>Option.bind (Xr N e.1 z.2.2.2.1) fun(y:(Bvd×Unit)×Bve×Bool×Unit)=>bif !y.2.2.1 then some false else (at?
 B9.2.1 z.1.2.1).bind fun(e:Bve)=>Option.bind (Di N y.2.1 e) fun(Lo:Bool)=>bif !Lo then some false else bif decide (0<z.1.2.1)then (at? B9.2.1 (i64.wrap (z.1.2.1-1))).bind fun(e:Bve)=>(at? B9.2.1 z.1.2.1).bind
 fun(Dt:Bve)=>bif decide (Dt.1≤e.1)then some false else (at? B9.2.1 z.1.2.1).bind fun(e:Bve)=>bif e.1==Bh then rec ((i64.wrap (z.1.1+1),i64.wrap (z.1.2.1+1),()),(),(),y.1.1,())else rec
 ((z.1.1,i64.wrap (z.1.2.1+1),()),(),(),y.1.1,())else (at? B9.2.1 z.1.2.1).bind fun(e:Bve)=>bif e.1==Bh then rec ((i64.wrap (z.1.1+1),i64.wrap (z.1.2.1+1),()),(),(),y.1.1,())else rec
 ((z.1.1,i64.wrap (z.1.2.1+1),()),(),(),y.1.1,())else Option.bind (Jo N Bh) fun(Lo:Unit×Bve×Bool×Unit)=>Option.bind (Rv N Bh z.2.2.2.1) fun(Kv:(Bvd×Unit)×A6 Bv1×Unit)=>bif y.2.2.1==decide
 (0<(↑Kv.2.1.length:Int))then bif y.2.2.1==(z.1.1==1)then bif y.2.2.1 then bif !Lo.2.2.1 then Option.bind (Gr N) fun(y:Unit×A6 Bve×Unit)=>bif (↑y.2.1.length:Int)==0 then Option.bind (Ba N) fun(y:Bool)=>some y else some
 false else some false else bif (↑y.2.1.2.length:Int)==0 then bif !Lo.2.2.1 then Option.bind (Gr N) fun(y:Unit×A6 Bve×Unit)=>bif (↑y.2.1.length:Int)==0 then Option.bind (Ba N) fun(y:Bool)=>some y else some false else
 some false else some false else some false else some false) N ((0,0,()),(),(),B9.1.1,())
def A0x:Am7 prog [V6 N,A91 N,A4w N,Abz N,Awr N,Akt N,A97 N,Aku N] [] N f3 (A5 (A5 (A5 (A5 (A5 (A5 (A5 (.seq (A5 (.blk (.sel 1028010 (.loop ⟨[(11,.d A4),(12,.d A4)],[],[1,6,8,9,10],[1008],[],[(1028010,.abs 1028010 Sh1 (some 69))]⟩ .lf) (.loop ⟨[(11,.d A4),(12,.d A4)],[],[1,6,8,9,10],[1008],[],[]⟩ .lf)))) .lf)))))))) [(.sl tepitaphlaw18Act),(.int .u64)] [.bool]=He N:=by kernel_rfl
def D_epitaphlaw19_ViewBook:A89 prog 3 [.bool] [(.sl tepitaphlaw18Act),(.int .u64)] (He N) []:=A0x N▸Si mixed func3 rfl
open Go.Sort
section
variable{α:Type}[DecidableEq α]
def Jv(p:α):A6 α→A6 α
 |[]=>[]
 |y::r=>if y=p then Jv p r else y::Jv y r
def comp:A6 α→A6 α
 |[]=>[]
 |x::r=>x::Jv x r
theorem Ag2(q y:α):∀(p:α) (l:A6 α),(p::l).getLast? = some q→Jv p (l++[y])=if y=q then Jv p l else Jv p l++[y]
 |p,[],h=>by
  simp at h;subst h;simp[Jv]
 |p,x::r,h=>by
  rw[List.getLast?_cons_cons]at h;simp only[Bpw,Jv];have ih:=Ag2 q y x r h;by_cases hx:x=p
  ·subst hx;rw[Bo3 rfl,Bo3 rfl,ih]
  ·rw[Bnv hx,Bnv hx,ih];by_cases hy:y=q
   ·rw[Bo3 hy,Bo3 hy]
   ·rw[Bnv hy,Bnv hy];rfl
def Kk{l:A6 α}(hm:0<m){a b:α}(ha:l[m-1]? = some a)(hb:l[m]? = some b):comp (l.take (m+1))=if b=a then comp (l.take m)else comp (l.take m)++[b]:=by
 have By:m<l.length:=(Bnj.1 hb).1;have e:l.take (m+1)=l.take m++[b]:=by rw[Bp9,hb];rfl
 rw[e];cases hl:l.take m with
 |nil=>simp at hl;rcases hl with h|h<;>(subst h;simp at *)
 |cons x r =>
  have Atq:(x::r).getLast? = some a:=by rw[← hl,List.getLast?_eq_getElem?,Bof,Bow,Buj (by omega),Bo3 (by omega)];exact ha
  simp only[Bpw,comp];rw[Ag2 a b x r Atq];by_cases h:b=a
  ·rw[Bo3 h,Bo3 h]
  ·rw[Bnv h,Bnv h]
def A0y(l:A6 α):comp (l.take 1)=l.take 1:=by
 cases l with
 |nil=>rfl
 |cons x r=>simp[comp,Jv]
end
def B0y(e f:Int×Int):(e.fst==f.fst&&e.snd==f.snd)=decide (e=f):=by obtain⟨a,b⟩:=e;obtain⟨c,d⟩:=f;by_cases h1:a=c<;>by_cases h2:b=d<;>simp[h1,h2]
def B7{α:Type}{l:A6 α}(h:i<l.length):l[i]? = some l[i]:=Bng h
def Ct(n:Nat):((n:Int)).toNat=n:=rfl
def Bb0(l:A6 (Int×Int))(r:A6 (Int×Int)×Nat):Prop:=r.1.take r.2=comp l∧r.2≤r.1.length
def B0z(l:A6 (Int×Int))(hb:l.length<4611686018427387904)(hN:l.length<N):∃r,G8 N l l.length=some r∧Bb0 l r:=by
 unfold G8;simp only[cond_eq_ite,B0y];by_cases h2:((l.length:Nat):Int)<2
 ·rw[Bo3 (by simpa using h2)];refine⟨_,rfl,?_,Bno _⟩;have:l=l.take 1:=by rw[Bpg (by omega)]
  rw[Boh,this,A0y]
 ·rw[Bnv (by simpa using h2)];refine Dn (fun n z=>∃k:Nat,z=(((k:Int),()),(),(),l,())∧1≤k∧k≤l.length∧n=l.length-k∧comp (l.take k)=l.take k) ?_ N (l.length-1) _ ⟨1,rfl,by omega,by omega,rfl,A0y l⟩ (by omega);rintro n z rec ⟨k,rfl,k1,k2,hn,hc⟩ ih;simp only;by_cases hk:k<l.length
  ·have e1:i64.wrap ((k:Int)-1)=((k-1:Nat):Int):=C4 (by omega) (by omega);have e2:i64.wrap ((k:Int)+1)=((k+1:Nat):Int):=Ac (by omega);simp only[e1,e2,Ct,Bog,B7 hk,B7 (show k-1<l.length by omega),Bnb];rw[Bo3 (by simp;omega),Bo3 (by simp;omega),Bo3 (by simp;omega)];have Ag3:=Kk (l:=l) (m:=k) (by omega) (B7 (show k-1<l.length by omega)) (B7 hk);by_cases he:l[k]=l[k-1]
   ·rw[Bo3 (by simpa using he),Bo3 (by simp[Ew];omega)];refine Dn (fun n z=>∃(i q:Nat) (c:A6 (Int×Int)),z=(((i:Int),(q:Int),()),(),(),c,())∧1≤q∧k+q≤l.length∧i+1≤k+q∧c.length=l.length ∧
     (∀j,i≤j→c[j]? = l[j]?)∧c.take i=comp (l.take (k+q))∧n=l.length-(k+q)) ?_ N (l.length-(k+1)) _
     ⟨k,1,l,rfl,by omega,by omega,by omega,rfl,fun _ _=>rfl,by rw[Ag3,Bo3 he,hc],rfl⟩ (by omega)
    rintro n z rec ⟨i,q,c,rfl,q1,q2,q3,hcl,hcj,hct,hn⟩ ih';simp only;by_cases hq:k+q<l.length
    ·have f1:i64.wrap ((q:Int)-1)=((q-1:Nat):Int):=C4 (by omega) (by omega);have f2:i64.wrap ((q:Int)+1)=((q+1:Nat):Int):=Ac (by omega);have f3:i64.wrap ((i:Int)+1)=((i+1:Nat):Int):=Ac (by omega);have g1:c[k+q]? = some l[k+q]:=by rw[hcj _ (by omega),B7 hq]
     have g2:c[k+(q-1)]? = some l[k+(q-1)]:=by rw[hcj _ (by omega),B7 (by omega)]
     have g3:c[i]? = some (c[i]'(by omega)):=B7 (by omega);simp only[f1,f2,f3,Ct,g1,g2,g3,Bnb];rw[Bo3 (by simp;omega),Bo3 (by simp;omega),Bo3 (by simp;omega)];have hs:=Kk (l:=l) (m:=k+q) (a:=l[k+(q-1)]) (by omega) (by rw[show k+q-1=k+(q-1) by omega];exact B7 _) (B7 hq);by_cases hne:l[k+q]=l[k+(q-1)]
     ·rw[Bnv (by simpa using hne)];refine ih' (l.length-(k+(q+1))) _ (by omega) ⟨i,q+1,c,rfl,by omega,by omega,by omega,hcl,hcj,?_,rfl⟩;rw[hct,← Bqa,hs,Bo3 hne]
     ·rw[Bo3 (by simpa using hne),Bo3 (by simp;omega),Bo3 (by simp;omega)];refine ih' (l.length-(k+(q+1))) _ (by omega) ⟨i+1,q+1,c.set i l[k+q],rfl,by omega,by omega,by omega,by simpa using hcl,?_,?_,rfl⟩
      ·intro j hj;rw[Brw (by omega)];exact hcj j (by omega)
      ·rw[← Bqa,hs,Bnv hne,← hct,Bp9,Bs4 (Bno _),Brl (by omega)];rfl
    ·rw[Bnv (by simp;omega),Bo3 (by simp[Ew];omega),Bo3 (by simp[Ew];omega)];refine⟨_,rfl,?_,?_⟩
     ·have:k+q=l.length:=by omega
      rw[this,Boh]at hct;simp only[Ct,Bpy];rw[← hct,Bt2,Btj]
     ·simp only[Ct,Bpy,Bof];omega
   ·rw[Bnv (by simpa using he)];refine ih (l.length-(k+1)) _ (by omega) ⟨k+1,rfl,by omega,by omega,rfl,?_⟩;rw[Ag3,Bnv he,hc,Bp9,B7 hk];rfl
  ·rw[Bnv (by simp;omega)];refine⟨_,rfl,?_,Bno _⟩;have:k=l.length:=by omega
   subst this;rw[Boh]at hc⊢;exact hc.symm
def H6(l:A6 (Int×Int)):A6 (Int×Int):=comp (Dz l)
def Ax2(l:A6 (Int×Int)):(Dz l).length=l.length:=by simp[Dz]
def Akv(l:A6 (Int×Int))(hb:l.length*16≤140737488355328)(hN:l.length<N):T2 N l=some (H6 l):=by
 unfold T2;cases l with
 |nil =>simp only[Fl,A9,Bnb,H6,Dz,List.mergeSort_nil,comp];rfl
 |cons x r =>
  have hlen:(x::r).length<4611686018427387904:=by omega
  have Acf:Au (x::r).length 16=true:=by simp only[Au,Boo,Bpk];omega
  generalize hl:x::r=l at *;have hs:=Ax2 l;obtain⟨q,hq,h1,h2⟩:=B0z N (Dz l) (by omega) (by omega);rw[hs]at hq;have e:Fl l (some none) (fun(y:Int×Int) r=>bif Au (y::r).length 16 then some (some (y::r,(y::r).length))else none)=some (some (l,l.length)):=by subst hl;simp only[Fl,Acf,Bna]
  rw[e];simp only[Bnb,A9,Boh,Brj,Bom,hq];have b1:Nat.ble l.length l.length=true:=by simp
  have b2:Nat.ble l.length 4611686018427387903=true:=by simp only[Buc];omega
  have b3:Nat.ble (0+q.2) q.1.length=true:=by simp only[Buc];omega
  simp only[b1,b2,b3,Bna,Bqk,h1];rfl
def Cb{α:Type}{l:A6 α}(h:i<l.length):l[i]? = some l[i]:=Bng h
def dec_lt(a b:Nat):decide ((a:Int)<(b:Int))=decide (a<b):=by simp
def Aok(l:A6 (Int×Int))(d:Int×Int)(hl:l.length<9223372036854775807)(hN:l.length<N):Bv N l d=some (decide (d∈l)):=by
 unfold Bv;refine(Asa l.length (fun k=>some (decide (d∈l.drop k))) 0 ?_ ?_ N hN).trans rfl
 ·intro rec k _ hk hr;simp only[dec_lt,B0,Cb hk,Bnb,Ac (show k+1<9223372036854775808 by omega),hr,Bnq hk,Bna,B0y];have e:l.drop k=l[k]::l.drop (k+1):=Bqo hk;rw[e];by_cases h:l[k]=d
  ·subst h;simp[-List.getElem_cons_drop]
  ·rw[Bnt h,Bnc];have:(d∈l[k]::l.drop (k+1))↔d∈l.drop (k+1):=by simp[-List.getElem_cons_drop,Bq5 h]
   simp only[this]
 ·intro rec k hk;simp only[dec_lt,Bnt (show ¬k<l.length by omega),Bnc];rw[Bs9 hk];rfl
def Bb1(l:A6 (Int×Int))(d:Int×Int)(hl:l.length<9223372036854775807)(hN:l.length<N) :
  ∃i:Int,Hd N l d=some i∧decide (0≤i)=decide (d∈l):=by
 unfold Hd;refine Dn (Q:=fun i:Int=>decide (0≤i)=decide (d∈l)) (fun n z=>∃k:Nat,z=(((k:Int),()),(),(),())∧k≤l.length∧n=l.length-k∧¬d∈l.take k) ?_ N l.length _ ⟨0,rfl,Bq9 _,rfl,by simp⟩ hN;rintro n z rec ⟨k,rfl,h1,h2,h3⟩ ih;by_cases hk:k<l.length
 ·simp only[dec_lt,B0,Cb hk,Bnb,Ac (show k+1<9223372036854775808 by omega),Bnq hk,Bna,B0y];by_cases he:d=l[k]
  ·refine⟨(k:Int),by simp[he],?_⟩;have:d∈l:=by rw[he];exact Bp5 hk
   rw[Bnq this];simp
  ·rw[Bnt he,Bnc];refine ih (l.length-(k+1)) _ (by omega) ⟨k+1,rfl,by omega,rfl,?_⟩;rw[Bp9,Bnk,Cb hk];simp[h3,he]
 ·simp only[dec_lt,Bnt hk,Bnc];refine⟨-1,rfl,?_⟩;rw[Bpg (by omega)]at h3;rw[Bnt h3];rfl
def has_eq(l:A6 (Int×Int))(d:Int×Int)(hl:l.length<9223372036854775807)(hN:l.length<N):A69 N l d=some (decide (d∈l)):=by obtain⟨i,h1,h2⟩:=Bb1 N l d hl hN;unfold A69 Ii;rw[h1];simp only[Bnb,h2]
abbrev Ev:=(Int×Int)×UInt8×Int×UInt8×A6 UInt8×A6 (Int×Int)
def Bb2(a:Ev)(d:Int×Int)(hl:a.2.2.2.2.2.length<9223372036854775807)(hN:a.2.2.2.2.2.length<N):Tf N a d=some (decide (d∈a.2.2.2.2.2)):=by unfold Tf;simp only[has_eq N _ _ hl hN,Bnb]
def smE(e:Ev):Prop:=e.2.2.2.2.2.length≤5000
def copy_eq(e:Ev)(he:smE e):Bq N e=some e:=by
 unfold Bq;have:G9 N e.2.2.2.2.2=some e.2.2.2.2.2:=by
  unfold G9 Ajb;unfold smE at he;cases hk:e.2.2.2.2.2 with
  |nil=>rfl
  |cons y r =>
   rw[hk]at he;have Acf:Au (y::r).length 16=true:=by simp only[Au,Boo,Bpk];omega
   simp only[Fl,Acf,Bna]
 rw[this];rfl
theorem A6b(x y:Int×Int):Ex N x y=some (L0 x y):=by
 simp only[Ex,L0,cond_eq_ite]
 grind
def Y2(x y:Int×Int):Bool:=ltOf L0 x y
def Aec(x y:Int×Int)(h:Y2 x y=true):Y2 y x=false:=by unfold Y2 at *;rw[Ur]at *;simp at *;omega
def Aol{x y z:Int×Int}(h:Y2 x y=true)(h':Y2 y z=true):Y2 x z=true:=by unfold Y2 at *;rw[Ur]at *;simp at *;omega
def Aom(x y:Int×Int)(h1:Y2 x y=false)(h2:Y2 y x=false):x=y:=Ae6 x y h1 h2
theorem gtD(x y:Int×Int):decide (0<L0 x y)=Y2 y x:=by
 unfold Y2;rw[Ur,Box];unfold L0;simp only[Bpk]
 grind
def Bdy(x y:Int×Int):decide (L0 x y<0)=Y2 x y:=rfl
def P5(d:Int×Int)(l:A6 (Int×Int)):A6 (Int×Int):=l.filter (fun x=>Y2 x d)++[d]++l.filter (fun x=>Y2 d x)
def Yt(d:Int×Int)(l:A6 (Int×Int)):(P5 d l).length≤l.length+1:=by
 unfold P5;have:∀l:A6 (Int×Int),(l.filter (fun x=>Y2 x d)).length+(l.filter (fun x=>Y2 d x)).length≤l.length:=by
  intro l;induction l with
  |nil=>simp
  |cons x r ih =>
   simp only[Bq0];cases h1:Y2 x d with
   |true=>rw[Aec _ _ h1];simp;omega
   |false=>cases Y2 d x<;>simp<;>omega
 have:=this l;simp;omega
def Akw(d x:Int×Int)(l:A6 (Int×Int)):x∈P5 d l↔x=d∨x∈l:=by
 unfold P5;simp only[Bnk,Bo9,Bnw];constructor
 ·rintro ((⟨h,_⟩|h)|⟨h,_⟩)
  ·exact .inr h
  ·exact .inl h
  ·exact .inr h
 ·rintro (h|h)
  ·exact .inl (.inr h)
  ·cases h1:Y2 x d with
   |true=>exact .inl (.inl ⟨h,rfl⟩)
   |false =>
    cases h2:Y2 d x with
    |true=>exact .inr ⟨h,rfl⟩
    |false=>exact .inl (.inr (Aom _ _ h1 h2))
def Ax3(d:Int×Int)(l:A6 (Int×Int))(h:Li Y2 l):Li Y2 (P5 d l):=by
 unfold P5 Li;rw[Bqx,Bq4,Bta,Bod];refine⟨Br9 _ h,⟨fun y hy=>(Bo9.1 hy).2,Br9 _ h⟩,?_⟩;intro a ha b hb;have h1:=(Bo9.1 ha).2;rcases Bnd.1 hb with rfl|hb
 ·exact h1
 ·exact Aol h1 (Bo9.1 hb).2
def Ax4(l:A6 (Int×Int)):A6 (Int×Int):=l.foldl (fun q d=>P5 d q) []
theorem A4x:∀(l q:A6 (Int×Int)),Li Y2 q→Li Y2 (l.foldl (fun q d=>P5 d q) q)∧(∀x,x∈l.foldl (fun q d=>P5 d q) q↔x∈q∨x∈l)∧(l.foldl (fun q d=>P5 d q) q).length≤q.length+l.length
 |[],q,h=>⟨h,by simp,by simp⟩
 |d::r,q,h=>by
  obtain⟨h1,h2,h3⟩:=A4x r (P5 d q) (Ax3 d q h);refine⟨h1,fun x=>?_,?_⟩
  ·rw[Bp1,h2,Akw];simp;constructor<;>rintro (h|h)<;>grind
  ·rw[Bp1];have:=Yt d q;simp;omega
theorem A98{p x:Int×Int}:∀ {l:A6 (Int×Int)},(x=p∨x∈Jv p l)↔(x=p∨x∈l)
 |[]=>by simp[Jv]
 |y::r=>by
  simp only[Jv];by_cases hy:y=p
  ·subst hy;rw[Bo3 rfl,A98 (l:=r)];simp
  ·rw[Bnv hy];have:=A98 (p:=y) (x:=x) (l:=r);simp only[Bnd];rw[this]
theorem A99:∀(p:Int×Int) (l:A6 (Int×Int)),(p::l).Pairwise (fun a b=>Y2 b a=false)→Li Y2 (p::Jv p l)
 |p,[],h=>by simp[Jv,Li]
 |p,y::r,h=>by
  have h':=h;simp only[Bod,Bnd]at h';simp only[Jv];by_cases hy:y=p
  ·subst hy;rw[Bo3 rfl];exact A99 y r (by simp only[Bod];exact⟨fun a ha=>h'.1 a (.inr ha),h'.2.2⟩)
  ·rw[Bnv hy];have ih:=A99 y r (by simp only[Bod];exact h'.2);have hpy:Y2 p y=true:=by
    cases hh:Y2 p y with
    |true=>rfl
    |false=>exact absurd (Aom _ _ (h'.1 y (.inl rfl)) hh) hy
   unfold Li at *;rw[Bod];refine⟨fun a ha=>?_,ih⟩;rcases Bnd.1 ha with rfl|ha
   ·exact hpy
   ·exact Aol hpy ((Bod.1 ih).1 a ha)
def Akx(l:A6 (Int×Int)):Li Y2 (H6 l)∧∀x,x∈H6 l↔x∈l:=by
 have hp:(Dz l).Pairwise (fun a b=>Y2 b a=false):=by
  have:=Brf (le:=fun x y=>!(ltOf L0) y x) (by
   intro a b c h1 h2;simp only[Bqq]at *;exact Abu.ntrans _ _ _ h2 h1) (by
   intro a b;cases h:ltOf L0 b a with
   |false=>simp
   |true=>simp ;exact Aec b a h) l
  refine this.imp ?_;intro a b h;simpa[Y2]using h
 have hm:∀x,x∈Dz l↔x∈l:=fun x=>by simp[Dz]
 unfold H6;cases hs:Dz l with
 |nil =>rw[hs]at hm;exact⟨by simp[comp,Li],by simpa[comp]using hm⟩
 |cons p r =>rw[hs]at hm hp;refine⟨A99 p r hp,fun x=>?_⟩;simp only[comp,Bnd];rw[A98,← hm x,Bnd]
def A7l(l:A6 (Int×Int)):H6 l=Ax4 l:=by obtain⟨h1,h2⟩:=Akx l;obtain⟨h3,h4,_⟩:=A4x l [] (by simp[Li]);exact Li.ext Aec h1 h3 fun x=>by rw[h2,Ax4,h4];simp
def A6c(l:A6 (Int×Int))(d:Int×Int)(hl:l.length≤1000000)(hN:1000000<N):Ez N l d=some (P5 d l):=by
 unfold Ez;have e0:=foldl_filter (fun x=>Y2 x d) l [];rw[Hy l (fun a x=>cond (Y2 x d) (a++[x]) a) [] (fun a=>some (a++[d]++l.filter (fun x=>Y2 d x))) ?_ ?_ N (by omega),e0]
 ·rfl
 ·intro rec k a hk ha;have hal:a.length≤k:=by rw[ha,foldl_filter,Bou];have:=Bov (fun x=>Y2 x d) (l.take k);rw[Bof]at this;omega
  have hf:Au (a.length + [l[k]].length) 16=true:=fit (by simp;omega) (by simp;omega);simp only[dec_lt,Bnq hk,Bna,B0,Cb hk,Bnb,A6b,Bdy,hf,Ac (show k+1<9223372036854775808 by omega)];cases Y2 l[k] d<;>rfl
 ·intro rec;have hal:(l.foldl (fun a x=>cond (Y2 x d) (a++[x]) a) []).length≤l.length:=by rw[foldl_filter,Bou];exact Bov _ _
  generalize l.foldl (fun a x=>cond (Y2 x d) (a++[x]) a) []=b at *;have hf:Au (b.length + [d].length) 16=true:=fit (by simp;omega) (by simp;omega);simp only[dec_lt,Bnt (Boy _),Bnc,hf,Bna];have e1:=foldl_filter (fun x=>Y2 d x) l (b++[d]);rw[Hy l (fun a x=>cond (Y2 d x) (a++[x]) a) (b++[d]) (fun a=>some a) ?_ ?_ N (by omega),e1]
  ·intro rec k a hk ha;have hal:a.length≤k+b.length+1:=by rw[ha,foldl_filter];have:=Bov (Y2 d) (l.take k);rw[Bof]at this;rw[Bp4,Bp4,Bqg];omega
   have hf:Au (a.length + [l[k]].length) 16=true:=fit (by simp;omega) (by simp;omega);simp only[dec_lt,Bnq hk,Bna,B0,Cb hk,Bnb,A6b,gtD,hf,Ac (show k+1<9223372036854775808 by omega)];cases Y2 d l[k]<;>rfl
  ·intro rec;simp only[dec_lt,Bnt (Boy _),Bnc]
def dsE(e:Ev):A6 (Int×Int):=e.1::e.2.2.2.2.2
variable{e:Ev}
def Bdz(h:smE e):(dsE e).length≤5001:=by unfold dsE smE at *;simp;omega
def Ac3{l:A6 Ev}(h:∀e∈l,smE e):(l.flatMap dsE).length≤5001*l.length:=by
 induction l with
 |nil=>simp
 |cons e r ih =>
  have h1:=Bdz (h e Bnm);have h2:=ih fun x hx=>h x (Bnl _ hx)
  rw[Bu6,Bp4,Bnx];omega
def B3i{l:A6 Ev}(h:∀e∈l,smE e)(k:Nat):∀e∈l.take k,smE e:=fun e he=>h e (List.mem_of_mem_take he)
def Be0(l:A6 Ev)(hl:l.length≤100)(G3:∀e∈l,smE e)(hN:1000000<N):Ji N l=some (H6 (l.flatMap dsE)):=by
 unfold Ji;have e0:=foldl_flatMap dsE l [];have hfl:=Ac3 G3;rw[Hy l (fun a e=>a++dsE e) [] (fun a=>Option.bind (T2 N a) fun y=>some y) ?_ ?_ N (by omega),e0]
 ·rw[Bou,Akv N _ (by omega) (by omega)];rfl
 ·intro rec k a hk ha;have hal:a.length≤5001*100:=by rw[ha,foldl_flatMap,Bou];have:=Ac3 (B3i G3 k);rw[Bof]at this;omega
  have hk2:l[k].2.2.2.2.2.length≤5000:=G3 _ (Bp5 hk);have hf1:Au (a.length + [l[k].1].length) 16=true:=fit (by simp;omega) (by simp;omega);have hf2:Au ((a++[l[k].1]).length+l[k].2.2.2.2.2.length) 16=true:=fit (by simp;omega) (by simp;omega);simp only[dec_lt,Bnq hk,Bna,B0,Cb hk,Bnb,hf1,hf2,Ac (show k+1<9223372036854775808 by omega)];simp[dsE]
 ·intro rec;simp only[dec_lt,Bnt (Boy _),Bnc]
def dead(l:A6 Ev)(d:Int×Int):Bool:=l.any fun e=>decide (d∈e.2.2.2.2.2)
def Be1(l:A6 Ev)(d:Int×Int)(hl:l.length≤100)(G3:∀e∈l,smE e)(hN:10000<N):Dp N l d=some (dead l d):=by
 unfold Dp dead;refine(Asa l.length (fun k=>some ((l.drop k).any fun e=>decide (d∈e.2.2.2.2.2))) 0 ?_ ?_ N (by omega)).trans rfl
 ·intro rec k _ hk hr;have hk2:l[k].2.2.2.2.2.length≤5000:=G3 _ (Bp5 hk);simp only[dec_lt,B0,Cb hk,Bnb,Ac (show k+1<9223372036854775808 by omega),hr,Bnq hk,Bna];rw[Bb2 N _ _ (by omega) (by omega),Bnb];have e:l.drop k=l[k]::l.drop (k+1):=Bqo hk;rw[e,Brc];cases decide (d∈l[k].2.2.2.2.2)<;>simp
 ·intro rec k hk;simp only[dec_lt,Bnt (show ¬k<l.length by omega),Bnc];rw[Bs9 hk];rfl
def B6g{l:A6 Ev}(h:∀e∈l,smE e)(p:Ev→Bool):∀e∈l.filter p,smE e:=fun e he=>h e (Bo9.1 he).1
abbrev D8:Type:=Int×Int
def Dy(r:D8):Bool:=decide (1≤r.1)&&decide (r.1≤r.2)&&decide (r.2≤281474976710655)
def inR(r:D8)(n:Int):Bool:=Dy r&&decide (r.1≤n)&&decide (n≤r.2)
def Em(l:A6 D8)(n:Int):Bool:=l.any fun r=>inR r n
variable{r:D8}{out:A6 D8}
def Cl:Dy r=true↔1≤r.1∧r.1≤r.2∧r.2≤281474976710655:=by simp[Dy,Bv0]
def K5:inR r n=true↔Dy r=true∧r.1≤n∧n≤r.2:=by simp[inR,Bv0]
def Fs{l:A6 D8}:Em l n=true↔∃r∈l,Dy r=true∧r.1≤n∧n≤r.2:=by simp[Em,K5]
def Dj(a b:A6 D8)(n:Int):Em (a++b) n=(Em a n||Em b n):=by simp[Em]
def Vm(n:Int):Em [] n=false:=rfl
def Ro(r:D8)(a:A6 D8)(n:Int):Em (r::a) n=(inR r n||Em a n):=rfl
theorem Bb3(r:D8):Im N r=some (Dy r):=by
 simp only[Im,Dy,cond_eq_ite]
 grind
def A9a(l:A6 D8)(n:Int)(hl:l.length<9223372036854775807)(hN:l.length<N):E1 N l n=some (Em l n):=by
 unfold E1;refine(Asa l.length (fun k=>some (Em (l.drop k) n)) 0 ?_ ?_ N hN).trans rfl
 ·intro rec k _ hk hr;simp only[dec_lt,B0,Cb hk,Bnb,Ac (show k+1<9223372036854775808 by omega),hr,Bnq hk,Bna,Bb3];have e:l.drop k=l[k]::l.drop (k+1):=Bqo hk;rw[e,Ro,inR];cases Dy l[k]<;>simp;cases decide (l[k].1≤n)<;>cases decide (n≤l[k].2)<;>simp
 ·intro rec k hk;simp only[dec_lt,Bnt (show ¬k<l.length by omega),Bnc];rw[Bs9 hk];rfl
def G6(out:A6 D8)(x:D8):A6 D8 :=
 match out.getLast? with
 |none=>[x]
 |some e=>if x.1≤e.2+1 then out.set (out.length-1) (e.1,if x.2>e.2 then x.2 else e.2)else out++[x]
def Mv(l:A6 D8):A6 D8:=(E0 (l.filter Dy)).foldl G6 []
structure A4y(out:List D8):Prop where
 may:∀r∈out,Dy r=true
 apart:out.Pairwise fun a b=>a.2+1<b.1
def A63(x:D8):G6 [] x=[x]:=rfl
def Sz(o:A6 D8)(e x:D8):G6 (o++[e]) x=if x.1≤e.2+1 then o++[(e.1,if x.2>e.2 then x.2 else e.2)]else (o++[e])++[x]:=by
 simp only[G6,Bsk,Bs5,Brh];split
 ·simp
 ·rfl
def Ih{α:Type}(l:A6 α):l=[]∨∃o e,l=o++[e]:=by
 rcases Buu l with h|⟨o,e,h⟩
 ·exact .inl h
 ·exact .inr ⟨o,e,by simpa using h⟩
def A4b{x:D8}(h:A4y out)(hx:Dy x=true)(hle:∀r∈out,r.1≤x.1) :
  A4y (G6 out x)∧(∀n,Em (G6 out x) n=(Em out n||inR x n))∧(∀r∈G6 out x,r.1≤x.1):=by
 rcases Ih out with rfl|⟨o,e,rfl⟩
 ·rw[A63];refine⟨⟨by simpa using hx,by simp⟩,fun n=>by simp[Em],by simp⟩
 ·have he:=h.may e (by simp);have hee:=hle e (by simp);rw[Cl]at he hx;have hap:=h.apart;rw[Bq4]at hap;obtain⟨p1,_,p3⟩:=hap;rw[Sz];split
  ·rename_i hm;refine⟨⟨?_,?_⟩,?_,?_⟩
   ·intro r hr;rcases Bnk.1 hr with hr|hr
    ·exact h.may r (by simp[hr])
    ·simp at hr;subst hr;rw[Cl];simp only;split<;>omega
   ·rw[Bq4];refine⟨p1,by simp,?_⟩;intro a ha b hb;simp at hb;subst hb;exact p3 a ha e (by simp)
   ·intro n;rw[Dj,Dj];have:Em [(e.1,if x.2>e.2 then x.2 else e.2)] n=(Em [e] n||inR x n):=by rw[Box];simp only[Em,Brc,Bs3,Brs,Bpc,K5,Cl];split<;>constructor<;>intro hh<;>omega
    rw[this,Btz]
   ·intro r hr;rcases Bnk.1 hr with hr|hr
    ·exact hle r (by simp[hr])
    ·simp at hr;subst hr;exact hee
  ·rename_i hm;refine⟨⟨?_,?_⟩,?_,?_⟩
   ·intro r hr;rcases Bnk.1 hr with hr|hr
    ·exact h.may r hr
    ·simp at hr;subst hr;rw[Cl];exact hx
   ·rw[Bq4];refine⟨h.apart,by simp,?_⟩;intro a ha b hb;simp at hb;subst hb;rcases Bnk.1 ha with ha|ha
    ·have:=p3 a ha e (by simp);omega
    ·simp at ha;subst ha;omega
   ·intro n;rw[Dj];simp[Em]
   ·intro r hr;rcases Bnk.1 hr with hr|hr
    ·exact hle r hr
    ·simp at hr;subst hr;omega
theorem T0:∀(s out:A6 D8),A4y out→(∀x∈s,Dy x=true)→s.Pairwise (fun x y=>x.1≤y.1)→(∀r∈out,∀x∈s,r.1≤x.1) →
  A4y (s.foldl G6 out)∧∀n,Em (s.foldl G6 out) n=(Em out n||Em s n)
 |[],out,h,_,_,_=>⟨h,fun n=>by simp[Vm]⟩
 |x::s,out,h,hs,hp,hle=>by
  obtain⟨h1,h2,h3⟩:=A4b h (hs x (by simp)) fun r hr=>hle r hr x (by simp)
  rw[Bod]at hp;obtain⟨i1,i2⟩:=T0 s (G6 out x) h1 (fun y hy=>hs y (by simp[hy])) hp.2 (fun r hr y hy=>by
   have:=h3 r hr;have:=hp.1 y hy;omega)
  refine⟨i1,fun n=>?_⟩;rw[Bp1,i2 n,h2 n,Ro,Btz]
def Ak4{a b:A6 D8}(h:a.Perm b)(n:Int):Em a n=Em b n:=by
 rw[Box,Fs,Fs];constructor<;>rintro ⟨r,hr,hh⟩
 ·exact⟨r,h.mem_iff.1 hr,hh⟩
 ·exact⟨r,h.mem_iff.2 hr,hh⟩
def A8t(l:A6 D8)(n:Int):Em (l.filter Dy) n=Em l n:=by
 rw[Box,Fs,Fs];constructor
 ·rintro ⟨r,hr,hh⟩;exact⟨r,(Bo9.1 hr).1,hh⟩
 ·rintro ⟨r,hr,hh⟩;exact⟨r,Bo9.2 ⟨hr,hh.1⟩,hh⟩
def U7(l:A6 D8):A4y (Mv l)∧∀n,Em (Mv l) n=Em l n:=by obtain⟨p1,p2⟩:=Vo (l.filter Dy);obtain⟨h1,h2⟩:=T0 (E0 (l.filter Dy)) [] ⟨by simp,by simp⟩ (fun x hx=>(Bo9.1 (p1.mem_iff.1 hx)).2) p2 (by simp);refine⟨h1,fun n=>?_⟩;unfold Mv;rw[h2 n,Vm,Bs6,Ak4 p1,A8t]
def A21(out:A6 D8)(x:D8):(G6 out x).length≤out.length+1:=by
 rcases Ih out with rfl|⟨o,e,rfl⟩
 ·simp[G6]
 ·rw[Sz];split<;>simp
theorem U0:∀(s out:A6 D8),(s.foldl G6 out).length≤out.length+s.length
 |[],out=>by simp
 |x::s,out=>by
  have:=U0 s (G6 out x);have:=A21 out x;simp only[Bp1,Bnx];omega
def Ac4(l:A6 D8):(Mv l).length≤l.length:=by have h1:=U0 (E0 (l.filter Dy)) [];have h2:=(Vo (l.filter Dy)).1.length_eq;have h3:=Bov Dy l;unfold Mv;simp at h1;omega
def owR(g:A6 D8):A7 (A6 D8×Nat):=if g=[]then none else some (g,g.length)
def A6d:owR []=none:=rfl
def Ac5{g:A6 D8}(h:g≠[]):owR g=some (g,g.length):=by simp[owR,h]
def Rx(o:A6 D8)(e:D8):owR (o++[e])=some (o++[e],(o++[e]).length):=Ac5 (by simp)
def A0z{x:Int}(h:0≤x)(h':x<18446744073709551616):u64.wrap x=x:=by simp[IntKind.wrap,IntKind.bits,IntKind.signed];omega
def Ax5:E0 []=[]:=by have:=(Vo []).1.length_eq;exact Br3.1 (by simpa using this)
def B6h(e:D8){R:Type}(a b:R):(bif decide (0<e.1)then (bif decide (e.1≤e.2)then (bif decide (e.2≤281474976710655)then a else b)else b)else b)=bif Dy e then a else b:=by
 have:decide (0<e.1)=decide (1≤e.1):=by rw[decide_eq_decide];omega
 rw[this,Dy];cases decide (1≤e.1)<;>cases decide (e.1≤e.2)<;>cases decide (e.2≤281474976710655)<;>rfl
def Aed(l:A6 D8)(hk:k<l.length):(l.take (k+1)).filter Dy=bif Dy l[k]then (l.take k).filter Dy++[l[k]]else (l.take k).filter Dy:=by rw[Bp9,Cb hk,Bpm];cases h:Dy l[k]<;>simp[h]
def Aky(s:A6 D8)(hk:k<s.length):(s.take (k+1)).foldl G6 []=G6 ((s.take k).foldl G6 []) s[k]:=by rw[Bp9,Cb hk,Bsd];rfl
def Akz(n:Nat):Nat.ble n n=true:=Bp0 (Bno n)
def Aee(n:Nat):Nat.beq n n=true:=Br8 n
def norm_eq(l:A6 D8)(hl:l.length≤1000000000000)(hN:1000000000000<N):L3 N l=some (Mv l):=by
 unfold L3;refine iter_eq (G:=fun _=>some (Mv l)) (fun n z=>∃k:Nat,z=(((k:Int),()),(),(owR ((l.take k).filter Dy),()),())∧k≤l.length∧n=l.length-k) ?_ N l.length _ ⟨0,rfl,by omega,by omega⟩ (by omega);rintro n z rec ⟨k,rfl,hk,rfl⟩ ih;have hfl:((l.take k).filter Dy).length≤k:=by have:=Bov Dy (l.take k);rw[Bof]at this;omega
 have next:k<l.length→rec ((((k+1:Nat):Int),()),(),(owR ((l.take (k+1)).filter Dy),()),())=some (Mv l):=fun h=>ih (l.length-(k+1)) _ (by omega) ⟨k+1,rfl,by omega,rfl⟩
 by_cases I1:k<l.length
 ·have hn:=next I1
  rw[Aed l I1]at hn;simp only[dec_lt,Bnq I1,Bna,B0,Cb I1,Bnb,Ac (show k+1<9223372036854775808 by omega),B6h];generalize (l.take k).filter Dy=g at *;by_cases hg:g=[]
  ·subst hg;simp only[A6d,A9];cases hm:Dy l[k] with
   |true=>rw[hm]at hn;simpa[owR]using hn
   |false=>rw[hm]at hn;simpa[owR]using hn
  ·simp only[Ac5 hg,A9];have hf:Au (g.length + [l[k]].length) 16=true:=fit (by simp;omega) (by simp;omega);simp only[Aee,hf,Bna];cases hm:Dy l[k] with
   |true =>rw[hm]at hn;simp only[Bna,Rx]at hn⊢;simpa using hn
   |false =>rw[hm]at hn;simp only[Bnc,Ac5 hg]at hn⊢;exact hn
 ·have:k=l.length:=by omega
  subst this;rw[Boh]at *;simp only[dec_lt,Bnt I1,Bnc];have hgd:l.filter Dy=l.filter Dy:=rfl;unfold Mv;obtain⟨p1,p2⟩:=Vo (l.filter Dy);have Bk6:∀x∈l.filter Dy,Dy x=true:=fun x hx=>(Bo9.1 hx).2
  generalize l.filter Dy=g at *;by_cases hg:g=[]
  ·subst hg;simp only[A6d,A9,Ax5,List.foldl_nil];cases N with
   |zero=>omega
   |succ M=>rfl
  ·simp only[Ac5 hg,A9,Akz,Bna,Boh,Brj,Bom];have hb:Nat.ble g.length 4611686018427387903=true:=Bp0 (by omega);rw[hb,Bna];have hsl:(E0 g).length=g.length:=p1.length_eq;rw[← hsl];have Bk7:∀x∈E0 g,Dy x=true:=fun x hx=>Bk6 x (p1.mem_iff.1 hx)
   have hsb:g.length≤1000000000000:=Bop hfl hl;clear hgd p1 Bk6 next ih
   generalize E0 g=s at *;refine iter_eq (G:=fun _=>some (s.foldl G6 [])) (fun n z=>∃k:Nat,z=(((k:Int),()),(),(owR ((s.take k).foldl G6 []),some (s,s.length),()),())∧k≤s.length∧n=s.length-k) ?_ N s.length _ ⟨0,rfl,by omega,by omega⟩ (by omega);rintro n z rec ⟨k,rfl,hk,rfl⟩ ih;have hch:A4y ((s.take k).foldl G6 []):=(T0 (s.take k) [] ⟨by simp,by simp⟩ (fun x hx=>Bk7 x (List.mem_of_mem_take hx)) (p2.sublist (List.take_sublist _ _)) (by simp)).1;have hln:((s.take k).foldl G6 []).length≤k:=by have:=U0 (s.take k) [];rw[Bof]at this;simp at this;omega
   by_cases hks:k<s.length
   ·have hn:=ih (s.length-(k+1)) _ (by omega) ⟨k+1,rfl,by omega,rfl⟩;rw[Aky s hks]at hn;have c1:(decide (0≤(k:Int))&&decide ((k:Int)<(s.length:Int)))=true:=by simp;omega
    generalize Agf:(s.take k).foldl G6 []=out at *;rcases Ih out with rfl|⟨o,e1,rfl⟩
    ·simp only[A6d,dec_lt,Bnq hks,Bna,Bog,Ct,Cb hks,Bnb,Ac (show k+1<9223372036854775808 by omega)];rw[A63]at hn;simpa[owR]using hn
    ·have he1:=hch.may e1 (by simp);rw[Cl]at he1;have hlen:(o++[e1]).length=o.length+1:=by simp
     have w1:i64.wrap (((o++[e1]).length:Int)-1)=(o.length:Int):=by rw[C4 (by simp) (by omega),hlen];simp
     have c2:decide (0≤(o.length:Int))=true:=by simp
     have c3:decide ((o.length:Int)<((o++[e1]).length:Int))=true:=by simp;omega
     have g1:(o++[e1])[o.length]? = some e1:=by simp
     have w2:u64.wrap (e1.2+1)=e1.2+1:=A0z (by omega) (by omega);have hf:Au ((o++[e1]).length + [s[k]].length) 16=true:=fit (by simp at hln⊢;omega) (by simp at hln⊢;omega);simp only[Rx,dec_lt,Bnq hks,Bna,Bog,Ct,Cb hks,Bnb,Ac (show k+1<9223372036854775808 by omega),w1,c2,c3,Bpe,g1,w2,Aee,hf];rw[Sz]at hn;by_cases hm:s[k].1≤e1.2+1
     ·rw[Bo3 hm,Rx]at hn;rw[Bnq hm,Bna,← hn];simp[cond_eq_ite]
     ·rw[Bnv hm,Rx]at hn;rw[Bnt hm,Bnc,← hn];simp
   ·have:k=s.length:=by omega
    subst this;rw[Boh]at *;generalize s.foldl G6 []=out at *;rcases Ih out with rfl|⟨o,e1,rfl⟩
    ·simp only[A6d,dec_lt,Bnt hks,Bnc]
    ·simp only[Rx,dec_lt,Bnt hks,Bnc,Bog,Akz,Bna,Bqk,Boh]
theorem B3j(x:D8)(n:Int):Rt N x n=some (if x.2<n then -1 else if n<x.2 then 1 else 0):=by
 simp only[Rt,C0,Bp,cond_eq_ite,Bnb]
 grind
def half{j:Nat}(h:i<j)(hj:j≤1000000000000):i64.wrap ((u64.wrap (i64.wrap ((i:Int)+(j:Int)))).fdiv 2)=(((i+j)/2:Nat):Int):=by
 have e:(i:Int)+(j:Int)=((i+j:Nat):Int):=by omega
 rw[e,Lh (by omega),A0z (by omega) (by omega)];have:((i+j:Nat):Int).fdiv 2=(((i+j)/2:Nat):Int):=by rw[Btx _ (by omega)];omega
 rw[this,Lh (by omega)]
def B10(y:A6 D8)(n:Int)(hy:A4y y)(hl:y.length≤1000000000000)(hN:1000000000000<N) :
  ∃(i:Nat) (b:Bool),Bt N y n=some (((i:Int),b,()),(),(),())∧i≤y.length∧(∀k r,k<i→y[k]? = some r→r.2<n)∧(∀k r,i≤k→y[k]? = some r→¬r.2<n):=by
 have mono:∀(k k':Nat) (r r':D8),k<k'→y[k]? = some r→y[k']? = some r'→r.2<r'.2:=by intro k k' r r' hk h1 h2;obtain⟨l1,rfl⟩:=Bnj.1 h1;obtain⟨l2,rfl⟩:=Bnj.1 h2;have:=Bp6.1 hy.apart k k' l1 l2 hk;have h3:=Cl.1 (hy.may y[k'] (Bp5 l2));omega
 suffices H:∃r,Bt N y n=some r∧∃(i:Nat) (b:Bool),r=(((i:Int),b,()),(),(),())∧i≤y.length∧(∀(k:Nat) (r:D8),k<i→y[k]? = some r→r.2<n)∧(∀(k:Nat) (r:D8),i≤k→y[k]? = some r→¬r.2<n) by obtain⟨r,h1,i,b,rfl,h2⟩:=H;exact⟨i,b,h1,h2⟩
 unfold Bt;refine Dn (Q:=fun r:(Int×Bool×Unit)×Unit×Unit×Unit=>∃(i:Nat) (b:Bool),r=(((i:Int),b,()),(),(),())∧i≤y.length∧(∀(k:Nat) (r:D8),k<i→y[k]? = some r→r.2<n)∧(∀(k:Nat) (r:D8),i≤k→y[k]? = some r→¬r.2<n))
  (fun m z=>∃i j:Nat,z=(((i:Int),(j:Int),()),(),(),())∧i≤j∧j≤y.length∧m=j-i∧(∀(k:Nat) (r:D8),k<i→y[k]? = some r→r.2<n)∧(∀(k:Nat) (r:D8),j≤k→y[k]? = some r→¬r.2<n)) ?_ N y.length _ ⟨0,y.length,rfl,by omega,by omega,by omega,by simp,fun k r hk h=>by rw[Bpo hk]at h;cases h⟩ (by omega)
 ·rintro m z rec ⟨i,j,rfl,hij,hj,rfl,ha,hb⟩ ih;by_cases By:i<j
  ·have hh:(i+j)/2<y.length:=by omega
   simp only[dec_lt,Bnq By,Bna,half By (by omega),B0,Cb hh,Bnb,B3j];by_cases hc:y[(i+j)/2].2<n
   ·rw[Bo3 hc];simp only[show decide ((-1:Int)<0)=true from rfl,Bna,Ac (show(i+j)/2+1<9223372036854775808 by omega)];refine ih (j-((i+j)/2+1)) _ (by omega) ⟨(i+j)/2+1,j,rfl,by omega,hj,rfl,?_,hb⟩;intro k r hk hr;by_cases hk2:k<(i+j)/2
    ·have:=mono k _ r _ hk2 hr (Cb hh);omega
    ·have:k=(i+j)/2:=by omega
     subst this;rw[Cb hh]at hr;cases hr;exact hc
   ·rw[Bnv hc];have:decide ((if n<y[(i+j)/2].2 then (1:Int)else 0)<0)=false:=by split<;>rfl
    simp only[this,Bnc];refine ih ((i+j)/2-i) _ (by omega) ⟨i,(i+j)/2,rfl,by omega,by omega,rfl,ha,?_⟩;intro k r hk hr;by_cases hk2:(i+j)/2<k
    ·have:=mono _ k _ r hk2 (Cb hh) hr;omega
    ·have:k=(i+j)/2:=by omega
     subst this;rw[Cb hh]at hr;cases hr;exact hc
  ·have:j=i:=by omega
   subst this;simp only[dec_lt,Bnt By,Bnc];by_cases hil:j<y.length
   ·simp only[Bnq hil,Bna,B0,Cb hil,Bnb,B3j];exact⟨_,rfl,j,_,rfl,by omega,ha,hb⟩
   ·simp only[Bnt hil,Bnc];exact⟨_,rfl,j,_,rfl,by omega,ha,hb⟩
def Be2(l:A6 D8)(n:Int)(hl:l.length≤1000000000000)(hN:1000000000000<N):A23 N l n=some (Em l n):=by
 unfold A23;rw[norm_eq N l hl hN,Bnb];obtain⟨hc,Bmb⟩:=U7 l;have hlen:=Ac4 l;rw[← Bmb n];generalize Mv l=y at *;obtain⟨i,b,h1,h2,h3,h4⟩:=B10 N y n hc (by omega) hN;rw[h1];simp only[Bnb,dec_lt];have key:Em y n=true↔∃h:i<y.length,y[i].1≤n:=by
  rw[Fs];constructor
  ·rintro ⟨r,hr,hm,ha,hb⟩;obtain⟨k,hk⟩:=Bpu.1 hr;have hki:i≤k:=by
    rcases Bpt k i with h|h
    ·have:=h3 k r h hk;omega
    ·exact h
   obtain⟨I1,rfl⟩:=Bnj.1 hk;refine⟨by omega,?_⟩;rcases Bpt i k with h|h
   ·have hil:i<y.length:=by omega
    have:=Bp6.1 hc.apart i k hil I1 h;have h5:=h4 i y[i] (Bno _) (Cb hil);omega
   ·have:k=i:=by omega
    subst this;exact ha
  ·rintro ⟨h,ha⟩;refine⟨y[i],Bp5 h,hc.may _ (Bp5 h),ha,?_⟩;have:=h4 i y[i] (Bno _) (Cb h);omega
 by_cases hil:i<y.length
 ·simp only[Bnq hil,Bna,B0,Cb hil,Bnb,Bnf];rw[Box,key];simp[hil]
 ·simp only[Bnt hil,Bnc,Bnf];cases h:Em y n with
  |false=>rfl
  |true=>obtain⟨h',_⟩:=key.1 h;exact absurd h' hil
section
variable{kt vt:Ty}
theorem A2b(hk:kt.key=true)(a a':kt.T)(v:List vt.T)(f:Bool)(c:Nat)[DecidableEq kt.T]:∀es:J1 kt vt,Q3 a' (Hk a v f c (Ko a es))=if a'=a then some (Qo a es c,f,v)else Q3 a' es
 |[]=>by
  by_cases h:a'=a
  ·subst h;simp[Ko,Hk,Q3,Qo,(Ty.Gp kt a' a' hk).2 rfl]
  ·have:kt.eqv a' a=false:=by rw[Bqz];exact fun hh=>h ((Ty.Gp kt a' a hk).1 hh)
   simp[Ko,Hk,Q3,this,h]
 |e::r=>by
  cases he:kt.eqv a e.2.1 with
  |true =>
   have e1:=(Ty.Gp kt _ _ hk).1 he;simp only[Ko,he,Bna,Hk,Q3];by_cases h:a'=a
   ·subst h;simp[Qo,Q3,he,(Ty.Gp kt a' a' hk).2 rfl]
   ·have:kt.eqv a' a=false:=by rw[Bqz];exact fun hh=>h ((Ty.Gp kt a' a hk).1 hh)
    rw[← e1];simp[this,h]
  |false =>
   have ih:=A2b hk a a' v f c r;simp only[Ko,he,Bnc,Hk,Q3];rw[ih];by_cases h:a'=a
   ·subst h;simp[he,Qo,Q3]
   ·simp[h]
theorem B3k(a:kt.T):∀es:J1 kt vt,Sf a (P8 es)=(Q3 a es).map (·.2.2)
 |[]=>rfl
 |e::r=>by
  have ih:=B3k a r;simp only[P8,Bnh,Sf,Q3]at ih⊢;cases kt.eqv a e.2.1 with
  |true=>rfl
  |false=>exact ih
end
abbrev Part:Type:=Int×A6 D8
def tl(c:A6 Part)(dev:Int):A6 D8:=(c.filter fun p=>p.1==dev).flatMap (·.2)
structure Agq(c:List Part):Prop where
 len:c.length≤30
 runs:∀p∈c,p.2.length≤30
def A2c(c:A6 Part)(hk:k<c.length)(dev:Int):tl (c.take (k+1)) dev=if c[k].1=dev then tl (c.take k) dev++c[k].2 else tl (c.take k) dev:=by unfold tl;rw[Bp9,Cb hk,Bpm,List.flatMap_append];by_cases h:c[k].1=dev<;>simp[h]
def B6i(c:A6 Part)(hN:100<N):∃b,Ik N c=some b∧(b=true→Agq c):=by
 unfold Ik;by_cases hl:30<c.length
 ·have:decide ((30:Int)<(c.length:Int))=true:=by simp;omega
  rw[this];exact⟨false,rfl,by simp⟩
 ·have:decide ((30:Int)<(c.length:Int))=false:=by simp;omega
  rw[this,Bnc];refine Dn (Q:=fun b=>b=true→Agq c) (fun n z=>∃k:Nat,z=(((k:Int),()),(),(),())∧k≤c.length∧n=c.length-k∧∀e∈c.take k,e.2.length≤30) ?_ N c.length _ ⟨0,rfl,Bq9 _,rfl,by simp⟩ (by omega);rintro n z rec ⟨k,rfl,hk,rfl,Ue⟩ ih;simp only[dec_lt];by_cases I1:k<c.length
  ·simp only[Bnq I1,Bna,B0,Cb I1,Bnb];by_cases h1:(30:Int)<(c[k].2.length:Int)
   ·rw[Bnq h1];exact⟨false,rfl,by simp⟩
   ·rw[Bnt h1,Bnc,Ac (by omega)];refine ih (c.length-(k+1)) _ (by omega) ⟨k+1,rfl,by omega,rfl,?_⟩;intro e he;rw[Bp9,Cb I1]at he;rcases Bnk.1 he with he|he
    ·exact Ue e he
    ·simp at he;subst he;omega
  ·simp only[Bnt I1,Bnc];refine⟨true,rfl,fun _=>⟨by omega,?_⟩⟩
   rwa [Bpg (by omega)]at Ue
def Gc(n:Int):A6 Int→A6 Int
 |[]=>[n]
 |x::r=>if n≤x then n::(x::r).filter (· != n)else x::Gc n r
theorem Pt{n y:Int}:∀ {l:A6 Int},y∈Gc n l↔y=n∨y∈l
 |[]=>by simp[Gc]
 |x::r=>by
  simp only[Gc];split
  ·by_cases h:y=n<;>simp[h]
  ·rw[Bnd,Pt,Bnd];constructor
   ·rintro (h|h|h)<;>simp[h]
   ·rintro (h|h|h)<;>simp[h]
theorem Rq(n:Int):∀l:A6 Int,(Gc n l).length≤l.length+1
 |[]=>by simp[Gc]
 |x::r=>by
  simp only[Gc];split
  ·have:=Bov (· != n) (x::r);simp only[Bnx]at this⊢;omega
  ·have:=Rq n r;simp only[Bnx];omega
theorem U2(n:Int):∀ {l:A6 Int},l.Pairwise (· < ·)→(Gc n l).Pairwise (· < ·)
 |[],_=>by simp[Gc]
 |x::r,h=>by
  simp only[Gc];split
  ·rename_i hn;rw[Bod];refine⟨?_,h.filter _⟩;intro y hy;obtain⟨h1,h2⟩:=Bo9.1 hy;have h2:y≠n:=by simpa using h2
   rcases Bnd.1 h1 with e|e
   ·omega
   ·have:=(Bod.1 h).1 y e;omega
  ·rename_i hn;rw[Bod]at h⊢;refine⟨?_,U2 n h.2⟩;intro y hy;rcases Pt.1 hy with e|e
   ·omega
   ·exact h.1 y e
def Al0(l:A6 Int)(n:Int)(hl:l.length≤1000000000000)(hN:1000000000000<N):Io N l n=some (Gc n l):=by
 unfold Io;refine(iter_eq (G:=fun z=>some (bif z.1.2.1 then z.1.1++(l.drop z.1.2.2.1.toNat).filter (· != n)else z.1.1++Gc n (l.drop z.1.2.2.1.toNat))) (fun m z=>∃(out:A6 Int) (done:Bool) (k:Nat),z=((out,done,(k:Int),()),(),(),())∧k≤l.length∧m=l.length-k∧out.length≤k+1+1∧(done=false→out.length≤k)) ?_ N l.length _ ⟨[],false,0,rfl,by omega,by omega,by simp,by simp⟩ (by omega)).trans ?_
 ·rintro m z rec ⟨out,done,k,rfl,hk,rfl,ho,hd⟩ ih;by_cases I1:k<l.length
  ·have hf:∀(o:A6 Int) (x:Int),o.length≤k+3→Au (o.length + [x].length) 8=true:=fun o x h=>fit (by simp;omega) (by simp;omega)
   have e:l.drop k=l[k]::l.drop (k+1):=Bqo I1;have next:∀(o:A6 Int) (d:Bool),o.length≤k+1+1+1→(d=false→o.length≤k+1)→rec ((o,d,((k+1:Nat):Int),()),(),(),())=some (bif d then o++(l.drop (k+1)).filter (· != n)else o++Gc n (l.drop (k+1))):=by intro o d h1 h2;exact ih (l.length-(k+1)) _ (by omega) ⟨o,d,k+1,rfl,by omega,rfl,h1,h2⟩
   simp only[dec_lt,Bnq I1,Bna,B0,Cb I1,Bnb,Ac (show k+1<9223372036854775808 by omega),Ar,Ct,e];cases done with
   |true =>
    simp only[Bp8,Bnc,Bna];by_cases hn:l[k]=n
    ·have:(l[k] != n)=false:=by simp[hn]
     simp only[this,Bnc];rw[next out true (by omega) (by simp)];simp[-List.getElem_cons_drop,hn]
    ·have:(l[k] != n)=true:=by simp[hn]
     simp only[this,Bna];rw[hf out l[k] (by omega),Bna,next (out++[l[k]]) true (by simp;omega) (by simp)];simp[-List.getElem_cons_drop,hn]
   |false =>
    have ho':=hd rfl;simp only[Bpf,Bnc,Bna];by_cases hle:n≤l[k]
    ·rw[Bnq hle,Bna,hf out n (by omega),Bna];simp only[Gc,Bo3 hle];by_cases hn:l[k]=n
     ·have:(l[k] != n)=false:=by simp[hn]
      simp only[this,Bnc];rw[next (out++[n]) true (by simp;omega) (by simp)];simp[-List.getElem_cons_drop,hn]
     ·have:(l[k] != n)=true:=by simp[hn]
      simp only[this,Bna];rw[hf (out++[n]) l[k] (by simp;omega),Bna,next (out++[n]++[l[k]]) true (by simp;omega) (by simp)];simp[-List.getElem_cons_drop,hn]
    ·have:(l[k] != n)=true:=by simp;omega
     rw[Bnt hle,Bnc];simp only[this,Bna,Gc,Bnv hle];rw[hf out l[k] (by omega),Bna,next (out++[l[k]]) false (by simp;omega) (by simp;omega)];simp[-List.getElem_cons_drop]
  ·have:k=l.length:=by omega
   subst this;have hf:done=false→Au (out.length + [n].length) 8=true:=fun h=>fit (by have:=hd h;simp;omega) (by have:=hd h;simp;omega)
   simp only[dec_lt,Bnt I1,Bnc,Ct,Brj,Btk,Bom,Gc];cases done with
   |true=>rfl
   |false =>have:=hf rfl;simp only[Bqg]at this;simp[this]
 ·simp
def Ua(l:A6 D8):A6 Int:=l.foldl (fun q r=>bif Dy r then Gc (r.2+1) (Gc r.1 q)else q) []
theorem Kz:∀(l:A6 D8) (q:A6 Int),q.Pairwise (· < ·) →
  (l.foldl (fun q r=>bif Dy r then Gc (r.2+1) (Gc r.1 q)else q) q).Pairwise (· < ·) ∧
  (∀p,p∈l.foldl (fun q r=>bif Dy r then Gc (r.2+1) (Gc r.1 q)else q) q↔p∈q∨∃r∈l,Dy r=true∧(p=r.1∨p=r.2+1)) ∧
  (l.foldl (fun q r=>bif Dy r then Gc (r.2+1) (Gc r.1 q)else q) q).length≤q.length+2*l.length
 |[],q,h=>⟨h,by simp,by simp⟩
 |r::l,q,h=>by
  simp only[Bp1];cases hm:Dy r with
  |false =>obtain⟨i1,i2,i3⟩:=Kz l q h;simp only[Bnc];refine⟨i1,fun p=>?_,by simp only[Bnx];omega⟩;rw[i2 p];simp[hm]
  |true =>
   obtain⟨i1,i2,i3⟩:=Kz l (Gc (r.2+1) (Gc r.1 q)) (U2 _ (U2 _ h));have h1:=Rq (r.2+1) (Gc r.1 q);have h2:=Rq r.1 q;simp only[Bna];refine⟨i1,fun p=>?_,by simp only[Bnx];omega⟩;rw[i2 p,Pt,Pt];simp only[Bnd,exists_eq_or_imp,hm,Bsy]
   grind
def Om(l:A6 D8):(Ua l).Pairwise (· < ·)∧(∀p,p∈Ua l↔∃r∈l,Dy r=true∧(p=r.1∨p=r.2+1))∧(Ua l).length≤2*l.length:=by obtain⟨h1,h2,h3⟩:=Kz l [] (by simp);exact⟨h1,fun p=>by have:=h2 p;simpa[Ua]using this,by simpa[Ua]using h3⟩
def B6j(a b:A6 D8)(hl:a.length+b.length≤100000000000)(hN:1000000000000<N):Iu N a b=some (Ua (a++b)):=by
 unfold Iu;have f1:Au (0+a.length) 16=true:=fit (by omega) (by omega);have f2:Au (a.length+b.length) 16=true:=fit (by omega) (by omega);simp only[Bou,f1,f2,Bna];refine(Hy (a++b) (fun q r=>bif Dy r then Gc (r.2+1) (Gc r.1 q)else q) [] (fun q=>some q) ?_ ?_ N (by simp;omega))
 ·intro rec k q hk hq;have hlq:q.length≤2*k:=by have:=(Kz ((a++b).take k) [] (by simp)).2.2;rw[← hq]at this;simp only[Bpj,Bof]at this;omega
  have hlen:(a++b).length=a.length+b.length:=by simp
  simp only[dec_lt,Bnq hk,Bna,B0,Cb hk,Bnb,Bb3];cases hm:Dy (a++b)[k] with
  |false=>simp only[Bnc,Ac (show k+1<9223372036854775808 by omega)]
  |true =>have hmm:=Cl.1 hm;have h2:=Rq (a++b)[k].1 q;simp only[Bna];rw[Al0 N q _ (by omega) hN,Bnb,A0z (by omega) (by omega),Al0 N _ _ (by omega) hN,Bnb,Ac (show k+1<9223372036854775808 by omega)]
 ·intro rec;simp only[dec_lt,Bnt (Boy _),Bnc]
def seg{l:A6 D8}(h0:(Ua l)[k]? = some lo)(h1:(Ua l)[k+1]? = some hi)(ha:lo≤n)(hb:n<hi):Em l n=Em l lo:=by
 obtain⟨p1,p2,_⟩:=Om l;have gap:∀p∈Ua l,p≤lo∨hi≤p:=by
  intro p hp;obtain⟨j,hj⟩:=Bpu.1 hp;obtain⟨l0,rfl⟩:=Bnj.1 h0;obtain⟨l1,rfl⟩:=Bnj.1 h1;obtain⟨lj,rfl⟩:=Bnj.1 hj;have hp:=Bp6.1 p1;rcases Bu5 j k with h|h|h
  ·have:=hp j k lj l0 h;omega
  ·subst h;omega
  ·by_cases h2:j=k+1
   ·subst h2;omega
   ·have:=hp (k+1) j l1 lj (by omega);omega
 rw[Box,Fs,Fs];constructor
 ·rintro ⟨r,hr,hm,h2,h3⟩;have:=gap r.1 ((p2 r.1).2 ⟨r,hr,hm,.inl rfl⟩);exact⟨r,hr,hm,by omega,by omega⟩
 ·rintro ⟨r,hr,hm,h2,h3⟩;have:=gap (r.2+1) ((p2 (r.2+1)).2 ⟨r,hr,hm,.inr rfl⟩);exact⟨r,hr,hm,by omega,by omega⟩
def X6(out:A6 D8)(lo hi:Int):A6 D8 :=
 match out.getLast? with
 |none=>[(lo,hi-1)]
 |some e=>if e.2+1=lo then out.set (out.length-1) (e.1,hi-1)else out++[(lo,hi-1)]
def A66(o:A6 D8)(e:D8)(lo hi:Int):X6 (o++[e]) lo hi=if e.2+1=lo then o++[(e.1,hi-1)]else (o++[e])++[(lo,hi-1)]:=by
 simp only[X6,Bsk,Bs5,Brh];split
 ·simp
 ·rfl
def A8u(h:∀r∈out,Dy r=true)(h1:1≤lo)(h2:lo<hi)(h3:hi≤281474976710656) :
  (∀r∈X6 out lo hi,Dy r=true)∧(∀n,Em (X6 out lo hi) n=true↔Em out n=true∨(lo≤n∧n<hi))∧(X6 out lo hi).length≤out.length+1:=by
 rcases Ih out with rfl|⟨o,e,rfl⟩
 ·refine⟨?_,?_,by simp[X6]⟩
  ·intro r hr;simp[X6]at hr;subst hr;rw[Cl];simp only;omega
  ·intro n;simp only[X6,List.getLast?_nil,Em,Brc,Bs3,Brs,K5,Cl,Bon,Bue];omega
 ·have he:=Cl.1 (h e (by simp));rw[A66];split
  ·rename_i heq;refine⟨?_,?_,by simp⟩
   ·intro r hr;rcases Bnk.1 hr with hr|hr
    ·exact h r (by simp[hr])
    ·simp at hr;subst hr;rw[Cl];simp only;omega
   ·intro n;rw[Dj,Dj];simp only[Em,Brc,Bs3,Brs,Bpc,K5,Cl];constructor
    ·rintro (h|h)
     ·exact .inl (.inl h)
     ·omega
    ·rintro ((h|h)|h)
     ·exact .inl h
     ·exact .inr (by omega)
     ·exact .inr (by omega)
  ·refine⟨?_,?_,by simp⟩
   ·intro r hr;rcases Bnk.1 hr with hr|hr
    ·exact h r hr
    ·simp at hr;subst hr;rw[Cl];simp only;omega
   ·intro n;rw[Dj];simp only[Em,Brc,Bs3,Brs,Bpc,K5,Cl];constructor
    ·rintro (h|h)
     ·exact .inl h
     ·omega
    ·rintro (h|h)
     ·exact .inl h
     ·exact .inr (by omega)
structure A8v(l:List D8)(k:Nat)(out:List D8):Prop where
 may:∀r∈out,Dy r=true
 len:out.length≤k
 Em:∀n,Em out n=true↔Em l n=true∧∃p,(Ua l)[k]? = some p∧n<p
def Aog(l:A6 D8):A8v l 0 []:=by
 refine⟨by simp,by simp,fun n=>?_⟩;rw[Vm];simp only[Bon,false_iff];rintro ⟨h1,p,hp,hn⟩;obtain⟨r,hr,hm,h2,h3⟩:=Fs.1 h1;obtain⟨p1,p2,_⟩:=Om l;obtain⟨j,hj⟩:=Bpu.1 ((p2 r.1).2 ⟨r,hr,hm,.inl rfl⟩);obtain⟨l0,rfl⟩:=Bnj.1 hp;obtain⟨lj,e⟩:=Bnj.1 hj;rcases Bpl j with h|h
 ·subst h;omega
 ·have:=Bp6.1 p1 0 j l0 lj h;omega
def B61{l:A6 D8}(h0:(Ua l)[k]? = some lo)(h1:(Ua l)[k+1]? = some hi):lo<hi∧1≤lo∧hi≤281474976710656:=by obtain⟨p1,p2,_⟩:=Om l;obtain⟨r,hr,hm,h⟩:=(p2 lo).1 (Boe h0);obtain⟨r',hr',Ut,h'⟩:=(p2 hi).1 (Boe h1);obtain⟨l0,rfl⟩:=Bnj.1 h0;obtain⟨l1,rfl⟩:=Bnj.1 h1;have:=Bp6.1 p1 k (k+1) l0 l1 (by omega);rw[Cl]at hm Ut;omega
def B3d{l:A6 D8}(h:A8v l k out)(h0:(Ua l)[k]? = some lo)(h1:(Ua l)[k+1]? = some hi)(hc:Xg.Em l lo=true):A8v l (k+1) (X6 out lo hi):=by
 obtain⟨e1,e2,e3⟩:=B61 h0 h1;obtain⟨s1,s2,s3⟩:=A8u h.may e2 e1 e3;refine⟨s1,by have:=h.len;omega,fun n=>?_⟩;rw[s2 n,h.Em n,h0,h1];simp only[Bnf,Bth];constructor
 ·rintro (⟨a1,a2⟩|⟨a1,a2⟩)
  ·exact⟨a1,by omega⟩
  ·exact⟨by rw[seg h0 h1 a1 a2];exact hc,a2⟩
 ·rintro ⟨a1,a2⟩;by_cases h:n<lo
  ·exact .inl ⟨a1,h⟩
  ·exact .inr ⟨by omega,a2⟩
def Awl{l:A6 D8}(h:A8v l k out)(h0:(Ua l)[k]? = some lo)(h1:(Ua l)[k+1]? = some hi)(hc:Xg.Em l lo=false):A8v l (k+1) out:=by
 obtain⟨e1,e2,e3⟩:=B61 h0 h1;refine⟨h.may,by have:=h.len;omega,fun n=>?_⟩;rw[h.Em n,h0,h1];simp only[Bnf,Bth];constructor
 ·rintro ⟨a1,a2⟩;exact⟨a1,by omega⟩
 ·rintro ⟨a1,a2⟩;by_cases h:n<lo
  ·exact⟨a1,h⟩
  ·rw[seg h0 h1 (by omega) a2,hc]at a1;cases a1
def Awm{l:A6 D8}(h:A8v l k out)(hk:(Ua l).length≤k+1)(hk2:k<(Ua l).length∨(Ua l).length=0)(n:Int):Xg.Em out n=Xg.Em l n:=by
 rw[Box,h.Em n];constructor
 ·exact fun hh=>hh.1
 ·intro hc;refine⟨hc,?_⟩;obtain⟨r,hr,hm,h2,h3⟩:=Fs.1 hc;obtain⟨p1,p2,_⟩:=Om l;obtain⟨j,hj⟩:=Bpu.1 ((p2 (r.2+1)).2 ⟨r,hr,hm,.inr rfl⟩);obtain⟨lj,e⟩:=Bnj.1 hj;have I1:k<(Ua l).length:=by omega
  refine⟨(Ua l)[k],Cb I1,?_⟩;rcases Bpt j k with h|h
  ·have:=Bp6.1 p1 j k lj I1 h;omega
  ·have:j=k:=by omega
   subst this;omega
def hasB(c:A6 Part)(d:Int×Int):Bool:=decide (0<d.1)&&Em (tl c d.1) d.2
def Ax6{l:A6 D8}(h:A4y l):Pc.Ee l:=⟨h.may,h.apart⟩
def Aon(l:A6 D8):Mv l=Pc.P1 l:=Pc.Asg (Ax6 (U7 l).1) (U7 l).2
structure Sm(c:List Part):Prop where
 len:c.length≤1000000000
 W8:Pc.W8 c≤1000000000
variable{c:A6 Part}
def Agq.sm(h:Agq c):Sm c:=by
 refine⟨by have:=h.len;omega,?_⟩;have key:∀c:A6 Part,(∀p∈c,p.2.length≤30)→Pc.W8 c≤30*c.length:=by
  intro c;induction c with
  |nil=>intro _;simp[Pc.W8]
  |cons p c ih =>
   intro h;have h1:=ih fun q hq=>h q (by simp[hq])
   have h2:=h p (by simp);rw[Pc.A0n,Bnx];omega
 have:=key c h.runs;have:=h.len;omega
def Al1(c:A6 Part)(k:Nat)(d:Int):(tl (c.take k) d).length≤Pc.W8 c:=by
 have h1:=Pc.Aof (c.take k) d;have h2:Pc.W8 c=Pc.W8 (c.take k)+Pc.W8 (c.drop k):=by rw[← Pc.Ak7,Bqs]
 exact Bop h1 (by omega)
def At6{p:Part}(h:p∈c):p.2.length≤Pc.W8 c:=by
 induction c with
 |nil=>simp at h
 |cons q c ih =>
  rw[Pc.A0n];rcases Bnd.1 h with e|h
  ·subst e;omega
  ·have:=ih h;omega
def Ax7(c:A6 Part)(hc:Sm c)(hN:1000000000000<N):∃(es:F8 (.int .u16) (.sl Bn)) (M0:Nat),T1 N c=some (((),()),(),(),(es,M0),())∧WfE es M0∧es.length≤c.length∧(∀e∈es,0<e.2.1)∧∀dev:Int,0<dev→(Sf (kt:=.int .u16) (vt:=.sl Bn) dev es).getD []=tl c dev:=by
 suffices H:∃r,T1 N c=some r∧∃(es:F8 (.int .u16) (.sl Bn)) (M0:Nat),r=(((),()),(),(),(es,M0),())∧WfE es M0∧es.length≤c.length∧(∀e∈es,0<e.2.1)∧∀dev:Int,0<dev→(Sf (kt:=.int .u16) (vt:=.sl Bn) dev es).getD []=tl c dev by obtain⟨r,h1,es,M0,rfl,h2⟩:=H;exact⟨es,M0,h1,h2⟩
 unfold T1;refine Dn (Q:=fun r:(Unit×Unit)×Unit×Unit×(A6 (Nat×Int×A6 (Int×Int))×Nat)×Unit=>∃(es:F8 (.int .u16) (.sl Bn)) (M0:Nat),r=(((),()),(),(),(es,M0),())∧WfE es M0∧es.length≤c.length∧(∀e∈es,0<e.2.1)∧∀dev:Int,0<dev→(Sf (kt:=.int .u16) (vt:=.sl Bn) dev es).getD []=tl c dev)
  (fun m z=>∃(k:Nat) (es:J1 (.int .u16) Bn) (M0:Nat),z=(((k:Int),()),(),(),(es,M0),())∧k≤c.length∧m=c.length-k∧(∀dev:Int,A7b (kt:=.int .u16) dev es=true)∧(∀dev:Int,0<dev→A83 (kt:=.int .u16) dev es=tl (c.take k) dev)∧WfE (P8 es) M0∧(P8 es).length≤k∧∀x∈(P8 es).map (·.2.1),0<x) ?_ N c.length _ ⟨0,[],0,rfl,by omega,by omega,fun _=>rfl,fun _ _=>rfl,.nil 0,Bno _,by simp[P8]⟩ (by have:=hc.len;omega)
 ·rintro m z rec ⟨k,es,M0,rfl,hk,rfl,hf,hv,hw,hl,hp⟩ ih;have hlen:=hc.len;by_cases I1:k<c.length
  ·simp only[dec_lt,Bnq I1,Bna,B0,Cb I1,Bnb,Ac (show k+1<9223372036854775808 by omega)];by_cases h0:0<c[k].1
   ·have hb1:=Al1 c k c[k].1;have hb2:=At6 (Bp5 I1);have hb3:=hc.W8;rw[Bnq h0,Bna];have e1:Aqv (.int .u16) Bn c[k].1 es=true:=hf c[k].1;have e2:Af3 (.int .u16) Bn c[k].1 es=tl (c.take k) c[k].1:=hv c[k].1 h0;rw[e1,Bna,e2];have Acf:Au ((tl (c.take k) c[k].1).length+c[k].2.length) 16=true:=fit (by omega) (by omega);rw[Acf,Bna];have Bhi:P8 (Hk (kt:=.int .u16) (vt:=Bn) c[k].1 (tl (c.take k) c[k].1++c[k].2) true M0 (Ko (kt:=.int .u16) c[k].1 es))=N8 (kt:=.int .u16) (vt:=.sl Bn) c[k].1 (tl (c.take k) c[k].1++c[k].2) M0 (P8 es):=by rw[Aqp,Aqq]
    have B8v:P8 (Ko (kt:=.int .u16) (vt:=Bn) c[k].1 es)=P8 es:=Aqq _ es;refine ih (c.length-(k+1)) _ (by omega) ⟨k+1,_,_,rfl,by omega,rfl,?_,?_,?_,?_,?_⟩
    ·intro dev;show A7b dev (Hk c[k].1 _ true M0 (Ko c[k].1 es))=true;unfold A7b;rw[A2b rfl];by_cases he:dev=c[k].1
     ·rw[Bo3 he]
     ·rw[Bnv he];exact hf dev
    ·intro dev hd;show A83 dev (Hk c[k].1 _ true M0 (Ko c[k].1 es))=_;unfold A83;rw[A2b rfl,A2c c I1];by_cases he:c[k].1=dev
     ·subst he;simp
     ·rw[Bnv (Bq5 he),Bnv he];exact hv dev hd
    ·show WfE (P8 (Hk c[k].1 _ true M0 (Ko c[k].1 es))) (Ry c[k].1 (P8 (Ko c[k].1 es)) M0);rw[Bhi,B8v];exact hw.put rfl _ _
    ·show(P8 (Hk c[k].1 _ true M0 (Ko c[k].1 es))).length≤k+1;rw[Bhi];have:=Abm (kt:=.int .u16) (vt:=.sl Bn) c[k].1 (tl (c.take k) c[k].1++c[k].2) M0 (P8 es);omega
    ·show ∀x∈(P8 (Hk c[k].1 _ true M0 (Ko c[k].1 es))).map (·.2.1),0<x;rw[Bhi];intro x hx;rcases(Ady rfl _ _ _ _ x).1 hx with e|hx
     ·subst e;exact h0
     ·exact hp x hx
   ·rw[Bnt h0,Bnc];refine ih (c.length-(k+1)) _ (by omega) ⟨k+1,es,M0,rfl,by omega,rfl,hf,?_,hw,by omega,hp⟩;intro dev hd;rw[A2c c I1,Bnv (by omega)];exact hv dev hd
  ·have:k=c.length:=by omega
   subst this;simp only[dec_lt,Bnt I1,Bnc];refine⟨_,rfl,P8 es,M0,rfl,hw,hl,fun e he=>hp _ (Bnr (f:=(·.2.1)) he),fun dev hd=>?_⟩;have:=hv dev hd;rw[Boh]at this;rw[B3k,← this];unfold A83;cases Q3 (kt:=.int .u16) (vt:=Bn) dev es<;>rfl
theorem A2d:∀(l:A6 Nat) (b:Nat),I6 (l++[b])=some (l,b)
 |[],b=>rfl
 |a::l,b=>by
  have ih:=A2d l b;cases l with
  |nil=>rfl
  |cons c r =>simp only[Bpw]at ih⊢;unfold I6;rw[ih]
theorem A6e{kt vt:Ty}:∀ {es:F8 kt vt} {e:Nat×kt.T×vt.T},(es.map (·.1)).Nodup→e∈es→A3r e.1 es=some e
 |[],e,_,h=>by simp at h
 |x::r,e,hn,h=>by
  rw[Bnh,Boi]at hn;simp only[A3r];rcases Bnd.1 h with rfl|h
  ·simp
  ·have:x.1≠e.1:=fun hh=>hn.1 (hh▸Bnr (f:=(·.1)) h)
   rw[nbF this,Bnc,A6e hn.2 h]
def A72(d:F8 (.int .u16) (.sl Bn)):A6 Part:=(d.map fun e=>((e.2.1,Mv e.2.2):Part)).filter fun p=>!p.2.isEmpty
def owP(g:A6 Part):A7 (A6 Part×Nat):=match g with
 |[]=>none
 |a::r=>some (a::r,(a::r).length)
def A6f(d:F8 (.int .u16) (.sl Bn))(e:Nat×Int×A6 (Int×Int)):A72 (d++[e])=if (Mv e.2.2).isEmpty then A72 d else A72 d++[(e.2.1,Mv e.2.2)]:=by unfold A72;rw[Bo4,Bpm];cases h:(Mv e.2.2).isEmpty<;>simp[h]
def Bb4(d:F8 (.int .u16) (.sl Bn)):(A72 d).length≤d.length:=by unfold A72;have:=Bov (fun p:Part=>!p.2.isEmpty) (d.map fun e=>((e.2.1,Mv e.2.2):Part));simpa using this
def Aoo{d es:F8 (.int .u16) (.sl Bn)}(h:d.Perm es):(A72 d).Perm (A72 es):=(h.map _).filter _
def Aef{es:F8 (.int .u16) (.sl Bn)}(h:WfE es M0):Yo Us (A72 es)=true:=by
 rw[A0h];have hk:(es.map (·.2.1)).Pairwise (·≠·):=h.keys;unfold A72;refine Br9 _ ?_;rw[Bra]at hk⊢;refine hk.imp fun {a b} hab=>?_
 rw[A67,A67];simp only[Bpk];exact Int.lt_or_gt_of_ne hab
def Aeg{α:Type}{cf:α→α→Int}{a b:A6 α}(h:a.Perm b)(hd:Yo cf b=true):Yo cf a=true:=by rw[A0h]at *;exact(h.pairwise_iff (R:=fun x y=>ltOf cf x y=true∨ltOf cf y x=true) (fun {x y} h=>h.symm)).2 hd
def A6g{α:Type}(cf:α→α→Int):A7h cf ([]:A6 α)=[]:=List.perm_nil.1 (Brg _ _)
def B11{α:Type}(a:α)(r:A6 α):decide ((0:Int)<((a::r).length:Int))=true:=by rw[Bpk,Bnx];omega
def At7(es:F8 (.int .u16) (.sl Bn)):A6 Part:=A7h Us (A72 es)
def Bb5(es:F8 (.int .u16) (.sl Bn))(M0:Nat)(hw:WfE es M0)(hl:es.length≤1000000000)(hv:∀e∈es,e.2.2.length≤1000000000)(hN:1000000000000<N):Yq N (es,M0)=some ((At7 es,()),(),(),()):=by
 unfold Yq;refine B0g (es:=es) hw.born (fun d z=>z=((),(),(owP (A72 d),()),(M0,d.map (·.1),M0),())) _ ?_ N (by omega) rfl;rintro rec d z hd rfl ih;have hold:Rz M0 M0 es=true:=Asc hw.lt hw.lt;have hdl:=hd.len;have hpl:=Bb4 d;have step:∀e∈Bx (d.map (·.1)) es,I6 (d.map (·.1)++[e.1])=some (d.map (·.1),e.1)∧Jt (.int .u16) Bn.sl e.1 es=some e∧L3 N e.2.2=some (Mv e.2.2):=by intro e he;have hm:=(Wz.1 he).1;exact⟨A2d _ _,A6e hw.born hm,norm_eq N _ (by have:=hv e hm;omega) hN⟩
 have seen:∀e:Nat×Int×A6 (Int×Int),d.map (·.1)++[e.1]=(d++[e]).map (·.1):=fun e=>by simp
 cases hp:A72 d with
 |nil =>
  simp only[owP,A9,hold,Bna,Br8];by_cases hn:Bx (d.map (·.1)) es=[]
  ·rw[hn,Vz];have Ot:=Aoo (hd.all hw.born hn);rw[hp]at Ot;have:A72 es=[]:=Bux.1 Ot;simp only[At7,this,A6g]
  ·refine A01 hn fun e he=>?_
   obtain⟨s1,s2,s3⟩:=step e he;simp only[s1,s2,s3,Bnb];cases hy:Mv e.2.2 with
   |nil =>simp only[Bpj];refine ih e he _ ?_;rw[A6f,hy,seen];simp[hp,owP]
   |cons a r =>have:decide ((0:Int)<((a::r).length:Int))=true:=B11 a r;rw[this,Bna];refine ih e he _ ?_;rw[A6f,hy,seen];simp[hp,owP]
 |cons q0 qs =>
  have e1:(q0::qs).length≤1000000000:=by rw[← hp];omega
  simp only[owP,A9,hold,Bna,Br8];have Bb6:Nat.ble (q0::qs).length (q0::qs).length=true:=Bp0 (Bno _);have Ax8:Nat.ble (q0::qs).length 4611686018427387903=true:=Bp0 (by omega);by_cases hn:Bx (d.map (·.1)) es=[]
  ·have Ot:=Aoo (hd.all hw.born hn);rw[hp]at Ot;have Ax9:A4c (q0::qs)=true:=Aeg Ot (Aef hw);have hs:Py (q0::qs)=At7 es:=by obtain⟨p,s⟩:=Ib A0q (q0::qs);exact A0i A0q (Aef hw) (p.trans Ot) s
   have hsl:(At7 es).length=(q0::qs).length:=by rw[← hs];exact(Ib A0q (q0::qs)).1.length_eq
   rw[hn,Vz,Bb6,Bna,Ax8,Bna,Boh,Brj,Ax9,Bna,hs,Bom];have Bb7:Nat.ble (0+(q0::qs).length) (At7 es).length=true:=Bp0 (by omega);rw[Bb7];simp only[Bna,Bqk];rw[← hsl,Boh]
  ·refine A01 hn fun e he=>?_
   obtain⟨s1,s2,s3⟩:=step e he;simp only[s1,s2,s3,Bnb];cases hy:Mv e.2.2 with
   |nil =>simp only[Bpj];refine ih e he _ ?_;rw[A6f,hy,seen];simp[hp,owP]
   |cons a r =>have:decide ((0:Int)<((a::r).length:Int))=true:=B11 a r;rw[this,Bna];have Acf:Au ((q0::qs).length + [((e.2.1,a::r):Part)].length) 32=true:=fit (by simp only[Bqg];omega) (by simp only[Bqg];omega);rw[Acf,Bna];refine ih e he _ ?_;rw[A6f,hy,seen];simp[hp,owP]
def Axa{es:F8 (.int .u16) (.sl Bn)}(hw:WfE es M0)(hp:∀e∈es,0<e.2.1):Pc.Vn (At7 es):=by
 obtain⟨p,s⟩:=Ib A0q (A72 es);have hs:=Zc p (Aef hw) s;have mem:∀q∈At7 es,∃e∈es,q=(e.2.1,Mv e.2.2)∧Mv e.2.2≠[]:=by intro q hq;have hq:=p.mem_iff.1 hq;obtain⟨h1,h2⟩:=Bo9.1 hq;obtain⟨e,he,rfl⟩:=Bnp.1 h1;exact⟨e,he,rfl,by intro hh;simp[hh]at h2⟩
 refine⟨?_,?_,?_,?_⟩
 ·refine hs.imp fun {a b} h=>?_
  rw[A67]at h;simpa using h
 ·intro q hq;obtain⟨e,he,rfl,_⟩:=mem q hq;exact hp e he
 ·intro q hq;obtain⟨e,he,rfl,h⟩:=mem q hq;exact h
 ·intro q hq;obtain⟨e,he,rfl,_⟩:=mem q hq;exact Ax6 (U7 _).1
def Be3{es:F8 (.int .u16) (.sl Bn)}(hw:WfE es M0)(hp:∀e∈es,0<e.2.1){dev:Int}(hd:0<dev):Pc.tl (At7 es) dev=Mv ((Sf (kt:=.int .u16) (vt:=.sl Bn) dev es).getD []):=by
 have hc:=Axa hw hp;obtain⟨p,s⟩:=Ib A0q (A72 es);cases hm:Sf (kt:=.int .u16) (vt:=.sl Bn) dev es with
 |none =>
  have hn:=(Aob (kt:=.int .u16) (vt:=.sl Bn) rfl).1 hm;rw[Pc.A64]
  ·simp only[Option.getD_none];rw[Aon,Pc.Abt]
  ·intro q hq he;obtain⟨h1,_⟩:=Bo9.1 (p.mem_iff.1 hq);obtain⟨e,he',rfl⟩:=Bnp.1 h1;exact hn (he▸Bnr (f:=(·.2.1)) he')
 |some v =>
  obtain⟨i,hi⟩:=(Abl (kt:=.int .u16) (vt:=.sl Bn) rfl hw.keys).1 hm;simp only[Bs1];by_cases hv:Mv v=[]
  ·rw[hv,Pc.A64];intro q hq he;obtain⟨h1,h2⟩:=Bo9.1 (p.mem_iff.1 hq);obtain⟨e,he',rfl⟩:=Bnp.1 h1;have he2:Sf (kt:=.int .u16) (vt:=.sl Bn) e.2.1 es=some e.2.2:=(Abl (kt:=.int .u16) (vt:=.sl Bn) rfl hw.keys).2 ⟨e.1,he'⟩;have he:e.2.1=dev:=he;rw[he,hm]at he2;cases he2;simp[hv]at h2
  ·have:((dev,Mv v):Part)∈At7 es:=p.mem_iff.2 (Bo9.2 ⟨Bnp.2 ⟨(i,dev,v),hi,rfl⟩,by simp[hv]⟩);exact hc.Bak this
def Axb(c:A6 Part)(hc:Sm c)(hN:1000000000000<N):Xa N c=some (Pc.Awk c):=by
 unfold Xa;obtain⟨es,M0,h1,hw,hl,hp,hv⟩:=Ax7 N c hc hN;have hlen:=hc.len;rw[h1,Bnb,Bb5 N es M0 hw (by omega) ?_ hN,Bnb]
 ·refine Bo7 some (Pc.Bdq (Axa hw hp) fun d n=>?_);unfold Pc.A6t;by_cases hd:0<d
  ·rw[Be3 hw hp hd,hv d hd,Aon,Pc.Rp];rfl
  ·simp[hd]
 ·intro e he;have he2:Sf (kt:=.int .u16) (vt:=.sl Bn) e.2.1 es=some e.2.2:=(Abl (kt:=.int .u16) (vt:=.sl Bn) rfl hw.keys).2 ⟨e.1,he⟩;have:=hv e.2.1 (hp e he);rw[he2]at this;simp only[Bs1]at this;rw[this];exact Bop (Pc.Aof c _) hc.W8
def ltE(x y:Ev):Bool:=ltOf L0 x.1 y.1
def eqE(x y:Ev):Bool:=x.1.1==y.1.1&&x.1.2==y.1.2
def Bmc:LO ltE eqE where
 asymm x y h:=by unfold ltE at *;rw[Ur]at *;simp at *;omega
 ntrans x y z h1 h2:=by unfold ltE at *;rw[Ur]at *;simp at *;omega
 eq_def x y:=by unfold ltE eqE;rw[Ur,Ur,Box];simp;omega
def Aop(a:A6 (Int×Int)):(Ax4 a).length≤a.length:=by have:=(A4x a [] (by simp[Li])).2.2;simpa[Ax4]using this
def Al2(l:A6 Ev)(hl:l.length≤100)(G3:∀e∈l,smE e)(hN:1000000<N):Dh N l=some (H6 (l.flatMap dsE)):=by
 rw[A7l];unfold Dh;have Bfc:∀(m:A6 Ev) (q:A6 (Int×Int)),m.foldl (fun q e=>(dsE e).foldl (fun q d=>P5 d q) q) q=(m.flatMap dsE).foldl (fun q d=>P5 d q) q:=by
  intro m;induction m with
  |nil=>intro q;rfl
  |cons e r ih=>intro q;rw[Bp1,ih,Bu6,Bsd]
 rw[Hy l (fun q e=>(dsE e).foldl (fun q d=>P5 d q) q) [] (fun a=>some a) ?_ ?_ N (by omega),Bfc]
 ·rfl
 ·intro rec k a hk ha;rw[Bfc]at ha;have hal:a.length≤5001*100:=by rw[ha];have h1:=Aop ((l.take k).flatMap dsE);have:=Ac3 (B3i G3 k);rw[Bof]at this;unfold Ax4 at h1;omega
  have hk2:l[k].2.2.2.2.2.length≤5000:=G3 _ (Bp5 hk);simp only[dec_lt,Bnq hk,Bna,B0,Cb hk,Bnb];rw[A6c N a _ (by omega) hN];simp only[Bnb];have hpl:=Yt l[k].1 a;generalize hp:P5 l[k].1 a=p at hpl;rw[Hy l[k].2.2.2.2.2 (fun q d=>P5 d q) p (fun a=>rec ((a,i64.wrap ((k:Int)+1),()),(),(),())) ?_ ?_ N (by omega)]
  ·rw[Ac (by omega),← hp];rfl
  ·intro Amf j b hj hb;have hbl:b.length≤5001*100+5002:=by
    rw[hb];have:∀(m q:A6 (Int×Int)),(m.foldl (fun q d=>P5 d q) q).length≤q.length+m.length:=by
     intro m;induction m with
     |nil=>simp
     |cons d r ih=>intro q;rw[Bp1];have:=ih (P5 d q);have:=Yt d q;simp;omega
    have:=this (l[k].2.2.2.2.2.take j) p;rw[Bof]at this;omega
   simp only[dec_lt,Bnq hj,Bna,B0,Cb hj,Bnb];rw[A6c N b _ (by omega) hN];simp only[Bnb];rw[Ac (by omega)]
  ·intro Amf;simp only[dec_lt,Bnt (Boy _),Bnc]
 ·intro rec;simp only[dec_lt,Bnt (Boy _),Bnc]
theorem Bb8(x y:Ev):(L0 x.1 y.1==0)=eqE x y:=by
 unfold eqE L0;rw[Box];simp only[Brv,Boo]
 grind
def B12(l:A6 Ev)(e:Ev)(hl:l.length≤100)(hN:10000<N):Lu N l e=some (Asd ltE eqE e l):=by
 unfold Lu;refine Asb ?_;refine Dn (Q:=fun r=>r=Asd ltE eqE e l) (fun n z=>∃(k:Nat) (out:A6 Ev) (done:Bool),z=((out,done,(k:Int),()),(),(),())∧k≤l.length∧out.length≤k+cond done 1 0∧n=l.length-k ∧
  Asd ltE eqE e l=cond ((l.drop k).any (eqE e)) l (out++cond done (l.drop k) (A8m ltE e (l.drop k)))) ?_ N l.length _ ⟨0,[],false,rfl,Bq9 _,by simp,by simp,rfl⟩ (by omega)
 rintro n z rec ⟨k,out,done,rfl,hk,ho',rfl,hT⟩ ih;have ho:out.length≤k+1:=by cases done<;>simp at ho'<;>omega
 simp only[dec_lt];by_cases I1:k<l.length
 ·have hd:l.drop k=l[k]::l.drop (k+1):=Bqo I1;rw[hd]at hT;generalize l[k]=x at *;have gx:l[k]? = some x:=by
   have:(l.drop k)[0]? = some x:=by rw[hd];rfl
   rwa [Bp3,Br0]at this
  simp only[Bnq I1,Bna,B0,gx,Bnb,A6b,Bb8,gtD,Ar];rw[Bmc.eq_symm];cases hx:eqE e x with
  |true =>simp only[Bna];refine⟨_,rfl,?_⟩;rw[hT];simp[hx]
  |false =>
   simp only[Bnc];have hT':Asd ltE eqE e l=cond ((l.drop (k+1)).any (eqE e)) l (out++cond done (x::l.drop (k+1)) (A8m ltE e (x::l.drop (k+1)))):=by rw[hT];simp[hx]
   have hw:i64.wrap ((k:Int)+1)=((k+1:Nat):Int):=Ac (by omega);have hg:Y2 e.1 x.1=ltE e x:=rfl;have hf1:Au (out.length + [x].length) 80=true:=fit (by simp;omega) (by simp;omega);have hf2:Au (out.length + [e].length) 80=true:=fit (by simp;omega) (by simp;omega);have hf3:Au ((out++[e]).length + [x].length) 80=true:=fit (by simp;omega) (by simp;omega);rw[hg];cases By:ltE e x with
   |true =>
    cases done with
    |true =>simp only[Bna,Bp8,Bnc,hf1,hw];refine ih (l.length-(k+1)) _ (by omega) ⟨k+1,out++[x],true,rfl,by omega,by simp at ho'⊢;omega,rfl,?_⟩;rw[hT'];simp
    |false =>simp only[Bna,Bpf,hf2,hf3,hw];refine ih (l.length-(k+1)) _ (by omega) ⟨k+1,out++[e]++[x],true,rfl,by omega,by simp at ho'⊢;omega,rfl,?_⟩;rw[hT'];simp[B0h By]
   |false =>simp only[Bnc,hf1,hw,Bna];refine ih (l.length-(k+1)) _ (by omega) ⟨k+1,out++[x],done,rfl,by omega,by cases done<;>simp at ho'⊢<;>omega,rfl,?_⟩;rw[hT'];cases done<;>simp[B5r By]
 ·have hd:l.drop k=[]:=Bs9 (by omega);rw[hd]at hT;simp only[Bnt I1,Bnc];have hf2:Au (out.length + [e].length) 80=true:=fit (by simp;omega) (by simp;omega);cases done with
  |true =>simp only[Bp8,Bnc];exact⟨_,rfl,by rw[hT];simp⟩
  |false =>simp only[Bpf,Bna,hf2];exact⟨_,rfl,by rw[hT];simp[A8m]⟩
def Axc(e:Ev)(l:A6 Ev):(Asd ltE eqE e l).length≤l.length+1:=by
 unfold Asd;cases l.any (eqE e) with
 |true=>simp
 |false=>simp[Awd]
abbrev EsB:Type:=F8 Al A8
abbrev Aeh:Type:=A7 (A6 (Nat×(Int×Int)×Ev)×Nat)
abbrev BkC:Type:=A6 Part×Aeh×Aeh×Unit
def U8(m:Aeh):A6 (Nat×(Int×Int)×Ev):=match m with
 |none=>[]
 |some y=>y.1
structure WfM(n:Nat)(m:Aeh):Prop where
 wf:∀y,m=some y→WfE (kt:=Al) (vt:=A8) y.1 y.2
 key:∀e∈U8 m,e.2.1=e.2.2.1
 sm:∀e∈U8 m,smE e.2.2
 len:(U8 m).length≤n
def Xs(es:A6 (Nat×(Int×Int)×Ev)):A6 Ev:=A7h Rs (es.map (·.2.2))
def owE(g:A6 Ev):A7 (A6 Ev×Nat):=match g with
 |[]=>none
 |a::r=>some (a::r,(a::r).length)
def Ac6{es:EsB}(h:WfE es M0)(hk:∀e∈es,e.2.1=e.2.2.1):Yo Rs (es.map (·.2.2))=true:=by
 rw[A0h,Bra];have h1:(es.map (·.2.1)).Pairwise (·≠·):=h.keys;rw[Bra]at h1;refine(List.Pairwise.and_mem.1 h1).imp ?_;rintro a b ⟨ha,hb,hab⟩;have e1:=hk a ha;have e2:=hk b hb;cases h3:ltOf Rs a.2.2 b.2.2 with
 |true=>exact .inl rfl
 |false =>
  cases h4:ltOf Rs b.2.2 a.2.2 with
  |true=>exact .inr rfl
  |false=>exact absurd (by rw[e1,e2];exact Ae6 _ _ h3 h4) hab
def Aoq{d es:EsB}(h:d.Perm es):(d.map (·.2.2)).Perm (es.map (·.2.2)):=h.map _
section
variable(N:Nat)(es:EsB)(M0:Nat)(hw:WfE es M0)(hk:∀e∈es,e.2.1=e.2.2.1)(G3:∀e∈es,smE e.2.2)(hl:es.length≤1000)(hN:1000000<N)
include hw hk G3 hl hN
def B6k:Hu N (es,M0)=some ((Xs es,()),(),(),()):=by
 unfold Hu;refine B0g (es:=es) hw.born (fun d z=>z=((),(),(owE (d.map (·.2.2)),()),(M0,d.map (·.1),M0),())) _ ?_ N (by omega) rfl;rintro rec d z hd rfl ih;have hold:Rz M0 M0 es=true:=Asc hw.lt hw.lt;have hdl:=hd.len;have step:∀e∈Bx (d.map (·.1)) es,I6 (d.map (·.1)++[e.1])=some (d.map (·.1),e.1)∧Jt Al A8 e.1 es=some e∧Bq N e.2.2=some e.2.2:=by intro e he;have hm:=(Wz.1 he).1;exact⟨A2d _ _,A6e hw.born hm,copy_eq N _ (G3 e hm)⟩
 have seen:∀e:Nat×(Int×Int)×Ev,d.map (·.1)++[e.1]=(d++[e]).map (·.1):=fun e=>by simp
 have hpl:(d.map (·.2.2)).length=d.length:=by simp
 cases hp:d.map (·.2.2) with
 |nil =>
  have hd0:d=[]:=by simpa using hp
  simp only[owE,A9,hold,Bna,Br8];by_cases hn:Bx (d.map (·.1)) es=[]
  ·rw[hn,Vz];have Ot:=hd.all hw.born hn;rw[hd0]at Ot;have:es=[]:=Bux.1 Ot;rw[this];simp only[Xs,Bo8,A6g]
  ·refine A01 hn fun e he=>?_
   obtain⟨s1,s2,s3⟩:=step e he;simp only[s1,s2,s3,Bnb];refine ih e he _ ?_;rw[hd0];rfl
 |cons q0 qs =>
  have e1:(q0::qs).length≤1000:=by rw[← hp];omega
  simp only[owE,A9,hold,Bna,Br8];have Bb6:Nat.ble (q0::qs).length (q0::qs).length=true:=Bp0 (Bno _);have Ax8:Nat.ble (q0::qs).length 4611686018427387903=true:=Bp0 (by omega);by_cases hn:Bx (d.map (·.1)) es=[]
  ·have Ot:=Aoq (hd.all hw.born hn);rw[hp]at Ot;have Ax9:D6 (q0::qs)=true:=Aeg Ot (Ac6 hw hk);have hs:Aj (q0::qs)=Xs es:=by obtain⟨p,s⟩:=Ib On (q0::qs);exact A0i On (Ac6 hw hk) (p.trans Ot) s
   have hsl:(Xs es).length=(q0::qs).length:=by rw[← hs];exact(Ib On (q0::qs)).1.length_eq
   rw[hn,Vz,Bb6,Bna,Ax8,Bna,Boh,Brj,Ax9,Bna,hs,Bom];have Bb7:Nat.ble (0+(q0::qs).length) (Xs es).length=true:=Bp0 (by omega);rw[Bb7];simp only[Bna,Bqk];rw[← hsl,Boh]
  ·refine A01 hn fun e he=>?_
   obtain⟨s1,s2,s3⟩:=step e he;have Acf:Au ((q0::qs).length + [e.2.2].length) 80=true:=fit (by simp only[Bqg];omega) (by simp only[Bqg];omega);simp only[s1,s2,s3,Bnb,Acf,Bna];refine ih e he _ ?_;rw[Bo4,hp,seen];simp[owE]
def B13:Ki N (es,M0)=some ((),(),(owE (Xs es),()),()):=by
 unfold Ki;refine B0g (es:=es) hw.born (fun d z=>z=((),(),(owE (d.map (·.2.2)),()),(M0,d.map (·.1),M0),())) _ ?_ N (by omega) rfl;rintro rec d z hd rfl ih;have hold:Rz M0 M0 es=true:=Asc hw.lt hw.lt;have hdl:=hd.len;have step:∀e∈Bx (d.map (·.1)) es,I6 (d.map (·.1)++[e.1])=some (d.map (·.1),e.1)∧Jt Al A8 e.1 es=some e∧Bq N e.2.2=some e.2.2:=by intro e he;have hm:=(Wz.1 he).1;exact⟨A2d _ _,A6e hw.born hm,copy_eq N _ (G3 e hm)⟩
 have seen:∀e:Nat×(Int×Int)×Ev,d.map (·.1)++[e.1]=(d++[e]).map (·.1):=fun e=>by simp
 have hpl:(d.map (·.2.2)).length=d.length:=by simp
 cases hp:d.map (·.2.2) with
 |nil =>
  have hd0:d=[]:=by simpa using hp
  simp only[owE,A9,hold,Bna,Br8];by_cases hn:Bx (d.map (·.1)) es=[]
  ·rw[hn,Vz];have Ot:=hd.all hw.born hn;rw[hd0]at Ot;have:es=[]:=Bux.1 Ot;rw[this];simp only[Xs,Bo8,A6g]
  ·refine A01 hn fun e he=>?_
   obtain⟨s1,s2,s3⟩:=step e he;simp only[s1,s2,s3,Bnb];refine ih e he _ ?_;rw[hd0];rfl
 |cons q0 qs =>
  have e1:(q0::qs).length≤1000:=by rw[← hp];omega
  simp only[owE,A9,hold,Bna,Br8];have Bb6:Nat.ble (q0::qs).length (q0::qs).length=true:=Bp0 (Bno _);have Ax8:Nat.ble (q0::qs).length 4611686018427387903=true:=Bp0 (by omega);by_cases hn:Bx (d.map (·.1)) es=[]
  ·have Ot:=Aoq (hd.all hw.born hn);rw[hp]at Ot;have Ax9:D6 (q0::qs)=true:=Aeg Ot (Ac6 hw hk);have hs:Aj (q0::qs)=Xs es:=by obtain⟨p,s⟩:=Ib On (q0::qs);exact A0i On (Ac6 hw hk) (p.trans Ot) s
   have hsl:(Xs es).length=(q0::qs).length:=by rw[← hs];exact(Ib On (q0::qs)).1.length_eq
   rw[hn,Vz,Bb6,Bna,Ax8,Bna,Boh,Brj,Ax9,Bna,hs,Bom,← hsl];cases he:Xs es with
   |nil=>rw[he]at hsl;simp at hsl
   |cons a r=>rfl
  ·refine A01 hn fun e he=>?_
   obtain⟨s1,s2,s3⟩:=step e he;have Acf:Au ((q0::qs).length + [e.2.2].length) 80=true:=fit (by simp only[Bqg];omega) (by simp only[Bqg];omega);simp only[s1,s2,s3,Bnb,Acf,Bna];refine ih e he _ ?_;rw[Bo4,hp,seen];simp[owE]
end
def A6h(hN:1000000<N):Ju N=some (([],()),(),(),()):=by unfold Ju;obtain⟨M,rfl⟩:∃M,N=M+1:=⟨N-1,by omega⟩;rfl
def Al3(hN:1000000<N):No N=some ((),(),(none,()),()):=by unfold No;obtain⟨M,rfl⟩:∃M,N=M+1:=⟨N-1,by omega⟩;rfl
def Kl(x:BkC):A6 Ev:=Xs (U8 x.2.1)
def Al4:Xs []=[]:=A6g _
structure Ac7(x:BkC):Prop where
 live:WfM 30 x.2.1
 Bmn:WfM 30 x.2.2.1
 edit:∀e∈U8 x.2.1,(e.2.2.2.1==1)=true
def WfM.list{y:A6 (Nat×(Int×Int)×Ev)×Nat}(h:WfM 30 (some y))(hN:1000000<N):Hu N y=some ((Xs y.1,()),(),(),())∧Ki N y=some ((),(),(owE (Xs y.1),()),()):=by have h1:=h.wf y rfl;have h2:=h.key;have h3:=h.sm;have h4:=h.len;exact⟨B6k N y.1 y.2 h1 h2 h3 (by simp only[U8]at h4;omega) hN,B13 N y.1 y.2 h1 h2 h3 (by simp only[U8]at h4;omega) hN⟩
def B3l:∀ {a b:A6 Int},a.Pairwise (· < ·)→b.Pairwise (· < ·)→(∀x,x∈a↔x∈b)→a=b:=by intro a b ha hb h;exact Li.ext (lt:=fun x y:Int=>decide (x<y)) (by intro x y h;simp at *;omega) (ha.imp fun {x y} h=>by simpa using h) (hb.imp fun {x y} h=>by simpa using h) h
def Bhj(l:A6 D8):Ua l=Pc.Ua l:=by obtain⟨a1,a2,_⟩:=Om l;obtain⟨b1,b2,_⟩:=Pc.Om l;exact B3l a1 b1 fun x=>by rw[a2,b2];rfl
def B6l(l:A6 D8):Pc.Ak8 (Ua l) (Em l):=by rw[Bhj];exact Pc.B60 fun r h=>h
def Bb9(a b:A6 D8)(hl:a.length+b.length≤100000000000)(hN:1000000000000<N) :
  ∃r,Gk N a b 0=some r∧Pc.Ee r∧∀n,Em r n=Em (a++b) n:=by
 unfold Gk Abx;rw[B6j N a b hl hN];obtain⟨p1,p2,p3⟩:=Om (a++b);have p3:(Ua (a++b)).length≤2*(a.length+b.length):=by simpa using p3
 have ht:=B6l (a++b);simp only[Bnb];refine Dn (Q:=fun r:A6 D8=>Pc.Ee r∧∀n,Em r n=Em (a++b) n)
  (fun m z=>∃(k:Nat) (out:A6 D8),z=(((k:Int),()),(),(owR out,()),())∧(k<(Ua (a++b)).length∨(k=0∧(Ua (a++b)).length=0))∧m=(Ua (a++b)).length-k∧Pc.A8v (Ua (a++b)) (Em (a++b)) k out) ?_ N (Ua (a++b)).length _ ⟨0,[],rfl,by omega,by omega,Pc.Aog ht⟩ (by omega)
 rintro m z rec ⟨k,out,rfl,hk,rfl,hu⟩ ih;have w0:i64.wrap ((k:Int)+1)=((k+1:Nat):Int):=Ac (by omega);have z1:((0:Int)==1)=false:=rfl;have z2:((0:Int)==2)=false:=rfl;by_cases By:k+1<(Ua (a++b)).length
 ·have I1:k<(Ua (a++b)).length:=by omega
  have h0:=Cb I1;have h1:=Cb By;obtain⟨e1,e2,e3⟩:=Pc.B61 ht h0 h1;have hca:=A9a N a (Ua (a++b))[k] (by omega) (by omega);have hcb:=A9a N b (Ua (a++b))[k] (by omega) (by omega);have hor:=Dj a b (Ua (a++b))[k];have w1:u64.wrap ((Ua (a++b))[k+1]-1)=(Ua (a++b))[k+1]-1:=A0z (by omega) (by omega);have next:∀Be4,Pc.A8v (Ua (a++b)) (Em (a++b)) (k+1) Be4→∃r,rec ((((k+1:Nat):Int),()),(),(owR Be4,()),())=some r∧Pc.Ee r∧∀n,Em r n=Em (a++b) n:=by intro Be4 h';exact ih ((Ua (a++b)).length-(k+1)) _ (by omega) ⟨k+1,Be4,rfl,by omega,rfl,h'⟩
  have nin:Em (a++b) (Ua (a++b))[k]=true→_:=fun hc=>next _ (Pc.B3d ht hu h0 h1 hc)
  have Bba:Em (a++b) (Ua (a++b))[k]=false→_:=fun hc=>next _ (Pc.Awl ht hu h0 h1 hc)
  rw[hor]at nin Bba;have hul:=hu.len;have hum:=hu.ch.may;clear next ih hu p1 p2
  generalize hlo:(Ua (a++b))[k]=lo at *;generalize hhi:(Ua (a++b))[k+1]=hi at *;have hd:decide (((k+1:Nat):Int)<((Ua (a++b)).length:Int))=true:=by simp;omega
  rcases Ih out with rfl|⟨o,e,rfl⟩
  ·have es:Pc.X6 [] lo hi=[(lo,hi-1)]:=rfl;rw[es]at nin;simp only[w0,hd,Bna,B0,h0,h1,Bnb,hca,hcb,Ar,A9,z1,z2,Bnc,w1,A6d]at nin Bba⊢;cases ha:Em a lo with
   |true =>have:=nin (by rw[ha];rfl);simpa[owR]using this
   |false =>
    cases hb:Em b lo with
    |true =>have:=nin (by rw[ha,hb];rfl);simpa[owR]using this
    |false =>have:=Bba (by rw[ha,hb];rfl);simpa[owR]using this
  ·have he:=Cl.1 (hum e (by simp));have hlen:(o++[e]).length=o.length+1:=by simp
   have w2:i64.wrap (((o++[e]).length:Int)-1)=(o.length:Int):=by rw[C4 (by simp) (by omega),hlen];simp
   have c2:decide (0≤(o.length:Int))=true:=by simp
   have c3:decide ((o.length:Int)<((o++[e]).length:Int))=true:=by simp;omega
   have g1:(o++[e])[o.length]? = some e:=by simp
   have w3:u64.wrap (e.2+1)=e.2+1:=A0z (by omega) (by omega);have hf:∀x:D8,Au ((o++[e]).length + [x].length) 16=true:=fun x=>fit (by simp;omega) (by simp;omega)
   rw[Pc.A66]at nin;simp only[w0,hd,Bna,B0,h0,h1,Bnb,hca,hcb,Ar,A9,z1,z2,Bnc,w1,Rx,w2,c2,c3,Bpe,Bog,Ct,g1,w3,Aee,hf]at nin Bba⊢;have fin:(Em a lo||Em b lo)=true→∃r,(bif e.2+1==lo then rec ((((k+1:Nat):Int),()),(),(some ((o++[e]).set o.length (e.1,hi-1),(o++[e]).length),()),())else rec ((((k+1:Nat):Int),()),(),(some (o++[e]++[(lo,hi-1)],(o++[e]).length + [(lo,hi-1)].length),()),()))=some r∧Pc.Ee r∧∀n,Em r n=Em (a++b) n:=by
    intro hc;have:=nin hc;by_cases hm:e.2+1=lo
    ·rw[Bo3 hm,Rx]at this;have hb:(e.2+1==lo)=true:=by simpa using hm
     rw[hb,Bna];simpa using this
    ·rw[Bnv hm,Rx]at this;have hb:(e.2+1==lo)=false:=by simpa using hm
     rw[hb,Bnc];simpa using this
   cases ha:Em a lo with
   |true=>exact fin (by rw[ha];rfl)
   |false =>
    cases hb:Em b lo with
    |true=>exact fin (by rw[ha,hb];rfl)
    |false=>exact Bba (by rw[ha,hb];rfl)
 ·have hd:decide (((k+1:Nat):Int)<((Ua (a++b)).length:Int))=false:=by simp;omega
  have hcv:=Pc.Awm ht hu (by omega) (by omega);have hch:=hu.ch;rcases Ih out with rfl|⟨o,e,rfl⟩
  ·simp only[w0,hd,Bnc,A6d,A9];exact⟨[],rfl,hch,hcv⟩
  ·simp only[w0,hd,Bnc,Rx,A9,Bog,Akz,Bna,Bqk,Boh];exact⟨_,rfl,hch,hcv⟩
def Aei(a b:A6 D8)(hl:a.length+b.length≤100000000000)(hN:1000000000000<N):Fz N a b=some (Pc.P1 (a++b)):=by unfold Fz;obtain⟨r,h1,h2,h3⟩:=Bb9 N a b hl hN;rw[h1,Bnb,Pc.Asg h2 h3]
def Aej(c:A6 Part)(dev:Int)(hc:Sm c)(hN:1000000000000<N):G0 N c dev=some (if dev=0 then []else Pc.P1 (tl c dev)):=by
 unfold G0;have hlen:=hc.len;have Bk8:=hc.W8;refine Asb (Dn (Q:=fun r:A6 D8=>r=if dev=0 then []else Pc.P1 (tl c dev))
  (fun m z=>∃(k:Nat),z=((if dev=0 then []else Pc.P1 (tl (c.take k) dev),(k:Int),()),(),(),())∧k≤c.length∧m=c.length-k) ?_ N c.length _ ⟨0,by simp[tl,Pc.Abt],by omega,by omega⟩ (by omega))
 rintro m z rec ⟨k,rfl,hk,rfl⟩ ih;by_cases I1:k<c.length
 ·simp only[dec_lt,Bnq I1,Bna,B0,Cb I1,Bnb,Ac (show k+1<9223372036854775808 by omega)];have hx:=A2c c I1 dev;by_cases hdv:c[k].1=dev
  ·have hb:(c[k].1==dev)=true:=by simpa using hdv
   rw[hb,Bna];by_cases h0:dev=0
   ·have hb0:(dev != 0)=false:=by simpa using h0
    rw[hb0,Bnc];refine ih (c.length-(k+1)) _ (by omega) ⟨k+1,by simp[h0],by omega,rfl⟩
   ·have hb0:(dev != 0)=true:=by simpa using h0
    have h1:=Al1 c k dev;have h2:=At6 (Bp5 I1);have h3:=Pc.U1 (tl (c.take k) dev);rw[Bo3 hdv]at hx;rw[hb0,Bna,Bnv h0,Aei N _ _ (by omega) hN,Bnb];refine ih (c.length-(k+1)) _ (by omega) ⟨k+1,?_,by omega,rfl⟩;rw[Bnv h0,hx,Pc.Awi]
  ·have hb:(c[k].1==dev)=false:=by simpa using hdv
   rw[Bnv hdv]at hx;rw[hb,Bnc];refine ih (c.length-(k+1)) _ (by omega) ⟨k+1,by rw[hx],by omega,rfl⟩
 ·have:k=c.length:=by omega
  subst this;simp only[dec_lt,Bnt I1,Bnc];exact⟨_,rfl,by rw[Boh]⟩
def Aor(d:Int×Int):Ao N d=some (decide (1≤d.1)&&(decide (1≤d.2)&&decide (d.2≤281474976710655))):=by simp only[Ao,cond_eq_ite];by_cases a1:1≤d.1<;>by_cases a2:1≤d.2<;>by_cases a3:d.2≤281474976710655<;>simp[a1,a2,a3]<;>omega
def Ac8(c:A6 Part)(d:Int×Int)(hc:Sm c)(hN:1000000000000<N):Ey N c d=some (hasB c d):=by
 unfold Ey;rw[Aor,Bnb];have hcd:Em (tl c d.1) d.2=true→1≤d.2∧d.2≤281474976710655:=Pc.B5w;have hl:=Pc.U1 (tl c d.1);have hl2:(tl c d.1).length≤Pc.W8 c:=Pc.Aof c d.1;have Bk8:=hc.W8;unfold hasB;by_cases h1:1≤d.1
 ·by_cases h2:1≤d.2∧d.2≤281474976710655
  ·rw[Bnq h1,Bnq h2.1,Bnq h2.2,Bnq (show 0<d.1 by omega)];simp only[Bpe,Bna,Bqb];rw[Aej N c d.1 hc hN,Bnb,Bnv (by omega),A9a N _ _ (by omega) (by omega),Bnb];exact Bo7 some (Pc.Rp _ _)
  ·have e:(decide (1≤d.2)&&decide (d.2≤281474976710655))=false:=by rw[Bqz];intro hh;simp at hh;exact h2 hh
   have e2:Em (tl c d.1) d.2=false:=by rw[Bqz];intro hh;exact h2 (hcd hh)
   rw[e,Bool.and_false,Bnc,e2,Bool.and_false]
 ·rw[Bnt h1,Bnt (show ¬0<d.1 by omega)];rfl
def Be5(a b:A6 Part)(ha:a.length+b.length≤1000000)(hN:1000000000000<N):K7 N a b=some ((a++b).foldl (fun q p=>P5 (p.1,1) q) []):=by
 unfold K7;have bound:∀(l:A6 Part) (q:A6 (Int×Int)),(l.foldl (fun q p=>P5 (p.1,1) q) q).length≤q.length+l.length:=by
  intro l;induction l with
  |nil=>intro q;simp
  |cons p l ih =>intro q;have:=ih (P5 (p.1,1) q);have:=Yt (p.1,1) q;simp only[Bp1,Bnx];omega
 rw[Hy a (fun q p=>P5 (p.1,1) q) [] (fun q=>some (b.foldl (fun q p=>P5 (p.1,1) q) q)) ?_ ?_ N (by omega)]
 ·rw[Bsd]
 ·intro rec k q hk hq;have hql:q.length≤k:=by have:=bound (a.take k) [];rw[← hq,Bof]at this;simp at this;omega
  simp only[dec_lt,Bnq hk,Bna,B0,Cb hk,Bnb,A6c N q _ (by omega) (by omega),Ac (show k+1<9223372036854775808 by omega)]
 ·intro rec;have hq0:=bound a [];simp only[Bpj,Bog]at hq0;generalize a.foldl (fun q p=>P5 (p.1,1) q) []=q0 at *;simp only[dec_lt,Bnt (Boy _),Bnc];refine(Hy b (fun q p=>P5 (p.1,1) q) q0 (fun q=>some q) ?_ ?_ N (by omega))
  ·intro rec k q hk hq;have hql:q.length≤q0.length+k:=by have:=bound (b.take k) q0;rw[← hq,Bof]at this;omega
   simp only[dec_lt,Bnq hk,Bna,B0,Cb hk,Bnb,A6c N q _ (by omega) (by omega),Ac (show k+1<9223372036854775808 by omega)]
  ·intro rec;simp only[dec_lt,Bnt (Boy _),Bnc]
def B14(c:A6 Part):(c.foldl (fun q p=>P5 (p.1,1) q) []).map (·.1)=Pc.A7i (c.map (·.1)):=by
 have key:∀(l:A6 Part) (q:A6 (Int×Int)),Li Y2 q→(∀x∈q,x.2=1) →
   Li Y2 (l.foldl (fun q p=>P5 (p.1,1) q) q)∧(∀x∈l.foldl (fun q p=>P5 (p.1,1) q) q,x.2=1)∧∀d,(d,1)∈l.foldl (fun q p=>P5 (p.1,1) q) q↔(d,1)∈q∨d∈l.map (·.1):=by
  intro l;induction l with
  |nil=>intro q h1 h2;exact⟨h1,h2,by simp⟩
  |cons p l ih =>
   intro q h1 h2;obtain⟨i1,i2,i3⟩:=ih (P5 (p.1,1) q) (Ax3 _ _ h1) (by
    intro x hx;rcases(Akw _ _ _).1 hx with e|hx
    ·subst e;rfl
    ·exact h2 x hx)
   refine⟨i1,i2,fun d=>?_⟩;rw[Bp1,i3,Akw,Bnh,Bnd,or_assoc];simp only[Bo2,and_true];constructor
   ·rintro (h|h|h);exact .inr (.inl h);exact .inl h;exact .inr (.inr h)
   ·rintro (h|h|h);exact .inr (.inl h);exact .inl h;exact .inr (.inr h)
 obtain⟨k1,k2,k3⟩:=key c [] (by simp[Li]) (by simp);refine B3l ?_ (Pc.A65 _) fun x=>?_
 ·rw[Bra];refine(Bt8.2 fun {a b} hs=>?_);have h1:=Bt8.1 k1 hs;have ha:=k2 a (hs.subset (by simp));have hb:=k2 b (hs.subset (by simp));have h1:ltOf L0 a b=true:=h1;rw[Ur]at h1;simp at h1;omega
 ·rw[Pc.Ae5,Bnp];constructor
  ·rintro ⟨y,hy,rfl⟩;have:=k2 y hy;have hy':(y.1,(1:Int))∈c.foldl (fun q p=>P5 (p.1,1) q) []:=by rw[show((y.1,(1:Int)):Int×Int)=y from Prod.ext rfl this.symm];exact hy
   have:=(k3 y.1).1 hy';simpa using this
  ·intro hx;exact⟨(x,1),(k3 x).2 (.inr hx),rfl⟩
theorem Al5(g:Int→A6 D8):∀(l:A6 (Int×Int)) (q:A6 Part),l.foldl (fun q d=>if (g d.1).isEmpty then q else q++[((d.1,g d.1):Part)]) q=q++Pc.partsOf g (l.map (·.1))
 |[],q=>by simp[Pc.partsOf]
 |d::l,q=>by
  rw[Bp1,Al5 g l];unfold Pc.partsOf;rw[Bnh,Bnh,Bq0];cases hg:g d.1 with
  |nil=>simp
  |cons x r=>simp
def Bbb(a b:A6 Part)(hl:a.length+b.length≤1000000)(ha:Sm a)(hb:Sm b)(hN:1000000000000<N):Lt N a b 0=some (Pc.partsOf (fun d=>if d=0 then []else Pc.P1 (tl a d++tl b d)) (Pc.A7i ((a++b).map (·.1)))):=by
 unfold Lt;rw[Be5 N a b hl hN,Bnb];have Bk9:=B14 (a++b);generalize (a++b).foldl (fun q p=>P5 (p.1,1) q) []=ds at *;have hdl:ds.length≤1000000:=by have h1:=Bo7 List.length Bk9;have h2:=Pc.Aoe ((a++b).map (·.1));simp at h1 h2;omega
 rw[← Bk9];have z1:((0:Int)==1)=false:=rfl;have z2:((0:Int)==2)=false:=rfl;have ff:=Al5 (fun d:Int=>if d=0 then ([]:A6 D8)else Pc.P1 (tl a d++tl b d));have hg:=ff ds [];rw[Bou]at hg;rw[← hg];refine Hy ds _ [] (fun q=>some q) ?_ ?_ N (by omega)
 ·intro rec k q hk hq;have hql:q.length≤k:=by rw[ff,Bou]at hq;have h1:=Pc.Afv (fun d=>if d=0 then []else Pc.P1 (tl a d++tl b d)) ((ds.take k).map (·.1));rw[← hq,Bo1,Bof]at h1;omega
  have l1:=Pc.U1 (tl a ds[k].1);have l2:=Pc.U1 (tl b ds[k].1);have l3:(tl a ds[k].1).length≤Pc.W8 a:=Pc.Aof a _;have l4:(tl b ds[k].1).length≤Pc.W8 b:=Pc.Aof b _;have ha2:=ha.W8;have hb2:=hb.W8;have hj:Fz N (if ds[k].1=0 then []else Pc.P1 (tl a ds[k].1)) (if ds[k].1=0 then []else Pc.P1 (tl b ds[k].1))=some (if ds[k].1=0 then []else Pc.P1 (tl a ds[k].1++tl b ds[k].1)):=by
   by_cases h0:ds[k].1=0
   ·simp only[h0,Bpz];rw[Aei N [] [] (by simp) hN];exact Bo7 some Pc.Abt
   ·simp only[h0,Bpi];rw[Aei N _ _ (by omega) hN,Pc.Awi,Pc.B5x]
  simp only[dec_lt,Bnq hk,Bna,B0,Cb hk,Bnb,Aej N a _ ha hN,Aej N b _ hb hN,hj,Ar,z1,z2,Bnc,Ac (show k+1<9223372036854775808 by omega)];generalize (if ds[k].1=0 then ([]:A6 D8)else Pc.P1 (tl a ds[k].1++tl b ds[k].1))=zz;cases zz with
  |nil=>simp
  |cons x r =>have hf:Au (q.length + [((ds[k].1,x::r):Part)].length) 32=true:=fit (by simp;omega) (by simp;omega);rw[B11,Bna,hf,Bna];rfl
 ·intro rec;simp only[dec_lt,Bnt (Boy _),Bnc]
def Qr{σ R:Type}{f:(σ→A7 R)→σ→A7 R}(st:Nat→σ)(a n:Nat)(han:a≤n)
  (hs:∀(rec:σ→A7 R) (k:Nat),a≤k→k<n→(∃r,rec (st (k+1))=some r)→∃r,f rec (st k)=some r) (he:∀rec,∃r,f rec (st n)=some r) (N:Nat) (hN:n<N):∃r,iter f N (st a)=some r:=by
 have key:∀(m k:Nat),a≤k→k≤n→n-k<m→∃r,iter f m (st k)=some r:=by
  intro m;induction m with
  |zero=>intro k _ _ h;omega
  |succ m ih =>
   intro k h1 h2 h3;simp only[iter];by_cases hk:k<n
   ·exact hs _ k h1 hk (ih (k+1) (by omega) (by omega) (by omega))
   ·have:k=n:=by omega
    subst this;exact he _
 exact key N a (Bno _) han (by omega)
abbrev Yz(k:Nat):(Int×Unit)×Unit×Unit×Unit:=(((k:Int),()),(),(),())
def B6m(t:A6 UInt8)(ht:t.length≤1000)(hN:1000000<N):∃b,Fy N t=some b:=by
 unfold Fy;refine Qr Yz 0 t.length (by omega) ?_ ?_ N (by omega)
 ·rintro rec k _ hk ⟨r,hr⟩;simp only[Yz]at hr;simp only[dec_lt,Bnq hk,Bna,B0,Cb hk,Bnb,Ac (show k+1<9223372036854775808 by omega),hr];cases decide (t[k]<32)<;>cases decide (126<t[k])<;>exact⟨_,rfl⟩
 ·intro rec;simp only[dec_lt,Bnt (Boy _),Bnc];exact⟨_,rfl⟩
def Axd(l:A6 (Int×Int))(hl:l.length≤1000)(hN:1000000<N):∃b,Bi N l=some b:=by
 unfold Bi;rcases Bpl l.length with h0|h0
 ·obtain⟨M,rfl⟩:∃M,N=M+1:=⟨N-1,by omega⟩;have:decide ((1:Int)<(l.length:Int))=false:=by rw[h0];rfl
  simp only[iter,this,Bnc];exact⟨_,rfl⟩
 ·refine Qr Yz 1 l.length h0 ?_ ?_ N (by omega)
  ·rintro rec k h1 hk ⟨r,hr⟩;simp only[Yz]at hr;have hk1:k-1<l.length:=by omega
   simp only[dec_lt,Bnq hk,Bna,C4 (show 0<k by omega) (show k<9223372036854775808 by omega),B0,Cb hk,Cb hk1,Bnb,Ac (show k+1<9223372036854775808 by omega),hr,A6b];cases decide (0≤L0 l[k-1] l[k])<;>exact⟨_,rfl⟩
  ·intro rec;simp only[dec_lt,Bnt (Boy _),Bnc];exact⟨_,rfl⟩
def A4z(d:Int×Int):∃b,Ao N d=some b:=by unfold Ao;cases decide (1≤d.1)<;>cases decide (1≤d.2)<;>exact⟨_,rfl⟩
def Axe(c:Int):∃u,Gd N c=some u:=by unfold Gd Nn;simp only[Bnb];obtain⟨b,hb⟩:=A4z N (u16.wrap (u64.wrap (c.tdiv 281474976710656)),c.tmod 281474976710656);rw[hb];cases b<;>exact⟨_,rfl⟩
def Axf(r:UInt8):∃b,Fx N r=some b:=by unfold Fx;cases decide (1≤r)<;>exact⟨_,rfl⟩
structure Bfd(N:Nat)(e:Ev):Prop where
 J2:∃u,Gd N e.2.2.1=some (u,true)
 reg:e.2.1=1→Fx N e.2.2.2.1=some true
 txt:e.2.1=1→Fy N e.2.2.2.2.1=some true
structure SmE(e:Ev):Prop where
 Axg:e.2.2.2.2.2.length≤300
 text:e.2.2.2.2.1.length≤200
def Bka(l:A6 (Int×Int))(hl:l.length≤300)(hN:1000000<N)(o:A7 Bool)(ho:∃b,o=some b){f:((Int×Unit)×Unit×Unit×Unit→A7 Bool)→(Int×Unit)×Unit×Unit×Unit→A7 Bool}
  (hf:∀rec z,f rec z=bif decide (z.fst.fst<(l.length:Int)) then
    (at? l z.fst.fst).bind fun(e:Int×Int)=>Option.bind (Ao N e) fun(y:Bool)=>bif !y then some false else rec ((i64.wrap (z.fst.fst+1),()),(),(),())
   else o):∃b,iter f N ((0,()),(),(),())=some b:=by
 refine Qr Yz 0 l.length (by omega) ?_ ?_ N (by omega)
 ·rintro rec k _ hk ⟨r,hr⟩;simp only[Yz]at hr;obtain⟨b,hb⟩:=A4z N l[k];simp only[hf,Yz,dec_lt,Bnq hk,Bna,B0,Cb hk,Bnb,Ac (show k+1<9223372036854775808 by omega),hr,hb];cases b<;>exact⟨_,rfl⟩
 ·intro rec;simp only[hf,Yz,dec_lt,Bnt (Boy _),Bnc];exact ho
def Bkb(l:A6 (Int×Int))(d:Int×Int):((Int×Unit)×Unit×Unit×Unit→A7 Bool)→(Int×Unit)×Unit×Unit×Unit→A7 Bool:=fun rec z =>
 bif decide (z.fst.fst<(l.length:Int)) then
  (at? l z.fst.fst).bind fun(e:Int×Int)=>Option.bind (Ao N e) fun(y:Bool)=>bif !y then some false else rec ((i64.wrap (z.fst.fst+1),()),(),(),())
 else
  bif decide ((l.length:Int)≤256) then
   Option.bind (Bi N l) fun(y:Bool) =>bif y then Option.bind (Bv N l d) fun(y:Bool)=>some !y else some false
  else some false
def Bbc(e:Ev)(he:SmE e)(hN:1000000<N):∃b,Hl N e=some b∧(b=true→Bfd N e):=by
 have hk:=he.Axg;have ht:=he.text;unfold Hl;obtain⟨⟨u,ok⟩,hu⟩:=Axe N e.2.2.1;obtain⟨g,hg⟩:=A4z N e.1;obtain⟨rg,hrg⟩:=Axf N e.2.2.2.1;obtain⟨tx,htx⟩:=B6m N e.2.2.2.2.1 (by omega) hN;obtain⟨ri,hri⟩:=Axd N e.2.2.2.2.2 (by omega) hN;have Bhk:=Aok N e.2.2.2.2.2 e.1 (by omega) (by omega);obtain⟨bl,hbl⟩:∃b,iter (Bkb N e.2.2.2.2.2 e.1) N ((0,()),(),(),())=some b:=by refine Bka N e.2.2.2.2.2 hk hN _ ?_ (fun _ _=>rfl);simp only[hri,Bhk,Bnb];cases decide ((e.2.2.2.2.2.length:Int)≤256)<;>cases ri<;>exact⟨_,rfl⟩
 unfold Bkb at hbl;simp only[hu,hg,hrg,htx,Bnb,hbl];cases ok with
 |false=>exact⟨false,rfl,by simp⟩
 |true =>
  cases g with
  |false=>exact⟨false,rfl,by simp⟩
  |true =>
   simp only[Bp8,Bnc];by_cases k1:e.2.1=1
   ·have b1:(e.2.1==1)=true:=by simpa using k1
    have b2:(e.2.1==2)=false:=by rw[k1];rfl
    simp only[bne,b1,b2,Bp8,Bpf,Bnc,Bna];cases rg with
    |false=>exact⟨false,rfl,by simp⟩
    |true =>
     cases tx with
     |false=>exact⟨false,rfl,by simp⟩
     |true =>simp only[Bp8,Bnc];exact⟨bl,rfl,fun _=>⟨⟨u,hu⟩,fun _=>hrg,fun _=>htx⟩⟩
   ·have b1:(e.2.1==1)=false:=by simpa using k1
    have G:Bfd N e:=⟨⟨u,hu⟩,fun h=>absurd h k1,fun h=>absurd h k1⟩;simp only[bne,b1,Bpf,Bna,Bnc];cases h2:e.2.1==2 with
    |false=>exact⟨false,rfl,fun _=>G⟩
    |true =>
     simp only[Bp8,Bnc,Bna];cases h3:e.2.2.2.1==0 with
     |false=>exact⟨false,rfl,fun _=>G⟩
     |true =>
      cases h4:e.2.2.2.2.1 == [] with
      |false=>exact⟨false,rfl,fun _=>G⟩
      |true=>exact⟨bl,rfl,fun _=>G⟩
def A2e(a b:A6 Part):A6 Part:=Pc.partsOf (fun d=>if d=0 then []else Pc.P1 (tl a d++tl b d)) (Pc.A7i ((a++b).map (·.1)))
def A9b(a b:A6 Part):(A2e a b).length≤a.length+b.length:=by have h1:=Pc.Afv (fun d=>if d=0 then []else Pc.P1 (tl a d++tl b d)) (Pc.A7i ((a++b).map (·.1)));have h2:=Pc.Aoe ((a++b).map (·.1));rw[Bo1,Bp4]at h2;unfold A2e;omega
def A9c(a b:A6 Part):Pc.W8 (A2e a b)≤Pc.W8 a+Pc.W8 b:=by
 unfold A2e;rw[Pc.Afu,← Pc.Ak7];refine Bop (Pc.Bap (g:=fun d=>(Pc.tl (a++b) d).length) (fun d=>?_) _) (Pc.Bao (a++b) (Pc.B5z (Pc.A65 _)));split
 ·simp
 ·rw[Pc.B5y];exact Pc.U1 _
def Al6(a b:A6 Part)(hl:a.length+b.length≤1000000)(ha:Sm a)(hb:Sm b)(hN:1000000000000<N):G1 N a b=some (A2e a b):=by unfold G1;rw[Bbb N a b hl ha hb hN];rfl
def B6n(l:A6 (Int×Int))(hl:l.length≤100000)(hN:1000000000000<N):∃r,Mt N l=some r∧r.length≤l.length∧Pc.W8 r≤l.length:=by
 unfold Mt;refine Dn (Q:=fun r:A6 Part=>r.length≤l.length∧Pc.W8 r≤l.length)
  (fun m z=>∃(k:Nat) (c:A6 Part),z=((c,(k:Int),()),(),(),())∧k≤l.length∧m=l.length-k∧c.length≤k∧Pc.W8 c≤k) ?_ N l.length _ ⟨0,[],rfl,by omega,by omega,by simp,by simp[Pc.W8]⟩ (by omega)
 rintro m z rec ⟨k,c,rfl,hk,rfl,h1,h2⟩ ih;by_cases I1:k<l.length
 ·simp only[dec_lt,Bnq I1,Bna,B0,Cb I1,Bnb,Aor,Ac (show k+1<9223372036854775808 by omega)];cases(decide (1≤l[k].1)&&(decide (1≤l[k].2)&&decide (l[k].2≤281474976710655))) with
  |false =>rw[Bnc];exact ih (l.length-(k+1)) _ (by omega) ⟨k+1,c,rfl,by omega,rfl,by omega,by omega⟩
  |true =>have e1:Pc.W8 [((l[k].1,[(l[k].2,l[k].2)]):Part)]=1:=rfl;rw[Bna,Al6 N c _ (by simp;omega) ⟨by omega,by omega⟩ ⟨by simp,by rw[e1];omega⟩ hN,Bnb];have j1:=A9b c [((l[k].1,[(l[k].2,l[k].2)]):Part)];have j2:=A9c c [((l[k].1,[(l[k].2,l[k].2)]):Part)];rw[e1]at j2;exact ih (l.length-(k+1)) _ (by omega) ⟨k+1,_,rfl,by omega,rfl,by simpa using Bop j1 (by simp;omega),by omega⟩
 ·have:k=l.length:=by omega
  subst this;simp only[dec_lt,Bnt I1,Bnc];exact⟨c,rfl,h1,h2⟩
def B15(h:SmE e):smE e:=Bop h.Axg (by omega)
def Bmd(e:Ev)(hN:10000<N):∃b,Ij N [e] 1=some b∧(b=true→SmE e):=by
 unfold Ij;obtain⟨M,rfl⟩:∃M,N=M+2:=⟨N-2,by omega⟩;have w1:i64.wrap ((0:Int)+1)=1:=rfl;have d1:decide ((1:Int)<(([e]:A6 Ev).length:Int))=false:=rfl;have d0:decide ((0:Int)<(([e]:A6 Ev).length:Int))=true:=rfl;have a0:at? [e] 0=some e:=rfl;simp only[iter,d0,d1,w1,Bna,Bnc,a0,Bnb];by_cases h1:300<e.2.2.2.2.2.length
 ·have:decide ((300:Int)<(e.2.2.2.2.2.length:Int))=true:=by simp;omega
  simp only[this,Bna];exact⟨false,rfl,by simp⟩
 ·have h1':decide ((300:Int)<(e.2.2.2.2.2.length:Int))=false:=by simp;omega
  simp only[h1',Bnc];by_cases h2:200<e.2.2.2.2.1.length
  ·have:decide ((200:Int)<(e.2.2.2.2.1.length:Int))=true:=by simp;omega
   simp only[this,Bna];exact⟨false,rfl,by simp⟩
  ·have h2':decide ((200:Int)<(e.2.2.2.2.1.length:Int))=false:=by simp;omega
   simp only[h2',Bnc];exact⟨true,rfl,fun _=>⟨by omega,by omega⟩⟩
abbrev Bk:Type:=A6 Part×A6 Ev
structure BdB(k:Nat)(x:Bk):Prop where
 len:x.2.length≤k
 evs:∀e∈x.2,SmE e
 cl:x.1.length≤400*k
 ct:Pc.W8 x.1≤2000*k
def BdB.sm{x:Bk}(h:BdB k x)(hk:k≤30):Sm x.1:=⟨by have:=h.cl;omega,by have:=h.ct;omega⟩
def BdB.up{x:Bk}(h:BdB k x):BdB (k+1) x:=⟨by have:=h.len;omega,h.evs,by have:=h.cl;omega,by have:=h.ct;omega⟩
def B6o{x:Ev}{l:A6 Ev}(h:x∈Asd ltE eqE e l):x=e∨x∈l:=by
 unfold Asd at h;cases hc:l.any (eqE e) with
 |true=>rw[hc,Bna]at h;exact .inr h
 |false=>rw[hc,Bnc]at h;exact Bad.1 h
def A50(l:A6 (Int×Int)):(H6 l).length≤l.length:=by rw[A7l];exact Aop l
def Al7(x:Bk)(e:Ev)(k:Nat)(hk:k≤29)(hb:BdB k x)(he:SmE e)(hN:1000000000000<N):∃r,Ip N x e=some r∧BdB (k+1) r.1:=by
 unfold Ip;obtain⟨b1,h1,_⟩:=Bbc N e he (by omega);rw[h1,Bnb];have G3:=hb.sm (by omega);cases b1 with
 |false=>exact⟨_,rfl,hb.up⟩
 |true =>
  rw[Bp8,Bnc,Ac8 N x.1 e.1 G3 hN,Bnb];cases hasB x.1 e.1 with
  |true=>exact⟨_,rfl,hb.up⟩
  |false =>
   rw[Bnc];have hxl:=hb.len;refine Dn (Q:=fun r:Bk×Int=>BdB (k+1) r.1)
    (fun m z=>∃(j:Nat) (l:A6 Ev),z=((l,(j:Int),()),(),(),())∧j≤x.2.length∧m=x.2.length-j∧l.length≤j∧∀f∈l,f∈x.2) ?_ N x.2.length _ ⟨0,[],rfl,by omega,by omega,by simp,by simp⟩ (by omega)
   rintro m z rec ⟨j,l,rfl,hj,rfl,hl,hm⟩ ih;by_cases hjl:j<x.2.length
   ·have hf:Au (l.length + [x.2[j]].length) 80=true:=fit (by simp;omega) (by simp;omega);have Bhk:=Aok N e.2.2.2.2.2 x.2[j].1 (by have:=he.Axg;omega) (by have:=he.Axg;omega);have go:∃r,rec ((l++[x.2[j]],((j+1:Nat):Int),()),(),(),())=some r∧BdB (k+1) r.1:=by
     refine ih (x.2.length-(j+1)) _ (by omega) ⟨j+1,l++[x.2[j]],rfl,by omega,rfl,by simp;omega,?_⟩;intro f hf;rcases Bnk.1 hf with hf|hf
     ·exact hm f hf
     ·simp at hf;subst hf;exact Bp5 hjl
    have no:∃r,rec ((l,((j+1:Nat):Int),()),(),(),())=some r∧BdB (k+1) r.1 :=
     ih (x.2.length-(j+1)) _ (by omega) ⟨j+1,l,rfl,by omega,rfl,by omega,hm⟩
    simp only[dec_lt,Bnq hjl,Bna,B0,Cb hjl,Bnb,hf,Bhk,Ac (show j+1<9223372036854775808 by omega)];cases(x.2[j].2.1 != 1) with
    |true=>exact go
    |false =>
     simp only[Bnc];cases decide (x.2[j].1∈e.2.2.2.2.2) with
     |true=>exact no
     |false=>exact go
   ·have:j=x.2.length:=by omega
    subst this;simp only[dec_lt,Bnt hjl,Bnc];have hds:(([e]:A6 Ev).flatMap dsE).length≤301:=by have:=he.Axg;simp[dsE];omega
    have hsd:=A50 (([e]:A6 Ev).flatMap dsE);obtain⟨c,c1,c2,c3⟩:=B6n N (H6 (([e]:A6 Ev).flatMap dsE)) (by omega) hN;have j1:=A9b x.1 c;have j2:=A9c x.1 c;have hcl:=hb.cl;have hct:=hb.ct;have hpl:=Axc e l;rw[Al2 N [e] (by simp) (by simp[B15 he]) (by omega),Bnb,c1,Bnb,Al6 N x.1 c (by omega) G3 ⟨by omega,by omega⟩ hN,Bnb,B12 N l e (by omega) (by omega),Bnb];refine⟨_,rfl,?_,?_,?_,?_⟩
    ·show(Asd ltE eqE e l).length≤k+1;omega
    ·intro f hf;rcases B6o hf with h|h
     ·subst h;exact he
     ·exact hb.evs f (hm f h)
    ·show(A2e x.1 c).length≤400*(k+1);omega
    ·show Pc.W8 (A2e x.1 c)≤2000*(k+1);omega
def Be6(l:A6 Ev)(k:UInt8)(hl:l.length≤1000)(hN:10000<N):K8 N l k=some (l.filter fun e=>e.2.1==k):=by
 unfold K8;have e0:=foldl_filter (fun e:Ev=>e.2.1==k) l [];rw[Hy l (fun a x=>cond (x.2.1==k) (a++[x]) a) [] (fun a=>some a) ?_ ?_ N (by omega),e0]
 ·rfl
 ·intro rec j a hj ha;have hal:a.length≤j:=by rw[ha,foldl_filter,Bou];have:=Bov (fun e:Ev=>e.2.1==k) (l.take j);rw[Bof]at this;omega
  have hf:Au (a.length + [l[j]].length) 80=true:=fit (by simp;omega) (by simp;omega);simp only[dec_lt,Bnq hj,Bna,B0,Cb hj,Bnb,hf,Ac (show j+1<9223372036854775808 by omega)];cases(l[j].2.1==k)<;>rfl
 ·intro rec;simp only[dec_lt,Bnt (Boy _),Bnc]
def B6p(x:Bk)(hl:x.2.length≤1000)(hN:10000<N):Hm N x=some (x.2.filter fun e=>e.2.1==1):=by unfold Hm;rw[Be6 N x.2 1 hl hN];rfl
def Ag4(l:A6 Ev)(p:Ev→Bool)(hl:l.length≤100)(G3:∀e∈l,smE e)(hN:1000000<N){f:((A6 Ev×Int×Unit)×Unit×Unit×Unit→A7 (A6 (Int×Int)))→(A6 Ev×Int×Unit)×Unit×Unit×Unit→A7 (A6 (Int×Int))}
  (hs:∀(rec:(A6 Ev×Int×Unit)×Unit×Unit×Unit→A7 (A6 (Int×Int))) (k:Nat) (a:A6 Ev) (hk:k<l.length),a.length≤k→f rec ((a,(k:Int),()),(),(),())=rec ((cond (p l[k]) (a++[l[k]]) a,((k+1:Nat):Int),()),(),(),()))
  (he:∀(rec:(A6 Ev×Int×Unit)×Unit×Unit×Unit→A7 (A6 (Int×Int))) (a:A6 Ev),f rec ((a,(l.length:Int),()),(),(),())=Option.bind (Dh N a) fun y=>some y) :
  iter f N (([],0,()),(),(),())=some (H6 ((l.filter p).flatMap dsE)):=by
 have e0:=foldl_filter p l [];have hfl:(l.filter p).length≤l.length:=Bov _ _;rw[Hy l (fun a x=>cond (p x) (a++[x]) a) [] (fun a=>Option.bind (Dh N a) fun y=>some y) ?_ ?_ N (by omega),e0,Bou,Al2 N _ (by omega) (B6g G3 p) hN]
 ·rfl
 ·intro rec j a hj ha;refine hs rec j a hj ?_;rw[ha,foldl_filter,Bou];have:=Bov p (l.take j);rw[Bof]at this;omega
 ·intro rec;exact he rec _
def Axh(l:A6 Ev)(c:Int)(hl:l.length≤100)(G3:∀e∈l,smE e)(hN:1000000<N):Iv N l c=some (H6 ((l.filter fun e=>cond (e.2.1==1) (e.2.2.1==c) false).flatMap dsE)):=by
 unfold Iv;refine Ag4 N l _ hl G3 hN ?_ ?_
 ·intro rec k a hk hal;have hf:Au (a.length + [l[k]].length) 80=true:=fit (by simp;omega) (by simp;omega);simp only[dec_lt,Bnq hk,Bna,B0,Cb hk,Bnb,hf,Ac (show k+1<9223372036854775808 by omega)];cases(l[k].2.1==1)<;>cases(l[k].2.2.1==c)<;>rfl
 ·intro rec a;simp only[dec_lt,Bnt (Boy _),Bnc]
def B6q(l:A6 Ev)(c:Int)(r:UInt8)(hl:l.length≤100)(G3:∀e∈l,smE e)(hN:1000000<N):K9 N l c r=some (H6 ((l.filter fun e=>cond (e.2.1==1) (cond (e.2.2.1==c) (e.2.2.2.1==r) false) false).flatMap dsE)):=by
 unfold K9;refine Ag4 N l _ hl G3 hN ?_ ?_
 ·intro rec k a hk hal;have hf:Au (a.length + [l[k]].length) 80=true:=fit (by simp;omega) (by simp;omega);simp only[dec_lt,Bnq hk,Bna,B0,Cb hk,Bnb,hf,Ac (show k+1<9223372036854775808 by omega)];cases(l[k].2.1==1)<;>cases(l[k].2.2.1==c)<;>cases(l[k].2.2.2.1==r)<;>rfl
 ·intro rec a;simp only[dec_lt,Bnt (Boy _),Bnc]
def At8:SmE ((0,0),0,0,0,[],[]):=⟨by simp,by simp⟩
def Axi(x:Bk)(e:Ev)(k:Nat)(hk:k≤29)(hb:BdB k x)(he:SmE e)(hN:1000000000000<N):∃r,Ka N x e=some r∧SmE r.1:=by
 unfold Ka;obtain⟨b1,h1,_⟩:=Bbc N (e.1,e.2.1,e.2.2.1,e.2.2.2.1,e.2.2.2.2.1,[]) ⟨by simp,he.text⟩ (by omega);rw[h1,Bnb];have G3:=hb.sm (by omega);have hl:=hb.len;cases b1 with
 |false=>exact⟨_,rfl,At8⟩
 |true =>
  rw[Bp8,Bnc,Ac8 N x.1 e.1 G3 hN,Bnb];cases hasB x.1 e.1 with
  |true=>exact⟨_,rfl,At8⟩
  |false =>
   have hfl:(x.2.filter fun e=>e.2.1==1).length≤x.2.length:=Bov _ _;have hfs:∀f∈x.2.filter (fun e=>e.2.1==1),smE f:=fun f hf=>B15 (hb.evs f (Bo9.1 hf).1)
   rw[Bnc,B6p N x (by omega) (by omega),Bnb,Axh N _ _ (by omega) hfs (by omega),Bnb];have fin:∀(ds:A6 (Int×Int)),∃r,(bif decide ((256:Int)<(ds.length:Int))then some ((((0,0),0,0,0,[],[]):Ev),(3:Int))else some (((e.1,e.2.1,e.2.2.1,e.2.2.2.1,e.2.2.2.2.1,ds):Ev),0))=some r∧SmE r.1:=by
    intro ds;by_cases h:256<ds.length
    ·have:decide ((256:Int)<(ds.length:Int))=true:=by simp;omega
     rw[this];exact⟨_,rfl,At8⟩
    ·have:decide ((256:Int)<(ds.length:Int))=false:=by simp;omega
     rw[this];exact⟨_,rfl,⟨by show ds.length≤300;omega,he.text⟩⟩
   simp only[Ar];cases(e.2.1==1) with
   |true =>rw[Bna,Bnb,B6q N _ _ _ (by omega) hfs (by omega),Bnb];exact fin _
   |false=>exact fin _
def B16(x:Bk)(c:A6 Part)(k:Nat)(hk:k≤29)(hb:BdB k x)(hc:Agq c)(hN:1000000000000<N):∃r,Lv N x c=some r∧BdB (k+1) r:=by
 unfold Lv;have Tg:=hc.sm;have hcl:=hb.cl;have hct:=hb.ct;have h1:=hc.len;have h2:Pc.W8 c≤900:=by
  have key:∀c:A6 Part,(∀p∈c,p.2.length≤30)→Pc.W8 c≤30*c.length:=by
   intro c;induction c with
   |nil=>intro _;simp[Pc.W8]
   |cons p c ih =>
    intro h;have h1:=ih fun q hq=>h q (by simp[hq])
    have h2:=h p (by simp);rw[Pc.A0n,Bnx];omega
  have:=key c hc.runs;omega
 have j1:=A9b x.1 c;have j2:=A9c x.1 c;rw[Al6 N x.1 c (by omega) (hb.sm (by omega)) Tg hN,Bnb];exact⟨_,rfl,⟨by have:=hb.len;show x.2.length≤k+1;omega,hb.evs,by show(A2e x.1 c).length≤_;omega,by show Pc.W8 (A2e x.1 c)≤_;omega⟩⟩
def At9(e:Ev)(c:A6 Part)(he:SmE e)(hc:Agq c)(hN:1000000000000<N):∃r,Gx N e c=some r∧SmE r:=by
 unfold Gx;rw[Ac8 N c e.1 hc.sm hN,Bnb];cases hasB c e.1 with
 |true=>exact⟨_,rfl,⟨by simp,he.text⟩⟩
 |false=>exact⟨_,rfl,he⟩
def Ata(x:Bk)(c:A6 Part)(k:Nat)(hk:k≤29)(hb:BdB k x)(hc:Agq c)(hN:1000000000000<N):∃r,Jj N x c=some r∧BdB (k+1) r.1:=by
 unfold Jj;have hxl:=hb.len;refine Dn (Q:=fun r:Bk×Int=>BdB (k+1) r.1)
  (fun m z=>∃(j:Nat) (l:A6 Ev),z=((l,(j:Int),()),(),(),())∧j≤x.2.length∧m=x.2.length-j∧l.length≤j∧∀f∈l,SmE f) ?_ N x.2.length _ ⟨0,[],rfl,by omega,by omega,by simp,by simp⟩ (by omega)
 rintro m z rec ⟨j,l,rfl,hj,rfl,hl,hm⟩ ih;by_cases hjl:j<x.2.length
 ·obtain⟨y,hy,hys⟩:=At9 N x.2[j] c (hb.evs _ (Bp5 hjl)) hc hN;have hf:Au (l.length + [y].length) 80=true:=fit (by simp;omega) (by simp;omega);have go:∃r,rec ((l++[y],((j+1:Nat):Int),()),(),(),())=some r∧BdB (k+1) r.1:=by
   refine ih (x.2.length-(j+1)) _ (by omega) ⟨j+1,l++[y],rfl,by omega,rfl,by simp;omega,?_⟩;intro f hf;rcases Bnk.1 hf with hf|hf
   ·exact hm f hf
   ·simp at hf;subst hf;exact hys
  have no:∃r,rec ((l,((j+1:Nat):Int),()),(),(),())=some r∧BdB (k+1) r.1 :=
   ih (x.2.length-(j+1)) _ (by omega) ⟨j+1,l,rfl,by omega,rfl,by omega,hm⟩
  simp only[dec_lt,Bnq hjl,Bna,B0,Cb hjl,Bnb,hy,hf,Ac8 N c x.2[j].1 hc.sm hN,Ac (show j+1<9223372036854775808 by omega)];cases(x.2[j].2.1==1) with
  |true=>exact go
  |false =>
   simp only[Bnc];cases hasB c x.2[j].1 with
   |true=>exact no
   |false=>exact go
 ·have:j=x.2.length:=by omega
  subst this;simp only[dec_lt,Bnt hjl,Bnc];exact⟨_,rfl,⟨by show l.length≤k+1;omega,hm,by have:=hb.cl;show x.1.length≤_;omega,by have:=hb.ct;show Pc.W8 x.1≤_;omega⟩⟩
abbrev Axj:Type:=UInt8×Ev×A6 Part
def B6r(l:A6 Axj)(hl:l.length≤20)(he:∀a∈l,SmE a.2.1∧Agq a.2.2)(hN:1000000000000<N):∃r,Mu N l=some r∧BdB 20 r:=by
 unfold Mu;have up:∀(k j:Nat) (x:Bk),BdB k x→BdB (k+j) x:=by
  intro k j x h;induction j with
  |zero=>exact h
  |succ j ih=>exact ih.up
 refine Dn (Q:=fun r:Bk=>BdB 20 r)
  (fun m z=>∃(k:Nat) (x:Bk),z=(((k:Int),()),((x,()),()),(),())∧k≤l.length∧m=l.length-k∧BdB k x) ?_ N l.length _ ⟨0,([],[]),rfl,by omega,by omega,⟨by simp,by simp,by simp,by simp[Pc.W8]⟩⟩ (by omega)
 rintro m z rec ⟨k,x,rfl,hk,rfl,hb⟩ ih;by_cases I1:k<l.length
 ·obtain⟨he1,he2⟩:=he l[k] (Bp5 I1);have go:∀y:Bk,BdB (k+1) y→∃r,rec ((((k+1:Nat):Int),()),((y,()),()),(),())=some r∧BdB 20 r:=fun y hy=>ih (l.length-(k+1)) _ (by omega) ⟨k+1,y,rfl,by omega,rfl,hy⟩
  simp only[dec_lt,Bnq I1,Bna,B0,Cb I1,Bnb,Ac (show k+1<9223372036854775808 by omega)];cases(l[k].1==0) with
  |true =>obtain⟨r,h1,h2⟩:=Al7 N x l[k].2.1 k (by omega) hb he1 hN;rw[Bna,h1,Bnb];exact go _ h2
  |false =>
   rw[Bnc];cases(l[k].1==1) with
   |true =>obtain⟨r,h1,h2⟩:=Axi N x l[k].2.1 k (by omega) hb he1 hN;obtain⟨r2,h3,h4⟩:=Al7 N x r.1 k (by omega) hb h2 hN;rw[Bna,h1,Bnb,h3,Bnb];exact go _ h4
   |false =>
    rw[Bnc];cases(l[k].1==2) with
    |true =>obtain⟨r,h1,h2⟩:=B16 N x l[k].2.2 k (by omega) hb he2 hN;rw[Bna,h1,Bnb];exact go _ h2
    |false =>
     rw[Bnc];cases(l[k].1==3) with
     |true =>obtain⟨r,h1,h2⟩:=Ata N x l[k].2.2 k (by omega) hb he2 hN;rw[Bna,h1,Bnb];exact go _ h2
     |false=>exact go _ hb.up
 ·have:k=l.length:=by omega
  subst this;simp only[dec_lt,Bnt I1,Bnc];refine⟨x,rfl,?_⟩;have:=up l.length (20-l.length) x hb
  rwa [show l.length+(20-l.length)=20 by omega]at this
def B17(l:A6 Axj)(hN:1000000000000<N):Il N l 20=some 0∨(Il N l 20=some 1∧l.length≤20∧∀a∈l,SmE a.2.1∧Agq a.2.2):=by
 unfold Il;by_cases hl:20<l.length
 ·have:decide ((20:Int)<(l.length:Int))=true:=by simp;omega
  rw[this];exact .inl rfl
 ·have:decide ((20:Int)<(l.length:Int))=false:=by simp;omega
  rw[this,Bnc]
  suffices H:∃r,iter (fun(rec:(Int×Unit)×Unit×Unit×Unit→A7 Int) (z:(Int×Unit)×Unit×Unit×Unit) =>
    bif decide (z.fst.fst<(l.length:Int)) then
     (at? l z.fst.fst).bind fun(e:Axj) =>
      Option.bind (Ij N [e.snd.fst] 1) fun(y:Bool) =>
       bif !y then some 0
       else
        (at? l z.fst.fst).bind fun(e:Axj) =>Option.bind (Ik N e.snd.snd) fun(y:Bool) =>bif !y then some 0 else rec ((i64.wrap (z.fst.fst+1),()),(),(),())
    else some 1) N ((0,()),(),(),())=some r∧(r=0∨r=1∧∀a∈l,SmE a.2.1∧Agq a.2.2) by
   obtain⟨r,h1,h2⟩:=H;rcases h2 with rfl|⟨rfl,h2⟩
   ·exact .inl h1
   ·exact .inr ⟨h1,by omega,h2⟩
  refine Dn (Q:=fun r:Int=>r=0∨r=1∧∀a∈l,SmE a.2.1∧Agq a.2.2)
   (fun m z=>∃k:Nat,z=(((k:Int),()),(),(),())∧k≤l.length∧m=l.length-k∧∀a∈l.take k,SmE a.2.1∧Agq a.2.2) ?_ N l.length _ ⟨0,rfl,by omega,by omega,by simp⟩ (by omega)
  rintro m z rec ⟨k,rfl,hk,rfl,hm⟩ ih;by_cases I1:k<l.length
  ·obtain⟨b1,h1,h2⟩:=Bmd N l[k].2.1 (by omega);obtain⟨b2,h3,h4⟩:=B6i N l[k].2.2 (by omega);simp only[dec_lt,Bnq I1,Bna,B0,Cb I1,Bnb,h1,h3,Ac (show k+1<9223372036854775808 by omega)];cases b1 with
   |false=>exact⟨0,rfl,.inl rfl⟩
   |true =>
    cases b2 with
    |false=>exact⟨0,rfl,.inl rfl⟩
    |true =>
     refine ih (l.length-(k+1)) _ (by omega) ⟨k+1,rfl,by omega,rfl,?_⟩;intro a ha;rw[Bp9,Cb I1]at ha;rcases Bnk.1 ha with ha|ha
     ·exact hm a ha
     ·simp at ha;subst ha;exact⟨h2 rfl,h4 rfl⟩
  ·have:k=l.length:=by omega
   subst this;simp only[dec_lt,Bnt I1,Bnc];refine⟨1,rfl,.inr ⟨rfl,fun a ha=>hm a (by rwa [Boh])⟩⟩
end Go.Proofs.Xg
