import Derived.Test.YtgoagklpjloboaaGreatDoorZd
import Derived.Test.YtgoagklpjloboaaGreatDoorZc
import Derived.KernelRfl
import Derived.Shelf.Strings.Builder2
import Derived.Laws.Bits64b
import Derived.Test.YtgoagklpjloboaaGreatDoorZa
set_option linter.all false
set_option maxRecDepth 100000
set_option maxRecDepth 1000000
open Go.IntKind (i64 u64 u16)
open Go.Proofs.Tryz
noncomputable section
namespace Go.Proofs.Xg
open Go Go.Xl Go.Ab Go.Proofs
@[reducible] def tepitaphlaw18Act:Ty:=(.pair .u8 (.pair tEvent (.sl Ak)))
@[reducible] def A8:Ty:=(.pair (.sl Ak) (.sl tEvent))
abbrev OwN:Type:=A3 (A2 (Int×Int)×Nat)
variable(N:Nat){i j a k u d Iq:Nat}{n lo hi:Int}
def nrL(n:Int)(q:OwN):A3 (A2 (Int×Int)) :=
 iter (fun(rec:(Int×Unit)×Unit×(OwN×OwN×Unit)×Unit→A3 (A2 (Int×Int))) (z:(Int×Unit)×Unit×(OwN×OwN×Unit)×Unit) =>
  A6 z.2.2.1.1
   (A6 z.2.2.1.2.1 (bif decide (z.1.1<n)then none else some []) fun(y:A2 (Int×Int)×Nat) =>
    bif decide (z.1.1<n) then
     bif decide (0≤z.1.1)&&decide (z.1.1<(y.2:Int)) then
      y.1[0+z.1.1.toNat]?.bind fun(e:Int×Int)=>rec ((i64.wrap (z.1.1+1),()),(),(some ([e],[e].length),some y,()),())
     else none
    else some [])
   fun(y:A2 (Int×Int)×Nat) =>
   A6 z.2.2.1.2.1
    (bif decide (z.1.1<n)then none else bif bif (0+y.2).ble y.1.length then true else false then some (List.take y.2 (List.drop 0 y.1))else none)
    fun(w:A2 (Int×Int)×Nat) =>
    bif decide (z.1.1<n) then
     bif decide (0≤z.1.1)&&decide (z.1.1<(w.2:Int)) then
      w.1[0+z.1.1.toNat]?.bind fun(e:Int×Int) =>
       bif decide (0≤i64.wrap ((y.2:Int)-1)) then
        bif decide (0≤i64.wrap ((y.2:Int)-1))&&decide (i64.wrap ((y.2:Int)-1)<(y.2:Int)) then
         y.1[0+(i64.wrap ((y.2:Int)-1)).toNat]?.bind fun(Mn:Int×Int) =>
          bif decide (e.1≤u64.wrap (Mn.2+1)) then
           bif decide (0≤i64.wrap ((y.2:Int)-1))&&decide (i64.wrap ((y.2:Int)-1)<(y.2:Int)) then
            y.1[0+(i64.wrap ((y.2:Int)-1)).toNat]?.bind fun(e_2:Int×Int) =>
             bif decide (0≤i64.wrap ((y.2:Int)-1))&&decide (i64.wrap ((y.2:Int)-1)<(y.2:Int)) then
              y.1[0+(i64.wrap ((y.2:Int)-1)).toNat]?.bind fun(e_3:Int×Int) =>rec ((i64.wrap (z.1.1+1),()),(),(some (y.1.set (0+(i64.wrap ((y.2:Int)-1)).toNat) (e_3.1,bif false then if e.2<e_2.2 then e.2 else e_2.2 else if e.2>e_2.2 then e.2 else e_2.2),y.2),some w,()),())
             else none
           else none
          else bif y.1.length.beq y.2 then bif Ao (y.2 + [e].length) 16 then rec ((i64.wrap (z.1.1+1),()),(),(some (y.1++[e],y.2 + [e].length),some w,()),())else none else none
        else none
       else bif y.1.length.beq y.2 then bif Ao (y.2 + [e].length) 16 then rec ((i64.wrap (z.1.1+1),()),(),(some (y.1++[e],y.2 + [e].length),some w,()),())else none else none
     else none
    else bif bif (0+y.2).ble y.1.length then true else false then some (List.take y.2 (List.drop 0 y.1))else none)
  N ((0,()),(),(none,q,()),())
def Kl:Bb [(.sl B4)] (A3 (Al [(.sl B4)])):=fun(x:Bwx)=>iter (fun(rec:Bwr×Unit×(OwN×Unit)×Unit→A3 Bwx) (z:Bwr×Unit×(OwN×Unit)×Unit)=>A6 z.2.2.1.1 (bif decide (z.1.1<(x.length:Int))then (at? x
 z.1.1).bind fun(e:Bwo)=>bif decide (0<e.1)then bif decide (e.1≤e.2)then bif decide (e.2≤281474976710655)then rec ((i64.wrap (z.1.1+1),()),(),(some ([e],[e].length),()),())else rec ((i64.wrap
 (z.1.1+1),()),(),(none,()),())else rec ((i64.wrap (z.1.1+1),()),(),(none,()),())else rec ((i64.wrap (z.1.1+1),()),(),(none,()),())else nrL N 0 none) fun(y:A2 Bwo×Nat)=>bif decide
 (z.1.1<(x.length:Int))then (at? x z.1.1).bind fun(e:Bwo)=>bif decide (0<e.1)then bif decide (e.1≤e.2)then bif decide (e.2≤281474976710655)then bif y.1.length.beq y.2 then bif Ao (y.2 + [e].length) 16 then rec
 ((i64.wrap (z.1.1+1),()),(),(some (y.1++[e],y.2 + [e].length),()),())else none else none else rec ((i64.wrap (z.1.1+1),()),(),(some y,()),())else rec ((i64.wrap (z.1.1+1),()),(),(some
 y,()),())else rec ((i64.wrap (z.1.1+1),()),(),(some y,()),())else bif y.2.ble y.1.length then bif y.2.ble 4611686018427387903 then nrL N (y.2:Int) (some (Df (List.take y.2 y.1)++List.drop y.2 y.1,y.2))else none
 else none) N ((0,()),(),(none,()),())
def A4m:=Bs [X6 N,Anf N] [34,75] N 112 (A1 (A1 (.seq (A1 (.blk (.loop ⟨[(12,.d A0)],[],[10,11],[],[(3,400003,B4)],[]⟩ .lf))) (A1 (A1 (.seq (A1 (.blk (.loop ⟨[(40,.d A0)],[],[39],[],[(6,400006,B4),(38,400038,B4)],[]⟩ .lf))) .lf)))))) [(.sl B4)] [(.sl B4)] (Kl N) mixed func112 rfl (by decide) rfl (by kernel_rfl)
@[reducible] def A4n:Dr:=⟨[.p 1 777777777],[],[(1,.map (.int .u16) (.sl B4))],⟨[(2,.d (.sl Ak))],[],[],[1],[],[]⟩⟩
def Z3:Dr.Bb A4n (A3 A4n.out.T):=fun(l:A2 (Nat×Int×A2 Bwo)×Nat)=>iter (fun(rec:Unit×Unit×(A3 (A2 Bwp×Nat)×Unit)×(Nat×A2 Nat×Nat)×Unit→A3 ((A2 Bwp×Unit)×Unit×Unit×Unit))
 (z:Unit×Unit×(A3 (A2 Bwp×Nat)×Unit)×(Nat×A2 Nat×Nat)×Unit)=>A6 z.2.2.1.1 (bif A6w z.2.2.2.1.1 z.2.2.2.1.2.2 l.1 then Wq (Cb z.2.2.2.1.2.1 l.1) (some (([],()),(),(),())) fun(e:Nat×Int×A2 Bwo)=>bif l.2.beq l.2
 then A6 (P5 (z.2.2.2.1.2.1++[e.1])) none fun(p:A2 Nat×Nat)=>A6 (A1v (Ty.int u16) B4.sl p.2 l.1) none fun(Mn:Nat×Int×A2 Bwo)=>Option.bind (Kl N Mn.2.2) fun(y:Bwx)=>bif decide (0<(↑y.length:Int))then rec
 ((),(),(some ([(Mn.2.1,y)],[(Mn.2.1,y)].length),()),(z.2.2.2.1.1,z.2.2.2.1.2.1++[e.1],l.2),())else rec ((),(),(none,()),(z.2.2.2.1.1,z.2.2.2.1.2.1++[e.1],l.2),())else none else none) fun(y:A2 Bwp×Nat)=>bif A6w
 z.2.2.2.1.1 z.2.2.2.1.2.2 l.1 then Wq (Cb z.2.2.2.1.2.1 l.1) (bif y.2.ble y.1.length then bif y.2.ble 4611686018427387903 then bif A4l (List.take y.2 y.1)then bif bif (0+y.2).ble (Po (List.take y.2 y.1)++List.drop y.2
 y.1).length then true else false then some ((List.take y.2 (List.drop 0 (Po (List.take y.2 y.1)++List.drop y.2 y.1)),()),(),(),())else none else none else none else none) fun(e:Nat×Int×A2 Bwo)=>bif l.2.beq l.2 then A6
 (P5 (z.2.2.2.1.2.1++[e.1])) none fun(p:A2 Nat×Nat)=>A6 (A1v (Ty.int u16) B4.sl p.2 l.1) none fun(Mn:Nat×Int×A2 Bwo)=>Option.bind (Kl N Mn.2.2) fun(Dv:Bwx)=>bif decide (0<(↑Dv.length:Int))then bif
 y.1.length.beq y.2 then bif Ao (y.2 + [(Mn.2.1,Dv)].length) 32 then rec ((),(),(some (y.1++[(Mn.2.1,Dv)],y.2 + [(Mn.2.1,Dv)].length),()),(z.2.2.2.1.1,z.2.2.2.1.2.1++[e.1],l.2),())else none else none else rec
 ((),(),(some y,()),(z.2.2.2.1.1,z.2.2.2.1.2.1++[e.1],l.2),())else none else none) N ((),(),(none,()),(l.2,[],l.2),())
def Ay1:=H8 [A4m N,X7 N,Ang N] [23] N 74 (A1 (A1 (.seq (A1 (.blk (.loop ⟨[],[],[7],[1],[(3,400003,Ak)],[(1007,.Jo 1)]⟩ .lf))) (.fz [3] .lf .lf)))) A4n (Z3 N) mixed func74 rfl (by decide) rfl rfl rfl (by kernel_rfl)
@[reducible] def A9h:Dr:=⟨[.d (.sl Ak)],[],[],⟨[(2,.p 1006 777777777)],[],[],[],[],[(1006,.map (.int .u16) (.sl B4))]⟩⟩
def Sk:Dr.Bb A9h (A3 A9h.out.T):=fun(y:A2 Bwp)=>iter (fun(rec:Bwr×Unit×Unit×(A2 (Nat×Int×Bool×A2 Bwo)×Nat)×Unit→A3 ((Unit×Unit)×Unit×Unit×(A2 (Nat×Int×A2 Bwo)×Nat)×Unit))
 (z:Bwr×Unit×Unit×(A2 (Nat×Int×Bool×A2 Bwo)×Nat)×Unit)=>bif decide (z.1.1<(↑y.length:Int))then (at? y z.1.1).bind fun(e:Bwp)=>bif decide (0<e.1)then bif Bac (Ty.int u16) B4 e.1 z.2.2.2.1.1 then bif Ao ((Bab
 (Ty.int u16) B4 e.1 z.2.2.2.1.1).length+e.2.length) 16 then rec ((i64.wrap (z.1.1+1),()),(),(),(Bkp (Ty.int u16) B4 e.1 (Bab (Ty.int u16) B4 e.1 z.2.2.2.1.1++e.2) true z.2.2.2.1.2 (Bgo
 (Ty.int u16) B4 e.1 z.2.2.2.1.1),Awg (Ty.int u16) B4.sl e.1 (Bko (Ty.int u16) B4 (Bgo (Ty.int u16) B4 e.1 z.2.2.2.1.1)) z.2.2.2.1.2),())else none else none else rec ((i64.wrap
 (z.1.1+1),()),(),(),z.2.2.2.1,())else some (((),()),(),(),(Bko (Ty.int u16) B4 z.2.2.2.1.1,z.2.2.2.1.2),())) N ((0,()),(),(),([],0),())
def Akr:=H8 [] [6] N 75 (A1 (A1 (.fg (A1 (.blk (.loop ⟨[(9,.d A0)],[],[3,7,8],[],[],[(1006,.Cf 501006 (.int .u16) B4)]⟩ .lf))) .lf))) A9h (Sk N) mixed func75 rfl (by decide) rfl rfl rfl (by kernel_rfl)
def X8:Bb [(.sl Ak)] (A3 (Al [(.sl Ak)])):=fun(x:A2 Bwp)=>Option.bind (Sk N x) fun(y:(Unit×Unit)×Unit×Unit×(A2 (Nat×Int×A2 Bwo)×Nat)×Unit)=>Option.bind (Z3 N y.2.2.2.1) fun(y:(List
 Bwp×Unit)×Unit×Unit×Unit)=>some y.1.1
def Aks:=Bs [Ay1 N,Akr N] [] N 31 .lf [(.sl Ak)] [(.sl Ak)] (X8 N) mixed func31 rfl (by decide) rfl (by kernel_rfl)
def Gz:Bb [(.sl B4),(.sl B4)] (A3 (Al [.bool])):=fun(x Bh:Bwx)=>bif (↑x.length:Int) != (↑Bh.length:Int)then some false else iter (fun(rec:Bwr×Unit×Unit×Unit→A3 Bool)
 (z:Bwr×Unit×Unit×Unit)=>bif decide (z.1.1<(↑x.length:Int))then (at? x z.1.1).bind fun(e:Bwo)=>(at? Bh z.1.1).bind fun(Mn:Bwo)=>bif !(e.1==Mn.1&&e.2==Mn.2)then some false else rec ((i64.wrap
 (z.1.1+1),()),(),(),())else some true) N ((0,()),(),(),())
def A0p:=Bs [] [] N 121 (A1 (A1 (.seq (A1 (.blk (.loop ⟨[(13,.d A0)],[],[0,1,12],[],[],[]⟩ .lf))) .lf))) [(.sl B4),(.sl B4)] [.bool] (Gz N) mixed func121 rfl (by decide) rfl (by kernel_rfl)
def X9:Bb [Ak,Ak] (A3 (Al [.bool])):=fun(x Bh:Bwp)=>bif x.1==Bh.1 then Option.bind (Gz N x.2 Bh.2) fun(y:Bool)=>some y else some false
def Akt:=Bs [A0p N] [] N 120 .lf [Ak,Ak] [.bool] (X9 N) mixed func120 rfl (by decide) rfl (by kernel_rfl)
@[reducible] def E0:Dr:=⟨[.d (.sl Ak),.d (.sl Ak),.F1 120 []],[],[],⟨[(6,.d .bool)],[],[],[],[],[]⟩⟩
def E1:Dr.Bb E0 (A3 E0.out.T):=fun(y Dv:A2 Bwp)=>bif (↑y.length:Int) != (↑Dv.length:Int)then some ((false,()),(),(),())else iter (fun(rec:Bwr×Unit×Unit×Unit→A3 (Bww×Unit×Unit×Unit))
 (z:Bwr×Unit×Unit×Unit)=>bif decide (z.1.1<(↑y.length:Int))then (at? y z.1.1).bind fun(e:Bwp)=>(at? Dv z.1.1).bind fun(Mn:Bwp)=>Option.bind (X9 N e Mn) fun(y:Bool)=>bif !y then some ((false,()),(),(),())else rec
 ((i64.wrap (z.1.1+1),()),(),(),())else some ((true,()),(),(),())) N ((0,()),(),(),())
def Oc:=H8 [Akt N] [] N 119 (A1 (A1 (.seq (A1 (.blk (.loop ⟨[(17,.d A0)],[],[1,2,15,16],[],[],[]⟩ .lf))) .lf))) E0 (E1 N) mixed func119 rfl (by decide) rfl rfl rfl (by kernel_rfl)
def Ace:Bb [(.sl Ak),(.sl Ak)] (A3 (Al [.bool])):=fun(x Bh:A2 Bwp)=>Option.bind (E1 N x Bh) fun(y:Bww×Unit×Unit×Unit)=>some y.1.1
def Bc5:=Bs [Oc N,Akt N] [] N 84 .lf [(.sl Ak),(.sl Ak)] [.bool] (Ace N) mixed func84 rfl (by decide) rfl (by kernel_rfl)
def A1z:Bb [(.sl Ak)] (A3 (Al [.bool])):=fun(x:A2 Bwp)=>Option.bind (X8 N x) fun(y:A2 Bwp)=>Option.bind (Ace N x y) fun(y:Bool)=>some y
def B1j:=Bs [Aks N,Bc5 N] [] N 36 .lf [(.sl Ak)] [.bool] (A1z N) mixed func36 rfl (by decide) rfl (by kernel_rfl)
def Rc:Bb [B4,(.int .u64)] (A3 (Al [A0])):=fun(x:Bwo) (Bh:Int)=>Option.bind (By N x.2 Bh) fun(y:Int)=>some y
def Acf:=Bs [Ex N] [] N 180 .lf [B4,(.int .u64)] [A0] (Rc N) mixed func180 rfl (by decide) rfl (by kernel_rfl)
@[reducible] def Ct:Dr:=⟨[.d (.sl B4),.d (.int .u64),.F1 180 []],[],[],⟨[(6,.d A0),(7,.d .bool)],[],[],[],[],[]⟩⟩
def B7:Dr.Bb Ct (A3 Ct.out.T):=fun(y:Bwx) (Dv:Int)=>iter (fun(rec:Bwt×Unit×Unit×Unit→A3 ((Int×Bool×Unit)×Unit×Unit×Unit)) (z:Bwt×Unit×Unit×Unit)=>bif decide (z.1.1<z.1.2.1)then (at? y
 (i64.wrap ((u64.wrap (i64.wrap (z.1.1+z.1.2.1))).fdiv 2))).bind fun(e:Bwo)=>Option.bind (Rc N e Dv) fun(y:Int)=>bif decide (y<0)then rec ((i64.wrap (i64.wrap ((u64.wrap
 (i64.wrap (z.1.1+z.1.2.1))).fdiv 2)+1),z.1.2.1,()),(),(),())else rec ((z.1.1,i64.wrap ((u64.wrap (i64.wrap (z.1.1+z.1.2.1))).fdiv 2),()),(),(),())else bif decide
 (z.1.1<(↑y.length:Int))then (at? y z.1.1).bind fun(e:Bwo)=>Option.bind (Rc N e Dv) fun(y:Int)=>some ((z.1.1,y==0,()),(),(),())else some ((z.1.1,false,()),(),(),())) N ((0,(↑y.length:Int),()),(),(),())
def Lp:=H8 [Acf N] [] N 179 (A1 (A1 (A1 (.seq (.blk (.loop ⟨[(9,.d A0),(10,.d A0)],[],[0,1,2,8],[],[],[]⟩ .lf)) .lf)))) Ct (B7 N) mixed func179 rfl (by decide) rfl rfl rfl (by kernel_rfl)
def A20:Bb [(.sl B4),(.int .u64)] (A3 (Al [.bool])):=fun(x:Bwx) (Bh:Int)=>Option.bind (Kl N x) fun(y:Bwx)=>Option.bind (B7 N y Bh) fun(Dv:(Int×Bool×Unit)×Unit×Unit×Unit)=>bif decide
 (Dv.1.1<(↑y.length:Int))then (at? y Dv.1.1).bind fun(e:Bwo)=>some (decide (e.1≤Bh))else some false
def B1k:=Bs [A4m N,Lp N,Acf N] [] N 154 .lf [(.sl B4),(.int .u64)] [.bool] (A20 N) mixed func154 rfl (by decide) rfl (by kernel_rfl)
def A9i:Bb [(.sl Ak),(.int .u16)] (A3 (Al [(.sl B4)])):=fun(x:A2 Bwp) (Bh:Int)=>Option.bind (Sk N x) fun(y:(Unit×Unit)×Unit×Unit×(A2 (Nat×Int×A2 Bwo)×Nat)×Unit)=>Option.bind (Kl N ((B3g
 (Ty.int u16) B4.sl Bh y.2.2.2.1.1).getD [])) fun(y:Bwx)=>some y
def B1l:=Bs [A4m N,Akr N] [] N 155 .lf [(.sl Ak),(.int .u16)] [(.sl B4)] (A9i N) mixed func155 rfl (by decide) rfl (by kernel_rfl)
def A6i:Bb [(.sl Ak),Ag] (A3 (Al [.bool])):=fun(x:A2 Bwp) (Bh:Bwo)=>bif decide (0<Bh.1)then Option.bind (A9i N x Bh.1) fun(y:Bwx)=>Option.bind (A20 N y Bh.2) fun(y:Bool)=>some y else some false
def B7p:=Bs [B1k N,B1l N] [] N 122 .lf [(.sl Ak),Ag] [.bool] (A6i N) mixed func122 rfl (by decide) rfl (by kernel_rfl)
def H2:Bb [(.sl Ag),Ag] (A3 (Al [A0])):=fun(x:Bwx) (Bh:Bwo)=>iter (fun(rec:Bwr×Unit×Unit×Unit→A3 Int) (z:Bwr×Unit×Unit×Unit)=>bif decide (z.1.1<(↑x.length:Int))then (at? x
 z.1.1).bind fun(e:Bwo)=>bif Bh.1==e.1&&Bh.2==e.2 then some z.1.1 else rec ((i64.wrap (z.1.1+1),()),(),(),())else some (-1)) N ((0,()),(),(),())
def A0q:=Bs [] [] N 178 (A1 (.seq (A1 (.blk (.loop ⟨[(8,.d A0)],[],[0,3,7],[1003],[],[]⟩ .lf))) .lf)) [(.sl Ag),Ag] [A0] (H2 N) mixed func178 rfl (by decide) rfl (by kernel_rfl)
def I5:Bb [(.sl Ag),Ag] (A3 (Al [.bool])):=fun(x:Bwx) (Bh:Bwo)=>Option.bind (H2 N x Bh) fun(y:Int)=>some (decide (0≤y))
def Xa:=Bs [A0q N] [] N 153 .lf [(.sl Ag),Ag] [.bool] (I5 N) mixed func153 rfl (by decide) rfl (by kernel_rfl)
def A6j:Bb [(.sl Ag),Ag] (A3 (Al [.bool])):=fun(x:Bwx) (Bh:Bwo)=>Option.bind (I5 N x Bh) fun(y:Bool)=>some y
def B7q:=Bs [Xa N] [] N 117 .lf [(.sl Ag),Ag] [.bool] (A6j N) mixed func117 rfl (by decide) rfl (by kernel_rfl)
def Ta:Bb [tEvent,Ag] (A3 (Al [.bool])):=fun(x:Bwo×UInt8×Int×UInt8×A2 UInt8×A2 Bwo) (Bh:Bwo)=>Option.bind (A6j N x.2.2.2.2.2 Bh) fun(y:Bool)=>some y
def Ani:=Bs [B7q N] [] N 82 .lf [tEvent,Ag] [.bool] (Ta N) mixed func82 rfl (by decide) rfl (by kernel_rfl)
def Vi:Bb [(.sl tEvent),Ag] (A3 (Al [.bool])):=fun(x:A2 Bwn) (Bh:Bwo)=>iter (fun(rec:Bwr×Unit×Unit×Unit→A3 Bool) (z:Bwr×Unit×Unit×Unit)=>bif decide (z.1.1<(↑x.length:Int))then (at? x
 z.1.1).bind fun(e:Bwo×UInt8×Int×UInt8×A2 UInt8×A2 Bwo)=>Option.bind (Ta N e Bh) fun(y:Bool)=>bif y then some true else rec ((i64.wrap (z.1.1+1),()),(),(),())else some false) N ((0,()),(),(),())
def Atq:=Bs [Ani N] [] N 34 (A1 (.seq (A1 (.blk (.loop ⟨[(9,.d A0)],[],[3,7,8],[1003],[],[]⟩ .lf))) .lf)) [(.sl tEvent),Ag] [.bool] (Vi N) mixed func34 rfl (by decide) rfl (by kernel_rfl)
def Sl:Bb [(.sl Ag)] (A3 (Al [(.sl Ag)])):=fun(x:Bwx)=>(Dd x (some none) fun(y:Xg.Ag.T) (r:A2 Xg.Ag.T)=>bif Ao (y::r).length 16 then some (some (y::r,(y::r).length))else none).bind fun(y:Option
 (A2 Bwo×Nat))=>A6 y (Option.bind (N3 N) fun(y:Bwx)=>some y) fun(z:A2 Bwo×Nat)=>bif z.2.ble z.1.length then bif z.2.ble 4611686018427387903 then Option.bind (Fx N (De (List.take z.2 z.1)++List.drop z.2 z.1) z.2)
 fun(y:A2 Bwo×Nat)=>bif bif (0+y.2).ble y.1.length then true else false then some (List.take y.2 (List.drop 0 y.1))else none else none else none
def Aku:=Bs [A0n N,X5 N,Yb N,W4 N] [] N 86 .lf [(.sl Ag)] [(.sl Ag)] (Sl N) mixed func86 rfl (by decide) rfl (by kernel_rfl)
def Vj:Bb [(.sl Ag),(.sl Ak),.bool] (A3 (Al [(.sl Ag)])):=fun(x:Bwx) (Bh:A2 Bwp) (x_2:Bool)=>iter (fun(rec:Bwu×Unit×Unit×Unit→A3 Bwx) (z:Bwu×Unit×Unit×Unit)=>bif decide
 (z.1.2.1<(↑x.length:Int))then (at? x z.1.2.1).bind fun(e:Bwo)=>Option.bind (A6i N Bh e) fun(y:Bool)=>bif y==x_2 then bif Ao (z.1.1.length + [e].length) 16 then rec ((z.1.1++[e],i64.wrap
 (z.1.2.1+1),()),(),(),())else none else rec ((z.1.1,i64.wrap (z.1.2.1+1),()),(),(),())else Option.bind (Sl N z.1.1) fun(y:Bwx)=>some y) N (([],0,()),(),(),())
def Atr:=Bs [B7p N,Aku N] [] N 85 (A1 (A1 (.seq (A1 (.blk (.loop ⟨[(7,.Be 200007 Ag none),(12,.d A0)],[],[1,2,10,11],[],[],[]⟩ .lf))) .lf))) [(.sl Ag),(.sl Ak),.bool] [(.sl Ag)] (Vj N) mixed func85 rfl (by decide) rfl (by kernel_rfl)
def A21:Bb [(.sl Ag),(.sl Ak)] (A3 (Al [(.sl Ag)])):=fun(x:Bwx) (Bh:A2 Bwp)=>Option.bind (Vj N x Bh false) fun(y:Bwx)=>some y
def Ats:=Bs [Atr N] [] N 37 .lf [(.sl Ag),(.sl Ak)] [(.sl Ag)] (A21 N) mixed func37 rfl (by decide) rfl (by kernel_rfl)
def Pf(N:Nat):Bb [(.int .u64)] (A3 (Al [(.int .u16),(.int .u64)])):=fun(x:Int)=>some (u16.wrap (x.fdiv 281474976710656),bits BinOp.and u64 x 281474976710655)
def Anj:=Bs [] [] N 115 .lf [(.int .u64)] [(.int .u16),(.int .u64)] (Pf N) mixed func115 rfl (by decide) rfl (by kernel_rfl)
def Q2(N:Nat):Bb [Ag] (A3 (Al [.bool])):=fun(x:Bwo)=>bif decide (0<x.1)then bif decide (0<x.2)then some (decide (x.2≤281474976710655))else some false else some false
def Akv:=Bs [] [] N 77 .lf [Ag] [.bool] (Q2 N) mixed func77 rfl (by decide) rfl (by kernel_rfl)
def Kz:Bb [(.int .u64)] (A3 (Al [Ag,.bool])):=fun(x:Int)=>Option.bind (Pf N x) fun(y:Bwo)=>Option.bind (Q2 N y) fun(Dv:Bool)=>bif !Dv then some ((0,0),false)else some (y,true)
def Att:=Bs [Anj N,Akv N] [] N 76 .lf [(.int .u64)] [Ag,.bool] (Kz N) mixed func76 rfl (by decide) rfl (by kernel_rfl)
def O3(N:Nat):Bb [.u8] (A3 (Al [.bool])):=fun(x:UInt8)=>bif decide (1≤x)then some (decide (x≤5))else some false
def Acg:=Bs [] [] N 78 .lf [.u8] [.bool] (O3 N) mixed func78 rfl (by decide) rfl (by kernel_rfl)
def Vk:Bb [.str] (A3 (Al [.bool])):=fun(x:Bwy)=>bif decide (60<(↑x.length:Int))then some false else iter (fun(rec:Bwr×Unit×Unit×Unit→A3 Bool) (z:Bwr×Unit×Unit×Unit)=>bif decide
 (z.1.1<(↑x.length:Int))then (at? x z.1.1).bind fun(c:UInt8)=>bif decide (c<32)then some false else (at? x z.1.1).bind fun(c:UInt8)=>bif decide (126<c)then some false else rec ((i64.wrap
 (z.1.1+1),()),(),(),())else some true) N ((0,()),(),(),())
def Atu:=Bs [] [] N 79 (A1 (A1 (.seq (A1 (.blk (.loop ⟨[(9,.d A0)],[],[0,8],[],[],[]⟩ .lf))) .lf))) [.str] [.bool] (Vk N) mixed func79 rfl (by decide) rfl (by kernel_rfl)
def Vl:Bb [(.sl Ag)] (A3 (Al [.bool])):=fun(x:Bwx)=>iter (fun(rec:Bwr×Unit×Unit×Unit→A3 Bool) (z:Bwr×Unit×Unit×Unit)=>bif decide (z.1.1<(↑x.length:Int))then bif decide (0<z.1.1)then (at? x
 (i64.wrap (z.1.1-1))).bind fun(e:Bwo)=>(at? x z.1.1).bind fun(Mn:Bwo)=>Option.bind (Sj N e Mn) fun(y:Int)=>bif decide (0≤y)then some false else rec ((i64.wrap (z.1.1+1),()),(),(),())else rec
 ((i64.wrap (z.1.1+1),()),(),(),())else some true) N ((0,()),(),(),())
def Atv:=Bs [W4 N] [] N 80 (A1 (.seq (A1 (.blk (.loop ⟨[(6,.d A0)],[],[0,5],[],[],[]⟩ .lf))) .lf)) [(.sl Ag)] [.bool] (Vl N) mixed func80 rfl (by decide) rfl (by kernel_rfl)
def O4:Bb [tEvent] (A3 (Al [.bool])):=fun(x:Bwo×UInt8×Int×UInt8×A2 UInt8×A2 Bwo)=>Option.bind (Kz N x.2.2.1) fun(y:Bwo×Bool)=>bif !y.2 then some false else Option.bind (Q2 N x.1)
 fun(y:Bool)=>bif !y then some false else Bn (fun(z:Unit×Unit×Unit×Unit)=>bif decide (256<(↑x.2.2.2.2.2.length:Int))then some false else Option.bind (Vl N x.2.2.2.2.2) fun(y:Bool)=>bif !y then some false else iter
 (fun(rec:Bwr×Unit×Unit×Unit→A3 Bool) (z:Bwr×Unit×Unit×Unit)=>bif decide (z.1.1<(↑x.2.2.2.2.2.length:Int))then (at? x.2.2.2.2.2 z.1.1).bind fun(e:Bwo)=>Option.bind (Q2 N e) fun(y:Bool)=>bif !y then some false else
 bif e.1==x.1.1&&e.2==x.1.2 then some false else rec ((i64.wrap (z.1.1+1),()),(),(),())else some true) N ((0,()),(),(),())) fun(k:Unit×Unit×Unit×Unit→A3 Bool)=>bif x.2.1==1 then Option.bind (O3 N x.2.2.2.1)
 fun(y:Bool)=>bif !y then some false else Option.bind (Vk N x.2.2.2.2.1) fun(y:Bool)=>bif !y then some false else k ((),(),(),())else bif x.2.1==2 then bif x.2.2.2.1 != 0 then some false else bif x.2.2.2.2.1 != []then
 some false else k ((),(),(),())else some false
def Ach:=Bs [Att N,Akv N,Acg N,Atu N,Atv N] [] N 32 (A1 (A1 (.join ⟨[],[],[1],[1001],[],[]⟩ .lf (A1 (.seq (A1 (.blk (.loop ⟨[(58,.d A0)],[],[1,56,57],[1001],[],[]⟩ .lf))) .lf))))) [tEvent] [.bool] (O4 N) mixed func32 rfl (by decide) rfl (by kernel_rfl)
def Vm:Bb [(.sl tEvent)] (A3 (Al [(.sl Ag)])):=fun(x:A2 Bwn)=>iter (fun(rec:Bwu×Unit×Unit×Unit→A3 Bwx) (z:Bwu×Unit×Unit×Unit)=>bif decide (z.1.2.1<(↑x.length:Int))then (at? x z.1.2.1).bind
 fun(e:Bwo×UInt8×Int×UInt8×A2 UInt8×A2 Bwo)=>bif Ao (z.1.1.length + [e.1].length) 16 then bif Ao ((z.1.1++[e.1]).length+e.2.2.2.2.2.length) 16 then rec ((z.1.1++[e.1]++e.2.2.2.2.2,i64.wrap
 (z.1.2.1+1),()),(),(),())else none else none else Option.bind (Sl N z.1.1) fun(y:Bwx)=>some y) N (([],0,()),(),(),())
def Atw:=Bs [Aku N] [] N 38 (A1 (A1 (.seq (A1 (.blk (.loop ⟨[(3,.Be 200003 Ag none),(8,.d A0)],[],[6,7],[],[],[]⟩ .lf))) .lf))) [(.sl tEvent)] [(.sl Ag)] (Vm N) mixed func38 rfl (by decide) rfl (by kernel_rfl)
def J5:Bb [tEvent] (A3 (Al [tEvent])):=fun(x:Bwo×UInt8×Int×UInt8×A2 UInt8×A2 Bwo)=>Option.bind (Fy N x.2.2.2.2.2) fun(y:Bwx)=>some (x.1,x.2.1,x.2.2.1,x.2.2.2.1,x.2.2.2.2.1,y)
def Ge:=Bs [Yc N] [] N 83 .lf [tEvent] [tEvent] (J5 N) mixed func83 rfl (by decide) rfl (by kernel_rfl)
def I6:Bb [(.sl Ak)] (A3 (Al [.bool])):=fun(x:A2 Bwp)=>bif decide (30<(↑x.length:Int))then some false else iter (fun(rec:Bwr×Unit×Unit×Unit→A3 Bool) (z:Bwr×Unit×Unit×Unit)=>bif decide
 (z.1.1<(↑x.length:Int))then (at? x z.1.1).bind fun(e:Bwp)=>bif decide (30<(↑e.2.length:Int))then some false else rec ((i64.wrap (z.1.1+1),()),(),(),())else some true) N ((0,()),(),(),())
def A9j:=Bs [] [] N 26 (A1 (A1 (.seq (A1 (.blk (.loop ⟨[(3,.d A0)],[],[0],[],[],[]⟩ .lf))) .lf))) [(.sl Ak)] [.bool] (I6 N) mixed func26 rfl (by decide) rfl (by kernel_rfl)
def G7:Bb [(.sl tEvent),A0] (A3 (Al [.bool])):=fun(x:A2 Bwn) (Bh:Int)=>bif decide (Bh<(↑x.length:Int))then some false else iter (fun(rec:Bwr×Unit×Unit×Unit→A3 Bool)
 (z:Bwr×Unit×Unit×Unit)=>bif decide (z.1.1<(↑x.length:Int))then (at? x z.1.1).bind fun(e:Bwo×UInt8×Int×UInt8×A2 UInt8×A2 Bwo)=>bif decide (300<(↑e.2.2.2.2.2.length:Int))then some false else (at? x z.1.1).bind
 fun(e:Bwo×UInt8×Int×UInt8×A2 UInt8×A2 Bwo)=>bif decide (200<(↑e.2.2.2.2.1.length:Int))then some false else rec ((i64.wrap (z.1.1+1),()),(),(),())else some true) N ((0,()),(),(),())
def Xb:=Bs [] [] N 5 (A1 (A1 (.seq (A1 (.blk (.loop ⟨[(5,.d A0)],[],[0],[],[],[]⟩ .lf))) .lf))) [(.sl tEvent),A0] [.bool] (G7 N) mixed func5 rfl (by decide) rfl (by kernel_rfl)
def I7:Bb [(.sl tepitaphlaw18Act),A0] (A3 (Al [A0])):=fun(x:A2 (UInt8×Bwn×A2 Bwp)) (Bh:Int)=>bif decide (Bh<(↑x.length:Int))then some 0 else iter
 (fun(rec:Bwr×Unit×Unit×Unit→A3 Int) (z:Bwr×Unit×Unit×Unit)=>bif decide (z.1.1<(↑x.length:Int))then (at? x z.1.1).bind fun(e:UInt8×Bwn×A2 Bwp)=>Option.bind (G7 N [e.2.1] 1) fun(y:Bool)=>bif !y then some 0 else (at?
 x z.1.1).bind fun(e:UInt8×Bwn×A2 Bwp)=>Option.bind (I6 N e.2.2) fun(y:Bool)=>bif !y then some 0 else rec ((i64.wrap (z.1.1+1),()),(),(),())else some 1) N ((0,()),(),(),())
def A9k:=Bs [A9j N,Xb N] [] N 4 (A1 (A1 (.seq (A1 (.blk (.loop ⟨[(5,.d A0)],[],[0],[],[],[]⟩ .lf))) .lf))) [(.sl tepitaphlaw18Act),A0] [A0] (I7 N) mixed func4 rfl (by decide) rfl (by kernel_rfl)
def Bj(N:Nat):Bb [Ag] (A3 (Al [.bool])):=fun(x:Bwo)=>bif decide (1≤x.1)then bif decide (1≤x.2)then some (decide (x.2<281474976710656))else some false else some false
def Jt:=Bs [] [] N 104 .lf [Ag] [.bool] (Bj N) mixed func104 rfl (by decide) rfl (by kernel_rfl)
def J6(N:Nat):Bb [(.int .u64)] (A3 (Al [(.int .u16),(.int .u64)])):=fun(x:Int)=>some (u16.wrap (u64.wrap (x.tdiv 281474976710656)),x.tmod 281474976710656)
def A4o:=Bs [] [] N 147 .lf [(.int .u64)] [(.int .u16),(.int .u64)] (J6 N) mixed func147 rfl (by decide) rfl (by kernel_rfl)
def Ik:Bb [(.int .u64)] (A3 (Al [Ag,.bool])):=fun(x:Int)=>Option.bind (J6 N x) fun(y:Bwo)=>Option.bind (Bj N y) fun(Dv:Bool)=>bif !Dv then some ((0,0),false)else some (y,true)
def A2p:=Bs [Jt N,A4o N] [] N 103 .lf [(.int .u64)] [Ag,.bool] (Ik N) mixed func103 rfl (by decide) rfl (by kernel_rfl)
def Od(N:Nat):Bb [.u8] (A3 (Al [.bool])):=fun(x:UInt8)=>bif decide (1≤x)then some (decide (x≤5))else some false
def A71:=Bs [] [] N 105 .lf [.u8] [.bool] (Od N) mixed func105 rfl (by decide) rfl (by kernel_rfl)
def Ju:Bb [.str] (A3 (Al [.bool])):=fun(x:Bwy)=>iter (fun(rec:Bwr×Unit×Unit×Unit→A3 Bool) (z:Bwr×Unit×Unit×Unit)=>bif decide (z.1.1<(↑x.length:Int))then (at? x z.1.1).bind fun(c:UInt8)=>bif
 decide (c<32)then some false else (at? x z.1.1).bind fun(c:UInt8)=>bif decide (126<c)then some false else rec ((i64.wrap (z.1.1+1),()),(),(),())else some (decide ((↑x.length:Int)≤60))) N ((0,()),(),(),())
def A72:=Bs [] [] N 106 (A1 (.seq (A1 (.blk (.loop ⟨[(3,.d A0)],[],[0],[],[],[]⟩ .lf))) .lf)) [.str] [.bool] (Ju N) mixed func106 rfl (by decide) rfl (by kernel_rfl)
def En(N:Nat):Bb [Ag,Ag] (A3 (Al [A0])):=fun(x Bh:Bwo)=>bif x.1==Bh.1&&x.2==Bh.2 then some 0 else bif decide (x.1<Bh.1)then some (-1)else bif x.1==Bh.1 then bif decide (x.2<Bh.2)then some
 (-1)else some 1 else some 1
def Q3:=Bs [] [] N 111 .lf [Ag,Ag] [A0] (En N) mixed func111 rfl (by decide) rfl (by kernel_rfl)
def G2:Bb [(.sl Ag)] (A3 (Al [.bool])):=fun(x:Bwx)=>iter (fun(rec:Bwr×Unit×Unit×Unit→A3 Bool) (z:Bwr×Unit×Unit×Unit)=>bif decide (z.1.1<(↑x.length:Int))then (at? x (i64.wrap
 (z.1.1-1))).bind fun(e:Bwo)=>(at? x z.1.1).bind fun(Mn:Bwo)=>Option.bind (En N e Mn) fun(y:Int)=>bif decide (0≤y)then some false else rec ((i64.wrap (z.1.1+1),()),(),(),())else some true) N ((1,()),(),(),())
def A2q:=Bs [Q3 N] [] N 107 (A1 (.seq (A1 (.blk (.loop ⟨[(3,.d A0)],[],[0],[],[],[]⟩ .lf))) .lf)) [(.sl Ag)] [.bool] (G2 N) mixed func107 rfl (by decide) rfl (by kernel_rfl)
def G8:Bb [(.sl Ag),Ag] (A3 (Al [.bool])):=fun(x:Bwx) (Bh:Bwo)=>iter (fun(rec:Bwr×Unit×Unit×Unit→A3 Bool) (z:Bwr×Unit×Unit×Unit)=>bif decide (z.1.1<(↑x.length:Int))then (at? x z.1.1).bind
 fun(e:Bwo)=>bif e.1==Bh.1&&e.2==Bh.2 then some true else rec ((i64.wrap (z.1.1+1),()),(),(),())else some false) N ((0,()),(),(),())
def Xd:=Bs [] [] N 66 (A1 (.seq (A1 (.blk (.loop ⟨[(5,.d A0)],[],[0,3],[1003],[],[]⟩ .lf))) .lf)) [(.sl Ag),Ag] [.bool] (G8 N) mixed func66 rfl (by decide) rfl (by kernel_rfl)
def gdK(x:tEvent.T):A3 Bool :=
 iter (fun(rec:(Int×Unit)×Unit×Unit×Unit→A3 Bool) (z:(Int×Unit)×Unit×Unit×Unit) =>
  bif decide (z.1.1<(x.2.2.2.2.2.length:Int)) then
   (at? x.2.2.2.2.2 z.1.1).bind fun(e:Int×Int)=>Option.bind (Bj N e) fun(y:Bool)=>bif !y then some false else rec ((i64.wrap (z.1.1+1),()),(),(),())
  else
   bif decide ((x.2.2.2.2.2.length:Int)≤256) then
    Option.bind (G2 N x.2.2.2.2.2) fun(y:Bool)=>bif y then Option.bind (G8 N x.2.2.2.2.2 x.1) fun(y:Bool)=>some !y else some false
   else some false)
  N ((0,()),(),(),())
def gdT(x:tEvent.T):A3 Bool :=
 bif x.2.1==2 then bif x.2.2.2.1 != 0 then some false else bif x.2.2.2.2.1 != []then some false else gdK N x else gdK N x
def gdE(x:tEvent.T):A3 Bool :=
 bif x.2.1==1 then
  Option.bind (Od N x.2.2.2.1) fun(y:Bool)=>bif !y then some false else Option.bind (Ju N x.2.2.2.2.1) fun(y:Bool)=>bif !y then some false else gdT N x
 else gdT N x
def E2:Bb [tEvent] (A3 (Al [.bool])):=fun(x:tEvent.T)=>Option.bind (Ik N x.2.2.1) fun(y:Bwo×Bool)=>bif !y.2 then some false else Option.bind (Bj N x.1) fun(y:Bool)=>bif !y then some false else
 bif x.2.1 != 1 then bif x.2.1 != 2 then some false else gdE N x else gdE N x
def Oe:=Bs [A2p N,Jt N,A71 N,A72 N,A2q N,Xd N] [] N 56 (A1 (A1 (A1 (A1 (.seq (A1 (.blk (.loop ⟨[(5,.d A0)],[],[1],[1001],[],[]⟩ .lf))) .lf))))) [tEvent] [.bool] (E2 N) mixed func56 rfl (by decide) rfl (by kernel_rfl)
def I8(N:Nat):Bb [B4] (A3 (Al [.bool])):=fun(x:Bwo)=>bif decide (1≤x.1)then bif decide (x.1≤x.2)then some (decide (x.2≤281474976710655))else some false else some false
def Xe:=Bs [] [] N 149 .lf [B4] [.bool] (I8 N) mixed func149 rfl (by decide) rfl (by kernel_rfl)
def Dg:Bb [(.sl B4),(.int .u64)] (A3 (Al [.bool])):=fun(x:Bwx) (Bh:Int)=>iter (fun(rec:Bwr×Unit×Unit×Unit→A3 Bool) (z:Bwr×Unit×Unit×Unit)=>bif decide (z.1.1<(↑x.length:Int))then (at? x
 z.1.1).bind fun(e:Bwo)=>Option.bind (I8 N e) fun(y:Bool)=>bif y then (at? x z.1.1).bind fun(e:Bwo)=>bif decide (e.1≤Bh)then (at? x z.1.1).bind fun(e:Bwo)=>bif decide (Bh≤e.2)then some true else rec ((i64.wrap
 (z.1.1+1),()),(),(),())else rec ((i64.wrap (z.1.1+1),()),(),(),())else rec ((i64.wrap (z.1.1+1),()),(),(),())else some false) N ((0,()),(),(),())
def Xf:=Bs [Xe N] [] N 109 (A1 (.seq (A1 (.blk (.loop ⟨[(5,.d A0)],[],[0,1],[],[],[]⟩ .lf))) .lf)) [(.sl B4),(.int .u64)] [.bool] (Dg N) mixed func109 rfl (by decide) rfl (by kernel_rfl)
def I9:Bb [(.sl (.int .u64)),(.int .u64)] (A3 (Al [(.sl (.int .u64))])):=fun(x:A2 Int) (Bh:Int)=>iter (fun(rec:(A2 Int×Bool×Int×Unit)×Unit×Unit×Unit→A3 (A2 Int)) (z:(List
 Int×Bool×Int×Unit)×Unit×Unit×Unit)=>bif decide (z.1.2.2.1<(↑x.length:Int))then Bn (fun(Ea:(A2 Int×Bool×Unit)×Unit×Unit×Unit)=>(at? x z.1.2.2.1).bind fun(e:Int)=>bif e != Bh then (at? x z.1.2.2.1).bind fun(e:Int)=>bif
 Ao (Ea.1.1.length + [e].length) 8 then rec ((Ea.1.1++[e],Ea.1.2.1,i64.wrap (z.1.2.2.1+1),()),(),(),())else none else rec ((Ea.1.1,Ea.1.2.1,i64.wrap (z.1.2.2.1+1),()),(),(),())) fun(k:(List
 Int×Bool×Unit)×Unit×Unit×Unit→A3 (A2 Int))=>bif !z.1.2.1 then (at? x z.1.2.2.1).bind fun(e:Int)=>bif decide (Bh≤e)then bif Ao (z.1.1.length + [Bh].length) 8 then k ((z.1.1++[Bh],true,()),(),(),())else none else k
 ((z.1.1,z.1.2.1,()),(),(),())else k ((z.1.1,z.1.2.1,()),(),(),())else bif !z.1.2.1 then bif Ao (z.1.1.length + [Bh].length) 8 then some (z.1.1++[Bh])else none else some z.1.1) N (([],false,0,()),(),(),())
def A9l:=Bs [] [] N 181 (A1 (A1 (A1 (.seq (A1 (.blk (.loop ⟨[(5,.Be 200005 (.int .u64) none),(6,.d .bool),(7,.d A0)],[],[0,1],[],[],[]⟩ (A1 (.seq (.blk (.join ⟨[(5,.Be 200005 (.int .u64) none),(6,.d .bool)],[],[0,1,7],[],[],[]⟩ .lf .lf)) .lf))))) .lf)))) [(.sl (.int .u64)),(.int .u64)] [(.sl (.int .u64))] (I9 N) mixed func181 rfl (by decide) rfl (by kernel_rfl)
def Il:Bb [(.sl B4),(.sl B4)] (A3 (Al [(.sl (.int .u64))])):=fun(x Bh:Bwx)=>bif Ao (0+x.length) 16 then bif Ao (([]++x).length+Bh.length) 16 then iter (fun(rec:(List
 Int×Int×Unit)×Unit×Unit×Unit→A3 (A2 Int)) (z:(A2 Int×Int×Unit)×Unit×Unit×Unit)=>bif decide (z.1.2.1<(↑([]++x++Bh).length:Int))then (at? ([]++x++Bh) z.1.2.1).bind fun(e:Bwo)=>Option.bind (I8 N e) fun(y:Bool)=>bif
 y then (at? ([]++x++Bh) z.1.2.1).bind fun(e:Bwo)=>Option.bind (I9 N z.1.1 e.1) fun(y:A2 Int)=>(at? ([]++x++Bh) z.1.2.1).bind fun(e:Bwo)=>Option.bind (I9 N y (u64.wrap (e.2+1))) fun(y:A2 Int)=>rec
 ((y,i64.wrap (z.1.2.1+1),()),(),(),())else rec ((z.1.1,i64.wrap (z.1.2.1+1),()),(),(),())else some z.1.1) N (([],0,()),(),(),())else none else none
def A2r:=Bs [Xe N,A9l N] [] N 156 (A1 (A1 (A1 (.seq (A1 (.blk (.loop ⟨[(5,.d (.sl (.int .u64))),(7,.d A0)],[],[6],[],[],[]⟩ .lf))) .lf)))) [(.sl B4),(.sl B4)] [(.sl (.int .u64))] (Il N) mixed func156 rfl (by decide) rfl (by kernel_rfl)
def Aci(y:A2 Int)(rec:(Int×Unit)×Unit×(A3 (A2 (Int×Int)×Nat)×Unit)×Unit→A3 (A2 (Int×Int)))(z:(Int×Unit)×Unit×(A3 (A2 (Int×Int) ×
 Nat)×Unit)×Unit):=  fun(z_2:(Bool×Unit)×Unit×(A3 (A2 (Int×Int)×Nat)×Unit)×Unit)=>A6 z_2.snd.snd.fst.fst (bif z_2.fst.fst then bif z_2.fst.fst then (at? y
 z.fst.fst).bind fun(e:Int)=>(at? y (i64.wrap (z.fst.fst+1))).bind fun(Mn:Int)=>rec ((i64.wrap (z.fst.fst+1),()),(),(some ([(e,u64.wrap (Mn-1))],[(e,
 u64.wrap (Mn-1))].length),()),())else rec ((i64.wrap (z.fst.fst+1),()),(),(none,()),())else bif z_2.fst.fst then (at? y z.fst.fst).bind fun(e:Int)=>(at? y
 (i64.wrap (z.fst.fst+1))).bind fun(Mn:Int)=>rec ((i64.wrap (z.fst.fst+1),()),(),(some ([(e,u64.wrap (Mn-1))],[(e,u64.wrap (Mn-1))].length),()),
 ())else rec ((i64.wrap (z.fst.fst+1),()),(),(none,()),())) fun(S1:A2 (Int×Int)×Nat)=>bif z_2.fst.fst then bif decide (0≤i64.wrap ((↑S1.snd:Int)-1)) then
 bif decide (0≤i64.wrap ((↑S1.snd:Int)-1))&&decide (i64.wrap ((↑S1.snd:Int)-1)<(↑S1.snd:Int))then S1.fst[0+(i64.wrap ((↑S1.snd:Int) -
 1)).toNat]?.bind fun(e:Int×Int)=>(at? y z.fst.fst).bind fun(Mn:Int)=>bif u64.wrap (e.snd+1)==Mn then (at? y (i64.wrap (z.fst.fst+1))).bind fun(e:Int)=>bif
 decide (0≤i64.wrap ((↑S1.snd:Int)-1))&&decide (i64.wrap ((↑S1.snd:Int)-1)<(↑S1.snd:Int))then S1.fst[0+(i64.wrap ((↑S1.snd:Int)-1)).toNat]?.bind
 fun(e_2:Int×Int)=>rec ((i64.wrap (z.fst.fst+1),()),(),(some (S1.fst.set (0+(i64.wrap ((↑S1.snd:Int)-1)).toNat) (e_2.fst,u64.wrap (e-1)),S1.snd),()),
 ())else none else bif z_2.fst.fst then (at? y z.fst.fst).bind fun(e:Int)=>(at? y (i64.wrap (z.fst.fst+1))).bind fun(e_2:Int)=>bif S1.fst.length.beq S1.snd then bif Ao
 (S1.snd + [(e,u64.wrap (e_2-1))].length) 16 then rec ((i64.wrap (z.fst.fst+1),()),(),(some (S1.fst++[(e,u64.wrap (e_2-1))],S1.snd + [(e,u64.wrap
 (e_2-1))].length),()),())else none else none else rec ((i64.wrap (z.fst.fst+1),()),(),(some S1,()),())else none else bif z_2.fst.fst then (at? y z.fst.fst).bind fun(e:Int)
 => (at? y (i64.wrap (z.fst.fst+1))).bind fun(Mn:Int)=>bif S1.fst.length.beq S1.snd then bif Ao (S1.snd + [(e,u64.wrap (Mn-1))].length) 16 then rec
 ((i64.wrap (z.fst.fst+1),()),(),(some (S1.fst++[(e,u64.wrap (Mn-1))],S1.snd + [(e,u64.wrap (Mn-1))].length),()),())else none else none else rec
 ((i64.wrap (z.fst.fst+1),()),(),(some S1,()),())else bif z_2.fst.fst then (at? y z.fst.fst).bind fun(e:Int)=>(at? y (i64.wrap (z.fst.fst+1))).bind fun(Mn:Int) =>
 bif S1.fst.length.beq S1.snd then bif Ao (S1.snd + [(e,u64.wrap (Mn-1))].length) 16 then rec ((i64.wrap (z.fst.fst+1),()),(),(some (S1.fst++[(e,u64.wrap
 (Mn-1))],S1.snd + [(e,u64.wrap (Mn-1))].length),()),())else none else none else rec ((i64.wrap (z.fst.fst+1),()),(),(some S1,()),())
def G9:Bb [(.sl B4),(.sl B4),A0] (A3 (Al [(.sl B4)])):=fun(x Bh:Bwx) (x_2:Int)=>Option.bind (Il N x Bh) fun(y:A2 Int)=>iter (fun(rec:Bwr×Unit×Bwq×Unit→A3 Bwx)
 (z:Bwr×Unit×Bwq×Unit)=>A6 z.2.2.1.1 (bif decide (i64.wrap (z.1.1+1)<(↑y.length:Int))then (at? y z.1.1).bind fun(e:Int)=>Option.bind (Dg N x e) fun(Dv:Bool)=>(at? y z.1.1).bind fun(e:Int)=>Option.bind (Dg N Bh e)
 fun(y_2:Bool)=>bif Dv then Bn (fun(Ea:Bww×Unit×Bwq×Unit)=>A6 Ea.2.2.1.1 (Bn (Aci y rec z) fun(k:Bww×Unit×Bwq×Unit→A3 Bwx)=>bif x_2==2 then bif Dv then k ((!y_2,()),(),(none,()),())else k
 ((false,()),(),(none,()),())else k ((Ea.1.1,()),(),(none,()),())) fun(S1:A2 Bwo×Nat)=>Bn (Aci y rec z) fun(k:Bww×Unit×Bwq×Unit→A3 Bwx)=>bif x_2==2 then bif Dv then k ((!y_2,()),(),(some S1,()),())else k
 ((false,()),(),(some S1,()),())else k ((Ea.1.1,()),(),(some S1,()),())) fun(k:Bww×Unit×Bwq×Unit→A3 Bwx)=>bif x_2==1 then bif Dv then k ((y_2,()),(),(none,()),())else k ((false,()),(),(none,()),())else k
 ((true,()),(),(none,()),())else Bn (fun(Ea:Bww×Unit×Bwq×Unit)=>A6 Ea.2.2.1.1 (Bn (Aci y rec z) fun(k:Bww×Unit×Bwq×Unit→A3 Bwx)=>bif x_2==2 then bif Dv then k ((!y_2,()),(),(none,()),())else k
 ((false,()),(),(none,()),())else k ((Ea.1.1,()),(),(none,()),())) fun(S1:A2 Bwo×Nat)=>Bn (Aci y rec z) fun(k:Bww×Unit×Bwq×Unit→A3 Bwx)=>bif x_2==2 then bif Dv then k ((!y_2,()),(),(some S1,()),())else k
 ((false,()),(),(some S1,()),())else k ((Ea.1.1,()),(),(some S1,()),())) fun(k:Bww×Unit×Bwq×Unit→A3 Bwx)=>bif x_2==1 then bif Dv then k ((y_2,()),(),(none,()),())else k ((false,()),(),(none,()),())else k
 ((y_2,()),(),(none,()),())else some []) fun(Dv:A2 Bwo×Nat)=>bif decide (i64.wrap (z.1.1+1)<(↑y.length:Int))then (at? y z.1.1).bind fun(e:Int)=>Option.bind (Dg N x e) fun(y_2:Bool)=>(at? y z.1.1).bind
 fun(e:Int)=>Option.bind (Dg N Bh e) fun(S1:Bool)=>bif y_2 then Bn (fun(Ea:Bww×Unit×Bwq×Unit)=>A6 Ea.2.2.1.1 (Bn (Aci y rec z) fun(k:Bww×Unit×Bwq×Unit→A3 Bwx)=>bif x_2==2 then bif y_2 then k
 ((!S1,()),(),(none,()),())else k ((false,()),(),(none,()),())else k ((Ea.1.1,()),(),(none,()),())) fun(y_4:A2 Bwo×Nat)=>Bn (Aci y rec z) fun(k:Bww×Unit×Bwq×Unit→A3 Bwx)=>bif x_2==2 then bif y_2 then k
 ((!S1,()),(),(some y_4,()),())else k ((false,()),(),(some y_4,()),())else k ((Ea.1.1,()),(),(some y_4,()),())) fun(k:Bww×Unit×Bwq×Unit→A3 Bwx)=>bif x_2==1 then bif y_2 then k ((S1,()),(),(some Dv,()),())else k
 ((false,()),(),(some Dv,()),())else k ((true,()),(),(some Dv,()),())else Bn (fun(Ea:Bww×Unit×Bwq×Unit)=>A6 Ea.2.2.1.1 (Bn (Aci y rec z) fun(k:Bww×Unit×Bwq×Unit→A3 Bwx)=>bif x_2==2 then bif y_2 then k
 ((!S1,()),(),(none,()),())else k ((false,()),(),(none,()),())else k ((Ea.1.1,()),(),(none,()),())) fun(y_4:A2 Bwo×Nat)=>Bn (Aci y rec z) fun(k:Bww×Unit×Bwq×Unit→A3 Bwx)=>bif x_2==2 then bif y_2 then k
 ((!S1,()),(),(some y_4,()),())else k ((false,()),(),(some y_4,()),())else k ((Ea.1.1,()),(),(some y_4,()),())) fun(k:Bww×Unit×Bwq×Unit→A3 Bwx)=>bif x_2==1 then bif y_2 then k ((S1,()),(),(some Dv,()),())else k
 ((false,()),(),(some Dv,()),())else k ((S1,()),(),(some Dv,()),())else bif bif (0+Dv.2).ble Dv.1.length then true else false then some (List.take Dv.2 (List.drop 0 Dv.1))else none) N ((0,()),(),(none,()),())
def Q4:=Bs [Xf N,A2r N] [98] N 125 (A1 (A1 (A1 (.seq (A1 (.blk (.loop ⟨[(9,.d A0)],[],[0,1,2,7],[],[(8,400008,B4)],[]⟩ (A1 (.seq (.blk (A1 (A1 (.join ⟨[(12,.d .bool)],[],[0,1,2,7,9,10,11],[],[(8,400008,B4)],[]⟩ .lf (.join ⟨[(12,.d .bool)],[],[0,1,2,7,9],[],[(8,400008,B4)],[]⟩ .lf .lf))))) .lf))))) .lf)))) [(.sl B4),(.sl B4),A0] [(.sl B4)] (G9 N) mixed func125 rfl (by decide) rfl (by kernel_rfl)
def Fm:Bb [(.sl B4),(.sl B4)] (A3 (Al [(.sl B4)])):=fun(x Bh:Bwx)=>Option.bind (G9 N x Bh 0) fun(y:Bwx)=>some y
def Ux:=Bs [Q4 N] [] N 89 .lf [(.sl B4),(.sl B4)] [(.sl B4)] (Fm N) mixed func89 rfl (by decide) rfl (by kernel_rfl)
def Fo:Bb [(.sl Ak),(.int .u16)] (A3 (Al [(.sl B4)])):=fun(x:A2 Bwp) (Bh:Int)=>iter (fun(rec:Bwu×Unit×Unit×Unit→A3 Bwx) (z:Bwu×Unit×Unit×Unit)=>bif decide (z.1.2.1<(↑x.length:Int))then (at?
 x z.1.2.1).bind fun(e:Bwp)=>bif e.1==Bh then bif Bh != 0 then (at? x z.1.2.1).bind fun(e:Bwp)=>Option.bind (Fm N z.1.1 e.2) fun(y:Bwx)=>rec ((y,i64.wrap (z.1.2.1+1),()),(),(),())else rec ((z.1.1,i64.wrap
 (z.1.2.1+1),()),(),(),())else rec ((z.1.1,i64.wrap (z.1.2.1+1),()),(),(),())else some z.1.1) N (([],0,()),(),(),())
def Uy:=Bs [Ux N] [] N 88 (A1 (A1 (.seq (A1 (.blk (.loop ⟨[(5,.d (.sl B4)),(6,.d A0)],[],[0,1],[],[],[]⟩ .lf))) .lf))) [(.sl Ak),(.int .u16)] [(.sl B4)] (Fo N) mixed func88 rfl (by decide) rfl (by kernel_rfl)
def Eo:Bb [(.sl Ak),Ag] (A3 (Al [.bool])):=fun(x:A2 Bwp) (Bh:Bwo)=>Option.bind (Bj N Bh) fun(y:Bool)=>bif y then Option.bind (Fo N x Bh.1) fun(y:Bwx)=>Option.bind (Dg N y Bh.2)
 fun(y:Bool)=>some y else some false
def L0:=Bs [Jt N,Xf N,Uy N] [] N 65 .lf [(.sl Ak),Ag] [.bool] (Eo N) mixed func65 rfl (by decide) rfl (by kernel_rfl)
def Ep:Bb [(.sl Ag),Ag] (A3 (Al [(.sl Ag)])):=fun(x:Bwx) (Bh:Bwo)=>iter (fun(rec:Bwu×Unit×Unit×Unit→A3 Bwx) (z:Bwu×Unit×Unit×Unit)=>bif decide (z.1.2.1<(↑x.length:Int))then (at? x
 z.1.2.1).bind fun(e:Bwo)=>Option.bind (En N e Bh) fun(y:Int)=>bif decide (y<0)then (at? x z.1.2.1).bind fun(e:Bwo)=>bif Ao (z.1.1.length + [e].length) 16 then rec ((z.1.1++[e],i64.wrap
 (z.1.2.1+1),()),(),(),())else none else rec ((z.1.1,i64.wrap (z.1.2.1+1),()),(),(),())else bif Ao (z.1.1.length + [Bh].length) 16 then iter (fun(rec:Bwu×Unit×Unit×Unit→A3 Bwx) (z:Bwu×Unit×Unit×Unit)=>bif
 decide (z.1.2.1<(↑x.length:Int))then (at? x z.1.2.1).bind fun(e:Bwo)=>Option.bind (En N e Bh) fun(y:Int)=>bif decide (0<y)then (at? x z.1.2.1).bind fun(e:Bwo)=>bif Ao (z.1.1.length + [e].length) 16 then rec
 ((z.1.1++[e],i64.wrap (z.1.2.1+1),()),(),(),())else none else rec ((z.1.1,i64.wrap (z.1.2.1+1),()),(),(),())else some z.1.1) N ((z.1.1++[Bh],0,()),(),(),())else none) N (([],0,()),(),(),())
def Xh:=Bs [Q3 N] [] N 110 (A1 (A1 (.seq (A1 (.blk (.loop ⟨[(5,.Be 200005 Ag none),(6,.d A0)],[],[0,3],[1003],[],[]⟩ .lf))) (A1 (.seq (A1 (.blk (.loop ⟨[(5,.Be 200005 Ag none),(7,.d A0)],[],[0,3],[1003],[],[]⟩ .lf))) .lf))))) [(.sl Ag),Ag] [(.sl Ag)] (Ep N) mixed func110 rfl (by decide) rfl (by kernel_rfl)
def Jv:Bb [(.sl Ak),(.sl Ak)] (A3 (Al [(.sl Ag)])):=fun(x Bh:A2 Bwp)=>iter (fun(rec:Bwu×Unit×Unit×Unit→A3 Bwx) (z:Bwu×Unit×Unit×Unit)=>bif decide (z.1.2.1<(↑x.length:Int))then (at? x
 z.1.2.1).bind fun(e:Bwp)=>Option.bind (Ep N z.1.1 (e.1,1)) fun(y:Bwx)=>rec ((y,i64.wrap (z.1.2.1+1),()),(),(),())else iter (fun(rec:Bwu×Unit×Unit×Unit→A3 Bwx) (z:Bwu×Unit×Unit×Unit)=>bif decide
 (z.1.2.1<(↑Bh.length:Int))then (at? Bh z.1.2.1).bind fun(e:Bwp)=>Option.bind (Ep N z.1.1 (e.1,1)) fun(y:Bwx)=>rec ((y,i64.wrap (z.1.2.1+1),()),(),(),())else some z.1.1) N ((z.1.1,0,()),(),(),())) N
 (([],0,()),(),(),())
def A73:=Bs [Xh N] [] N 87 (A1 (A1 (.seq (A1 (.blk (.loop ⟨[(5,.d (.sl Ag)),(6,.d A0)],[],[0,1],[],[],[]⟩ .lf))) (.seq (A1 (.blk (.loop ⟨[(5,.d (.sl Ag)),(7,.d A0)],[],[1],[],[],[]⟩ .lf))) .lf)))) [(.sl Ak),(.sl Ak)] [(.sl Ag)] (Jv N) mixed func87 rfl (by decide) rfl (by kernel_rfl)
def Uz:Bb [(.sl B4),(.sl B4)] (A3 (Al [(.sl B4)])):=fun(x Bh:Bwx)=>Option.bind (G9 N x Bh 1) fun(y:Bwx)=>some y
def A74:=Bs [Q4 N] [] N 90 .lf [(.sl B4),(.sl B4)] [(.sl B4)] (Uz N) mixed func90 rfl (by decide) rfl (by kernel_rfl)
def Tv:Bb [(.sl B4),(.sl B4)] (A3 (Al [(.sl B4)])):=fun(x Bh:Bwx)=>Option.bind (G9 N x Bh 2) fun(y:Bwx)=>some y
def A4p:=Bs [Q4 N] [] N 91 .lf [(.sl B4),(.sl B4)] [(.sl B4)] (Tv N) mixed func91 rfl (by decide) rfl (by kernel_rfl)
def Ia:Bb [(.sl Ak),(.sl Ak),A0] (A3 (Al [(.sl Ak)])):=fun(x Bh:A2 Bwp) (x_2:Int)=>Option.bind (Jv N x Bh) fun(y:Bwx)=>iter (fun(rec:(A2 Bwp×Int×Unit)×Unit×Unit×Unit→A3 (List
 Bwp)) (z:(A2 Bwp×Int×Unit)×Unit×Unit×Unit)=>bif decide (z.1.2.1<(↑y.length:Int))then (at? y z.1.2.1).bind fun(e:Bwo)=>Option.bind (Fo N x e.1) fun(Dv:Bwx)=>(at? y z.1.2.1).bind fun(e:Bwo)=>Option.bind (Fo N Bh e.1)
 fun(y_2:Bwx)=>Option.bind (Fm N Dv y_2) fun(S1:Bwx)=>Bn (fun(Ea:(A2 Bwo×Unit)×Unit×Unit×Unit)=>Bn (fun(z_2:(A2 Bwo×Unit)×Unit×Unit×Unit)=>bif decide (0<(↑z_2.1.1.length:Int))then (at? y z.1.2.1).bind fun(e:Bwo)=>bif
 Ao (z.1.1.length + [(e.1,z_2.1.1)].length) 32 then rec ((z.1.1++[(e.1,z_2.1.1)],i64.wrap (z.1.2.1+1),()),(),(),())else none else rec ((z.1.1,i64.wrap (z.1.2.1+1),()),(),(),())) fun(k:(List
 Bwo×Unit)×Unit×Unit×Unit→A3 (A2 Bwp))=>bif x_2==2 then Option.bind (Tv N Dv y_2) fun(y:Bwx)=>k ((y,()),(),(),())else k ((Ea.1.1,()),(),(),())) fun(k:(A2 Bwo×Unit)×Unit×Unit×Unit→A3 (A2 Bwp))=>bif x_2==1
 then Option.bind (Uz N Dv y_2) fun(y:Bwx)=>k ((y,()),(),(),())else k ((S1,()),(),(),())else some z.1.1) N (([],0,()),(),(),())
def Xi:=Bs [A73 N,Uy N,Ux N,A74 N,A4p N] [] N 39 (A1 (A1 (A1 (.seq (A1 (.blk (.loop ⟨[(7,.Be 200007 Ak none),(9,.d A0)],[],[0,1,2,8],[],[],[]⟩ (A1 (.seq (.blk (A1 (A1 (.join ⟨[(12,.d (.sl B4))],[],[0,1,2,7,8,9,10,11],[],[],[]⟩ .lf (.join ⟨[(12,.d (.sl B4))],[],[0,1,2,7,8,9],[],[],[]⟩ .lf .lf))))) .lf))))) .lf)))) [(.sl Ak),(.sl Ak),A0] [(.sl Ak)] (Ia N) mixed func39 rfl (by decide) rfl (by kernel_rfl)
def E3:Bb [(.sl Ak),(.sl Ak)] (A3 (Al [(.sl Ak)])):=fun(x Bh:A2 Bwp)=>Option.bind (Ia N x Bh 0) fun(y:A2 Bwp)=>some y
def Of:=Bs [Xi N] [] N 67 .lf [(.sl Ak),(.sl Ak)] [(.sl Ak)] (E3 N) mixed func67 rfl (by decide) rfl (by kernel_rfl)
def J7:Bb [(.sl Ag)] (A3 (Al [(.sl Ak)])):=fun(x:Bwx)=>iter (fun(rec:(A2 Bwp×Int×Unit)×Unit×Unit×Unit→A3 (A2 Bwp)) (z:(A2 Bwp×Int×Unit)×Unit×Unit×Unit)=>bif decide
 (z.1.2.1<(↑x.length:Int))then (at? x z.1.2.1).bind fun(e:Bwo)=>Option.bind (Bj N e) fun(y:Bool)=>bif y then (at? x z.1.2.1).bind fun(e:Bwo)=>(at? x z.1.2.1).bind fun(Mn:Bwo)=>(at? x z.1.2.1).bind
 fun(e_2:Bwo)=>Option.bind (E3 N z.1.1 [(e.1,[(Mn.2,e_2.2)])]) fun(y:A2 Bwp)=>rec ((y,i64.wrap (z.1.2.1+1),()),(),(),())else rec ((z.1.1,i64.wrap (z.1.2.1+1),()),(),(),())else some z.1.1) N
 (([],0,()),(),(),())
def Acj:=Bs [Jt N,Of N] [] N 68 (A1 (A1 (.seq (A1 (.blk (.loop ⟨[(3,.d (.sl Ak)),(4,.d A0)],[],[0],[],[],[]⟩ .lf))) .lf))) [(.sl Ag)] [(.sl Ak)] (J7 N) mixed func68 rfl (by decide) rfl (by kernel_rfl)
def C8:Bb [(.sl tEvent)] (A3 (Al [(.sl Ag)])):=fun(x:A2 Bwn)=>iter (fun(rec:Bwu×Unit×Unit×Unit→A3 Bwx) (z:Bwu×Unit×Unit×Unit)=>bif decide (z.1.2.1<(↑x.length:Int))then (at? x z.1.2.1).bind
 fun(e:Bwo×UInt8×Int×UInt8×A2 UInt8×A2 Bwo)=>Option.bind (Ep N z.1.1 e.1) fun(y:Bwx)=>iter (fun(rec_1:Bwu×Unit×Unit×Unit→A3 Bwx) (Ea:Bwu×Unit×Unit×Unit)=>(at? x z.1.2.1).bind fun(e:Bwo×UInt8×Int×UInt8×List
 UInt8×A2 Bwo)=>bif decide (Ea.1.2.1<(↑e.2.2.2.2.2.length:Int))then (at? x z.1.2.1).bind fun(e:Bwo×UInt8×Int×UInt8×A2 UInt8×A2 Bwo)=>(at? e.2.2.2.2.2 Ea.1.2.1).bind fun(e:Bwo)=>Option.bind (Ep N Ea.1.1 e)
 fun(y:Bwx)=>rec_1 ((y,i64.wrap (Ea.1.2.1+1),()),(),(),())else rec ((Ea.1.1,i64.wrap (z.1.2.1+1),()),(),(),())) N ((y,0,()),(),(),())else some z.1.1) N (([],0,()),(),(),())
def Og:=Bs [Xh N] [] N 69 (A1 (A1 (.seq (A1 (.blk (.loop ⟨[(3,.d (.sl Ag)),(4,.d A0)],[],[0],[],[],[]⟩ (A1 (.seq (.blk (A1 (A1 (.blk (.loop ⟨[(3,.d (.sl Ag)),(5,.d A0)],[],[0,4],[],[],[]⟩ .lf))))) .lf))))) .lf))) [(.sl tEvent)] [(.sl Ag)] (C8 N) mixed func69 rfl (by decide) rfl (by kernel_rfl)
def Ib:Bb [(.sl tEvent),tEvent] (A3 (Al [(.sl tEvent)])):=fun(x:A2 Bwn) (Bh:Bwo×UInt8×Int×UInt8×A2 UInt8×A2 Bwo)=>iter (fun(rec:Bx1×Unit×Unit×Unit→A3 (A2 Bwn))
 (z:Bx1×Unit×Unit×Unit)=>bif decide (z.1.2.2.1<(↑x.length:Int))then (at? x z.1.2.2.1).bind fun(e:Bwo×UInt8×Int×UInt8×A2 UInt8×A2 Bwo)=>Option.bind (En N e.1 Bh.1) fun(y:Int)=>bif y==0 then some x else Bn
 (fun(Ea:(A2 Bwn×Bool×Unit)×Unit×Unit×Unit)=>(at? x z.1.2.2.1).bind fun(e:Bwo×UInt8×Int×UInt8×A2 UInt8×A2 Bwo)=>bif Ao (Ea.1.1.length + [e].length) 80 then rec ((Ea.1.1++[e],Ea.1.2.1,i64.wrap
 (z.1.2.2.1+1),()),(),(),())else none) fun(k:(A2 Bwn×Bool×Unit)×Unit×Unit×Unit→A3 (A2 Bwn))=>bif decide (0<y)then bif !z.1.2.1 then bif Ao (z.1.1.length + [Bh].length) 80 then k
 ((z.1.1++[Bh],true,()),(),(),())else none else k ((z.1.1,z.1.2.1,()),(),(),())else k ((z.1.1,z.1.2.1,()),(),(),())else bif !z.1.2.1 then bif Ao (z.1.1.length + [Bh].length) 80 then some (z.1.1++[Bh])else none else some
 z.1.1) N (([],false,0,()),(),(),())
def A9m:=Bs [Q3 N] [] N 70 (A1 (A1 (A1 (.seq (A1 (.blk (.loop ⟨[(5,.Be 200005 tEvent none),(6,.d .bool),(7,.d A0)],[],[0,3],[1003],[],[]⟩ (A1 (.seq (.blk (A1 (A1 (.join ⟨[(5,.Be 200005 tEvent none),(6,.d .bool)],[],[0,3,7],[1003],[],[]⟩ .lf .lf)))) .lf))))) .lf)))) [(.sl tEvent),tEvent] [(.sl tEvent)] (Ib N) mixed func70 rfl (by decide) rfl (by kernel_rfl)
def Ic:Bb [A8,tEvent] (A3 (Al [A8,A0])):=fun(x:Bwz) (Bh:Bwo×UInt8×Int×UInt8×A2 UInt8×A2 Bwo)=>Option.bind (E2 N Bh) fun(y:Bool)=>bif !y then some (x,1)else Option.bind (Eo N x.1
 Bh.1) fun(y:Bool)=>bif y then some (x,7)else iter (fun(rec:Bwv×Unit×Unit×Unit→A3 (Bwz×Int)) (z:Bwv×Unit×Unit×Unit)=>bif decide (z.1.2.1<(↑x.2.length:Int))then (at? x.2 z.1.2.1).bind fun(e:Bwo×UInt8×Int×UInt8×List
 UInt8×A2 Bwo)=>bif e.2.1 != 1 then (at? x.2 z.1.2.1).bind fun(e:Bwo×UInt8×Int×UInt8×A2 UInt8×A2 Bwo)=>bif Ao (z.1.1.length + [e].length) 80 then rec ((z.1.1++[e],i64.wrap (z.1.2.1+1),()),(),(),())else none
 else (at? x.2 z.1.2.1).bind fun(e:Bwo×UInt8×Int×UInt8×A2 UInt8×A2 Bwo)=>Option.bind (G8 N Bh.2.2.2.2.2 e.1) fun(y:Bool)=>bif !y then (at? x.2 z.1.2.1).bind fun(e:Bwo×UInt8×Int×UInt8×A2 UInt8×A2 Bwo)=>bif Ao
 (z.1.1.length + [e].length) 80 then rec ((z.1.1++[e],i64.wrap (z.1.2.1+1),()),(),(),())else none else rec ((z.1.1,i64.wrap (z.1.2.1+1),()),(),(),())else Option.bind (C8 N [Bh]) fun(y:Bwx)=>Option.bind
 (J7 N y) fun(y:A2 Bwp)=>Option.bind (E3 N x.1 y) fun(y:A2 Bwp)=>Option.bind (Ib N z.1.1 Bh) fun(Dv:A2 Bwn)=>some ((y,Dv),0)) N (([],0,()),(),(),())
def A9n:=Bs [Oe N,L0 N,Xd N,Of N,Acj N,Og N,A9m N] [] N 27 (A1 (A1 (A1 (A1 (.seq (A1 (.blk (.loop ⟨[(6,.Be 200006 tEvent none),(7,.d A0)],[],[2,3,4],[1002,1003,1004],[],[]⟩ .lf))) .lf))))) [A8,tEvent] [A8,A0] (Ic N) mixed func27 rfl (by decide) rfl (by kernel_rfl)
def Hf:Bb [(.sl tEvent),.u8] (A3 (Al [(.sl tEvent)])):=fun(x:A2 Bwn) (Bh:UInt8)=>iter (fun(rec:Bwv×Unit×Unit×Unit→A3 (A2 Bwn)) (z:Bwv×Unit×Unit×Unit)=>bif decide
 (z.1.2.1<(↑x.length:Int))then (at? x z.1.2.1).bind fun(e:Bwo×UInt8×Int×UInt8×A2 UInt8×A2 Bwo)=>bif e.2.1==Bh then (at? x z.1.2.1).bind fun(e:Bwo×UInt8×Int×UInt8×A2 UInt8×A2 Bwo)=>bif Ao (z.1.1.length +
 [e].length) 80 then rec ((z.1.1++[e],i64.wrap (z.1.2.1+1),()),(),(),())else none else rec ((z.1.1,i64.wrap (z.1.2.1+1),()),(),(),())else some z.1.1) N (([],0,()),(),(),())
def V0:=Bs [] [] N 64 (A1 (A1 (.seq (A1 (.blk (.loop ⟨[(5,.Be 200005 tEvent none),(6,.d A0)],[],[0,1],[],[],[]⟩ .lf))) .lf))) [(.sl tEvent),.u8] [(.sl tEvent)] (Hf N) mixed func64 rfl (by decide) rfl (by kernel_rfl)
def E4:Bb [A8] (A3 (Al [(.sl tEvent)])):=fun(x:Bwz)=>Option.bind (Hf N x.2 1) fun(y:A2 Bwn)=>some y
def Oh:=Bs [V0 N] [] N 23 .lf [A8] [(.sl tEvent)] (E4 N) mixed func23 rfl (by decide) rfl (by kernel_rfl)
def Im:Bb [(.sl tEvent),(.int .u64)] (A3 (Al [(.sl Ag)])):=fun(x:A2 Bwn) (Bh:Int)=>iter (fun(rec:Bwv×Unit×Unit×Unit→A3 Bwx) (z:Bwv×Unit×Unit×Unit)=>bif decide (z.1.2.1<(↑x.length:Int))then
 (at? x z.1.2.1).bind fun(e:Bwo×UInt8×Int×UInt8×A2 UInt8×A2 Bwo)=>bif e.2.1==1 then (at? x z.1.2.1).bind fun(e:Bwo×UInt8×Int×UInt8×A2 UInt8×A2 Bwo)=>bif e.2.2.1==Bh then (at? x z.1.2.1).bind
 fun(e:Bwo×UInt8×Int×UInt8×A2 UInt8×A2 Bwo)=>bif Ao (z.1.1.length + [e].length) 80 then rec ((z.1.1++[e],i64.wrap (z.1.2.1+1),()),(),(),())else none else rec ((z.1.1,i64.wrap
 (z.1.2.1+1),()),(),(),())else rec ((z.1.1,i64.wrap (z.1.2.1+1),()),(),(),())else Option.bind (C8 N z.1.1) fun(y:Bwx)=>some y) N (([],0,()),(),(),())
def A2s:=Bs [Og N] [] N 71 (A1 (A1 (.seq (A1 (.blk (.loop ⟨[(5,.Be 200005 tEvent none),(6,.d A0)],[],[0,1],[],[],[]⟩ .lf))) .lf))) [(.sl tEvent),(.int .u64)] [(.sl Ag)] (Im N) mixed func71 rfl (by decide) rfl (by kernel_rfl)
def Jw:Bb [(.sl tEvent),(.int .u64),.u8] (A3 (Al [(.sl Ag)])):=fun(x:A2 Bwn) (Bh:Int) (x_2:UInt8)=>iter (fun(rec:Bwv×Unit×Unit×Unit→A3 Bwx) (z:Bwv×Unit×Unit×Unit)=>bif decide
 (z.1.2.1<(↑x.length:Int))then (at? x z.1.2.1).bind fun(e:Bwo×UInt8×Int×UInt8×A2 UInt8×A2 Bwo)=>bif e.2.1==1 then (at? x z.1.2.1).bind fun(e:Bwo×UInt8×Int×UInt8×A2 UInt8×A2 Bwo)=>bif e.2.2.1==Bh then (at? x
 z.1.2.1).bind fun(e:Bwo×UInt8×Int×UInt8×A2 UInt8×A2 Bwo)=>bif e.2.2.2.1==x_2 then (at? x z.1.2.1).bind fun(e:Bwo×UInt8×Int×UInt8×A2 UInt8×A2 Bwo)=>bif Ao (z.1.1.length + [e].length) 80 then rec
 ((z.1.1++[e],i64.wrap (z.1.2.1+1),()),(),(),())else none else rec ((z.1.1,i64.wrap (z.1.2.1+1),()),(),(),())else rec ((z.1.1,i64.wrap (z.1.2.1+1),()),(),(),())else rec ((z.1.1,i64.wrap
 (z.1.2.1+1),()),(),(),())else Option.bind (C8 N z.1.1) fun(y:Bwx)=>some y) N (([],0,()),(),(),())
def A75:=Bs [Og N] [] N 72 (A1 (A1 (.seq (A1 (.blk (.loop ⟨[(7,.Be 200007 tEvent none),(8,.d A0)],[],[0,1,2],[],[],[]⟩ .lf))) .lf))) [(.sl tEvent),(.int .u64),.u8] [(.sl Ag)] (Jw N) mixed func72 rfl (by decide) rfl (by kernel_rfl)
def Jx:Bb [A8,tEvent] (A3 (Al [tEvent,A0])):=fun(x:Bwz) (Bh:Bwo×UInt8×Int×UInt8×A2 UInt8×A2 Bwo)=>Option.bind (E2 N (Bh.1,Bh.2.1,Bh.2.2.1,Bh.2.2.2.1,Bh.2.2.2.2.1,[]))
 fun(y:Bool)=>bif !y then some (((0,0),0,0,0,[],[]),1)else Option.bind (Eo N x.1 Bh.1) fun(y:Bool)=>bif y then some (((0,0),0,0,0,[],[]),7)else Option.bind (E4 N x) fun(y:A2 Bwn)=>Option.bind (Im N y Bh.2.2.1)
 fun(y:Bwx)=>Bn (fun(z:Unit×((Bwn×Unit)×Unit)×Unit×Unit)=>bif decide (256<(↑z.2.1.1.1.2.2.2.2.2.length:Int))then some (((0,0),0,0,0,[],[]),3)else some (z.2.1.1.1,0)) fun(k:Unit×((Bwn×Unit)×Unit)×Unit×Unit→Option
 (Bwn×Int))=>bif Bh.2.1==1 then Option.bind (E4 N x) fun(y:A2 Bwn)=>Option.bind (Jw N y Bh.2.2.1 Bh.2.2.2.1) fun(y:Bwx)=>k ((),(((Bh.1,Bh.2.1,Bh.2.2.1,Bh.2.2.2.1,Bh.2.2.2.2.1,y),()),()),(),())else k
 ((),(((Bh.1,Bh.2.1,Bh.2.2.1,Bh.2.2.2.1,Bh.2.2.2.2.1,y),()),()),(),())
def A76:=Bs [Oh N,Oe N,L0 N,A2s N,A75 N] [] N 28 (A1 (A1 (A1 (A1 (A1 (.join ⟨[],[(1003,[.d tEvent],some 29)],[3,4],[1004],[],[]⟩ .lf .lf)))))) [A8,tEvent] [tEvent,A0] (Jx N) mixed func28 rfl (by decide) rfl (by kernel_rfl)
def L3:Bb [A8,(.sl Ak)] (A3 (Al [A8])):=fun(x:Bwz) (Bh:A2 Bwp)=>Option.bind (E3 N x.1 Bh) fun(y:A2 Bwp)=>some (y,x.2)
def A9o:=Bs [Of N] [] N 29 .lf [A8,(.sl Ak)] [A8] (L3 N) mixed func29 rfl (by decide) rfl (by kernel_rfl)
def Gl:Bb [tEvent,(.sl Ak)] (A3 (Al [tEvent])):=fun(x:Bwo×UInt8×Int×UInt8×A2 UInt8×A2 Bwo) (Bh:A2 Bwp)=>Option.bind (Eo N Bh x.1) fun(y:Bool)=>bif y then some
 (x.1,x.2.1,x.2.2.1,x.2.2.2.1,x.2.2.2.2.1,[])else some x
def A4q:=Bs [L0 N] [] N 73 .lf [tEvent,(.sl Ak)] [tEvent] (Gl N) mixed func73 rfl (by decide) rfl (by kernel_rfl)
def J8:Bb [A8,(.sl Ak)] (A3 (Al [A8,A0])):=fun(x:Bwz) (Bh:A2 Bwp)=>iter (fun(rec:Bwv×Unit×Unit×Unit→A3 (Bwz×Int)) (z:Bwv×Unit×Unit×Unit)=>bif decide (z.1.2.1<(↑x.2.length:Int))then
 (at? x.2 z.1.2.1).bind fun(e:Bwo×UInt8×Int×UInt8×A2 UInt8×A2 Bwo)=>bif e.2.1==1 then (at? x.2 z.1.2.1).bind fun(e:Bwo×UInt8×Int×UInt8×A2 UInt8×A2 Bwo)=>Option.bind (Gl N e Bh) fun(y:Bwo×UInt8×Int×UInt8×List
 UInt8×A2 Bwo)=>bif Ao (z.1.1.length + [y].length) 80 then rec ((z.1.1++[y],i64.wrap (z.1.2.1+1),()),(),(),())else none else (at? x.2 z.1.2.1).bind fun(e:Bwo×UInt8×Int×UInt8×A2 UInt8×A2 Bwo)=>Option.bind
 (Eo N Bh e.1) fun(y:Bool)=>bif !y then (at? x.2 z.1.2.1).bind fun(e:Bwo×UInt8×Int×UInt8×A2 UInt8×A2 Bwo)=>Option.bind (Gl N e Bh) fun(y:Bwo×UInt8×Int×UInt8×A2 UInt8×A2 Bwo)=>bif Ao (z.1.1.length + [y].length) 80
 then rec ((z.1.1++[y],i64.wrap (z.1.2.1+1),()),(),(),())else none else rec ((z.1.1,i64.wrap (z.1.2.1+1),()),(),(),())else some ((x.1,z.1.1),i64.wrap ((↑x.2.length:Int)-(↑z.1.1.length:Int)))) N
 (([],0,()),(),(),())
def A4r:=Bs [L0 N,A4q N] [] N 30 (A1 (A1 (.seq (A1 (.blk (.loop ⟨[(6,.Be 200006 tEvent none),(7,.d A0)],[],[1,2,4],[1002,1004],[],[]⟩ .lf))) .lf))) [A8,(.sl Ak)] [A8,A0] (J8 N) mixed func30 rfl (by decide) rfl (by kernel_rfl)
def Mc:Bb [(.sl tepitaphlaw18Act)] (A3 (Al [A8])):=fun(x:A2 (UInt8×Bwn×A2 Bwp))=>iter (fun(rec:Bwr×((Bwz×Unit)×Unit)×Unit×Unit→A3 Bwz) (z:Bwr×((Bwz×Unit)×Unit)×Unit×Unit)=>bif decide
 (z.1.1<(↑x.length:Int))then (at? x z.1.1).bind fun(e:UInt8×Bwn×A2 Bwp)=>bif e.1==0 then Option.bind (Ic N z.2.1.1.1 e.2.1) fun(y:Bwz×Int)=>rec ((i64.wrap (z.1.1+1),()),((y.1,()),()),(),())else bif e.1==1 then
 Option.bind (Jx N z.2.1.1.1 e.2.1) fun(y:Bwn×Int)=>Option.bind (Ic N z.2.1.1.1 y.1) fun(y:Bwz×Int)=>rec ((i64.wrap (z.1.1+1),()),((y.1,()),()),(),())else bif e.1==2 then Option.bind (L3 N z.2.1.1.1 e.2.2)
 fun(y:Bwz)=>rec ((i64.wrap (z.1.1+1),()),((y,()),()),(),())else bif e.1==3 then Option.bind (J8 N z.2.1.1.1 e.2.2) fun(y:Bwz×Int)=>rec ((i64.wrap (z.1.1+1),()),((y.1,()),()),(),())else rec
 ((i64.wrap (z.1.1+1),()),((z.2.1.1.1,()),()),(),())else some z.2.1.1.1) N ((0,()),((([],[]),()),()),(),())
def Ack:=Bs [A9n N,A76 N,A9o N,A4r N] [] N 7 (A1 (A1 (.seq (A1 (.blk (.loop ⟨[(4,.d A0)],[(1003,[.d A8],some 37)],[0,2,3],[1002],[],[]⟩ .lf))) .lf))) [(.sl tepitaphlaw18Act)] [A8] (Mc N) mixed func7 rfl (by decide) rfl (by kernel_rfl)
def Jy:Bb [(.sl Ak)] (A3 (Al [(.sl Ak)])):=fun(x:A2 Bwp)=>Option.bind (Ia N x [] 0) fun(y:A2 Bwp)=>some y
def A77:=Bs [Xi N] [] N 9 .lf [(.sl Ak)] [(.sl Ak)] (Jy N) mixed func9 rfl (by decide) rfl (by kernel_rfl)
@[reducible] def Sh1:Sh:=.d (.sl Ak) (.m Ag tEvent (.m Ag tEvent .nil))
@[reducible] def A22:Dr:=⟨[.p 1 777777777,.d tEvent],[],[(1,.map Ag tEvent)],⟨[(4,.p 1 777777777)],[],[],[],[],[(1,.map Ag tEvent)]⟩⟩
def Vn:Dr.Bb A22 (A3 A22.out.T):=fun(y:Bwo×UInt8×Int×UInt8×A2 UInt8×A2 Bwo) (l:A2 (Nat×Bwo×Bwo×UInt8×Int×UInt8×A2 UInt8×A2 Bwo)×Nat)=>Option.bind (J5 N y)
 fun(Dv:Bwo×UInt8×Int×UInt8×A2 UInt8×A2 Bwo)=>some (((),()),(),(),(B3h Ag tEvent y.1 Dv l.2 l.1,Awg Ag tEvent y.1 l.1 l.2),())
def Atx:=H8 [Ge N] [] N 35 .lf A22 (Vn N) mixed func35 rfl (by decide) rfl rfl rfl (by kernel_rfl)
@[reducible] def A23:Dr:=⟨[.nil false,.d tEvent],[],[],⟨[(4,.p 1007 777777777)],[],[],[],[],[(1007,.map Ag tEvent)]⟩⟩
def Vo:Dr.Bb A23 (A3 A23.out.T):=fun(y:Bwo×UInt8×Int×UInt8×A2 UInt8×A2 Bwo)=>Option.bind (J5 N y) fun(Dv:Bwo×UInt8×Int×UInt8×A2 UInt8×A2 Bwo)=>some (((),()),(),(),(B3h Ag tEvent y.1 Dv 0
 [],Awg Ag tEvent y.1 [] 0),())
def Aty:=H8 [Ge N] [] N 35 .lf A23 (Vo N) mixed func35 rfl (by decide) rfl rfl rfl (by kernel_rfl)
abbrev CtX:Type:=A2 (Int×A2 (Int×Int))
abbrev Jh:Type:=A2 (Nat×(Int×Int)×tEvent.T)×Nat
abbrev Tw:Type:=A3 Jh
abbrev BkC:Type:=A2 (Int×A2 (Int×Int))×Tw×Tw×Unit
abbrev OwE:Type:=A3 (List tEvent.T×Nat)
def lpE{R:Type}(N:Nat)(l:Jh)(k:OwE→A3 R)(o:OwE):A3 R :=
 iter (fun(rec:Unit×Unit×(OwE×Unit)×(Nat×A2 Nat×Nat)×Unit→A3 R) (z:Unit×Unit×(OwE×Unit)×(Nat×A2 Nat×Nat)×Unit) =>
  A6 z.2.2.1.1
   (bif A6w z.2.2.2.1.1 z.2.2.2.1.2.2 l.1 then
    Wq (Cb z.2.2.2.1.2.1 l.1) (k none) fun(e:Nat×(Int×Int)×tEvent.T) =>
     bif l.2.beq l.2 then
      A6 (P5 (z.2.2.2.1.2.1++[e.1])) none fun(p:A2 Nat×Nat) =>A6 (A1v Ag tEvent p.2 l.1) none fun(Mn:Nat×(Int×Int)×tEvent.T) =>Option.bind (J5 N Mn.2.2) fun(y:tEvent.T)=>rec ((),(),(some ([y],[y].length),()),(z.2.2.2.1.1,z.2.2.2.1.2.1++[e.1],l.2),())
     else none
   else none)
   fun(y:List tEvent.T×Nat) =>
   bif A6w z.2.2.2.1.1 z.2.2.2.1.2.2 l.1 then
    Wq (Cb z.2.2.2.1.2.1 l.1) (k (some y)) fun(e:Nat×(Int×Int)×tEvent.T) =>
     bif l.2.beq l.2 then
      A6 (P5 (z.2.2.2.1.2.1++[e.1])) none fun(p:A2 Nat×Nat) =>
       A6 (A1v Ag tEvent p.2 l.1) none fun(Mn:Nat×(Int×Int)×tEvent.T) =>
        Option.bind (J5 N Mn.2.2) fun(Dv:tEvent.T) =>
         bif y.1.length.beq y.2 then
          bif Ao (y.2 + [Dv].length) 80 then rec ((),(),(some (y.1++[Dv],y.2 + [Dv].length),()),(z.2.2.2.1.1,z.2.2.2.1.2.1++[e.1],l.2),())
          else none
         else none
     else none
   else none)
  N ((),(),(o,()),(l.2,[],l.2),())
def lpZ{R:Type}(N:Nat)(k:OwE→A3 R)(o:OwE):A3 R :=
 iter (fun(_:Unit×Unit×(OwE×Unit)×Unit×Unit→A3 R) (z:Unit×Unit×(OwE×Unit)×Unit×Unit)=>A6 z.2.2.1.1 (k none) fun y=>k (some y)) N ((),(),(o,()),(),())
def Ay2:OwE→A3 ((List tEvent.T×Unit)×Unit×Unit×Unit):=fun o =>
 A6 o (some (([],()),(),(),())) fun y =>
  bif y.2.ble y.1.length then
   bif y.2.ble 4611686018427387903 then
    bif Rb (List.take y.2 y.1) then
     bif bif (0+y.2).ble (Hx (List.take y.2 y.1)++List.drop y.2 y.1).length then true else false then
      some ((List.take y.2 (List.drop 0 (Hx (List.take y.2 y.1)++List.drop y.2 y.1)),()),(),(),())
     else none
    else none
   else none
  else none
def Ast:OwE→A3 (Unit×Unit×(OwE×Unit)×Unit):=fun o =>
 A6 o (some ((),(),(none,()),())) fun y =>
  bif y.2.ble y.1.length then
   bif y.2.ble 4611686018427387903 then
    bif Rb (List.take y.2 y.1)then some ((),(),(some (Hx (List.take y.2 y.1)++List.drop y.2 y.1,y.2),()),())
    else none
   else none
  else none
def four{R:Type}(x:BkC)(f:Tw→Tw→R):R:=A6 x.2.1 (A6 x.2.2.1 (f none none) fun b=>f none (some b)) fun a=>A6 x.2.2.1 (f (some a) none) fun b=>f (some a) (some b)
def A4s{R:Type}(lv tb:Tw)(zz:R)(zm mz:Jh→R)(mm:Jh→Jh→R):R:=A6 lv (A6 tb zz zm) fun a=>A6 tb (mz a) (mm a)
abbrev LiR:Type:=(List tEvent.T×Unit)×Unit×Unit×Unit
abbrev OwR:Type:=Unit×Unit×(OwE×Unit)×Unit
def li1(l:List tEvent.T):A3 LiR:=some ((l,()),(),(),())
def ow1(o:OwE):A3 OwR:=A6 o (some ((),(),(none,()),())) fun y=>some ((),(),(some y,()),())
@[reducible] def Zl:Dr:=⟨[.p 1 900001001],[(1,[.p 2 777777777],some 71)],[(2,.map Ag tEvent)],⟨[(2,.d (.sl tEvent))],[],[],[1,2],[],[]⟩⟩
def Lt:Dr.Bb Zl (A3 Zl.out.T):=fun(l:Jh)=>lpE N l Ay2 none
def Ank:=H8 [B2 N,Ge N] [24] N 96 (A1 (A1 (.seq (A1 (.blk (.rnd (A1 (A1 (.seq (.blk (A1 (A1 (.blk (.loop ⟨[],[],[8,9,10,15],[1,2],[(3,400003,tEvent)],[(1015,.Jo 2)]⟩ .lf))))) .lf))) (.rnd (A1 (A1 (.seq (.blk (A1 (A1 (.blk (.loop ⟨[],[],[8,9,10,15],[1,2],[(3,400003,tEvent)],[(1015,.Dl)]⟩ .lf))))) .lf))) (.rnd (A1 (A1 (.seq (.blk (A1 (A1 (.blk (.loop ⟨[],[],[8,9,10,15],[1,2],[(3,400003,tEvent)],[(1015,.Dl)]⟩ .lf))))) .lf))) .lf))))) (.fz [3] .lf .lf)))) Zl (Lt N) mixed func96 rfl (by decide) rfl rfl rfl (by kernel_rfl)
@[reducible] def Zm:Dr:=⟨[.p 1 900001001],[(1,[.Nw],some 71)],[],⟨[(2,.d (.sl tEvent))],[],[],[1],[],[]⟩⟩
def Lu:Dr.Bb Zm (A3 Zm.out.T):=lpZ N Ay2 none
def Anl:=H8 [B2 N,Ge N] [24] N 96 (A1 (A1 (.seq (A1 (.blk (.rnd (A1 (A1 (.seq (.blk (A1 (A1 (.blk (.loop ⟨[],[],[8,9,10,15],[1],[(3,400003,tEvent)],[(1015,.Dl)]⟩ .lf))))) .lf))) (.rnd (A1 (A1 (.seq (.blk (A1 (A1 (.blk (.loop ⟨[],[],[8,9,10,15],[1],[(3,400003,tEvent)],[(1015,.Dl)]⟩ .lf))))) .lf))) (.rnd (A1 (A1 (.seq (.blk (A1 (A1 (.blk (.loop ⟨[],[],[8,9,10,15],[1],[(3,400003,tEvent)],[(1015,.Dl)]⟩ .lf))))) .lf))) .lf))))) (.fz [3] .lf .lf)))) Zm (Lu N) mixed func96 rfl (by decide) rfl rfl rfl (by kernel_rfl)
@[reducible] def Xj:Dr:=⟨[.p 1 900002001],[(1,[.p 2 777777777,.p 3 777777777],some 71)],[(2,.map Ag tEvent),(3,.map Ag tEvent)],⟨[(2,.d (.sl tEvent))],[],[],[1,2,3],[],[]⟩⟩
def Xk:Dr.Bb Xj (A3 Xj.out.T):=fun(l m:Jh)=>lpE N l (lpE N m Ay2) none
def Akw:=H8 [B2 N,Ge N] [24] N 96 (A1 (A1 (.seq (A1 (.blk (.rnd (A1 (A1 (.join ⟨[],[],[8,9,10],[1,2,3],[(3,400003,tEvent)],[]⟩ (.blk (A1 (A1 (.blk (.loop ⟨[],[],[8,9,10,15],[1,2,3],[(3,400003,tEvent)],[(1015,.Jo 2)]⟩ .lf))))) .lf))) (.rnd (A1 (A1 (.join ⟨[],[],[8,9,10],[1,2,3],[(3,400003,tEvent)],[]⟩ (.blk (A1 (A1 (.blk (.loop ⟨[],[],[8,9,10,15],[1,2,3],[(3,400003,tEvent)],[(1015,.Jo 3)]⟩ .lf))))) .lf))) (.rnd (A1 (A1 (.join ⟨[],[],[8,9,10],[1,2,3],[(3,400003,tEvent)],[]⟩ (.blk (A1 (A1 (.blk (.loop ⟨[],[],[8,9,10,15],[1,2,3],[(3,400003,tEvent)],[(1015,.Dl)]⟩ .lf))))) .lf))) .lf))))) (.fz [3] .lf .lf)))) Xj (Xk N) mixed func96 rfl (by decide) rfl rfl rfl (by kernel_rfl)
@[reducible] def Xm:Dr:=⟨[.p 1 900002001],[(1,[.p 2 777777777,.Nw],some 71)],[(2,.map Ag tEvent)],⟨[(2,.d (.sl tEvent))],[],[],[1,2],[],[]⟩⟩
def Xn:Dr.Bb Xm (A3 Xm.out.T):=fun(l:Jh)=>lpE N l (lpZ N Ay2) none
def Akx:=H8 [B2 N,Ge N] [24] N 96 (A1 (A1 (.seq (A1 (.blk (.rnd (A1 (A1 (.join ⟨[],[],[8,9,10],[1,2],[(3,400003,tEvent)],[]⟩ (.blk (A1 (A1 (.blk (.loop ⟨[],[],[8,9,10,15],[1,2],[(3,400003,tEvent)],[(1015,.Jo 2)]⟩ .lf))))) .lf))) (.rnd (A1 (A1 (.join ⟨[],[],[8,9,10],[1,2],[(3,400003,tEvent)],[]⟩ (.blk (A1 (A1 (.blk (.loop ⟨[],[],[8,9,10,15],[1,2],[(3,400003,tEvent)],[(1015,.Dl)]⟩ .lf))))) .lf))) (.rnd (A1 (A1 (.join ⟨[],[],[8,9,10],[1,2],[(3,400003,tEvent)],[]⟩ (.blk (A1 (A1 (.blk (.loop ⟨[],[],[8,9,10,15],[1,2],[(3,400003,tEvent)],[(1015,.Dl)]⟩ .lf))))) .lf))) .lf))))) (.fz [3] .lf .lf)))) Xm (Xn N) mixed func96 rfl (by decide) rfl rfl rfl (by kernel_rfl)
@[reducible] def Xo:Dr:=⟨[.p 1 900002001],[(1,[.Nw,.p 3 777777777],some 71)],[(3,.map Ag tEvent)],⟨[(2,.d (.sl tEvent))],[],[],[1,3],[],[]⟩⟩
def Re:Dr.Bb Xo (A3 Xo.out.T):=fun(l:Jh)=>lpZ N (lpE N l Ay2) none
def Aky:=H8 [B2 N,Ge N] [24] N 96 (A1 (A1 (.seq (A1 (.blk (.rnd (A1 (A1 (.join ⟨[],[],[8,9,10],[1,3],[(3,400003,tEvent)],[]⟩ (.blk (A1 (A1 (.blk (.loop ⟨[],[],[8,9,10,15],[1,3],[(3,400003,tEvent)],[(1015,.Dl)]⟩ .lf))))) .lf))) (.rnd (A1 (A1 (.join ⟨[],[],[8,9,10],[1,3],[(3,400003,tEvent)],[]⟩ (.blk (A1 (A1 (.blk (.loop ⟨[],[],[8,9,10,15],[1,3],[(3,400003,tEvent)],[(1015,.Jo 3)]⟩ .lf))))) .lf))) (.rnd (A1 (A1 (.join ⟨[],[],[8,9,10],[1,3],[(3,400003,tEvent)],[]⟩ (.blk (A1 (A1 (.blk (.loop ⟨[],[],[8,9,10,15],[1,3],[(3,400003,tEvent)],[(1015,.Dl)]⟩ .lf))))) .lf))) .lf))))) (.fz [3] .lf .lf)))) Xo (Re N) mixed func96 rfl (by decide) rfl rfl rfl (by kernel_rfl)
@[reducible] def Xp:Dr:=⟨[.p 1 900002001],[(1,[.Nw,.Nw],some 71)],[],⟨[(2,.d (.sl tEvent))],[],[],[1],[],[]⟩⟩
def Rf:Dr.Bb Xp (A3 Xp.out.T):=lpZ N (lpZ N Ay2) none
def Akz:=H8 [B2 N,Ge N] [24] N 96 (A1 (A1 (.seq (A1 (.blk (.rnd (A1 (A1 (.join ⟨[],[],[8,9,10],[1],[(3,400003,tEvent)],[]⟩ (.blk (A1 (A1 (.blk (.loop ⟨[],[],[8,9,10,15],[1],[(3,400003,tEvent)],[(1015,.Dl)]⟩ .lf))))) .lf))) (.rnd (A1 (A1 (.join ⟨[],[],[8,9,10],[1],[(3,400003,tEvent)],[]⟩ (.blk (A1 (A1 (.blk (.loop ⟨[],[],[8,9,10,15],[1],[(3,400003,tEvent)],[(1015,.Dl)]⟩ .lf))))) .lf))) (.rnd (A1 (A1 (.join ⟨[],[],[8,9,10],[1],[(3,400003,tEvent)],[]⟩ (.blk (A1 (A1 (.blk (.loop ⟨[],[],[8,9,10,15],[1],[(3,400003,tEvent)],[(1015,.Dl)]⟩ .lf))))) .lf))) .lf))))) (.fz [3] .lf .lf)))) Xp (Rf N) mixed func96 rfl (by decide) rfl rfl rfl (by kernel_rfl)
@[reducible] def Xq:Dr:=⟨[.p 1 900001001],[(1,[.p 2 777777777],some 71)],[(2,.map Ag tEvent)],⟨[],[],[],[1,2],[(2,2002,tEvent)],[]⟩⟩
def Rg:Dr.Bb Xq (A3 Xq.out.T):=fun(l:Jh)=>lpE N l Ast none
def Al0:=H8 [B2 N,Ge N] [24] N 96 (A1 (A1 (.seq (A1 (.blk (.rnd (A1 (A1 (.seq (.blk (A1 (A1 (.blk (.loop ⟨[],[],[8,9,10,15],[1,2],[(3,400003,tEvent)],[(1015,.Jo 2)]⟩ .lf))))) .lf))) (.rnd (A1 (A1 (.seq (.blk (A1 (A1 (.blk (.loop ⟨[],[],[8,9,10,15],[1,2],[(3,400003,tEvent)],[(1015,.Dl)]⟩ .lf))))) .lf))) (.rnd (A1 (A1 (.seq (.blk (A1 (A1 (.blk (.loop ⟨[],[],[8,9,10,15],[1,2],[(3,400003,tEvent)],[(1015,.Dl)]⟩ .lf))))) .lf))) .lf))))) .lf))) Xq (Rg N) mixed func96 rfl (by decide) rfl rfl rfl (by kernel_rfl)
@[reducible] def Xr:Dr:=⟨[.p 1 900001001],[(1,[.Nw],some 71)],[],⟨[],[],[],[1],[(2,2002,tEvent)],[]⟩⟩
def Rh:Dr.Bb Xr (A3 Xr.out.T):=lpZ N Ast none
def Al1:=H8 [B2 N,Ge N] [24] N 96 (A1 (A1 (.seq (A1 (.blk (.rnd (A1 (A1 (.seq (.blk (A1 (A1 (.blk (.loop ⟨[],[],[8,9,10,15],[1],[(3,400003,tEvent)],[(1015,.Dl)]⟩ .lf))))) .lf))) (.rnd (A1 (A1 (.seq (.blk (A1 (A1 (.blk (.loop ⟨[],[],[8,9,10,15],[1],[(3,400003,tEvent)],[(1015,.Dl)]⟩ .lf))))) .lf))) (.rnd (A1 (A1 (.seq (.blk (A1 (A1 (.blk (.loop ⟨[],[],[8,9,10,15],[1],[(3,400003,tEvent)],[(1015,.Dl)]⟩ .lf))))) .lf))) .lf))))) .lf))) Xr (Rh N) mixed func96 rfl (by decide) rfl rfl rfl (by kernel_rfl)
def Fw:Ft prog:=Ho 96 (Blk 1) (Ho 96 (Ff 0) (Anl N) (Ank N) rfl rfl) (Ho 96 (Ff 0) (Ho 96 (Ff 1) (Akz N) (Aky N) rfl rfl) (Ho 96 (Ff 1) (Akx N) (Akw N) rfl rfl) rfl rfl) rfl rfl
@[reducible] def N4:Dr:=⟨[.p 1 0],[(1,[.d (.sl Ak),.p 2 777777777,.p 3 777777777],some 73)],[(2,.map Ag tEvent),(3,.map Ag tEvent)],⟨[(2,.d (.sl tEvent))],[],[],[1,2,3],[],[]⟩⟩
def N5:Dr.Bb N4 (A3 N4.out.T):=fun(_:CtX) (a b:Jh)=>Option.bind (Lt N a) fun y=>li1 y.1.1
def A4t:=H8 [Fw N] [] N 47 .lf N4 (N5 N) mixed func47 rfl (by decide) rfl rfl rfl (by kernel_rfl)
@[reducible] def N6:Dr:=⟨[.p 1 0],[(1,[.d (.sl Ak),.p 2 777777777,.Nw],some 73)],[(2,.map Ag tEvent)],⟨[(2,.d (.sl tEvent))],[],[],[1,2],[],[]⟩⟩
def N7:Dr.Bb N6 (A3 N6.out.T):=fun(_:CtX) (a:Jh)=>Option.bind (Lt N a) fun y=>li1 y.1.1
def A4u:=H8 [Fw N] [] N 47 .lf N6 (N7 N) mixed func47 rfl (by decide) rfl rfl rfl (by kernel_rfl)
@[reducible] def N8:Dr:=⟨[.p 1 0],[(1,[.d (.sl Ak),.Nw,.p 3 777777777],some 73)],[(3,.map Ag tEvent)],⟨[(2,.d (.sl tEvent))],[],[],[1,3],[],[]⟩⟩
def N9:Dr.Bb N8 (A3 N8.out.T):=fun(_:CtX) (b:Jh)=>Option.bind (Lu N ) fun y=>li1 y.1.1
def A4v:=H8 [Fw N] [] N 47 .lf N8 (N9 N) mixed func47 rfl (by decide) rfl rfl rfl (by kernel_rfl)
@[reducible] def Na:Dr:=⟨[.p 1 0],[(1,[.d (.sl Ak),.Nw,.Nw],some 73)],[],⟨[(2,.d (.sl tEvent))],[],[],[1],[],[]⟩⟩
def Nb:Dr.Bb Na (A3 Na.out.T):=fun(_:CtX)=>Option.bind (Lu N ) fun y=>li1 y.1.1
def A4w:=H8 [Fw N] [] N 47 .lf Na (Nb N) mixed func47 rfl (by decide) rfl rfl rfl (by kernel_rfl)
def Vp:Ft prog:=Ho 96 (Ff 0) (Al1 N) (Al0 N) rfl rfl
@[reducible] def Nc:Dr:=⟨[.p 1 0],[(1,[.d (.sl Ak),.p 2 777777777,.p 3 777777777],some 73)],[(2,.map Ag tEvent),(3,.map Ag tEvent)],⟨[],[],[],[1,2,3],[(2,2002,tEvent)],[]⟩⟩
def Nd:Dr.Bb Nc (A3 Nc.out.T):=fun(_:CtX) (a b:Jh)=>Option.bind (Rg N a) fun y=>ow1 y.2.2.1.1
def A4x:=H8 [Vp N] [] N 47 .lf Nc (Nd N) mixed func47 rfl (by decide) rfl rfl rfl (by kernel_rfl)
@[reducible] def Nf:Dr:=⟨[.p 1 0],[(1,[.d (.sl Ak),.p 2 777777777,.Nw],some 73)],[(2,.map Ag tEvent)],⟨[],[],[],[1,2],[(2,2002,tEvent)],[]⟩⟩
def Ng:Dr.Bb Nf (A3 Nf.out.T):=fun(_:CtX) (a:Jh)=>Option.bind (Rg N a) fun y=>ow1 y.2.2.1.1
def A4y:=H8 [Vp N] [] N 47 .lf Nf (Ng N) mixed func47 rfl (by decide) rfl rfl rfl (by kernel_rfl)
@[reducible] def Nh:Dr:=⟨[.p 1 0],[(1,[.d (.sl Ak),.Nw,.p 3 777777777],some 73)],[(3,.map Ag tEvent)],⟨[],[],[],[1,3],[(2,2002,tEvent)],[]⟩⟩
def Ni:Dr.Bb Nh (A3 Nh.out.T):=fun(_:CtX) (b:Jh)=>Option.bind (Rh N ) fun y=>ow1 y.2.2.1.1
def A4z:=H8 [Vp N] [] N 47 .lf Nh (Ni N) mixed func47 rfl (by decide) rfl rfl rfl (by kernel_rfl)
@[reducible] def Nj:Dr:=⟨[.p 1 0],[(1,[.d (.sl Ak),.Nw,.Nw],some 73)],[],⟨[],[],[],[1],[(2,2002,tEvent)],[]⟩⟩
def Nk:Dr.Bb Nj (A3 Nj.out.T):=fun(_:CtX)=>Option.bind (Rh N ) fun y=>ow1 y.2.2.1.1
def A50:=H8 [Vp N] [] N 47 .lf Nj (Nk N) mixed func47 rfl (by decide) rfl rfl rfl (by kernel_rfl)
@[reducible] def Lx:Dr:=⟨[.p 1 0],[(1,[.d (.sl Ak),.p 2 777777777,.p 3 777777777],some 73)],[(2,.map Ag tEvent),(3,.map Ag tEvent)],⟨[(2,.d (.sl tEvent))],[],[],[1,2,3],[],[]⟩⟩
def Ly:Dr.Bb Lx (A3 Lx.out.T):=fun(_:CtX) (a b:Jh)=>Option.bind (Lt N b) fun y=>li1 y.1.1
def A2t:=H8 [Fw N] [] N 48 .lf Lx (Ly N) mixed func48 rfl (by decide) rfl rfl rfl (by kernel_rfl)
@[reducible] def Lz:Dr:=⟨[.p 1 0],[(1,[.d (.sl Ak),.p 2 777777777,.Nw],some 73)],[(2,.map Ag tEvent)],⟨[(2,.d (.sl tEvent))],[],[],[1,2],[],[]⟩⟩
def M0:Dr.Bb Lz (A3 Lz.out.T):=fun(_:CtX) (a:Jh)=>Option.bind (Lu N ) fun y=>li1 y.1.1
def A2u:=H8 [Fw N] [] N 48 .lf Lz (M0 N) mixed func48 rfl (by decide) rfl rfl rfl (by kernel_rfl)
@[reducible] def M1:Dr:=⟨[.p 1 0],[(1,[.d (.sl Ak),.Nw,.p 3 777777777],some 73)],[(3,.map Ag tEvent)],⟨[(2,.d (.sl tEvent))],[],[],[1,3],[],[]⟩⟩
def M3:Dr.Bb M1 (A3 M1.out.T):=fun(_:CtX) (b:Jh)=>Option.bind (Lt N b) fun y=>li1 y.1.1
def A2v:=H8 [Fw N] [] N 48 .lf M1 (M3 N) mixed func48 rfl (by decide) rfl rfl rfl (by kernel_rfl)
@[reducible] def M4:Dr:=⟨[.p 1 0],[(1,[.d (.sl Ak),.Nw,.Nw],some 73)],[],⟨[(2,.d (.sl tEvent))],[],[],[1],[],[]⟩⟩
def M5:Dr.Bb M4 (A3 M4.out.T):=fun(_:CtX)=>Option.bind (Lu N ) fun y=>li1 y.1.1
def A2w:=H8 [Fw N] [] N 48 .lf M4 (M5 N) mixed func48 rfl (by decide) rfl rfl rfl (by kernel_rfl)
@[reducible] def Oi:Dr:=⟨[.p 1 0],[(1,[.d (.sl Ak),.p 2 777777777,.p 3 777777777],some 73)],[(2,.map Ag tEvent),(3,.map Ag tEvent)],⟨[(2,.d (.sl tEvent))],[],[],[1,2,3],[],[]⟩⟩
def Oj:Dr.Bb Oi (A3 Oi.out.T):=fun(_:CtX) (a b:Jh)=>Option.bind (Xk N a b) fun y=>li1 y.1.1
def A78:=H8 [Fw N] [] N 46 .lf Oi (Oj N) mixed func46 rfl (by decide) rfl rfl rfl (by kernel_rfl)
@[reducible] def Ol:Dr:=⟨[.p 1 0],[(1,[.d (.sl Ak),.p 2 777777777,.Nw],some 73)],[(2,.map Ag tEvent)],⟨[(2,.d (.sl tEvent))],[],[],[1,2],[],[]⟩⟩
def Om:Dr.Bb Ol (A3 Ol.out.T):=fun(_:CtX) (a:Jh)=>Option.bind (Xn N a) fun y=>li1 y.1.1
def A79:=H8 [Fw N] [] N 46 .lf Ol (Om N) mixed func46 rfl (by decide) rfl rfl rfl (by kernel_rfl)
@[reducible] def On:Dr:=⟨[.p 1 0],[(1,[.d (.sl Ak),.Nw,.p 3 777777777],some 73)],[(3,.map Ag tEvent)],⟨[(2,.d (.sl tEvent))],[],[],[1,3],[],[]⟩⟩
def Oo:Dr.Bb On (A3 On.out.T):=fun(_:CtX) (b:Jh)=>Option.bind (Re N b) fun y=>li1 y.1.1
def A7a:=H8 [Fw N] [] N 46 .lf On (Oo N) mixed func46 rfl (by decide) rfl rfl rfl (by kernel_rfl)
@[reducible] def Oq:Dr:=⟨[.p 1 0],[(1,[.d (.sl Ak),.Nw,.Nw],some 73)],[],⟨[(2,.d (.sl tEvent))],[],[],[1],[],[]⟩⟩
def Ot:Dr.Bb Oq (A3 Oq.out.T):=fun(_:CtX)=>Option.bind (Rf N ) fun y=>li1 y.1.1
def A7b:=H8 [Fw N] [] N 46 .lf Oq (Ot N) mixed func46 rfl (by decide) rfl rfl rfl (by kernel_rfl)
@[reducible] def Sn:Dr:=⟨[.d tEvent,.p 2 0],[(2,[.d (.int .u64)],some 23)],[],⟨[(3,.d .bool)],[],[],[2],[],[]⟩⟩
def Ey(N:Nat):Dr.Bb Sn (A3 Sn.out.T):=fun(y:Bwo×UInt8×Int×UInt8×A2 UInt8×A2 Bwo) (Dv:Int)=>some ((y.2.2.1 != Dv,()),(),(),())
def Ez:=H8 [] [] N 93 .lf Sn (Ey N) mixed func93 rfl (by decide) rfl rfl rfl (by kernel_rfl)
@[reducible] def F5:Dr:=⟨[.os 1 tEvent,.F1 93 [(2,0)]],[(2,[.d (.int .u64)],some 23)],[(1,.arr tEvent)],⟨[(4,.d A0)],[],[],[2,1],[],[]⟩⟩
def Cu:Dr.Bb F5 (A3 F5.out.T):=fun(n:Nat) (y:Int) (l:A2 Bwn)=>iter (fun(rec:Bwr×Unit×Unit×Unit→A3 (Bwr×Unit×Unit×Unit)) (z:Bwr×Unit×Unit×Unit)=>bif decide (z.1.1<(↑n:Int))then bif decide
 (0≤z.1.1)&&decide (z.1.1<(↑n:Int))then l[0+z.1.1.toNat]?.bind fun(e:Bwo×UInt8×Int×UInt8×A2 UInt8×A2 Bwo)=>Option.bind (Ey N e y) fun(y:Bww×Unit×Unit×Unit)=>bif y.1.1 then some ((z.1.1,()),(),(),())else rec
 ((i64.wrap (z.1.1+1),()),(),(),())else none else some ((-1,()),(),(),())) N ((0,()),(),(),())
def Qm:=H8 [Ez N] [] N 126 (A1 (.seq (A1 (.blk (.loop ⟨[(8,.d A0)],[],[0,1,7],[1,2],[],[]⟩ .lf))) .lf)) F5 (Cu N) mixed func126 rfl (by decide) rfl rfl rfl (by kernel_rfl)
@[reducible] def Er:Dr:=⟨[.os 1 tEvent,.F1 93 [(2,0)]],[(2,[.d (.int .u64)],some 23)],[(1,.arr tEvent)],⟨[(4,.os 1 tEvent)],[],[],[2],[],[(1,.arr tEvent)]⟩⟩
def Co:Dr.Bb Er (A3 Er.out.T):=fun(n:Nat) (y:Int) (l:A2 Bwn)=>Option.bind (Cu N n y l) fun(Dv:Bwr×Unit×Unit×Unit)=>bif Dv.1.1 == -1 then some ((n,()),(),(),l,())else iter
 (fun(rec:Bwt×Unit×Unit×A2 Bwn×Unit→A3 ((Nat×Unit)×Unit×Unit×A2 Bwn×Unit)) (z:Bwt×Unit×Unit×A2 Bwn×Unit)=>bif decide (z.1.2.1<(↑n:Int))then bif decide (0≤z.1.2.1)&&decide (z.1.2.1<(↑n:Int))then
 z.2.2.2.1[0+z.1.2.1.toNat]?.bind fun(e:Bwo×UInt8×Int×UInt8×A2 UInt8×A2 Bwo)=>Option.bind (Ey N e y) fun(y:Bww×Unit×Unit×Unit)=>bif !y.1.1 then bif decide (0≤z.1.1)&&decide (z.1.1<(↑n:Int))then
 z.2.2.2.1[0+z.1.1.toNat]?.bind fun(Mn:Bwo×UInt8×Int×UInt8×A2 UInt8×A2 Bwo)=>rec ((i64.wrap (z.1.1+1),i64.wrap (z.1.2.1+1),()),(),(),z.2.2.2.1.set (0+z.1.1.toNat) e,())else none else rec
 ((z.1.1,i64.wrap (z.1.2.1+1),()),(),(),z.2.2.2.1,())else none else bif Fb z.1.1 (↑n:Int) n then bif Fb 0 z.1.1 n then some ((z.1.1.toNat-0,()),(),(),List.take (0+z.1.1.toNat) z.2.2.2.1,())else none else none) N
 ((Dv.1.1,i64.wrap (Dv.1.1+1),()),(),(),l,())
def Q5:=H8 [Qm N,Ez N] [] N 92 (A1 (A1 (A1 (.seq (A1 (.blk (.loop ⟨[(5,.d A0),(6,.d A0)],[],[0,1],[2],[],[(1,.arr tEvent)]⟩ .lf))) .lf)))) Er (Co N) mixed func92 rfl (by decide) rfl rfl rfl (by kernel_rfl)
@[reducible] def F6:Dr:=⟨[.d (.sl tEvent),.F1 93 [(2,0)]],[(2,[.d (.int .u64)],some 23)],[],⟨[(4,.d A0)],[],[],[2],[],[]⟩⟩
def F7:Dr.Bb F6 (A3 F6.out.T):=fun(y:A2 Bwn) (Dv:Int)=>iter (fun(rec:Bwr×Unit×Unit×Unit→A3 (Bwr×Unit×Unit×Unit)) (z:Bwr×Unit×Unit×Unit)=>bif decide (z.1.1<(↑y.length:Int))then (at? y
 z.1.1).bind fun(e:Bwo×UInt8×Int×UInt8×A2 UInt8×A2 Bwo)=>Option.bind (Ey N e Dv) fun(y:Bww×Unit×Unit×Unit)=>bif y.1.1 then some ((z.1.1,()),(),(),())else rec ((i64.wrap (z.1.1+1),()),(),(),())else some
 ((-1,()),(),(),())) N ((0,()),(),(),())
def Qn:=H8 [Ez N] [] N 126 (A1 (.seq (A1 (.blk (.loop ⟨[(8,.d A0)],[],[0,1,7],[2],[],[]⟩ .lf))) .lf)) F6 (F7 N) mixed func126 rfl (by decide) rfl rfl rfl (by kernel_rfl)
@[reducible] def Es:Dr:=⟨[.nil none,.F1 93 [(2,0)]],[(2,[.d (.int .u64)],some 23)],[],⟨[],[],[],[2],[(4,2004,tEvent)],[]⟩⟩
def Cp:Dr.Bb Es (A3 Es.out.T):=fun(y:Int)=>Option.bind (F7 N [] y) fun(y:Bwr×Unit×Unit×Unit)=>bif y.1.1 == -1 then some ((),(),(none,()),())else none
def Q6:=H8 [Qn N,Ez N] [] N 92 (A1 (A1 (.seq (A1 (.cond .lf .stop)) (.seq (A1 (.blk (.loop ⟨[(5,.d A0),(6,.d A0)],[],[0,1],[2],[],[]⟩ (.seq (A1 (.cond .lf .stop)) (.seq (.blk (A1 (A1 (.cond .lf .stop)))) .lf))))) .lf)))) Es (Cp N) mixed func92 rfl (by decide) rfl rfl rfl (by kernel_rfl)
def E7:Ft prog:=Akf 92 Bll (Q5 N) (Q6 N) rfl rfl
def J9:Ft prog:=Ho 47 (Ff 1) (Ho 47 (Ff 2) (A50 N) (A4z N) rfl rfl) (Ho 47 (Ff 2) (A4y N) (A4x N) rfl rfl) rfl rfl
def dfO(w:Int)(o:OwE):A3 OwR :=
 A6 o (Option.bind (Cp N w) fun y=>ow1 y.2.2.1.1) fun z=>Option.bind (Co N z.2 w z.1) fun y=>some ((),(),(some (y.2.2.2.1,y.1.1),()),())
@[reducible] def Q7:Dr:=⟨[.p 1 0,.d (.int .u64)],[(1,[.d (.sl Ak),.p 2 777777777,.p 3 777777777],some 73)],[(2,.map Ag tEvent),(3,.map Ag tEvent)],⟨[],[],[],[1,2,3],[(4,2004,tEvent)],[]⟩⟩
def L4:Dr.Bb Q7 (A3 Q7.out.T):=fun(w:Int) (c:CtX) (a b:Jh)=>Option.bind (Nd N c a b) fun y=>dfO N w y.2.2.1.1
def A9p:=H8 [Ez N,E7 N,J9 N] [] N 42 .lf Q7 (L4 N) mixed func42 rfl (by decide) rfl rfl rfl (by kernel_rfl)
@[reducible] def Q8:Dr:=⟨[.p 1 0,.d (.int .u64)],[(1,[.d (.sl Ak),.p 2 777777777,.Nw],some 73)],[(2,.map Ag tEvent)],⟨[],[],[],[1,2],[(4,2004,tEvent)],[]⟩⟩
def L5:Dr.Bb Q8 (A3 Q8.out.T):=fun(w:Int) (c:CtX) (a:Jh)=>Option.bind (Ng N c a) fun y=>dfO N w y.2.2.1.1
def A9q:=H8 [Ez N,E7 N,J9 N] [] N 42 .lf Q8 (L5 N) mixed func42 rfl (by decide) rfl rfl rfl (by kernel_rfl)
@[reducible] def Q9:Dr:=⟨[.p 1 0,.d (.int .u64)],[(1,[.d (.sl Ak),.Nw,.p 3 777777777],some 73)],[(3,.map Ag tEvent)],⟨[],[],[],[1,3],[(4,2004,tEvent)],[]⟩⟩
def L6:Dr.Bb Q9 (A3 Q9.out.T):=fun(w:Int) (c:CtX) (b:Jh)=>Option.bind (Ni N c b) fun y=>dfO N w y.2.2.1.1
def A9r:=H8 [Ez N,E7 N,J9 N] [] N 42 .lf Q9 (L6 N) mixed func42 rfl (by decide) rfl rfl rfl (by kernel_rfl)
@[reducible] def Qa:Dr:=⟨[.p 1 0,.d (.int .u64)],[(1,[.d (.sl Ak),.Nw,.Nw],some 73)],[],⟨[],[],[],[1],[(4,2004,tEvent)],[]⟩⟩
def L7:Dr.Bb Qa (A3 Qa.out.T):=fun(w:Int) (c:CtX)=>Option.bind (Nk N c ) fun y=>dfO N w y.2.2.1.1
def A9s:=H8 [Ez N,E7 N,J9 N] [] N 42 .lf Qa (L7 N) mixed func42 rfl (by decide) rfl rfl rfl (by kernel_rfl)
def B1m:Ft prog:=Akf 35 (Ake 0) (Aty N) (Atx N) rfl rfl
@[reducible] def Agi:ASp:=⟨[.d (.sl Ak),.d (.sl tEvent)],[],[.z 10 Sh1 (some 73),.d A0]⟩
abbrev Anm:Type:=Unit×A3 BkC×Int×Unit
abbrev StF:Type:=((Int×Unit)×((A2 (Int×A2 (Int×Int))×Unit×Unit×Unit)×Unit)×Unit×Jh×Jh×Unit) ⊕ ((Int×Unit)×((A2 (Int×A2 (Int×Int))×Unit×Unit×Unit)×Unit)×Unit×Jh×Unit) ⊕
 ((Int×Unit)×((A2 (Int×A2 (Int×Int))×Unit×Unit×Unit)×Unit)×Unit×Jh×Unit) ⊕ ((Int×Unit)×((A2 (Int×A2 (Int×Int))×Unit×Unit×Unit)×Unit)×Unit×Unit)
def B1n(k:Int)(c:A2 (Int×A2 (Int×Int))):Tw→Tw→StF
 |some a,some b=>.inl ((k,()),((c,(),(),()),()),(),a,b,())
 |none,some b=>.inr (.inl ((k,()),((c,(),(),()),()),(),b,()))
 |some a,none=>.inr (.inr (.inl ((k,()),((c,(),(),()),()),(),a,())))
 |none,none=>.inr (.inr (.inr ((k,()),((c,(),(),()),()),(),())))
def adE{R:Type}(N:Nat)(e:tEvent.T)(m:Tw)(k:Jh→A3 R):A3 R :=
 A6 m (Option.bind (Vo N e) fun y=>k y.2.2.2.1) fun b=>Option.bind (Vn N e b) fun y=>k y.2.2.2.1
def kdE(l:List tEvent.T)(e:tEvent.T)(K:A3 Anm):A3 Anm :=
 bif e.2.1==1 then Option.bind (Vi N l e.1) fun(y:Bool)=>bif y then some ((),none,1,())else K else K
def stF(c0:A2 (Int×A2 (Int×Int)))(l:List tEvent.T)(rec:StF→A3 Anm)(i:Int)(d:A2 (Int×A2 (Int×Int)))(lv tb:Tw):A3 Anm :=
 bif decide (i<(l.length:Int)) then
  (at? l i).bind fun(e:tEvent.T) =>
   Bn (fun(_:Unit×Unit×Unit×Unit)=>bif e.2.1==1 then adE N e lv fun m=>rec (B1n (i64.wrap (i+1)) d (some m) tb)else adE N e tb fun m=>rec (B1n (i64.wrap (i+1)) d lv (some m)))
    fun k=>Option.bind (O4 N e) fun(y:Bool) =>
     bif !y then some ((),none,1,())
     else
      bif decide (0<i) then
       (at? l (i64.wrap (i-1))).bind fun(Mn:tEvent.T) =>Option.bind (Sj N Mn.1 e.1) fun(y:Int)=>bif decide (0≤y)then some ((),none,1,())else kdE N l e (k ((),(),(),()))
      else kdE N l e (k ((),(),(),()))
 else
  Option.bind (A1z N c0) fun(y:Bool) =>
   bif !y then some ((),none,1,())
   else
    Option.bind (Vm N l) fun(y:A2 (Int×Int)) =>Option.bind (A21 N y c0) fun(y:A2 (Int×Int)) =>bif decide (0<(y.length:Int))then some ((),none,1,())else some ((),some (d,lv,tb,()),0,())
def Tx:ASp.Bb Agi:=fun(c:A2 Bwp) (l:List tEvent.T)=>Option.bind (X8 N c) fun(y:A2 Bwp)=>iter (fun(rec:StF→A3 Anm) (z:StF)=>Vc z (fun z=>stF N c l rec z.1.1 z.2.1.1.1 (some z.2.2.2.1) (some
 z.2.2.2.2.1)) fun z=>Vc z (fun z=>stF N c l rec z.1.1 z.2.1.1.1 none (some z.2.2.2.1)) fun z=>Vc z (fun z=>stF N c l rec z.1.1 z.2.1.1.1 (some z.2.2.2.1) none) fun z=>stF N c l rec z.1.1 z.2.1.1.1 none none) N (B1n 0 y
 none none)
def Ay3:=Bnh [Aks N,Ach N,W4 N,Atq N,B1j N,Ats N,Atw N,B1m N] [] N 8 (fun _=>(A1 (A1 (.seq (A1 (.blk (.alt ⟨[(15,.d A0)],[(1012,[.d (.sl Ak),.p 1060007 777777777,.p 1069007 777777777],some 73)],[0,1,6,13,14],[],[],[(1060007,.map Ag tEvent),(1069007,.map Ag tEvent)]⟩ (A1 (A1 (.seq (.blk (A1 (.join ⟨[],[],[0,1,6,8,13,14,15],[1008,1012,1060007,1069007],[],[]⟩ .lf .lf))) .lf))) (.alt ⟨[(15,.d A0)],[(1012,[.d (.sl Ak),.Nw,.p 1069007 777777777],some 73)],[0,1,6,13,14],[],[],[(1069007,.map Ag tEvent)]⟩ (A1 (A1 (.seq (.blk (A1 (.join ⟨[],[],[0,1,6,8,13,14,15],[1008,1012,1069007],[],[]⟩ .lf .lf))) .lf))) (.alt ⟨[(15,.d A0)],[(1012,[.d (.sl Ak),.p 1060007 777777777,.Nw],some 73)],[0,1,6,13,14],[],[],[(1060007,.map Ag tEvent)]⟩ (A1 (A1 (.seq (.blk (A1 (.join ⟨[],[],[0,1,6,8,13,14,15],[1008,1012,1060007],[],[]⟩ .lf .lf))) .lf))) (.loop ⟨[(15,.d A0)],[(1012,[.d (.sl Ak),.Nw,.Nw],some 73)],[0,1,6,13,14],[],[],[]⟩ (A1 (A1 (.seq (.blk (A1 (.join ⟨[],[],[0,1,6,8,13,14,15],[1008,1012],[],[]⟩ .lf .lf))) .lf))))))))) .lf)))) Agi (Tx N) mixed func8 rfl (by decide) rfl rfl (by kernel_rfl)
def Tz:Ft prog:=Ho 47 (Ff 1) (Ho 47 (Ff 2) (A4w N) (A4v N) rfl rfl) (Ho 47 (Ff 2) (A4u N) (A4t N) rfl rfl) rfl rfl
def Ie:Ft prog:=Ho 42 (Ff 1) (Ho 42 (Ff 2) (A9s N) (A9r N) rfl rfl) (Ho 42 (Ff 2) (A9q N) (A9p N) rfl rfl) rfl rfl
def A2x:Ft prog:=Ho 48 (Ff 1) (Ho 48 (Ff 2) (A2w N) (A2v N) rfl rfl) (Ho 48 (Ff 2) (A2u N) (A2t N) rfl rfl) rfl rfl
def V1:Ft prog:=Ho 46 (Ff 1) (Ho 46 (Ff 2) (A7b N) (A7a N) rfl rfl) (Ho 46 (Ff 2) (A79 N) (A78 N) rfl rfl) rfl rfl
def Ri:Bb [tEvent,tEvent] (A3 (Al [A0])):=fun(x Bh:Bwo×UInt8×Int×UInt8×A2 UInt8×A2 Bwo)=>Option.bind (By N x.1.2 Bh.1.2) fun(y:Int)=>some y
def Ja:=Bs [Ex N] [] N 44 .lf [tEvent,tEvent] [A0] (Ri N) mixed func44 rfl (by decide) rfl (by kernel_rfl)
def Bl:O8 [.d A0,.d A0,.c 44] (A3 (Al (Wu tEvent []))):=fun(x Bh:Int)=>iter (fun(rec:Bwr×Unit×Unit×Unit→A3 Unit) (z:Bwr×Unit×Unit×Unit)=>bif decide (z.1.1<Bh)then iter
 (fun(rec_1:Bwr×Unit×Unit×Unit→A3 Unit) (Ea:Bwr×Unit×Unit×Unit)=>bif decide (x<Ea.1.1)then (at? [] Ea.1.1).bind fun(e:Bwo×UInt8×Int×UInt8×A2 UInt8×A2 Bwo)=>(at? [] (i64.wrap (Ea.1.1-1))).bind
 fun(Mn:Bwo×UInt8×Int×UInt8×A2 UInt8×A2 Bwo)=>Option.bind (Ri N e Mn) fun(y:Int)=>bif decide (y<0)then (at? [] (i64.wrap (Ea.1.1-1))).bind fun(e:Bwo×UInt8×Int×UInt8×A2 UInt8×A2 Bwo)=>(at? [] Ea.1.1).bind
 fun(e:Bwo×UInt8×Int×UInt8×A2 UInt8×A2 Bwo)=>(at? [] Ea.1.1).bind fun(e:Bwo×UInt8×Int×UInt8×A2 UInt8×A2 Bwo)=>none else rec ((i64.wrap (z.1.1+1),()),(),(),())else rec ((i64.wrap
 (z.1.1+1),()),(),(),())) N ((z.1.1,()),(),(),())else some ()) N ((i64.wrap (x+1),()),(),(),())
def As:A2 (tEvent:Ty).T→Nat→O8 [.d A0,.d A0,.c 44] (A3 (A2 (tEvent:Ty).T×Rv [])):=fun(l:A2 Bwn) (n:Nat) (x Bh:Int)=>iter (fun(rec:Bwr×Unit×Unit×A2 Bwn×Unit→A3 (List
 Bwn×Unit)) (z:Bwr×Unit×Unit×A2 Bwn×Unit)=>bif decide (z.1.1<Bh)then iter (fun(rec_1:Bwr×Unit×Unit×A2 Bwn×Unit→A3 (A2 Bwn×Unit)) (Ea:Bwr×Unit×Unit×A2 Bwn×Unit)=>bif decide (x<Ea.1.1)then bif decide
 (0≤Ea.1.1)&&decide (Ea.1.1<(↑n:Int))then Ea.2.2.2.1[0+Ea.1.1.toNat]?.bind fun(e:Bwo×UInt8×Int×UInt8×A2 UInt8×A2 Bwo)=>bif decide (0≤i64.wrap (Ea.1.1-1))&&decide (i64.wrap (Ea.1.1-1)<(↑n:Int))then
 Ea.2.2.2.1[0+(i64.wrap (Ea.1.1-1)).toNat]?.bind fun(Mn:Bwo×UInt8×Int×UInt8×A2 UInt8×A2 Bwo)=>Option.bind (Ri N e Mn) fun(y:Int)=>bif decide (y<0)then bif decide (0≤i64.wrap (Ea.1.1-1))&&decide
 (i64.wrap (Ea.1.1-1)<(↑n:Int))then Ea.2.2.2.1[0+(i64.wrap (Ea.1.1-1)).toNat]?.bind fun(e:Bwo×UInt8×Int×UInt8×A2 UInt8×A2 Bwo)=>bif decide (0≤Ea.1.1)&&decide (Ea.1.1<(↑n:Int))then
 Ea.2.2.2.1[0+Ea.1.1.toNat]?.bind fun(e_2:Bwo×UInt8×Int×UInt8×A2 UInt8×A2 Bwo)=>bif decide (0≤Ea.1.1)&&decide (Ea.1.1<(↑n:Int))then Ea.2.2.2.1[0+Ea.1.1.toNat]?.bind fun(e_3:Bwo×UInt8×Int×UInt8×A2 UInt8×List
 Bwo)=>bif decide (0≤i64.wrap (Ea.1.1-1))&&decide (i64.wrap (Ea.1.1-1)<(↑n:Int))then (Ea.2.2.2.1.set (0+Ea.1.1.toNat) e)[0+(i64.wrap (Ea.1.1-1)).toNat]?.bind fun(e_4:Bwo×UInt8×Int×UInt8×List
 UInt8×A2 Bwo)=>rec_1 ((i64.wrap (Ea.1.1-1),()),(),(),(Ea.2.2.2.1.set (0+Ea.1.1.toNat) e).set (0+(i64.wrap (Ea.1.1-1)).toNat) e_2,())else none else none else none else none else rec ((i64.wrap
 (z.1.1+1),()),(),(),Ea.2.2.2.1,())else none else none else rec ((i64.wrap (z.1.1+1),()),(),(),Ea.2.2.2.1,())) N ((z.1.1,()),(),(),z.2.2.2.1,())else some (z.2.2.2.1,())) N ((i64.wrap (x+1),()),(),(),l,())
def Pg:=B40 [Ja N] [] N 127 (A1 (.blk (.loop ⟨[(8,.d A0)],[],[0,1,2,3],[],[],[(1,.arr tEvent)]⟩ (A1 (.seq (.blk (A1 (.blk (.loop ⟨[(9,.d A0)],[],[0,1,2,3,8],[],[],[(1,.arr tEvent)]⟩ .lf)))) .lf))))) (A1 (.blk (.loop ⟨[(8,.d A0)],[],[0,1,2,3],[],[],[]⟩ (A1 (.seq (.blk (A1 (.blk (.loop ⟨[(9,.d A0)],[],[0,1,2,3,8],[],[],[]⟩ .lf)))) .lf))))) tEvent [.d A0,.d A0,.c 44] [] (As N) (Bl N) mixed func127 rfl (by decide) rfl (by kernel_rfl) (by kernel_rfl)
def Sp(N:Nat):Ft prog:=mkNone 128
def E8:O8 [.d A0,.c 44] (A3 (Al (Wu tEvent []))):=fun(x:Int)=>iter (fun(rec:Bwt×Unit×Unit×Unit→A3 Unit) (z:Bwt×Unit×Unit×Unit)=>bif decide (z.1.2.1≤x)then Option.bind (Bl N z.1.1
 z.1.2.1) fun(y:Unit)=>rec ((z.1.2.1,i64.wrap (z.1.2.1+20),()),(),(),())else Option.bind (Bl N z.1.1 x) fun(y:Unit)=>iter (fun(rec:Bwr×Unit×Unit×Unit→A3 Unit) (z:Bwr×Unit×Unit×Unit)=>bif decide (z.1.1<x)then
 iter (fun(rec_1:Bwt×Unit×Unit×Unit→A3 Unit) (Ea:Bwt×Unit×Unit×Unit)=>bif decide (Ea.1.2.1≤x)then none else bif decide (i64.wrap (Ea.1.1+z.1.1)<x)then none else rec ((i64.wrap (z.1.1*2),()),(),(),()))
 N ((0,i64.wrap (2*z.1.1),()),(),(),())else some ()) N ((20,()),(),(),())) N ((0,20,()),(),(),())
def Ei:A2 (tEvent:Ty).T→Nat→O8 [.d A0,.c 44] (A3 (A2 (tEvent:Ty).T×Rv [])):=fun(l:A2 Bwn) (n:Nat) (x:Int)=>iter (fun(rec:Bwt×Unit×Unit×A2 Bwn×Unit→A3 (A2 Bwn×Unit))
 (z:Bwt×Unit×Unit×A2 Bwn×Unit)=>bif decide (z.1.2.1≤x)then Option.bind (As N z.2.2.2.1 n z.1.1 z.1.2.1) fun(y:A2 Bwn×Unit)=>rec ((z.1.2.1,i64.wrap (z.1.2.1+20),()),(),(),y.1,())else Option.bind (As N
 z.2.2.2.1 n z.1.1 x) fun(y:A2 Bwn×Unit)=>iter (fun(rec:Bwr×Unit×Unit×A2 Bwn×Unit→A3 (A2 Bwn×Unit)) (z:Bwr×Unit×Unit×A2 Bwn×Unit)=>bif decide (z.1.1<x)then iter (fun(rec_1:Bwt×Unit×Unit×A2 Bwn×Unit→Option
 (A2 Bwn×Unit)) (Ea:Bwt×Unit×Unit×A2 Bwn×Unit)=>bif decide (Ea.1.2.1≤x)then none else bif decide (i64.wrap (Ea.1.1+z.1.1)<x)then none else rec ((i64.wrap (z.1.1*2),()),(),(),Ea.2.2.2.1,())) N
 ((0,i64.wrap (2*z.1.1),()),(),(),z.2.2.2.1,())else some (z.2.2.2.1,())) N ((20,()),(),(),y.1,())) N ((0,20,()),(),(),l,())
def Uk:=B40 [Pg N,Sp N,Ja N] [] N 94 (A1 (A1 (.seq (.blk (.loop ⟨[(7,.d A0),(8,.d A0)],[],[0,1,2,6],[],[],[(1,.arr tEvent)]⟩ .lf)) (A1 (.blk (.loop ⟨[(6,.d A0)],[],[0,1,2],[],[],[(1,.arr tEvent)]⟩ (A1 (.blk (A1 (.seq (.blk (.loop ⟨[(7,.d A0),(8,.d A0)],[],[0,1,2,6],[],[],[(1,.arr tEvent)]⟩ .lf)) .lf)))))))))) (A1 (A1 (.seq (.blk (.loop ⟨[(7,.d A0),(8,.d A0)],[],[0,1,2,6],[],[],[]⟩ .lf)) (A1 (.blk (.loop ⟨[(6,.d A0)],[],[0,1,2],[],[],[]⟩ (A1 (.blk (A1 (.seq (.blk (.loop ⟨[(7,.d A0),(8,.d A0)],[],[0,1,2,6],[],[],[]⟩ .lf)) .lf)))))))))) tEvent [.d A0,.c 44] [] (Ei N) (E8 N) mixed func94 rfl (by decide) rfl (by kernel_rfl) (by kernel_rfl)
def C6:O8 [.c 44] (A3 (Al (Wu tEvent []))):=Option.bind (E8 N 0) fun(y:Unit)=>some ()
def C9:A2 (tEvent:Ty).T→Nat→O8 [.c 44] (A3 (A2 (tEvent:Ty).T×Rv [])):=fun(l:A2 Bwn) (n:Nat)=>Option.bind (Ei N l n (↑n:Int)) fun(y:A2 Bwn×Unit)=>some (y.1,())
def Bm:=B40 [Ja N,Uk N] [] N 43 .lf .lf tEvent [.c 44] [] (C9 N) (C6 N) mixed func43 rfl (by decide) rfl (by kernel_rfl) (by kernel_rfl)
open Go.RowKit Go.Shelf
set_option maxHeartbeats 2000000 in
def B1o(b n:Nat)(arr:Array Value)(T:TypeId)(w:World)(hb:w.heap[b]? = some (.cells arr T (0,0)))(h1:arr[1]? = some (.slice none 0 0))(hn:n≤140737488355328) :
  Calls prog 145 #[.pointer (some ⟨b,0,none⟩),.int .i64 n] w fun e w'=>e = .returned (.tuple #[])∧∃cs:Array Value,n≤cs.size ∧
   w'=((w.setCell ⟨b,1,none⟩ (.slice (some ⟨w.heap.size,0,none⟩) 0 cs.size)).alloc (.cells cs 5)).drew.drew.drew:=by
 have Bg:b<w.heap.size:=by
  rcases Brq b w.heap.size with h'|h'
  ·exact h'
  ·simp[Bs8 h']at hb
 obtain⟨cs,Cg,hle,Bok⟩:=Lib.run_makeNoZero (P:=prog) w.drew #[3] 97 5 underlying97 n (by omega);have hw:i64.wrap (i64.wrap 0+(n:Int))=n:=by rw[IntKind.wrap_i64,IntKind.wrap_i64];omega
 have Us:(callFunc 168 #[.int .i64 (i64.wrap (i64.wrap 0+(n:Int)))]).run prog w.drew = .ok (.value (.slice (some ⟨w.drew.heap.size,0,none⟩) n cs.size)) (w.drew.drew.drew.alloc (.cells cs 5)):=by rw[hw,run_callFunc_extern func168 (by kernel_rfl) (by kernel_rfl) (by kernel_rfl) (e:=Extern.BytealgMakeNoZero.makeNoZero #[3] #[97]) (by kernel_rfl),Cg];rfl
 have c1:w.drew.cell? ⟨b,1,none⟩=some (.slice none 0 0):=by have:w.drew.heap[b]? = _:=hb;rw[Bvq this];exact h1
 have ha:∀W:World,(W.alloc (.cells cs 5)).heap[b]? = some (.cells arr T (0,0))→(W.alloc (.cells cs 5)).cell? ⟨b,1,none⟩=some (.slice none 0 0)∧(W.alloc (.cells cs 5)).frozen? ⟨b,1,none⟩=false:=fun W h=>⟨by rw[Bvq h];exact h1,Lib.frozen_of_heap h 1⟩
 obtain⟨c2,f2⟩:=ha w ((Lib.alloc_old w _ b Bg).trans hb);have Bo5:∀W:World,(Builtin.copy_ #[97,97] 3 #[.slice (some ⟨w.heap.size,0,none⟩) 0 cs.size,.slice none 0 0]).run prog W = .ok (goInt 0) W :=
  fun W=>run_copy_none W 97 97 3 5 _ _ 0 cs.size 0 0 underlying97 (by kernel_rfl) rfl
 clear hw;have mixed:=mixed
 go_enter func145,ntmps145
 go_wp2
 go_region_o
 all_goals (go_wp2;go_end0;exact⟨rfl,cs,hle,rfl⟩)
abbrev SM:A2 UInt8:=[48,48,48,49,48,50,48,51,48,52,48,53,48,54,48,55,48,56,48,57,49,48,49,49,49,50,49,51,49,52,49,53,49,54,49,55,49,56,49,57,50,48,50,49,50,50,50,51,50,52,50,53,50,54,50,55,50,56,50,57,51,48,51,49,51,50,51,51,51,52,51,53,51,54,51,55,51,56,51,57,52,48,52,49,52,50,52,51,52,52,52,53,52,54,52,55,52,56,52,57,53,48,53,49,53,50,53,51,53,52,53,53,53,54,53,55,53,56,53,57,54,48,54,49,54,50,54,51,54,52,54,53,54,54,54,55,54,56,54,57,55,48,55,49,55,50,55,51,55,52,55,53,55,54,55,55,55,56,55,57,56,48,56,49,56,50,56,51,56,52,56,53,56,54,56,55,56,56,56,57,57,48,57,49,57,50,57,51,57,52,57,53,57,54,57,55,57,56,57,57]
def prB{R:Type}(o n:Nat)(j k x:Int)(m:A2 UInt8)(K:A2 UInt8→A3 R):A3 R :=
 (at? SM (IntKind.u32.wrap (IntKind.u32.wrap (x*2)+1))).bind fun(c:UInt8) =>
  (at? SM (IntKind.u32.wrap (x*2))).bind fun(d:UInt8) =>
   bif decide (0≤j)&&decide (j<(n:Int)) then
    m[o+j.toNat]?.bind fun(_:UInt8) =>
     bif decide (0≤k)&&decide (k<(n:Int))then (m.set (o+j.toNat) c)[o+k.toNat]?.bind fun(_:UInt8)=>K ((m.set (o+j.toNat) c).set (o+k.toNat) d)
     else none
   else none
abbrev IdB(i d:Int):Int:=i64.wrap (i-d)
def tB3{R:Type}(o n:Nat)(i v:Int)(m:A2 UInt8)(K:A2 UInt8→R)(z:A3 R):A3 R :=
 bif decide (0<i) then
  bif decide (0<(n:Int))then m[o]?.bind fun(_:UInt8)=>some (K (m.set o (Wn (IntKind.u8.wrap (IntKind.u32.wrap (48+v))))))else none
 else z
def Qk(N:Nat):Ft prog:=Bey 148 ⟨_,rfl,rfl,rfl,by kernel_rfl,by kernel_rfl⟩
@[reducible] def Gm:Dr:=⟨[.p 1 0],[(1,[.Px (some true),.Px none],some 99)],[],⟨[],[(1,[.p 1 0,.Px none],some 99)],[],[],[],[]⟩⟩
def Gn(N:Nat):Dr.Bb Gm (A3 Gm.out.T):=some ((),(((),(),()),()),(),())
def U0:=H8 [Qk N] [] N 108 .lf Gm (Gn N) mixed func108 rfl (by decide) rfl rfl rfl (by kernel_rfl)
def A24(N:Nat):Ft prog:=Biz (.mk' func145 rfl (by decide)) (fun b n arr T w=>B1o b n arr T w)
@[reducible] def Ji:Dr:=⟨[.p 1 0,.d A0],[(1,[.Px (some true),.Px none],some 99)],[],⟨[],[(1,[.z 1 0,.Be 350001 .u8 (some 5)],some 99)],[],[],[],[]⟩⟩
def Gf:Dr.Bb Ji (A3 Ji.out.T):=fun(y:Int)=>Option.bind (Gn N) fun(Dv:Unit×((Unit×Unit×Unit)×Unit)×Unit×Unit)=>Bn (fun(z:Unit×Unit×Unit×Unit)=>bif decide (0<y)then bif decide (0≤y)then bif decide
 (y≤140737488355328)then some ((),((false,[],()),()),(),())else none else none else some ((),((false,[],()),()),(),())) fun(k:Unit×Unit×Unit×Unit→A3 (Unit×Bws×Unit×Unit))=>bif decide (y<0)then none else k
 ((),(),(),())
def Zn:=H8 [U0 N,A24 N] [] N 101 (A1 (.join ⟨[],[],[0,1],[1],[],[]⟩ .lf .lf)) Ji (Gf N) mixed func101 rfl (by decide) rfl rfl rfl (by kernel_rfl)
@[reducible] def Hp:Dr:=⟨[.p 1 0],[(1,[.z 1 0,.Be 300001 .u8 (some 5)],some 99)],[],⟨[],[(1,[.z 1 0,.Be 350001 .u8 (some 5)],some 99)],[],[],[],[]⟩⟩
def D3(N:Nat):Dr.Bb Hp (A3 Hp.out.T):=fun(b:Bool) (l:Bwy)=>bif bif false then !b else b then some ((),((false,l,()),()),(),())else bif b then none else some ((),((b,l,()),()),(),())
def Md:=H8 [Qk N] [] N 108 .lf Hp (D3 N) mixed func108 rfl (by decide) rfl rfl rfl (by kernel_rfl)
@[reducible] def Gp:Dr:=⟨[.p 1 0,.d .str],[(1,[.z 1 0,.Be 300001 .u8 (some 5)],some 99)],[],⟨[(4,.d A0),(5,.d .err)],[(1,[.z 1 0,.Be 350001 .u8 (some 5)],some 99)],[],[],[],[]⟩⟩
def Bc:Dr.Bb Gp (A3 Gp.out.T):=fun(y:Bwy) (b:Bool) (l:Bwy)=>Option.bind (D3 N b l) fun(Dv:Unit×Bws×Unit×Unit)=>bif Ao (Dv.2.1.1.2.1.length+y.length) 1 then some
 (((↑y.length:Int),false,()),((Dv.2.1.1.1,Dv.2.1.1.2.1++y,()),()),(),())else none
def Km:=H8 [Md N] [] N 61 .lf Gp (Bc N) mixed func61 rfl (by decide) rfl rfl rfl (by kernel_rfl)
@[reducible] def Jj:Dr:=⟨[.p 1 0],[(1,[.z 1 0,.Be 300001 .u8 (some 5)],some 99)],[],⟨[(2,.d .str)],[(1,[.z 1 0,.d (.sl .u8)],some 99)],[],[],[],[]⟩⟩
def Cv(N:Nat):Dr.Bb Jj (A3 Jj.out.T):=fun(b:Bool) (l:Bwy)=>Dd l (bif (↑l.length:Int)==0 then some (([],()),((b,l,()),()),(),())else none) fun(a:UInt8) (r:Bwy)=>bif
 (↑l.length:Int)==(↑(a::r).length:Int)then bif decide ((a::r).length≤9223372036854775807)then some ((a::r,()),((b,l,()),()),(),())else none else none
def Jk:=H8 [] [] N 63 .lf Jj (Cv N) mixed func63 rfl (by decide) rfl rfl rfl (by kernel_rfl)
@[reducible] def Sq:Dr:=⟨[.os 1 .str,.d .str],[],[(1,.arr .str)],⟨[(4,.d .str)],[],[],[1],[],[]⟩⟩
abbrev JnR:Type:=(A2 UInt8×Unit)×Unit×Unit×Unit
def jnL(N n:Nat)(y:A2 UInt8)(l:A2 (A2 UInt8))(s:Int):A3 JnR :=
 iter
  (fun(rec:(Int×Int×Unit)×Unit×Unit×Unit→A3 JnR) (z:(Int×Int×Unit)×Unit×Unit×Unit) =>
   bif decide (z.1.2.1<(n:Int)) then
    bif decide (0≤z.1.2.1)&&decide (z.1.2.1<(n:Int)) then
     l[0+z.1.2.1.toNat]?.bind fun(e:A2 UInt8) =>
      bif decide (i64.wrap (9223372036854775807-z.1.1)<(e.length:Int))then none
      else rec ((i64.wrap (z.1.1+(e.length:Int)),i64.wrap (z.1.2.1+1),()),(),(),())
    else none
   else
    Option.bind (Gf N z.1.1) fun q =>
     bif decide (0<(n:Int)) then
      l[0]?.bind fun(e:A2 UInt8) =>
       Option.bind (Bc N e q.2.1.1.1 q.2.1.1.2.1) fun q =>
        bif Fb 1 (n:Int) n then
         iter
          (fun(rec:(Int×Unit)×((Bool×A2 UInt8×Unit)×Unit)×Unit×Unit→A3 JnR) (z:(Int×Unit)×((Bool×A2 UInt8×Unit)×Unit)×Unit×Unit) =>
           bif decide (z.1.1<(((n:Int).toNat-1:Nat):Int)) then
            bif decide (0≤z.1.1)&&decide (z.1.1<(((n:Int).toNat-1:Nat):Int)) then
             l[1+z.1.1.toNat]?.bind fun(e:A2 UInt8) =>Option.bind (Bc N y z.2.1.1.1 z.2.1.1.2.1) fun q =>Option.bind (Bc N e q.2.1.1.1 q.2.1.1.2.1) fun q=>rec ((i64.wrap (z.1.1+1),()),((q.2.1.1.1,q.2.1.1.2.1,()),()),(),())
            else none
           else Option.bind (Cv N z.2.1.1.1 z.2.1.1.2.1) fun q=>some ((q.1.1,()),(),(),()))
          N ((0,()),((q.2.1.1.1,q.2.1.1.2.1,()),()),(),())
        else none
     else none)
  N ((s,0,()),(),(),())
def Ka:Dr.Bb Sq (A3 Sq.out.T):=fun(n:Nat) (y:Bwy) (l:A2 Bwy)=>bif (n:Int)==0 then some (([],()),(),(),())else bif (n:Int)==1 then bif decide (0<(n:Int))then l[0]?.bind fun(e:Bwy)=>some
 ((e,()),(),(),())else none else bif decide (0<(y.length:Int))then bif i64.wrap ((n:Int)-1)==0 then none else bif decide (i64.wrap (Int.tdiv 9223372036854775807 (i64.wrap
 ((n:Int)-1)))≤(y.length:Int))then none else jnL N n y l (i64.wrap (0+i64.wrap ((y.length:Int)*i64.wrap ((n:Int)-1))))else jnL N n y l 0
def Aet:=H8 [Zn N,Km N,Jk N] [] N 54 (A1 (A1 (A1 (A1 (.seq (A1 (.blk (.loop ⟨[(5,.d A0),(41,.d A0)],[],[0,1,39,40],[1],[],[]⟩ .lf))) (A1 (A1 (A1 (.seq (A1 (.blk (.loop ⟨[(65,.d A0)],[(1008,[.z 1008 0,.Be 300801 .u8 (some 5)],some 99)],[1,8,63,64],[1],[],[]⟩ .lf))) .lf))))))))) Sq (Ka N) mixed func54 rfl (by decide) rfl rfl rfl (by kernel_rfl)
def Eg(N:Nat):Bb [A0] (A3 (Al [.str])):=fun(x:Int)=>bif decide (x<10)then bif Fb x (i64.wrap (x+1)) 36 then some (List.take ((i64.wrap (x+1)).toNat-x.toNat) (List.drop x.toNat
 [48,49,50,51,52,53,54,55,56,57,97,98,99,100,101,102,103,104,105,106,107,108,109,110,111,112,113,114,115,116,117,118,119,120,121,122]))else none else bif Fb (i64.wrap (x*2)) (i64.wrap (i64.wrap
 (x*2)+2)) 200 then some (List.take ((i64.wrap (i64.wrap (x*2)+2)).toNat-(i64.wrap (x*2)).toNat) (List.drop (i64.wrap (x*2)).toNat SM))else none
def Ph:=Bs [] [] N 141 .lf [A0] [.str] (Eg N) mixed func141 rfl (by decide) rfl (by kernel_rfl)
def Me(N:Nat):Bb [(.int .u64)] (A3 (Al [A0])):=fun(x:Int)=>Bn (fun(z:Bwt×Unit×Unit×Unit)=>Bn (fun(z:Bwt×Unit×Unit×Unit)=>Bn
 (fun(z:Bwt×Unit×Unit×Unit)=>[0,1,2,2,3,3,3,3,4,4,4,4,4,4,4,4,5,5,5,5,5,5,5,5,5,5,5,5,5,5,5,5,6,6,6,6,6,6,6,6,6,6,6,6,6,6,6,6,6,6,6,6,6,6,6,6,6,6,6,6,6,6,6,6,7,7,7,7,7,7,7,7,7,7,7,7,7,7,7,7,7,7,7,7,7,7,7,7,7,7,7,7,7,7,7,7,7,7,7,7,7,7,7,7,7,7,7,7,7,7,7,7,7,7,7,7,7,7,7,7,7,7,7,7,7,7,7,7,8,8,8,8,8,8,8,8,8,8,8,8,8,8,8,8,8,8,8,8,8,8,8,8,8,8,8,8,8,8,8,8,8,8,8,8,8,8,8,8,8,8,8,8,8,8,8,8,8,8,8,8,8,8,8,8,8,8,8,8,8,8,8,8,8,8,8,8,8,8,8,8,8,8,8,8,8,8,8,8,8,8,8,8,8,8,8,8,8,8,8,8,8,8,8,8,8,8,8,8,8,8,8,8,8,8,8,8,8,8,8,8,8,8,8,8,8,8,8,8,8,8,8,8,8,8,8,8][(Wn
 (IntKind.u8.wrap z.1.1)).toNat]?.bind fun(c:UInt8)=>some (i64.wrap (z.1.2.1+(↑c.toNat:Int)))) fun(k:Bwt×Unit×Unit×Unit→A3 Int)=>bif decide (256≤z.1.1)then k ((z.1.1.fdiv 256,i64.wrap
 (z.1.2.1+8),()),(),(),())else k ((z.1.1,z.1.2.1,()),(),(),())) fun(k:Bwt×Unit×Unit×Unit→A3 Int)=>bif decide (65536≤z.1.1)then k ((z.1.1.fdiv 65536,i64.wrap (z.1.2.1+16),()),(),(),())else k
 ((z.1.1,z.1.2.1,()),(),(),())) fun(k:Bwt×Unit×Unit×Unit→A3 Int)=>bif decide (4294967296≤x)then k ((x.fdiv 4294967296,32,()),(),(),())else k ((x,0,()),(),(),())
def Acl:=Bs [] [] N 140 (A1 (.join ⟨[(0,.d (.int .u64)),(2,.d A0)],[],[],[],[],[]⟩ .lf (.join ⟨[(0,.d (.int .u64)),(2,.d A0)],[],[],[],[],[]⟩ .lf (.join ⟨[(0,.d (.int .u64)),(2,.d A0)],[],[],[],[],[]⟩ .lf .lf)))) [(.int .u64)] [A0] (Me N) mixed func140 rfl (by decide) rfl (by kernel_rfl)
def H9(N:Nat):Bb [A0] (A3 (Al [A0])):=fun(x:Int)=>some ((i64.wrap (x*78913)).fdiv 262144)
def Ul:=Bs [] [] N 164 .lf [A0] [A0] (H9 N) mixed func164 rfl (by decide) rfl (by kernel_rfl)
def Ha(N:Nat):Bb [.bool] (A3 (Al [A0])):=fun(x:Bool)=>bif x then some 1 else some 0
def Um:=Bs [] [] N 165 .lf [.bool] [A0] (Ha N) mixed func165 rfl (by decide) rfl (by kernel_rfl)
def Bu:Bb [(.int .u64),(.tab (.int .u64))] (A3 (Al [A0])):=fun(x:Int) (Bh:A2 Int)=>Option.bind (Me N x) fun(y:Int)=>Option.bind (H9 N y) fun(y:Int)=>bif Bh.length.ble 20 then (at? Bh
 y).bind fun(e:Int)=>Option.bind (Ha N (decide (e≤x))) fun(Dv:Int)=>some (i64.wrap (y+Dv))else none
def Un:Aeg prog [Acl N,Ul N,Um N] [] N f142 .lf [(.int .u64),(.tab (.int .u64))] [A0] 1 [1]=Bu N:=by kernel_rfl
def Lq:Ft prog:=A7u 142 f142 _ [(.int .u64),(.tab (.int .u64))] [A0] 1 [1] (Bu N) mixed func142 (.mk' func142 rfl (by decide)) rfl (Un N)
def tB2(n:Nat)(i v:Int)(m:A2 UInt8):A3 (A2 UInt8×Unit) :=
 bif decide (2≤i)then prB 0 n (IdB i 1) (IdB i 2) (v.tmod 100) m fun m'=>tB3 0 n (IdB i 2) (IntKind.u32.wrap (v.tdiv 100)) m' (fun m=>(m,())) (some (m',()))
 else tB3 0 n i v m (fun m=>(m,())) (some (m,()))
def tB1(n:Nat)(i v:Int)(m:A2 UInt8):A3 (A2 UInt8×Unit) :=
 bif decide (4≤i) then
  prB 0 n (IdB i 1) (IdB i 2) (((IntKind.u32.wrap v).tmod 10000).tmod 100) m fun m =>prB 0 n (IdB i 3) (IdB i 4) (IntKind.u32.wrap (((IntKind.u32.wrap v).tmod 10000).tdiv 100)) m fun m=>tB2 n (IdB i 4) (IntKind.u32.wrap ((IntKind.u32.wrap v).tdiv 10000)) m
 else tB2 n i (IntKind.u32.wrap v) m
def D9:A2 (.u8:Ty).T→Nat→O8 [.d (.int .u64)] (A3 (A2 (.u8:Ty).T×Rv [])):=fun(l:Bwy) (n:Nat) (x:Int)=>iter (fun(rec:Bwt×Unit×Unit×A2 UInt8×Unit→A3 Bx0) (z:Bwt×Unit×Unit×List
 UInt8×Unit)=>bif decide (8≤z.1.2.1)then prB 0 n (IdB z.1.2.1 1) (IdB z.1.2.1 2) (((IntKind.u32.wrap (z.1.1.tmod 100000000)).tmod 10000).tmod 100) z.2.2.2.1 fun m=>prB 0 n (IdB z.1.2.1 3) (IdB z.1.2.1 4)
 (IntKind.u32.wrap (((IntKind.u32.wrap (z.1.1.tmod 100000000)).tmod 10000).tdiv 100)) m fun m=>prB 0 n (IdB z.1.2.1 5) (IdB z.1.2.1 6) ((IntKind.u32.wrap ((IntKind.u32.wrap (z.1.1.tmod 100000000)).tdiv 10000)).tmod 100)
 m fun m=>prB 0 n (IdB z.1.2.1 7) (IdB z.1.2.1 8) (IntKind.u32.wrap ((IntKind.u32.wrap ((IntKind.u32.wrap (z.1.1.tmod 100000000)).tdiv 10000)).tdiv 100)) m fun m=>rec ((u64.wrap (z.1.1.tdiv 100000000),IdB z.1.2.1
 8,()),(),(),m,())else tB1 n z.1.2.1 z.1.1 z.2.2.2.1) N ((x,(n:Int),()),(),(),l,())
def Rx:=Bn6 [] [] N 143 (A1 (.seq (.blk (.loop ⟨[(1,.d (.int .u64)),(4,.d A0)],[],[0],[],[],[(1,.arr .u8)]⟩ .lf)) (A1 (.join ⟨[(4,.d A0),(12,.d (.int .u32))],[],[0],[],[],[(1,.arr .u8)]⟩ .lf (.join ⟨[(4,.d A0),(12,.d (.int .u32))],[],[0],[],[],[(1,.arr .u8)]⟩ .lf .lf))))) .u8 [.d (.int .u64)] [] (D9 N) mixed func143 rfl (by decide) rfl (by kernel_rfl)
def Kn(N:Nat):Ft prog:=mkNone 144
def Ci:Bb [(.int .u64),A0,(.tab (.int .u64))] (A3 (Al [.str])):=fun(x Bh:Int) (x_2:A2 Int)=>bif Bh==10 then bif decide (x<100)then Option.bind (Eg N (i64.wrap x))
 fun(y:Bwy)=>some y else Option.bind (Bu N x x_2) fun(y:Int)=>bif Fb 0 y 24 then Option.bind (D9 N (List.replicate 24 0) (y.toNat-0) x) fun(Dv:Bx0)=>bif Nat.ble 24 Dv.1.length then bif Fb 0 y 24 then bif
 (0+(y.toNat-0)).ble Dv.1.length then some (List.take (y.toNat-0) (List.drop 0 Dv.1))else none else none else none else none else none
def U1:Aeg prog [Ph N,Lq N,Rx N,Kn N] [5] N f99 .lf [(.int .u64),A0,(.tab (.int .u64))] [.str] 2 [1]=Ci N:=by kernel_rfl
def U2:Ft prog:=A7u 99 f99 _ [(.int .u64),A0,(.tab (.int .u64))] [.str] 2 [1] (Ci N) mixed func99 (.mk' func99 rfl (by decide)) rfl (U1 N)
def Dh:Bb [(.int .u64),A0,(.tab (.int .u64))] (A3 (Al [.str])):=fun(x Bh:Int) (x_2:A2 Int)=>Option.bind (Ci N x Bh x_2) fun(y:Bwy)=>some y
def A51:Aeg prog [U2 N] [] N f51 .lf [(.int .u64),A0,(.tab (.int .u64))] [.str] 2 [1]=Dh N:=by kernel_rfl
def U3:Ft prog:=A7u 51 f51 _ [(.int .u64),A0,(.tab (.int .u64))] [.str] 2 [1] (Dh N) mixed func51 (.mk' func51 rfl (by decide)) rfl (A51 N)
def Xs:Bb [Ag,(.tab (.int .u64))] (A3 (Al [.str])):=fun(x:Bwo) (Bh:A2 Int)=>Option.bind (Dh N (u64.wrap x.1) 10 Bh) fun(y:Bwy)=>bif decide (y.length+1≤4611686018427387904)then
 Option.bind (Dh N x.2 10 Bh) fun(Dv:Bwy)=>bif decide ((y++[46]).length+Dv.length≤4611686018427387904)then some (y++[46]++Dv)else none else none
def B1p:Aeg prog [U3 N] [] N f50 .lf [Ag,(.tab (.int .u64))] [.str] 1 [1]=Xs N:=by kernel_rfl
def B1q:Ft prog:=A7u 50 f50 _ [Ag,(.tab (.int .u64))] [.str] 1 [1] (Xs N) mixed func50 (.mk' func50 rfl (by decide)) rfl (B1p N)
def O5:Bb [.u8,(.tab .str)] (A3 (Al [.str])):=fun(x:UInt8) (Bh:A2 Bwy)=>Option.bind (O3 N x) fun(y:Bool)=>bif !y then some []else bif Bh.length.ble 5 then Bh[(x-1).toNat]?.bind fun(e:Bwy)=>some
 e else none
def Atz:Aeg prog [Acg N] [] N f52 .lf [.u8,(.tab .str)] [.str] 1 [0]=O5 N:=by kernel_rfl
def Au0:Ft prog:=A7u 52 f52 _ [.u8,(.tab .str)] [.str] 1 [0] (O5 N) mixed func52 (.mk' func52 rfl (by decide)) rfl (Atz N)
def Rj(N:Nat):Bb [.u8] (A3 (Al [.bool])):=fun(x:UInt8)=>bif x==34 then some true else some (x==92)
def Al2:=Bs [] [] N 100 .lf [.u8] [.bool] (Rj N) mixed func100 rfl (by decide) rfl (by kernel_rfl)
@[reducible] def Hq:Dr:=⟨[.p 1 0,.d .u8],[(1,[.z 1 0,.Be 300001 .u8 (some 5)],some 99)],[],⟨[(4,.d .err)],[(1,[.z 1 0,.Be 350001 .u8 (some 5)],some 99)],[],[],[],[]⟩⟩
def B3:Dr.Bb Hq (A3 Hq.out.T):=fun(y:UInt8) (b:Bool) (l:Bwy)=>Option.bind (D3 N b l) fun(Dv:Unit×Bws×Unit×Unit)=>bif Ao (Dv.2.1.1.2.1.length + [y].length) 1 then some
 ((false,()),((Dv.2.1.1.1,Dv.2.1.1.2.1++[y],()),()),(),())else none
def Mf:=H8 [Md N] [] N 62 .lf Hq (B3 N) mixed func62 rfl (by decide) rfl rfl rfl (by kernel_rfl)
def Tb:Bb [.str] (A3 (Al [.str])):=fun(x:Bwy)=>Bn (fun(z:(Unit×Unit)×Bws×Unit×Unit)=>Option.bind (B3 N 34 z.2.1.1.1 z.2.1.1.2.1) fun(y:Bww×Bws×Unit×Unit)=>iter (fun(rec:Bwr×Bws×Unit×Unit→Option
 Bwy) (z:Bwr×Bws×Unit×Unit)=>bif decide (z.1.1<(↑x.length:Int))then (at? x z.1.1).bind fun(c:UInt8)=>Option.bind (Rj N c) fun(y:Bool)=>bif y then Option.bind (B3 N 92 z.2.1.1.1 z.2.1.1.2.1) fun(y:Bww×Bws×Unit×Unit)=>(at?
 x z.1.1).bind fun(c:UInt8)=>Option.bind (B3 N c y.2.1.1.1 y.2.1.1.2.1) fun(y:Bww×Bws×Unit×Unit)=>rec ((i64.wrap (z.1.1+1),()),((y.2.1.1.1,y.2.1.1.2.1,()),()),(),())else (at? x z.1.1).bind
 fun(c:UInt8)=>Option.bind (B3 N c z.2.1.1.1 z.2.1.1.2.1) fun(y:Bww×Bws×Unit×Unit)=>rec ((i64.wrap (z.1.1+1),()),((y.2.1.1.1,y.2.1.1.2.1,()),()),(),())else Option.bind (B3 N 34 z.2.1.1.1 z.2.1.1.2.1)
 fun(y:Bww×Bws×Unit×Unit)=>Option.bind (Cv N y.2.1.1.1 y.2.1.1.2.1) fun(y:Bx0×Bws×Unit×Unit)=>some y.1.1) N ((0,()),((y.2.1.1.1,y.2.1.1.2.1,()),()),(),())) fun(k:(Unit×Unit)×Bws×Unit×Unit→A3 Bwy)=>k
 (((),()),((true,[],()),()),(),())
def Ann:=Bs [Al2 N,Mf N,Jk N] [] N 53 (A1 (.join ⟨[(3,.p 1003 0)],[(1003,[.z 1003 0,.Be 300301 .u8 (some 5)],some 99)],[0],[],[],[]⟩ .lf (A1 (.seq (A1 (.blk (.loop ⟨[(8,.d A0)],[(1003,[.z 1003 0,.Be 300301 .u8 (some 5)],some 99)],[0,3,7],[],[],[]⟩ .lf))) .lf)))) [.str] [.str] (Tb N) mixed func53 rfl (by decide) rfl (by kernel_rfl)
@[reducible] def F8:Dr:=⟨[.oa 1 1 .u8,.d (.int .u64)],[],[(1,.arr .u8)],⟨[],[],[],[],[],[(1,.arr .u8)]⟩⟩
def Ir:Dr.Bb F8 (A3 F8.out.T):=fun(n:Nat) (y:Int) (l:Bwy)=>iter (fun(_:Bwt×Unit×Unit×A2 UInt8×Unit→A3 (Unit×Unit×Unit×A2 UInt8×Unit)) (z:Bwt×Unit×Unit×A2 UInt8×Unit)=>bif decide
 (8≤z.1.2.1)then none else bif decide (4≤z.1.2.1)then none else bif decide (2≤z.1.2.1)then prB 1 n (IdB z.1.2.1 1) (IdB z.1.2.1 2) ((IntKind.u32.wrap z.1.1).tmod 100) z.2.2.2.1 fun m=>tB3 1 n (IdB z.1.2.1 2)
 (IntKind.u32.wrap ((IntKind.u32.wrap z.1.1).tdiv 100)) m (fun m=>((),(),(),m,())) none else none) N ((y,(n:Int),()),(),(),l,())
def Qo:=H8 [] [] N 143 (A1 (.seq (.blk (.loop ⟨[(1,.d (.int .u64)),(4,.d A0)],[],[0],[],[],[(1,.arr .u8)]⟩ (.seq (A1 (.cond .stop .lf)) .lf))) (A1 (.join ⟨[(4,.d A0),(12,.d (.int .u32))],[],[0],[],[],[(1,.arr .u8)]⟩ (A1 (.cond .stop .lf)) (.join ⟨[(4,.d A0),(12,.d (.int .u32))],[],[0],[],[],[(1,.arr .u8)]⟩ (A1 (.cond .lf .stop)) (A1 (.cond .lf .stop))))))) F8 (Ir N) mixed func143 rfl (by decide) rfl rfl rfl (by kernel_rfl)
def fiT(x u:Int)(p:A2 Int):A3 (A2 UInt8) :=
 Option.bind (Bu N u p) fun(y:Int) =>
  bif Fb 1 (i64.wrap (1+y)) 24 then
   Option.bind (Ir N ((i64.wrap (1+y)).toNat-1) u (List.replicate 24 0)) fun q =>
    bif decide (x<0) then
     q.2.2.2.1[0]?.bind fun(_:UInt8) =>
      bif Nat.ble 24 (q.2.2.2.1.set 0 45).length then
       bif Fb 0 (i64.wrap (1+y)) 24 then
        bif (0+((i64.wrap (1+y)).toNat-0)).ble (q.2.2.2.1.set 0 45).length then some (List.take ((i64.wrap (1+y)).toNat-0) (List.drop 0 (q.2.2.2.1.set 0 45)))
        else none
       else none
      else none
    else
     bif Nat.ble 24 q.2.2.2.1.length then
      bif Fb 1 (i64.wrap (1+y)) 24 then
       bif (1+((i64.wrap (1+y)).toNat-1)).ble q.2.2.2.1.length then some (List.take ((i64.wrap (1+y)).toNat-1) (List.drop 1 q.2.2.2.1))
       else none
      else none
     else none
  else none
def fiU(x:Int)(p:A2 Int):A3 (A2 UInt8) :=
 bif decide (x<0)then fiT N x (u64.wrap (0-u64.wrap x)) p else fiT N x (u64.wrap x) p
def Hb:Bb [A0,A0,(.tab (.int .u64))] (A3 (Al [.str])):=fun(x b:Int) (p:A2 Int)=>bif b==10 then bif decide (0≤x)then bif decide (x<100)then Option.bind (Eg N x)
 fun(y:Bwy)=>some y else fiU N x p else fiU N x p else none
def Uo:Aeg prog [Qo N,Ph N,Lq N,Kn N] [5] N f146 (A1 (.seq (A1 (.cond (A1 (A1 (A1 (.join ⟨[(6,.d (.int .u64))],[],[0,5,1000001],[1005],[],[]⟩ .lf .lf)))) .lf)) .lf)) [A0,A0,(.tab (.int .u64))] [.str] 2 [1]=Hb N:=by kernel_rfl
def Up:Ft prog:=A7u 146 f146 _ [A0,A0,(.tab (.int .u64))] [.str] 2 [1] (Hb N) mixed func146 (.mk' func146 rfl (by decide)) rfl (Uo N)
def Kb:Bb [A0,(.tab (.int .u64))] (A3 (Al [.str])):=fun(x:Int) (Bh:A2 Int)=>Option.bind (Hb N x 10 Bh) fun(y:Bwy)=>some y
def A0r:Aeg prog [Up N] [] N f102 .lf [A0,(.tab (.int .u64))] [.str] 1 [1]=Kb N:=by kernel_rfl
def A0s:Ft prog:=A7u 102 f102 _ [A0,(.tab (.int .u64))] [.str] 1 [1] (Kb N) mixed func102 (.mk' func102 rfl (by decide)) rfl (A0r N)
def Kc:Bb [A0,(.tab (.int .u64))] (A3 (Al [.str])):=fun(x:Int) (Bh:A2 Int)=>Option.bind (Kb N x Bh) fun(y:Bwy)=>some y
def Al3:Aeg prog [A0s N] [] N f55 .lf [A0,(.tab (.int .u64))] [.str] 1 [1]=Kc N:=by kernel_rfl
def Al4:Ft prog:=A7u 55 f55 _ [A0,(.tab (.int .u64))] [.str] 1 [1] (Kc N) mixed func55 (.mk' func55 rfl (by decide)) rfl (Al3 N)
def L8:Bb [tEvent,(.tab .str),(.tab (.int .u64))] (A3 (Al [.str])):=fun(x:Bwo×UInt8×Int×UInt8×A2 UInt8×A2 Bwo) (Bh:A2 Bwy) (x_2:A2 Int)=>Option.bind (O4 N x) fun(y:Bool)=>bif !y then some
 []else Option.bind (Xs N x.1 x_2) fun(y:Bwy)=>Option.bind (Dh N x.2.2.1 10 x_2) fun(Dv:Bwy)=>Bn (fun(z:Unit×Unit×(A3 (A2 Bwy×Nat)×Unit)×Unit)=>A6 z.2.2.1.1 (Option.bind (Kc N (↑x.2.2.2.2.2.length:Int) x_2)
 fun(y:Bwy)=>Option.bind (Ka N [y].length [32] [y]) fun(y:Bx0×Unit×Unit×Unit)=>some y.1.1) fun(y:A2 Bwy×Nat)=>Option.bind (Kc N (↑x.2.2.2.2.2.length:Int) x_2) fun(y_2:Bwy)=>bif y.1.length.beq y.2 then bif Ao (y.2 +
 [y_2].length) 16 then Option.bind (Ka N (y.2 + [y_2].length) [32] (y.1++[y_2])) fun(y:Bx0×Unit×Unit×Unit)=>some y.1.1 else none else none) fun(k:Unit×Unit×(A3 (A2 Bwy×Nat)×Unit)×Unit→A3 Bwy)=>bif x.2.1==1 then
 Option.bind (O5 N x.2.2.2.1 Bh) fun(y_2:Bwy)=>Option.bind (Tb N x.2.2.2.2.1) fun(S1:Bwy)=>k ((),(),(some ([y,[100,101,108,101,116,101],Dv].set 1 [101,100,105,116]++[y_2,S1],3 + [y_2,S1].length),()),())else k
 ((),(),(some ([y,[100,101,108,101,116,101],Dv],3),()),())
def Au1:Aeg prog [Aet N,Ach N,B1q N,U3 N,Au0 N,Ann N,Al4 N] [13,27,34] N f19 (A1 (A1 (A1 (.join ⟨[],[],[1,1000000,1000001],[1001],[(3,400003,.str)],[]⟩ .lf .lf)))) [tEvent,(.tab .str),(.tab (.int .u64))] [.str] 1 [0,1]=L8 N:=by kernel_rfl
def A25:Ft prog:=A7u 19 f19 _ [tEvent,(.tab .str),(.tab (.int .u64))] [.str] 1 [0,1] (L8 N) mixed func19 (.mk' func19 rfl (by decide)) rfl (Au1 N)
def B4p(c:CtX)(lv tb:Tw):A3 LiR:=A4s lv tb (Nb N c) (N9 N c) (N7 N c) (N5 N c)
def Bc6(c:CtX)(lv tb:Tw):A3 LiR:=A4s lv tb (M5 N c) (M3 N c) (M0 N c) (Ly N c)
def Bfd(c:CtX)(lv tb:Tw):A3 LiR:=A4s lv tb (Ot N c) (Oo N c) (Om N c) (Oj N c)
def trO{R:Type}(y:Unit×Unit×(OwE×Unit)×Unit)(k:List tEvent.T→A3 R):A3 R :=
 A6 y.2.2.1.1 (Option.bind (C6 N) fun(_:Unit)=>k []) fun y =>Option.bind (C9 N y.1 y.2) fun(q:List tEvent.T×Unit)=>bif bif (0+y.2).ble q.1.length then true else false then k (List.take y.2 (List.drop 0 q.1))else none
theorem A52{σ R:Type}{f:(σ→A3 R)→σ→A3 R}(Q:R→Prop)(h:∀(rec:σ→A3 R) (z:σ) (r:R),(∀z' r',rec z'=some r'→Q r')→f rec z=some r→Q r):∀(N:Nat) (z:σ) (r:R),iter f N z=some r→Q r
 |0,_,_,e=>by cases e
 |N+1,z,r,e=>h _ z r (fun z' r'=>A52 Q h N z' r') e
def cnd{R:Type}{c:Bool}{a:A3 R}{r:R}(h:(bif c then a else none)=some r):a=some r:=by cases c<;>first|exact h|cases h
def Tc{R:Type}(x:BkC)(f:Tw→Tw→R):four x f=f x.2.1 x.2.2.1:=by obtain⟨c,lv,tb,u⟩:=x;cases lv<;>cases tb<;>rfl
def bnd{α R:Type}{x:A3 α}{k:α→A3 R}{r:R}(h:Option.bind x k=some r):∃y,k y=some r:=by
 cases x with
 |none=>cases h
 |some y=>exact⟨y,h⟩
@[reducible] def Xt:Dr:=⟨[.p 1 0,.d (.int .u64)],[(1,[.d (.sl Ak),.p 2 777777777,.p 3 777777777],some 73)],[(2,.map Ag tEvent),(3,.map Ag tEvent)],⟨[(4,.d (.sl tEvent))],[],[],[1,2,3],[],[]⟩⟩
def Xu:Dr.Bb Xt (A3 Xt.out.T):=fun(w:Int) (c:CtX) (a b:Jh)=>Option.bind (L4 N w c a b) fun y=>trO N y fun l=>some ((l,()),(),(),())
def Al5:=H8 [Bm N,Ja N,Ie N] [] N 13 (A1 (A1 (.fz [5] .lf .lf))) Xt (Xu N) mixed func13 rfl (by decide) rfl rfl rfl (by kernel_rfl)
@[reducible] def Xv:Dr:=⟨[.p 1 0,.d (.int .u64)],[(1,[.d (.sl Ak),.p 2 777777777,.Nw],some 73)],[(2,.map Ag tEvent)],⟨[(4,.d (.sl tEvent))],[],[],[1,2],[],[]⟩⟩
def Xw:Dr.Bb Xv (A3 Xv.out.T):=fun(w:Int) (c:CtX) (a:Jh)=>Option.bind (L5 N w c a) fun y=>trO N y fun l=>some ((l,()),(),(),())
def Al6:=H8 [Bm N,Ja N,Ie N] [] N 13 (A1 (A1 (.fz [5] .lf .lf))) Xv (Xw N) mixed func13 rfl (by decide) rfl rfl rfl (by kernel_rfl)
@[reducible] def Xx:Dr:=⟨[.p 1 0,.d (.int .u64)],[(1,[.d (.sl Ak),.Nw,.p 3 777777777],some 73)],[(3,.map Ag tEvent)],⟨[(4,.d (.sl tEvent))],[],[],[1,3],[],[]⟩⟩
def Xy:Dr.Bb Xx (A3 Xx.out.T):=fun(w:Int) (c:CtX) (b:Jh)=>Option.bind (L6 N w c b) fun y=>trO N y fun l=>some ((l,()),(),(),())
def Al7:=H8 [Bm N,Ja N,Ie N] [] N 13 (A1 (A1 (.fz [5] .lf .lf))) Xx (Xy N) mixed func13 rfl (by decide) rfl rfl rfl (by kernel_rfl)
@[reducible] def Xz:Dr:=⟨[.p 1 0,.d (.int .u64)],[(1,[.d (.sl Ak),.Nw,.Nw],some 73)],[],⟨[(4,.d (.sl tEvent))],[],[],[1],[],[]⟩⟩
def Y0:Dr.Bb Xz (A3 Xz.out.T):=fun(w:Int) (c:CtX)=>Option.bind (L7 N w c ) fun y=>trO N y fun l=>some ((l,()),(),(),())
def Al8:=H8 [Bm N,Ja N,Ie N] [] N 13 (A1 (A1 (.fz [5] .lf .lf))) Xz (Y0 N) mixed func13 rfl (by decide) rfl rfl rfl (by kernel_rfl)
def Ah3:Ft prog:=Ho 13 (Ff 1) (Ho 13 (Ff 2) (Al8 N) (Al7 N) rfl rfl) (Ho 13 (Ff 2) (Al6 N) (Al5 N) rfl rfl) rfl rfl
@[reducible] def A26:ASp:=⟨[.p 0 0,.d (.int .u64)],[(0,Sh1,some 73)],[.d (.sl tEvent)]⟩
def ofO(w:Int)(c:CtX)(lv tb:Tw):A3 (Unit×Unit×(OwE×Unit)×Unit):=A4s lv tb (L7 N w c) (L6 N w c) (L5 N w c) (L4 N w c)
def Qb:ASp.Bb A26:=fun(w:Int) (x:BkC)=>four x fun lv tb=>Option.bind (ofO N w x.1 lv tb) fun y=>trO N y fun l=>some (((x.1,lv,tb,()),()),l,())
def B1r:An9 prog [Bm N,Ja N,Ie N] [] N f13 (fun _=>.lf) A26=Qb N:=by kernel_rfl
def Bfe{R:Type}{N:Nat}{y:Unit×Unit×(OwE×Unit)×Unit}{k:List tEvent.T→A3 R}{r:R}(h:trO N y k=some r):∃l,k l=some r:=by
 unfold trO at h;generalize y.2.2.1.1=o at h;cases o with
 |none=>obtain⟨_,h⟩:=bnd h;exact⟨_,h⟩
 |some o=>obtain⟨_,h⟩:=bnd h;exact⟨_,cnd h⟩
def B1s:Akd A26 (Qb N):=by intro w x y h;unfold Qb at h;rw[Tc]at h;obtain⟨_,h⟩:=bnd h;obtain⟨_,h⟩:=Bfe h;have h:=Brf h;subst h;rfl
def B1t:Ft prog:=mkL 13 f13 _ A26 (Qb N) mixed func13 (.mk' func13 rfl (by decide)) rfl rfl (B1r N) (B1s N)
@[reducible] def Rk:ASp:=⟨[.p 0 0],[(0,Sh1,some 73)],[.d (.sl Ag)]⟩
abbrev MkM:Type:=A2 (Nat×Int×Int)×Nat
abbrev OwD:Type:=A3 (A2 (Int×Int)×Nat)
def B1u{R:Type}(k:A2 (Int×Int)→R):OwD→A3 R:=fun o =>
 A6 o (some (k [])) fun y =>
  bif y.2.ble y.1.length then
   bif y.2.ble 4611686018427387903 then
    bif A9g (List.take y.2 y.1) then
     bif bif (0+y.2).ble (Ra (List.take y.2 y.1)++List.drop y.2 y.1).length then true else false then
      some (k (List.take y.2 (List.drop 0 (Ra (List.take y.2 y.1)++List.drop y.2 y.1))))
     else none
    else none
   else none
  else none
def lpD{R:Type}(N:Nat)(l:MkM)(k:OwD→A3 R):A3 R :=
 iter (fun(rec:Unit×Unit×(OwD×Unit)×(Nat×A2 Nat×Nat)×Unit→A3 R) (z:Unit×Unit×(OwD×Unit)×(Nat×A2 Nat×Nat)×Unit) =>
  A6 z.2.2.1.1
   (bif A6w z.2.2.2.1.1 z.2.2.2.1.2.2 l.1 then
    Wq (Cb z.2.2.2.1.2.1 l.1) (k none) fun(e:Nat×Int×Int) =>
     bif l.2.beq l.2 then
      A6 (P5 (z.2.2.2.1.2.1++[e.1])) none fun(p:A2 Nat×Nat) =>A6 (A1v (Ty.int u16) (Ty.int u64) p.2 l.1) none fun(Mn:Nat×Int×Int) =>rec ((),(),(some ([Mn.2],[Mn.2].length),()),(z.2.2.2.1.1,z.2.2.2.1.2.1++[e.1],l.2),())
     else none
   else none)
   fun(y:A2 (Int×Int)×Nat) =>
   bif A6w z.2.2.2.1.1 z.2.2.2.1.2.2 l.1 then
    Wq (Cb z.2.2.2.1.2.1 l.1) (k (some y)) fun(e:Nat×Int×Int) =>
     bif l.2.beq l.2 then
      A6 (P5 (z.2.2.2.1.2.1++[e.1])) none fun(p:A2 Nat×Nat) =>
       A6 (A1v (Ty.int u16) (Ty.int u64) p.2 l.1) none fun(Mn:Nat×Int×Int) =>
        bif y.1.length.beq y.2 then
         bif Ao (y.2 + [Mn.2].length) 16 then rec ((),(),(some (y.1++[Mn.2],y.2 + [Mn.2].length),()),(z.2.2.2.1.1,z.2.2.2.1.2.1++[e.1],l.2),())
         else none
        else none
     else none
   else none)
  N ((),(),(none,()),(l.2,[],l.2),())
def lpM{R:Type}(N:Nat)(L:List tEvent.T)(k:MkM→A3 R):A3 R :=
 iter (fun(rec:(Int×Unit)×Unit×Unit×MkM×Unit→A3 R) (z:(Int×Unit)×Unit×Unit×MkM×Unit) =>
  bif decide (z.1.1<(L.length:Int)) then
   (at? L z.1.1).bind fun(e:tEvent.T) =>
    rec ((i64.wrap (z.1.1+1),()),(),(),
     (B3h (Ty.int u16) (Ty.int u64) e.1.1 (u64.wrap ((B3g (Ty.int u16) (Ty.int u64) e.1.1 z.2.2.2.1.1).getD 0+1)) z.2.2.2.1.2 z.2.2.2.1.1,
      Awg (Ty.int u16) (Ty.int u64) e.1.1 z.2.2.2.1.1 z.2.2.2.1.2),())
  else k z.2.2.2.1)
  N ((0,()),(),(),([],0),())
def Gq:ASp.Bb Rk:=fun(x:BkC)=>four x fun lv tb=>Option.bind (B4p N x.1 lv tb) fun y=>lpM N y.1.1 fun m=>lpD N m (B1u fun l=>(((x.1,lv,tb,()),()),l,()))
def Al9:An9 prog [W4 N,Yd N,Tz N] [36] N f17 (fun ns=>(cond (inl 101 ns) (cond (inl 102 ns) (A1 (A1 (.seq (A1 (.blk (.loop ⟨[(13,.d A0)],[],[3,11,12],[0,101,102],[],[(1009,.map (.int .u16) (.int .u64))]⟩ .lf))) (A1 (.seq (A1 (.blk (.loop ⟨[],[],[25],[0,101,102,1009],[(6,400006,Ag)],[(1025,.Jo 1009)]⟩ .lf))) (.fz [6] .lf .lf)))))) (A1 (A1 (.seq (A1 (.blk (.loop ⟨[(13,.d A0)],[],[3,11,12],[0,101],[],[(1009,.map (.int .u16) (.int .u64))]⟩ .lf))) (A1 (.seq (A1 (.blk (.loop ⟨[],[],[25],[0,101,1009],[(6,400006,Ag)],[(1025,.Jo 1009)]⟩ .lf))) (.fz [6] .lf .lf))))))) (cond (inl 102 ns) (A1 (A1 (.seq (A1 (.blk (.loop ⟨[(13,.d A0)],[],[3,11,12],[0,102],[],[(1009,.map (.int .u16) (.int .u64))]⟩ .lf))) (A1 (.seq (A1 (.blk (.loop ⟨[],[],[25],[0,102,1009],[(6,400006,Ag)],[(1025,.Jo 1009)]⟩ .lf))) (.fz [6] .lf .lf)))))) (A1 (A1 (.seq (A1 (.blk (.loop ⟨[(13,.d A0)],[],[3,11,12],[0],[],[(1009,.map (.int .u16) (.int .u64))]⟩ .lf))) (A1 (.seq (A1 (.blk (.loop ⟨[],[],[25],[0,1009],[(6,400006,Ag)],[(1025,.Jo 1009)]⟩ .lf))) (.fz [6] .lf .lf))))))))) Rk=Gq N:=by kernel_rfl
def Bc7{R:Type}{k:A2 (Int×Int)→R}{o:OwD}{r:R}(h:B1u k o=some r):∃l,r=k l:=by
 unfold B1u at h;cases o with
 |none=>exact⟨_,(Brf h).symm⟩
 |some y=>exact⟨_,(Brf (cnd (cnd (cnd (cnd h))))).symm⟩
def Bff{R:Type}{N:Nat}{l:MkM}{k:OwD→A3 R}{r:R}:lpD N l k=some r→∃o,k o=some r:=by
 refine A52 (fun r=>∃o,k o=some r) ?_ N _ r;intro rec z r hr h;generalize z.2.2.1.1=o at h;cases o with
 |none =>
  rcases A8l (cnd h)with ⟨_,h⟩|⟨hn,h⟩
  ·exact⟨_,h⟩
  ·obtain⟨x,hx⟩:=Bua _ hn;have h:=cnd (h x hx);revert h;generalize P5 _=p;cases p with
   |none=>intro h;cases h
   |some p =>
    intro h;simp only[A6]at h;split at h
    ·cases h
    ·exact hr _ _ h
 |some o =>
  rcases A8l (cnd h)with ⟨_,h⟩|⟨hn,h⟩
  ·exact⟨_,h⟩
  ·obtain⟨x,hx⟩:=Bua _ hn;have h:=cnd (h x hx);revert h;generalize P5 _=p;cases p with
   |none=>intro h;cases h
   |some p =>
    intro h;simp only[A6]at h;split at h
    ·cases h
    ·exact hr _ _ (cnd (cnd h))
def B4q{R:Type}{N:Nat}{L:List tEvent.T}{k:MkM→A3 R}{r:R}:lpM N L k=some r→∃m,k m=some r:=by
 refine A52 (fun r=>∃m,k m=some r) ?_ N _ r;intro rec z r hr h;cases hd:decide (z.1.1<(L.length:Int)) with
 |true=>rw[hd]at h;obtain⟨_,h⟩:=bnd h;exact hr _ _ h
 |false=>rw[hd]at h;exact⟨_,h⟩
def Ala:Akd Rk (Gq N):=by intro x y h;unfold Gq at h;rw[Tc]at h;obtain⟨_,h⟩:=bnd h;obtain⟨_,h⟩:=B4q h;obtain⟨_,h⟩:=Bff h;obtain⟨_,rfl⟩:=Bc7 h;rfl
def Alb:Ft prog:=mkL 17 f17 _ Rk (Gq N) mixed func17 (.mk' func17 rfl (by decide)) rfl rfl (Al9 N) (Ala N)
@[reducible] def Rm:ASp:=⟨[.p 0 0,.d (.int .u64)],[(0,Sh1,some 73)],[.d tEvent,.d .bool]⟩
def trC(w:Int)(c:CtX)(lv tb:Tw):A3 LiR:=A4s lv tb (Y0 N w c) (Xy N w c) (Xw N w c) (Xu N w c)
def Ig:ASp.Bb Rm:=fun(w:Int) (x:BkC)=>four x fun lv tb=>Option.bind (trC N w x.1 lv tb) fun y=>bif (y.1.1.length:Int)==0 then some (((x.1,lv,tb,()),()),((0,0),0,0,0,[],[]),false,())else (at? y.1.1
 (i64.wrap ((y.1.1.length:Int)-1))).bind fun(e:tEvent.T)=>some (((x.1,lv,tb,()),()),e,true,())
def Alc:An9 prog [Ah3 N] [] N f11 (fun _=>.lf) Rm=Ig N:=by kernel_rfl
def Ald:Akd Rm (Ig N):=by
 intro w x y h;unfold Ig at h;rw[Tc]at h;obtain⟨q,h⟩:=bnd h;cases hc:((q.1.1.length:Int)==0) with
 |true=>rw[hc]at h;have h:=Brf h;subst h;rfl
 |false=>rw[hc]at h;obtain⟨_,h⟩:=bnd h;have h:=Brf h;subst h;rfl
def Ale:Ft prog:=mkL 11 f11 _ Rm (Ig N) mixed func11 (.mk' func11 rfl (by decide)) rfl rfl (Alc N) (Ald N)
@[reducible] def Rn:ASp:=⟨[.p 0 0],[(0,Sh1,some 73)],[.d A0,.d A0,.d A0]⟩
def lpW{R:Type}(N:Nat)(L:List tEvent.T)(k:Int→A3 R):A3 R :=
 iter (fun(rec:(Int×Int×Unit)×Unit×Unit×Unit→A3 R) (z:(Int×Int×Unit)×Unit×Unit×Unit) =>
  bif decide (z.1.2.1<(L.length:Int)) then
   (at? L z.1.2.1).bind fun(e:tEvent.T)=>rec ((i64.wrap (z.1.1+(e.2.2.2.2.2.length:Int)),i64.wrap (z.1.2.1+1),()),(),(),())
  else k z.1.1)
  N ((0,0,()),(),(),())
def Ih:ASp.Bb Rn:=fun(x:BkC)=>four x fun lv tb=>Option.bind (Bfd N x.1 lv tb) fun y=>lpW N y.1.1 fun n=>Option.bind (B4p N x.1 lv tb) fun y=>Option.bind (Bc6 N x.1 lv tb) fun q=>some
 (((x.1,lv,tb,()),()),(y.1.1.length:Int),(q.1.1.length:Int),n,())
def Alf:An9 prog [V1 N,Tz N,A2x N] [] N f15 (fun ns=>(cond (inl 101 ns) (cond (inl 102 ns) (A1 (A1 (.seq (A1 (.blk (.loop ⟨[(5,.d A0),(11,.d A0)],[],[0,9,10],[0,101,102],[],[]⟩ .lf))) .lf))) (A1 (A1 (.seq (A1 (.blk (.loop ⟨[(5,.d A0),(11,.d A0)],[],[0,9,10],[0,101],[],[]⟩ .lf))) .lf)))) (cond (inl 102 ns) (A1 (A1 (.seq (A1 (.blk (.loop ⟨[(5,.d A0),(11,.d A0)],[],[0,9,10],[0,102],[],[]⟩ .lf))) .lf))) (A1 (A1 (.seq (A1 (.blk (.loop ⟨[(5,.d A0),(11,.d A0)],[],[0,9,10],[0],[],[]⟩ .lf))) .lf)))))) Rn=Ih N:=by kernel_rfl
def Bfg{R:Type}{N:Nat}{L:List tEvent.T}{k:Int→A3 R}{r:R}:lpW N L k=some r→∃m,k m=some r:=by
 refine A52 (fun r=>∃m,k m=some r) ?_ N _ r;intro rec z r hr h;cases hd:decide (z.1.2.1<(L.length:Int)) with
 |true=>rw[hd]at h;obtain⟨_,h⟩:=bnd h;exact hr _ _ h
 |false=>rw[hd]at h;exact⟨_,h⟩
def Alg:Akd Rn (Ih N):=by intro x y h;unfold Ih at h;rw[Tc]at h;obtain⟨_,h⟩:=bnd h;obtain⟨_,h⟩:=Bfg h;obtain⟨_,h⟩:=bnd h;obtain⟨_,h⟩:=bnd h;have h:=Brf h;subst h;rfl
def Alh:Ft prog:=mkL 15 f15 _ Rn (Ih N) mixed func15 (.mk' func15 rfl (by decide)) rfl rfl (Alf N) (Alg N)
@[reducible] def Vq:ASp:=⟨[.p 0 0,.g 0 (.tab .str),.g 1 (.tab (.int .u64))],[(0,Sh1,some 73)],[.d .str]⟩
abbrev BuS:Type:=(Bool×A2 UInt8×Unit)×Unit
def lpT{R:Type}(N:Nat)(t:A2 (A2 UInt8))(p:A2 Int)(L:List tEvent.T)(b:BuS)(k:A2 UInt8→A3 R):A3 R :=
 iter (fun(rec:(Int×Unit)×BuS×Unit×Unit→A3 R) (z:(Int×Unit)×BuS×Unit×Unit) =>
  bif decide (z.1.1<(L.length:Int)) then
   (at? L z.1.1).bind fun(e:tEvent.T) =>
    Option.bind (L8 N e t p) fun(y:A2 UInt8) =>Option.bind (Bc N y z.2.1.1.1 z.2.1.1.2.1) fun y =>Option.bind (B3 N 10 y.2.1.1.1 y.2.1.1.2.1) fun y=>rec ((i64.wrap (z.1.1+1),()),((y.2.1.1.1,y.2.1.1.2.1,()),()),(),())
  else Option.bind (Cv N z.2.1.1.1 z.2.1.1.2.1) fun y=>k y.1.1)
  N ((0,()),((b.1.1,b.1.2.1,()),()),(),())
def L9:ASp.Bb Vq:=fun(t:A2 Bwy) (p:A2 Int) (x:BkC)=>four x fun lv tb=>Bn (fun(z:(Unit×Unit)×BuS×Unit×Unit)=>Option.bind (Bfd N x.1 lv tb) fun y=>lpT N t p y.1.1 z.2.1 fun l=>some
 (((x.1,lv,tb,()),()),l,())) fun k=>k (((),()),((true,[],()),()),(),())
def Au2:An9 prog [A25 N,Km N,Mf N,Jk N,V1 N] [] N f21 (fun ns=>(cond (inl 101 ns) (cond (inl 102 ns) (A1 (.join ⟨[(3,.p 1003 0)],[(1003,[.z 1003 0,.Be 300301 .u8 (some 5)],some 99)],[0,1000000,1000001],[0,101,102],[],[]⟩ .lf (.seq (A1 (.blk (.loop ⟨[(9,.d A0)],[(1003,[.z 1003 0,.Be 300301 .u8 (some 5)],some 99)],[3,7,8,1000000,1000001],[0,101,102],[],[]⟩ .lf))) .lf))) (A1 (.join ⟨[(3,.p 1003 0)],[(1003,[.z 1003 0,.Be 300301 .u8 (some 5)],some 99)],[0,1000000,1000001],[0,101],[],[]⟩ .lf (.seq (A1 (.blk (.loop ⟨[(9,.d A0)],[(1003,[.z 1003 0,.Be 300301 .u8 (some 5)],some 99)],[3,7,8,1000000,1000001],[0,101],[],[]⟩ .lf))) .lf)))) (cond (inl 102 ns) (A1 (.join ⟨[(3,.p 1003 0)],[(1003,[.z 1003 0,.Be 300301 .u8 (some 5)],some 99)],[0,1000000,1000001],[0,102],[],[]⟩ .lf (.seq (A1 (.blk (.loop ⟨[(9,.d A0)],[(1003,[.z 1003 0,.Be 300301 .u8 (some 5)],some 99)],[3,7,8,1000000,1000001],[0,102],[],[]⟩ .lf))) .lf))) (A1 (.join ⟨[(3,.p 1003 0)],[(1003,[.z 1003 0,.Be 300301 .u8 (some 5)],some 99)],[0,1000000,1000001],[0],[],[]⟩ .lf (.seq (A1 (.blk (.loop ⟨[(9,.d A0)],[(1003,[.z 1003 0,.Be 300301 .u8 (some 5)],some 99)],[3,7,8,1000000,1000001],[0],[],[]⟩ .lf))) .lf)))))) Vq=L9 N:=by kernel_rfl
def Bfh{R:Type}{N:Nat}{t:A2 (A2 UInt8)}{p:A2 Int}{L:List tEvent.T}{b:BuS}{k:A2 UInt8→A3 R}{r:R}:lpT N t p L b k=some r→∃m,k m=some r:=by
 refine A52 (fun r=>∃m,k m=some r) ?_ N _ r;intro rec z r hr h;cases hd:decide (z.1.1<(L.length:Int)) with
 |true =>rw[hd]at h;obtain⟨_,h⟩:=bnd h;obtain⟨_,h⟩:=bnd h;obtain⟨_,h⟩:=bnd h;obtain⟨_,h⟩:=bnd h;exact hr _ _ h
 |false=>rw[hd]at h;obtain⟨_,h⟩:=bnd h;exact⟨_,h⟩
def Au3:Akd Vq (L9 N):=by intro t p x y h;unfold L9 at h;rw[Tc]at h;obtain⟨_,h⟩:=bnd h;obtain⟨_,h⟩:=Bfh h;have h:=Brf h;subst h;rfl
def Au4:Ft prog:=mkL 21 f21 _ Vq (L9 N) mixed func21 (.mk' func21 rfl (by decide)) rfl rfl (Au2 N) (Au3 N)
def Ali:Ft prog:=Akf 13 (Ake 0) (mkNone 13) (B1t N) rfl rfl
def A9t:Ft prog:=Akf 17 (Ake 0) (mkNone 17) (Alb N) rfl rfl
def A9u:Ft prog:=Akf 11 (Ake 0) (mkNone 11) (Ale N) rfl rfl
def A9v:Ft prog:=Akf 15 (Ake 0) (mkNone 15) (Alh N) rfl rfl
def Aeu:Ft prog:=Akf 21 (Ake 0) (mkNone 21) (Au4 N) rfl rfl
def dg(k:Nat):UInt8:=UInt8.ofNat (48+k % 10)
def pad:Nat→Nat→A2 UInt8
 |0,_=>[]
 |w+1,x=>pad w (x/10)++[dg x]
theorem Apl(a:Nat):∀(b x:Nat),pad (a+b) x=pad a (x/10 ^ b)++pad b x
 |0,x=>by simp[pad]
 |b+1,x=>by
  rw[← Bs6,pad,Apl a b,pad,Brz,Btl,Bur 10,Bru]
def set_drop{α:Type}{m:A2 α}{c:α}{t:A2 α}(h:j+1=i)(hj:j<m.length)(hd:m.drop i=t):(m.set j c).drop j=c::t:=by subst hd;subst h;rw[Bqe (by simpa using hj)];simp[List.drop_set]
def B4r(a:Nat):((a:Nat):Int).tmod 100=((a % 100:Nat):Int):=rfl
def tm4(a:Nat):((a:Nat):Int).tmod 10000=((a % 10000:Nat):Int):=rfl
def tm8(a:Nat):((a:Nat):Int).tmod 100000000=((a % 100000000:Nat):Int):=rfl
def B4s(a:Nat):((a:Nat):Int).tdiv 100=((a/100:Nat):Int):=rfl
def td4(a:Nat):((a:Nat):Int).tdiv 10000=((a/10000:Nat):Int):=rfl
def td8(a:Nat):((a:Nat):Int).tdiv 100000000=((a/100000000:Nat):Int):=rfl
def A9w(h:a<4294967296):IntKind.u32.wrap (a:Int)=(a:Int):=Bwc _ (by omega)
def Blo(h:a<100):IntKind.u32.wrap ((a:Int)*2)=((a*2:Nat):Int):=by rw[Bwc _ (by omega)];omega
def Bnj(h:a<200):IntKind.u32.wrap ((a:Int)+1)=((a+1:Nat):Int):=by rw[Bwc _ (by omega)];omega
def Bc8(h:a<18446744073709551616):u64.wrap (a:Int)=(a:Int):=Bwd _ (by omega)
def Bnk(h:k≤i)(h':i<9223372036854775808):i64.wrap ((i:Int)-(k:Int))=((i-k:Nat):Int):=by rw[Bsk _ (by omega)];omega
def Bc9:∀k<100,SM[k*2]? = some (dg (k/10))∧SM[k*2+1]? = some (dg k):=by decide +kernel
def sm0(h:k<100):at? SM ((k*2:Nat):Int)=some (dg (k/10)):=(Bc9 k h).1
def sm1(h:k<100):at? SM ((k*2+1:Nat):Int)=some (dg k):=(Bc9 k h).2
def smA(h:k<100):at? SM (IntKind.u32.wrap (IntKind.u32.wrap ((k:Int)*2)+1))=some (dg k):=by rw[Blo h,Bnj (by omega)];exact sm1 h
def smB(h:k<100):at? SM (IntKind.u32.wrap ((k:Int)*2))=some (dg (k/10)):=by rw[Blo h];exact sm0 h
def Bgy{b:Nat}(h:a % 10=b % 10):dg a=dg b:=by unfold dg;rw[h]
def Inv(l:A2 UInt8)(n x i u:Nat)(m:A2 UInt8):Prop :=
 i≤n∧m.length=l.length∧(m.drop i).take (n-i)=pad (n-i) x∧x/10 ^ (n-i)=u∧u<10 ^ i
def Inv.one{l m:A2 UInt8}{n x:Nat}(h:Inv l n x i u m)(hl:n≤l.length)(h1:1≤i):Inv l n x (i-1) (u/10) (m.set (i-1) (dg u)):=by
 obtain⟨h1',h2,h3,h4,h5⟩:=h;refine⟨by omega,by simp only[List.length_set];exact h2,?_,?_,?_⟩
 ·rw[set_drop (m:=m) (i:=i) (j:=i-1) (c:=dg u) (by omega) (by omega) rfl,show n-(i-1)=(n-i)+1 by omega,Bsy (n-i) 1,Apl 1,h4,Bsy 1];simp only[Btn,h3,pad,Bpx,Br1]
 ·rw[show n-(i-1)=(n-i)+1 by omega,Btl,← Brz,h4]
 ·have:10 ^ i=10*10 ^ (i-1):=by conv=>lhs;rw[show i=(i-1)+1 by omega,Btl,Bur]
  exact Nat.div_lt_of_lt_mul (by omega)
def Inv.two{l m:A2 UInt8}{n x:Nat}(h:Inv l n x i u m)(hl:n≤l.length)(h2:2≤i):Inv l n x (i-2) (u/100) ((m.set (i-1) (dg (u % 100))).set (i-2) (dg (u % 100/10))):=by have:=(h.one hl (by omega)).one hl (by omega);rw[Brz,Bw6]at this;rw[Bgy (a:=u % 100) (b:=u) (by omega),Bgy (a:=u % 100/10) (b:=u/10) (by omega)];exact this
section
variable{l m:A2 UInt8}{n x i u:Nat}
def A27{j j' X:Int}(h:Inv l n x i u m)(hl:n≤l.length)(h2:2≤i)(hk:k<100)(hu:k=u % 100)(hx:X=(k:Int))(hj:j=((i-1:Nat):Int))(Gb:j'=((i-2:Nat):Int)) :
  ∃m',Inv l n x (i-2) (u/100) m'∧∀ {R:Type} (K:A2 UInt8→A3 R),prB 0 n j j' X m K=K m':=by
 refine⟨_,h.two hl h2,fun K=>?_⟩;have hi:=h.1;have hm:=h.2.1;subst hx hj Gb hu;have b1:(decide (0≤((i-1:Nat):Int))&&decide (((i-1:Nat):Int)<(n:Int)))=true:=by simp;omega
 have b2:(decide (0≤((i-2:Nat):Int))&&decide (((i-2:Nat):Int)<(n:Int)))=true:=by simp;omega
 unfold prB;rw[smA hk,Bow,smB hk,Bow,b1,Bov,b2,Bov];simp only[Brp,Bq7];rw[Bpd (show i-1<m.length by omega),Bow,Bpd (by simp only[List.length_set];omega),Bow]
def idB(h:d≤i)(h':i<9223372036854775808):IdB (i:Int) (d:Int)=((i-d:Nat):Int):=Bnk h h'
abbrev Bfi(l:A2 UInt8)(n x:Nat)(o:A3 (A2 UInt8×Unit)):Prop:=∃r:A2 UInt8×Unit,o=some r∧(r.1.length=l.length∧r.1.take n=pad n x)
def Bca(hi:i≤1)(hl:n≤l.length)(h:Inv l n x i u m):Bfi l n x (tB3 0 n i u m (fun m=>(m,())) (some (m,()))):=by
 unfold tB3;by_cases h0:i=0
 ·subst h0;obtain⟨h1',h2,h3,h4,h5⟩:=h;exact⟨(m,()),rfl,h2,by simpa using h3⟩
 ·have:i=1:=by omega
  subst this;have h':=h.one hl (Bpa 1);obtain⟨h1',h2,h3,h4,h5⟩:=h;have hn:decide (0<(n:Int))=true:=by simp;omega
  have h01:decide (0<((1:Nat):Int))=true:=rfl;have hv:u<10:=by simpa using h5
  have hc:Wn (IntKind.u8.wrap (IntKind.u32.wrap (48+(u:Int))))=dg u:=by
   have:∀v<10,Wn (IntKind.u8.wrap (IntKind.u32.wrap (48+((v:Nat):Int))))=dg v:=by decide +kernel
   exact this u hv
  obtain⟨g1,g2,g3,g4,g5⟩:=h';refine⟨(m.set 0 (dg u),()),?_,g2,by simpa using g3⟩;rw[h01,hn,hc,Bpd (by omega)];rfl
def Bcb(hi:i≤3)(hl:n≤l.length)(hv:u<100000000)(h:Inv l n x i u m):Bfi l n x (tB2 n i u m):=by
 unfold tB2;by_cases h2:2≤i
 ·obtain⟨m1,i1,e1⟩:=A27 (X:=(u:Int).tmod 100) h hl h2 (Btz u (by omega)) rfl (B4r u) (j:=IdB i 1) (j':=IdB i 2) (idB (d:=1) (by omega) (by omega)) (idB (d:=2) (by omega) (by omega));rw[Bp7 (by omega),Bov,e1,B4s,A9w (by omega),show IdB (i:Int) 2=_ from idB (d:=2) (by omega) (by omega)];exact Bca (by omega) hl i1
 ·rw[Bp9 (by omega),Box];exact Bca (by omega) hl h
def Bj0(hi:i≤7)(hl:n≤l.length)(hv:u<100000000)(h:Inv l n x i u m):Bfi l n x (tB1 n i u m):=by
 unfold tB1;by_cases h4:4≤i
 ·obtain⟨m1,i1,e1⟩:=A27 (X:=((IntKind.u32.wrap (u:Int)).tmod 10000).tmod 100) (k:=u % 10000 % 100) h hl (by omega) (by omega) (by omega) (by rw[A9w (by omega),tm4,B4r]) (j:=IdB i 1) (j':=IdB i 2) (idB (d:=1) (by omega) (by omega)) (idB (d:=2) (by omega) (by omega));obtain⟨m2,i2,e2⟩:=A27 (X:=IntKind.u32.wrap (((IntKind.u32.wrap (u:Int)).tmod 10000).tdiv 100)) (k:=u % 10000/100) i1 hl (by omega) (by omega) (by omega) (by rw[A9w (by omega),tm4,B4s,A9w (by omega)])
   (j:=IdB i 3) (j':=IdB i 4) ((idB (d:=3) (by omega) (by omega)).trans (by omega)) ((idB (d:=4) (by omega) (by omega)).trans (by omega))
  rw[Bp7 (by omega),Bov,e1,e2,A9w (show u<4294967296 by omega),td4,A9w (by omega),show IdB (i:Int) 4=_ from idB (d:=4) (by omega) (by omega)];rw[Brz]at i2;exact Bcb (by omega) hl (by omega) i2
 ·rw[Bp9 (by omega),Box,A9w (show u<4294967296 by omega)];exact Bcb (by omega) hl hv h
end
def Bnl(l:A2 UInt8)(n x:Nat)(hl:n≤l.length)(hl2:l.length<1000000)(hx:x<10 ^ n)(hx2:x<18446744073709551616)(hN:n<N):Bfi l n x (D9 N l n (x:Int)):=by
 unfold D9;refine Gy (Q:=fun r:A2 UInt8×Unit=>r.1.length=l.length∧r.1.take n=pad n x) (fun k z=>∃(m:A2 UInt8) (u:Nat),z=(((u:Int),(k:Int),()),(),(),m,())∧Inv l n x k u m∧u≤x) ?_ N n _ ⟨l,x,rfl,⟨Bpa _,rfl,by simp[pad],by simp,hx⟩,Bpa _⟩ hN;rintro k z rec ⟨m,u,rfl,hI,hux⟩ ih;have hkn:=hI.1;dsimp only;by_cases h8:8≤k
 ·obtain⟨m1,i1,e1⟩:=A27 (X:=((IntKind.u32.wrap ((u:Int).tmod 100000000)).tmod 10000).tmod 100) (k:=u % 100000000 % 10000 % 100) hI hl (by omega) (by omega) (by omega) (by rw[tm8,A9w (by omega),tm4,B4r]) (j:=IdB k 1) (j':=IdB k 2) (idB (d:=1) (by omega) (by omega)) (idB (d:=2) (by omega) (by omega));obtain⟨m2,i2,e2⟩:=A27 (X:=IntKind.u32.wrap (((IntKind.u32.wrap ((u:Int).tmod 100000000)).tmod 10000).tdiv 100)) (k:=u % 100000000 % 10000/100) i1 hl (by omega) (by omega) (by omega) (by rw[tm8,A9w (by omega),tm4,B4s,A9w (by omega)])
   (j:=IdB k 3) (j':=IdB k 4) ((idB (d:=3) (by omega) (by omega)).trans (by omega)) ((idB (d:=4) (by omega) (by omega)).trans (by omega))
  obtain⟨m3,i3,e3⟩:=A27 (X:=(IntKind.u32.wrap ((IntKind.u32.wrap ((u:Int).tmod 100000000)).tdiv 10000)).tmod 100) (k:=u % 100000000/10000 % 100) i2 hl (by omega) (by omega) (by omega) (by rw[tm8,A9w (by omega),td4,A9w (by omega),B4r])
   (j:=IdB k 5) (j':=IdB k 6) ((idB (d:=5) (by omega) (by omega)).trans (by omega)) ((idB (d:=6) (by omega) (by omega)).trans (by omega))
  obtain⟨m4,i4,e4⟩:=A27 (X:=IntKind.u32.wrap ((IntKind.u32.wrap ((IntKind.u32.wrap ((u:Int).tmod 100000000)).tdiv 10000)).tdiv 100)) (k:=u % 100000000/10000/100) i3 hl (by omega) (by omega) (by omega) (by rw[tm8,A9w (by omega),td4,A9w (by omega),B4s,A9w (by omega)])
   (j:=IdB k 7) (j':=IdB k 8) ((idB (d:=7) (by omega) (by omega)).trans (by omega)) ((idB (d:=8) (by omega) (by omega)).trans (by omega))
  rw[Bp7 (by omega),Bov,e1,e2,e3,e4,td8,Bc8 (by omega),show IdB (k:Int) 8=_ from idB (d:=8) (by omega) (by omega)];rw[Brz,Brz,Brz,Bw6,Bw6,Bw6]at i4;exact ih (k-8) _ (by omega) ⟨m4,u/100000000,rfl,i4,by omega⟩
 ·rw[Bp9 (by omega),Box];have:u<10 ^ 8:=Bqv hI.2.2.2.2 (Nat.pow_le_pow_right (by omega) (by omega));exact Bj0 (by omega) hl (by omega) hI
def Mg:Bb [A8,(.int .u64)] (A3 (Al [(.sl tEvent)])):=fun(x:Bwz) (Bh:Int)=>iter (fun(rec:Bwv×Unit×Unit×Unit→A3 (A2 Bwn)) (z:Bwv×Unit×Unit×Unit)=>bif decide (z.1.2.1<(↑x.2.length:Int))then
 (at? x.2 z.1.2.1).bind fun(e:Bwo×UInt8×Int×UInt8×A2 UInt8×A2 Bwo)=>bif e.2.1==1 then (at? x.2 z.1.2.1).bind fun(e:Bwo×UInt8×Int×UInt8×A2 UInt8×A2 Bwo)=>bif e.2.2.1==Bh then (at? x.2 z.1.2.1).bind
 fun(e:Bwo×UInt8×Int×UInt8×A2 UInt8×A2 Bwo)=>bif Ao (z.1.1.length + [e].length) 80 then rec ((z.1.1++[e],i64.wrap (z.1.2.1+1),()),(),(),())else none else rec ((z.1.1,i64.wrap
 (z.1.2.1+1),()),(),(),())else rec ((z.1.1,i64.wrap (z.1.2.1+1),()),(),(),())else some z.1.1) N (([],0,()),(),(),())
def Acm:=Bs [] [] N 40 (A1 (A1 (.seq (A1 (.blk (.loop ⟨[(5,.Be 200005 tEvent none),(6,.d A0)],[],[1,2],[1002],[],[]⟩ .lf))) .lf))) [A8,(.int .u64)] [(.sl tEvent)] (Mg N) mixed func40 rfl (by decide) rfl (by kernel_rfl)
def Gr(N:Nat):Bb [tEvent,tEvent] (A3 (Al [.bool])):=fun(x Bh:Bwo×UInt8×Int×UInt8×A2 UInt8×A2 Bwo)=>bif decide (Bh.1.2<x.1.2)then some true else bif x.1.2==Bh.1.2 then some (decide
 (Bh.1.1<x.1.1))else some false
def A53:=Bs [] [] N 41 .lf [tEvent,tEvent] [.bool] (Gr N) mixed func41 rfl (by decide) rfl (by kernel_rfl)
def H3:Bb [A8,(.int .u64)] (A3 (Al [(.sl tEvent)])):=fun(x:Bwz) (Bh:Int)=>Option.bind (Mg N x Bh) fun(y:A2 Bwn)=>iter (fun(rec:Bwv×Unit×Unit×Unit→A3 (A2 Bwn)) (z:Bwv×Unit×Unit×Unit)=>bif
 decide (z.1.2.1<(↑y.length:Int))then iter (fun(rec_1:Bx1×Unit×Unit×Unit→A3 (A2 Bwn)) (Ea:Bx1×Unit×Unit×Unit)=>bif decide (Ea.1.2.2.1<(↑z.1.1.length:Int))then Bn (fun(z_2:(A2 Bwn×Bool×Unit)×Unit×Unit×Unit)=>(at?
 z.1.1 Ea.1.2.2.1).bind fun(e:Bwo×UInt8×Int×UInt8×A2 UInt8×A2 Bwo)=>bif Ao (z_2.1.1.length + [e].length) 80 then rec_1 ((z_2.1.1++[e],z_2.1.2.1,i64.wrap (Ea.1.2.2.1+1),()),(),(),())else none) fun(k:(List
 Bwn×Bool×Unit)×Unit×Unit×Unit→A3 (A2 Bwn))=>bif !Ea.1.2.1 then (at? z.1.1 Ea.1.2.2.1).bind fun(e:Bwo×UInt8×Int×UInt8×A2 UInt8×A2 Bwo)=>(at? y z.1.2.1).bind fun(Mn:Bwo×UInt8×Int×UInt8×A2 UInt8×List
 Bwo)=>Option.bind (Gr N e Mn) fun(Dv:Bool)=>bif Dv then (at? y z.1.2.1).bind fun(e:Bwo×UInt8×Int×UInt8×A2 UInt8×A2 Bwo)=>bif Ao (Ea.1.1.length + [e].length) 80 then k ((Ea.1.1++[e],true,()),(),(),())else none else k
 ((Ea.1.1,Ea.1.2.1,()),(),(),())else k ((Ea.1.1,Ea.1.2.1,()),(),(),())else bif !Ea.1.2.1 then (at? y z.1.2.1).bind fun(e:Bwo×UInt8×Int×UInt8×A2 UInt8×A2 Bwo)=>bif Ao (Ea.1.1.length + [e].length) 80 then rec
 ((Ea.1.1++[e],i64.wrap (z.1.2.1+1),()),(),(),())else none else rec ((Ea.1.1,i64.wrap (z.1.2.1+1),()),(),(),())) N (([],false,0,()),(),(),())else some z.1.1) N (([],0,()),(),(),())
def Acn:=Bs [Acm N,A53 N] [] N 10 (A1 (A1 (A1 (.seq (A1 (.blk (.loop ⟨[(5,.Be 200005 tEvent none),(7,.d A0)],[],[6],[],[],[]⟩ (A1 (.seq (.blk (A1 (A1 (.seq (A1 (.blk (.loop ⟨[(8,.Be 200008 tEvent none),(9,.d .bool),(10,.d A0)],[],[5,6,7],[],[],[]⟩ (A1 (.seq (.blk (.join ⟨[(8,.Be 200008 tEvent none),(9,.d .bool)],[],[5,6,7,10],[],[],[]⟩ .lf .lf)) .lf))))) .lf)))) .lf))))) .lf)))) [A8,(.int .u64)] [(.sl tEvent)] (H3 N) mixed func10 rfl (by decide) rfl (by kernel_rfl)
def Hg:Bb [(.sl Ag),(.sl Ag)] (A3 (Al [.bool])):=fun(x Bh:Bwx)=>bif (↑x.length:Int) != (↑Bh.length:Int)then some false else iter (fun(rec:Bwr×Unit×Unit×Unit→A3 Bool)
 (z:Bwr×Unit×Unit×Unit)=>bif decide (z.1.1<(↑x.length:Int))then (at? x z.1.1).bind fun(e:Bwo)=>(at? Bh z.1.1).bind fun(Mn:Bwo)=>bif !(e.1==Mn.1&&e.2==Mn.2)then some false else rec ((i64.wrap
 (z.1.1+1),()),(),(),())else some true) N ((0,()),(),(),())
def V2:=Bs [] [] N 16 (A1 (A1 (.seq (A1 (.blk (.loop ⟨[(5,.d A0)],[],[0,1],[],[],[]⟩ .lf))) .lf))) [(.sl Ag),(.sl Ag)] [.bool] (Hg N) mixed func16 rfl (by decide) rfl (by kernel_rfl)
def Hh:Bb [tEvent,tEvent] (A3 (Al [.bool])):=fun(x Bh:Bwo×UInt8×Int×UInt8×A2 UInt8×A2 Bwo)=>bif x.1.1==Bh.1.1&&x.1.2==Bh.1.2 then bif x.2.1==Bh.2.1 then bif x.2.2.1==Bh.2.2.1 then bif
 x.2.2.2.1==Bh.2.2.2.1 then bif x.2.2.2.2.1==Bh.2.2.2.2.1 then Option.bind (Hg N x.2.2.2.2.2 Bh.2.2.2.2.2) fun(y:Bool)=>some y else some false else some false else some false else some false else some false
def V3:=Bs [V2 N] [] N 14 .lf [tEvent,tEvent] [.bool] (Hh N) mixed func14 rfl (by decide) rfl (by kernel_rfl)
def La:Bb [(.sl tEvent),(.sl tEvent)] (A3 (Al [.bool])):=fun(x Bh:A2 Bwn)=>bif (↑x.length:Int) != (↑Bh.length:Int)then some false else iter (fun(rec:Bwr×Unit×Unit×Unit→A3 Bool)
 (z:Bwr×Unit×Unit×Unit)=>bif decide (z.1.1<(↑x.length:Int))then (at? x z.1.1).bind fun(e:Bwo×UInt8×Int×UInt8×A2 UInt8×A2 Bwo)=>(at? Bh z.1.1).bind fun(Mn:Bwo×UInt8×Int×UInt8×A2 UInt8×A2 Bwo)=>Option.bind (Hh N e
 Mn) fun(y:Bool)=>bif !y then some false else rec ((i64.wrap (z.1.1+1),()),(),(),())else some true) N ((0,()),(),(),())
def A9x:=Bs [V3 N] [] N 12 (A1 (A1 (.seq (A1 (.blk (.loop ⟨[(5,.d A0)],[],[0,1],[],[],[]⟩ .lf))) .lf))) [(.sl tEvent),(.sl tEvent)] [.bool] (La N) mixed func12 rfl (by decide) rfl (by kernel_rfl)
def Io:Bb [A8] (A3 (Al [(.sl Ag)])):=fun(x:Bwz)=>Option.bind (E4 N x) fun(y:A2 Bwn)=>iter (fun(rec:Bwr×Unit×Bwq×Unit→A3 Bwx) (z:Bwr×Unit×Bwq×Unit)=>A6 z.2.2.1.1 (bif decide
 (z.1.1<(↑y.length:Int))then (at? y z.1.1).bind fun(e:Bwo×UInt8×Int×UInt8×A2 UInt8×A2 Bwo)=>rec ((i64.wrap (z.1.1+1),()),(),(some ([(e.1.1,1)],[(e.1.1,1)].length),()),())else some []) fun(Dv:List
 Bwo×Nat)=>bif decide (z.1.1<(↑y.length:Int))then bif decide (0≤i64.wrap ((↑Dv.2:Int)-1))then bif decide (0≤i64.wrap ((↑Dv.2:Int)-1))&&decide (i64.wrap ((↑Dv.2:Int)-1)<(↑Dv.2:Int))then
 Dv.1[0+(i64.wrap ((↑Dv.2:Int)-1)).toNat]?.bind fun(e:Bwo)=>(at? y z.1.1).bind fun(Mn:Bwo×UInt8×Int×UInt8×A2 UInt8×A2 Bwo)=>bif e.1==Mn.1.1 then bif decide (0≤i64.wrap ((↑Dv.2:Int)-1))&&decide
 (i64.wrap ((↑Dv.2:Int)-1)<(↑Dv.2:Int))then Dv.1[0+(i64.wrap ((↑Dv.2:Int)-1)).toNat]?.bind fun(e:Bwo)=>bif decide (0≤i64.wrap ((↑Dv.2:Int)-1))&&decide (i64.wrap
 ((↑Dv.2:Int)-1)<(↑Dv.2:Int))then Dv.1[0+(i64.wrap ((↑Dv.2:Int)-1)).toNat]?.bind fun(e_2:Bwo)=>rec ((i64.wrap (z.1.1+1),()),(),(some (Dv.1.set (0+(i64.wrap ((↑Dv.2:Int)-1)).toNat)
 (e_2.1,u64.wrap (e.2+1)),Dv.2),()),())else none else none else (at? y z.1.1).bind fun(e:Bwo×UInt8×Int×UInt8×A2 UInt8×A2 Bwo)=>bif Dv.1.length.beq Dv.2 then bif Ao (Dv.2 + [(e.1.1,1)].length) 16 then rec
 ((i64.wrap (z.1.1+1),()),(),(some (Dv.1++[(e.1.1,1)],Dv.2 + [(e.1.1,1)].length),()),())else none else none else none else (at? y z.1.1).bind fun(e:Bwo×UInt8×Int×UInt8×A2 UInt8×A2 Bwo)=>bif Dv.1.length.beq
 Dv.2 then bif Ao (Dv.2 + [(e.1.1,1)].length) 16 then rec ((i64.wrap (z.1.1+1),()),(),(some (Dv.1++[(e.1.1,1)],Dv.2 + [(e.1.1,1)].length),()),())else none else none else bif bif (0+Dv.2).ble Dv.1.length then true
 else false then some (List.take Dv.2 (List.drop 0 Dv.1))else none) N ((0,()),(),(none,()),())
def A2y:=Bs [Oh N] [53] N 18 (A1 (A1 (A1 (.seq (A1 (.blk (.loop ⟨[(5,.d A0)],[],[4],[],[(3,400003,Ag)],[]⟩ .lf))) .lf)))) [A8] [(.sl Ag)] (Io N) mixed func18 rfl (by decide) rfl (by kernel_rfl)
def Cq(N:Nat):(Bb [(.int .u64)] (A3 (Al [.str])))→Bb [(.int .u64)] (A3 (Al [.str])):=fun(G:(Ty.int u64).T→A3 Bwy) (x:Int)=>bif decide (x<10)then some [Wn (IntKind.u8.wrap
 (u64.wrap (48+x.tmod 10)))]else (G (u64.wrap (x.tdiv 10))).bind fun(y:Bwy)=>bif decide (y.length + [Wn (IntKind.u8.wrap (u64.wrap (48+x.tmod 10)))].length≤4611686018427387904)then some (y++[Wn
 (IntKind.u8.wrap (u64.wrap (48+x.tmod 10)))])else none
def A0t(G:Bb [(.int .u64)] (A3 (Al [.str])))(hG:Ue prog 58 [.str] [(.int .u64)] G []):Awq prog [(B3v 58 [(.int .u64)] [.str] G (.mk' func58 rfl (by decide)) hG)] [] N f58 .lf [(.int .u64)] [.str]=Cq N G:=by kernel_rfl
def Bz:Bb [(.int .u64)] (A3 (Al [.str])):=B77 (args:=[(.int .u64)]) (res:=[.str]) (Cq N) N
def A28:Ue prog 58 [.str] [(.int .u64)] (Bz N) []:=Akh (fun G hG=>A0t N G hG▸Sa mixed func58 rfl) N
def Ro:Ft prog:=B3v 58 [(.int .u64)] [.str] (Bz N) (.mk' func58 rfl (by decide)) (A28 N)
def Jz:Bb [Ag] (A3 (Al [.str])):=fun(x:Bwo)=>Option.bind (Bz N (u64.wrap x.1)) fun(y:Bwy)=>bif decide (y.length+1≤4611686018427387904)then Option.bind (Bz N x.2) fun(Dv:Bwy)=>bif decide
 ((y++[46]).length+Dv.length≤4611686018427387904)then some (y++[46]++Dv)else none else none
def A7c:=Bs [Ro N] [] N 57 .lf [Ag] [.str] (Jz N) mixed func57 rfl (by decide) rfl (by kernel_rfl)
def K0(N:Nat):Bb [.u8] (A3 (Al [.str])):=fun(x:UInt8)=>bif x==1 then some [110,97,109,101]else bif x==2 then some [112,104,111,110,101]else bif x==3 then some [109,97,105,108]else bif x==4 then some
 [116,111,119,110]else bif x==5 then some [110,111,116,101]else some []
def A7d:=Bs [] [] N 59 .lf [.u8] [.str] (K0 N) mixed func59 rfl (by decide) rfl (by kernel_rfl)
def Jb:Bb [.str] (A3 (Al [.str])):=fun(x:Bwy)=>iter (fun(rec:(A2 UInt8×Int×Unit)×Unit×Unit×Unit→A3 Bwy) (z:(A2 UInt8×Int×Unit)×Unit×Unit×Unit)=>bif decide (z.1.2.1<(↑x.length:Int))then Bn
 (fun(Ea:Bx0×Unit×Unit×Unit)=>bif Fb z.1.2.1 (i64.wrap (z.1.2.1+1)) x.length then bif decide (Ea.1.1.length+(List.take ((i64.wrap (z.1.2.1+1)).toNat-z.1.2.1.toNat) (List.drop z.1.2.1.toNat
 x)).length≤4611686018427387904)then rec ((Ea.1.1++List.take ((i64.wrap (z.1.2.1+1)).toNat-z.1.2.1.toNat) (List.drop z.1.2.1.toNat x),i64.wrap (z.1.2.1+1),()),(),(),())else none else none)
 fun(k:Bx0×Unit×Unit×Unit→A3 Bwy)=>(at? x z.1.2.1).bind fun(c:UInt8)=>bif c==34 then bif decide (z.1.1.length+1≤4611686018427387904)then k ((z.1.1++[92],()),(),(),())else none else (at? x z.1.2.1).bind
 fun(c:UInt8)=>bif c==92 then bif decide (z.1.1.length+1≤4611686018427387904)then k ((z.1.1++[92],()),(),(),())else none else k ((z.1.1,()),(),(),())else bif decide (z.1.1.length+1≤4611686018427387904)then some
 (z.1.1++[34])else none) N (([34],0,()),(),(),())
def A54:=Bs [] [] N 60 (A1 (A1 (.seq (A1 (.blk (.loop ⟨[(3,.d .str),(4,.d A0)],[],[0],[],[],[]⟩ (A1 (.seq (.blk (.join ⟨[(3,.d .str)],[],[0,4],[],[],[]⟩ .lf .lf)) .lf))))) .lf))) [.str] [.str] (Jb N) mixed func60 rfl (by decide) rfl (by kernel_rfl)
def Hi:Bb [tEvent] (A3 (Al [.str])):=fun(x:Bwo×UInt8×Int×UInt8×A2 UInt8×A2 Bwo)=>Option.bind (E2 N x) fun(y:Bool)=>bif !y then some []else Option.bind (Jz N x.1) fun(y:Bwy)=>Bn
 (fun(z:Bx0×Unit×Unit×Unit)=>bif decide (z.1.1.length+1≤4611686018427387904)then Option.bind (Bz N (u64.wrap (↑x.2.2.2.2.2.length:Int))) fun(y:Bwy)=>bif decide
 ((z.1.1++[32]).length+y.length≤4611686018427387904)then some (z.1.1++[32]++y)else none else none) fun(k:Bx0×Unit×Unit×Unit→A3 Bwy)=>bif x.2.1==1 then bif decide (y.length+6≤4611686018427387904)then Option.bind (Bz N
 x.2.2.1) fun(Dv:Bwy)=>bif decide ((y++[32,101,100,105,116,32]).length+Dv.length≤4611686018427387904)then bif decide ((y++[32,101,100,105,116,32]++Dv).length+1≤4611686018427387904)then Option.bind (K0 N x.2.2.2.1)
 fun(y_2:Bwy)=>bif decide ((y++[32,101,100,105,116,32]++Dv++[32]).length+y_2.length≤4611686018427387904)then bif decide ((y++[32,101,100,105,116,32]++Dv++[32]++y_2).length+1≤4611686018427387904)then Option.bind (Jb N
 x.2.2.2.2.1) fun(S1:Bwy)=>bif decide ((y++[32,101,100,105,116,32]++Dv++[32]++y_2++[32]).length+S1.length≤4611686018427387904)then k ((y++[32,101,100,105,116,32]++Dv++[32]++y_2++[32]++S1,()),(),(),())else none else none
 else none else none else none else none else bif decide (y.length+8≤4611686018427387904)then Option.bind (Bz N x.2.2.1) fun(Dv:Bwy)=>bif decide
 ((y++[32,100,101,108,101,116,101,32]).length+Dv.length≤4611686018427387904)then k ((y++[32,100,101,108,101,116,101,32]++Dv,()),(),(),())else none else none
def V4:=Bs [Oe N,A7c N,Ro N,A7d N,A54 N] [] N 20 (A1 (A1 (A1 (.join ⟨[(3,.d .str)],[],[1],[1001],[],[]⟩ .lf .lf)))) [tEvent] [.str] (Hi N) mixed func20 rfl (by decide) rfl (by kernel_rfl)
def K1:Bb [A8] (A3 (Al [.str])):=fun(x:Bwz)=>iter (fun(rec:(A2 UInt8×Int×Unit)×Unit×Unit×Unit→A3 Bwy) (z:(A2 UInt8×Int×Unit)×Unit×Unit×Unit)=>bif decide (z.1.2.1<(↑x.2.length:Int))then
 (at? x.2 z.1.2.1).bind fun(e:Bwo×UInt8×Int×UInt8×A2 UInt8×A2 Bwo)=>Option.bind (Hi N e) fun(y:Bwy)=>bif decide (z.1.1.length+y.length≤4611686018427387904)then bif decide ((z.1.1++y).length+1≤4611686018427387904)then
 rec ((z.1.1++y++[10],i64.wrap (z.1.2.1+1),()),(),(),())else none else none else some z.1.1) N (([],0,()),(),(),())
def A7e:=Bs [V4 N] [] N 22 (A1 (A1 (.seq (A1 (.blk (.loop ⟨[(3,.d .str),(4,.d A0)],[],[1],[1001],[],[]⟩ .lf))) .lf))) [A8] [.str] (K1 N) mixed func22 rfl (by decide) rfl (by kernel_rfl)
def Jc:Bb [A8] (A3 (Al [(.sl tEvent)])):=fun(x:Bwz)=>Option.bind (Hf N x.2 2) fun(y:A2 Bwn)=>some y
def A55:=Bs [V0 N] [] N 24 .lf [A8] [(.sl tEvent)] (Jc N) mixed func24 rfl (by decide) rfl (by kernel_rfl)
def Nl:Bb [A8] (A3 (Al [A0])):=fun(x:Bwz)=>iter (fun(rec:Bwt×Unit×Unit×Unit→A3 Int) (z:Bwt×Unit×Unit×Unit)=>bif decide (z.1.2.1<(↑x.2.length:Int))then (at? x.2 z.1.2.1).bind
 fun(e:Bwo×UInt8×Int×UInt8×A2 UInt8×A2 Bwo)=>rec ((i64.wrap (z.1.1+(↑e.2.2.2.2.2.length:Int)),i64.wrap (z.1.2.1+1),()),(),(),())else some z.1.1) N ((0,0,()),(),(),())
def A56:=Bs [] [] N 25 (A1 (A1 (.seq (A1 (.blk (.loop ⟨[(3,.d A0),(4,.d A0)],[],[1],[1001],[],[]⟩ .lf))) .lf))) [A8] [A0] (Nl N) mixed func25 rfl (by decide) rfl (by kernel_rfl)
def Di:Bb [(.tab .str),(.tab (.int .u64))] (A3 (Al [.bool])):=fun(x:A2 Bwy) (Bh:A2 Int)=>Option.bind (L8 N ((2,1),1,281474976710657,1,[65,110,110],[]) x Bh) fun(y:Bwy)=>some (y ==
 [50,46,49,32,101,100,105,116,32,50,56,49,52,55,52,57,55,54,55,49,48,54,53,55,32,110,97,109,101,32,34,65,110,110,34,32,48])
def A57:Aeg prog [A25 N] [] N f6 .lf [(.tab .str),(.tab (.int .u64))] [.bool] 0 [0,1]=Di N:=by kernel_rfl
def A58:Ft prog:=A7u 6 f6 _ [(.tab .str),(.tab (.int .u64))] [.bool] 0 [0,1] (Di N) mixed func6 (.mk' func6 rfl (by decide)) rfl (A57 N)
def tsT(x:CtX×List tEvent.T)(e:tEvent.T)(t:A2 (A2 UInt8))(p:A2 Int)(z:BkC):A3 Bool :=
 Option.bind (Ih N z) fun v=>Option.bind (Gq N z) fun y=>Option.bind (Io N x) fun m=>Option.bind (Hg N y.2.1 m) fun y =>
  bif y then
   Option.bind (L8 N e t p) fun a=>Option.bind (Hi N e) fun b =>
    bif a==b then
     Option.bind (L9 N t p z) fun y=>Option.bind (K1 N x) fun c =>
      bif y.2.1==c then
       Option.bind (E4 N x) fun l =>
        bif v.2.1==(l.length:Int) then
         Option.bind (Jc N x) fun l =>
          bif v.2.2.1==(l.length:Int) then
           Option.bind (Nl N x) fun n=>bif v.2.2.2.1==n then Option.bind (Di N t p) fun y=>some y else some false
          else some false
        else some false
      else some false
    else some false
  else some false
def tsB(x:CtX×List tEvent.T)(w:Int)(e:tEvent.T)(t:A2 (A2 UInt8))(p:A2 Int)(f:Int)(z:BkC):A3 Bool :=
 Option.bind (H3 N x w) fun q=>Option.bind (Ig N w z) fun la =>
  bif f != 0 then some false
  else
   Option.bind (Qb N w z) fun o=>Option.bind (La N o.2.1 q) fun y =>
    bif !y then some false
    else
     bif !la.2.2.1==decide (0<(q.length:Int))then some false
     else
      bif la.2.2.1 then
       (at? q (i64.wrap ((q.length:Int)-1))).bind fun d=>Option.bind (Hh N la.2.1 d) fun y =>
        bif !y then some false
        else bif !la.2.2.1 then bif la.2.1.2.1 != 0 then some false else tsT N x e t p z else tsT N x e t p z
      else bif !la.2.2.1 then bif la.2.1.2.1 != 0 then some false else tsT N x e t p z else tsT N x e t p z
def Gg:Bb [(.sl tepitaphlaw18Act),(.int .u64),tEvent,(.tab .str),(.tab (.int .u64))] (A3 (Al [.bool])):=fun(l:A2 (UInt8×tEvent.T×CtX)) (w:Int) (e:tEvent.T) (t:A2 Bwy) (p:List
 Int)=>Option.bind (I7 N l 20) fun(y:Int)=>bif y==0 then Option.bind (Di N t p) fun(y:Bool)=>some y else Option.bind (G7 N [e] 1) fun(y:Bool)=>bif !y then Option.bind (Di N t p) fun(y:Bool)=>some y else Option.bind (Mc N
 l) fun x=>Option.bind (Jy N x.1) fun c=>Option.bind (Tx N c x.2) fun b=>A6 b.2.1 (Option.bind (H3 N x w) fun _=>none) fun z=>tsB N x w e t p b.2.2.1 z
def Zo:Aeg prog [Acn N,A9x N,V3 N,V2 N,A2y N,A25 N,V4 N,A7e N,Oh N,A55 N,A56 N,A9k N,Xb N,A58 N,Ack N,Ay3 N,A77 N,A9u N,A9t N,Ali N,Aeu N,A9v N] [] N f3 .lf [(.sl tepitaphlaw18Act),(.int .u64),tEvent,(.tab .str),(.tab (.int .u64))] [.bool] 3 [0,1]=Gg N:=by kernel_rfl
def D_epitaphlaw51_TrailSays:Aeh prog 3 [.bool] 3 [0,1] [(.sl tepitaphlaw18Act),(.int .u64),tEvent,(.tab .str),(.tab (.int .u64))] (Gg N) []:=Zo N▸Ajv mixed func3 rfl
def Dig(d x:Nat):Prop:=1≤d∧x<10 ^ d∧(d=1∨10 ^ (d-1)≤x)
def Dig.exists(x:Nat)(h:x<18446744073709551616):∃d,Dig d x∧d≤20:=by
 have key:∀k x,x<10 ^ (k+1)→∃d,Dig d x∧d≤k+1:=by
  intro k;induction k with
  |zero=>intro x hx;exact⟨1,⟨by omega,by simpa using hx,.inl rfl⟩,by omega⟩
  |succ k ih =>
   intro x hx;by_cases h:x<10 ^ (k+1)
   ·obtain⟨d,h1,h2⟩:=ih x h;exact⟨d,h1,by omega⟩
   ·exact⟨k+2,⟨by omega,hx,.inr (by simpa using h)⟩,by omega⟩
 exact key 19 x (Nat.lt_trans h (by decide))
def Dig.unique{e x:Nat}(h:Dig d x)(h':Dig e x):d=e:=by
 obtain⟨h1,h2,h3⟩:=h;obtain⟨g1,g2,g3⟩:=h';have key:∀ {a b:Nat},1≤a→x<10 ^ a→(b=1∨10 ^ (b-1)≤x)→b≤a:=by
  intro a b ha hx hb;rcases hb with rfl|hb
  ·exact ha
  ·have:10 ^ (b-1)<10 ^ a:=Bv5 hb hx;have:=(Nat.pow_lt_pow_iff_right (show 1<10 by decide)).1 this;omega
 exact Nat.le_antisymm (key g1 g2 h3) (key h1 h2 g3)
def dec(x:Nat):A2 UInt8:=pad (Nat.rec (motive:=fun _=>Nat→Nat) (fun _=>1) (fun _ ih y=>if y<10 then 1 else ih (y/10)+1) 20 x) x
theorem Bcc:∀(k x:Nat),x<10 ^ (k+1)→Dig (Nat.rec (motive:=fun _=>Nat→Nat) (fun _=>1) (fun _ ih y=>if y<10 then 1 else ih (y/10)+1) k x) x
 |0,x,h=>⟨Bpa _,by show x<10 ^ 1;simpa using h,.inl rfl⟩
 |k+1,x,h=>by
  show Dig (if x<10 then 1 else Nat.rec (motive:=fun _=>Nat→Nat) (fun _=>1) (fun _ ih y=>if y<10 then 1 else ih (y/10)+1) k (x/10)+1) x;by_cases hx:x<10
  ·rw[Bq6 hx];exact⟨Bpa _,by simpa using hx,.inl rfl⟩
  ·rw[Bpp hx];obtain⟨h1,h2,h3⟩:=Bcc k (x/10) (Nat.div_lt_of_lt_mul (by rw[Bur,← Btl];exact h));generalize (Nat.rec (motive:=fun _=>Nat→Nat) (fun _=>1) (fun _ ih y=>if y<10 then 1 else ih (y/10)+1) k (x/10):Nat)=d at h1 h2 h3;refine⟨by omega,by rw[Btl];omega,.inr ?_⟩;rw[Bsu];rcases h3 with rfl|h3
   ·simpa using hx
   ·have:d=(d-1)+1:=by omega
    rw[this,Btl];omega
def Au5{x:Nat}(hx:x<18446744073709551616)(h:Dig d x):dec x=pad d x:=by have:=Bcc 20 x (Nat.lt_trans hx (by decide));unfold dec;rw[this.unique h]
theorem Au6:∀(d x:Nat),(pad d x).length=d
 |0,_=>rfl
 |d+1,x=>by simp[pad,Au6 d]
def Bfj(x:Nat)(h:x<18446744073709551616):Wn (IntKind.u8.wrap (u64.wrap (48+((x:Nat):Int).tmod 10)))=dg x:=by
 have h1:((x:Nat):Int).tmod 10=((x % 10:Nat):Int):=rfl;have h2:∀k<10,Wn (IntKind.u8.wrap (u64.wrap (48+((k:Nat):Int))))=UInt8.ofNat (48+k):=by decide +kernel
 rw[h1,h2 _ (Btz _ (by decide))];rfl
def Bnm(a:Nat):((a:Nat):Int).tdiv 10=((a/10:Nat):Int):=rfl
def Bnn(G:Int→A3 (A2 UInt8))(x:Int):Cq N G x=bif decide (x<10)then some [Wn (IntKind.u8.wrap (u64.wrap (48+x.tmod 10)))]
 else (G (u64.wrap (x.tdiv 10))).bind fun (y : A2 UInt8) => bif decide (y.length + [Wn (IntKind.u8.wrap (u64.wrap (48 + x.tmod 10)))].length ≤ 4611686018427387904) then
    some (y++[Wn (IntKind.u8.wrap (u64.wrap (48+x.tmod 10)))])else none:=rfl
def B1v(N M:Nat):∀(d x:Nat),Dig d x→x<18446744073709551616→d≤20→d≤M→B77 (args:=[(.int .u64)]) (res:=[.str]) (Cq N) M (x:Int)=some (pad d x):=by
 induction M with
 |zero=>intro d x h _ _ hd;exact absurd h.1 (by omega)
 |succ M ih =>
  intro d x h hx h20 hd;show Cq N (B77 (Cq N) M) (x:Int)=_;rw[Bnn,Bfj x hx];by_cases h10:x<10
  ·have:d=1:=h.unique ⟨Bpa _,by simpa using h10,.inl rfl⟩;subst this;have:decide (((x:Nat):Int)<10)=true:=by simp;omega
   rw[this];simp[pad]
  ·have hn:decide (((x:Nat):Int)<10)=false:=by simp;omega
   obtain⟨h1,h2,h3⟩:=h;obtain⟨k,rfl⟩:∃k,d=k+1:=⟨d-1,by omega⟩;have hd1:k+1≠1:=by intro hk;rw[hk]at h2;simp at h2;omega
   rw[Btl]at h2;rw[Bsu]at h3;have Bno:Dig k (x/10):=by
    refine⟨by omega,by omega,?_⟩;rcases h3 with h3|h3
    ·exact absurd h3 hd1
    ·by_cases hd2:k=1
     ·exact .inl hd2
     ·right;obtain⟨j,rfl⟩:∃j,k=j+1:=⟨k-1,by omega⟩;rw[Btl]at h3;rw[Bsu];omega
   have hr:=ih k (x/10) Bno (by omega) (by omega) (by omega);rw[hn,Box,Bnm,Bc8 (by omega)];show Option.bind (B77 (args:=[(.int .u64)]) (res:=[.str]) (Cq N) M ((x/10:Nat):Int)) _=_;rw[hr,Bow];have hl:decide ((pad k (x/10)).length + [dg x].length≤4611686018427387904)=true:=by rw[Au6];simp;omega
   rw[hl,Bov];rfl
def Td(N x:Nat)(hx:x<18446744073709551616)(hN:20≤N):Bz N (x:Int)=some (dec x):=by obtain⟨d,h1,h2⟩:=Dig.exists x hx;rw[Au5 hx h1];exact B1v N N d x h1 hx h2 (by omega)
abbrev T8 : A2 UInt8 := [0, 1, 2, 2, 3, 3, 3, 3, 4, 4, 4, 4, 4, 4, 4, 4, 5, 5, 5, 5, 5, 5, 5, 5, 5, 5, 5, 5, 5, 5, 5, 5, 6, 6, 6,
           6,6,6,6,6,6,6,6,6,6,6,6,6,6,6,6,6,6,6,6,6,6,6,6,6,6,6,6,6,7,7,7,7,
           7,7,7,7,7,7,7,7,7,7,7,7,7,7,7,7,7,7,7,7,7,7,7,7,7,7,7,7,7,7,7,7,7,
           7,7,7,7,7,7,7,7,7,7,7,7,7,7,7,7,7,7,7,7,7,7,7,7,7,7,7,8,8,8,8,8,8,
           8,8,8,8,8,8,8,8,8,8,8,8,8,8,8,8,8,8,8,8,8,8,8,8,8,8,8,8,8,8,8,8,8,
           8,8,8,8,8,8,8,8,8,8,8,8,8,8,8,8,8,8,8,8,8,8,8,8,8,8,8,8,8,8,8,8,8,
           8,8,8,8,8,8,8,8,8,8,8,8,8,8,8,8,8,8,8,8,8,8,8,8,8,8,8,8,8,8,8,8,8,
           8,8,8,8,8,8,8,8,8,8,8,8,8,8,8,8,8,8,8,8,8,8,
           8]
def len8:∀k:Nat,k<256→∃c:UInt8,T8[(Wn (IntKind.u8.wrap (k:Int))).toNat]? = some c∧c.toNat≤8∧k<2 ^ c.toNat∧(k=0∨1≤c.toNat∧2 ^ (c.toNat-1)≤k):=by intro k hk;have h:=(by decide +kernel:∀k:Nat,k<256→T8[(Wn (IntKind.u8.wrap (k:Int))).toNat]?.any (fun c=>decide (c.toNat≤8∧k<2 ^ c.toNat∧(k=0∨1≤c.toNat∧2 ^ (c.toNat-1)≤k)))=true) k hk;rw[Option.any_eq_true]at h;obtain⟨c,h1,h2⟩:=h;exact⟨c,h1,Bte h2⟩
def Len(n x:Nat):Prop:=n≤64∧x<2 ^ n∧1≤n∧2 ^ (n-1)≤x
def fd(a b:Nat):((a:Nat):Int).fdiv (b:Int)=((a/b:Nat):Int):=by rw[Bu5 _ (by omega)];rfl
def fd8(a:Nat):((a:Nat):Int).fdiv 256=((a/256:Nat):Int):=fd a 256
def Blp(a:Nat):((a:Nat):Int).fdiv 65536=((a/65536:Nat):Int):=fd a 65536
def Bnp(a:Nat):((a:Nat):Int).fdiv 4294967296=((a/4294967296:Nat):Int):=fd a 4294967296
def Bfk(h:a<9223372036854775808):i64.wrap (a:Int)=(a:Int):=Bsk _ (by omega)
def Blq(N x:Nat)(h0:1≤x)(hx:x<18446744073709551616):∃n:Nat,Me N (x:Int)=some (n:Int)∧Len n x:=by
 have fin:∀(y b:Nat),1≤y→y<256→b≤56→y=x/2 ^ b→∃n:Nat,T8[(Wn (IntKind.u8.wrap (y:Int))).toNat]?.bind (fun c:UInt8=>some (i64.wrap ((b:Int)+(c.toNat:Int))))=some (n:Int)∧Len n x:=by
  intro y b hy1 hy hb e;obtain⟨c,h1,h2,h3,h4⟩:=len8 y hy;refine⟨b+c.toNat,?_,by omega,?_,?_,?_⟩
  ·rw[h1,Bow,show(b:Int)+(c.toNat:Int)=((b+c.toNat:Nat):Int) by omega,Bfk (by omega)]
  ·rw[e]at h3;have:=(Btx (Nat.two_pow_pos b)).1 h3;rw[Nat.pow_add,Bur];exact this
  ·rcases h4 with h4|h4<;>omega
  ·rcases h4 with h4|⟨h4,h5⟩
   ·omega
   ·rw[e]at h5;have:=(Bw8 (Nat.two_pow_pos b)).1 h5;rw[show b+c.toNat-1=(c.toNat-1)+b by omega,Nat.pow_add];exact this
 have s8:∀(y b:Nat),1≤y→y<65536→b≤48→y=x/2 ^ b→∃n:Nat,(bif decide (256≤((y:Nat):Int))then T8[(Wn (IntKind.u8.wrap (((y/256:Nat):Nat):Int))).toNat]?.bind (fun c:UInt8=>some (i64.wrap ((((b+8:Nat):Nat):Int)+(c.toNat:Int))))else T8[(Wn (IntKind.u8.wrap (y:Int))).toNat]?.bind (fun c:UInt8=>some (i64.wrap ((b:Int)+(c.toNat:Int)))))=some (n:Int)∧Len n x:=by
  intro y b hy1 hy hb e;by_cases h:256≤y
  ·rw[Bp7 (by omega),Bov];exact fin (y/256) (b+8) (by omega) (by omega) (by omega) (by rw[e,Nat.pow_add,← Brz])
  ·rw[Bp9 (by omega),Box];exact fin y b hy1 (by omega) (by omega) e
 unfold Me;simp only[Bn];have j8:∀b:Nat,b≤48→i64.wrap ((b:Int)+8)=((b+8:Nat):Int):=fun b hb=>by rw[Bsk _ (by omega)];omega
 have s16:∀(y b:Nat),1≤y→y<4294967296→b≤32→y=x/2 ^ b→i64.wrap ((b:Int)+16)=((b+16:Nat):Int):=fun y b _ _ hb _=>by rw[Bsk _ (by omega)];omega
 by_cases h32:4294967296≤x
 ·rw[Bp7 (show(4294967296:Int)≤(x:Int) by omega),Bov];simp only[Bnp];have hq:x/4294967296=x/2 ^ 32:=rfl;by_cases h16:65536≤x/4294967296
  ·rw[Bp7 (show(65536:Int)≤((x/4294967296:Nat):Int) by omega),Bov];simp only[Blp];have:=s8 (x/4294967296/65536) 48 (by omega) (by omega) (by omega) (by rw[hq,Brz]);simp only[fd8];exact this
  ·rw[Bp9 (show ¬(65536:Int)≤((x/4294967296:Nat):Int) by omega),Box];have:=s8 (x/4294967296) 32 (by omega) (by omega) (by omega) hq;simp only[fd8];exact this
 ·rw[Bp9 (show ¬(4294967296:Int)≤(x:Int) by omega),Box];by_cases h16:65536≤x
  ·skip
   rw[Bp7 (show(65536:Int)≤((x:Nat):Int) by omega),Bov];simp only[Blp];have:=s8 (x/65536) 16 (by omega) (by omega) (by omega) rfl;simp only[fd8];exact this
  ·skip
   rw[Bp9 (show ¬(65536:Int)≤((x:Nat):Int) by omega),Box];have:=s8 x 0 (by omega) (by omega) (by omega) (by simp);simp only[fd8];exact this
abbrev tab0:A2 Int:=[1,10,100,1000,10000,100000,1000000,10000000,100000000,1000000000,10000000000,100000000000,1000000000000,10000000000000,100000000000000,1000000000000000,10000000000000000,100000000000000000,1000000000000000000,10000000000000000000]
def Bfl:∀n<65,(n*78913)/262144<20∧tab0[(n*78913)/262144]? = some ((10 ^ ((n*78913)/262144):Nat):Int)∧2 ^ n≤10 ^ ((n*78913)/262144+1) ∧
  (1≤n→(n*78913)/262144=0∨10 ^ ((n*78913)/262144-1)≤2 ^ (n-1)):=by decide +kernel
def Au7(N x d:Nat)(h0:1≤x)(hx:x<18446744073709551616)(hd:Dig d x):Bu N (x:Int) tab0=some (d:Int):=by
 obtain⟨n,h1,h2,h3,h4,h5⟩:=Blq N x h0 hx;unfold Bu H9 Ha;obtain⟨g1,g2,g3,g4⟩:=Bfl n (by omega);rw[h1,Bow,Bow,show i64.wrap ((n:Int)*78913)=((n*78913:Nat):Int) by rw[Bsk _ (by omega)];omega];rw[show((n*78913:Nat):Int).fdiv 262144=((n*78913/262144:Nat):Int)from fd _ 262144];generalize n*78913/262144=e at g1 g2 g3 g4;have hb:tab0.length.ble 20=true:=rfl;rw[hb,Bov,Aq,g2,Bow];by_cases h:10 ^ e≤x
 ·rw[Bp7 (by omega),Bov,Bow,show(e:Int)+1=((e+1:Nat):Int) by omega,Bfk (by omega)];have:d=e+1:=hd.unique ⟨by omega,by omega,.inr (by simpa using h)⟩;rw[this]
 ·rw[Bp9 (by omega),Box,Bow,Int.add_zero,Bfk (by omega)];have he:e≠0:=by rintro rfl;simp at h;omega
  have:d=e:=hd.unique ⟨by omega,by omega,.inr (by rcases g4 h4 with g|g<;>omega)⟩;rw[this]
def B7r:∀k<100,Eg 0 ((k:Nat):Int)=some (dec k):=by decide +kernel
def Au8(N x:Nat)(hx:x<18446744073709551616)(hN:30≤N):Ci N (x:Int) 10 tab0=some (dec x):=by
 unfold Ci;have e10:((10:Int)==10)=true:=rfl;rw[e10,Bov];by_cases h:x<100
 ·rw[Bp7 (by omega),Bov,Bfk (by omega)];show Option.bind (Eg 0 (x:Int)) _=_;rw[B7r x h,Bow]
 ·obtain⟨d,h1,h2⟩:=Dig.exists x hx;rw[Bp9 (by omega),Box,Au7 N x d (by omega) hx h1,Bow];have hc:Fb 0 (d:Int) 24=true:=by simp[Fb];omega
  obtain⟨r,r1,r2,r3⟩:=Bnl N (List.replicate 24 0) d x (by simp;omega) (by simp) h1.2.1 hx (by omega);simp only[hc,Bov,Brp,Bs3];rw[r1,Bow];rw[List.length_replicate]at r2;have hb:Nat.ble 24 r.1.length=true:=by rw[r2];rfl
  have hb2:(0+d).ble r.1.length=true:=by rw[r2];exact Bqd (by omega)
  rw[hb,Bov,hb2,Bov,Brr,r3,Au5 hx h1]
def Aev(N x:Nat)(hx:x<18446744073709551616)(hN:30≤N):Dh N (x:Int) 10 tab0=some (dec x):=by unfold Dh;rw[Au8 N x hx hN];rfl
def Pp(x:Nat)(hx:x<18446744073709551616):(dec x).length≤20:=by obtain⟨d,h1,h2⟩:=Dig.exists x hx;rw[Au5 hx h1,Au6];exact h2
open Go.Sort
section
variable{α:Type}[DecidableEq α]
def Qc(p:α):A2 α→A2 α
 |[]=>[]
 |y::r=>if y=p then Qc p r else y::Qc y r
def comp:A2 α→A2 α
 |[]=>[]
 |x::r=>x::Qc x r
theorem Agj(q y:α):∀(p:α) (l:A2 α),(p::l).getLast? = some q→Qc p (l++[y])=if y=q then Qc p l else Qc p l++[y]
 |p,[],h=>by
  simp at h;subst h;simp[Qc]
 |p,x::r,h=>by
  rw[List.getLast?_cons_cons]at h;simp only[Br1,Qc];have ih:=Agj q y x r h;by_cases hx:x=p
  ·subst hx;rw[Bq6 rfl,Bq6 rfl,ih]
  ·rw[Bpp hx,Bpp hx,ih];by_cases hy:y=q
   ·rw[Bq6 hy,Bq6 hy]
   ·rw[Bpp hy,Bpp hy];rfl
def A59{l:A2 α}{m:Nat}(hm:0<m){a b:α}(ha:l[m-1]? = some a)(hb:l[m]? = some b):comp (l.take (m+1))=if b=a then comp (l.take m)else comp (l.take m)++[b]:=by
 have Bg:m<l.length:=(Bp2.1 hb).1;have e:l.take (m+1)=l.take m++[b]:=by rw[Bqu,hb];rfl
 rw[e];cases hl:l.take m with
 |nil=>simp at hl;rcases hl with h|h<;>(subst h;simp at *)
 |cons x r =>
  have Ahu:(x::r).getLast? = some a:=by rw[← hl,List.getLast?_eq_getElem?,Bq1,Bqj,Nat.min_eq_left (by omega),Bq6 (by omega)];exact ha
  simp only[Br1,comp];rw[Agj a b x r Ahu];by_cases h:b=a
  ·rw[Bq6 h,Bq6 h]
  ·rw[Bpp h,Bpp h]
def Ay4(l:A2 α):comp (l.take 1)=l.take 1:=by
 cases l with
 |nil=>rfl
 |cons x r=>simp[comp,Qc]
end
def Au9(e f:Int×Int):(e.fst==f.fst&&e.snd==f.snd)=decide (e=f):=by obtain⟨a,b⟩:=e;obtain⟨c,d⟩:=f;by_cases h1:a=c<;>by_cases h2:b=d<;>simp[h1,h2]
def Hu{α:Type}{l:A2 α}(h:i<l.length):l[i]? = some l[i]:=Bpd h
def Ec(n:Nat):((n:Int)).toNat=n:=rfl
def Bcd(l:A2 (Int×Int))(r:A2 (Int×Int)×Nat):Prop:=r.1.take r.2=comp l∧r.2≤r.1.length
def B1w(l:A2 (Int×Int))(hb:l.length<4611686018427387904)(hN:l.length<N):∃r,Fx N l l.length=some r∧Bcd l r:=by
 unfold Fx;simp only[cond_eq_ite,Au9];by_cases h2:((l.length:Nat):Int)<2
 ·rw[Bq6 (by simpa using h2)];refine⟨_,rfl,?_,Bpa _⟩;have:l=l.take 1:=by rw[Brc (by omega)]
  rw[Bpy,this,Ay4]
 ·rw[Bpp (by simpa using h2)];refine Gy (fun n z=>∃k:Nat,z=(((k:Int),()),(),(),l,())∧1≤k∧k≤l.length∧n=l.length-k∧comp (l.take k)=l.take k) ?_ N (l.length-1) _ ⟨1,rfl,by omega,by omega,rfl,Ay4 l⟩ (by omega);rintro n z rec ⟨k,rfl,k1,k2,hn,hc⟩ ih;simp only;by_cases hk:k<l.length
  ·have e1:i64.wrap ((k:Int)-1)=((k-1:Nat):Int):=Ln (by omega) (by omega);have e2:i64.wrap ((k:Int)+1)=((k+1:Nat):Int):=Ad (by omega);simp only[e1,e2,Ec,Bq7,Hu hk,Hu (show k-1<l.length by omega),Bow];rw[Bq6 (by simp;omega),Bq6 (by simp;omega),Bq6 (by simp;omega)];have Bgz:=A59 (l:=l) (m:=k) (by omega) (Hu (show k-1<l.length by omega)) (Hu hk);by_cases he:l[k]=l[k-1]
   ·rw[Bq6 (by simpa using he),Bq6 (by simp[Fb];omega)];refine Gy (fun n z=>∃(i q:Nat) (c:A2 (Int×Int)),z=(((i:Int),(q:Int),()),(),(),c,())∧1≤q∧k+q≤l.length∧i+1≤k+q∧c.length=l.length ∧
     (∀j,i≤j→c[j]? = l[j]?)∧c.take i=comp (l.take (k+q))∧n=l.length-(k+q)) ?_ N (l.length-(k+1)) _
     ⟨k,1,l,rfl,by omega,by omega,by omega,rfl,fun _ _=>rfl,by rw[Bgz,Bq6 he,hc],rfl⟩ (by omega)
    rintro n z rec ⟨i,q,c,rfl,q1,q2,q3,hcl,hcj,hct,hn⟩ ih';simp only;by_cases hq:k+q<l.length
    ·have f1:i64.wrap ((q:Int)-1)=((q-1:Nat):Int):=Ln (by omega) (by omega);have f2:i64.wrap ((q:Int)+1)=((q+1:Nat):Int):=Ad (by omega);have f3:i64.wrap ((i:Int)+1)=((i+1:Nat):Int):=Ad (by omega);have g1:c[k+q]? = some l[k+q]:=by rw[hcj _ (by omega),Hu hq]
     have g2:c[k+(q-1)]? = some l[k+(q-1)]:=by rw[hcj _ (by omega),Hu (by omega)]
     have g3:c[i]? = some (c[i]'(by omega)):=Hu (by omega);simp only[f1,f2,f3,Ec,g1,g2,g3,Bow];rw[Bq6 (by simp;omega),Bq6 (by simp;omega),Bq6 (by simp;omega)];have hs:=A59 (l:=l) (m:=k+q) (a:=l[k+(q-1)]) (by omega) (by rw[show k+q-1=k+(q-1) by omega];exact Hu _) (Hu hq);by_cases hne:l[k+q]=l[k+(q-1)]
     ·rw[Bpp (by simpa using hne)];refine ih' (l.length-(k+(q+1))) _ (by omega) ⟨i,q+1,c,rfl,by omega,by omega,by omega,hcl,hcj,?_,rfl⟩;rw[hct,← Bs6,hs,Bq6 hne]
     ·rw[Bq6 (by simpa using hne),Bq6 (by simp;omega),Bq6 (by simp;omega)];refine ih' (l.length-(k+(q+1))) _ (by omega) ⟨i+1,q+1,c.set i l[k+q],rfl,by omega,by omega,by omega,by simpa using hcl,?_,?_,rfl⟩
      ·intro j hj;rw[Bux (by omega)];exact hcj j (by omega)
      ·rw[← Bs6,hs,Bpp hne,← hct,Bqu,List.take_set_of_le (Bpa _),Bw7 (by omega)];rfl
    ·rw[Bpp (by simp;omega),Bq6 (by simp[Fb];omega),Bq6 (by simp[Fb];omega)];refine⟨_,rfl,?_,?_⟩
     ·have:k+q=l.length:=by omega
      rw[this,Bpy]at hct;simp only[Ec,Bs3];rw[← hct,List.take_take,Nat.min_self]
     ·simp only[Ec,Bs3,Bq1];omega
   ·rw[Bpp (by simpa using he)];refine ih (l.length-(k+1)) _ (by omega) ⟨k+1,rfl,by omega,by omega,rfl,?_⟩;rw[Bgz,Bpp he,hc,Bqu,Hu hk];rfl
  ·rw[Bpp (by simp;omega)];refine⟨_,rfl,?_,Bpa _⟩;have:k=l.length:=by omega
   subst this;rw[Bpy]at hc⊢;exact hc.symm
def Gs(l:A2 (Int×Int)):A2 (Int×Int):=comp (De l)
def Ay5(l:A2 (Int×Int)):(De l).length=l.length:=by simp[De]
def Alj(l:A2 (Int×Int))(hb:l.length*16≤140737488355328)(hN:l.length<N):Sl N l=some (Gs l):=by
 unfold Sl;cases l with
 |nil =>simp only[Dd,A6,Bow,Gs,De,List.mergeSort_nil,comp];rfl
 |cons x r =>
  have hlen:(x::r).length<4611686018427387904:=by omega
  have Ad3:Ao (x::r).length 16=true:=by simp only[Ao,Bq4,Bsf];omega
  generalize hl:x::r=l at *;have hs:=Ay5 l;obtain⟨q,hq,h1,h2⟩:=B1w N (De l) (by omega) (by omega);rw[hs]at hq;have e:Dd l (some none) (fun(y:Int×Int) r=>bif Ao (y::r).length 16 then some (some (y::r,(y::r).length))else none)=some (some (l,l.length)):=by subst hl;simp only[Dd,Ad3,Bov]
  rw[e];simp only[Bow,A6,Bpy,Bst,Bq0,hq];have b1:Nat.ble l.length l.length=true:=by simp
  have b2:Nat.ble l.length 4611686018427387903=true:=by simp only[Nat.ble_eq];omega
  have b3:Nat.ble (0+q.2) q.1.length=true:=by simp only[Nat.ble_eq];omega
  simp only[b1,b2,b3,Bov,Brr,h1];rfl
def C0{α:Type}{l:A2 α}(h:i<l.length):l[i]? = some l[i]:=Bpd h
def dec_lt(a b:Nat):decide ((a:Int)<(b:Int))=decide (a<b):=by simp
def Apm(l:A2 (Int×Int))(d:Int×Int)(hl:l.length<9223372036854775807)(hN:l.length<N):G8 N l d=some (decide (d∈l)):=by
 unfold G8;refine(Nz l.length (fun k=>some (decide (d∈l.drop k))) 0 ?_ ?_ N hN).trans rfl
 ·intro rec k _ hk hr;simp only[dec_lt,Aq,C0 hk,Bow,Ad (show k+1<9223372036854775808 by omega),hr,Bp7 hk,Bov,Au9];have e:l.drop k=l[k]::l.drop (k+1):=Bqe hk;rw[e];by_cases h:l[k]=d
  ·subst h;simp[-List.getElem_cons_drop]
  ·rw[Bp9 h,Box];have:(d∈l[k]::l.drop (k+1))↔d∈l.drop (k+1):=by simp[-List.getElem_cons_drop,Brl h]
   simp only[this]
 ·intro rec k hk;simp only[dec_lt,Bp9 (show ¬k<l.length by omega),Box];rw[Bs0 hk];rfl
def Bce(l:A2 (Int×Int))(d:Int×Int)(hl:l.length<9223372036854775807)(hN:l.length<N) :
  ∃i:Int,H2 N l d=some i∧decide (0≤i)=decide (d∈l):=by
 unfold H2;refine Gy (Q:=fun i:Int=>decide (0≤i)=decide (d∈l)) (fun n z=>∃k:Nat,z=(((k:Int),()),(),(),())∧k≤l.length∧n=l.length-k∧¬d∈l.take k) ?_ N l.length _ ⟨0,rfl,Brw _,rfl,by simp⟩ hN;rintro n z rec ⟨k,rfl,h1,h2,h3⟩ ih;by_cases hk:k<l.length
 ·simp only[dec_lt,Aq,C0 hk,Bow,Ad (show k+1<9223372036854775808 by omega),Bp7 hk,Bov,Au9];by_cases he:d=l[k]
  ·refine⟨(k:Int),by simp[he],?_⟩;have:d∈l:=by rw[he];exact Bqi hk
   rw[Bp7 this];simp
  ·rw[Bp9 he,Box];refine ih (l.length-(k+1)) _ (by omega) ⟨k+1,rfl,by omega,rfl,?_⟩;rw[Bqu,Bp4,C0 hk];simp[h3,he]
 ·simp only[dec_lt,Bp9 hk,Box];refine⟨-1,rfl,?_⟩;rw[Brc (by omega)]at h3;rw[Bp9 h3];rfl
def has_eq(l:A2 (Int×Int))(d:Int×Int)(hl:l.length<9223372036854775807)(hN:l.length<N):A6j N l d=some (decide (d∈l)):=by obtain⟨i,h1,h2⟩:=Bce N l d hl hN;unfold A6j I5;rw[h1];simp only[Bow,h2]
abbrev Ev:=(Int×Int)×UInt8×Int×UInt8×A2 UInt8×A2 (Int×Int)
def Bcf(a:Ev)(d:Int×Int)(hl:a.2.2.2.2.2.length<9223372036854775807)(hN:a.2.2.2.2.2.length<N):Ta N a d=some (decide (d∈a.2.2.2.2.2)):=by unfold Ta;simp only[has_eq N _ _ hl hN,Bow]
def smE(e:Ev):Prop:=e.2.2.2.2.2.length≤5000
def copy_eq(e:Ev)(he:smE e):J5 N e=some e:=by
 unfold J5;have:Fy N e.2.2.2.2.2=some e.2.2.2.2.2:=by
  unfold Fy Aju;unfold smE at he;cases hk:e.2.2.2.2.2 with
  |nil=>rfl
  |cons y r =>
   rw[hk]at he;have Ad3:Ao (y::r).length 16=true:=by simp only[Ao,Bq4,Bsf];omega
   simp only[Dd,Ad3,Bov]
 rw[this];rfl
theorem A6k(x y:Int×Int):En N x y=some (Du x y):=by
 simp only[En,Du,cond_eq_ite]
 grind
def Ye(x y:Int×Int):Bool:=ltOf Du x y
def Aew(x y:Int×Int)(h:Ye x y=true):Ye y x=false:=by unfold Ye at *;rw[Q1]at *;simp at *;omega
def Apn{x y z:Int×Int}(h:Ye x y=true)(h':Ye y z=true):Ye x z=true:=by unfold Ye at *;rw[Q1]at *;simp at *;omega
def Apo(x y:Int×Int)(h1:Ye x y=false)(h2:Ye y x=false):x=y:=A6g x y h1 h2
theorem gtD(x y:Int×Int):decide (0<Du x y)=Ye y x:=by
 unfold Ye;rw[Q1,Bqq];unfold Du;simp only[Bsf]
 grind
def Bfm(x y:Int×Int):decide (Du x y<0)=Ye x y:=rfl
def Ou(d:Int×Int)(l:A2 (Int×Int)):A2 (Int×Int):=l.filter (fun x=>Ye x d)++[d]++l.filter (fun x=>Ye d x)
def Z4(d:Int×Int)(l:A2 (Int×Int)):(Ou d l).length≤l.length+1:=by
 unfold Ou;have:∀l:A2 (Int×Int),(l.filter (fun x=>Ye x d)).length+(l.filter (fun x=>Ye d x)).length≤l.length:=by
  intro l;induction l with
  |nil=>simp
  |cons x r ih =>
   simp only[Br4];cases h1:Ye x d with
   |true=>rw[Aew _ _ h1];simp;omega
   |false=>cases Ye d x<;>simp<;>omega
 have:=this l;simp;omega
def Alk(d x:Int×Int)(l:A2 (Int×Int)):x∈Ou d l↔x=d∨x∈l:=by
 unfold Ou;simp only[Bp4,Bpv,Bpg];constructor
 ·rintro ((⟨h,_⟩|h)|⟨h,_⟩)
  ·exact .inr h
  ·exact .inl h
  ·exact .inr h
 ·rintro (h|h)
  ·exact .inl (.inr h)
  ·cases h1:Ye x d with
   |true=>exact .inl (.inl ⟨h,rfl⟩)
   |false =>
    cases h2:Ye d x with
    |true=>exact .inr ⟨h,rfl⟩
    |false=>exact .inl (.inr (Apo _ _ h1 h2))
def Ay6(d:Int×Int)(l:A2 (Int×Int))(h:Sd Ye l):Sd Ye (Ou d l):=by
 unfold Ou Sd;rw[Bru,Bqr,Bup,Bpw];refine⟨Bu3 _ h,⟨fun y hy=>(Bpv.1 hy).2,Bu3 _ h⟩,?_⟩;intro a ha b hb;have h1:=(Bpv.1 ha).2;rcases Boz.1 hb with rfl|hb
 ·exact h1
 ·exact Apn h1 (Bpv.1 hb).2
def Ay7(l:A2 (Int×Int)):A2 (Int×Int):=l.foldl (fun q d=>Ou d q) []
theorem A5a:∀(l q:A2 (Int×Int)),Sd Ye q→Sd Ye (l.foldl (fun q d=>Ou d q) q)∧(∀x,x∈l.foldl (fun q d=>Ou d q) q↔x∈q∨x∈l)∧(l.foldl (fun q d=>Ou d q) q).length≤q.length+l.length
 |[],q,h=>⟨h,by simp,by simp⟩
 |d::r,q,h=>by
  obtain⟨h1,h2,h3⟩:=A5a r (Ou d q) (Ay6 d q h);refine⟨h1,fun x=>?_,?_⟩
  ·rw[Bqp,h2,Alk];simp;constructor<;>rintro (h|h)<;>grind
  ·rw[Bqp];have:=Z4 d q;simp;omega
theorem A9y{p x:Int×Int}:∀ {l:A2 (Int×Int)},(x=p∨x∈Qc p l)↔(x=p∨x∈l)
 |[]=>by simp[Qc]
 |y::r=>by
  simp only[Qc];by_cases hy:y=p
  ·subst hy;rw[Bq6 rfl,A9y (l:=r)];simp
  ·rw[Bpp hy];have:=A9y (p:=y) (x:=x) (l:=r);simp only[Boz];rw[this]
theorem A9z:∀(p:Int×Int) (l:A2 (Int×Int)),(p::l).Pairwise (fun a b=>Ye b a=false)→Sd Ye (p::Qc p l)
 |p,[],h=>by simp[Qc,Sd]
 |p,y::r,h=>by
  have h':=h;simp only[Bpw,Boz]at h';simp only[Qc];by_cases hy:y=p
  ·subst hy;rw[Bq6 rfl];exact A9z y r (by simp only[Bpw];exact⟨fun a ha=>h'.1 a (.inr ha),h'.2.2⟩)
  ·rw[Bpp hy];have ih:=A9z y r (by simp only[Bpw];exact h'.2);have hpy:Ye p y=true:=by
    cases hh:Ye p y with
    |true=>rfl
    |false=>exact absurd (Apo _ _ (h'.1 y (.inl rfl)) hh) hy
   unfold Sd at *;rw[Bpw];refine⟨fun a ha=>?_,ih⟩;rcases Boz.1 ha with rfl|ha
   ·exact hpy
   ·exact Apn hpy ((Bpw.1 ih).1 a ha)
def Y1(l:A2 (Int×Int)):Sd Ye (Gs l)∧∀x,x∈Gs l↔x∈l:=by
 have hp:(De l).Pairwise (fun a b=>Ye b a=false):=by
  have:=Buf (le:=fun x y=>!(ltOf Du) y x) (by
   intro a b c h1 h2;simp only[Btc]at *;exact T9.ntrans _ _ _ h2 h1) (by
   intro a b;cases h:ltOf Du b a with
   |false=>simp
   |true=>simp ;exact Aew b a h) l
  refine this.imp ?_;intro a b h;simpa[Ye]using h
 have hm:∀x,x∈De l↔x∈l:=fun x=>by simp[De]
 unfold Gs;cases hs:De l with
 |nil =>rw[hs]at hm;exact⟨by simp[comp,Sd],by simpa[comp]using hm⟩
 |cons p r =>rw[hs]at hm hp;refine⟨A9z p r hp,fun x=>?_⟩;simp only[comp,Boz];rw[A9y,← hm x,Boz]
def Zp(l:A2 (Int×Int)):Gs l=Ay7 l:=by obtain⟨h1,h2⟩:=Y1 l;obtain⟨h3,h4,_⟩:=A5a l [] (by simp[Sd]);exact Sd.ext Aew h1 h3 fun x=>by rw[h2,Ay7,h4];simp
def A6l(l:A2 (Int×Int))(d:Int×Int)(hl:l.length≤1000000)(hN:1000000<N):Ep N l d=some (Ou d l):=by
 unfold Ep;have e0:=foldl_filter (fun x=>Ye x d) l [];rw[Fl l (fun a x=>cond (Ye x d) (a++[x]) a) [] (fun a=>some (a++[d]++l.filter (fun x=>Ye d x))) ?_ ?_ N (by omega),e0]
 ·rfl
 ·intro rec k a hk ha;have hal:a.length≤k:=by rw[ha,foldl_filter,Bpx];have:=Bq9 (fun x=>Ye x d) (l.take k);rw[Bq1]at this;omega
  have hf:Ao (a.length + [l[k]].length) 16=true:=fit (by simp;omega) (by simp;omega);simp only[dec_lt,Bp7 hk,Bov,Aq,C0 hk,Bow,A6k,Bfm,hf,Ad (show k+1<9223372036854775808 by omega)];cases Ye l[k] d<;>rfl
 ·intro rec;have hal:(l.foldl (fun a x=>cond (Ye x d) (a++[x]) a) []).length≤l.length:=by rw[foldl_filter,Bpx];exact Bq9 _ _
  generalize l.foldl (fun a x=>cond (Ye x d) (a++[x]) a) []=b at *;have hf:Ao (b.length + [d].length) 16=true:=fit (by simp;omega) (by simp;omega);simp only[dec_lt,Bp9 (Bri _),Box,hf,Bov];have e1:=foldl_filter (fun x=>Ye d x) l (b++[d]);rw[Fl l (fun a x=>cond (Ye d x) (a++[x]) a) (b++[d]) (fun a=>some a) ?_ ?_ N (by omega),e1]
  ·intro rec k a hk ha;have hal:a.length≤k+b.length+1:=by rw[ha,foldl_filter];have:=Bq9 (Ye d) (l.take k);rw[Bq1]at this;rw[Bq2,Bq2,Bs5];omega
   have hf:Ao (a.length + [l[k]].length) 16=true:=fit (by simp;omega) (by simp;omega);simp only[dec_lt,Bp7 hk,Bov,Aq,C0 hk,Bow,A6k,gtD,hf,Ad (show k+1<9223372036854775808 by omega)];cases Ye d l[k]<;>rfl
  ·intro rec;simp only[dec_lt,Bp9 (Bri _),Box]
def dsE(e:Ev):A2 (Int×Int):=e.1::e.2.2.2.2.2
variable{l g:A2 Ev}{m q:Jh}{x e:Ev}
def Bfn(h:smE e):(dsE e).length≤5001:=by unfold dsE smE at *;simp;omega
def Aco(h:∀e∈l,smE e):(l.flatMap dsE).length≤5001*l.length:=by
 induction l with
 |nil=>simp
 |cons e r ih =>
  have h1:=Bfn (h e Bp6);have h2:=ih fun x hx=>h x (Bp5 _ hx)
  rw[Btv,Bq2,Bpk];omega
def Aua(h:∀e∈l,smE e)(k:Nat):∀e∈l.take k,smE e:=fun e he=>h e (Btg he)
def Bfo(l:A2 Ev)(hl:l.length≤100)(Ej:∀e∈l,smE e)(hN:1000000<N):Vm N l=some (Gs (l.flatMap dsE)):=by
 unfold Vm;have e0:=foldl_flatMap dsE l [];have hfl:=Aco Ej;rw[Fl l (fun a e=>a++dsE e) [] (fun a=>Option.bind (Sl N a) fun y=>some y) ?_ ?_ N (by omega),e0]
 ·rw[Bpx,Alj N _ (by omega) (by omega)];rfl
 ·intro rec k a hk ha;have hal:a.length≤5001*100:=by rw[ha,foldl_flatMap,Bpx];have:=Aco (Aua Ej k);rw[Bq1]at this;omega
  have hk2:l[k].2.2.2.2.2.length≤5000:=Ej _ (Bqi hk);have hf1:Ao (a.length + [l[k].1].length) 16=true:=fit (by simp;omega) (by simp;omega);have hf2:Ao ((a++[l[k].1]).length+l[k].2.2.2.2.2.length) 16=true:=fit (by simp;omega) (by simp;omega);simp only[dec_lt,Bp7 hk,Bov,Aq,C0 hk,Bow,hf1,hf2,Ad (show k+1<9223372036854775808 by omega)];simp[dsE]
 ·intro rec;simp only[dec_lt,Bp9 (Bri _),Box]
def dead(l:A2 Ev)(d:Int×Int):Bool:=l.any fun e=>decide (d∈e.2.2.2.2.2)
def Bfp(l:A2 Ev)(d:Int×Int)(hl:l.length≤100)(Ej:∀e∈l,smE e)(hN:10000<N):Vi N l d=some (dead l d):=by
 unfold Vi dead;refine(Nz l.length (fun k=>some ((l.drop k).any fun e=>decide (d∈e.2.2.2.2.2))) 0 ?_ ?_ N (by omega)).trans rfl
 ·intro rec k _ hk hr;have hk2:l[k].2.2.2.2.2.length≤5000:=Ej _ (Bqi hk);simp only[dec_lt,Aq,C0 hk,Bow,Ad (show k+1<9223372036854775808 by omega),hr,Bp7 hk,Bov];rw[Bcf N _ _ (by omega) (by omega),Bow];have e:l.drop k=l[k]::l.drop (k+1):=Bqe hk;rw[e,Bt1];cases decide (d∈l[k].2.2.2.2.2)<;>simp
 ·intro rec k hk;simp only[dec_lt,Bp9 (show ¬k<l.length by omega),Box];rw[Bs0 hk];rfl
def Sr{α:Type}(p:α→Bool)(l:A2 α)(k:Nat):((l.take k).filter p).length≤k:=by have:=Bq9 p (l.take k);rw[Bq1]at this;omega
def B7s(h:∀e∈l,smE e)(p:Ev→Bool):∀e∈l.filter p,smE e:=fun e he=>h e (Bpv.1 he).1
abbrev Cl:Type:=Int×Int
def D8(r:Cl):Bool:=decide (1≤r.1)&&decide (r.1≤r.2)&&decide (r.2≤281474976710655)
def inR(r:Cl)(n:Int):Bool:=D8 r&&decide (r.1≤n)&&decide (n≤r.2)
def Eb(l:A2 Cl)(n:Int):Bool:=l.any fun r=>inR r n
variable{r:Cl}{out:A2 Cl}
def Bt:D8 r=true↔1≤r.1∧r.1≤r.2∧r.2≤281474976710655:=by simp[D8,Bwm]
def Js:inR r n=true↔D8 r=true∧r.1≤n∧n≤r.2:=by simp[inR,Bwm]
def Fh{l:A2 Cl}:Eb l n=true↔∃r∈l,D8 r=true∧r.1≤n∧n≤r.2:=by simp[Eb,Js]
def Cm(a b:A2 Cl)(n:Int):Eb (a++b) n=(Eb a n||Eb b n):=by simp[Eb]
def Vg(n:Int):Eb [] n=false:=rfl
def Pb(r:Cl)(a:A2 Cl)(n:Int):Eb (r::a) n=(inR r n||Eb a n):=rfl
theorem Bcg(r:Cl):I8 N r=some (D8 r):=by
 simp only[I8,D8,cond_eq_ite]
 grind
def Aa0(l:A2 Cl)(n:Int)(hl:l.length<9223372036854775807)(hN:l.length<N):Dg N l n=some (Eb l n):=by
 unfold Dg;refine(Nz l.length (fun k=>some (Eb (l.drop k) n)) 0 ?_ ?_ N hN).trans rfl
 ·intro rec k _ hk hr;simp only[dec_lt,Aq,C0 hk,Bow,Ad (show k+1<9223372036854775808 by omega),hr,Bp7 hk,Bov,Bcg];have e:l.drop k=l[k]::l.drop (k+1):=Bqe hk;rw[e,Pb,inR];cases D8 l[k]<;>simp;cases decide (l[k].1≤n)<;>cases decide (n≤l[k].2)<;>simp
 ·intro rec k hk;simp only[dec_lt,Bp9 (show ¬k<l.length by omega),Box];rw[Bs0 hk];rfl
def Fu(out:A2 Cl)(x:Cl):A2 Cl :=
 match out.getLast? with
 |none=>[x]
 |some e=>if x.1≤e.2+1 then out.set (out.length-1) (e.1,if x.2>e.2 then x.2 else e.2)else out++[x]
def Mh(l:A2 Cl):A2 Cl:=(Df (l.filter D8)).foldl Fu []
structure A5b(out:List Cl):Prop where
 may:∀r∈out,D8 r=true
 apart:out.Pairwise fun a b=>a.2+1<b.1
def A6e(x:Cl):Fu [] x=[x]:=rfl
def Sf(o:A2 Cl)(e x:Cl):Fu (o++[e]) x=if x.1≤e.2+1 then o++[(e.1,if x.2>e.2 then x.2 else e.2)]else (o++[e])++[x]:=by
 simp only[Fu,Bu2,Btp,Bsw];split
 ·simp
 ·rfl
def Fi{α:Type}(l:A2 α):l=[]∨∃o e,l=o++[e]:=by
 rcases Buq l with h|⟨o,e,h⟩
 ·exact .inl h
 ·exact .inr ⟨o,e,by simpa using h⟩
def A4k{x:Cl}(h:A5b out)(hx:D8 x=true)(hle:∀r∈out,r.1≤x.1) :
  A5b (Fu out x)∧(∀n,Eb (Fu out x) n=(Eb out n||inR x n))∧(∀r∈Fu out x,r.1≤x.1):=by
 rcases Fi out with rfl|⟨o,e,rfl⟩
 ·rw[A6e];refine⟨⟨by simpa using hx,by simp⟩,fun n=>by simp[Eb],by simp⟩
 ·have he:=h.may e (by simp);have hee:=hle e (by simp);rw[Bt]at he hx;have hap:=h.apart;rw[Bqr]at hap;obtain⟨p1,_,p3⟩:=hap;rw[Sf];split
  ·rename_i hm;refine⟨⟨?_,?_⟩,?_,?_⟩
   ·intro r hr;rcases Bp4.1 hr with hr|hr
    ·exact h.may r (by simp[hr])
    ·simp at hr;subst hr;rw[Bt];simp only;split<;>omega
   ·rw[Bqr];refine⟨p1,by simp,?_⟩;intro a ha b hb;simp at hb;subst hb;exact p3 a ha e (by simp)
   ·intro n;rw[Cm,Cm];have:Eb [(e.1,if x.2>e.2 then x.2 else e.2)] n=(Eb [e] n||inR x n):=by rw[Bqq];simp only[Eb,Bt1,Btk,Bt2,Br3,Js,Bt];split<;>constructor<;>intro hh<;>omega
    rw[this,Bvd]
   ·intro r hr;rcases Bp4.1 hr with hr|hr
    ·exact hle r (by simp[hr])
    ·simp at hr;subst hr;exact hee
  ·rename_i hm;refine⟨⟨?_,?_⟩,?_,?_⟩
   ·intro r hr;rcases Bp4.1 hr with hr|hr
    ·exact h.may r hr
    ·simp at hr;subst hr;rw[Bt];exact hx
   ·rw[Bqr];refine⟨h.apart,by simp,?_⟩;intro a ha b hb;simp at hb;subst hb;rcases Bp4.1 ha with ha|ha
    ·have:=p3 a ha e (by simp);omega
    ·simp at ha;subst ha;omega
   ·intro n;rw[Cm];simp[Eb]
   ·intro r hr;rcases Bp4.1 hr with hr|hr
    ·exact hle r hr
    ·simp at hr;subst hr;omega
theorem Sg:∀(s out:A2 Cl),A5b out→(∀x∈s,D8 x=true)→s.Pairwise (fun x y=>x.1≤y.1)→(∀r∈out,∀x∈s,r.1≤x.1) →
  A5b (s.foldl Fu out)∧∀n,Eb (s.foldl Fu out) n=(Eb out n||Eb s n)
 |[],out,h,_,_,_=>⟨h,fun n=>by simp[Vg]⟩
 |x::s,out,h,hs,hp,hle=>by
  obtain⟨h1,h2,h3⟩:=A4k h (hs x (by simp)) fun r hr=>hle r hr x (by simp)
  rw[Bpw]at hp;obtain⟨i1,i2⟩:=Sg s (Fu out x) h1 (fun y hy=>hs y (by simp[hy])) hp.2 (fun r hr y hy=>by
   have:=h3 r hr;have:=hp.1 y hy;omega)
  refine⟨i1,fun n=>?_⟩;rw[Bqp,i2 n,h2 n,Pb,Bvd]
def Akl{a b:A2 Cl}(h:a.Perm b)(n:Int):Eb a n=Eb b n:=by
 rw[Bqq,Fh,Fh];constructor<;>rintro ⟨r,hr,hh⟩
 ·exact⟨r,h.mem_iff.1 hr,hh⟩
 ·exact⟨r,h.mem_iff.2 hr,hh⟩
def A9a(l:A2 Cl)(n:Int):Eb (l.filter D8) n=Eb l n:=by
 rw[Bqq,Fh,Fh];constructor
 ·rintro ⟨r,hr,hh⟩;exact⟨r,(Bpv.1 hr).1,hh⟩
 ·rintro ⟨r,hr,hh⟩;exact⟨r,Bpv.2 ⟨hr,hh.1⟩,hh⟩
def U4(l:A2 Cl):A5b (Mh l)∧∀n,Eb (Mh l) n=Eb l n:=by obtain⟨p1,p2⟩:=Vh (l.filter D8);obtain⟨h1,h2⟩:=Sg (Df (l.filter D8)) [] ⟨by simp,by simp⟩ (fun x hx=>(Bpv.1 (p1.mem_iff.1 hx)).2) p2 (by simp);refine⟨h1,fun n=>?_⟩;unfold Mh;rw[h2 n,Vg,Bta,Akl p1,A9a]
def A1w(out:A2 Cl)(x:Cl):(Fu out x).length≤out.length+1:=by
 rcases Fi out with rfl|⟨o,e,rfl⟩
 ·simp[Fu]
 ·rw[Sf];split<;>simp
theorem Tr:∀(s out:A2 Cl),(s.foldl Fu out).length≤out.length+s.length
 |[],out=>by simp
 |x::s,out=>by
  have:=Tr s (Fu out x);have:=A1w out x;simp only[Bqp,Bpk];omega
def Acp(l:A2 Cl):(Mh l).length≤l.length:=by have h1:=Tr (Df (l.filter D8)) [];have h2:=(Vh (l.filter D8)).1.length_eq;have h3:=Bq9 D8 l;unfold Mh;simp at h1;omega
def owR(g:A2 Cl):A3 (A2 Cl×Nat):=if g=[]then none else some (g,g.length)
def A6m:owR []=none:=rfl
def Acq{g:A2 Cl}(h:g≠[]):owR g=some (g,g.length):=by simp[owR,h]
def Rp(o:A2 Cl)(e:Cl):owR (o++[e])=some (o++[e],(o++[e]).length):=Acq (by simp)
def Ss{x:Int}(h:0≤x)(h':x<18446744073709551616):u64.wrap x=x:=by simp[IntKind.wrap,IntKind.bits,IntKind.signed];omega
def Ay8:Df []=[]:=by have:=(Vh []).1.length_eq;exact Brt.1 (by simpa using this)
def B7t(e:Cl){R:Type}(a b:R):(bif decide (0<e.1)then (bif decide (e.1≤e.2)then (bif decide (e.2≤281474976710655)then a else b)else b)else b)=bif D8 e then a else b:=by
 have:decide (0<e.1)=decide (1≤e.1):=by rw[Bu4];omega
 rw[this,D8];cases decide (1≤e.1)<;>cases decide (e.1≤e.2)<;>cases decide (e.2≤281474976710655)<;>rfl
def Aex(l:A2 Cl)(hk:k<l.length):(l.take (k+1)).filter D8=bif D8 l[k]then (l.take k).filter D8++[l[k]]else (l.take k).filter D8:=by rw[Bqu,C0 hk,Brb];cases h:D8 l[k]<;>simp[h]
def All(s:A2 Cl)(hk:k<s.length):(s.take (k+1)).foldl Fu []=Fu ((s.take k).foldl Fu []) s[k]:=by rw[Bqu,C0 hk,Bui];rfl
def Alm(n:Nat):Nat.ble n n=true:=Bqd (Bpa n)
def Aey(n:Nat):Nat.beq n n=true:=Bsx n
def norm_eq(l:A2 Cl)(hl:l.length≤1000000000000)(hN:1000000000000<N):Kl N l=some (Mh l):=by
 unfold Kl nrL;refine iter_eq (G:=fun _=>some (Mh l)) (fun n z=>∃k:Nat,z=(((k:Int),()),(),(owR ((l.take k).filter D8),()),())∧k≤l.length∧n=l.length-k) ?_ N l.length _ ⟨0,rfl,by omega,by omega⟩ (by omega);rintro n z rec ⟨k,rfl,hk,rfl⟩ ih;have hfl:((l.take k).filter D8).length≤k:=by have:=Bq9 D8 (l.take k);rw[Bq1]at this;omega
 have next:k<l.length→rec ((((k+1:Nat):Int),()),(),(owR ((l.take (k+1)).filter D8),()),())=some (Mh l):=fun h=>ih (l.length-(k+1)) _ (by omega) ⟨k+1,rfl,by omega,rfl⟩
 by_cases Gv:k<l.length
 ·have hn:=next Gv
  rw[Aex l Gv]at hn;simp only[dec_lt,Bp7 Gv,Bov,Aq,C0 Gv,Bow,Ad (show k+1<9223372036854775808 by omega),B7t];generalize (l.take k).filter D8=g at *;by_cases hg:g=[]
  ·subst hg;simp only[A6m,A6];cases hm:D8 l[k] with
   |true=>rw[hm]at hn;simpa[owR]using hn
   |false=>rw[hm]at hn;simpa[owR]using hn
  ·simp only[Acq hg,A6];have hf:Ao (g.length + [l[k]].length) 16=true:=fit (by simp;omega) (by simp;omega);simp only[Aey,hf,Bov];cases hm:D8 l[k] with
   |true =>rw[hm]at hn;simp only[Bov,Rp]at hn⊢;simpa using hn
   |false =>rw[hm]at hn;simp only[Box,Acq hg]at hn⊢;exact hn
 ·have:k=l.length:=by omega
  subst this;rw[Bpy]at *;simp only[dec_lt,Bp9 Gv,Box];have hgd:l.filter D8=l.filter D8:=rfl;unfold Mh;obtain⟨p1,p2⟩:=Vh (l.filter D8);have Blr:∀x∈l.filter D8,D8 x=true:=fun x hx=>(Bpv.1 hx).2
  generalize l.filter D8=g at *;by_cases hg:g=[]
  ·subst hg;simp only[A6m,A6,Ay8,List.foldl_nil];cases N with
   |zero=>omega
   |succ M=>rfl
  ·simp only[Acq hg,A6,Alm,Bov,Bpy,Bst,Bq0];have hb:Nat.ble g.length 4611686018427387903=true:=Bqd (by omega);rw[hb,Bov];have hsl:(Df g).length=g.length:=p1.length_eq;rw[← hsl];have Bls:∀x∈Df g,D8 x=true:=fun x hx=>Blr x (p1.mem_iff.1 hx)
   have hsb:g.length≤1000000000000:=Bqf hfl hl;clear hgd p1 Blr next ih
   generalize Df g=s at *;refine iter_eq (G:=fun _=>some (s.foldl Fu [])) (fun n z=>∃k:Nat,z=(((k:Int),()),(),(owR ((s.take k).foldl Fu []),some (s,s.length),()),())∧k≤s.length∧n=s.length-k) ?_ N s.length _ ⟨0,rfl,by omega,by omega⟩ (by omega);rintro n z rec ⟨k,rfl,hk,rfl⟩ ih;have hch:A5b ((s.take k).foldl Fu []):=(Sg (s.take k) [] ⟨by simp,by simp⟩ (fun x hx=>Bls x (Btg hx)) (p2.sublist (List.take_sublist _ _)) (by simp)).1;have hln:((s.take k).foldl Fu []).length≤k:=by have:=Tr (s.take k) [];rw[Bq1]at this;simp at this;omega
   by_cases hks:k<s.length
   ·have hn:=ih (s.length-(k+1)) _ (by omega) ⟨k+1,rfl,by omega,rfl⟩;rw[All s hks]at hn;have c1:(decide (0≤(k:Int))&&decide ((k:Int)<(s.length:Int)))=true:=by simp;omega
    generalize Agv:(s.take k).foldl Fu []=out at *;rcases Fi out with rfl|⟨o,e1,rfl⟩
    ·simp only[A6m,dec_lt,Bp7 hks,Bov,Bq7,Ec,C0 hks,Bow,Ad (show k+1<9223372036854775808 by omega)];rw[A6e]at hn;simpa[owR]using hn
    ·have he1:=hch.may e1 (by simp);rw[Bt]at he1;have hlen:(o++[e1]).length=o.length+1:=by simp
     have w1:i64.wrap (((o++[e1]).length:Int)-1)=(o.length:Int):=by rw[Ln (by simp) (by omega),hlen];simp
     have c2:decide (0≤(o.length:Int))=true:=by simp
     have c3:decide ((o.length:Int)<((o++[e1]).length:Int))=true:=by simp;omega
     have g1:(o++[e1])[o.length]? = some e1:=by simp
     have w2:u64.wrap (e1.2+1)=e1.2+1:=Ss (by omega) (by omega);have hf:Ao ((o++[e1]).length + [s[k]].length) 16=true:=fit (by simp at hln⊢;omega) (by simp at hln⊢;omega);simp only[Rp,dec_lt,Bp7 hks,Bov,Bq7,Ec,C0 hks,Bow,Ad (show k+1<9223372036854775808 by omega),w1,c2,c3,Bqo,g1,w2,Aey,hf];rw[Sf]at hn;by_cases hm:s[k].1≤e1.2+1
     ·rw[Bq6 hm,Rp]at hn;rw[Bp7 hm,Bov,← hn];simp[cond_eq_ite]
     ·rw[Bpp hm,Rp]at hn;rw[Bp9 hm,Box,← hn];simp
   ·have:k=s.length:=by omega
    subst this;rw[Bpy]at *;generalize s.foldl Fu []=out at *;rcases Fi out with rfl|⟨o,e1,rfl⟩
    ·simp only[A6m,dec_lt,Bp9 hks,Box]
    ·simp only[Rp,dec_lt,Bp9 hks,Box,Bq7,Alm,Bov,Brr,Bpy]
theorem B4t(x:Cl)(n:Int):Rc N x n=some (if x.2<n then -1 else if n<x.2 then 1 else 0):=by
 simp only[Rc,By,Em,cond_eq_ite,Bow]
 grind
def half(h:i<j)(hj:j≤1000000000000):i64.wrap ((u64.wrap (i64.wrap ((i:Int)+(j:Int)))).fdiv 2)=(((i+j)/2:Nat):Int):=by
 have e:(i:Int)+(j:Int)=((i+j:Nat):Int):=by omega
 rw[e,B4k (by omega),Ss (by omega) (by omega)];have:((i+j:Nat):Int).fdiv 2=(((i+j)/2:Nat):Int):=by rw[Bu5 _ (by omega)];omega
 rw[this,B4k (by omega)]
def B1x(y:A2 Cl)(n:Int)(hy:A5b y)(hl:y.length≤1000000000000)(hN:1000000000000<N) :
  ∃(i:Nat) (b:Bool),B7 N y n=some (((i:Int),b,()),(),(),())∧i≤y.length∧(∀k r,k<i→y[k]? = some r→r.2<n)∧(∀k r,i≤k→y[k]? = some r→¬r.2<n):=by
 have mono:∀(k k':Nat) (r r':Cl),k<k'→y[k]? = some r→y[k']? = some r'→r.2<r'.2:=by intro k k' r r' hk h1 h2;obtain⟨l1,rfl⟩:=Bp2.1 h1;obtain⟨l2,rfl⟩:=Bp2.1 h2;have:=Bqk.1 hy.apart k k' l1 l2 hk;have h3:=Bt.1 (hy.may y[k'] (Bqi l2));omega
 suffices H:∃r,B7 N y n=some r∧∃(i:Nat) (b:Bool),r=(((i:Int),b,()),(),(),())∧i≤y.length∧(∀(k:Nat) (r:Cl),k<i→y[k]? = some r→r.2<n)∧(∀(k:Nat) (r:Cl),i≤k→y[k]? = some r→¬r.2<n) by obtain⟨r,h1,i,b,rfl,h2⟩:=H;exact⟨i,b,h1,h2⟩
 unfold B7;refine Gy (Q:=fun r:(Int×Bool×Unit)×Unit×Unit×Unit=>∃(i:Nat) (b:Bool),r=(((i:Int),b,()),(),(),())∧i≤y.length∧(∀(k:Nat) (r:Cl),k<i→y[k]? = some r→r.2<n)∧(∀(k:Nat) (r:Cl),i≤k→y[k]? = some r→¬r.2<n))
  (fun m z=>∃i j:Nat,z=(((i:Int),(j:Int),()),(),(),())∧i≤j∧j≤y.length∧m=j-i∧(∀(k:Nat) (r:Cl),k<i→y[k]? = some r→r.2<n)∧(∀(k:Nat) (r:Cl),j≤k→y[k]? = some r→¬r.2<n)) ?_ N y.length _ ⟨0,y.length,rfl,by omega,by omega,by omega,by simp,fun k r hk h=>by rw[Bqz hk]at h;cases h⟩ (by omega)
 ·rintro m z rec ⟨i,j,rfl,hij,hj,rfl,ha,hb⟩ ih;by_cases Bg:i<j
  ·have hh:(i+j)/2<y.length:=by omega
   simp only[dec_lt,Bp7 Bg,Bov,half Bg (by omega),Aq,C0 hh,Bow,B4t];by_cases hc:y[(i+j)/2].2<n
   ·rw[Bq6 hc];simp only[show decide ((-1:Int)<0)=true from rfl,Bov,Ad (show(i+j)/2+1<9223372036854775808 by omega)];refine ih (j-((i+j)/2+1)) _ (by omega) ⟨(i+j)/2+1,j,rfl,by omega,hj,rfl,?_,hb⟩;intro k r hk hr;by_cases hk2:k<(i+j)/2
    ·have:=mono k _ r _ hk2 hr (C0 hh);omega
    ·have:k=(i+j)/2:=by omega
     subst this;rw[C0 hh]at hr;cases hr;exact hc
   ·rw[Bpp hc];have:decide ((if n<y[(i+j)/2].2 then (1:Int)else 0)<0)=false:=by split<;>rfl
    simp only[this,Box];refine ih ((i+j)/2-i) _ (by omega) ⟨i,(i+j)/2,rfl,by omega,by omega,rfl,ha,?_⟩;intro k r hk hr;by_cases hk2:(i+j)/2<k
    ·have:=mono _ k _ r hk2 (C0 hh) hr;omega
    ·have:k=(i+j)/2:=by omega
     subst this;rw[C0 hh]at hr;cases hr;exact hc
  ·have:j=i:=by omega
   subst this;simp only[dec_lt,Bp9 Bg,Box];by_cases hil:j<y.length
   ·simp only[Bp7 hil,Bov,Aq,C0 hil,Bow,B4t];exact⟨_,rfl,j,_,rfl,by omega,ha,hb⟩
   ·simp only[Bp9 hil,Box];exact⟨_,rfl,j,_,rfl,by omega,ha,hb⟩
def Bfq(l:A2 Cl)(n:Int)(hl:l.length≤1000000000000)(hN:1000000000000<N):A20 N l n=some (Eb l n):=by
 unfold A20;rw[norm_eq N l hl hN,Bow];obtain⟨hc,Bnq⟩:=U4 l;have hlen:=Acp l;rw[← Bnq n];generalize Mh l=y at *;obtain⟨i,b,h1,h2,h3,h4⟩:=B1x N y n hc (by omega) hN;rw[h1];simp only[Bow,dec_lt];have key:Eb y n=true↔∃h:i<y.length,y[i].1≤n:=by
  rw[Fh];constructor
  ·rintro ⟨r,hr,hm,ha,hb⟩;obtain⟨k,hk⟩:=Br9.1 hr;have hki:i≤k:=by
    rcases Brq k i with h|h
    ·have:=h3 k r h hk;omega
    ·exact h
   obtain⟨Gv,rfl⟩:=Bp2.1 hk;refine⟨by omega,?_⟩;rcases Brq i k with h|h
   ·have hil:i<y.length:=by omega
    have:=Bqk.1 hc.apart i k hil Gv h;have h5:=h4 i y[i] (Bpa _) (C0 hil);omega
   ·have:k=i:=by omega
    subst this;exact ha
  ·rintro ⟨h,ha⟩;refine⟨y[i],Bqi h,hc.may _ (Bqi h),ha,?_⟩;have:=h4 i y[i] (Bpa _) (C0 h);omega
 by_cases hil:i<y.length
 ·simp only[Bp7 hil,Bov,Aq,C0 hil,Bow,Bp0];rw[Bqq,key];simp[hil]
 ·simp only[Bp9 hil,Box,Bp0];cases h:Eb y n with
  |false=>rfl
  |true=>obtain⟨h',_⟩:=key.1 h;exact absurd h' hil
section
variable{kt vt:Ty}
theorem A29(hk:kt.key=true)(a a':kt.T)(v:List vt.T)(f:Bool)(c:Nat)[DecidableEq kt.T]:∀es:K6 kt vt,A04 a' (Kf a v f c (Ql a es))=if a'=a then some (Ut a es c,f,v)else A04 a' es
 |[]=>by
  by_cases h:a'=a
  ·subst h;simp[Ql,Kf,A04,Ut,(Ty.Jq kt a' a' hk).2 rfl]
  ·have:kt.eqv a' a=false:=by rw[Bsz];exact fun hh=>h ((Ty.Jq kt a' a hk).1 hh)
   simp[Ql,Kf,A04,this,h]
 |e::r=>by
  cases he:kt.eqv a e.2.1 with
  |true =>
   have e1:=(Ty.Jq kt _ _ hk).1 he;simp only[Ql,he,Bov,Kf,A04];by_cases h:a'=a
   ·subst h;simp[Ut,A04,he,(Ty.Jq kt a' a' hk).2 rfl]
   ·have:kt.eqv a' a=false:=by rw[Bsz];exact fun hh=>h ((Ty.Jq kt a' a hk).1 hh)
    rw[← e1];simp[this,h]
  |false =>
   have ih:=A29 hk a a' v f c r;simp only[Ql,he,Box,Kf,A04];rw[ih];by_cases h:a'=a
   ·subst h;simp[he,Ut,A04]
   ·simp[h]
theorem B4u(a:kt.T):∀es:K6 kt vt,Ml a (Rz es)=(A04 a es).map (·.2.2)
 |[]=>rfl
 |e::r=>by
  have ih:=B4u a r;simp only[Rz,Bp3,Ml,A04]at ih⊢;cases kt.eqv a e.2.1 with
  |true=>rfl
  |false=>exact ih
end
abbrev Part:Type:=Int×A2 Cl
def tl(c:A2 Part)(dev:Int):A2 Cl:=(c.filter fun p=>p.1==dev).flatMap (·.2)
structure Ay9(c:List Part):Prop where
 len:c.length≤30
 runs:∀p∈c,p.2.length≤30
def A2a(c:A2 Part)(hk:k<c.length)(dev:Int):tl (c.take (k+1)) dev=if c[k].1=dev then tl (c.take k) dev++c[k].2 else tl (c.take k) dev:=by unfold tl;rw[Bqu,C0 hk,Brb,List.flatMap_append];by_cases h:c[k].1=dev<;>simp[h]
def B7u(c:A2 Part)(hN:100<N):∃b,I6 N c=some b∧(b=true→Ay9 c):=by
 unfold I6;by_cases hl:30<c.length
 ·have:decide ((30:Int)<(c.length:Int))=true:=by simp;omega
  rw[this];exact⟨false,rfl,by simp⟩
 ·have:decide ((30:Int)<(c.length:Int))=false:=by simp;omega
  rw[this,Box];refine Gy (Q:=fun b=>b=true→Ay9 c) (fun n z=>∃k:Nat,z=(((k:Int),()),(),(),())∧k≤c.length∧n=c.length-k∧∀e∈c.take k,e.2.length≤30) ?_ N c.length _ ⟨0,rfl,Brw _,rfl,by simp⟩ (by omega);rintro n z rec ⟨k,rfl,hk,rfl,hall⟩ ih;simp only[dec_lt];by_cases Gv:k<c.length
  ·simp only[Bp7 Gv,Bov,Aq,C0 Gv,Bow];by_cases h1:(30:Int)<(c[k].2.length:Int)
   ·rw[Bp7 h1];exact⟨false,rfl,by simp⟩
   ·rw[Bp9 h1,Box,Ad (by omega)];refine ih (c.length-(k+1)) _ (by omega) ⟨k+1,rfl,by omega,rfl,?_⟩;intro e he;rw[Bqu,C0 Gv]at he;rcases Bp4.1 he with he|he
    ·exact hall e he
    ·simp at he;subst he;omega
  ·simp only[Bp9 Gv,Box];refine⟨true,rfl,fun _=>⟨by omega,?_⟩⟩
   rwa [Brc (by omega)]at hall
def G1(n:Int):A2 Int→A2 Int
 |[]=>[n]
 |x::r=>if n≤x then n::(x::r).filter (· != n)else x::G1 n r
theorem Pe{n y:Int}:∀ {l:A2 Int},y∈G1 n l↔y=n∨y∈l
 |[]=>by simp[G1]
 |x::r=>by
  simp only[G1];split
  ·by_cases h:y=n<;>simp[h]
  ·rw[Boz,Pe,Boz];constructor
   ·rintro (h|h|h)<;>simp[h]
   ·rintro (h|h|h)<;>simp[h]
theorem R8(n:Int):∀l:A2 Int,(G1 n l).length≤l.length+1
 |[]=>by simp[G1]
 |x::r=>by
  simp only[G1];split
  ·have:=Bq9 (· != n) (x::r);simp only[Bpk]at this⊢;omega
  ·have:=R8 n r;simp only[Bpk];omega
theorem Tt(n:Int):∀ {l:A2 Int},l.Pairwise (· < ·)→(G1 n l).Pairwise (· < ·)
 |[],_=>by simp[G1]
 |x::r,h=>by
  simp only[G1];split
  ·rename_i hn;rw[Bpw];refine⟨?_,h.filter _⟩;intro y hy;obtain⟨h1,h2⟩:=Bpv.1 hy;have h2:y≠n:=by simpa using h2
   rcases Boz.1 h1 with e|e
   ·omega
   ·have:=(Bpw.1 h).1 y e;omega
  ·rename_i hn;rw[Bpw]at h⊢;refine⟨?_,Tt n h.2⟩;intro y hy;rcases Pe.1 hy with e|e
   ·omega
   ·exact h.1 y e
def Aln(l:A2 Int)(n:Int)(hl:l.length≤1000000000000)(hN:1000000000000<N):I9 N l n=some (G1 n l):=by
 unfold I9;refine(iter_eq (G:=fun z=>some (bif z.1.2.1 then z.1.1++(l.drop z.1.2.2.1.toNat).filter (· != n)else z.1.1++G1 n (l.drop z.1.2.2.1.toNat))) (fun m z=>∃(out:A2 Int) (done:Bool) (k:Nat),z=((out,done,(k:Int),()),(),(),())∧k≤l.length∧m=l.length-k∧out.length≤k+1+1∧(done=false→out.length≤k)) ?_ N l.length _ ⟨[],false,0,rfl,by omega,by omega,by simp,by simp⟩ (by omega)).trans ?_
 ·rintro m z rec ⟨out,done,k,rfl,hk,rfl,ho,hd⟩ ih;by_cases Gv:k<l.length
  ·have hf:∀(o:A2 Int) (x:Int),o.length≤k+3→Ao (o.length + [x].length) 8=true:=fun o x h=>fit (by simp;omega) (by simp;omega)
   have e:l.drop k=l[k]::l.drop (k+1):=Bqe Gv;have next:∀(o:A2 Int) (d:Bool),o.length≤k+1+1+1→(d=false→o.length≤k+1)→rec ((o,d,((k+1:Nat):Int),()),(),(),())=some (bif d then o++(l.drop (k+1)).filter (· != n)else o++G1 n (l.drop (k+1))):=by intro o d h1 h2;exact ih (l.length-(k+1)) _ (by omega) ⟨o,d,k+1,rfl,by omega,rfl,h1,h2⟩
   simp only[dec_lt,Bp7 Gv,Bov,Aq,C0 Gv,Bow,Ad (show k+1<9223372036854775808 by omega),Bn,Ec,e];cases done with
   |true =>
    simp only[Br2,Box,Bov];by_cases hn:l[k]=n
    ·have:(l[k] != n)=false:=by simp[hn]
     simp only[this,Box];rw[next out true (by omega) (by simp)];simp[-List.getElem_cons_drop,hn]
    ·have:(l[k] != n)=true:=by simp[hn]
     simp only[this,Bov];rw[hf out l[k] (by omega),Bov,next (out++[l[k]]) true (by simp;omega) (by simp)];simp[-List.getElem_cons_drop,hn]
   |false =>
    have ho':=hd rfl;simp only[Brm,Box,Bov];by_cases hle:n≤l[k]
    ·rw[Bp7 hle,Bov,hf out n (by omega),Bov];simp only[G1,Bq6 hle];by_cases hn:l[k]=n
     ·have:(l[k] != n)=false:=by simp[hn]
      simp only[this,Box];rw[next (out++[n]) true (by simp;omega) (by simp)];simp[-List.getElem_cons_drop,hn]
     ·have:(l[k] != n)=true:=by simp[hn]
      simp only[this,Bov];rw[hf (out++[n]) l[k] (by simp;omega),Bov,next (out++[n]++[l[k]]) true (by simp;omega) (by simp)];simp[-List.getElem_cons_drop,hn]
    ·have:(l[k] != n)=true:=by simp;omega
     rw[Bp9 hle,Box];simp only[this,Bov,G1,Bpp hle];rw[hf out l[k] (by omega),Bov,next (out++[l[k]]) false (by simp;omega) (by simp;omega)];simp[-List.getElem_cons_drop]
  ·have:k=l.length:=by omega
   subst this;have hf:done=false→Ao (out.length + [n].length) 8=true:=fun h=>fit (by have:=hd h;simp;omega) (by have:=hd h;simp;omega)
   simp only[dec_lt,Bp9 Gv,Box,Ec,Bst,List.filter_nil,Bq0,G1];cases done with
   |true=>rfl
   |false =>have:=hf rfl;simp only[Bs5]at this;simp[this]
 ·simp
def U8(l:A2 Cl):A2 Int:=l.foldl (fun q r=>bif D8 r then G1 (r.2+1) (G1 r.1 q)else q) []
theorem Kk:∀(l:A2 Cl) (q:A2 Int),q.Pairwise (· < ·) →
  (l.foldl (fun q r=>bif D8 r then G1 (r.2+1) (G1 r.1 q)else q) q).Pairwise (· < ·) ∧
  (∀p,p∈l.foldl (fun q r=>bif D8 r then G1 (r.2+1) (G1 r.1 q)else q) q↔p∈q∨∃r∈l,D8 r=true∧(p=r.1∨p=r.2+1)) ∧
  (l.foldl (fun q r=>bif D8 r then G1 (r.2+1) (G1 r.1 q)else q) q).length≤q.length+2*l.length
 |[],q,h=>⟨h,by simp,by simp⟩
 |r::l,q,h=>by
  simp only[Bqp];cases hm:D8 r with
  |false =>obtain⟨i1,i2,i3⟩:=Kk l q h;simp only[Box];refine⟨i1,fun p=>?_,by simp only[Bpk];omega⟩;rw[i2 p];simp[hm]
  |true =>
   obtain⟨i1,i2,i3⟩:=Kk l (G1 (r.2+1) (G1 r.1 q)) (Tt _ (Tt _ h));have h1:=R8 (r.2+1) (G1 r.1 q);have h2:=R8 r.1 q;simp only[Bov];refine⟨i1,fun p=>?_,by simp only[Bpk];omega⟩;rw[i2 p,Pe,Pe];simp only[Boz,exists_eq_or_imp,hm,Bum]
   grind
def O2(l:A2 Cl):(U8 l).Pairwise (· < ·)∧(∀p,p∈U8 l↔∃r∈l,D8 r=true∧(p=r.1∨p=r.2+1))∧(U8 l).length≤2*l.length:=by obtain⟨h1,h2,h3⟩:=Kk l [] (by simp);exact⟨h1,fun p=>by have:=h2 p;simpa[U8]using this,by simpa[U8]using h3⟩
def B7v(a b:A2 Cl)(hl:a.length+b.length≤100000000000)(hN:1000000000000<N):Il N a b=some (U8 (a++b)):=by
 unfold Il;have f1:Ao (0+a.length) 16=true:=fit (by omega) (by omega);have f2:Ao (a.length+b.length) 16=true:=fit (by omega) (by omega);simp only[Bpx,f1,f2,Bov];refine(Fl (a++b) (fun q r=>bif D8 r then G1 (r.2+1) (G1 r.1 q)else q) [] (fun q=>some q) ?_ ?_ N (by simp;omega))
 ·intro rec k q hk hq;have hlq:q.length≤2*k:=by have:=(Kk ((a++b).take k) [] (by simp)).2.2;rw[← hq]at this;simp only[Bs2,Bq1]at this;omega
  have hlen:(a++b).length=a.length+b.length:=by simp
  simp only[dec_lt,Bp7 hk,Bov,Aq,C0 hk,Bow,Bcg];cases hm:D8 (a++b)[k] with
  |false=>simp only[Box,Ad (show k+1<9223372036854775808 by omega)]
  |true =>have hmm:=Bt.1 hm;have h2:=R8 (a++b)[k].1 q;simp only[Bov];rw[Aln N q _ (by omega) hN,Bow,Ss (by omega) (by omega),Aln N _ _ (by omega) hN,Bow,Ad (show k+1<9223372036854775808 by omega)]
 ·intro rec;simp only[dec_lt,Bp9 (Bri _),Box]
def seg{l:A2 Cl}(h0:(U8 l)[k]? = some lo)(h1:(U8 l)[k+1]? = some hi)(ha:lo≤n)(hb:n<hi):Eb l n=Eb l lo:=by
 obtain⟨p1,p2,_⟩:=O2 l;have gap:∀p∈U8 l,p≤lo∨hi≤p:=by
  intro p hp;obtain⟨j,hj⟩:=Br9.1 hp;obtain⟨l0,rfl⟩:=Bp2.1 h0;obtain⟨l1,rfl⟩:=Bp2.1 h1;obtain⟨lj,rfl⟩:=Bp2.1 hj;have hp:=Bqk.1 p1;rcases Bvj j k with h|h|h
  ·have:=hp j k lj l0 h;omega
  ·subst h;omega
  ·by_cases h2:j=k+1
   ·subst h2;omega
   ·have:=hp (k+1) j l1 lj (by omega);omega
 rw[Bqq,Fh,Fh];constructor
 ·rintro ⟨r,hr,hm,h2,h3⟩;have:=gap r.1 ((p2 r.1).2 ⟨r,hr,hm,.inl rfl⟩);exact⟨r,hr,hm,by omega,by omega⟩
 ·rintro ⟨r,hr,hm,h2,h3⟩;have:=gap (r.2+1) ((p2 (r.2+1)).2 ⟨r,hr,hm,.inr rfl⟩);exact⟨r,hr,hm,by omega,by omega⟩
def X4(out:A2 Cl)(lo hi:Int):A2 Cl :=
 match out.getLast? with
 |none=>[(lo,hi-1)]
 |some e=>if e.2+1=lo then out.set (out.length-1) (e.1,hi-1)else out++[(lo,hi-1)]
def A6f(o:A2 Cl)(e:Cl)(lo hi:Int):X4 (o++[e]) lo hi=if e.2+1=lo then o++[(e.1,hi-1)]else (o++[e])++[(lo,hi-1)]:=by
 simp only[X4,Bu2,Btp,Bsw];split
 ·simp
 ·rfl
def A9c(h:∀r∈out,D8 r=true)(h1:1≤lo)(h2:lo<hi)(h3:hi≤281474976710656) :
  (∀r∈X4 out lo hi,D8 r=true)∧(∀n,Eb (X4 out lo hi) n=true↔Eb out n=true∨(lo≤n∧n<hi))∧(X4 out lo hi).length≤out.length+1:=by
 rcases Fi out with rfl|⟨o,e,rfl⟩
 ·refine⟨?_,?_,by simp[X4]⟩
  ·intro r hr;simp[X4]at hr;subst hr;rw[Bt];simp only;omega
  ·intro n;simp only[X4,List.getLast?_nil,Eb,Bt1,Btk,Bt2,Js,Bt,Bqs,Bvn];omega
 ·have he:=Bt.1 (h e (by simp));rw[A6f];split
  ·rename_i heq;refine⟨?_,?_,by simp⟩
   ·intro r hr;rcases Bp4.1 hr with hr|hr
    ·exact h r (by simp[hr])
    ·simp at hr;subst hr;rw[Bt];simp only;omega
   ·intro n;rw[Cm,Cm];simp only[Eb,Bt1,Btk,Bt2,Br3,Js,Bt];constructor
    ·rintro (h|h)
     ·exact .inl (.inl h)
     ·omega
    ·rintro ((h|h)|h)
     ·exact .inl h
     ·exact .inr (by omega)
     ·exact .inr (by omega)
  ·refine⟨?_,?_,by simp⟩
   ·intro r hr;rcases Bp4.1 hr with hr|hr
    ·exact h r hr
    ·simp at hr;subst hr;rw[Bt];simp only;omega
   ·intro n;rw[Cm];simp only[Eb,Bt1,Btk,Bt2,Br3,Js,Bt];constructor
    ·rintro (h|h)
     ·exact .inl h
     ·omega
    ·rintro (h|h)
     ·exact .inl h
     ·exact .inr (by omega)
structure A9d(l:List Cl)(k:Nat)(out:List Cl):Prop where
 may:∀r∈out,D8 r=true
 len:out.length≤k
 Eb:∀n,Eb out n=true↔Eb l n=true∧∃p,(U8 l)[k]? = some p∧n<p
def Api(l:A2 Cl):A9d l 0 []:=by
 refine⟨by simp,by simp,fun n=>?_⟩;rw[Vg];simp only[Bqs,false_iff];rintro ⟨h1,p,hp,hn⟩;obtain⟨r,hr,hm,h2,h3⟩:=Fh.1 h1;obtain⟨p1,p2,_⟩:=O2 l;obtain⟨j,hj⟩:=Br9.1 ((p2 r.1).2 ⟨r,hr,hm,.inl rfl⟩);obtain⟨l0,rfl⟩:=Bp2.1 hp;obtain⟨lj,e⟩:=Bp2.1 hj;rcases Br8 j with h|h
 ·subst h;omega
 ·have:=Bqk.1 p1 0 j l0 lj h;omega
def B7e{l:A2 Cl}(h0:(U8 l)[k]? = some lo)(h1:(U8 l)[k+1]? = some hi):lo<hi∧1≤lo∧hi≤281474976710656:=by obtain⟨p1,p2,_⟩:=O2 l;obtain⟨r,hr,hm,h⟩:=(p2 lo).1 (Bpu h0);obtain⟨r',hr',Uc,h'⟩:=(p2 hi).1 (Bpu h1);obtain⟨l0,rfl⟩:=Bp2.1 h0;obtain⟨l1,rfl⟩:=Bp2.1 h1;have:=Bqk.1 p1 k (k+1) l0 l1 (by omega);rw[Bt]at hm Uc;omega
def B4n{l:A2 Cl}(h:A9d l k out)(h0:(U8 l)[k]? = some lo)(h1:(U8 l)[k+1]? = some hi)(hc:Xg.Eb l lo=true):A9d l (k+1) (X4 out lo hi):=by
 obtain⟨e1,e2,e3⟩:=B7e h0 h1;obtain⟨s1,s2,s3⟩:=A9c h.may e2 e1 e3;refine⟨s1,by have:=h.len;omega,fun n=>?_⟩;rw[s2 n,h.Eb n,h0,h1];simp only[Bp0,Buw];constructor
 ·rintro (⟨a1,a2⟩|⟨a1,a2⟩)
  ·exact⟨a1,by omega⟩
  ·exact⟨by rw[seg h0 h1 a1 a2];exact hc,a2⟩
 ·rintro ⟨a1,a2⟩;by_cases h:n<lo
  ·exact .inl ⟨a1,h⟩
  ·exact .inr ⟨by omega,a2⟩
def Axv{l:A2 Cl}(h:A9d l k out)(h0:(U8 l)[k]? = some lo)(h1:(U8 l)[k+1]? = some hi)(hc:Xg.Eb l lo=false):A9d l (k+1) out:=by
 obtain⟨e1,e2,e3⟩:=B7e h0 h1;refine⟨h.may,by have:=h.len;omega,fun n=>?_⟩;rw[h.Eb n,h0,h1];simp only[Bp0,Buw];constructor
 ·rintro ⟨a1,a2⟩;exact⟨a1,by omega⟩
 ·rintro ⟨a1,a2⟩;by_cases h:n<lo
  ·exact⟨a1,h⟩
  ·rw[seg h0 h1 (by omega) a2,hc]at a1;cases a1
def Axw{l:A2 Cl}(h:A9d l k out)(hk:(U8 l).length≤k+1)(hk2:k<(U8 l).length∨(U8 l).length=0)(n:Int):Xg.Eb out n=Xg.Eb l n:=by
 rw[Bqq,h.Eb n];constructor
 ·exact fun hh=>hh.1
 ·intro hc;refine⟨hc,?_⟩;obtain⟨r,hr,hm,h2,h3⟩:=Fh.1 hc;obtain⟨p1,p2,_⟩:=O2 l;obtain⟨j,hj⟩:=Br9.1 ((p2 (r.2+1)).2 ⟨r,hr,hm,.inr rfl⟩);obtain⟨lj,e⟩:=Bp2.1 hj;have Gv:k<(U8 l).length:=by omega
  refine⟨(U8 l)[k],C0 Gv,?_⟩;rcases Brq j k with h|h
  ·have:=Bqk.1 p1 j k lj Gv h;omega
  ·have:j=k:=by omega
   subst this;omega
def hasB(c:A2 Part)(d:Int×Int):Bool:=decide (0<d.1)&&Eb (tl c d.1) d.2
def Aya{l:A2 Cl}(h:A5b l):Pc.E5 l:=⟨h.may,h.apart⟩
def Apq(l:A2 Cl):Mh l=Pc.Oa l:=Pc.Atk (Aya (U4 l).1) (U4 l).2
structure Sm(c:List Part):Prop where
 len:c.length≤1000000000
 U7:Pc.U7 c≤1000000000
def Sm.nil:Sm []:=⟨by simp,by simp[Pc.U7]⟩
variable{c b:A2 Part}
def Ay9.sm(h:Ay9 c):Sm c:=by
 refine⟨by have:=h.len;omega,?_⟩;have key:∀c:A2 Part,(∀p∈c,p.2.length≤30)→Pc.U7 c≤30*c.length:=by
  intro c;induction c with
  |nil=>intro _;simp[Pc.U7]
  |cons p c ih =>
   intro h;have h1:=ih fun q hq=>h q (by simp[hq])
   have h2:=h p (by simp);rw[Pc.A0m,Bpk];omega
 have:=key c h.runs;have:=h.len;omega
def Sm.can(h:Sm c):Sm (Pc.Kg c):=⟨Bqf (Pc.Axu c) h.len,Bqf (Pc.Axt c) h.U7⟩
def Alo(c:A2 Part)(k:Nat)(d:Int):(tl (c.take k) d).length≤Pc.U7 c:=by
 have h1:=Pc.Aph (c.take k) d;have h2:Pc.U7 c=Pc.U7 (c.take k)+Pc.U7 (c.drop k):=by rw[← Pc.Ako,Bra]
 exact Bqf h1 (by omega)
def Aub{p:Part}(h:p∈c):p.2.length≤Pc.U7 c:=by
 induction c with
 |nil=>simp at h
 |cons q c ih =>
  rw[Pc.A0m];rcases Boz.1 h with e|h
  ·subst e;omega
  ·have:=ih h;omega
def Ayb(c:A2 Part)(hc:Sm c)(hN:1000000000000<N):∃(es:G0 (.int .u16) (.sl B4)) (Iq:Nat),Sk N c=some (((),()),(),(),(es,Iq),())∧WfE es Iq∧es.length≤c.length∧(∀e∈es,0<e.2.1)∧∀dev:Int,0<dev→(Ml (kt:=.int .u16) (vt:=.sl B4) dev es).getD []=tl c dev:=by
 suffices H:∃r,Sk N c=some r∧∃(es:G0 (.int .u16) (.sl B4)) (Iq:Nat),r=(((),()),(),(),(es,Iq),())∧WfE es Iq∧es.length≤c.length∧(∀e∈es,0<e.2.1)∧∀dev:Int,0<dev→(Ml (kt:=.int .u16) (vt:=.sl B4) dev es).getD []=tl c dev by obtain⟨r,h1,es,Iq,rfl,h2⟩:=H;exact⟨es,Iq,h1,h2⟩
 unfold Sk;refine Gy (Q:=fun r:(Unit×Unit)×Unit×Unit×(A2 (Nat×Int×A2 (Int×Int))×Nat)×Unit=>∃(es:G0 (.int .u16) (.sl B4)) (Iq:Nat),r=(((),()),(),(),(es,Iq),())∧WfE es Iq∧es.length≤c.length∧(∀e∈es,0<e.2.1)∧∀dev:Int,0<dev→(Ml (kt:=.int .u16) (vt:=.sl B4) dev es).getD []=tl c dev)
  (fun m z=>∃(k:Nat) (es:K6 (.int .u16) B4) (Iq:Nat),z=(((k:Int),()),(),(),(es,Iq),())∧k≤c.length∧m=c.length-k∧(∀dev:Int,Afo (kt:=.int .u16) dev es=true)∧(∀dev:Int,0<dev→Aj2 (kt:=.int .u16) dev es=tl (c.take k) dev)∧WfE (Rz es) Iq∧(Rz es).length≤k∧∀x∈(Rz es).map (·.2.1),0<x) ?_ N c.length _ ⟨0,[],0,rfl,by omega,by omega,fun _=>rfl,fun _ _=>rfl,.nil 0,Bpa _,by simp[Rz]⟩ (by have:=hc.len;omega)
 ·rintro m z rec ⟨k,es,Iq,rfl,hk,rfl,hf,hv,hw,hl,hp⟩ ih;have hlen:=hc.len;by_cases Gv:k<c.length
  ·simp only[dec_lt,Bp7 Gv,Bov,Aq,C0 Gv,Bow,Ad (show k+1<9223372036854775808 by omega)];by_cases h0:0<c[k].1
   ·have hb1:=Alo c k c[k].1;have hb2:=Aub (Bqi Gv);have hb3:=hc.U7;rw[Bp7 h0,Bov];have e1:Bac (.int .u16) B4 c[k].1 es=true:=hf c[k].1;have e2:Bab (.int .u16) B4 c[k].1 es=tl (c.take k) c[k].1:=hv c[k].1 h0;rw[e1,Bov,e2];have Ad3:Ao ((tl (c.take k) c[k].1).length+c[k].2.length) 16=true:=fit (by omega) (by omega);rw[Ad3,Bov];have Bj1:Rz (Kf (kt:=.int .u16) (vt:=B4) c[k].1 (tl (c.take k) c[k].1++c[k].2) true Iq (Ql (kt:=.int .u16) c[k].1 es))=Mm (kt:=.int .u16) (vt:=.sl B4) c[k].1 (tl (c.take k) c[k].1++c[k].2) Iq (Rz es):=by rw[As0,As1]
    have Av3:Rz (Ql (kt:=.int .u16) (vt:=B4) c[k].1 es)=Rz es:=As1 _ es;refine ih (c.length-(k+1)) _ (by omega) ⟨k+1,_,_,rfl,by omega,rfl,?_,?_,?_,?_,?_⟩
    ·intro dev;show Afo dev (Kf c[k].1 _ true Iq (Ql c[k].1 es))=true;unfold Afo;rw[A29 rfl];by_cases he:dev=c[k].1
     ·rw[Bq6 he]
     ·rw[Bpp he];exact hf dev
    ·intro dev hd;show Aj2 dev (Kf c[k].1 _ true Iq (Ql c[k].1 es))=_;unfold Aj2;rw[A29 rfl,A2a c Gv];by_cases he:c[k].1=dev
     ·subst he;simp
     ·rw[Bpp (Brl he),Bpp he];exact hv dev hd
    ·show WfE (Rz (Kf c[k].1 _ true Iq (Ql c[k].1 es))) (Rt c[k].1 (Rz (Ql c[k].1 es)) Iq);rw[Bj1,Av3];exact hw.put rfl _ _
    ·show(Rz (Kf c[k].1 _ true Iq (Ql c[k].1 es))).length≤k+1;rw[Bj1];have:=Aki (kt:=.int .u16) (vt:=.sl B4) c[k].1 (tl (c.take k) c[k].1++c[k].2) Iq (Rz es);omega
    ·show ∀x∈(Rz (Kf c[k].1 _ true Iq (Ql c[k].1 es))).map (·.2.1),0<x;rw[Bj1];intro x hx;rcases(Aeq rfl _ _ _ _ x).1 hx with e|hx
     ·subst e;exact h0
     ·exact hp x hx
   ·rw[Bp9 h0,Box];refine ih (c.length-(k+1)) _ (by omega) ⟨k+1,es,Iq,rfl,by omega,rfl,hf,?_,hw,by omega,hp⟩;intro dev hd;rw[A2a c Gv,Bpp (by omega)];exact hv dev hd
  ·have:k=c.length:=by omega
   subst this;simp only[dec_lt,Bp9 Gv,Box];refine⟨_,rfl,Rz es,Iq,rfl,hw,hl,fun e he=>hp _ (Bpe (f:=(·.2.1)) he),fun dev hd=>?_⟩;have:=hv dev hd;rw[Bpy]at this;rw[B4u,← this];unfold Aj2;cases A04 (kt:=.int .u16) (vt:=B4) dev es<;>rfl
theorem A2b:∀(l:A2 Nat) (b:Nat),P5 (l++[b])=some (l,b)
 |[],b=>rfl
 |a::l,b=>by
  have ih:=A2b l b;cases l with
  |nil=>rfl
  |cons c r =>simp only[Br1]at ih⊢;unfold P5;rw[ih]
theorem A6n{kt vt:Ty}:∀ {es:G0 kt vt} {e:Nat×kt.T×vt.T},(es.map (·.1)).Nodup→e∈es→A3x e.1 es=some e
 |[],e,_,h=>by simp at h
 |x::r,e,hn,h=>by
  rw[Bp3,Bqg]at hn;simp only[A3x];rcases Boz.1 h with rfl|h
  ·simp
  ·have:x.1≠e.1:=fun hh=>hn.1 (hh▸Bpe (f:=(·.1)) h)
   rw[nbF this,Box,A6n hn.2 h]
def A7f(d:G0 (.int .u16) (.sl B4)):A2 Part:=(d.map fun e=>((e.2.1,Mh e.2.2):Part)).filter fun p=>!p.2.isEmpty
def owP(g:A2 Part):A3 (A2 Part×Nat):=match g with
 |[]=>none
 |a::r=>some (a::r,(a::r).length)
def A6o(d:G0 (.int .u16) (.sl B4))(e:Nat×Int×A2 (Int×Int)):A7f (d++[e])=if (Mh e.2.2).isEmpty then A7f d else A7f d++[(e.2.1,Mh e.2.2)]:=by unfold A7f;rw[Bpn,Brb];cases h:(Mh e.2.2).isEmpty<;>simp[h]
def Bch(d:G0 (.int .u16) (.sl B4)):(A7f d).length≤d.length:=by unfold A7f;have:=Bq9 (fun p:Part=>!p.2.isEmpty) (d.map fun e=>((e.2.1,Mh e.2.2):Part));simpa using this
def Apr{d es:G0 (.int .u16) (.sl B4)}(h:d.Perm es):(A7f d).Perm (A7f es):=(h.map _).filter _
def Aez{es:G0 (.int .u16) (.sl B4)}(h:WfE es Iq):K8 Uj (A7f es)=true:=by
 rw[Qi];have hk:(es.map (·.2.1)).Pairwise (·≠·):=h.keys;unfold A7f;refine Bu3 _ ?_;rw[Bse]at hk⊢;refine hk.imp fun {a b} hab=>?_
 rw[A6h,A6h];simp only[Bsf];exact Int.lt_or_gt_of_ne hab
def W5{α:Type}{cf:α→α→Int}{a b:A2 α}(h:a.Perm b)(hd:K8 cf b=true):K8 cf a=true:=by rw[Qi]at *;exact(h.pairwise_iff (R:=fun x y=>ltOf cf x y=true∨ltOf cf y x=true) (fun {x y} h=>h.symm)).2 hd
def A0u{α:Type}(cf:α→α→Int):Lo cf ([]:A2 α)=[]:=List.perm_nil.1 (Bv1 _ _)
def B1y{α:Type}(a:α)(r:A2 α):decide ((0:Int)<((a::r).length:Int))=true:=by rw[Bsf,Bpk];omega
def Auc(es:G0 (.int .u16) (.sl B4)):A2 Part:=Lo Uj (A7f es)
def Bci(es:G0 (.int .u16) (.sl B4))(Iq:Nat)(hw:WfE es Iq)(hl:es.length≤1000000000)(hv:∀e∈es,e.2.2.length≤1000000000)(hN:1000000000000<N):Z3 N (es,Iq)=some ((Auc es,()),(),(),()):=by
 unfold Z3;refine B1f (es:=es) hw.born (fun d z=>z=((),(),(owP (A7f d),()),(Iq,d.map (·.1),Iq),())) _ ?_ N (by omega) rfl;rintro rec d z hd rfl ih;have hold:A6w Iq Iq es=true:=Atj hw.lt hw.lt;have hdl:=hd.len;have hpl:=Bch d;have step:∀e∈Cb (d.map (·.1)) es,P5 (d.map (·.1)++[e.1])=some (d.map (·.1),e.1)∧A1v (.int .u16) B4.sl e.1 es=some e∧Kl N e.2.2=some (Mh e.2.2):=by intro e he;have hm:=(X2.1 he).1;exact⟨A2b _ _,A6n hw.born hm,norm_eq N _ (by have:=hv e hm;omega) hN⟩
 have seen:∀e:Nat×Int×A2 (Int×Int),d.map (·.1)++[e.1]=(d++[e]).map (·.1):=fun e=>by simp
 cases hp:A7f d with
 |nil =>
  simp only[owP,A6,hold,Bov,Bsx];by_cases hn:Cb (d.map (·.1)) es=[]
  ·rw[hn,Vx];have Afj:=Apr (hd.all hw.born hn);rw[hp]at Afj;have:A7f es=[]:=Bve.1 Afj;simp only[Auc,this,A0u]
  ·refine A03 hn fun e he=>?_
   obtain⟨s1,s2,s3⟩:=step e he;simp only[s1,s2,s3,Bow];cases hy:Mh e.2.2 with
   |nil =>simp only[Bs2];refine ih e he _ ?_;rw[A6o,hy,seen];simp[hp,owP]
   |cons a r =>have:decide ((0:Int)<((a::r).length:Int))=true:=B1y a r;rw[this,Bov];refine ih e he _ ?_;rw[A6o,hy,seen];simp[hp,owP]
 |cons q0 qs =>
  have e1:(q0::qs).length≤1000000000:=by rw[← hp];omega
  simp only[owP,A6,hold,Bov,Bsx];have B1z:Nat.ble (q0::qs).length (q0::qs).length=true:=Bqd (Bpa _);have Alp:Nat.ble (q0::qs).length 4611686018427387903=true:=Bqd (by omega);by_cases hn:Cb (d.map (·.1)) es=[]
  ·have Afj:=Apr (hd.all hw.born hn);rw[hp]at Afj;have Alq:A4l (q0::qs)=true:=W5 Afj (Aez hw);have hs:Po (q0::qs)=Auc es:=by obtain⟨p,s⟩:=G6 A0o (q0::qs);exact Qj A0o (Aez hw) (p.trans Afj) s
   have hsl:(Auc es).length=(q0::qs).length:=by rw[← hs];exact(G6 A0o (q0::qs)).1.length_eq
   rw[hn,Vx,B1z,Bov,Alp,Bov,Bpy,Bst,Alq,Bov,hs,Bq0];have Ayc:Nat.ble (0+(q0::qs).length) (Auc es).length=true:=Bqd (by omega);rw[Ayc];simp only[Bov,Brr];rw[← hsl,Bpy]
  ·refine A03 hn fun e he=>?_
   obtain⟨s1,s2,s3⟩:=step e he;simp only[s1,s2,s3,Bow];cases hy:Mh e.2.2 with
   |nil =>simp only[Bs2];refine ih e he _ ?_;rw[A6o,hy,seen];simp[hp,owP]
   |cons a r =>have:decide ((0:Int)<((a::r).length:Int))=true:=B1y a r;rw[this,Bov];have Ad3:Ao ((q0::qs).length + [((e.2.1,a::r):Part)].length) 32=true:=fit (by simp only[Bs5];omega) (by simp only[Bs5];omega);rw[Ad3,Bov];refine ih e he _ ?_;rw[A6o,hy,seen];simp[hp,owP]
def Ayd{es:G0 (.int .u16) (.sl B4)}(hw:WfE es Iq)(hp:∀e∈es,0<e.2.1):Pc.Ui (Auc es):=by
 obtain⟨p,s⟩:=G6 A0o (A7f es);have hs:=T4 p (Aez hw) s;have mem:∀q∈Auc es,∃e∈es,q=(e.2.1,Mh e.2.2)∧Mh e.2.2≠[]:=by intro q hq;have hq:=p.mem_iff.1 hq;obtain⟨h1,h2⟩:=Bpv.1 hq;obtain⟨e,he,rfl⟩:=Bpc.1 h1;exact⟨e,he,rfl,by intro hh;simp[hh]at h2⟩
 refine⟨?_,?_,?_,?_⟩
 ·refine hs.imp fun {a b} h=>?_
  rw[A6h]at h;simpa using h
 ·intro q hq;obtain⟨e,he,rfl,_⟩:=mem q hq;exact hp e he
 ·intro q hq;obtain⟨e,he,rfl,h⟩:=mem q hq;exact h
 ·intro q hq;obtain⟨e,he,rfl,_⟩:=mem q hq;exact Aya (U4 _).1
def Bfr{es:G0 (.int .u16) (.sl B4)}(hw:WfE es Iq)(hp:∀e∈es,0<e.2.1){dev:Int}(hd:0<dev):Pc.tl (Auc es) dev=Mh ((Ml (kt:=.int .u16) (vt:=.sl B4) dev es).getD []):=by
 have hc:=Ayd hw hp;obtain⟨p,s⟩:=G6 A0o (A7f es);cases hm:Ml (kt:=.int .u16) (vt:=.sl B4) dev es with
 |none =>
  have hn:=(Apd (kt:=.int .u16) (vt:=.sl B4) rfl).1 hm;rw[Pc.A1y]
  ·simp only[Option.getD_none];rw[Apq,Pc.Acd]
  ·intro q hq he;obtain⟨h1,_⟩:=Bpv.1 (p.mem_iff.1 hq);obtain⟨e,he',rfl⟩:=Bpc.1 h1;exact hn (he▸Bpe (f:=(·.2.1)) he')
 |some v =>
  obtain⟨i,hi⟩:=(A4j (kt:=.int .u16) (vt:=.sl B4) rfl hw.keys).1 hm;simp only[Btj];by_cases hv:Mh v=[]
  ·rw[hv,Pc.A1y];intro q hq he;obtain⟨h1,h2⟩:=Bpv.1 (p.mem_iff.1 hq);obtain⟨e,he',rfl⟩:=Bpc.1 h1;have he2:Ml (kt:=.int .u16) (vt:=.sl B4) e.2.1 es=some e.2.2:=(A4j (kt:=.int .u16) (vt:=.sl B4) rfl hw.keys).2 ⟨e.1,he'⟩;have he:e.2.1=dev:=he;rw[he,hm]at he2;cases he2;simp[hv]at h2
  ·have:((dev,Mh v):Part)∈Auc es:=p.mem_iff.2 (Bpv.2 ⟨Bpc.2 ⟨(i,dev,v),hi,rfl⟩,by simp[hv]⟩);exact hc.Bc1 this
def Aye(c:A2 Part)(hc:Sm c)(hN:1000000000000<N):X8 N c=some (Pc.Kg c):=by
 unfold X8;obtain⟨es,Iq,h1,hw,hl,hp,hv⟩:=Ayb N c hc hN;have hlen:=hc.len;rw[h1,Bow,Bci N es Iq hw (by omega) ?_ hN,Bow]
 ·refine Bpj some (Pc.Atm (Ayd hw hp) fun d n=>?_);unfold Pc.Zj;by_cases hd:0<d
  ·rw[Bfr hw hp hd,hv d hd,Apq,Pc.Pd];rfl
  ·simp[hd]
 ·intro e he;have he2:Ml (kt:=.int .u16) (vt:=.sl B4) e.2.1 es=some e.2.2:=(A4j (kt:=.int .u16) (vt:=.sl B4) rfl hw.keys).2 ⟨e.1,he⟩;have:=hv e.2.1 (hp e he);rw[he2]at this;simp only[Btj]at this;rw[this];exact Bqf (Pc.Aph c _) hc.U7
def ltE(x y:Ev):Bool:=ltOf Du x.1 y.1
def eqE(x y:Ev):Bool:=x.1.1==y.1.1&&x.1.2==y.1.2
def Bfs:LO ltE eqE where
 asymm x y h:=by unfold ltE at *;rw[Q1]at *;simp at *;omega
 ntrans x y z h1 h2:=by unfold ltE at *;rw[Q1]at *;simp at *;omega
 eq_def x y:=by unfold ltE eqE;rw[Q1,Q1,Bqq];simp;omega
def Aps(a:A2 (Int×Int)):(Ay7 a).length≤a.length:=by have:=(A5a a [] (by simp[Sd])).2.2;simpa[Ay7]using this
def Alr(l:A2 Ev)(hl:l.length≤100)(Ej:∀e∈l,smE e)(hN:1000000<N):C8 N l=some (Gs (l.flatMap dsE)):=by
 rw[Zp];unfold C8;have Bh0:∀(m:A2 Ev) (q:A2 (Int×Int)),m.foldl (fun q e=>(dsE e).foldl (fun q d=>Ou d q) q) q=(m.flatMap dsE).foldl (fun q d=>Ou d q) q:=by
  intro m;induction m with
  |nil=>intro q;rfl
  |cons e r ih=>intro q;rw[Bqp,ih,Btv,Bui]
 rw[Fl l (fun q e=>(dsE e).foldl (fun q d=>Ou d q) q) [] (fun a=>some a) ?_ ?_ N (by omega),Bh0]
 ·rfl
 ·intro rec k a hk ha;rw[Bh0]at ha;have hal:a.length≤5001*100:=by rw[ha];have h1:=Aps ((l.take k).flatMap dsE);have:=Aco (Aua Ej k);rw[Bq1]at this;unfold Ay7 at h1;omega
  have hk2:l[k].2.2.2.2.2.length≤5000:=Ej _ (Bqi hk);simp only[dec_lt,Bp7 hk,Bov,Aq,C0 hk,Bow];rw[A6l N a _ (by omega) hN];simp only[Bow];have hpl:=Z4 l[k].1 a;generalize hp:Ou l[k].1 a=p at hpl;rw[Fl l[k].2.2.2.2.2 (fun q d=>Ou d q) p (fun a=>rec ((a,i64.wrap ((k:Int)+1),()),(),(),())) ?_ ?_ N (by omega)]
  ·rw[Ad (by omega),← hp];rfl
  ·intro Blt j b hj hb;have hbl:b.length≤5001*100+5002:=by
    rw[hb];have:∀(m q:A2 (Int×Int)),(m.foldl (fun q d=>Ou d q) q).length≤q.length+m.length:=by
     intro m;induction m with
     |nil=>simp
     |cons d r ih=>intro q;rw[Bqp];have:=ih (Ou d q);have:=Z4 d q;simp;omega
    have:=this (l[k].2.2.2.2.2.take j) p;rw[Bq1]at this;omega
   simp only[dec_lt,Bp7 hj,Bov,Aq,C0 hj,Bow];rw[A6l N b _ (by omega) hN];simp only[Bow];rw[Ad (by omega)]
  ·intro Blt;simp only[dec_lt,Bp9 (Bri _),Box]
 ·intro rec;simp only[dec_lt,Bp9 (Bri _),Box]
theorem Bcj(x y:Ev):(Du x.1 y.1==0)=eqE x y:=by
 unfold eqE Du;rw[Bqq];simp only[Btr,Bq4]
 grind
def B20(l:A2 Ev)(e:Ev)(hl:l.length≤100)(hN:10000<N):Ib N l e=some (Akj ltE eqE e l):=by
 unfold Ib;refine Atg ?_;refine Gy (Q:=fun r=>r=Akj ltE eqE e l) (fun n z=>∃(k:Nat) (out:A2 Ev) (done:Bool),z=((out,done,(k:Int),()),(),(),())∧k≤l.length∧out.length≤k+cond done 1 0∧n=l.length-k ∧
  Akj ltE eqE e l=cond ((l.drop k).any (eqE e)) l (out++cond done (l.drop k) (N2 ltE e (l.drop k)))) ?_ N l.length _ ⟨0,[],false,rfl,Brw _,by simp,by simp,rfl⟩ (by omega)
 rintro n z rec ⟨k,out,done,rfl,hk,ho',rfl,hT⟩ ih;have ho:out.length≤k+1:=by cases done<;>simp at ho'<;>omega
 simp only[dec_lt];by_cases Gv:k<l.length
 ·have hd:l.drop k=l[k]::l.drop (k+1):=Bqe Gv;rw[hd]at hT;generalize l[k]=x at *;have gx:l[k]? = some x:=by
   have:(l.drop k)[0]? = some x:=by rw[hd];rfl
   rwa [Bqn,Bs7]at this
  simp only[Bp7 Gv,Bov,Aq,gx,Bow,A6k,Bcj,gtD,Bn];rw[Bfs.eq_symm];cases hx:eqE e x with
  |true =>simp only[Bov];refine⟨_,rfl,?_⟩;rw[hT];simp[hx]
  |false =>
   simp only[Box];have hT':Akj ltE eqE e l=cond ((l.drop (k+1)).any (eqE e)) l (out++cond done (x::l.drop (k+1)) (N2 ltE e (x::l.drop (k+1)))):=by rw[hT];simp[hx]
   have hw:i64.wrap ((k:Int)+1)=((k+1:Nat):Int):=Ad (by omega);have hg:Ye e.1 x.1=ltE e x:=rfl;have hf1:Ao (out.length + [x].length) 80=true:=fit (by simp;omega) (by simp;omega);have hf2:Ao (out.length + [e].length) 80=true:=fit (by simp;omega) (by simp;omega);have hf3:Ao ((out++[e]).length + [x].length) 80=true:=fit (by simp;omega) (by simp;omega);rw[hg];cases Bg:ltE e x with
   |true =>
    cases done with
    |true =>simp only[Bov,Br2,Box,hf1,hw];refine ih (l.length-(k+1)) _ (by omega) ⟨k+1,out++[x],true,rfl,by omega,by simp at ho'⊢;omega,rfl,?_⟩;rw[hT'];simp
    |false =>simp only[Bov,Brm,hf2,hf3,hw];refine ih (l.length-(k+1)) _ (by omega) ⟨k+1,out++[e]++[x],true,rfl,by omega,by simp at ho'⊢;omega,rfl,?_⟩;rw[hT'];simp[Se Bg]
   |false =>simp only[Box,hf1,hw,Bov];refine ih (l.length-(k+1)) _ (by omega) ⟨k+1,out++[x],done,rfl,by omega,by cases done<;>simp at ho'⊢<;>omega,rfl,?_⟩;rw[hT'];cases done<;>simp[W2 Bg]
 ·have hd:l.drop k=[]:=Bs0 (by omega);rw[hd]at hT;simp only[Bp9 Gv,Box];have hf2:Ao (out.length + [e].length) 80=true:=fit (by simp;omega) (by simp;omega);cases done with
  |true =>simp only[Br2,Box];exact⟨_,rfl,by rw[hT];simp⟩
  |false =>simp only[Brm,Bov,hf2];exact⟨_,rfl,by rw[hT];simp[N2]⟩
def Ayf(e:Ev)(l:A2 Ev):(Akj ltE eqE e l).length≤l.length+1:=by
 unfold Akj;cases l.any (eqE e) with
 |true=>simp
 |false=>simp[Z1]
abbrev EsB:Type:=G0 Ag tEvent
def Ce(m:Tw):A2 (Nat×(Int×Int)×Ev):=match m with
 |none=>[]
 |some y=>y.1
structure WfM(n:Nat)(m:Tw):Prop where
 wf:∀y,m=some y→WfE (kt:=Ag) (vt:=tEvent) y.1 y.2
 key:∀e∈Ce m,e.2.1=e.2.2.1
 sm:∀e∈Ce m,smE e.2.2
 len:(Ce m).length≤n
def Cz(es:A2 (Nat×(Int×Int)×Ev)):A2 Ev:=es.map (·.2.2)
def Aa1(es:A2 (Nat×(Int×Int)×Ev)):A2 Ev:=Lo Cn (Cz es)
def owE(g:A2 Ev):A3 (A2 Ev×Nat):=match g with
 |[]=>none
 |a::r=>some (a::r,(a::r).length)
def Ayg{es:EsB}(h:WfE es Iq)(hk:∀e∈es,e.2.1=e.2.2.1):K8 Cn (Cz es)=true:=by
 unfold Cz;rw[Qi,Bse];have h1:(es.map (·.2.1)).Pairwise (·≠·):=h.keys;rw[Bse]at h1;refine(Bwe.1 h1).imp ?_;rintro a b ⟨ha,hb,hab⟩;have e1:=hk a ha;have e2:=hk b hb;cases h3:ltOf Cn a.2.2 b.2.2 with
 |true=>exact .inl rfl
 |false =>
  cases h4:ltOf Cn b.2.2 a.2.2 with
  |true=>exact .inr rfl
  |false=>exact absurd (by rw[e1,e2];exact A6g _ _ h3 h4) hab
def Bck{R:Type}(N:Nat)(m:Jh)(hw:WfE (kt:=Ag) (vt:=tEvent) m.1 m.2)(Ej:∀e∈m.1,smE e.2.2)(hl:m.1.length≤1000)(hN:1000000<N)(g:A2 Ev)(hg:g.length≤1000)(k:OwE→A3 R)(r:R)
  (hr:∀d:A2 Ev,d.Perm (Cz m.1)→k (owE (g++d))=some r):lpE N m k (owE g)=some r:=by
 obtain⟨es,Iq⟩:=m;simp only at hw Ej hl hr;unfold lpE;refine B1f (es:=es) hw.born (fun d z=>z=((),(),(owE (g++Cz d),()),(Iq,d.map (·.1),Iq),())) _ ?_ N (by omega) (by simp[Cz]);rintro rec d z hd rfl ih;have hold:A6w Iq Iq es=true:=Atj hw.lt hw.lt;have hdl:=hd.len;have step:∀e∈Cb (d.map (·.1)) es,P5 (d.map (·.1)++[e.1])=some (d.map (·.1),e.1)∧A1v Ag tEvent e.1 es=some e∧J5 N e.2.2=some e.2.2:=by intro e he;have hm:=(X2.1 he).1;exact⟨A2b _ _,A6n hw.born hm,copy_eq N _ (Ej e hm)⟩
 have seen:∀e:Nat×(Int×Int)×Ev,d.map (·.1)++[e.1]=(d++[e]).map (·.1):=fun e=>by simp
 have Acr:Cb (d.map (·.1)) es=[]→k (owE (g++Cz d))=some r:=fun hn=>hr _ ((hd.all hw.born hn).map _)
 have hvl:(Cz d).length=d.length:=Bpl ..;have vap:∀e:Nat×(Int×Int)×Ev,g++Cz (d++[e])=(g++Cz d)++[e.2.2]:=fun e=>by simp[Cz]
 have hlen:(g++Cz d).length≤2000:=by rw[Bq2,hvl];omega
 generalize hp:g++Cz d=p at *;cases p with
 |nil =>
  simp only[owE,A6,hold,Bov,Bsx]at Acr⊢;by_cases hn:Cb (d.map (·.1)) es=[]
  ·rw[hn,Vx];exact Acr hn
  ·refine A03 hn fun e he=>?_
   obtain⟨s1,s2,s3⟩:=step e he;simp only[s1,s2,s3,Bow];refine ih e he _ ?_;rw[vap,seen];rfl
 |cons q0 qs =>
  simp only[owE,A6,hold,Bov,Bsx]at Acr⊢;by_cases hn:Cb (d.map (·.1)) es=[]
  ·rw[hn,Vx];exact Acr hn
  ·refine A03 hn fun e he=>?_
   obtain⟨s1,s2,s3⟩:=step e he;have Ad3:Ao ((q0::qs).length + [e.2.2].length) 80=true:=fit (by simp only[Bs5];omega) (by simp only[Bs5];omega);simp only[s1,s2,s3,Bow,Ad3,Bov];refine ih e he _ ?_;rw[vap,seen];simp[owE]
def Af0{R:Type}(N:Nat)(hN:1000000<N)(k:OwE→A3 R)(o:OwE):lpZ N k o=k o:=by obtain⟨M,rfl⟩:∃M,N=M+1:=⟨N-1,by omega⟩;unfold lpZ;simp only[iter];cases o<;>rfl
def Aud(hd:K8 Cn l=true)(hp:g.Perm l)(hl:l.length≤10000):Ay2 (owE g)=some ((Lo Cn l,()),(),(),()):=by
 have Alq:Rb g=true:=W5 hp hd;have hs:Hx g=Lo Cn l:=by obtain⟨p,s⟩:=G6 K9 g;exact Qj K9 hd (p.trans hp) s
 have hsl:(Lo Cn l).length=g.length:=by rw[← hs];exact(G6 K9 g).1.length_eq
 have hgl:=hp.length_eq;cases g with
 |nil =>have:l=[]:=Bve.1 hp;rw[this,A0u];rfl
 |cons q0 qs =>have B1z:Nat.ble (q0::qs).length (q0::qs).length=true:=Bqd (Bpa _);have Alp:Nat.ble (q0::qs).length 4611686018427387903=true:=Bqd (by omega);have Ayc:Nat.ble (0+(q0::qs).length) (Lo Cn l).length=true:=Bqd (by omega);simp only[Ay2,owE,A6];rw[B1z,Bov,Alp,Bov,Bpy,Bst,Alq,Bov,hs,Bq0,Ayc];simp only[Bov,Brr];rw[← hsl,Bpy]
def Bft(hd:K8 Cn l=true)(hp:g.Perm l)(hl:l.length≤10000):Ast (owE g)=some ((),(),(owE (Lo Cn l),()),()):=by
 have Alq:Rb g=true:=W5 hp hd;have hs:Hx g=Lo Cn l:=by obtain⟨p,s⟩:=G6 K9 g;exact Qj K9 hd (p.trans hp) s
 have hsl:(Lo Cn l).length=g.length:=by rw[← hs];exact(G6 K9 g).1.length_eq
 have hgl:=hp.length_eq;cases g with
 |nil =>have:l=[]:=Bve.1 hp;rw[this,A0u];rfl
 |cons q0 qs =>
  have B1z:Nat.ble (q0::qs).length (q0::qs).length=true:=Bqd (Bpa _);have Alp:Nat.ble (q0::qs).length 4611686018427387903=true:=Bqd (by omega);simp only[Ast,owE,A6];rw[B1z,Bov,Alp,Bov,Bpy,Bst,Alq,Bov,hs,Bq0,← hsl];cases he:Lo Cn l with
  |nil=>rw[he]at hsl;simp at hsl
  |cons a r=>rfl
def Acs:Aa1 []=[]:=A0u _
def Gt(x:BkC):A2 Ev:=Aa1 (Ce x.2.1)
def Ayh(x:BkC):A2 Ev:=Aa1 (Ce x.2.2.1)
def Bfu(x:BkC):A2 Ev:=Aa1 (Ce x.2.1++Ce x.2.2.1)
structure Acu(x:BkC):Prop where
 live:WfM 20 x.2.1
 B4v:WfM 20 x.2.2.1
 Bnr:K8 Cn (Cz (Ce x.2.1++Ce x.2.2.1))=true
def Acu.dl{x:BkC}(h:Acu x):K8 Cn (Cz (Ce x.2.1))=true:=by
 cases hm:x.2.1 with
 |none=>rfl
 |some y=>exact Ayg (h.live.wf y hm) (by have:=h.live.key;rwa [hm]at this)
def Acu.dt{x:BkC}(h:Acu x):K8 Cn (Cz (Ce x.2.2.1))=true:=by
 cases hm:x.2.2.1 with
 |none=>rfl
 |some y=>exact Ayg (h.B4v.wf y hm) (by have:=h.B4v.key;rwa [hm]at this)
def A5c(es:A2 (Nat×(Int×Int)×Ev)):(Cz es).length=es.length:=Bpl ..
def Aue{R:Type}(N:Nat)(h:WfM 20 (some m))(hN:1000000<N)(k:OwE→A3 R)(r:R)(hr:∀d:A2 Ev,d.Perm (Cz m.1)→k (owE d)=some r):lpE N m k none=some r :=
 Bck N m (h.wf m rfl) h.sm (by have:=h.len;simp only[Ce]at this;omega) hN [] (by simp) k r hr
def Bj2{R:Type}(N:Nat)(h:WfM 20 (some m))(h':WfM 20 (some q))(hN:1000000<N)(k:OwE→A3 R)(r:R)(hr:∀d:A2 Ev,d.Perm (Cz (m.1++q.1))→k (owE d)=some r):lpE N m (lpE N q k) none=some r :=
 Aue N h hN _ r fun d hd=>Bck N q (h'.wf q rfl) h'.sm (by have:=h'.len;simp only[Ce]at this;omega) hN d (by have:=h.len;simp only[Ce]at this;rw[hd.length_eq,A5c];omega) k r fun e he=>hr _ (by
  unfold Cz at *;rw[Bpn];exact hd.append he)
def B4w(h:WfM 20 (some m))(hd:K8 Cn (Cz m.1)=true)(hN:1000000<N):Lt N m=some ((Aa1 m.1,()),(),(),())∧Rg N m=some ((),(),(owE (Aa1 m.1),()),()):=by
 have hl:(Cz m.1).length≤10000:=by have:=h.len;simp only[Ce]at this;rw[A5c];omega
 exact⟨Aue N h hN _ _ fun d hp=>Aud hd hp hl,Aue N h hN _ _ fun d hp=>Bft hd hp hl⟩
def Bcl(hN:1000000<N):Lu N=some (([],()),(),(),())∧Rh N=some ((),(),(none,()),()):=by exact⟨Af0 N hN _ _,Af0 N hN _ _⟩
def B21(hN:1000000<N):Rf N=some (([],()),(),(),()):=by unfold Rf;rw[Af0 N hN,Af0 N hN];rfl
def B22(h:WfM 20 (some m))(hd:K8 Cn (Cz m.1)=true)(hN:1000000<N):Xn N m=some ((Aa1 m.1,()),(),(),()):=by
 have hl:(Cz m.1).length≤10000:=by have:=h.len;simp only[Ce]at this;rw[A5c];omega
 exact Aue N h hN _ _ fun d hp=>(Af0 N hN _ _).trans (Aud hd hp hl)
def B23(h:WfM 20 (some m))(hd:K8 Cn (Cz m.1)=true)(hN:1000000<N):Re N m=some ((Aa1 m.1,()),(),(),()):=by unfold Re;rw[Af0 N hN];exact(B4w N h hd hN).1
def B24(h:WfM 20 (some m))(h':WfM 20 (some q))(hd:K8 Cn (Cz (m.1++q.1))=true)(hN:1000000<N):Xk N m q=some ((Aa1 (m.1++q.1),()),(),(),()):=by
 have hl:(Cz (m.1++q.1)).length≤10000:=by have:=h.len;have:=h'.len;simp only[Ce]at *;rw[A5c,Bq2];omega
 exact Bj2 N h h' hN _ _ fun d hp=>Aud hd hp hl
def B4x:∀ {a b:A2 Int},a.Pairwise (· < ·)→b.Pairwise (· < ·)→(∀x,x∈a↔x∈b)→a=b:=by intro a b ha hb h;exact Sd.ext (lt:=fun x y:Int=>decide (x<y)) (by intro x y h;simp at *;omega) (ha.imp fun {x y} h=>by simpa using h) (hb.imp fun {x y} h=>by simpa using h) h
def Bj3(l:A2 Cl):U8 l=Pc.U8 l:=by obtain⟨a1,a2,_⟩:=O2 l;obtain⟨b1,b2,_⟩:=Pc.O2 l;exact B4x a1 b1 fun x=>by rw[a2,b2];rfl
def B7w(l:A2 Cl):Pc.Akp (U8 l) (Eb l):=by rw[Bj3];exact Pc.B7d fun r h=>h
def Bcm(a b:A2 Cl)(hl:a.length+b.length≤100000000000)(hN:1000000000000<N) :
  ∃r,G9 N a b 0=some r∧Pc.E5 r∧∀n,Eb r n=Eb (a++b) n:=by
 unfold G9 Aci;rw[B7v N a b hl hN];obtain⟨p1,p2,p3⟩:=O2 (a++b);have p3:(U8 (a++b)).length≤2*(a.length+b.length):=by simpa using p3
 have ht:=B7w (a++b);simp only[Bow];refine Gy (Q:=fun r:A2 Cl=>Pc.E5 r∧∀n,Eb r n=Eb (a++b) n)
  (fun m z=>∃(k:Nat) (out:A2 Cl),z=(((k:Int),()),(),(owR out,()),())∧(k<(U8 (a++b)).length∨(k=0∧(U8 (a++b)).length=0))∧m=(U8 (a++b)).length-k∧Pc.A9d (U8 (a++b)) (Eb (a++b)) k out) ?_ N (U8 (a++b)).length _ ⟨0,[],rfl,by omega,by omega,Pc.Api ht⟩ (by omega)
 rintro m z rec ⟨k,out,rfl,hk,rfl,hu⟩ ih;have w0:i64.wrap ((k:Int)+1)=((k+1:Nat):Int):=Ad (by omega);have z1:((0:Int)==1)=false:=rfl;have z2:((0:Int)==2)=false:=rfl;by_cases Bg:k+1<(U8 (a++b)).length
 ·have Gv:k<(U8 (a++b)).length:=by omega
  have h0:=C0 Gv;have h1:=C0 Bg;obtain⟨e1,e2,e3⟩:=Pc.B7e ht h0 h1;have hca:=Aa0 N a (U8 (a++b))[k] (by omega) (by omega);have hcb:=Aa0 N b (U8 (a++b))[k] (by omega) (by omega);have hor:=Cm a b (U8 (a++b))[k];have w1:u64.wrap ((U8 (a++b))[k+1]-1)=(U8 (a++b))[k+1]-1:=Ss (by omega) (by omega);have next:∀Bfv,Pc.A9d (U8 (a++b)) (Eb (a++b)) (k+1) Bfv→∃r,rec ((((k+1:Nat):Int),()),(),(owR Bfv,()),())=some r∧Pc.E5 r∧∀n,Eb r n=Eb (a++b) n:=by intro Bfv h';exact ih ((U8 (a++b)).length-(k+1)) _ (by omega) ⟨k+1,Bfv,rfl,by omega,rfl,h'⟩
  have nin:Eb (a++b) (U8 (a++b))[k]=true→_:=fun hc=>next _ (Pc.B4n ht hu h0 h1 hc)
  have Bcn:Eb (a++b) (U8 (a++b))[k]=false→_:=fun hc=>next _ (Pc.Axv ht hu h0 h1 hc)
  rw[hor]at nin Bcn;have hul:=hu.len;have hum:=hu.ch.may;clear next ih hu p1 p2
  generalize hlo:(U8 (a++b))[k]=lo at *;generalize hhi:(U8 (a++b))[k+1]=hi at *;have hd:decide (((k+1:Nat):Int)<((U8 (a++b)).length:Int))=true:=by simp;omega
  rcases Fi out with rfl|⟨o,e,rfl⟩
  ·have es:Pc.X4 [] lo hi=[(lo,hi-1)]:=rfl;rw[es]at nin;simp only[w0,hd,Bov,Aq,h0,h1,Bow,hca,hcb,Bn,A6,z1,z2,Box,w1,A6m]at nin Bcn⊢;cases ha:Eb a lo with
   |true =>have:=nin (by rw[ha];rfl);simpa[owR]using this
   |false =>
    cases hb:Eb b lo with
    |true =>have:=nin (by rw[ha,hb];rfl);simpa[owR]using this
    |false =>have:=Bcn (by rw[ha,hb];rfl);simpa[owR]using this
  ·have he:=Bt.1 (hum e (by simp));have hlen:(o++[e]).length=o.length+1:=by simp
   have w2:i64.wrap (((o++[e]).length:Int)-1)=(o.length:Int):=by rw[Ln (by simp) (by omega),hlen];simp
   have c2:decide (0≤(o.length:Int))=true:=by simp
   have c3:decide ((o.length:Int)<((o++[e]).length:Int))=true:=by simp;omega
   have g1:(o++[e])[o.length]? = some e:=by simp
   have w3:u64.wrap (e.2+1)=e.2+1:=Ss (by omega) (by omega);have hf:∀x:Cl,Ao ((o++[e]).length + [x].length) 16=true:=fun x=>fit (by simp;omega) (by simp;omega)
   rw[Pc.A6f]at nin;simp only[w0,hd,Bov,Aq,h0,h1,Bow,hca,hcb,Bn,A6,z1,z2,Box,w1,Rp,w2,c2,c3,Bqo,Bq7,Ec,g1,w3,Aey,hf]at nin Bcn⊢;have fin:(Eb a lo||Eb b lo)=true→∃r,(bif e.2+1==lo then rec ((((k+1:Nat):Int),()),(),(some ((o++[e]).set o.length (e.1,hi-1),(o++[e]).length),()),())else rec ((((k+1:Nat):Int),()),(),(some (o++[e]++[(lo,hi-1)],(o++[e]).length + [(lo,hi-1)].length),()),()))=some r∧Pc.E5 r∧∀n,Eb r n=Eb (a++b) n:=by
    intro hc;have:=nin hc;by_cases hm:e.2+1=lo
    ·rw[Bq6 hm,Rp]at this;have hb:(e.2+1==lo)=true:=by simpa using hm
     rw[hb,Bov];simpa using this
    ·rw[Bpp hm,Rp]at this;have hb:(e.2+1==lo)=false:=by simpa using hm
     rw[hb,Box];simpa using this
   cases ha:Eb a lo with
   |true=>exact fin (by rw[ha];rfl)
   |false =>
    cases hb:Eb b lo with
    |true=>exact fin (by rw[ha,hb];rfl)
    |false=>exact Bcn (by rw[ha,hb];rfl)
 ·have hd:decide (((k+1:Nat):Int)<((U8 (a++b)).length:Int))=false:=by simp;omega
  have hcv:=Pc.Axw ht hu (by omega) (by omega);have hch:=hu.ch;rcases Fi out with rfl|⟨o,e,rfl⟩
  ·simp only[w0,hd,Box,A6m,A6];exact⟨[],rfl,hch,hcv⟩
  ·simp only[w0,hd,Box,Rp,A6,Bq7,Alm,Bov,Brr,Bpy];exact⟨_,rfl,hch,hcv⟩
def Af1(a b:A2 Cl)(hl:a.length+b.length≤100000000000)(hN:1000000000000<N):Fm N a b=some (Pc.Oa (a++b)):=by unfold Fm;obtain⟨r,h1,h2,h3⟩:=Bcm N a b hl hN;rw[h1,Bow,Pc.Atk h2 h3]
def Af2(c:A2 Part)(dev:Int)(hc:Sm c)(hN:1000000000000<N):Fo N c dev=some (if dev=0 then []else Pc.Oa (tl c dev)):=by
 unfold Fo;have hlen:=hc.len;have Blu:=hc.U7;refine Atg (Gy (Q:=fun r:A2 Cl=>r=if dev=0 then []else Pc.Oa (tl c dev))
  (fun m z=>∃(k:Nat),z=((if dev=0 then []else Pc.Oa (tl (c.take k) dev),(k:Int),()),(),(),())∧k≤c.length∧m=c.length-k) ?_ N c.length _ ⟨0,by simp[tl,Pc.Acd],by omega,by omega⟩ (by omega))
 rintro m z rec ⟨k,rfl,hk,rfl⟩ ih;by_cases Gv:k<c.length
 ·simp only[dec_lt,Bp7 Gv,Bov,Aq,C0 Gv,Bow,Ad (show k+1<9223372036854775808 by omega)];have hx:=A2a c Gv dev;by_cases hdv:c[k].1=dev
  ·have hb:(c[k].1==dev)=true:=by simpa using hdv
   rw[hb,Bov];by_cases h0:dev=0
   ·have hb0:(dev != 0)=false:=by simpa using h0
    rw[hb0,Box];refine ih (c.length-(k+1)) _ (by omega) ⟨k+1,by simp[h0],by omega,rfl⟩
   ·have hb0:(dev != 0)=true:=by simpa using h0
    have h1:=Alo c k dev;have h2:=Aub (Bqi Gv);have h3:=Pc.Ts (tl (c.take k) dev);rw[Bq6 hdv]at hx;rw[hb0,Bov,Bpp h0,Af1 N _ _ (by omega) hN,Bow];refine ih (c.length-(k+1)) _ (by omega) ⟨k+1,?_,by omega,rfl⟩;rw[Bpp h0,hx,Pc.Axq]
  ·have hb:(c[k].1==dev)=false:=by simpa using hdv
   rw[Bpp hdv]at hx;rw[hb,Box];refine ih (c.length-(k+1)) _ (by omega) ⟨k+1,by rw[hx],by omega,rfl⟩
 ·have:k=c.length:=by omega
  subst this;simp only[dec_lt,Bp9 Gv,Box];exact⟨_,rfl,by rw[Bpy]⟩
def B7x(d:Int×Int):Bj N d=some (decide (1≤d.1)&&(decide (1≤d.2)&&decide (d.2≤281474976710655))):=by simp only[Bj,cond_eq_ite];by_cases a1:1≤d.1<;>by_cases a2:1≤d.2<;>by_cases a3:d.2≤281474976710655<;>simp[a1,a2,a3]<;>omega
def Acv(c:A2 Part)(d:Int×Int)(hc:Sm c)(hN:1000000000000<N):Eo N c d=some (hasB c d):=by
 unfold Eo;rw[B7x,Bow];have hcd:Eb (tl c d.1) d.2=true→1≤d.2∧d.2≤281474976710655:=Pc.B79;have hl:=Pc.Ts (tl c d.1);have hl2:(tl c d.1).length≤Pc.U7 c:=Pc.Aph c d.1;have Blu:=hc.U7;unfold hasB;by_cases h1:1≤d.1
 ·by_cases h2:1≤d.2∧d.2≤281474976710655
  ·rw[Bp7 h1,Bp7 h2.1,Bp7 h2.2,Bp7 (show 0<d.1 by omega)];simp only[Bqo,Bov,Bsn];rw[Af2 N c d.1 hc hN,Bow,Bpp (by omega),Aa0 N _ _ (by omega) (by omega),Bow];exact Bpj some (Pc.Pd _ _)
  ·have e:(decide (1≤d.2)&&decide (d.2≤281474976710655))=false:=by rw[Bsz];intro hh;simp at hh;exact h2 hh
   have e2:Eb (tl c d.1) d.2=false:=by rw[Bsz];intro hh;exact h2 (hcd hh)
   rw[e,Bool.and_false,Box,e2,Bool.and_false]
 ·rw[Bp9 h1,Bp9 (show ¬0<d.1 by omega)];rfl
def Bfw(a b:A2 Part)(ha:a.length+b.length≤1000000)(hN:1000000000000<N):Jv N a b=some ((a++b).foldl (fun q p=>Ou (p.1,1) q) []):=by
 unfold Jv;have bound:∀(l:A2 Part) (q:A2 (Int×Int)),(l.foldl (fun q p=>Ou (p.1,1) q) q).length≤q.length+l.length:=by
  intro l;induction l with
  |nil=>intro q;simp
  |cons p l ih =>intro q;have:=ih (Ou (p.1,1) q);have:=Z4 (p.1,1) q;simp only[Bqp,Bpk];omega
 rw[Fl a (fun q p=>Ou (p.1,1) q) [] (fun q=>some (b.foldl (fun q p=>Ou (p.1,1) q) q)) ?_ ?_ N (by omega)]
 ·rw[Bui]
 ·intro rec k q hk hq;have hql:q.length≤k:=by have:=bound (a.take k) [];rw[← hq,Bq1]at this;simp at this;omega
  simp only[dec_lt,Bp7 hk,Bov,Aq,C0 hk,Bow,A6l N q _ (by omega) (by omega),Ad (show k+1<9223372036854775808 by omega)]
 ·intro rec;have hq0:=bound a [];simp only[Bs2,Bq7]at hq0;generalize a.foldl (fun q p=>Ou (p.1,1) q) []=q0 at *;simp only[dec_lt,Bp9 (Bri _),Box];refine(Fl b (fun q p=>Ou (p.1,1) q) q0 (fun q=>some q) ?_ ?_ N (by omega))
  ·intro rec k q hk hq;have hql:q.length≤q0.length+k:=by have:=bound (b.take k) q0;rw[← hq,Bq1]at this;omega
   simp only[dec_lt,Bp7 hk,Bov,Aq,C0 hk,Bow,A6l N q _ (by omega) (by omega),Ad (show k+1<9223372036854775808 by omega)]
  ·intro rec;simp only[dec_lt,Bp9 (Bri _),Box]
def B25(c:A2 Part):(c.foldl (fun q p=>Ou (p.1,1) q) []).map (·.1)=Pc.A2k (c.map (·.1)):=by
 have key:∀(l:A2 Part) (q:A2 (Int×Int)),Sd Ye q→(∀x∈q,x.2=1) →
   Sd Ye (l.foldl (fun q p=>Ou (p.1,1) q) q)∧(∀x∈l.foldl (fun q p=>Ou (p.1,1) q) q,x.2=1)∧∀d,(d,1)∈l.foldl (fun q p=>Ou (p.1,1) q) q↔(d,1)∈q∨d∈l.map (·.1):=by
  intro l;induction l with
  |nil=>intro q h1 h2;exact⟨h1,h2,by simp⟩
  |cons p l ih =>
   intro q h1 h2;obtain⟨i1,i2,i3⟩:=ih (Ou (p.1,1) q) (Ay6 _ _ h1) (by
    intro x hx;rcases(Alk _ _ _).1 hx with e|hx
    ·subst e;rfl
    ·exact h2 x hx)
   refine⟨i1,i2,fun d=>?_⟩;rw[Bqp,i3,Alk,Bp3,Boz,or_assoc];simp only[Bpm,and_true];constructor
   ·rintro (h|h|h);exact .inr (.inl h);exact .inl h;exact .inr (.inr h)
   ·rintro (h|h|h);exact .inr (.inl h);exact .inl h;exact .inr (.inr h)
 obtain⟨k1,k2,k3⟩:=key c [] (by simp[Sd]) (by simp);refine B4x ?_ (Pc.W3 _) fun x=>?_
 ·rw[Bse];refine(Buo.2 fun {a b} hs=>?_);have h1:=Buo.1 k1 hs;have ha:=k2 a (hs.subset (by simp));have hb:=k2 b (hs.subset (by simp));have h1:ltOf Du a b=true:=h1;rw[Q1]at h1;simp at h1;omega
 ·rw[Pc.A0l,Bpc];constructor
  ·rintro ⟨y,hy,rfl⟩;have:=k2 y hy;have hy':(y.1,(1:Int))∈c.foldl (fun q p=>Ou (p.1,1) q) []:=by rw[show((y.1,(1:Int)):Int×Int)=y from Prod.ext rfl this.symm];exact hy
   have:=(k3 y.1).1 hy';simpa using this
  ·intro hx;exact⟨(x,1),(k3 x).2 (.inr hx),rfl⟩
theorem Als(g:Int→A2 Cl):∀(l:A2 (Int×Int)) (q:A2 Part),l.foldl (fun q d=>if (g d.1).isEmpty then q else q++[((d.1,g d.1):Part)]) q=q++Pc.partsOf g (l.map (·.1))
 |[],q=>by simp[Pc.partsOf]
 |d::l,q=>by
  rw[Bqp,Als g l];unfold Pc.partsOf;rw[Bp3,Bp3,Br4];cases hg:g d.1 with
  |nil=>simp
  |cons x r=>simp
def Ayi(a b:A2 Part)(hl:a.length+b.length≤1000000)(ha:Sm a)(hb:Sm b)(hN:1000000000000<N):Ia N a b 0=some (Pc.partsOf (fun d=>if d=0 then []else Pc.Oa (tl a d++tl b d)) (Pc.A2k ((a++b).map (·.1)))):=by
 unfold Ia;rw[Bfw N a b hl hN,Bow];have Blv:=B25 (a++b);generalize (a++b).foldl (fun q p=>Ou (p.1,1) q) []=ds at *;have hdl:ds.length≤1000000:=by have h1:=Bpj List.length Blv;have h2:=Pc.Apg ((a++b).map (·.1));simp at h1 h2;omega
 rw[← Blv];have z1:((0:Int)==1)=false:=rfl;have z2:((0:Int)==2)=false:=rfl;have ff:=Als (fun d:Int=>if d=0 then ([]:A2 Cl)else Pc.Oa (tl a d++tl b d));have hg:=ff ds [];rw[Bpx]at hg;rw[← hg];refine Fl ds _ [] (fun q=>some q) ?_ ?_ N (by omega)
 ·intro rec k q hk hq;have hql:q.length≤k:=by rw[ff,Bpx]at hq;have h1:=Pc.Agg (fun d=>if d=0 then []else Pc.Oa (tl a d++tl b d)) ((ds.take k).map (·.1));rw[← hq,Bpl,Bq1]at h1;omega
  have l1:=Pc.Ts (tl a ds[k].1);have l2:=Pc.Ts (tl b ds[k].1);have l3:(tl a ds[k].1).length≤Pc.U7 a:=Pc.Aph a _;have l4:(tl b ds[k].1).length≤Pc.U7 b:=Pc.Aph b _;have ha2:=ha.U7;have hb2:=hb.U7;have hj:Fm N (if ds[k].1=0 then []else Pc.Oa (tl a ds[k].1)) (if ds[k].1=0 then []else Pc.Oa (tl b ds[k].1))=some (if ds[k].1=0 then []else Pc.Oa (tl a ds[k].1++tl b ds[k].1)):=by
   by_cases h0:ds[k].1=0
   ·simp only[h0,Brg];rw[Af1 N [] [] (by simp) hN];exact Bpj some Pc.Acd
   ·simp only[h0,Bre];rw[Af1 N _ _ (by omega) hN,Pc.Axq,Pc.B7a]
  simp only[dec_lt,Bp7 hk,Bov,Aq,C0 hk,Bow,Af2 N a _ ha hN,Af2 N b _ hb hN,hj,Bn,z1,z2,Box,Ad (show k+1<9223372036854775808 by omega)];generalize (if ds[k].1=0 then ([]:A2 Cl)else Pc.Oa (tl a ds[k].1++tl b ds[k].1))=zz;cases zz with
  |nil=>simp
  |cons x r =>have hf:Ao (q.length + [((ds[k].1,x::r):Part)].length) 32=true:=fit (by simp;omega) (by simp;omega);rw[B1y,Bov,hf,Bov];rfl
 ·intro rec;simp only[dec_lt,Bp9 (Bri _),Box]
def gd(x:Int×Int):Bool:=decide (0<x.1)&&(decide (0<x.2)&&decide (x.2≤281474976710655))
def A2c(x:Int×Int):Q2 N x=some (gd x):=by unfold Q2 gd;cases decide (0<x.1)<;>cases decide (0<x.2)<;>rfl
def Te(x:Int×Int):Bj N x=some (gd x):=by
 unfold Bj gd;have e1:decide (1≤x.1)=decide (0<x.1):=by congr 1
 have e2:decide (1≤x.2)=decide (0<x.2):=by congr 1
 have e3:decide (x.2<281474976710656)=decide (x.2≤281474976710655):=by simp only[Bu4];omega
 rw[e1,e2,e3];cases decide (0<x.1)<;>cases decide (0<x.2)<;>rfl
def tx(l:A2 UInt8):Bool:=decide (l.length≤60)&&l.all fun c=>!(decide (c<32)) && !(decide (126<c))
def Bfx(l:A2 UInt8)(hl:l.length<9223372036854775807)(hN:l.length<N):Vk N l=some (tx l):=by
 unfold Vk;by_cases h60:60<l.length
 ·have e:decide ((60:Int)<(l.length:Int))=true:=by simp;omega
  simp only[e,Bov,tx,Bp9 (show ¬l.length≤60 by omega),Bwf]
 ·have e:decide ((60:Int)<(l.length:Int))=false:=by simp;omega
  simp only[e,Box];refine(Nz l.length (fun k=>some ((l.drop k).all fun c=>!(decide (c<32)) && !(decide (126<c)))) 0 ?_ ?_ N hN).trans ?_
  ·intro rec k _ hk hr;simp only[dec_lt,Aq,C0 hk,Bow,Ad (show k+1<9223372036854775808 by omega),hr,Bp7 hk,Bov];have e1:l.drop k=l[k]::l.drop (k+1):=Bqe hk;rw[e1,Bt9];cases decide (l[k]<32)<;>cases decide (126<l[k])<;>rfl
  ·intro rec k hk;simp only[dec_lt,Bp9 (show ¬k<l.length by omega),Box];rw[Bs0 hk];rfl
  ·simp only[tx,Bp7 (show l.length≤60 by omega),Bsn,Brr]
def B26(l:A2 UInt8)(hl:l.length<9223372036854775807)(hN:l.length<N):Ju N l=some (tx l):=by
 unfold Ju;refine(Nz l.length (fun k=>some (((l.drop k).all fun c=>!(decide (c<32)) && !(decide (126<c)))&&decide (l.length≤60))) 0 ?_ ?_ N hN).trans ?_
 ·intro rec k _ hk hr;simp only[dec_lt,Aq,C0 hk,Bow,Ad (show k+1<9223372036854775808 by omega),hr,Bp7 hk,Bov];have e1:l.drop k=l[k]::l.drop (k+1):=Bqe hk;rw[e1,Bt9];cases decide (l[k]<32)<;>cases decide (126<l[k])<;>rfl
 ·intro rec k hk;simp only[dec_lt,Bp9 (show ¬k<l.length by omega),Box];rw[Bs0 hk];simp only[List.all_nil,Bsn];congr 1;simp only[Bu4];omega
 ·simp only[tx,Brr,Bwi]
def Acw:A2 (Int×Int)→Bool
 |[]=>true
 |[_]=>true
 |x::y::r=>decide (Du x y<0)&&Acw (y::r)
def Alu{l:A2 (Int×Int)}(h:l.length≤1):Acw l=true:=by
 match l with
 |[]=>rfl
 |[_]=>rfl
 |_::_::_=>simp at h
def Apt{l:A2 (Int×Int)}(h0:0<k)(hk:k<l.length):Acw (l.drop (k-1))=(decide (Du l[k-1] l[k]<0)&&Acw (l.drop k)):=by have e1:l.drop (k-1)=l[k-1]::l.drop (k-1+1):=Bqe (by omega);have e2:l.drop k=l[k]::l.drop (k+1):=Bqe hk;rw[show k-1+1=k by omega]at e1;rw[e1,e2,Acw]
def B7y(l:A2 (Int×Int))(hl:l.length<9223372036854775807)(hN:l.length<N):Vl N l=some (Acw l):=by
 unfold Vl;refine(Nz l.length (fun k=>some (Acw (l.drop (k-1)))) 0 ?_ ?_ N hN).trans rfl
 ·intro rec k _ hk hr;by_cases h0:0<k
  ·have h0':decide ((0:Int)<(k:Int))=true:=by simp;omega
   have e1:i64.wrap ((k:Int)-1)=((k-1:Nat):Int):=Ln h0 (by omega);simp only[dec_lt,h0',e1,Aq,C0 hk,C0 (show k-1<l.length by omega),Bow,Ad (show k+1<9223372036854775808 by omega),hr,Bp7 hk,Bov,Ato];rw[Apt h0 hk,show k+1-1=k by omega];by_cases hc:0≤Du l[k-1] l[k]
   ·simp only[Bp7 hc,Bov,Bp9 (show ¬Du l[k-1] l[k]<0 by omega),Bwf]
   ·simp only[Bp9 hc,Box,Bp7 (show Du l[k-1] l[k]<0 by omega),Bsn]
  ·have:k=0:=by omega
   subst this;have h0':decide ((0:Int)<((0:Nat):Int))=false:=by simp
   simp only[dec_lt,h0',Ad (show 0+1<9223372036854775808 by omega),hr,Bp7 hk,Bov,Box]
 ·intro rec k hk;simp only[dec_lt,Bp9 (show ¬k<l.length by omega),Box];rw[Alu];rw[Bvt];omega
def Auf(l:A2 (Int×Int))(hl:l.length<9223372036854775807)(hN:l.length<N):G2 N l=some (Acw l):=by
 unfold G2;refine(Nz l.length (fun k=>some (Acw (l.drop (k-1)))) 1 ?_ ?_ N hN).trans rfl
 ·intro rec k h0 hk hr;have e1:i64.wrap ((k:Int)-1)=((k-1:Nat):Int):=Ln h0 (by omega);simp only[dec_lt,e1,Aq,C0 hk,C0 (show k-1<l.length by omega),Bow,Ad (show k+1<9223372036854775808 by omega),hr,Bp7 hk,Bov,A6k];rw[Apt h0 hk,show k+1-1=k by omega];by_cases hc:0≤Du l[k-1] l[k]
  ·simp only[Bp7 hc,Bov,Bp9 (show ¬Du l[k-1] l[k]<0 by omega),Bwf]
  ·simp only[Bp9 hc,Box,Bp7 (show Du l[k-1] l[k]<0 by omega),Bsn]
 ·intro rec k hk;simp only[dec_lt,Bp9 (show ¬k<l.length by omega),Box];rw[Alu];rw[Bvt];omega
def Bco(v:Int)(h0:0≤v)(h1:v<18446744073709551616):Pf N v=J6 N v:=by
 obtain⟨n,rfl⟩:=Btq h0;have e1:((n:Int)).fdiv 281474976710656=((n/281474976710656:Nat):Int):=by rw[Bu5 _ (by decide)];rfl
 have e2:((n:Int)).tdiv 281474976710656=((n/281474976710656:Nat):Int):=rfl;have e3:((n:Int)).tmod 281474976710656=((n % 281474976710656:Nat):Int):=rfl;have e4:u64.wrap ((n/281474976710656:Nat):Int)=((n/281474976710656:Nat):Int):=by exact Bwd _ (by omega)
 have e5:bits BinOp.and u64 (n:Int) 281474976710655=((n % 281474976710656:Nat):Int):=by
  have hn:n<18446744073709551616:=by omega
  have h:((BitVec.ofInt 64 (n:Int)) &&& (BitVec.ofInt 64 281474976710655)).toNat=n % 281474976710656:=by
   rw[BitVec.toNat_and];have a1:(BitVec.ofInt 64 (n:Int)).toNat=n:=by rw[BitVec.toNat_ofInt];omega
   have a2:(BitVec.ofInt 64 281474976710655).toNat=2 ^ 48-1:=by decide
   rw[a1,a2,Nat.and_two_pow_sub_one_eq_mod]
  show u64.wrap (((BitVec.ofInt 64 (n:Int)) &&& (BitVec.ofInt 64 281474976710655)).toNat:Int)=_;rw[h];exact Bwd _ (by omega)
 unfold Pf J6;rw[e1,e2,e3,e4,e5]
def B7z(v:Int)(h0:0≤v)(h1:v<18446744073709551616):Ik N v=Kz N v:=by unfold Ik Kz;rw[Bco N v h0 h1];simp only[A2c,Te]
def Bfy(d:Int×Int)(l:A2 (Int×Int))(hl:l.length<9223372036854775807)(hN:l.length<N) :
  iter
   (fun(rec:(Int×Unit)×Unit×Unit×Unit→A3 Bool) (z:(Int×Unit)×Unit×Unit×Unit) =>
    bif decide (z.fst.fst<(l.length:Int)) then
     (at? l z.fst.fst).bind fun(e:Int×Int) =>Option.bind (Bj N e) fun(y:Bool) =>bif !y then some false else rec ((i64.wrap (z.fst.fst+1),()),(),(),())
    else
     bif decide ((l.length:Int)≤256) then
      Option.bind (G2 N l) fun(y:Bool) =>
       bif y then Option.bind (G8 N l d) fun(y:Bool)=>some !y
       else some false
     else some false)
   N ((0,()),(),(),())=some (l.all gd&&(decide (l.length≤256)&&(Acw l && !decide (d∈l)))):=by
 refine(Nz l.length (fun k=>some ((l.drop k).all gd&&(decide (l.length≤256)&&(Acw l && !decide (d∈l))))) 0 ?_ ?_ N hN).trans rfl
 ·intro rec k _ hk hr;simp only[dec_lt,Aq,C0 hk,Bow,Ad (show k+1<9223372036854775808 by omega),hr,Bp7 hk,Bov,Te];have e1:l.drop k=l[k]::l.drop (k+1):=Bqe hk;rw[e1,Bt9];cases gd l[k]<;>rfl
 ·intro rec k hk;have e:decide ((l.length:Int)≤256)=decide (l.length≤256):=by simp only[Bu4];omega
  simp only[dec_lt,Bp9 (show ¬k<l.length by omega),Box,Auf N l hl hN,Apm N l d hl hN,Bow,e];rw[Bs0 hk];cases decide (l.length≤256)<;>cases Acw l<;>rfl
def Bfz(d:Int×Int)(l:A2 (Int×Int))(hl:l.length<9223372036854775807)(hN:l.length<N) :
  iter
   (fun(rec:(Int×Unit)×Unit×Unit×Unit→A3 Bool) (z:(Int×Unit)×Unit×Unit×Unit) =>
    bif decide (z.fst.fst<(l.length:Int)) then
     (at? l z.fst.fst).bind fun(e:Int×Int) =>
      Option.bind (Q2 N e) fun(y:Bool) =>
       bif !y then some false
       else
        bif e.fst==d.fst&&e.snd==d.snd then some false
        else rec ((i64.wrap (z.fst.fst+1),()),(),(),())
    else some true)
   N ((0,()),(),(),())=some (l.all gd && !decide (d∈l)):=by
 refine(Nz l.length (fun k=>some ((l.drop k).all gd && !decide (d∈l.drop k))) 0 ?_ ?_ N hN).trans rfl
 ·intro rec k _ hk hr;simp only[dec_lt,Aq,C0 hk,Bow,Ad (show k+1<9223372036854775808 by omega),hr,Bp7 hk,Bov,A2c,Au9];have e1:l.drop k=l[k]::l.drop (k+1):=Bqe hk;rw[e1,Bt9];by_cases he:l[k]=d
  ·have h1:d∈l[k]::l.drop (k+1):=by rw[he];exact Bp6
   rw[Bp7 he,Bp7 h1];cases gd l[k]<;>simp
  ·have h1:(d∈l[k]::l.drop (k+1))↔d∈l.drop (k+1):=by simp[-List.getElem_cons_drop,Brl he]
   simp only[Bp9 he,h1];cases gd l[k]<;>rfl
 ·intro rec k hk;simp only[dec_lt,Bp9 (show ¬k<l.length by omega),Box];rw[Bs0 hk];rfl
def Aug(c:UInt8):Od N c=O3 N c:=rfl
def Alv(c:UInt8):O3 N c=some (decide (1≤c)&&decide (c≤5)):=by unfold O3;cases decide (1≤c)<;>rfl
def Bg0(v:Int):Bool:=match Kz 0 v with
 |some y=>y.2
 |none=>false
def Ayj(v:Int):∃d,Kz N v=some (d,Bg0 v):=by
 unfold Bg0 Kz Pf;simp only[Bow,A2c];cases gd (u16.wrap (v.fdiv 281474976710656),bits BinOp.and u64 v 281474976710655)
 ·exact⟨_,rfl⟩
 ·exact⟨_,rfl⟩
def Alw(x:Ev):Bool:=Bg0 x.2.2.1&&(gd x.1&&((x.2.1==1&&(decide (1≤x.2.2.2.1)&&decide (x.2.2.2.1≤5))&&tx x.2.2.2.2.1)||(x.2.1==2&&x.2.2.2.1==0&&x.2.2.2.2.1 == [])))
def Ayk(d:Int×Int)(l:A2 (Int×Int)):Bool:=l.all gd&&(decide (l.length≤256)&&(Acw l && !decide (d∈l)))
def Jn(x:Ev):Bool:=Alw x&&Ayk x.1 x.2.2.2.2.2
def B4y(x:Ev)(h0:0≤x.2.2.1)(h1:x.2.2.1<18446744073709551616)(hl:x.2.2.2.2.2.length≤100000)(ht:x.2.2.2.2.1.length≤100000)(hN:1000000<N) :
  O4 N x=some (Jn x)∧E2 N x=some (Jn x):=by
 have l1:x.2.2.2.2.2.length<9223372036854775807:=by omega
 have l2:x.2.2.2.2.2.length<N:=by omega
 have t1:x.2.2.2.2.1.length<9223372036854775807:=by omega
 have t2:x.2.2.2.2.1.length<N:=by omega
 unfold O4 E2 gdE gdT gdK Jn Alw Ayk;simp only[Bfy N x.1 _ l1 l2,Bfz N x.1 _ l1 l2];simp only[B7z N _ h0 h1,A2c,Te,B7y N _ l1 l2,Bfx N _ t1 t2,B26 N _ t1 t2,Bn,Bow,Aug,Alv,bne];obtain⟨y,hy⟩:=Ayj N x.2.2.1;have e:decide ((256:Int)<(x.2.2.2.2.2.length:Int)) = !decide (x.2.2.2.2.2.length≤256):=by rw[← decide_not];simp only[Bu4];omega
 simp only[hy,Bow,e];generalize Bg0 x.2.2.1=b1;generalize gd x.1=b2;generalize hb3:(x.2.1==1)=b3;generalize hb4:(x.2.1==2)=b4;generalize (decide (1≤x.2.2.2.1)&&decide (x.2.2.2.1≤5))=b5;generalize tx x.2.2.2.2.1=b6;generalize (x.2.2.2.1==0)=b7;generalize (x.2.2.2.2.1 == [])=b8;generalize decide (x.2.2.2.2.2.length≤256)=b9;generalize Acw x.2.2.2.2.2=b10;generalize x.2.2.2.2.2.all gd=b11;generalize decide (x.1∈x.2.2.2.2.2)=b12;have h34:b3=true→b4=true→False:=by
  intro p q;subst p;subst q;have:=eq_of_beq hb3;have:=eq_of_beq hb4
  simp_all
 clear hb3 hb4;cases b1<;>cases b2<;>cases b3<;>cases b4<;>simp only[Bov,Box,Br2,Brm]<;>first|exact⟨rfl,rfl⟩|exact(h34 rfl rfl).elim|skip
 all_goals (cases b5<;>cases b6<;>cases b7<;>cases b8<;>cases b9<;>cases b10<;>cases b11<;>cases b12<;>exact⟨rfl,rfl⟩)
def Apu(h:Jn x=true):gd x.1=true:=by simp[Jn,Alw]at h;exact h.1.2.1
def Ayl(h:Jn x=true):∀d∈x.2.2.2.2.2,gd d=true:=by simp[Jn,Ayk]at h;intro d hd;exact h.2.1 d.1 d.2 hd
def B80(h:Jn x=true):x.1∉x.2.2.2.2.2:=by simp[Jn,Ayk]at h;exact h.2.2.2.2
def B27(h:Jn x=true):x.2.1=1∨x.2.1=2:=by simp[Jn,Alw]at h;rcases h.1.2.2 with h|h<;>simp[h]
def B28(h:Jn x=true):Jn (x.1,x.2.1,x.2.2.1,x.2.2.2.1,x.2.2.2.2.1,[])=true:=by unfold Jn at h⊢;rw[Bq4]at h;have h1:Alw (x.1,x.2.1,x.2.2.1,x.2.2.2.1,x.2.2.2.2.1,[])=Alw x:=rfl;rw[h1,h.1];rfl
abbrev Bhh(k:Nat):(Int×Unit)×Unit×Unit×Unit:=(((k:Int),()),(),(),())
structure InE(e:Ev):Prop where
 Bcp:0≤e.2.2.1
 Bcq:e.2.2.1<18446744073709551616
 dev:e.1.1<65536
structure SmE(e:Ev):Prop where
 B4z:e.2.2.2.2.2.length≤300
 text:e.2.2.2.2.1.length≤200
 inn:InE e
def B29(e:Ev)(he:SmE e)(hN:1000000<N):E2 N e=some (Jn e) :=
 (B4y N e he.inn.Bcp he.inn.Bcq (by have:=he.B4z;omega) (by have:=he.text;omega) hN).2
def Bh1(e:Ev)(he:SmE e)(hN:1000000<N):O4 N e=some (Jn e) :=
 (B4y N e he.inn.Bcp he.inn.Bcq (by have:=he.B4z;omega) (by have:=he.text;omega) hN).1
def Vr(c:A2 Part):Prop:=∀p∈c,0≤p.1
def Vr.nil:Vr []:=by simp[Vr]
def Vr.app{a:A2 Part}(ha:Vr a)(hb:Vr b):Vr (a++b):=fun p hp=>(Bp4.1 hp).elim (ha p) (hb p)
def Vr.can(c:A2 Part):Vr (Pc.Kg c):=fun p hp=>Int.le_of_lt ((Pc.Akn c).pos p hp)
def Alx(f:Int→A2 Cl)(p:Int→Bool)(ds:A2 Int)(h:∀d∈ds,p d=false→f d=[]):Pc.partsOf f ds=Pc.partsOf f (ds.filter p):=by
 induction ds with
 |nil=>rfl
 |cons d r ih =>
  have ih:=ih fun e he=>h e (Bp5 _ he)
  unfold Pc.partsOf at ih⊢;cases hp:p d with
  |true=>rw[List.filter_cons_of_pos (by simpa using hp),Bp3,Bp3,Br4,Br4,ih]
  |false =>have:=h d Bp6 hp;rw[List.filter_cons_of_neg (by simp[hp]),Bp3,Br4,← ih];simp[this]
def Aym{a:A2 Part}(ha:Vr a)(hb:Vr b):Pc.partsOf (fun d=>if d=0 then []else Pc.Oa (tl a d++tl b d)) (Pc.A2k ((a++b).map (·.1)))=Pc.Kg (a++b):=by
 have hp:∀d∈Pc.A2k ((a++b).map (·.1)),0≤d:=by intro d hd;obtain⟨p,hp,rfl⟩:=Bpc.1 ((Pc.A0l _ _).1 hd);exact ha.app hb p hp
 rw[Alx _ (fun d=>decide (0<d)) _ ?_]
 ·refine Pc.Atm (Pc.Age ((Pc.W3 _).filter _) ?_ ?_) fun d n=>?_
  ·intro d hd;simpa using(Bpv.1 hd).2
  ·intro d hd;have:0<d:=by simpa using(Bpv.1 hd).2
   rw[Bpp (by omega)];exact Pc.Si _
  ·unfold Pc.Zj;by_cases hd:0<d
   ·rw[Pc.A9b ((Pc.W3 _).filter _)];by_cases hm:d∈Pc.A2k ((a++b).map (·.1))
    ·rw[Bq6 (Bpv.2 ⟨hm,by simpa using hd⟩),Bpp (by omega),Pc.Pd,Pc.Apf];rfl
    ·rw[Bpp fun h=>hm (Bpv.1 h).1,Pc.A1y (c:=a++b)];intro p hpp he;exact hm ((Pc.A0l _ _).2 (he▸Bpe (f:=(·.1)) hpp))
   ·simp[hd]
 ·intro d hd h0;have:=hp d hd;have h1:d=0:=by simp at h0;omega
  rw[Bq6 h1]
def Aly(a b:A2 Part)(hl:a.length+b.length≤1000000)(ha:Sm a)(hb:Sm b)(da:Vr a)(db:Vr b)(hN:1000000000000<N):E3 N a b=some (Pc.Kg (a++b)):=by unfold E3;rw[Ayi N a b hl ha hb hN,Aym da db];rfl
def B81(a:A2 Part)(hl:a.length≤1000000)(ha:Sm a)(da:Vr a)(hN:1000000000000<N):Jy N a=some (Pc.Kg a):=by unfold Jy;rw[Ayi N a [] (by simpa using hl) ha .nil hN,Aym da .nil,Bq0];rfl
def Alz(a b:A2 Part):(Pc.Kg (a++b)).length≤a.length+b.length:=by have:=Pc.Axu (a++b);rwa [Bq2]at this
def Am0(a b:A2 Part):Pc.U7 (Pc.Kg (a++b))≤Pc.U7 a+Pc.U7 b:=by have:=Pc.Axt (a++b);rwa [Pc.Ako]at this
def B50(c:A2 Part)(d:Int×Int):hasB (Pc.Kg c) d=hasB c d:=Pc.Axs c d.1 d.2
def Am1(a b:A2 Part)(d:Int×Int):hasB (Pc.Kg (a++b)) d=(hasB a d||hasB b d):=(B50 _ d).trans (Pc.Axr a b d.1 d.2)
def Bg1{d:Int×Int}(h:gd d=true):hasB [(d.1,[(d.2,d.2)])] d=true:=by
 have h:0<d.1∧0<d.2∧d.2≤281474976710655:=by simpa[gd]using h
 obtain⟨h1,h2,h3⟩:=h;have e:tl [((d.1,[(d.2,d.2)]):Part)] d.1=[(d.2,d.2)]:=by simp[tl]
 have m:D8 (d.2,d.2)=true:=Bt.2 ⟨by omega,by omega,h3⟩;unfold hasB;rw[e,Pb];simp[inR,m,h1]
def Bg2(l:A2 (Int×Int))(hl:l.length≤100000)(hN:1000000000000<N):∃r,J7 N l=some r∧r.length≤l.length∧Pc.U7 r≤l.length∧Vr r∧∀d∈l,gd d=true→hasB r d=true:=by
 unfold J7;refine Gy (Q:=fun r:A2 Part=>r.length≤l.length∧Pc.U7 r≤l.length∧Vr r∧∀d∈l,gd d=true→hasB r d=true)
  (fun m z=>∃(k:Nat) (c:A2 Part),z=((c,(k:Int),()),(),(),())∧k≤l.length∧m=l.length-k∧c.length≤k∧Pc.U7 c≤k∧Vr c∧∀d∈l.take k,gd d=true→hasB c d=true) ?_ N l.length _ ⟨0,[],rfl,by omega,by omega,by simp,by simp[Pc.U7],.nil,by simp⟩ (by omega)
 rintro m z rec ⟨k,c,rfl,hk,rfl,h1,h2,h3,h4⟩ ih;by_cases Gv:k<l.length
 ·have tk:l.take (k+1)=l.take k++[l[k]]:=by rw[Bqu,C0 Gv];rfl
  simp only[dec_lt,Bp7 Gv,Bov,Aq,C0 Gv,Bow,Te,Ad (show k+1<9223372036854775808 by omega)];cases hg:gd l[k] with
  |false =>
   rw[Box];refine ih (l.length-(k+1)) _ (by omega) ⟨k+1,c,rfl,by omega,rfl,by omega,by omega,h3,?_⟩;rw[tk];intro d hd hdg;rcases Bp4.1 hd with hd|hd
   ·exact h4 d hd hdg
   ·simp at hd;subst hd;rw[hg]at hdg;cases hdg
  |true =>
   have e1:Pc.U7 [((l[k].1,[(l[k].2,l[k].2)]):Part)]=1:=rfl;have A35:0<l[k].1:=by have h:=hg;simp[gd]at h;exact h.1
   have d1:Vr [((l[k].1,[(l[k].2,l[k].2)]):Part)]:=by intro p hp;simp at hp;subst hp;exact Int.le_of_lt A35
   rw[Bov,Aly N c _ (by simp;omega) ⟨by omega,by omega⟩ ⟨by simp,by rw[e1];omega⟩ h3 d1 hN,Bow];have j1:=Alz c [((l[k].1,[(l[k].2,l[k].2)]):Part)];have j2:=Am0 c [((l[k].1,[(l[k].2,l[k].2)]):Part)];rw[e1]at j2;refine ih (l.length-(k+1)) _ (by omega) ⟨k+1,_,rfl,by omega,rfl,by simpa using Bqf j1 (by simp;omega),by omega,.can _,?_⟩;rw[tk];intro d hd hdg;rw[Am1];rcases Bp4.1 hd with hd|hd
   ·rw[h4 d hd hdg];rfl
   ·simp at hd;subst hd;rw[Bg1 hdg];simp
 ·have:k=l.length:=by omega
  subst this;simp only[dec_lt,Bp9 Gv,Box];exact⟨c,rfl,h1,h2,h3,by rwa [Bpy]at h4⟩
def Auh(h:SmE e):smE e:=Bqf h.B4z (by omega)
def Blw(e:Ev)(hi:InE e)(hN:10000<N):∃b,G7 N [e] 1=some b∧(b=true→SmE e):=by
 unfold G7;obtain⟨M,rfl⟩:∃M,N=M+2:=⟨N-2,by omega⟩;have w1:i64.wrap ((0:Int)+1)=1:=rfl;have d1:decide ((1:Int)<(([e]:A2 Ev).length:Int))=false:=rfl;have d0:decide ((0:Int)<(([e]:A2 Ev).length:Int))=true:=rfl;have a0:at? [e] 0=some e:=rfl;simp only[iter,d0,d1,w1,Bov,Box,a0,Bow];by_cases h1:300<e.2.2.2.2.2.length
 ·have:decide ((300:Int)<(e.2.2.2.2.2.length:Int))=true:=by simp;omega
  simp only[this,Bov];exact⟨false,rfl,by simp⟩
 ·have h1':decide ((300:Int)<(e.2.2.2.2.2.length:Int))=false:=by simp;omega
  simp only[h1',Box];by_cases h2:200<e.2.2.2.2.1.length
  ·have:decide ((200:Int)<(e.2.2.2.2.1.length:Int))=true:=by simp;omega
   simp only[this,Bov];exact⟨false,rfl,by simp⟩
  ·have h2':decide ((200:Int)<(e.2.2.2.2.1.length:Int))=false:=by simp;omega
   simp only[h2',Box];exact⟨true,rfl,fun _=>⟨by omega,by omega,hi⟩⟩
def B2a(c:A2 Part)(d:Int×Int)(hc:Sm c)(hN:1000000000000<N):A6i N c d=some (hasB c d):=by
 unfold A6i hasB;by_cases h0:0<d.1
 ·have hlen:(tl c d.1).length≤Pc.U7 c:=Pc.Aph c d.1;have Blu:=hc.U7;obtain⟨es,Iq,h1,_,_,_,h2⟩:=Ayb N c hc hN;rw[Bp7 h0,Bov];unfold A9i;rw[h1];simp only[Bow];have e:=h2 d.1 h0;have e':(B3g (.int .u16) B4.sl d.1 es).getD []=tl c d.1:=e;rw[e',norm_eq N _ (by omega) hN];simp only[Bow];have hn:=Acp (tl c d.1);rw[Bfq N _ _ (by omega) hN,(U4 _).2];rfl
 ·rw[Bp9 h0];rfl
def Bcr(l:A2 (Int×Int))(c:A2 Part)(b:Bool)(hl:l.length≤1000000)(hc:Sm c)(hN:1000000000000<N):Vj N l c b=some (Gs (l.filter fun d=>hasB c d==b)):=by
 unfold Vj;have e0:=foldl_filter (fun d=>hasB c d==b) l [];rw[Fl l (fun a x=>cond (hasB c x==b) (a++[x]) a) [] (fun a=>some (Gs a)) ?_ ?_ N (by omega),e0]
 ·rfl
 ·intro rec k a hk ha;have hal:a.length≤k:=by rw[ha,foldl_filter,Bpx];exact Sr _ _ _
  have hf:Ao (a.length + [l[k]].length) 16=true:=fit (by simp;omega) (by simp;omega);simp only[dec_lt,Bp7 hk,Bov,Aq,C0 hk,Bow,B2a N c _ hc hN,hf,Ad (show k+1<9223372036854775808 by omega)];cases(hasB c l[k]==b)<;>rfl
 ·intro rec;have hal:(l.foldl (fun a x=>cond (hasB c x==b) (a++[x]) a) []).length≤l.length:=by rw[foldl_filter,Bpx];exact Bq9 _ _
  generalize l.foldl (fun a x=>cond (hasB c x==b) (a++[x]) a) []=q at *;simp only[dec_lt,Bp9 (Bri _),Box];rw[Alj N q (by omega) (by omega)];rfl
def Am2(a:A2 Cl)(hl:a.length≤1000000000)(hN:1000000000000<N):Gz N a a=some true:=by
 unfold Gz;have e:((a.length:Int) != (a.length:Int))=false:=by simp
 rw[e,Box];refine Nz a.length (fun _=>some true) 0 ?_ ?_ N (by omega)
 ·intro rec k _ hk hr;simp only[dec_lt,Bp7 hk,Bov,Aq,C0 hk,Bow,Ad (show k+1<9223372036854775808 by omega),hr,Bs4,Bqo,Br2,Box]
 ·intro rec k hk;simp only[dec_lt,Bp9 (show ¬k<a.length by omega),Box]
def B2b(a:A2 Part)(ha:Sm a)(hN:1000000000000<N):Ace N a a=some true:=by
 unfold Ace E1;have hl:=ha.len;have e:((a.length:Int) != (a.length:Int))=false:=by simp
 rw[e,Box];have H:iter (fun(rec:(Int×Unit)×Unit×Unit×Unit→A3 ((Bool×Unit)×Unit×Unit×Unit)) (z:(Int×Unit)×Unit×Unit×Unit) =>
   bif decide (z.fst.fst<(a.length:Int)) then
    (at? a z.fst.fst).bind fun(e:Part)=>(at? a z.fst.fst).bind fun(Mn:Part) =>Option.bind (X9 N e Mn) fun(y:Bool) =>bif !y then some ((false,()),(),(),())else rec ((i64.wrap (z.fst.fst+1),()),(),(),())
   else some ((true,()),(),(),())) N ((0,()),(),(),())=some ((true,()),(),(),()):=by
  refine Nz a.length (fun _=>some ((true,()),(),(),())) 0 ?_ ?_ N (by omega)
  ·intro rec k _ hk hr;have hq:X9 N a[k] a[k]=some true:=by unfold X9;rw[Am2 N a[k].2 (by have:=Aub (Bqi hk);have:=ha.U7;omega) hN];simp
   simp only[dec_lt,Bp7 hk,Bov,Aq,C0 hk,Bow,Ad (show k+1<9223372036854775808 by omega),hr,hq,Br2,Box]
  ·intro rec k hk;simp only[dec_lt,Bp9 (show ¬k<a.length by omega),Box]
 exact(Bpj (fun o=>Option.bind o fun y:(Bool×Unit)×Unit×Unit×Unit=>some y.fst.fst) H)
def Ayn(c:A2 Part)(hc:Sm c)(hN:1000000000000<N):A1z N (Pc.Kg c)=some true:=by unfold A1z;rw[Aye N _ hc.can hN,Bow,Pc.B7c,B2b N _ hc.can hN];rfl
abbrev Bk:Type:=A2 Part×A2 Ev
structure BdB(k:Nat)(x:Bk):Prop where
 len:x.2.length≤k
 evs:∀e∈x.2,SmE e
 cl:x.1.length≤400*k
 ct:Pc.U7 x.1≤2000*k
 dev:Vr x.1
 asc:x.2.Pairwise fun a b=>ltE a b=true
 B82:∀e∈x.2,Jn e=true
 live:∀a∈x.2,a.2.1=1→∀b∈x.2,a.1∉b.2.2.2.2.2
 seen:∀e∈x.2,∀d∈dsE e,hasB x.1 d=true
def BdB.sm{x:Bk}(h:BdB k x)(hk:k≤30):Sm x.1:=⟨by have:=h.cl;omega,by have:=h.ct;omega⟩
def BdB.up{x:Bk}(h:BdB k x):BdB (k+1) x:=⟨by have:=h.len;omega,h.evs,by have:=h.cl;omega,by have:=h.ct;omega,h.dev,h.asc,h.B82,h.live,h.seen⟩
def W6(h:x∈Akj ltE eqE e l):x=e∨x∈l:=by
 unfold Akj at h;cases hc:l.any (eqE e) with
 |true=>rw[hc,Bov]at h;exact .inr h
 |false=>rw[hc,Box]at h;exact Acb.1 h
theorem Apv{e:Ev}:∀ {l:A2 Ev},l.any (eqE e)=false→l.Pairwise (fun a b=>ltE a b=true)→(N2 ltE e l).Pairwise fun a b=>ltE a b=true
 |[],_,_=>by simp[N2]
 |y::r,hn,h=>by
  have Ke:eqE e y=false∧r.any (eqE e)=false:=by simpa using hn
  obtain⟨h1,h2⟩:=Bpw.1 h;cases hx:ltE e y with
  |true =>
   rw[Se hx];refine Bpw.2 ⟨fun z hz=>?_,h⟩;rcases Boz.1 hz with hz|hz
   ·rw[hz];exact hx
   ·exact Bfs.trans hx (h1 z hz)
  |false =>
   rw[W2 hx];refine Bpw.2 ⟨fun z hz=>?_,Apv Ke.2 h2⟩;rcases Acb.1 hz with hz|hz
   ·subst hz;cases hy:ltE y z with
    |true=>rfl
    |false =>have:=Bfs.eq_true.2 ⟨hx,hy⟩;rw[Ke.1]at this;cases this
   ·exact h1 z hz
def B83(h:l.Pairwise fun a b=>ltE a b=true):(Akj ltE eqE e l).Pairwise fun a b=>ltE a b=true:=by
 unfold Akj;cases hc:l.any (eqE e) with
 |true=>exact h
 |false=>exact Apv hc h
def A5d(l:A2 (Int×Int)):(Gs l).length≤l.length:=by rw[Zp];exact Aps l
def Am3(x:Bk)(e:Ev)(k:Nat)(hk:k≤29)(hb:BdB k x)(he:SmE e)(hN:1000000000000<N):∃r,Ic N x e=some r∧BdB (k+1) r.1:=by
 unfold Ic;have Ej:=hb.sm (by omega);rw[B29 N e he (by omega),Bow];cases hg:Jn e with
 |false=>exact⟨_,rfl,hb.up⟩
 |true =>
  rw[Br2,Box,Acv N x.1 e.1 Ej hN,Bow];cases hh:hasB x.1 e.1 with
  |true=>exact⟨_,rfl,hb.up⟩
  |false =>
   rw[Box];have hxl:=hb.len;have hek:=he.B4z;have e0:=foldl_filter (fun f:Ev=>f.2.1 != 1 || !decide (f.1∈e.2.2.2.2.2)) x.2 [];rw[Fl x.2 (fun a f=>cond (f.2.1 != 1 || !decide (f.1∈e.2.2.2.2.2)) (a++[f]) a) [] (fun l=>Option.bind (C8 N [e]) fun y=>Option.bind (J7 N y) fun y=>Option.bind (E3 N x.1 y) fun y=>Option.bind (Ib N l e) fun Dv=>some ((y,Dv),0)) ?_ ?_ N (by omega),e0,Bpx]
   ·have hfl:=Bq9 (fun f:Ev=>f.2.1 != 1 || !decide (f.1∈e.2.2.2.2.2)) x.2;have Oy:∀f∈x.2.filter (fun f:Ev=>f.2.1 != 1 || !decide (f.1∈e.2.2.2.2.2)),f∈x.2∧(f.2.1=1→f.1∉e.2.2.2.2.2):=by intro f hf;obtain⟨h1,h2⟩:=Bpv.1 hf;refine⟨h1,fun h3 h4=>?_⟩;simp[h3,h4]at h2
    have Aui:(x.2.filter fun f:Ev=>f.2.1 != 1 || !decide (f.1∈e.2.2.2.2.2)).Pairwise fun a b=>ltE a b=true:=hb.asc.filter _
    generalize (x.2.filter fun f:Ev=>f.2.1 != 1 || !decide (f.1∈e.2.2.2.2.2))=l at *;have hds:(([e]:A2 Ev).flatMap dsE).length≤301:=by simp[dsE];omega
    have hsd:=A5d (([e]:A2 Ev).flatMap dsE);obtain⟨c,c1,c2,c3,c4,c5⟩:=Bg2 N (Gs (([e]:A2 Ev).flatMap dsE)) (by omega) hN;have j1:=Alz x.1 c;have j2:=Am0 x.1 c;have hcl:=hb.cl;have hct:=hb.ct;have hpl:=Ayf e l;rw[Alr N [e] (by simp) (by simp[Auh he]) (by omega),Bow,c1,Bow,Aly N x.1 c (by omega) Ej ⟨by omega,by omega⟩ hb.dev c4 hN,Bow,B20 N l e (by omega) (by omega),Bow];have hec:∀d∈dsE e,hasB c d=true:=by
     intro d hd;refine c5 d ((Y1 _).2 d |>.2 (by simpa using hd)) ?_;rcases Boz.1 hd with hd|hd
     ·rw[hd];exact Apu hg
     ·exact Ayl hg d hd
    refine⟨_,rfl,?_,?_,?_,?_,.can _,B83 Aui,?_,?_,?_⟩
    ·show(Akj ltE eqE e l).length≤k+1;omega
    ·intro f hf;rcases W6 hf with h|h
     ·subst h;exact he
     ·exact hb.evs f (Oy f h).1
    ·show(Pc.Kg (x.1++c)).length≤400*(k+1);omega
    ·show Pc.U7 (Pc.Kg (x.1++c))≤2000*(k+1);omega
    ·intro f hf;rcases W6 hf with h|h
     ·subst h;exact hg
     ·exact hb.B82 f (Oy f h).1
    ·intro a ha ha1 b Fp hab;rcases W6 ha with h|h
     ·subst h;rcases W6 Fp with h2|h2
      ·subst h2;exact B80 hg hab
      ·have:=hb.seen b (Oy b h2).1 a.1 (Bp5 _ hab);rw[hh]at this;cases this
     ·rcases W6 Fp with h2|h2
      ·subst h2;exact(Oy a h).2 ha1 hab
      ·exact hb.live a (Oy a h).1 ha1 b (Oy b h2).1 hab
    ·intro f hf d hd;show hasB (Pc.Kg (x.1++c)) d=true;rw[Am1];rcases W6 hf with h|h
     ·subst h;rw[hec d hd];simp
     ·rw[hb.seen f (Oy f h).1 d hd];rfl
   ·intro rec j a hj ha;have hal:a.length≤j:=by rw[ha,foldl_filter,Bpx];exact Sr _ _ _
    have hf:Ao (a.length + [x.2[j]].length) 80=true:=fit (by simp;omega) (by simp;omega);have Bns:=Apm N e.2.2.2.2.2 x.2[j].1 (by omega) (by omega);simp only[dec_lt,Bp7 hj,Bov,Aq,C0 hj,Bow,hf,Bns,Ad (show j+1<9223372036854775808 by omega)];cases(x.2[j].2.1 != 1) with
    |true=>rfl
    |false=>cases decide (x.2[j].1∈e.2.2.2.2.2)<;>rfl
   ·intro rec;simp only[dec_lt,Bp9 (Bri _),Box]
def B51(l:A2 Ev)(k:UInt8)(hl:l.length≤1000)(hN:10000<N):Hf N l k=some (l.filter fun e=>e.2.1==k):=by
 unfold Hf;have e0:=foldl_filter (fun e:Ev=>e.2.1==k) l [];rw[Fl l (fun a x=>cond (x.2.1==k) (a++[x]) a) [] (fun a=>some a) ?_ ?_ N (by omega),e0]
 ·rfl
 ·intro rec j a hj ha;have hal:a.length≤j:=by rw[ha,foldl_filter,Bpx];exact Sr _ _ _
  have hf:Ao (a.length + [l[j]].length) 80=true:=fit (by simp;omega) (by simp;omega);simp only[dec_lt,Bp7 hj,Bov,Aq,C0 hj,Bow,hf,Ad (show j+1<9223372036854775808 by omega)];cases(l[j].2.1==k)<;>rfl
 ·intro rec;simp only[dec_lt,Bp9 (Bri _),Box]
def Af3(x:Bk)(hl:x.2.length≤1000)(hN:10000<N):E4 N x=some (x.2.filter fun e=>e.2.1==1):=by unfold E4;rw[B51 N x.2 1 hl hN];rfl
def Agk(l:A2 Ev)(p:Ev→Bool)(hl:l.length≤100)(Ej:∀e∈l,smE e)(hN:1000000<N){f:((A2 Ev×Int×Unit)×Unit×Unit×Unit→A3 (A2 (Int×Int)))→(A2 Ev×Int×Unit)×Unit×Unit×Unit→A3 (A2 (Int×Int))}
  (hs:∀(rec:(A2 Ev×Int×Unit)×Unit×Unit×Unit→A3 (A2 (Int×Int))) (k:Nat) (a:A2 Ev) (hk:k<l.length),a.length≤k→f rec ((a,(k:Int),()),(),(),())=rec ((cond (p l[k]) (a++[l[k]]) a,((k+1:Nat):Int),()),(),(),()))
  (he:∀(rec:(A2 Ev×Int×Unit)×Unit×Unit×Unit→A3 (A2 (Int×Int))) (a:A2 Ev),f rec ((a,(l.length:Int),()),(),(),())=Option.bind (C8 N a) fun y=>some y) :
  iter f N (([],0,()),(),(),())=some (Gs ((l.filter p).flatMap dsE)):=by
 have e0:=foldl_filter p l [];have hfl:(l.filter p).length≤l.length:=Bq9 _ _;rw[Fl l (fun a x=>cond (p x) (a++[x]) a) [] (fun a=>Option.bind (C8 N a) fun y=>some y) ?_ ?_ N (by omega),e0,Bpx,Alr N _ (by omega) (B7s Ej p) hN]
 ·rfl
 ·intro rec j a hj ha;refine hs rec j a hj ?_;rw[ha,foldl_filter,Bpx];exact Sr _ _ _
 ·intro rec;exact he rec _
def Ayo(l:A2 Ev)(c:Int)(hl:l.length≤100)(Ej:∀e∈l,smE e)(hN:1000000<N):Im N l c=some (Gs ((l.filter fun e=>cond (e.2.1==1) (e.2.2.1==c) false).flatMap dsE)):=by
 unfold Im;refine Agk N l _ hl Ej hN ?_ ?_
 ·intro rec k a hk hal;have hf:Ao (a.length + [l[k]].length) 80=true:=fit (by simp;omega) (by simp;omega);simp only[dec_lt,Bp7 hk,Bov,Aq,C0 hk,Bow,hf,Ad (show k+1<9223372036854775808 by omega)];cases(l[k].2.1==1)<;>cases(l[k].2.2.1==c)<;>rfl
 ·intro rec a;simp only[dec_lt,Bp9 (Bri _),Box]
def B84(l:A2 Ev)(c:Int)(r:UInt8)(hl:l.length≤100)(Ej:∀e∈l,smE e)(hN:1000000<N):Jw N l c r=some (Gs ((l.filter fun e=>cond (e.2.1==1) (cond (e.2.2.1==c) (e.2.2.2.1==r) false) false).flatMap dsE)):=by
 unfold Jw;refine Agk N l _ hl Ej hN ?_ ?_
 ·intro rec k a hk hal;have hf:Ao (a.length + [l[k]].length) 80=true:=fit (by simp;omega) (by simp;omega);simp only[dec_lt,Bp7 hk,Bov,Aq,C0 hk,Bow,hf,Ad (show k+1<9223372036854775808 by omega)];cases(l[k].2.1==1)<;>cases(l[k].2.2.1==c)<;>cases(l[k].2.2.2.1==r)<;>rfl
 ·intro rec a;simp only[dec_lt,Bp9 (Bri _),Box]
def Auj:SmE ((0,0),0,0,0,[],[]):=⟨by simp,by simp,by simp,by simp,by simp⟩
def Ayp(x:Bk)(e:Ev)(k:Nat)(hk:k≤29)(hb:BdB k x)(he:SmE e)(hN:1000000000000<N):∃r,Jx N x e=some r∧SmE r.1:=by
 unfold Jx;rw[B29 N (e.1,e.2.1,e.2.2.1,e.2.2.2.1,e.2.2.2.2.1,[]) ⟨by simp,he.text,he.inn.1,he.inn.2,he.inn.3⟩ (by omega),Bow];have Ej:=hb.sm (by omega);have hl:=hb.len;cases Jn (e.1,e.2.1,e.2.2.1,e.2.2.2.1,e.2.2.2.2.1,[]) with
 |false=>exact⟨_,rfl,Auj⟩
 |true =>
  rw[Br2,Box,Acv N x.1 e.1 Ej hN,Bow];cases hasB x.1 e.1 with
  |true=>exact⟨_,rfl,Auj⟩
  |false =>
   have hfl:(x.2.filter fun e=>e.2.1==1).length≤x.2.length:=Bq9 _ _;have hfs:∀f∈x.2.filter (fun e=>e.2.1==1),smE f:=fun f hf=>Auh (hb.evs f (Bpv.1 hf).1)
   rw[Box,Af3 N x (by omega) (by omega),Bow,Ayo N _ _ (by omega) hfs (by omega),Bow];have fin:∀(ds:A2 (Int×Int)),∃r,(bif decide ((256:Int)<(ds.length:Int))then some ((((0,0),0,0,0,[],[]):Ev),(3:Int))else some (((e.1,e.2.1,e.2.2.1,e.2.2.2.1,e.2.2.2.2.1,ds):Ev),0))=some r∧SmE r.1:=by
    intro ds;by_cases h:256<ds.length
    ·have:decide ((256:Int)<(ds.length:Int))=true:=by simp;omega
     rw[this];exact⟨_,rfl,Auj⟩
    ·have:decide ((256:Int)<(ds.length:Int))=false:=by simp;omega
     rw[this];exact⟨_,rfl,⟨by show ds.length≤300;omega,he.text,he.inn.1,he.inn.2,he.inn.3⟩⟩
   simp only[Bn];cases(e.2.1==1) with
   |true =>rw[Bov,Bow,B84 N _ _ _ (by omega) hfs (by omega),Bow];exact fin _
   |false=>exact fin _
def B2c(x:Bk)(c:A2 Part)(k:Nat)(hk:k≤29)(hb:BdB k x)(hc:Ay9 c)(hd:Vr c)(hN:1000000000000<N):∃r,L3 N x c=some r∧BdB (k+1) r:=by
 unfold L3;have Rq:=hc.sm;have hcl:=hb.cl;have hct:=hb.ct;have h1:=hc.len;have h2:Pc.U7 c≤900:=by
  have key:∀c:A2 Part,(∀p∈c,p.2.length≤30)→Pc.U7 c≤30*c.length:=by
   intro c;induction c with
   |nil=>intro _;simp[Pc.U7]
   |cons p c ih =>
    intro h;have h1:=ih fun q hq=>h q (by simp[hq])
    have h2:=h p (by simp);rw[Pc.A0m,Bpk];omega
  have:=key c hc.runs;omega
 have j1:=Alz x.1 c;have j2:=Am0 x.1 c;rw[Aly N x.1 c (by omega) (hb.sm (by omega)) Rq hb.dev hd hN,Bow];refine⟨_,rfl,⟨by have:=hb.len;show x.2.length≤k+1;omega,hb.evs,by show(Pc.Kg (x.1++c)).length≤_;omega,by show Pc.U7 (Pc.Kg (x.1++c))≤_;omega,.can _,hb.asc,hb.B82,hb.live,?_⟩⟩;intro e he d hd;show hasB (Pc.Kg (x.1++c)) d=true;rw[Am1,hb.seen e he d hd];rfl
def A2z(c:A2 Part)(e:Ev):Ev:=bif hasB c e.1 then (e.1,e.2.1,e.2.2.1,e.2.2.2.1,e.2.2.2.2.1,[])else e
def Acx(c:A2 Part)(e:Ev):(A2z c e).1=e.1:=by unfold A2z;cases hasB c e.1<;>rfl
def B85(c:A2 Part)(e:Ev):(A2z c e).2.1=e.2.1:=by unfold A2z;cases hasB c e.1<;>rfl
def Am4{d:Int×Int}(h:d∈(A2z c e).2.2.2.2.2):d∈e.2.2.2.2.2:=by
 unfold A2z at h;cases hh:hasB c e.1<;>rw[hh]at h
 ·exact h
 ·exact absurd h (by simp)
def Bg3(h:SmE e):SmE (A2z c e):=by
 unfold A2z;cases hasB c e.1
 ·exact h
 ·exact⟨by simp,h.text,h.inn.1,h.inn.2,h.inn.3⟩
def B86(h:Jn e=true):Jn (A2z c e)=true:=by
 unfold A2z;cases hasB c e.1
 ·exact h
 ·exact B28 h
def B2d(e:Ev)(c:A2 Part)(hc:Ay9 c)(hN:1000000000000<N):Gl N e c=some (A2z c e):=by unfold Gl A2z;rw[Acv N c e.1 hc.sm hN,Bow];cases hasB c e.1<;>rfl
theorem A2d{X Y:Type}(p:X→Bool)(s:X→Y):∀(l:A2 X) (a:A2 Y),l.foldl (fun a x=>cond (p x) (a++[s x]) a) a=a++(l.filter p).map s
 |[],a=>by simp
 |x::r,a=>by
  simp only[Bqp,Br4];rw[A2d p s r];cases p x<;>simp
def Auk(x:Bk)(c:A2 Part)(k:Nat)(hk:k≤29)(hb:BdB k x)(hc:Ay9 c)(hN:1000000000000<N):∃r,J8 N x c=some r∧BdB (k+1) r.1:=by
 unfold J8;have hxl:=hb.len;have e0:=A2d (fun f:Ev=>f.2.1==1 || !hasB c f.1) (A2z c) x.2 [];rw[Fl x.2 (fun a f=>cond (f.2.1==1 || !hasB c f.1) (a++[A2z c f]) a) [] (fun l=>some ((x.1,l),i64.wrap ((x.2.length:Int)-(l.length:Int)))) ?_ ?_ N (by omega),e0,Bpx]
 ·have Oy:∀f∈(x.2.filter fun f:Ev=>f.2.1==1 || !hasB c f.1).map (A2z c),∃g∈x.2,f=A2z c g:=by intro f hf;obtain⟨g,hg,rfl⟩:=Bpc.1 hf;exact⟨g,(Bpv.1 hg).1,rfl⟩
  have hlen:((x.2.filter fun f:Ev=>f.2.1==1 || !hasB c f.1).map (A2z c)).length≤x.2.length:=by rw[Bpl];exact Bq9 _ _
  refine⟨_,rfl,?_,?_,?_,?_,hb.dev,?_,?_,?_,?_⟩
  ·exact Bqf hlen (by omega)
  ·intro f hf;obtain⟨g,hg,rfl⟩:=Oy f hf;exact Bg3 (hb.evs g hg)
  ·have:=hb.cl;show x.1.length≤_;omega
  ·have:=hb.ct;show Pc.U7 x.1≤_;omega
  ·refine Bse.2 ((hb.asc.filter _).imp fun {a b} h=>?_);unfold ltE at h⊢
   rwa [Acx,Acx]
  ·intro f hf;obtain⟨g,hg,rfl⟩:=Oy f hf;exact B86 (hb.B82 g hg)
  ·intro a ha ha1 b Fp hab;obtain⟨g,hg,rfl⟩:=Oy a ha;obtain⟨g',hg',rfl⟩:=Oy b Fp;rw[Acx]at hab;rw[B85]at ha1;exact hb.live g hg ha1 g' hg' (Am4 hab)
  ·intro f hf d hd;obtain⟨g,hg,rfl⟩:=Oy f hf;refine hb.seen g hg d ?_;rcases Boz.1 hd with h|h
   ·rw[h,Acx];exact Bp6
   ·exact Bp5 _ (Am4 h)
 ·intro rec j a hj ha;have hal:a.length≤j:=by rw[ha,A2d,Bpx,Bpl];exact Sr _ _ _
  have hf:Ao (a.length + [A2z c x.2[j]].length) 80=true:=fit (by simp;omega) (by simp;omega);simp only[dec_lt,Bp7 hj,Bov,Aq,C0 hj,Bow,B2d N _ c hc hN,hf,Acv N c x.2[j].1 hc.sm hN,Ad (show j+1<9223372036854775808 by omega)];cases(x.2[j].2.1==1) with
  |true=>rfl
  |false=>cases hasB c x.2[j].1<;>rfl
 ·intro rec;simp only[dec_lt,Bp9 (Bri _),Box]
abbrev Am5:Type:=UInt8×Ev×A2 Part
structure Ayq(a:Am5):Prop where
 ev:SmE a.2.1
 few:Ay9 a.2.2
 dev:Vr a.2.2
def B87(l:A2 Am5)(hl:l.length≤20)(he:∀a∈l,Ayq a)(hN:1000000000000<N):∃r,Mc N l=some r∧BdB 20 r:=by
 unfold Mc;have up:∀(k j:Nat) (x:Bk),BdB k x→BdB (k+j) x:=by
  intro k j x h;induction j with
  |zero=>exact h
  |succ j ih=>exact ih.up
 refine Gy (Q:=fun r:Bk=>BdB 20 r)
  (fun m z=>∃(k:Nat) (x:Bk),z=(((k:Int),()),((x,()),()),(),())∧k≤l.length∧m=l.length-k∧BdB k x) ?_ N l.length _ ⟨0,([],[]),rfl,by omega,by omega,⟨by simp,by simp,by simp,by simp[Pc.U7],.nil,by simp,by simp,by simp,by simp⟩⟩ (by omega)
 rintro m z rec ⟨k,x,rfl,hk,rfl,hb⟩ ih;by_cases Gv:k<l.length
 ·obtain⟨he1,he2,he3⟩:=he l[k] (Bqi Gv);have go:∀y:Bk,BdB (k+1) y→∃r,rec ((((k+1:Nat):Int),()),((y,()),()),(),())=some r∧BdB 20 r:=fun y hy=>ih (l.length-(k+1)) _ (by omega) ⟨k+1,y,rfl,by omega,rfl,hy⟩
  simp only[dec_lt,Bp7 Gv,Bov,Aq,C0 Gv,Bow,Ad (show k+1<9223372036854775808 by omega)];cases(l[k].1==0) with
  |true =>obtain⟨r,h1,h2⟩:=Am3 N x l[k].2.1 k (by omega) hb he1 hN;rw[Bov,h1,Bow];exact go _ h2
  |false =>
   rw[Box];cases(l[k].1==1) with
   |true =>obtain⟨r,h1,h2⟩:=Ayp N x l[k].2.1 k (by omega) hb he1 hN;obtain⟨r2,h3,h4⟩:=Am3 N x r.1 k (by omega) hb h2 hN;rw[Bov,h1,Bow,h3,Bow];exact go _ h4
   |false =>
    rw[Box];cases(l[k].1==2) with
    |true =>obtain⟨r,h1,h2⟩:=B2c N x l[k].2.2 k (by omega) hb he2 he3 hN;rw[Bov,h1,Bow];exact go _ h2
    |false =>
     rw[Box];cases(l[k].1==3) with
     |true =>obtain⟨r,h1,h2⟩:=Auk N x l[k].2.2 k (by omega) hb he2 hN;rw[Bov,h1,Bow];exact go _ h2
     |false=>exact go _ hb.up
 ·have:k=l.length:=by omega
  subst this;simp only[dec_lt,Bp9 Gv,Box];refine⟨x,rfl,?_⟩;have:=up l.length (20-l.length) x hb
  rwa [show l.length+(20-l.length)=20 by omega]at this
def B2e(l:A2 Am5)(hi:∀a∈l,InE a.2.1∧Vr a.2.2)(hN:1000000000000<N):I7 N l 20=some 0∨(I7 N l 20=some 1∧l.length≤20∧∀a∈l,Ayq a):=by
 unfold I7;by_cases hl:20<l.length
 ·have:decide ((20:Int)<(l.length:Int))=true:=by simp;omega
  rw[this];exact .inl rfl
 ·have:decide ((20:Int)<(l.length:Int))=false:=by simp;omega
  rw[this,Box]
  suffices H:∃r,iter (fun(rec:(Int×Unit)×Unit×Unit×Unit→A3 Int) (z:(Int×Unit)×Unit×Unit×Unit) =>
    bif decide (z.fst.fst<(l.length:Int)) then
     (at? l z.fst.fst).bind fun(e:Am5) =>
      Option.bind (G7 N [e.snd.fst] 1) fun(y:Bool) =>
       bif !y then some 0
       else
        (at? l z.fst.fst).bind fun(e:Am5) =>Option.bind (I6 N e.snd.snd) fun(y:Bool) =>bif !y then some 0 else rec ((i64.wrap (z.fst.fst+1),()),(),(),())
    else some 1) N ((0,()),(),(),())=some r∧(r=0∨r=1∧∀a∈l,Ayq a) by
   obtain⟨r,h1,h2⟩:=H;rcases h2 with rfl|⟨rfl,h2⟩
   ·exact .inl h1
   ·exact .inr ⟨h1,by omega,h2⟩
  refine Gy (Q:=fun r:Int=>r=0∨r=1∧∀a∈l,Ayq a)
   (fun m z=>∃k:Nat,z=(((k:Int),()),(),(),())∧k≤l.length∧m=l.length-k∧∀a∈l.take k,Ayq a) ?_ N l.length _ ⟨0,rfl,by omega,by omega,by simp⟩ (by omega)
  rintro m z rec ⟨k,rfl,hk,rfl,hm⟩ ih;by_cases Gv:k<l.length
  ·obtain⟨i1,i2⟩:=hi l[k] (Bqi Gv);obtain⟨b1,h1,h2⟩:=Blw N l[k].2.1 i1 (by omega);obtain⟨b2,h3,h4⟩:=B7u N l[k].2.2 (by omega);simp only[dec_lt,Bp7 Gv,Bov,Aq,C0 Gv,Bow,h1,h3,Ad (show k+1<9223372036854775808 by omega)];cases b1 with
   |false=>exact⟨0,rfl,.inl rfl⟩
   |true =>
    cases b2 with
    |false=>exact⟨0,rfl,.inl rfl⟩
    |true =>
     refine ih (l.length-(k+1)) _ (by omega) ⟨k+1,rfl,by omega,rfl,?_⟩;intro a ha;rw[Bqu,C0 Gv]at ha;rcases Bp4.1 ha with ha|ha
     ·exact hm a ha
     ·simp at ha;subst ha;exact⟨h2 rfl,h4 rfl,i2⟩
  ·have:k=l.length:=by omega
   subst this;simp only[dec_lt,Bp9 Gv,Box];refine⟨1,rfl,.inr ⟨rfl,fun a ha=>hm a (by rwa [Bpy])⟩⟩
end Go.Proofs.Xg
