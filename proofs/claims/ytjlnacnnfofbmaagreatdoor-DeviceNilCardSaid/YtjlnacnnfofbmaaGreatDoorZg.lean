import Derived.Test.YtjlnacnnfofbmaaGreatDoorZf
import Derived.Test.YtjlnacnnfofbmaaGreatDoorProg
import Derived.KernelRfl
import Derived.Test.YtjlnacnnfofbmaaGreatDoorZb
import Derived.Below
import Derived.ProofKit
import Derived.Test.YtjlnacnnfofbmaaGreatDoorZe
import Derived.OpenShut
import Derived.FnData
import Derived.LaidSub
set_option maxRecDepth 1000000
set_option linter.unusedVariables false
namespace Go.Proofs.Xz
open Go Go.Xl Go.Ab Go.Proofs
theorem mixed : Tryz.prog.follows .mixedOrders = true := by kernel_rfl
noncomputable def tb (k : Nat) : FI Tryz.prog :=
 (cond (Nat.ble k 192)
 (cond (Nat.ble k 100)
  (cond (Nat.ble k 53)
   (cond (Nat.ble k 28)
    (cond (Nat.ble k 16)
     (cond (Nat.ble k 9)
      (cond (Nat.ble k 6)
       (cond (Nat.ble k 3)
        ⟨3, Tryz.f3, [], 2, Tryz.func3, .mk' Tryz.func3 rfl (by decide)⟩
        ⟨6, Tryz.f6, [], 2, Tryz.func6, .mk' Tryz.func6 rfl (by decide)⟩)
       (cond (Nat.ble k 7)
        ⟨7, Tryz.f7, [], 2, Tryz.func7, .mk' Tryz.func7 rfl (by decide)⟩
        (cond (Nat.ble k 8)
         ⟨8, Tryz.f8, [], 2, Tryz.func8, .mk' Tryz.func8 rfl (by decide)⟩
         ⟨9, Tryz.f9, [], 2, Tryz.func9, .mk' Tryz.func9 rfl (by decide)⟩)))
      (cond (Nat.ble k 12)
       (cond (Nat.ble k 10)
        ⟨10, Tryz.f10, [], 2, Tryz.func10, .mk' Tryz.func10 rfl (by decide)⟩
        (cond (Nat.ble k 11)
         ⟨11, Tryz.f11, [], 2, Tryz.func11, .mk' Tryz.func11 rfl (by decide)⟩
         ⟨12, Tryz.f12, [], 2, Tryz.func12, .mk' Tryz.func12 rfl (by decide)⟩))
       (cond (Nat.ble k 13)
        ⟨13, Tryz.f13, [], 2, Tryz.func13, .mk' Tryz.func13 rfl (by decide)⟩
        (cond (Nat.ble k 15)
         ⟨15, Tryz.f15, [], 2, Tryz.func15, .mk' Tryz.func15 rfl (by decide)⟩
         ⟨16, Tryz.f16, [], 2, Tryz.func16, .mk' Tryz.func16 rfl (by decide)⟩))))
     (cond (Nat.ble k 22)
      (cond (Nat.ble k 19)
       (cond (Nat.ble k 17)
        ⟨17, Tryz.f17, [], 2, Tryz.func17, .mk' Tryz.func17 rfl (by decide)⟩
        (cond (Nat.ble k 18)
         ⟨18, Tryz.f18, [], 2, Tryz.func18, .mk' Tryz.func18 rfl (by decide)⟩
         ⟨19, Tryz.f19, [], 2, Tryz.func19, .mk' Tryz.func19 rfl (by decide)⟩))
       (cond (Nat.ble k 20)
        ⟨20, Tryz.f20, [], 2, Tryz.func20, .mk' Tryz.func20 rfl (by decide)⟩
        (cond (Nat.ble k 21)
         ⟨21, Tryz.f21, [], 2, Tryz.func21, .mk' Tryz.func21 rfl (by decide)⟩
         ⟨22, Tryz.f22, [], 2, Tryz.func22, .mk' Tryz.func22 rfl (by decide)⟩)))
      (cond (Nat.ble k 25)
       (cond (Nat.ble k 23)
        ⟨23, Tryz.f23, [], 2, Tryz.func23, .mk' Tryz.func23 rfl (by decide)⟩
        (cond (Nat.ble k 24)
         ⟨24, Tryz.f24, [], 2, Tryz.func24, .mk' Tryz.func24 rfl (by decide)⟩
         ⟨25, Tryz.f25, [], 2, Tryz.func25, .mk' Tryz.func25 rfl (by decide)⟩))
       (cond (Nat.ble k 26)
        ⟨26, Tryz.f26, [], 2, Tryz.func26, .mk' Tryz.func26 rfl (by decide)⟩
        (cond (Nat.ble k 27)
         ⟨27, Tryz.f27, [], 2, Tryz.func27, .mk' Tryz.func27 rfl (by decide)⟩
         ⟨28, Tryz.f28, [], 2, Tryz.func28, .mk' Tryz.func28 rfl (by decide)⟩)))))
    (cond (Nat.ble k 41)
     (cond (Nat.ble k 33)
      (cond (Nat.ble k 30)
       (cond (Nat.ble k 29)
        ⟨29, Tryz.f29, [], 2, Tryz.func29, .mk' Tryz.func29 rfl (by decide)⟩
        ⟨30, Tryz.f30, [], 2, Tryz.func30, .mk' Tryz.func30 rfl (by decide)⟩)
       (cond (Nat.ble k 31)
        ⟨31, Tryz.f31, [], 2, Tryz.func31, .mk' Tryz.func31 rfl (by decide)⟩
        (cond (Nat.ble k 32)
         ⟨32, Tryz.f32, [], 2, Tryz.func32, .mk' Tryz.func32 rfl (by decide)⟩
         ⟨33, Tryz.f33, [], 2, Tryz.func33, .mk' Tryz.func33 rfl (by decide)⟩)))
      (cond (Nat.ble k 36)
       (cond (Nat.ble k 34)
        ⟨34, Tryz.f34, [], 2, Tryz.func34, .mk' Tryz.func34 rfl (by decide)⟩
        (cond (Nat.ble k 35)
         ⟨35, Tryz.f35, [], 2, Tryz.func35, .mk' Tryz.func35 rfl (by decide)⟩
         ⟨36, Tryz.f36, [], 2, Tryz.func36, .mk' Tryz.func36 rfl (by decide)⟩))
       (cond (Nat.ble k 39)
        ⟨39, Tryz.f39, [], 2, Tryz.func39, .mk' Tryz.func39 rfl (by decide)⟩
        (cond (Nat.ble k 40)
         ⟨40, Tryz.f40, [], 2, Tryz.func40, .mk' Tryz.func40 rfl (by decide)⟩
         ⟨41, Tryz.f41, [], 2, Tryz.func41, .mk' Tryz.func41 rfl (by decide)⟩))))
     (cond (Nat.ble k 47)
      (cond (Nat.ble k 44)
       (cond (Nat.ble k 42)
        ⟨42, Tryz.f42, [], 2, Tryz.func42, .mk' Tryz.func42 rfl (by decide)⟩
        (cond (Nat.ble k 43)
         ⟨43, Tryz.f43, [], 2, Tryz.func43, .mk' Tryz.func43 rfl (by decide)⟩
         ⟨44, Tryz.f44, [], 2, Tryz.func44, .mk' Tryz.func44 rfl (by decide)⟩))
       (cond (Nat.ble k 45)
        ⟨45, Tryz.f45, [], 2, Tryz.func45, .mk' Tryz.func45 rfl (by decide)⟩
        (cond (Nat.ble k 46)
         ⟨46, Tryz.f46, [], 2, Tryz.func46, .mk' Tryz.func46 rfl (by decide)⟩
         ⟨47, Tryz.f47, [], 2, Tryz.func47, .mk' Tryz.func47 rfl (by decide)⟩)))
      (cond (Nat.ble k 50)
       (cond (Nat.ble k 48)
        ⟨48, Tryz.f48, [], 2, Tryz.func48, .mk' Tryz.func48 rfl (by decide)⟩
        (cond (Nat.ble k 49)
         ⟨49, Tryz.f49, [], 2, Tryz.func49, .mk' Tryz.func49 rfl (by decide)⟩
         ⟨50, Tryz.f50, [], 2, Tryz.func50, .mk' Tryz.func50 rfl (by decide)⟩))
       (cond (Nat.ble k 51)
        ⟨51, Tryz.f51, [], 2, Tryz.func51, .mk' Tryz.func51 rfl (by decide)⟩
        (cond (Nat.ble k 52)
         ⟨52, Tryz.f52, [], 2, Tryz.func52, .mk' Tryz.func52 rfl (by decide)⟩
         ⟨53, Tryz.f53, [], 2, Tryz.func53, .mk' Tryz.func53 rfl (by decide)⟩))))))
   (cond (Nat.ble k 76)
    (cond (Nat.ble k 64)
     (cond (Nat.ble k 58)
      (cond (Nat.ble k 55)
       (cond (Nat.ble k 54)
        ⟨54, Tryz.f54, [], 2, Tryz.func54, .mk' Tryz.func54 rfl (by decide)⟩
        ⟨55, Tryz.f55, [], 2, Tryz.func55, .mk' Tryz.func55 rfl (by decide)⟩)
       (cond (Nat.ble k 56)
        ⟨56, Tryz.f56, [], 2, Tryz.func56, .mk' Tryz.func56 rfl (by decide)⟩
        (cond (Nat.ble k 57)
         ⟨57, Tryz.f57, [], 2, Tryz.func57, .mk' Tryz.func57 rfl (by decide)⟩
         ⟨58, Tryz.f58, [], 2, Tryz.func58, .mk' Tryz.func58 rfl (by decide)⟩)))
      (cond (Nat.ble k 61)
       (cond (Nat.ble k 59)
        ⟨59, Tryz.f59, [], 2, Tryz.func59, .mk' Tryz.func59 rfl (by decide)⟩
        (cond (Nat.ble k 60)
         ⟨60, Tryz.f60, [], 2, Tryz.func60, .mk' Tryz.func60 rfl (by decide)⟩
         ⟨61, Tryz.f61, [], 2, Tryz.func61, .mk' Tryz.func61 rfl (by decide)⟩))
       (cond (Nat.ble k 62)
        ⟨62, Tryz.f62, [], 2, Tryz.func62, .mk' Tryz.func62 rfl (by decide)⟩
        (cond (Nat.ble k 63)
         ⟨63, Tryz.f63, [], 2, Tryz.func63, .mk' Tryz.func63 rfl (by decide)⟩
         ⟨64, Tryz.f64, [], 2, Tryz.func64, .mk' Tryz.func64 rfl (by decide)⟩))))
     (cond (Nat.ble k 70)
      (cond (Nat.ble k 67)
       (cond (Nat.ble k 65)
        ⟨65, Tryz.f65, [], 2, Tryz.func65, .mk' Tryz.func65 rfl (by decide)⟩
        (cond (Nat.ble k 66)
         ⟨66, Tryz.f66, [], 2, Tryz.func66, .mk' Tryz.func66 rfl (by decide)⟩
         ⟨67, Tryz.f67, [], 2, Tryz.func67, .mk' Tryz.func67 rfl (by decide)⟩))
       (cond (Nat.ble k 68)
        ⟨68, Tryz.f68, [], 2, Tryz.func68, .mk' Tryz.func68 rfl (by decide)⟩
        (cond (Nat.ble k 69)
         ⟨69, Tryz.f69, [], 2, Tryz.func69, .mk' Tryz.func69 rfl (by decide)⟩
         ⟨70, Tryz.f70, [], 2, Tryz.func70, .mk' Tryz.func70 rfl (by decide)⟩)))
      (cond (Nat.ble k 73)
       (cond (Nat.ble k 71)
        ⟨71, Tryz.f71, [], 2, Tryz.func71, .mk' Tryz.func71 rfl (by decide)⟩
        (cond (Nat.ble k 72)
         ⟨72, Tryz.f72, [], 2, Tryz.func72, .mk' Tryz.func72 rfl (by decide)⟩
         ⟨73, Tryz.f73, [], 2, Tryz.func73, .mk' Tryz.func73 rfl (by decide)⟩))
       (cond (Nat.ble k 74)
        ⟨74, Tryz.f74, [], 2, Tryz.func74, .mk' Tryz.func74 rfl (by decide)⟩
        (cond (Nat.ble k 75)
         ⟨75, Tryz.f75, [], 2, Tryz.func75, .mk' Tryz.func75 rfl (by decide)⟩
         ⟨76, Tryz.f76, [], 2, Tryz.func76, .mk' Tryz.func76 rfl (by decide)⟩)))))
    (cond (Nat.ble k 88)
     (cond (Nat.ble k 81)
      (cond (Nat.ble k 78)
       (cond (Nat.ble k 77)
        ⟨77, Tryz.f77, [], 2, Tryz.func77, .mk' Tryz.func77 rfl (by decide)⟩
        ⟨78, Tryz.f78, [], 2, Tryz.func78, .mk' Tryz.func78 rfl (by decide)⟩)
       (cond (Nat.ble k 79)
        ⟨79, Tryz.f79, [], 2, Tryz.func79, .mk' Tryz.func79 rfl (by decide)⟩
        (cond (Nat.ble k 80)
         ⟨80, Tryz.f80, [], 2, Tryz.func80, .mk' Tryz.func80 rfl (by decide)⟩
         ⟨81, Tryz.f81, [], 2, Tryz.func81, .mk' Tryz.func81 rfl (by decide)⟩)))
      (cond (Nat.ble k 85)
       (cond (Nat.ble k 82)
        ⟨82, Tryz.f82, [], 2, Tryz.func82, .mk' Tryz.func82 rfl (by decide)⟩
        (cond (Nat.ble k 84)
         ⟨84, Tryz.f84, [], 2, Tryz.func84, .mk' Tryz.func84 rfl (by decide)⟩
         ⟨85, Tryz.f85, [], 2, Tryz.func85, .mk' Tryz.func85 rfl (by decide)⟩))
       (cond (Nat.ble k 86)
        ⟨86, Tryz.f86, [], 2, Tryz.func86, .mk' Tryz.func86 rfl (by decide)⟩
        (cond (Nat.ble k 87)
         ⟨87, Tryz.f87, [], 2, Tryz.func87, .mk' Tryz.func87 rfl (by decide)⟩
         ⟨88, Tryz.f88, [], 2, Tryz.func88, .mk' Tryz.func88 rfl (by decide)⟩))))
     (cond (Nat.ble k 94)
      (cond (Nat.ble k 91)
       (cond (Nat.ble k 89)
        ⟨89, Tryz.f89, [], 2, Tryz.func89, .mk' Tryz.func89 rfl (by decide)⟩
        (cond (Nat.ble k 90)
         ⟨90, Tryz.f90, [], 2, Tryz.func90, .mk' Tryz.func90 rfl (by decide)⟩
         ⟨91, Tryz.f91, [], 2, Tryz.func91, .mk' Tryz.func91 rfl (by decide)⟩))
       (cond (Nat.ble k 92)
        ⟨92, Tryz.f92, [], 2, Tryz.func92, .mk' Tryz.func92 rfl (by decide)⟩
        (cond (Nat.ble k 93)
         ⟨93, Tryz.f93, [], 2, Tryz.func93, .mk' Tryz.func93 rfl (by decide)⟩
         ⟨94, Tryz.f94, [], 2, Tryz.func94, .mk' Tryz.func94 rfl (by decide)⟩)))
      (cond (Nat.ble k 97)
       (cond (Nat.ble k 95)
        ⟨95, Tryz.f95, [], 2, Tryz.func95, .mk' Tryz.func95 rfl (by decide)⟩
        (cond (Nat.ble k 96)
         ⟨96, Tryz.f96, [], 2, Tryz.func96, .mk' Tryz.func96 rfl (by decide)⟩
         ⟨97, Tryz.f97, [], 2, Tryz.func97, .mk' Tryz.func97 rfl (by decide)⟩))
       (cond (Nat.ble k 98)
        ⟨98, Tryz.f98, [], 2, Tryz.func98, .mk' Tryz.func98 rfl (by decide)⟩
        (cond (Nat.ble k 99)
         ⟨99, Tryz.f99, [], 2, Tryz.func99, .mk' Tryz.func99 rfl (by decide)⟩
         ⟨100, Tryz.f100, [], 2, Tryz.func100, .mk' Tryz.func100 rfl (by decide)⟩)))))))
  (cond (Nat.ble k 146)
   (cond (Nat.ble k 123)
    (cond (Nat.ble k 111)
     (cond (Nat.ble k 105)
      (cond (Nat.ble k 102)
       (cond (Nat.ble k 101)
        ⟨101, Tryz.f101, [], 2, Tryz.func101, .mk' Tryz.func101 rfl (by decide)⟩
        ⟨102, Tryz.f102, [], 2, Tryz.func102, .mk' Tryz.func102 rfl (by decide)⟩)
       (cond (Nat.ble k 103)
        ⟨103, Tryz.f103, [], 2, Tryz.func103, .mk' Tryz.func103 rfl (by decide)⟩
        (cond (Nat.ble k 104)
         ⟨104, Tryz.f104, [], 2, Tryz.func104, .mk' Tryz.func104 rfl (by decide)⟩
         ⟨105, Tryz.f105, [], 2, Tryz.func105, .mk' Tryz.func105 rfl (by decide)⟩)))
      (cond (Nat.ble k 108)
       (cond (Nat.ble k 106)
        ⟨106, Tryz.f106, [], 2, Tryz.func106, .mk' Tryz.func106 rfl (by decide)⟩
        (cond (Nat.ble k 107)
         ⟨107, Tryz.f107, [], 2, Tryz.func107, .mk' Tryz.func107 rfl (by decide)⟩
         ⟨108, Tryz.f108, [], 2, Tryz.func108, .mk' Tryz.func108 rfl (by decide)⟩))
       (cond (Nat.ble k 109)
        ⟨109, Tryz.f109, [], 2, Tryz.func109, .mk' Tryz.func109 rfl (by decide)⟩
        (cond (Nat.ble k 110)
         ⟨110, Tryz.f110, [], 2, Tryz.func110, .mk' Tryz.func110 rfl (by decide)⟩
         ⟨111, Tryz.f111, [12], 2, Tryz.func111, .mk' Tryz.func111 rfl (by decide)⟩))))
     (cond (Nat.ble k 117)
      (cond (Nat.ble k 114)
       (cond (Nat.ble k 112)
        ⟨112, Tryz.f112, [], 2, Tryz.func112, .mk' Tryz.func112 rfl (by decide)⟩
        (cond (Nat.ble k 113)
         ⟨113, Tryz.f113, [24, 44], 2, Tryz.func113, .mk' Tryz.func113 rfl (by decide)⟩
         ⟨114, Tryz.f114, [], 2, Tryz.func114, .mk' Tryz.func114 rfl (by decide)⟩))
       (cond (Nat.ble k 115)
        ⟨115, Tryz.f115, [], 2, Tryz.func115, .mk' Tryz.func115 rfl (by decide)⟩
        (cond (Nat.ble k 116)
         ⟨116, Tryz.f116, [], 2, Tryz.func116, .mk' Tryz.func116 rfl (by decide)⟩
         ⟨117, Tryz.f117, [], 2, Tryz.func117, .mk' Tryz.func117 rfl (by decide)⟩)))
      (cond (Nat.ble k 120)
       (cond (Nat.ble k 118)
        ⟨118, Tryz.f118, [], 2, Tryz.func118, .mk' Tryz.func118 rfl (by decide)⟩
        (cond (Nat.ble k 119)
         ⟨119, Tryz.f119, [], 2, Tryz.func119, .mk' Tryz.func119 rfl (by decide)⟩
         ⟨120, Tryz.f120, [23], 2, Tryz.func120, .mk' Tryz.func120 rfl (by decide)⟩))
       (cond (Nat.ble k 121)
        ⟨121, Tryz.f121, [6], 2, Tryz.func121, .mk' Tryz.func121 rfl (by decide)⟩
        (cond (Nat.ble k 122)
         ⟨122, Tryz.f122, [24], 2, Tryz.func122, .mk' Tryz.func122 rfl (by decide)⟩
         ⟨123, Tryz.f123, [], 2, Tryz.func123, .mk' Tryz.func123 rfl (by decide)⟩)))))
    (cond (Nat.ble k 134)
     (cond (Nat.ble k 128)
      (cond (Nat.ble k 125)
       (cond (Nat.ble k 124)
        ⟨124, Tryz.f124, [], 2, Tryz.func124, .mk' Tryz.func124 rfl (by decide)⟩
        ⟨125, Tryz.f125, [], 2, Tryz.func125, .mk' Tryz.func125 rfl (by decide)⟩)
       (cond (Nat.ble k 126)
        ⟨126, Tryz.f126, [], 2, Tryz.func126, .mk' Tryz.func126 rfl (by decide)⟩
        (cond (Nat.ble k 127)
         ⟨127, Tryz.f127, [], 2, Tryz.func127, .mk' Tryz.func127 rfl (by decide)⟩
         ⟨128, Tryz.f128, [], 2, Tryz.func128, .mk' Tryz.func128 rfl (by decide)⟩)))
      (cond (Nat.ble k 131)
       (cond (Nat.ble k 129)
        ⟨129, Tryz.f129, [], 2, Tryz.func129, .mk' Tryz.func129 rfl (by decide)⟩
        (cond (Nat.ble k 130)
         ⟨130, Tryz.f130, [], 2, Tryz.func130, .mk' Tryz.func130 rfl (by decide)⟩
         ⟨131, Tryz.f131, [], 2, Tryz.func131, .mk' Tryz.func131 rfl (by decide)⟩))
       (cond (Nat.ble k 132)
        ⟨132, Tryz.f132, [], 2, Tryz.func132, .mk' Tryz.func132 rfl (by decide)⟩
        (cond (Nat.ble k 133)
         ⟨133, Tryz.f133, [], 2, Tryz.func133, .mk' Tryz.func133 rfl (by decide)⟩
         ⟨134, Tryz.f134, [], 2, Tryz.func134, .mk' Tryz.func134 rfl (by decide)⟩))))
     (cond (Nat.ble k 140)
      (cond (Nat.ble k 137)
       (cond (Nat.ble k 135)
        ⟨135, Tryz.f135, [], 2, Tryz.func135, .mk' Tryz.func135 rfl (by decide)⟩
        (cond (Nat.ble k 136)
         ⟨136, Tryz.f136, [], 2, Tryz.func136, .mk' Tryz.func136 rfl (by decide)⟩
         ⟨137, Tryz.f137, [], 2, Tryz.func137, .mk' Tryz.func137 rfl (by decide)⟩))
       (cond (Nat.ble k 138)
        ⟨138, Tryz.f138, [], 2, Tryz.func138, .mk' Tryz.func138 rfl (by decide)⟩
        (cond (Nat.ble k 139)
         ⟨139, Tryz.f139, [], 2, Tryz.func139, .mk' Tryz.func139 rfl (by decide)⟩
         ⟨140, Tryz.f140, [], 2, Tryz.func140, .mk' Tryz.func140 rfl (by decide)⟩)))
      (cond (Nat.ble k 143)
       (cond (Nat.ble k 141)
        ⟨141, Tryz.f141, [], 2, Tryz.func141, .mk' Tryz.func141 rfl (by decide)⟩
        (cond (Nat.ble k 142)
         ⟨142, Tryz.f142, [], 2, Tryz.func142, .mk' Tryz.func142 rfl (by decide)⟩
         ⟨143, Tryz.f143, [], 2, Tryz.func143, .mk' Tryz.func143 rfl (by decide)⟩))
       (cond (Nat.ble k 144)
        ⟨144, Tryz.f144, [], 2, Tryz.func144, .mk' Tryz.func144 rfl (by decide)⟩
        (cond (Nat.ble k 145)
         ⟨145, Tryz.f145, [], 2, Tryz.func145, .mk' Tryz.func145 rfl (by decide)⟩
         ⟨146, Tryz.f146, [], 2, Tryz.func146, .mk' Tryz.func146 rfl (by decide)⟩))))))
   (cond (Nat.ble k 169)
    (cond (Nat.ble k 157)
     (cond (Nat.ble k 151)
      (cond (Nat.ble k 148)
       (cond (Nat.ble k 147)
        ⟨147, Tryz.f147, [], 2, Tryz.func147, .mk' Tryz.func147 rfl (by decide)⟩
        ⟨148, Tryz.f148, [], 2, Tryz.func148, .mk' Tryz.func148 rfl (by decide)⟩)
       (cond (Nat.ble k 149)
        ⟨149, Tryz.f149, [], 2, Tryz.func149, .mk' Tryz.func149 rfl (by decide)⟩
        (cond (Nat.ble k 150)
         ⟨150, Tryz.f150, [], 2, Tryz.func150, .mk' Tryz.func150 rfl (by decide)⟩
         ⟨151, Tryz.f151, [], 2, Tryz.func151, .mk' Tryz.func151 rfl (by decide)⟩)))
      (cond (Nat.ble k 154)
       (cond (Nat.ble k 152)
        ⟨152, Tryz.f152, [], 2, Tryz.func152, .mk' Tryz.func152 rfl (by decide)⟩
        (cond (Nat.ble k 153)
         ⟨153, Tryz.f153, [], 2, Tryz.func153, .mk' Tryz.func153 rfl (by decide)⟩
         ⟨154, Tryz.f154, [], 2, Tryz.func154, .mk' Tryz.func154 rfl (by decide)⟩))
       (cond (Nat.ble k 155)
        ⟨155, Tryz.f155, [], 2, Tryz.func155, .mk' Tryz.func155 rfl (by decide)⟩
        (cond (Nat.ble k 156)
         ⟨156, Tryz.f156, [], 2, Tryz.func156, .mk' Tryz.func156 rfl (by decide)⟩
         ⟨157, Tryz.f157, [], 2, Tryz.func157, .mk' Tryz.func157 rfl (by decide)⟩))))
     (cond (Nat.ble k 163)
      (cond (Nat.ble k 160)
       (cond (Nat.ble k 158)
        ⟨158, Tryz.f158, [], 2, Tryz.func158, .mk' Tryz.func158 rfl (by decide)⟩
        (cond (Nat.ble k 159)
         ⟨159, Tryz.f159, [], 2, Tryz.func159, .mk' Tryz.func159 rfl (by decide)⟩
         ⟨160, Tryz.f160, [], 2, Tryz.func160, .mk' Tryz.func160 rfl (by decide)⟩))
       (cond (Nat.ble k 161)
        ⟨161, Tryz.f161, [], 2, Tryz.func161, .mk' Tryz.func161 rfl (by decide)⟩
        (cond (Nat.ble k 162)
         ⟨162, Tryz.f162, [], 2, Tryz.func162, .mk' Tryz.func162 rfl (by decide)⟩
         ⟨163, Tryz.f163, [], 2, Tryz.func163, .mk' Tryz.func163 rfl (by decide)⟩)))
      (cond (Nat.ble k 166)
       (cond (Nat.ble k 164)
        ⟨164, Tryz.f164, [], 2, Tryz.func164, .mk' Tryz.func164 rfl (by decide)⟩
        (cond (Nat.ble k 165)
         ⟨165, Tryz.f165, [], 2, Tryz.func165, .mk' Tryz.func165 rfl (by decide)⟩
         ⟨166, Tryz.f166, [], 2, Tryz.func166, .mk' Tryz.func166 rfl (by decide)⟩))
       (cond (Nat.ble k 167)
        ⟨167, Tryz.f167, [], 2, Tryz.func167, .mk' Tryz.func167 rfl (by decide)⟩
        (cond (Nat.ble k 168)
         ⟨168, Tryz.f168, [], 2, Tryz.func168, .mk' Tryz.func168 rfl (by decide)⟩
         ⟨169, Tryz.f169, [], 2, Tryz.func169, .mk' Tryz.func169 rfl (by decide)⟩)))))
    (cond (Nat.ble k 180)
     (cond (Nat.ble k 174)
      (cond (Nat.ble k 171)
       (cond (Nat.ble k 170)
        ⟨170, Tryz.f170, [], 2, Tryz.func170, .mk' Tryz.func170 rfl (by decide)⟩
        ⟨171, Tryz.f171, [6], 2, Tryz.func171, .mk' Tryz.func171 rfl (by decide)⟩)
       (cond (Nat.ble k 172)
        ⟨172, Tryz.f172, [], 2, Tryz.func172, .mk' Tryz.func172 rfl (by decide)⟩
        (cond (Nat.ble k 173)
         ⟨173, Tryz.f173, [], 2, Tryz.func173, .mk' Tryz.func173 rfl (by decide)⟩
         ⟨174, Tryz.f174, [], 2, Tryz.func174, .mk' Tryz.func174 rfl (by decide)⟩)))
      (cond (Nat.ble k 177)
       (cond (Nat.ble k 175)
        ⟨175, Tryz.f175, [], 2, Tryz.func175, .mk' Tryz.func175 rfl (by decide)⟩
        (cond (Nat.ble k 176)
         ⟨176, Tryz.f176, [], 2, Tryz.func176, .mk' Tryz.func176 rfl (by decide)⟩
         ⟨177, Tryz.f177, [], 2, Tryz.func177, .mk' Tryz.func177 rfl (by decide)⟩))
       (cond (Nat.ble k 178)
        ⟨178, Tryz.f178, [], 2, Tryz.func178, .mk' Tryz.func178 rfl (by decide)⟩
        (cond (Nat.ble k 179)
         ⟨179, Tryz.f179, [], 2, Tryz.func179, .mk' Tryz.func179 rfl (by decide)⟩
         ⟨180, Tryz.f180, [], 2, Tryz.func180, .mk' Tryz.func180 rfl (by decide)⟩))))
     (cond (Nat.ble k 186)
      (cond (Nat.ble k 183)
       (cond (Nat.ble k 181)
        ⟨181, Tryz.f181, [], 2, Tryz.func181, .mk' Tryz.func181 rfl (by decide)⟩
        (cond (Nat.ble k 182)
         ⟨182, Tryz.f182, [34, 75], 2, Tryz.func182, .mk' Tryz.func182 rfl (by decide)⟩
         ⟨183, Tryz.f183, [], 2, Tryz.func183, .mk' Tryz.func183 rfl (by decide)⟩))
       (cond (Nat.ble k 184)
        ⟨184, Tryz.f184, [], 2, Tryz.func184, .mk' Tryz.func184 rfl (by decide)⟩
        (cond (Nat.ble k 185)
         ⟨185, Tryz.f185, [], 2, Tryz.func185, .mk' Tryz.func185 rfl (by decide)⟩
         ⟨186, Tryz.f186, [], 2, Tryz.func186, .mk' Tryz.func186 rfl (by decide)⟩)))
      (cond (Nat.ble k 189)
       (cond (Nat.ble k 187)
        ⟨187, Tryz.f187, [], 2, Tryz.func187, .mk' Tryz.func187 rfl (by decide)⟩
        (cond (Nat.ble k 188)
         ⟨188, Tryz.f188, [], 2, Tryz.func188, .mk' Tryz.func188 rfl (by decide)⟩
         ⟨189, Tryz.f189, [], 2, Tryz.func189, .mk' Tryz.func189 rfl (by decide)⟩))
       (cond (Nat.ble k 190)
        ⟨190, Tryz.f190, [], 2, Tryz.func190, .mk' Tryz.func190 rfl (by decide)⟩
        (cond (Nat.ble k 191)
         ⟨191, Tryz.f191, [], 2, Tryz.func191, .mk' Tryz.func191 rfl (by decide)⟩
         ⟨192, Tryz.f192, [], 2, Tryz.func192, .mk' Tryz.func192 rfl (by decide)⟩))))))))
 (cond (Nat.ble k 284)
  (cond (Nat.ble k 238)
   (cond (Nat.ble k 215)
    (cond (Nat.ble k 203)
     (cond (Nat.ble k 197)
      (cond (Nat.ble k 194)
       (cond (Nat.ble k 193)
        ⟨193, Tryz.f193, [], 2, Tryz.func193, .mk' Tryz.func193 rfl (by decide)⟩
        ⟨194, Tryz.f194, [], 2, Tryz.func194, .mk' Tryz.func194 rfl (by decide)⟩)
       (cond (Nat.ble k 195)
        ⟨195, Tryz.f195, [], 2, Tryz.func195, .mk' Tryz.func195 rfl (by decide)⟩
        (cond (Nat.ble k 196)
         ⟨196, Tryz.f196, [], 2, Tryz.func196, .mk' Tryz.func196 rfl (by decide)⟩
         ⟨197, Tryz.f197, [], 2, Tryz.func197, .mk' Tryz.func197 rfl (by decide)⟩)))
      (cond (Nat.ble k 200)
       (cond (Nat.ble k 198)
        ⟨198, Tryz.f198, [], 2, Tryz.func198, .mk' Tryz.func198 rfl (by decide)⟩
        (cond (Nat.ble k 199)
         ⟨199, Tryz.f199, [], 2, Tryz.func199, .mk' Tryz.func199 rfl (by decide)⟩
         ⟨200, Tryz.f200, [], 2, Tryz.func200, .mk' Tryz.func200 rfl (by decide)⟩))
       (cond (Nat.ble k 201)
        ⟨201, Tryz.f201, [], 2, Tryz.func201, .mk' Tryz.func201 rfl (by decide)⟩
        (cond (Nat.ble k 202)
         ⟨202, Tryz.f202, [], 2, Tryz.func202, .mk' Tryz.func202 rfl (by decide)⟩
         ⟨203, Tryz.f203, [], 2, Tryz.func203, .mk' Tryz.func203 rfl (by decide)⟩))))
     (cond (Nat.ble k 209)
      (cond (Nat.ble k 206)
       (cond (Nat.ble k 204)
        ⟨204, Tryz.f204, [], 2, Tryz.func204, .mk' Tryz.func204 rfl (by decide)⟩
        (cond (Nat.ble k 205)
         ⟨205, Tryz.f205, [], 2, Tryz.func205, .mk' Tryz.func205 rfl (by decide)⟩
         ⟨206, Tryz.f206, [], 2, Tryz.func206, .mk' Tryz.func206 rfl (by decide)⟩))
       (cond (Nat.ble k 207)
        ⟨207, Tryz.f207, [], 2, Tryz.func207, .mk' Tryz.func207 rfl (by decide)⟩
        (cond (Nat.ble k 208)
         ⟨208, Tryz.f208, [], 2, Tryz.func208, .mk' Tryz.func208 rfl (by decide)⟩
         ⟨209, Tryz.f209, [], 2, Tryz.func209, .mk' Tryz.func209 rfl (by decide)⟩)))
      (cond (Nat.ble k 212)
       (cond (Nat.ble k 210)
        ⟨210, Tryz.f210, [], 2, Tryz.func210, .mk' Tryz.func210 rfl (by decide)⟩
        (cond (Nat.ble k 211)
         ⟨211, Tryz.f211, [], 2, Tryz.func211, .mk' Tryz.func211 rfl (by decide)⟩
         ⟨212, Tryz.f212, [], 2, Tryz.func212, .mk' Tryz.func212 rfl (by decide)⟩))
       (cond (Nat.ble k 213)
        ⟨213, Tryz.f213, [], 2, Tryz.func213, .mk' Tryz.func213 rfl (by decide)⟩
        (cond (Nat.ble k 214)
         ⟨214, Tryz.f214, [], 2, Tryz.func214, .mk' Tryz.func214 rfl (by decide)⟩
         ⟨215, Tryz.f215, [], 2, Tryz.func215, .mk' Tryz.func215 rfl (by decide)⟩)))))
    (cond (Nat.ble k 226)
     (cond (Nat.ble k 220)
      (cond (Nat.ble k 217)
       (cond (Nat.ble k 216)
        ⟨216, Tryz.f216, [], 2, Tryz.func216, .mk' Tryz.func216 rfl (by decide)⟩
        ⟨217, Tryz.f217, [], 2, Tryz.func217, .mk' Tryz.func217 rfl (by decide)⟩)
       (cond (Nat.ble k 218)
        ⟨218, Tryz.f218, [], 2, Tryz.func218, .mk' Tryz.func218 rfl (by decide)⟩
        (cond (Nat.ble k 219)
         ⟨219, Tryz.f219, [], 2, Tryz.func219, .mk' Tryz.func219 rfl (by decide)⟩
         ⟨220, Tryz.f220, [], 2, Tryz.func220, .mk' Tryz.func220 rfl (by decide)⟩)))
      (cond (Nat.ble k 223)
       (cond (Nat.ble k 221)
        ⟨221, Tryz.f221, [], 2, Tryz.func221, .mk' Tryz.func221 rfl (by decide)⟩
        (cond (Nat.ble k 222)
         ⟨222, Tryz.f222, [], 2, Tryz.func222, .mk' Tryz.func222 rfl (by decide)⟩
         ⟨223, Tryz.f223, [], 2, Tryz.func223, .mk' Tryz.func223 rfl (by decide)⟩))
       (cond (Nat.ble k 224)
        ⟨224, Tryz.f224, [], 2, Tryz.func224, .mk' Tryz.func224 rfl (by decide)⟩
        (cond (Nat.ble k 225)
         ⟨225, Tryz.f225, [], 2, Tryz.func225, .mk' Tryz.func225 rfl (by decide)⟩
         ⟨226, Tryz.f226, [], 2, Tryz.func226, .mk' Tryz.func226 rfl (by decide)⟩))))
     (cond (Nat.ble k 232)
      (cond (Nat.ble k 229)
       (cond (Nat.ble k 227)
        ⟨227, Tryz.f227, [], 2, Tryz.func227, .mk' Tryz.func227 rfl (by decide)⟩
        (cond (Nat.ble k 228)
         ⟨228, Tryz.f228, [], 2, Tryz.func228, .mk' Tryz.func228 rfl (by decide)⟩
         ⟨229, Tryz.f229, [], 2, Tryz.func229, .mk' Tryz.func229 rfl (by decide)⟩))
       (cond (Nat.ble k 230)
        ⟨230, Tryz.f230, [], 2, Tryz.func230, .mk' Tryz.func230 rfl (by decide)⟩
        (cond (Nat.ble k 231)
         ⟨231, Tryz.f231, [], 2, Tryz.func231, .mk' Tryz.func231 rfl (by decide)⟩
         ⟨232, Tryz.f232, [], 2, Tryz.func232, .mk' Tryz.func232 rfl (by decide)⟩)))
      (cond (Nat.ble k 235)
       (cond (Nat.ble k 233)
        ⟨233, Tryz.f233, [], 2, Tryz.func233, .mk' Tryz.func233 rfl (by decide)⟩
        (cond (Nat.ble k 234)
         ⟨234, Tryz.f234, [], 2, Tryz.func234, .mk' Tryz.func234 rfl (by decide)⟩
         ⟨235, Tryz.f235, [], 2, Tryz.func235, .mk' Tryz.func235 rfl (by decide)⟩))
       (cond (Nat.ble k 236)
        ⟨236, Tryz.f236, [], 2, Tryz.func236, .mk' Tryz.func236 rfl (by decide)⟩
        (cond (Nat.ble k 237)
         ⟨237, Tryz.f237, [16], 2, Tryz.func237, .mk' Tryz.func237 rfl (by decide)⟩
         ⟨238, Tryz.f238, [], 2, Tryz.func238, .mk' Tryz.func238 rfl (by decide)⟩))))))
   (cond (Nat.ble k 261)
    (cond (Nat.ble k 249)
     (cond (Nat.ble k 243)
      (cond (Nat.ble k 240)
       (cond (Nat.ble k 239)
        ⟨239, Tryz.f239, [], 2, Tryz.func239, .mk' Tryz.func239 rfl (by decide)⟩
        ⟨240, Tryz.f240, [], 2, Tryz.func240, .mk' Tryz.func240 rfl (by decide)⟩)
       (cond (Nat.ble k 241)
        ⟨241, Tryz.f241, [], 2, Tryz.func241, .mk' Tryz.func241 rfl (by decide)⟩
        (cond (Nat.ble k 242)
         ⟨242, Tryz.f242, [], 2, Tryz.func242, .mk' Tryz.func242 rfl (by decide)⟩
         ⟨243, Tryz.f243, [], 2, Tryz.func243, .mk' Tryz.func243 rfl (by decide)⟩)))
      (cond (Nat.ble k 246)
       (cond (Nat.ble k 244)
        ⟨244, Tryz.f244, [], 2, Tryz.func244, .mk' Tryz.func244 rfl (by decide)⟩
        (cond (Nat.ble k 245)
         ⟨245, Tryz.f245, [], 2, Tryz.func245, .mk' Tryz.func245 rfl (by decide)⟩
         ⟨246, Tryz.f246, [], 2, Tryz.func246, .mk' Tryz.func246 rfl (by decide)⟩))
       (cond (Nat.ble k 247)
        ⟨247, Tryz.f247, [], 2, Tryz.func247, .mk' Tryz.func247 rfl (by decide)⟩
        (cond (Nat.ble k 248)
         ⟨248, Tryz.f248, [], 2, Tryz.func248, .mk' Tryz.func248 rfl (by decide)⟩
         ⟨249, Tryz.f249, [], 2, Tryz.func249, .mk' Tryz.func249 rfl (by decide)⟩))))
     (cond (Nat.ble k 255)
      (cond (Nat.ble k 252)
       (cond (Nat.ble k 250)
        ⟨250, Tryz.f250, [], 2, Tryz.func250, .mk' Tryz.func250 rfl (by decide)⟩
        (cond (Nat.ble k 251)
         ⟨251, Tryz.f251, [], 2, Tryz.func251, .mk' Tryz.func251 rfl (by decide)⟩
         ⟨252, Tryz.f252, [], 2, Tryz.func252, .mk' Tryz.func252 rfl (by decide)⟩))
       (cond (Nat.ble k 253)
        ⟨253, Tryz.f253, [], 1, Tryz.func253, .mk' Tryz.func253 rfl (by decide)⟩
        (cond (Nat.ble k 254)
         ⟨254, Tryz.f254, [], 2, Tryz.func254, .mk' Tryz.func254 rfl (by decide)⟩
         ⟨255, Tryz.f255, [], 2, Tryz.func255, .mk' Tryz.func255 rfl (by decide)⟩)))
      (cond (Nat.ble k 258)
       (cond (Nat.ble k 256)
        ⟨256, Tryz.f256, [], 2, Tryz.func256, .mk' Tryz.func256 rfl (by decide)⟩
        (cond (Nat.ble k 257)
         ⟨257, Tryz.f257, [], 2, Tryz.func257, .mk' Tryz.func257 rfl (by decide)⟩
         ⟨258, Tryz.f258, [], 2, Tryz.func258, .mk' Tryz.func258 rfl (by decide)⟩))
       (cond (Nat.ble k 259)
        ⟨259, Tryz.f259, [], 2, Tryz.func259, .mk' Tryz.func259 rfl (by decide)⟩
        (cond (Nat.ble k 260)
         ⟨260, Tryz.f260, [], 2, Tryz.func260, .mk' Tryz.func260 rfl (by decide)⟩
         ⟨261, Tryz.f261, [], 2, Tryz.func261, .mk' Tryz.func261 rfl (by decide)⟩)))))
    (cond (Nat.ble k 272)
     (cond (Nat.ble k 266)
      (cond (Nat.ble k 263)
       (cond (Nat.ble k 262)
        ⟨262, Tryz.f262, [], 2, Tryz.func262, .mk' Tryz.func262 rfl (by decide)⟩
        ⟨263, Tryz.f263, [], 2, Tryz.func263, .mk' Tryz.func263 rfl (by decide)⟩)
       (cond (Nat.ble k 264)
        ⟨264, Tryz.f264, [], 2, Tryz.func264, .mk' Tryz.func264 rfl (by decide)⟩
        (cond (Nat.ble k 265)
         ⟨265, Tryz.f265, [20], 2, Tryz.func265, .mk' Tryz.func265 rfl (by decide)⟩
         ⟨266, Tryz.f266, [], 2, Tryz.func266, .mk' Tryz.func266 rfl (by decide)⟩)))
      (cond (Nat.ble k 269)
       (cond (Nat.ble k 267)
        ⟨267, Tryz.f267, [], 2, Tryz.func267, .mk' Tryz.func267 rfl (by decide)⟩
        (cond (Nat.ble k 268)
         ⟨268, Tryz.f268, [], 2, Tryz.func268, .mk' Tryz.func268 rfl (by decide)⟩
         ⟨269, Tryz.f269, [], 2, Tryz.func269, .mk' Tryz.func269 rfl (by decide)⟩))
       (cond (Nat.ble k 270)
        ⟨270, Tryz.f270, [], 2, Tryz.func270, .mk' Tryz.func270 rfl (by decide)⟩
        (cond (Nat.ble k 271)
         ⟨271, Tryz.f271, [], 2, Tryz.func271, .mk' Tryz.func271 rfl (by decide)⟩
         ⟨272, Tryz.f272, [], 2, Tryz.func272, .mk' Tryz.func272 rfl (by decide)⟩))))
     (cond (Nat.ble k 278)
      (cond (Nat.ble k 275)
       (cond (Nat.ble k 273)
        ⟨273, Tryz.f273, [], 2, Tryz.func273, .mk' Tryz.func273 rfl (by decide)⟩
        (cond (Nat.ble k 274)
         ⟨274, Tryz.f274, [], 2, Tryz.func274, .mk' Tryz.func274 rfl (by decide)⟩
         ⟨275, Tryz.f275, [], 2, Tryz.func275, .mk' Tryz.func275 rfl (by decide)⟩))
       (cond (Nat.ble k 276)
        ⟨276, Tryz.f276, [], 2, Tryz.func276, .mk' Tryz.func276 rfl (by decide)⟩
        (cond (Nat.ble k 277)
         ⟨277, Tryz.f277, [], 2, Tryz.func277, .mk' Tryz.func277 rfl (by decide)⟩
         ⟨278, Tryz.f278, [], 2, Tryz.func278, .mk' Tryz.func278 rfl (by decide)⟩)))
      (cond (Nat.ble k 281)
       (cond (Nat.ble k 279)
        ⟨279, Tryz.f279, [], 2, Tryz.func279, .mk' Tryz.func279 rfl (by decide)⟩
        (cond (Nat.ble k 280)
         ⟨280, Tryz.f280, [], 2, Tryz.func280, .mk' Tryz.func280 rfl (by decide)⟩
         ⟨281, Tryz.f281, [], 2, Tryz.func281, .mk' Tryz.func281 rfl (by decide)⟩))
       (cond (Nat.ble k 282)
        ⟨282, Tryz.f282, [], 2, Tryz.func282, .mk' Tryz.func282 rfl (by decide)⟩
        (cond (Nat.ble k 283)
         ⟨283, Tryz.f283, [], 2, Tryz.func283, .mk' Tryz.func283 rfl (by decide)⟩
         ⟨284, Tryz.f284, [], 2, Tryz.func284, .mk' Tryz.func284 rfl (by decide)⟩)))))))
  (cond (Nat.ble k 330)
   (cond (Nat.ble k 307)
    (cond (Nat.ble k 295)
     (cond (Nat.ble k 289)
      (cond (Nat.ble k 286)
       (cond (Nat.ble k 285)
        ⟨285, Tryz.f285, [], 2, Tryz.func285, .mk' Tryz.func285 rfl (by decide)⟩
        ⟨286, Tryz.f286, [], 2, Tryz.func286, .mk' Tryz.func286 rfl (by decide)⟩)
       (cond (Nat.ble k 287)
        ⟨287, Tryz.f287, [], 2, Tryz.func287, .mk' Tryz.func287 rfl (by decide)⟩
        (cond (Nat.ble k 288)
         ⟨288, Tryz.f288, [], 2, Tryz.func288, .mk' Tryz.func288 rfl (by decide)⟩
         ⟨289, Tryz.f289, [], 2, Tryz.func289, .mk' Tryz.func289 rfl (by decide)⟩)))
      (cond (Nat.ble k 292)
       (cond (Nat.ble k 290)
        ⟨290, Tryz.f290, [], 2, Tryz.func290, .mk' Tryz.func290 rfl (by decide)⟩
        (cond (Nat.ble k 291)
         ⟨291, Tryz.f291, [], 2, Tryz.func291, .mk' Tryz.func291 rfl (by decide)⟩
         ⟨292, Tryz.f292, [], 2, Tryz.func292, .mk' Tryz.func292 rfl (by decide)⟩))
       (cond (Nat.ble k 293)
        ⟨293, Tryz.f293, [], 2, Tryz.func293, .mk' Tryz.func293 rfl (by decide)⟩
        (cond (Nat.ble k 294)
         ⟨294, Tryz.f294, [], 2, Tryz.func294, .mk' Tryz.func294 rfl (by decide)⟩
         ⟨295, Tryz.f295, [], 2, Tryz.func295, .mk' Tryz.func295 rfl (by decide)⟩))))
     (cond (Nat.ble k 301)
      (cond (Nat.ble k 298)
       (cond (Nat.ble k 296)
        ⟨296, Tryz.f296, [], 2, Tryz.func296, .mk' Tryz.func296 rfl (by decide)⟩
        (cond (Nat.ble k 297)
         ⟨297, Tryz.f297, [], 2, Tryz.func297, .mk' Tryz.func297 rfl (by decide)⟩
         ⟨298, Tryz.f298, [], 2, Tryz.func298, .mk' Tryz.func298 rfl (by decide)⟩))
       (cond (Nat.ble k 299)
        ⟨299, Tryz.f299, [], 2, Tryz.func299, .mk' Tryz.func299 rfl (by decide)⟩
        (cond (Nat.ble k 300)
         ⟨300, Tryz.f300, [], 2, Tryz.func300, .mk' Tryz.func300 rfl (by decide)⟩
         ⟨301, Tryz.f301, [], 2, Tryz.func301, .mk' Tryz.func301 rfl (by decide)⟩)))
      (cond (Nat.ble k 304)
       (cond (Nat.ble k 302)
        ⟨302, Tryz.f302, [], 2, Tryz.func302, .mk' Tryz.func302 rfl (by decide)⟩
        (cond (Nat.ble k 303)
         ⟨303, Tryz.f303, [], 2, Tryz.func303, .mk' Tryz.func303 rfl (by decide)⟩
         ⟨304, Tryz.f304, [], 2, Tryz.func304, .mk' Tryz.func304 rfl (by decide)⟩))
       (cond (Nat.ble k 305)
        ⟨305, Tryz.f305, [], 2, Tryz.func305, .mk' Tryz.func305 rfl (by decide)⟩
        (cond (Nat.ble k 306)
         ⟨306, Tryz.f306, [], 2, Tryz.func306, .mk' Tryz.func306 rfl (by decide)⟩
         ⟨307, Tryz.f307, [], 2, Tryz.func307, .mk' Tryz.func307 rfl (by decide)⟩)))))
    (cond (Nat.ble k 318)
     (cond (Nat.ble k 312)
      (cond (Nat.ble k 309)
       (cond (Nat.ble k 308)
        ⟨308, Tryz.f308, [], 2, Tryz.func308, .mk' Tryz.func308 rfl (by decide)⟩
        ⟨309, Tryz.f309, [], 2, Tryz.func309, .mk' Tryz.func309 rfl (by decide)⟩)
       (cond (Nat.ble k 310)
        ⟨310, Tryz.f310, [], 2, Tryz.func310, .mk' Tryz.func310 rfl (by decide)⟩
        (cond (Nat.ble k 311)
         ⟨311, Tryz.f311, [], 2, Tryz.func311, .mk' Tryz.func311 rfl (by decide)⟩
         ⟨312, Tryz.f312, [], 2, Tryz.func312, .mk' Tryz.func312 rfl (by decide)⟩)))
      (cond (Nat.ble k 315)
       (cond (Nat.ble k 313)
        ⟨313, Tryz.f313, [], 2, Tryz.func313, .mk' Tryz.func313 rfl (by decide)⟩
        (cond (Nat.ble k 314)
         ⟨314, Tryz.f314, [], 2, Tryz.func314, .mk' Tryz.func314 rfl (by decide)⟩
         ⟨315, Tryz.f315, [], 2, Tryz.func315, .mk' Tryz.func315 rfl (by decide)⟩))
       (cond (Nat.ble k 316)
        ⟨316, Tryz.f316, [], 2, Tryz.func316, .mk' Tryz.func316 rfl (by decide)⟩
        (cond (Nat.ble k 317)
         ⟨317, Tryz.f317, [], 2, Tryz.func317, .mk' Tryz.func317 rfl (by decide)⟩
         ⟨318, Tryz.f318, [], 2, Tryz.func318, .mk' Tryz.func318 rfl (by decide)⟩))))
     (cond (Nat.ble k 324)
      (cond (Nat.ble k 321)
       (cond (Nat.ble k 319)
        ⟨319, Tryz.f319, [], 2, Tryz.func319, .mk' Tryz.func319 rfl (by decide)⟩
        (cond (Nat.ble k 320)
         ⟨320, Tryz.f320, [], 2, Tryz.func320, .mk' Tryz.func320 rfl (by decide)⟩
         ⟨321, Tryz.f321, [], 2, Tryz.func321, .mk' Tryz.func321 rfl (by decide)⟩))
       (cond (Nat.ble k 322)
        ⟨322, Tryz.f322, [], 2, Tryz.func322, .mk' Tryz.func322 rfl (by decide)⟩
        (cond (Nat.ble k 323)
         ⟨323, Tryz.f323, [], 2, Tryz.func323, .mk' Tryz.func323 rfl (by decide)⟩
         ⟨324, Tryz.f324, [], 2, Tryz.func324, .mk' Tryz.func324 rfl (by decide)⟩)))
      (cond (Nat.ble k 327)
       (cond (Nat.ble k 325)
        ⟨325, Tryz.f325, [], 2, Tryz.func325, .mk' Tryz.func325 rfl (by decide)⟩
        (cond (Nat.ble k 326)
         ⟨326, Tryz.f326, [], 2, Tryz.func326, .mk' Tryz.func326 rfl (by decide)⟩
         ⟨327, Tryz.f327, [], 2, Tryz.func327, .mk' Tryz.func327 rfl (by decide)⟩))
       (cond (Nat.ble k 328)
        ⟨328, Tryz.f328, [], 2, Tryz.func328, .mk' Tryz.func328 rfl (by decide)⟩
        (cond (Nat.ble k 329)
         ⟨329, Tryz.f329, [], 2, Tryz.func329, .mk' Tryz.func329 rfl (by decide)⟩
         ⟨330, Tryz.f330, [], 2, Tryz.func330, .mk' Tryz.func330 rfl (by decide)⟩))))))
   (cond (Nat.ble k 353)
    (cond (Nat.ble k 341)
     (cond (Nat.ble k 335)
      (cond (Nat.ble k 332)
       (cond (Nat.ble k 331)
        ⟨331, Tryz.f331, [], 2, Tryz.func331, .mk' Tryz.func331 rfl (by decide)⟩
        ⟨332, Tryz.f332, [], 2, Tryz.func332, .mk' Tryz.func332 rfl (by decide)⟩)
       (cond (Nat.ble k 333)
        ⟨333, Tryz.f333, [], 2, Tryz.func333, .mk' Tryz.func333 rfl (by decide)⟩
        (cond (Nat.ble k 334)
         ⟨334, Tryz.f334, [], 2, Tryz.func334, .mk' Tryz.func334 rfl (by decide)⟩
         ⟨335, Tryz.f335, [], 2, Tryz.func335, .mk' Tryz.func335 rfl (by decide)⟩)))
      (cond (Nat.ble k 338)
       (cond (Nat.ble k 336)
        ⟨336, Tryz.f336, [], 2, Tryz.func336, .mk' Tryz.func336 rfl (by decide)⟩
        (cond (Nat.ble k 337)
         ⟨337, Tryz.f337, [], 2, Tryz.func337, .mk' Tryz.func337 rfl (by decide)⟩
         ⟨338, Tryz.f338, [], 2, Tryz.func338, .mk' Tryz.func338 rfl (by decide)⟩))
       (cond (Nat.ble k 339)
        ⟨339, Tryz.f339, [], 2, Tryz.func339, .mk' Tryz.func339 rfl (by decide)⟩
        (cond (Nat.ble k 340)
         ⟨340, Tryz.f340, [], 2, Tryz.func340, .mk' Tryz.func340 rfl (by decide)⟩
         ⟨341, Tryz.f341, [], 2, Tryz.func341, .mk' Tryz.func341 rfl (by decide)⟩))))
     (cond (Nat.ble k 347)
      (cond (Nat.ble k 344)
       (cond (Nat.ble k 342)
        ⟨342, Tryz.f342, [], 2, Tryz.func342, .mk' Tryz.func342 rfl (by decide)⟩
        (cond (Nat.ble k 343)
         ⟨343, Tryz.f343, [], 2, Tryz.func343, .mk' Tryz.func343 rfl (by decide)⟩
         ⟨344, Tryz.f344, [], 2, Tryz.func344, .mk' Tryz.func344 rfl (by decide)⟩))
       (cond (Nat.ble k 345)
        ⟨345, Tryz.f345, [], 2, Tryz.func345, .mk' Tryz.func345 rfl (by decide)⟩
        (cond (Nat.ble k 346)
         ⟨346, Tryz.f346, [], 2, Tryz.func346, .mk' Tryz.func346 rfl (by decide)⟩
         ⟨347, Tryz.f347, [], 2, Tryz.func347, .mk' Tryz.func347 rfl (by decide)⟩)))
      (cond (Nat.ble k 350)
       (cond (Nat.ble k 348)
        ⟨348, Tryz.f348, [], 2, Tryz.func348, .mk' Tryz.func348 rfl (by decide)⟩
        (cond (Nat.ble k 349)
         ⟨349, Tryz.f349, [], 2, Tryz.func349, .mk' Tryz.func349 rfl (by decide)⟩
         ⟨350, Tryz.f350, [], 2, Tryz.func350, .mk' Tryz.func350 rfl (by decide)⟩))
       (cond (Nat.ble k 351)
        ⟨351, Tryz.f351, [], 2, Tryz.func351, .mk' Tryz.func351 rfl (by decide)⟩
        (cond (Nat.ble k 352)
         ⟨352, Tryz.f352, [], 2, Tryz.func352, .mk' Tryz.func352 rfl (by decide)⟩
         ⟨353, Tryz.f353, [], 2, Tryz.func353, .mk' Tryz.func353 rfl (by decide)⟩)))))
    (cond (Nat.ble k 364)
     (cond (Nat.ble k 358)
      (cond (Nat.ble k 355)
       (cond (Nat.ble k 354)
        ⟨354, Tryz.f354, [], 2, Tryz.func354, .mk' Tryz.func354 rfl (by decide)⟩
        ⟨355, Tryz.f355, [], 2, Tryz.func355, .mk' Tryz.func355 rfl (by decide)⟩)
       (cond (Nat.ble k 356)
        ⟨356, Tryz.f356, [], 2, Tryz.func356, .mk' Tryz.func356 rfl (by decide)⟩
        (cond (Nat.ble k 357)
         ⟨357, Tryz.f357, [], 2, Tryz.func357, .mk' Tryz.func357 rfl (by decide)⟩
         ⟨358, Tryz.f358, [], 2, Tryz.func358, .mk' Tryz.func358 rfl (by decide)⟩)))
      (cond (Nat.ble k 361)
       (cond (Nat.ble k 359)
        ⟨359, Tryz.f359, [], 2, Tryz.func359, .mk' Tryz.func359 rfl (by decide)⟩
        (cond (Nat.ble k 360)
         ⟨360, Tryz.f360, [], 2, Tryz.func360, .mk' Tryz.func360 rfl (by decide)⟩
         ⟨361, Tryz.f361, [], 2, Tryz.func361, .mk' Tryz.func361 rfl (by decide)⟩))
       (cond (Nat.ble k 362)
        ⟨362, Tryz.f362, [], 2, Tryz.func362, .mk' Tryz.func362 rfl (by decide)⟩
        (cond (Nat.ble k 363)
         ⟨363, Tryz.f363, [], 2, Tryz.func363, .mk' Tryz.func363 rfl (by decide)⟩
         ⟨364, Tryz.f364, [], 2, Tryz.func364, .mk' Tryz.func364 rfl (by decide)⟩))))
     (cond (Nat.ble k 370)
      (cond (Nat.ble k 367)
       (cond (Nat.ble k 365)
        ⟨365, Tryz.f365, [], 2, Tryz.func365, .mk' Tryz.func365 rfl (by decide)⟩
        (cond (Nat.ble k 366)
         ⟨366, Tryz.f366, [], 2, Tryz.func366, .mk' Tryz.func366 rfl (by decide)⟩
         ⟨367, Tryz.f367, [], 2, Tryz.func367, .mk' Tryz.func367 rfl (by decide)⟩))
       (cond (Nat.ble k 368)
        ⟨368, Tryz.f368, [], 2, Tryz.func368, .mk' Tryz.func368 rfl (by decide)⟩
        (cond (Nat.ble k 369)
         ⟨369, Tryz.f369, [], 2, Tryz.func369, .mk' Tryz.func369 rfl (by decide)⟩
         ⟨370, Tryz.f370, [], 2, Tryz.func370, .mk' Tryz.func370 rfl (by decide)⟩)))
      (cond (Nat.ble k 373)
       (cond (Nat.ble k 371)
        ⟨371, Tryz.f371, [], 2, Tryz.func371, .mk' Tryz.func371 rfl (by decide)⟩
        (cond (Nat.ble k 372)
         ⟨372, Tryz.f372, [], 2, Tryz.func372, .mk' Tryz.func372 rfl (by decide)⟩
         ⟨373, Tryz.f373, [], 2, Tryz.func373, .mk' Tryz.func373 rfl (by decide)⟩))
       (cond (Nat.ble k 374)
        ⟨374, Tryz.f374, [], 2, Tryz.func374, .mk' Tryz.func374 rfl (by decide)⟩
        (cond (Nat.ble k 375)
         ⟨375, Tryz.f375, [], 2, Tryz.func375, .mk' Tryz.func375 rfl (by decide)⟩
         ⟨376, Tryz.f376, [], 2, Tryz.func376, .mk' Tryz.func376 rfl (by decide)⟩)))))))))
def cs (k : Nat) : List Nat :=
 (cond (Nat.ble k 192)
 (cond (Nat.ble k 100)
  (cond (Nat.ble k 53)
   (cond (Nat.ble k 28)
    (cond (Nat.ble k 16)
     (cond (Nat.ble k 9)
      (cond (Nat.ble k 6)
       (cond (Nat.ble k 3)
        [6, 7, 8, 9, 10, 11, 12, 13]
        [15, 16, 17, 18, 19, 20, 21, 22, 23, 24])
       (cond (Nat.ble k 7)
        [25, 26]
        (cond (Nat.ble k 8)
         [25, 27]
         [])))
      (cond (Nat.ble k 12)
       (cond (Nat.ble k 10)
        [28, 29, 30]
        (cond (Nat.ble k 11)
         [25, 31]
         [32, 33, 34, 35]))
       (cond (Nat.ble k 13)
        [36]
        (cond (Nat.ble k 15)
         [25, 31, 39]
         [25, 31, 39, 40, 41, 42]))))
     (cond (Nat.ble k 22)
      (cond (Nat.ble k 19)
       (cond (Nat.ble k 17)
        [25, 43, 44]
        (cond (Nat.ble k 18)
         [45, 46, 47, 48]
         [25, 44, 49]))
       (cond (Nat.ble k 20)
        [25, 44, 50]
        (cond (Nat.ble k 21)
         [45]
         [45])))
      (cond (Nat.ble k 25)
       (cond (Nat.ble k 23)
        [45]
        (cond (Nat.ble k 24)
         [25, 31, 51, 52, 53]
         []))
       (cond (Nat.ble k 26)
        [54, 55]
        (cond (Nat.ble k 27)
         [54, 56]
         [57])))))
    (cond (Nat.ble k 41)
     (cond (Nat.ble k 33)
      (cond (Nat.ble k 30)
       (cond (Nat.ble k 29)
        [58]
        [59])
       (cond (Nat.ble k 31)
        [54, 60, 61, 62, 63]
        (cond (Nat.ble k 32)
         [64, 65, 66, 67, 68]
         [69, 70, 71])))
      (cond (Nat.ble k 36)
       (cond (Nat.ble k 34)
        [72, 73, 74, 75, 76, 77]
        (cond (Nat.ble k 35)
         [54, 78, 79, 80, 81]
         [82]))
       (cond (Nat.ble k 39)
        [31, 35, 52, 71, 84, 85]
        (cond (Nat.ble k 40)
         [86, 87, 88, 89, 90, 91, 92, 93]
         []))))
     (cond (Nat.ble k 47)
      (cond (Nat.ble k 44)
       (cond (Nat.ble k 42)
        [54]
        (cond (Nat.ble k 43)
         [94, 95, 96]
         [39]))
       (cond (Nat.ble k 45)
        [25, 31]
        (cond (Nat.ble k 46)
         [97, 98]
         [54, 99])))
      (cond (Nat.ble k 50)
       (cond (Nat.ble k 48)
        [54, 100]
        (cond (Nat.ble k 49)
         [94, 95, 96, 101, 102]
         [94, 96, 102]))
       (cond (Nat.ble k 51)
        [103, 104, 105, 106, 107, 108]
        (cond (Nat.ble k 52)
         []
         [67, 68, 109, 110]))))))
   (cond (Nat.ble k 76)
    (cond (Nat.ble k 64)
     (cond (Nat.ble k 58)
      (cond (Nat.ble k 55)
       (cond (Nat.ble k 54)
        []
        [111, 112])
       (cond (Nat.ble k 56)
        [112, 113]
        (cond (Nat.ble k 57)
         []
         [114, 115, 116, 117, 118])))
      (cond (Nat.ble k 61)
       (cond (Nat.ble k 59)
        [119]
        (cond (Nat.ble k 60)
         []
         [120, 121]))
       (cond (Nat.ble k 62)
        [61]
        (cond (Nat.ble k 63)
         [122]
         [72, 123, 124, 125]))))
     (cond (Nat.ble k 70)
      (cond (Nat.ble k 67)
       (cond (Nat.ble k 65)
        [82, 126]
        (cond (Nat.ble k 66)
         [65, 109, 110]
         [127, 128]))
       (cond (Nat.ble k 68)
        [105, 108, 129]
        (cond (Nat.ble k 69)
         [130, 131]
         [72, 73, 76, 103, 124, 132, 133, 134])))
      (cond (Nat.ble k 73)
       (cond (Nat.ble k 71)
        [61, 69, 89, 135, 136]
        (cond (Nat.ble k 72)
         []
         [74, 125, 137, 138]))
       (cond (Nat.ble k 74)
        []
        (cond (Nat.ble k 75)
         [73, 124, 132, 133, 134, 139, 140, 141]
         [74, 125, 137])))))
    (cond (Nat.ble k 88)
     (cond (Nat.ble k 81)
      (cond (Nat.ble k 78)
       (cond (Nat.ble k 77)
        [89, 139, 142, 143, 144, 145]
        [60, 136, 143, 146])
       (cond (Nat.ble k 79)
        [89, 91, 147, 148, 149, 150]
        (cond (Nat.ble k 80)
         []
         [90, 99, 130, 131, 136, 146, 147, 148, 149, 151])))
      (cond (Nat.ble k 85)
       (cond (Nat.ble k 82)
        []
        (cond (Nat.ble k 84)
         [77, 104, 105, 106, 107, 108, 139, 152, 153]
         [67, 129]))
       (cond (Nat.ble k 86)
        []
        (cond (Nat.ble k 87)
         [86, 90, 93]
         [89, 91, 147]))))
     (cond (Nat.ble k 94)
      (cond (Nat.ble k 91)
       (cond (Nat.ble k 89)
        [61, 154]
        (cond (Nat.ble k 90)
         [89, 91, 143, 155, 156, 157, 158, 159]
         [160]))
       (cond (Nat.ble k 92)
        [143, 155, 156]
        (cond (Nat.ble k 93)
         [161]
         [54])))
      (cond (Nat.ble k 97)
       (cond (Nat.ble k 95)
        []
        (cond (Nat.ble k 96)
         [162, 163, 164, 165]
         []))
       (cond (Nat.ble k 98)
        []
        (cond (Nat.ble k 99)
         [63, 167]
         [62, 99, 147, 160, 169, 170, 171])))))))
  (cond (Nat.ble k 146)
   (cond (Nat.ble k 123)
    (cond (Nat.ble k 111)
     (cond (Nat.ble k 105)
      (cond (Nat.ble k 102)
       (cond (Nat.ble k 101)
        []
        [26])
       (cond (Nat.ble k 103)
        [71]
        (cond (Nat.ble k 104)
         [172]
         [172, 173])))
      (cond (Nat.ble k 108)
       (cond (Nat.ble k 106)
        [61, 105]
        (cond (Nat.ble k 107)
         [105, 152]
         []))
       (cond (Nat.ble k 109)
        [65, 110]
        (cond (Nat.ble k 110)
         [65, 82, 126, 174]
         [175, 176, 177]))))
     (cond (Nat.ble k 117)
      (cond (Nat.ble k 114)
       (cond (Nat.ble k 112)
        [122]
        (cond (Nat.ble k 113)
         [111, 178, 179]
         [180]))
       (cond (Nat.ble k 115)
        [116]
        (cond (Nat.ble k 116)
         [181]
         [181])))
      (cond (Nat.ble k 120)
       (cond (Nat.ble k 118)
        [181]
        (cond (Nat.ble k 119)
         []
         [182, 183]))
       (cond (Nat.ble k 121)
        []
        (cond (Nat.ble k 122)
         [98, 186]
         [188])))))
    (cond (Nat.ble k 134)
     (cond (Nat.ble k 128)
      (cond (Nat.ble k 125)
       (cond (Nat.ble k 124)
        [74, 137, 138, 189]
        [190])
       (cond (Nat.ble k 126)
        []
        (cond (Nat.ble k 127)
         [126, 174, 191]
         [126, 174])))
      (cond (Nat.ble k 131)
       (cond (Nat.ble k 129)
        [173, 192]
        (cond (Nat.ble k 130)
         []
         []))
       (cond (Nat.ble k 132)
        [74, 124]
        (cond (Nat.ble k 133)
         [74, 89, 124, 137, 193]
         [74, 124, 137, 140, 156]))))
     (cond (Nat.ble k 140)
      (cond (Nat.ble k 137)
       (cond (Nat.ble k 135)
        [61, 89, 143, 156, 157, 158, 159, 194]
        (cond (Nat.ble k 136)
         []
         []))
       (cond (Nat.ble k 138)
        []
        (cond (Nat.ble k 139)
         []
         [73, 74, 124, 137, 143, 195, 196, 197])))
      (cond (Nat.ble k 143)
       (cond (Nat.ble k 141)
        [74, 90, 133, 134, 137]
        (cond (Nat.ble k 142)
         []
         [95, 101, 198, 199, 200]))
       (cond (Nat.ble k 144)
        [201]
        (cond (Nat.ble k 145)
         [90, 139, 202]
         [143, 155, 159, 194, 203]))))))
   (cond (Nat.ble k 169)
    (cond (Nat.ble k 157)
     (cond (Nat.ble k 151)
      (cond (Nat.ble k 148)
       (cond (Nat.ble k 147)
        [61, 204]
        [61, 205])
       (cond (Nat.ble k 149)
        [62, 90, 91, 146, 206]
        (cond (Nat.ble k 150)
         [112, 155, 207, 208]
         [209])))
      (cond (Nat.ble k 154)
       (cond (Nat.ble k 152)
        [104, 105, 210, 211, 212]
        (cond (Nat.ble k 153)
         [106, 107]
         [213]))
       (cond (Nat.ble k 155)
        [204, 216]
        (cond (Nat.ble k 156)
         [185, 217]
         [218]))))
     (cond (Nat.ble k 163)
      (cond (Nat.ble k 160)
       (cond (Nat.ble k 158)
        [219]
        (cond (Nat.ble k 159)
         [220]
         [221]))
       (cond (Nat.ble k 161)
        []
        (cond (Nat.ble k 162)
         []
         [223])))
      (cond (Nat.ble k 166)
       (cond (Nat.ble k 164)
        [224]
        (cond (Nat.ble k 165)
         [112, 143, 155, 225, 226]
         []))
       (cond (Nat.ble k 167)
        [156, 168, 184, 187, 214, 222, 227, 228, 234, 238, 245, 256, 263, 264, 270]
        (cond (Nat.ble k 168)
         [155]
         [221])))))
    (cond (Nat.ble k 180)
     (cond (Nat.ble k 174)
      (cond (Nat.ble k 171)
       (cond (Nat.ble k 170)
        [229]
        [120, 199])
       (cond (Nat.ble k 172)
        []
        (cond (Nat.ble k 173)
         [230, 231]
         [82])))
      (cond (Nat.ble k 177)
       (cond (Nat.ble k 175)
        [232, 233]
        (cond (Nat.ble k 176)
         []
         [235, 236, 237]))
       (cond (Nat.ble k 178)
        [239, 240]
        (cond (Nat.ble k 179)
         []
         [241]))))
     (cond (Nat.ble k 186)
      (cond (Nat.ble k 183)
       (cond (Nat.ble k 181)
        [242, 243]
        (cond (Nat.ble k 182)
         [244]
         [240, 246]))
       (cond (Nat.ble k 184)
        [185]
        (cond (Nat.ble k 185)
         [247]
         [240, 248])))
      (cond (Nat.ble k 189)
       (cond (Nat.ble k 187)
        [156]
        (cond (Nat.ble k 188)
         [129, 189, 249]
         []))
       (cond (Nat.ble k 190)
        []
        (cond (Nat.ble k 191)
         [82]
         [250]))))))))
 (cond (Nat.ble k 284)
  (cond (Nat.ble k 238)
   (cond (Nat.ble k 215)
    (cond (Nat.ble k 203)
     (cond (Nat.ble k 197)
      (cond (Nat.ble k 194)
       (cond (Nat.ble k 193)
        [124, 132, 137]
        [98])
       (cond (Nat.ble k 195)
        [74, 124, 132, 137, 199]
        (cond (Nat.ble k 196)
         [74, 124, 125, 137, 138]
         [74, 124, 137, 156, 195])))
      (cond (Nat.ble k 200)
       (cond (Nat.ble k 198)
        [199, 251]
        (cond (Nat.ble k 199)
         []
         [156]))
       (cond (Nat.ble k 201)
        [252]
        (cond (Nat.ble k 202)
         [143, 156]
         [148, 171]))))
     (cond (Nat.ble k 209)
      (cond (Nat.ble k 206)
       (cond (Nat.ble k 204)
        [121, 182]
        (cond (Nat.ble k 205)
         []
         [148]))
       (cond (Nat.ble k 207)
        [122]
        (cond (Nat.ble k 208)
         [254]
         [219])))
      (cond (Nat.ble k 212)
       (cond (Nat.ble k 210)
        [105]
        (cond (Nat.ble k 211)
         [105, 172]
         [105, 199, 210, 220]))
       (cond (Nat.ble k 213)
        [156, 168, 184, 187, 214, 222, 228, 234, 238, 245, 256, 263, 264, 270]
        (cond (Nat.ble k 214)
         [215]
         [])))))
    (cond (Nat.ble k 226)
     (cond (Nat.ble k 220)
      (cond (Nat.ble k 217)
       (cond (Nat.ble k 216)
        [182, 255]
        [257])
       (cond (Nat.ble k 218)
        [258]
        (cond (Nat.ble k 219)
         [155, 220]
         [259, 260])))
      (cond (Nat.ble k 223)
       (cond (Nat.ble k 221)
        [120, 121, 156, 168, 184, 187, 214, 222, 228, 234, 238, 245, 256, 263, 264, 270]
        (cond (Nat.ble k 222)
         [228, 261]
         []))
       (cond (Nat.ble k 224)
        []
        (cond (Nat.ble k 225)
         [262]
         [262]))))
     (cond (Nat.ble k 232)
      (cond (Nat.ble k 229)
       (cond (Nat.ble k 227)
        [156, 168, 184, 187, 214, 222, 228, 234, 238, 245, 256, 263, 264, 270]
        (cond (Nat.ble k 228)
         [182]
         [265, 266]))
       (cond (Nat.ble k 230)
        []
        (cond (Nat.ble k 231)
         []
         [267])))
      (cond (Nat.ble k 235)
       (cond (Nat.ble k 233)
        [240, 268]
        (cond (Nat.ble k 234)
         [156, 168, 184, 187, 214, 222, 228, 234, 238, 245, 256, 263, 264, 270]
         [269]))
       (cond (Nat.ble k 236)
        [156, 168, 184, 187, 214, 222, 228, 234, 238, 245, 256, 263, 264, 270, 272]
        (cond (Nat.ble k 237)
         [273, 274]
         []))))))
   (cond (Nat.ble k 261)
    (cond (Nat.ble k 249)
     (cond (Nat.ble k 243)
      (cond (Nat.ble k 240)
       (cond (Nat.ble k 239)
        [239, 275, 276, 277, 278, 279, 280, 281, 282, 283]
        [284, 285])
       (cond (Nat.ble k 241)
        []
        (cond (Nat.ble k 242)
         [286, 287]
         [286])))
      (cond (Nat.ble k 246)
       (cond (Nat.ble k 244)
        [240, 288]
        (cond (Nat.ble k 245)
         [217]
         [156, 168, 184, 187, 214, 222, 228, 234, 238, 245, 246, 256, 263, 264, 270, 289, 290, 291, 292, 293, 294, 295, 296]))
       (cond (Nat.ble k 247)
        []
        (cond (Nat.ble k 248)
         [156, 168, 184, 187, 214, 222, 228, 234, 238, 245, 248, 256, 263, 264, 270, 297, 298, 299, 300, 301, 302, 303, 304]
         [305]))))
     (cond (Nat.ble k 255)
      (cond (Nat.ble k 252)
       (cond (Nat.ble k 250)
        []
        (cond (Nat.ble k 251)
         []
         []))
       (cond (Nat.ble k 253)
        []
        (cond (Nat.ble k 254)
         [98, 155]
         [156, 168, 184, 187, 214, 222, 228, 234, 238, 245, 256, 263, 264, 270])))
      (cond (Nat.ble k 258)
       (cond (Nat.ble k 256)
        [217]
        (cond (Nat.ble k 257)
         []
         [306]))
       (cond (Nat.ble k 259)
        [240, 307]
        (cond (Nat.ble k 260)
         []
         [182])))))
    (cond (Nat.ble k 272)
     (cond (Nat.ble k 266)
      (cond (Nat.ble k 263)
       (cond (Nat.ble k 262)
        [156, 159, 168, 184, 187, 214, 222, 228, 234, 238, 245, 256, 263, 264, 270]
        [])
       (cond (Nat.ble k 264)
        []
        (cond (Nat.ble k 265)
         [308]
         [199])))
      (cond (Nat.ble k 269)
       (cond (Nat.ble k 267)
        []
        (cond (Nat.ble k 268)
         [268, 309, 310, 311, 312, 313, 314, 315, 316, 317]
         [156, 168, 184, 187, 214, 222, 228, 234, 238, 245, 256, 263, 264, 270]))
       (cond (Nat.ble k 270)
        [185, 217, 271]
        (cond (Nat.ble k 271)
         []
         [156, 168, 184, 187, 214, 222, 228, 234, 238, 245, 256, 263, 264, 270]))))
     (cond (Nat.ble k 278)
      (cond (Nat.ble k 275)
       (cond (Nat.ble k 273)
        [240, 318]
        (cond (Nat.ble k 274)
         []
         [281]))
       (cond (Nat.ble k 276)
        [319]
        (cond (Nat.ble k 277)
         [320, 321]
         [322, 323])))
      (cond (Nat.ble k 281)
       (cond (Nat.ble k 279)
        []
        (cond (Nat.ble k 280)
         [281]
         [257]))
       (cond (Nat.ble k 282)
        [281]
        (cond (Nat.ble k 283)
         [281]
         [])))))))
  (cond (Nat.ble k 330)
   (cond (Nat.ble k 307)
    (cond (Nat.ble k 295)
     (cond (Nat.ble k 289)
      (cond (Nat.ble k 286)
       (cond (Nat.ble k 285)
        []
        [])
       (cond (Nat.ble k 287)
        []
        (cond (Nat.ble k 288)
         [156, 168, 184, 187, 214, 222, 228, 234, 238, 245, 256, 263, 264, 270, 288, 324, 325, 326, 327, 328, 329, 330, 331]
         [156, 168, 184, 187, 214, 222, 228, 234, 238, 245, 256, 263, 264, 270])))
      (cond (Nat.ble k 292)
       (cond (Nat.ble k 290)
        [332]
        (cond (Nat.ble k 291)
         [320, 321]
         [333, 334]))
       (cond (Nat.ble k 293)
        []
        (cond (Nat.ble k 294)
         [156, 168, 184, 187, 214, 222, 228, 234, 238, 245, 256, 263, 264, 270]
         [156, 168, 184, 187, 214, 222, 228, 234, 238, 245, 256, 263, 264, 270]))))
     (cond (Nat.ble k 301)
      (cond (Nat.ble k 298)
       (cond (Nat.ble k 296)
        [156, 168, 184, 187, 214, 222, 228, 234, 238, 245, 256, 263, 264, 270]
        (cond (Nat.ble k 297)
         [156, 168, 184, 187, 214, 222, 228, 234, 238, 245, 256, 263, 264, 270]
         [335]))
       (cond (Nat.ble k 299)
        [320, 321]
        (cond (Nat.ble k 300)
         [336, 337]
         [])))
      (cond (Nat.ble k 304)
       (cond (Nat.ble k 302)
        [156, 168, 184, 187, 214, 222, 228, 234, 238, 245, 256, 263, 264, 270]
        (cond (Nat.ble k 303)
         [156, 168, 184, 187, 214, 222, 228, 234, 238, 245, 256, 263, 264, 270]
         [156, 168, 184, 187, 214, 222, 228, 234, 238, 245, 256, 263, 264, 270]))
       (cond (Nat.ble k 305)
        []
        (cond (Nat.ble k 306)
         [338]
         [156, 168, 184, 187, 214, 222, 228, 234, 238, 245, 256, 263, 264, 270, 307, 339, 340, 341, 342, 343, 344, 345, 346])))))
    (cond (Nat.ble k 318)
     (cond (Nat.ble k 312)
      (cond (Nat.ble k 309)
       (cond (Nat.ble k 308)
        [240, 307]
        [315])
       (cond (Nat.ble k 310)
        [347]
        (cond (Nat.ble k 311)
         [320, 321]
         [348, 349])))
      (cond (Nat.ble k 315)
       (cond (Nat.ble k 313)
        []
        (cond (Nat.ble k 314)
         [315]
         [350]))
       (cond (Nat.ble k 316)
        [315]
        (cond (Nat.ble k 317)
         [315]
         [318, 351, 352, 353, 354, 355, 356, 357, 358, 359]))))
     (cond (Nat.ble k 324)
      (cond (Nat.ble k 321)
       (cond (Nat.ble k 319)
        [281]
        (cond (Nat.ble k 320)
         [240]
         []))
       (cond (Nat.ble k 322)
        [323]
        (cond (Nat.ble k 323)
         [360]
         [156, 168, 184, 187, 214, 222, 228, 234, 238, 245, 256, 263, 264, 270])))
      (cond (Nat.ble k 327)
       (cond (Nat.ble k 325)
        [361]
        (cond (Nat.ble k 326)
         [320, 321]
         [362, 363]))
       (cond (Nat.ble k 328)
        []
        (cond (Nat.ble k 329)
         [156, 168, 184, 187, 214, 222, 228, 234, 238, 245, 256, 263, 264, 270]
         [156, 168, 184, 187, 214, 222, 228, 234, 238, 245, 256, 263, 264, 270]))))))
   (cond (Nat.ble k 353)
    (cond (Nat.ble k 341)
     (cond (Nat.ble k 335)
      (cond (Nat.ble k 332)
       (cond (Nat.ble k 331)
        [156, 168, 184, 187, 214, 222, 228, 234, 238, 245, 256, 263, 264, 270]
        [156, 168, 184, 187, 214, 222, 228, 234, 238, 245, 256, 263, 264, 270])
       (cond (Nat.ble k 333)
        [334]
        (cond (Nat.ble k 334)
         [364]
         [156, 168, 184, 187, 214, 222, 228, 234, 238, 245, 256, 263, 264, 270])))
      (cond (Nat.ble k 338)
       (cond (Nat.ble k 336)
        [337]
        (cond (Nat.ble k 337)
         [365]
         []))
       (cond (Nat.ble k 339)
        [156, 168, 184, 187, 214, 222, 228, 234, 238, 245, 256, 263, 264, 270]
        (cond (Nat.ble k 340)
         [366]
         [320, 321]))))
     (cond (Nat.ble k 347)
      (cond (Nat.ble k 344)
       (cond (Nat.ble k 342)
        [367, 368]
        (cond (Nat.ble k 343)
         []
         [156, 168, 184, 187, 214, 222, 228, 234, 238, 245, 256, 263, 264, 270]))
       (cond (Nat.ble k 345)
        [156, 168, 184, 187, 214, 222, 228, 234, 238, 245, 256, 263, 264, 270]
        (cond (Nat.ble k 346)
         [156, 168, 184, 187, 214, 222, 228, 234, 238, 245, 256, 263, 264, 270]
         [315])))
      (cond (Nat.ble k 350)
       (cond (Nat.ble k 348)
        [349]
        (cond (Nat.ble k 349)
         [369]
         []))
       (cond (Nat.ble k 351)
        [357]
        (cond (Nat.ble k 352)
         [370]
         [320, 321])))))
    (cond (Nat.ble k 364)
     (cond (Nat.ble k 358)
      (cond (Nat.ble k 355)
       (cond (Nat.ble k 354)
        [371, 372]
        [])
       (cond (Nat.ble k 356)
        [357]
        (cond (Nat.ble k 357)
         [373]
         [357])))
      (cond (Nat.ble k 361)
       (cond (Nat.ble k 359)
        [357]
        (cond (Nat.ble k 360)
         [281]
         [156, 168, 184, 187, 214, 222, 228, 234, 238, 245, 256, 263, 264, 270]))
       (cond (Nat.ble k 362)
        [363]
        (cond (Nat.ble k 363)
         [374]
         [156, 168, 184, 187, 214, 222, 228, 234, 238, 245, 256, 263, 264, 270]))))
     (cond (Nat.ble k 370)
      (cond (Nat.ble k 367)
       (cond (Nat.ble k 365)
        [156, 168, 184, 187, 214, 222, 228, 234, 238, 245, 256, 263, 264, 270]
        (cond (Nat.ble k 366)
         [156, 168, 184, 187, 214, 222, 228, 234, 238, 245, 256, 263, 264, 270]
         [368]))
       (cond (Nat.ble k 368)
        [375]
        (cond (Nat.ble k 369)
         [315]
         [357])))
      (cond (Nat.ble k 373)
       (cond (Nat.ble k 371)
        [372]
        (cond (Nat.ble k 372)
         [376]
         []))
       (cond (Nat.ble k 374)
        [156, 168, 184, 187, 214, 222, 228, 234, 238, 245, 256, 263, 264, 270]
        (cond (Nat.ble k 375)
         [156, 168, 184, 187, 214, 222, 228, 234, 238, 245, 256, 263, 264, 270]
         [357])))))))))
def grow253_ren : Go.Shelf.Ren := ⟨fun | 4 => 253 | n => n, fun | 20 => 20 | 22 => 25 | 25 => 121 | n => n, fun n => n⟩
theorem grow253 : Lays8.n4 Tryz.prog grow253_ren := {
  mixed := mixed
  f4 := ⟨Tryz.f253.name, by decide, Tryz.func253.trans (congrArg some (by kernel_rfl))⟩
  t0 := Tryz.underlying0
  a0 := Tryz.isAgg0
  z0 := Tryz.sizeOf0
  v0 := Tryz.zeroValue0
  t3 := Tryz.underlying3
  a3 := Tryz.isAgg3
  z3 := Tryz.sizeOf3
  v3 := Tryz.zeroValue3
  t4 := Tryz.underlying4
  a4 := Tryz.isAgg4
  z4 := Tryz.sizeOf4
  v4 := Tryz.zeroValue4
  t9 := Tryz.underlying9
  a9 := Tryz.isAgg9
  z9 := Tryz.sizeOf9
  v9 := Tryz.zeroValue9
  t20 := Tryz.underlying20
  a20 := Tryz.isAgg20
  z20 := Tryz.sizeOf20
  v20 := Tryz.zeroValue20
  t22 := Tryz.underlying25
  a22 := Tryz.isAgg25
  z22 := Tryz.sizeOf25
  v22 := Tryz.zeroValue25
}
@[reducible] def tDot : Ty := (.pair (.int .u16) (.int .u64))
@[reducible] def tRun : Ty := (.pair (.int .u64) (.int .u64))
@[reducible] def tPart : Ty := (.pair (.int .u16) (.sl tRun))
@[reducible] def tEvent : Ty := (.pair tDot (.pair .u8 (.pair (.int .u64) (.pair .u8 (.pair .str (.sl tDot))))))
@[reducible] def tDelta : Ty := (.pair (.sl tPart) (.pair (.sl tPart) (.sl tEvent)))
@[reducible] def tMsg : Ty := (.pair .u8 (.pair .u8 (.pair (.int .u64) (.pair (.int .u16) (.pair (.int .u64) (.pair .u8 (.pair (.sl tPart) (.pair (.sl tPart) tDelta))))))))
@[reducible] def tepitaphlaw32Act : Ty := (.pair .u8 (.pair (.int .u64) (.pair .u8 (.pair .str (.pair (.int .i64) (.pair .bool tMsg))))))
theorem Clone_166 : SndA (NewS Tryz.prog 166 tDot) [.d (.sl tDot)] (cloneF tDot 16) [] := clone_sound (own := [5, 7]) (N := 10) (an := .lf) mixed Tryz.func166 rfl (fun y r => by kernel_rfl) (by kernel_rfl) (fun a cap => by kernel_rfl)
noncomputable def base : List (Ent Tryz.prog) := [mkGrow grow253 (.mk' Tryz.func253 rfl (by decide)), mkEnt 166 [(.sl tDot)] [(.sl tDot)] (cloneD tDot 16) (.mk' Tryz.func166 rfl (by decide)) (cloneD_sound Clone_166), Xq.e_F1, mkConst 5 Xw.gids Xw.ys (.d (.b true)) (.mk' Tryz.func5 rfl (by decide)) Xw.D_law rfl rfl]
def gids : List Nat := [0, 1]
def T0 : List Int := [0, 16, 192, 76, 32, 0, 2, 3, 292, 36, 4]
def T1 : List Int := [0, 498536548, 997073096, 651767980, 1994146192, 1802195444, 1303535960, 1342533948, 3988292384, 4027552580, 3604390888, 3412177804, 2607071920, 2262029012, 2685067896, 3183342108]
def ys : List XV := [.d (.pa (.int .i64) T0), .d (.pa (.int .u32) T1)]
noncomputable def law : FI Tryz.prog := ⟨3, Tryz.f3, [], 0, Tryz.func3, .mk' Tryz.func3 rfl (by decide)⟩
theorem qT (a : tepitaphlaw32Act.T) (slot : UInt8) : runQ Tryz.prog (inlE mixed base gids 200 tb cs 40 law.id) law 200 [(21, true)] gids [.d (tepitaphlaw32Act.xv a), .d (.u8 slot)] ys = some ([.d (.b true)], [], [], true, [((Xq.fewA a == 0 : Bool), true)]) := by kernel_rfl
theorem q0 (c : Int) (f : UInt8) (t : List UInt8) (n : Int) (b : Bool) (m : tMsg.T) (slot : UInt8) : runQ Tryz.prog (inlE mixed base gids 200 tb cs 40 law.id) law 200 [(21, false)] gids [.d (tepitaphlaw32Act.xv (⟨⟨0, by decide⟩⟩, c, f, t, n, b, m)), .d (.u8 slot)] ys = some ([.d (.b true)], [], [], true, [((Xq.fewA (⟨⟨0, by decide⟩⟩, c, f, t, n, b, m) == 0 : Bool), false)]) := by kernel_rfl
theorem q1 (c : Int) (f : UInt8) (t : List UInt8) (n : Int) (b : Bool) (m : tMsg.T) (slot : UInt8) : runQ Tryz.prog (inlE mixed base gids 200 tb cs 40 law.id) law 200 [(21, false)] gids [.d (tepitaphlaw32Act.xv (⟨⟨1, by decide⟩⟩, c, f, t, n, b, m)), .d (.u8 slot)] ys = some ([.d (.b true)], [], [], true, [((Xq.fewA (⟨⟨1, by decide⟩⟩, c, f, t, n, b, m) == 0 : Bool), false)]) := by kernel_rfl
theorem q2 (c : Int) (f : UInt8) (t : List UInt8) (n : Int) (b : Bool) (m : tMsg.T) (slot : UInt8) : runQ Tryz.prog (inlE mixed base gids 200 tb cs 40 law.id) law 200 [(21, false)] gids [.d (tepitaphlaw32Act.xv (⟨⟨2, by decide⟩⟩, c, f, t, n, b, m)), .d (.u8 slot)] ys = some ([.d (.b true)], [], [], true, [((Xq.fewA (⟨⟨2, by decide⟩⟩, c, f, t, n, b, m) == 0 : Bool), false)]) := by kernel_rfl
theorem q3 (c : Int) (f : UInt8) (t : List UInt8) (n : Int) (b : Bool) (m : tMsg.T) (slot : UInt8) : runQ Tryz.prog (inlE mixed base gids 200 tb cs 40 law.id) law 200 [(21, false)] gids [.d (tepitaphlaw32Act.xv (⟨⟨3, by decide⟩⟩, c, f, t, n, b, m)), .d (.u8 slot)] ys = some ([.d (.b true)], [], [], true, [((Xq.fewA (⟨⟨3, by decide⟩⟩, c, f, t, n, b, m) == 0 : Bool), false)]) := by kernel_rfl
theorem q4 (c : Int) (f : UInt8) (t : List UInt8) (n : Int) (b : Bool) (m : tMsg.T) (slot : UInt8) : runQ Tryz.prog (inlE mixed base gids 200 tb cs 40 law.id) law 200 [(21, false)] gids [.d (tepitaphlaw32Act.xv (⟨⟨4, by decide⟩⟩, c, f, t, n, b, m)), .d (.u8 slot)] ys = some ([.d (.b true)], [], [], true, [((Xq.fewA (⟨⟨4, by decide⟩⟩, c, f, t, n, b, m) == 0 : Bool), false)]) := by kernel_rfl
theorem q5 (c : Int) (f : UInt8) (t : List UInt8) (n : Int) (b : Bool) (m : tMsg.T) (slot : UInt8) : runQ Tryz.prog (inlE mixed base gids 200 tb cs 40 law.id) law 200 [(21, false)] gids [.d (tepitaphlaw32Act.xv (⟨⟨5, by decide⟩⟩, c, f, t, n, b, m)), .d (.u8 slot)] ys = some ([.d (.b true)], [], [], true, [((Xq.fewA (⟨⟨5, by decide⟩⟩, c, f, t, n, b, m) == 0 : Bool), false)]) := by kernel_rfl
theorem q6 (c : Int) (f : UInt8) (t : List UInt8) (n : Int) (b : Bool) (m : tMsg.T) (slot : UInt8) : runQ Tryz.prog (inlE mixed base gids 200 tb cs 40 law.id) law 200 [(21, false)] gids [.d (tepitaphlaw32Act.xv (⟨⟨6, by decide⟩⟩, c, f, t, n, b, m)), .d (.u8 slot)] ys = some ([.d (.b true)], [], [], true, [((Xq.fewA (⟨⟨6, by decide⟩⟩, c, f, t, n, b, m) == 0 : Bool), false)]) := by kernel_rfl
theorem q7 (c : Int) (f : UInt8) (t : List UInt8) (n : Int) (b : Bool) (m : tMsg.T) (slot : UInt8) : runQ Tryz.prog (inlE mixed base gids 200 tb cs 40 law.id) law 200 [(21, false)] gids [.d (tepitaphlaw32Act.xv (⟨⟨7, by decide⟩⟩, c, f, t, n, b, m)), .d (.u8 slot)] ys = some ([.d (.b true)], [], [], true, [((Xq.fewA (⟨⟨7, by decide⟩⟩, c, f, t, n, b, m) == 0 : Bool), false)]) := by kernel_rfl
theorem q8 (c : Int) (f : UInt8) (t : List UInt8) (n : Int) (b : Bool) (m : tMsg.T) (slot : UInt8) : runQ Tryz.prog (inlE mixed base gids 200 tb cs 40 law.id) law 200 [(21, false)] gids [.d (tepitaphlaw32Act.xv (⟨⟨8, by decide⟩⟩, c, f, t, n, b, m)), .d (.u8 slot)] ys = some ([.d (.b true)], [], [], true, [((Xq.fewA (⟨⟨8, by decide⟩⟩, c, f, t, n, b, m) == 0 : Bool), false)]) := by kernel_rfl
theorem q9 (c : Int) (f : UInt8) (t : List UInt8) (n : Int) (b : Bool) (m : tMsg.T) (slot : UInt8) : runQ Tryz.prog (inlE mixed base gids 200 tb cs 40 law.id) law 200 [(21, false)] gids [.d (tepitaphlaw32Act.xv (⟨⟨9, by decide⟩⟩, c, f, t, n, b, m)), .d (.u8 slot)] ys = some ([.d (.b true)], [], [], true, [((Xq.fewA (⟨⟨9, by decide⟩⟩, c, f, t, n, b, m) == 0 : Bool), false)]) := by kernel_rfl
theorem q10 (c : Int) (f : UInt8) (t : List UInt8) (n : Int) (b : Bool) (m : tMsg.T) (slot : UInt8) : runQ Tryz.prog (inlE mixed base gids 200 tb cs 40 law.id) law 200 [(21, false)] gids [.d (tepitaphlaw32Act.xv (⟨⟨10, by decide⟩⟩, c, f, t, n, b, m)), .d (.u8 slot)] ys = some ([.d (.b true)], [], [], true, [((Xq.fewA (⟨⟨10, by decide⟩⟩, c, f, t, n, b, m) == 0 : Bool), false)]) := by kernel_rfl
theorem qn (j : Nat) (h : j + 11 < 2 ^ 8) (c : Int) (f : UInt8) (t : List UInt8) (n : Int) (b : Bool) (m : tMsg.T) (slot : UInt8) : runQ Tryz.prog (inlE mixed base gids 200 tb cs 40 law.id) law 200 [(21, false)] gids [.d (tepitaphlaw32Act.xv (⟨⟨j + 11, h⟩⟩, c, f, t, n, b, m)), .d (.u8 slot)] ys = some ([.d (.b true)], [], [], true, [((Xq.fewA (⟨⟨j + 11, h⟩⟩, c, f, t, n, b, m) == 0 : Bool), false)]) := by kernel_rfl
theorem D_law (a : tepitaphlaw32Act.T) (slot : UInt8) : DoesG Tryz.prog 3 (asOf [.d (tepitaphlaw32Act.xv a), .d (.u8 slot)]) (gids.zip (asOf ys)) (.d (.sc (.bool true))) := by
  cases hb : (Xq.fewA a == 0 : Bool) with
  | true => exact runQ_sound mixed (qT a slot) ⟨hb, trivial⟩
  | false =>
    obtain ⟨⟨⟨m, hm⟩⟩, c, f, t, n, b, ms⟩ := a
    match m, hm, hb with
    | 0, _, hb => exact runQ_sound mixed (q0 c f t n b ms slot) ⟨hb, trivial⟩
    | 1, _, hb => exact runQ_sound mixed (q1 c f t n b ms slot) ⟨hb, trivial⟩
    | 2, _, hb => exact runQ_sound mixed (q2 c f t n b ms slot) ⟨hb, trivial⟩
    | 3, _, hb => exact runQ_sound mixed (q3 c f t n b ms slot) ⟨hb, trivial⟩
    | 4, _, hb => exact runQ_sound mixed (q4 c f t n b ms slot) ⟨hb, trivial⟩
    | 5, _, hb => exact runQ_sound mixed (q5 c f t n b ms slot) ⟨hb, trivial⟩
    | 6, _, hb => exact runQ_sound mixed (q6 c f t n b ms slot) ⟨hb, trivial⟩
    | 7, _, hb => exact runQ_sound mixed (q7 c f t n b ms slot) ⟨hb, trivial⟩
    | 8, _, hb => exact runQ_sound mixed (q8 c f t n b ms slot) ⟨hb, trivial⟩
    | 9, _, hb => exact runQ_sound mixed (q9 c f t n b ms slot) ⟨hb, trivial⟩
    | 10, _, hb => exact runQ_sound mixed (q10 c f t n b ms slot) ⟨hb, trivial⟩
    | j + 11, h, hb => exact runQ_sound mixed (qn j h c f t n b ms slot) ⟨hb, trivial⟩
end Go.Proofs.Xz
set_option linter.unusedVariables false
set_option linter.unusedSimpArgs false
namespace Go.Ab
open Go.RowKit
def fullγ (w : World) (b : Nat) : Nat :=
  match w.heap[b]? with
  | some (.cells c _ _) => c.size
  | _ => 0
def full (w : World) : Gh := { γ := fullγ w, β := fun _ => none, ρ := fun _ => 0 }
theorem full_hr (w : World) : HR [] (Base.of (full w) w X0) (full w) w X0 := by
  refine ⟨by simp, ?_, Nat.le_refl _, ⟨rfl, rfl, rfl, Nat.le_refl _⟩, .refl _ _, fun _ _ _ => ⟨rfl, rfl⟩, by simp [X0], by simp [X0], by simp [X0], by simp [X0], by simp [X0, full], by simp [full], by simp [full], by simp [full], by simp [full], .off fun _ => rfl⟩
  intro b i hi
  simp only [full, fullγ] at hi
  split at hi
  · rename_i c T fr h
    rw [cell?_cells h]
    simp [hi]
  · omega
theorem Does.below {P : Program} {f : FuncId} {args : List AV} {res : AV} (h : Does P f args X0 res X0) {w : World} {vs : Array Value} (hl : args.length = vs.size)
    (ha : ∀ (i : Nat) x v, args[i]? = some x → vs[i]? = some v → RA (full w) w x v) :
    Calls P f vs w fun e w' => ∃ v g', e = .returned v ∧ RA g' w' res v ∧ Below w.heap.size w w' := by
  refine (h (full w) w vs (full_hr w) hl ha).mono ?_
  rintro e w' ⟨g', v, rfl, hr, h1⟩
  refine ⟨v, g', rfl, hr, ⟨h1.io.1, h1.io.2.2.1, h1.io.2.1, h1.base, fun b hb => (h1.frame b hb ?_).1⟩⟩
  rintro (⟨k, o, hk, _⟩ | ⟨n, hn⟩)
  · simp [X0] at hk
  · simp [full] at hn
theorem Does.law {P : Program} {f : FuncId} {args : List AV} (h : Does P f args X0 (.d (.sc (.bool true))) X0) {w : World} {vs : Array Value} (hl : args.length = vs.size)
    (ha : ∀ (i : Nat) x v, args[i]? = some x → vs[i]? = some v → RA (full w) w x v) :
    Calls P f vs w fun e w' => e = .returned (.bool true) ∧ Below w.heap.size w w' := by
  refine (h.below hl ha).mono ?_
  rintro e w' ⟨v, g', rfl, hr, hb⟩
  exact ⟨by rw [hr.sc_inv], hb⟩
inductive RAs (g : Gh) (w : World) : List AV → List Value → Prop
  | nil : RAs g w [] []
  | cons {x : AV} {v : Value} {r : List AV} {rs : List Value} : RA g w x v → RAs g w r rs → RAs g w (x :: r) (v :: rs)
theorem RAs.get {g : Gh} {w : World} {l : List AV} {vs : List Value} (h : RAs g w l vs) : l.length = vs.length ∧ ∀ (i : Nat) x v, l[i]? = some x → vs[i]? = some v → RA g w x v := by
  induction h with
  | nil => exact ⟨rfl, by simp⟩
  | cons h _ ih =>
    refine ⟨by simp [ih.1], ?_⟩
    intro i x u hx hu
    cases i with
    | zero => simp at hx hu; subst hx; subst hu; exact h
    | succ i => exact ih.2 i x u (by simpa using hx) (by simpa using hu)
theorem Does.lawAs {P : Program} {f : FuncId} {args : List AV} (h : Does P f args X0 (.d (.sc (.bool true))) X0) {w : World} {vs : Array Value} (ha : RAs (full w) w args vs.toList) :
    Calls P f vs w fun e w' => e = .returned (.bool true) ∧ Below w.heap.size w w' :=
  h.law (by have := ha.get.1; simpa using this) fun i x v hx hv => ha.get.2 i x v hx (by simpa using hv)
theorem fullγ_cell {w : World} {b i : Nat} {v : Value} (h : w.cell? ⟨b, i, none⟩ = some v) : i < fullγ w b := by
  unfold World.cell? at h
  unfold fullγ
  simp only at h
  split at h
  · rename_i c T fr hh
    rw [hh]
    simp at h
    exact (Array.getElem?_eq_some_iff.1 h).1
  · cases h
end Go.Ab
set_option linter.unusedVariables false
set_option linter.unusedSimpArgs false
namespace Go.Xl
open Go.Ab
noncomputable def Ty.In : (t : Ty) → t.T → Prop
  | .int k, n => (Lit.int k n).wf = true
  | .u8, _ => True
  | .bool, _ => True
  | .str, l => l.length ≤ maxLen
  | .sl a, l => l.length ≤ maxLen ∧ ∀ x ∈ l, a.In x
  | .unit, _ => True
  | .pair a b, x => a.In x.1 ∧ b.In x.2
  | .st1 a, x => a.In x
  | .tab _, _ => True
  | .err, _ => True
  | .ic _ _, _ => True
  | .ptr, _ => True
noncomputable def opFs (P : Program) (rec : TypeId → Ty → Bool) : Nat → List Field → Ty → Bool
  | off, [f], .st1 a => cond (Nat.beq f.offset off) (cond (Nat.beq (P.cellsOf f.type) a.size) (rec f.type a) false) false
  | off, [f, g], .pair a b => cond (Nat.beq f.offset off) (cond (Nat.beq (P.cellsOf f.type) a.size) (cond (rec f.type a) (cond (Nat.beq g.offset (off + a.size)) (cond (Nat.beq (P.cellsOf g.type) b.size) (rec g.type b) false) false) false) false) false
  | off, f :: g :: h :: r, .pair a b => cond (Nat.beq f.offset off) (cond (Nat.beq (P.cellsOf f.type) a.size) (cond (rec f.type a) (opFs P rec (off + a.size) (g :: h :: r) b) false) false) false
  | _, _, _ => false
noncomputable def opB (P : Program) : Nat → TypeId → Ty → Bool
  | 0, _, _ => false
  | n + 1, t, ty =>
    match P.underlying t, ty with
    | some (.int k), .int k' => cond (kindB k k') true false
    | some (.int .u8), .u8 => true
    | some .bool, .bool => true
    | some .string, .str => true
    | some (.slice e), .sl a => cond (Nat.beq (P.cellsOf e) a.size) (cond (Nat.ble 1 a.size) (opB P n e a) false) false
    | some (.struct fs), a => cond a.agg (cond (Nat.beq (P.cellsOf t) a.size) (opFs P (opB P n) 0 fs.toList a) false) false
    | _, _ => false
noncomputable def CellsD (γ : Nat → Nat) (w : World) (ds : List D) (cs : List Value) : Prop := ds.length = cs.length ∧ ∀ (i : Nat) d v, ds[i]? = some d → cs[i]? = some v → RD γ w d v
theorem CellsD.one {γ : Nat → Nat} {w : World} {d : D} {v : Value} (h : RD γ w d v) : CellsD γ w [d] [v] := by
  refine ⟨rfl, fun i e u he hu => ?_⟩
  cases i with
  | zero => simp at he hu; subst he; subst hu; exact h
  | succ i => simp at he
theorem CellsD.append {γ : Nat → Nat} {w : World} {a b : List D} {cs ds : List Value} (h : CellsD γ w a cs) (h' : CellsD γ w b ds) : CellsD γ w (a ++ b) (cs ++ ds) := by
  refine ⟨by simp [h.1, h'.1], fun i e u he hu => ?_⟩
  rw [List.getElem?_append] at he hu
  rw [← h.1] at hu
  split at he
  · rename_i hlt
    rw [if_pos hlt] at hu
    exact h.2 i e u he hu
  · rename_i hge
    rw [if_neg hge] at hu
    exact h'.2 _ e u he hu
theorem cT {a b : Bool} (h : cond a b false = true) : a = true ∧ b = true := by
  cases a <;> simp at h; exact ⟨rfl, h⟩
section
variable {H : Type} {enc : TypeId × Value → H} {P : Program} {W : World}
noncomputable def OpR (P : Program) (W : World) (H : Type) (enc : TypeId × Value → H) (fuel : Nat) (rec : TypeId → Ty → Bool) : Prop :=
  ∀ (t : TypeId) (ty : Ty) (cs : List Value) (d : DataW H) (ps : List MemPlace), rec t ty = true → DataW.trod enc P W 0 (fun _ => true) true fuel t cs = some (d, ps) →
    ∃ x : ty.T, ty.In x ∧ CellsD (fullγ W) W (ty.ds x) cs
theorem take_split {α : Type} (l : List α) (off a b : Nat) : (l.drop off).take (a + b) = (l.drop off).take a ++ (l.drop (off + a)).take b := by
  rw [List.take_add, List.drop_drop]
theorem open_fs {fuel : Nat} {rec : TypeId → Ty → Bool} (hr : OpR P W H enc fuel rec) {cs : List Value} : ∀ (fs : List Field) (off : Nat) (ty : Ty), opFs P rec off fs ty = true →
    (∀ f ∈ fs, ∃ y, DataW.trod enc P W 0 (fun _ => true) true fuel f.type ((cs.drop f.offset).take (P.cellsOf f.type)) = some y) →
    ∃ x : ty.T, ty.In x ∧ CellsD (fullγ W) W (ty.ds x) ((cs.drop off).take ty.size)
  | [], off, ty, h, hf => by cases ty <;> simp [opFs] at h
  | [f], off, ty, h, hf => by
    cases ty with
    | st1 a =>
      simp only [opFs] at h
      obtain ⟨h1, h⟩ := cT h
      obtain ⟨h2, h⟩ := cT h
      have h1 := Nat.eq_of_beq_eq_true h1
      have h2 := Nat.eq_of_beq_eq_true h2
      obtain ⟨y, hy⟩ := hf f (by simp)
      rw [h1, h2] at hy
      exact hr f.type a _ _ _ h hy
    | _ => simp [opFs] at h
  | [f, g], off, ty, h, hf => by
    cases ty with
    | pair a b =>
      simp only [opFs] at h
      obtain ⟨h1, h⟩ := cT h
      obtain ⟨h2, h⟩ := cT h
      obtain ⟨h3, h⟩ := cT h
      obtain ⟨h4, h⟩ := cT h
      obtain ⟨h5, h⟩ := cT h
      have h1 := Nat.eq_of_beq_eq_true h1
      have h2 := Nat.eq_of_beq_eq_true h2
      have h4 := Nat.eq_of_beq_eq_true h4
      have h5 := Nat.eq_of_beq_eq_true h5
      obtain ⟨y, hy⟩ := hf f (by simp)
      obtain ⟨z, hz⟩ := hf g (by simp)
      rw [h1, h2] at hy
      rw [h4, h5] at hz
      obtain ⟨x1, i1, c1⟩ := hr _ _ _ _ _ h3 hy
      obtain ⟨x2, i2, c2⟩ := hr _ _ _ _ _ h hz
      refine ⟨(x1, x2), ⟨i1, i2⟩, ?_⟩
      simp only [Ty.ds, Ty.size]
      rw [take_split]
      exact c1.append c2
    | _ => simp [opFs] at h
  | f :: g :: k :: r, off, ty, h, hf => by
    cases ty with
    | pair a b =>
      simp only [opFs] at h
      obtain ⟨h1, h⟩ := cT h
      obtain ⟨h2, h⟩ := cT h
      obtain ⟨h3, h⟩ := cT h
      have h1 := Nat.eq_of_beq_eq_true h1
      have h2 := Nat.eq_of_beq_eq_true h2
      obtain ⟨y, hy⟩ := hf f (by simp)
      rw [h1, h2] at hy
      obtain ⟨x1, i1, c1⟩ := hr _ _ _ _ _ h3 hy
      obtain ⟨x2, i2, c2⟩ := open_fs hr (g :: k :: r) (off + a.size) b h (fun q hq => hf q (List.mem_cons_of_mem _ hq))
      refine ⟨(x1, x2), ⟨i1, i2⟩, ?_⟩
      simp only [Ty.ds, Ty.size]
      rw [take_split]
      exact c1.append c2
    | _ => simp [opFs] at h
theorem choose_list {α β : Type} (p : Nat → β → α → Prop) : ∀ (l : List β), (∀ i y, l[i]? = some y → ∃ x, p i y x) → ∃ xs : List α, xs.length = l.length ∧ ∀ i y x, l[i]? = some y → xs[i]? = some x → p i y x := by
  intro l
  induction l generalizing p with
  | nil => intro _; exact ⟨[], rfl, by simp⟩
  | cons a r ih =>
    intro h
    obtain ⟨x, hx⟩ := h 0 a rfl
    obtain ⟨xs, h1, h2⟩ := ih (fun i => p (i + 1)) (fun i y hy => h (i + 1) y (by simpa using hy))
    refine ⟨x :: xs, by simp [h1], fun i y z hy hz => ?_⟩
    cases i with
    | zero => simp at hy hz; subst hy; subst hz; exact hx
    | succ i => exact h2 i y z (by simpa using hy) (by simpa using hz)
theorem open_cells : ∀ (n fuel : Nat), OpR P W H enc fuel (opB P n)
  | 0, fuel => by intro t ty cs d ps ho; simp [opB] at ho
  | n + 1, fuel => by
    intro t ty cs d ps ho h
    unfold opB at ho
    split at ho
    · rename_i k k' hu
      obtain ⟨hk, _⟩ := cT ho
      have := kindB_eq hk
      subst this
      obtain ⟨m, rfl, _, hw⟩ := DataW.trod_int hu h
      exact ⟨m, hw, .one (.sc _)⟩
    · rename_i hu
      obtain ⟨m, rfl, _, hw⟩ := DataW.trod_int hu h
      have hm : 0 ≤ m ∧ m ≤ 255 := by simpa [Lit.wf, IntKind.wrap, IntKind.bits, IntKind.signed, IntKind.min, IntKind.max] using hw
      refine ⟨UInt8.ofNat m.toNat, trivial, .one ?_⟩
      have : (((UInt8.ofNat m.toNat).toNat : Nat) : Int) = m := by
        rw [UInt8.toNat_ofNat']; omega
      rw [this]
      exact .sc _
    · rename_i hu
      obtain ⟨b, rfl, _⟩ := DataW.trod_bool hu h
      exact ⟨b, trivial, .one (.sc _)⟩
    · rename_i hu
      obtain ⟨s, rfl, _, hw⟩ := DataW.trod_string hu h
      exact ⟨s.data.toList, by simpa [Ty.In] using hw, .one (.sc _)⟩
    · rename_i e a hu
      obtain ⟨h1, ho⟩ := cT ho
      obtain ⟨h2, ho⟩ := cT ho
      have h1 := Nat.eq_of_beq_eq_true h1
      have h2 := Nat.le_of_ble_eq_true h2
      rcases DataW.trod_slice hu h with ⟨rfl, _⟩ | ⟨ad, len, cap, elems, rest, m, rfl, rfl, _, hb, hl, hc, hel, hcell, _, _⟩
      · exact ⟨[], ⟨by simp, by simp⟩, .one (.nil _ _ _ fun _ => rfl)⟩
      · have key : ∀ i y, (List.range len)[i]? = some y → ∃ x : a.T, a.In x ∧ ∃ cs', cs'.length = a.size ∧ CellsD (fullγ W) W (a.ds x) cs' ∧ ∀ j, j < a.size → W.cell? ((ad.add (i * a.size)).add j) = cs'[j]? := by
          intro i y hi
          have hlt : i < len := by have := (List.getElem?_eq_some_iff.1 hi).1; simpa using this
          have hc := hcell i hlt
          obtain ⟨z, hz⟩ : ∃ z, elems[i]? = some z := ⟨_, List.getElem?_eq_getElem (by omega)⟩
          rw [hz, Option.bind_eq_some_iff, h1] at hc
          obtain ⟨cs', hc1, hc2⟩ := hc
          obtain ⟨_, hcl, hcc⟩ := World.cells?_some hc1
          obtain ⟨x, hx1, hx2⟩ := open_cells n m _ _ _ _ _ ho hc2
          exact ⟨x, hx1, cs', hcl, hx2, hcc⟩
        obtain ⟨xs, hxl, hx⟩ := choose_list _ _ key
        rw [List.length_range] at hxl
        have hxs : ∀ i x, xs[i]? = some x → a.In x ∧ ∃ cs', cs'.length = a.size ∧ CellsD (fullγ W) W (a.ds x) cs' ∧ ∀ j, j < a.size → W.cell? ((ad.add (i * a.size)).add j) = cs'[j]? := by
          intro i x hi
          have hlt : i < len := by have := (List.getElem?_eq_some_iff.1 hi).1; omega
          exact hx i i x (by simp [hlt]) hi
        refine ⟨xs, ⟨by omega, fun x hm => ?_⟩, .one ?_⟩
        · obtain ⟨i, hi⟩ := List.mem_iff_getElem?.1 hm
          exact (hxs i x hi).1
        · rcases Nat.eq_zero_or_pos len with h0 | h0
          · have : xs = [] := List.eq_nil_of_length_eq_zero (by omega)
            subst this
            subst h0
            exact .nil _ (some ad) cap (by simp)
          · have spot : ad.spot = none := by
              obtain ⟨x0, hx0⟩ : ∃ z, xs[0]? = some z := ⟨_, List.getElem?_eq_getElem (by omega)⟩
              obtain ⟨_, cs', hl', _, hc'⟩ := hxs 0 x0 hx0
              have := hc' 0 (by omega)
              rw [List.getElem?_eq_getElem (by omega)] at this
              have := World.cell?_spot this
              simpa [Addr.add] using this
            obtain ⟨b, off, sp⟩ := ad
            simp only at spot
            subst spot
            have hcell' : ∀ i x, xs[i]? = some x → ∃ cs', cs'.length = a.size ∧ CellsD (fullγ W) W (a.ds x) cs' ∧ ∀ j, j < a.size → W.cell? ⟨b, off + (i * a.size + j), none⟩ = cs'[j]? := by
              intro i x hi
              obtain ⟨_, cs', hl', hd', hc'⟩ := hxs i x hi
              refine ⟨cs', hl', hd', fun j hj => ?_⟩
              have := hc' j hj
              rwa [WideShapes.add_plain, WideShapes.add_plain, Nat.add_assoc] at this
            refine .ofCells' (by simp [hxl]) ?_ hl ?_ ?_
            · obtain ⟨x, hx⟩ : ∃ z, xs[len - 1]? = some z := ⟨_, List.getElem?_eq_getElem (by omega)⟩
              obtain ⟨cs', hl', _, hc'⟩ := hcell' (len - 1) x hx
              have := hc' (a.size - 1) (by omega)
              rw [List.getElem?_eq_getElem (by omega)] at this
              have := fullγ_cell this
              have e : len * a.size = (len - 1) * a.size + a.size := by
                rw [← Nat.succ_mul]; congr 1; omega
              show off + len * a.size ≤ fullγ W b
              omega
            · intro i cs hi
              rw [List.getElem?_map, Option.map_eq_some_iff] at hi
              obtain ⟨x, _, rfl⟩ := hi
              exact a.ds_length x
            · intro i j cs c u hi hj hu
              rw [List.getElem?_map, Option.map_eq_some_iff] at hi
              obtain ⟨x, hx, rfl⟩ := hi
              obtain ⟨cs', hl', hd', hc'⟩ := hcell' i x hx
              have hjl : j < a.size := by have := (List.getElem?_eq_some_iff.1 hj).1; rwa [a.ds_length] at this
              rw [hc' j hjl] at hu
              exact hd'.2 j c u hj hu
    · rename_i fs hu
      obtain ⟨_, ho⟩ := cT ho
      obtain ⟨h2, ho⟩ := cT ho
      have h2 := Nat.eq_of_beq_eq_true h2
      obtain ⟨xs, m, rfl, _, hl, hxl, hall⟩ := DataW.trod_struct hu h
      obtain ⟨x, hx1, hx2⟩ := open_fs (open_cells n m) (cs := cs) fs.toList 0 _ ho (by
        intro f hf
        obtain ⟨i, hi⟩ := List.mem_iff_getElem?.1 hf
        have hi' : fs[i]? = some f := by simpa using hi
        have := hall i f hi'
        rw [this]
        have hlt := (Array.getElem?_eq_some_iff.1 hi').1
        exact ⟨_, List.getElem?_eq_getElem (by omega)⟩)
      refine ⟨x, hx1, ?_⟩
      rw [List.drop_zero, List.take_of_length_le (by omega)] at hx2
      exact hx2
    · cases ho
theorem open_arg {b0 n : Nat} {t : TypeId} {ty : Ty} {v : Value} {d : DataW H} {ps : List MemPlace} (ho : opB P n t ty = true) (hv : Value.okWide P W .any b0 t v)
    (h : DataW.Trod enc P W 0 (fun _ => true) true t v d ps) : ∃ x : ty.T, ty.In x ∧ RA (full W) W (XV.d (ty.xv x)).a v := by
  obtain ⟨fuel, hf⟩ := h
  obtain ⟨x, h1, h2⟩ := open_cells n fuel _ _ _ _ _ ho hf
  refine ⟨x, h1, .d _ _ ?_⟩
  show RD (fullγ W) W (ty.dv x) v
  cases hagg : ty.agg with
  | true =>
    rw [ty.dv_agg x hagg]
    have : ∃ fs, P.underlying t = some (.struct fs) := by
      cases n with
      | zero => simp [opB] at ho
      | succ n =>
        unfold opB at ho
        split at ho <;> simp_all [Ty.agg]
    obtain ⟨fs, hu⟩ := this
    obtain ⟨cs, rfl, _⟩ := WideShapes.okWide_struct hu hv
    simp only [Value.cells] at h2
    exact .agg _ _ (by simpa using h2.1) fun i c u hc hu => h2.2 i c u hc (by simpa using hu)
  | false =>
    rw [ty.dv_one x hagg] at h2
    have hv' : v.cells = #[v] := by
      have := h2.1
      cases v with
      | agg cs =>
        exfalso
        cases n with
        | zero => simp [opB] at ho
        | succ n =>
          unfold opB at ho
          split at ho
          · rename_i hu; obtain ⟨_, e⟩ := WideShapes.okWide_int hu hv; cases e
          · rename_i hu; obtain ⟨_, e⟩ := WideShapes.okWide_int hu hv; cases e
          · rename_i hu; obtain ⟨_, e⟩ := WideShapes.okWide_bool hu hv; cases e
          · rename_i hu; obtain ⟨_, e⟩ := WideShapes.okWide_string hu hv; cases e
          · rename_i hu; obtain ⟨_, _, _, e⟩ := WideShapes.okWide_slice hu hv; cases e
          · rw [hagg] at ho; simp at ho
          · cases ho
      | _ => rfl
    rw [hv'] at h2
    exact h2.2 0 _ _ rfl rfl
end
end Go.Xl
set_option linter.unusedVariables false
set_option linter.unusedSimpArgs false
namespace Go.Xl
open Go.Ab Go.RowKit
noncomputable def litV : Lit → Value
  | .bool b => .bool b
  | .int k n => .int k n
  | .string s => .string ⟨s.toArray⟩
  | .float k b => .float k b
  | .nil => .nilIface
theorem trod_lit {H : Type} {enc : TypeId × Value → H} {P : Program} {w : World} {base : Nat} {sp : Nat → Bool} {held : Bool} {fuel : Nat} {t : TypeId} {cs : List Value} {l : Lit} {p : List MemPlace}
    (h : DataW.trod enc P w base sp held fuel t cs = some (.lit l, p)) : cs = [litV l] := by
  cases fuel with
  | zero => simp [DataW.trod] at h
  | succ m =>
    unfold DataW.trod at h
    split at h <;> simp_all [litV, Option.map_eq_some_iff, Option.bind_eq_some_iff]
    all_goals first
      | (obtain ⟨_, h, _⟩ := h; subst h; rfl)
      | (obtain ⟨h, _⟩ := h; subst h; rfl)
      | (subst h; rfl)
      | (split at h <;> simp_all [Option.bind_eq_some_iff, Option.map_eq_some_iff] <;> (try (obtain ⟨_, _, _, _, h⟩ := h; split at h <;> simp_all)))
      | skip
theorem laid_cells {H : Type} {enc : TypeId × Value → H} {P : Program} {w : World} {base : Nat} {sp : Nat → Bool} {held : Bool} {fuel : Nat} {t e : TypeId} {n : Nat} {cs : List Value} {ls : List Lit} {p : List MemPlace}
    (ht : P.underlying t = some (.array n e)) (he : P.cellsOf e = 1) (hn : P.cellsOf t = ls.length) (hn' : n = ls.length) (h : DataW.trod enc P w base sp held fuel t cs = some (.agg (ls.map .lit), p)) : cs = ls.map litV := by
  obtain ⟨xs, m, rfl, hx, hl, hxl, hc⟩ := DataW.trod_array ht h
  simp only [Prod.mk.injEq, DataW.agg.injEq] at hx
  apply List.ext_getElem?
  intro i
  by_cases hi : i < ls.length
  · have h1 := hc i (by omega)
    have h2 : (xs.map (·.1))[i]? = (ls.map DataW.lit)[i]? := by rw [← hx.1]
    rw [List.getElem?_eq_getElem (l := xs) (by omega)] at h1
    simp only [List.getElem?_map, List.getElem?_eq_getElem (l := xs) (show i < xs.length by omega), List.getElem?_eq_getElem hi, Option.map_some, Option.some.injEq] at h2
    generalize xs[i] = x at h1 h2
    obtain ⟨x1, x2⟩ := x
    simp only at h2
    subst h2
    have := trod_lit h1
    rw [he, Nat.mul_one] at this
    have hd : (cs.drop i)[0]? = some (litV ls[i]) := by
      have h3 : ((cs.drop i).take 1)[0]? = some (litV ls[i]) := by rw [this]; rfl
      simpa using h3
    simp only [List.getElem?_drop, Nat.add_zero] at hd
    rw [hd]
    simp [hi]
  · rw [List.getElem?_eq_none (by omega), List.getElem?_eq_none (by simpa using hi)]
noncomputable def litOf : (ty : Ty) → ty.T → Lit
  | .int k, n => .int k n
  | .u8, x => .int .u8 (x.toNat : Int)
  | .bool, b => .bool b
  | .str, l => .string l
  | _, _ => .nil
noncomputable def scTy : Ty → Bool
  | .int _ | .u8 | .bool | .str => true
  | _ => false
theorem sc_ds {ty : Ty} (h : scTy ty = true) (x : ty.T) : ty.ds x = [.sc (litV (litOf ty x))] := by
  cases ty <;> simp [scTy] at h <;> rfl
theorem sc_flat {ty : Ty} (h : scTy ty = true) : ∀ (l : List ty.T), (l.map ty.ds).flatten = l.map fun x => .sc (litV (litOf ty x))
  | [] => rfl
  | x :: r => by rw [List.map_cons, List.flatten_cons, sc_flat h r, sc_ds h x]; rfl
theorem laid_tab {P : Program} {laid : List (String × DataW Unit)} {w : World} (h : laidMetH P laid w) (n : String) (g t e k : Nat) (ty : Ty) (l : List ty.T)
    (hf : laid.filter (fun x => x.1 == n) = [(n, .agg (l.map fun x => .lit (litOf ty x)))]) (hg : P.globalNamed n = some g) (ht : (P.globals[g]?).map (·.type) = some t)
    (hu : P.underlying t = some (.array k e)) (he : P.cellsOf e = 1) (hn : P.cellsOf t = k) (hk : k = l.length) (hs : scTy ty = true) :
    RA (full w) w (XV.d (.pa ty l)).a (.pointer (some ⟨g, 0, none⟩)) := by
  have h1 := h.filter (fun x => x.1 == n)
  rw [hf] at h1
  have h2 : laidMet P [(n, .agg (l.map fun x => .lit (litOf ty x)))] w := h1
  obtain ⟨ps, hl, _, _⟩ := h2
  obtain ⟨g', t', cs, fuel, p, q, e1, e2, e3, e4, _, _⟩ := hl
  rw [hg] at e1
  cases e1
  rw [ht] at e2
  cases e2
  have e4' : DataW.trod (fun _ => ()) P w 0 (fun _ => true) false fuel t cs.toList = some (.agg ((l.map (litOf ty)).map .lit), p) := by
    rw [List.map_map]; exact e4
  have hc := laid_cells (ls := l.map (litOf ty)) hu he (by simp; omega) (by simp; omega) e4'
  have hcell : ∀ i, w.cell? ⟨g, i, none⟩ = (l.map fun x => litV (litOf ty x))[i]? := by
    intro i
    rw [World.var?_cell hg e3 i, ← Array.getElem?_toList, hc, List.map_map]; rfl
  refine .d _ _ ?_
  show RD (fullγ w) w (.ep ((l.map ty.ds).flatten)) _
  rw [sc_flat hs]
  refine .ep _ _ _ ?_ ?_
  · rw [Nat.zero_add, List.length_map]
    have h0 : w.heap[g]? = some (.cells cs ((w.heap[g]?).elim 0 (fun b => match b with | .cells _ t _ => t | _ => 0)) ((w.heap[g]?).elim (0, 0) (fun b => match b with | .cells _ _ f => f | _ => (0, 0)))) := by
      unfold World.var? at e3
      rw [hg, Option.bind_some] at e3
      split at e3
      · rename_i cs' T fr hh
        cases e3
        rw [hh]; rfl
      · cases e3
    unfold fullγ
    rw [h0]
    have : cs.toList.length = l.length := by rw [hc]; simp
    simp at this
    simp [this]
  · intro j c v hc1 hc2
    rw [Nat.zero_add, hcell j] at hc2
    simp only [List.getElem?_map, Option.map_eq_some_iff] at hc1 hc2
    obtain ⟨x, hx, rfl⟩ := hc1
    obtain ⟨y, hy, rfl⟩ := hc2
    rw [hx] at hy
    cases hy
    exact .sc _
theorem DoesG.lawAs {P : Program} {f : FuncId} {args : List AV} {gs : List (Nat × AV)} (h : DoesG P f args gs (.d (.sc (.bool true)))) {w : World} {vs : Array Value} (ha : RAs (full w) w args vs.toList) (hg : GHold (full w) w gs) :
    Calls P f vs w fun e w' => e = .returned (.bool true) ∧ Below w.heap.size w w' := by
  refine (h (full w) w vs (full_hr w) hg (by have := ha.get.1; simpa using this) fun i x v hx hv => ha.get.2 i x v hx (by simpa using hv)).mono ?_
  rintro e w' ⟨g', v, rfl, hr, h1⟩
  refine ⟨by rw [hr.sc_inv], ⟨h1.io.1, h1.io.2.2.1, h1.io.2.1, h1.base, fun b hb => (h1.frame b hb ?_).1⟩⟩
  rintro (⟨k, o, hk, _⟩ | ⟨n, hn⟩)
  · simp [X0] at hk
  · simp [full] at hn
theorem GHold.nil (g : Gh) (w : World) : GHold g w [] := by intro p hp; cases hp
theorem GHold.cons {g : Gh} {w : World} {k : Nat} {a : AV} {gs : List (Nat × AV)} (h : RA g w a (.pointer (some ⟨k, 0, none⟩))) (h' : GHold g w gs) : GHold g w ((k, a) :: gs) := by
  intro p hp
  rcases List.mem_cons.1 hp with rfl | hp
  · exact h
  · exact h' p hp
end Go.Xl
