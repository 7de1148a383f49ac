import Derived.Test.YtncajhpecibcnaaGreatDoorZf
import Derived.Test.YtncajhpecibcnaaGreatDoorProg
import Derived.KernelRfl
import Derived.Test.YtncajhpecibcnaaGreatDoorZb
import Derived.Below
import Derived.ProofKit
import Derived.Test.YtncajhpecibcnaaGreatDoorZe
import Derived.OpenShut
import Derived.FnData
import Derived.LaidSub
set_option maxRecDepth 1000000
set_option linter.unusedVariables false
namespace Go.Proofs.Xz
open Go Go.Xl Go.Ab Go.Proofs
theorem mixed : Tryz.prog.follows .mixedOrders = true := by kernel_rfl
noncomputable def tb (k : Nat) : FI Tryz.prog :=
 (cond (Nat.ble k 201)
 (cond (Nat.ble k 105)
  (cond (Nat.ble k 56)
   (cond (Nat.ble k 29)
    (cond (Nat.ble k 17)
     (cond (Nat.ble k 9)
      (cond (Nat.ble k 6)
       (cond (Nat.ble k 3)
        ⟨3, Tryz.f3, [], 2, Tryz.func3, .mk' Tryz.func3 rfl (by decide)⟩
        ⟨6, Tryz.f6, [], 2, Tryz.func6, .mk' Tryz.func6 rfl (by decide)⟩)
       (cond (Nat.ble k 7)
        ⟨7, Tryz.f7, [], 2, Tryz.func7, .mk' Tryz.func7 rfl (by decide)⟩
        (cond (Nat.ble k 8)
         ⟨8, Tryz.f8, [], 2, Tryz.func8, .mk' Tryz.func8 rfl (by decide)⟩
         ⟨9, Tryz.f9, [], 2, Tryz.func9, .mk' Tryz.func9 rfl (by decide)⟩)))
      (cond (Nat.ble k 12)
       (cond (Nat.ble k 10)
        ⟨10, Tryz.f10, [], 2, Tryz.func10, .mk' Tryz.func10 rfl (by decide)⟩
        (cond (Nat.ble k 11)
         ⟨11, Tryz.f11, [], 2, Tryz.func11, .mk' Tryz.func11 rfl (by decide)⟩
         ⟨12, Tryz.f12, [], 2, Tryz.func12, .mk' Tryz.func12 rfl (by decide)⟩))
       (cond (Nat.ble k 13)
        ⟨13, Tryz.f13, [], 2, Tryz.func13, .mk' Tryz.func13 rfl (by decide)⟩
        (cond (Nat.ble k 16)
         ⟨16, Tryz.f16, [], 2, Tryz.func16, .mk' Tryz.func16 rfl (by decide)⟩
         ⟨17, Tryz.f17, [], 2, Tryz.func17, .mk' Tryz.func17 rfl (by decide)⟩))))
     (cond (Nat.ble k 23)
      (cond (Nat.ble k 20)
       (cond (Nat.ble k 18)
        ⟨18, Tryz.f18, [], 2, Tryz.func18, .mk' Tryz.func18 rfl (by decide)⟩
        (cond (Nat.ble k 19)
         ⟨19, Tryz.f19, [], 2, Tryz.func19, .mk' Tryz.func19 rfl (by decide)⟩
         ⟨20, Tryz.f20, [], 2, Tryz.func20, .mk' Tryz.func20 rfl (by decide)⟩))
       (cond (Nat.ble k 21)
        ⟨21, Tryz.f21, [], 2, Tryz.func21, .mk' Tryz.func21 rfl (by decide)⟩
        (cond (Nat.ble k 22)
         ⟨22, Tryz.f22, [], 2, Tryz.func22, .mk' Tryz.func22 rfl (by decide)⟩
         ⟨23, Tryz.f23, [], 2, Tryz.func23, .mk' Tryz.func23 rfl (by decide)⟩)))
      (cond (Nat.ble k 26)
       (cond (Nat.ble k 24)
        ⟨24, Tryz.f24, [], 2, Tryz.func24, .mk' Tryz.func24 rfl (by decide)⟩
        (cond (Nat.ble k 25)
         ⟨25, Tryz.f25, [], 2, Tryz.func25, .mk' Tryz.func25 rfl (by decide)⟩
         ⟨26, Tryz.f26, [], 2, Tryz.func26, .mk' Tryz.func26 rfl (by decide)⟩))
       (cond (Nat.ble k 27)
        ⟨27, Tryz.f27, [], 2, Tryz.func27, .mk' Tryz.func27 rfl (by decide)⟩
        (cond (Nat.ble k 28)
         ⟨28, Tryz.f28, [], 2, Tryz.func28, .mk' Tryz.func28 rfl (by decide)⟩
         ⟨29, Tryz.f29, [], 2, Tryz.func29, .mk' Tryz.func29 rfl (by decide)⟩)))))
    (cond (Nat.ble k 44)
     (cond (Nat.ble k 38)
      (cond (Nat.ble k 35)
       (cond (Nat.ble k 30)
        ⟨30, Tryz.f30, [], 2, Tryz.func30, .mk' Tryz.func30 rfl (by decide)⟩
        (cond (Nat.ble k 31)
         ⟨31, Tryz.f31, [], 2, Tryz.func31, .mk' Tryz.func31 rfl (by decide)⟩
         ⟨35, Tryz.f35, [], 2, Tryz.func35, .mk' Tryz.func35 rfl (by decide)⟩))
       (cond (Nat.ble k 36)
        ⟨36, Tryz.f36, [], 2, Tryz.func36, .mk' Tryz.func36 rfl (by decide)⟩
        (cond (Nat.ble k 37)
         ⟨37, Tryz.f37, [], 2, Tryz.func37, .mk' Tryz.func37 rfl (by decide)⟩
         ⟨38, Tryz.f38, [], 2, Tryz.func38, .mk' Tryz.func38 rfl (by decide)⟩)))
      (cond (Nat.ble k 41)
       (cond (Nat.ble k 39)
        ⟨39, Tryz.f39, [], 2, Tryz.func39, .mk' Tryz.func39 rfl (by decide)⟩
        (cond (Nat.ble k 40)
         ⟨40, Tryz.f40, [], 2, Tryz.func40, .mk' Tryz.func40 rfl (by decide)⟩
         ⟨41, Tryz.f41, [], 2, Tryz.func41, .mk' Tryz.func41 rfl (by decide)⟩))
       (cond (Nat.ble k 42)
        ⟨42, Tryz.f42, [], 2, Tryz.func42, .mk' Tryz.func42 rfl (by decide)⟩
        (cond (Nat.ble k 43)
         ⟨43, Tryz.f43, [], 2, Tryz.func43, .mk' Tryz.func43 rfl (by decide)⟩
         ⟨44, Tryz.f44, [], 2, Tryz.func44, .mk' Tryz.func44 rfl (by decide)⟩))))
     (cond (Nat.ble k 50)
      (cond (Nat.ble k 47)
       (cond (Nat.ble k 45)
        ⟨45, Tryz.f45, [], 2, Tryz.func45, .mk' Tryz.func45 rfl (by decide)⟩
        (cond (Nat.ble k 46)
         ⟨46, Tryz.f46, [], 2, Tryz.func46, .mk' Tryz.func46 rfl (by decide)⟩
         ⟨47, Tryz.f47, [], 2, Tryz.func47, .mk' Tryz.func47 rfl (by decide)⟩))
       (cond (Nat.ble k 48)
        ⟨48, Tryz.f48, [], 2, Tryz.func48, .mk' Tryz.func48 rfl (by decide)⟩
        (cond (Nat.ble k 49)
         ⟨49, Tryz.f49, [], 2, Tryz.func49, .mk' Tryz.func49 rfl (by decide)⟩
         ⟨50, Tryz.f50, [], 2, Tryz.func50, .mk' Tryz.func50 rfl (by decide)⟩)))
      (cond (Nat.ble k 53)
       (cond (Nat.ble k 51)
        ⟨51, Tryz.f51, [], 2, Tryz.func51, .mk' Tryz.func51 rfl (by decide)⟩
        (cond (Nat.ble k 52)
         ⟨52, Tryz.f52, [], 2, Tryz.func52, .mk' Tryz.func52 rfl (by decide)⟩
         ⟨53, Tryz.f53, [], 2, Tryz.func53, .mk' Tryz.func53 rfl (by decide)⟩))
       (cond (Nat.ble k 54)
        ⟨54, Tryz.f54, [], 2, Tryz.func54, .mk' Tryz.func54 rfl (by decide)⟩
        (cond (Nat.ble k 55)
         ⟨55, Tryz.f55, [], 2, Tryz.func55, .mk' Tryz.func55 rfl (by decide)⟩
         ⟨56, Tryz.f56, [], 2, Tryz.func56, .mk' Tryz.func56 rfl (by decide)⟩))))))
   (cond (Nat.ble k 80)
    (cond (Nat.ble k 68)
     (cond (Nat.ble k 62)
      (cond (Nat.ble k 59)
       (cond (Nat.ble k 57)
        ⟨57, Tryz.f57, [20], 2, Tryz.func57, .mk' Tryz.func57 rfl (by decide)⟩
        (cond (Nat.ble k 58)
         ⟨58, Tryz.f58, [], 3, Tryz.func58, .mk' Tryz.func58 rfl (by decide)⟩
         ⟨59, Tryz.f59, [], 2, Tryz.func59, .mk' Tryz.func59 rfl (by decide)⟩))
       (cond (Nat.ble k 60)
        ⟨60, Tryz.f60, [], 2, Tryz.func60, .mk' Tryz.func60 rfl (by decide)⟩
        (cond (Nat.ble k 61)
         ⟨61, Tryz.f61, [], 2, Tryz.func61, .mk' Tryz.func61 rfl (by decide)⟩
         ⟨62, Tryz.f62, [], 2, Tryz.func62, .mk' Tryz.func62 rfl (by decide)⟩)))
      (cond (Nat.ble k 65)
       (cond (Nat.ble k 63)
        ⟨63, Tryz.f63, [], 2, Tryz.func63, .mk' Tryz.func63 rfl (by decide)⟩
        (cond (Nat.ble k 64)
         ⟨64, Tryz.f64, [], 2, Tryz.func64, .mk' Tryz.func64 rfl (by decide)⟩
         ⟨65, Tryz.f65, [], 2, Tryz.func65, .mk' Tryz.func65 rfl (by decide)⟩))
       (cond (Nat.ble k 66)
        ⟨66, Tryz.f66, [], 2, Tryz.func66, .mk' Tryz.func66 rfl (by decide)⟩
        (cond (Nat.ble k 67)
         ⟨67, Tryz.f67, [], 2, Tryz.func67, .mk' Tryz.func67 rfl (by decide)⟩
         ⟨68, Tryz.f68, [], 2, Tryz.func68, .mk' Tryz.func68 rfl (by decide)⟩))))
     (cond (Nat.ble k 74)
      (cond (Nat.ble k 71)
       (cond (Nat.ble k 69)
        ⟨69, Tryz.f69, [], 2, Tryz.func69, .mk' Tryz.func69 rfl (by decide)⟩
        (cond (Nat.ble k 70)
         ⟨70, Tryz.f70, [], 2, Tryz.func70, .mk' Tryz.func70 rfl (by decide)⟩
         ⟨71, Tryz.f71, [], 2, Tryz.func71, .mk' Tryz.func71 rfl (by decide)⟩))
       (cond (Nat.ble k 72)
        ⟨72, Tryz.f72, [], 2, Tryz.func72, .mk' Tryz.func72 rfl (by decide)⟩
        (cond (Nat.ble k 73)
         ⟨73, Tryz.f73, [], 2, Tryz.func73, .mk' Tryz.func73 rfl (by decide)⟩
         ⟨74, Tryz.f74, [], 2, Tryz.func74, .mk' Tryz.func74 rfl (by decide)⟩)))
      (cond (Nat.ble k 77)
       (cond (Nat.ble k 75)
        ⟨75, Tryz.f75, [], 2, Tryz.func75, .mk' Tryz.func75 rfl (by decide)⟩
        (cond (Nat.ble k 76)
         ⟨76, Tryz.f76, [], 2, Tryz.func76, .mk' Tryz.func76 rfl (by decide)⟩
         ⟨77, Tryz.f77, [], 2, Tryz.func77, .mk' Tryz.func77 rfl (by decide)⟩))
       (cond (Nat.ble k 78)
        ⟨78, Tryz.f78, [], 2, Tryz.func78, .mk' Tryz.func78 rfl (by decide)⟩
        (cond (Nat.ble k 79)
         ⟨79, Tryz.f79, [], 2, Tryz.func79, .mk' Tryz.func79 rfl (by decide)⟩
         ⟨80, Tryz.f80, [], 2, Tryz.func80, .mk' Tryz.func80 rfl (by decide)⟩)))))
    (cond (Nat.ble k 93)
     (cond (Nat.ble k 87)
      (cond (Nat.ble k 84)
       (cond (Nat.ble k 82)
        ⟨82, Tryz.f82, [], 2, Tryz.func82, .mk' Tryz.func82 rfl (by decide)⟩
        (cond (Nat.ble k 83)
         ⟨83, Tryz.f83, [], 2, Tryz.func83, .mk' Tryz.func83 rfl (by decide)⟩
         ⟨84, Tryz.f84, [], 2, Tryz.func84, .mk' Tryz.func84 rfl (by decide)⟩))
       (cond (Nat.ble k 85)
        ⟨85, Tryz.f85, [], 2, Tryz.func85, .mk' Tryz.func85 rfl (by decide)⟩
        (cond (Nat.ble k 86)
         ⟨86, Tryz.f86, [], 2, Tryz.func86, .mk' Tryz.func86 rfl (by decide)⟩
         ⟨87, Tryz.f87, [], 2, Tryz.func87, .mk' Tryz.func87 rfl (by decide)⟩)))
      (cond (Nat.ble k 90)
       (cond (Nat.ble k 88)
        ⟨88, Tryz.f88, [], 2, Tryz.func88, .mk' Tryz.func88 rfl (by decide)⟩
        (cond (Nat.ble k 89)
         ⟨89, Tryz.f89, [], 2, Tryz.func89, .mk' Tryz.func89 rfl (by decide)⟩
         ⟨90, Tryz.f90, [], 2, Tryz.func90, .mk' Tryz.func90 rfl (by decide)⟩))
       (cond (Nat.ble k 91)
        ⟨91, Tryz.f91, [], 2, Tryz.func91, .mk' Tryz.func91 rfl (by decide)⟩
        (cond (Nat.ble k 92)
         ⟨92, Tryz.f92, [], 2, Tryz.func92, .mk' Tryz.func92 rfl (by decide)⟩
         ⟨93, Tryz.f93, [], 2, Tryz.func93, .mk' Tryz.func93 rfl (by decide)⟩))))
     (cond (Nat.ble k 99)
      (cond (Nat.ble k 96)
       (cond (Nat.ble k 94)
        ⟨94, Tryz.f94, [], 2, Tryz.func94, .mk' Tryz.func94 rfl (by decide)⟩
        (cond (Nat.ble k 95)
         ⟨95, Tryz.f95, [], 2, Tryz.func95, .mk' Tryz.func95 rfl (by decide)⟩
         ⟨96, Tryz.f96, [], 2, Tryz.func96, .mk' Tryz.func96 rfl (by decide)⟩))
       (cond (Nat.ble k 97)
        ⟨97, Tryz.f97, [], 2, Tryz.func97, .mk' Tryz.func97 rfl (by decide)⟩
        (cond (Nat.ble k 98)
         ⟨98, Tryz.f98, [], 2, Tryz.func98, .mk' Tryz.func98 rfl (by decide)⟩
         ⟨99, Tryz.f99, [], 2, Tryz.func99, .mk' Tryz.func99 rfl (by decide)⟩)))
      (cond (Nat.ble k 102)
       (cond (Nat.ble k 100)
        ⟨100, Tryz.f100, [], 2, Tryz.func100, .mk' Tryz.func100 rfl (by decide)⟩
        (cond (Nat.ble k 101)
         ⟨101, Tryz.f101, [], 2, Tryz.func101, .mk' Tryz.func101 rfl (by decide)⟩
         ⟨102, Tryz.f102, [], 2, Tryz.func102, .mk' Tryz.func102 rfl (by decide)⟩))
       (cond (Nat.ble k 103)
        ⟨103, Tryz.f103, [], 2, Tryz.func103, .mk' Tryz.func103 rfl (by decide)⟩
        (cond (Nat.ble k 104)
         ⟨104, Tryz.f104, [], 2, Tryz.func104, .mk' Tryz.func104 rfl (by decide)⟩
         ⟨105, Tryz.f105, [], 2, Tryz.func105, .mk' Tryz.func105 rfl (by decide)⟩)))))))
  (cond (Nat.ble k 153)
   (cond (Nat.ble k 129)
    (cond (Nat.ble k 117)
     (cond (Nat.ble k 111)
      (cond (Nat.ble k 108)
       (cond (Nat.ble k 106)
        ⟨106, Tryz.f106, [], 2, Tryz.func106, .mk' Tryz.func106 rfl (by decide)⟩
        (cond (Nat.ble k 107)
         ⟨107, Tryz.f107, [24, 44], 2, Tryz.func107, .mk' Tryz.func107 rfl (by decide)⟩
         ⟨108, Tryz.f108, [], 2, Tryz.func108, .mk' Tryz.func108 rfl (by decide)⟩))
       (cond (Nat.ble k 109)
        ⟨109, Tryz.f109, [], 2, Tryz.func109, .mk' Tryz.func109 rfl (by decide)⟩
        (cond (Nat.ble k 110)
         ⟨110, Tryz.f110, [23], 2, Tryz.func110, .mk' Tryz.func110 rfl (by decide)⟩
         ⟨111, Tryz.f111, [], 2, Tryz.func111, .mk' Tryz.func111 rfl (by decide)⟩)))
      (cond (Nat.ble k 114)
       (cond (Nat.ble k 112)
        ⟨112, Tryz.f112, [24], 2, Tryz.func112, .mk' Tryz.func112 rfl (by decide)⟩
        (cond (Nat.ble k 113)
         ⟨113, Tryz.f113, [], 2, Tryz.func113, .mk' Tryz.func113 rfl (by decide)⟩
         ⟨114, Tryz.f114, [], 2, Tryz.func114, .mk' Tryz.func114 rfl (by decide)⟩))
       (cond (Nat.ble k 115)
        ⟨115, Tryz.f115, [], 2, Tryz.func115, .mk' Tryz.func115 rfl (by decide)⟩
        (cond (Nat.ble k 116)
         ⟨116, Tryz.f116, [], 2, Tryz.func116, .mk' Tryz.func116 rfl (by decide)⟩
         ⟨117, Tryz.f117, [], 2, Tryz.func117, .mk' Tryz.func117 rfl (by decide)⟩))))
     (cond (Nat.ble k 123)
      (cond (Nat.ble k 120)
       (cond (Nat.ble k 118)
        ⟨118, Tryz.f118, [], 2, Tryz.func118, .mk' Tryz.func118 rfl (by decide)⟩
        (cond (Nat.ble k 119)
         ⟨119, Tryz.f119, [], 2, Tryz.func119, .mk' Tryz.func119 rfl (by decide)⟩
         ⟨120, Tryz.f120, [], 2, Tryz.func120, .mk' Tryz.func120 rfl (by decide)⟩))
       (cond (Nat.ble k 121)
        ⟨121, Tryz.f121, [], 2, Tryz.func121, .mk' Tryz.func121 rfl (by decide)⟩
        (cond (Nat.ble k 122)
         ⟨122, Tryz.f122, [], 2, Tryz.func122, .mk' Tryz.func122 rfl (by decide)⟩
         ⟨123, Tryz.f123, [], 2, Tryz.func123, .mk' Tryz.func123 rfl (by decide)⟩)))
      (cond (Nat.ble k 126)
       (cond (Nat.ble k 124)
        ⟨124, Tryz.f124, [], 2, Tryz.func124, .mk' Tryz.func124 rfl (by decide)⟩
        (cond (Nat.ble k 125)
         ⟨125, Tryz.f125, [], 2, Tryz.func125, .mk' Tryz.func125 rfl (by decide)⟩
         ⟨126, Tryz.f126, [], 2, Tryz.func126, .mk' Tryz.func126 rfl (by decide)⟩))
       (cond (Nat.ble k 127)
        ⟨127, Tryz.f127, [], 2, Tryz.func127, .mk' Tryz.func127 rfl (by decide)⟩
        (cond (Nat.ble k 128)
         ⟨128, Tryz.f128, [], 2, Tryz.func128, .mk' Tryz.func128 rfl (by decide)⟩
         ⟨129, Tryz.f129, [], 2, Tryz.func129, .mk' Tryz.func129 rfl (by decide)⟩)))))
    (cond (Nat.ble k 141)
     (cond (Nat.ble k 135)
      (cond (Nat.ble k 132)
       (cond (Nat.ble k 130)
        ⟨130, Tryz.f130, [], 2, Tryz.func130, .mk' Tryz.func130 rfl (by decide)⟩
        (cond (Nat.ble k 131)
         ⟨131, Tryz.f131, [], 2, Tryz.func131, .mk' Tryz.func131 rfl (by decide)⟩
         ⟨132, Tryz.f132, [], 2, Tryz.func132, .mk' Tryz.func132 rfl (by decide)⟩))
       (cond (Nat.ble k 133)
        ⟨133, Tryz.f133, [], 2, Tryz.func133, .mk' Tryz.func133 rfl (by decide)⟩
        (cond (Nat.ble k 134)
         ⟨134, Tryz.f134, [], 2, Tryz.func134, .mk' Tryz.func134 rfl (by decide)⟩
         ⟨135, Tryz.f135, [], 2, Tryz.func135, .mk' Tryz.func135 rfl (by decide)⟩)))
      (cond (Nat.ble k 138)
       (cond (Nat.ble k 136)
        ⟨136, Tryz.f136, [], 2, Tryz.func136, .mk' Tryz.func136 rfl (by decide)⟩
        (cond (Nat.ble k 137)
         ⟨137, Tryz.f137, [], 2, Tryz.func137, .mk' Tryz.func137 rfl (by decide)⟩
         ⟨138, Tryz.f138, [], 2, Tryz.func138, .mk' Tryz.func138 rfl (by decide)⟩))
       (cond (Nat.ble k 139)
        ⟨139, Tryz.f139, [], 2, Tryz.func139, .mk' Tryz.func139 rfl (by decide)⟩
        (cond (Nat.ble k 140)
         ⟨140, Tryz.f140, [], 2, Tryz.func140, .mk' Tryz.func140 rfl (by decide)⟩
         ⟨141, Tryz.f141, [], 2, Tryz.func141, .mk' Tryz.func141 rfl (by decide)⟩))))
     (cond (Nat.ble k 147)
      (cond (Nat.ble k 144)
       (cond (Nat.ble k 142)
        ⟨142, Tryz.f142, [], 2, Tryz.func142, .mk' Tryz.func142 rfl (by decide)⟩
        (cond (Nat.ble k 143)
         ⟨143, Tryz.f143, [], 2, Tryz.func143, .mk' Tryz.func143 rfl (by decide)⟩
         ⟨144, Tryz.f144, [], 2, Tryz.func144, .mk' Tryz.func144 rfl (by decide)⟩))
       (cond (Nat.ble k 145)
        ⟨145, Tryz.f145, [], 2, Tryz.func145, .mk' Tryz.func145 rfl (by decide)⟩
        (cond (Nat.ble k 146)
         ⟨146, Tryz.f146, [], 2, Tryz.func146, .mk' Tryz.func146 rfl (by decide)⟩
         ⟨147, Tryz.f147, [], 2, Tryz.func147, .mk' Tryz.func147 rfl (by decide)⟩)))
      (cond (Nat.ble k 150)
       (cond (Nat.ble k 148)
        ⟨148, Tryz.f148, [], 2, Tryz.func148, .mk' Tryz.func148 rfl (by decide)⟩
        (cond (Nat.ble k 149)
         ⟨149, Tryz.f149, [], 2, Tryz.func149, .mk' Tryz.func149 rfl (by decide)⟩
         ⟨150, Tryz.f150, [], 2, Tryz.func150, .mk' Tryz.func150 rfl (by decide)⟩))
       (cond (Nat.ble k 151)
        ⟨151, Tryz.f151, [], 2, Tryz.func151, .mk' Tryz.func151 rfl (by decide)⟩
        (cond (Nat.ble k 152)
         ⟨152, Tryz.f152, [], 2, Tryz.func152, .mk' Tryz.func152 rfl (by decide)⟩
         ⟨153, Tryz.f153, [], 2, Tryz.func153, .mk' Tryz.func153 rfl (by decide)⟩))))))
   (cond (Nat.ble k 177)
    (cond (Nat.ble k 165)
     (cond (Nat.ble k 159)
      (cond (Nat.ble k 156)
       (cond (Nat.ble k 154)
        ⟨154, Tryz.f154, [], 2, Tryz.func154, .mk' Tryz.func154 rfl (by decide)⟩
        (cond (Nat.ble k 155)
         ⟨155, Tryz.f155, [], 2, Tryz.func155, .mk' Tryz.func155 rfl (by decide)⟩
         ⟨156, Tryz.f156, [], 2, Tryz.func156, .mk' Tryz.func156 rfl (by decide)⟩))
       (cond (Nat.ble k 157)
        ⟨157, Tryz.f157, [], 2, Tryz.func157, .mk' Tryz.func157 rfl (by decide)⟩
        (cond (Nat.ble k 158)
         ⟨158, Tryz.f158, [], 2, Tryz.func158, .mk' Tryz.func158 rfl (by decide)⟩
         ⟨159, Tryz.f159, [], 2, Tryz.func159, .mk' Tryz.func159 rfl (by decide)⟩)))
      (cond (Nat.ble k 162)
       (cond (Nat.ble k 160)
        ⟨160, Tryz.f160, [], 2, Tryz.func160, .mk' Tryz.func160 rfl (by decide)⟩
        (cond (Nat.ble k 161)
         ⟨161, Tryz.f161, [], 2, Tryz.func161, .mk' Tryz.func161 rfl (by decide)⟩
         ⟨162, Tryz.f162, [], 2, Tryz.func162, .mk' Tryz.func162 rfl (by decide)⟩))
       (cond (Nat.ble k 163)
        ⟨163, Tryz.f163, [], 2, Tryz.func163, .mk' Tryz.func163 rfl (by decide)⟩
        (cond (Nat.ble k 164)
         ⟨164, Tryz.f164, [], 2, Tryz.func164, .mk' Tryz.func164 rfl (by decide)⟩
         ⟨165, Tryz.f165, [], 2, Tryz.func165, .mk' Tryz.func165 rfl (by decide)⟩))))
     (cond (Nat.ble k 171)
      (cond (Nat.ble k 168)
       (cond (Nat.ble k 166)
        ⟨166, Tryz.f166, [], 2, Tryz.func166, .mk' Tryz.func166 rfl (by decide)⟩
        (cond (Nat.ble k 167)
         ⟨167, Tryz.f167, [], 2, Tryz.func167, .mk' Tryz.func167 rfl (by decide)⟩
         ⟨168, Tryz.f168, [], 2, Tryz.func168, .mk' Tryz.func168 rfl (by decide)⟩))
       (cond (Nat.ble k 169)
        ⟨169, Tryz.f169, [], 2, Tryz.func169, .mk' Tryz.func169 rfl (by decide)⟩
        (cond (Nat.ble k 170)
         ⟨170, Tryz.f170, [], 2, Tryz.func170, .mk' Tryz.func170 rfl (by decide)⟩
         ⟨171, Tryz.f171, [], 2, Tryz.func171, .mk' Tryz.func171 rfl (by decide)⟩)))
      (cond (Nat.ble k 174)
       (cond (Nat.ble k 172)
        ⟨172, Tryz.f172, [], 2, Tryz.func172, .mk' Tryz.func172 rfl (by decide)⟩
        (cond (Nat.ble k 173)
         ⟨173, Tryz.f173, [], 2, Tryz.func173, .mk' Tryz.func173 rfl (by decide)⟩
         ⟨174, Tryz.f174, [], 2, Tryz.func174, .mk' Tryz.func174 rfl (by decide)⟩))
       (cond (Nat.ble k 175)
        ⟨175, Tryz.f175, [], 2, Tryz.func175, .mk' Tryz.func175 rfl (by decide)⟩
        (cond (Nat.ble k 176)
         ⟨176, Tryz.f176, [12], 2, Tryz.func176, .mk' Tryz.func176 rfl (by decide)⟩
         ⟨177, Tryz.f177, [23], 2, Tryz.func177, .mk' Tryz.func177 rfl (by decide)⟩)))))
    (cond (Nat.ble k 189)
     (cond (Nat.ble k 183)
      (cond (Nat.ble k 180)
       (cond (Nat.ble k 178)
        ⟨178, Tryz.f178, [6], 2, Tryz.func178, .mk' Tryz.func178 rfl (by decide)⟩
        (cond (Nat.ble k 179)
         ⟨179, Tryz.f179, [], 2, Tryz.func179, .mk' Tryz.func179 rfl (by decide)⟩
         ⟨180, Tryz.f180, [], 2, Tryz.func180, .mk' Tryz.func180 rfl (by decide)⟩))
       (cond (Nat.ble k 181)
        ⟨181, Tryz.f181, [], 2, Tryz.func181, .mk' Tryz.func181 rfl (by decide)⟩
        (cond (Nat.ble k 182)
         ⟨182, Tryz.f182, [], 2, Tryz.func182, .mk' Tryz.func182 rfl (by decide)⟩
         ⟨183, Tryz.f183, [], 2, Tryz.func183, .mk' Tryz.func183 rfl (by decide)⟩)))
      (cond (Nat.ble k 186)
       (cond (Nat.ble k 184)
        ⟨184, Tryz.f184, [], 2, Tryz.func184, .mk' Tryz.func184 rfl (by decide)⟩
        (cond (Nat.ble k 185)
         ⟨185, Tryz.f185, [], 2, Tryz.func185, .mk' Tryz.func185 rfl (by decide)⟩
         ⟨186, Tryz.f186, [], 2, Tryz.func186, .mk' Tryz.func186 rfl (by decide)⟩))
       (cond (Nat.ble k 187)
        ⟨187, Tryz.f187, [], 2, Tryz.func187, .mk' Tryz.func187 rfl (by decide)⟩
        (cond (Nat.ble k 188)
         ⟨188, Tryz.f188, [], 2, Tryz.func188, .mk' Tryz.func188 rfl (by decide)⟩
         ⟨189, Tryz.f189, [], 2, Tryz.func189, .mk' Tryz.func189 rfl (by decide)⟩))))
     (cond (Nat.ble k 195)
      (cond (Nat.ble k 192)
       (cond (Nat.ble k 190)
        ⟨190, Tryz.f190, [], 2, Tryz.func190, .mk' Tryz.func190 rfl (by decide)⟩
        (cond (Nat.ble k 191)
         ⟨191, Tryz.f191, [], 2, Tryz.func191, .mk' Tryz.func191 rfl (by decide)⟩
         ⟨192, Tryz.f192, [], 2, Tryz.func192, .mk' Tryz.func192 rfl (by decide)⟩))
       (cond (Nat.ble k 193)
        ⟨193, Tryz.f193, [], 2, Tryz.func193, .mk' Tryz.func193 rfl (by decide)⟩
        (cond (Nat.ble k 194)
         ⟨194, Tryz.f194, [], 2, Tryz.func194, .mk' Tryz.func194 rfl (by decide)⟩
         ⟨195, Tryz.f195, [], 2, Tryz.func195, .mk' Tryz.func195 rfl (by decide)⟩)))
      (cond (Nat.ble k 198)
       (cond (Nat.ble k 196)
        ⟨196, Tryz.f196, [], 2, Tryz.func196, .mk' Tryz.func196 rfl (by decide)⟩
        (cond (Nat.ble k 197)
         ⟨197, Tryz.f197, [], 2, Tryz.func197, .mk' Tryz.func197 rfl (by decide)⟩
         ⟨198, Tryz.f198, [], 2, Tryz.func198, .mk' Tryz.func198 rfl (by decide)⟩))
       (cond (Nat.ble k 199)
        ⟨199, Tryz.f199, [], 2, Tryz.func199, .mk' Tryz.func199 rfl (by decide)⟩
        (cond (Nat.ble k 200)
         ⟨200, Tryz.f200, [], 2, Tryz.func200, .mk' Tryz.func200 rfl (by decide)⟩
         ⟨201, Tryz.f201, [], 2, Tryz.func201, .mk' Tryz.func201 rfl (by decide)⟩))))))))
 (cond (Nat.ble k 296)
  (cond (Nat.ble k 248)
   (cond (Nat.ble k 224)
    (cond (Nat.ble k 212)
     (cond (Nat.ble k 206)
      (cond (Nat.ble k 203)
       (cond (Nat.ble k 202)
        ⟨202, Tryz.f202, [], 2, Tryz.func202, .mk' Tryz.func202 rfl (by decide)⟩
        ⟨203, Tryz.f203, [], 2, Tryz.func203, .mk' Tryz.func203 rfl (by decide)⟩)
       (cond (Nat.ble k 204)
        ⟨204, Tryz.f204, [], 2, Tryz.func204, .mk' Tryz.func204 rfl (by decide)⟩
        (cond (Nat.ble k 205)
         ⟨205, Tryz.f205, [], 2, Tryz.func205, .mk' Tryz.func205 rfl (by decide)⟩
         ⟨206, Tryz.f206, [], 2, Tryz.func206, .mk' Tryz.func206 rfl (by decide)⟩)))
      (cond (Nat.ble k 209)
       (cond (Nat.ble k 207)
        ⟨207, Tryz.f207, [], 2, Tryz.func207, .mk' Tryz.func207 rfl (by decide)⟩
        (cond (Nat.ble k 208)
         ⟨208, Tryz.f208, [6], 2, Tryz.func208, .mk' Tryz.func208 rfl (by decide)⟩
         ⟨209, Tryz.f209, [], 2, Tryz.func209, .mk' Tryz.func209 rfl (by decide)⟩))
       (cond (Nat.ble k 210)
        ⟨210, Tryz.f210, [], 2, Tryz.func210, .mk' Tryz.func210 rfl (by decide)⟩
        (cond (Nat.ble k 211)
         ⟨211, Tryz.f211, [], 2, Tryz.func211, .mk' Tryz.func211 rfl (by decide)⟩
         ⟨212, Tryz.f212, [], 2, Tryz.func212, .mk' Tryz.func212 rfl (by decide)⟩))))
     (cond (Nat.ble k 218)
      (cond (Nat.ble k 215)
       (cond (Nat.ble k 213)
        ⟨213, Tryz.f213, [], 2, Tryz.func213, .mk' Tryz.func213 rfl (by decide)⟩
        (cond (Nat.ble k 214)
         ⟨214, Tryz.f214, [], 2, Tryz.func214, .mk' Tryz.func214 rfl (by decide)⟩
         ⟨215, Tryz.f215, [], 2, Tryz.func215, .mk' Tryz.func215 rfl (by decide)⟩))
       (cond (Nat.ble k 216)
        ⟨216, Tryz.f216, [], 2, Tryz.func216, .mk' Tryz.func216 rfl (by decide)⟩
        (cond (Nat.ble k 217)
         ⟨217, Tryz.f217, [], 2, Tryz.func217, .mk' Tryz.func217 rfl (by decide)⟩
         ⟨218, Tryz.f218, [], 2, Tryz.func218, .mk' Tryz.func218 rfl (by decide)⟩)))
      (cond (Nat.ble k 221)
       (cond (Nat.ble k 219)
        ⟨219, Tryz.f219, [], 2, Tryz.func219, .mk' Tryz.func219 rfl (by decide)⟩
        (cond (Nat.ble k 220)
         ⟨220, Tryz.f220, [], 2, Tryz.func220, .mk' Tryz.func220 rfl (by decide)⟩
         ⟨221, Tryz.f221, [], 2, Tryz.func221, .mk' Tryz.func221 rfl (by decide)⟩))
       (cond (Nat.ble k 222)
        ⟨222, Tryz.f222, [34, 75], 2, Tryz.func222, .mk' Tryz.func222 rfl (by decide)⟩
        (cond (Nat.ble k 223)
         ⟨223, Tryz.f223, [], 2, Tryz.func223, .mk' Tryz.func223 rfl (by decide)⟩
         ⟨224, Tryz.f224, [], 2, Tryz.func224, .mk' Tryz.func224 rfl (by decide)⟩)))))
    (cond (Nat.ble k 236)
     (cond (Nat.ble k 230)
      (cond (Nat.ble k 227)
       (cond (Nat.ble k 225)
        ⟨225, Tryz.f225, [], 2, Tryz.func225, .mk' Tryz.func225 rfl (by decide)⟩
        (cond (Nat.ble k 226)
         ⟨226, Tryz.f226, [], 2, Tryz.func226, .mk' Tryz.func226 rfl (by decide)⟩
         ⟨227, Tryz.f227, [], 2, Tryz.func227, .mk' Tryz.func227 rfl (by decide)⟩))
       (cond (Nat.ble k 228)
        ⟨228, Tryz.f228, [], 2, Tryz.func228, .mk' Tryz.func228 rfl (by decide)⟩
        (cond (Nat.ble k 229)
         ⟨229, Tryz.f229, [], 2, Tryz.func229, .mk' Tryz.func229 rfl (by decide)⟩
         ⟨230, Tryz.f230, [], 2, Tryz.func230, .mk' Tryz.func230 rfl (by decide)⟩)))
      (cond (Nat.ble k 233)
       (cond (Nat.ble k 231)
        ⟨231, Tryz.f231, [], 2, Tryz.func231, .mk' Tryz.func231 rfl (by decide)⟩
        (cond (Nat.ble k 232)
         ⟨232, Tryz.f232, [], 2, Tryz.func232, .mk' Tryz.func232 rfl (by decide)⟩
         ⟨233, Tryz.f233, [], 2, Tryz.func233, .mk' Tryz.func233 rfl (by decide)⟩))
       (cond (Nat.ble k 234)
        ⟨234, Tryz.f234, [], 2, Tryz.func234, .mk' Tryz.func234 rfl (by decide)⟩
        (cond (Nat.ble k 235)
         ⟨235, Tryz.f235, [], 2, Tryz.func235, .mk' Tryz.func235 rfl (by decide)⟩
         ⟨236, Tryz.f236, [], 2, Tryz.func236, .mk' Tryz.func236 rfl (by decide)⟩))))
     (cond (Nat.ble k 242)
      (cond (Nat.ble k 239)
       (cond (Nat.ble k 237)
        ⟨237, Tryz.f237, [], 2, Tryz.func237, .mk' Tryz.func237 rfl (by decide)⟩
        (cond (Nat.ble k 238)
         ⟨238, Tryz.f238, [], 2, Tryz.func238, .mk' Tryz.func238 rfl (by decide)⟩
         ⟨239, Tryz.f239, [], 2, Tryz.func239, .mk' Tryz.func239 rfl (by decide)⟩))
       (cond (Nat.ble k 240)
        ⟨240, Tryz.f240, [], 2, Tryz.func240, .mk' Tryz.func240 rfl (by decide)⟩
        (cond (Nat.ble k 241)
         ⟨241, Tryz.f241, [], 2, Tryz.func241, .mk' Tryz.func241 rfl (by decide)⟩
         ⟨242, Tryz.f242, [], 2, Tryz.func242, .mk' Tryz.func242 rfl (by decide)⟩)))
      (cond (Nat.ble k 245)
       (cond (Nat.ble k 243)
        ⟨243, Tryz.f243, [], 2, Tryz.func243, .mk' Tryz.func243 rfl (by decide)⟩
        (cond (Nat.ble k 244)
         ⟨244, Tryz.f244, [], 2, Tryz.func244, .mk' Tryz.func244 rfl (by decide)⟩
         ⟨245, Tryz.f245, [], 2, Tryz.func245, .mk' Tryz.func245 rfl (by decide)⟩))
       (cond (Nat.ble k 246)
        ⟨246, Tryz.f246, [], 2, Tryz.func246, .mk' Tryz.func246 rfl (by decide)⟩
        (cond (Nat.ble k 247)
         ⟨247, Tryz.f247, [], 2, Tryz.func247, .mk' Tryz.func247 rfl (by decide)⟩
         ⟨248, Tryz.f248, [], 2, Tryz.func248, .mk' Tryz.func248 rfl (by decide)⟩))))))
   (cond (Nat.ble k 272)
    (cond (Nat.ble k 260)
     (cond (Nat.ble k 254)
      (cond (Nat.ble k 251)
       (cond (Nat.ble k 249)
        ⟨249, Tryz.f249, [], 2, Tryz.func249, .mk' Tryz.func249 rfl (by decide)⟩
        (cond (Nat.ble k 250)
         ⟨250, Tryz.f250, [], 2, Tryz.func250, .mk' Tryz.func250 rfl (by decide)⟩
         ⟨251, Tryz.f251, [], 2, Tryz.func251, .mk' Tryz.func251 rfl (by decide)⟩))
       (cond (Nat.ble k 252)
        ⟨252, Tryz.f252, [], 2, Tryz.func252, .mk' Tryz.func252 rfl (by decide)⟩
        (cond (Nat.ble k 253)
         ⟨253, Tryz.f253, [], 1, Tryz.func253, .mk' Tryz.func253 rfl (by decide)⟩
         ⟨254, Tryz.f254, [], 2, Tryz.func254, .mk' Tryz.func254 rfl (by decide)⟩)))
      (cond (Nat.ble k 257)
       (cond (Nat.ble k 255)
        ⟨255, Tryz.f255, [20], 2, Tryz.func255, .mk' Tryz.func255 rfl (by decide)⟩
        (cond (Nat.ble k 256)
         ⟨256, Tryz.f256, [], 2, Tryz.func256, .mk' Tryz.func256 rfl (by decide)⟩
         ⟨257, Tryz.f257, [], 2, Tryz.func257, .mk' Tryz.func257 rfl (by decide)⟩))
       (cond (Nat.ble k 258)
        ⟨258, Tryz.f258, [], 2, Tryz.func258, .mk' Tryz.func258 rfl (by decide)⟩
        (cond (Nat.ble k 259)
         ⟨259, Tryz.f259, [], 2, Tryz.func259, .mk' Tryz.func259 rfl (by decide)⟩
         ⟨260, Tryz.f260, [], 2, Tryz.func260, .mk' Tryz.func260 rfl (by decide)⟩))))
     (cond (Nat.ble k 266)
      (cond (Nat.ble k 263)
       (cond (Nat.ble k 261)
        ⟨261, Tryz.f261, [], 2, Tryz.func261, .mk' Tryz.func261 rfl (by decide)⟩
        (cond (Nat.ble k 262)
         ⟨262, Tryz.f262, [], 2, Tryz.func262, .mk' Tryz.func262 rfl (by decide)⟩
         ⟨263, Tryz.f263, [], 2, Tryz.func263, .mk' Tryz.func263 rfl (by decide)⟩))
       (cond (Nat.ble k 264)
        ⟨264, Tryz.f264, [], 2, Tryz.func264, .mk' Tryz.func264 rfl (by decide)⟩
        (cond (Nat.ble k 265)
         ⟨265, Tryz.f265, [], 2, Tryz.func265, .mk' Tryz.func265 rfl (by decide)⟩
         ⟨266, Tryz.f266, [], 2, Tryz.func266, .mk' Tryz.func266 rfl (by decide)⟩)))
      (cond (Nat.ble k 269)
       (cond (Nat.ble k 267)
        ⟨267, Tryz.f267, [], 2, Tryz.func267, .mk' Tryz.func267 rfl (by decide)⟩
        (cond (Nat.ble k 268)
         ⟨268, Tryz.f268, [], 2, Tryz.func268, .mk' Tryz.func268 rfl (by decide)⟩
         ⟨269, Tryz.f269, [], 2, Tryz.func269, .mk' Tryz.func269 rfl (by decide)⟩))
       (cond (Nat.ble k 270)
        ⟨270, Tryz.f270, [], 2, Tryz.func270, .mk' Tryz.func270 rfl (by decide)⟩
        (cond (Nat.ble k 271)
         ⟨271, Tryz.f271, [], 2, Tryz.func271, .mk' Tryz.func271 rfl (by decide)⟩
         ⟨272, Tryz.f272, [], 2, Tryz.func272, .mk' Tryz.func272 rfl (by decide)⟩)))))
    (cond (Nat.ble k 284)
     (cond (Nat.ble k 278)
      (cond (Nat.ble k 275)
       (cond (Nat.ble k 273)
        ⟨273, Tryz.f273, [], 2, Tryz.func273, .mk' Tryz.func273 rfl (by decide)⟩
        (cond (Nat.ble k 274)
         ⟨274, Tryz.f274, [], 2, Tryz.func274, .mk' Tryz.func274 rfl (by decide)⟩
         ⟨275, Tryz.f275, [], 2, Tryz.func275, .mk' Tryz.func275 rfl (by decide)⟩))
       (cond (Nat.ble k 276)
        ⟨276, Tryz.f276, [16], 2, Tryz.func276, .mk' Tryz.func276 rfl (by decide)⟩
        (cond (Nat.ble k 277)
         ⟨277, Tryz.f277, [], 2, Tryz.func277, .mk' Tryz.func277 rfl (by decide)⟩
         ⟨278, Tryz.f278, [], 2, Tryz.func278, .mk' Tryz.func278 rfl (by decide)⟩)))
      (cond (Nat.ble k 281)
       (cond (Nat.ble k 279)
        ⟨279, Tryz.f279, [], 2, Tryz.func279, .mk' Tryz.func279 rfl (by decide)⟩
        (cond (Nat.ble k 280)
         ⟨280, Tryz.f280, [], 2, Tryz.func280, .mk' Tryz.func280 rfl (by decide)⟩
         ⟨281, Tryz.f281, [], 2, Tryz.func281, .mk' Tryz.func281 rfl (by decide)⟩))
       (cond (Nat.ble k 282)
        ⟨282, Tryz.f282, [], 2, Tryz.func282, .mk' Tryz.func282 rfl (by decide)⟩
        (cond (Nat.ble k 283)
         ⟨283, Tryz.f283, [], 2, Tryz.func283, .mk' Tryz.func283 rfl (by decide)⟩
         ⟨284, Tryz.f284, [], 2, Tryz.func284, .mk' Tryz.func284 rfl (by decide)⟩))))
     (cond (Nat.ble k 290)
      (cond (Nat.ble k 287)
       (cond (Nat.ble k 285)
        ⟨285, Tryz.f285, [], 2, Tryz.func285, .mk' Tryz.func285 rfl (by decide)⟩
        (cond (Nat.ble k 286)
         ⟨286, Tryz.f286, [], 2, Tryz.func286, .mk' Tryz.func286 rfl (by decide)⟩
         ⟨287, Tryz.f287, [], 2, Tryz.func287, .mk' Tryz.func287 rfl (by decide)⟩))
       (cond (Nat.ble k 288)
        ⟨288, Tryz.f288, [], 2, Tryz.func288, .mk' Tryz.func288 rfl (by decide)⟩
        (cond (Nat.ble k 289)
         ⟨289, Tryz.f289, [], 2, Tryz.func289, .mk' Tryz.func289 rfl (by decide)⟩
         ⟨290, Tryz.f290, [], 2, Tryz.func290, .mk' Tryz.func290 rfl (by decide)⟩)))
      (cond (Nat.ble k 293)
       (cond (Nat.ble k 291)
        ⟨291, Tryz.f291, [], 2, Tryz.func291, .mk' Tryz.func291 rfl (by decide)⟩
        (cond (Nat.ble k 292)
         ⟨292, Tryz.f292, [], 2, Tryz.func292, .mk' Tryz.func292 rfl (by decide)⟩
         ⟨293, Tryz.f293, [], 2, Tryz.func293, .mk' Tryz.func293 rfl (by decide)⟩))
       (cond (Nat.ble k 294)
        ⟨294, Tryz.f294, [], 2, Tryz.func294, .mk' Tryz.func294 rfl (by decide)⟩
        (cond (Nat.ble k 295)
         ⟨295, Tryz.f295, [], 2, Tryz.func295, .mk' Tryz.func295 rfl (by decide)⟩
         ⟨296, Tryz.f296, [], 2, Tryz.func296, .mk' Tryz.func296 rfl (by decide)⟩)))))))
  (cond (Nat.ble k 344)
   (cond (Nat.ble k 320)
    (cond (Nat.ble k 308)
     (cond (Nat.ble k 302)
      (cond (Nat.ble k 299)
       (cond (Nat.ble k 297)
        ⟨297, Tryz.f297, [], 2, Tryz.func297, .mk' Tryz.func297 rfl (by decide)⟩
        (cond (Nat.ble k 298)
         ⟨298, Tryz.f298, [], 2, Tryz.func298, .mk' Tryz.func298 rfl (by decide)⟩
         ⟨299, Tryz.f299, [], 2, Tryz.func299, .mk' Tryz.func299 rfl (by decide)⟩))
       (cond (Nat.ble k 300)
        ⟨300, Tryz.f300, [], 2, Tryz.func300, .mk' Tryz.func300 rfl (by decide)⟩
        (cond (Nat.ble k 301)
         ⟨301, Tryz.f301, [], 2, Tryz.func301, .mk' Tryz.func301 rfl (by decide)⟩
         ⟨302, Tryz.f302, [], 2, Tryz.func302, .mk' Tryz.func302 rfl (by decide)⟩)))
      (cond (Nat.ble k 305)
       (cond (Nat.ble k 303)
        ⟨303, Tryz.f303, [], 2, Tryz.func303, .mk' Tryz.func303 rfl (by decide)⟩
        (cond (Nat.ble k 304)
         ⟨304, Tryz.f304, [], 2, Tryz.func304, .mk' Tryz.func304 rfl (by decide)⟩
         ⟨305, Tryz.f305, [], 2, Tryz.func305, .mk' Tryz.func305 rfl (by decide)⟩))
       (cond (Nat.ble k 306)
        ⟨306, Tryz.f306, [], 2, Tryz.func306, .mk' Tryz.func306 rfl (by decide)⟩
        (cond (Nat.ble k 307)
         ⟨307, Tryz.f307, [], 2, Tryz.func307, .mk' Tryz.func307 rfl (by decide)⟩
         ⟨308, Tryz.f308, [], 2, Tryz.func308, .mk' Tryz.func308 rfl (by decide)⟩))))
     (cond (Nat.ble k 314)
      (cond (Nat.ble k 311)
       (cond (Nat.ble k 309)
        ⟨309, Tryz.f309, [], 2, Tryz.func309, .mk' Tryz.func309 rfl (by decide)⟩
        (cond (Nat.ble k 310)
         ⟨310, Tryz.f310, [], 2, Tryz.func310, .mk' Tryz.func310 rfl (by decide)⟩
         ⟨311, Tryz.f311, [], 2, Tryz.func311, .mk' Tryz.func311 rfl (by decide)⟩))
       (cond (Nat.ble k 312)
        ⟨312, Tryz.f312, [], 2, Tryz.func312, .mk' Tryz.func312 rfl (by decide)⟩
        (cond (Nat.ble k 313)
         ⟨313, Tryz.f313, [], 2, Tryz.func313, .mk' Tryz.func313 rfl (by decide)⟩
         ⟨314, Tryz.f314, [], 2, Tryz.func314, .mk' Tryz.func314 rfl (by decide)⟩)))
      (cond (Nat.ble k 317)
       (cond (Nat.ble k 315)
        ⟨315, Tryz.f315, [], 2, Tryz.func315, .mk' Tryz.func315 rfl (by decide)⟩
        (cond (Nat.ble k 316)
         ⟨316, Tryz.f316, [], 2, Tryz.func316, .mk' Tryz.func316 rfl (by decide)⟩
         ⟨317, Tryz.f317, [], 2, Tryz.func317, .mk' Tryz.func317 rfl (by decide)⟩))
       (cond (Nat.ble k 318)
        ⟨318, Tryz.f318, [], 2, Tryz.func318, .mk' Tryz.func318 rfl (by decide)⟩
        (cond (Nat.ble k 319)
         ⟨319, Tryz.f319, [], 2, Tryz.func319, .mk' Tryz.func319 rfl (by decide)⟩
         ⟨320, Tryz.f320, [], 2, Tryz.func320, .mk' Tryz.func320 rfl (by decide)⟩)))))
    (cond (Nat.ble k 332)
     (cond (Nat.ble k 326)
      (cond (Nat.ble k 323)
       (cond (Nat.ble k 321)
        ⟨321, Tryz.f321, [], 2, Tryz.func321, .mk' Tryz.func321 rfl (by decide)⟩
        (cond (Nat.ble k 322)
         ⟨322, Tryz.f322, [], 2, Tryz.func322, .mk' Tryz.func322 rfl (by decide)⟩
         ⟨323, Tryz.f323, [], 2, Tryz.func323, .mk' Tryz.func323 rfl (by decide)⟩))
       (cond (Nat.ble k 324)
        ⟨324, Tryz.f324, [], 2, Tryz.func324, .mk' Tryz.func324 rfl (by decide)⟩
        (cond (Nat.ble k 325)
         ⟨325, Tryz.f325, [], 2, Tryz.func325, .mk' Tryz.func325 rfl (by decide)⟩
         ⟨326, Tryz.f326, [], 2, Tryz.func326, .mk' Tryz.func326 rfl (by decide)⟩)))
      (cond (Nat.ble k 329)
       (cond (Nat.ble k 327)
        ⟨327, Tryz.f327, [], 2, Tryz.func327, .mk' Tryz.func327 rfl (by decide)⟩
        (cond (Nat.ble k 328)
         ⟨328, Tryz.f328, [], 2, Tryz.func328, .mk' Tryz.func328 rfl (by decide)⟩
         ⟨329, Tryz.f329, [], 2, Tryz.func329, .mk' Tryz.func329 rfl (by decide)⟩))
       (cond (Nat.ble k 330)
        ⟨330, Tryz.f330, [], 2, Tryz.func330, .mk' Tryz.func330 rfl (by decide)⟩
        (cond (Nat.ble k 331)
         ⟨331, Tryz.f331, [], 2, Tryz.func331, .mk' Tryz.func331 rfl (by decide)⟩
         ⟨332, Tryz.f332, [], 2, Tryz.func332, .mk' Tryz.func332 rfl (by decide)⟩))))
     (cond (Nat.ble k 338)
      (cond (Nat.ble k 335)
       (cond (Nat.ble k 333)
        ⟨333, Tryz.f333, [], 2, Tryz.func333, .mk' Tryz.func333 rfl (by decide)⟩
        (cond (Nat.ble k 334)
         ⟨334, Tryz.f334, [], 2, Tryz.func334, .mk' Tryz.func334 rfl (by decide)⟩
         ⟨335, Tryz.f335, [], 2, Tryz.func335, .mk' Tryz.func335 rfl (by decide)⟩))
       (cond (Nat.ble k 336)
        ⟨336, Tryz.f336, [], 2, Tryz.func336, .mk' Tryz.func336 rfl (by decide)⟩
        (cond (Nat.ble k 337)
         ⟨337, Tryz.f337, [], 2, Tryz.func337, .mk' Tryz.func337 rfl (by decide)⟩
         ⟨338, Tryz.f338, [], 2, Tryz.func338, .mk' Tryz.func338 rfl (by decide)⟩)))
      (cond (Nat.ble k 341)
       (cond (Nat.ble k 339)
        ⟨339, Tryz.f339, [], 2, Tryz.func339, .mk' Tryz.func339 rfl (by decide)⟩
        (cond (Nat.ble k 340)
         ⟨340, Tryz.f340, [], 2, Tryz.func340, .mk' Tryz.func340 rfl (by decide)⟩
         ⟨341, Tryz.f341, [], 2, Tryz.func341, .mk' Tryz.func341 rfl (by decide)⟩))
       (cond (Nat.ble k 342)
        ⟨342, Tryz.f342, [], 2, Tryz.func342, .mk' Tryz.func342 rfl (by decide)⟩
        (cond (Nat.ble k 343)
         ⟨343, Tryz.f343, [], 2, Tryz.func343, .mk' Tryz.func343 rfl (by decide)⟩
         ⟨344, Tryz.f344, [], 2, Tryz.func344, .mk' Tryz.func344 rfl (by decide)⟩))))))
   (cond (Nat.ble k 368)
    (cond (Nat.ble k 356)
     (cond (Nat.ble k 350)
      (cond (Nat.ble k 347)
       (cond (Nat.ble k 345)
        ⟨345, Tryz.f345, [], 2, Tryz.func345, .mk' Tryz.func345 rfl (by decide)⟩
        (cond (Nat.ble k 346)
         ⟨346, Tryz.f346, [], 2, Tryz.func346, .mk' Tryz.func346 rfl (by decide)⟩
         ⟨347, Tryz.f347, [], 2, Tryz.func347, .mk' Tryz.func347 rfl (by decide)⟩))
       (cond (Nat.ble k 348)
        ⟨348, Tryz.f348, [], 2, Tryz.func348, .mk' Tryz.func348 rfl (by decide)⟩
        (cond (Nat.ble k 349)
         ⟨349, Tryz.f349, [], 2, Tryz.func349, .mk' Tryz.func349 rfl (by decide)⟩
         ⟨350, Tryz.f350, [], 2, Tryz.func350, .mk' Tryz.func350 rfl (by decide)⟩)))
      (cond (Nat.ble k 353)
       (cond (Nat.ble k 351)
        ⟨351, Tryz.f351, [], 2, Tryz.func351, .mk' Tryz.func351 rfl (by decide)⟩
        (cond (Nat.ble k 352)
         ⟨352, Tryz.f352, [], 2, Tryz.func352, .mk' Tryz.func352 rfl (by decide)⟩
         ⟨353, Tryz.f353, [], 2, Tryz.func353, .mk' Tryz.func353 rfl (by decide)⟩))
       (cond (Nat.ble k 354)
        ⟨354, Tryz.f354, [], 2, Tryz.func354, .mk' Tryz.func354 rfl (by decide)⟩
        (cond (Nat.ble k 355)
         ⟨355, Tryz.f355, [], 2, Tryz.func355, .mk' Tryz.func355 rfl (by decide)⟩
         ⟨356, Tryz.f356, [], 2, Tryz.func356, .mk' Tryz.func356 rfl (by decide)⟩))))
     (cond (Nat.ble k 362)
      (cond (Nat.ble k 359)
       (cond (Nat.ble k 357)
        ⟨357, Tryz.f357, [], 2, Tryz.func357, .mk' Tryz.func357 rfl (by decide)⟩
        (cond (Nat.ble k 358)
         ⟨358, Tryz.f358, [], 2, Tryz.func358, .mk' Tryz.func358 rfl (by decide)⟩
         ⟨359, Tryz.f359, [], 2, Tryz.func359, .mk' Tryz.func359 rfl (by decide)⟩))
       (cond (Nat.ble k 360)
        ⟨360, Tryz.f360, [], 2, Tryz.func360, .mk' Tryz.func360 rfl (by decide)⟩
        (cond (Nat.ble k 361)
         ⟨361, Tryz.f361, [], 2, Tryz.func361, .mk' Tryz.func361 rfl (by decide)⟩
         ⟨362, Tryz.f362, [], 2, Tryz.func362, .mk' Tryz.func362 rfl (by decide)⟩)))
      (cond (Nat.ble k 365)
       (cond (Nat.ble k 363)
        ⟨363, Tryz.f363, [], 2, Tryz.func363, .mk' Tryz.func363 rfl (by decide)⟩
        (cond (Nat.ble k 364)
         ⟨364, Tryz.f364, [], 2, Tryz.func364, .mk' Tryz.func364 rfl (by decide)⟩
         ⟨365, Tryz.f365, [], 2, Tryz.func365, .mk' Tryz.func365 rfl (by decide)⟩))
       (cond (Nat.ble k 366)
        ⟨366, Tryz.f366, [], 2, Tryz.func366, .mk' Tryz.func366 rfl (by decide)⟩
        (cond (Nat.ble k 367)
         ⟨367, Tryz.f367, [], 2, Tryz.func367, .mk' Tryz.func367 rfl (by decide)⟩
         ⟨368, Tryz.f368, [], 2, Tryz.func368, .mk' Tryz.func368 rfl (by decide)⟩)))))
    (cond (Nat.ble k 380)
     (cond (Nat.ble k 374)
      (cond (Nat.ble k 371)
       (cond (Nat.ble k 369)
        ⟨369, Tryz.f369, [], 2, Tryz.func369, .mk' Tryz.func369 rfl (by decide)⟩
        (cond (Nat.ble k 370)
         ⟨370, Tryz.f370, [], 2, Tryz.func370, .mk' Tryz.func370 rfl (by decide)⟩
         ⟨371, Tryz.f371, [], 2, Tryz.func371, .mk' Tryz.func371 rfl (by decide)⟩))
       (cond (Nat.ble k 372)
        ⟨372, Tryz.f372, [], 2, Tryz.func372, .mk' Tryz.func372 rfl (by decide)⟩
        (cond (Nat.ble k 373)
         ⟨373, Tryz.f373, [], 2, Tryz.func373, .mk' Tryz.func373 rfl (by decide)⟩
         ⟨374, Tryz.f374, [], 2, Tryz.func374, .mk' Tryz.func374 rfl (by decide)⟩)))
      (cond (Nat.ble k 377)
       (cond (Nat.ble k 375)
        ⟨375, Tryz.f375, [], 2, Tryz.func375, .mk' Tryz.func375 rfl (by decide)⟩
        (cond (Nat.ble k 376)
         ⟨376, Tryz.f376, [], 2, Tryz.func376, .mk' Tryz.func376 rfl (by decide)⟩
         ⟨377, Tryz.f377, [], 2, Tryz.func377, .mk' Tryz.func377 rfl (by decide)⟩))
       (cond (Nat.ble k 378)
        ⟨378, Tryz.f378, [], 2, Tryz.func378, .mk' Tryz.func378 rfl (by decide)⟩
        (cond (Nat.ble k 379)
         ⟨379, Tryz.f379, [], 2, Tryz.func379, .mk' Tryz.func379 rfl (by decide)⟩
         ⟨380, Tryz.f380, [], 2, Tryz.func380, .mk' Tryz.func380 rfl (by decide)⟩))))
     (cond (Nat.ble k 386)
      (cond (Nat.ble k 383)
       (cond (Nat.ble k 381)
        ⟨381, Tryz.f381, [], 2, Tryz.func381, .mk' Tryz.func381 rfl (by decide)⟩
        (cond (Nat.ble k 382)
         ⟨382, Tryz.f382, [], 2, Tryz.func382, .mk' Tryz.func382 rfl (by decide)⟩
         ⟨383, Tryz.f383, [], 2, Tryz.func383, .mk' Tryz.func383 rfl (by decide)⟩))
       (cond (Nat.ble k 384)
        ⟨384, Tryz.f384, [], 2, Tryz.func384, .mk' Tryz.func384 rfl (by decide)⟩
        (cond (Nat.ble k 385)
         ⟨385, Tryz.f385, [], 2, Tryz.func385, .mk' Tryz.func385 rfl (by decide)⟩
         ⟨386, Tryz.f386, [], 2, Tryz.func386, .mk' Tryz.func386 rfl (by decide)⟩)))
      (cond (Nat.ble k 389)
       (cond (Nat.ble k 387)
        ⟨387, Tryz.f387, [], 2, Tryz.func387, .mk' Tryz.func387 rfl (by decide)⟩
        (cond (Nat.ble k 388)
         ⟨388, Tryz.f388, [], 2, Tryz.func388, .mk' Tryz.func388 rfl (by decide)⟩
         ⟨389, Tryz.f389, [], 2, Tryz.func389, .mk' Tryz.func389 rfl (by decide)⟩))
       (cond (Nat.ble k 390)
        ⟨390, Tryz.f390, [], 2, Tryz.func390, .mk' Tryz.func390 rfl (by decide)⟩
        (cond (Nat.ble k 391)
         ⟨391, Tryz.f391, [], 2, Tryz.func391, .mk' Tryz.func391 rfl (by decide)⟩
         ⟨392, Tryz.f392, [], 2, Tryz.func392, .mk' Tryz.func392 rfl (by decide)⟩)))))))))
def cs (k : Nat) : List Nat :=
 (cond (Nat.ble k 201)
 (cond (Nat.ble k 105)
  (cond (Nat.ble k 56)
   (cond (Nat.ble k 29)
    (cond (Nat.ble k 17)
     (cond (Nat.ble k 9)
      (cond (Nat.ble k 6)
       (cond (Nat.ble k 3)
        [6, 7, 8, 9, 10, 11, 12, 13]
        [16, 17, 18, 19])
       (cond (Nat.ble k 7)
        [20, 21]
        (cond (Nat.ble k 8)
         [20, 22]
         [20, 23])))
      (cond (Nat.ble k 12)
       (cond (Nat.ble k 10)
        []
        (cond (Nat.ble k 11)
         [24, 25, 26]
         [20, 27]))
       (cond (Nat.ble k 13)
        [28, 29, 30, 31]
        (cond (Nat.ble k 16)
         [20, 35, 36, 37, 38, 39, 40, 41, 42, 43]
         [20, 42]))))
     (cond (Nat.ble k 23)
      (cond (Nat.ble k 20)
       (cond (Nat.ble k 18)
        [17, 20, 23, 27]
        (cond (Nat.ble k 19)
         [20, 27, 44, 45, 46]
         []))
       (cond (Nat.ble k 21)
        [47, 48]
        (cond (Nat.ble k 22)
         [47, 49, 50]
         [47, 51, 52])))
      (cond (Nat.ble k 26)
       (cond (Nat.ble k 24)
        []
        (cond (Nat.ble k 25)
         [53]
         [54]))
       (cond (Nat.ble k 27)
        [47, 50, 55, 56, 57, 58, 59, 60]
        (cond (Nat.ble k 28)
         [61, 62, 63, 64, 65]
         [66, 67, 68])))))
    (cond (Nat.ble k 44)
     (cond (Nat.ble k 38)
      (cond (Nat.ble k 35)
       (cond (Nat.ble k 30)
        [69, 70, 71, 72, 73, 74]
        (cond (Nat.ble k 31)
         [22, 47, 75, 76, 77, 78, 79, 80]
         [83, 84, 85, 86, 87, 88, 89, 90]))
       (cond (Nat.ble k 36)
        []
        (cond (Nat.ble k 37)
         [27, 42, 91, 92, 93]
         [47, 94])))
      (cond (Nat.ble k 41)
       (cond (Nat.ble k 39)
        [27]
        (cond (Nat.ble k 40)
         [42, 50, 93, 95]
         [27, 42, 88]))
       (cond (Nat.ble k 42)
        [27, 31, 45, 68, 96, 97]
        (cond (Nat.ble k 43)
         [22, 27, 39, 50, 92, 93, 98]
         [99, 100, 101, 102, 103, 104]))))
     (cond (Nat.ble k 50)
      (cond (Nat.ble k 47)
       (cond (Nat.ble k 45)
        []
        (cond (Nat.ble k 46)
         [64, 65, 105, 106]
         []))
       (cond (Nat.ble k 48)
        [107, 108]
        (cond (Nat.ble k 49)
         [60, 109, 110, 111]
         [109])))
      (cond (Nat.ble k 53)
       (cond (Nat.ble k 51)
        [112]
        (cond (Nat.ble k 52)
         [60, 95]
         []))
       (cond (Nat.ble k 54)
        [113]
        (cond (Nat.ble k 55)
         [114]
         [114]))))))
   (cond (Nat.ble k 80)
    (cond (Nat.ble k 68)
     (cond (Nat.ble k 62)
      (cond (Nat.ble k 59)
       (cond (Nat.ble k 57)
        [114, 115]
        (cond (Nat.ble k 58)
         [114]
         [112]))
       (cond (Nat.ble k 60)
        [109]
        (cond (Nat.ble k 61)
         [69, 119, 120, 121]
         [82, 122])))
      (cond (Nat.ble k 65)
       (cond (Nat.ble k 63)
        [62, 105, 106]
        (cond (Nat.ble k 64)
         [123, 124]
         [100, 104, 125]))
       (cond (Nat.ble k 66)
        [126, 127, 128]
        (cond (Nat.ble k 67)
         [69, 73, 99, 120, 129, 130, 131, 132]
         [86, 127, 133, 134, 135, 136]))))
     (cond (Nat.ble k 74)
      (cond (Nat.ble k 71)
       (cond (Nat.ble k 69)
        []
        (cond (Nat.ble k 70)
         [71, 121, 137, 138]
         []))
       (cond (Nat.ble k 72)
        [70, 120, 129, 131, 132, 139, 140, 141]
        (cond (Nat.ble k 73)
         [71, 121, 137]
         [86, 139, 142, 143, 144, 145])))
      (cond (Nat.ble k 77)
       (cond (Nat.ble k 75)
        [79, 135, 146]
        (cond (Nat.ble k 76)
         [50, 86, 88, 95, 98, 143, 147, 148, 149, 150, 151, 152, 153, 154]
         [86, 136, 147]))
       (cond (Nat.ble k 78)
        [114]
        (cond (Nat.ble k 79)
         [60, 155]
         [51, 95, 108, 156])))))
    (cond (Nat.ble k 93)
     (cond (Nat.ble k 87)
      (cond (Nat.ble k 84)
       (cond (Nat.ble k 82)
        []
        (cond (Nat.ble k 83)
         []
         [83, 87, 90]))
       (cond (Nat.ble k 85)
        [86, 88, 98]
        (cond (Nat.ble k 86)
         [109, 157]
         [86, 88, 95, 143, 150, 158, 159, 160])))
      (cond (Nat.ble k 90)
       (cond (Nat.ble k 88)
        [161]
        (cond (Nat.ble k 89)
         [95, 143, 150]
         [162]))
       (cond (Nat.ble k 91)
        [47, 163]
        (cond (Nat.ble k 92)
         [50, 59, 111, 164]
         [47, 166]))))
     (cond (Nat.ble k 99)
      (cond (Nat.ble k 96)
       (cond (Nat.ble k 94)
        [114]
        (cond (Nat.ble k 95)
         [167, 168]
         [74, 100, 101, 102, 103, 104, 139, 169, 170]))
       (cond (Nat.ble k 97)
        [64, 125]
        (cond (Nat.ble k 98)
         [109, 168]
         [68])))
      (cond (Nat.ble k 102)
       (cond (Nat.ble k 100)
        [171, 172]
        (cond (Nat.ble k 101)
         [171]
         [100, 109]))
       (cond (Nat.ble k 103)
        [100, 169]
        (cond (Nat.ble k 104)
         []
         [62, 106])))))))
  (cond (Nat.ble k 153)
   (cond (Nat.ble k 129)
    (cond (Nat.ble k 117)
     (cond (Nat.ble k 111)
      (cond (Nat.ble k 108)
       (cond (Nat.ble k 106)
        [62, 82, 122, 173]
        (cond (Nat.ble k 107)
         [174, 175, 176]
         [112]))
       (cond (Nat.ble k 109)
        [177, 178]
        (cond (Nat.ble k 110)
         [179]
         [180])))
      (cond (Nat.ble k 114)
       (cond (Nat.ble k 112)
        [182, 183]
        (cond (Nat.ble k 113)
         []
         []))
       (cond (Nat.ble k 115)
        [185, 186]
        (cond (Nat.ble k 116)
         [117]
         [187]))))
     (cond (Nat.ble k 123)
      (cond (Nat.ble k 120)
       (cond (Nat.ble k 118)
        []
        (cond (Nat.ble k 119)
         [188]
         [71, 137, 138, 189]))
       (cond (Nat.ble k 121)
        [190]
        (cond (Nat.ble k 122)
         []
         [122, 173, 191])))
      (cond (Nat.ble k 126)
       (cond (Nat.ble k 124)
        [122, 173]
        (cond (Nat.ble k 125)
         [172, 192]
         []))
       (cond (Nat.ble k 127)
        []
        (cond (Nat.ble k 128)
         []
         [71, 120])))))
    (cond (Nat.ble k 141)
     (cond (Nat.ble k 135)
      (cond (Nat.ble k 132)
       (cond (Nat.ble k 130)
        [70, 71, 120, 129]
        (cond (Nat.ble k 131)
         [71, 86, 120, 137, 193]
         [71, 120, 137, 140, 150]))
       (cond (Nat.ble k 133)
        [126, 163]
        (cond (Nat.ble k 134)
         [86, 109, 143, 150, 158, 159, 160, 194]
         [155, 195])))
      (cond (Nat.ble k 138)
       (cond (Nat.ble k 136)
        [60, 148, 155, 195]
        (cond (Nat.ble k 137)
         []
         []))
       (cond (Nat.ble k 139)
        []
        (cond (Nat.ble k 140)
         [70, 71, 120, 137, 143, 196, 197, 198]
         [71, 87, 131, 132, 137]))))
     (cond (Nat.ble k 147)
      (cond (Nat.ble k 144)
       (cond (Nat.ble k 142)
        []
        (cond (Nat.ble k 143)
         [199, 200, 201, 202, 203]
         [204]))
       (cond (Nat.ble k 145)
        [87, 139, 205]
        (cond (Nat.ble k 146)
         [114, 163]
         [206])))
      (cond (Nat.ble k 150)
       (cond (Nat.ble k 148)
        [109, 207]
        (cond (Nat.ble k 149)
         [148, 208]
         [117, 209]))
       (cond (Nat.ble k 151)
        [210]
        (cond (Nat.ble k 152)
         [109, 211, 212]
         [148]))))))
   (cond (Nat.ble k 177)
    (cond (Nat.ble k 165)
     (cond (Nat.ble k 159)
      (cond (Nat.ble k 156)
       (cond (Nat.ble k 154)
        [95, 143, 149, 160, 194]
        (cond (Nat.ble k 155)
         []
         [213]))
       (cond (Nat.ble k 157)
        [214]
        (cond (Nat.ble k 158)
         [217]
         [218])))
      (cond (Nat.ble k 162)
       (cond (Nat.ble k 160)
        [219]
        (cond (Nat.ble k 161)
         [180]
         []))
       (cond (Nat.ble k 163)
        [57]
        (cond (Nat.ble k 164)
         [116, 150, 165, 181, 184, 215, 220, 221, 224, 235, 261, 273, 277, 312]
         [95]))))
     (cond (Nat.ble k 171)
      (cond (Nat.ble k 168)
       (cond (Nat.ble k 166)
        [109, 194]
        (cond (Nat.ble k 167)
         [222, 223]
         [178, 222]))
       (cond (Nat.ble k 169)
        [100, 101, 225, 226, 227]
        (cond (Nat.ble k 170)
         [102, 103]
         [])))
      (cond (Nat.ble k 174)
       (cond (Nat.ble k 172)
        [228, 229]
        (cond (Nat.ble k 173)
         [82]
         [186, 230]))
       (cond (Nat.ble k 175)
        []
        (cond (Nat.ble k 176)
         [231, 232, 233]
         [222, 234])))))
    (cond (Nat.ble k 189)
     (cond (Nat.ble k 183)
      (cond (Nat.ble k 180)
       (cond (Nat.ble k 178)
        []
        (cond (Nat.ble k 179)
         [186, 236]
         [116, 150, 165, 177, 178, 181, 184, 215, 220, 224, 235, 261, 273, 277, 312]))
       (cond (Nat.ble k 181)
        [222]
        (cond (Nat.ble k 182)
         []
         [186, 238])))
      (cond (Nat.ble k 186)
       (cond (Nat.ble k 184)
        [150]
        (cond (Nat.ble k 185)
         [116, 150, 165, 181, 184, 185, 215, 220, 224, 235, 239, 240, 241, 242, 243, 244, 245, 246, 261, 273, 277, 312]
         [247, 248]))
       (cond (Nat.ble k 187)
        []
        (cond (Nat.ble k 188)
         [125, 189, 249]
         []))))
     (cond (Nat.ble k 195)
      (cond (Nat.ble k 192)
       (cond (Nat.ble k 190)
        []
        (cond (Nat.ble k 191)
         [82]
         [250]))
       (cond (Nat.ble k 193)
        [120, 129, 137]
        (cond (Nat.ble k 194)
         [182]
         [])))
      (cond (Nat.ble k 198)
       (cond (Nat.ble k 196)
        [71, 120, 129, 137, 200]
        (cond (Nat.ble k 197)
         [71, 120, 121, 137, 138]
         [71, 120, 137, 150, 196]))
       (cond (Nat.ble k 199)
        [200, 251]
        (cond (Nat.ble k 200)
         []
         []))))))))
 (cond (Nat.ble k 296)
  (cond (Nat.ble k 248)
   (cond (Nat.ble k 224)
    (cond (Nat.ble k 212)
     (cond (Nat.ble k 206)
      (cond (Nat.ble k 203)
       (cond (Nat.ble k 202)
        []
        [150])
       (cond (Nat.ble k 204)
        [252]
        (cond (Nat.ble k 205)
         [143, 150]
         [114])))
      (cond (Nat.ble k 209)
       (cond (Nat.ble k 207)
        []
        (cond (Nat.ble k 208)
         [177, 200]
         [254]))
       (cond (Nat.ble k 210)
        [200]
        (cond (Nat.ble k 211)
         [222]
         [210, 255]))))
     (cond (Nat.ble k 218)
      (cond (Nat.ble k 215)
       (cond (Nat.ble k 213)
        [95, 182]
        (cond (Nat.ble k 214)
         [116, 150, 165, 181, 184, 215, 220, 224, 235, 261, 273, 277, 312]
         [216]))
       (cond (Nat.ble k 216)
        []
        (cond (Nat.ble k 217)
         [256]
         [95, 219])))
      (cond (Nat.ble k 221)
       (cond (Nat.ble k 219)
        [257, 258]
        (cond (Nat.ble k 220)
         [181, 259]
         [116, 150, 165, 181, 184, 215, 220, 224, 235, 261, 273, 277, 312]))
       (cond (Nat.ble k 222)
        [260]
        (cond (Nat.ble k 223)
         [116, 150, 165, 181, 184, 215, 220, 224, 235, 261, 273, 277, 312]
         [209])))))
    (cond (Nat.ble k 236)
     (cond (Nat.ble k 230)
      (cond (Nat.ble k 227)
       (cond (Nat.ble k 225)
        [100]
        (cond (Nat.ble k 226)
         [100, 171]
         [100, 200, 219, 225]))
       (cond (Nat.ble k 228)
        []
        (cond (Nat.ble k 229)
         []
         [230, 262, 263, 264, 265, 266, 267, 268, 269, 270])))
      (cond (Nat.ble k 233)
       (cond (Nat.ble k 231)
        [271, 272]
        (cond (Nat.ble k 232)
         []
         [274, 275, 276]))
       (cond (Nat.ble k 234)
        [186, 278]
        (cond (Nat.ble k 235)
         [117]
         [236, 279, 280, 281, 282, 283, 284, 285, 286, 287]))))
     (cond (Nat.ble k 242)
      (cond (Nat.ble k 239)
       (cond (Nat.ble k 237)
        []
        (cond (Nat.ble k 238)
         [116, 150, 165, 181, 184, 215, 220, 224, 235, 238, 261, 273, 277, 288, 289, 290, 291, 292, 293, 294, 295, 312]
         [116, 150, 165, 181, 184, 215, 220, 224, 235, 261, 273, 277, 312]))
       (cond (Nat.ble k 240)
        [296]
        (cond (Nat.ble k 241)
         [297, 298]
         [299, 300])))
      (cond (Nat.ble k 245)
       (cond (Nat.ble k 243)
        []
        (cond (Nat.ble k 244)
         [116, 150, 165, 181, 184, 215, 220, 224, 235, 261, 273, 277, 312]
         [116, 150, 165, 181, 184, 215, 220, 224, 235, 261, 273, 277, 312]))
       (cond (Nat.ble k 246)
        [116, 150, 165, 181, 184, 215, 220, 224, 235, 261, 273, 277, 312]
        (cond (Nat.ble k 247)
         []
         []))))))
   (cond (Nat.ble k 272)
    (cond (Nat.ble k 260)
     (cond (Nat.ble k 254)
      (cond (Nat.ble k 251)
       (cond (Nat.ble k 249)
        [301]
        (cond (Nat.ble k 250)
         []
         []))
       (cond (Nat.ble k 252)
        []
        (cond (Nat.ble k 253)
         []
         [])))
      (cond (Nat.ble k 257)
       (cond (Nat.ble k 255)
        [302]
        (cond (Nat.ble k 256)
         [303]
         [186, 304]))
       (cond (Nat.ble k 258)
        []
        (cond (Nat.ble k 259)
         [222]
         [186, 305]))))
     (cond (Nat.ble k 266)
      (cond (Nat.ble k 263)
       (cond (Nat.ble k 261)
        [209]
        (cond (Nat.ble k 262)
         [268]
         [306]))
       (cond (Nat.ble k 264)
        [297, 298]
        (cond (Nat.ble k 265)
         [307, 308]
         [])))
      (cond (Nat.ble k 269)
       (cond (Nat.ble k 267)
        [268]
        (cond (Nat.ble k 268)
         [254]
         [268]))
       (cond (Nat.ble k 270)
        [268]
        (cond (Nat.ble k 271)
         [309]
         [186, 310])))))
    (cond (Nat.ble k 284)
     (cond (Nat.ble k 278)
      (cond (Nat.ble k 275)
       (cond (Nat.ble k 273)
        [116, 150, 165, 181, 184, 215, 220, 224, 235, 261, 273, 277, 312]
        (cond (Nat.ble k 274)
         [311]
         [116, 150, 165, 181, 184, 215, 220, 224, 235, 261, 273, 277, 312, 314]))
       (cond (Nat.ble k 276)
        [315, 316]
        (cond (Nat.ble k 277)
         []
         [116, 150, 165, 181, 184, 215, 220, 224, 235, 261, 273, 277, 278, 312, 317, 318, 319, 320, 321, 322, 323, 324])))
      (cond (Nat.ble k 281)
       (cond (Nat.ble k 279)
        [285]
        (cond (Nat.ble k 280)
         [325]
         [297, 298]))
       (cond (Nat.ble k 282)
        [326, 327]
        (cond (Nat.ble k 283)
         []
         [285]))))
     (cond (Nat.ble k 290)
      (cond (Nat.ble k 287)
       (cond (Nat.ble k 285)
        [187]
        (cond (Nat.ble k 286)
         [285]
         [285]))
       (cond (Nat.ble k 288)
        [116, 150, 165, 181, 184, 215, 220, 224, 235, 261, 273, 277, 312]
        (cond (Nat.ble k 289)
         [328]
         [297, 298])))
      (cond (Nat.ble k 293)
       (cond (Nat.ble k 291)
        [329, 330]
        (cond (Nat.ble k 292)
         []
         [116, 150, 165, 181, 184, 215, 220, 224, 235, 261, 273, 277, 312]))
       (cond (Nat.ble k 294)
        [116, 150, 165, 181, 184, 215, 220, 224, 235, 261, 273, 277, 312]
        (cond (Nat.ble k 295)
         [116, 150, 165, 181, 184, 215, 220, 224, 235, 261, 273, 277, 312]
         [116, 150, 165, 181, 184, 215, 220, 224, 235, 261, 273, 277, 312])))))))
  (cond (Nat.ble k 344)
   (cond (Nat.ble k 320)
    (cond (Nat.ble k 308)
     (cond (Nat.ble k 302)
      (cond (Nat.ble k 299)
       (cond (Nat.ble k 297)
        [186]
        (cond (Nat.ble k 298)
         []
         [300]))
       (cond (Nat.ble k 300)
        [331]
        (cond (Nat.ble k 301)
         []
         [186, 304])))
      (cond (Nat.ble k 305)
       (cond (Nat.ble k 303)
        [332]
        (cond (Nat.ble k 304)
         [116, 150, 165, 181, 184, 215, 220, 224, 235, 261, 273, 277, 304, 312, 333, 334, 335, 336, 337, 338, 339, 340]
         [116, 150, 165, 181, 184, 215, 220, 224, 235, 261, 273, 277, 305, 312, 341, 342, 343, 344, 345, 346, 347, 348]))
       (cond (Nat.ble k 306)
        [268]
        (cond (Nat.ble k 307)
         [308]
         [349]))))
     (cond (Nat.ble k 314)
      (cond (Nat.ble k 311)
       (cond (Nat.ble k 309)
        []
        (cond (Nat.ble k 310)
         [310, 350, 351, 352, 353, 354, 355, 356, 357, 358]
         [116, 150, 165, 181, 184, 215, 220, 224, 235, 261, 273, 277, 312]))
       (cond (Nat.ble k 312)
        [117, 209, 313]
        (cond (Nat.ble k 313)
         []
         [116, 150, 165, 181, 184, 215, 220, 224, 235, 261, 273, 277, 312])))
      (cond (Nat.ble k 317)
       (cond (Nat.ble k 315)
        [186, 359]
        (cond (Nat.ble k 316)
         []
         [116, 150, 165, 181, 184, 215, 220, 224, 235, 261, 273, 277, 312]))
       (cond (Nat.ble k 318)
        [360]
        (cond (Nat.ble k 319)
         [297, 298]
         [361, 362])))))
    (cond (Nat.ble k 332)
     (cond (Nat.ble k 326)
      (cond (Nat.ble k 323)
       (cond (Nat.ble k 321)
        []
        (cond (Nat.ble k 322)
         [116, 150, 165, 181, 184, 215, 220, 224, 235, 261, 273, 277, 312]
         [116, 150, 165, 181, 184, 215, 220, 224, 235, 261, 273, 277, 312]))
       (cond (Nat.ble k 324)
        [116, 150, 165, 181, 184, 215, 220, 224, 235, 261, 273, 277, 312]
        (cond (Nat.ble k 325)
         [285]
         [327])))
      (cond (Nat.ble k 329)
       (cond (Nat.ble k 327)
        [363]
        (cond (Nat.ble k 328)
         [116, 150, 165, 181, 184, 215, 220, 224, 235, 261, 273, 277, 312]
         [330]))
       (cond (Nat.ble k 330)
        [364]
        (cond (Nat.ble k 331)
         [116, 150, 165, 181, 184, 215, 220, 224, 235, 261, 273, 277, 312]
         []))))
     (cond (Nat.ble k 338)
      (cond (Nat.ble k 335)
       (cond (Nat.ble k 333)
        [116, 150, 165, 181, 184, 215, 220, 224, 235, 261, 273, 277, 312]
        (cond (Nat.ble k 334)
         [365]
         [297, 298]))
       (cond (Nat.ble k 336)
        [366, 367]
        (cond (Nat.ble k 337)
         []
         [116, 150, 165, 181, 184, 215, 220, 224, 235, 261, 273, 277, 312])))
      (cond (Nat.ble k 341)
       (cond (Nat.ble k 339)
        [116, 150, 165, 181, 184, 215, 220, 224, 235, 261, 273, 277, 312]
        (cond (Nat.ble k 340)
         [116, 150, 165, 181, 184, 215, 220, 224, 235, 261, 273, 277, 312]
         [116, 150, 165, 181, 184, 215, 220, 224, 235, 261, 273, 277, 312]))
       (cond (Nat.ble k 342)
        [368]
        (cond (Nat.ble k 343)
         [297, 298]
         [369, 370]))))))
   (cond (Nat.ble k 368)
    (cond (Nat.ble k 356)
     (cond (Nat.ble k 350)
      (cond (Nat.ble k 347)
       (cond (Nat.ble k 345)
        []
        (cond (Nat.ble k 346)
         [116, 150, 165, 181, 184, 215, 220, 224, 235, 261, 273, 277, 312]
         [116, 150, 165, 181, 184, 215, 220, 224, 235, 261, 273, 277, 312]))
       (cond (Nat.ble k 348)
        [116, 150, 165, 181, 184, 215, 220, 224, 235, 261, 273, 277, 312]
        (cond (Nat.ble k 349)
         [268]
         [356])))
      (cond (Nat.ble k 353)
       (cond (Nat.ble k 351)
        [371]
        (cond (Nat.ble k 352)
         [297, 298]
         [372, 373]))
       (cond (Nat.ble k 354)
        []
        (cond (Nat.ble k 355)
         [356]
         [374]))))
     (cond (Nat.ble k 362)
      (cond (Nat.ble k 359)
       (cond (Nat.ble k 357)
        [356]
        (cond (Nat.ble k 358)
         [356]
         [359, 375, 376, 377, 378, 379, 380, 381, 382, 383]))
       (cond (Nat.ble k 360)
        [116, 150, 165, 181, 184, 215, 220, 224, 235, 261, 273, 277, 312]
        (cond (Nat.ble k 361)
         [362]
         [384])))
      (cond (Nat.ble k 365)
       (cond (Nat.ble k 363)
        [285]
        (cond (Nat.ble k 364)
         [116, 150, 165, 181, 184, 215, 220, 224, 235, 261, 273, 277, 312]
         [116, 150, 165, 181, 184, 215, 220, 224, 235, 261, 273, 277, 312]))
       (cond (Nat.ble k 366)
        [367]
        (cond (Nat.ble k 367)
         [385]
         [116, 150, 165, 181, 184, 215, 220, 224, 235, 261, 273, 277, 312])))))
    (cond (Nat.ble k 380)
     (cond (Nat.ble k 374)
      (cond (Nat.ble k 371)
       (cond (Nat.ble k 369)
        [370]
        (cond (Nat.ble k 370)
         [386]
         [356]))
       (cond (Nat.ble k 372)
        [373]
        (cond (Nat.ble k 373)
         [387]
         [])))
      (cond (Nat.ble k 377)
       (cond (Nat.ble k 375)
        [381]
        (cond (Nat.ble k 376)
         [388]
         [297, 298]))
       (cond (Nat.ble k 378)
        [389, 390]
        (cond (Nat.ble k 379)
         []
         [381]))))
     (cond (Nat.ble k 386)
      (cond (Nat.ble k 383)
       (cond (Nat.ble k 381)
        [391]
        (cond (Nat.ble k 382)
         [381]
         [381]))
       (cond (Nat.ble k 384)
        [116, 150, 165, 181, 184, 215, 220, 224, 235, 261, 273, 277, 312]
        (cond (Nat.ble k 385)
         [116, 150, 165, 181, 184, 215, 220, 224, 235, 261, 273, 277, 312]
         [116, 150, 165, 181, 184, 215, 220, 224, 235, 261, 273, 277, 312])))
      (cond (Nat.ble k 389)
       (cond (Nat.ble k 387)
        [356]
        (cond (Nat.ble k 388)
         [381]
         [390]))
       (cond (Nat.ble k 390)
        [392]
        (cond (Nat.ble k 391)
         []
         [381])))))))))
def grow253_ren : Go.Shelf.Ren := ⟨fun | 4 => 253 | n => n, fun | 20 => 20 | 22 => 25 | 25 => 120 | n => n, fun n => n⟩
theorem grow253 : Lays8.n4 Tryz.prog grow253_ren := {
  mixed := mixed
  f4 := ⟨Tryz.f253.name, by decide, Tryz.func253.trans (congrArg some (by kernel_rfl))⟩
  t0 := Tryz.underlying0
  a0 := Tryz.isAgg0
  z0 := Tryz.sizeOf0
  v0 := Tryz.zeroValue0
  t3 := Tryz.underlying3
  a3 := Tryz.isAgg3
  z3 := Tryz.sizeOf3
  v3 := Tryz.zeroValue3
  t4 := Tryz.underlying4
  a4 := Tryz.isAgg4
  z4 := Tryz.sizeOf4
  v4 := Tryz.zeroValue4
  t9 := Tryz.underlying9
  a9 := Tryz.isAgg9
  z9 := Tryz.sizeOf9
  v9 := Tryz.zeroValue9
  t20 := Tryz.underlying20
  a20 := Tryz.isAgg20
  z20 := Tryz.sizeOf20
  v20 := Tryz.zeroValue20
  t22 := Tryz.underlying25
  a22 := Tryz.isAgg25
  z22 := Tryz.sizeOf25
  v22 := Tryz.zeroValue25
}
@[reducible] def tDot : Ty := (.pair (.int .u16) (.int .u64))
@[reducible] def tRun : Ty := (.pair (.int .u64) (.int .u64))
@[reducible] def tPart : Ty := (.pair (.int .u16) (.sl tRun))
@[reducible] def tEvent : Ty := (.pair tDot (.pair .u8 (.pair (.int .u64) (.pair .u8 (.pair .str (.sl tDot))))))
@[reducible] def tDelta : Ty := (.pair (.sl tPart) (.pair (.sl tPart) (.sl tEvent)))
@[reducible] def tMsg : Ty := (.pair .u8 (.pair .u8 (.pair (.int .u64) (.pair (.int .u16) (.pair (.int .u64) (.pair .u8 (.pair (.sl tPart) (.pair (.sl tPart) tDelta))))))))
@[reducible] def tepitaphlaw35Act : Ty := (.pair .u8 (.pair (.int .u16) (.pair (.int .i64) (.pair .bool tMsg))))
theorem Clone_118 : SndA (NewS Tryz.prog 118 (.int .u64)) [.d (.sl (.int .u64))] (cloneF (.int .u64) 8) [] := clone_sound (own := [5, 7]) (N := 10) (an := .lf) mixed Tryz.func118 rfl (fun y r => by kernel_rfl) (by kernel_rfl) (fun a cap => by kernel_rfl)
theorem Clone_237 : SndA (NewS Tryz.prog 237 tDot) [.d (.sl tDot)] (cloneF tDot 16) [] := clone_sound (own := [5, 7]) (N := 10) (an := .lf) mixed Tryz.func237 rfl (fun y r => by kernel_rfl) (by kernel_rfl) (fun a cap => by kernel_rfl)
noncomputable def base : List (Ent Tryz.prog) := [mkGrow grow253 (.mk' Tryz.func253 rfl (by decide)), altEnt (mkEnt 118 [(.sl (.int .u64))] [(.sl (.int .u64))] (cloneD (.int .u64) 8) (.mk' Tryz.func118 rfl (by decide)) (cloneD_sound Clone_118)) (mkInl mixed [] [] 10 ⟨118, Tryz.f118, [], 0, Tryz.func118, .mk' Tryz.func118 rfl (by decide)⟩) rfl, mkEnt 237 [(.sl tDot)] [(.sl tDot)] (cloneD tDot 16) (.mk' Tryz.func237 rfl (by decide)) (cloneD_sound Clone_237), Xq.e_F1, mkConst 5 Xw.gids Xw.ys (.d (.b true)) (.mk' Tryz.func5 rfl (by decide)) Xw.D_law rfl rfl]
def gids : List Nat := [0, 1]
def T0 : List Int := [0, 16, 192, 76, 32, 0, 2, 3, 292, 36, 4]
def T1 : List Int := [0, 498536548, 997073096, 651767980, 1994146192, 1802195444, 1303535960, 1342533948, 3988292384, 4027552580, 3604390888, 3412177804, 2607071920, 2262029012, 2685067896, 3183342108]
def ys : List XV := [.d (.pa (.int .i64) T0), .d (.pa (.int .u32) T1)]
noncomputable def law : FI Tryz.prog := ⟨3, Tryz.f3, [], 0, Tryz.func3, .mk' Tryz.func3 rfl (by decide)⟩
theorem qT (a : tepitaphlaw35Act.T) : runQ Tryz.prog (inlE mixed base gids 200 tb cs 40 law.id) law 200 [(13, true)] gids [.d (tepitaphlaw35Act.xv a)] ys = some ([.d (.b true)], [], [], true, [((Xq.fewA a == 0 : Bool), true)]) := by kernel_rfl
theorem q0 (c n : Int) (b : Bool) (m : tMsg.T) : runQ Tryz.prog (inlE mixed base gids 200 tb cs 40 law.id) law 200 [(13, false)] gids [.d (tepitaphlaw35Act.xv (⟨⟨0, by decide⟩⟩, c, n, b, m))] ys = some ([.d (.b true)], [], [], true, [((Xq.fewA (⟨⟨0, by decide⟩⟩, c, n, b, m) == 0 : Bool), false)]) := by kernel_rfl
theorem q1 (c n : Int) (b : Bool) (m : tMsg.T) : runQ Tryz.prog (inlE mixed base gids 200 tb cs 40 law.id) law 200 [(13, false)] gids [.d (tepitaphlaw35Act.xv (⟨⟨1, by decide⟩⟩, c, n, b, m))] ys = some ([.d (.b true)], [], [], true, [((Xq.fewA (⟨⟨1, by decide⟩⟩, c, n, b, m) == 0 : Bool), false)]) := by kernel_rfl
theorem q2 (c n : Int) (b : Bool) (m : tMsg.T) : runQ Tryz.prog (inlE mixed base gids 200 tb cs 40 law.id) law 200 [(13, false)] gids [.d (tepitaphlaw35Act.xv (⟨⟨2, by decide⟩⟩, c, n, b, m))] ys = some ([.d (.b true)], [], [], true, [((Xq.fewA (⟨⟨2, by decide⟩⟩, c, n, b, m) == 0 : Bool), false)]) := by kernel_rfl
theorem q3 (c n : Int) (b : Bool) (m : tMsg.T) : runQ Tryz.prog (inlE mixed base gids 200 tb cs 40 law.id) law 200 [(13, false)] gids [.d (tepitaphlaw35Act.xv (⟨⟨3, by decide⟩⟩, c, n, b, m))] ys = some ([.d (.b true)], [], [], true, [((Xq.fewA (⟨⟨3, by decide⟩⟩, c, n, b, m) == 0 : Bool), false)]) := by kernel_rfl
theorem q4 (c n : Int) (b : Bool) (m : tMsg.T) : runQ Tryz.prog (inlE mixed base gids 200 tb cs 40 law.id) law 200 [(13, false)] gids [.d (tepitaphlaw35Act.xv (⟨⟨4, by decide⟩⟩, c, n, b, m))] ys = some ([.d (.b true)], [], [], true, [((Xq.fewA (⟨⟨4, by decide⟩⟩, c, n, b, m) == 0 : Bool), false)]) := by kernel_rfl
theorem q5 (c n : Int) (b : Bool) (m : tMsg.T) : runQ Tryz.prog (inlE mixed base gids 200 tb cs 40 law.id) law 200 [(13, false)] gids [.d (tepitaphlaw35Act.xv (⟨⟨5, by decide⟩⟩, c, n, b, m))] ys = some ([.d (.b true)], [], [], true, [((Xq.fewA (⟨⟨5, by decide⟩⟩, c, n, b, m) == 0 : Bool), false)]) := by kernel_rfl
theorem q6 (c n : Int) (b : Bool) (m : tMsg.T) : runQ Tryz.prog (inlE mixed base gids 200 tb cs 40 law.id) law 200 [(13, false)] gids [.d (tepitaphlaw35Act.xv (⟨⟨6, by decide⟩⟩, c, n, b, m))] ys = some ([.d (.b true)], [], [], true, [((Xq.fewA (⟨⟨6, by decide⟩⟩, c, n, b, m) == 0 : Bool), false)]) := by kernel_rfl
theorem q7 (c n : Int) (b : Bool) (m : tMsg.T) : runQ Tryz.prog (inlE mixed base gids 200 tb cs 40 law.id) law 200 [(13, false)] gids [.d (tepitaphlaw35Act.xv (⟨⟨7, by decide⟩⟩, c, n, b, m))] ys = some ([.d (.b true)], [], [], true, [((Xq.fewA (⟨⟨7, by decide⟩⟩, c, n, b, m) == 0 : Bool), false)]) := by kernel_rfl
theorem q8 (c n : Int) (b : Bool) (m : tMsg.T) : runQ Tryz.prog (inlE mixed base gids 200 tb cs 40 law.id) law 200 [(13, false)] gids [.d (tepitaphlaw35Act.xv (⟨⟨8, by decide⟩⟩, c, n, b, m))] ys = some ([.d (.b true)], [], [], true, [((Xq.fewA (⟨⟨8, by decide⟩⟩, c, n, b, m) == 0 : Bool), false)]) := by kernel_rfl
theorem qn (j : Nat) (h : j + 9 < 2 ^ 8) (c n : Int) (b : Bool) (m : tMsg.T) : runQ Tryz.prog (inlE mixed base gids 200 tb cs 40 law.id) law 200 [(13, false)] gids [.d (tepitaphlaw35Act.xv (⟨⟨j + 9, h⟩⟩, c, n, b, m))] ys = some ([.d (.b true)], [], [], true, [((Xq.fewA (⟨⟨j + 9, h⟩⟩, c, n, b, m) == 0 : Bool), false)]) := by kernel_rfl
theorem D_law (a : tepitaphlaw35Act.T) : DoesG Tryz.prog 3 (asOf [.d (tepitaphlaw35Act.xv a)]) (gids.zip (asOf ys)) (.d (.sc (.bool true))) := by
  cases hb : (Xq.fewA a == 0 : Bool) with
  | true => exact runQ_sound mixed (qT a) ⟨hb, trivial⟩
  | false =>
    obtain ⟨⟨⟨m, hm⟩⟩, c, n, b, ms⟩ := a
    match m, hm, hb with
    | 0, _, hb => exact runQ_sound mixed (q0 c n b ms) ⟨hb, trivial⟩
    | 1, _, hb => exact runQ_sound mixed (q1 c n b ms) ⟨hb, trivial⟩
    | 2, _, hb => exact runQ_sound mixed (q2 c n b ms) ⟨hb, trivial⟩
    | 3, _, hb => exact runQ_sound mixed (q3 c n b ms) ⟨hb, trivial⟩
    | 4, _, hb => exact runQ_sound mixed (q4 c n b ms) ⟨hb, trivial⟩
    | 5, _, hb => exact runQ_sound mixed (q5 c n b ms) ⟨hb, trivial⟩
    | 6, _, hb => exact runQ_sound mixed (q6 c n b ms) ⟨hb, trivial⟩
    | 7, _, hb => exact runQ_sound mixed (q7 c n b ms) ⟨hb, trivial⟩
    | 8, _, hb => exact runQ_sound mixed (q8 c n b ms) ⟨hb, trivial⟩
    | j + 9, h, hb => exact runQ_sound mixed (qn j h c n b ms) ⟨hb, trivial⟩
end Go.Proofs.Xz
set_option linter.unusedVariables false
set_option linter.unusedSimpArgs false
namespace Go.Ab
open Go.RowKit
def fullγ (w : World) (b : Nat) : Nat :=
  match w.heap[b]? with
  | some (.cells c _ _) => c.size
  | _ => 0
def full (w : World) : Gh := { γ := fullγ w, β := fun _ => none, ρ := fun _ => 0 }
theorem full_hr (w : World) : HR [] (Base.of (full w) w X0) (full w) w X0 := by
  refine ⟨by simp, ?_, Nat.le_refl _, ⟨rfl, rfl, rfl, Nat.le_refl _⟩, .refl _ _, fun _ _ _ => ⟨rfl, rfl⟩, by simp [X0], by simp [X0], by simp [X0], by simp [X0], by simp [X0, full], by simp [full], by simp [full], by simp [full], by simp [full], .off fun _ => rfl⟩
  intro b i hi
  simp only [full, fullγ] at hi
  split at hi
  · rename_i c T fr h
    rw [cell?_cells h]
    simp [hi]
  · omega
theorem Does.below {P : Program} {f : FuncId} {args : List AV} {res : AV} (h : Does P f args X0 res X0) {w : World} {vs : Array Value} (hl : args.length = vs.size)
    (ha : ∀ (i : Nat) x v, args[i]? = some x → vs[i]? = some v → RA (full w) w x v) :
    Calls P f vs w fun e w' => ∃ v g', e = .returned v ∧ RA g' w' res v ∧ Below w.heap.size w w' := by
  refine (h (full w) w vs (full_hr w) hl ha).mono ?_
  rintro e w' ⟨g', v, rfl, hr, h1⟩
  refine ⟨v, g', rfl, hr, ⟨h1.io.1, h1.io.2.2.1, h1.io.2.1, h1.base, fun b hb => (h1.frame b hb ?_).1⟩⟩
  rintro (⟨k, o, hk, _⟩ | ⟨n, hn⟩)
  · simp [X0] at hk
  · simp [full] at hn
theorem Does.law {P : Program} {f : FuncId} {args : List AV} (h : Does P f args X0 (.d (.sc (.bool true))) X0) {w : World} {vs : Array Value} (hl : args.length = vs.size)
    (ha : ∀ (i : Nat) x v, args[i]? = some x → vs[i]? = some v → RA (full w) w x v) :
    Calls P f vs w fun e w' => e = .returned (.bool true) ∧ Below w.heap.size w w' := by
  refine (h.below hl ha).mono ?_
  rintro e w' ⟨v, g', rfl, hr, hb⟩
  exact ⟨by rw [hr.sc_inv], hb⟩
inductive RAs (g : Gh) (w : World) : List AV → List Value → Prop
  | nil : RAs g w [] []
  | cons {x : AV} {v : Value} {r : List AV} {rs : List Value} : RA g w x v → RAs g w r rs → RAs g w (x :: r) (v :: rs)
theorem RAs.get {g : Gh} {w : World} {l : List AV} {vs : List Value} (h : RAs g w l vs) : l.length = vs.length ∧ ∀ (i : Nat) x v, l[i]? = some x → vs[i]? = some v → RA g w x v := by
  induction h with
  | nil => exact ⟨rfl, by simp⟩
  | cons h _ ih =>
    refine ⟨by simp [ih.1], ?_⟩
    intro i x u hx hu
    cases i with
    | zero => simp at hx hu; subst hx; subst hu; exact h
    | succ i => exact ih.2 i x u (by simpa using hx) (by simpa using hu)
theorem Does.lawAs {P : Program} {f : FuncId} {args : List AV} (h : Does P f args X0 (.d (.sc (.bool true))) X0) {w : World} {vs : Array Value} (ha : RAs (full w) w args vs.toList) :
    Calls P f vs w fun e w' => e = .returned (.bool true) ∧ Below w.heap.size w w' :=
  h.law (by have := ha.get.1; simpa using this) fun i x v hx hv => ha.get.2 i x v hx (by simpa using hv)
theorem fullγ_cell {w : World} {b i : Nat} {v : Value} (h : w.cell? ⟨b, i, none⟩ = some v) : i < fullγ w b := by
  unfold World.cell? at h
  unfold fullγ
  simp only at h
  split at h
  · rename_i c T fr hh
    rw [hh]
    simp at h
    exact (Array.getElem?_eq_some_iff.1 h).1
  · cases h
end Go.Ab
set_option linter.unusedVariables false
set_option linter.unusedSimpArgs false
namespace Go.Xl
open Go.Ab
noncomputable def Ty.In : (t : Ty) → t.T → Prop
  | .int k, n => (Lit.int k n).wf = true
  | .u8, _ => True
  | .bool, _ => True
  | .str, l => l.length ≤ maxLen
  | .sl a, l => l.length ≤ maxLen ∧ ∀ x ∈ l, a.In x
  | .unit, _ => True
  | .pair a b, x => a.In x.1 ∧ b.In x.2
  | .st1 a, x => a.In x
  | .tab _, _ => True
  | .err, _ => True
  | .ic _ _, _ => True
  | .ptr, _ => True
noncomputable def opFs (P : Program) (rec : TypeId → Ty → Bool) : Nat → List Field → Ty → Bool
  | off, [f], .st1 a => cond (Nat.beq f.offset off) (cond (Nat.beq (P.cellsOf f.type) a.size) (rec f.type a) false) false
  | off, [f, g], .pair a b => cond (Nat.beq f.offset off) (cond (Nat.beq (P.cellsOf f.type) a.size) (cond (rec f.type a) (cond (Nat.beq g.offset (off + a.size)) (cond (Nat.beq (P.cellsOf g.type) b.size) (rec g.type b) false) false) false) false) false
  | off, f :: g :: h :: r, .pair a b => cond (Nat.beq f.offset off) (cond (Nat.beq (P.cellsOf f.type) a.size) (cond (rec f.type a) (opFs P rec (off + a.size) (g :: h :: r) b) false) false) false
  | _, _, _ => false
noncomputable def opB (P : Program) : Nat → TypeId → Ty → Bool
  | 0, _, _ => false
  | n + 1, t, ty =>
    match P.underlying t, ty with
    | some (.int k), .int k' => cond (kindB k k') true false
    | some (.int .u8), .u8 => true
    | some .bool, .bool => true
    | some .string, .str => true
    | some (.slice e), .sl a => cond (Nat.beq (P.cellsOf e) a.size) (cond (Nat.ble 1 a.size) (opB P n e a) false) false
    | some (.struct fs), a => cond a.agg (cond (Nat.beq (P.cellsOf t) a.size) (opFs P (opB P n) 0 fs.toList a) false) false
    | _, _ => false
noncomputable def CellsD (γ : Nat → Nat) (w : World) (ds : List D) (cs : List Value) : Prop := ds.length = cs.length ∧ ∀ (i : Nat) d v, ds[i]? = some d → cs[i]? = some v → RD γ w d v
theorem CellsD.one {γ : Nat → Nat} {w : World} {d : D} {v : Value} (h : RD γ w d v) : CellsD γ w [d] [v] := by
  refine ⟨rfl, fun i e u he hu => ?_⟩
  cases i with
  | zero => simp at he hu; subst he; subst hu; exact h
  | succ i => simp at he
theorem CellsD.append {γ : Nat → Nat} {w : World} {a b : List D} {cs ds : List Value} (h : CellsD γ w a cs) (h' : CellsD γ w b ds) : CellsD γ w (a ++ b) (cs ++ ds) := by
  refine ⟨by simp [h.1, h'.1], fun i e u he hu => ?_⟩
  rw [List.getElem?_append] at he hu
  rw [← h.1] at hu
  split at he
  · rename_i hlt
    rw [if_pos hlt] at hu
    exact h.2 i e u he hu
  · rename_i hge
    rw [if_neg hge] at hu
    exact h'.2 _ e u he hu
theorem cT {a b : Bool} (h : cond a b false = true) : a = true ∧ b = true := by
  cases a <;> simp at h; exact ⟨rfl, h⟩
section
variable {H : Type} {enc : TypeId × Value → H} {P : Program} {W : World}
noncomputable def OpR (P : Program) (W : World) (H : Type) (enc : TypeId × Value → H) (fuel : Nat) (rec : TypeId → Ty → Bool) : Prop :=
  ∀ (t : TypeId) (ty : Ty) (cs : List Value) (d : DataW H) (ps : List MemPlace), rec t ty = true → DataW.trod enc P W 0 (fun _ => true) true fuel t cs = some (d, ps) →
    ∃ x : ty.T, ty.In x ∧ CellsD (fullγ W) W (ty.ds x) cs
theorem take_split {α : Type} (l : List α) (off a b : Nat) : (l.drop off).take (a + b) = (l.drop off).take a ++ (l.drop (off + a)).take b := by
  rw [List.take_add, List.drop_drop]
theorem open_fs {fuel : Nat} {rec : TypeId → Ty → Bool} (hr : OpR P W H enc fuel rec) {cs : List Value} : ∀ (fs : List Field) (off : Nat) (ty : Ty), opFs P rec off fs ty = true →
    (∀ f ∈ fs, ∃ y, DataW.trod enc P W 0 (fun _ => true) true fuel f.type ((cs.drop f.offset).take (P.cellsOf f.type)) = some y) →
    ∃ x : ty.T, ty.In x ∧ CellsD (fullγ W) W (ty.ds x) ((cs.drop off).take ty.size)
  | [], off, ty, h, hf => by cases ty <;> simp [opFs] at h
  | [f], off, ty, h, hf => by
    cases ty with
    | st1 a =>
      simp only [opFs] at h
      obtain ⟨h1, h⟩ := cT h
      obtain ⟨h2, h⟩ := cT h
      have h1 := Nat.eq_of_beq_eq_true h1
      have h2 := Nat.eq_of_beq_eq_true h2
      obtain ⟨y, hy⟩ := hf f (by simp)
      rw [h1, h2] at hy
      exact hr f.type a _ _ _ h hy
    | _ => simp [opFs] at h
  | [f, g], off, ty, h, hf => by
    cases ty with
    | pair a b =>
      simp only [opFs] at h
      obtain ⟨h1, h⟩ := cT h
      obtain ⟨h2, h⟩ := cT h
      obtain ⟨h3, h⟩ := cT h
      obtain ⟨h4, h⟩ := cT h
      obtain ⟨h5, h⟩ := cT h
      have h1 := Nat.eq_of_beq_eq_true h1
      have h2 := Nat.eq_of_beq_eq_true h2
      have h4 := Nat.eq_of_beq_eq_true h4
      have h5 := Nat.eq_of_beq_eq_true h5
      obtain ⟨y, hy⟩ := hf f (by simp)
      obtain ⟨z, hz⟩ := hf g (by simp)
      rw [h1, h2] at hy
      rw [h4, h5] at hz
      obtain ⟨x1, i1, c1⟩ := hr _ _ _ _ _ h3 hy
      obtain ⟨x2, i2, c2⟩ := hr _ _ _ _ _ h hz
      refine ⟨(x1, x2), ⟨i1, i2⟩, ?_⟩
      simp only [Ty.ds, Ty.size]
      rw [take_split]
      exact c1.append c2
    | _ => simp [opFs] at h
  | f :: g :: k :: r, off, ty, h, hf => by
    cases ty with
    | pair a b =>
      simp only [opFs] at h
      obtain ⟨h1, h⟩ := cT h
      obtain ⟨h2, h⟩ := cT h
      obtain ⟨h3, h⟩ := cT h
      have h1 := Nat.eq_of_beq_eq_true h1
      have h2 := Nat.eq_of_beq_eq_true h2
      obtain ⟨y, hy⟩ := hf f (by simp)
      rw [h1, h2] at hy
      obtain ⟨x1, i1, c1⟩ := hr _ _ _ _ _ h3 hy
      obtain ⟨x2, i2, c2⟩ := open_fs hr (g :: k :: r) (off + a.size) b h (fun q hq => hf q (List.mem_cons_of_mem _ hq))
      refine ⟨(x1, x2), ⟨i1, i2⟩, ?_⟩
      simp only [Ty.ds, Ty.size]
      rw [take_split]
      exact c1.append c2
    | _ => simp [opFs] at h
theorem choose_list {α β : Type} (p : Nat → β → α → Prop) : ∀ (l : List β), (∀ i y, l[i]? = some y → ∃ x, p i y x) → ∃ xs : List α, xs.length = l.length ∧ ∀ i y x, l[i]? = some y → xs[i]? = some x → p i y x := by
  intro l
  induction l generalizing p with
  | nil => intro _; exact ⟨[], rfl, by simp⟩
  | cons a r ih =>
    intro h
    obtain ⟨x, hx⟩ := h 0 a rfl
    obtain ⟨xs, h1, h2⟩ := ih (fun i => p (i + 1)) (fun i y hy => h (i + 1) y (by simpa using hy))
    refine ⟨x :: xs, by simp [h1], fun i y z hy hz => ?_⟩
    cases i with
    | zero => simp at hy hz; subst hy; subst hz; exact hx
    | succ i => exact h2 i y z (by simpa using hy) (by simpa using hz)
theorem open_cells : ∀ (n fuel : Nat), OpR P W H enc fuel (opB P n)
  | 0, fuel => by intro t ty cs d ps ho; simp [opB] at ho
  | n + 1, fuel => by
    intro t ty cs d ps ho h
    unfold opB at ho
    split at ho
    · rename_i k k' hu
      obtain ⟨hk, _⟩ := cT ho
      have := kindB_eq hk
      subst this
      obtain ⟨m, rfl, _, hw⟩ := DataW.trod_int hu h
      exact ⟨m, hw, .one (.sc _)⟩
    · rename_i hu
      obtain ⟨m, rfl, _, hw⟩ := DataW.trod_int hu h
      have hm : 0 ≤ m ∧ m ≤ 255 := by simpa [Lit.wf, IntKind.wrap, IntKind.bits, IntKind.signed, IntKind.min, IntKind.max] using hw
      refine ⟨UInt8.ofNat m.toNat, trivial, .one ?_⟩
      have : (((UInt8.ofNat m.toNat).toNat : Nat) : Int) = m := by
        rw [UInt8.toNat_ofNat']; omega
      rw [this]
      exact .sc _
    · rename_i hu
      obtain ⟨b, rfl, _⟩ := DataW.trod_bool hu h
      exact ⟨b, trivial, .one (.sc _)⟩
    · rename_i hu
      obtain ⟨s, rfl, _, hw⟩ := DataW.trod_string hu h
      exact ⟨s.data.toList, by simpa [Ty.In] using hw, .one (.sc _)⟩
    · rename_i e a hu
      obtain ⟨h1, ho⟩ := cT ho
      obtain ⟨h2, ho⟩ := cT ho
      have h1 := Nat.eq_of_beq_eq_true h1
      have h2 := Nat.le_of_ble_eq_true h2
      rcases DataW.trod_slice hu h with ⟨rfl, _⟩ | ⟨ad, len, cap, elems, rest, m, rfl, rfl, _, hb, hl, hc, hel, hcell, _, _⟩
      · exact ⟨[], ⟨by simp, by simp⟩, .one (.nil _ _ _ fun _ => rfl)⟩
      · have key : ∀ i y, (List.range len)[i]? = some y → ∃ x : a.T, a.In x ∧ ∃ cs', cs'.length = a.size ∧ CellsD (fullγ W) W (a.ds x) cs' ∧ ∀ j, j < a.size → W.cell? ((ad.add (i * a.size)).add j) = cs'[j]? := by
          intro i y hi
          have hlt : i < len := by have := (List.getElem?_eq_some_iff.1 hi).1; simpa using this
          have hc := hcell i hlt
          obtain ⟨z, hz⟩ : ∃ z, elems[i]? = some z := ⟨_, List.getElem?_eq_getElem (by omega)⟩
          rw [hz, Option.bind_eq_some_iff, h1] at hc
          obtain ⟨cs', hc1, hc2⟩ := hc
          obtain ⟨_, hcl, hcc⟩ := World.cells?_some hc1
          obtain ⟨x, hx1, hx2⟩ := open_cells n m _ _ _ _ _ ho hc2
          exact ⟨x, hx1, cs', hcl, hx2, hcc⟩
        obtain ⟨xs, hxl, hx⟩ := choose_list _ _ key
        rw [List.length_range] at hxl
        have hxs : ∀ i x, xs[i]? = some x → a.In x ∧ ∃ cs', cs'.length = a.size ∧ CellsD (fullγ W) W (a.ds x) cs' ∧ ∀ j, j < a.size → W.cell? ((ad.add (i * a.size)).add j) = cs'[j]? := by
          intro i x hi
          have hlt : i < len := by have := (List.getElem?_eq_some_iff.1 hi).1; omega
          exact hx i i x (by simp [hlt]) hi
        refine ⟨xs, ⟨by omega, fun x hm => ?_⟩, .one ?_⟩
        · obtain ⟨i, hi⟩ := List.mem_iff_getElem?.1 hm
          exact (hxs i x hi).1
        · rcases Nat.eq_zero_or_pos len with h0 | h0
          · have : xs = [] := List.eq_nil_of_length_eq_zero (by omega)
            subst this
            subst h0
            exact .nil _ (some ad) cap (by simp)
          · have spot : ad.spot = none := by
              obtain ⟨x0, hx0⟩ : ∃ z, xs[0]? = some z := ⟨_, List.getElem?_eq_getElem (by omega)⟩
              obtain ⟨_, cs', hl', _, hc'⟩ := hxs 0 x0 hx0
              have := hc' 0 (by omega)
              rw [List.getElem?_eq_getElem (by omega)] at this
              have := World.cell?_spot this
              simpa [Addr.add] using this
            obtain ⟨b, off, sp⟩ := ad
            simp only at spot
            subst spot
            have hcell' : ∀ i x, xs[i]? = some x → ∃ cs', cs'.length = a.size ∧ CellsD (fullγ W) W (a.ds x) cs' ∧ ∀ j, j < a.size → W.cell? ⟨b, off + (i * a.size + j), none⟩ = cs'[j]? := by
              intro i x hi
              obtain ⟨_, cs', hl', hd', hc'⟩ := hxs i x hi
              refine ⟨cs', hl', hd', fun j hj => ?_⟩
              have := hc' j hj
              rwa [WideShapes.add_plain, WideShapes.add_plain, Nat.add_assoc] at this
            refine .ofCells' (by simp [hxl]) ?_ hl ?_ ?_
            · obtain ⟨x, hx⟩ : ∃ z, xs[len - 1]? = some z := ⟨_, List.getElem?_eq_getElem (by omega)⟩
              obtain ⟨cs', hl', _, hc'⟩ := hcell' (len - 1) x hx
              have := hc' (a.size - 1) (by omega)
              rw [List.getElem?_eq_getElem (by omega)] at this
              have := fullγ_cell this
              have e : len * a.size = (len - 1) * a.size + a.size := by
                rw [← Nat.succ_mul]; congr 1; omega
              show off + len * a.size ≤ fullγ W b
              omega
            · intro i cs hi
              rw [List.getElem?_map, Option.map_eq_some_iff] at hi
              obtain ⟨x, _, rfl⟩ := hi
              exact a.ds_length x
            · intro i j cs c u hi hj hu
              rw [List.getElem?_map, Option.map_eq_some_iff] at hi
              obtain ⟨x, hx, rfl⟩ := hi
              obtain ⟨cs', hl', hd', hc'⟩ := hcell' i x hx
              have hjl : j < a.size := by have := (List.getElem?_eq_some_iff.1 hj).1; rwa [a.ds_length] at this
              rw [hc' j hjl] at hu
              exact hd'.2 j c u hj hu
    · rename_i fs hu
      obtain ⟨_, ho⟩ := cT ho
      obtain ⟨h2, ho⟩ := cT ho
      have h2 := Nat.eq_of_beq_eq_true h2
      obtain ⟨xs, m, rfl, _, hl, hxl, hall⟩ := DataW.trod_struct hu h
      obtain ⟨x, hx1, hx2⟩ := open_fs (open_cells n m) (cs := cs) fs.toList 0 _ ho (by
        intro f hf
        obtain ⟨i, hi⟩ := List.mem_iff_getElem?.1 hf
        have hi' : fs[i]? = some f := by simpa using hi
        have := hall i f hi'
        rw [this]
        have hlt := (Array.getElem?_eq_some_iff.1 hi').1
        exact ⟨_, List.getElem?_eq_getElem (by omega)⟩)
      refine ⟨x, hx1, ?_⟩
      rw [List.drop_zero, List.take_of_length_le (by omega)] at hx2
      exact hx2
    · cases ho
theorem open_arg {b0 n : Nat} {t : TypeId} {ty : Ty} {v : Value} {d : DataW H} {ps : List MemPlace} (ho : opB P n t ty = true) (hv : Value.okWide P W .any b0 t v)
    (h : DataW.Trod enc P W 0 (fun _ => true) true t v d ps) : ∃ x : ty.T, ty.In x ∧ RA (full W) W (XV.d (ty.xv x)).a v := by
  obtain ⟨fuel, hf⟩ := h
  obtain ⟨x, h1, h2⟩ := open_cells n fuel _ _ _ _ _ ho hf
  refine ⟨x, h1, .d _ _ ?_⟩
  show RD (fullγ W) W (ty.dv x) v
  cases hagg : ty.agg with
  | true =>
    rw [ty.dv_agg x hagg]
    have : ∃ fs, P.underlying t = some (.struct fs) := by
      cases n with
      | zero => simp [opB] at ho
      | succ n =>
        unfold opB at ho
        split at ho <;> simp_all [Ty.agg]
    obtain ⟨fs, hu⟩ := this
    obtain ⟨cs, rfl, _⟩ := WideShapes.okWide_struct hu hv
    simp only [Value.cells] at h2
    exact .agg _ _ (by simpa using h2.1) fun i c u hc hu => h2.2 i c u hc (by simpa using hu)
  | false =>
    rw [ty.dv_one x hagg] at h2
    have hv' : v.cells = #[v] := by
      have := h2.1
      cases v with
      | agg cs =>
        exfalso
        cases n with
        | zero => simp [opB] at ho
        | succ n =>
          unfold opB at ho
          split at ho
          · rename_i hu; obtain ⟨_, e⟩ := WideShapes.okWide_int hu hv; cases e
          · rename_i hu; obtain ⟨_, e⟩ := WideShapes.okWide_int hu hv; cases e
          · rename_i hu; obtain ⟨_, e⟩ := WideShapes.okWide_bool hu hv; cases e
          · rename_i hu; obtain ⟨_, e⟩ := WideShapes.okWide_string hu hv; cases e
          · rename_i hu; obtain ⟨_, _, _, e⟩ := WideShapes.okWide_slice hu hv; cases e
          · rw [hagg] at ho; simp at ho
          · cases ho
      | _ => rfl
    rw [hv'] at h2
    exact h2.2 0 _ _ rfl rfl
end
end Go.Xl
set_option linter.unusedVariables false
set_option linter.unusedSimpArgs false
namespace Go.Xl
open Go.Ab Go.RowKit
noncomputable def litV : Lit → Value
  | .bool b => .bool b
  | .int k n => .int k n
  | .string s => .string ⟨s.toArray⟩
  | .float k b => .float k b
  | .nil => .nilIface
theorem trod_lit {H : Type} {enc : TypeId × Value → H} {P : Program} {w : World} {base : Nat} {sp : Nat → Bool} {held : Bool} {fuel : Nat} {t : TypeId} {cs : List Value} {l : Lit} {p : List MemPlace}
    (h : DataW.trod enc P w base sp held fuel t cs = some (.lit l, p)) : cs = [litV l] := by
  cases fuel with
  | zero => simp [DataW.trod] at h
  | succ m =>
    unfold DataW.trod at h
    split at h <;> simp_all [litV, Option.map_eq_some_iff, Option.bind_eq_some_iff]
    all_goals first
      | (obtain ⟨_, h, _⟩ := h; subst h; rfl)
      | (obtain ⟨h, _⟩ := h; subst h; rfl)
      | (subst h; rfl)
      | (split at h <;> simp_all [Option.bind_eq_some_iff, Option.map_eq_some_iff] <;> (try (obtain ⟨_, _, _, _, h⟩ := h; split at h <;> simp_all)))
      | skip
theorem laid_cells {H : Type} {enc : TypeId × Value → H} {P : Program} {w : World} {base : Nat} {sp : Nat → Bool} {held : Bool} {fuel : Nat} {t e : TypeId} {n : Nat} {cs : List Value} {ls : List Lit} {p : List MemPlace}
    (ht : P.underlying t = some (.array n e)) (he : P.cellsOf e = 1) (hn : P.cellsOf t = ls.length) (hn' : n = ls.length) (h : DataW.trod enc P w base sp held fuel t cs = some (.agg (ls.map .lit), p)) : cs = ls.map litV := by
  obtain ⟨xs, m, rfl, hx, hl, hxl, hc⟩ := DataW.trod_array ht h
  simp only [Prod.mk.injEq, DataW.agg.injEq] at hx
  apply List.ext_getElem?
  intro i
  by_cases hi : i < ls.length
  · have h1 := hc i (by omega)
    have h2 : (xs.map (·.1))[i]? = (ls.map DataW.lit)[i]? := by rw [← hx.1]
    rw [List.getElem?_eq_getElem (l := xs) (by omega)] at h1
    simp only [List.getElem?_map, List.getElem?_eq_getElem (l := xs) (show i < xs.length by omega), List.getElem?_eq_getElem hi, Option.map_some, Option.some.injEq] at h2
    generalize xs[i] = x at h1 h2
    obtain ⟨x1, x2⟩ := x
    simp only at h2
    subst h2
    have := trod_lit h1
    rw [he, Nat.mul_one] at this
    have hd : (cs.drop i)[0]? = some (litV ls[i]) := by
      have h3 : ((cs.drop i).take 1)[0]? = some (litV ls[i]) := by rw [this]; rfl
      simpa using h3
    simp only [List.getElem?_drop, Nat.add_zero] at hd
    rw [hd]
    simp [hi]
  · rw [List.getElem?_eq_none (by omega), List.getElem?_eq_none (by simpa using hi)]
noncomputable def litOf : (ty : Ty) → ty.T → Lit
  | .int k, n => .int k n
  | .u8, x => .int .u8 (x.toNat : Int)
  | .bool, b => .bool b
  | .str, l => .string l
  | _, _ => .nil
noncomputable def scTy : Ty → Bool
  | .int _ | .u8 | .bool | .str => true
  | _ => false
theorem sc_ds {ty : Ty} (h : scTy ty = true) (x : ty.T) : ty.ds x = [.sc (litV (litOf ty x))] := by
  cases ty <;> simp [scTy] at h <;> rfl
theorem sc_flat {ty : Ty} (h : scTy ty = true) : ∀ (l : List ty.T), (l.map ty.ds).flatten = l.map fun x => .sc (litV (litOf ty x))
  | [] => rfl
  | x :: r => by rw [List.map_cons, List.flatten_cons, sc_flat h r, sc_ds h x]; rfl
theorem laid_tab {P : Program} {laid : List (String × DataW Unit)} {w : World} (h : laidMetH P laid w) (n : String) (g t e k : Nat) (ty : Ty) (l : List ty.T)
    (hf : laid.filter (fun x => x.1 == n) = [(n, .agg (l.map fun x => .lit (litOf ty x)))]) (hg : P.globalNamed n = some g) (ht : (P.globals[g]?).map (·.type) = some t)
    (hu : P.underlying t = some (.array k e)) (he : P.cellsOf e = 1) (hn : P.cellsOf t = k) (hk : k = l.length) (hs : scTy ty = true) :
    RA (full w) w (XV.d (.pa ty l)).a (.pointer (some ⟨g, 0, none⟩)) := by
  have h1 := h.filter (fun x => x.1 == n)
  rw [hf] at h1
  have h2 : laidMet P [(n, .agg (l.map fun x => .lit (litOf ty x)))] w := h1
  obtain ⟨ps, hl, _, _⟩ := h2
  obtain ⟨g', t', cs, fuel, p, q, e1, e2, e3, e4, _, _⟩ := hl
  rw [hg] at e1
  cases e1
  rw [ht] at e2
  cases e2
  have e4' : DataW.trod (fun _ => ()) P w 0 (fun _ => true) false fuel t cs.toList = some (.agg ((l.map (litOf ty)).map .lit), p) := by
    rw [List.map_map]; exact e4
  have hc := laid_cells (ls := l.map (litOf ty)) hu he (by simp; omega) (by simp; omega) e4'
  have hcell : ∀ i, w.cell? ⟨g, i, none⟩ = (l.map fun x => litV (litOf ty x))[i]? := by
    intro i
    rw [World.var?_cell hg e3 i, ← Array.getElem?_toList, hc, List.map_map]; rfl
  refine .d _ _ ?_
  show RD (fullγ w) w (.ep ((l.map ty.ds).flatten)) _
  rw [sc_flat hs]
  refine .ep _ _ _ ?_ ?_
  · rw [Nat.zero_add, List.length_map]
    have h0 : w.heap[g]? = some (.cells cs ((w.heap[g]?).elim 0 (fun b => match b with | .cells _ t _ => t | _ => 0)) ((w.heap[g]?).elim (0, 0) (fun b => match b with | .cells _ _ f => f | _ => (0, 0)))) := by
      unfold World.var? at e3
      rw [hg, Option.bind_some] at e3
      split at e3
      · rename_i cs' T fr hh
        cases e3
        rw [hh]; rfl
      · cases e3
    unfold fullγ
    rw [h0]
    have : cs.toList.length = l.length := by rw [hc]; simp
    simp at this
    simp [this]
  · intro j c v hc1 hc2
    rw [Nat.zero_add, hcell j] at hc2
    simp only [List.getElem?_map, Option.map_eq_some_iff] at hc1 hc2
    obtain ⟨x, hx, rfl⟩ := hc1
    obtain ⟨y, hy, rfl⟩ := hc2
    rw [hx] at hy
    cases hy
    exact .sc _
theorem DoesG.lawAs {P : Program} {f : FuncId} {args : List AV} {gs : List (Nat × AV)} (h : DoesG P f args gs (.d (.sc (.bool true)))) {w : World} {vs : Array Value} (ha : RAs (full w) w args vs.toList) (hg : GHold (full w) w gs) :
    Calls P f vs w fun e w' => e = .returned (.bool true) ∧ Below w.heap.size w w' := by
  refine (h (full w) w vs (full_hr w) hg (by have := ha.get.1; simpa using this) fun i x v hx hv => ha.get.2 i x v hx (by simpa using hv)).mono ?_
  rintro e w' ⟨g', v, rfl, hr, h1⟩
  refine ⟨by rw [hr.sc_inv], ⟨h1.io.1, h1.io.2.2.1, h1.io.2.1, h1.base, fun b hb => (h1.frame b hb ?_).1⟩⟩
  rintro (⟨k, o, hk, _⟩ | ⟨n, hn⟩)
  · simp [X0] at hk
  · simp [full] at hn
theorem GHold.nil (g : Gh) (w : World) : GHold g w [] := by intro p hp; cases hp
theorem GHold.cons {g : Gh} {w : World} {k : Nat} {a : AV} {gs : List (Nat × AV)} (h : RA g w a (.pointer (some ⟨k, 0, none⟩))) (h' : GHold g w gs) : GHold g w ((k, a) :: gs) := by
  intro p hp
  rcases List.mem_cons.1 hp with rfl | hp
  · exact h
  · exact h' p hp
end Go.Xl
