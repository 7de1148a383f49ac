import Derived.Test.YtdhogdnkcjdjnaaGreatDoorZd
import Derived.Test.YtdhogdnkcjdjnaaGreatDoorProg
import Derived.KernelRfl
import Derived.Test.YtdhogdnkcjdjnaaGreatDoorZa
import Derived.Below
import Derived.ProofKit
import Derived.OpenShut
import Derived.FnData
import Derived.LaidSub
set_option maxRecDepth 1000000
set_option linter.unusedVariables false
namespace Go.Proofs.Xz
open Go Go.Xl Go.Ab Go.Proofs
theorem mixed : Tryz.prog.follows .mixedOrders = true := by kernel_rfl
noncomputable def tb : List (FI Tryz.prog) := [⟨3, Tryz.f3, [], Tryz.func3, .mk' Tryz.func3 rfl (by decide)⟩,
 ⟨4, Tryz.f4, [], Tryz.func4, .mk' Tryz.func4 rfl (by decide)⟩,
 ⟨5, Tryz.f5, [], Tryz.func5, .mk' Tryz.func5 rfl (by decide)⟩,
 ⟨6, Tryz.f6, [], Tryz.func6, .mk' Tryz.func6 rfl (by decide)⟩,
 ⟨7, Tryz.f7, [], Tryz.func7, .mk' Tryz.func7 rfl (by decide)⟩,
 ⟨8, Tryz.f8, [], Tryz.func8, .mk' Tryz.func8 rfl (by decide)⟩,
 ⟨9, Tryz.f9, [], Tryz.func9, .mk' Tryz.func9 rfl (by decide)⟩,
 ⟨10, Tryz.f10, [], Tryz.func10, .mk' Tryz.func10 rfl (by decide)⟩,
 ⟨11, Tryz.f11, [], Tryz.func11, .mk' Tryz.func11 rfl (by decide)⟩,
 ⟨12, Tryz.f12, [], Tryz.func12, .mk' Tryz.func12 rfl (by decide)⟩,
 ⟨13, Tryz.f13, [], Tryz.func13, .mk' Tryz.func13 rfl (by decide)⟩,
 ⟨14, Tryz.f14, [], Tryz.func14, .mk' Tryz.func14 rfl (by decide)⟩,
 ⟨15, Tryz.f15, [], Tryz.func15, .mk' Tryz.func15 rfl (by decide)⟩,
 ⟨16, Tryz.f16, [], Tryz.func16, .mk' Tryz.func16 rfl (by decide)⟩,
 ⟨17, Tryz.f17, [], Tryz.func17, .mk' Tryz.func17 rfl (by decide)⟩,
 ⟨18, Tryz.f18, [], Tryz.func18, .mk' Tryz.func18 rfl (by decide)⟩,
 ⟨19, Tryz.f19, [], Tryz.func19, .mk' Tryz.func19 rfl (by decide)⟩,
 ⟨20, Tryz.f20, [], Tryz.func20, .mk' Tryz.func20 rfl (by decide)⟩,
 ⟨21, Tryz.f21, [], Tryz.func21, .mk' Tryz.func21 rfl (by decide)⟩,
 ⟨22, Tryz.f22, [], Tryz.func22, .mk' Tryz.func22 rfl (by decide)⟩,
 ⟨23, Tryz.f23, [], Tryz.func23, .mk' Tryz.func23 rfl (by decide)⟩,
 ⟨24, Tryz.f24, [], Tryz.func24, .mk' Tryz.func24 rfl (by decide)⟩,
 ⟨25, Tryz.f25, [], Tryz.func25, .mk' Tryz.func25 rfl (by decide)⟩,
 ⟨26, Tryz.f26, [], Tryz.func26, .mk' Tryz.func26 rfl (by decide)⟩,
 ⟨27, Tryz.f27, [], Tryz.func27, .mk' Tryz.func27 rfl (by decide)⟩,
 ⟨28, Tryz.f28, [], Tryz.func28, .mk' Tryz.func28 rfl (by decide)⟩,
 ⟨29, Tryz.f29, [], Tryz.func29, .mk' Tryz.func29 rfl (by decide)⟩,
 ⟨30, Tryz.f30, [], Tryz.func30, .mk' Tryz.func30 rfl (by decide)⟩,
 ⟨31, Tryz.f31, [], Tryz.func31, .mk' Tryz.func31 rfl (by decide)⟩,
 ⟨32, Tryz.f32, [], Tryz.func32, .mk' Tryz.func32 rfl (by decide)⟩,
 ⟨33, Tryz.f33, [], Tryz.func33, .mk' Tryz.func33 rfl (by decide)⟩,
 ⟨34, Tryz.f34, [], Tryz.func34, .mk' Tryz.func34 rfl (by decide)⟩,
 ⟨35, Tryz.f35, [], Tryz.func35, .mk' Tryz.func35 rfl (by decide)⟩,
 ⟨36, Tryz.f36, [], Tryz.func36, .mk' Tryz.func36 rfl (by decide)⟩,
 ⟨37, Tryz.f37, [], Tryz.func37, .mk' Tryz.func37 rfl (by decide)⟩,
 ⟨38, Tryz.f38, [], Tryz.func38, .mk' Tryz.func38 rfl (by decide)⟩,
 ⟨39, Tryz.f39, [], Tryz.func39, .mk' Tryz.func39 rfl (by decide)⟩,
 ⟨40, Tryz.f40, [], Tryz.func40, .mk' Tryz.func40 rfl (by decide)⟩,
 ⟨41, Tryz.f41, [], Tryz.func41, .mk' Tryz.func41 rfl (by decide)⟩,
 ⟨42, Tryz.f42, [], Tryz.func42, .mk' Tryz.func42 rfl (by decide)⟩,
 ⟨43, Tryz.f43, [], Tryz.func43, .mk' Tryz.func43 rfl (by decide)⟩,
 ⟨44, Tryz.f44, [], Tryz.func44, .mk' Tryz.func44 rfl (by decide)⟩,
 ⟨45, Tryz.f45, [], Tryz.func45, .mk' Tryz.func45 rfl (by decide)⟩,
 ⟨46, Tryz.f46, [], Tryz.func46, .mk' Tryz.func46 rfl (by decide)⟩,
 ⟨47, Tryz.f47, [], Tryz.func47, .mk' Tryz.func47 rfl (by decide)⟩,
 ⟨48, Tryz.f48, [], Tryz.func48, .mk' Tryz.func48 rfl (by decide)⟩,
 ⟨49, Tryz.f49, [], Tryz.func49, .mk' Tryz.func49 rfl (by decide)⟩,
 ⟨50, Tryz.f50, [], Tryz.func50, .mk' Tryz.func50 rfl (by decide)⟩,
 ⟨51, Tryz.f51, [], Tryz.func51, .mk' Tryz.func51 rfl (by decide)⟩,
 ⟨52, Tryz.f52, [], Tryz.func52, .mk' Tryz.func52 rfl (by decide)⟩,
 ⟨53, Tryz.f53, [], Tryz.func53, .mk' Tryz.func53 rfl (by decide)⟩,
 ⟨54, Tryz.f54, [], Tryz.func54, .mk' Tryz.func54 rfl (by decide)⟩,
 ⟨55, Tryz.f55, [], Tryz.func55, .mk' Tryz.func55 rfl (by decide)⟩,
 ⟨56, Tryz.f56, [], Tryz.func56, .mk' Tryz.func56 rfl (by decide)⟩,
 ⟨57, Tryz.f57, [], Tryz.func57, .mk' Tryz.func57 rfl (by decide)⟩,
 ⟨58, Tryz.f58, [], Tryz.func58, .mk' Tryz.func58 rfl (by decide)⟩,
 ⟨60, Tryz.f60, [], Tryz.func60, .mk' Tryz.func60 rfl (by decide)⟩,
 ⟨61, Tryz.f61, [], Tryz.func61, .mk' Tryz.func61 rfl (by decide)⟩,
 ⟨62, Tryz.f62, [], Tryz.func62, .mk' Tryz.func62 rfl (by decide)⟩,
 ⟨63, Tryz.f63, [], Tryz.func63, .mk' Tryz.func63 rfl (by decide)⟩,
 ⟨64, Tryz.f64, [], Tryz.func64, .mk' Tryz.func64 rfl (by decide)⟩,
 ⟨65, Tryz.f65, [], Tryz.func65, .mk' Tryz.func65 rfl (by decide)⟩,
 ⟨66, Tryz.f66, [], Tryz.func66, .mk' Tryz.func66 rfl (by decide)⟩,
 ⟨67, Tryz.f67, [], Tryz.func67, .mk' Tryz.func67 rfl (by decide)⟩,
 ⟨68, Tryz.f68, [], Tryz.func68, .mk' Tryz.func68 rfl (by decide)⟩,
 ⟨69, Tryz.f69, [], Tryz.func69, .mk' Tryz.func69 rfl (by decide)⟩,
 ⟨70, Tryz.f70, [], Tryz.func70, .mk' Tryz.func70 rfl (by decide)⟩,
 ⟨71, Tryz.f71, [], Tryz.func71, .mk' Tryz.func71 rfl (by decide)⟩,
 ⟨72, Tryz.f72, [], Tryz.func72, .mk' Tryz.func72 rfl (by decide)⟩,
 ⟨73, Tryz.f73, [], Tryz.func73, .mk' Tryz.func73 rfl (by decide)⟩,
 ⟨74, Tryz.f74, [], Tryz.func74, .mk' Tryz.func74 rfl (by decide)⟩,
 ⟨75, Tryz.f75, [], Tryz.func75, .mk' Tryz.func75 rfl (by decide)⟩,
 ⟨76, Tryz.f76, [], Tryz.func76, .mk' Tryz.func76 rfl (by decide)⟩,
 ⟨77, Tryz.f77, [], Tryz.func77, .mk' Tryz.func77 rfl (by decide)⟩,
 ⟨78, Tryz.f78, [], Tryz.func78, .mk' Tryz.func78 rfl (by decide)⟩,
 ⟨79, Tryz.f79, [], Tryz.func79, .mk' Tryz.func79 rfl (by decide)⟩,
 ⟨80, Tryz.f80, [], Tryz.func80, .mk' Tryz.func80 rfl (by decide)⟩,
 ⟨81, Tryz.f81, [], Tryz.func81, .mk' Tryz.func81 rfl (by decide)⟩,
 ⟨82, Tryz.f82, [], Tryz.func82, .mk' Tryz.func82 rfl (by decide)⟩,
 ⟨83, Tryz.f83, [], Tryz.func83, .mk' Tryz.func83 rfl (by decide)⟩,
 ⟨84, Tryz.f84, [], Tryz.func84, .mk' Tryz.func84 rfl (by decide)⟩,
 ⟨85, Tryz.f85, [], Tryz.func85, .mk' Tryz.func85 rfl (by decide)⟩,
 ⟨86, Tryz.f86, [], Tryz.func86, .mk' Tryz.func86 rfl (by decide)⟩,
 ⟨87, Tryz.f87, [], Tryz.func87, .mk' Tryz.func87 rfl (by decide)⟩,
 ⟨88, Tryz.f88, [], Tryz.func88, .mk' Tryz.func88 rfl (by decide)⟩,
 ⟨89, Tryz.f89, [], Tryz.func89, .mk' Tryz.func89 rfl (by decide)⟩,
 ⟨90, Tryz.f90, [], Tryz.func90, .mk' Tryz.func90 rfl (by decide)⟩,
 ⟨91, Tryz.f91, [], Tryz.func91, .mk' Tryz.func91 rfl (by decide)⟩,
 ⟨92, Tryz.f92, [], Tryz.func92, .mk' Tryz.func92 rfl (by decide)⟩,
 ⟨93, Tryz.f93, [], Tryz.func93, .mk' Tryz.func93 rfl (by decide)⟩,
 ⟨94, Tryz.f94, [], Tryz.func94, .mk' Tryz.func94 rfl (by decide)⟩,
 ⟨95, Tryz.f95, [], Tryz.func95, .mk' Tryz.func95 rfl (by decide)⟩,
 ⟨96, Tryz.f96, [], Tryz.func96, .mk' Tryz.func96 rfl (by decide)⟩,
 ⟨97, Tryz.f97, [], Tryz.func97, .mk' Tryz.func97 rfl (by decide)⟩,
 ⟨98, Tryz.f98, [], Tryz.func98, .mk' Tryz.func98 rfl (by decide)⟩,
 ⟨99, Tryz.f99, [], Tryz.func99, .mk' Tryz.func99 rfl (by decide)⟩,
 ⟨100, Tryz.f100, [], Tryz.func100, .mk' Tryz.func100 rfl (by decide)⟩,
 ⟨101, Tryz.f101, [], Tryz.func101, .mk' Tryz.func101 rfl (by decide)⟩,
 ⟨102, Tryz.f102, [], Tryz.func102, .mk' Tryz.func102 rfl (by decide)⟩,
 ⟨103, Tryz.f103, [], Tryz.func103, .mk' Tryz.func103 rfl (by decide)⟩,
 ⟨104, Tryz.f104, [], Tryz.func104, .mk' Tryz.func104 rfl (by decide)⟩,
 ⟨105, Tryz.f105, [], Tryz.func105, .mk' Tryz.func105 rfl (by decide)⟩,
 ⟨106, Tryz.f106, [], Tryz.func106, .mk' Tryz.func106 rfl (by decide)⟩,
 ⟨107, Tryz.f107, [], Tryz.func107, .mk' Tryz.func107 rfl (by decide)⟩,
 ⟨108, Tryz.f108, [], Tryz.func108, .mk' Tryz.func108 rfl (by decide)⟩,
 ⟨109, Tryz.f109, [], Tryz.func109, .mk' Tryz.func109 rfl (by decide)⟩,
 ⟨110, Tryz.f110, [], Tryz.func110, .mk' Tryz.func110 rfl (by decide)⟩,
 ⟨111, Tryz.f111, [23], Tryz.func111, .mk' Tryz.func111 rfl (by decide)⟩,
 ⟨112, Tryz.f112, [6], Tryz.func112, .mk' Tryz.func112 rfl (by decide)⟩,
 ⟨113, Tryz.f113, [], Tryz.func113, .mk' Tryz.func113 rfl (by decide)⟩,
 ⟨114, Tryz.f114, [34, 75], Tryz.func114, .mk' Tryz.func114 rfl (by decide)⟩,
 ⟨115, Tryz.f115, [], Tryz.func115, .mk' Tryz.func115 rfl (by decide)⟩,
 ⟨116, Tryz.f116, [], Tryz.func116, .mk' Tryz.func116 rfl (by decide)⟩,
 ⟨117, Tryz.f117, [], Tryz.func117, .mk' Tryz.func117 rfl (by decide)⟩,
 ⟨118, Tryz.f118, [], Tryz.func118, .mk' Tryz.func118 rfl (by decide)⟩,
 ⟨119, Tryz.f119, [], Tryz.func119, .mk' Tryz.func119 rfl (by decide)⟩,
 ⟨120, Tryz.f120, [], Tryz.func120, .mk' Tryz.func120 rfl (by decide)⟩,
 ⟨121, Tryz.f121, [], Tryz.func121, .mk' Tryz.func121 rfl (by decide)⟩,
 ⟨122, Tryz.f122, [], Tryz.func122, .mk' Tryz.func122 rfl (by decide)⟩,
 ⟨123, Tryz.f123, [], Tryz.func123, .mk' Tryz.func123 rfl (by decide)⟩,
 ⟨124, Tryz.f124, [], Tryz.func124, .mk' Tryz.func124 rfl (by decide)⟩,
 ⟨125, Tryz.f125, [], Tryz.func125, .mk' Tryz.func125 rfl (by decide)⟩,
 ⟨126, Tryz.f126, [], Tryz.func126, .mk' Tryz.func126 rfl (by decide)⟩,
 ⟨127, Tryz.f127, [], Tryz.func127, .mk' Tryz.func127 rfl (by decide)⟩,
 ⟨128, Tryz.f128, [], Tryz.func128, .mk' Tryz.func128 rfl (by decide)⟩,
 ⟨129, Tryz.f129, [], Tryz.func129, .mk' Tryz.func129 rfl (by decide)⟩,
 ⟨130, Tryz.f130, [], Tryz.func130, .mk' Tryz.func130 rfl (by decide)⟩,
 ⟨131, Tryz.f131, [], Tryz.func131, .mk' Tryz.func131 rfl (by decide)⟩,
 ⟨132, Tryz.f132, [], Tryz.func132, .mk' Tryz.func132 rfl (by decide)⟩,
 ⟨133, Tryz.f133, [], Tryz.func133, .mk' Tryz.func133 rfl (by decide)⟩,
 ⟨134, Tryz.f134, [], Tryz.func134, .mk' Tryz.func134 rfl (by decide)⟩,
 ⟨135, Tryz.f135, [], Tryz.func135, .mk' Tryz.func135 rfl (by decide)⟩,
 ⟨136, Tryz.f136, [], Tryz.func136, .mk' Tryz.func136 rfl (by decide)⟩,
 ⟨137, Tryz.f137, [], Tryz.func137, .mk' Tryz.func137 rfl (by decide)⟩,
 ⟨138, Tryz.f138, [24], Tryz.func138, .mk' Tryz.func138 rfl (by decide)⟩,
 ⟨139, Tryz.f139, [], Tryz.func139, .mk' Tryz.func139 rfl (by decide)⟩,
 ⟨140, Tryz.f140, [], Tryz.func140, .mk' Tryz.func140 rfl (by decide)⟩,
 ⟨141, Tryz.f141, [], Tryz.func141, .mk' Tryz.func141 rfl (by decide)⟩,
 ⟨142, Tryz.f142, [], Tryz.func142, .mk' Tryz.func142 rfl (by decide)⟩,
 ⟨143, Tryz.f143, [], Tryz.func143, .mk' Tryz.func143 rfl (by decide)⟩,
 ⟨144, Tryz.f144, [], Tryz.func144, .mk' Tryz.func144 rfl (by decide)⟩,
 ⟨145, Tryz.f145, [], Tryz.func145, .mk' Tryz.func145 rfl (by decide)⟩,
 ⟨146, Tryz.f146, [], Tryz.func146, .mk' Tryz.func146 rfl (by decide)⟩,
 ⟨147, Tryz.f147, [], Tryz.func147, .mk' Tryz.func147 rfl (by decide)⟩,
 ⟨148, Tryz.f148, [], Tryz.func148, .mk' Tryz.func148 rfl (by decide)⟩,
 ⟨149, Tryz.f149, [], Tryz.func149, .mk' Tryz.func149 rfl (by decide)⟩,
 ⟨150, Tryz.f150, [], Tryz.func150, .mk' Tryz.func150 rfl (by decide)⟩,
 ⟨151, Tryz.f151, [], Tryz.func151, .mk' Tryz.func151 rfl (by decide)⟩,
 ⟨152, Tryz.f152, [], Tryz.func152, .mk' Tryz.func152 rfl (by decide)⟩,
 ⟨153, Tryz.f153, [], Tryz.func153, .mk' Tryz.func153 rfl (by decide)⟩,
 ⟨154, Tryz.f154, [], Tryz.func154, .mk' Tryz.func154 rfl (by decide)⟩,
 ⟨155, Tryz.f155, [], Tryz.func155, .mk' Tryz.func155 rfl (by decide)⟩,
 ⟨156, Tryz.f156, [], Tryz.func156, .mk' Tryz.func156 rfl (by decide)⟩,
 ⟨157, Tryz.f157, [], Tryz.func157, .mk' Tryz.func157 rfl (by decide)⟩,
 ⟨158, Tryz.f158, [], Tryz.func158, .mk' Tryz.func158 rfl (by decide)⟩,
 ⟨159, Tryz.f159, [], Tryz.func159, .mk' Tryz.func159 rfl (by decide)⟩,
 ⟨160, Tryz.f160, [], Tryz.func160, .mk' Tryz.func160 rfl (by decide)⟩,
 ⟨161, Tryz.f161, [], Tryz.func161, .mk' Tryz.func161 rfl (by decide)⟩,
 ⟨162, Tryz.f162, [], Tryz.func162, .mk' Tryz.func162 rfl (by decide)⟩,
 ⟨163, Tryz.f163, [], Tryz.func163, .mk' Tryz.func163 rfl (by decide)⟩,
 ⟨164, Tryz.f164, [], Tryz.func164, .mk' Tryz.func164 rfl (by decide)⟩,
 ⟨165, Tryz.f165, [], Tryz.func165, .mk' Tryz.func165 rfl (by decide)⟩,
 ⟨166, Tryz.f166, [], Tryz.func166, .mk' Tryz.func166 rfl (by decide)⟩,
 ⟨167, Tryz.f167, [], Tryz.func167, .mk' Tryz.func167 rfl (by decide)⟩,
 ⟨168, Tryz.f168, [], Tryz.func168, .mk' Tryz.func168 rfl (by decide)⟩,
 ⟨169, Tryz.f169, [], Tryz.func169, .mk' Tryz.func169 rfl (by decide)⟩,
 ⟨170, Tryz.f170, [], Tryz.func170, .mk' Tryz.func170 rfl (by decide)⟩,
 ⟨171, Tryz.f171, [], Tryz.func171, .mk' Tryz.func171 rfl (by decide)⟩,
 ⟨172, Tryz.f172, [], Tryz.func172, .mk' Tryz.func172 rfl (by decide)⟩,
 ⟨173, Tryz.f173, [], Tryz.func173, .mk' Tryz.func173 rfl (by decide)⟩,
 ⟨174, Tryz.f174, [], Tryz.func174, .mk' Tryz.func174 rfl (by decide)⟩,
 ⟨175, Tryz.f175, [], Tryz.func175, .mk' Tryz.func175 rfl (by decide)⟩,
 ⟨176, Tryz.f176, [], Tryz.func176, .mk' Tryz.func176 rfl (by decide)⟩,
 ⟨177, Tryz.f177, [], Tryz.func177, .mk' Tryz.func177 rfl (by decide)⟩,
 ⟨178, Tryz.f178, [], Tryz.func178, .mk' Tryz.func178 rfl (by decide)⟩,
 ⟨179, Tryz.f179, [], Tryz.func179, .mk' Tryz.func179 rfl (by decide)⟩,
 ⟨180, Tryz.f180, [], Tryz.func180, .mk' Tryz.func180 rfl (by decide)⟩,
 ⟨181, Tryz.f181, [], Tryz.func181, .mk' Tryz.func181 rfl (by decide)⟩,
 ⟨182, Tryz.f182, [], Tryz.func182, .mk' Tryz.func182 rfl (by decide)⟩,
 ⟨183, Tryz.f183, [], Tryz.func183, .mk' Tryz.func183 rfl (by decide)⟩,
 ⟨184, Tryz.f184, [], Tryz.func184, .mk' Tryz.func184 rfl (by decide)⟩,
 ⟨185, Tryz.f185, [], Tryz.func185, .mk' Tryz.func185 rfl (by decide)⟩,
 ⟨186, Tryz.f186, [], Tryz.func186, .mk' Tryz.func186 rfl (by decide)⟩,
 ⟨187, Tryz.f187, [], Tryz.func187, .mk' Tryz.func187 rfl (by decide)⟩,
 ⟨188, Tryz.f188, [], Tryz.func188, .mk' Tryz.func188 rfl (by decide)⟩,
 ⟨189, Tryz.f189, [], Tryz.func189, .mk' Tryz.func189 rfl (by decide)⟩,
 ⟨190, Tryz.f190, [], Tryz.func190, .mk' Tryz.func190 rfl (by decide)⟩,
 ⟨191, Tryz.f191, [], Tryz.func191, .mk' Tryz.func191 rfl (by decide)⟩,
 ⟨192, Tryz.f192, [], Tryz.func192, .mk' Tryz.func192 rfl (by decide)⟩,
 ⟨193, Tryz.f193, [], Tryz.func193, .mk' Tryz.func193 rfl (by decide)⟩,
 ⟨194, Tryz.f194, [], Tryz.func194, .mk' Tryz.func194 rfl (by decide)⟩,
 ⟨195, Tryz.f195, [], Tryz.func195, .mk' Tryz.func195 rfl (by decide)⟩,
 ⟨196, Tryz.f196, [], Tryz.func196, .mk' Tryz.func196 rfl (by decide)⟩,
 ⟨198, Tryz.f198, [6], Tryz.func198, .mk' Tryz.func198 rfl (by decide)⟩,
 ⟨199, Tryz.f199, [], Tryz.func199, .mk' Tryz.func199 rfl (by decide)⟩,
 ⟨200, Tryz.f200, [], Tryz.func200, .mk' Tryz.func200 rfl (by decide)⟩,
 ⟨201, Tryz.f201, [], Tryz.func201, .mk' Tryz.func201 rfl (by decide)⟩,
 ⟨202, Tryz.f202, [], Tryz.func202, .mk' Tryz.func202 rfl (by decide)⟩,
 ⟨203, Tryz.f203, [], Tryz.func203, .mk' Tryz.func203 rfl (by decide)⟩,
 ⟨204, Tryz.f204, [], Tryz.func204, .mk' Tryz.func204 rfl (by decide)⟩,
 ⟨205, Tryz.f205, [], Tryz.func205, .mk' Tryz.func205 rfl (by decide)⟩,
 ⟨206, Tryz.f206, [], Tryz.func206, .mk' Tryz.func206 rfl (by decide)⟩,
 ⟨207, Tryz.f207, [], Tryz.func207, .mk' Tryz.func207 rfl (by decide)⟩,
 ⟨208, Tryz.f208, [], Tryz.func208, .mk' Tryz.func208 rfl (by decide)⟩,
 ⟨209, Tryz.f209, [], Tryz.func209, .mk' Tryz.func209 rfl (by decide)⟩,
 ⟨210, Tryz.f210, [], Tryz.func210, .mk' Tryz.func210 rfl (by decide)⟩,
 ⟨211, Tryz.f211, [], Tryz.func211, .mk' Tryz.func211 rfl (by decide)⟩,
 ⟨212, Tryz.f212, [], Tryz.func212, .mk' Tryz.func212 rfl (by decide)⟩,
 ⟨213, Tryz.f213, [], Tryz.func213, .mk' Tryz.func213 rfl (by decide)⟩,
 ⟨214, Tryz.f214, [], Tryz.func214, .mk' Tryz.func214 rfl (by decide)⟩,
 ⟨215, Tryz.f215, [], Tryz.func215, .mk' Tryz.func215 rfl (by decide)⟩,
 ⟨216, Tryz.f216, [], Tryz.func216, .mk' Tryz.func216 rfl (by decide)⟩,
 ⟨217, Tryz.f217, [], Tryz.func217, .mk' Tryz.func217 rfl (by decide)⟩,
 ⟨218, Tryz.f218, [], Tryz.func218, .mk' Tryz.func218 rfl (by decide)⟩,
 ⟨219, Tryz.f219, [], Tryz.func219, .mk' Tryz.func219 rfl (by decide)⟩,
 ⟨220, Tryz.f220, [], Tryz.func220, .mk' Tryz.func220 rfl (by decide)⟩,
 ⟨221, Tryz.f221, [], Tryz.func221, .mk' Tryz.func221 rfl (by decide)⟩,
 ⟨222, Tryz.f222, [], Tryz.func222, .mk' Tryz.func222 rfl (by decide)⟩,
 ⟨223, Tryz.f223, [], Tryz.func223, .mk' Tryz.func223 rfl (by decide)⟩,
 ⟨224, Tryz.f224, [], Tryz.func224, .mk' Tryz.func224 rfl (by decide)⟩,
 ⟨225, Tryz.f225, [], Tryz.func225, .mk' Tryz.func225 rfl (by decide)⟩,
 ⟨226, Tryz.f226, [], Tryz.func226, .mk' Tryz.func226 rfl (by decide)⟩,
 ⟨227, Tryz.f227, [], Tryz.func227, .mk' Tryz.func227 rfl (by decide)⟩,
 ⟨228, Tryz.f228, [], Tryz.func228, .mk' Tryz.func228 rfl (by decide)⟩,
 ⟨229, Tryz.f229, [], Tryz.func229, .mk' Tryz.func229 rfl (by decide)⟩,
 ⟨230, Tryz.f230, [], Tryz.func230, .mk' Tryz.func230 rfl (by decide)⟩,
 ⟨231, Tryz.f231, [], Tryz.func231, .mk' Tryz.func231 rfl (by decide)⟩,
 ⟨232, Tryz.f232, [], Tryz.func232, .mk' Tryz.func232 rfl (by decide)⟩,
 ⟨233, Tryz.f233, [], Tryz.func233, .mk' Tryz.func233 rfl (by decide)⟩,
 ⟨234, Tryz.f234, [], Tryz.func234, .mk' Tryz.func234 rfl (by decide)⟩,
 ⟨235, Tryz.f235, [], Tryz.func235, .mk' Tryz.func235 rfl (by decide)⟩,
 ⟨236, Tryz.f236, [], Tryz.func236, .mk' Tryz.func236 rfl (by decide)⟩,
 ⟨237, Tryz.f237, [], Tryz.func237, .mk' Tryz.func237 rfl (by decide)⟩,
 ⟨238, Tryz.f238, [], Tryz.func238, .mk' Tryz.func238 rfl (by decide)⟩,
 ⟨239, Tryz.f239, [], Tryz.func239, .mk' Tryz.func239 rfl (by decide)⟩,
 ⟨240, Tryz.f240, [], Tryz.func240, .mk' Tryz.func240 rfl (by decide)⟩,
 ⟨241, Tryz.f241, [], Tryz.func241, .mk' Tryz.func241 rfl (by decide)⟩,
 ⟨242, Tryz.f242, [], Tryz.func242, .mk' Tryz.func242 rfl (by decide)⟩,
 ⟨243, Tryz.f243, [], Tryz.func243, .mk' Tryz.func243 rfl (by decide)⟩,
 ⟨244, Tryz.f244, [], Tryz.func244, .mk' Tryz.func244 rfl (by decide)⟩,
 ⟨245, Tryz.f245, [], Tryz.func245, .mk' Tryz.func245 rfl (by decide)⟩,
 ⟨246, Tryz.f246, [], Tryz.func246, .mk' Tryz.func246 rfl (by decide)⟩,
 ⟨247, Tryz.f247, [], Tryz.func247, .mk' Tryz.func247 rfl (by decide)⟩,
 ⟨248, Tryz.f248, [], Tryz.func248, .mk' Tryz.func248 rfl (by decide)⟩,
 ⟨249, Tryz.f249, [], Tryz.func249, .mk' Tryz.func249 rfl (by decide)⟩,
 ⟨250, Tryz.f250, [], Tryz.func250, .mk' Tryz.func250 rfl (by decide)⟩,
 ⟨251, Tryz.f251, [], Tryz.func251, .mk' Tryz.func251 rfl (by decide)⟩,
 ⟨252, Tryz.f252, [], Tryz.func252, .mk' Tryz.func252 rfl (by decide)⟩,
 ⟨253, Tryz.f253, [], Tryz.func253, .mk' Tryz.func253 rfl (by decide)⟩,
 ⟨254, Tryz.f254, [], Tryz.func254, .mk' Tryz.func254 rfl (by decide)⟩,
 ⟨255, Tryz.f255, [], Tryz.func255, .mk' Tryz.func255 rfl (by decide)⟩,
 ⟨256, Tryz.f256, [], Tryz.func256, .mk' Tryz.func256 rfl (by decide)⟩,
 ⟨257, Tryz.f257, [], Tryz.func257, .mk' Tryz.func257 rfl (by decide)⟩,
 ⟨258, Tryz.f258, [], Tryz.func258, .mk' Tryz.func258 rfl (by decide)⟩,
 ⟨259, Tryz.f259, [], Tryz.func259, .mk' Tryz.func259 rfl (by decide)⟩,
 ⟨260, Tryz.f260, [], Tryz.func260, .mk' Tryz.func260 rfl (by decide)⟩,
 ⟨261, Tryz.f261, [], Tryz.func261, .mk' Tryz.func261 rfl (by decide)⟩,
 ⟨262, Tryz.f262, [], Tryz.func262, .mk' Tryz.func262 rfl (by decide)⟩,
 ⟨263, Tryz.f263, [], Tryz.func263, .mk' Tryz.func263 rfl (by decide)⟩,
 ⟨264, Tryz.f264, [], Tryz.func264, .mk' Tryz.func264 rfl (by decide)⟩,
 ⟨265, Tryz.f265, [], Tryz.func265, .mk' Tryz.func265 rfl (by decide)⟩,
 ⟨266, Tryz.f266, [], Tryz.func266, .mk' Tryz.func266 rfl (by decide)⟩]
noncomputable def base : List (Ent Tryz.prog) := [Qm9 59 ⟨_, rfl, rfl, rfl, by kernel_rfl, by kernel_rfl⟩]
def gids : List Nat := [0, 1, 3]
def T0 : List Int := [0, 16, 192, 76, 32, 0, 2, 3, 292, 36, 4]
def T1 : List Int := [1, 10, 100, 1000, 10000, 100000, 1000000, 10000000, 100000000, 1000000000, 10000000000, 100000000000, 1000000000000, 10000000000000, 100000000000000, 1000000000000000, 10000000000000000, 100000000000000000, 1000000000000000000, 10000000000000000000]
def T3 : List Int := [0, 498536548, 997073096, 651767980, 1994146192, 1802195444, 1303535960, 1342533948, 3988292384, 4027552580, 3604390888, 3412177804, 2607071920, 2262029012, 2685067896, 3183342108]
def ys : List XV := [.d (.pa (.int .i64) T0), .d (.pa (.int .u64) T1), .d (.pa (.int .u32) T3)]
noncomputable def law : FI Tryz.prog := ⟨3, Tryz.f3, [], Tryz.func3, .mk' Tryz.func3 rfl (by decide)⟩
theorem Qlx (x : Int) : runI Tryz.prog (Qha mixed base gids 200 tb 40) law 200 gids [.d (.i .i64 x)] ys [] [] true = some ([.d (.b true)], [], [], true) := by kernel_rfl
theorem D_law (x : Int) : DoesG Tryz.prog 3 (asOf [.d (.i .i64 x)]) [(0, (XV.d (.pa (.int .i64) T0)).a), (1, (XV.d (.pa (.int .u64) T1)).a), (3, (XV.d (.pa (.int .u32) T3)).a)] (.d (.sc (.bool true))) := (Qat mixed rfl (Qlx x)).1
end Go.Proofs.Xz
set_option linter.unusedVariables false
set_option linter.unusedSimpArgs false
namespace Go.Ab
open Go.RowKit
def fullγ (w : World) (b : Nat) : Nat :=
 match w.heap[b]? with
 | some (.cells c _ _) => c.size
 | _ => 0
def full (w : World) : Gh := { γ := fullγ w, β := fun _ => none, ρ := fun _ => 0 }
theorem Qhd (w : World) : HR [] (Base.of (full w) w X0) (full w) w X0 := by
 refine ⟨by simp, ?_, Nat.le_refl _, ⟨rfl, rfl, rfl, Nat.le_refl _⟩, .refl _ _, fun _ _ _ => ⟨rfl, rfl⟩, by simp [X0], by simp [X0], by simp [X0], by simp [X0], by simp [X0, full], by simp [full], by simp [full], by simp [full], by simp [full], .off fun _ => rfl⟩
 intro b i hi
 simp only [full, fullγ] at hi
 split at hi
 ·rename_i c T fr h
  rw [cell?_cells h]
  simp [hi]
 ·omega
theorem Does.below {P : Program} {f : FuncId} {args : List AV} {res : AV} (h : Does P f args X0 res X0) {w : World} {vs : Array Value} (hl : args.length = vs.size)
  (ha : ∀ (i : Nat) x v, args[i]? = some x → vs[i]? = some v → RA (full w) w x v) :
  Calls P f vs w fun e w' => ∃ v g', e = .returned v ∧ RA g' w' res v ∧ Below w.heap.size w w' := by
 refine (h (full w) w vs (Qhd w) hl ha).mono ?_
 rintro e w' ⟨g', v, rfl, hr, h1⟩
 refine ⟨v, g', rfl, hr, ⟨h1.io.1, h1.io.2.2.1, h1.io.2.1, h1.base, fun b hb => (h1.frame b hb ?_).1⟩⟩
 rintro (⟨k, o, hk, _⟩ | ⟨n, hn⟩)
 ·simp [X0] at hk
 ·simp [full] at hn
theorem Does.law {P : Program} {f : FuncId} {args : List AV} (h : Does P f args X0 (.d (.sc (.bool true))) X0) {w : World} {vs : Array Value} (hl : args.length = vs.size)
  (ha : ∀ (i : Nat) x v, args[i]? = some x → vs[i]? = some v → RA (full w) w x v) :
  Calls P f vs w fun e w' => e = .returned (.bool true) ∧ Below w.heap.size w w' := by
 refine (h.below hl ha).mono ?_
 rintro e w' ⟨v, g', rfl, hr, hb⟩
 exact ⟨by rw [hr.sc_inv], hb⟩
inductive RAs (g : Gh) (w : World) : List AV → List Value → Prop
 | nil : RAs g w [] []
 | cons {x : AV} {v : Value} {r : List AV} {rs : List Value} : RA g w x v → RAs g w r rs → RAs g w (x :: r) (v :: rs)
theorem RAs.get {g : Gh} {w : World} {l : List AV} {vs : List Value} (h : RAs g w l vs) : l.length = vs.length ∧ ∀ (i : Nat) x v, l[i]? = some x → vs[i]? = some v → RA g w x v := by
 induction h with
 | nil => exact ⟨rfl, by simp⟩
 | cons h _ ih =>
  refine ⟨by simp [ih.1], ?_⟩
  intro i x u hx hu
  cases i with
  | zero => simp at hx hu; subst hx; subst hu; exact h
  | succ i => exact ih.2 i x u (by simpa using hx) (by simpa using hu)
theorem Does.lawAs {P : Program} {f : FuncId} {args : List AV} (h : Does P f args X0 (.d (.sc (.bool true))) X0) {w : World} {vs : Array Value} (ha : RAs (full w) w args vs.toList) :
  Calls P f vs w fun e w' => e = .returned (.bool true) ∧ Below w.heap.size w w' :=
 h.law (by have := ha.get.1; simpa using this) fun i x v hx hv => ha.get.2 i x v hx (by simpa using hv)
theorem Qht {w : World} {b i : Nat} {v : Value} (h : w.cell? ⟨b, i, none⟩ = some v) : i < fullγ w b := by
 unfold World.cell? at h
 unfold fullγ
 simp only at h
 split at h
 ·rename_i c T fr hh
  rw [hh]
  simp at h
  exact (Array.getElem?_eq_some_iff.1 h).1
 ·cases h
end Go.Ab
set_option linter.unusedVariables false
set_option linter.unusedSimpArgs false
namespace Go.Xl
open Go.Ab
def Ty.In : (t : Ty) → t.T → Prop
 | .int k, n => (Lit.int k n).wf = true
 | .u8, _ => True
 | .bool, _ => True
 | .str, l => l.length ≤ maxLen
 | .sl a, l => l.length ≤ maxLen ∧ ∀ x ∈ l, a.In x
 | .unit, _ => True
 | .pair a b, x => a.In x.1 ∧ b.In x.2
 | .st1 a, x => a.In x
 | .tab _, _ => True
 | .err, _ => True
 | .ic _ _, _ => True
 | .ptr, _ => True
def opFs (P : Program) (rec : TypeId → Ty → Bool) : Nat → List Field → Ty → Bool
 | off, [f], .st1 a => cond (Nat.beq f.offset off) (cond (Nat.beq (P.cellsOf f.type) a.size) (rec f.type a) false) false
 | off, [f, g], .pair a b => cond (Nat.beq f.offset off) (cond (Nat.beq (P.cellsOf f.type) a.size) (cond (rec f.type a) (cond (Nat.beq g.offset (off + a.size)) (cond (Nat.beq (P.cellsOf g.type) b.size) (rec g.type b) false) false) false) false) false
 | off, f :: g :: h :: r, .pair a b => cond (Nat.beq f.offset off) (cond (Nat.beq (P.cellsOf f.type) a.size) (cond (rec f.type a) (opFs P rec (off + a.size) (g :: h :: r) b) false) false) false
 | _, _, _ => false
def opB (P : Program) : Nat → TypeId → Ty → Bool
 | 0, _, _ => false
 | n + 1, t, ty =>
  match P.underlying t, ty with
  | some (.int k), .int k' => cond (kindB k k') true false
  | some (.int .u8), .u8 => true
  | some .bool, .bool => true
  | some .string, .str => true
  | some (.slice e), .sl a => cond (Nat.beq (P.cellsOf e) a.size) (cond (Nat.ble 1 a.size) (opB P n e a) false) false
  | some (.struct fs), a => cond a.agg (cond (Nat.beq (P.cellsOf t) a.size) (opFs P (opB P n) 0 fs.toList a) false) false
  | _, _ => false
def Q2m (γ : Nat → Nat) (w : World) (ds : List D) (cs : List Value) : Prop := ds.length = cs.length ∧ ∀ (i : Nat) d v, ds[i]? = some d → cs[i]? = some v → RD γ w d v
theorem Q2m.one {γ : Nat → Nat} {w : World} {d : D} {v : Value} (h : RD γ w d v) : Q2m γ w [d] [v] := by
 refine ⟨rfl, fun i e u he hu => ?_⟩
 cases i with
 | zero => simp at he hu; subst he; subst hu; exact h
 | succ i => simp at he
theorem Q2m.append {γ : Nat → Nat} {w : World} {a b : List D} {cs ds : List Value} (h : Q2m γ w a cs) (h' : Q2m γ w b ds) : Q2m γ w (a ++ b) (cs ++ ds) := by
 refine ⟨by simp [h.1, h'.1], fun i e u he hu => ?_⟩
 rw [List.getElem?_append] at he hu
 rw [← h.1] at hu
 split at he
 ·rename_i hlt
  rw [if_pos hlt] at hu
  exact h.2 i e u he hu
 ·rename_i hge
  rw [if_neg hge] at hu
  exact h'.2 _ e u he hu
theorem cT {a b : Bool} (h : cond a b false = true) : a = true ∧ b = true := by
 cases a <;> simp at h; exact ⟨rfl, h⟩
section
variable {H : Type} {enc : TypeId × Value → H} {P : Program} {W : World}
def OpR (P : Program) (W : World) (H : Type) (enc : TypeId × Value → H) (fuel : Nat) (rec : TypeId → Ty → Bool) : Prop :=
 ∀ (t : TypeId) (ty : Ty) (cs : List Value) (d : DataW H) (ps : List MemPlace), rec t ty = true → DataW.trod enc P W 0 (fun _ => true) true fuel t cs = some (d, ps) →
  ∃ x : ty.T, ty.In x ∧ Q2m (fullγ W) W (ty.ds x) cs
theorem take_split {α : Type} (l : List α) (off a b : Nat) : (l.drop off).take (a + b) = (l.drop off).take a ++ (l.drop (off + a)).take b := by
 rw [List.take_add, List.drop_drop]
theorem Qh2 {fuel : Nat} {rec : TypeId → Ty → Bool} (hr : OpR P W H enc fuel rec) {cs : List Value} : ∀ (fs : List Field) (off : Nat) (ty : Ty), opFs P rec off fs ty = true →
  (∀ f ∈ fs, ∃ y, DataW.trod enc P W 0 (fun _ => true) true fuel f.type ((cs.drop f.offset).take (P.cellsOf f.type)) = some y) →
  ∃ x : ty.T, ty.In x ∧ Q2m (fullγ W) W (ty.ds x) ((cs.drop off).take ty.size)
 | [], off, ty, h, hf => by cases ty <;> simp [opFs] at h
 | [f], off, ty, h, hf => by
  cases ty with
  | st1 a =>
   simp only [opFs] at h
   obtain ⟨h1, h⟩ := cT h
   obtain ⟨h2, h⟩ := cT h
   have h1 := Nat.eq_of_beq_eq_true h1
   have h2 := Nat.eq_of_beq_eq_true h2
   obtain ⟨y, hy⟩ := hf f (by simp)
   rw [h1, h2] at hy
   exact hr f.type a _ _ _ h hy
  | _ => simp [opFs] at h
 | [f, g], off, ty, h, hf => by
  cases ty with
  | pair a b =>
   simp only [opFs] at h
   obtain ⟨h1, h⟩ := cT h
   obtain ⟨h2, h⟩ := cT h
   obtain ⟨h3, h⟩ := cT h
   obtain ⟨h4, h⟩ := cT h
   obtain ⟨h5, h⟩ := cT h
   have h1 := Nat.eq_of_beq_eq_true h1
   have h2 := Nat.eq_of_beq_eq_true h2
   have h4 := Nat.eq_of_beq_eq_true h4
   have h5 := Nat.eq_of_beq_eq_true h5
   obtain ⟨y, hy⟩ := hf f (by simp)
   obtain ⟨z, hz⟩ := hf g (by simp)
   rw [h1, h2] at hy
   rw [h4, h5] at hz
   obtain ⟨x1, i1, c1⟩ := hr _ _ _ _ _ h3 hy
   obtain ⟨x2, i2, c2⟩ := hr _ _ _ _ _ h hz
   refine ⟨(x1, x2), ⟨i1, i2⟩, ?_⟩
   simp only [Ty.ds, Ty.size]
   rw [take_split]
   exact c1.append c2
  | _ => simp [opFs] at h
 | f :: g :: k :: r, off, ty, h, hf => by
  cases ty with
  | pair a b =>
   simp only [opFs] at h
   obtain ⟨h1, h⟩ := cT h
   obtain ⟨h2, h⟩ := cT h
   obtain ⟨h3, h⟩ := cT h
   have h1 := Nat.eq_of_beq_eq_true h1
   have h2 := Nat.eq_of_beq_eq_true h2
   obtain ⟨y, hy⟩ := hf f (by simp)
   rw [h1, h2] at hy
   obtain ⟨x1, i1, c1⟩ := hr _ _ _ _ _ h3 hy
   obtain ⟨x2, i2, c2⟩ := Qh2 hr (g :: k :: r) (off + a.size) b h (fun q hq => hf q (List.mem_cons_of_mem _ hq))
   refine ⟨(x1, x2), ⟨i1, i2⟩, ?_⟩
   simp only [Ty.ds, Ty.size]
   rw [take_split]
   exact c1.append c2
  | _ => simp [opFs] at h
theorem Qge {α β : Type} (p : Nat → β → α → Prop) : ∀ (l : List β), (∀ i y, l[i]? = some y → ∃ x, p i y x) → ∃ xs : List α, xs.length = l.length ∧ ∀ i y x, l[i]? = some y → xs[i]? = some x → p i y x := by
 intro l
 induction l generalizing p with
 | nil => intro _; exact ⟨[], rfl, by simp⟩
 | cons a r ih =>
  intro h
  obtain ⟨x, hx⟩ := h 0 a rfl
  obtain ⟨xs, h1, h2⟩ := ih (fun i => p (i + 1)) (fun i y hy => h (i + 1) y (by simpa using hy))
  refine ⟨x :: xs, by simp [h1], fun i y z hy hz => ?_⟩
  cases i with
  | zero => simp at hy hz; subst hy; subst hz; exact hx
  | succ i => exact h2 i y z (by simpa using hy) (by simpa using hz)
theorem Q6r : ∀ (n fuel : Nat), OpR P W H enc fuel (opB P n)
 | 0, fuel => by intro t ty cs d ps ho; simp [opB] at ho
 | n + 1, fuel => by
  intro t ty cs d ps ho h
  unfold opB at ho
  split at ho
  ·rename_i k k' hu
   obtain ⟨hk, _⟩ := cT ho
   have := Qt hk
   subst this
   obtain ⟨m, rfl, _, hw⟩ := DataW.trod_int hu h
   exact ⟨m, hw, .one (.sc _)⟩
  ·rename_i hu
   obtain ⟨m, rfl, _, hw⟩ := DataW.trod_int hu h
   have hm : 0 ≤ m ∧ m ≤ 255 := by simpa [Lit.wf, IntKind.wrap, IntKind.bits, IntKind.signed, IntKind.min, IntKind.max] using hw
   refine ⟨UInt8.ofNat m.toNat, trivial, .one ?_⟩
   have : (((UInt8.ofNat m.toNat).toNat : Nat) : Int) = m := by
    rw [UInt8.toNat_ofNat']; omega
   rw [this]
   exact .sc _
  ·rename_i hu
   obtain ⟨b, rfl, _⟩ := DataW.trod_bool hu h
   exact ⟨b, trivial, .one (.sc _)⟩
  ·rename_i hu
   obtain ⟨s, rfl, _, hw⟩ := DataW.trod_string hu h
   exact ⟨s.data.toList, by simpa [Ty.In] using hw, .one (.sc _)⟩
  ·rename_i e a hu
   obtain ⟨h1, ho⟩ := cT ho
   obtain ⟨h2, ho⟩ := cT ho
   have h1 := Nat.eq_of_beq_eq_true h1
   have h2 := Nat.le_of_ble_eq_true h2
   rcases DataW.trod_slice hu h with ⟨rfl, _⟩ | ⟨ad, len, cap, elems, rest, m, rfl, rfl, _, hb, hl, hc, hel, hcell, _, _⟩
   ·exact ⟨[], ⟨by simp, by simp⟩, .one (.nil _ _ _ fun _ => rfl)⟩
   ·have key : ∀ i y, (List.range len)[i]? = some y → ∃ x : a.T, a.In x ∧ ∃ cs', cs'.length = a.size ∧ Q2m (fullγ W) W (a.ds x) cs' ∧ ∀ j, j < a.size → W.cell? ((ad.add (i * a.size)).add j) = cs'[j]? := by
     intro i y hi
     have hlt : i < len := by have := (List.getElem?_eq_some_iff.1 hi).1; simpa using this
     have hc := hcell i hlt
     obtain ⟨z, hz⟩ : ∃ z, elems[i]? = some z := ⟨_, List.getElem?_eq_getElem (by omega)⟩
     rw [hz, Option.bind_eq_some_iff, h1] at hc
     obtain ⟨cs', hc1, hc2⟩ := hc
     obtain ⟨_, hcl, hcc⟩ := World.cells?_some hc1
     obtain ⟨x, hx1, hx2⟩ := Q6r n m _ _ _ _ _ ho hc2
     exact ⟨x, hx1, cs', hcl, hx2, hcc⟩
    obtain ⟨xs, hxl, hx⟩ := Qge _ _ key
    rw [List.length_range] at hxl
    have hxs : ∀ i x, xs[i]? = some x → a.In x ∧ ∃ cs', cs'.length = a.size ∧ Q2m (fullγ W) W (a.ds x) cs' ∧ ∀ j, j < a.size → W.cell? ((ad.add (i * a.size)).add j) = cs'[j]? := by
     intro i x hi
     have hlt : i < len := by have := (List.getElem?_eq_some_iff.1 hi).1; omega
     exact hx i i x (by simp [hlt]) hi
    refine ⟨xs, ⟨by omega, fun x hm => ?_⟩, .one ?_⟩
    ·obtain ⟨i, hi⟩ := List.mem_iff_getElem?.1 hm
     exact (hxs i x hi).1
    ·rcases Nat.eq_zero_or_pos len with h0 | h0
     ·have : xs = [] := List.eq_nil_of_length_eq_zero (by omega)
      subst this
      subst h0
      exact .nil _ (some ad) cap (by simp)
     ·have spot : ad.spot = none := by
       obtain ⟨x0, hx0⟩ : ∃ z, xs[0]? = some z := ⟨_, List.getElem?_eq_getElem (by omega)⟩
       obtain ⟨_, cs', hl', _, hc'⟩ := hxs 0 x0 hx0
       have := hc' 0 (by omega)
       rw [List.getElem?_eq_getElem (by omega)] at this
       have := World.cell?_spot this
       simpa [Addr.add] using this
      obtain ⟨b, off, sp⟩ := ad
      simp only at spot
      subst spot
      have hcell' : ∀ i x, xs[i]? = some x → ∃ cs', cs'.length = a.size ∧ Q2m (fullγ W) W (a.ds x) cs' ∧ ∀ j, j < a.size → W.cell? ⟨b, off + (i * a.size + j), none⟩ = cs'[j]? := by
       intro i x hi
       obtain ⟨_, cs', hl', hd', hc'⟩ := hxs i x hi
       refine ⟨cs', hl', hd', fun j hj => ?_⟩
       have := hc' j hj
       rwa [WideShapes.add_plain, WideShapes.add_plain, Nat.add_assoc] at this
      refine .ofCells' (by simp [hxl]) ?_ hl ?_ ?_
      ·obtain ⟨x, hx⟩ : ∃ z, xs[len - 1]? = some z := ⟨_, List.getElem?_eq_getElem (by omega)⟩
       obtain ⟨cs', hl', _, hc'⟩ := hcell' (len - 1) x hx
       have := hc' (a.size - 1) (by omega)
       rw [List.getElem?_eq_getElem (by omega)] at this
       have := Qht this
       have e : len * a.size = (len - 1) * a.size + a.size := by
        rw [← Nat.succ_mul]; congr 1; omega
       show off + len * a.size ≤ fullγ W b
       omega
      ·intro i cs hi
       rw [List.getElem?_map, Option.map_eq_some_iff] at hi
       obtain ⟨x, _, rfl⟩ := hi
       exact a.ds_length x
      ·intro i j cs c u hi hj hu
       rw [List.getElem?_map, Option.map_eq_some_iff] at hi
       obtain ⟨x, hx, rfl⟩ := hi
       obtain ⟨cs', hl', hd', hc'⟩ := hcell' i x hx
       have hjl : j < a.size := by have := (List.getElem?_eq_some_iff.1 hj).1; rwa [a.ds_length] at this
       rw [hc' j hjl] at hu
       exact hd'.2 j c u hj hu
  ·rename_i fs hu
   obtain ⟨_, ho⟩ := cT ho
   obtain ⟨h2, ho⟩ := cT ho
   have h2 := Nat.eq_of_beq_eq_true h2
   obtain ⟨xs, m, rfl, _, hl, hxl, hall⟩ := DataW.trod_struct hu h
   obtain ⟨x, hx1, hx2⟩ := Qh2 (Q6r n m) (cs := cs) fs.toList 0 _ ho (by
    intro f hf
    obtain ⟨i, hi⟩ := List.mem_iff_getElem?.1 hf
    have hi' : fs[i]? = some f := by simpa using hi
    have := hall i f hi'
    rw [this]
    have hlt := (Array.getElem?_eq_some_iff.1 hi').1
    exact ⟨_, List.getElem?_eq_getElem (by omega)⟩)
   refine ⟨x, hx1, ?_⟩
   rw [List.drop_zero, List.take_of_length_le (by omega)] at hx2
   exact hx2
  ·cases ho
theorem open_arg {b0 n : Nat} {t : TypeId} {ty : Ty} {v : Value} {d : DataW H} {ps : List MemPlace} (ho : opB P n t ty = true) (hv : Value.okWide P W .any b0 t v)
  (h : DataW.Trod enc P W 0 (fun _ => true) true t v d ps) : ∃ x : ty.T, ty.In x ∧ RA (full W) W (XV.d (ty.xv x)).a v := by
 obtain ⟨fuel, hf⟩ := h
 obtain ⟨x, h1, h2⟩ := Q6r n fuel _ _ _ _ _ ho hf
 refine ⟨x, h1, .d _ _ ?_⟩
 show RD (fullγ W) W (ty.dv x) v
 cases hagg : ty.agg with
 | true =>
  rw [ty.dv_agg x hagg]
  have : ∃ fs, P.underlying t = some (.struct fs) := by
   cases n with
   | zero => simp [opB] at ho
   | succ n =>
    unfold opB at ho
    split at ho <;> simp_all [Ty.agg]
  obtain ⟨fs, hu⟩ := this
  obtain ⟨cs, rfl, _⟩ := WideShapes.okWide_struct hu hv
  simp only [Value.cells] at h2
  exact .agg _ _ (by simpa using h2.1) fun i c u hc hu => h2.2 i c u hc (by simpa using hu)
 | false =>
  rw [ty.dv_one x hagg] at h2
  have hv' : v.cells = #[v] := by
   have := h2.1
   cases v with
   | agg cs =>
    exfalso
    cases n with
    | zero => simp [opB] at ho
    | succ n =>
     unfold opB at ho
     split at ho
     ·rename_i hu; obtain ⟨_, e⟩ := WideShapes.okWide_int hu hv; cases e
     ·rename_i hu; obtain ⟨_, e⟩ := WideShapes.okWide_int hu hv; cases e
     ·rename_i hu; obtain ⟨_, e⟩ := WideShapes.okWide_bool hu hv; cases e
     ·rename_i hu; obtain ⟨_, e⟩ := WideShapes.okWide_string hu hv; cases e
     ·rename_i hu; obtain ⟨_, _, _, e⟩ := WideShapes.okWide_slice hu hv; cases e
     ·rw [hagg] at ho; simp at ho
     ·cases ho
   | _ => rfl
  rw [hv'] at h2
  exact h2.2 0 _ _ rfl rfl
end
end Go.Xl
set_option linter.unusedVariables false
set_option linter.unusedSimpArgs false
namespace Go.Xl
open Go.Ab Go.RowKit
def litV : Lit → Value
 | .bool b => .bool b
 | .int k n => .int k n
 | .string s => .string ⟨s.toArray⟩
 | .float k b => .float k b
 | .nil => .nilIface
theorem Qll {H : Type} {enc : TypeId × Value → H} {P : Program} {w : World} {base : Nat} {sp : Nat → Bool} {held : Bool} {fuel : Nat} {t : TypeId} {cs : List Value} {l : Lit} {p : List MemPlace}
  (h : DataW.trod enc P w base sp held fuel t cs = some (.lit l, p)) : cs = [litV l] := by
 cases fuel with
 | zero => simp [DataW.trod] at h
 | succ m =>
  unfold DataW.trod at h
  split at h <;> simp_all [litV, Option.map_eq_some_iff, Option.bind_eq_some_iff]
  all_goals first
   | (obtain ⟨_, h, _⟩ := h; subst h; rfl)
   | (obtain ⟨h, _⟩ := h; subst h; rfl)
   | (subst h; rfl)
   | (split at h <;> simp_all [Option.bind_eq_some_iff, Option.map_eq_some_iff] <;> (try (obtain ⟨_, _, _, _, h⟩ := h; split at h <;> simp_all)))
   | skip
theorem Qib {H : Type} {enc : TypeId × Value → H} {P : Program} {w : World} {base : Nat} {sp : Nat → Bool} {held : Bool} {fuel : Nat} {t e : TypeId} {n : Nat} {cs : List Value} {ls : List Lit} {p : List MemPlace}
  (ht : P.underlying t = some (.array n e)) (he : P.cellsOf e = 1) (hn : P.cellsOf t = ls.length) (hn' : n = ls.length) (h : DataW.trod enc P w base sp held fuel t cs = some (.agg (ls.map .lit), p)) : cs = ls.map litV := by
 obtain ⟨xs, m, rfl, hx, hl, hxl, hc⟩ := DataW.trod_array ht h
 simp only [Prod.mk.injEq, DataW.agg.injEq] at hx
 apply List.ext_getElem?
 intro i
 by_cases hi : i < ls.length
 ·have h1 := hc i (by omega)
  have h2 : (xs.map (·.1))[i]? = (ls.map DataW.lit)[i]? := by rw [← hx.1]
  rw [List.getElem?_eq_getElem (l := xs) (by omega)] at h1
  simp only [List.getElem?_map, List.getElem?_eq_getElem (l := xs) (show i < xs.length by omega), List.getElem?_eq_getElem hi, Option.map_some, Option.some.injEq] at h2
  generalize xs[i] = x at h1 h2
  obtain ⟨x1, x2⟩ := x
  simp only at h2
  subst h2
  have := Qll h1
  rw [he, Nat.mul_one] at this
  have hd : (cs.drop i)[0]? = some (litV ls[i]) := by
   have h3 : ((cs.drop i).take 1)[0]? = some (litV ls[i]) := by rw [this]; rfl
   simpa using h3
  simp only [List.getElem?_drop, Nat.add_zero] at hd
  rw [hd]
  simp [hi]
 ·rw [List.getElem?_eq_none (by omega), List.getElem?_eq_none (by simpa using hi)]
def litOf : (ty : Ty) → ty.T → Lit
 | .int k, n => .int k n
 | .u8, x => .int .u8 (x.toNat : Int)
 | .bool, b => .bool b
 | .str, l => .string l
 | _, _ => .nil
def scTy : Ty → Bool
 | .int _ | .u8 | .bool | .str => true
 | _ => false
theorem sc_ds {ty : Ty} (h : scTy ty = true) (x : ty.T) : ty.ds x = [.sc (litV (litOf ty x))] := by
 cases ty <;> simp [scTy] at h <;> rfl
theorem Qhc {ty : Ty} (h : scTy ty = true) : ∀ (l : List ty.T), (l.map ty.ds).flatten = l.map fun x => .sc (litV (litOf ty x))
 | [] => rfl
 | x :: r => by rw [List.map_cons, List.flatten_cons, Qhc h r, sc_ds h x]; rfl
theorem laid_tab {P : Program} {laid : List (String × DataW Unit)} {w : World} (h : laidMetH P laid w) (n : String) (g t e k : Nat) (ty : Ty) (l : List ty.T)
  (hf : laid.filter (fun x => x.1 == n) = [(n, .agg (l.map fun x => .lit (litOf ty x)))]) (hg : P.globalNamed n = some g) (ht : (P.globals[g]?).map (·.type) = some t)
  (hu : P.underlying t = some (.array k e)) (he : P.cellsOf e = 1) (hn : P.cellsOf t = k) (hk : k = l.length) (hs : scTy ty = true) :
  RA (full w) w (XV.d (.pa ty l)).a (.pointer (some ⟨g, 0, none⟩)) := by
 have h1 := h.filter (fun x => x.1 == n)
 rw [hf] at h1
 have h2 : laidMet P [(n, .agg (l.map fun x => .lit (litOf ty x)))] w := h1
 obtain ⟨ps, hl, _, _⟩ := h2
 obtain ⟨g', t', cs, fuel, p, q, e1, e2, e3, e4, _, _⟩ := hl
 rw [hg] at e1
 cases e1
 rw [ht] at e2
 cases e2
 have e4' : DataW.trod (fun _ => ()) P w 0 (fun _ => true) false fuel t cs.toList = some (.agg ((l.map (litOf ty)).map .lit), p) := by
  rw [List.map_map]; exact e4
 have hc := Qib (ls := l.map (litOf ty)) hu he (by simp; omega) (by simp; omega) e4'
 have hcell : ∀ i, w.cell? ⟨g, i, none⟩ = (l.map fun x => litV (litOf ty x))[i]? := by
  intro i
  rw [World.var?_cell hg e3 i, ← Array.getElem?_toList, hc, List.map_map]; rfl
 refine .d _ _ ?_
 show RD (fullγ w) w (.ep ((l.map ty.ds).flatten)) _
 rw [Qhc hs]
 refine .ep _ _ _ ?_ ?_
 ·rw [Nat.zero_add, List.length_map]
  have h0 : w.heap[g]? = some (.cells cs ((w.heap[g]?).elim 0 (fun b => match b with | .cells _ t _ => t | _ => 0)) ((w.heap[g]?).elim (0, 0) (fun b => match b with | .cells _ _ f => f | _ => (0, 0)))) := by
   unfold World.var? at e3
   rw [hg, Option.bind_some] at e3
   split at e3
   ·rename_i cs' T fr hh
    cases e3
    rw [hh]; rfl
   ·cases e3
  unfold fullγ
  rw [h0]
  have : cs.toList.length = l.length := by rw [hc]; simp
  simp at this
  simp [this]
 ·intro j c v hc1 hc2
  rw [Nat.zero_add, hcell j] at hc2
  simp only [List.getElem?_map, Option.map_eq_some_iff] at hc1 hc2
  obtain ⟨x, hx, rfl⟩ := hc1
  obtain ⟨y, hy, rfl⟩ := hc2
  rw [hx] at hy
  cases hy
  exact .sc _
theorem DoesG.lawAs {P : Program} {f : FuncId} {args : List AV} {gs : List (Nat × AV)} (h : DoesG P f args gs (.d (.sc (.bool true)))) {w : World} {vs : Array Value} (ha : RAs (full w) w args vs.toList) (hg : GHold (full w) w gs) :
  Calls P f vs w fun e w' => e = .returned (.bool true) ∧ Below w.heap.size w w' := by
 refine (h (full w) w vs (Qhd w) hg (by have := ha.get.1; simpa using this) fun i x v hx hv => ha.get.2 i x v hx (by simpa using hv)).mono ?_
 rintro e w' ⟨g', v, rfl, hr, h1⟩
 refine ⟨by rw [hr.sc_inv], ⟨h1.io.1, h1.io.2.2.1, h1.io.2.1, h1.base, fun b hb => (h1.frame b hb ?_).1⟩⟩
 rintro (⟨k, o, hk, _⟩ | ⟨n, hn⟩)
 ·simp [X0] at hk
 ·simp [full] at hn
theorem GHold.nil (g : Gh) (w : World) : GHold g w [] := by intro p hp; cases hp
theorem GHold.cons {g : Gh} {w : World} {k : Nat} {a : AV} {gs : List (Nat × AV)} (h : RA g w a (.pointer (some ⟨k, 0, none⟩))) (h' : GHold g w gs) : GHold g w ((k, a) :: gs) := by
 intro p hp
 rcases List.mem_cons.1 hp with rfl | hp
 ·exact h
 ·exact h' p hp
end Go.Xl
