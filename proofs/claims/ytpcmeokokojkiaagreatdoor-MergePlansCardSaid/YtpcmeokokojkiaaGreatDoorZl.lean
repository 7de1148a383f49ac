import Derived.Test.YtpcmeokokojkiaaGreatDoorZk
import Derived.KernelRfl
set_option maxRecDepth 1000000
set_option linter.unusedVariables false
namespace Go.Proofs.Xw
open Go Go.Xl Go.Ab Go.Proofs
noncomputable def in10:Inp:=⟨[(.nm 3 (.p 0)),(.d e4),(.d (.u8 (.ofNat 4))),v18],ys,[(0,o19),(1,o20),(2,(.cells [(.d e21),(.nm 1 .m),(.d (.v (.map none)))] (some 191))),(3,(.cells [(.d (.u8 (.ofNat 3))),(.d (.u8 (.ofNat 2))),(.d (.i .u16 (.ofNat 1))),(.d (.i .u64 (.ofNat 2))),(.d (.i .u64 (.ofNat 1))),(.d (.i .u64 (.ofNat 9))),(.nm 0 (.p 0)),(.d (.v (.slice none 0 0))),(.nm 2 (.p 0))] (some 128)))],[],true⟩
noncomputable def out10:Res:=⟨[v25,(.d (.i .i64 (.ofNat 0)))],[(0,o19),(1,o20),(2,(.cells [(.d e21),(.nm 1 .m),(.d (.v (.map none)))] (some 191))),(3,(.cells [(.d (.u8 (.ofNat 3))),(.d (.u8 (.ofNat 2))),(.d (.i .u16 (.ofNat 1))),(.d (.i .u64 (.ofNat 2))),(.d (.i .u64 (.ofNat 1))),(.d (.i .u64 (.ofNat 9))),(.nm 0 (.p 0)),(.d (.v (.slice none 0 0))),(.nm 2 (.p 0))] (some 128)))],[],true⟩
theorem m10:runK (runI Tryz.prog (inlE mixed base gids 200 tb cs 40 34) (tb 34) 200 gids) in10 out10=true:=by kernel_rfl
noncomputable def Q71:Memo (runI Tryz.prog (inlE mixed base gids 200 tb cs 40 34) (tb 34) 200 gids):=⟨in10,out10,Qp m10⟩
end Go.Proofs.Xw
