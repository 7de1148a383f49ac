import Derived.Test.YtpcmeokokojkiaaGreatDoorZm
import Derived.KernelRfl
set_option maxRecDepth 1000000
set_option linter.unusedVariables false
namespace Go.Proofs.Xw
open Go Go.Xl Go.Ab Go.Proofs
noncomputable def in20:Inp:=⟨[(.nm 3 (.p 0)),(.d e11)],ys,[(0,o30),(1,o29),(2,(.cells [(.d e28),(.nm 1 .m),(.d (.v (.map none)))] (some 191))),(3,(.cells [(.d (.u8 (.ofNat 3))),(.d (.u8 (.ofNat 2))),(.d (.i .u16 (.ofNat 1))),(.d (.i .u64 (.ofNat 2))),(.d (.i .u64 (.ofNat 1))),(.d (.i .u64 (.ofNat 9))),(.nm 0 (.p 0)),(.d (.v (.slice none 0 0))),(.nm 2 (.p 0))] (some 128)))],[],true⟩
noncomputable def out20:Res:=⟨[(.d (.i .i64 (.ofNat 0)))],[(0,o30),(1,o29),(2,(.cells [(.d e28),(.nm 1 .m),(.d (.v (.map none)))] (some 191))),(3,(.cells [(.d (.u8 (.ofNat 3))),(.d (.u8 (.ofNat 2))),(.d (.i .u16 (.ofNat 1))),(.d (.i .u64 (.ofNat 2))),(.d (.i .u64 (.ofNat 1))),(.d (.i .u64 (.ofNat 9))),(.nm 0 (.p 0)),(.d (.v (.slice none 0 0))),(.nm 2 (.p 0))] (some 128)))],[],true⟩
theorem m20:runK (runI Tryz.prog (inlE mixed base gids 200 tb cs 40 80) (tb 80) 200 gids) in20 out20=true:=by kernel_rfl
noncomputable def Qb9:Memo (runI Tryz.prog (inlE mixed base gids 200 tb cs 40 80) (tb 80) 200 gids):=⟨in20,out20,Qp m20⟩
end Go.Proofs.Xw
