/- The code of the functions that are reached, reckoned from the program's text, and each checked against it. -/
import Derived.Test.YtbdjmicabfclcaaGreatDoorLeE
import Derived.Test.YtbdjmicabfclcaaGreatDoorLeG
import Derived.Test.YtbdjmicabfclcaaGreatDoorProg
import Derived.KernelRfl
set_option linter.unusedVariables false
set_option linter.unusedSimpArgs false
namespace Tb
open Go Go.LE
set_option maxRecDepth 100000
set_option maxHeartbeats 0
attribute [local irreducible] cB8 cB32 cB64 cNat cI cBo cNil cNilP cStr cRep cApp
noncomputable def L3:LFun:=(⟨_,by conv=>rhs; reduce; try simp (disch:=decide) only[qaC,qax,qay,qas,qaH,qaB,qat,qao,qau,qav,qaw]⟩:{x // x=lf [] [] (cuF Go.Proofs.Tryz.prog Go.Proofs.Tryz.f3)}).1
noncomputable def L4:LFun:=(⟨_,by conv=>rhs; reduce; try simp (disch:=decide) only[qaC,qax,qay,qas,qaH,qaB,qat,qao,qau,qav,qaw]⟩:{x // x=lf [] [] (cuF Go.Proofs.Tryz.prog Go.Proofs.Tryz.f4)}).1
noncomputable def L5:LFun:=(⟨_,by conv=>rhs; reduce; try simp (disch:=decide) only[qaC,qax,qay,qas,qaH,qaB,qat,qao,qau,qav,qaw]⟩:{x // x=lf [] [] (cuF Go.Proofs.Tryz.prog Go.Proofs.Tryz.f5)}).1
noncomputable def L6:LFun:=(⟨_,by conv=>rhs; reduce; try simp (disch:=decide) only[qaC,qax,qay,qas,qaH,qaB,qat,qao,qau,qav,qaw]⟩:{x // x=lf [] [] (cuF Go.Proofs.Tryz.prog Go.Proofs.Tryz.f6)}).1
noncomputable def L7:LFun:=(⟨_,by conv=>rhs; reduce; try simp (disch:=decide) only[qaC,qax,qay,qas,qaH,qaB,qat,qao,qau,qav,qaw]⟩:{x // x=lf [] [] (cuF Go.Proofs.Tryz.prog Go.Proofs.Tryz.f7)}).1
noncomputable def L8:LFun:=(⟨_,by conv=>rhs; reduce; try simp (disch:=decide) only[qaC,qax,qay,qas,qaH,qaB,qat,qao,qau,qav,qaw]⟩:{x // x=lf [] [] (cuF Go.Proofs.Tryz.prog Go.Proofs.Tryz.f8)}).1
noncomputable def L9:LFun:=(⟨_,by conv=>rhs; reduce; try simp (disch:=decide) only[qaC,qax,qay,qas,qaH,qaB,qat,qao,qau,qav,qaw]⟩:{x // x=lf [] [] (cuF Go.Proofs.Tryz.prog Go.Proofs.Tryz.f9)}).1
noncomputable def L10:LFun:=(⟨_,by conv=>rhs; reduce; try simp (disch:=decide) only[qaC,qax,qay,qas,qaH,qaB,qat,qao,qau,qav,qaw]⟩:{x // x=lf [] [] (cuF Go.Proofs.Tryz.prog Go.Proofs.Tryz.f10)}).1
noncomputable def L11:LFun:=(⟨_,by conv=>rhs; reduce; try simp (disch:=decide) only[qaC,qax,qay,qas,qaH,qaB,qat,qao,qau,qav,qaw]⟩:{x // x=lf [] [] (cuF Go.Proofs.Tryz.prog Go.Proofs.Tryz.f11)}).1
noncomputable def L12:LFun:=(⟨_,by conv=>rhs; reduce; try simp (disch:=decide) only[qaC,qax,qay,qas,qaH,qaB,qat,qao,qau,qav,qaw]⟩:{x // x=lf [] [] (cuF Go.Proofs.Tryz.prog Go.Proofs.Tryz.f12)}).1
noncomputable def L13k0:List Bool:=(⟨_,by conv=>rhs; reduce⟩:{x // x=lk (cuF Go.Proofs.Tryz.prog Go.Proofs.Tryz.f13) 0}).1
noncomputable def L13b0:LCode:=(⟨_,by conv=>rhs; reduce; try simp (disch:=decide) only[qaC,qax,qay,qas,qaH,qaB,qat,qao,qau,qav,qaw]⟩:{x // x=lb [] [] (cuF Go.Proofs.Tryz.prog Go.Proofs.Tryz.f13) 0}).1
attribute [local irreducible] L13k0 L13b0
noncomputable def L13k1:List Bool:=(⟨_,by conv=>rhs; reduce⟩:{x // x=lk (cuF Go.Proofs.Tryz.prog Go.Proofs.Tryz.f13) 1}).1
noncomputable def L13b1:LCode:=(⟨_,by conv=>rhs; reduce; try simp (disch:=decide) only[qaC,qax,qay,qas,qaH,qaB,qat,qao,qau,qav,qaw]⟩:{x // x=lb [L13k0] [L13b0] (cuF Go.Proofs.Tryz.prog Go.Proofs.Tryz.f13) 1}).1
attribute [local irreducible] L13k1 L13b1
noncomputable def L13:LFun:=(⟨_,by conv=>rhs; reduce; try simp (disch:=decide) only[qaC,qax,qay,qas,qaH,qaB,qat,qao,qau,qav,qaw]⟩:{x // x=lf [L13k0,L13k1] [L13b0,L13b1] (cuF Go.Proofs.Tryz.prog Go.Proofs.Tryz.f13)}).1
noncomputable def L14:LFun:=(⟨_,by conv=>rhs; reduce; try simp (disch:=decide) only[qaC,qax,qay,qas,qaH,qaB,qat,qao,qau,qav,qaw]⟩:{x // x=lf [] [] (cuF Go.Proofs.Tryz.prog Go.Proofs.Tryz.f14)}).1
noncomputable def L15:LFun:=(⟨_,by conv=>rhs; reduce; try simp (disch:=decide) only[qaC,qax,qay,qas,qaH,qaB,qat,qao,qau,qav,qaw]⟩:{x // x=lf [] [] (cuF Go.Proofs.Tryz.prog Go.Proofs.Tryz.f15)}).1
noncomputable def L16:LFun:=(⟨_,by conv=>rhs; reduce; try simp (disch:=decide) only[qaC,qax,qay,qas,qaH,qaB,qat,qao,qau,qav,qaw]⟩:{x // x=lf [] [] (cuF Go.Proofs.Tryz.prog Go.Proofs.Tryz.f16)}).1
noncomputable def L17:LFun:=(⟨_,by conv=>rhs; reduce; try simp (disch:=decide) only[qaC,qax,qay,qas,qaH,qaB,qat,qao,qau,qav,qaw]⟩:{x // x=lf [] [] (cuF Go.Proofs.Tryz.prog Go.Proofs.Tryz.f17)}).1
noncomputable def L18:LFun:=(⟨_,by conv=>rhs; reduce; try simp (disch:=decide) only[qaC,qax,qay,qas,qaH,qaB,qat,qao,qau,qav,qaw]⟩:{x // x=lf [] [] (cuF Go.Proofs.Tryz.prog Go.Proofs.Tryz.f18)}).1
noncomputable def L19:LFun:=(⟨_,by conv=>rhs; reduce; try simp (disch:=decide) only[qaC,qax,qay,qas,qaH,qaB,qat,qao,qau,qav,qaw]⟩:{x // x=lf [] [] (cuF Go.Proofs.Tryz.prog Go.Proofs.Tryz.f19)}).1
noncomputable def L20:LFun:=(⟨_,by conv=>rhs; reduce; try simp (disch:=decide) only[qaC,qax,qay,qas,qaH,qaB,qat,qao,qau,qav,qaw]⟩:{x // x=lf [] [] (cuF Go.Proofs.Tryz.prog Go.Proofs.Tryz.f20)}).1
noncomputable def L21k0:List Bool:=(⟨_,by conv=>rhs; reduce⟩:{x // x=lk (cuF Go.Proofs.Tryz.prog Go.Proofs.Tryz.f21) 0}).1
noncomputable def L21b0:LCode:=(⟨_,by conv=>rhs; reduce; try simp (disch:=decide) only[qaC,qax,qay,qas,qaH,qaB,qat,qao,qau,qav,qaw]⟩:{x // x=lb [] [] (cuF Go.Proofs.Tryz.prog Go.Proofs.Tryz.f21) 0}).1
attribute [local irreducible] L21k0 L21b0
noncomputable def L21:LFun:=(⟨_,by conv=>rhs; reduce; try simp (disch:=decide) only[qaC,qax,qay,qas,qaH,qaB,qat,qao,qau,qav,qaw]⟩:{x // x=lf [L21k0] [L21b0] (cuF Go.Proofs.Tryz.prog Go.Proofs.Tryz.f21)}).1
noncomputable def L22:LFun:=(⟨_,by conv=>rhs; reduce; try simp (disch:=decide) only[qaC,qax,qay,qas,qaH,qaB,qat,qao,qau,qav,qaw]⟩:{x // x=lf [] [] (cuF Go.Proofs.Tryz.prog Go.Proofs.Tryz.f22)}).1
noncomputable def L23:LFun:=(⟨_,by conv=>rhs; reduce; try simp (disch:=decide) only[qaC,qax,qay,qas,qaH,qaB,qat,qao,qau,qav,qaw]⟩:{x // x=lf [] [] (cuF Go.Proofs.Tryz.prog Go.Proofs.Tryz.f23)}).1
noncomputable def L24:LFun:=(⟨_,by conv=>rhs; reduce; try simp (disch:=decide) only[qaC,qax,qay,qas,qaH,qaB,qat,qao,qau,qav,qaw]⟩:{x // x=lf [] [] (cuF Go.Proofs.Tryz.prog Go.Proofs.Tryz.f24)}).1
noncomputable def L25k0:List Bool:=(⟨_,by conv=>rhs; reduce⟩:{x // x=lk (cuF Go.Proofs.Tryz.prog Go.Proofs.Tryz.f25) 0}).1
noncomputable def L25b0:LCode:=(⟨_,by conv=>rhs; reduce; try simp (disch:=decide) only[qaC,qax,qay,qas,qaH,qaB,qat,qao,qau,qav,qaw]⟩:{x // x=lb [] [] (cuF Go.Proofs.Tryz.prog Go.Proofs.Tryz.f25) 0}).1
attribute [local irreducible] L25k0 L25b0
noncomputable def L25:LFun:=(⟨_,by conv=>rhs; reduce; try simp (disch:=decide) only[qaC,qax,qay,qas,qaH,qaB,qat,qao,qau,qav,qaw]⟩:{x // x=lf [L25k0] [L25b0] (cuF Go.Proofs.Tryz.prog Go.Proofs.Tryz.f25)}).1
noncomputable def L26:LFun:=(⟨_,by conv=>rhs; reduce; try simp (disch:=decide) only[qaC,qax,qay,qas,qaH,qaB,qat,qao,qau,qav,qaw]⟩:{x // x=lf [] [] (cuF Go.Proofs.Tryz.prog Go.Proofs.Tryz.f26)}).1
noncomputable def L27:LFun:=(⟨_,by conv=>rhs; reduce; try simp (disch:=decide) only[qaC,qax,qay,qas,qaH,qaB,qat,qao,qau,qav,qaw]⟩:{x // x=lf [] [] (cuF Go.Proofs.Tryz.prog Go.Proofs.Tryz.f27)}).1
noncomputable def L28:LFun:=(⟨_,by conv=>rhs; reduce; try simp (disch:=decide) only[qaC,qax,qay,qas,qaH,qaB,qat,qao,qau,qav,qaw]⟩:{x // x=lf [] [] (cuF Go.Proofs.Tryz.prog Go.Proofs.Tryz.f28)}).1
noncomputable def L29k0:List Bool:=(⟨_,by conv=>rhs; reduce⟩:{x // x=lk (cuF Go.Proofs.Tryz.prog Go.Proofs.Tryz.f29) 0}).1
noncomputable def L29b0:LCode:=(⟨_,by conv=>rhs; reduce; try simp (disch:=decide) only[qaC,qax,qay,qas,qaH,qaB,qat,qao,qau,qav,qaw]⟩:{x // x=lb [] [] (cuF Go.Proofs.Tryz.prog Go.Proofs.Tryz.f29) 0}).1
attribute [local irreducible] L29k0 L29b0
noncomputable def L29:LFun:=(⟨_,by conv=>rhs; reduce; try simp (disch:=decide) only[qaC,qax,qay,qas,qaH,qaB,qat,qao,qau,qav,qaw]⟩:{x // x=lf [L29k0] [L29b0] (cuF Go.Proofs.Tryz.prog Go.Proofs.Tryz.f29)}).1
noncomputable def L30:LFun:=(⟨_,by conv=>rhs; reduce; try simp (disch:=decide) only[qaC,qax,qay,qas,qaH,qaB,qat,qao,qau,qav,qaw]⟩:{x // x=lf [] [] (cuF Go.Proofs.Tryz.prog Go.Proofs.Tryz.f30)}).1
noncomputable def L31:LFun:=(⟨_,by conv=>rhs; reduce; try simp (disch:=decide) only[qaC,qax,qay,qas,qaH,qaB,qat,qao,qau,qav,qaw]⟩:{x // x=lf [] [] (cuF Go.Proofs.Tryz.prog Go.Proofs.Tryz.f31)}).1
noncomputable def L32k0:List Bool:=(⟨_,by conv=>rhs; reduce⟩:{x // x=lk (cuF Go.Proofs.Tryz.prog Go.Proofs.Tryz.f32) 0}).1
noncomputable def L32b0:LCode:=(⟨_,by conv=>rhs; reduce; try simp (disch:=decide) only[qaC,qax,qay,qas,qaH,qaB,qat,qao,qau,qav,qaw]⟩:{x // x=lb [] [] (cuF Go.Proofs.Tryz.prog Go.Proofs.Tryz.f32) 0}).1
attribute [local irreducible] L32k0 L32b0
noncomputable def L32k1:List Bool:=(⟨_,by conv=>rhs; reduce⟩:{x // x=lk (cuF Go.Proofs.Tryz.prog Go.Proofs.Tryz.f32) 1}).1
noncomputable def L32b1:LCode:=(⟨_,by conv=>rhs; reduce; try simp (disch:=decide) only[qaC,qax,qay,qas,qaH,qaB,qat,qao,qau,qav,qaw]⟩:{x // x=lb [L32k0] [L32b0] (cuF Go.Proofs.Tryz.prog Go.Proofs.Tryz.f32) 1}).1
attribute [local irreducible] L32k1 L32b1
noncomputable def L32k2:List Bool:=(⟨_,by conv=>rhs; reduce⟩:{x // x=lk (cuF Go.Proofs.Tryz.prog Go.Proofs.Tryz.f32) 2}).1
noncomputable def L32b2:LCode:=(⟨_,by conv=>rhs; reduce; try simp (disch:=decide) only[qaC,qax,qay,qas,qaH,qaB,qat,qao,qau,qav,qaw]⟩:{x // x=lb [L32k0,L32k1] [L32b0,L32b1] (cuF Go.Proofs.Tryz.prog Go.Proofs.Tryz.f32) 2}).1
attribute [local irreducible] L32k2 L32b2
noncomputable def L32k3:List Bool:=(⟨_,by conv=>rhs; reduce⟩:{x // x=lk (cuF Go.Proofs.Tryz.prog Go.Proofs.Tryz.f32) 3}).1
noncomputable def L32b3:LCode:=(⟨_,by conv=>rhs; reduce; try simp (disch:=decide) only[qaC,qax,qay,qas,qaH,qaB,qat,qao,qau,qav,qaw]⟩:{x // x=lb [L32k0,L32k1,L32k2] [L32b0,L32b1,L32b2] (cuF Go.Proofs.Tryz.prog Go.Proofs.Tryz.f32) 3}).1
attribute [local irreducible] L32k3 L32b3
noncomputable def L32:LFun:=(⟨_,by conv=>rhs; reduce; try simp (disch:=decide) only[qaC,qax,qay,qas,qaH,qaB,qat,qao,qau,qav,qaw]⟩:{x // x=lf [L32k0,L32k1,L32k2,L32k3] [L32b0,L32b1,L32b2,L32b3] (cuF Go.Proofs.Tryz.prog Go.Proofs.Tryz.f32)}).1
noncomputable def L33:LFun:=(⟨_,by conv=>rhs; reduce; try simp (disch:=decide) only[qaC,qax,qay,qas,qaH,qaB,qat,qao,qau,qav,qaw]⟩:{x // x=lf [] [] (cuF Go.Proofs.Tryz.prog Go.Proofs.Tryz.f33)}).1
noncomputable def L34:LFun:=(⟨_,by conv=>rhs; reduce; try simp (disch:=decide) only[qaC,qax,qay,qas,qaH,qaB,qat,qao,qau,qav,qaw]⟩:{x // x=lf [] [] (cuF Go.Proofs.Tryz.prog Go.Proofs.Tryz.f34)}).1
noncomputable def L35k0:List Bool:=(⟨_,by conv=>rhs; reduce⟩:{x // x=lk (cuF Go.Proofs.Tryz.prog Go.Proofs.Tryz.f35) 0}).1
noncomputable def L35b0:LCode:=(⟨_,by conv=>rhs; reduce; try simp (disch:=decide) only[qaC,qax,qay,qas,qaH,qaB,qat,qao,qau,qav,qaw]⟩:{x // x=lb [] [] (cuF Go.Proofs.Tryz.prog Go.Proofs.Tryz.f35) 0}).1
attribute [local irreducible] L35k0 L35b0
noncomputable def L35:LFun:=(⟨_,by conv=>rhs; reduce; try simp (disch:=decide) only[qaC,qax,qay,qas,qaH,qaB,qat,qao,qau,qav,qaw]⟩:{x // x=lf [L35k0] [L35b0] (cuF Go.Proofs.Tryz.prog Go.Proofs.Tryz.f35)}).1
noncomputable def L36k0:List Bool:=(⟨_,by conv=>rhs; reduce⟩:{x // x=lk (cuF Go.Proofs.Tryz.prog Go.Proofs.Tryz.f36) 0}).1
noncomputable def L36b0:LCode:=(⟨_,by conv=>rhs; reduce; try simp (disch:=decide) only[qaC,qax,qay,qas,qaH,qaB,qat,qao,qau,qav,qaw]⟩:{x // x=lb [] [] (cuF Go.Proofs.Tryz.prog Go.Proofs.Tryz.f36) 0}).1
attribute [local irreducible] L36k0 L36b0
noncomputable def L36:LFun:=(⟨_,by conv=>rhs; reduce; try simp (disch:=decide) only[qaC,qax,qay,qas,qaH,qaB,qat,qao,qau,qav,qaw]⟩:{x // x=lf [L36k0] [L36b0] (cuF Go.Proofs.Tryz.prog Go.Proofs.Tryz.f36)}).1
noncomputable def L37k0:List Bool:=(⟨_,by conv=>rhs; reduce⟩:{x // x=lk (cuF Go.Proofs.Tryz.prog Go.Proofs.Tryz.f37) 0}).1
noncomputable def L37b0:LCode:=(⟨_,by conv=>rhs; reduce; try simp (disch:=decide) only[qaC,qax,qay,qas,qaH,qaB,qat,qao,qau,qav,qaw]⟩:{x // x=lb [] [] (cuF Go.Proofs.Tryz.prog Go.Proofs.Tryz.f37) 0}).1
attribute [local irreducible] L37k0 L37b0
noncomputable def L37:LFun:=(⟨_,by conv=>rhs; reduce; try simp (disch:=decide) only[qaC,qax,qay,qas,qaH,qaB,qat,qao,qau,qav,qaw]⟩:{x // x=lf [L37k0] [L37b0] (cuF Go.Proofs.Tryz.prog Go.Proofs.Tryz.f37)}).1
noncomputable def L38:LFun:=(⟨_,by conv=>rhs; reduce; try simp (disch:=decide) only[qaC,qax,qay,qas,qaH,qaB,qat,qao,qau,qav,qaw]⟩:{x // x=lf [] [] (cuF Go.Proofs.Tryz.prog Go.Proofs.Tryz.f38)}).1
noncomputable def L39k0:List Bool:=(⟨_,by conv=>rhs; reduce⟩:{x // x=lk (cuF Go.Proofs.Tryz.prog Go.Proofs.Tryz.f39) 0}).1
noncomputable def L39b0:LCode:=(⟨_,by conv=>rhs; reduce; try simp (disch:=decide) only[qaC,qax,qay,qas,qaH,qaB,qat,qao,qau,qav,qaw]⟩:{x // x=lb [] [] (cuF Go.Proofs.Tryz.prog Go.Proofs.Tryz.f39) 0}).1
attribute [local irreducible] L39k0 L39b0
noncomputable def L39k1:List Bool:=(⟨_,by conv=>rhs; reduce⟩:{x // x=lk (cuF Go.Proofs.Tryz.prog Go.Proofs.Tryz.f39) 1}).1
noncomputable def L39b1:LCode:=(⟨_,by conv=>rhs; reduce; try simp (disch:=decide) only[qaC,qax,qay,qas,qaH,qaB,qat,qao,qau,qav,qaw]⟩:{x // x=lb [L39k0] [L39b0] (cuF Go.Proofs.Tryz.prog Go.Proofs.Tryz.f39) 1}).1
attribute [local irreducible] L39k1 L39b1
noncomputable def L39k2:List Bool:=(⟨_,by conv=>rhs; reduce⟩:{x // x=lk (cuF Go.Proofs.Tryz.prog Go.Proofs.Tryz.f39) 2}).1
noncomputable def L39b2:LCode:=(⟨_,by conv=>rhs; reduce; try simp (disch:=decide) only[qaC,qax,qay,qas,qaH,qaB,qat,qao,qau,qav,qaw]⟩:{x // x=lb [L39k0,L39k1] [L39b0,L39b1] (cuF Go.Proofs.Tryz.prog Go.Proofs.Tryz.f39) 2}).1
attribute [local irreducible] L39k2 L39b2
noncomputable def L39k3:List Bool:=(⟨_,by conv=>rhs; reduce⟩:{x // x=lk (cuF Go.Proofs.Tryz.prog Go.Proofs.Tryz.f39) 3}).1
noncomputable def L39b3:LCode:=(⟨_,by conv=>rhs; reduce; try simp (disch:=decide) only[qaC,qax,qay,qas,qaH,qaB,qat,qao,qau,qav,qaw]⟩:{x // x=lb [L39k0,L39k1,L39k2] [L39b0,L39b1,L39b2] (cuF Go.Proofs.Tryz.prog Go.Proofs.Tryz.f39) 3}).1
attribute [local irreducible] L39k3 L39b3
noncomputable def L39k4:List Bool:=(⟨_,by conv=>rhs; reduce⟩:{x // x=lk (cuF Go.Proofs.Tryz.prog Go.Proofs.Tryz.f39) 4}).1
noncomputable def L39b4:LCode:=(⟨_,by conv=>rhs; reduce; try simp (disch:=decide) only[qaC,qax,qay,qas,qaH,qaB,qat,qao,qau,qav,qaw]⟩:{x // x=lb [L39k0,L39k1,L39k2,L39k3] [L39b0,L39b1,L39b2,L39b3] (cuF Go.Proofs.Tryz.prog Go.Proofs.Tryz.f39) 4}).1
attribute [local irreducible] L39k4 L39b4
noncomputable def L39k5:List Bool:=(⟨_,by conv=>rhs; reduce⟩:{x // x=lk (cuF Go.Proofs.Tryz.prog Go.Proofs.Tryz.f39) 5}).1
noncomputable def L39b5:LCode:=(⟨_,by conv=>rhs; reduce; try simp (disch:=decide) only[qaC,qax,qay,qas,qaH,qaB,qat,qao,qau,qav,qaw]⟩:{x // x=lb [L39k0,L39k1,L39k2,L39k3,L39k4] [L39b0,L39b1,L39b2,L39b3,L39b4] (cuF Go.Proofs.Tryz.prog Go.Proofs.Tryz.f39) 5}).1
attribute [local irreducible] L39k5 L39b5
noncomputable def L39:LFun:=(⟨_,by conv=>rhs; reduce; try simp (disch:=decide) only[qaC,qax,qay,qas,qaH,qaB,qat,qao,qau,qav,qaw]⟩:{x // x=lf [L39k0,L39k1,L39k2,L39k3,L39k4,L39k5] [L39b0,L39b1,L39b2,L39b3,L39b4,L39b5] (cuF Go.Proofs.Tryz.prog Go.Proofs.Tryz.f39)}).1
noncomputable def L40k0:List Bool:=(⟨_,by conv=>rhs; reduce⟩:{x // x=lk (cuF Go.Proofs.Tryz.prog Go.Proofs.Tryz.f40) 0}).1
noncomputable def L40b0:LCode:=(⟨_,by conv=>rhs; reduce; try simp (disch:=decide) only[qaC,qax,qay,qas,qaH,qaB,qat,qao,qau,qav,qaw]⟩:{x // x=lb [] [] (cuF Go.Proofs.Tryz.prog Go.Proofs.Tryz.f40) 0}).1
attribute [local irreducible] L40k0 L40b0
noncomputable def L40:LFun:=(⟨_,by conv=>rhs; reduce; try simp (disch:=decide) only[qaC,qax,qay,qas,qaH,qaB,qat,qao,qau,qav,qaw]⟩:{x // x=lf [L40k0] [L40b0] (cuF Go.Proofs.Tryz.prog Go.Proofs.Tryz.f40)}).1
noncomputable def L41:LFun:=(⟨_,by conv=>rhs; reduce; try simp (disch:=decide) only[qaC,qax,qay,qas,qaH,qaB,qat,qao,qau,qav,qaw]⟩:{x // x=lf [] [] (cuF Go.Proofs.Tryz.prog Go.Proofs.Tryz.f41)}).1
noncomputable def L42:LFun:=(⟨_,by conv=>rhs; reduce; try simp (disch:=decide) only[qaC,qax,qay,qas,qaH,qaB,qat,qao,qau,qav,qaw]⟩:{x // x=lf [] [] (cuF Go.Proofs.Tryz.prog Go.Proofs.Tryz.f42)}).1
noncomputable def L43:LFun:=(⟨_,by conv=>rhs; reduce; try simp (disch:=decide) only[qaC,qax,qay,qas,qaH,qaB,qat,qao,qau,qav,qaw]⟩:{x // x=lf [] [] (cuF Go.Proofs.Tryz.prog Go.Proofs.Tryz.f43)}).1
noncomputable def L44k0:List Bool:=(⟨_,by conv=>rhs; reduce⟩:{x // x=lk (cuF Go.Proofs.Tryz.prog Go.Proofs.Tryz.f44) 0}).1
noncomputable def L44b0:LCode:=(⟨_,by conv=>rhs; reduce; try simp (disch:=decide) only[qaC,qax,qay,qas,qaH,qaB,qat,qao,qau,qav,qaw]⟩:{x // x=lb [] [] (cuF Go.Proofs.Tryz.prog Go.Proofs.Tryz.f44) 0}).1
attribute [local irreducible] L44k0 L44b0
noncomputable def L44:LFun:=(⟨_,by conv=>rhs; reduce; try simp (disch:=decide) only[qaC,qax,qay,qas,qaH,qaB,qat,qao,qau,qav,qaw]⟩:{x // x=lf [L44k0] [L44b0] (cuF Go.Proofs.Tryz.prog Go.Proofs.Tryz.f44)}).1
noncomputable def L45:LFun:=(⟨_,by conv=>rhs; reduce; try simp (disch:=decide) only[qaC,qax,qay,qas,qaH,qaB,qat,qao,qau,qav,qaw]⟩:{x // x=lf [] [] (cuF Go.Proofs.Tryz.prog Go.Proofs.Tryz.f45)}).1
noncomputable def L46:LFun:=(⟨_,by conv=>rhs; reduce; try simp (disch:=decide) only[qaC,qax,qay,qas,qaH,qaB,qat,qao,qau,qav,qaw]⟩:{x // x=lf [] [] (cuF Go.Proofs.Tryz.prog Go.Proofs.Tryz.f46)}).1
noncomputable def L47:LFun:=(⟨_,by conv=>rhs; reduce; try simp (disch:=decide) only[qaC,qax,qay,qas,qaH,qaB,qat,qao,qau,qav,qaw]⟩:{x // x=lf [] [] (cuF Go.Proofs.Tryz.prog Go.Proofs.Tryz.f47)}).1
noncomputable def L48:LFun:=(⟨_,by conv=>rhs; reduce; try simp (disch:=decide) only[qaC,qax,qay,qas,qaH,qaB,qat,qao,qau,qav,qaw]⟩:{x // x=lf [] [] (cuF Go.Proofs.Tryz.prog Go.Proofs.Tryz.f48)}).1
noncomputable def L49k0:List Bool:=(⟨_,by conv=>rhs; reduce⟩:{x // x=lk (cuF Go.Proofs.Tryz.prog Go.Proofs.Tryz.f49) 0}).1
noncomputable def L49b0:LCode:=(⟨_,by conv=>rhs; reduce; try simp (disch:=decide) only[qaC,qax,qay,qas,qaH,qaB,qat,qao,qau,qav,qaw]⟩:{x // x=lb [] [] (cuF Go.Proofs.Tryz.prog Go.Proofs.Tryz.f49) 0}).1
attribute [local irreducible] L49k0 L49b0
noncomputable def L49:LFun:=(⟨_,by conv=>rhs; reduce; try simp (disch:=decide) only[qaC,qax,qay,qas,qaH,qaB,qat,qao,qau,qav,qaw]⟩:{x // x=lf [L49k0] [L49b0] (cuF Go.Proofs.Tryz.prog Go.Proofs.Tryz.f49)}).1
noncomputable def L50:LFun:=(⟨_,by conv=>rhs; reduce; try simp (disch:=decide) only[qaC,qax,qay,qas,qaH,qaB,qat,qao,qau,qav,qaw]⟩:{x // x=lf [] [] (cuF Go.Proofs.Tryz.prog Go.Proofs.Tryz.f50)}).1
noncomputable def L51:LFun:=(⟨_,by conv=>rhs; reduce; try simp (disch:=decide) only[qaC,qax,qay,qas,qaH,qaB,qat,qao,qau,qav,qaw]⟩:{x // x=lf [] [] (cuF Go.Proofs.Tryz.prog Go.Proofs.Tryz.f51)}).1
noncomputable def L52k0:List Bool:=(⟨_,by conv=>rhs; reduce⟩:{x // x=lk (cuF Go.Proofs.Tryz.prog Go.Proofs.Tryz.f52) 0}).1
noncomputable def L52b0:LCode:=(⟨_,by conv=>rhs; reduce; try simp (disch:=decide) only[qaC,qax,qay,qas,qaH,qaB,qat,qao,qau,qav,qaw]⟩:{x // x=lb [] [] (cuF Go.Proofs.Tryz.prog Go.Proofs.Tryz.f52) 0}).1
attribute [local irreducible] L52k0 L52b0
noncomputable def L52k1:List Bool:=(⟨_,by conv=>rhs; reduce⟩:{x // x=lk (cuF Go.Proofs.Tryz.prog Go.Proofs.Tryz.f52) 1}).1
noncomputable def L52b1:LCode:=(⟨_,by conv=>rhs; reduce; try simp (disch:=decide) only[qaC,qax,qay,qas,qaH,qaB,qat,qao,qau,qav,qaw]⟩:{x // x=lb [L52k0] [L52b0] (cuF Go.Proofs.Tryz.prog Go.Proofs.Tryz.f52) 1}).1
attribute [local irreducible] L52k1 L52b1
noncomputable def L52k2:List Bool:=(⟨_,by conv=>rhs; reduce⟩:{x // x=lk (cuF Go.Proofs.Tryz.prog Go.Proofs.Tryz.f52) 2}).1
noncomputable def L52b2:LCode:=(⟨_,by conv=>rhs; reduce; try simp (disch:=decide) only[qaC,qax,qay,qas,qaH,qaB,qat,qao,qau,qav,qaw]⟩:{x // x=lb [L52k0,L52k1] [L52b0,L52b1] (cuF Go.Proofs.Tryz.prog Go.Proofs.Tryz.f52) 2}).1
attribute [local irreducible] L52k2 L52b2
noncomputable def L52k3:List Bool:=(⟨_,by conv=>rhs; reduce⟩:{x // x=lk (cuF Go.Proofs.Tryz.prog Go.Proofs.Tryz.f52) 3}).1
noncomputable def L52b3:LCode:=(⟨_,by conv=>rhs; reduce; try simp (disch:=decide) only[qaC,qax,qay,qas,qaH,qaB,qat,qao,qau,qav,qaw]⟩:{x // x=lb [L52k0,L52k1,L52k2] [L52b0,L52b1,L52b2] (cuF Go.Proofs.Tryz.prog Go.Proofs.Tryz.f52) 3}).1
attribute [local irreducible] L52k3 L52b3
noncomputable def L52k4:List Bool:=(⟨_,by conv=>rhs; reduce⟩:{x // x=lk (cuF Go.Proofs.Tryz.prog Go.Proofs.Tryz.f52) 4}).1
noncomputable def L52b4:LCode:=(⟨_,by conv=>rhs; reduce; try simp (disch:=decide) only[qaC,qax,qay,qas,qaH,qaB,qat,qao,qau,qav,qaw]⟩:{x // x=lb [L52k0,L52k1,L52k2,L52k3] [L52b0,L52b1,L52b2,L52b3] (cuF Go.Proofs.Tryz.prog Go.Proofs.Tryz.f52) 4}).1
attribute [local irreducible] L52k4 L52b4
noncomputable def L52:LFun:=(⟨_,by conv=>rhs; reduce; try simp (disch:=decide) only[qaC,qax,qay,qas,qaH,qaB,qat,qao,qau,qav,qaw]⟩:{x // x=lf [L52k0,L52k1,L52k2,L52k3,L52k4] [L52b0,L52b1,L52b2,L52b3,L52b4] (cuF Go.Proofs.Tryz.prog Go.Proofs.Tryz.f52)}).1
noncomputable def L53k0:List Bool:=(⟨_,by conv=>rhs; reduce⟩:{x // x=lk (cuF Go.Proofs.Tryz.prog Go.Proofs.Tryz.f53) 0}).1
noncomputable def L53b0:LCode:=(⟨_,by conv=>rhs; reduce; try simp (disch:=decide) only[qaC,qax,qay,qas,qaH,qaB,qat,qao,qau,qav,qaw]⟩:{x // x=lb [] [] (cuF Go.Proofs.Tryz.prog Go.Proofs.Tryz.f53) 0}).1
attribute [local irreducible] L53k0 L53b0
noncomputable def L53:LFun:=(⟨_,by conv=>rhs; reduce; try simp (disch:=decide) only[qaC,qax,qay,qas,qaH,qaB,qat,qao,qau,qav,qaw]⟩:{x // x=lf [L53k0] [L53b0] (cuF Go.Proofs.Tryz.prog Go.Proofs.Tryz.f53)}).1
noncomputable def L54k0:List Bool:=(⟨_,by conv=>rhs; reduce⟩:{x // x=lk (cuF Go.Proofs.Tryz.prog Go.Proofs.Tryz.f54) 0}).1
noncomputable def L54b0:LCode:=(⟨_,by conv=>rhs; reduce; try simp (disch:=decide) only[qaC,qax,qay,qas,qaH,qaB,qat,qao,qau,qav,qaw]⟩:{x // x=lb [] [] (cuF Go.Proofs.Tryz.prog Go.Proofs.Tryz.f54) 0}).1
attribute [local irreducible] L54k0 L54b0
noncomputable def L54:LFun:=(⟨_,by conv=>rhs; reduce; try simp (disch:=decide) only[qaC,qax,qay,qas,qaH,qaB,qat,qao,qau,qav,qaw]⟩:{x // x=lf [L54k0] [L54b0] (cuF Go.Proofs.Tryz.prog Go.Proofs.Tryz.f54)}).1
noncomputable def L55:LFun:=(⟨_,by conv=>rhs; reduce; try simp (disch:=decide) only[qaC,qax,qay,qas,qaH,qaB,qat,qao,qau,qav,qaw]⟩:{x // x=lf [] [] (cuF Go.Proofs.Tryz.prog Go.Proofs.Tryz.f55)}).1
noncomputable def L56:LFun:=(⟨_,by conv=>rhs; reduce; try simp (disch:=decide) only[qaC,qax,qay,qas,qaH,qaB,qat,qao,qau,qav,qaw]⟩:{x // x=lf [] [] (cuF Go.Proofs.Tryz.prog Go.Proofs.Tryz.f56)}).1
noncomputable def L57:LFun:=(⟨_,by conv=>rhs; reduce; try simp (disch:=decide) only[qaC,qax,qay,qas,qaH,qaB,qat,qao,qau,qav,qaw]⟩:{x // x=lf [] [] (cuF Go.Proofs.Tryz.prog Go.Proofs.Tryz.f57)}).1
noncomputable def L58k0:List Bool:=(⟨_,by conv=>rhs; reduce⟩:{x // x=lk (cuF Go.Proofs.Tryz.prog Go.Proofs.Tryz.f58) 0}).1
noncomputable def L58b0:LCode:=(⟨_,by conv=>rhs; reduce; try simp (disch:=decide) only[qaC,qax,qay,qas,qaH,qaB,qat,qao,qau,qav,qaw]⟩:{x // x=lb [] [] (cuF Go.Proofs.Tryz.prog Go.Proofs.Tryz.f58) 0}).1
attribute [local irreducible] L58k0 L58b0
noncomputable def L58k1:List Bool:=(⟨_,by conv=>rhs; reduce⟩:{x // x=lk (cuF Go.Proofs.Tryz.prog Go.Proofs.Tryz.f58) 1}).1
noncomputable def L58b1:LCode:=(⟨_,by conv=>rhs; reduce; try simp (disch:=decide) only[qaC,qax,qay,qas,qaH,qaB,qat,qao,qau,qav,qaw]⟩:{x // x=lb [L58k0] [L58b0] (cuF Go.Proofs.Tryz.prog Go.Proofs.Tryz.f58) 1}).1
attribute [local irreducible] L58k1 L58b1
noncomputable def L58:LFun:=(⟨_,by conv=>rhs; reduce; try simp (disch:=decide) only[qaC,qax,qay,qas,qaH,qaB,qat,qao,qau,qav,qaw]⟩:{x // x=lf [L58k0,L58k1] [L58b0,L58b1] (cuF Go.Proofs.Tryz.prog Go.Proofs.Tryz.f58)}).1
noncomputable def L59:LFun:=(⟨_,by conv=>rhs; reduce; try simp (disch:=decide) only[qaC,qax,qay,qas,qaH,qaB,qat,qao,qau,qav,qaw]⟩:{x // x=lf [] [] (cuF Go.Proofs.Tryz.prog Go.Proofs.Tryz.f59)}).1
noncomputable def L60:LFun:=(⟨_,by conv=>rhs; reduce; try simp (disch:=decide) only[qaC,qax,qay,qas,qaH,qaB,qat,qao,qau,qav,qaw]⟩:{x // x=lf [] [] (cuF Go.Proofs.Tryz.prog Go.Proofs.Tryz.f60)}).1
noncomputable def L61k0:List Bool:=(⟨_,by conv=>rhs; reduce⟩:{x // x=lk (cuF Go.Proofs.Tryz.prog Go.Proofs.Tryz.f61) 0}).1
noncomputable def L61b0:LCode:=(⟨_,by conv=>rhs; reduce; try simp (disch:=decide) only[qaC,qax,qay,qas,qaH,qaB,qat,qao,qau,qav,qaw]⟩:{x // x=lb [] [] (cuF Go.Proofs.Tryz.prog Go.Proofs.Tryz.f61) 0}).1
attribute [local irreducible] L61k0 L61b0
noncomputable def L61:LFun:=(⟨_,by conv=>rhs; reduce; try simp (disch:=decide) only[qaC,qax,qay,qas,qaH,qaB,qat,qao,qau,qav,qaw]⟩:{x // x=lf [L61k0] [L61b0] (cuF Go.Proofs.Tryz.prog Go.Proofs.Tryz.f61)}).1
noncomputable def L62k0:List Bool:=(⟨_,by conv=>rhs; reduce⟩:{x // x=lk (cuF Go.Proofs.Tryz.prog Go.Proofs.Tryz.f62) 0}).1
noncomputable def L62b0:LCode:=(⟨_,by conv=>rhs; reduce; try simp (disch:=decide) only[qaC,qax,qay,qas,qaH,qaB,qat,qao,qau,qav,qaw]⟩:{x // x=lb [] [] (cuF Go.Proofs.Tryz.prog Go.Proofs.Tryz.f62) 0}).1
attribute [local irreducible] L62k0 L62b0
noncomputable def L62:LFun:=(⟨_,by conv=>rhs; reduce; try simp (disch:=decide) only[qaC,qax,qay,qas,qaH,qaB,qat,qao,qau,qav,qaw]⟩:{x // x=lf [L62k0] [L62b0] (cuF Go.Proofs.Tryz.prog Go.Proofs.Tryz.f62)}).1
noncomputable def L63k0:List Bool:=(⟨_,by conv=>rhs; reduce⟩:{x // x=lk (cuF Go.Proofs.Tryz.prog Go.Proofs.Tryz.f63) 0}).1
noncomputable def L63b0:LCode:=(⟨_,by conv=>rhs; reduce; try simp (disch:=decide) only[qaC,qax,qay,qas,qaH,qaB,qat,qao,qau,qav,qaw]⟩:{x // x=lb [] [] (cuF Go.Proofs.Tryz.prog Go.Proofs.Tryz.f63) 0}).1
attribute [local irreducible] L63k0 L63b0
noncomputable def L63:LFun:=(⟨_,by conv=>rhs; reduce; try simp (disch:=decide) only[qaC,qax,qay,qas,qaH,qaB,qat,qao,qau,qav,qaw]⟩:{x // x=lf [L63k0] [L63b0] (cuF Go.Proofs.Tryz.prog Go.Proofs.Tryz.f63)}).1
noncomputable def L64:LFun:=(⟨_,by conv=>rhs; reduce; try simp (disch:=decide) only[qaC,qax,qay,qas,qaH,qaB,qat,qao,qau,qav,qaw]⟩:{x // x=lf [] [] (cuF Go.Proofs.Tryz.prog Go.Proofs.Tryz.f64)}).1
noncomputable def L65:LFun:=(⟨_,by conv=>rhs; reduce; try simp (disch:=decide) only[qaC,qax,qay,qas,qaH,qaB,qat,qao,qau,qav,qaw]⟩:{x // x=lf [] [] (cuF Go.Proofs.Tryz.prog Go.Proofs.Tryz.f65)}).1
noncomputable def L66:LFun:=(⟨_,by conv=>rhs; reduce; try simp (disch:=decide) only[qaC,qax,qay,qas,qaH,qaB,qat,qao,qau,qav,qaw]⟩:{x // x=lf [] [] (cuF Go.Proofs.Tryz.prog Go.Proofs.Tryz.f66)}).1
noncomputable def L67k0:List Bool:=(⟨_,by conv=>rhs; reduce⟩:{x // x=lk (cuF Go.Proofs.Tryz.prog Go.Proofs.Tryz.f67) 0}).1
noncomputable def L67b0:LCode:=(⟨_,by conv=>rhs; reduce; try simp (disch:=decide) only[qaC,qax,qay,qas,qaH,qaB,qat,qao,qau,qav,qaw]⟩:{x // x=lb [] [] (cuF Go.Proofs.Tryz.prog Go.Proofs.Tryz.f67) 0}).1
attribute [local irreducible] L67k0 L67b0
noncomputable def L67k1:List Bool:=(⟨_,by conv=>rhs; reduce⟩:{x // x=lk (cuF Go.Proofs.Tryz.prog Go.Proofs.Tryz.f67) 1}).1
noncomputable def L67b1:LCode:=(⟨_,by conv=>rhs; reduce; try simp (disch:=decide) only[qaC,qax,qay,qas,qaH,qaB,qat,qao,qau,qav,qaw]⟩:{x // x=lb [L67k0] [L67b0] (cuF Go.Proofs.Tryz.prog Go.Proofs.Tryz.f67) 1}).1
attribute [local irreducible] L67k1 L67b1
noncomputable def L67:LFun:=(⟨_,by conv=>rhs; reduce; try simp (disch:=decide) only[qaC,qax,qay,qas,qaH,qaB,qat,qao,qau,qav,qaw]⟩:{x // x=lf [L67k0,L67k1] [L67b0,L67b1] (cuF Go.Proofs.Tryz.prog Go.Proofs.Tryz.f67)}).1
noncomputable def L68k0:List Bool:=(⟨_,by conv=>rhs; reduce⟩:{x // x=lk (cuF Go.Proofs.Tryz.prog Go.Proofs.Tryz.f68) 0}).1
noncomputable def L68b0:LCode:=(⟨_,by conv=>rhs; reduce; try simp (disch:=decide) only[qaC,qax,qay,qas,qaH,qaB,qat,qao,qau,qav,qaw]⟩:{x // x=lb [] [] (cuF Go.Proofs.Tryz.prog Go.Proofs.Tryz.f68) 0}).1
attribute [local irreducible] L68k0 L68b0
noncomputable def L68k1:List Bool:=(⟨_,by conv=>rhs; reduce⟩:{x // x=lk (cuF Go.Proofs.Tryz.prog Go.Proofs.Tryz.f68) 1}).1
noncomputable def L68b1:LCode:=(⟨_,by conv=>rhs; reduce; try simp (disch:=decide) only[qaC,qax,qay,qas,qaH,qaB,qat,qao,qau,qav,qaw]⟩:{x // x=lb [L68k0] [L68b0] (cuF Go.Proofs.Tryz.prog Go.Proofs.Tryz.f68) 1}).1
attribute [local irreducible] L68k1 L68b1
noncomputable def L68:LFun:=(⟨_,by conv=>rhs; reduce; try simp (disch:=decide) only[qaC,qax,qay,qas,qaH,qaB,qat,qao,qau,qav,qaw]⟩:{x // x=lf [L68k0,L68k1] [L68b0,L68b1] (cuF Go.Proofs.Tryz.prog Go.Proofs.Tryz.f68)}).1
noncomputable def L69k0:List Bool:=(⟨_,by conv=>rhs; reduce⟩:{x // x=lk (cuF Go.Proofs.Tryz.prog Go.Proofs.Tryz.f69) 0}).1
noncomputable def L69b0:LCode:=(⟨_,by conv=>rhs; reduce; try simp (disch:=decide) only[qaC,qax,qay,qas,qaH,qaB,qat,qao,qau,qav,qaw]⟩:{x // x=lb [] [] (cuF Go.Proofs.Tryz.prog Go.Proofs.Tryz.f69) 0}).1
attribute [local irreducible] L69k0 L69b0
noncomputable def L69k1:List Bool:=(⟨_,by conv=>rhs; reduce⟩:{x // x=lk (cuF Go.Proofs.Tryz.prog Go.Proofs.Tryz.f69) 1}).1
noncomputable def L69b1:LCode:=(⟨_,by conv=>rhs; reduce; try simp (disch:=decide) only[qaC,qax,qay,qas,qaH,qaB,qat,qao,qau,qav,qaw]⟩:{x // x=lb [L69k0] [L69b0] (cuF Go.Proofs.Tryz.prog Go.Proofs.Tryz.f69) 1}).1
attribute [local irreducible] L69k1 L69b1
noncomputable def L69:LFun:=(⟨_,by conv=>rhs; reduce; try simp (disch:=decide) only[qaC,qax,qay,qas,qaH,qaB,qat,qao,qau,qav,qaw]⟩:{x // x=lf [L69k0,L69k1] [L69b0,L69b1] (cuF Go.Proofs.Tryz.prog Go.Proofs.Tryz.f69)}).1
noncomputable def L70k0:List Bool:=(⟨_,by conv=>rhs; reduce⟩:{x // x=lk (cuF Go.Proofs.Tryz.prog Go.Proofs.Tryz.f70) 0}).1
noncomputable def L70b0:LCode:=(⟨_,by conv=>rhs; reduce; try simp (disch:=decide) only[qaC,qax,qay,qas,qaH,qaB,qat,qao,qau,qav,qaw]⟩:{x // x=lb [] [] (cuF Go.Proofs.Tryz.prog Go.Proofs.Tryz.f70) 0}).1
attribute [local irreducible] L70k0 L70b0
noncomputable def L70k1:List Bool:=(⟨_,by conv=>rhs; reduce⟩:{x // x=lk (cuF Go.Proofs.Tryz.prog Go.Proofs.Tryz.f70) 1}).1
noncomputable def L70b1:LCode:=(⟨_,by conv=>rhs; reduce; try simp (disch:=decide) only[qaC,qax,qay,qas,qaH,qaB,qat,qao,qau,qav,qaw]⟩:{x // x=lb [L70k0] [L70b0] (cuF Go.Proofs.Tryz.prog Go.Proofs.Tryz.f70) 1}).1
attribute [local irreducible] L70k1 L70b1
noncomputable def L70:LFun:=(⟨_,by conv=>rhs; reduce; try simp (disch:=decide) only[qaC,qax,qay,qas,qaH,qaB,qat,qao,qau,qav,qaw]⟩:{x // x=lf [L70k0,L70k1] [L70b0,L70b1] (cuF Go.Proofs.Tryz.prog Go.Proofs.Tryz.f70)}).1
noncomputable def L71:LFun:=(⟨_,by conv=>rhs; reduce; try simp (disch:=decide) only[qaC,qax,qay,qas,qaH,qaB,qat,qao,qau,qav,qaw]⟩:{x // x=lf [] [] (cuF Go.Proofs.Tryz.prog Go.Proofs.Tryz.f71)}).1
noncomputable def L72:LFun:=(⟨_,by conv=>rhs; reduce; try simp (disch:=decide) only[qaC,qax,qay,qas,qaH,qaB,qat,qao,qau,qav,qaw]⟩:{x // x=lf [] [] (cuF Go.Proofs.Tryz.prog Go.Proofs.Tryz.f72)}).1
noncomputable def L73:LFun:=(⟨_,by conv=>rhs; reduce; try simp (disch:=decide) only[qaC,qax,qay,qas,qaH,qaB,qat,qao,qau,qav,qaw]⟩:{x // x=lf [] [] (cuF Go.Proofs.Tryz.prog Go.Proofs.Tryz.f73)}).1
noncomputable def L74k0:List Bool:=(⟨_,by conv=>rhs; reduce⟩:{x // x=lk (cuF Go.Proofs.Tryz.prog Go.Proofs.Tryz.f74) 0}).1
noncomputable def L74b0:LCode:=(⟨_,by conv=>rhs; reduce; try simp (disch:=decide) only[qaC,qax,qay,qas,qaH,qaB,qat,qao,qau,qav,qaw]⟩:{x // x=lb [] [] (cuF Go.Proofs.Tryz.prog Go.Proofs.Tryz.f74) 0}).1
attribute [local irreducible] L74k0 L74b0
noncomputable def L74:LFun:=(⟨_,by conv=>rhs; reduce; try simp (disch:=decide) only[qaC,qax,qay,qas,qaH,qaB,qat,qao,qau,qav,qaw]⟩:{x // x=lf [L74k0] [L74b0] (cuF Go.Proofs.Tryz.prog Go.Proofs.Tryz.f74)}).1
noncomputable def L75k0:List Bool:=(⟨_,by conv=>rhs; reduce⟩:{x // x=lk (cuF Go.Proofs.Tryz.prog Go.Proofs.Tryz.f75) 0}).1
noncomputable def L75b0:LCode:=(⟨_,by conv=>rhs; reduce; try simp (disch:=decide) only[qaC,qax,qay,qas,qaH,qaB,qat,qao,qau,qav,qaw]⟩:{x // x=lb [] [] (cuF Go.Proofs.Tryz.prog Go.Proofs.Tryz.f75) 0}).1
attribute [local irreducible] L75k0 L75b0
noncomputable def L75:LFun:=(⟨_,by conv=>rhs; reduce; try simp (disch:=decide) only[qaC,qax,qay,qas,qaH,qaB,qat,qao,qau,qav,qaw]⟩:{x // x=lf [L75k0] [L75b0] (cuF Go.Proofs.Tryz.prog Go.Proofs.Tryz.f75)}).1
noncomputable def L76:LFun:=(⟨_,by conv=>rhs; reduce; try simp (disch:=decide) only[qaC,qax,qay,qas,qaH,qaB,qat,qao,qau,qav,qaw]⟩:{x // x=lf [] [] (cuF Go.Proofs.Tryz.prog Go.Proofs.Tryz.f76)}).1
noncomputable def L77k0:List Bool:=(⟨_,by conv=>rhs; reduce⟩:{x // x=lk (cuF Go.Proofs.Tryz.prog Go.Proofs.Tryz.f77) 0}).1
noncomputable def L77b0:LCode:=(⟨_,by conv=>rhs; reduce; try simp (disch:=decide) only[qaC,qax,qay,qas,qaH,qaB,qat,qao,qau,qav,qaw]⟩:{x // x=lb [] [] (cuF Go.Proofs.Tryz.prog Go.Proofs.Tryz.f77) 0}).1
attribute [local irreducible] L77k0 L77b0
noncomputable def L77k1:List Bool:=(⟨_,by conv=>rhs; reduce⟩:{x // x=lk (cuF Go.Proofs.Tryz.prog Go.Proofs.Tryz.f77) 1}).1
noncomputable def L77b1:LCode:=(⟨_,by conv=>rhs; reduce; try simp (disch:=decide) only[qaC,qax,qay,qas,qaH,qaB,qat,qao,qau,qav,qaw]⟩:{x // x=lb [L77k0] [L77b0] (cuF Go.Proofs.Tryz.prog Go.Proofs.Tryz.f77) 1}).1
attribute [local irreducible] L77k1 L77b1
noncomputable def L77k2:List Bool:=(⟨_,by conv=>rhs; reduce⟩:{x // x=lk (cuF Go.Proofs.Tryz.prog Go.Proofs.Tryz.f77) 2}).1
noncomputable def L77b2:LCode:=(⟨_,by conv=>rhs; reduce; try simp (disch:=decide) only[qaC,qax,qay,qas,qaH,qaB,qat,qao,qau,qav,qaw]⟩:{x // x=lb [L77k0,L77k1] [L77b0,L77b1] (cuF Go.Proofs.Tryz.prog Go.Proofs.Tryz.f77) 2}).1
attribute [local irreducible] L77k2 L77b2
noncomputable def L77k3:List Bool:=(⟨_,by conv=>rhs; reduce⟩:{x // x=lk (cuF Go.Proofs.Tryz.prog Go.Proofs.Tryz.f77) 3}).1
noncomputable def L77b3:LCode:=(⟨_,by conv=>rhs; reduce; try simp (disch:=decide) only[qaC,qax,qay,qas,qaH,qaB,qat,qao,qau,qav,qaw]⟩:{x // x=lb [L77k0,L77k1,L77k2] [L77b0,L77b1,L77b2] (cuF Go.Proofs.Tryz.prog Go.Proofs.Tryz.f77) 3}).1
attribute [local irreducible] L77k3 L77b3
noncomputable def L77:LFun:=(⟨_,by conv=>rhs; reduce; try simp (disch:=decide) only[qaC,qax,qay,qas,qaH,qaB,qat,qao,qau,qav,qaw]⟩:{x // x=lf [L77k0,L77k1,L77k2,L77k3] [L77b0,L77b1,L77b2,L77b3] (cuF Go.Proofs.Tryz.prog Go.Proofs.Tryz.f77)}).1
noncomputable def L78k0:List Bool:=(⟨_,by conv=>rhs; reduce⟩:{x // x=lk (cuF Go.Proofs.Tryz.prog Go.Proofs.Tryz.f78) 0}).1
noncomputable def L78b0:LCode:=(⟨_,by conv=>rhs; reduce; try simp (disch:=decide) only[qaC,qax,qay,qas,qaH,qaB,qat,qao,qau,qav,qaw]⟩:{x // x=lb [] [] (cuF Go.Proofs.Tryz.prog Go.Proofs.Tryz.f78) 0}).1
attribute [local irreducible] L78k0 L78b0
noncomputable def L78k1:List Bool:=(⟨_,by conv=>rhs; reduce⟩:{x // x=lk (cuF Go.Proofs.Tryz.prog Go.Proofs.Tryz.f78) 1}).1
noncomputable def L78b1:LCode:=(⟨_,by conv=>rhs; reduce; try simp (disch:=decide) only[qaC,qax,qay,qas,qaH,qaB,qat,qao,qau,qav,qaw]⟩:{x // x=lb [L78k0] [L78b0] (cuF Go.Proofs.Tryz.prog Go.Proofs.Tryz.f78) 1}).1
attribute [local irreducible] L78k1 L78b1
noncomputable def L78:LFun:=(⟨_,by conv=>rhs; reduce; try simp (disch:=decide) only[qaC,qax,qay,qas,qaH,qaB,qat,qao,qau,qav,qaw]⟩:{x // x=lf [L78k0,L78k1] [L78b0,L78b1] (cuF Go.Proofs.Tryz.prog Go.Proofs.Tryz.f78)}).1
noncomputable def L79k0:List Bool:=(⟨_,by conv=>rhs; reduce⟩:{x // x=lk (cuF Go.Proofs.Tryz.prog Go.Proofs.Tryz.f79) 0}).1
noncomputable def L79b0:LCode:=(⟨_,by conv=>rhs; reduce; try simp (disch:=decide) only[qaC,qax,qay,qas,qaH,qaB,qat,qao,qau,qav,qaw]⟩:{x // x=lb [] [] (cuF Go.Proofs.Tryz.prog Go.Proofs.Tryz.f79) 0}).1
attribute [local irreducible] L79k0 L79b0
noncomputable def L79:LFun:=(⟨_,by conv=>rhs; reduce; try simp (disch:=decide) only[qaC,qax,qay,qas,qaH,qaB,qat,qao,qau,qav,qaw]⟩:{x // x=lf [L79k0] [L79b0] (cuF Go.Proofs.Tryz.prog Go.Proofs.Tryz.f79)}).1
noncomputable def L80k0:List Bool:=(⟨_,by conv=>rhs; reduce⟩:{x // x=lk (cuF Go.Proofs.Tryz.prog Go.Proofs.Tryz.f80) 0}).1
noncomputable def L80b0:LCode:=(⟨_,by conv=>rhs; reduce; try simp (disch:=decide) only[qaC,qax,qay,qas,qaH,qaB,qat,qao,qau,qav,qaw]⟩:{x // x=lb [] [] (cuF Go.Proofs.Tryz.prog Go.Proofs.Tryz.f80) 0}).1
attribute [local irreducible] L80k0 L80b0
noncomputable def L80:LFun:=(⟨_,by conv=>rhs; reduce; try simp (disch:=decide) only[qaC,qax,qay,qas,qaH,qaB,qat,qao,qau,qav,qaw]⟩:{x // x=lf [L80k0] [L80b0] (cuF Go.Proofs.Tryz.prog Go.Proofs.Tryz.f80)}).1
noncomputable def L81k0:List Bool:=(⟨_,by conv=>rhs; reduce⟩:{x // x=lk (cuF Go.Proofs.Tryz.prog Go.Proofs.Tryz.f81) 0}).1
noncomputable def L81b0:LCode:=(⟨_,by conv=>rhs; reduce; try simp (disch:=decide) only[qaC,qax,qay,qas,qaH,qaB,qat,qao,qau,qav,qaw]⟩:{x // x=lb [] [] (cuF Go.Proofs.Tryz.prog Go.Proofs.Tryz.f81) 0}).1
attribute [local irreducible] L81k0 L81b0
noncomputable def L81:LFun:=(⟨_,by conv=>rhs; reduce; try simp (disch:=decide) only[qaC,qax,qay,qas,qaH,qaB,qat,qao,qau,qav,qaw]⟩:{x // x=lf [L81k0] [L81b0] (cuF Go.Proofs.Tryz.prog Go.Proofs.Tryz.f81)}).1
noncomputable def L82:LFun:=(⟨_,by conv=>rhs; reduce; try simp (disch:=decide) only[qaC,qax,qay,qas,qaH,qaB,qat,qao,qau,qav,qaw]⟩:{x // x=lf [] [] (cuF Go.Proofs.Tryz.prog Go.Proofs.Tryz.f82)}).1
noncomputable def L83k0:List Bool:=(⟨_,by conv=>rhs; reduce⟩:{x // x=lk (cuF Go.Proofs.Tryz.prog Go.Proofs.Tryz.f83) 0}).1
noncomputable def L83b0:LCode:=(⟨_,by conv=>rhs; reduce; try simp (disch:=decide) only[qaC,qax,qay,qas,qaH,qaB,qat,qao,qau,qav,qaw]⟩:{x // x=lb [] [] (cuF Go.Proofs.Tryz.prog Go.Proofs.Tryz.f83) 0}).1
attribute [local irreducible] L83k0 L83b0
noncomputable def L83:LFun:=(⟨_,by conv=>rhs; reduce; try simp (disch:=decide) only[qaC,qax,qay,qas,qaH,qaB,qat,qao,qau,qav,qaw]⟩:{x // x=lf [L83k0] [L83b0] (cuF Go.Proofs.Tryz.prog Go.Proofs.Tryz.f83)}).1
noncomputable def L84k0:List Bool:=(⟨_,by conv=>rhs; reduce⟩:{x // x=lk (cuF Go.Proofs.Tryz.prog Go.Proofs.Tryz.f84) 0}).1
noncomputable def L84b0:LCode:=(⟨_,by conv=>rhs; reduce; try simp (disch:=decide) only[qaC,qax,qay,qas,qaH,qaB,qat,qao,qau,qav,qaw]⟩:{x // x=lb [] [] (cuF Go.Proofs.Tryz.prog Go.Proofs.Tryz.f84) 0}).1
attribute [local irreducible] L84k0 L84b0
noncomputable def L84:LFun:=(⟨_,by conv=>rhs; reduce; try simp (disch:=decide) only[qaC,qax,qay,qas,qaH,qaB,qat,qao,qau,qav,qaw]⟩:{x // x=lf [L84k0] [L84b0] (cuF Go.Proofs.Tryz.prog Go.Proofs.Tryz.f84)}).1
noncomputable def L85k0:List Bool:=(⟨_,by conv=>rhs; reduce⟩:{x // x=lk (cuF Go.Proofs.Tryz.prog Go.Proofs.Tryz.f85) 0}).1
noncomputable def L85b0:LCode:=(⟨_,by conv=>rhs; reduce; try simp (disch:=decide) only[qaC,qax,qay,qas,qaH,qaB,qat,qao,qau,qav,qaw]⟩:{x // x=lb [] [] (cuF Go.Proofs.Tryz.prog Go.Proofs.Tryz.f85) 0}).1
attribute [local irreducible] L85k0 L85b0
noncomputable def L85k1:List Bool:=(⟨_,by conv=>rhs; reduce⟩:{x // x=lk (cuF Go.Proofs.Tryz.prog Go.Proofs.Tryz.f85) 1}).1
noncomputable def L85b1:LCode:=(⟨_,by conv=>rhs; reduce; try simp (disch:=decide) only[qaC,qax,qay,qas,qaH,qaB,qat,qao,qau,qav,qaw]⟩:{x // x=lb [L85k0] [L85b0] (cuF Go.Proofs.Tryz.prog Go.Proofs.Tryz.f85) 1}).1
attribute [local irreducible] L85k1 L85b1
noncomputable def L85:LFun:=(⟨_,by conv=>rhs; reduce; try simp (disch:=decide) only[qaC,qax,qay,qas,qaH,qaB,qat,qao,qau,qav,qaw]⟩:{x // x=lf [L85k0,L85k1] [L85b0,L85b1] (cuF Go.Proofs.Tryz.prog Go.Proofs.Tryz.f85)}).1
noncomputable def L86:LFun:=(⟨_,by conv=>rhs; reduce; try simp (disch:=decide) only[qaC,qax,qay,qas,qaH,qaB,qat,qao,qau,qav,qaw]⟩:{x // x=lf [] [] (cuF Go.Proofs.Tryz.prog Go.Proofs.Tryz.f86)}).1
noncomputable def L87k0:List Bool:=(⟨_,by conv=>rhs; reduce⟩:{x // x=lk (cuF Go.Proofs.Tryz.prog Go.Proofs.Tryz.f87) 0}).1
noncomputable def L87b0:LCode:=(⟨_,by conv=>rhs; reduce; try simp (disch:=decide) only[qaC,qax,qay,qas,qaH,qaB,qat,qao,qau,qav,qaw]⟩:{x // x=lb [] [] (cuF Go.Proofs.Tryz.prog Go.Proofs.Tryz.f87) 0}).1
attribute [local irreducible] L87k0 L87b0
noncomputable def L87k1:List Bool:=(⟨_,by conv=>rhs; reduce⟩:{x // x=lk (cuF Go.Proofs.Tryz.prog Go.Proofs.Tryz.f87) 1}).1
noncomputable def L87b1:LCode:=(⟨_,by conv=>rhs; reduce; try simp (disch:=decide) only[qaC,qax,qay,qas,qaH,qaB,qat,qao,qau,qav,qaw]⟩:{x // x=lb [L87k0] [L87b0] (cuF Go.Proofs.Tryz.prog Go.Proofs.Tryz.f87) 1}).1
attribute [local irreducible] L87k1 L87b1
noncomputable def L87:LFun:=(⟨_,by conv=>rhs; reduce; try simp (disch:=decide) only[qaC,qax,qay,qas,qaH,qaB,qat,qao,qau,qav,qaw]⟩:{x // x=lf [L87k0,L87k1] [L87b0,L87b1] (cuF Go.Proofs.Tryz.prog Go.Proofs.Tryz.f87)}).1
noncomputable def L88k0:List Bool:=(⟨_,by conv=>rhs; reduce⟩:{x // x=lk (cuF Go.Proofs.Tryz.prog Go.Proofs.Tryz.f88) 0}).1
noncomputable def L88b0:LCode:=(⟨_,by conv=>rhs; reduce; try simp (disch:=decide) only[qaC,qax,qay,qas,qaH,qaB,qat,qao,qau,qav,qaw]⟩:{x // x=lb [] [] (cuF Go.Proofs.Tryz.prog Go.Proofs.Tryz.f88) 0}).1
attribute [local irreducible] L88k0 L88b0
noncomputable def L88:LFun:=(⟨_,by conv=>rhs; reduce; try simp (disch:=decide) only[qaC,qax,qay,qas,qaH,qaB,qat,qao,qau,qav,qaw]⟩:{x // x=lf [L88k0] [L88b0] (cuF Go.Proofs.Tryz.prog Go.Proofs.Tryz.f88)}).1
noncomputable def L89k0:List Bool:=(⟨_,by conv=>rhs; reduce⟩:{x // x=lk (cuF Go.Proofs.Tryz.prog Go.Proofs.Tryz.f89) 0}).1
noncomputable def L89b0:LCode:=(⟨_,by conv=>rhs; reduce; try simp (disch:=decide) only[qaC,qax,qay,qas,qaH,qaB,qat,qao,qau,qav,qaw]⟩:{x // x=lb [] [] (cuF Go.Proofs.Tryz.prog Go.Proofs.Tryz.f89) 0}).1
attribute [local irreducible] L89k0 L89b0
noncomputable def L89k1:List Bool:=(⟨_,by conv=>rhs; reduce⟩:{x // x=lk (cuF Go.Proofs.Tryz.prog Go.Proofs.Tryz.f89) 1}).1
noncomputable def L89b1:LCode:=(⟨_,by conv=>rhs; reduce; try simp (disch:=decide) only[qaC,qax,qay,qas,qaH,qaB,qat,qao,qau,qav,qaw]⟩:{x // x=lb [L89k0] [L89b0] (cuF Go.Proofs.Tryz.prog Go.Proofs.Tryz.f89) 1}).1
attribute [local irreducible] L89k1 L89b1
noncomputable def L89:LFun:=(⟨_,by conv=>rhs; reduce; try simp (disch:=decide) only[qaC,qax,qay,qas,qaH,qaB,qat,qao,qau,qav,qaw]⟩:{x // x=lf [L89k0,L89k1] [L89b0,L89b1] (cuF Go.Proofs.Tryz.prog Go.Proofs.Tryz.f89)}).1
noncomputable def L90k0:List Bool:=(⟨_,by conv=>rhs; reduce⟩:{x // x=lk (cuF Go.Proofs.Tryz.prog Go.Proofs.Tryz.f90) 0}).1
noncomputable def L90b0:LCode:=(⟨_,by conv=>rhs; reduce; try simp (disch:=decide) only[qaC,qax,qay,qas,qaH,qaB,qat,qao,qau,qav,qaw]⟩:{x // x=lb [] [] (cuF Go.Proofs.Tryz.prog Go.Proofs.Tryz.f90) 0}).1
attribute [local irreducible] L90k0 L90b0
noncomputable def L90:LFun:=(⟨_,by conv=>rhs; reduce; try simp (disch:=decide) only[qaC,qax,qay,qas,qaH,qaB,qat,qao,qau,qav,qaw]⟩:{x // x=lf [L90k0] [L90b0] (cuF Go.Proofs.Tryz.prog Go.Proofs.Tryz.f90)}).1
noncomputable def L91k0:List Bool:=(⟨_,by conv=>rhs; reduce⟩:{x // x=lk (cuF Go.Proofs.Tryz.prog Go.Proofs.Tryz.f91) 0}).1
noncomputable def L91b0:LCode:=(⟨_,by conv=>rhs; reduce; try simp (disch:=decide) only[qaC,qax,qay,qas,qaH,qaB,qat,qao,qau,qav,qaw]⟩:{x // x=lb [] [] (cuF Go.Proofs.Tryz.prog Go.Proofs.Tryz.f91) 0}).1
attribute [local irreducible] L91k0 L91b0
noncomputable def L91:LFun:=(⟨_,by conv=>rhs; reduce; try simp (disch:=decide) only[qaC,qax,qay,qas,qaH,qaB,qat,qao,qau,qav,qaw]⟩:{x // x=lf [L91k0] [L91b0] (cuF Go.Proofs.Tryz.prog Go.Proofs.Tryz.f91)}).1
noncomputable def L92k0:List Bool:=(⟨_,by conv=>rhs; reduce⟩:{x // x=lk (cuF Go.Proofs.Tryz.prog Go.Proofs.Tryz.f92) 0}).1
noncomputable def L92b0:LCode:=(⟨_,by conv=>rhs; reduce; try simp (disch:=decide) only[qaC,qax,qay,qas,qaH,qaB,qat,qao,qau,qav,qaw]⟩:{x // x=lb [] [] (cuF Go.Proofs.Tryz.prog Go.Proofs.Tryz.f92) 0}).1
attribute [local irreducible] L92k0 L92b0
noncomputable def L92k1:List Bool:=(⟨_,by conv=>rhs; reduce⟩:{x // x=lk (cuF Go.Proofs.Tryz.prog Go.Proofs.Tryz.f92) 1}).1
noncomputable def L92b1:LCode:=(⟨_,by conv=>rhs; reduce; try simp (disch:=decide) only[qaC,qax,qay,qas,qaH,qaB,qat,qao,qau,qav,qaw]⟩:{x // x=lb [L92k0] [L92b0] (cuF Go.Proofs.Tryz.prog Go.Proofs.Tryz.f92) 1}).1
attribute [local irreducible] L92k1 L92b1
noncomputable def L92:LFun:=(⟨_,by conv=>rhs; reduce; try simp (disch:=decide) only[qaC,qax,qay,qas,qaH,qaB,qat,qao,qau,qav,qaw]⟩:{x // x=lf [L92k0,L92k1] [L92b0,L92b1] (cuF Go.Proofs.Tryz.prog Go.Proofs.Tryz.f92)}).1
noncomputable def L93:LFun:=(⟨_,by conv=>rhs; reduce; try simp (disch:=decide) only[qaC,qax,qay,qas,qaH,qaB,qat,qao,qau,qav,qaw]⟩:{x // x=lf [] [] (cuF Go.Proofs.Tryz.prog Go.Proofs.Tryz.f93)}).1
noncomputable def L94:LFun:=(⟨_,by conv=>rhs; reduce; try simp (disch:=decide) only[qaC,qax,qay,qas,qaH,qaB,qat,qao,qau,qav,qaw]⟩:{x // x=lf [] [] (cuF Go.Proofs.Tryz.prog Go.Proofs.Tryz.f94)}).1
noncomputable def L95:LFun:=(⟨_,by conv=>rhs; reduce; try simp (disch:=decide) only[qaC,qax,qay,qas,qaH,qaB,qat,qao,qau,qav,qaw]⟩:{x // x=lf [] [] (cuF Go.Proofs.Tryz.prog Go.Proofs.Tryz.f95)}).1
noncomputable def L96:LFun:=(⟨_,by conv=>rhs; reduce; try simp (disch:=decide) only[qaC,qax,qay,qas,qaH,qaB,qat,qao,qau,qav,qaw]⟩:{x // x=lf [] [] (cuF Go.Proofs.Tryz.prog Go.Proofs.Tryz.f96)}).1
noncomputable def L97:LFun:=(⟨_,by conv=>rhs; reduce; try simp (disch:=decide) only[qaC,qax,qay,qas,qaH,qaB,qat,qao,qau,qav,qaw]⟩:{x // x=lf [] [] (cuF Go.Proofs.Tryz.prog Go.Proofs.Tryz.f97)}).1
noncomputable def L98:LFun:=(⟨_,by conv=>rhs; reduce; try simp (disch:=decide) only[qaC,qax,qay,qas,qaH,qaB,qat,qao,qau,qav,qaw]⟩:{x // x=lf [] [] (cuF Go.Proofs.Tryz.prog Go.Proofs.Tryz.f98)}).1
noncomputable def L99:LFun:=(⟨_,by conv=>rhs; reduce; try simp (disch:=decide) only[qaC,qax,qay,qas,qaH,qaB,qat,qao,qau,qav,qaw]⟩:{x // x=lf [] [] (cuF Go.Proofs.Tryz.prog Go.Proofs.Tryz.f99)}).1
noncomputable def L100:LFun:=(⟨_,by conv=>rhs; reduce; try simp (disch:=decide) only[qaC,qax,qay,qas,qaH,qaB,qat,qao,qau,qav,qaw]⟩:{x // x=lf [] [] (cuF Go.Proofs.Tryz.prog Go.Proofs.Tryz.f100)}).1
noncomputable def L101k0:List Bool:=(⟨_,by conv=>rhs; reduce⟩:{x // x=lk (cuF Go.Proofs.Tryz.prog Go.Proofs.Tryz.f101) 0}).1
noncomputable def L101b0:LCode:=(⟨_,by conv=>rhs; reduce; try simp (disch:=decide) only[qaC,qax,qay,qas,qaH,qaB,qat,qao,qau,qav,qaw]⟩:{x // x=lb [] [] (cuF Go.Proofs.Tryz.prog Go.Proofs.Tryz.f101) 0}).1
attribute [local irreducible] L101k0 L101b0
noncomputable def L101k1:List Bool:=(⟨_,by conv=>rhs; reduce⟩:{x // x=lk (cuF Go.Proofs.Tryz.prog Go.Proofs.Tryz.f101) 1}).1
noncomputable def L101b1:LCode:=(⟨_,by conv=>rhs; reduce; try simp (disch:=decide) only[qaC,qax,qay,qas,qaH,qaB,qat,qao,qau,qav,qaw]⟩:{x // x=lb [L101k0] [L101b0] (cuF Go.Proofs.Tryz.prog Go.Proofs.Tryz.f101) 1}).1
attribute [local irreducible] L101k1 L101b1
noncomputable def L101:LFun:=(⟨_,by conv=>rhs; reduce; try simp (disch:=decide) only[qaC,qax,qay,qas,qaH,qaB,qat,qao,qau,qav,qaw]⟩:{x // x=lf [L101k0,L101k1] [L101b0,L101b1] (cuF Go.Proofs.Tryz.prog Go.Proofs.Tryz.f101)}).1
noncomputable def L102k0:List Bool:=(⟨_,by conv=>rhs; reduce⟩:{x // x=lk (cuF Go.Proofs.Tryz.prog Go.Proofs.Tryz.f102) 0}).1
noncomputable def L102b0:LCode:=(⟨_,by conv=>rhs; reduce; try simp (disch:=decide) only[qaC,qax,qay,qas,qaH,qaB,qat,qao,qau,qav,qaw]⟩:{x // x=lb [] [] (cuF Go.Proofs.Tryz.prog Go.Proofs.Tryz.f102) 0}).1
attribute [local irreducible] L102k0 L102b0
noncomputable def L102:LFun:=(⟨_,by conv=>rhs; reduce; try simp (disch:=decide) only[qaC,qax,qay,qas,qaH,qaB,qat,qao,qau,qav,qaw]⟩:{x // x=lf [L102k0] [L102b0] (cuF Go.Proofs.Tryz.prog Go.Proofs.Tryz.f102)}).1
noncomputable def L103k0:List Bool:=(⟨_,by conv=>rhs; reduce⟩:{x // x=lk (cuF Go.Proofs.Tryz.prog Go.Proofs.Tryz.f103) 0}).1
noncomputable def L103b0:LCode:=(⟨_,by conv=>rhs; reduce; try simp (disch:=decide) only[qaC,qax,qay,qas,qaH,qaB,qat,qao,qau,qav,qaw]⟩:{x // x=lb [] [] (cuF Go.Proofs.Tryz.prog Go.Proofs.Tryz.f103) 0}).1
attribute [local irreducible] L103k0 L103b0
noncomputable def L103:LFun:=(⟨_,by conv=>rhs; reduce; try simp (disch:=decide) only[qaC,qax,qay,qas,qaH,qaB,qat,qao,qau,qav,qaw]⟩:{x // x=lf [L103k0] [L103b0] (cuF Go.Proofs.Tryz.prog Go.Proofs.Tryz.f103)}).1
noncomputable def L104k0:List Bool:=(⟨_,by conv=>rhs; reduce⟩:{x // x=lk (cuF Go.Proofs.Tryz.prog Go.Proofs.Tryz.f104) 0}).1
noncomputable def L104b0:LCode:=(⟨_,by conv=>rhs; reduce; try simp (disch:=decide) only[qaC,qax,qay,qas,qaH,qaB,qat,qao,qau,qav,qaw]⟩:{x // x=lb [] [] (cuF Go.Proofs.Tryz.prog Go.Proofs.Tryz.f104) 0}).1
attribute [local irreducible] L104k0 L104b0
noncomputable def L104k1:List Bool:=(⟨_,by conv=>rhs; reduce⟩:{x // x=lk (cuF Go.Proofs.Tryz.prog Go.Proofs.Tryz.f104) 1}).1
noncomputable def L104b1:LCode:=(⟨_,by conv=>rhs; reduce; try simp (disch:=decide) only[qaC,qax,qay,qas,qaH,qaB,qat,qao,qau,qav,qaw]⟩:{x // x=lb [L104k0] [L104b0] (cuF Go.Proofs.Tryz.prog Go.Proofs.Tryz.f104) 1}).1
attribute [local irreducible] L104k1 L104b1
noncomputable def L104:LFun:=(⟨_,by conv=>rhs; reduce; try simp (disch:=decide) only[qaC,qax,qay,qas,qaH,qaB,qat,qao,qau,qav,qaw]⟩:{x // x=lf [L104k0,L104k1] [L104b0,L104b1] (cuF Go.Proofs.Tryz.prog Go.Proofs.Tryz.f104)}).1
noncomputable def L105k0:List Bool:=(⟨_,by conv=>rhs; reduce⟩:{x // x=lk (cuF Go.Proofs.Tryz.prog Go.Proofs.Tryz.f105) 0}).1
noncomputable def L105b0:LCode:=(⟨_,by conv=>rhs; reduce; try simp (disch:=decide) only[qaC,qax,qay,qas,qaH,qaB,qat,qao,qau,qav,qaw]⟩:{x // x=lb [] [] (cuF Go.Proofs.Tryz.prog Go.Proofs.Tryz.f105) 0}).1
attribute [local irreducible] L105k0 L105b0
noncomputable def L105k1:List Bool:=(⟨_,by conv=>rhs; reduce⟩:{x // x=lk (cuF Go.Proofs.Tryz.prog Go.Proofs.Tryz.f105) 1}).1
noncomputable def L105b1:LCode:=(⟨_,by conv=>rhs; reduce; try simp (disch:=decide) only[qaC,qax,qay,qas,qaH,qaB,qat,qao,qau,qav,qaw]⟩:{x // x=lb [L105k0] [L105b0] (cuF Go.Proofs.Tryz.prog Go.Proofs.Tryz.f105) 1}).1
attribute [local irreducible] L105k1 L105b1
noncomputable def L105k2:List Bool:=(⟨_,by conv=>rhs; reduce⟩:{x // x=lk (cuF Go.Proofs.Tryz.prog Go.Proofs.Tryz.f105) 2}).1
noncomputable def L105b2:LCode:=(⟨_,by conv=>rhs; reduce; try simp (disch:=decide) only[qaC,qax,qay,qas,qaH,qaB,qat,qao,qau,qav,qaw]⟩:{x // x=lb [L105k0,L105k1] [L105b0,L105b1] (cuF Go.Proofs.Tryz.prog Go.Proofs.Tryz.f105) 2}).1
attribute [local irreducible] L105k2 L105b2
noncomputable def L105:LFun:=(⟨_,by conv=>rhs; reduce; try simp (disch:=decide) only[qaC,qax,qay,qas,qaH,qaB,qat,qao,qau,qav,qaw]⟩:{x // x=lf [L105k0,L105k1,L105k2] [L105b0,L105b1,L105b2] (cuF Go.Proofs.Tryz.prog Go.Proofs.Tryz.f105)}).1
noncomputable def L106k0:List Bool:=(⟨_,by conv=>rhs; reduce⟩:{x // x=lk (cuF Go.Proofs.Tryz.prog Go.Proofs.Tryz.f106) 0}).1
noncomputable def L106b0:LCode:=(⟨_,by conv=>rhs; reduce; try simp (disch:=decide) only[qaC,qax,qay,qas,qaH,qaB,qat,qao,qau,qav,qaw]⟩:{x // x=lb [] [] (cuF Go.Proofs.Tryz.prog Go.Proofs.Tryz.f106) 0}).1
attribute [local irreducible] L106k0 L106b0
noncomputable def L106:LFun:=(⟨_,by conv=>rhs; reduce; try simp (disch:=decide) only[qaC,qax,qay,qas,qaH,qaB,qat,qao,qau,qav,qaw]⟩:{x // x=lf [L106k0] [L106b0] (cuF Go.Proofs.Tryz.prog Go.Proofs.Tryz.f106)}).1
noncomputable def L107k0:List Bool:=(⟨_,by conv=>rhs; reduce⟩:{x // x=lk (cuF Go.Proofs.Tryz.prog Go.Proofs.Tryz.f107) 0}).1
noncomputable def L107b0:LCode:=(⟨_,by conv=>rhs; reduce; try simp (disch:=decide) only[qaC,qax,qay,qas,qaH,qaB,qat,qao,qau,qav,qaw]⟩:{x // x=lb [] [] (cuF Go.Proofs.Tryz.prog Go.Proofs.Tryz.f107) 0}).1
attribute [local irreducible] L107k0 L107b0
noncomputable def L107:LFun:=(⟨_,by conv=>rhs; reduce; try simp (disch:=decide) only[qaC,qax,qay,qas,qaH,qaB,qat,qao,qau,qav,qaw]⟩:{x // x=lf [L107k0] [L107b0] (cuF Go.Proofs.Tryz.prog Go.Proofs.Tryz.f107)}).1
noncomputable def L108:LFun:=(⟨_,by conv=>rhs; reduce; try simp (disch:=decide) only[qaC,qax,qay,qas,qaH,qaB,qat,qao,qau,qav,qaw]⟩:{x // x=lf [] [] (cuF Go.Proofs.Tryz.prog Go.Proofs.Tryz.f108)}).1
noncomputable def L109k0:List Bool:=(⟨_,by conv=>rhs; reduce⟩:{x // x=lk (cuF Go.Proofs.Tryz.prog Go.Proofs.Tryz.f109) 0}).1
noncomputable def L109b0:LCode:=(⟨_,by conv=>rhs; reduce; try simp (disch:=decide) only[qaC,qax,qay,qas,qaH,qaB,qat,qao,qau,qav,qaw]⟩:{x // x=lb [] [] (cuF Go.Proofs.Tryz.prog Go.Proofs.Tryz.f109) 0}).1
attribute [local irreducible] L109k0 L109b0
noncomputable def L109:LFun:=(⟨_,by conv=>rhs; reduce; try simp (disch:=decide) only[qaC,qax,qay,qas,qaH,qaB,qat,qao,qau,qav,qaw]⟩:{x // x=lf [L109k0] [L109b0] (cuF Go.Proofs.Tryz.prog Go.Proofs.Tryz.f109)}).1
noncomputable def L110:LFun:=(⟨_,by conv=>rhs; reduce; try simp (disch:=decide) only[qaC,qax,qay,qas,qaH,qaB,qat,qao,qau,qav,qaw]⟩:{x // x=lf [] [] (cuF Go.Proofs.Tryz.prog Go.Proofs.Tryz.f110)}).1
noncomputable def L111:LFun:=(⟨_,by conv=>rhs; reduce; try simp (disch:=decide) only[qaC,qax,qay,qas,qaH,qaB,qat,qao,qau,qav,qaw]⟩:{x // x=lf [] [] (cuF Go.Proofs.Tryz.prog Go.Proofs.Tryz.f111)}).1
theorem c3:qaS Go.Proofs.Tryz.prog 3=some L3:=by kernel_rfl
theorem c4:qaS Go.Proofs.Tryz.prog 4=some L4:=by kernel_rfl
theorem c5:qaS Go.Proofs.Tryz.prog 5=some L5:=by kernel_rfl
theorem c6:qaS Go.Proofs.Tryz.prog 6=some L6:=by kernel_rfl
theorem c7:qaS Go.Proofs.Tryz.prog 7=some L7:=by kernel_rfl
theorem c8:qaS Go.Proofs.Tryz.prog 8=some L8:=by kernel_rfl
theorem c9:qaS Go.Proofs.Tryz.prog 9=some L9:=by kernel_rfl
theorem c10:qaS Go.Proofs.Tryz.prog 10=some L10:=by kernel_rfl
theorem c11:qaS Go.Proofs.Tryz.prog 11=some L11:=by kernel_rfl
theorem c12:qaS Go.Proofs.Tryz.prog 12=some L12:=by kernel_rfl
theorem c13:qaS Go.Proofs.Tryz.prog 13=some L13:=by kernel_rfl
theorem c14:qaS Go.Proofs.Tryz.prog 14=some L14:=by kernel_rfl
theorem c15:qaS Go.Proofs.Tryz.prog 15=some L15:=by kernel_rfl
theorem c16:qaS Go.Proofs.Tryz.prog 16=some L16:=by kernel_rfl
theorem c17:qaS Go.Proofs.Tryz.prog 17=some L17:=by kernel_rfl
theorem c18:qaS Go.Proofs.Tryz.prog 18=some L18:=by kernel_rfl
theorem c19:qaS Go.Proofs.Tryz.prog 19=some L19:=by kernel_rfl
theorem c20:qaS Go.Proofs.Tryz.prog 20=some L20:=by kernel_rfl
theorem c21:qaS Go.Proofs.Tryz.prog 21=some L21:=by kernel_rfl
theorem c22:qaS Go.Proofs.Tryz.prog 22=some L22:=by kernel_rfl
theorem c23:qaS Go.Proofs.Tryz.prog 23=some L23:=by kernel_rfl
theorem c24:qaS Go.Proofs.Tryz.prog 24=some L24:=by kernel_rfl
theorem c25:qaS Go.Proofs.Tryz.prog 25=some L25:=by kernel_rfl
theorem c26:qaS Go.Proofs.Tryz.prog 26=some L26:=by kernel_rfl
theorem c27:qaS Go.Proofs.Tryz.prog 27=some L27:=by kernel_rfl
theorem c28:qaS Go.Proofs.Tryz.prog 28=some L28:=by kernel_rfl
theorem c29:qaS Go.Proofs.Tryz.prog 29=some L29:=by kernel_rfl
theorem c30:qaS Go.Proofs.Tryz.prog 30=some L30:=by kernel_rfl
theorem c31:qaS Go.Proofs.Tryz.prog 31=some L31:=by kernel_rfl
theorem c32:qaS Go.Proofs.Tryz.prog 32=some L32:=by kernel_rfl
theorem c33:qaS Go.Proofs.Tryz.prog 33=some L33:=by kernel_rfl
theorem c34:qaS Go.Proofs.Tryz.prog 34=some L34:=by kernel_rfl
theorem c35:qaS Go.Proofs.Tryz.prog 35=some L35:=by kernel_rfl
theorem c36:qaS Go.Proofs.Tryz.prog 36=some L36:=by kernel_rfl
theorem c37:qaS Go.Proofs.Tryz.prog 37=some L37:=by kernel_rfl
theorem c38:qaS Go.Proofs.Tryz.prog 38=some L38:=by kernel_rfl
theorem c39:qaS Go.Proofs.Tryz.prog 39=some L39:=by kernel_rfl
theorem c40:qaS Go.Proofs.Tryz.prog 40=some L40:=by kernel_rfl
theorem c41:qaS Go.Proofs.Tryz.prog 41=some L41:=by kernel_rfl
theorem c42:qaS Go.Proofs.Tryz.prog 42=some L42:=by kernel_rfl
theorem c43:qaS Go.Proofs.Tryz.prog 43=some L43:=by kernel_rfl
theorem c44:qaS Go.Proofs.Tryz.prog 44=some L44:=by kernel_rfl
theorem c45:qaS Go.Proofs.Tryz.prog 45=some L45:=by kernel_rfl
theorem c46:qaS Go.Proofs.Tryz.prog 46=some L46:=by kernel_rfl
theorem c47:qaS Go.Proofs.Tryz.prog 47=some L47:=by kernel_rfl
theorem c48:qaS Go.Proofs.Tryz.prog 48=some L48:=by kernel_rfl
theorem c49:qaS Go.Proofs.Tryz.prog 49=some L49:=by kernel_rfl
theorem c50:qaS Go.Proofs.Tryz.prog 50=some L50:=by kernel_rfl
theorem c51:qaS Go.Proofs.Tryz.prog 51=some L51:=by kernel_rfl
theorem c52:qaS Go.Proofs.Tryz.prog 52=some L52:=by kernel_rfl
theorem c53:qaS Go.Proofs.Tryz.prog 53=some L53:=by kernel_rfl
theorem c54:qaS Go.Proofs.Tryz.prog 54=some L54:=by kernel_rfl
theorem c55:qaS Go.Proofs.Tryz.prog 55=some L55:=by kernel_rfl
theorem c56:qaS Go.Proofs.Tryz.prog 56=some L56:=by kernel_rfl
theorem c57:qaS Go.Proofs.Tryz.prog 57=some L57:=by kernel_rfl
theorem c58:qaS Go.Proofs.Tryz.prog 58=some L58:=by kernel_rfl
theorem c59:qaS Go.Proofs.Tryz.prog 59=some L59:=by kernel_rfl
theorem c60:qaS Go.Proofs.Tryz.prog 60=some L60:=by kernel_rfl
theorem c61:qaS Go.Proofs.Tryz.prog 61=some L61:=by kernel_rfl
theorem c62:qaS Go.Proofs.Tryz.prog 62=some L62:=by kernel_rfl
theorem c63:qaS Go.Proofs.Tryz.prog 63=some L63:=by kernel_rfl
theorem c64:qaS Go.Proofs.Tryz.prog 64=some L64:=by kernel_rfl
theorem c65:qaS Go.Proofs.Tryz.prog 65=some L65:=by kernel_rfl
theorem c66:qaS Go.Proofs.Tryz.prog 66=some L66:=by kernel_rfl
theorem c67:qaS Go.Proofs.Tryz.prog 67=some L67:=by kernel_rfl
theorem c68:qaS Go.Proofs.Tryz.prog 68=some L68:=by kernel_rfl
theorem c69:qaS Go.Proofs.Tryz.prog 69=some L69:=by kernel_rfl
theorem c70:qaS Go.Proofs.Tryz.prog 70=some L70:=by kernel_rfl
theorem c71:qaS Go.Proofs.Tryz.prog 71=some L71:=by kernel_rfl
theorem c72:qaS Go.Proofs.Tryz.prog 72=some L72:=by kernel_rfl
theorem c73:qaS Go.Proofs.Tryz.prog 73=some L73:=by kernel_rfl
theorem c74:qaS Go.Proofs.Tryz.prog 74=some L74:=by kernel_rfl
theorem c75:qaS Go.Proofs.Tryz.prog 75=some L75:=by kernel_rfl
theorem c76:qaS Go.Proofs.Tryz.prog 76=some L76:=by kernel_rfl
theorem c77:qaS Go.Proofs.Tryz.prog 77=some L77:=by kernel_rfl
theorem c78:qaS Go.Proofs.Tryz.prog 78=some L78:=by kernel_rfl
theorem c79:qaS Go.Proofs.Tryz.prog 79=some L79:=by kernel_rfl
theorem c80:qaS Go.Proofs.Tryz.prog 80=some L80:=by kernel_rfl
theorem c81:qaS Go.Proofs.Tryz.prog 81=some L81:=by kernel_rfl
theorem c82:qaS Go.Proofs.Tryz.prog 82=some L82:=by kernel_rfl
theorem c83:qaS Go.Proofs.Tryz.prog 83=some L83:=by kernel_rfl
theorem c84:qaS Go.Proofs.Tryz.prog 84=some L84:=by kernel_rfl
theorem c85:qaS Go.Proofs.Tryz.prog 85=some L85:=by kernel_rfl
theorem c86:qaS Go.Proofs.Tryz.prog 86=some L86:=by kernel_rfl
theorem c87:qaS Go.Proofs.Tryz.prog 87=some L87:=by kernel_rfl
theorem c88:qaS Go.Proofs.Tryz.prog 88=some L88:=by kernel_rfl
theorem c89:qaS Go.Proofs.Tryz.prog 89=some L89:=by kernel_rfl
theorem c90:qaS Go.Proofs.Tryz.prog 90=some L90:=by kernel_rfl
theorem c91:qaS Go.Proofs.Tryz.prog 91=some L91:=by kernel_rfl
theorem c92:qaS Go.Proofs.Tryz.prog 92=some L92:=by kernel_rfl
theorem c93:qaS Go.Proofs.Tryz.prog 93=some L93:=by kernel_rfl
theorem c94:qaS Go.Proofs.Tryz.prog 94=some L94:=by kernel_rfl
theorem c95:qaS Go.Proofs.Tryz.prog 95=some L95:=by kernel_rfl
theorem c96:qaS Go.Proofs.Tryz.prog 96=some L96:=by kernel_rfl
theorem c97:qaS Go.Proofs.Tryz.prog 97=some L97:=by kernel_rfl
theorem c98:qaS Go.Proofs.Tryz.prog 98=some L98:=by kernel_rfl
theorem c99:qaS Go.Proofs.Tryz.prog 99=some L99:=by kernel_rfl
theorem c100:qaS Go.Proofs.Tryz.prog 100=some L100:=by kernel_rfl
theorem c101:qaS Go.Proofs.Tryz.prog 101=some L101:=by kernel_rfl
theorem c102:qaS Go.Proofs.Tryz.prog 102=some L102:=by kernel_rfl
theorem c103:qaS Go.Proofs.Tryz.prog 103=some L103:=by kernel_rfl
theorem c104:qaS Go.Proofs.Tryz.prog 104=some L104:=by kernel_rfl
theorem c105:qaS Go.Proofs.Tryz.prog 105=some L105:=by kernel_rfl
theorem c106:qaS Go.Proofs.Tryz.prog 106=some L106:=by kernel_rfl
theorem c107:qaS Go.Proofs.Tryz.prog 107=some L107:=by kernel_rfl
theorem c108:qaS Go.Proofs.Tryz.prog 108=some L108:=by kernel_rfl
theorem c109:qaS Go.Proofs.Tryz.prog 109=some L109:=by kernel_rfl
theorem c110:qaS Go.Proofs.Tryz.prog 110=some L110:=by kernel_rfl
theorem c111:qaS Go.Proofs.Tryz.prog 111=some L111:=by kernel_rfl
noncomputable def tab:List (Nat × LFun):=[(3,L3),(4,L4),(5,L5),(6,L6),(7,L7),(8,L8),(9,L9),(10,L10),(11,L11),(12,L12),(13,L13),(14,L14),(15,L15),(16,L16),(17,L17),(18,L18),(19,L19),(20,L20),(21,L21),(22,L22),(23,L23),(24,L24),(25,L25),(26,L26),(27,L27),(28,L28),(29,L29),(30,L30),(31,L31),(32,L32),(33,L33),(34,L34),(35,L35),(36,L36),(37,L37),(38,L38),(39,L39),(40,L40),(41,L41),(42,L42),(43,L43),(44,L44),(45,L45),(46,L46),(47,L47),(48,L48),(49,L49),(50,L50),(51,L51),(52,L52),(53,L53),(54,L54),(55,L55),(56,L56),(57,L57),(58,L58),(59,L59),(60,L60),(61,L61),(62,L62),(63,L63),(64,L64),(65,L65),(66,L66),(67,L67),(68,L68),(69,L69),(70,L70),(71,L71),(72,L72),(73,L73),(74,L74),(75,L75),(76,L76),(77,L77),(78,L78),(79,L79),(80,L80),(81,L81),(82,L82),(83,L83),(84,L84),(85,L85),(86,L86),(87,L87),(88,L88),(89,L89),(90,L90),(91,L91),(92,L92),(93,L93),(94,L94),(95,L95),(96,L96),(97,L97),(98,L98),(99,L99),(100,L100),(101,L101),(102,L102),(103,L103),(104,L104),(105,L105),(106,L106),(107,L107),(108,L108),(109,L109),(110,L110),(111,L111)]
theorem tab_ok:∀ f lf,look tab f=some lf→qaS Go.Proofs.Tryz.prog f=some lf:=look_ok tab (by
  simp only[tab,List.forall_mem_cons,List.not_mem_nil,false_imp_iff,implies_true,and_true]
  exact ⟨c3,c4,c5,c6,c7,c8,c9,c10,c11,c12,c13,c14,c15,c16,c17,c18,c19,c20,c21,c22,c23,c24,c25,c26,c27,c28,c29,c30,c31,c32,c33,c34,c35,c36,c37,c38,c39,c40,c41,c42,c43,c44,c45,c46,c47,c48,c49,c50,c51,c52,c53,c54,c55,c56,c57,c58,c59,c60,c61,c62,c63,c64,c65,c66,c67,c68,c69,c70,c71,c72,c73,c74,c75,c76,c77,c78,c79,c80,c81,c82,c83,c84,c85,c86,c87,c88,c89,c90,c91,c92,c93,c94,c95,c96,c97,c98,c99,c100,c101,c102,c103,c104,c105,c106,c107,c108,c109,c110,c111⟩)
def qaJ:Nat→Nat→Bool:=fun g i=>match g,i with
  | 32,0=>true | 39,0=>true | 15,0=>true | 19,0=>true | 58,2=>true | 70,1=>true | 20,2=>true | 27,2=>true | 40,2=>true | 35,2=>true | 82,0=>true | 52,0=>true | 84,1=>true | 31,0=>true | 31,1=>true | 37,0=>true | 37,1=>true | 25,0=>true | 25,1=>true | 64,0=>true | 65,1=>true | 53,0=>true | 6,2=>true | 9,2=>true | 7,2=>true | 10,2=>true | 17,2=>true | 13,2=>true | 14,2=>true | 43,1=>true
  | _,_=>false
noncomputable def C:Ctx:={ fns:=look tab,gl:=Sha.glf,borrow:=qaJ,trim:=true }
theorem qaq:C.trim=true:=rfl
theorem qdg:C.borrow=qaJ:=rfl
theorem C_ok:∀ f lf,C.fns f=some lf→qaS Go.Proofs.Tryz.prog f=some lf:=tab_ok
theorem qae {k:Nat} {H:Heap} {b:Nat} {g:FuncId} {args:List LV} (hb:qaJ g=fun _=>false) (hn:args.flatMap (nms D)=[]) (hr:args.map (ren D (qaM []))=args) :
    qaA (envC C k) H b g args=calK b (F C k g args []):=callOp_sc H b hb hn hr
theorem f3:C.fns 3=some L3:=by kernel_rfl
theorem l3:qaJ 3=fun _=>false:=by funext i; rfl
theorem f4:C.fns 4=some L4:=by kernel_rfl
theorem l4:qaJ 4=fun _=>false:=by funext i; rfl
theorem f5:C.fns 5=some L5:=by kernel_rfl
theorem l5:qaJ 5=fun _=>false:=by funext i; rfl
theorem f6:C.fns 6=some L6:=by kernel_rfl
theorem f7:C.fns 7=some L7:=by kernel_rfl
theorem f8:C.fns 8=some L8:=by kernel_rfl
theorem l8:qaJ 8=fun _=>false:=by funext i; rfl
theorem f9:C.fns 9=some L9:=by kernel_rfl
theorem f10:C.fns 10=some L10:=by kernel_rfl
theorem f11:C.fns 11=some L11:=by kernel_rfl
theorem l11:qaJ 11=fun _=>false:=by funext i; rfl
theorem f12:C.fns 12=some L12:=by kernel_rfl
theorem l12:qaJ 12=fun _=>false:=by funext i; rfl
theorem f13:C.fns 13=some L13:=by kernel_rfl
theorem f14:C.fns 14=some L14:=by kernel_rfl
theorem f15:C.fns 15=some L15:=by kernel_rfl
theorem f16:C.fns 16=some L16:=by kernel_rfl
theorem l16:qaJ 16=fun _=>false:=by funext i; rfl
theorem f17:C.fns 17=some L17:=by kernel_rfl
theorem f18:C.fns 18=some L18:=by kernel_rfl
theorem l18:qaJ 18=fun _=>false:=by funext i; rfl
theorem f19:C.fns 19=some L19:=by kernel_rfl
theorem f20:C.fns 20=some L20:=by kernel_rfl
theorem f21:C.fns 21=some L21:=by kernel_rfl
theorem l21:qaJ 21=fun _=>false:=by funext i; rfl
theorem f22:C.fns 22=some L22:=by kernel_rfl
theorem l22:qaJ 22=fun _=>false:=by funext i; rfl
theorem f23:C.fns 23=some L23:=by kernel_rfl
theorem l23:qaJ 23=fun _=>false:=by funext i; rfl
theorem f24:C.fns 24=some L24:=by kernel_rfl
theorem l24:qaJ 24=fun _=>false:=by funext i; rfl
theorem f25:C.fns 25=some L25:=by kernel_rfl
theorem f26:C.fns 26=some L26:=by kernel_rfl
theorem l26:qaJ 26=fun _=>false:=by funext i; rfl
theorem f27:C.fns 27=some L27:=by kernel_rfl
theorem f28:C.fns 28=some L28:=by kernel_rfl
theorem l28:qaJ 28=fun _=>false:=by funext i; rfl
theorem f29:C.fns 29=some L29:=by kernel_rfl
theorem l29:qaJ 29=fun _=>false:=by funext i; rfl
theorem f30:C.fns 30=some L30:=by kernel_rfl
theorem l30:qaJ 30=fun _=>false:=by funext i; rfl
theorem f31:C.fns 31=some L31:=by kernel_rfl
theorem f32:C.fns 32=some L32:=by kernel_rfl
theorem f33:C.fns 33=some L33:=by kernel_rfl
theorem l33:qaJ 33=fun _=>false:=by funext i; rfl
theorem f34:C.fns 34=some L34:=by kernel_rfl
theorem l34:qaJ 34=fun _=>false:=by funext i; rfl
theorem f35:C.fns 35=some L35:=by kernel_rfl
theorem f36:C.fns 36=some L36:=by kernel_rfl
theorem l36:qaJ 36=fun _=>false:=by funext i; rfl
theorem f37:C.fns 37=some L37:=by kernel_rfl
theorem f38:C.fns 38=some L38:=by kernel_rfl
theorem l38:qaJ 38=fun _=>false:=by funext i; rfl
theorem f39:C.fns 39=some L39:=by kernel_rfl
theorem f40:C.fns 40=some L40:=by kernel_rfl
theorem f41:C.fns 41=some L41:=by kernel_rfl
theorem l41:qaJ 41=fun _=>false:=by funext i; rfl
theorem f42:C.fns 42=some L42:=by kernel_rfl
theorem l42:qaJ 42=fun _=>false:=by funext i; rfl
theorem f43:C.fns 43=some L43:=by kernel_rfl
theorem f44:C.fns 44=some L44:=by kernel_rfl
theorem l44:qaJ 44=fun _=>false:=by funext i; rfl
theorem f45:C.fns 45=some L45:=by kernel_rfl
theorem l45:qaJ 45=fun _=>false:=by funext i; rfl
theorem f46:C.fns 46=some L46:=by kernel_rfl
theorem l46:qaJ 46=fun _=>false:=by funext i; rfl
theorem f47:C.fns 47=some L47:=by kernel_rfl
theorem l47:qaJ 47=fun _=>false:=by funext i; rfl
theorem f48:C.fns 48=some L48:=by kernel_rfl
theorem l48:qaJ 48=fun _=>false:=by funext i; rfl
theorem f49:C.fns 49=some L49:=by kernel_rfl
theorem l49:qaJ 49=fun _=>false:=by funext i; rfl
theorem f50:C.fns 50=some L50:=by kernel_rfl
theorem l50:qaJ 50=fun _=>false:=by funext i; rfl
theorem f51:C.fns 51=some L51:=by kernel_rfl
theorem l51:qaJ 51=fun _=>false:=by funext i; rfl
theorem f52:C.fns 52=some L52:=by kernel_rfl
theorem f53:C.fns 53=some L53:=by kernel_rfl
theorem f54:C.fns 54=some L54:=by kernel_rfl
theorem l54:qaJ 54=fun _=>false:=by funext i; rfl
theorem f55:C.fns 55=some L55:=by kernel_rfl
theorem l55:qaJ 55=fun _=>false:=by funext i; rfl
theorem f56:C.fns 56=some L56:=by kernel_rfl
theorem l56:qaJ 56=fun _=>false:=by funext i; rfl
theorem f57:C.fns 57=some L57:=by kernel_rfl
theorem l57:qaJ 57=fun _=>false:=by funext i; rfl
theorem f58:C.fns 58=some L58:=by kernel_rfl
theorem f59:C.fns 59=some L59:=by kernel_rfl
theorem l59:qaJ 59=fun _=>false:=by funext i; rfl
theorem f60:C.fns 60=some L60:=by kernel_rfl
theorem l60:qaJ 60=fun _=>false:=by funext i; rfl
theorem f61:C.fns 61=some L61:=by kernel_rfl
theorem l61:qaJ 61=fun _=>false:=by funext i; rfl
theorem f62:C.fns 62=some L62:=by kernel_rfl
theorem l62:qaJ 62=fun _=>false:=by funext i; rfl
theorem f63:C.fns 63=some L63:=by kernel_rfl
theorem l63:qaJ 63=fun _=>false:=by funext i; rfl
theorem f64:C.fns 64=some L64:=by kernel_rfl
theorem f65:C.fns 65=some L65:=by kernel_rfl
theorem f66:C.fns 66=some L66:=by kernel_rfl
theorem l66:qaJ 66=fun _=>false:=by funext i; rfl
theorem f67:C.fns 67=some L67:=by kernel_rfl
theorem l67:qaJ 67=fun _=>false:=by funext i; rfl
theorem f68:C.fns 68=some L68:=by kernel_rfl
theorem l68:qaJ 68=fun _=>false:=by funext i; rfl
theorem f69:C.fns 69=some L69:=by kernel_rfl
theorem l69:qaJ 69=fun _=>false:=by funext i; rfl
theorem f70:C.fns 70=some L70:=by kernel_rfl
theorem f71:C.fns 71=some L71:=by kernel_rfl
theorem l71:qaJ 71=fun _=>false:=by funext i; rfl
theorem f72:C.fns 72=some L72:=by kernel_rfl
theorem l72:qaJ 72=fun _=>false:=by funext i; rfl
theorem f73:C.fns 73=some L73:=by kernel_rfl
theorem l73:qaJ 73=fun _=>false:=by funext i; rfl
theorem f74:C.fns 74=some L74:=by kernel_rfl
theorem l74:qaJ 74=fun _=>false:=by funext i; rfl
theorem f75:C.fns 75=some L75:=by kernel_rfl
theorem l75:qaJ 75=fun _=>false:=by funext i; rfl
theorem f76:C.fns 76=some L76:=by kernel_rfl
theorem l76:qaJ 76=fun _=>false:=by funext i; rfl
theorem f77:C.fns 77=some L77:=by kernel_rfl
theorem l77:qaJ 77=fun _=>false:=by funext i; rfl
theorem f78:C.fns 78=some L78:=by kernel_rfl
theorem l78:qaJ 78=fun _=>false:=by funext i; rfl
theorem f79:C.fns 79=some L79:=by kernel_rfl
theorem l79:qaJ 79=fun _=>false:=by funext i; rfl
theorem f80:C.fns 80=some L80:=by kernel_rfl
theorem l80:qaJ 80=fun _=>false:=by funext i; rfl
theorem f81:C.fns 81=some L81:=by kernel_rfl
theorem l81:qaJ 81=fun _=>false:=by funext i; rfl
theorem f82:C.fns 82=some L82:=by kernel_rfl
theorem f83:C.fns 83=some L83:=by kernel_rfl
theorem l83:qaJ 83=fun _=>false:=by funext i; rfl
theorem f84:C.fns 84=some L84:=by kernel_rfl
theorem f85:C.fns 85=some L85:=by kernel_rfl
theorem l85:qaJ 85=fun _=>false:=by funext i; rfl
theorem f86:C.fns 86=some L86:=by kernel_rfl
theorem l86:qaJ 86=fun _=>false:=by funext i; rfl
theorem f87:C.fns 87=some L87:=by kernel_rfl
theorem l87:qaJ 87=fun _=>false:=by funext i; rfl
theorem f88:C.fns 88=some L88:=by kernel_rfl
theorem l88:qaJ 88=fun _=>false:=by funext i; rfl
theorem f89:C.fns 89=some L89:=by kernel_rfl
theorem l89:qaJ 89=fun _=>false:=by funext i; rfl
theorem f90:C.fns 90=some L90:=by kernel_rfl
theorem l90:qaJ 90=fun _=>false:=by funext i; rfl
theorem f91:C.fns 91=some L91:=by kernel_rfl
theorem l91:qaJ 91=fun _=>false:=by funext i; rfl
theorem f92:C.fns 92=some L92:=by kernel_rfl
theorem l92:qaJ 92=fun _=>false:=by funext i; rfl
theorem f93:C.fns 93=some L93:=by kernel_rfl
theorem l93:qaJ 93=fun _=>false:=by funext i; rfl
theorem f94:C.fns 94=some L94:=by kernel_rfl
theorem l94:qaJ 94=fun _=>false:=by funext i; rfl
theorem f95:C.fns 95=some L95:=by kernel_rfl
theorem l95:qaJ 95=fun _=>false:=by funext i; rfl
theorem f96:C.fns 96=some L96:=by kernel_rfl
theorem l96:qaJ 96=fun _=>false:=by funext i; rfl
theorem f97:C.fns 97=some L97:=by kernel_rfl
theorem l97:qaJ 97=fun _=>false:=by funext i; rfl
theorem f98:C.fns 98=some L98:=by kernel_rfl
theorem l98:qaJ 98=fun _=>false:=by funext i; rfl
theorem f99:C.fns 99=some L99:=by kernel_rfl
theorem l99:qaJ 99=fun _=>false:=by funext i; rfl
theorem f100:C.fns 100=some L100:=by kernel_rfl
theorem l100:qaJ 100=fun _=>false:=by funext i; rfl
theorem f101:C.fns 101=some L101:=by kernel_rfl
theorem l101:qaJ 101=fun _=>false:=by funext i; rfl
theorem f102:C.fns 102=some L102:=by kernel_rfl
theorem l102:qaJ 102=fun _=>false:=by funext i; rfl
theorem f103:C.fns 103=some L103:=by kernel_rfl
theorem l103:qaJ 103=fun _=>false:=by funext i; rfl
theorem f104:C.fns 104=some L104:=by kernel_rfl
theorem l104:qaJ 104=fun _=>false:=by funext i; rfl
theorem f105:C.fns 105=some L105:=by kernel_rfl
theorem l105:qaJ 105=fun _=>false:=by funext i; rfl
theorem f106:C.fns 106=some L106:=by kernel_rfl
theorem l106:qaJ 106=fun _=>false:=by funext i; rfl
theorem f107:C.fns 107=some L107:=by kernel_rfl
theorem l107:qaJ 107=fun _=>false:=by funext i; rfl
theorem f108:C.fns 108=some L108:=by kernel_rfl
theorem l108:qaJ 108=fun _=>false:=by funext i; rfl
theorem f109:C.fns 109=some L109:=by kernel_rfl
theorem l109:qaJ 109=fun _=>false:=by funext i; rfl
theorem f110:C.fns 110=some L110:=by kernel_rfl
theorem l110:qaJ 110=fun _=>false:=by funext i; rfl
theorem f111:C.fns 111=some L111:=by kernel_rfl
theorem l111:qaJ 111=fun _=>false:=by funext i; rfl
set_option linter.defProp false
def lB:=And.intro l3 ( And.intro l4 ( And.intro l5 ( And.intro l8 ( And.intro l11 ( And.intro l12 ( And.intro l16 ( And.intro l18 ( And.intro l21 ( And.intro l22 ( And.intro l23 ( And.intro l24 ( And.intro l26 ( And.intro l28 ( And.intro l29 ( And.intro l30 ( And.intro l33 ( And.intro l34 ( And.intro l36 ( And.intro l38 ( And.intro l41 ( And.intro l42 ( And.intro l44 ( And.intro l45 ( And.intro l46 ( And.intro l47 ( And.intro l48 ( And.intro l49 ( And.intro l50 ( And.intro l51 ( And.intro l54 ( And.intro l55 ( And.intro l56 ( And.intro l57 ( And.intro l59 ( And.intro l60 ( And.intro l61 ( And.intro l62 ( And.intro l63 ( And.intro l66 ( And.intro l67 ( And.intro l68 ( And.intro l69 ( And.intro l71 ( And.intro l72 ( And.intro l73 ( And.intro l74 ( And.intro l75 ( And.intro l76 ( And.intro l77 ( And.intro l78 ( And.intro l79 ( And.intro l80 ( And.intro l81 ( And.intro l83 ( And.intro l85 ( And.intro l86 ( And.intro l87 ( And.intro l88 ( And.intro l89 ( And.intro l90 ( And.intro l91 ( And.intro l92 ( And.intro l93 ( And.intro l94 ( And.intro l95 ( And.intro l96 ( And.intro l97 ( And.intro l98 ( And.intro l99 ( And.intro l100 ( And.intro l101 ( And.intro l102 ( And.intro l103 ( And.intro l104 ( And.intro l105 ( And.intro l106 ( And.intro l107 ( And.intro l108 ( And.intro l109 ( And.intro l110 (l111)))))))))))))))))))))))))))))))))))))))))))))))))))))))))))))))))))))))))))))))))
end Tb
