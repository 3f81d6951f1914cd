/- The code of the functions that are reached, reckoned from the program's text, and each checked against it. -/
import Derived.Test.YtbdjmicabfclcaaDoorLeE
import Derived.Test.YtbdjmicabfclcaaDoorLeG
import Derived.Test.YtbdjmicabfclcaaDoorProg
import Derived.KernelRfl
set_option linter.unusedVariables false
set_option linter.unusedSimpArgs false
namespace Tb
open Go Go.LE
set_option maxRecDepth 100000
set_option maxHeartbeats 0
attribute [local irreducible] cB8 cB32 cB64 cNat cI cBo cNil cNilP cStr cRep cApp
noncomputable def L3:LFun:={ ntmps:=56,results:=[.tmp 6],body:=(LCode.region [⟨some 3,.box (.t 0),none,none⟩,⟨some 4,.box (.t 1),none,none⟩,⟨some 5,.box (.t 2),none,none⟩,⟨some 6,.mv (.c (Bo false)),none,none⟩]).seq ((LCode.region [⟨some 13,.ld 32 (.t 3),none,none⟩,⟨some 14,.ld 24 (.t 4),none,none⟩,⟨some 15,.ld 35 (.t 5),none,none⟩,⟨some 16,.call (.c (.fn (.func 7) [] [])) [.t 13,.t 14,.t 15],none,none⟩,⟨some 12,.mv (.t 16),none,none⟩,⟨some 17,.ext (.t 12) 0,none,none⟩,⟨some 18,.ext (.t 12) 1,none,none⟩,⟨some 7,.mv (.t 17),none,none⟩,⟨some 8,.mv (.t 18),none,none⟩]).seq ((LCode.region [⟨some 20,.ld 32 (.t 3),none,none⟩,⟨some 21,.ld 24 (.t 4),none,none⟩,⟨some 22,.ld 35 (.t 5),none,none⟩,⟨some 23,.call (.c (.fn (.func 8) [] [])) [.t 20,.t 21,.t 22],none,none⟩,⟨some 19,.mv (.t 23),none,none⟩,⟨some 24,.ext (.t 19) 0,none,none⟩,⟨some 25,.ext (.t 19) 1,none,none⟩,⟨some 9,.mv (.t 24),none,none⟩,⟨some 10,.mv (.t 25),none,none⟩]).seq (((LCode.region [⟨some 26,.call (.c (.fn (.func 9) [] [])) [],none,none⟩,⟨some 27,.un .not (.t 26),none,none⟩,⟨some 28,.mv (.t 27),none,none⟩,⟨some 29,.mv (.t 7),some (28,false),none⟩,⟨some 30,.b2s (.t 29),some (28,false),none⟩,⟨some 31,.mv (.t 9),some (28,false),none⟩,⟨some 32,.b2s (.t 31),some (28,false),none⟩,⟨some 33,.bin .neq .none (.t 30) (.t 32),some (28,false),none⟩,⟨some 34,.pick (.t 28) (.c (Bo true)) (.t 33),none,none⟩,⟨some 35,.mv (.t 34),none,none⟩,⟨some 36,.mv (.t 8),some (35,false),none⟩,⟨some 37,.mv (.t 10),some (35,false),none⟩,⟨some 38,.bin .neq .none (.t 36) (.t 37),some (35,false),none⟩,⟨some 39,.pick (.t 35) (.c (Bo true)) (.t 38),none,none⟩]).seq (LCode.cond (.t 39) ((LCode.region [⟨some 6,.mv (.c (Bo false)),none,none⟩]).seq LCode.ret) LCode.skip)).seq (((LCode.region [⟨some 40,.mv (.t 10),none,none⟩,⟨some 41,.bin .neq .none (.t 40) (.c (N 0)),none,none⟩]).seq (LCode.cond (.t 41) ((LCode.region [⟨some 6,.mv (.c (Bo true)),none,none⟩]).seq LCode.ret) LCode.skip)).seq ((LCode.region [⟨some 43,.ld 32 (.t 3),none,none⟩,⟨some 44,.ld 24 (.t 4),none,none⟩,⟨some 45,.mv (.t 7),none,none⟩,⟨some 46,.call (.c (.fn (.func 10) [] [])) [.t 43,.t 44,.t 45],none,none⟩,⟨some 42,.mv (.t 46),none,none⟩,⟨some 47,.ext (.t 42) 0,none,none⟩,⟨some 48,.ext (.t 42) 1,none,none⟩,⟨some 11,.new [B64 0#64,Bo false,N 0,B8 0#8,B8 0#8,B8 0#8,B8 0#8,B8 0#8,B8 0#8,B8 0#8,B8 0#8,B8 0#8,B8 0#8,B8 0#8,B8 0#8,B8 0#8,B8 0#8,B8 0#8,B8 0#8,B8 0#8,B8 0#8,B8 0#8,B8 0#8,B8 0#8,B8 0#8,B8 0#8,B8 0#8,B8 0#8,B8 0#8,B8 0#8,B8 0#8,B8 0#8,B8 0#8,B8 0#8,B8 0#8],none,none⟩,⟨none,.st 35 (.t 11) (.t 47),none,none⟩,⟨some 8,.mv (.t 48),none,none⟩]).seq ((LCode.region [⟨some 49,.mv (.t 8),none,none⟩,⟨some 50,.bin .eql .none (.t 49) (.c (N 0)),none,none⟩,⟨some 51,.mv (.t 50),none,none⟩,⟨some 52,.ld 35 (.t 11),some (51,true),none⟩,⟨some 53,.ld 35 (.t 5),some (51,true),none⟩,⟨some 54,.bin .eql (.flat [(1,.int),(1,.bool),(33,.int)]) (.t 52) (.t 53),some (51,true),none⟩,⟨some 55,.pick (.t 51) (.t 54) (.c (Bo false)),none,none⟩,⟨some 6,.mv (.t 55),none,none⟩]).seq LCode.ret)))))) }
noncomputable def L4:LFun:={ ntmps:=38,results:=[.tmp 6],body:=(LCode.region [⟨some 3,.box (.t 0),none,none⟩,⟨some 4,.box (.t 1),none,none⟩,⟨some 6,.mv (.c (Bo false)),none,none⟩]).seq ((LCode.region [⟨some 12,.ld 32 (.t 3),none,some 0⟩,⟨some 13,.ld 24 (.t 4),none,some 0⟩,⟨some 14,.mkrow 1 [] [] 0,none,none⟩,⟨some 15,.mv (.t 2),none,none⟩,⟨some 16,.append 1 1 false (.t 14) (.t 15),none,some 12⟩,⟨some 17,.call (.c (.fn (.func 10) [] [])) [.t 12,.t 13,.t 16],none,some 31⟩,⟨some 11,.mv (.t 17),none,none⟩,⟨some 18,.ext (.t 11) 0,none,none⟩,⟨some 19,.ext (.t 11) 1,none,none⟩,⟨some 7,.new [B64 0#64,Bo false,N 0,B8 0#8,B8 0#8,B8 0#8,B8 0#8,B8 0#8,B8 0#8,B8 0#8,B8 0#8,B8 0#8,B8 0#8,B8 0#8,B8 0#8,B8 0#8,B8 0#8,B8 0#8,B8 0#8,B8 0#8,B8 0#8,B8 0#8,B8 0#8,B8 0#8,B8 0#8,B8 0#8,B8 0#8,B8 0#8,B8 0#8,B8 0#8,B8 0#8,B8 0#8,B8 0#8,B8 0#8,B8 0#8],none,none⟩,⟨none,.st 35 (.t 7) (.t 18),none,some 767⟩,⟨some 8,.mv (.t 19),none,none⟩]).seq ((LCode.region [⟨some 21,.ld 32 (.t 3),none,none⟩,⟨some 22,.ld 24 (.t 4),none,none⟩,⟨some 23,.mv (.t 2),none,none⟩,⟨some 24,.call (.c (.fn (.func 11) [] [])) [.t 21,.t 22,.t 23],none,none⟩,⟨some 20,.mv (.t 24),none,none⟩,⟨some 25,.ext (.t 20) 0,none,none⟩,⟨some 26,.ext (.t 20) 1,none,none⟩,⟨some 9,.new [B64 0#64,Bo false,N 0,B8 0#8,B8 0#8,B8 0#8,B8 0#8,B8 0#8,B8 0#8,B8 0#8,B8 0#8,B8 0#8,B8 0#8,B8 0#8,B8 0#8,B8 0#8,B8 0#8,B8 0#8,B8 0#8,B8 0#8,B8 0#8,B8 0#8,B8 0#8,B8 0#8,B8 0#8,B8 0#8,B8 0#8,B8 0#8,B8 0#8,B8 0#8,B8 0#8,B8 0#8,B8 0#8,B8 0#8,B8 0#8],none,none⟩,⟨none,.st 35 (.t 9) (.t 25),none,none⟩,⟨some 10,.mv (.t 26),none,none⟩]).seq ((LCode.region [⟨some 27,.call (.c (.fn (.func 9) [] [])) [],none,none⟩,⟨some 28,.mv (.t 27),none,none⟩,⟨some 29,.ld 35 (.t 7),some (28,true),none⟩,⟨some 30,.ld 35 (.t 9),some (28,true),none⟩,⟨some 31,.bin .eql (.flat [(1,.int),(1,.bool),(33,.int)]) (.t 29) (.t 30),some (28,true),none⟩,⟨some 32,.pick (.t 28) (.t 31) (.c (Bo false)),none,none⟩,⟨some 33,.mv (.t 32),none,none⟩,⟨some 34,.mv (.t 8),some (33,true),none⟩,⟨some 35,.mv (.t 10),some (33,true),none⟩,⟨some 36,.bin .eql .none (.t 34) (.t 35),some (33,true),none⟩,⟨some 37,.pick (.t 33) (.t 36) (.c (Bo false)),none,none⟩,⟨some 6,.mv (.t 37),none,none⟩]).seq LCode.ret))) }
noncomputable def L5:LFun:=(⟨_,by conv=>rhs; reduce; try simp (disch:=decide) only[qaD,qay,qaz,qat,qaF,qaC,qau,qap,qav,qaw,qax]⟩:{x // x=lf [] [] (cuF Go.Proofs.Tryd.prog Go.Proofs.Tryd.f5)}).1
noncomputable def L6k0:List Bool:=(⟨_,by conv=>rhs; reduce⟩:{x // x=lk (cuF Go.Proofs.Tryd.prog Go.Proofs.Tryd.f6) 0}).1
noncomputable def L6b0:LCode:=(⟨_,by conv=>rhs; reduce; try simp (disch:=decide) only[qaD,qay,qaz,qat,qaF,qaC,qau,qap,qav,qaw,qax]⟩:{x // x=lb [] [] (cuF Go.Proofs.Tryd.prog Go.Proofs.Tryd.f6) 0}).1
attribute [local irreducible] L6k0 L6b0
noncomputable def L6:LFun:=(⟨_,by conv=>rhs; reduce; try simp (disch:=decide) only[qaD,qay,qaz,qat,qaF,qaC,qau,qap,qav,qaw,qax]⟩:{x // x=lf [L6k0] [L6b0] (cuF Go.Proofs.Tryd.prog Go.Proofs.Tryd.f6)}).1
noncomputable def L7:LFun:=(⟨_,by conv=>rhs; reduce; try simp (disch:=decide) only[qaD,qay,qaz,qat,qaF,qaC,qau,qap,qav,qaw,qax]⟩:{x // x=lf [] [] (cuF Go.Proofs.Tryd.prog Go.Proofs.Tryd.f7)}).1
noncomputable def L8k0:List Bool:=(⟨_,by conv=>rhs; reduce⟩:{x // x=lk (cuF Go.Proofs.Tryd.prog Go.Proofs.Tryd.f8) 0}).1
noncomputable def L8b0:LCode:=(⟨_,by conv=>rhs; reduce; try simp (disch:=decide) only[qaD,qay,qaz,qat,qaF,qaC,qau,qap,qav,qaw,qax]⟩:{x // x=lb [] [] (cuF Go.Proofs.Tryd.prog Go.Proofs.Tryd.f8) 0}).1
attribute [local irreducible] L8k0 L8b0
noncomputable def L8:LFun:=(⟨_,by conv=>rhs; reduce; try simp (disch:=decide) only[qaD,qay,qaz,qat,qaF,qaC,qau,qap,qav,qaw,qax]⟩:{x // x=lf [L8k0] [L8b0] (cuF Go.Proofs.Tryd.prog Go.Proofs.Tryd.f8)}).1
noncomputable def L9:LFun:=(⟨_,by conv=>rhs; reduce; try simp (disch:=decide) only[qaD,qay,qaz,qat,qaF,qaC,qau,qap,qav,qaw,qax]⟩:{x // x=lf [] [] (cuF Go.Proofs.Tryd.prog Go.Proofs.Tryd.f9)}).1
noncomputable def L10:LFun:=(⟨_,by conv=>rhs; reduce; try simp (disch:=decide) only[qaD,qay,qaz,qat,qaF,qaC,qau,qap,qav,qaw,qax]⟩:{x // x=lf [] [] (cuF Go.Proofs.Tryd.prog Go.Proofs.Tryd.f10)}).1
noncomputable def L11k0:List Bool:=(⟨_,by conv=>rhs; reduce⟩:{x // x=lk (cuF Go.Proofs.Tryd.prog Go.Proofs.Tryd.f11) 0}).1
noncomputable def L11b0:LCode:=(⟨_,by conv=>rhs; reduce; try simp (disch:=decide) only[qaD,qay,qaz,qat,qaF,qaC,qau,qap,qav,qaw,qax]⟩:{x // x=lb [] [] (cuF Go.Proofs.Tryd.prog Go.Proofs.Tryd.f11) 0}).1
attribute [local irreducible] L11k0 L11b0
noncomputable def L11k1:List Bool:=(⟨_,by conv=>rhs; reduce⟩:{x // x=lk (cuF Go.Proofs.Tryd.prog Go.Proofs.Tryd.f11) 1}).1
noncomputable def L11b1:LCode:=(⟨_,by conv=>rhs; reduce; try simp (disch:=decide) only[qaD,qay,qaz,qat,qaF,qaC,qau,qap,qav,qaw,qax]⟩:{x // x=lb [L11k0] [L11b0] (cuF Go.Proofs.Tryd.prog Go.Proofs.Tryd.f11) 1}).1
attribute [local irreducible] L11k1 L11b1
noncomputable def L11:LFun:=(⟨_,by conv=>rhs; reduce; try simp (disch:=decide) only[qaD,qay,qaz,qat,qaF,qaC,qau,qap,qav,qaw,qax]⟩:{x // x=lf [L11k0,L11k1] [L11b0,L11b1] (cuF Go.Proofs.Tryd.prog Go.Proofs.Tryd.f11)}).1
noncomputable def L12:LFun:=(⟨_,by conv=>rhs; reduce; try simp (disch:=decide) only[qaD,qay,qaz,qat,qaF,qaC,qau,qap,qav,qaw,qax]⟩:{x // x=lf [] [] (cuF Go.Proofs.Tryd.prog Go.Proofs.Tryd.f12)}).1
noncomputable def L13k0:List Bool:=(⟨_,by conv=>rhs; reduce⟩:{x // x=lk (cuF Go.Proofs.Tryd.prog Go.Proofs.Tryd.f13) 0}).1
noncomputable def L13b0:LCode:=(⟨_,by conv=>rhs; reduce; try simp (disch:=decide) only[qaD,qay,qaz,qat,qaF,qaC,qau,qap,qav,qaw,qax]⟩:{x // x=lb [] [] (cuF Go.Proofs.Tryd.prog Go.Proofs.Tryd.f13) 0}).1
attribute [local irreducible] L13k0 L13b0
noncomputable def L13:LFun:=(⟨_,by conv=>rhs; reduce; try simp (disch:=decide) only[qaD,qay,qaz,qat,qaF,qaC,qau,qap,qav,qaw,qax]⟩:{x // x=lf [L13k0] [L13b0] (cuF Go.Proofs.Tryd.prog Go.Proofs.Tryd.f13)}).1
noncomputable def L14:LFun:=(⟨_,by conv=>rhs; reduce; try simp (disch:=decide) only[qaD,qay,qaz,qat,qaF,qaC,qau,qap,qav,qaw,qax]⟩:{x // x=lf [] [] (cuF Go.Proofs.Tryd.prog Go.Proofs.Tryd.f14)}).1
noncomputable def L15k0:List Bool:=(⟨_,by conv=>rhs; reduce⟩:{x // x=lk (cuF Go.Proofs.Tryd.prog Go.Proofs.Tryd.f15) 0}).1
noncomputable def L15b0:LCode:=(⟨_,by conv=>rhs; reduce; try simp (disch:=decide) only[qaD,qay,qaz,qat,qaF,qaC,qau,qap,qav,qaw,qax]⟩:{x // x=lb [] [] (cuF Go.Proofs.Tryd.prog Go.Proofs.Tryd.f15) 0}).1
attribute [local irreducible] L15k0 L15b0
noncomputable def L15:LFun:=(⟨_,by conv=>rhs; reduce; try simp (disch:=decide) only[qaD,qay,qaz,qat,qaF,qaC,qau,qap,qav,qaw,qax]⟩:{x // x=lf [L15k0] [L15b0] (cuF Go.Proofs.Tryd.prog Go.Proofs.Tryd.f15)}).1
noncomputable def L16:LFun:=(⟨_,by conv=>rhs; reduce; try simp (disch:=decide) only[qaD,qay,qaz,qat,qaF,qaC,qau,qap,qav,qaw,qax]⟩:{x // x=lf [] [] (cuF Go.Proofs.Tryd.prog Go.Proofs.Tryd.f16)}).1
noncomputable def L17:LFun:=(⟨_,by conv=>rhs; reduce; try simp (disch:=decide) only[qaD,qay,qaz,qat,qaF,qaC,qau,qap,qav,qaw,qax]⟩:{x // x=lf [] [] (cuF Go.Proofs.Tryd.prog Go.Proofs.Tryd.f17)}).1
noncomputable def L18:LFun:=(⟨_,by conv=>rhs; reduce; try simp (disch:=decide) only[qaD,qay,qaz,qat,qaF,qaC,qau,qap,qav,qaw,qax]⟩:{x // x=lf [] [] (cuF Go.Proofs.Tryd.prog Go.Proofs.Tryd.f18)}).1
noncomputable def L19k0:List Bool:=(⟨_,by conv=>rhs; reduce⟩:{x // x=lk (cuF Go.Proofs.Tryd.prog Go.Proofs.Tryd.f19) 0}).1
noncomputable def L19b0:LCode:=(⟨_,by conv=>rhs; reduce; try simp (disch:=decide) only[qaD,qay,qaz,qat,qaF,qaC,qau,qap,qav,qaw,qax]⟩:{x // x=lb [] [] (cuF Go.Proofs.Tryd.prog Go.Proofs.Tryd.f19) 0}).1
attribute [local irreducible] L19k0 L19b0
noncomputable def L19:LFun:=(⟨_,by conv=>rhs; reduce; try simp (disch:=decide) only[qaD,qay,qaz,qat,qaF,qaC,qau,qap,qav,qaw,qax]⟩:{x // x=lf [L19k0] [L19b0] (cuF Go.Proofs.Tryd.prog Go.Proofs.Tryd.f19)}).1
noncomputable def L20:LFun:=(⟨_,by conv=>rhs; reduce; try simp (disch:=decide) only[qaD,qay,qaz,qat,qaF,qaC,qau,qap,qav,qaw,qax]⟩:{x // x=lf [] [] (cuF Go.Proofs.Tryd.prog Go.Proofs.Tryd.f20)}).1
noncomputable def L21:LFun:=(⟨_,by conv=>rhs; reduce; try simp (disch:=decide) only[qaD,qay,qaz,qat,qaF,qaC,qau,qap,qav,qaw,qax]⟩:{x // x=lf [] [] (cuF Go.Proofs.Tryd.prog Go.Proofs.Tryd.f21)}).1
noncomputable def L22k0:List Bool:=(⟨_,by conv=>rhs; reduce⟩:{x // x=lk (cuF Go.Proofs.Tryd.prog Go.Proofs.Tryd.f22) 0}).1
noncomputable def L22b0:LCode:=(⟨_,by conv=>rhs; reduce; try simp (disch:=decide) only[qaD,qay,qaz,qat,qaF,qaC,qau,qap,qav,qaw,qax]⟩:{x // x=lb [] [] (cuF Go.Proofs.Tryd.prog Go.Proofs.Tryd.f22) 0}).1
attribute [local irreducible] L22k0 L22b0
noncomputable def L22:LFun:=(⟨_,by conv=>rhs; reduce; try simp (disch:=decide) only[qaD,qay,qaz,qat,qaF,qaC,qau,qap,qav,qaw,qax]⟩:{x // x=lf [L22k0] [L22b0] (cuF Go.Proofs.Tryd.prog Go.Proofs.Tryd.f22)}).1
noncomputable def L23:LFun:=(⟨_,by conv=>rhs; reduce; try simp (disch:=decide) only[qaD,qay,qaz,qat,qaF,qaC,qau,qap,qav,qaw,qax]⟩:{x // x=lf [] [] (cuF Go.Proofs.Tryd.prog Go.Proofs.Tryd.f23)}).1
noncomputable def L24:LFun:=(⟨_,by conv=>rhs; reduce; try simp (disch:=decide) only[qaD,qay,qaz,qat,qaF,qaC,qau,qap,qav,qaw,qax]⟩:{x // x=lf [] [] (cuF Go.Proofs.Tryd.prog Go.Proofs.Tryd.f24)}).1
noncomputable def L25:LFun:=(⟨_,by conv=>rhs; reduce; try simp (disch:=decide) only[qaD,qay,qaz,qat,qaF,qaC,qau,qap,qav,qaw,qax]⟩:{x // x=lf [] [] (cuF Go.Proofs.Tryd.prog Go.Proofs.Tryd.f25)}).1
noncomputable def L26:LFun:=(⟨_,by conv=>rhs; reduce; try simp (disch:=decide) only[qaD,qay,qaz,qat,qaF,qaC,qau,qap,qav,qaw,qax]⟩:{x // x=lf [] [] (cuF Go.Proofs.Tryd.prog Go.Proofs.Tryd.f26)}).1
noncomputable def L27:LFun:=(⟨_,by conv=>rhs; reduce; try simp (disch:=decide) only[qaD,qay,qaz,qat,qaF,qaC,qau,qap,qav,qaw,qax]⟩:{x // x=lf [] [] (cuF Go.Proofs.Tryd.prog Go.Proofs.Tryd.f27)}).1
noncomputable def L28k0:List Bool:=(⟨_,by conv=>rhs; reduce⟩:{x // x=lk (cuF Go.Proofs.Tryd.prog Go.Proofs.Tryd.f28) 0}).1
noncomputable def L28b0:LCode:=(⟨_,by conv=>rhs; reduce; try simp (disch:=decide) only[qaD,qay,qaz,qat,qaF,qaC,qau,qap,qav,qaw,qax]⟩:{x // x=lb [] [] (cuF Go.Proofs.Tryd.prog Go.Proofs.Tryd.f28) 0}).1
attribute [local irreducible] L28k0 L28b0
noncomputable def L28:LFun:=(⟨_,by conv=>rhs; reduce; try simp (disch:=decide) only[qaD,qay,qaz,qat,qaF,qaC,qau,qap,qav,qaw,qax]⟩:{x // x=lf [L28k0] [L28b0] (cuF Go.Proofs.Tryd.prog Go.Proofs.Tryd.f28)}).1
noncomputable def L29:LFun:=(⟨_,by conv=>rhs; reduce; try simp (disch:=decide) only[qaD,qay,qaz,qat,qaF,qaC,qau,qap,qav,qaw,qax]⟩:{x // x=lf [] [] (cuF Go.Proofs.Tryd.prog Go.Proofs.Tryd.f29)}).1
noncomputable def L30:LFun:=(⟨_,by conv=>rhs; reduce; try simp (disch:=decide) only[qaD,qay,qaz,qat,qaF,qaC,qau,qap,qav,qaw,qax]⟩:{x // x=lf [] [] (cuF Go.Proofs.Tryd.prog Go.Proofs.Tryd.f30)}).1
noncomputable def L31:LFun:=(⟨_,by conv=>rhs; reduce; try simp (disch:=decide) only[qaD,qay,qaz,qat,qaF,qaC,qau,qap,qav,qaw,qax]⟩:{x // x=lf [] [] (cuF Go.Proofs.Tryd.prog Go.Proofs.Tryd.f31)}).1
noncomputable def L32:LFun:=(⟨_,by conv=>rhs; reduce; try simp (disch:=decide) only[qaD,qay,qaz,qat,qaF,qaC,qau,qap,qav,qaw,qax]⟩:{x // x=lf [] [] (cuF Go.Proofs.Tryd.prog Go.Proofs.Tryd.f32)}).1
noncomputable def L33:LFun:=(⟨_,by conv=>rhs; reduce; try simp (disch:=decide) only[qaD,qay,qaz,qat,qaF,qaC,qau,qap,qav,qaw,qax]⟩:{x // x=lf [] [] (cuF Go.Proofs.Tryd.prog Go.Proofs.Tryd.f33)}).1
noncomputable def L34k0:List Bool:=(⟨_,by conv=>rhs; reduce⟩:{x // x=lk (cuF Go.Proofs.Tryd.prog Go.Proofs.Tryd.f34) 0}).1
noncomputable def L34b0:LCode:=(⟨_,by conv=>rhs; reduce; try simp (disch:=decide) only[qaD,qay,qaz,qat,qaF,qaC,qau,qap,qav,qaw,qax]⟩:{x // x=lb [] [] (cuF Go.Proofs.Tryd.prog Go.Proofs.Tryd.f34) 0}).1
attribute [local irreducible] L34k0 L34b0
noncomputable def L34:LFun:=(⟨_,by conv=>rhs; reduce; try simp (disch:=decide) only[qaD,qay,qaz,qat,qaF,qaC,qau,qap,qav,qaw,qax]⟩:{x // x=lf [L34k0] [L34b0] (cuF Go.Proofs.Tryd.prog Go.Proofs.Tryd.f34)}).1
noncomputable def L35k0:List Bool:=(⟨_,by conv=>rhs; reduce⟩:{x // x=lk (cuF Go.Proofs.Tryd.prog Go.Proofs.Tryd.f35) 0}).1
noncomputable def L35b0:LCode:=(⟨_,by conv=>rhs; reduce; try simp (disch:=decide) only[qaD,qay,qaz,qat,qaF,qaC,qau,qap,qav,qaw,qax]⟩:{x // x=lb [] [] (cuF Go.Proofs.Tryd.prog Go.Proofs.Tryd.f35) 0}).1
attribute [local irreducible] L35k0 L35b0
noncomputable def L35:LFun:=(⟨_,by conv=>rhs; reduce; try simp (disch:=decide) only[qaD,qay,qaz,qat,qaF,qaC,qau,qap,qav,qaw,qax]⟩:{x // x=lf [L35k0] [L35b0] (cuF Go.Proofs.Tryd.prog Go.Proofs.Tryd.f35)}).1
noncomputable def L36:LFun:=(⟨_,by conv=>rhs; reduce; try simp (disch:=decide) only[qaD,qay,qaz,qat,qaF,qaC,qau,qap,qav,qaw,qax]⟩:{x // x=lf [] [] (cuF Go.Proofs.Tryd.prog Go.Proofs.Tryd.f36)}).1
noncomputable def L37:LFun:=(⟨_,by conv=>rhs; reduce; try simp (disch:=decide) only[qaD,qay,qaz,qat,qaF,qaC,qau,qap,qav,qaw,qax]⟩:{x // x=lf [] [] (cuF Go.Proofs.Tryd.prog Go.Proofs.Tryd.f37)}).1
noncomputable def L38:LFun:=(⟨_,by conv=>rhs; reduce; try simp (disch:=decide) only[qaD,qay,qaz,qat,qaF,qaC,qau,qap,qav,qaw,qax]⟩:{x // x=lf [] [] (cuF Go.Proofs.Tryd.prog Go.Proofs.Tryd.f38)}).1
noncomputable def L39:LFun:=(⟨_,by conv=>rhs; reduce; try simp (disch:=decide) only[qaD,qay,qaz,qat,qaF,qaC,qau,qap,qav,qaw,qax]⟩:{x // x=lf [] [] (cuF Go.Proofs.Tryd.prog Go.Proofs.Tryd.f39)}).1
noncomputable def L40:LFun:=(⟨_,by conv=>rhs; reduce; try simp (disch:=decide) only[qaD,qay,qaz,qat,qaF,qaC,qau,qap,qav,qaw,qax]⟩:{x // x=lf [] [] (cuF Go.Proofs.Tryd.prog Go.Proofs.Tryd.f40)}).1
noncomputable def L41:LFun:=(⟨_,by conv=>rhs; reduce; try simp (disch:=decide) only[qaD,qay,qaz,qat,qaF,qaC,qau,qap,qav,qaw,qax]⟩:{x // x=lf [] [] (cuF Go.Proofs.Tryd.prog Go.Proofs.Tryd.f41)}).1
noncomputable def L42:LFun:=(⟨_,by conv=>rhs; reduce; try simp (disch:=decide) only[qaD,qay,qaz,qat,qaF,qaC,qau,qap,qav,qaw,qax]⟩:{x // x=lf [] [] (cuF Go.Proofs.Tryd.prog Go.Proofs.Tryd.f42)}).1
noncomputable def L43:LFun:=(⟨_,by conv=>rhs; reduce; try simp (disch:=decide) only[qaD,qay,qaz,qat,qaF,qaC,qau,qap,qav,qaw,qax]⟩:{x // x=lf [] [] (cuF Go.Proofs.Tryd.prog Go.Proofs.Tryd.f43)}).1
noncomputable def L44:LFun:=(⟨_,by conv=>rhs; reduce; try simp (disch:=decide) only[qaD,qay,qaz,qat,qaF,qaC,qau,qap,qav,qaw,qax]⟩:{x // x=lf [] [] (cuF Go.Proofs.Tryd.prog Go.Proofs.Tryd.f44)}).1
noncomputable def L45:LFun:=(⟨_,by conv=>rhs; reduce; try simp (disch:=decide) only[qaD,qay,qaz,qat,qaF,qaC,qau,qap,qav,qaw,qax]⟩:{x // x=lf [] [] (cuF Go.Proofs.Tryd.prog Go.Proofs.Tryd.f45)}).1
noncomputable def L46k0:List Bool:=(⟨_,by conv=>rhs; reduce⟩:{x // x=lk (cuF Go.Proofs.Tryd.prog Go.Proofs.Tryd.f46) 0}).1
noncomputable def L46b0:LCode:=(⟨_,by conv=>rhs; reduce; try simp (disch:=decide) only[qaD,qay,qaz,qat,qaF,qaC,qau,qap,qav,qaw,qax]⟩:{x // x=lb [] [] (cuF Go.Proofs.Tryd.prog Go.Proofs.Tryd.f46) 0}).1
attribute [local irreducible] L46k0 L46b0
noncomputable def L46k1:List Bool:=(⟨_,by conv=>rhs; reduce⟩:{x // x=lk (cuF Go.Proofs.Tryd.prog Go.Proofs.Tryd.f46) 1}).1
noncomputable def L46b1:LCode:=(⟨_,by conv=>rhs; reduce; try simp (disch:=decide) only[qaD,qay,qaz,qat,qaF,qaC,qau,qap,qav,qaw,qax]⟩:{x // x=lb [L46k0] [L46b0] (cuF Go.Proofs.Tryd.prog Go.Proofs.Tryd.f46) 1}).1
attribute [local irreducible] L46k1 L46b1
noncomputable def L46k2:List Bool:=(⟨_,by conv=>rhs; reduce⟩:{x // x=lk (cuF Go.Proofs.Tryd.prog Go.Proofs.Tryd.f46) 2}).1
noncomputable def L46b2:LCode:=(⟨_,by conv=>rhs; reduce; try simp (disch:=decide) only[qaD,qay,qaz,qat,qaF,qaC,qau,qap,qav,qaw,qax]⟩:{x // x=lb [L46k0,L46k1] [L46b0,L46b1] (cuF Go.Proofs.Tryd.prog Go.Proofs.Tryd.f46) 2}).1
attribute [local irreducible] L46k2 L46b2
noncomputable def L46k3:List Bool:=(⟨_,by conv=>rhs; reduce⟩:{x // x=lk (cuF Go.Proofs.Tryd.prog Go.Proofs.Tryd.f46) 3}).1
noncomputable def L46b3:LCode:=(⟨_,by conv=>rhs; reduce; try simp (disch:=decide) only[qaD,qay,qaz,qat,qaF,qaC,qau,qap,qav,qaw,qax]⟩:{x // x=lb [L46k0,L46k1,L46k2] [L46b0,L46b1,L46b2] (cuF Go.Proofs.Tryd.prog Go.Proofs.Tryd.f46) 3}).1
attribute [local irreducible] L46k3 L46b3
noncomputable def L46k4:List Bool:=(⟨_,by conv=>rhs; reduce⟩:{x // x=lk (cuF Go.Proofs.Tryd.prog Go.Proofs.Tryd.f46) 4}).1
noncomputable def L46b4:LCode:=(⟨_,by conv=>rhs; reduce; try simp (disch:=decide) only[qaD,qay,qaz,qat,qaF,qaC,qau,qap,qav,qaw,qax]⟩:{x // x=lb [L46k0,L46k1,L46k2,L46k3] [L46b0,L46b1,L46b2,L46b3] (cuF Go.Proofs.Tryd.prog Go.Proofs.Tryd.f46) 4}).1
attribute [local irreducible] L46k4 L46b4
noncomputable def L46:LFun:=(⟨_,by conv=>rhs; reduce; try simp (disch:=decide) only[qaD,qay,qaz,qat,qaF,qaC,qau,qap,qav,qaw,qax]⟩:{x // x=lf [L46k0,L46k1,L46k2,L46k3,L46k4] [L46b0,L46b1,L46b2,L46b3,L46b4] (cuF Go.Proofs.Tryd.prog Go.Proofs.Tryd.f46)}).1
noncomputable def L47k0:List Bool:=(⟨_,by conv=>rhs; reduce⟩:{x // x=lk (cuF Go.Proofs.Tryd.prog Go.Proofs.Tryd.f47) 0}).1
noncomputable def L47b0:LCode:=(⟨_,by conv=>rhs; reduce; try simp (disch:=decide) only[qaD,qay,qaz,qat,qaF,qaC,qau,qap,qav,qaw,qax]⟩:{x // x=lb [] [] (cuF Go.Proofs.Tryd.prog Go.Proofs.Tryd.f47) 0}).1
attribute [local irreducible] L47k0 L47b0
noncomputable def L47:LFun:=(⟨_,by conv=>rhs; reduce; try simp (disch:=decide) only[qaD,qay,qaz,qat,qaF,qaC,qau,qap,qav,qaw,qax]⟩:{x // x=lf [L47k0] [L47b0] (cuF Go.Proofs.Tryd.prog Go.Proofs.Tryd.f47)}).1
noncomputable def L48:LFun:=(⟨_,by conv=>rhs; reduce; try simp (disch:=decide) only[qaD,qay,qaz,qat,qaF,qaC,qau,qap,qav,qaw,qax]⟩:{x // x=lf [] [] (cuF Go.Proofs.Tryd.prog Go.Proofs.Tryd.f48)}).1
noncomputable def L49:LFun:=(⟨_,by conv=>rhs; reduce; try simp (disch:=decide) only[qaD,qay,qaz,qat,qaF,qaC,qau,qap,qav,qaw,qax]⟩:{x // x=lf [] [] (cuF Go.Proofs.Tryd.prog Go.Proofs.Tryd.f49)}).1
noncomputable def L50:LFun:=(⟨_,by conv=>rhs; reduce; try simp (disch:=decide) only[qaD,qay,qaz,qat,qaF,qaC,qau,qap,qav,qaw,qax]⟩:{x // x=lf [] [] (cuF Go.Proofs.Tryd.prog Go.Proofs.Tryd.f50)}).1
noncomputable def L51:LFun:=(⟨_,by conv=>rhs; reduce; try simp (disch:=decide) only[qaD,qay,qaz,qat,qaF,qaC,qau,qap,qav,qaw,qax]⟩:{x // x=lf [] [] (cuF Go.Proofs.Tryd.prog Go.Proofs.Tryd.f51)}).1
noncomputable def L52:LFun:=(⟨_,by conv=>rhs; reduce; try simp (disch:=decide) only[qaD,qay,qaz,qat,qaF,qaC,qau,qap,qav,qaw,qax]⟩:{x // x=lf [] [] (cuF Go.Proofs.Tryd.prog Go.Proofs.Tryd.f52)}).1
noncomputable def L53:LFun:=(⟨_,by conv=>rhs; reduce; try simp (disch:=decide) only[qaD,qay,qaz,qat,qaF,qaC,qau,qap,qav,qaw,qax]⟩:{x // x=lf [] [] (cuF Go.Proofs.Tryd.prog Go.Proofs.Tryd.f53)}).1
noncomputable def L54:LFun:=(⟨_,by conv=>rhs; reduce; try simp (disch:=decide) only[qaD,qay,qaz,qat,qaF,qaC,qau,qap,qav,qaw,qax]⟩:{x // x=lf [] [] (cuF Go.Proofs.Tryd.prog Go.Proofs.Tryd.f54)}).1
noncomputable def L55:LFun:=(⟨_,by conv=>rhs; reduce; try simp (disch:=decide) only[qaD,qay,qaz,qat,qaF,qaC,qau,qap,qav,qaw,qax]⟩:{x // x=lf [] [] (cuF Go.Proofs.Tryd.prog Go.Proofs.Tryd.f55)}).1
noncomputable def L56k0:List Bool:=(⟨_,by conv=>rhs; reduce⟩:{x // x=lk (cuF Go.Proofs.Tryd.prog Go.Proofs.Tryd.f56) 0}).1
noncomputable def L56b0:LCode:=(⟨_,by conv=>rhs; reduce; try simp (disch:=decide) only[qaD,qay,qaz,qat,qaF,qaC,qau,qap,qav,qaw,qax]⟩:{x // x=lb [] [] (cuF Go.Proofs.Tryd.prog Go.Proofs.Tryd.f56) 0}).1
attribute [local irreducible] L56k0 L56b0
noncomputable def L56:LFun:=(⟨_,by conv=>rhs; reduce; try simp (disch:=decide) only[qaD,qay,qaz,qat,qaF,qaC,qau,qap,qav,qaw,qax]⟩:{x // x=lf [L56k0] [L56b0] (cuF Go.Proofs.Tryd.prog Go.Proofs.Tryd.f56)}).1
noncomputable def L57k0:List Bool:=(⟨_,by conv=>rhs; reduce⟩:{x // x=lk (cuF Go.Proofs.Tryd.prog Go.Proofs.Tryd.f57) 0}).1
noncomputable def L57b0:LCode:=(⟨_,by conv=>rhs; reduce; try simp (disch:=decide) only[qaD,qay,qaz,qat,qaF,qaC,qau,qap,qav,qaw,qax]⟩:{x // x=lb [] [] (cuF Go.Proofs.Tryd.prog Go.Proofs.Tryd.f57) 0}).1
attribute [local irreducible] L57k0 L57b0
noncomputable def L57:LFun:=(⟨_,by conv=>rhs; reduce; try simp (disch:=decide) only[qaD,qay,qaz,qat,qaF,qaC,qau,qap,qav,qaw,qax]⟩:{x // x=lf [L57k0] [L57b0] (cuF Go.Proofs.Tryd.prog Go.Proofs.Tryd.f57)}).1
noncomputable def L58k0:List Bool:=(⟨_,by conv=>rhs; reduce⟩:{x // x=lk (cuF Go.Proofs.Tryd.prog Go.Proofs.Tryd.f58) 0}).1
noncomputable def L58b0:LCode:=(⟨_,by conv=>rhs; reduce; try simp (disch:=decide) only[qaD,qay,qaz,qat,qaF,qaC,qau,qap,qav,qaw,qax]⟩:{x // x=lb [] [] (cuF Go.Proofs.Tryd.prog Go.Proofs.Tryd.f58) 0}).1
attribute [local irreducible] L58k0 L58b0
noncomputable def L58k1:List Bool:=(⟨_,by conv=>rhs; reduce⟩:{x // x=lk (cuF Go.Proofs.Tryd.prog Go.Proofs.Tryd.f58) 1}).1
noncomputable def L58b1:LCode:=(⟨_,by conv=>rhs; reduce; try simp (disch:=decide) only[qaD,qay,qaz,qat,qaF,qaC,qau,qap,qav,qaw,qax]⟩:{x // x=lb [L58k0] [L58b0] (cuF Go.Proofs.Tryd.prog Go.Proofs.Tryd.f58) 1}).1
attribute [local irreducible] L58k1 L58b1
noncomputable def L58:LFun:=(⟨_,by conv=>rhs; reduce; try simp (disch:=decide) only[qaD,qay,qaz,qat,qaF,qaC,qau,qap,qav,qaw,qax]⟩:{x // x=lf [L58k0,L58k1] [L58b0,L58b1] (cuF Go.Proofs.Tryd.prog Go.Proofs.Tryd.f58)}).1
noncomputable def L59:LFun:=(⟨_,by conv=>rhs; reduce; try simp (disch:=decide) only[qaD,qay,qaz,qat,qaF,qaC,qau,qap,qav,qaw,qax]⟩:{x // x=lf [] [] (cuF Go.Proofs.Tryd.prog Go.Proofs.Tryd.f59)}).1
noncomputable def L60:LFun:=(⟨_,by conv=>rhs; reduce; try simp (disch:=decide) only[qaD,qay,qaz,qat,qaF,qaC,qau,qap,qav,qaw,qax]⟩:{x // x=lf [] [] (cuF Go.Proofs.Tryd.prog Go.Proofs.Tryd.f60)}).1
noncomputable def L61k0:List Bool:=(⟨_,by conv=>rhs; reduce⟩:{x // x=lk (cuF Go.Proofs.Tryd.prog Go.Proofs.Tryd.f61) 0}).1
noncomputable def L61b0:LCode:=(⟨_,by conv=>rhs; reduce; try simp (disch:=decide) only[qaD,qay,qaz,qat,qaF,qaC,qau,qap,qav,qaw,qax]⟩:{x // x=lb [] [] (cuF Go.Proofs.Tryd.prog Go.Proofs.Tryd.f61) 0}).1
attribute [local irreducible] L61k0 L61b0
noncomputable def L61k1:List Bool:=(⟨_,by conv=>rhs; reduce⟩:{x // x=lk (cuF Go.Proofs.Tryd.prog Go.Proofs.Tryd.f61) 1}).1
noncomputable def L61b1:LCode:=(⟨_,by conv=>rhs; reduce; try simp (disch:=decide) only[qaD,qay,qaz,qat,qaF,qaC,qau,qap,qav,qaw,qax]⟩:{x // x=lb [L61k0] [L61b0] (cuF Go.Proofs.Tryd.prog Go.Proofs.Tryd.f61) 1}).1
attribute [local irreducible] L61k1 L61b1
noncomputable def L61k2:List Bool:=(⟨_,by conv=>rhs; reduce⟩:{x // x=lk (cuF Go.Proofs.Tryd.prog Go.Proofs.Tryd.f61) 2}).1
noncomputable def L61b2:LCode:=(⟨_,by conv=>rhs; reduce; try simp (disch:=decide) only[qaD,qay,qaz,qat,qaF,qaC,qau,qap,qav,qaw,qax]⟩:{x // x=lb [L61k0,L61k1] [L61b0,L61b1] (cuF Go.Proofs.Tryd.prog Go.Proofs.Tryd.f61) 2}).1
attribute [local irreducible] L61k2 L61b2
noncomputable def L61k3:List Bool:=(⟨_,by conv=>rhs; reduce⟩:{x // x=lk (cuF Go.Proofs.Tryd.prog Go.Proofs.Tryd.f61) 3}).1
noncomputable def L61b3:LCode:=(⟨_,by conv=>rhs; reduce; try simp (disch:=decide) only[qaD,qay,qaz,qat,qaF,qaC,qau,qap,qav,qaw,qax]⟩:{x // x=lb [L61k0,L61k1,L61k2] [L61b0,L61b1,L61b2] (cuF Go.Proofs.Tryd.prog Go.Proofs.Tryd.f61) 3}).1
attribute [local irreducible] L61k3 L61b3
noncomputable def L61:LFun:=(⟨_,by conv=>rhs; reduce; try simp (disch:=decide) only[qaD,qay,qaz,qat,qaF,qaC,qau,qap,qav,qaw,qax]⟩:{x // x=lf [L61k0,L61k1,L61k2,L61k3] [L61b0,L61b1,L61b2,L61b3] (cuF Go.Proofs.Tryd.prog Go.Proofs.Tryd.f61)}).1
noncomputable def L62k0:List Bool:=(⟨_,by conv=>rhs; reduce⟩:{x // x=lk (cuF Go.Proofs.Tryd.prog Go.Proofs.Tryd.f62) 0}).1
noncomputable def L62b0:LCode:=(⟨_,by conv=>rhs; reduce; try simp (disch:=decide) only[qaD,qay,qaz,qat,qaF,qaC,qau,qap,qav,qaw,qax]⟩:{x // x=lb [] [] (cuF Go.Proofs.Tryd.prog Go.Proofs.Tryd.f62) 0}).1
attribute [local irreducible] L62k0 L62b0
noncomputable def L62k1:List Bool:=(⟨_,by conv=>rhs; reduce⟩:{x // x=lk (cuF Go.Proofs.Tryd.prog Go.Proofs.Tryd.f62) 1}).1
noncomputable def L62b1:LCode:=(⟨_,by conv=>rhs; reduce; try simp (disch:=decide) only[qaD,qay,qaz,qat,qaF,qaC,qau,qap,qav,qaw,qax]⟩:{x // x=lb [L62k0] [L62b0] (cuF Go.Proofs.Tryd.prog Go.Proofs.Tryd.f62) 1}).1
attribute [local irreducible] L62k1 L62b1
noncomputable def L62k2:List Bool:=(⟨_,by conv=>rhs; reduce⟩:{x // x=lk (cuF Go.Proofs.Tryd.prog Go.Proofs.Tryd.f62) 2}).1
noncomputable def L62b2:LCode:=(⟨_,by conv=>rhs; reduce; try simp (disch:=decide) only[qaD,qay,qaz,qat,qaF,qaC,qau,qap,qav,qaw,qax]⟩:{x // x=lb [L62k0,L62k1] [L62b0,L62b1] (cuF Go.Proofs.Tryd.prog Go.Proofs.Tryd.f62) 2}).1
attribute [local irreducible] L62k2 L62b2
noncomputable def L62k3:List Bool:=(⟨_,by conv=>rhs; reduce⟩:{x // x=lk (cuF Go.Proofs.Tryd.prog Go.Proofs.Tryd.f62) 3}).1
noncomputable def L62b3:LCode:=(⟨_,by conv=>rhs; reduce; try simp (disch:=decide) only[qaD,qay,qaz,qat,qaF,qaC,qau,qap,qav,qaw,qax]⟩:{x // x=lb [L62k0,L62k1,L62k2] [L62b0,L62b1,L62b2] (cuF Go.Proofs.Tryd.prog Go.Proofs.Tryd.f62) 3}).1
attribute [local irreducible] L62k3 L62b3
noncomputable def L62:LFun:=(⟨_,by conv=>rhs; reduce; try simp (disch:=decide) only[qaD,qay,qaz,qat,qaF,qaC,qau,qap,qav,qaw,qax]⟩:{x // x=lf [L62k0,L62k1,L62k2,L62k3] [L62b0,L62b1,L62b2,L62b3] (cuF Go.Proofs.Tryd.prog Go.Proofs.Tryd.f62)}).1
noncomputable def L63:LFun:=(⟨_,by conv=>rhs; reduce; try simp (disch:=decide) only[qaD,qay,qaz,qat,qaF,qaC,qau,qap,qav,qaw,qax]⟩:{x // x=lf [] [] (cuF Go.Proofs.Tryd.prog Go.Proofs.Tryd.f63)}).1
noncomputable def L64:LFun:=(⟨_,by conv=>rhs; reduce; try simp (disch:=decide) only[qaD,qay,qaz,qat,qaF,qaC,qau,qap,qav,qaw,qax]⟩:{x // x=lf [] [] (cuF Go.Proofs.Tryd.prog Go.Proofs.Tryd.f64)}).1
noncomputable def L65k0:List Bool:=(⟨_,by conv=>rhs; reduce⟩:{x // x=lk (cuF Go.Proofs.Tryd.prog Go.Proofs.Tryd.f65) 0}).1
noncomputable def L65b0:LCode:=(⟨_,by conv=>rhs; reduce; try simp (disch:=decide) only[qaD,qay,qaz,qat,qaF,qaC,qau,qap,qav,qaw,qax]⟩:{x // x=lb [] [] (cuF Go.Proofs.Tryd.prog Go.Proofs.Tryd.f65) 0}).1
attribute [local irreducible] L65k0 L65b0
noncomputable def L65:LFun:=(⟨_,by conv=>rhs; reduce; try simp (disch:=decide) only[qaD,qay,qaz,qat,qaF,qaC,qau,qap,qav,qaw,qax]⟩:{x // x=lf [L65k0] [L65b0] (cuF Go.Proofs.Tryd.prog Go.Proofs.Tryd.f65)}).1
noncomputable def L66k0:List Bool:=(⟨_,by conv=>rhs; reduce⟩:{x // x=lk (cuF Go.Proofs.Tryd.prog Go.Proofs.Tryd.f66) 0}).1
noncomputable def L66b0:LCode:=(⟨_,by conv=>rhs; reduce; try simp (disch:=decide) only[qaD,qay,qaz,qat,qaF,qaC,qau,qap,qav,qaw,qax]⟩:{x // x=lb [] [] (cuF Go.Proofs.Tryd.prog Go.Proofs.Tryd.f66) 0}).1
attribute [local irreducible] L66k0 L66b0
noncomputable def L66:LFun:=(⟨_,by conv=>rhs; reduce; try simp (disch:=decide) only[qaD,qay,qaz,qat,qaF,qaC,qau,qap,qav,qaw,qax]⟩:{x // x=lf [L66k0] [L66b0] (cuF Go.Proofs.Tryd.prog Go.Proofs.Tryd.f66)}).1
noncomputable def L67:LFun:=(⟨_,by conv=>rhs; reduce; try simp (disch:=decide) only[qaD,qay,qaz,qat,qaF,qaC,qau,qap,qav,qaw,qax]⟩:{x // x=lf [] [] (cuF Go.Proofs.Tryd.prog Go.Proofs.Tryd.f67)}).1
noncomputable def L68k0:List Bool:=(⟨_,by conv=>rhs; reduce⟩:{x // x=lk (cuF Go.Proofs.Tryd.prog Go.Proofs.Tryd.f68) 0}).1
noncomputable def L68b0:LCode:=(⟨_,by conv=>rhs; reduce; try simp (disch:=decide) only[qaD,qay,qaz,qat,qaF,qaC,qau,qap,qav,qaw,qax]⟩:{x // x=lb [] [] (cuF Go.Proofs.Tryd.prog Go.Proofs.Tryd.f68) 0}).1
attribute [local irreducible] L68k0 L68b0
noncomputable def L68:LFun:=(⟨_,by conv=>rhs; reduce; try simp (disch:=decide) only[qaD,qay,qaz,qat,qaF,qaC,qau,qap,qav,qaw,qax]⟩:{x // x=lf [L68k0] [L68b0] (cuF Go.Proofs.Tryd.prog Go.Proofs.Tryd.f68)}).1
noncomputable def L69:LFun:=(⟨_,by conv=>rhs; reduce; try simp (disch:=decide) only[qaD,qay,qaz,qat,qaF,qaC,qau,qap,qav,qaw,qax]⟩:{x // x=lf [] [] (cuF Go.Proofs.Tryd.prog Go.Proofs.Tryd.f69)}).1
noncomputable def L70k0:List Bool:=(⟨_,by conv=>rhs; reduce⟩:{x // x=lk (cuF Go.Proofs.Tryd.prog Go.Proofs.Tryd.f70) 0}).1
noncomputable def L70b0:LCode:=(⟨_,by conv=>rhs; reduce; try simp (disch:=decide) only[qaD,qay,qaz,qat,qaF,qaC,qau,qap,qav,qaw,qax]⟩:{x // x=lb [] [] (cuF Go.Proofs.Tryd.prog Go.Proofs.Tryd.f70) 0}).1
attribute [local irreducible] L70k0 L70b0
noncomputable def L70k1:List Bool:=(⟨_,by conv=>rhs; reduce⟩:{x // x=lk (cuF Go.Proofs.Tryd.prog Go.Proofs.Tryd.f70) 1}).1
noncomputable def L70b1:LCode:=(⟨_,by conv=>rhs; reduce; try simp (disch:=decide) only[qaD,qay,qaz,qat,qaF,qaC,qau,qap,qav,qaw,qax]⟩:{x // x=lb [L70k0] [L70b0] (cuF Go.Proofs.Tryd.prog Go.Proofs.Tryd.f70) 1}).1
attribute [local irreducible] L70k1 L70b1
noncomputable def L70:LFun:=(⟨_,by conv=>rhs; reduce; try simp (disch:=decide) only[qaD,qay,qaz,qat,qaF,qaC,qau,qap,qav,qaw,qax]⟩:{x // x=lf [L70k0,L70k1] [L70b0,L70b1] (cuF Go.Proofs.Tryd.prog Go.Proofs.Tryd.f70)}).1
noncomputable def L71:LFun:=(⟨_,by conv=>rhs; reduce; try simp (disch:=decide) only[qaD,qay,qaz,qat,qaF,qaC,qau,qap,qav,qaw,qax]⟩:{x // x=lf [] [] (cuF Go.Proofs.Tryd.prog Go.Proofs.Tryd.f71)}).1
noncomputable def L72:LFun:=(⟨_,by conv=>rhs; reduce; try simp (disch:=decide) only[qaD,qay,qaz,qat,qaF,qaC,qau,qap,qav,qaw,qax]⟩:{x // x=lf [] [] (cuF Go.Proofs.Tryd.prog Go.Proofs.Tryd.f72)}).1
noncomputable def L73k0:List Bool:=(⟨_,by conv=>rhs; reduce⟩:{x // x=lk (cuF Go.Proofs.Tryd.prog Go.Proofs.Tryd.f73) 0}).1
noncomputable def L73b0:LCode:=(⟨_,by conv=>rhs; reduce; try simp (disch:=decide) only[qaD,qay,qaz,qat,qaF,qaC,qau,qap,qav,qaw,qax]⟩:{x // x=lb [] [] (cuF Go.Proofs.Tryd.prog Go.Proofs.Tryd.f73) 0}).1
attribute [local irreducible] L73k0 L73b0
noncomputable def L73:LFun:=(⟨_,by conv=>rhs; reduce; try simp (disch:=decide) only[qaD,qay,qaz,qat,qaF,qaC,qau,qap,qav,qaw,qax]⟩:{x // x=lf [L73k0] [L73b0] (cuF Go.Proofs.Tryd.prog Go.Proofs.Tryd.f73)}).1
noncomputable def L74:LFun:=(⟨_,by conv=>rhs; reduce; try simp (disch:=decide) only[qaD,qay,qaz,qat,qaF,qaC,qau,qap,qav,qaw,qax]⟩:{x // x=lf [] [] (cuF Go.Proofs.Tryd.prog Go.Proofs.Tryd.f74)}).1
noncomputable def L75:LFun:=(⟨_,by conv=>rhs; reduce; try simp (disch:=decide) only[qaD,qay,qaz,qat,qaF,qaC,qau,qap,qav,qaw,qax]⟩:{x // x=lf [] [] (cuF Go.Proofs.Tryd.prog Go.Proofs.Tryd.f75)}).1
noncomputable def L76:LFun:=(⟨_,by conv=>rhs; reduce; try simp (disch:=decide) only[qaD,qay,qaz,qat,qaF,qaC,qau,qap,qav,qaw,qax]⟩:{x // x=lf [] [] (cuF Go.Proofs.Tryd.prog Go.Proofs.Tryd.f76)}).1
noncomputable def L77k0:List Bool:=(⟨_,by conv=>rhs; reduce⟩:{x // x=lk (cuF Go.Proofs.Tryd.prog Go.Proofs.Tryd.f77) 0}).1
noncomputable def L77b0:LCode:=(⟨_,by conv=>rhs; reduce; try simp (disch:=decide) only[qaD,qay,qaz,qat,qaF,qaC,qau,qap,qav,qaw,qax]⟩:{x // x=lb [] [] (cuF Go.Proofs.Tryd.prog Go.Proofs.Tryd.f77) 0}).1
attribute [local irreducible] L77k0 L77b0
noncomputable def L77k1:List Bool:=(⟨_,by conv=>rhs; reduce⟩:{x // x=lk (cuF Go.Proofs.Tryd.prog Go.Proofs.Tryd.f77) 1}).1
noncomputable def L77b1:LCode:=(⟨_,by conv=>rhs; reduce; try simp (disch:=decide) only[qaD,qay,qaz,qat,qaF,qaC,qau,qap,qav,qaw,qax]⟩:{x // x=lb [L77k0] [L77b0] (cuF Go.Proofs.Tryd.prog Go.Proofs.Tryd.f77) 1}).1
attribute [local irreducible] L77k1 L77b1
noncomputable def L77:LFun:=(⟨_,by conv=>rhs; reduce; try simp (disch:=decide) only[qaD,qay,qaz,qat,qaF,qaC,qau,qap,qav,qaw,qax]⟩:{x // x=lf [L77k0,L77k1] [L77b0,L77b1] (cuF Go.Proofs.Tryd.prog Go.Proofs.Tryd.f77)}).1
noncomputable def L78:LFun:=(⟨_,by conv=>rhs; reduce; try simp (disch:=decide) only[qaD,qay,qaz,qat,qaF,qaC,qau,qap,qav,qaw,qax]⟩:{x // x=lf [] [] (cuF Go.Proofs.Tryd.prog Go.Proofs.Tryd.f78)}).1
noncomputable def L79:LFun:=(⟨_,by conv=>rhs; reduce; try simp (disch:=decide) only[qaD,qay,qaz,qat,qaF,qaC,qau,qap,qav,qaw,qax]⟩:{x // x=lf [] [] (cuF Go.Proofs.Tryd.prog Go.Proofs.Tryd.f79)}).1
noncomputable def L80k0:List Bool:=(⟨_,by conv=>rhs; reduce⟩:{x // x=lk (cuF Go.Proofs.Tryd.prog Go.Proofs.Tryd.f80) 0}).1
noncomputable def L80b0:LCode:=(⟨_,by conv=>rhs; reduce; try simp (disch:=decide) only[qaD,qay,qaz,qat,qaF,qaC,qau,qap,qav,qaw,qax]⟩:{x // x=lb [] [] (cuF Go.Proofs.Tryd.prog Go.Proofs.Tryd.f80) 0}).1
attribute [local irreducible] L80k0 L80b0
noncomputable def L80:LFun:=(⟨_,by conv=>rhs; reduce; try simp (disch:=decide) only[qaD,qay,qaz,qat,qaF,qaC,qau,qap,qav,qaw,qax]⟩:{x // x=lf [L80k0] [L80b0] (cuF Go.Proofs.Tryd.prog Go.Proofs.Tryd.f80)}).1
noncomputable def L81k0:List Bool:=(⟨_,by conv=>rhs; reduce⟩:{x // x=lk (cuF Go.Proofs.Tryd.prog Go.Proofs.Tryd.f81) 0}).1
noncomputable def L81b0:LCode:=(⟨_,by conv=>rhs; reduce; try simp (disch:=decide) only[qaD,qay,qaz,qat,qaF,qaC,qau,qap,qav,qaw,qax]⟩:{x // x=lb [] [] (cuF Go.Proofs.Tryd.prog Go.Proofs.Tryd.f81) 0}).1
attribute [local irreducible] L81k0 L81b0
noncomputable def L81:LFun:=(⟨_,by conv=>rhs; reduce; try simp (disch:=decide) only[qaD,qay,qaz,qat,qaF,qaC,qau,qap,qav,qaw,qax]⟩:{x // x=lf [L81k0] [L81b0] (cuF Go.Proofs.Tryd.prog Go.Proofs.Tryd.f81)}).1
noncomputable def L82k0:List Bool:=(⟨_,by conv=>rhs; reduce⟩:{x // x=lk (cuF Go.Proofs.Tryd.prog Go.Proofs.Tryd.f82) 0}).1
noncomputable def L82b0:LCode:=(⟨_,by conv=>rhs; reduce; try simp (disch:=decide) only[qaD,qay,qaz,qat,qaF,qaC,qau,qap,qav,qaw,qax]⟩:{x // x=lb [] [] (cuF Go.Proofs.Tryd.prog Go.Proofs.Tryd.f82) 0}).1
attribute [local irreducible] L82k0 L82b0
noncomputable def L82:LFun:=(⟨_,by conv=>rhs; reduce; try simp (disch:=decide) only[qaD,qay,qaz,qat,qaF,qaC,qau,qap,qav,qaw,qax]⟩:{x // x=lf [L82k0] [L82b0] (cuF Go.Proofs.Tryd.prog Go.Proofs.Tryd.f82)}).1
noncomputable def L83k0:List Bool:=(⟨_,by conv=>rhs; reduce⟩:{x // x=lk (cuF Go.Proofs.Tryd.prog Go.Proofs.Tryd.f83) 0}).1
noncomputable def L83b0:LCode:=(⟨_,by conv=>rhs; reduce; try simp (disch:=decide) only[qaD,qay,qaz,qat,qaF,qaC,qau,qap,qav,qaw,qax]⟩:{x // x=lb [] [] (cuF Go.Proofs.Tryd.prog Go.Proofs.Tryd.f83) 0}).1
attribute [local irreducible] L83k0 L83b0
noncomputable def L83:LFun:=(⟨_,by conv=>rhs; reduce; try simp (disch:=decide) only[qaD,qay,qaz,qat,qaF,qaC,qau,qap,qav,qaw,qax]⟩:{x // x=lf [L83k0] [L83b0] (cuF Go.Proofs.Tryd.prog Go.Proofs.Tryd.f83)}).1
noncomputable def L84k0:List Bool:=(⟨_,by conv=>rhs; reduce⟩:{x // x=lk (cuF Go.Proofs.Tryd.prog Go.Proofs.Tryd.f84) 0}).1
noncomputable def L84b0:LCode:=(⟨_,by conv=>rhs; reduce; try simp (disch:=decide) only[qaD,qay,qaz,qat,qaF,qaC,qau,qap,qav,qaw,qax]⟩:{x // x=lb [] [] (cuF Go.Proofs.Tryd.prog Go.Proofs.Tryd.f84) 0}).1
attribute [local irreducible] L84k0 L84b0
noncomputable def L84:LFun:=(⟨_,by conv=>rhs; reduce; try simp (disch:=decide) only[qaD,qay,qaz,qat,qaF,qaC,qau,qap,qav,qaw,qax]⟩:{x // x=lf [L84k0] [L84b0] (cuF Go.Proofs.Tryd.prog Go.Proofs.Tryd.f84)}).1
noncomputable def L85:LFun:=(⟨_,by conv=>rhs; reduce; try simp (disch:=decide) only[qaD,qay,qaz,qat,qaF,qaC,qau,qap,qav,qaw,qax]⟩:{x // x=lf [] [] (cuF Go.Proofs.Tryd.prog Go.Proofs.Tryd.f85)}).1
noncomputable def L86k0:List Bool:=(⟨_,by conv=>rhs; reduce⟩:{x // x=lk (cuF Go.Proofs.Tryd.prog Go.Proofs.Tryd.f86) 0}).1
noncomputable def L86b0:LCode:=(⟨_,by conv=>rhs; reduce; try simp (disch:=decide) only[qaD,qay,qaz,qat,qaF,qaC,qau,qap,qav,qaw,qax]⟩:{x // x=lb [] [] (cuF Go.Proofs.Tryd.prog Go.Proofs.Tryd.f86) 0}).1
attribute [local irreducible] L86k0 L86b0
noncomputable def L86:LFun:=(⟨_,by conv=>rhs; reduce; try simp (disch:=decide) only[qaD,qay,qaz,qat,qaF,qaC,qau,qap,qav,qaw,qax]⟩:{x // x=lf [L86k0] [L86b0] (cuF Go.Proofs.Tryd.prog Go.Proofs.Tryd.f86)}).1
noncomputable def L87:LFun:=(⟨_,by conv=>rhs; reduce; try simp (disch:=decide) only[qaD,qay,qaz,qat,qaF,qaC,qau,qap,qav,qaw,qax]⟩:{x // x=lf [] [] (cuF Go.Proofs.Tryd.prog Go.Proofs.Tryd.f87)}).1
noncomputable def L88k0:List Bool:=(⟨_,by conv=>rhs; reduce⟩:{x // x=lk (cuF Go.Proofs.Tryd.prog Go.Proofs.Tryd.f88) 0}).1
noncomputable def L88b0:LCode:=(⟨_,by conv=>rhs; reduce; try simp (disch:=decide) only[qaD,qay,qaz,qat,qaF,qaC,qau,qap,qav,qaw,qax]⟩:{x // x=lb [] [] (cuF Go.Proofs.Tryd.prog Go.Proofs.Tryd.f88) 0}).1
attribute [local irreducible] L88k0 L88b0
noncomputable def L88k1:List Bool:=(⟨_,by conv=>rhs; reduce⟩:{x // x=lk (cuF Go.Proofs.Tryd.prog Go.Proofs.Tryd.f88) 1}).1
noncomputable def L88b1:LCode:=(⟨_,by conv=>rhs; reduce; try simp (disch:=decide) only[qaD,qay,qaz,qat,qaF,qaC,qau,qap,qav,qaw,qax]⟩:{x // x=lb [L88k0] [L88b0] (cuF Go.Proofs.Tryd.prog Go.Proofs.Tryd.f88) 1}).1
attribute [local irreducible] L88k1 L88b1
noncomputable def L88:LFun:=(⟨_,by conv=>rhs; reduce; try simp (disch:=decide) only[qaD,qay,qaz,qat,qaF,qaC,qau,qap,qav,qaw,qax]⟩:{x // x=lf [L88k0,L88k1] [L88b0,L88b1] (cuF Go.Proofs.Tryd.prog Go.Proofs.Tryd.f88)}).1
noncomputable def L89k0:List Bool:=(⟨_,by conv=>rhs; reduce⟩:{x // x=lk (cuF Go.Proofs.Tryd.prog Go.Proofs.Tryd.f89) 0}).1
noncomputable def L89b0:LCode:=(⟨_,by conv=>rhs; reduce; try simp (disch:=decide) only[qaD,qay,qaz,qat,qaF,qaC,qau,qap,qav,qaw,qax]⟩:{x // x=lb [] [] (cuF Go.Proofs.Tryd.prog Go.Proofs.Tryd.f89) 0}).1
attribute [local irreducible] L89k0 L89b0
noncomputable def L89:LFun:=(⟨_,by conv=>rhs; reduce; try simp (disch:=decide) only[qaD,qay,qaz,qat,qaF,qaC,qau,qap,qav,qaw,qax]⟩:{x // x=lf [L89k0] [L89b0] (cuF Go.Proofs.Tryd.prog Go.Proofs.Tryd.f89)}).1
noncomputable def L90k0:List Bool:=(⟨_,by conv=>rhs; reduce⟩:{x // x=lk (cuF Go.Proofs.Tryd.prog Go.Proofs.Tryd.f90) 0}).1
noncomputable def L90b0:LCode:=(⟨_,by conv=>rhs; reduce; try simp (disch:=decide) only[qaD,qay,qaz,qat,qaF,qaC,qau,qap,qav,qaw,qax]⟩:{x // x=lb [] [] (cuF Go.Proofs.Tryd.prog Go.Proofs.Tryd.f90) 0}).1
attribute [local irreducible] L90k0 L90b0
noncomputable def L90:LFun:=(⟨_,by conv=>rhs; reduce; try simp (disch:=decide) only[qaD,qay,qaz,qat,qaF,qaC,qau,qap,qav,qaw,qax]⟩:{x // x=lf [L90k0] [L90b0] (cuF Go.Proofs.Tryd.prog Go.Proofs.Tryd.f90)}).1
noncomputable def L91k0:List Bool:=(⟨_,by conv=>rhs; reduce⟩:{x // x=lk (cuF Go.Proofs.Tryd.prog Go.Proofs.Tryd.f91) 0}).1
noncomputable def L91b0:LCode:=(⟨_,by conv=>rhs; reduce; try simp (disch:=decide) only[qaD,qay,qaz,qat,qaF,qaC,qau,qap,qav,qaw,qax]⟩:{x // x=lb [] [] (cuF Go.Proofs.Tryd.prog Go.Proofs.Tryd.f91) 0}).1
attribute [local irreducible] L91k0 L91b0
noncomputable def L91:LFun:=(⟨_,by conv=>rhs; reduce; try simp (disch:=decide) only[qaD,qay,qaz,qat,qaF,qaC,qau,qap,qav,qaw,qax]⟩:{x // x=lf [L91k0] [L91b0] (cuF Go.Proofs.Tryd.prog Go.Proofs.Tryd.f91)}).1
noncomputable def L92:LFun:=(⟨_,by conv=>rhs; reduce; try simp (disch:=decide) only[qaD,qay,qaz,qat,qaF,qaC,qau,qap,qav,qaw,qax]⟩:{x // x=lf [] [] (cuF Go.Proofs.Tryd.prog Go.Proofs.Tryd.f92)}).1
noncomputable def L93:LFun:=(⟨_,by conv=>rhs; reduce; try simp (disch:=decide) only[qaD,qay,qaz,qat,qaF,qaC,qau,qap,qav,qaw,qax]⟩:{x // x=lf [] [] (cuF Go.Proofs.Tryd.prog Go.Proofs.Tryd.f93)}).1
noncomputable def L94:LFun:=(⟨_,by conv=>rhs; reduce; try simp (disch:=decide) only[qaD,qay,qaz,qat,qaF,qaC,qau,qap,qav,qaw,qax]⟩:{x // x=lf [] [] (cuF Go.Proofs.Tryd.prog Go.Proofs.Tryd.f94)}).1
noncomputable def L95:LFun:=(⟨_,by conv=>rhs; reduce; try simp (disch:=decide) only[qaD,qay,qaz,qat,qaF,qaC,qau,qap,qav,qaw,qax]⟩:{x // x=lf [] [] (cuF Go.Proofs.Tryd.prog Go.Proofs.Tryd.f95)}).1
noncomputable def L96k0:List Bool:=(⟨_,by conv=>rhs; reduce⟩:{x // x=lk (cuF Go.Proofs.Tryd.prog Go.Proofs.Tryd.f96) 0}).1
noncomputable def L96b0:LCode:=(⟨_,by conv=>rhs; reduce; try simp (disch:=decide) only[qaD,qay,qaz,qat,qaF,qaC,qau,qap,qav,qaw,qax]⟩:{x // x=lb [] [] (cuF Go.Proofs.Tryd.prog Go.Proofs.Tryd.f96) 0}).1
attribute [local irreducible] L96k0 L96b0
noncomputable def L96:LFun:=(⟨_,by conv=>rhs; reduce; try simp (disch:=decide) only[qaD,qay,qaz,qat,qaF,qaC,qau,qap,qav,qaw,qax]⟩:{x // x=lf [L96k0] [L96b0] (cuF Go.Proofs.Tryd.prog Go.Proofs.Tryd.f96)}).1
theorem c3:qaU Go.Proofs.Tryd.prog 3=some L3:=by kernel_rfl
theorem c4:qaU Go.Proofs.Tryd.prog 4=some L4:=by kernel_rfl
theorem c5:qaU Go.Proofs.Tryd.prog 5=some L5:=by kernel_rfl
theorem c6:qaU Go.Proofs.Tryd.prog 6=some L6:=by kernel_rfl
theorem c7:qaU Go.Proofs.Tryd.prog 7=some L7:=by kernel_rfl
theorem c8:qaU Go.Proofs.Tryd.prog 8=some L8:=by kernel_rfl
theorem c9:qaU Go.Proofs.Tryd.prog 9=some L9:=by kernel_rfl
theorem c10:qaU Go.Proofs.Tryd.prog 10=some L10:=by kernel_rfl
theorem c11:qaU Go.Proofs.Tryd.prog 11=some L11:=by kernel_rfl
theorem c12:qaU Go.Proofs.Tryd.prog 12=some L12:=by kernel_rfl
theorem c13:qaU Go.Proofs.Tryd.prog 13=some L13:=by kernel_rfl
theorem c14:qaU Go.Proofs.Tryd.prog 14=some L14:=by kernel_rfl
theorem c15:qaU Go.Proofs.Tryd.prog 15=some L15:=by kernel_rfl
theorem c16:qaU Go.Proofs.Tryd.prog 16=some L16:=by kernel_rfl
theorem c17:qaU Go.Proofs.Tryd.prog 17=some L17:=by kernel_rfl
theorem c18:qaU Go.Proofs.Tryd.prog 18=some L18:=by kernel_rfl
theorem c19:qaU Go.Proofs.Tryd.prog 19=some L19:=by kernel_rfl
theorem c20:qaU Go.Proofs.Tryd.prog 20=some L20:=by kernel_rfl
theorem c21:qaU Go.Proofs.Tryd.prog 21=some L21:=by kernel_rfl
theorem c22:qaU Go.Proofs.Tryd.prog 22=some L22:=by kernel_rfl
theorem c23:qaU Go.Proofs.Tryd.prog 23=some L23:=by kernel_rfl
theorem c24:qaU Go.Proofs.Tryd.prog 24=some L24:=by kernel_rfl
theorem c25:qaU Go.Proofs.Tryd.prog 25=some L25:=by kernel_rfl
theorem c26:qaU Go.Proofs.Tryd.prog 26=some L26:=by kernel_rfl
theorem c27:qaU Go.Proofs.Tryd.prog 27=some L27:=by kernel_rfl
theorem c28:qaU Go.Proofs.Tryd.prog 28=some L28:=by kernel_rfl
theorem c29:qaU Go.Proofs.Tryd.prog 29=some L29:=by kernel_rfl
theorem c30:qaU Go.Proofs.Tryd.prog 30=some L30:=by kernel_rfl
theorem c31:qaU Go.Proofs.Tryd.prog 31=some L31:=by kernel_rfl
theorem c32:qaU Go.Proofs.Tryd.prog 32=some L32:=by kernel_rfl
theorem c33:qaU Go.Proofs.Tryd.prog 33=some L33:=by kernel_rfl
theorem c34:qaU Go.Proofs.Tryd.prog 34=some L34:=by kernel_rfl
theorem c35:qaU Go.Proofs.Tryd.prog 35=some L35:=by kernel_rfl
theorem c36:qaU Go.Proofs.Tryd.prog 36=some L36:=by kernel_rfl
theorem c37:qaU Go.Proofs.Tryd.prog 37=some L37:=by kernel_rfl
theorem c38:qaU Go.Proofs.Tryd.prog 38=some L38:=by kernel_rfl
theorem c39:qaU Go.Proofs.Tryd.prog 39=some L39:=by kernel_rfl
theorem c40:qaU Go.Proofs.Tryd.prog 40=some L40:=by kernel_rfl
theorem c41:qaU Go.Proofs.Tryd.prog 41=some L41:=by kernel_rfl
theorem c42:qaU Go.Proofs.Tryd.prog 42=some L42:=by kernel_rfl
theorem c43:qaU Go.Proofs.Tryd.prog 43=some L43:=by kernel_rfl
theorem c44:qaU Go.Proofs.Tryd.prog 44=some L44:=by kernel_rfl
theorem c45:qaU Go.Proofs.Tryd.prog 45=some L45:=by kernel_rfl
theorem c46:qaU Go.Proofs.Tryd.prog 46=some L46:=by kernel_rfl
theorem c47:qaU Go.Proofs.Tryd.prog 47=some L47:=by kernel_rfl
theorem c48:qaU Go.Proofs.Tryd.prog 48=some L48:=by kernel_rfl
theorem c49:qaU Go.Proofs.Tryd.prog 49=some L49:=by kernel_rfl
theorem c50:qaU Go.Proofs.Tryd.prog 50=some L50:=by kernel_rfl
theorem c51:qaU Go.Proofs.Tryd.prog 51=some L51:=by kernel_rfl
theorem c52:qaU Go.Proofs.Tryd.prog 52=some L52:=by kernel_rfl
theorem c53:qaU Go.Proofs.Tryd.prog 53=some L53:=by kernel_rfl
theorem c54:qaU Go.Proofs.Tryd.prog 54=some L54:=by kernel_rfl
theorem c55:qaU Go.Proofs.Tryd.prog 55=some L55:=by kernel_rfl
theorem c56:qaU Go.Proofs.Tryd.prog 56=some L56:=by kernel_rfl
theorem c57:qaU Go.Proofs.Tryd.prog 57=some L57:=by kernel_rfl
theorem c58:qaU Go.Proofs.Tryd.prog 58=some L58:=by kernel_rfl
theorem c59:qaU Go.Proofs.Tryd.prog 59=some L59:=by kernel_rfl
theorem c60:qaU Go.Proofs.Tryd.prog 60=some L60:=by kernel_rfl
theorem c61:qaU Go.Proofs.Tryd.prog 61=some L61:=by kernel_rfl
theorem c62:qaU Go.Proofs.Tryd.prog 62=some L62:=by kernel_rfl
theorem c63:qaU Go.Proofs.Tryd.prog 63=some L63:=by kernel_rfl
theorem c64:qaU Go.Proofs.Tryd.prog 64=some L64:=by kernel_rfl
theorem c65:qaU Go.Proofs.Tryd.prog 65=some L65:=by kernel_rfl
theorem c66:qaU Go.Proofs.Tryd.prog 66=some L66:=by kernel_rfl
theorem c67:qaU Go.Proofs.Tryd.prog 67=some L67:=by kernel_rfl
theorem c68:qaU Go.Proofs.Tryd.prog 68=some L68:=by kernel_rfl
theorem c69:qaU Go.Proofs.Tryd.prog 69=some L69:=by kernel_rfl
theorem c70:qaU Go.Proofs.Tryd.prog 70=some L70:=by kernel_rfl
theorem c71:qaU Go.Proofs.Tryd.prog 71=some L71:=by kernel_rfl
theorem c72:qaU Go.Proofs.Tryd.prog 72=some L72:=by kernel_rfl
theorem c73:qaU Go.Proofs.Tryd.prog 73=some L73:=by kernel_rfl
theorem c74:qaU Go.Proofs.Tryd.prog 74=some L74:=by kernel_rfl
theorem c75:qaU Go.Proofs.Tryd.prog 75=some L75:=by kernel_rfl
theorem c76:qaU Go.Proofs.Tryd.prog 76=some L76:=by kernel_rfl
theorem c77:qaU Go.Proofs.Tryd.prog 77=some L77:=by kernel_rfl
theorem c78:qaU Go.Proofs.Tryd.prog 78=some L78:=by kernel_rfl
theorem c79:qaU Go.Proofs.Tryd.prog 79=some L79:=by kernel_rfl
theorem c80:qaU Go.Proofs.Tryd.prog 80=some L80:=by kernel_rfl
theorem c81:qaU Go.Proofs.Tryd.prog 81=some L81:=by kernel_rfl
theorem c82:qaU Go.Proofs.Tryd.prog 82=some L82:=by kernel_rfl
theorem c83:qaU Go.Proofs.Tryd.prog 83=some L83:=by kernel_rfl
theorem c84:qaU Go.Proofs.Tryd.prog 84=some L84:=by kernel_rfl
theorem c85:qaU Go.Proofs.Tryd.prog 85=some L85:=by kernel_rfl
theorem c86:qaU Go.Proofs.Tryd.prog 86=some L86:=by kernel_rfl
theorem c87:qaU Go.Proofs.Tryd.prog 87=some L87:=by kernel_rfl
theorem c88:qaU Go.Proofs.Tryd.prog 88=some L88:=by kernel_rfl
theorem c89:qaU Go.Proofs.Tryd.prog 89=some L89:=by kernel_rfl
theorem c90:qaU Go.Proofs.Tryd.prog 90=some L90:=by kernel_rfl
theorem c91:qaU Go.Proofs.Tryd.prog 91=some L91:=by kernel_rfl
theorem c92:qaU Go.Proofs.Tryd.prog 92=some L92:=by kernel_rfl
theorem c93:qaU Go.Proofs.Tryd.prog 93=some L93:=by kernel_rfl
theorem c94:qaU Go.Proofs.Tryd.prog 94=some L94:=by kernel_rfl
theorem c95:qaU Go.Proofs.Tryd.prog 95=some L95:=by kernel_rfl
theorem c96:qaU Go.Proofs.Tryd.prog 96=some L96:=by kernel_rfl
noncomputable def tab:List (Nat × LFun):=[(3,L3),(4,L4),(5,L5),(6,L6),(7,L7),(8,L8),(9,L9),(10,L10),(11,L11),(12,L12),(13,L13),(14,L14),(15,L15),(16,L16),(17,L17),(18,L18),(19,L19),(20,L20),(21,L21),(22,L22),(23,L23),(24,L24),(25,L25),(26,L26),(27,L27),(28,L28),(29,L29),(30,L30),(31,L31),(32,L32),(33,L33),(34,L34),(35,L35),(36,L36),(37,L37),(38,L38),(39,L39),(40,L40),(41,L41),(42,L42),(43,L43),(44,L44),(45,L45),(46,L46),(47,L47),(48,L48),(49,L49),(50,L50),(51,L51),(52,L52),(53,L53),(54,L54),(55,L55),(56,L56),(57,L57),(58,L58),(59,L59),(60,L60),(61,L61),(62,L62),(63,L63),(64,L64),(65,L65),(66,L66),(67,L67),(68,L68),(69,L69),(70,L70),(71,L71),(72,L72),(73,L73),(74,L74),(75,L75),(76,L76),(77,L77),(78,L78),(79,L79),(80,L80),(81,L81),(82,L82),(83,L83),(84,L84),(85,L85),(86,L86),(87,L87),(88,L88),(89,L89),(90,L90),(91,L91),(92,L92),(93,L93),(94,L94),(95,L95),(96,L96)]
theorem tab_ok:∀ f lf,look tab f=some lf→qaU Go.Proofs.Tryd.prog f=some lf:=look_ok tab (by
  simp only[tab,List.forall_mem_cons,List.not_mem_nil,false_imp_iff,implies_true,and_true]
  exact ⟨c3,c4,c5,c6,c7,c8,c9,c10,c11,c12,c13,c14,c15,c16,c17,c18,c19,c20,c21,c22,c23,c24,c25,c26,c27,c28,c29,c30,c31,c32,c33,c34,c35,c36,c37,c38,c39,c40,c41,c42,c43,c44,c45,c46,c47,c48,c49,c50,c51,c52,c53,c54,c55,c56,c57,c58,c59,c60,c61,c62,c63,c64,c65,c66,c67,c68,c69,c70,c71,c72,c73,c74,c75,c76,c77,c78,c79,c80,c81,c82,c83,c84,c85,c86,c87,c88,c89,c90,c91,c92,c93,c94,c95,c96⟩)
def qaJ:Nat→Nat→Bool:=fun g i=>match g,i with
  | 62,0=>true | 49,0=>true | 77,2=>true | 65,2=>true | 55,0=>true | 46,0=>true | 57,1=>true | 26,0=>true | 26,1=>true | 22,0=>true | 22,1=>true | 35,0=>true | 35,1=>true | 42,0=>true | 43,1=>true | 47,0=>true | 27,2=>true | 29,2=>true | 51,2=>true | 48,2=>true | 18,1=>true | 36,0=>true | 14,0=>true | 15,0=>true | 12,0=>true | 13,0=>true | 11,2=>true
  | _,_=>false
noncomputable def C:Ctx:={ fns:=look tab,gl:=Sha.glf,borrow:=qaJ,trim:=true }
theorem qas:C.trim=true:=rfl
theorem qc3:C.borrow=qaJ:=rfl
theorem C_ok:∀ f lf,C.fns f=some lf→qaU Go.Proofs.Tryd.prog f=some lf:=tab_ok
theorem qae {k:Nat} {H:Heap} {b:Nat} {g:FuncId} {args:List LV} (hb:qaJ g=fun _=>false) (hn:args.flatMap (nms D)=[]) (hr:args.map (ren D (qaK []))=args) :
    qar (envC C k) H b g args=calK b (F C k g args []):=callOp_sc H b hb hn hr
theorem f3:C.fns 3=some L3:=by kernel_rfl
theorem l3:qaJ 3=fun _=>false:=by funext i; rfl
theorem f4:C.fns 4=some L4:=by kernel_rfl
theorem l4:qaJ 4=fun _=>false:=by funext i; rfl
theorem f5:C.fns 5=some L5:=by kernel_rfl
theorem l5:qaJ 5=fun _=>false:=by funext i; rfl
theorem f6:C.fns 6=some L6:=by kernel_rfl
theorem l6:qaJ 6=fun _=>false:=by funext i; rfl
theorem f7:C.fns 7=some L7:=by kernel_rfl
theorem l7:qaJ 7=fun _=>false:=by funext i; rfl
theorem f8:C.fns 8=some L8:=by kernel_rfl
theorem l8:qaJ 8=fun _=>false:=by funext i; rfl
theorem f9:C.fns 9=some L9:=by kernel_rfl
theorem l9:qaJ 9=fun _=>false:=by funext i; rfl
theorem f10:C.fns 10=some L10:=by kernel_rfl
theorem l10:qaJ 10=fun _=>false:=by funext i; rfl
theorem f11:C.fns 11=some L11:=by kernel_rfl
theorem f12:C.fns 12=some L12:=by kernel_rfl
theorem f13:C.fns 13=some L13:=by kernel_rfl
theorem f14:C.fns 14=some L14:=by kernel_rfl
theorem f15:C.fns 15=some L15:=by kernel_rfl
theorem f16:C.fns 16=some L16:=by kernel_rfl
theorem l16:qaJ 16=fun _=>false:=by funext i; rfl
theorem f17:C.fns 17=some L17:=by kernel_rfl
theorem l17:qaJ 17=fun _=>false:=by funext i; rfl
theorem f18:C.fns 18=some L18:=by kernel_rfl
theorem f19:C.fns 19=some L19:=by kernel_rfl
theorem l19:qaJ 19=fun _=>false:=by funext i; rfl
theorem f20:C.fns 20=some L20:=by kernel_rfl
theorem l20:qaJ 20=fun _=>false:=by funext i; rfl
theorem f21:C.fns 21=some L21:=by kernel_rfl
theorem l21:qaJ 21=fun _=>false:=by funext i; rfl
theorem f22:C.fns 22=some L22:=by kernel_rfl
theorem f23:C.fns 23=some L23:=by kernel_rfl
theorem l23:qaJ 23=fun _=>false:=by funext i; rfl
theorem f24:C.fns 24=some L24:=by kernel_rfl
theorem l24:qaJ 24=fun _=>false:=by funext i; rfl
theorem f25:C.fns 25=some L25:=by kernel_rfl
theorem l25:qaJ 25=fun _=>false:=by funext i; rfl
theorem f26:C.fns 26=some L26:=by kernel_rfl
theorem f27:C.fns 27=some L27:=by kernel_rfl
theorem f28:C.fns 28=some L28:=by kernel_rfl
theorem l28:qaJ 28=fun _=>false:=by funext i; rfl
theorem f29:C.fns 29=some L29:=by kernel_rfl
theorem f30:C.fns 30=some L30:=by kernel_rfl
theorem l30:qaJ 30=fun _=>false:=by funext i; rfl
theorem f31:C.fns 31=some L31:=by kernel_rfl
theorem l31:qaJ 31=fun _=>false:=by funext i; rfl
theorem f32:C.fns 32=some L32:=by kernel_rfl
theorem l32:qaJ 32=fun _=>false:=by funext i; rfl
theorem f33:C.fns 33=some L33:=by kernel_rfl
theorem l33:qaJ 33=fun _=>false:=by funext i; rfl
theorem f34:C.fns 34=some L34:=by kernel_rfl
theorem l34:qaJ 34=fun _=>false:=by funext i; rfl
theorem f35:C.fns 35=some L35:=by kernel_rfl
theorem f36:C.fns 36=some L36:=by kernel_rfl
theorem f37:C.fns 37=some L37:=by kernel_rfl
theorem l37:qaJ 37=fun _=>false:=by funext i; rfl
theorem f38:C.fns 38=some L38:=by kernel_rfl
theorem l38:qaJ 38=fun _=>false:=by funext i; rfl
theorem f39:C.fns 39=some L39:=by kernel_rfl
theorem l39:qaJ 39=fun _=>false:=by funext i; rfl
theorem f40:C.fns 40=some L40:=by kernel_rfl
theorem l40:qaJ 40=fun _=>false:=by funext i; rfl
theorem f41:C.fns 41=some L41:=by kernel_rfl
theorem l41:qaJ 41=fun _=>false:=by funext i; rfl
theorem f42:C.fns 42=some L42:=by kernel_rfl
theorem f43:C.fns 43=some L43:=by kernel_rfl
theorem f44:C.fns 44=some L44:=by kernel_rfl
theorem l44:qaJ 44=fun _=>false:=by funext i; rfl
theorem f45:C.fns 45=some L45:=by kernel_rfl
theorem l45:qaJ 45=fun _=>false:=by funext i; rfl
theorem f46:C.fns 46=some L46:=by kernel_rfl
theorem f47:C.fns 47=some L47:=by kernel_rfl
theorem f48:C.fns 48=some L48:=by kernel_rfl
theorem f49:C.fns 49=some L49:=by kernel_rfl
theorem f50:C.fns 50=some L50:=by kernel_rfl
theorem l50:qaJ 50=fun _=>false:=by funext i; rfl
theorem f51:C.fns 51=some L51:=by kernel_rfl
theorem f52:C.fns 52=some L52:=by kernel_rfl
theorem l52:qaJ 52=fun _=>false:=by funext i; rfl
theorem f53:C.fns 53=some L53:=by kernel_rfl
theorem l53:qaJ 53=fun _=>false:=by funext i; rfl
theorem f54:C.fns 54=some L54:=by kernel_rfl
theorem l54:qaJ 54=fun _=>false:=by funext i; rfl
theorem f55:C.fns 55=some L55:=by kernel_rfl
theorem f56:C.fns 56=some L56:=by kernel_rfl
theorem l56:qaJ 56=fun _=>false:=by funext i; rfl
theorem f57:C.fns 57=some L57:=by kernel_rfl
theorem f58:C.fns 58=some L58:=by kernel_rfl
theorem l58:qaJ 58=fun _=>false:=by funext i; rfl
theorem f59:C.fns 59=some L59:=by kernel_rfl
theorem l59:qaJ 59=fun _=>false:=by funext i; rfl
theorem f60:C.fns 60=some L60:=by kernel_rfl
theorem l60:qaJ 60=fun _=>false:=by funext i; rfl
theorem f61:C.fns 61=some L61:=by kernel_rfl
theorem l61:qaJ 61=fun _=>false:=by funext i; rfl
theorem f62:C.fns 62=some L62:=by kernel_rfl
theorem f63:C.fns 63=some L63:=by kernel_rfl
theorem l63:qaJ 63=fun _=>false:=by funext i; rfl
theorem f64:C.fns 64=some L64:=by kernel_rfl
theorem l64:qaJ 64=fun _=>false:=by funext i; rfl
theorem f65:C.fns 65=some L65:=by kernel_rfl
theorem f66:C.fns 66=some L66:=by kernel_rfl
theorem l66:qaJ 66=fun _=>false:=by funext i; rfl
theorem f67:C.fns 67=some L67:=by kernel_rfl
theorem l67:qaJ 67=fun _=>false:=by funext i; rfl
theorem f68:C.fns 68=some L68:=by kernel_rfl
theorem l68:qaJ 68=fun _=>false:=by funext i; rfl
theorem f69:C.fns 69=some L69:=by kernel_rfl
theorem l69:qaJ 69=fun _=>false:=by funext i; rfl
theorem f70:C.fns 70=some L70:=by kernel_rfl
theorem l70:qaJ 70=fun _=>false:=by funext i; rfl
theorem f71:C.fns 71=some L71:=by kernel_rfl
theorem l71:qaJ 71=fun _=>false:=by funext i; rfl
theorem f72:C.fns 72=some L72:=by kernel_rfl
theorem l72:qaJ 72=fun _=>false:=by funext i; rfl
theorem f73:C.fns 73=some L73:=by kernel_rfl
theorem l73:qaJ 73=fun _=>false:=by funext i; rfl
theorem f74:C.fns 74=some L74:=by kernel_rfl
theorem l74:qaJ 74=fun _=>false:=by funext i; rfl
theorem f75:C.fns 75=some L75:=by kernel_rfl
theorem l75:qaJ 75=fun _=>false:=by funext i; rfl
theorem f76:C.fns 76=some L76:=by kernel_rfl
theorem l76:qaJ 76=fun _=>false:=by funext i; rfl
theorem f77:C.fns 77=some L77:=by kernel_rfl
theorem f78:C.fns 78=some L78:=by kernel_rfl
theorem l78:qaJ 78=fun _=>false:=by funext i; rfl
theorem f79:C.fns 79=some L79:=by kernel_rfl
theorem l79:qaJ 79=fun _=>false:=by funext i; rfl
theorem f80:C.fns 80=some L80:=by kernel_rfl
theorem l80:qaJ 80=fun _=>false:=by funext i; rfl
theorem f81:C.fns 81=some L81:=by kernel_rfl
theorem l81:qaJ 81=fun _=>false:=by funext i; rfl
theorem f82:C.fns 82=some L82:=by kernel_rfl
theorem l82:qaJ 82=fun _=>false:=by funext i; rfl
theorem f83:C.fns 83=some L83:=by kernel_rfl
theorem l83:qaJ 83=fun _=>false:=by funext i; rfl
theorem f84:C.fns 84=some L84:=by kernel_rfl
theorem l84:qaJ 84=fun _=>false:=by funext i; rfl
theorem f85:C.fns 85=some L85:=by kernel_rfl
theorem l85:qaJ 85=fun _=>false:=by funext i; rfl
theorem f86:C.fns 86=some L86:=by kernel_rfl
theorem l86:qaJ 86=fun _=>false:=by funext i; rfl
theorem f87:C.fns 87=some L87:=by kernel_rfl
theorem l87:qaJ 87=fun _=>false:=by funext i; rfl
theorem f88:C.fns 88=some L88:=by kernel_rfl
theorem l88:qaJ 88=fun _=>false:=by funext i; rfl
theorem f89:C.fns 89=some L89:=by kernel_rfl
theorem l89:qaJ 89=fun _=>false:=by funext i; rfl
theorem f90:C.fns 90=some L90:=by kernel_rfl
theorem l90:qaJ 90=fun _=>false:=by funext i; rfl
theorem f91:C.fns 91=some L91:=by kernel_rfl
theorem l91:qaJ 91=fun _=>false:=by funext i; rfl
theorem f92:C.fns 92=some L92:=by kernel_rfl
theorem l92:qaJ 92=fun _=>false:=by funext i; rfl
theorem f93:C.fns 93=some L93:=by kernel_rfl
theorem l93:qaJ 93=fun _=>false:=by funext i; rfl
theorem f94:C.fns 94=some L94:=by kernel_rfl
theorem l94:qaJ 94=fun _=>false:=by funext i; rfl
theorem f95:C.fns 95=some L95:=by kernel_rfl
theorem l95:qaJ 95=fun _=>false:=by funext i; rfl
theorem f96:C.fns 96=some L96:=by kernel_rfl
theorem l96:qaJ 96=fun _=>false:=by funext i; rfl
set_option linter.defProp false
def lB:=And.intro l3 ( And.intro l4 ( And.intro l5 ( And.intro l6 ( And.intro l7 ( And.intro l8 ( And.intro l9 ( And.intro l10 ( And.intro l16 ( And.intro l17 ( And.intro l19 ( And.intro l20 ( And.intro l21 ( And.intro l23 ( And.intro l24 ( And.intro l25 ( And.intro l28 ( And.intro l30 ( And.intro l31 ( And.intro l32 ( And.intro l33 ( And.intro l34 ( And.intro l37 ( And.intro l38 ( And.intro l39 ( And.intro l40 ( And.intro l41 ( And.intro l44 ( And.intro l45 ( And.intro l50 ( And.intro l52 ( And.intro l53 ( And.intro l54 ( And.intro l56 ( And.intro l58 ( And.intro l59 ( And.intro l60 ( And.intro l61 ( And.intro l63 ( And.intro l64 ( And.intro l66 ( And.intro l67 ( And.intro l68 ( And.intro l69 ( And.intro l70 ( And.intro l71 ( And.intro l72 ( And.intro l73 ( And.intro l74 ( And.intro l75 ( And.intro l76 ( And.intro l78 ( And.intro l79 ( And.intro l80 ( And.intro l81 ( And.intro l82 ( And.intro l83 ( And.intro l84 ( And.intro l85 ( And.intro l86 ( And.intro l87 ( And.intro l88 ( And.intro l89 ( And.intro l90 ( And.intro l91 ( And.intro l92 ( And.intro l93 ( And.intro l94 ( And.intro l95 (l96)))))))))))))))))))))))))))))))))))))))))))))))))))))))))))))))))))))
end Tb
