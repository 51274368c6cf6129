/- A part of the proof: what functions of the program answer; conditions stand in each theorem. -/
import Derived.Test.YtiiannaficbjeaaDoorProg
import Derived.Test.YtiiannaficbjeaaDoorAbSim
import Derived.WalkKit
set_option linter.unusedVariables false
set_option linter.unusedSimpArgs false
set_option linter.unusedSectionVars false
namespace Go.Proofs.Sw
open Go.Ab
variable [Globals]
noncomputable def QDe:Code:=rfAs Tryd.f3 13
noncomputable def QC1:Code:=rfBd Tryd.f3 13
noncomputable def Q2h:Code:=rfAs Tryd.f3 20
noncomputable def Q1n:Code:=rfBd Tryd.f3 20
noncomputable def QzM:Code:=rfAs Tryd.f3 46
noncomputable def Q07:Code:=rfBd Tryd.f3 46
noncomputable def QDY:Code:=rfAs Tryd.f9 6
noncomputable def QDR:Code:=rfBd Tryd.f9 6
noncomputable def Q9E:Code:=rfAs Tryd.f44 9
noncomputable def Q6t:Code:=rfBd Tryd.f44 9
noncomputable def Qzf:Code:=rfAs Tryd.f63 11
noncomputable def Qyc:Code:=rfBd Tryd.f63 11
noncomputable def Qvd:Code:=rfAs Tryd.f89 3
noncomputable def QsD:Code:=rfBd Tryd.f89 3
def tab:Tab:=⟨[(6,3,58,[0,4,5]),(6,9,58,[0,4,5,6,7]),(8,3,22,[1,3,4]),(14,4,73,[2,3,5]),(14,9,73,[2,3,6]),(15,6,208,[1,2,4,6,29,30]),(15,14,208,[2,4,6,8,77,78,79]),(15,22,208,[2,4,6,8,9,10,77,78,79,137,138]),(15,32,208,[2,6,8,189,190,191]),(16,6,76,[1,2,6,22,23,24]),(16,9,76,[1,2,6,9,22,23,24]),(17,7,106,[1,2,6,7,32,33,34]),(17,19,106,[2,6,7,84,85,86]),(18,6,54,[1,2,6,19,20,21]),(19,11,76,[10,13,14]),(20,3,37,[2,3,4]),(20,7,37,[3,5]),(23,4,72,[1,42,43,44]),(23,10,72,[1,58,59,60]),(27,4,26,[0,1,12,13]),(28,5,25,[0,2,3,4]),(29,5,59,[0,5,6,23]),(29,8,59,[0,5,6,7,23,26,27,28]),(32,4,79,[1,4]),(32,9,79,[1,5]),(33,8,203,[1,4,6,7,8,39,40]),(33,13,203,[1,4,6,7,8,52,53]),(33,17,203,[1,4,6,7,8,66,67,68]),(33,28,203,[6,7,8,172,173,174]),(36,2,60,[0,1,10,11,12]),(40,3,32,[1,3,13,14]),(43,2,22,[1,10,11,12]),(44,3,58,[1,3,15,16,17]),(44,15,58,[3,47,48,49]),(46,3,97,[1,2,7,8]),(46,10,97,[2,7,9,10]),(46,19,97,[2,7,9,13,14]),(47,4,27,[0,1,5]),(50,4,57,[1,43,44,45]),(59,2,29,[0,1,4,5]),(61,4,26,[0,1,12,13]),(63,6,62,[1,4,5,23,24,25]),(63,16,62,[5,51,52,53]),(95,3,32,[0,3,6,7]),(97,6,41,[0,1,5]),(109,1,19,[0,1,3]),(110,3,34,[1,3,4,6,9,10]),(120,3,82,[2,3,4,5,6]),(120,7,82,[2,3,4,5,6,7,8]),(124,4,52,[0,1,5,6,7]),(125,4,43,[0,1,5,6,7]),(126,5,124,[0,1,6,7,8]),(126,14,124,[0,1,9,10,11]),(126,18,124,[0,1,9,10,11,12,13]),(129,5,25,[3,4])],[(18,11,7),(126,26,2),(1000126,26,3),(29,11,4),(29,15,1),(30,1,2),(30,1,5)],[(3,16,4,0),(3,16,5,1),(6,11,10,0),(6,12,3,1),(13,2,4,0),(13,3,4,1),(15,28,4,0),(15,34,9,1),(16,15,3,0),(17,15,4,0),(17,21,12,1),(18,9,7,0),(28,6,5,0),(33,5,3,2),(33,5,5,3),(33,5,7,4),(33,14,6,0),(33,25,6,0),(33,30,10,1),(34,1,8,2),(40,5,10,0),(46,16,3,0),(46,21,10,1),(95,8,3,0),(110,5,15,0),(121,2,11,0),(121,2,12,1),(124,10,4,0),(125,14,5,0)],[(3,2),(6,2),(13,2),(15,3),(16,1),(17,2),(18,1),(28,1),(33,5),(34,1),(40,1),(46,2),(95,1),(110,1),(121,2),(124,1),(125,1)],[20,33,34,36,40,41,42,43,52,68,71,76,117,123],[(15,8,9,[2])],[],[(20,3),(20,7)],[],[9]⟩
theorem lp6_3:(tab.loops.find? fun e=>e.1 == 6&&e.2.1 == 3)=some (6,3,58,[0,4,5]):=by rfl
noncomputable def QBo:Code:=Qag Tryd.f6 3
theorem lp6_9:(tab.loops.find? fun e=>e.1 == 6&&e.2.1 == 9)=some (6,9,58,[0,4,5,6,7]):=by rfl
noncomputable def QBk:Code:=Qag Tryd.f6 9
theorem lp8_3:(tab.loops.find? fun e=>e.1 == 8&&e.2.1 == 3)=some (8,3,22,[1,3,4]):=by rfl
noncomputable def QBl:Code:=Qag Tryd.f8 3
theorem QGO:(tab.loops.find? fun e=>e.1 == 14&&e.2.1 == 4)=some (14,4,73,[2,3,5]):=by rfl
noncomputable def Q3H:Code:=Qag Tryd.f14 4
theorem QFj:(tab.loops.find? fun e=>e.1 == 14&&e.2.1 == 9)=some (14,9,73,[2,3,6]):=by rfl
noncomputable def Q1Z:Code:=Qag Tryd.f14 9
theorem QGz:(tab.loops.find? fun e=>e.1 == 15&&e.2.1 == 6)=some (15,6,208,[1,2,4,6,29,30]):=by rfl
noncomputable def Q4H:Code:=Qag Tryd.f15 6
theorem Q9z:(tab.loops.find? fun e=>e.1 == 15&&e.2.1 == 14)=some (15,14,208,[2,4,6,8,77,78,79]):=by rfl
noncomputable def QkE:Code:=Qag Tryd.f15 14
theorem Q8t:(tab.loops.find? fun e=>e.1 == 15&&e.2.1 == 22)=some (15,22,208,[2,4,6,8,9,10,77,78,79,137,138]):=by rfl
noncomputable def Qkx:Code:=Qag Tryd.f15 22
theorem QAg:(tab.loops.find? fun e=>e.1 == 15&&e.2.1 == 32)=some (15,32,208,[2,6,8,189,190,191]):=by rfl
noncomputable def Qmg:Code:=Qag Tryd.f15 32
theorem QGh:(tab.loops.find? fun e=>e.1 == 16&&e.2.1 == 6)=some (16,6,76,[1,2,6,22,23,24]):=by rfl
noncomputable def Q3Y:Code:=Qag Tryd.f16 6
theorem QFF:(tab.loops.find? fun e=>e.1 == 16&&e.2.1 == 9)=some (16,9,76,[1,2,6,9,22,23,24]):=by rfl
noncomputable def Q7Q:Code:=Qag Tryd.f16 9
theorem QGp:(tab.loops.find? fun e=>e.1 == 17&&e.2.1 == 7)=some (17,7,106,[1,2,6,7,32,33,34]):=by rfl
noncomputable def Q16:Code:=Qag Tryd.f17 7
theorem QDI:(tab.loops.find? fun e=>e.1 == 17&&e.2.1 == 19)=some (17,19,106,[2,6,7,84,85,86]):=by rfl
noncomputable def QrL:Code:=Qag Tryd.f17 19
theorem QFZ:(tab.loops.find? fun e=>e.1 == 18&&e.2.1 == 6)=some (18,6,54,[1,2,6,19,20,21]):=by rfl
noncomputable def Q3A:Code:=Qag Tryd.f18 6
theorem QDE:(tab.loops.find? fun e=>e.1 == 19&&e.2.1 == 11)=some (19,11,76,[10,13,14]):=by rfl
noncomputable def QqT:Code:=Qag Tryd.f19 11
theorem QF4:(tab.loops.find? fun e=>e.1 == 20&&e.2.1 == 3)=some (20,3,37,[2,3,4]):=by rfl
noncomputable def Q4l:Code:=Qag Tryd.f20 3
theorem lp20_7:(tab.loops.find? fun e=>e.1 == 20&&e.2.1 == 7)=some (20,7,37,[3,5]):=by rfl
noncomputable def Q0X:Code:=Qag Tryd.f20 7
theorem QHK:(tab.loops.find? fun e=>e.1 == 23&&e.2.1 == 4)=some (23,4,72,[1,42,43,44]):=by rfl
noncomputable def Q2X:Code:=Qag Tryd.f23 4
theorem QEj:(tab.loops.find? fun e=>e.1 == 23&&e.2.1 == 10)=some (23,10,72,[1,58,59,60]):=by rfl
noncomputable def Qrz:Code:=Qag Tryd.f23 10
theorem QGT:(tab.loops.find? fun e=>e.1 == 27&&e.2.1 == 4)=some (27,4,26,[0,1,12,13]):=by rfl
noncomputable def QzP:Code:=Qag Tryd.f27 4
theorem Q8l:(tab.loops.find? fun e=>e.1 == 28&&e.2.1 == 5)=some (28,5,25,[0,2,3,4]):=by rfl
noncomputable def QpC:Code:=Qag Tryd.f28 5
theorem QFn:(tab.loops.find? fun e=>e.1 == 29&&e.2.1 == 5)=some (29,5,59,[0,5,6,23]):=by rfl
noncomputable def Q60:Code:=Qag Tryd.f29 5
theorem QHd:(tab.loops.find? fun e=>e.1 == 29&&e.2.1 == 8)=some (29,8,59,[0,5,6,7,23,26,27,28]):=by rfl
noncomputable def QeE:Code:=Qag Tryd.f29 8
theorem QEM:(tab.loops.find? fun e=>e.1 == 32&&e.2.1 == 4)=some (32,4,79,[1,4]):=by rfl
noncomputable def Q0U:Code:=Qag Tryd.f32 4
theorem QHB:(tab.loops.find? fun e=>e.1 == 32&&e.2.1 == 9)=some (32,9,79,[1,5]):=by rfl
noncomputable def Q1T:Code:=Qag Tryd.f32 9
theorem QHR:(tab.loops.find? fun e=>e.1 == 33&&e.2.1 == 8)=some (33,8,203,[1,4,6,7,8,39,40]):=by rfl
noncomputable def Q20:Code:=Qag Tryd.f33 8
theorem QEq:(tab.loops.find? fun e=>e.1 == 33&&e.2.1 == 13)=some (33,13,203,[1,4,6,7,8,52,53]):=by rfl
noncomputable def QrF:Code:=Qag Tryd.f33 13
theorem QDD:(tab.loops.find? fun e=>e.1 == 33&&e.2.1 == 17)=some (33,17,203,[1,4,6,7,8,66,67,68]):=by rfl
noncomputable def QqS:Code:=Qag Tryd.f33 17
theorem QDS:(tab.loops.find? fun e=>e.1 == 33&&e.2.1 == 28)=some (33,28,203,[6,7,8,172,173,174]):=by rfl
noncomputable def QqZ:Code:=Qag Tryd.f33 28
theorem QFT:(tab.loops.find? fun e=>e.1 == 36&&e.2.1 == 2)=some (36,2,60,[0,1,10,11,12]):=by rfl
noncomputable def Q12:Code:=Qag Tryd.f36 2
theorem QFl:(tab.loops.find? fun e=>e.1 == 40&&e.2.1 == 3)=some (40,3,32,[1,3,13,14]):=by rfl
noncomputable def Q0a:Code:=Qag Tryd.f40 3
theorem QFa:(tab.loops.find? fun e=>e.1 == 43&&e.2.1 == 2)=some (43,2,22,[1,10,11,12]):=by rfl
noncomputable def Q0i:Code:=Qag Tryd.f43 2
theorem QFo:(tab.loops.find? fun e=>e.1 == 44&&e.2.1 == 3)=some (44,3,58,[1,3,15,16,17]):=by rfl
noncomputable def Q2O:Code:=Qag Tryd.f44 3
theorem QDJ:(tab.loops.find? fun e=>e.1 == 44&&e.2.1 == 15)=some (44,15,58,[3,47,48,49]):=by rfl
noncomputable def Qrl:Code:=Qag Tryd.f44 15
theorem QES:(tab.loops.find? fun e=>e.1 == 46&&e.2.1 == 3)=some (46,3,97,[1,2,7,8]):=by rfl
noncomputable def Q2p:Code:=Qag Tryd.f46 3
theorem QEv:(tab.loops.find? fun e=>e.1 == 46&&e.2.1 == 10)=some (46,10,97,[2,7,9,10]):=by rfl
noncomputable def Qra:Code:=Qag Tryd.f46 10
theorem QDW:(tab.loops.find? fun e=>e.1 == 46&&e.2.1 == 19)=some (46,19,97,[2,7,9,13,14]):=by rfl
noncomputable def Qr6:Code:=Qag Tryd.f46 19
theorem QHf:(tab.loops.find? fun e=>e.1 == 47&&e.2.1 == 4)=some (47,4,27,[0,1,5]):=by rfl
noncomputable def Q0A:Code:=Qag Tryd.f47 4
theorem QCU:(tab.loops.find? fun e=>e.1 == 50&&e.2.1 == 4)=some (50,4,57,[1,43,44,45]):=by rfl
noncomputable def Q8c:Code:=Qag Tryd.f50 4
theorem QCc:(tab.loops.find? fun e=>e.1 == 59&&e.2.1 == 2)=some (59,2,29,[0,1,4,5]):=by rfl
noncomputable def QlB:Code:=Qag Tryd.f59 2
theorem QHJ:(tab.loops.find? fun e=>e.1 == 61&&e.2.1 == 4)=some (61,4,26,[0,1,12,13]):=by rfl
noncomputable def Q3O:Code:=Qag Tryd.f61 4
theorem QFV:(tab.loops.find? fun e=>e.1 == 63&&e.2.1 == 6)=some (63,6,62,[1,4,5,23,24,25]):=by rfl
noncomputable def Q0n:Code:=Qag Tryd.f63 6
theorem QDK:(tab.loops.find? fun e=>e.1 == 63&&e.2.1 == 16)=some (63,16,62,[5,51,52,53]):=by rfl
noncomputable def Qrr:Code:=Qag Tryd.f63 16
theorem QHm:(tab.loops.find? fun e=>e.1 == 95&&e.2.1 == 3)=some (95,3,32,[0,3,6,7]):=by rfl
noncomputable def Q2V:Code:=Qag Tryd.f95 3
theorem QBU:(tab.loops.find? fun e=>e.1 == 97&&e.2.1 == 6)=some (97,6,41,[0,1,5]):=by rfl
noncomputable def Qsa:Code:=Qag Tryd.f97 6
theorem Q7r:(tab.loops.find? fun e=>e.1 == 109&&e.2.1 == 1)=some (109,1,19,[0,1,3]):=by rfl
noncomputable def QgC:Code:=Qag Tryd.f109 1
theorem QDH:(tab.loops.find? fun e=>e.1 == 110&&e.2.1 == 3)=some (110,3,34,[1,3,4,6,9,10]):=by rfl
noncomputable def Qrq:Code:=Qag Tryd.f110 3
theorem QD3:(tab.loops.find? fun e=>e.1 == 120&&e.2.1 == 3)=some (120,3,82,[2,3,4,5,6]):=by rfl
noncomputable def Qrn:Code:=Qag Tryd.f120 3
theorem QDT:(tab.loops.find? fun e=>e.1 == 120&&e.2.1 == 7)=some (120,7,82,[2,3,4,5,6,7,8]):=by rfl
noncomputable def Qr4:Code:=Qag Tryd.f120 7
theorem QE7:(tab.loops.find? fun e=>e.1 == 124&&e.2.1 == 4)=some (124,4,52,[0,1,5,6,7]):=by rfl
noncomputable def QrP:Code:=Qag Tryd.f124 4
theorem Q64:(tab.loops.find? fun e=>e.1 == 125&&e.2.1 == 4)=some (125,4,43,[0,1,5,6,7]):=by rfl
noncomputable def QlO:Code:=Qag Tryd.f125 4
theorem QEs:(tab.loops.find? fun e=>e.1 == 126&&e.2.1 == 5)=some (126,5,124,[0,1,6,7,8]):=by rfl
noncomputable def Qri:Code:=Qag Tryd.f126 5
theorem QAP:(tab.loops.find? fun e=>e.1 == 126&&e.2.1 == 14)=some (126,14,124,[0,1,9,10,11]):=by rfl
noncomputable def QjF:Code:=Qag Tryd.f126 14
theorem QAG:(tab.loops.find? fun e=>e.1 == 126&&e.2.1 == 18)=some (126,18,124,[0,1,9,10,11,12,13]):=by rfl
noncomputable def QjE:Code:=Qag Tryd.f126 18
theorem QDx:(tab.loops.find? fun e=>e.1 == 129&&e.2.1 == 5)=some (129,5,25,[3,4]):=by rfl
noncomputable def QqU:Code:=Qag Tryd.f129 5
theorem zb3:inB tab.fzrs 3=false:=by rfl
theorem zb5:inB tab.fzrs 5=false:=by rfl
theorem zb6:inB tab.fzrs 6=false:=by rfl
theorem zb7:inB tab.fzrs 7=false:=by rfl
theorem zb8:inB tab.fzrs 8=false:=by rfl
theorem zb9:inB tab.fzrs 9=true:=by rfl
theorem zb10:inB tab.fzrs 10=false:=by rfl
theorem zb11:inB tab.fzrs 11=false:=by rfl
theorem zb12:inB tab.fzrs 12=false:=by rfl
theorem zb13:inB tab.fzrs 13=false:=by rfl
theorem zb14:inB tab.fzrs 14=false:=by rfl
theorem zb15:inB tab.fzrs 15=false:=by rfl
theorem zb16:inB tab.fzrs 16=false:=by rfl
theorem zb17:inB tab.fzrs 17=false:=by rfl
theorem zb18:inB tab.fzrs 18=false:=by rfl
theorem zb19:inB tab.fzrs 19=false:=by rfl
theorem zb20:inB tab.fzrs 20=false:=by rfl
theorem zb28:inB tab.fzrs 28=false:=by rfl
theorem zb23:inB tab.fzrs 23=false:=by rfl
theorem zb29:inB tab.fzrs 29=false:=by rfl
theorem zb32:inB tab.fzrs 32=false:=by rfl
theorem zb33:inB tab.fzrs 33=false:=by rfl
theorem zb34:inB tab.fzrs 34=false:=by rfl
theorem zb35:inB tab.fzrs 35=false:=by rfl
theorem zb36:inB tab.fzrs 36=false:=by rfl
theorem zb37:inB tab.fzrs 37=false:=by rfl
theorem zb38:inB tab.fzrs 38=false:=by rfl
theorem zb39:inB tab.fzrs 39=false:=by rfl
theorem zb40:inB tab.fzrs 40=false:=by rfl
theorem zb41:inB tab.fzrs 41=false:=by rfl
theorem zb42:inB tab.fzrs 42=false:=by rfl
theorem zb43:inB tab.fzrs 43=false:=by rfl
theorem zb44:inB tab.fzrs 44=false:=by rfl
theorem zb45:inB tab.fzrs 45=false:=by rfl
theorem zb46:inB tab.fzrs 46=false:=by rfl
theorem zb47:inB tab.fzrs 47=false:=by rfl
theorem zb59:inB tab.fzrs 59=false:=by rfl
theorem zb50:inB tab.fzrs 50=false:=by rfl
theorem zb30:inB tab.fzrs 30=false:=by rfl
theorem zb31:inB tab.fzrs 31=false:=by rfl
theorem zb62:inB tab.fzrs 62=false:=by rfl
theorem zb63:inB tab.fzrs 63=false:=by rfl
theorem zb64:inB tab.fzrs 64=false:=by rfl
theorem zb65:inB tab.fzrs 65=false:=by rfl
theorem zb66:inB tab.fzrs 66=false:=by rfl
theorem zb67:inB tab.fzrs 67=false:=by rfl
theorem zb68:inB tab.fzrs 68=false:=by rfl
theorem zb69:inB tab.fzrs 69=false:=by rfl
theorem zb70:inB tab.fzrs 70=false:=by rfl
theorem zb71:inB tab.fzrs 71=false:=by rfl
theorem zb72:inB tab.fzrs 72=false:=by rfl
theorem zb74:inB tab.fzrs 74=false:=by rfl
theorem zb75:inB tab.fzrs 75=false:=by rfl
theorem zb60:inB tab.fzrs 60=false:=by rfl
theorem zb27:inB tab.fzrs 27=false:=by rfl
theorem zb61:inB tab.fzrs 61=false:=by rfl
theorem zb86:inB tab.fzrs 86=false:=by rfl
theorem zb87:inB tab.fzrs 87=false:=by rfl
theorem zb88:inB tab.fzrs 88=false:=by rfl
theorem zb89:inB tab.fzrs 89=false:=by rfl
theorem zb91:inB tab.fzrs 91=false:=by rfl
theorem zb92:inB tab.fzrs 92=false:=by rfl
theorem zb93:inB tab.fzrs 93=false:=by rfl
theorem zb94:inB tab.fzrs 94=false:=by rfl
theorem zb95:inB tab.fzrs 95=false:=by rfl
theorem zb96:inB tab.fzrs 96=false:=by rfl
theorem zb97:inB tab.fzrs 97=false:=by rfl
theorem QEV:inB tab.fzrs 107=false:=by rfl
theorem QGK:inB tab.fzrs 108=false:=by rfl
theorem zb90:inB tab.fzrs 90=false:=by rfl
theorem QGc:inB tab.fzrs 110=false:=by rfl
theorem QG1:inB tab.fzrs 111=false:=by rfl
theorem QHp:inB tab.fzrs 112=false:=by rfl
theorem QEI:inB tab.fzrs 109=false:=by rfl
theorem QEK:inB tab.fzrs 119=false:=by rfl
theorem QHU:inB tab.fzrs 120=false:=by rfl
theorem QHh:inB tab.fzrs 121=false:=by rfl
theorem QHu:inB tab.fzrs 124=false:=by rfl
theorem QGs:inB tab.fzrs 125=false:=by rfl
theorem QHM:inB tab.fzrs 126=false:=by rfl
theorem QFI:inB tab.fzrs 127=false:=by rfl
theorem QG3:inB tab.fzrs 128=false:=by rfl
theorem QGM:inB tab.fzrs 129=false:=by rfl
theorem QEH:inB tab.fzrs 130=false:=by rfl
theorem QF5:inB tab.fzrs 131=false:=by rfl
theorem fb3:inB tab.frames 3=false:=by rfl
theorem fb5:inB tab.frames 5=false:=by rfl
theorem fb6:inB tab.frames 6=false:=by rfl
theorem fb7:inB tab.frames 7=false:=by rfl
theorem fb8:inB tab.frames 8=false:=by rfl
theorem fb9:inB tab.frames 9=false:=by rfl
theorem fb10:inB tab.frames 10=false:=by rfl
theorem fb11:inB tab.frames 11=false:=by rfl
theorem fb12:inB tab.frames 12=false:=by rfl
theorem fb13:inB tab.frames 13=false:=by rfl
theorem fb14:inB tab.frames 14=false:=by rfl
theorem fb15:inB tab.frames 15=false:=by rfl
theorem fb16:inB tab.frames 16=false:=by rfl
theorem fb17:inB tab.frames 17=false:=by rfl
theorem fb18:inB tab.frames 18=false:=by rfl
theorem fb19:inB tab.frames 19=false:=by rfl
theorem fb20:inB tab.frames 20=true:=by rfl
theorem fb28:inB tab.frames 28=false:=by rfl
theorem fb23:inB tab.frames 23=false:=by rfl
theorem fb29:inB tab.frames 29=false:=by rfl
theorem fb32:inB tab.frames 32=false:=by rfl
theorem fb33:inB tab.frames 33=true:=by rfl
theorem fb34:inB tab.frames 34=true:=by rfl
theorem fb35:inB tab.frames 35=false:=by rfl
theorem fb36:inB tab.frames 36=true:=by rfl
theorem fb37:inB tab.frames 37=false:=by rfl
theorem fb38:inB tab.frames 38=false:=by rfl
theorem fb39:inB tab.frames 39=false:=by rfl
theorem fb40:inB tab.frames 40=true:=by rfl
theorem fb41:inB tab.frames 41=true:=by rfl
theorem fb42:inB tab.frames 42=true:=by rfl
theorem fb43:inB tab.frames 43=true:=by rfl
theorem fb44:inB tab.frames 44=false:=by rfl
theorem fb45:inB tab.frames 45=false:=by rfl
theorem fb46:inB tab.frames 46=false:=by rfl
theorem fb47:inB tab.frames 47=false:=by rfl
theorem fb59:inB tab.frames 59=false:=by rfl
theorem fb50:inB tab.frames 50=false:=by rfl
theorem fb30:inB tab.frames 30=false:=by rfl
theorem fb31:inB tab.frames 31=false:=by rfl
theorem fb62:inB tab.frames 62=false:=by rfl
theorem fb63:inB tab.frames 63=false:=by rfl
theorem fb64:inB tab.frames 64=false:=by rfl
theorem fb65:inB tab.frames 65=false:=by rfl
theorem fb66:inB tab.frames 66=false:=by rfl
theorem fb67:inB tab.frames 67=false:=by rfl
theorem fb68:inB tab.frames 68=true:=by rfl
theorem fb69:inB tab.frames 69=false:=by rfl
theorem fb70:inB tab.frames 70=false:=by rfl
theorem fb71:inB tab.frames 71=true:=by rfl
theorem fb72:inB tab.frames 72=false:=by rfl
theorem fb74:inB tab.frames 74=false:=by rfl
theorem fb75:inB tab.frames 75=false:=by rfl
theorem fb60:inB tab.frames 60=false:=by rfl
theorem fb27:inB tab.frames 27=false:=by rfl
theorem fb61:inB tab.frames 61=false:=by rfl
theorem fb86:inB tab.frames 86=false:=by rfl
theorem fb87:inB tab.frames 87=false:=by rfl
theorem fb88:inB tab.frames 88=false:=by rfl
theorem fb89:inB tab.frames 89=false:=by rfl
theorem fb91:inB tab.frames 91=false:=by rfl
theorem fb92:inB tab.frames 92=false:=by rfl
theorem fb93:inB tab.frames 93=false:=by rfl
theorem fb94:inB tab.frames 94=false:=by rfl
theorem fb95:inB tab.frames 95=false:=by rfl
theorem fb96:inB tab.frames 96=false:=by rfl
theorem fb97:inB tab.frames 97=false:=by rfl
theorem QHv:inB tab.frames 107=false:=by rfl
theorem QGj:inB tab.frames 108=false:=by rfl
theorem fb90:inB tab.frames 90=false:=by rfl
theorem QFf:inB tab.frames 110=false:=by rfl
theorem QFU:inB tab.frames 111=false:=by rfl
theorem QGm:inB tab.frames 112=false:=by rfl
theorem QF0:inB tab.frames 109=false:=by rfl
theorem QGa:inB tab.frames 119=false:=by rfl
theorem QGA:inB tab.frames 120=false:=by rfl
theorem QGt:inB tab.frames 121=false:=by rfl
theorem QG2:inB tab.frames 124=false:=by rfl
theorem QFq:inB tab.frames 125=false:=by rfl
theorem QFJ:inB tab.frames 126=false:=by rfl
theorem QFD:inB tab.frames 127=false:=by rfl
theorem QGl:inB tab.frames 128=false:=by rfl
theorem QF1:inB tab.frames 129=false:=by rfl
theorem QHV:inB tab.frames 130=false:=by rfl
theorem QHQ:inB tab.frames 131=false:=by rfl
theorem ev3 (k:Nat) (x0 x1 x2:AV) (H:Heap):Qav Tryd.prog (Qac tab) (k+1) (.fn 3) [x0,x1,x2] H=QaE H.length (Qas Tryd.prog Tryd.f3.results.toList (Qad Tryd.prog (cxG Tryd.prog (Qac tab) k 3 none) (Tryd.f3.body.getD .skip) (Qao (fr 186 []) 0 [x0,x1,x2]) (H++[.slot,.slot]))):=Qap 186 Tryd.func3 rfl (by decide) rfl
theorem Q8H:Qa5 tab.slots 3 0 2=none:=by rfl
theorem Q4w:Qan tab.fslots 3 1 0=[]:=by rfl
theorem Q7x:Qat tab.keeps 3 1 0=false:=by rfl
theorem QzA:Qan tab.fslots 3 3 1=[]:=by rfl
theorem Q8m:Qat tab.keeps 3 3 1=false:=by rfl
theorem Q6p:Qa5 tab.slots 3 3 5=none:=by rfl
theorem Q1V:Qan tab.fslots 3 4 1=[]:=by rfl
theorem Q7u:Qat tab.keeps 3 4 1=false:=by rfl
theorem Q2P:Qan tab.fslots 3 4 4=[]:=by rfl
theorem Q8b:Qat tab.keeps 3 4 4=false:=by rfl
theorem Q17:Qan tab.fslots 3 6 1=[]:=by rfl
theorem Q9g:Qat tab.keeps 3 6 1=false:=by rfl
theorem Q7G:Qa5 tab.slots 3 6 5=none:=by rfl
theorem Q4G:Qan tab.fslots 3 7 1=[]:=by rfl
theorem Q9o:Qat tab.keeps 3 7 1=false:=by rfl
theorem Q2F:Qan tab.fslots 3 8 1=[]:=by rfl
theorem Q81:Qat tab.keeps 3 8 1=false:=by rfl
theorem Q4j:Qan tab.fslots 3 9 3=[]:=by rfl
theorem Q94:Qat tab.keeps 3 9 3=false:=by rfl
theorem Qv6:Qan tab.fslots 3 14 1=[]:=by rfl
theorem Q3q:Qat tab.keeps 3 14 1=false:=by rfl
theorem Q0V:Qa5 tab.slots 3 15 8=none:=by rfl
theorem Qug:Qan tab.fslots 3 16 1=[]:=by rfl
theorem Q1q:Qat tab.keeps 3 16 1=false:=by rfl
theorem Qtq:Qan tab.fslots 3 16 3=[]:=by rfl
theorem Q1E:Qat tab.keeps 3 16 3=false:=by rfl
theorem Q1x:Qa5 tab.slots 3 16 4=some 0:=by rfl
theorem Q2J:Qa5 tab.slots 3 16 5=some 1:=by rfl
theorem Q2W:Qa5 tab.slots 3 17 0=none:=by rfl
theorem Q15:Qa5 tab.slots 3 18 0=none:=by rfl
theorem Qz9:Qa5 tab.slots 3 21 0=none:=by rfl
theorem Q0T:Qa5 tab.slots 3 23 1=none:=by rfl
theorem Qn5:Qan tab.fslots 3 28 10=[]:=by rfl
theorem Qvj:Qat tab.keeps 3 28 10=false:=by rfl
theorem Qvp:Qan tab.fslots 3 30 1=[]:=by rfl
theorem Q0y:Qat tab.keeps 3 30 1=false:=by rfl
theorem QvK:Qan tab.fslots 3 34 1=[]:=by rfl
theorem Qz8:Qat tab.keeps 3 34 1=false:=by rfl
theorem Qve:Qan tab.fslots 3 35 1=[]:=by rfl
theorem Q2r:Qat tab.keeps 3 35 1=false:=by rfl
theorem Qxi:Qan tab.fslots 3 38 1=[]:=by rfl
theorem Q40:Qat tab.keeps 3 38 1=false:=by rfl
theorem Qt1:Qan tab.fslots 3 25 1=[]:=by rfl
theorem Q1F:Qat tab.keeps 3 25 1=false:=by rfl
theorem Qnx:Qan tab.fslots 3 39 10=[]:=by rfl
theorem Qwp:Qat tab.keeps 3 39 10=false:=by rfl
theorem Qp0:Qan tab.fslots 3 39 19=[]:=by rfl
theorem Qv2:Qat tab.keeps 3 39 19=false:=by rfl
theorem QvU:Qan tab.fslots 3 41 1=[]:=by rfl
theorem Q04:Qat tab.keeps 3 41 1=false:=by rfl
theorem Qw5:Qan tab.fslots 3 42 1=[]:=by rfl
theorem QzZ:Qat tab.keeps 3 42 1=false:=by rfl
theorem Q3Z:Qa5 tab.slots 3 44 0=none:=by rfl
theorem Qso:Qan tab.fslots 3 48 8=[]:=by rfl
theorem Q36:Qat tab.keeps 3 48 8=false:=by rfl
theorem Q65 (cx:Cx) (F:Fr) (H:Heap):Qad Tryd.prog cx QDe F H=Qad Tryd.prog cx (rfAs Tryd.f3 13) F H:=rfl
theorem Q9D (cx:Cx) (F:Fr) (H:Heap):Qad Tryd.prog cx QC1 F H=Qad Tryd.prog cx (rfBd Tryd.f3 13) F H:=rfl
theorem Q7s (cx:Cx) (F:Fr) (H:Heap):Qad Tryd.prog cx Q2h F H=Qad Tryd.prog cx (rfAs Tryd.f3 20) F H:=rfl
theorem Q9p (cx:Cx) (F:Fr) (H:Heap):Qad Tryd.prog cx Q1n F H=Qad Tryd.prog cx (rfBd Tryd.f3 20) F H:=rfl
theorem Q7O (cx:Cx) (F:Fr) (H:Heap):Qad Tryd.prog cx QzM F H=Qad Tryd.prog cx (rfAs Tryd.f3 46) F H:=rfl
theorem Q7e (cx:Cx) (F:Fr) (H:Heap):Qad Tryd.prog cx Q07 F H=Qad Tryd.prog cx (rfBd Tryd.f3 46) F H:=rfl
theorem al4 (H:Heap):Qdt Tryd.prog H 4=some (.ptr H.length 0,H++[.cells 4 [.c (.bool false)]]):=by kernel_rfl
theorem ag4:Qb1 Tryd.prog 4=some false:=by kernel_rfl
theorem sz4:Qb0 Tryd.prog 4=some 1:=by kernel_rfl
theorem al28 (H:Heap):Qdt Tryd.prog H 28=some (.ptr H.length 0,H++[.cells 28 [.c (.slice [] 0 true (some 0))]]):=by kernel_rfl
theorem ag28:Qb1 Tryd.prog 28=some false:=by kernel_rfl
theorem sz28:Qb0 Tryd.prog 28=some 1:=by kernel_rfl
theorem ag25:Qb1 Tryd.prog 25=some true:=by kernel_rfl
theorem sz25:Qb0 Tryd.prog 25=some 4:=by kernel_rfl
theorem QHa (H:Heap) (id off:Nat):QaK Tryd.prog H 25 (.ptr id off)=Qia H[id]? off 4:=by kernel_rfl
theorem QGo (H:Heap) (cells:List IV) (off:Nat):QaK Tryd.prog H 25 (.c (.iptr cells off))=(Qbb cells off 4).map fun l=>.agg (l.map .c):=by kernel_rfl
theorem QFR (H:Heap) (id off ext:Nat):QaK Tryd.prog H 25 (.eptr id off ext)=(rowOf H id ext).bind fun r=>(Qbb r.2 off 4).map fun l=>.agg (l.map .c):=by kernel_rfl
theorem al25 (H:Heap):Qdt Tryd.prog H 25=some (.ptr H.length 0,H++[.cells 25 [.c (.int .i64 0),.c (.int .i64 0),.c (.slice [] 0 true (some 0)),.c (.slice [] 0 true (some 0))]]):=by kernel_rfl
theorem QGi (H:Heap) (f:FuncId) (a b:List AV):binA Tryd.prog H .eql 37 (.clo f a b) (.c .nilfn)=some (.c (.bool false)):=by kernel_rfl
theorem ln26 (cells:List IV) (n:Nat) (nl:Bool) (cap:Option Nat):lenA Tryd.prog 26 (.c (.slice cells n nl cap))=some (.c (.int .i64 n)):=by kernel_rfl
theorem QFC (s n sz:Nat):lenA Tryd.prog 26 (lv s sz n)=some (.c (.int .i64 n)):=by
 unfold lv;split
 ·rename_i h;subst h;kernel_rfl
 ·kernel_rfl
theorem QGV (id off n ext sz:Nat):lenA Tryd.prog 26 (.hsl id off n ext sz)=some (.c (.int .i64 n)):=by kernel_rfl
theorem QCy (x:AV):Qa3 Tryd.prog 25 x 0=QaC x 0:=by kernel_rfl
theorem ag3:Qb1 Tryd.prog 3=some false:=by kernel_rfl
theorem sz3:Qb0 Tryd.prog 3=some 1:=by kernel_rfl
theorem ldp3 (H:Heap) (id off:Nat):QaK Tryd.prog H 3 (.ptr id off)=cellAt H[id]? off:=by kernel_rfl
theorem ldi3 (H:Heap) (cells:List IV) (off:Nat):QaK Tryd.prog H 3 (.c (.iptr cells off))=(cells[off]?).map .c:=by kernel_rfl
theorem lde3 (H:Heap) (id off ext:Nat):QaK Tryd.prog H 3 (.eptr id off ext)=(rowOf H id ext).bind fun r=>(r.2[off]?).map .c:=by kernel_rfl
theorem QC5:Qaw Tryd.f3 16 [0,1,0,7,0,0,63,127]=true:=by kernel_rfl
theorem al3 (H:Heap):Qdt Tryd.prog H 3=some (.ptr H.length 0,H++[.cells 3 [.c (.int .i64 0)]]):=by kernel_rfl
theorem QHF:QbD Tryd.prog 25 []=some (.agg [.c (.int .i64 0),.c (.int .i64 0),.c (.slice [] 0 true (some 0)),.c (.slice [] 0 true (some 0))]):=by kernel_rfl
theorem ldp4 (H:Heap) (id off:Nat):QaK Tryd.prog H 4 (.ptr id off)=cellAt H[id]? off:=by kernel_rfl
theorem ldi4 (H:Heap) (cells:List IV) (off:Nat):QaK Tryd.prog H 4 (.c (.iptr cells off))=(cells[off]?).map .c:=by kernel_rfl
theorem lde4 (H:Heap) (id off ext:Nat):QaK Tryd.prog H 4 (.eptr id off ext)=(rowOf H id ext).bind fun r=>(r.2[off]?).map .c:=by kernel_rfl
theorem QH2 (H:Heap) (id off:Nat):QaK Tryd.prog H 28 (.ptr id off)=cellAt H[id]? off:=by kernel_rfl
theorem QFb (H:Heap) (cells:List IV) (off:Nat):QaK Tryd.prog H 28 (.c (.iptr cells off))=(cells[off]?).map .c:=by kernel_rfl
theorem QFw (H:Heap) (id off ext:Nat):QaK Tryd.prog H 28 (.eptr id off ext)=(rowOf H id ext).bind fun r=>(r.2[off]?).map .c:=by kernel_rfl
theorem ev5 (k:Nat) (H:Heap):Qav Tryd.prog (Qac tab) (k+1) (.fn 5) [] H=QaE H.length (Qas Tryd.prog Tryd.f5.results.toList (Qad Tryd.prog (cxG Tryd.prog (Qac tab) k 5 none) (Tryd.f5.body.getD .skip) (Qao (fr 27 []) 0 []) H)):=by
 have h:=Qap 27 Tryd.func5 rfl (by decide) rfl (P:=Tryd.prog) (h:=Qac tab) (k:=k) (args:=[]) (H:=H)
 rw[show (Qac tab).slots 5=0 from rfl,show (List.replicate 0 AObj.slot)=[] from rfl,List.append_nil] at h
 exact h
theorem Q4s:Qan tab.fslots 5 1 2=[]:=by rfl
theorem QAq:Qat tab.keeps 5 1 2=false:=by rfl
theorem Q7Y:Qa5 tab.slots 5 1 6=none:=by rfl
theorem Q3P (H:Heap) (a0:IV):QaI Tryd.prog H 23 1 [(0,.c a0)]=some (.hsl H.length 0 1 (1 * 1) 1,H++[.row false 3 [a0]]):=by kernel_rfl
theorem Qhm (a0 a1:IV) (v2:AV) (hv2:v2.isCell=true):QbD Tryd.prog 25 [(0,.c a0),(1,.c a1),(3,v2)]=some (.agg [.c a0,.c a1,.c (.slice [] 0 true (some 0)),v2]):=by
 cases v2<;>first | (cases hv2;done) | kernel_rfl
theorem Qnq (a0 a1 a2:IV):QbD Tryd.prog 25 [(0,.c a0),(1,.c a1),(3,.c a2)]=some (.agg [.c a0,.c a1,.c (.slice [] 0 true (some 0)),.c a2]):=by kernel_rfl
theorem QCr (x:AV):Qa3 Tryd.prog 25 x 1=QaC x 1:=by kernel_rfl
theorem QCg (x:AV):Qa3 Tryd.prog 25 x 3=QaC x 3:=by kernel_rfl
theorem ag23:Qb1 Tryd.prog 23=some false:=by kernel_rfl
theorem sz23:Qb0 Tryd.prog 23=some 1:=by kernel_rfl
theorem QGY (H:Heap) (id off:Nat):QaK Tryd.prog H 23 (.ptr id off)=cellAt H[id]? off:=by kernel_rfl
theorem QFm (H:Heap) (cells:List IV) (off:Nat):QaK Tryd.prog H 23 (.c (.iptr cells off))=(cells[off]?).map .c:=by kernel_rfl
theorem QFG (H:Heap) (id off ext:Nat):QaK Tryd.prog H 23 (.eptr id off ext)=(rowOf H id ext).bind fun r=>(r.2[off]?).map .c:=by kernel_rfl
theorem ln23 (cells:List IV) (n:Nat) (nl:Bool) (cap:Option Nat):lenA Tryd.prog 23 (.c (.slice cells n nl cap))=some (.c (.int .i64 n)):=by kernel_rfl
theorem QHk (s n sz:Nat):lenA Tryd.prog 23 (lv s sz n)=some (.c (.int .i64 n)):=by
 unfold lv;split
 ·rename_i h;subst h;kernel_rfl
 ·kernel_rfl
theorem QHe (id off n ext sz:Nat):lenA Tryd.prog 23 (.hsl id off n ext sz)=some (.c (.int .i64 n)):=by kernel_rfl
theorem ev6 (k:Nat) (x0:AV) (H:Heap):Qav Tryd.prog (Qac tab) (k+1) (.fn 6) [x0] H=QaE H.length (Qas Tryd.prog Tryd.f6.results.toList (Qad Tryd.prog (cxG Tryd.prog (Qac tab) k 6 none) (Tryd.f6.body.getD .skip) (Qao (fr 58 []) 0 [x0]) (H++[.slot,.slot]))):=Qap 58 Tryd.func6 rfl (by decide) rfl
theorem Qsq:Qan tab.fslots 6 11 8=[]:=by rfl
theorem Q3j:Qat tab.keeps 6 11 8=false:=by rfl
theorem Qw0:Qa5 tab.slots 6 11 10=some 0:=by rfl
theorem Q3U:Qa5 tab.slots 6 12 3=some 1:=by rfl
theorem ag44:Qb1 Tryd.prog 44=some false:=by kernel_rfl
theorem sz44:Qb0 Tryd.prog 44=some 1:=by kernel_rfl
theorem ia26 (H:Heap) (cells:List IV) (len:Nat) (nl:Bool) (cap:Option Nat) (k:IntKind) (i:Int):Qa9 Tryd.prog H 26 (.c (.slice cells len nl cap)) (.c (.int k i))=if 0≤i∧i<len then some (.c (.iptr cells (i.toNat * 1))) else none:=by kernel_rfl
theorem QGe (H:Heap) (id off len ext sz:Nat) (k:IntKind) (i:Int):Qa9 Tryd.prog H 26 (.hsl id off len ext sz) (.c (.int k i))=if 0≤i∧i<len∧sz=1∧(rowOf H id ext).isSome=true then some (.eptr id (off+i.toNat * 1) ext) else none:=by kernel_rfl
theorem QEP (H:Heap) (id off:Nat):QaK Tryd.prog H 44 (.ptr id off)=cellAt H[id]? off:=by kernel_rfl
theorem QEW (H:Heap) (cells:List IV) (off:Nat):QaK Tryd.prog H 44 (.c (.iptr cells off))=(cells[off]?).map .c:=by kernel_rfl
theorem QHN (H:Heap) (id off ext:Nat):QaK Tryd.prog H 44 (.eptr id off ext)=(rowOf H id ext).bind fun r=>(r.2[off]?).map .c:=by kernel_rfl
theorem ln44 (cells:List IV) (n:Nat) (nl:Bool) (cap:Option Nat):lenA Tryd.prog 44 (.c (.slice cells n nl cap))=some (.c (.int .i64 n)):=by kernel_rfl
theorem QEC (s n sz:Nat):lenA Tryd.prog 44 (lv s sz n)=some (.c (.int .i64 n)):=by
 unfold lv;split
 ·rename_i h;subst h;kernel_rfl
 ·kernel_rfl
theorem QFP (id off n ext sz:Nat):lenA Tryd.prog 44 (.hsl id off n ext sz)=some (.c (.int .i64 n)):=by kernel_rfl
theorem QE1:Qaw Tryd.f6 5 [0,0,3,7,15,0,32,96,224,511,1023,2047,2047,8191,16383,32767,65535,131071]=true:=by kernel_rfl
theorem Q6s (H:Heap):QaI Tryd.prog H 55 0 []=some (.hsl H.length 0 0 (0 * 2) 2,H++[.row false 58 []]):=by kernel_rfl
theorem ag2:Qb1 Tryd.prog 2=some false:=by kernel_rfl
theorem sz2:Qb0 Tryd.prog 2=some 1:=by kernel_rfl
theorem ia44 (H:Heap) (cells:List IV) (len:Nat) (nl:Bool) (cap:Option Nat) (k:IntKind) (i:Int):Qa9 Tryd.prog H 44 (.c (.slice cells len nl cap)) (.c (.int k i))=if 0≤i∧i<len then some (.c (.iptr cells (i.toNat * 1))) else none:=by kernel_rfl
theorem QGx (H:Heap) (id off len ext sz:Nat) (k:IntKind) (i:Int):Qa9 Tryd.prog H 44 (.hsl id off len ext sz) (.c (.int k i))=if 0≤i∧i<len∧sz=1∧(rowOf H id ext).isSome=true then some (.eptr id (off+i.toNat * 1) ext) else none:=by kernel_rfl
theorem ldp2 (H:Heap) (id off:Nat):QaK Tryd.prog H 2 (.ptr id off)=cellAt H[id]? off:=by kernel_rfl
theorem ldi2 (H:Heap) (cells:List IV) (off:Nat):QaK Tryd.prog H 2 (.c (.iptr cells off))=(cells[off]?).map .c:=by kernel_rfl
theorem lde2 (H:Heap) (id off ext:Nat):QaK Tryd.prog H 2 (.eptr id off ext)=(rowOf H id ext).bind fun r=>(r.2[off]?).map .c:=by kernel_rfl
theorem Q4q (H:Heap) (a0 a1:IV):QaI Tryd.prog H 55 1 [(0,.agg [.c a0,.c a1])]=some (.hsl H.length 0 1 (1 * 2) 2,H++[.row false 58 [a0,a1]]):=by kernel_rfl
theorem ap55 (H:Heap) (sl:Option Nat) (s x:AV):Qed Tryd.prog H sl 55 s x=apO 58 2 32 sl s H (Qj7 H 2 x):=by kernel_rfl
theorem Qrw (H:Heap) (a0:IV):QaI Tryd.prog H 28 1 [(0,.c a0)]=some (.hsl H.length 0 1 (1 * 1) 1,H++[.row false 55 [a0]]):=by kernel_rfl
theorem ap28 (H:Heap) (sl:Option Nat) (s x:AV):Qed Tryd.prog H sl 28 s x=apO 55 1 24 sl s H (Qj7 H 1 x):=by kernel_rfl
theorem ev7 (k:Nat) (x0:AV) (H:Heap):Qav Tryd.prog (Qac tab) (k+1) (.fn 7) [x0] H=QaE H.length (Qas Tryd.prog Tryd.f7.results.toList (Qad Tryd.prog (cxG Tryd.prog (Qac tab) k 7 none) (Tryd.f7.body.getD .skip) (Qao (fr 13 []) 0 [x0]) H)):=by
 have h:=Qap 13 Tryd.func7 rfl (by decide) rfl (P:=Tryd.prog) (h:=Qac tab) (k:=k) (args:=[x0]) (H:=H)
 rw[show (Qac tab).slots 7=0 from rfl,show (List.replicate 0 AObj.slot)=[] from rfl,List.append_nil] at h
 exact h
theorem QBI (x:AV):Qa3 Tryd.prog 25 x 2=QaC x 2:=by kernel_rfl
theorem ag22:Qb1 Tryd.prog 22=some false:=by kernel_rfl
theorem sz22:Qb0 Tryd.prog 22=some 1:=by kernel_rfl
theorem QH1 (H:Heap) (id off:Nat):QaK Tryd.prog H 22 (.ptr id off)=cellAt H[id]? off:=by kernel_rfl
theorem QHI (H:Heap) (cells:List IV) (off:Nat):QaK Tryd.prog H 22 (.c (.iptr cells off))=(cells[off]?).map .c:=by kernel_rfl
theorem QHC (H:Heap) (id off ext:Nat):QaK Tryd.prog H 22 (.eptr id off ext)=(rowOf H id ext).bind fun r=>(r.2[off]?).map .c:=by kernel_rfl
theorem ln22 (cells:List IV) (n:Nat) (nl:Bool) (cap:Option Nat):lenA Tryd.prog 22 (.c (.slice cells n nl cap))=some (.c (.int .i64 n)):=by kernel_rfl
theorem QGN (s n sz:Nat):lenA Tryd.prog 22 (lv s sz n)=some (.c (.int .i64 n)):=by
 unfold lv;split
 ·rename_i h;subst h;kernel_rfl
 ·kernel_rfl
theorem QHx (id off n ext sz:Nat):lenA Tryd.prog 22 (.hsl id off n ext sz)=some (.c (.int .i64 n)):=by kernel_rfl
theorem ev8 (k:Nat) (x0:AV) (H:Heap):Qav Tryd.prog (Qac tab) (k+1) (.fn 8) [x0] H=QaE H.length (Qas Tryd.prog Tryd.f8.results.toList (Qad Tryd.prog (cxG Tryd.prog (Qac tab) k 8 none) (Tryd.f8.body.getD .skip) (Qao (fr 22 []) 0 [x0]) H)):=by
 have h:=Qap 22 Tryd.func8 rfl (by decide) rfl (P:=Tryd.prog) (h:=Qac tab) (k:=k) (args:=[x0]) (H:=H)
 rw[show (Qac tab).slots 8=0 from rfl,show (List.replicate 0 AObj.slot)=[] from rfl,List.append_nil] at h
 exact h
theorem ag61:Qb1 Tryd.prog 61=some true:=by kernel_rfl
theorem sz61:Qb0 Tryd.prog 61=some 5:=by kernel_rfl
theorem ia22 (H:Heap) (cells:List IV) (len:Nat) (nl:Bool) (cap:Option Nat) (k:IntKind) (i:Int):Qa9 Tryd.prog H 22 (.c (.slice cells len nl cap)) (.c (.int k i))=if 0≤i∧i<len then some (.c (.iptr cells (i.toNat * 5))) else none:=by kernel_rfl
theorem QHT (H:Heap) (id off len ext sz:Nat) (k:IntKind) (i:Int):Qa9 Tryd.prog H 22 (.hsl id off len ext sz) (.c (.int k i))=if 0≤i∧i<len∧sz=5∧(rowOf H id ext).isSome=true then some (.eptr id (off+i.toNat * 5) ext) else none:=by kernel_rfl
theorem QCY (x:AV):Qa3 Tryd.prog 61 x 0=QaC x 0:=by kernel_rfl
theorem ev9 (k:Nat) (x0:AV) (H:Heap):Qav Tryd.prog (Qac tab) (k+1) (.fn 9) [x0] H=QaE H.length (Qas Tryd.prog Tryd.f9.results.toList (Qad Tryd.prog (cxG Tryd.prog (Qac tab) k 9 none) (Tryd.f9.body.getD .skip) (Qao (fr 24 []) 0 [x0]) H)):=by
 have h:=Qap 24 Tryd.func9 rfl (by decide) rfl (P:=Tryd.prog) (h:=Qac tab) (k:=k) (args:=[x0]) (H:=H)
 rw[show (Qac tab).slots 9=0 from rfl,show (List.replicate 0 AObj.slot)=[] from rfl,List.append_nil] at h
 exact h
theorem Q6D:Qa5 tab.slots 9 0 1=none:=by rfl
theorem Q0E:Qan tab.fslots 9 1 1=[]:=by rfl
theorem Q8N:Qat tab.keeps 9 1 1=false:=by rfl
theorem Q9y:Qa5 tab.slots 9 4 0=none:=by rfl
theorem Q1A:Qan tab.fslots 9 5 1=[]:=by rfl
theorem Q7S:Qat tab.keeps 9 5 1=false:=by rfl
theorem Q8f:Qa5 tab.slots 9 6 0=none:=by rfl
theorem QCb (cx:Cx) (F:Fr) (H:Heap):Qad Tryd.prog cx QDY F H=Qad Tryd.prog cx (rfAs Tryd.f9 6) F H:=rfl
theorem QB7 (cx:Cx) (F:Fr) (H:Heap):Qad Tryd.prog cx QDR F H=Qad Tryd.prog cx (rfBd Tryd.f9 6) F H:=rfl
theorem ev10 (k:Nat) (x0:AV) (H:Heap):Qav Tryd.prog (Qac tab) (k+1) (.fn 10) [x0] H=QaE H.length (Qas Tryd.prog Tryd.f10.results.toList (Qad Tryd.prog (cxG Tryd.prog (Qac tab) k 10 none) (Tryd.f10.body.getD .skip) (Qao (fr 4 []) 0 [x0]) H)):=by
 have h:=Qap 4 Tryd.func10 rfl (by decide) rfl (P:=Tryd.prog) (h:=Qac tab) (k:=k) (args:=[x0]) (H:=H)
 rw[show (Qac tab).slots 10=0 from rfl,show (List.replicate 0 AObj.slot)=[] from rfl,List.append_nil] at h
 exact h
theorem ev11 (k:Nat) (x0:AV) (H:Heap):Qav Tryd.prog (Qac tab) (k+1) (.fn 11) [x0] H=QaE H.length (Qas Tryd.prog Tryd.f11.results.toList (Qad Tryd.prog (cxG Tryd.prog (Qac tab) k 11 none) (Tryd.f11.body.getD .skip) (Qao (fr 12 []) 0 [x0]) H)):=by
 have h:=Qap 12 Tryd.func11 rfl (by decide) rfl (P:=Tryd.prog) (h:=Qac tab) (k:=k) (args:=[x0]) (H:=H)
 rw[show (Qac tab).slots 11=0 from rfl,show (List.replicate 0 AObj.slot)=[] from rfl,List.append_nil] at h
 exact h
theorem QtF:Qan tab.fslots 11 1 1=[]:=by rfl
theorem Q1K:Qat tab.keeps 11 1 1=false:=by rfl
theorem ev12 (k:Nat) (x0:AV) (H:Heap):Qav Tryd.prog (Qac tab) (k+1) (.fn 12) [x0] H=QaE H.length (Qas Tryd.prog Tryd.f12.results.toList (Qad Tryd.prog (cxG Tryd.prog (Qac tab) k 12 none) (Tryd.f12.body.getD .skip) (Qao (fr 23 []) 0 [x0]) H)):=by
 have h:=Qap 23 Tryd.func12 rfl (by decide) rfl (P:=Tryd.prog) (h:=Qac tab) (k:=k) (args:=[x0]) (H:=H)
 rw[show (Qac tab).slots 12=0 from rfl,show (List.replicate 0 AObj.slot)=[] from rfl,List.append_nil] at h
 exact h
theorem ev13 (k:Nat) (x0:AV) (H:Heap):Qav Tryd.prog (Qac tab) (k+1) (.fn 13) [x0] H=QaE H.length (Qas Tryd.prog Tryd.f13.results.toList (Qad Tryd.prog (cxG Tryd.prog (Qac tab) k 13 none) (Tryd.f13.body.getD .skip) (Qao (fr 22 []) 0 [x0]) (H++[.slot,.slot]))):=Qap 22 Tryd.func13 rfl (by decide) rfl
theorem Q0I:Qa5 tab.slots 13 0 1=none:=by rfl
theorem Q4d:Qa5 tab.slots 13 1 5=none:=by rfl
theorem Q4n:Qa5 tab.slots 13 2 4=some 0:=by rfl
theorem Q1N:Qa5 tab.slots 13 3 4=some 1:=by rfl
theorem Q3S (a0 a1:IV):QbD Tryd.prog 25 [(0,.c a0),(1,.c a1)]=some (.agg [.c a0,.c a1,.c (.slice [] 0 true (some 0)),.c (.slice [] 0 true (some 0))]):=by kernel_rfl
theorem ap22 (H:Heap) (sl:Option Nat) (s x:AV):Qed Tryd.prog H sl 22 s x=apO 61 5 40 sl s H (Qj7 H 5 x):=by kernel_rfl
theorem ap23 (H:Heap) (sl:Option Nat) (s x:AV):Qed Tryd.prog H sl 23 s x=apO 3 1 8 sl s H (Qj7 H 1 x):=by kernel_rfl
theorem ev14 (k:Nat) (x0 x1:AV) (H:Heap):Qav Tryd.prog (Qac tab) (k+1) (.fn 14) [x0,x1] H=QaE H.length (Qas Tryd.prog Tryd.f14.results.toList (Qad Tryd.prog (cxG Tryd.prog (Qac tab) k 14 none) (Tryd.f14.body.getD .skip) (Qao (fr 73 []) 0 [x0,x1]) H)):=by
 have h:=Qap 73 Tryd.func14 rfl (by decide) rfl (P:=Tryd.prog) (h:=Qac tab) (k:=k) (args:=[x0,x1]) (H:=H)
 rw[show (Qac tab).slots 14=0 from rfl,show (List.replicate 0 AObj.slot)=[] from rfl,List.append_nil] at h
 exact h
theorem QHn (H:Heap) (id off:Nat):QaK Tryd.prog H 61 (.ptr id off)=Qia H[id]? off 5:=by kernel_rfl
theorem QG0 (H:Heap) (cells:List IV) (off:Nat):QaK Tryd.prog H 61 (.c (.iptr cells off))=(Qbb cells off 5).map fun l=>.agg (l.map .c):=by kernel_rfl
theorem QHD (H:Heap) (id off ext:Nat):QaK Tryd.prog H 61 (.eptr id off ext)=(rowOf H id ext).bind fun r=>(Qbb r.2 off 5).map fun l=>.agg (l.map .c):=by kernel_rfl
theorem ne61 (H:Heap) (a0 b0:Int) (a1 b1:Int) (a2 b2:Int) (a3 b3:Int) (a4 b4:Int):binA Tryd.prog H .neq 61 (.agg [.c (.int .i64 a0),.c (.int .i64 a1),.c (.int .i64 a2),.c (.int .i64 a3),.c (.int .i64 a4)]) (.agg [.c (.int .i64 b0),.c (.int .i64 b1),.c (.int .i64 b2),.c (.int .i64 b3),.c (.int .i64 b4)])=some (.c (.bool (!((a0 == b0)&&((a1 == b1)&&((a2 == b2)&&((a3 == b3)&&((a4 == b4)&&true)))))))):=by kernel_rfl
theorem QCW:Qaw Tryd.f14 6 [0,1,0,7,15,0,32,0,224,480,1023]=true:=by kernel_rfl
theorem ia23 (H:Heap) (cells:List IV) (len:Nat) (nl:Bool) (cap:Option Nat) (k:IntKind) (i:Int):Qa9 Tryd.prog H 23 (.c (.slice cells len nl cap)) (.c (.int k i))=if 0≤i∧i<len then some (.c (.iptr cells (i.toNat * 1))) else none:=by kernel_rfl
theorem QHz (H:Heap) (id off len ext sz:Nat) (k:IntKind) (i:Int):Qa9 Tryd.prog H 23 (.hsl id off len ext sz) (.c (.int k i))=if 0≤i∧i<len∧sz=1∧(rowOf H id ext).isSome=true then some (.eptr id (off+i.toNat * 1) ext) else none:=by kernel_rfl
theorem Q7a:Qaw Tryd.f14 11 [0,1,0,7,15,0,32,0,224,480,1023]=true:=by kernel_rfl
theorem ev15 (k:Nat) (x0:AV) (H:Heap):Qav Tryd.prog (Qac tab) (k+1) (.fn 15) [x0] H=QaE H.length (Qas Tryd.prog Tryd.f15.results.toList (Qad Tryd.prog (cxG Tryd.prog (Qac tab) k 15 none) (Tryd.f15.body.getD .skip) (Qao (fr 208 []) 0 [x0]) (H++[.slot,.slot,.slot]))):=Qap 208 Tryd.func15 rfl (by decide) rfl
theorem Q3R:Qa5 tab.slots 15 0 1=none:=by rfl
theorem QvE:Qan tab.fslots 15 1 1=[]:=by rfl
theorem Q0D:Qat tab.keeps 15 1 1=false:=by rfl
theorem QrY:Qan tab.fslots 15 8 9=[2]:=by rfl
theorem QzH:Qat tab.keeps 15 8 9=false:=by rfl
theorem Qks:Qan tab.fslots 15 11 11=[]:=by rfl
theorem QoX:Qat tab.keeps 15 11 11=false:=by rfl
theorem Qqv:Qa5 tab.slots 15 12 11=none:=by rfl
theorem Qti:Qa5 tab.slots 15 15 3=none:=by rfl
theorem Qq6:Qan tab.fslots 15 17 1=[]:=by rfl
theorem Quy:Qat tab.keeps 15 17 1=false:=by rfl
theorem Qpd:Qan tab.fslots 15 27 8=[]:=by rfl
theorem QxD:Qat tab.keeps 15 27 8=false:=by rfl
theorem Qs4:Qa5 tab.slots 15 28 4=some 0:=by rfl
theorem Quo:Qa5 tab.slots 15 34 9=some 1:=by rfl
theorem QBJ (a0:IV):QbD Tryd.prog 75 [(0,.c a0)]=some (.agg [.c a0,.c (.slice [] 0 true (some 0))]):=by kernel_rfl
theorem QCK (x:AV):Qa3 Tryd.prog 78 x 6=QaC x 9:=by kernel_rfl
theorem QD0:Qaw Tryd.f15 10 [0,1,3,7,0,16,63,127,255]=true:=by kernel_rfl
theorem QEg:Qaw Tryd.f15 11 [0,0,2,0,8,24,56,0,128,504,1016,2047]=true:=by kernel_rfl
theorem QCT (x:AV):Qa3 Tryd.prog 75 x 1=QaC x 1:=by kernel_rfl
theorem ag73:Qb1 Tryd.prog 73=some false:=by kernel_rfl
theorem sz73:Qb0 Tryd.prog 73=some 1:=by kernel_rfl
theorem QF8 (H:Heap) (id off:Nat):QaK Tryd.prog H 73 (.ptr id off)=cellAt H[id]? off:=by kernel_rfl
theorem QG5 (H:Heap) (cells:List IV) (off:Nat):QaK Tryd.prog H 73 (.c (.iptr cells off))=(cells[off]?).map .c:=by kernel_rfl
theorem QFE (H:Heap) (id off ext:Nat):QaK Tryd.prog H 73 (.eptr id off ext)=(rowOf H id ext).bind fun r=>(r.2[off]?).map .c:=by kernel_rfl
theorem ln73 (cells:List IV) (n:Nat) (nl:Bool) (cap:Option Nat):lenA Tryd.prog 73 (.c (.slice cells n nl cap))=some (.c (.int .i64 n)):=by kernel_rfl
theorem QHS (s n sz:Nat):lenA Tryd.prog 73 (lv s sz n)=some (.c (.int .i64 n)):=by
 unfold lv;split
 ·rename_i h;subst h;kernel_rfl
 ·kernel_rfl
theorem QGw (id off n ext sz:Nat):lenA Tryd.prog 73 (.hsl id off n ext sz)=some (.c (.int .i64 n)):=by kernel_rfl
theorem Q62:Qaw Tryd.f15 12 [0,1,0,4,0,16,48,112,240,508,1023,0,4095]=true:=by kernel_rfl
theorem al61 (H:Heap):Qdt Tryd.prog H 61=some (.ptr H.length 0,H++[.cells 61 [.c (.int .i64 0),.c (.int .i64 0),.c (.int .i64 0),.c (.int .i64 0),.c (.int .i64 0)]]):=by kernel_rfl
theorem QC2 (x:AV):Qa3 Tryd.prog 78 x 1=QaC x 4:=by kernel_rfl
theorem ia73 (H:Heap) (cells:List IV) (len:Nat) (nl:Bool) (cap:Option Nat) (k:IntKind) (i:Int):Qa9 Tryd.prog H 73 (.c (.slice cells len nl cap)) (.c (.int k i))=if 0≤i∧i<len then some (.c (.iptr cells (i.toNat * 1))) else none:=by kernel_rfl
theorem QHc (H:Heap) (id off len ext sz:Nat) (k:IntKind) (i:Int):Qa9 Tryd.prog H 73 (.hsl id off len ext sz) (.c (.int k i))=if 0≤i∧i<len∧sz=1∧(rowOf H id ext).isSome=true then some (.eptr id (off+i.toNat * 1) ext) else none:=by kernel_rfl
theorem QCZ (x:AV):Qa3 Tryd.prog 75 x 0=QaC x 0:=by kernel_rfl
theorem ag72:Qb1 Tryd.prog 72=some false:=by kernel_rfl
theorem sz72:Qb0 Tryd.prog 72=some 1:=by kernel_rfl
theorem QGq (H:Heap) (id off:Nat):QaK Tryd.prog H 72 (.ptr id off)=cellAt H[id]? off:=by kernel_rfl
theorem QHA (H:Heap) (cells:List IV) (off:Nat):QaK Tryd.prog H 72 (.c (.iptr cells off))=(cells[off]?).map .c:=by kernel_rfl
theorem QG7 (H:Heap) (id off ext:Nat):QaK Tryd.prog H 72 (.eptr id off ext)=(rowOf H id ext).bind fun r=>(r.2[off]?).map .c:=by kernel_rfl
theorem QCI (x:AV):Qa3 Tryd.prog 78 x 2=QaC x 5:=by kernel_rfl
theorem QBD (x:AV):Qa3 Tryd.prog 61 x 2=QaC x 2:=by kernel_rfl
theorem QDX:Qaw Tryd.f15 18 [0,1,3,7,0,16,48,112,0,496,1008,2047,4095,8191]=true:=by kernel_rfl
theorem QCX (x:AV):Qa3 Tryd.prog 78 x 3=QaC x 6:=by kernel_rfl
theorem QCi (x:AV):Qa3 Tryd.prog 61 x 3=QaC x 3:=by kernel_rfl
theorem QEr:Qaw Tryd.f15 20 [0,1,3,7,0,16,48,112,0,496,1008,2047,4095,8191]=true:=by kernel_rfl
theorem Q43 (a0 a1:IV):QbD Tryd.prog 80 [(0,.c a0),(1,.c a1)]=some (.agg [.c a0,.c a1]):=by kernel_rfl
theorem Q8g:Qaw Tryd.f15 21 [0,1,3,7,0,31,63,0,128,384,896,0,3968,8064,16383,0]=true:=by kernel_rfl
theorem QEe:Qaw Tryd.f15 25 [0,1,3,7,0,16,48,112,0,496,1023,2047]=true:=by kernel_rfl
theorem QDl (x:AV):Qa3 Tryd.prog 78 x 4=QaC x 7:=by kernel_rfl
theorem QCk (x:AV):Qa3 Tryd.prog 61 x 1=QaC x 1:=by kernel_rfl
theorem Q0N (H:Heap) (a0 a1 a2 a3 a4:IV):QaI Tryd.prog H 22 1 [(0,.agg [.c a0,.c a1,.c a2,.c a3,.c a4])]=some (.hsl H.length 0 1 (1 * 5) 5,H++[.row false 61 [a0,a1,a2,a3,a4]]):=by kernel_rfl
theorem QBX (x:AV):Qa3 Tryd.prog 78 x 5=QaC x 8:=by kernel_rfl
theorem QD2:Qaw Tryd.f15 34 [0,1,0,4,12,28,0,124,252,511,1023,2047]=true:=by kernel_rfl
theorem ev16 (k:Nat) (x0:AV) (H:Heap):Qav Tryd.prog (Qac tab) (k+1) (.fn 16) [x0] H=QaE H.length (Qas Tryd.prog Tryd.f16.results.toList (Qad Tryd.prog (cxG Tryd.prog (Qac tab) k 16 none) (Tryd.f16.body.getD .skip) (Qao (fr 76 []) 0 [x0]) (H++[.slot]))):=Qap 76 Tryd.func16 rfl (by decide) rfl
theorem Q3N:Qa5 tab.slots 16 0 1=none:=by rfl
theorem Qxm:Qan tab.fslots 16 1 1=[]:=by rfl
theorem Q0k:Qat tab.keeps 16 1 1=false:=by rfl
theorem Q4i:Qa5 tab.slots 16 7 2=none:=by rfl
theorem Qx5:Qan tab.fslots 16 8 1=[]:=by rfl
theorem Q3E:Qat tab.keeps 16 8 1=false:=by rfl
theorem Q3u:Qa5 tab.slots 16 8 2=none:=by rfl
theorem QpR:Qan tab.fslots 16 11 7=[]:=by rfl
theorem Qsz:Qat tab.keeps 16 11 7=false:=by rfl
theorem Qn1:Qa5 tab.slots 16 11 11=none:=by rfl
theorem Qsc:Qa5 tab.slots 16 15 3=some 0:=by rfl
theorem QnT:Qan tab.fslots 16 17 7=[]:=by rfl
theorem Qxv:Qat tab.keeps 16 17 7=false:=by rfl
theorem Qr7:Qaw Tryd.f16 11 [0,0,2,6,15,31,0,127,255,511,511,0,3071,8191]=true:=by kernel_rfl
theorem sl22 (H:Heap) (x:AV) (lo hi:Option AV):Qfo Tryd.prog H 22 x lo hi none=QeM H 5 x lo hi:=by kernel_rfl
theorem Qfs (a0 a1 a3:IV) (v2:AV) (hv2:v2.isCell=true):QbD Tryd.prog 25 [(0,.c a0),(1,.c a1),(2,v2),(3,.c a3)]=some (.agg [.c a0,.c a1,v2,.c a3]):=by
 cases v2<;>first | (cases hv2;done) | kernel_rfl
theorem Qft (a0 a1 a2:IV) (v3:AV) (hv3:v3.isCell=true):QbD Tryd.prog 25 [(0,.c a0),(1,.c a1),(2,.c a2),(3,v3)]=some (.agg [.c a0,.c a1,.c a2,v3]):=by
 cases v3<;>first | (cases hv3;done) | kernel_rfl
theorem Qfh (a0 a1:IV) (v2 v3:AV) (hv2:v2.isCell=true) (hv3:v3.isCell=true):QbD Tryd.prog 25 [(0,.c a0),(1,.c a1),(2,v2),(3,v3)]=some (.agg [.c a0,.c a1,v2,v3]):=by
 cases v2<;>cases v3<;>first | (cases hv2;done) | (cases hv3;done) | kernel_rfl
theorem Qjr (a0 a1 a2 a3:IV):QbD Tryd.prog 25 [(0,.c a0),(1,.c a1),(2,.c a2),(3,.c a3)]=some (.agg [.c a0,.c a1,.c a2,.c a3]):=by kernel_rfl
theorem Q6F:Qaw Tryd.f16 17 [0,1,0,4,0,0,32,96,255,511,1023]=true:=by kernel_rfl
theorem ev17 (k:Nat) (x0:AV) (H:Heap):Qav Tryd.prog (Qac tab) (k+1) (.fn 17) [x0] H=QaE H.length (Qas Tryd.prog Tryd.f17.results.toList (Qad Tryd.prog (cxG Tryd.prog (Qac tab) k 17 none) (Tryd.f17.body.getD .skip) (Qao (fr 106 []) 0 [x0]) (H++[.slot,.slot]))):=Qap 106 Tryd.func17 rfl (by decide) rfl
theorem Q18:Qa5 tab.slots 17 0 1=none:=by rfl
theorem QtX:Qan tab.fslots 17 1 1=[]:=by rfl
theorem Q1H:Qat tab.keeps 17 1 1=false:=by rfl
theorem Quh:Qan tab.fslots 17 4 1=[]:=by rfl
theorem Q1u:Qat tab.keeps 17 4 1=false:=by rfl
theorem Q0m:Qa5 tab.slots 17 5 5=none:=by rfl
theorem Q1R:Qa5 tab.slots 17 8 3=none:=by rfl
theorem Qw8:Qan tab.fslots 17 9 3=[]:=by rfl
theorem Q1y:Qat tab.keeps 17 9 3=false:=by rfl
theorem QpS:Qan tab.fslots 17 10 2=[]:=by rfl
theorem Qs2:Qat tab.keeps 17 10 2=false:=by rfl
theorem Qof:Qan tab.fslots 17 12 2=[]:=by rfl
theorem Qwt:Qat tab.keeps 17 12 2=false:=by rfl
theorem Qs7:Qa5 tab.slots 17 15 4=some 0:=by rfl
theorem Qkt:Qan tab.fslots 17 21 10=[]:=by rfl
theorem QpQ:Qat tab.keeps 17 21 10=false:=by rfl
theorem Qon:Qa5 tab.slots 17 21 12=some 1:=by rfl
theorem QCQ (x:AV):Qa3 Tryd.prog 92 x 0=QaC x 0:=by kernel_rfl
theorem Q6y:Qaw Tryd.f17 11 [0,1,3,7,0,16,63,127,0,511]=true:=by kernel_rfl
theorem QoE (a0 a1 a2:IV):QbD Tryd.prog 61 [(0,.c a0),(1,.c a1),(2,.c a2)]=some (.agg [.c a0,.c a1,.c a2,.c (.int .i64 0),.c (.int .i64 0)]):=by kernel_rfl
theorem Q6H:Qaw Tryd.f17 16 [0,1,3,7,0,16,0,127,255]=true:=by kernel_rfl
theorem QEb:Qaw Tryd.f17 21 [0,1,0,0,8,24,56,0,248,504,1020,2044,4095,8191,16383]=true:=by kernel_rfl
theorem ev18 (k:Nat) (x0:AV) (H:Heap):Qav Tryd.prog (Qac tab) (k+1) (.fn 18) [x0] H=QaE H.length (Qas Tryd.prog Tryd.f18.results.toList (Qad Tryd.prog (cxG Tryd.prog (Qac tab) k 18 none) (Tryd.f18.body.getD .skip) (Qao (fr 54 []) 0 [x0]) (H++[.slot]))):=Qap 54 Tryd.func18 rfl (by decide) rfl
theorem Q1O:Qa5 tab.slots 18 0 1=none:=by rfl
theorem QwW:Qan tab.fslots 18 1 1=[]:=by rfl
theorem Q0C:Qat tab.keeps 18 1 1=false:=by rfl
theorem Qwa:Qan tab.fslots 18 5 1=[]:=by rfl
theorem QzT:Qat tab.keeps 18 5 1=false:=by rfl
theorem QwA:Qan tab.fslots 18 8 7=[]:=by rfl
theorem Q2w:Qat tab.keeps 18 8 7=false:=by rfl
theorem Q2Y:Qa5 tab.slots 18 9 7=some 0:=by rfl
theorem Qo9:Qan tab.fslots 18 11 7=[]:=by rfl
theorem Qsd:rawB tab.keeps 18 11 7=false:=by rfl
theorem QsS:Qat tab.keeps 18 11 7=true:=by rfl
theorem QDU:Qaw Tryd.f18 11 [0,1,0,4,0,0,32,96,255,511,1023]=true:=by kernel_rfl
theorem ev19 (k:Nat) (x0 x1 x2:AV) (H:Heap):Qav Tryd.prog (Qac tab) (k+1) (.fn 19) [x0,x1,x2] H=QaE H.length (Qas Tryd.prog Tryd.f19.results.toList (Qad Tryd.prog (cxG Tryd.prog (Qac tab) k 19 none) (Tryd.f19.body.getD .skip) (Qao (fr 76 []) 0 [x0,x1,x2]) H)):=by
 have h:=Qap 76 Tryd.func19 rfl (by decide) rfl (P:=Tryd.prog) (h:=Qac tab) (k:=k) (args:=[x0,x1,x2]) (H:=H)
 rw[show (Qac tab).slots 19=0 from rfl,show (List.replicate 0 AObj.slot)=[] from rfl,List.append_nil] at h
 exact h
theorem Qwo:Qan tab.fslots 19 1 1=[]:=by rfl
theorem Q45:Qat tab.keeps 19 1 1=false:=by rfl
theorem Qsh:Qan tab.fslots 19 4 2=[]:=by rfl
theorem Q2x:Qat tab.keeps 19 4 2=false:=by rfl
theorem Qwg:Qan tab.fslots 19 7 2=[]:=by rfl
theorem Q0Z:Qat tab.keeps 19 7 2=false:=by rfl
theorem QoR:Qan tab.fslots 19 13 8=[]:=by rfl
theorem Qsu:Qat tab.keeps 19 13 8=false:=by rfl
theorem ln28 (cells:List IV) (n:Nat) (nl:Bool) (cap:Option Nat):lenA Tryd.prog 28 (.c (.slice cells n nl cap))=some (.c (.int .i64 n)):=by kernel_rfl
theorem QH9 (s n sz:Nat):lenA Tryd.prog 28 (lv s sz n)=some (.c (.int .i64 n)):=by
 unfold lv;split
 ·rename_i h;subst h;kernel_rfl
 ·kernel_rfl
theorem QEY (id off n ext sz:Nat):lenA Tryd.prog 28 (.hsl id off n ext sz)=some (.c (.int .i64 n)):=by kernel_rfl
theorem ag55:Qb1 Tryd.prog 55=some false:=by kernel_rfl
theorem sz55:Qb0 Tryd.prog 55=some 1:=by kernel_rfl
theorem ia28 (H:Heap) (cells:List IV) (len:Nat) (nl:Bool) (cap:Option Nat) (k:IntKind) (i:Int):Qa9 Tryd.prog H 28 (.c (.slice cells len nl cap)) (.c (.int k i))=if 0≤i∧i<len then some (.c (.iptr cells (i.toNat * 1))) else none:=by kernel_rfl
theorem QEZ (H:Heap) (id off len ext sz:Nat) (k:IntKind) (i:Int):Qa9 Tryd.prog H 28 (.hsl id off len ext sz) (.c (.int k i))=if 0≤i∧i<len∧sz=1∧(rowOf H id ext).isSome=true then some (.eptr id (off+i.toNat * 1) ext) else none:=by kernel_rfl
theorem QFY (H:Heap) (id off:Nat):QaK Tryd.prog H 55 (.ptr id off)=cellAt H[id]? off:=by kernel_rfl
theorem QGk (H:Heap) (cells:List IV) (off:Nat):QaK Tryd.prog H 55 (.c (.iptr cells off))=(cells[off]?).map .c:=by kernel_rfl
theorem QH4 (H:Heap) (id off ext:Nat):QaK Tryd.prog H 55 (.eptr id off ext)=(rowOf H id ext).bind fun r=>(r.2[off]?).map .c:=by kernel_rfl
theorem QEw:Qaw Tryd.f19 13 [0,0,3,7,0,0,48,112,255,511]=true:=by kernel_rfl
theorem ev20 (k:Nat) (x0:AV) (H:Heap):Qav Tryd.prog (Qac tab) (k+1) (.fn 20) [x0] H=QaE H.length (Qas Tryd.prog Tryd.f20.results.toList (Qad Tryd.prog (cxG Tryd.prog (Qac tab) k 20 none) (Tryd.f20.body.getD .skip) (Qao (fr 37 []) 0 [x0]) H)):=by
 have h:=Qap 37 Tryd.func20 rfl (by decide) rfl (P:=Tryd.prog) (h:=Qac tab) (k:=k) (args:=[x0]) (H:=H)
 rw[show (Qac tab).slots 20=0 from rfl,show (List.replicate 0 AObj.slot)=[] from rfl,List.append_nil] at h
 exact h
theorem QB2 (H:Heap) (id off n ext sz:Nat):capA Tryd.prog H 22 (.hsl id off n ext sz)=if (rowOf H id ext).isSome=true then some (.cw true id off ext sz) else none:=by kernel_rfl
theorem QDq (H:Heap) (cells:List IV) (n k:Nat) (nl:Bool):capA Tryd.prog H 22 (.c (.slice cells n nl (some k)))=some (.c (.int .i64 k)):=by kernel_rfl
theorem Q4N (H:Heap) (id off n ext sz:Nat):capA Tryd.prog H 23 (.hsl id off n ext sz)=if (rowOf H id ext).isSome=true then some (.cw true id off ext sz) else none:=by kernel_rfl
theorem QC4 (H:Heap) (cells:List IV) (n k:Nat) (nl:Bool):capA Tryd.prog H 23 (.c (.slice cells n nl (some k)))=some (.c (.int .i64 k)):=by kernel_rfl
theorem sl23 (H:Heap) (x:AV) (lo hi:Option AV):Qfo Tryd.prog H 23 x lo hi none=QeM H 1 x lo hi:=by kernel_rfl
theorem QDg:Qaw Tryd.f20 1 [0,1,0,4,12,31,0,64,0,256,768,1984,63,8191]=true:=by kernel_rfl
theorem QBB (a0:IV):QbD Tryd.prog 61 [(0,.c a0)]=some (.agg [.c a0,.c (.int .i64 0),.c (.int .i64 0),.c (.int .i64 0),.c (.int .i64 0)]):=by kernel_rfl
theorem ev28 (k:Nat) (x0:AV) (H:Heap):Qav Tryd.prog (Qac tab) (k+1) (.fn 28) [x0] H=QaE H.length (Qas Tryd.prog Tryd.f28.results.toList (Qad Tryd.prog (cxG Tryd.prog (Qac tab) k 28 none) (Tryd.f28.body.getD .skip) (Qao (fr 25 []) 0 [x0]) (H++[.slot]))):=Qap 25 Tryd.func28 rfl (by decide) rfl
theorem Q3r:Qa5 tab.slots 28 0 0=none:=by rfl
theorem Q1w:Qa5 tab.slots 28 6 5=some 0:=by rfl
theorem QsX:Qan tab.fslots 28 8 3=[]:=by rfl
theorem Q03:Qat tab.keeps 28 8 3=false:=by rfl
theorem al58 (H:Heap):Qdt Tryd.prog H 58=some (.ptr H.length 0,H++[.cells 58 [.c (.bool false),.c (.slice [] 0 true (some 0))]]):=by kernel_rfl
theorem Q9j (k:IntKind) (n:Int):Qke Tryd.prog 2 116 (.c (.int k n))=some (.c (.int .u64 (IntKind.wrap .u64 n))):=by kernel_rfl
theorem Qtr (k:IntKind) (n:Int):Qke Tryd.prog 116 117 (.c (.int k n))=some (.c (.int .u32 (IntKind.wrap .u32 n))):=by kernel_rfl
theorem Q33 (H:Heap) (a0:IV):QaI Tryd.prog H 56 1 [(0,.c a0)]=some (.hsl H.length 0 1 (1 * 1) 1,H++[.row false 117 [a0]]):=by kernel_rfl
theorem ap56 (H:Heap) (sl:Option Nat) (s x:AV):Qed Tryd.prog H sl 56 s x=apO 117 1 4 sl s H (Qj7 H 1 x):=by kernel_rfl
theorem ag58:Qb1 Tryd.prog 58=some true:=by kernel_rfl
theorem sz58:Qb0 Tryd.prog 58=some 2:=by kernel_rfl
theorem ev23 (k:Nat) (x0:AV) (H:Heap):Qav Tryd.prog (Qac tab) (k+1) (.fn 23) [x0] H=QaE H.length (Qas Tryd.prog Tryd.f23.results.toList (Qad Tryd.prog (cxG Tryd.prog (Qac tab) k 23 none) (Tryd.f23.body.getD .skip) (Qao (fr 72 []) 0 [x0]) H)):=by
 have h:=Qap 72 Tryd.func23 rfl (by decide) rfl (P:=Tryd.prog) (h:=Qac tab) (k:=k) (args:=[x0]) (H:=H)
 rw[show (Qac tab).slots 23=0 from rfl,show (List.replicate 0 AObj.slot)=[] from rfl,List.append_nil] at h
 exact h
theorem Quk:Qa5 tab.slots 23 11 3=none:=by rfl
theorem Qqx:Qan tab.fslots 23 12 3=[]:=by rfl
theorem QwJ:Qat tab.keeps 23 12 3=false:=by rfl
theorem ev29 (k:Nat) (x0 x1:AV) (H:Heap):Qav Tryd.prog (Qac tab) (k+1) (.fn 29) [x0,x1] H=QaE H.length (Qas Tryd.prog Tryd.f29.results.toList (Qad Tryd.prog (cxG Tryd.prog (Qac tab) k 29 none) (Tryd.f29.body.getD .skip) (Qao (fr 59 []) 0 [x0,x1]) H)):=by
 have h:=Qap 59 Tryd.func29 rfl (by decide) rfl (P:=Tryd.prog) (h:=Qac tab) (k:=k) (args:=[x0,x1]) (H:=H)
 rw[show (Qac tab).slots 29=0 from rfl,show (List.replicate 0 AObj.slot)=[] from rfl,List.append_nil] at h
 exact h
theorem QwR:Qan tab.fslots 29 0 1=[]:=by rfl
theorem Q24:Qat tab.keeps 29 0 1=false:=by rfl
theorem QxE:Qan tab.fslots 29 2 1=[]:=by rfl
theorem Q2u:Qat tab.keeps 29 2 1=false:=by rfl
theorem Q2q:Qa5 tab.slots 29 2 2=none:=by rfl
theorem Q00:Qa5 tab.slots 29 6 1=none:=by rfl
theorem Q3y:Qa5 tab.slots 29 9 2=none:=by rfl
theorem QqE:Qan tab.fslots 29 10 3=[]:=by rfl
theorem Qxh:Qat tab.keeps 29 10 3=false:=by rfl
theorem Qqk:Qan tab.fslots 29 11 4=[]:=by rfl
theorem QtP:rawB tab.keeps 29 11 4=false:=by rfl
theorem Qww:Qat tab.keeps 29 11 4=true:=by rfl
theorem Qqp:Qan tab.fslots 29 11 5=[]:=by rfl
theorem QsE:Qat tab.keeps 29 11 5=false:=by rfl
theorem QoP:Qan tab.fslots 29 13 2=[]:=by rfl
theorem Qxy:Qat tab.keeps 29 13 2=false:=by rfl
theorem QnG:Qan tab.fslots 29 15 1=[]:=by rfl
theorem QsP:rawB tab.keeps 29 15 1=false:=by rfl
theorem QvW:Qat tab.keeps 29 15 1=true:=by rfl
theorem Qpl:Qan tab.fslots 29 16 2=[]:=by rfl
theorem QwS:Qat tab.keeps 29 16 2=false:=by rfl
theorem Q2S (a0 a1:IV):QbD Tryd.prog 64 [(0,.c a0),(1,.c a1)]=some (.agg [.c a0,.c a1]):=by kernel_rfl
theorem Qi5 (H:Heap) (a0 a1 a2 a3 a4 a5:IV):QaI Tryd.prog H 65 3 [(0,.agg [.c a0,.c a1]),(1,.agg [.c a2,.c a3]),(2,.agg [.c a4,.c a5])]=some (.hsl H.length 0 3 (3 * 2) 2,H++[.row false 64 [a0,a1,a2,a3,a4,a5]]):=by kernel_rfl
theorem ln65 (cells:List IV) (n:Nat) (nl:Bool) (cap:Option Nat):lenA Tryd.prog 65 (.c (.slice cells n nl cap))=some (.c (.int .i64 n)):=by kernel_rfl
theorem QHt (s n sz:Nat):lenA Tryd.prog 65 (lv s sz n)=some (.c (.int .i64 n)):=by
 unfold lv;split
 ·rename_i h;subst h;kernel_rfl
 ·kernel_rfl
theorem QEN (id off n ext sz:Nat):lenA Tryd.prog 65 (.hsl id off n ext sz)=some (.c (.int .i64 n)):=by kernel_rfl
theorem ag64:Qb1 Tryd.prog 64=some true:=by kernel_rfl
theorem sz64:Qb0 Tryd.prog 64=some 2:=by kernel_rfl
theorem ia65 (H:Heap) (cells:List IV) (len:Nat) (nl:Bool) (cap:Option Nat) (k:IntKind) (i:Int):Qa9 Tryd.prog H 65 (.c (.slice cells len nl cap)) (.c (.int k i))=if 0≤i∧i<len then some (.c (.iptr cells (i.toNat * 2))) else none:=by kernel_rfl
theorem QED (H:Heap) (id off len ext sz:Nat) (k:IntKind) (i:Int):Qa9 Tryd.prog H 65 (.hsl id off len ext sz) (.c (.int k i))=if 0≤i∧i<len∧sz=2∧(rowOf H id ext).isSome=true then some (.eptr id (off+i.toNat * 2) ext) else none:=by kernel_rfl
theorem QGW (H:Heap) (id off:Nat):QaK Tryd.prog H 64 (.ptr id off)=Qia H[id]? off 2:=by kernel_rfl
theorem QFW (H:Heap) (cells:List IV) (off:Nat):QaK Tryd.prog H 64 (.c (.iptr cells off))=(Qbb cells off 2).map fun l=>.agg (l.map .c):=by kernel_rfl
theorem QGZ (H:Heap) (id off ext:Nat):QaK Tryd.prog H 64 (.eptr id off ext)=(rowOf H id ext).bind fun r=>(Qbb r.2 off 2).map fun l=>.agg (l.map .c):=by kernel_rfl
theorem al64 (H:Heap):Qdt Tryd.prog H 64=some (.ptr H.length 0,H++[.cells 64 [.c (.str ByteArray.empty),.c (.nilfn)]]):=by kernel_rfl
theorem QBV (x:AV):Qa3 Tryd.prog 64 x 1=QaC x 1:=by kernel_rfl
theorem ag35:Qb1 Tryd.prog 35=some false:=by kernel_rfl
theorem sz35:Qb0 Tryd.prog 35=some 1:=by kernel_rfl
theorem QGE (H:Heap) (id off:Nat):QaK Tryd.prog H 35 (.ptr id off)=cellAt H[id]? off:=by kernel_rfl
theorem QFc (H:Heap) (cells:List IV) (off:Nat):QaK Tryd.prog H 35 (.c (.iptr cells off))=(cells[off]?).map .c:=by kernel_rfl
theorem QFi (H:Heap) (id off ext:Nat):QaK Tryd.prog H 35 (.eptr id off ext)=(rowOf H id ext).bind fun r=>(r.2[off]?).map .c:=by kernel_rfl
theorem QDo (x:AV):Qa3 Tryd.prog 64 x 0=QaC x 0:=by kernel_rfl
theorem ag9:Qb1 Tryd.prog 9=some false:=by kernel_rfl
theorem sz9:Qb0 Tryd.prog 9=some 1:=by kernel_rfl
theorem ldp9 (H:Heap) (id off:Nat):QaK Tryd.prog H 9 (.ptr id off)=cellAt H[id]? off:=by kernel_rfl
theorem ldi9 (H:Heap) (cells:List IV) (off:Nat):QaK Tryd.prog H 9 (.c (.iptr cells off))=(cells[off]?).map .c:=by kernel_rfl
theorem lde9 (H:Heap) (id off ext:Nat):QaK Tryd.prog H 9 (.eptr id off ext)=(rowOf H id ext).bind fun r=>(r.2[off]?).map .c:=by kernel_rfl
theorem Qzd:Qaw Tryd.f29 11 [0,0,2,0,8,31,63]=true:=by kernel_rfl
theorem ev32 (k:Nat) (x0:AV) (H:Heap):Qav Tryd.prog (Qac tab) (k+1) (.fn 32) [x0] H=QaE H.length (Qas Tryd.prog Tryd.f32.results.toList (Qad Tryd.prog (cxG Tryd.prog (Qac tab) k 32 none) (Tryd.f32.body.getD .skip) (Qao (fr 79 []) 0 [x0]) H)):=by
 have h:=Qap 79 Tryd.func32 rfl (by decide) rfl (P:=Tryd.prog) (h:=Qac tab) (k:=k) (args:=[x0]) (H:=H)
 rw[show (Qac tab).slots 32=0 from rfl,show (List.replicate 0 AObj.slot)=[] from rfl,List.append_nil] at h
 exact h
theorem Qpg:Qan tab.fslots 32 11 7=[]:=by rfl
theorem Qt0:Qat tab.keeps 32 11 7=false:=by rfl
theorem QEJ:Qaw Tryd.f32 6 [0,1,0,7,15,31,63,127,255,127,1023,2047,127,4223,16383,32767]=true:=by kernel_rfl
theorem QD9:Qaw Tryd.f32 11 [0,1,0,7,15,0,32,127,255]=true:=by kernel_rfl
theorem ev33 (k:Nat) (x0:AV) (H:Heap):Qav Tryd.prog (Qac tab) (k+1) (.fn 33) [x0] H=QaE H.length (Qas Tryd.prog Tryd.f33.results.toList (Qad Tryd.prog (cxG Tryd.prog (Qac tab) k 33 none) (Tryd.f33.body.getD .skip) (Qao (fr 203 []) 0 [x0]) (H++[.slot,.slot,.slot,.slot,.slot]))):=Qap 203 Tryd.func33 rfl (by decide) rfl
theorem Qwl:Qan tab.fslots 33 1 1=[]:=by rfl
theorem Q1M:Qat tab.keeps 33 1 1=false:=by rfl
theorem Q2N:Qa5 tab.slots 33 5 3=some 2:=by rfl
theorem Q2I:Qa5 tab.slots 33 5 5=some 3:=by rfl
theorem Q2j:Qa5 tab.slots 33 5 7=some 4:=by rfl
theorem Q2i:Qa5 tab.slots 33 6 2=none:=by rfl
theorem QpA:Qan tab.fslots 33 10 4=[]:=by rfl
theorem Quf:Qat tab.keeps 33 10 4=false:=by rfl
theorem Qxz:Qa5 tab.slots 33 14 6=some 0:=by rfl
theorem QtW:Qa5 tab.slots 33 18 3=none:=by rfl
theorem QnR:Qan tab.fslots 33 21 1=[]:=by rfl
theorem Quq:Qat tab.keeps 33 21 1=false:=by rfl
theorem Qwj:Qa5 tab.slots 33 25 6=some 0:=by rfl
theorem Qok:Qa5 tab.slots 33 30 10=some 1:=by rfl
theorem ms23 (H:Heap) (l c:Int):QaU Tryd.prog H none 23 (.c (.int .i64 l)) (.c (.int .i64 c))=if 0≤l∧l=c∧c.toNat * 8≤roomBytes∧c.toNat≤roomBytes∧1=1∧0<1 then some (.hsl H.length 0 l.toNat (c.toNat * 1) 1,H++[.row false 3 ((List.replicate c.toNat [.int .i64 0]).flatten)]) else none:=by kernel_rfl
theorem Qgl (a0 a1 a2 a3 a4 a5 a6 a7:IV):QbD Tryd.prog 78 [(0,.agg [.c a0,.c a1,.c a2,.c a3]),(1,.c a4),(2,.c a5),(3,.c a6),(4,.c a7)]=some (.agg [.c a0,.c a1,.c a2,.c a3,.c a4,.c a5,.c a6,.c a7,.c (.slice [] 0 true (some 0)),.c (.slice [] 0 true (some 0))]):=by kernel_rfl
theorem QGP:Qaw Tryd.f33 5 [0,0,0,4,0,16,0,64,255,511,1023]=true:=by kernel_rfl
theorem QD6:Qaw Tryd.f33 20 [0,1,3,7,0,0,32,96,224,0,0,0,2048,7168,15360,0,0,65536,229376,491520,1048063,2096639,4194303,8388607]=true:=by kernel_rfl
theorem QDv:Qaw Tryd.f33 22 [0,1,3,7,0,0,0,64,224,480,1023,2047]=true:=by kernel_rfl
theorem Q7k:Qaw Tryd.f33 23 [0,1,3,7,0,16,48,112,0,496,1008,0,2048,6144,14336,0,32768,98304,229376,0,1015808,2064384,0,0,8388607,25165823,67108863,134217727]=true:=by kernel_rfl
theorem Q8Y:Qaw Tryd.f33 24 [0,1,3,7,0,0,0,64,0,256,768,1792,3840,0,8192,24576,57344,122880,130847,392991,1048575,2097151]=true:=by kernel_rfl
theorem QDw:Qaw Tryd.f33 30 [0,0,2,6,14,0,0,96,224,480,1022,2047,4095,8191]=true:=by kernel_rfl
theorem QEx:Qaw Tryd.f33 31 [0,1,3,7,0,0,48,112,0,511,1023]=true:=by kernel_rfl
theorem ev34 (k:Nat) (x0 x1 x2:AV) (H:Heap):Qav Tryd.prog (Qac tab) (k+1) (.fn 34) [x0,x1,x2] H=QaE H.length (Qas Tryd.prog Tryd.f34.results.toList (Qad Tryd.prog (cxG Tryd.prog (Qac tab) k 34 none) (Tryd.f34.body.getD .skip) (Qao (fr 27 []) 0 [x0,x1,x2]) (H++[.slot]))):=Qap 27 Tryd.func34 rfl (by decide) rfl
theorem Q1I:Qa5 tab.slots 34 1 8=some 2:=by rfl
theorem QC9:Qaw Tryd.f34 0 [0,1,3,7,0,0,32,96,224,480,1023]=true:=by kernel_rfl
theorem Q4C (H:Heap) (a0:IV):QaI Tryd.prog H 73 1 [(0,.c a0)]=some (.hsl H.length 0 1 (1 * 1) 1,H++[.row false 4 [a0]]):=by kernel_rfl
theorem ap73 (H:Heap) (sl:Option Nat) (s x:AV):Qed Tryd.prog H sl 73 s x=apO 4 1 1 sl s H (Qj7 H 1 x):=by kernel_rfl
theorem ev35 (k:Nat) (x0:AV) (H:Heap):Qav Tryd.prog (Qac tab) (k+1) (.fn 35) [x0] H=QaE H.length (Qas Tryd.prog Tryd.f35.results.toList (Qad Tryd.prog (cxG Tryd.prog (Qac tab) k 35 none) (Tryd.f35.body.getD .skip) (Qao (fr 23 []) 0 [x0]) H)):=by
 have h:=Qap 23 Tryd.func35 rfl (by decide) rfl (P:=Tryd.prog) (h:=Qac tab) (k:=k) (args:=[x0]) (H:=H)
 rw[show (Qac tab).slots 35=0 from rfl,show (List.replicate 0 AObj.slot)=[] from rfl,List.append_nil] at h
 exact h
theorem QnO (H:Heap) (a0 a1:IV):QaI Tryd.prog H 23 2 [(0,.c a0),(1,.c a1)]=some (.hsl H.length 0 2 (2 * 1) 1,H++[.row false 3 [a0,a1]]):=by kernel_rfl
theorem ev36 (k:Nat) (x0 x1:AV) (H:Heap):Qav Tryd.prog (Qac tab) (k+1) (.fn 36) [x0,x1] H=QaE H.length (Qas Tryd.prog Tryd.f36.results.toList (Qad Tryd.prog (cxG Tryd.prog (Qac tab) k 36 none) (Tryd.f36.body.getD .skip) (Qao (fr 60 []) 0 [x0,x1]) H)):=by
 have h:=Qap 60 Tryd.func36 rfl (by decide) rfl (P:=Tryd.prog) (h:=Qac tab) (k:=k) (args:=[x0,x1]) (H:=H)
 rw[show (Qac tab).slots 36=0 from rfl,show (List.replicate 0 AObj.slot)=[] from rfl,List.append_nil] at h
 exact h
theorem Q3I:Qa5 tab.slots 36 9 6=none:=by rfl
theorem QFp:Qaw Tryd.f36 5 [0,1,3,7,0,0,32,96,224,0,0,511,2559,7679,16383,32767]=true:=by kernel_rfl
theorem QGU:Qaw Tryd.f36 8 [0,1,3,7,0,0,32,96,224,480,1023]=true:=by kernel_rfl
theorem ev37 (k:Nat) (x0:AV) (H:Heap):Qav Tryd.prog (Qac tab) (k+1) (.fn 37) [x0] H=QaE H.length (Qas Tryd.prog Tryd.f37.results.toList (Qad Tryd.prog (cxG Tryd.prog (Qac tab) k 37 none) (Tryd.f37.body.getD .skip) (Qao (fr 68 []) 0 [x0]) H)):=by
 have h:=Qap 68 Tryd.func37 rfl (by decide) rfl (P:=Tryd.prog) (h:=Qac tab) (k:=k) (args:=[x0]) (H:=H)
 rw[show (Qac tab).slots 37=0 from rfl,show (List.replicate 0 AObj.slot)=[] from rfl,List.append_nil] at h
 exact h
theorem QzD:Qa5 tab.slots 37 0 1=none:=by rfl
theorem Qt8:Qan tab.fslots 37 1 2=[]:=by rfl
theorem Q3b:Qat tab.keeps 37 1 2=false:=by rfl
theorem Qtp:Qan tab.fslots 37 5 4=[]:=by rfl
theorem Q0x:Qat tab.keeps 37 5 4=false:=by rfl
theorem Qtv:Qan tab.fslots 37 9 4=[]:=by rfl
theorem Q4p:Qat tab.keeps 37 9 4=false:=by rfl
theorem Qp2:Qan tab.fslots 37 11 4=[]:=by rfl
theorem QxH:Qat tab.keeps 37 11 4=false:=by rfl
theorem Qo4:Qan tab.fslots 37 13 5=[]:=by rfl
theorem Qx3:Qat tab.keeps 37 13 5=false:=by rfl
theorem QnN:Qan tab.fslots 37 15 5=[]:=by rfl
theorem QtH:Qat tab.keeps 37 15 5=false:=by rfl
theorem QBA (x:AV):Qa3 Tryd.prog 61 x 4=QaC x 4:=by kernel_rfl
theorem ev38 (k:Nat) (x0 x1:AV) (H:Heap):Qav Tryd.prog (Qac tab) (k+1) (.fn 38) [x0,x1] H=QaE H.length (Qas Tryd.prog Tryd.f38.results.toList (Qad Tryd.prog (cxG Tryd.prog (Qac tab) k 38 none) (Tryd.f38.body.getD .skip) (Qao (fr 56 []) 0 [x0,x1]) H)):=by
 have h:=Qap 56 Tryd.func38 rfl (by decide) rfl (P:=Tryd.prog) (h:=Qac tab) (k:=k) (args:=[x0,x1]) (H:=H)
 rw[show (Qac tab).slots 38=0 from rfl,show (List.replicate 0 AObj.slot)=[] from rfl,List.append_nil] at h
 exact h
theorem Q4b:Qa5 tab.slots 38 0 2=none:=by rfl
theorem QtY:Qan tab.fslots 38 3 8=[]:=by rfl
theorem Q2v:Qat tab.keeps 38 3 8=false:=by rfl
theorem QvS:Qan tab.fslots 38 6 6=[]:=by rfl
theorem Q4m:Qat tab.keeps 38 6 6=false:=by rfl
theorem QxZ:Qan tab.fslots 38 6 7=[]:=by rfl
theorem Q1W:Qat tab.keeps 38 6 7=false:=by rfl
theorem QGf:QbD Tryd.prog 61 []=some (.agg [.c (.int .i64 0),.c (.int .i64 0),.c (.int .i64 0),.c (.int .i64 0),.c (.int .i64 0)]):=by kernel_rfl
theorem ev39 (k:Nat) (x0:AV) (H:Heap):Qav Tryd.prog (Qac tab) (k+1) (.fn 39) [x0] H=QaE H.length (Qas Tryd.prog Tryd.f39.results.toList (Qad Tryd.prog (cxG Tryd.prog (Qac tab) k 39 none) (Tryd.f39.body.getD .skip) (Qao (fr 8 []) 0 [x0]) H)):=by
 have h:=Qap 8 Tryd.func39 rfl (by decide) rfl (P:=Tryd.prog) (h:=Qac tab) (k:=k) (args:=[x0]) (H:=H)
 rw[show (Qac tab).slots 39=0 from rfl,show (List.replicate 0 AObj.slot)=[] from rfl,List.append_nil] at h
 exact h
theorem QzG:Qa5 tab.slots 39 3 2=none:=by rfl
theorem QFK (H:Heap) (cells:List IV) (len:Nat) (nl:Bool) (cap cap2:Option Nat):binA Tryd.prog H .eql 23 (.c (.slice cells len nl cap)) (.c (.slice [] 0 true cap2))=some (.c (.bool (nl))):=by kernel_rfl
theorem Q6K (H:Heap):QaI Tryd.prog H 23 0 []=some (.hsl H.length 0 0 (0 * 1) 1,H++[.row false 3 []]):=by kernel_rfl
theorem ev40 (k:Nat) (x0:AV) (H:Heap):Qav Tryd.prog (Qac tab) (k+1) (.fn 40) [x0] H=QaE H.length (Qas Tryd.prog Tryd.f40.results.toList (Qad Tryd.prog (cxG Tryd.prog (Qac tab) k 40 none) (Tryd.f40.body.getD .skip) (Qao (fr 32 []) 0 [x0]) (H++[.slot]))):=Qap 32 Tryd.func40 rfl (by decide) rfl
theorem Qte:Qa5 tab.slots 40 5 10=some 0:=by rfl
theorem QpI (a0 a1 a2:IV):QbD Tryd.prog 92 [(1,.c a0),(2,.c a1),(3,.c a2)]=some (.agg [.c (.slice [] 0 true (some 0)),.c a0,.c a1,.c a2]):=by kernel_rfl
theorem QEE:Qaw Tryd.f40 5 [0,0,2,6,14,0,0,64,224,480,1022,2047,4095,8191]=true:=by kernel_rfl
theorem ev41 (k:Nat) (x0 x1 x2:AV) (H:Heap):Qav Tryd.prog (Qac tab) (k+1) (.fn 41) [x0,x1,x2] H=QaE H.length (Qas Tryd.prog Tryd.f41.results.toList (Qad Tryd.prog (cxG Tryd.prog (Qac tab) k 41 none) (Tryd.f41.body.getD .skip) (Qao (fr 74 []) 0 [x0,x1,x2]) H)):=by
 have h:=Qap 74 Tryd.func41 rfl (by decide) rfl (P:=Tryd.prog) (h:=Qac tab) (k:=k) (args:=[x0,x1,x2]) (H:=H)
 rw[show (Qac tab).slots 41=0 from rfl,show (List.replicate 0 AObj.slot)=[] from rfl,List.append_nil] at h
 exact h
theorem Qtb:Qan tab.fslots 41 3 2=[]:=by rfl
theorem Q31:Qat tab.keeps 41 3 2=false:=by rfl
theorem Q3a:Qa5 tab.slots 41 3 3=none:=by rfl
theorem QF7:Qaw Tryd.f41 2 [0,1,3,7,0,16,63,127,255,511]=true:=by kernel_rfl
theorem QGu (H:Heap):Qdt Tryd.prog H 128=some (.ptr H.length 0,H++[.cells 128 [.c (.int .i64 0),.c (.int .i64 0),.c (.int .i64 0),.c (.int .i64 0)]]):=by kernel_rfl
theorem QFQ:Qb1 Tryd.prog 128=some true:=by kernel_rfl
theorem QHr:Qb0 Tryd.prog 128=some 4:=by kernel_rfl
theorem QBM (x:AV):Qa3 Tryd.prog 92 x 1=QaC x 1:=by kernel_rfl
theorem ag90:Qb1 Tryd.prog 90=some false:=by kernel_rfl
theorem sz90:Qb0 Tryd.prog 90=some 1:=by kernel_rfl
theorem QHb (H:Heap) (id off:Nat):QaK Tryd.prog H 90 (.ptr id off)=cellAt H[id]? off:=by kernel_rfl
theorem QGB (H:Heap) (cells:List IV) (off:Nat):QaK Tryd.prog H 90 (.c (.iptr cells off))=(cells[off]?).map .c:=by kernel_rfl
theorem QH5 (H:Heap) (id off ext:Nat):QaK Tryd.prog H 90 (.eptr id off ext)=(rowOf H id ext).bind fun r=>(r.2[off]?).map .c:=by kernel_rfl
theorem QCE (H:Heap) (id off:Nat):QaK Tryd.prog H 128 (.ptr id off)=Qia H[id]? off 4:=by kernel_rfl
theorem QDa (H:Heap) (cells:List IV) (off:Nat):QaK Tryd.prog H 128 (.c (.iptr cells off))=(Qbb cells off 4).map fun l=>.agg (l.map .c):=by kernel_rfl
theorem QC3 (H:Heap) (id off ext:Nat):QaK Tryd.prog H 128 (.eptr id off ext)=(rowOf H id ext).bind fun r=>(Qbb r.2 off 4).map fun l=>.agg (l.map .c):=by kernel_rfl
theorem QDi:Qaw Tryd.f41 4 [0,1,3,7,0,31,63,127,127,255,1023]=true:=by kernel_rfl
theorem QCs (x:AV):Qa3 Tryd.prog 92 x 2=QaC x 2:=by kernel_rfl
theorem QCN (x:AV):Qa3 Tryd.prog 92 x 3=QaC x 3:=by kernel_rfl
theorem QFh:Qaw Tryd.f41 6 [0,1,3,7,0,0,32,96,224,0,0,1024,3072,7168,0,511,33279,114175,245759,507903,1048575]=true:=by kernel_rfl
theorem QCa:Qaw Tryd.f41 8 [0,1,3,7,0,31,0,64,192,448,0,1984,63,8191]=true:=by kernel_rfl
theorem ev42 (k:Nat) (x0 x1:AV) (H:Heap):Qav Tryd.prog (Qac tab) (k+1) (.fn 42) [x0,x1] H=QaE H.length (Qas Tryd.prog Tryd.f42.results.toList (Qad Tryd.prog (cxG Tryd.prog (Qac tab) k 42 none) (Tryd.f42.body.getD .skip) (Qao (fr 34 []) 0 [x0,x1]) H)):=by
 have h:=Qap 34 Tryd.func42 rfl (by decide) rfl (P:=Tryd.prog) (h:=Qac tab) (k:=k) (args:=[x0,x1]) (H:=H)
 rw[show (Qac tab).slots 42=0 from rfl,show (List.replicate 0 AObj.slot)=[] from rfl,List.append_nil] at h
 exact h
theorem Q0Y:Qa5 tab.slots 42 0 1=none:=by rfl
theorem Qv3:Qan tab.fslots 42 1 1=[]:=by rfl
theorem Q2A:Qat tab.keeps 42 1 1=false:=by rfl
theorem QuX:Qan tab.fslots 42 2 9=[]:=by rfl
theorem Q0z:Qat tab.keeps 42 2 9=false:=by rfl
theorem QvF:Qan tab.fslots 42 4 9=[]:=by rfl
theorem Q3v:Qat tab.keeps 42 4 9=false:=by rfl
theorem QG9:Qaw Tryd.f42 2 [0,0,2,6,14,0,32,126,254,511,1023,2047]=true:=by kernel_rfl
theorem QFA:Qaw Tryd.f42 4 [0,0,2,6,14,0,32,126,254,511,1023,2047]=true:=by kernel_rfl
theorem ev43 (k:Nat) (x0 x1:AV) (H:Heap):Qav Tryd.prog (Qac tab) (k+1) (.fn 43) [x0,x1] H=QaE H.length (Qas Tryd.prog Tryd.f43.results.toList (Qad Tryd.prog (cxG Tryd.prog (Qac tab) k 43 none) (Tryd.f43.body.getD .skip) (Qao (fr 22 []) 0 [x0,x1]) H)):=by
 have h:=Qap 22 Tryd.func43 rfl (by decide) rfl (P:=Tryd.prog) (h:=Qac tab) (k:=k) (args:=[x0,x1]) (H:=H)
 rw[show (Qac tab).slots 43=0 from rfl,show (List.replicate 0 AObj.slot)=[] from rfl,List.append_nil] at h
 exact h
theorem ev44 (k:Nat) (x0:AV) (H:Heap):Qav Tryd.prog (Qac tab) (k+1) (.fn 44) [x0] H=QaE H.length (Qas Tryd.prog Tryd.f44.results.toList (Qad Tryd.prog (cxG Tryd.prog (Qac tab) k 44 none) (Tryd.f44.body.getD .skip) (Qao (fr 58 []) 0 [x0]) H)):=by
 have h:=Qap 58 Tryd.func44 rfl (by decide) rfl (P:=Tryd.prog) (h:=Qac tab) (k:=k) (args:=[x0]) (H:=H)
 rw[show (Qac tab).slots 44=0 from rfl,show (List.replicate 0 AObj.slot)=[] from rfl,List.append_nil] at h
 exact h
theorem Q2z:Qa5 tab.slots 44 1 2=none:=by rfl
theorem Q4f:Qa5 tab.slots 44 1 3=none:=by rfl
theorem Q4K:Qa5 tab.slots 44 7 3=none:=by rfl
theorem Q1B:Qa5 tab.slots 44 7 4=none:=by rfl
theorem Qvr:Qan tab.fslots 44 8 1=[]:=by rfl
theorem Q1v:Qat tab.keeps 44 8 1=false:=by rfl
theorem QtA:Qa5 tab.slots 44 10 0=none:=by rfl
theorem Qny:Qan tab.fslots 44 14 1=[]:=by rfl
theorem Qum:Qat tab.keeps 44 14 1=false:=by rfl
theorem Q6U (cx:Cx) (F:Fr) (H:Heap):Qad Tryd.prog cx Q9E F H=Qad Tryd.prog cx (rfAs Tryd.f44 9) F H:=rfl
theorem Q8Z (cx:Cx) (F:Fr) (H:Heap):Qad Tryd.prog cx Q6t F H=Qad Tryd.prog cx (rfBd Tryd.f44 9) F H:=rfl
theorem ms73 (H:Heap) (l c:Int):QaU Tryd.prog H none 73 (.c (.int .i64 l)) (.c (.int .i64 c))=if 0≤l∧l=c∧c.toNat * 1≤roomBytes∧c.toNat≤roomBytes∧1=1∧0<1 then some (.hsl H.length 0 l.toNat (c.toNat * 1) 1,H++[.row false 4 ((List.replicate c.toNat [.bool false]).flatten)]) else none:=by kernel_rfl
theorem al73 (H:Heap):Qdt Tryd.prog H 73=some (.ptr H.length 0,H++[.cells 73 [.c (.slice [] 0 true (some 0))]]):=by kernel_rfl
theorem ev45 (k:Nat) (x0:AV) (H:Heap):Qav Tryd.prog (Qac tab) (k+1) (.fn 45) [x0] H=QaE H.length (Qas Tryd.prog Tryd.f45.results.toList (Qad Tryd.prog (cxG Tryd.prog (Qac tab) k 45 none) (Tryd.f45.body.getD .skip) (Qao (fr 13 []) 0 [x0]) H)):=by
 have h:=Qap 13 Tryd.func45 rfl (by decide) rfl (P:=Tryd.prog) (h:=Qac tab) (k:=k) (args:=[x0]) (H:=H)
 rw[show (Qac tab).slots 45=0 from rfl,show (List.replicate 0 AObj.slot)=[] from rfl,List.append_nil] at h
 exact h
theorem ev46 (k:Nat) (x0 x1:AV) (H:Heap):Qav Tryd.prog (Qac tab) (k+1) (.fn 46) [x0,x1] H=QaE H.length (Qas Tryd.prog Tryd.f46.results.toList (Qad Tryd.prog (cxG Tryd.prog (Qac tab) k 46 none) (Tryd.f46.body.getD .skip) (Qao (fr 97 []) 0 [x0,x1]) (H++[.slot,.slot]))):=Qap 97 Tryd.func46 rfl (by decide) rfl
theorem QzL:Qa5 tab.slots 46 1 2=none:=by rfl
theorem QxO:Qan tab.fslots 46 5 6=[]:=by rfl
theorem Q3z:Qat tab.keeps 46 5 6=false:=by rfl
theorem QpT:Qan tab.fslots 46 12 6=[]:=by rfl
theorem QtN:Qat tab.keeps 46 12 6=false:=by rfl
theorem QvO:Qa5 tab.slots 46 16 3=some 0:=by rfl
theorem QmZ:Qa5 tab.slots 46 21 10=some 1:=by rfl
theorem ms28 (H:Heap) (l c:Int):QaU Tryd.prog H none 28 (.c (.int .i64 l)) (.c (.int .i64 c))=if 0≤l∧l=c∧c.toNat * 24≤roomBytes∧c.toNat≤roomBytes∧1=1∧0<1 then some (.hsl H.length 0 l.toNat (c.toNat * 1) 1,H++[.row false 55 ((List.replicate c.toNat [.slice [] 0 true (some 0)]).flatten)]) else none:=by kernel_rfl
theorem ln55 (cells:List IV) (n:Nat) (nl:Bool) (cap:Option Nat):lenA Tryd.prog 55 (.c (.slice cells n nl cap))=some (.c (.int .i64 n)):=by kernel_rfl
theorem QHP (s n sz:Nat):lenA Tryd.prog 55 (lv s sz n)=some (.c (.int .i64 n)):=by
 unfold lv;split
 ·rename_i h;subst h;kernel_rfl
 ·kernel_rfl
theorem QEB (id off n ext sz:Nat):lenA Tryd.prog 55 (.hsl id off n ext sz)=some (.c (.int .i64 n)):=by kernel_rfl
theorem ev47 (k:Nat) (x0 x1:AV) (H:Heap):Qav Tryd.prog (Qac tab) (k+1) (.fn 47) [x0,x1] H=QaE H.length (Qas Tryd.prog Tryd.f47.results.toList (Qad Tryd.prog (cxG Tryd.prog (Qac tab) k 47 none) (Tryd.f47.body.getD .skip) (Qao (fr 27 []) 0 [x0,x1]) H)):=by
 have h:=Qap 27 Tryd.func47 rfl (by decide) rfl (P:=Tryd.prog) (h:=Qac tab) (k:=k) (args:=[x0,x1]) (H:=H)
 rw[show (Qac tab).slots 47=0 from rfl,show (List.replicate 0 AObj.slot)=[] from rfl,List.append_nil] at h
 exact h
theorem Qv0:Qan tab.fslots 47 6 8=[]:=by rfl
theorem Q3G:Qat tab.keeps 47 6 8=false:=by rfl
theorem ia55 (H:Heap) (cells:List IV) (len:Nat) (nl:Bool) (cap:Option Nat) (k:IntKind) (i:Int):Qa9 Tryd.prog H 55 (.c (.slice cells len nl cap)) (.c (.int k i))=if 0≤i∧i<len then some (.c (.iptr cells (i.toNat * 2))) else none:=by kernel_rfl
theorem QGn (H:Heap) (id off len ext sz:Nat) (k:IntKind) (i:Int):Qa9 Tryd.prog H 55 (.hsl id off len ext sz) (.c (.int k i))=if 0≤i∧i<len∧sz=2∧(rowOf H id ext).isSome=true then some (.eptr id (off+i.toNat * 2) ext) else none:=by kernel_rfl
theorem QGX (H:Heap) (id off:Nat):QaK Tryd.prog H 58 (.ptr id off)=Qia H[id]? off 2:=by kernel_rfl
theorem QH7 (H:Heap) (cells:List IV) (off:Nat):QaK Tryd.prog H 58 (.c (.iptr cells off))=(Qbb cells off 2).map fun l=>.agg (l.map .c):=by kernel_rfl
theorem QHH (H:Heap) (id off ext:Nat):QaK Tryd.prog H 58 (.eptr id off ext)=(rowOf H id ext).bind fun r=>(Qbb r.2 off 2).map fun l=>.agg (l.map .c):=by kernel_rfl
theorem QCj:Qaw Tryd.f47 6 [0,0,3,7,0,0,48,112,255,511]=true:=by kernel_rfl
theorem ev59 (k:Nat) (x0 x1:AV) (H:Heap):Qav Tryd.prog (Qac tab) (k+1) (.fn 59) [x0,x1] H=QaE H.length (Qas Tryd.prog Tryd.f59.results.toList (Qad Tryd.prog (cxG Tryd.prog (Qac tab) k 59 none) (Tryd.f59.body.getD .skip) (Qao (fr 29 []) 0 [x0,x1]) H)):=by
 have h:=Qap 29 Tryd.func59 rfl (by decide) rfl (P:=Tryd.prog) (h:=Qac tab) (k:=k) (args:=[x0,x1]) (H:=H)
 rw[show (Qac tab).slots 59=0 from rfl,show (List.replicate 0 AObj.slot)=[] from rfl,List.append_nil] at h
 exact h
theorem Q0b:Qa5 tab.slots 59 0 0=none:=by rfl
theorem ln56 (cells:List IV) (n:Nat) (nl:Bool) (cap:Option Nat):lenA Tryd.prog 56 (.c (.slice cells n nl cap))=some (.c (.int .i64 n)):=by kernel_rfl
theorem QH0 (s n sz:Nat):lenA Tryd.prog 56 (lv s sz n)=some (.c (.int .i64 n)):=by
 unfold lv;split
 ·rename_i h;subst h;kernel_rfl
 ·kernel_rfl
theorem QGd (id off n ext sz:Nat):lenA Tryd.prog 56 (.hsl id off n ext sz)=some (.c (.int .i64 n)):=by kernel_rfl
theorem QHs:Qb1 Tryd.prog 117=some false:=by kernel_rfl
theorem QFu:Qb0 Tryd.prog 117=some 1:=by kernel_rfl
theorem ia56 (H:Heap) (cells:List IV) (len:Nat) (nl:Bool) (cap:Option Nat) (k:IntKind) (i:Int):Qa9 Tryd.prog H 56 (.c (.slice cells len nl cap)) (.c (.int k i))=if 0≤i∧i<len then some (.c (.iptr cells (i.toNat * 1))) else none:=by kernel_rfl
theorem QEL (H:Heap) (id off len ext sz:Nat) (k:IntKind) (i:Int):Qa9 Tryd.prog H 56 (.hsl id off len ext sz) (.c (.int k i))=if 0≤i∧i<len∧sz=1∧(rowOf H id ext).isSome=true then some (.eptr id (off+i.toNat * 1) ext) else none:=by kernel_rfl
theorem QBH (H:Heap) (id off:Nat):QaK Tryd.prog H 117 (.ptr id off)=cellAt H[id]? off:=by kernel_rfl
theorem QCP (H:Heap) (cells:List IV) (off:Nat):QaK Tryd.prog H 117 (.c (.iptr cells off))=(cells[off]?).map .c:=by kernel_rfl
theorem QCf (H:Heap) (id off ext:Nat):QaK Tryd.prog H 117 (.eptr id off ext)=(rowOf H id ext).bind fun r=>(r.2[off]?).map .c:=by kernel_rfl
theorem sl56 (H:Heap) (x:AV) (lo hi:Option AV):Qfo Tryd.prog H 56 x lo hi none=QeM H 1 x lo hi:=by kernel_rfl
theorem Ql8 (a0:IV) (v1:AV) (hv1:v1.isCell=true):QbD Tryd.prog 58 [(0,.c a0),(1,v1)]=some (.agg [.c a0,v1]):=by
 cases v1<;>first | (cases hv1;done) | kernel_rfl
theorem Q4F (a0 a1:IV):QbD Tryd.prog 58 [(0,.c a0),(1,.c a1)]=some (.agg [.c a0,.c a1]):=by kernel_rfl
theorem ev50 (k:Nat) (x0 x1:AV) (H:Heap):Qav Tryd.prog (Qac tab) (k+1) (.fn 50) [x0,x1] H=QaE H.length (Qas Tryd.prog Tryd.f50.results.toList (Qad Tryd.prog (cxG Tryd.prog (Qac tab) k 50 none) (Tryd.f50.body.getD .skip) (Qao (fr 57 []) 0 [x0,x1]) H)):=by
 have h:=Qap 57 Tryd.func50 rfl (by decide) rfl (P:=Tryd.prog) (h:=Qac tab) (k:=k) (args:=[x0,x1]) (H:=H)
 rw[show (Qac tab).slots 50=0 from rfl,show (List.replicate 0 AObj.slot)=[] from rfl,List.append_nil] at h
 exact h
theorem QoN:Qan tab.fslots 50 1 22=[]:=by rfl
theorem Qxr:Qat tab.keeps 50 1 22=false:=by rfl
theorem QnM:Qan tab.fslots 50 1 32=[]:=by rfl
theorem Que:Qat tab.keeps 50 1 32=false:=by rfl
theorem QvQ:Qan tab.fslots 50 3 1=[]:=by rfl
theorem QzY:Qat tab.keeps 50 3 1=false:=by rfl
theorem ev30 (k:Nat) (x0:AV) (H:Heap):Qav Tryd.prog (Qac tab) (k+1) (.fn 30) [x0] H=QaE H.length (Qas Tryd.prog Tryd.f30.results.toList (Qad Tryd.prog (cxG Tryd.prog (Qac tab) k 30 none) (Tryd.f30.body.getD .skip) (Qao (fr 12 []) 0 [x0]) H)):=by
 have h:=Qap 12 Tryd.func30 rfl (by decide) rfl (P:=Tryd.prog) (h:=Qac tab) (k:=k) (args:=[x0]) (H:=H)
 rw[show (Qac tab).slots 30=0 from rfl,show (List.replicate 0 AObj.slot)=[] from rfl,List.append_nil] at h
 exact h
theorem Q1G:Qa5 tab.slots 30 0 1=none:=by rfl
theorem Qub:Qan tab.fslots 30 1 2=[]:=by rfl
theorem Q3L:rawB tab.keeps 30 1 2=false:=by rfl
theorem Q13:Qat tab.keeps 30 1 2=true:=by rfl
theorem QuS:Qan tab.fslots 30 1 5=[]:=by rfl
theorem Q1C:rawB tab.keeps 30 1 5=false:=by rfl
theorem Q3n:Qat tab.keeps 30 1 5=true:=by rfl
theorem QBL:Qaw Tryd.f30 1 [0,1,3,0,8,31,31,127,255,511]=true:=by kernel_rfl
theorem ev31 (k:Nat) (x0 x1:AV) (H:Heap):Qav Tryd.prog (Qac tab) (k+1) (.fn 31) [x0,x1] H=QaE H.length (Qas Tryd.prog Tryd.f31.results.toList (Qad Tryd.prog (cxG Tryd.prog (Qac tab) k 31 none) (Tryd.f31.body.getD .skip) (Qao (fr 31 []) 0 [x0,x1]) H)):=by
 have h:=Qap 31 Tryd.func31 rfl (by decide) rfl (P:=Tryd.prog) (h:=Qac tab) (k:=k) (args:=[x0,x1]) (H:=H)
 rw[show (Qac tab).slots 31=0 from rfl,show (List.replicate 0 AObj.slot)=[] from rfl,List.append_nil] at h
 exact h
theorem Qq3:Qan tab.fslots 31 1 17=[]:=by rfl
theorem QxJ:Qat tab.keeps 31 1 17=false:=by rfl
theorem Qnr:Qan tab.fslots 31 1 24=[]:=by rfl
theorem QxG:Qat tab.keeps 31 1 24=false:=by rfl
theorem ev62 (k:Nat) (x0 x1:AV) (H:Heap):Qav Tryd.prog (Qac tab) (k+1) (.fn 62) [x0,x1] H=QaE H.length (Qas Tryd.prog Tryd.f62.results.toList (Qad Tryd.prog (cxG Tryd.prog (Qac tab) k 62 none) (Tryd.f62.body.getD .skip) (Qao (fr 100 []) 0 [x0,x1]) H)):=by
 have h:=Qap 100 Tryd.func62 rfl (by decide) rfl (P:=Tryd.prog) (h:=Qac tab) (k:=k) (args:=[x0,x1]) (H:=H)
 rw[show (Qac tab).slots 62=0 from rfl,show (List.replicate 0 AObj.slot)=[] from rfl,List.append_nil] at h
 exact h
theorem ev63 (k:Nat) (x0:AV) (H:Heap):Qav Tryd.prog (Qac tab) (k+1) (.fn 63) [x0] H=QaE H.length (Qas Tryd.prog Tryd.f63.results.toList (Qad Tryd.prog (cxG Tryd.prog (Qac tab) k 63 none) (Tryd.f63.body.getD .skip) (Qao (fr 62 []) 0 [x0]) H)):=by
 have h:=Qap 62 Tryd.func63 rfl (by decide) rfl (P:=Tryd.prog) (h:=Qac tab) (k:=k) (args:=[x0]) (H:=H)
 rw[show (Qac tab).slots 63=0 from rfl,show (List.replicate 0 AObj.slot)=[] from rfl,List.append_nil] at h
 exact h
theorem QtG:Qan tab.fslots 63 1 1=[]:=by rfl
theorem Q0K:Qat tab.keeps 63 1 1=false:=by rfl
theorem Q4v:Qa5 tab.slots 63 3 3=none:=by rfl
theorem Q4g:Qa5 tab.slots 63 3 4=none:=by rfl
theorem Q3K:Qa5 tab.slots 63 4 2=none:=by rfl
theorem Q0W:Qa5 tab.slots 63 4 3=none:=by rfl
theorem Qns:Qan tab.fslots 63 10 1=[]:=by rfl
theorem Qsb:Qat tab.keeps 63 10 1=false:=by rfl
theorem QwK:Qa5 tab.slots 63 12 0=none:=by rfl
theorem QmY:Qan tab.fslots 63 15 1=[]:=by rfl
theorem Qsn:Qat tab.keeps 63 15 1=false:=by rfl
theorem Q4A (cx:Cx) (F:Fr) (H:Heap):Qad Tryd.prog cx Qzf F H=Qad Tryd.prog cx (rfAs Tryd.f63 11) F H:=rfl
theorem Q3c (cx:Cx) (F:Fr) (H:Heap):Qad Tryd.prog cx Qyc F H=Qad Tryd.prog cx (rfBd Tryd.f63 11) F H:=rfl
theorem QEf:Qaw Tryd.f63 14 [0,0,0,0,8,3,35,127,255]=true:=by kernel_rfl
theorem ev64 (k:Nat) (x0 x1:AV) (H:Heap):Qav Tryd.prog (Qac tab) (k+1) (.fn 64) [x0,x1] H=QaE H.length (Qas Tryd.prog Tryd.f64.results.toList (Qad Tryd.prog (cxG Tryd.prog (Qac tab) k 64 none) (Tryd.f64.body.getD .skip) (Qao (fr 9 []) 0 [x0,x1]) H)):=by
 have h:=Qap 9 Tryd.func64 rfl (by decide) rfl (P:=Tryd.prog) (h:=Qac tab) (k:=k) (args:=[x0,x1]) (H:=H)
 rw[show (Qac tab).slots 64=0 from rfl,show (List.replicate 0 AObj.slot)=[] from rfl,List.append_nil] at h
 exact h
theorem ev65 (k:Nat) (x0:AV) (H:Heap):Qav Tryd.prog (Qac tab) (k+1) (.fn 65) [x0] H=QaE H.length (Qas Tryd.prog Tryd.f65.results.toList (Qad Tryd.prog (cxG Tryd.prog (Qac tab) k 65 none) (Tryd.f65.body.getD .skip) (Qao (fr 16 []) 0 [x0]) H)):=by
 have h:=Qap 16 Tryd.func65 rfl (by decide) rfl (P:=Tryd.prog) (h:=Qac tab) (k:=k) (args:=[x0]) (H:=H)
 rw[show (Qac tab).slots 65=0 from rfl,show (List.replicate 0 AObj.slot)=[] from rfl,List.append_nil] at h
 exact h
theorem Qw7:Qan tab.fslots 65 3 2=[]:=by rfl
theorem Q3C:Qat tab.keeps 65 3 2=false:=by rfl
theorem Q8X (k:IntKind) (n:Int):Qke Tryd.prog 3 145 (.c (.int k n))=some (.c (.int .u64 (IntKind.wrap .u64 n))):=by kernel_rfl
theorem ev66 (k:Nat) (x0 x1 x2 x3:AV) (H:Heap):Qav Tryd.prog (Qac tab) (k+1) (.fn 66) [x0,x1,x2,x3] H=QaE H.length (Qas Tryd.prog Tryd.f66.results.toList (Qad Tryd.prog (cxG Tryd.prog (Qac tab) k 66 none) (Tryd.f66.body.getD .skip) (Qao (fr 14 []) 0 [x0,x1,x2,x3]) H)):=by
 have h:=Qap 14 Tryd.func66 rfl (by decide) rfl (P:=Tryd.prog) (h:=Qac tab) (k:=k) (args:=[x0,x1,x2,x3]) (H:=H)
 rw[show (Qac tab).slots 66=0 from rfl,show (List.replicate 0 AObj.slot)=[] from rfl,List.append_nil] at h
 exact h
theorem Q01:Qa5 tab.slots 66 0 0=none:=by rfl
theorem Qjz (a0 a1 a2 a3:IV):QbD Tryd.prog 61 [(0,.c a0),(1,.c a1),(2,.c a2),(4,.c a3)]=some (.agg [.c a0,.c a1,.c a2,.c (.int .i64 0),.c a3]):=by kernel_rfl
theorem ev67 (k:Nat) (x0 x1 x2 x3:AV) (H:Heap):Qav Tryd.prog (Qac tab) (k+1) (.fn 67) [x0,x1,x2,x3] H=QaE H.length (Qas Tryd.prog Tryd.f67.results.toList (Qad Tryd.prog (cxG Tryd.prog (Qac tab) k 67 none) (Tryd.f67.body.getD .skip) (Qao (fr 135 []) 0 [x0,x1,x2,x3]) H)):=by
 have h:=Qap 135 Tryd.func67 rfl (by decide) rfl (P:=Tryd.prog) (h:=Qac tab) (k:=k) (args:=[x0,x1,x2,x3]) (H:=H)
 rw[show (Qac tab).slots 67=0 from rfl,show (List.replicate 0 AObj.slot)=[] from rfl,List.append_nil] at h
 exact h
theorem QnZ:Qan tab.fslots 67 16 6=[]:=by rfl
theorem Qtx:Qat tab.keeps 67 16 6=false:=by rfl
theorem Qpm:Qan tab.fslots 67 25 6=[]:=by rfl
theorem Qwr:Qat tab.keeps 67 25 6=false:=by rfl
theorem QD7:Qaw Tryd.f67 19 [0,0,3,0,15,31]=true:=by kernel_rfl
theorem QDF:Qaw Tryd.f67 21 [0,0,3,0,15,31]=true:=by kernel_rfl
theorem ev68 (k:Nat) (x0 x1:AV) (H:Heap):Qav Tryd.prog (Qac tab) (k+1) (.fn 68) [x0,x1] H=QaE H.length (Qas Tryd.prog Tryd.f68.results.toList (Qad Tryd.prog (cxG Tryd.prog (Qac tab) k 68 none) (Tryd.f68.body.getD .skip) (Qao (fr 49 []) 0 [x0,x1]) H)):=by
 have h:=Qap 49 Tryd.func68 rfl (by decide) rfl (P:=Tryd.prog) (h:=Qac tab) (k:=k) (args:=[x0,x1]) (H:=H)
 rw[show (Qac tab).slots 68=0 from rfl,show (List.replicate 0 AObj.slot)=[] from rfl,List.append_nil] at h
 exact h
theorem Q4D:Qa5 tab.slots 68 0 1=none:=by rfl
theorem QxF:Qa5 tab.slots 68 1 13=none:=by rfl
theorem Qsg:Qan tab.fslots 68 2 1=[]:=by rfl
theorem Q2H:Qat tab.keeps 68 2 1=false:=by rfl
theorem QgJ (a0 a1 a2 a3:IV):QbD Tryd.prog 128 [(0,.c a0),(1,.c a1),(2,.c a2),(3,.c a3)]=some (.agg [.c a0,.c a1,.c a2,.c a3]):=by kernel_rfl
theorem QEQ:Qaw Tryd.f68 1 [0,1,0,4,12,28,0,64,252,508,0,1024,4095,0,16383]=true:=by kernel_rfl
theorem Q8x (x:AV):Qa3 Tryd.prog 128 x 2=QaC x 2:=by kernel_rfl
theorem QFM:Qaw Tryd.f68 3 [0,1,3,7,0,16,63,127,255,511]=true:=by kernel_rfl
theorem Q8B (x:AV):Qa3 Tryd.prog 128 x 1=QaC x 1:=by kernel_rfl
theorem ev69 (k:Nat) (x0:AV) (H:Heap):Qav Tryd.prog (Qac tab) (k+1) (.fn 69) [x0] H=QaE H.length (Qas Tryd.prog Tryd.f69.results.toList (Qad Tryd.prog (cxG Tryd.prog (Qac tab) k 69 none) (Tryd.f69.body.getD .skip) (Qao (fr 4 []) 0 [x0]) H)):=by
 have h:=Qap 4 Tryd.func69 rfl (by decide) rfl (P:=Tryd.prog) (h:=Qac tab) (k:=k) (args:=[x0]) (H:=H)
 rw[show (Qac tab).slots 69=0 from rfl,show (List.replicate 0 AObj.slot)=[] from rfl,List.append_nil] at h
 exact h
theorem ev70 (k:Nat) (x0:AV) (H:Heap):Qav Tryd.prog (Qac tab) (k+1) (.fn 70) [x0] H=QaE H.length (Qas Tryd.prog Tryd.f70.results.toList (Qad Tryd.prog (cxG Tryd.prog (Qac tab) k 70 none) (Tryd.f70.body.getD .skip) (Qao (fr 5 []) 0 [x0]) H)):=by
 have h:=Qap 5 Tryd.func70 rfl (by decide) rfl (P:=Tryd.prog) (h:=Qac tab) (k:=k) (args:=[x0]) (H:=H)
 rw[show (Qac tab).slots 70=0 from rfl,show (List.replicate 0 AObj.slot)=[] from rfl,List.append_nil] at h
 exact h
theorem Q1L:Qa5 tab.slots 70 1 1=none:=by rfl
theorem ms55 (H:Heap) (l c:Int):QaU Tryd.prog H none 55 (.c (.int .i64 l)) (.c (.int .i64 c))=if 0≤l∧l=c∧c.toNat * 32≤roomBytes∧c.toNat≤roomBytes∧2=2∧0<2 then some (.hsl H.length 0 l.toNat (c.toNat * 2) 2,H++[.row false 58 ((List.replicate c.toNat [.bool false,.slice [] 0 true (some 0)]).flatten)]) else none:=by kernel_rfl
theorem ev71 (k:Nat) (x0 x1:AV) (H:Heap):Qav Tryd.prog (Qac tab) (k+1) (.fn 71) [x0,x1] H=QaE H.length (Qas Tryd.prog Tryd.f71.results.toList (Qad Tryd.prog (cxG Tryd.prog (Qac tab) k 71 none) (Tryd.f71.body.getD .skip) (Qao (fr 65 []) 0 [x0,x1]) H)):=by
 have h:=Qap 65 Tryd.func71 rfl (by decide) rfl (P:=Tryd.prog) (h:=Qac tab) (k:=k) (args:=[x0,x1]) (H:=H)
 rw[show (Qac tab).slots 71=0 from rfl,show (List.replicate 0 AObj.slot)=[] from rfl,List.append_nil] at h
 exact h
theorem Qx4:Qan tab.fslots 71 3 1=[]:=by rfl
theorem QzX:Qat tab.keeps 71 3 1=false:=by rfl
theorem Qvi:Qan tab.fslots 71 3 2=[]:=by rfl
theorem Q2o:Qat tab.keeps 71 3 2=false:=by rfl
theorem Qv1:Qan tab.fslots 71 5 6=[]:=by rfl
theorem Q2M:Qat tab.keeps 71 5 6=false:=by rfl
theorem QxX:Qan tab.fslots 71 7 6=[]:=by rfl
theorem Q29:Qat tab.keeps 71 7 6=false:=by rfl
theorem QvA:Qan tab.fslots 71 9 2=[]:=by rfl
theorem Q0d:Qat tab.keeps 71 9 2=false:=by rfl
theorem QuI:Qan tab.fslots 71 9 3=[]:=by rfl
theorem Q3w:Qat tab.keeps 71 9 3=false:=by rfl
theorem QnP:Qan tab.fslots 71 11 2=[]:=by rfl
theorem Qus:Qat tab.keeps 71 11 2=false:=by rfl
theorem Qot:Qan tab.fslots 71 11 3=[]:=by rfl
theorem Qt4:Qat tab.keeps 71 11 3=false:=by rfl
theorem ev72 (k:Nat) (x0 x1:AV) (H:Heap):Qav Tryd.prog (Qac tab) (k+1) (.fn 72) [x0,x1] H=QaE H.length (Qas Tryd.prog Tryd.f72.results.toList (Qad Tryd.prog (cxG Tryd.prog (Qac tab) k 72 none) (Tryd.f72.body.getD .skip) (Qao (fr 29 []) 0 [x0,x1]) H)):=by
 have h:=Qap 29 Tryd.func72 rfl (by decide) rfl (P:=Tryd.prog) (h:=Qac tab) (k:=k) (args:=[x0,x1]) (H:=H)
 rw[show (Qac tab).slots 72=0 from rfl,show (List.replicate 0 AObj.slot)=[] from rfl,List.append_nil] at h
 exact h
theorem QuP:Qan tab.fslots 72 1 1=[]:=by rfl
theorem Q1Y:Qat tab.keeps 72 1 1=false:=by rfl
theorem Qss:Qan tab.fslots 72 1 3=[]:=by rfl
theorem Q3s:Qat tab.keeps 72 1 3=false:=by rfl
theorem QuZ:Qan tab.fslots 72 7 4=[]:=by rfl
theorem Q4u:Qat tab.keeps 72 7 4=false:=by rfl
theorem Qut:Qan tab.fslots 72 8 4=[]:=by rfl
theorem Q32:Qat tab.keeps 72 8 4=false:=by rfl
theorem QFX:Qaw Tryd.f72 1 [0,1,0,7,15,31]=true:=by kernel_rfl
theorem QCm (x:AV):Qa3 Tryd.prog 58 x 1=QaC x 1:=by kernel_rfl
theorem ag56:Qb1 Tryd.prog 56=some false:=by kernel_rfl
theorem sz56:Qb0 Tryd.prog 56=some 1:=by kernel_rfl
theorem QFx (H:Heap) (id off:Nat):QaK Tryd.prog H 56 (.ptr id off)=cellAt H[id]? off:=by kernel_rfl
theorem QGH (H:Heap) (cells:List IV) (off:Nat):QaK Tryd.prog H 56 (.c (.iptr cells off))=(cells[off]?).map .c:=by kernel_rfl
theorem QG8 (H:Heap) (id off ext:Nat):QaK Tryd.prog H 56 (.eptr id off ext)=(rowOf H id ext).bind fun r=>(r.2[off]?).map .c:=by kernel_rfl
theorem ev74 (k:Nat) (x0:AV) (H:Heap):Qav Tryd.prog (Qac tab) (k+1) (.fn 74) [x0] H=QaE H.length (Qas Tryd.prog Tryd.f74.results.toList (Qad Tryd.prog (cxG Tryd.prog (Qac tab) k 74 none) (Tryd.f74.body.getD .skip) (Qao (fr 9 []) 0 [x0]) H)):=by
 have h:=Qap 9 Tryd.func74 rfl (by decide) rfl (P:=Tryd.prog) (h:=Qac tab) (k:=k) (args:=[x0]) (H:=H)
 rw[show (Qac tab).slots 74=0 from rfl,show (List.replicate 0 AObj.slot)=[] from rfl,List.append_nil] at h
 exact h
theorem ev75 (k:Nat) (x0:AV) (H:Heap):Qav Tryd.prog (Qac tab) (k+1) (.fn 75) [x0] H=QaE H.length (Qas Tryd.prog Tryd.f75.results.toList (Qad Tryd.prog (cxG Tryd.prog (Qac tab) k 75 none) (Tryd.f75.body.getD .skip) (Qao (fr 35 []) 0 [x0]) H)):=by
 have h:=Qap 35 Tryd.func75 rfl (by decide) rfl (P:=Tryd.prog) (h:=Qac tab) (k:=k) (args:=[x0]) (H:=H)
 rw[show (Qac tab).slots 75=0 from rfl,show (List.replicate 0 AObj.slot)=[] from rfl,List.append_nil] at h
 exact h
theorem ev60 (k:Nat) (x0:AV) (H:Heap):Qav Tryd.prog (Qac tab) (k+1) (.fn 60) [x0] H=QaE H.length (Qas Tryd.prog Tryd.f60.results.toList (Qad Tryd.prog (cxG Tryd.prog (Qac tab) k 60 none) (Tryd.f60.body.getD .skip) (Qao (fr 8 []) 0 [x0]) H)):=by
 have h:=Qap 8 Tryd.func60 rfl (by decide) rfl (P:=Tryd.prog) (h:=Qac tab) (k:=k) (args:=[x0]) (H:=H)
 rw[show (Qac tab).slots 60=0 from rfl,show (List.replicate 0 AObj.slot)=[] from rfl,List.append_nil] at h
 exact h
theorem Q2G:Qa5 tab.slots 60 3 2=none:=by rfl
theorem QFL (H:Heap) (cells:List IV) (len:Nat) (nl:Bool) (cap cap2:Option Nat):binA Tryd.prog H .eql 22 (.c (.slice cells len nl cap)) (.c (.slice [] 0 true cap2))=some (.c (.bool (nl))):=by kernel_rfl
theorem Q8d (H:Heap):QaI Tryd.prog H 22 0 []=some (.hsl H.length 0 0 (0 * 5) 5,H++[.row false 61 []]):=by kernel_rfl
theorem ev27 (k:Nat) (x0 x1:AV) (H:Heap):Qav Tryd.prog (Qac tab) (k+1) (.fn 27) [x0,x1] H=QaE H.length (Qas Tryd.prog Tryd.f27.results.toList (Qad Tryd.prog (cxG Tryd.prog (Qac tab) k 27 none) (Tryd.f27.body.getD .skip) (Qao (fr 26 []) 0 [x0,x1]) H)):=by
 have h:=Qap 26 Tryd.func27 rfl (by decide) rfl (P:=Tryd.prog) (h:=Qac tab) (k:=k) (args:=[x0,x1]) (H:=H)
 rw[show (Qac tab).slots 27=0 from rfl,show (List.replicate 0 AObj.slot)=[] from rfl,List.append_nil] at h
 exact h
theorem QCF:Qaw Tryd.f27 6 [0,0,3,7,0,0,48,112,255]=true:=by kernel_rfl
theorem ev61 (k:Nat) (x0 x1:AV) (H:Heap):Qav Tryd.prog (Qac tab) (k+1) (.fn 61) [x0,x1] H=QaE H.length (Qas Tryd.prog Tryd.f61.results.toList (Qad Tryd.prog (cxG Tryd.prog (Qac tab) k 61 none) (Tryd.f61.body.getD .skip) (Qao (fr 26 []) 0 [x0,x1]) H)):=by
 have h:=Qap 26 Tryd.func61 rfl (by decide) rfl (P:=Tryd.prog) (h:=Qac tab) (k:=k) (args:=[x0,x1]) (H:=H)
 rw[show (Qac tab).slots 61=0 from rfl,show (List.replicate 0 AObj.slot)=[] from rfl,List.append_nil] at h
 exact h
theorem QBG:Qaw Tryd.f61 6 [0,0,3,7,0,0,48,112,255]=true:=by kernel_rfl
theorem ev86 (k:Nat) (x0:AV) (H:Heap):Qav Tryd.prog (Qac tab) (k+1) (.fn 86) [x0] H=QaE H.length (Qas Tryd.prog Tryd.f86.results.toList (Qad Tryd.prog (cxG Tryd.prog (Qac tab) k 86 none) (Tryd.f86.body.getD .skip) (Qao (fr 12 []) 0 [x0]) H)):=by
 have h:=Qap 12 Tryd.func86 rfl (by decide) rfl (P:=Tryd.prog) (h:=Qac tab) (k:=k) (args:=[x0]) (H:=H)
 rw[show (Qac tab).slots 86=0 from rfl,show (List.replicate 0 AObj.slot)=[] from rfl,List.append_nil] at h
 exact h
theorem QsZ:Qan tab.fslots 86 1 1=[]:=by rfl
theorem Q0e:Qat tab.keeps 86 1 1=false:=by rfl
theorem ev87 (k:Nat) (x0:AV) (H:Heap):Qav Tryd.prog (Qac tab) (k+1) (.fn 87) [x0] H=QaE H.length (Qas Tryd.prog Tryd.f87.results.toList (Qad Tryd.prog (cxG Tryd.prog (Qac tab) k 87 none) (Tryd.f87.body.getD .skip) (Qao (fr 8 []) 0 [x0]) H)):=by
 have h:=Qap 8 Tryd.func87 rfl (by decide) rfl (P:=Tryd.prog) (h:=Qac tab) (k:=k) (args:=[x0]) (H:=H)
 rw[show (Qac tab).slots 87=0 from rfl,show (List.replicate 0 AObj.slot)=[] from rfl,List.append_nil] at h
 exact h
theorem QwP:Qan tab.fslots 87 1 2=[]:=by rfl
theorem Q1h:Qat tab.keeps 87 1 2=false:=by rfl
theorem Qsl:Qan tab.fslots 87 2 1=[]:=by rfl
theorem Q41:Qat tab.keeps 87 2 1=false:=by rfl
theorem Qvh (k:IntKind) (n:Int):Qke Tryd.prog 145 117 (.c (.int k n))=some (.c (.int .u32 (IntKind.wrap .u32 n))):=by kernel_rfl
theorem ev88 (k:Nat) (x0:AV) (H:Heap):Qav Tryd.prog (Qac tab) (k+1) (.fn 88) [x0] H=QaE H.length (Qas Tryd.prog Tryd.f88.results.toList (Qad Tryd.prog (cxG Tryd.prog (Qac tab) k 88 none) (Tryd.f88.body.getD .skip) (Qao (fr 9 []) 0 [x0]) H)):=by
 have h:=Qap 9 Tryd.func88 rfl (by decide) rfl (P:=Tryd.prog) (h:=Qac tab) (k:=k) (args:=[x0]) (H:=H)
 rw[show (Qac tab).slots 88=0 from rfl,show (List.replicate 0 AObj.slot)=[] from rfl,List.append_nil] at h
 exact h
theorem ev89 (k:Nat) (x0 x1:AV) (H:Heap):Qav Tryd.prog (Qac tab) (k+1) (.fn 89) [x0,x1] H=QaE H.length (Qas Tryd.prog Tryd.f89.results.toList (Qad Tryd.prog (cxG Tryd.prog (Qac tab) k 89 none) (Tryd.f89.body.getD .skip) (Qao (fr 18 []) 0 [x0,x1]) H)):=by
 have h:=Qap 18 Tryd.func89 rfl (by decide) rfl (P:=Tryd.prog) (h:=Qac tab) (k:=k) (args:=[x0,x1]) (H:=H)
 rw[show (Qac tab).slots 89=0 from rfl,show (List.replicate 0 AObj.slot)=[] from rfl,List.append_nil] at h
 exact h
theorem Qvg:Qan tab.fslots 89 1 1=[]:=by rfl
theorem Q4e:Qat tab.keeps 89 1 1=false:=by rfl
theorem Qvu:Qan tab.fslots 89 2 2=[]:=by rfl
theorem Q19:Qat tab.keeps 89 2 2=false:=by rfl
theorem Q2s:Qa5 tab.slots 89 4 0=none:=by rfl
theorem Quj:Qan tab.fslots 89 5 3=[]:=by rfl
theorem Q2E:Qat tab.keeps 89 5 3=false:=by rfl
theorem Q6m (cx:Cx) (F:Fr) (H:Heap):Qad Tryd.prog cx Qvd F H=Qad Tryd.prog cx (rfAs Tryd.f89 3) F H:=rfl
theorem Q9J (cx:Cx) (F:Fr) (H:Heap):Qad Tryd.prog cx QsD F H=Qad Tryd.prog cx (rfBd Tryd.f89 3) F H:=rfl
theorem QFO:Qb1 Tryd.prog 148=some false:=by kernel_rfl
theorem QEO:Qb0 Tryd.prog 148=some 1:=by kernel_rfl
theorem QC8 (H:Heap) (id off:Nat):QaK Tryd.prog H 148 (.ptr id off)=cellAt H[id]? off:=by kernel_rfl
theorem QCp (H:Heap) (cells:List IV) (off:Nat):QaK Tryd.prog H 148 (.c (.iptr cells off))=(cells[off]?).map .c:=by kernel_rfl
theorem QDh (H:Heap) (id off ext:Nat):QaK Tryd.prog H 148 (.eptr id off ext)=(rowOf H id ext).bind fun r=>(r.2[off]?).map .c:=by kernel_rfl
theorem ev91 (k:Nat) (x0 x1:AV) (H:Heap):Qav Tryd.prog (Qac tab) (k+1) (.fn 91) [x0,x1] H=QaE H.length (Qas Tryd.prog Tryd.f91.results.toList (Qad Tryd.prog (cxG Tryd.prog (Qac tab) k 91 none) (Tryd.f91.body.getD .skip) (Qao (fr 10 []) 0 [x0,x1]) H)):=by
 have h:=Qap 10 Tryd.func91 rfl (by decide) rfl (P:=Tryd.prog) (h:=Qac tab) (k:=k) (args:=[x0,x1]) (H:=H)
 rw[show (Qac tab).slots 91=0 from rfl,show (List.replicate 0 AObj.slot)=[] from rfl,List.append_nil] at h
 exact h
theorem Qwk:Qan tab.fslots 91 1 4=[]:=by rfl
theorem Q1P:Qat tab.keeps 91 1 4=false:=by rfl
theorem QH8:QbD Tryd.prog 58 []=some (.agg [.c (.bool false),.c (.slice [] 0 true (some 0))]):=by kernel_rfl
theorem ev92 (k:Nat) (x0 x1:AV) (H:Heap):Qav Tryd.prog (Qac tab) (k+1) (.fn 92) [x0,x1] H=QaE H.length (Qas Tryd.prog Tryd.f92.results.toList (Qad Tryd.prog (cxG Tryd.prog (Qac tab) k 92 none) (Tryd.f92.body.getD .skip) (Qao (fr 10 []) 0 [x0,x1]) H)):=by
 have h:=Qap 10 Tryd.func92 rfl (by decide) rfl (P:=Tryd.prog) (h:=Qac tab) (k:=k) (args:=[x0,x1]) (H:=H)
 rw[show (Qac tab).slots 92=0 from rfl,show (List.replicate 0 AObj.slot)=[] from rfl,List.append_nil] at h
 exact h
theorem QsG:Qan tab.fslots 92 1 0=[]:=by rfl
theorem QzW:Qat tab.keeps 92 1 0=false:=by rfl
theorem Qya:Qan tab.fslots 92 1 2=[]:=by rfl
theorem Q1J:Qat tab.keeps 92 1 2=false:=by rfl
theorem Qtm:Qan tab.fslots 92 1 4=[]:=by rfl
theorem Q4a:Qat tab.keeps 92 1 4=false:=by rfl
theorem ev93 (k:Nat) (x0 x1:AV) (H:Heap):Qav Tryd.prog (Qac tab) (k+1) (.fn 93) [x0,x1] H=QaE H.length (Qas Tryd.prog Tryd.f93.results.toList (Qad Tryd.prog (cxG Tryd.prog (Qac tab) k 93 none) (Tryd.f93.body.getD .skip) (Qao (fr 10 []) 0 [x0,x1]) H)):=by
 have h:=Qap 10 Tryd.func93 rfl (by decide) rfl (P:=Tryd.prog) (h:=Qac tab) (k:=k) (args:=[x0,x1]) (H:=H)
 rw[show (Qac tab).slots 93=0 from rfl,show (List.replicate 0 AObj.slot)=[] from rfl,List.append_nil] at h
 exact h
theorem QwX:Qan tab.fslots 93 1 0=[]:=by rfl
theorem Q2a:Qat tab.keeps 93 1 0=false:=by rfl
theorem Qu9:Qan tab.fslots 93 1 2=[]:=by rfl
theorem Q1d:Qat tab.keeps 93 1 2=false:=by rfl
theorem QsR:Qan tab.fslots 93 1 4=[]:=by rfl
theorem Q3d:Qat tab.keeps 93 1 4=false:=by rfl
theorem ev94 (k:Nat) (x0:AV) (H:Heap):Qav Tryd.prog (Qac tab) (k+1) (.fn 94) [x0] H=QaE H.length (Qas Tryd.prog Tryd.f94.results.toList (Qad Tryd.prog (cxG Tryd.prog (Qac tab) k 94 none) (Tryd.f94.body.getD .skip) (Qao (fr 17 []) 0 [x0]) H)):=by
 have h:=Qap 17 Tryd.func94 rfl (by decide) rfl (P:=Tryd.prog) (h:=Qac tab) (k:=k) (args:=[x0]) (H:=H)
 rw[show (Qac tab).slots 94=0 from rfl,show (List.replicate 0 AObj.slot)=[] from rfl,List.append_nil] at h
 exact h
theorem Q23:Qa5 tab.slots 94 0 1=none:=by rfl
theorem Qxw:Qan tab.fslots 94 2 2=[]:=by rfl
theorem Q05:Qat tab.keeps 94 2 2=false:=by rfl
theorem Qx7:Qan tab.fslots 94 3 2=[]:=by rfl
theorem Q27:Qat tab.keeps 94 3 2=false:=by rfl
theorem ev95 (k:Nat) (x0 x1:AV) (H:Heap):Qav Tryd.prog (Qac tab) (k+1) (.fn 95) [x0,x1] H=QaE H.length (Qas Tryd.prog Tryd.f95.results.toList (Qad Tryd.prog (cxG Tryd.prog (Qac tab) k 95 none) (Tryd.f95.body.getD .skip) (Qao (fr 32 []) 0 [x0,x1]) (H++[.slot]))):=Qap 32 Tryd.func95 rfl (by decide) rfl
theorem Qwd:Qan tab.fslots 95 5 5=[]:=by rfl
theorem Q0G:Qat tab.keeps 95 5 5=false:=by rfl
theorem Q2f:Qa5 tab.slots 95 5 9=none:=by rfl
theorem Q44:Qa5 tab.slots 95 8 3=some 0:=by rfl
theorem QBT:Qaw Tryd.f95 5 [0,0,3,7,0,31,63,127,127,0,767,2047]=true:=by kernel_rfl
theorem ev96 (k:Nat) (x0:AV) (H:Heap):Qav Tryd.prog (Qac tab) (k+1) (.fn 96) [x0] H=QaE H.length (Qas Tryd.prog Tryd.f96.results.toList (Qad Tryd.prog (cxG Tryd.prog (Qac tab) k 96 none) (Tryd.f96.body.getD .skip) (Qao (fr 9 []) 0 [x0]) H)):=by
 have h:=Qap 9 Tryd.func96 rfl (by decide) rfl (P:=Tryd.prog) (h:=Qac tab) (k:=k) (args:=[x0]) (H:=H)
 rw[show (Qac tab).slots 96=0 from rfl,show (List.replicate 0 AObj.slot)=[] from rfl,List.append_nil] at h
 exact h
theorem QCu (x:AV):Qa3 Tryd.prog 58 x 0=QaC x 0:=by kernel_rfl
theorem ev97 (k:Nat) (x0 x1:AV) (H:Heap):Qav Tryd.prog (Qac tab) (k+1) (.fn 97) [x0,x1] H=QaE H.length (Qas Tryd.prog Tryd.f97.results.toList (Qad Tryd.prog (cxG Tryd.prog (Qac tab) k 97 none) (Tryd.f97.body.getD .skip) (Qao (fr 41 []) 0 [x0,x1]) H)):=by
 have h:=Qap 41 Tryd.func97 rfl (by decide) rfl (P:=Tryd.prog) (h:=Qac tab) (k:=k) (args:=[x0,x1]) (H:=H)
 rw[show (Qac tab).slots 97=0 from rfl,show (List.replicate 0 AObj.slot)=[] from rfl,List.append_nil] at h
 exact h
theorem Q8a:Qaw Tryd.f97 8 [0,0,3,7,0,0,48,112,255]=true:=by kernel_rfl
theorem Q8E:Qaw Tryd.f97 10 [0,0,3,7,0,0,48,112,255]=true:=by kernel_rfl
theorem ev107 (k:Nat) (x0:AV) (H:Heap):Qav Tryd.prog (Qac tab) (k+1) (.fn 107) [x0] H=QaE H.length (Qas Tryd.prog Tryd.f107.results.toList (Qad Tryd.prog (cxG Tryd.prog (Qac tab) k 107 none) (Tryd.f107.body.getD .skip) (Qao (fr 14 []) 0 [x0]) H)):=by
 have h:=Qap 14 Tryd.func107 rfl (by decide) rfl (P:=Tryd.prog) (h:=Qac tab) (k:=k) (args:=[x0]) (H:=H)
 rw[show (Qac tab).slots 107=0 from rfl,show (List.replicate 0 AObj.slot)=[] from rfl,List.append_nil] at h
 exact h
theorem QDk (H:Heap) (x:AV) (k:IntKind) (i:Int):Qa9 Tryd.prog H 174 x (.c (.int k i))=if 0≤i∧i<(32:Nat) then QaC x (i.toNat * 1) else none:=by kernel_rfl
theorem ag5:Qb1 Tryd.prog 5=some false:=by kernel_rfl
theorem sz5:Qb0 Tryd.prog 5=some 1:=by kernel_rfl
theorem ldp5 (H:Heap) (id off:Nat):QaK Tryd.prog H 5 (.ptr id off)=cellAt H[id]? off:=by kernel_rfl
theorem ldi5 (H:Heap) (cells:List IV) (off:Nat):QaK Tryd.prog H 5 (.c (.iptr cells off))=(cells[off]?).map .c:=by kernel_rfl
theorem lde5 (H:Heap) (id off ext:Nat):QaK Tryd.prog H 5 (.eptr id off ext)=(rowOf H id ext).bind fun r=>(r.2[off]?).map .c:=by kernel_rfl
theorem QGb (k:IntKind) (n:Int):Qke Tryd.prog 5 3 (.c (.int k n))=some (.c (.int .i64 (IntKind.wrap .i64 n))):=by kernel_rfl
theorem ev108 (k:Nat) (x0:AV) (H:Heap):Qav Tryd.prog (Qac tab) (k+1) (.fn 108) [x0] H=QaE H.length (Qas Tryd.prog Tryd.f108.results.toList (Qad Tryd.prog (cxG Tryd.prog (Qac tab) k 108 none) (Tryd.f108.body.getD .skip) (Qao (fr 14 []) 0 [x0]) H)):=by
 have h:=Qap 14 Tryd.func108 rfl (by decide) rfl (P:=Tryd.prog) (h:=Qac tab) (k:=k) (args:=[x0]) (H:=H)
 rw[show (Qac tab).slots 108=0 from rfl,show (List.replicate 0 AObj.slot)=[] from rfl,List.append_nil] at h
 exact h
theorem QBF (H:Heap) (x:AV) (k:IntKind) (i:Int):Qa9 Tryd.prog H 175 x (.c (.int k i))=if 0≤i∧i<(64:Nat) then QaC x (i.toNat * 1) else none:=by kernel_rfl
theorem ev90 (k:Nat) (x0:AV) (H:Heap):Qav Tryd.prog (Qac tab) (k+1) (.fn 90) [x0] H=QaE H.length (Qas Tryd.prog Tryd.f90.results.toList (Qad Tryd.prog (cxG Tryd.prog (Qac tab) k 90 none) (Tryd.f90.body.getD .skip) (Qao (fr 4 []) 0 [x0]) H)):=by
 have h:=Qap 4 Tryd.func90 rfl (by decide) rfl (P:=Tryd.prog) (h:=Qac tab) (k:=k) (args:=[x0]) (H:=H)
 rw[show (Qac tab).slots 90=0 from rfl,show (List.replicate 0 AObj.slot)=[] from rfl,List.append_nil] at h
 exact h
theorem ev110 (k:Nat) (x0 x1 x2 x3:AV) (H:Heap):Qav Tryd.prog (Qac tab) (k+1) (.fn 110) [x0,x1,x2,x3] H=QaE H.length (Qas Tryd.prog Tryd.f110.results.toList (Qad Tryd.prog (cxG Tryd.prog (Qac tab) k 110 none) (Tryd.f110.body.getD .skip) (Qao (fr 34 []) 0 [x0,x1,x2,x3]) (H++[.slot]))):=Qap 34 Tryd.func110 rfl (by decide) rfl
theorem Qqq:Qan tab.fslots 110 5 6=[]:=by rfl
theorem Qun:Qat tab.keeps 110 5 6=false:=by rfl
theorem Qlf:Qan tab.fslots 110 5 12=[]:=by rfl
theorem QpM:Qat tab.keeps 110 5 12=false:=by rfl
theorem Qkl:Qan tab.fslots 110 5 13=[]:=by rfl
theorem Qov:Qat tab.keeps 110 5 13=false:=by rfl
theorem Qph:Qa5 tab.slots 110 5 15=some 0:=by rfl
theorem QE6:Qaw Tryd.f110 5 [0,0,0,0,12,28,62,0,0,0,768,1792,4094,8190,16382,32767,65535]=true:=by kernel_rfl
theorem ev111 (k:Nat) (x0:AV) (H:Heap):Qav Tryd.prog (Qac tab) (k+1) (.fn 111) [x0] H=QaE H.length (Qas Tryd.prog Tryd.f111.results.toList (Qad Tryd.prog (cxG Tryd.prog (Qac tab) k 111 none) (Tryd.f111.body.getD .skip) (Qao (fr 17 []) 0 [x0]) H)):=by
 have h:=Qap 17 Tryd.func111 rfl (by decide) rfl (P:=Tryd.prog) (h:=Qac tab) (k:=k) (args:=[x0]) (H:=H)
 rw[show (Qac tab).slots 111=0 from rfl,show (List.replicate 0 AObj.slot)=[] from rfl,List.append_nil] at h
 exact h
theorem QuH:Qa5 tab.slots 111 0 0=none:=by rfl
theorem QuN:Qa5 tab.slots 111 1 3=none:=by rfl
theorem Qpj:Qan tab.fslots 111 3 1=[]:=by rfl
theorem Qvy:Qat tab.keeps 111 3 1=false:=by rfl
theorem ms56 (H:Heap) (l c:Int):QaU Tryd.prog H none 56 (.c (.int .i64 l)) (.c (.int .i64 c))=if 0≤l∧l=c∧c.toNat * 4≤roomBytes∧c.toNat≤roomBytes∧1=1∧0<1 then some (.hsl H.length 0 l.toNat (c.toNat * 1) 1,H++[.row false 117 ((List.replicate c.toNat [.int .u32 0]).flatten)]) else none:=by kernel_rfl
theorem QGR (k:Nat) (x0 x1:AV) (H:Heap):Qav Tryd.prog (Qac tab) (k+1) (.fn 112) [x0,x1] H=QaE H.length (Qas Tryd.prog Tryd.f112.results.toList (Qad Tryd.prog (cxG Tryd.prog (Qac tab) k 112 none) (Tryd.f112.body.getD .skip) (Qao (fr 20 []) 0 [x0,x1]) H)):=by
 have h:=Qap 20 Tryd.func112 rfl (by decide) rfl (P:=Tryd.prog) (h:=Qac tab) (k:=k) (args:=[x0,x1]) (H:=H)
 rw[show (Qac tab).slots 112=0 from rfl,show (List.replicate 0 AObj.slot)=[] from rfl,List.append_nil] at h
 exact h
theorem Qxl:Qa5 tab.slots 112 0 2=none:=by rfl
theorem QmW:Qan tab.fslots 112 1 2=[]:=by rfl
theorem Qx2:Qat tab.keeps 112 1 2=false:=by rfl
theorem QwT:Qa5 tab.slots 112 1 6=none:=by rfl
theorem Qs6:Qa5 tab.slots 112 1 7=none:=by rfl
theorem QF6 (k:Nat) (x0 x1:AV) (H:Heap):Qav Tryd.prog (Qac tab) (k+1) (.fn 109) [x0,x1] H=QaE H.length (Qas Tryd.prog Tryd.f109.results.toList (Qad Tryd.prog (cxG Tryd.prog (Qac tab) k 109 none) (Tryd.f109.body.getD .skip) (Qao (fr 19 []) 0 [x0,x1]) H)):=by
 have h:=Qap 19 Tryd.func109 rfl (by decide) rfl (P:=Tryd.prog) (h:=Qac tab) (k:=k) (args:=[x0,x1]) (H:=H)
 rw[show (Qac tab).slots 109=0 from rfl,show (List.replicate 0 AObj.slot)=[] from rfl,List.append_nil] at h
 exact h
theorem QqA:Qan tab.fslots 109 3 6=[]:=by rfl
theorem QwY:Qat tab.keeps 109 3 6=false:=by rfl
theorem QE4 (k:Nat) (x0 x1:AV) (H:Heap):Qav Tryd.prog (Qac tab) (k+1) (.fn 119) [x0,x1] H=QaE H.length (Qas Tryd.prog Tryd.f119.results.toList (Qad Tryd.prog (cxG Tryd.prog (Qac tab) k 119 none) (Tryd.f119.body.getD .skip) (Qao (fr 40 []) 0 [x0,x1]) H)):=by
 have h:=Qap 40 Tryd.func119 rfl (by decide) rfl (P:=Tryd.prog) (h:=Qac tab) (k:=k) (args:=[x0,x1]) (H:=H)
 rw[show (Qac tab).slots 119=0 from rfl,show (List.replicate 0 AObj.slot)=[] from rfl,List.append_nil] at h
 exact h
theorem QuQ:Qa5 tab.slots 119 0 2=none:=by rfl
theorem QoA:Qan tab.fslots 119 2 6=[]:=by rfl
theorem Qt9:Qat tab.keeps 119 2 6=false:=by rfl
theorem Qo6:Qan tab.fslots 119 2 7=[]:=by rfl
theorem QvH:Qat tab.keeps 119 2 7=false:=by rfl
theorem Qnf:Qan tab.fslots 119 3 4=[]:=by rfl
theorem QvV:Qat tab.keeps 119 3 4=false:=by rfl
theorem QnK:Qan tab.fslots 119 4 6=[]:=by rfl
theorem QxL:Qat tab.keeps 119 4 6=false:=by rfl
theorem Qn8:Qan tab.fslots 119 4 7=[]:=by rfl
theorem Qwz:Qat tab.keeps 119 4 7=false:=by rfl
theorem QpN:Qan tab.fslots 119 5 6=[]:=by rfl
theorem QwC:Qat tab.keeps 119 5 6=false:=by rfl
theorem QoT:Qan tab.fslots 119 5 7=[]:=by rfl
theorem QuC:Qat tab.keeps 119 5 7=false:=by rfl
theorem eqb4 (H:Heap) (a b:Bool):binA Tryd.prog H .eql 4 (.c (.bool a)) (.c (.bool b))=some (.c (.bool ((a == b)))):=by kernel_rfl
theorem QDO:Qaw Tryd.f119 2 [0,1,0,4,0,16,60,127,255]=true:=by kernel_rfl
theorem QDB:Qaw Tryd.f119 4 [0,1,0,4,0,16,60,127,255]=true:=by kernel_rfl
theorem QDZ:Qaw Tryd.f119 5 [0,1,0,4,0,16,60,127,255]=true:=by kernel_rfl
theorem ev120 (k:Nat) (x0 x1:AV) (H:Heap):Qav Tryd.prog (Qac tab) (k+1) (.fn 120) [x0,x1] H=QaE H.length (Qas Tryd.prog Tryd.f120.results.toList (Qad Tryd.prog (cxG Tryd.prog (Qac tab) k 120 none) (Tryd.f120.body.getD .skip) (Qao (fr 82 []) 0 [x0,x1]) H)):=by
 have h:=Qap 82 Tryd.func120 rfl (by decide) rfl (P:=Tryd.prog) (h:=Qac tab) (k:=k) (args:=[x0,x1]) (H:=H)
 rw[show (Qac tab).slots 120=0 from rfl,show (List.replicate 0 AObj.slot)=[] from rfl,List.append_nil] at h
 exact h
theorem QxV:Qa5 tab.slots 120 0 2=none:=by rfl
theorem Qsv:Qa5 tab.slots 120 1 8=none:=by rfl
theorem QkS:Qan tab.fslots 120 14 6=[]:=by rfl
theorem Qpn:Qat tab.keeps 120 14 6=false:=by rfl
theorem QvP (k:IntKind) (n:Int):Qke Tryd.prog 117 116 (.c (.int k n))=some (.c (.int .u64 (IntKind.wrap .u64 n))):=by kernel_rfl
theorem QAR:Qaw Tryd.f120 11 [0,0,2,0,14,30,62,0,128,0,896,1920,3968,8190,16383,32767]=true:=by kernel_rfl
theorem neb4 (H:Heap) (a b:Bool):binA Tryd.prog H .neq 4 (.c (.bool a)) (.c (.bool b))=some (.c (.bool (!(a == b)))):=by kernel_rfl
theorem QHE (k:Nat) (x0 x1:AV) (H:Heap):Qav Tryd.prog (Qac tab) (k+1) (.fn 121) [x0,x1] H=QaE H.length (Qas Tryd.prog Tryd.f121.results.toList (Qad Tryd.prog (cxG Tryd.prog (Qac tab) k 121 none) (Tryd.f121.body.getD .skip) (Qao (fr 42 []) 0 [x0,x1]) (H++[.slot,.slot]))):=Qap 42 Tryd.func121 rfl (by decide) rfl
theorem Qvw:Qa5 tab.slots 121 0 2=none:=by rfl
theorem Qt6:Qa5 tab.slots 121 0 3=none:=by rfl
theorem Qoo:Qan tab.fslots 121 1 4=[]:=by rfl
theorem Qsy:Qat tab.keeps 121 1 4=false:=by rfl
theorem Qos:Qan tab.fslots 121 2 6=[]:=by rfl
theorem Qvo:Qat tab.keeps 121 2 6=false:=by rfl
theorem Qlk:Qan tab.fslots 121 2 10=[]:=by rfl
theorem Qpz:Qat tab.keeps 121 2 10=false:=by rfl
theorem QnU:Qa5 tab.slots 121 2 11=some 0:=by rfl
theorem Qnz:Qa5 tab.slots 121 2 12=some 1:=by rfl
theorem Qn7:Qan tab.fslots 121 4 2=[]:=by rfl
theorem Qxu:Qat tab.keeps 121 4 2=false:=by rfl
theorem Qoa:Qan tab.fslots 121 4 3=[]:=by rfl
theorem QtC:Qat tab.keeps 121 4 3=false:=by rfl
theorem Qna:Qan tab.fslots 121 5 2=[]:=by rfl
theorem QwL:Qat tab.keeps 121 5 2=false:=by rfl
theorem Qql:Qan tab.fslots 121 5 3=[]:=by rfl
theorem Qur:Qat tab.keeps 121 5 3=false:=by rfl
theorem QnB:Qan tab.fslots 121 5 4=[]:=by rfl
theorem Qw6:Qat tab.keeps 121 5 4=false:=by rfl
theorem Q87:Qaw Tryd.f121 2 [0,1,0,4,15,0,63,0,128,0,1023,0,0,8191,16383]=true:=by kernel_rfl
theorem QEz:Qaw Tryd.f121 4 [0,0,2,7,15]=true:=by kernel_rfl
theorem QEi:Qaw Tryd.f121 5 [0,0,2,6,15,31]=true:=by kernel_rfl
theorem Q9f:Qaw Tryd.f121 6 [0,0,1,7]=true:=by kernel_rfl
theorem ev124 (k:Nat) (x0 x1:AV) (H:Heap):Qav Tryd.prog (Qac tab) (k+1) (.fn 124) [x0,x1] H=QaE H.length (Qas Tryd.prog Tryd.f124.results.toList (Qad Tryd.prog (cxG Tryd.prog (Qac tab) k 124 none) (Tryd.f124.body.getD .skip) (Qao (fr 52 []) 0 [x0,x1]) (H++[.slot]))):=Qap 52 Tryd.func124 rfl (by decide) rfl
theorem QnI:Qa5 tab.slots 124 10 4=some 0:=by rfl
theorem QFg (k:Nat) (x0 x1:AV) (H:Heap):Qav Tryd.prog (Qac tab) (k+1) (.fn 125) [x0,x1] H=QaE H.length (Qas Tryd.prog Tryd.f125.results.toList (Qad Tryd.prog (cxG Tryd.prog (Qac tab) k 125 none) (Tryd.f125.body.getD .skip) (Qao (fr 43 []) 0 [x0,x1]) (H++[.slot]))):=Qap 43 Tryd.func125 rfl (by decide) rfl
theorem QoY:Qa5 tab.slots 125 14 5=some 0:=by rfl
theorem QFs (k:Nat) (x0 x1:AV) (H:Heap):Qav Tryd.prog (Qac tab) (k+1) (.fn 126) [x0,x1] H=QaE H.length (Qas Tryd.prog Tryd.f126.results.toList (Qad Tryd.prog (cxG Tryd.prog (Qac tab) k 126 none) (Tryd.f126.body.getD .skip) (Qao (fr 124 []) 0 [x0,x1]) H)):=by
 have h:=Qap 124 Tryd.func126 rfl (by decide) rfl (P:=Tryd.prog) (h:=Qac tab) (k:=k) (args:=[x0,x1]) (H:=H)
 rw[show (Qac tab).slots 126=0 from rfl,show (List.replicate 0 AObj.slot)=[] from rfl,List.append_nil] at h
 exact h
theorem Qxe:Qa5 tab.slots 126 2 2=none:=by rfl
theorem QkL:Qan tab.fslots 126 10 1=[]:=by rfl
theorem QqD:Qat tab.keeps 126 10 1=false:=by rfl
theorem Qmq:Qan tab.fslots 126 10 6=[]:=by rfl
theorem Qn0:Qat tab.keeps 126 10 6=false:=by rfl
theorem Qno:Qa5 tab.slots 126 11 2=none:=by rfl
theorem QkQ:Qan tab.fslots 126 13 1=[]:=by rfl
theorem Qpf:Qat tab.keeps 126 13 1=false:=by rfl
theorem QlT:Qan tab.fslots 126 16 2=[]:=by rfl
theorem Qpc:Qat tab.keeps 126 16 2=false:=by rfl
theorem Qne:Qa5 tab.slots 126 24 3=none:=by rfl
theorem Qka:Qan tab.fslots 126 25 2=[]:=by rfl
theorem QpD:Qat tab.keeps 126 25 2=false:=by rfl
theorem Ql2:Qan tab.fslots 126 26 2=[]:=by rfl
theorem QoW:rawB tab.keeps 126 26 2=false:=by rfl
theorem Qp3:Qat tab.keeps 126 26 2=true:=by rfl
theorem Qkp:Qan tab.fslots 126 26 3=[]:=by rfl
theorem Qqz:rawB tab.keeps 126 26 3=true:=by rfl
theorem QqB:Qat tab.keeps 126 26 3=true:=by rfl
theorem Ql0:Qan tab.fslots 126 28 1=[]:=by rfl
theorem Qod:Qat tab.keeps 126 28 1=false:=by rfl
theorem QCt (cs:List AV):QoM Tryd.prog 58 (.agg cs) 1=cs[1]?:=by kernel_rfl
theorem QzI:Qaw Tryd.f126 27 [0,0,2,0,0,16,56,120,0,256,768,2040,4095,8191]=true:=by kernel_rfl
theorem ev127 (k:Nat) (x0:AV) (H:Heap):Qav Tryd.prog (Qac tab) (k+1) (.fn 127) [x0] H=QaE H.length (Qas Tryd.prog Tryd.f127.results.toList (Qad Tryd.prog (cxG Tryd.prog (Qac tab) k 127 none) (Tryd.f127.body.getD .skip) (Qao (fr 6 []) 0 [x0]) H)):=by
 have h:=Qap 6 Tryd.func127 rfl (by decide) rfl (P:=Tryd.prog) (h:=Qac tab) (k:=k) (args:=[x0]) (H:=H)
 rw[show (Qac tab).slots 127=0 from rfl,show (List.replicate 0 AObj.slot)=[] from rfl,List.append_nil] at h
 exact h
theorem Qxp:Qa5 tab.slots 127 0 1=none:=by rfl
theorem Qqu:Qan tab.fslots 127 1 2=[]:=by rfl
theorem Qts:Qat tab.keeps 127 1 2=false:=by rfl
theorem ev128 (k:Nat) (x0 x1:AV) (H:Heap):Qav Tryd.prog (Qac tab) (k+1) (.fn 128) [x0,x1] H=QaE H.length (Qas Tryd.prog Tryd.f128.results.toList (Qad Tryd.prog (cxG Tryd.prog (Qac tab) k 128 none) (Tryd.f128.body.getD .skip) (Qao (fr 9 []) 0 [x0,x1]) H)):=by
 have h:=Qap 9 Tryd.func128 rfl (by decide) rfl (P:=Tryd.prog) (h:=Qac tab) (k:=k) (args:=[x0,x1]) (H:=H)
 rw[show (Qac tab).slots 128=0 from rfl,show (List.replicate 0 AObj.slot)=[] from rfl,List.append_nil] at h
 exact h
theorem Qtz:Qa5 tab.slots 128 0 2=none:=by rfl
theorem Qq0:Qan tab.fslots 128 1 2=[]:=by rfl
theorem Qu0:Qat tab.keeps 128 1 2=false:=by rfl
theorem Qpi:Qan tab.fslots 128 1 3=[]:=by rfl
theorem Qty:Qat tab.keeps 128 1 3=false:=by rfl
theorem QD4:Qaw Tryd.f128 1 [0,0,2,7,15]=true:=by kernel_rfl
theorem ev129 (k:Nat) (x0:AV) (H:Heap):Qav Tryd.prog (Qac tab) (k+1) (.fn 129) [x0] H=QaE H.length (Qas Tryd.prog Tryd.f129.results.toList (Qad Tryd.prog (cxG Tryd.prog (Qac tab) k 129 none) (Tryd.f129.body.getD .skip) (Qao (fr 25 []) 0 [x0]) H)):=by
 have h:=Qap 25 Tryd.func129 rfl (by decide) rfl (P:=Tryd.prog) (h:=Qac tab) (k:=k) (args:=[x0]) (H:=H)
 rw[show (Qac tab).slots 129=0 from rfl,show (List.replicate 0 AObj.slot)=[] from rfl,List.append_nil] at h
 exact h
theorem ev130 (k:Nat) (x0 x1:AV) (H:Heap):Qav Tryd.prog (Qac tab) (k+1) (.fn 130) [x0,x1] H=QaE H.length (Qas Tryd.prog Tryd.f130.results.toList (Qad Tryd.prog (cxG Tryd.prog (Qac tab) k 130 none) (Tryd.f130.body.getD .skip) (Qao (fr 14 []) 0 [x0,x1]) H)):=by
 have h:=Qap 14 Tryd.func130 rfl (by decide) rfl (P:=Tryd.prog) (h:=Qac tab) (k:=k) (args:=[x0,x1]) (H:=H)
 rw[show (Qac tab).slots 130=0 from rfl,show (List.replicate 0 AObj.slot)=[] from rfl,List.append_nil] at h
 exact h
theorem ev131 (k:Nat) (x0:AV) (H:Heap):Qav Tryd.prog (Qac tab) (k+1) (.fn 131) [x0] H=QaE H.length (Qas Tryd.prog Tryd.f131.results.toList (Qad Tryd.prog (cxG Tryd.prog (Qac tab) k 131 none) (Tryd.f131.body.getD .skip) (Qao (fr 9 []) 0 [x0]) H)):=by
 have h:=Qap 9 Tryd.func131 rfl (by decide) rfl (P:=Tryd.prog) (h:=Qac tab) (k:=k) (args:=[x0]) (H:=H)
 rw[show (Qac tab).slots 131=0 from rfl,show (List.replicate 0 AObj.slot)=[] from rfl,List.append_nil] at h
 exact h
theorem QtD:Qa5 tab.slots 131 0 1=none:=by rfl
theorem Qpr:Qan tab.fslots 131 1 5=[]:=by rfl
theorem QvZ:Qat tab.keeps 131 1 5=false:=by rfl
theorem QC7 (cx:Cx) (F:Fr) (H:Heap):Qad Tryd.prog cx QBo F H=Qad Tryd.prog cx (Qag Tryd.f6 3) F H:=rfl
theorem QBP (cx:Cx) (F:Fr) (H:Heap):Qad Tryd.prog cx QBk F H=Qad Tryd.prog cx (Qag Tryd.f6 9) F H:=rfl
theorem QCJ (cx:Cx) (F:Fr) (H:Heap):Qad Tryd.prog cx QBl F H=Qad Tryd.prog cx (Qag Tryd.f8 3) F H:=rfl
theorem Q7l (cx:Cx) (F:Fr) (H:Heap):Qad Tryd.prog cx Q3H F H=Qad Tryd.prog cx (Qag Tryd.f14 4) F H:=rfl
theorem QAo (cx:Cx) (F:Fr) (H:Heap):Qad Tryd.prog cx Q1Z F H=Qad Tryd.prog cx (Qag Tryd.f14 9) F H:=rfl
theorem Q9N (cx:Cx) (F:Fr) (H:Heap):Qad Tryd.prog cx Q4H F H=Qad Tryd.prog cx (Qag Tryd.f15 6) F H:=rfl
theorem Q38 (cx:Cx) (F:Fr) (H:Heap):Qad Tryd.prog cx QkE F H=Qad Tryd.prog cx (Qag Tryd.f15 14) F H:=rfl
theorem Q1m (cx:Cx) (F:Fr) (H:Heap):Qad Tryd.prog cx Qkx F H=Qad Tryd.prog cx (Qag Tryd.f15 22) F H:=rfl
theorem Q2C (cx:Cx) (F:Fr) (H:Heap):Qad Tryd.prog cx Qmg F H=Qad Tryd.prog cx (Qag Tryd.f15 32) F H:=rfl
theorem Q95 (cx:Cx) (F:Fr) (H:Heap):Qad Tryd.prog cx Q3Y F H=Qad Tryd.prog cx (Qag Tryd.f16 6) F H:=rfl
theorem Q9v (cx:Cx) (F:Fr) (H:Heap):Qad Tryd.prog cx Q7Q F H=Qad Tryd.prog cx (Qag Tryd.f16 9) F H:=rfl
theorem Q8u (cx:Cx) (F:Fr) (H:Heap):Qad Tryd.prog cx Q16 F H=Qad Tryd.prog cx (Qag Tryd.f17 7) F H:=rfl
theorem Q0v (cx:Cx) (F:Fr) (H:Heap):Qad Tryd.prog cx QrL F H=Qad Tryd.prog cx (Qag Tryd.f17 19) F H:=rfl
theorem QAc (cx:Cx) (F:Fr) (H:Heap):Qad Tryd.prog cx Q3A F H=Qad Tryd.prog cx (Qag Tryd.f18 6) F H:=rfl
theorem Q4o (cx:Cx) (F:Fr) (H:Heap):Qad Tryd.prog cx QqT F H=Qad Tryd.prog cx (Qag Tryd.f19 11) F H:=rfl
theorem QBK:Qek Tryd.prog Q4l 4 2 0 [4,18,19,20,21,24,25,27,22,23,26] 37 5 61=true:=by kernel_rfl
theorem Q7j (cx:Cx) (F:Fr) (H:Heap):Qad Tryd.prog cx Q4l F H=Qad Tryd.prog cx (Qag Tryd.f20 3) F H:=rfl
theorem QDj:Qek Tryd.prog Q0X 5 3 2 [5,28,29,30,31,34,35,36,32,33] 37 1 3=true:=by kernel_rfl
theorem Q9d (cx:Cx) (F:Fr) (H:Heap):Qad Tryd.prog cx Q0X F H=Qad Tryd.prog cx (Qag Tryd.f20 7) F H:=rfl
theorem Q6z (cx:Cx) (F:Fr) (H:Heap):Qad Tryd.prog cx Q2X F H=Qad Tryd.prog cx (Qag Tryd.f23 4) F H:=rfl
theorem Q0S (cx:Cx) (F:Fr) (H:Heap):Qad Tryd.prog cx Qrz F H=Qad Tryd.prog cx (Qag Tryd.f23 10) F H:=rfl
theorem Q6h (cx:Cx) (F:Fr) (H:Heap):Qad Tryd.prog cx QzP F H=Qad Tryd.prog cx (Qag Tryd.f27 4) F H:=rfl
theorem Q8e (cx:Cx) (F:Fr) (H:Heap):Qad Tryd.prog cx QpC F H=Qad Tryd.prog cx (Qag Tryd.f28 5) F H:=rfl
theorem Q9Z (cx:Cx) (F:Fr) (H:Heap):Qad Tryd.prog cx Q60 F H=Qad Tryd.prog cx (Qag Tryd.f29 5) F H:=rfl
theorem QAd (cx:Cx) (F:Fr) (H:Heap):Qad Tryd.prog cx QeE F H=Qad Tryd.prog cx (Qag Tryd.f29 8) F H:=rfl
theorem Q9A (cx:Cx) (F:Fr) (H:Heap):Qad Tryd.prog cx Q0U F H=Qad Tryd.prog cx (Qag Tryd.f32 4) F H:=rfl
theorem Q6G (cx:Cx) (F:Fr) (H:Heap):Qad Tryd.prog cx Q1T F H=Qad Tryd.prog cx (Qag Tryd.f32 9) F H:=rfl
theorem Q9W (cx:Cx) (F:Fr) (H:Heap):Qad Tryd.prog cx Q20 F H=Qad Tryd.prog cx (Qag Tryd.f33 8) F H:=rfl
theorem Q2y (cx:Cx) (F:Fr) (H:Heap):Qad Tryd.prog cx QrF F H=Qad Tryd.prog cx (Qag Tryd.f33 13) F H:=rfl
theorem Q0g (cx:Cx) (F:Fr) (H:Heap):Qad Tryd.prog cx QqS F H=Qad Tryd.prog cx (Qag Tryd.f33 17) F H:=rfl
theorem Q2T (cx:Cx) (F:Fr) (H:Heap):Qad Tryd.prog cx QqZ F H=Qad Tryd.prog cx (Qag Tryd.f33 28) F H:=rfl
theorem Q8v (cx:Cx) (F:Fr) (H:Heap):Qad Tryd.prog cx Q12 F H=Qad Tryd.prog cx (Qag Tryd.f36 2) F H:=rfl
theorem QAa (cx:Cx) (F:Fr) (H:Heap):Qad Tryd.prog cx Q0a F H=Qad Tryd.prog cx (Qag Tryd.f40 3) F H:=rfl
theorem Q9b (cx:Cx) (F:Fr) (H:Heap):Qad Tryd.prog cx Q0i F H=Qad Tryd.prog cx (Qag Tryd.f43 2) F H:=rfl
theorem Q9G (cx:Cx) (F:Fr) (H:Heap):Qad Tryd.prog cx Q2O F H=Qad Tryd.prog cx (Qag Tryd.f44 3) F H:=rfl
theorem Q0P (cx:Cx) (F:Fr) (H:Heap):Qad Tryd.prog cx Qrl F H=Qad Tryd.prog cx (Qag Tryd.f44 15) F H:=rfl
theorem Q71 (cx:Cx) (F:Fr) (H:Heap):Qad Tryd.prog cx Q2p F H=Qad Tryd.prog cx (Qag Tryd.f46 3) F H:=rfl
theorem Q2e (cx:Cx) (F:Fr) (H:Heap):Qad Tryd.prog cx Qra F H=Qad Tryd.prog cx (Qag Tryd.f46 10) F H:=rfl
theorem Q37 (cx:Cx) (F:Fr) (H:Heap):Qad Tryd.prog cx Qr6 F H=Qad Tryd.prog cx (Qag Tryd.f46 19) F H:=rfl
theorem QAj (cx:Cx) (F:Fr) (H:Heap):Qad Tryd.prog cx Q0A F H=Qad Tryd.prog cx (Qag Tryd.f47 4) F H:=rfl
theorem Q96 (cx:Cx) (F:Fr) (H:Heap):Qad Tryd.prog cx Q8c F H=Qad Tryd.prog cx (Qag Tryd.f50 4) F H:=rfl
theorem Q8I (cx:Cx) (F:Fr) (H:Heap):Qad Tryd.prog cx QlB F H=Qad Tryd.prog cx (Qag Tryd.f59 2) F H:=rfl
theorem Q7t (cx:Cx) (F:Fr) (H:Heap):Qad Tryd.prog cx Q3O F H=Qad Tryd.prog cx (Qag Tryd.f61 4) F H:=rfl
theorem QAu (cx:Cx) (F:Fr) (H:Heap):Qad Tryd.prog cx Q0n F H=Qad Tryd.prog cx (Qag Tryd.f63 6) F H:=rfl
theorem Q4L (cx:Cx) (F:Fr) (H:Heap):Qad Tryd.prog cx Qrr F H=Qad Tryd.prog cx (Qag Tryd.f63 16) F H:=rfl
theorem Q91 (cx:Cx) (F:Fr) (H:Heap):Qad Tryd.prog cx Q2V F H=Qad Tryd.prog cx (Qag Tryd.f95 3) F H:=rfl
theorem Q66 (cx:Cx) (F:Fr) (H:Heap):Qad Tryd.prog cx Qsa F H=Qad Tryd.prog cx (Qag Tryd.f97 6) F H:=rfl
theorem Q2K (cx:Cx) (F:Fr) (H:Heap):Qad Tryd.prog cx QgC F H=Qad Tryd.prog cx (Qag Tryd.f109 1) F H:=rfl
theorem Q3D (cx:Cx) (F:Fr) (H:Heap):Qad Tryd.prog cx Qrq F H=Qad Tryd.prog cx (Qag Tryd.f110 3) F H:=rfl
theorem Q2R (cx:Cx) (F:Fr) (H:Heap):Qad Tryd.prog cx Qrn F H=Qad Tryd.prog cx (Qag Tryd.f120 3) F H:=rfl
theorem Q1o (cx:Cx) (F:Fr) (H:Heap):Qad Tryd.prog cx Qr4 F H=Qad Tryd.prog cx (Qag Tryd.f120 7) F H:=rfl
theorem Qz4 (cx:Cx) (F:Fr) (H:Heap):Qad Tryd.prog cx QrP F H=Qad Tryd.prog cx (Qag Tryd.f124 4) F H:=rfl
theorem Q22 (cx:Cx) (F:Fr) (H:Heap):Qad Tryd.prog cx QlO F H=Qad Tryd.prog cx (Qag Tryd.f125 4) F H:=rfl
theorem Q3f (cx:Cx) (F:Fr) (H:Heap):Qad Tryd.prog cx Qri F H=Qad Tryd.prog cx (Qag Tryd.f126 5) F H:=rfl
theorem Qxo (cx:Cx) (F:Fr) (H:Heap):Qad Tryd.prog cx QjF F H=Qad Tryd.prog cx (Qag Tryd.f126 14) F H:=rfl
theorem QuU (cx:Cx) (F:Fr) (H:Heap):Qad Tryd.prog cx QjE F H=Qad Tryd.prog cx (Qag Tryd.f126 18) F H:=rfl
theorem Q1f (cx:Cx) (F:Fr) (H:Heap):Qad Tryd.prog cx QqU F H=Qad Tryd.prog cx (Qag Tryd.f129 5) F H:=rfl
theorem FACTS:type_of% (And.intro (J (J (J @zb3 @zb5 @zb6 @zb7 @zb8 @zb9 @zb10 @zb11) (J @zb12 @zb13 @zb14 @zb15 @zb16 @zb17 @zb18 @zb19) (J @zb20 @zb28 @zb23 @zb29 @zb32 @zb33 @zb34 @zb35) (J @zb36 @zb37 @zb38 @zb39 @zb40 @zb41 @zb42 @zb43) (J @zb44 @zb45 @zb46 @zb47 @zb59 @zb50 @zb30 @zb31) (J @zb62 @zb63 @zb64 @zb65 @zb66 @zb67 @zb68 @zb69) (J @zb70 @zb71 @zb72 @zb74 @zb75 @zb60 @zb27 @zb61) (J @zb86 @zb87 @zb88 @zb89 @zb91 @zb92 @zb93 @zb94)) (J (J @zb95 @zb96 @zb97 @QEV @QGK @zb90 @QGc @QG1) (J @QHp @QEI @QEK @QHU @QHh @QHu @QGs @QHM) (J @QFI @QG3 @QGM @QEH @QF5 @fb3 @fb5 @fb6) (J @fb7 @fb8 @fb9 @fb10 @fb11 @fb12 @fb13 @fb14) (J @fb15 @fb16 @fb17 @fb18 @fb19 @fb20 @fb28 @fb23) (J @fb29 @fb32 @fb33 @fb34 @fb35 @fb36 @fb37 @fb38) (J @fb39 @fb40 @fb41 @fb42 @fb43 @fb44 @fb45 @fb46) (J @fb47 @fb59 @fb50 @fb30 @fb31 @fb62 @fb63 @fb64)) (J (J @fb65 @fb66 @fb67 @fb68 @fb69 @fb70 @fb71 @fb72) (J @fb74 @fb75 @fb60 @fb27 @fb61 @fb86 @fb87 @fb88) (J @fb89 @fb91 @fb92 @fb93 @fb94 @fb95 @fb96 @fb97) (J @QHv @QGj @fb90 @QFf @QFU @QGm @QF0 @QGa) (J @QGA @QGt @QG2 @QFq @QFJ @QFD @QGl @QF1) (J @QHV @QHQ @Q8H @Q4w @Q7x @QzA @Q8m @Q6p) (J @Q1V @Q7u @Q2P @Q8b @Q17 @Q9g @Q7G @Q4G) (J @Q9o @Q2F @Q81 @Q4j @Q94 @Qv6 @Q3q @Q0V)) (J (J @Qug @Q1q @Qtq @Q1E @Q1x @Q2J @Q2W @Q15) (J @Qz9 @Q0T @Qn5 @Qvj @Qvp @Q0y @QvK @Qz8) (J @Qve @Q2r @Qxi @Q40 @Qt1 @Q1F @Qnx @Qwp) (J @Qp0 @Qv2 @QvU @Q04 @Qw5 @QzZ @Q3Z @Qso) (J @Q36 @Q65 @Q9D @Q7s @Q9p @Q7O @Q7e @al4) (J @al28 @QHa @QGo @QFR @al25 @QGi @ln26 @QFC) (J @QGV @QCy @ldp3 @ldi3 @lde3 @al3 @QHF @ldp4) (J @ldi4 @lde4 @QH2 @QFb @QFw @Q4s @QAq @Q7Y)) (J (J @Q3P @Qhm @Qnq @QCr @QCg @QGY @QFm @QFG) (J @ln23 @QHk @QHe @Qsq @Q3j @Qw0 @Q3U @ia26) (J @QGe @QEP @QEW @QHN @ln44 @QEC @QFP @Q6s) (J @ia44 @QGx @ldp2 @ldi2 @lde2 @Q4q @ap55 @Qrw) (J @ap28 @QBI @QH1 @QHI @QHC @ln22 @QGN @QHx) (J @ia22 @QHT @QCY @Q6D @Q0E @Q8N @Q9y @Q1A) (J @Q7S @Q8f @QCb @QB7 @QtF @Q1K @Q0I @Q4d) (J @Q4n @Q1N @Q3S @ap22 @ap23 @QHn @QG0 @QHD)) (J (J @ne61 @ia23 @QHz @Q3R @QvE @Q0D @QrY @QzH) (J @Qks @QoX @Qqv @Qti @Qq6 @Quy @Qpd @QxD) (J @Qs4 @Quo @QBJ @QCK @QCT @QF8 @QG5 @QFE) (J @ln73 @QHS @QGw @al61 @QC2 @ia73 @QHc @QCZ) (J @QGq @QHA @QG7 @QCI @QBD @QCX @QCi @Q43) (J @QDl @QCk @Q0N @QBX @Q3N @Qxm @Q0k @Q4i) (J @Qx5 @Q3E @Q3u @QpR @Qsz @Qn1 @Qsc @QnT) (J @Qxv @sl22 @Qfs @Qft @Qfh @Qjr @Q18 @QtX)) (J (J @Q1H @Quh @Q1u @Q0m @Q1R @Qw8 @Q1y @QpS) (J @Qs2 @Qof @Qwt @Qs7 @Qkt @QpQ @Qon @QCQ) (J @QoE @Q1O @QwW @Q0C @Qwa @QzT @QwA @Q2w) (J @Q2Y @Qo9 @Qsd @QsS @Qwo @Q45 @Qsh @Q2x) (J @Qwg @Q0Z @QoR @Qsu @ln28 @QH9 @QEY @ia28) (J @QEZ @QFY @QGk @QH4 @QB2 @QDq @Q4N @QC4) (J @sl23 @QBB @Q3r @Q1w @QsX @Q03 @al58 @Q9j) (J @Qtr @Q33 @ap56 @Quk @Qqx @QwJ @QwR @Q24)) (J (J @QxE @Q2u @Q2q @Q00 @Q3y @QqE @Qxh @Qqk) (J @QtP @Qww @Qqp @QsE @QoP @Qxy @QnG @QsP) (J @QvW @Qpl @QwS @Q2S @Qi5 @ln65 @QHt @QEN) (J @ia65 @QED @QGW @QFW @QGZ @al64 @QBV @QGE) (J @QFc @QFi @QDo @ldp9 @ldi9 @lde9 @Qpg @Qt0) (J @Qwl @Q1M @Q2N @Q2I @Q2j @Q2i @QpA @Quf) (J @Qxz @QtW @QnR @Quq @Qwj @Qok @ms23 @Qgl) (J @Q1I @Q4C @ap73 @QnO @Q3I @QzD @Qt8 @Q3b))) (And.intro (J (J @Qtp @Q0x @Qtv @Q4p @Qp2 @QxH @Qo4 @Qx3) (J @QnN @QtH @QBA @Q4b @QtY @Q2v @QvS @Q4m) (J @QxZ @Q1W @QGf @QzG @QFK @Q6K @Qte @QpI) (J @Qtb @Q31 @Q3a @QGu @QBM @QHb @QGB @QH5) (J @QCE @QDa @QC3 @QCs @QCN @Q0Y @Qv3 @Q2A) (J @QuX @Q0z @QvF @Q3v @Q2z @Q4f @Q4K @Q1B) (J @Qvr @Q1v @QtA @Qny @Qum @Q6U @Q8Z @ms73) (J @al73 @QzL @QxO @Q3z @QpT @QtN @QvO @QmZ)) (And.intro (J (J @ms28 @ln55 @QHP @QEB @Qv0 @Q3G @ia55 @QGn) (J @QGX @QH7 @QHH @Q0b @ln56 @QH0 @QGd @ia56) (J @QEL @QBH @QCP @QCf @sl56 @Ql8 @Q4F @QoN) (J @Qxr @QnM @Que @QvQ @QzY @Q1G @Qub @Q3L) (J @Q13 @QuS @Q1C @Q3n @Qq3 @QxJ @Qnr @QxG) (J @QtG @Q0K @Q4v @Q4g @Q3K @Q0W @Qns @Qsb) (J @QwK @QmY @Qsn @Q4A @Q3c @Qw7 @Q3C @Q8X) (J @Q01 @Qjz @QnZ @Qtx @Qpm @Qwr @Q4D @QxF)) (And.intro (J (J @Qsg @Q2H @QgJ @Q8x @Q8B @Q1L @ms55 @Qx4) (J @QzX @Qvi @Q2o @Qv1 @Q2M @QxX @Q29 @QvA) (J @Q0d @QuI @Q3w @QnP @Qus @Qot @Qt4 @QuP) (J @Q1Y @Qss @Q3s @QuZ @Q4u @Qut @Q32 @QCm) (J @QFx @QGH @QG8 @Q2G @QFL @Q8d @QsZ @Q0e) (J @QwP @Q1h @Qsl @Q41 @Qvh @Qvg @Q4e @Qvu) (J @Q19 @Q2s @Quj @Q2E @Q6m @Q9J @QC8 @QCp) (J @QDh @Qwk @Q1P @QH8 @QsG @QzW @Qya @Q1J)) (And.intro (J (J @Qtm @Q4a @QwX @Q2a @Qu9 @Q1d @QsR @Q3d) (J @Q23 @Qxw @Q05 @Qx7 @Q27 @Qwd @Q0G @Q2f) (J @Q44 @QCu @QDk @ldp5 @ldi5 @lde5 @QGb @QBF) (J @Qqq @Qun @Qlf @QpM @Qkl @Qov @Qph @QuH) (J @QuN @Qpj @Qvy @ms56 @Qxl @QmW @Qx2 @QwT) (J @Qs6 @QqA @QwY @QuQ @QoA @Qt9 @Qo6 @QvH) (J @Qnf @QvV @QnK @QxL @Qn8 @Qwz @QpN @QwC) (J @QoT @QuC @eqb4 @QxV @Qsv @QkS @Qpn @QvP)) (And.intro (J (J @neb4 @Qvw @Qt6 @Qoo @Qsy @Qos @Qvo @Qlk) (J @Qpz @QnU @Qnz @Qn7 @Qxu @Qoa @QtC @Qna) (J @QwL @Qql @Qur @QnB @Qw6 @QnI @QoY @Qxe) (J @QkL @QqD @Qmq @Qn0 @Qno @QkQ @Qpf @QlT) (J @Qpc @Qne @Qka @QpD @Ql2 @QoW @Qp3 @Qkp) (J @Qqz @QqB @Ql0 @Qod @QCt @Qxp @Qqu @Qts) (J @Qtz @Qq0 @Qu0 @Qpi @Qty @QtD @Qpr @QvZ) (J @QC7 @QBP @QCJ @Q7l @QAo @Q9N @Q38 @Q1m)) (And.intro (J @Q2C @Q95 @Q9v @Q8u @Q0v @QAc @Q4o @Q7j) (And.intro (J @Q9d @Q6z @Q0S @Q6h @Q8e @Q9Z @QAd @Q9A) (And.intro (J @Q6G @Q9W @Q2y @Q0g @Q2T @Q8v @QAa @Q9b) (And.intro (J @Q9G @Q0P @Q71 @Q2e @Q37 @QAj @Q96 @Q8I) (And.intro (J @Q7t @QAu @Q4L @Q91 @Q66 @Q2K @Q3D @Q2R) (And.intro @Q1o (And.intro @Qz4 (And.intro @Q22 (And.intro @Q3f (And.intro @Qxo (And.intro @QuU @Q1f))))))))))))))))) :=
 (And.intro (J (J (J @zb3 @zb5 @zb6 @zb7 @zb8 @zb9 @zb10 @zb11) (J @zb12 @zb13 @zb14 @zb15 @zb16 @zb17 @zb18 @zb19) (J @zb20 @zb28 @zb23 @zb29 @zb32 @zb33 @zb34 @zb35) (J @zb36 @zb37 @zb38 @zb39 @zb40 @zb41 @zb42 @zb43) (J @zb44 @zb45 @zb46 @zb47 @zb59 @zb50 @zb30 @zb31) (J @zb62 @zb63 @zb64 @zb65 @zb66 @zb67 @zb68 @zb69) (J @zb70 @zb71 @zb72 @zb74 @zb75 @zb60 @zb27 @zb61) (J @zb86 @zb87 @zb88 @zb89 @zb91 @zb92 @zb93 @zb94)) (J (J @zb95 @zb96 @zb97 @QEV @QGK @zb90 @QGc @QG1) (J @QHp @QEI @QEK @QHU @QHh @QHu @QGs @QHM) (J @QFI @QG3 @QGM @QEH @QF5 @fb3 @fb5 @fb6) (J @fb7 @fb8 @fb9 @fb10 @fb11 @fb12 @fb13 @fb14) (J @fb15 @fb16 @fb17 @fb18 @fb19 @fb20 @fb28 @fb23) (J @fb29 @fb32 @fb33 @fb34 @fb35 @fb36 @fb37 @fb38) (J @fb39 @fb40 @fb41 @fb42 @fb43 @fb44 @fb45 @fb46) (J @fb47 @fb59 @fb50 @fb30 @fb31 @fb62 @fb63 @fb64)) (J (J @fb65 @fb66 @fb67 @fb68 @fb69 @fb70 @fb71 @fb72) (J @fb74 @fb75 @fb60 @fb27 @fb61 @fb86 @fb87 @fb88) (J @fb89 @fb91 @fb92 @fb93 @fb94 @fb95 @fb96 @fb97) (J @QHv @QGj @fb90 @QFf @QFU @QGm @QF0 @QGa) (J @QGA @QGt @QG2 @QFq @QFJ @QFD @QGl @QF1) (J @QHV @QHQ @Q8H @Q4w @Q7x @QzA @Q8m @Q6p) (J @Q1V @Q7u @Q2P @Q8b @Q17 @Q9g @Q7G @Q4G) (J @Q9o @Q2F @Q81 @Q4j @Q94 @Qv6 @Q3q @Q0V)) (J (J @Qug @Q1q @Qtq @Q1E @Q1x @Q2J @Q2W @Q15) (J @Qz9 @Q0T @Qn5 @Qvj @Qvp @Q0y @QvK @Qz8) (J @Qve @Q2r @Qxi @Q40 @Qt1 @Q1F @Qnx @Qwp) (J @Qp0 @Qv2 @QvU @Q04 @Qw5 @QzZ @Q3Z @Qso) (J @Q36 @Q65 @Q9D @Q7s @Q9p @Q7O @Q7e @al4) (J @al28 @QHa @QGo @QFR @al25 @QGi @ln26 @QFC) (J @QGV @QCy @ldp3 @ldi3 @lde3 @al3 @QHF @ldp4) (J @ldi4 @lde4 @QH2 @QFb @QFw @Q4s @QAq @Q7Y)) (J (J @Q3P @Qhm @Qnq @QCr @QCg @QGY @QFm @QFG) (J @ln23 @QHk @QHe @Qsq @Q3j @Qw0 @Q3U @ia26) (J @QGe @QEP @QEW @QHN @ln44 @QEC @QFP @Q6s) (J @ia44 @QGx @ldp2 @ldi2 @lde2 @Q4q @ap55 @Qrw) (J @ap28 @QBI @QH1 @QHI @QHC @ln22 @QGN @QHx) (J @ia22 @QHT @QCY @Q6D @Q0E @Q8N @Q9y @Q1A) (J @Q7S @Q8f @QCb @QB7 @QtF @Q1K @Q0I @Q4d) (J @Q4n @Q1N @Q3S @ap22 @ap23 @QHn @QG0 @QHD)) (J (J @ne61 @ia23 @QHz @Q3R @QvE @Q0D @QrY @QzH) (J @Qks @QoX @Qqv @Qti @Qq6 @Quy @Qpd @QxD) (J @Qs4 @Quo @QBJ @QCK @QCT @QF8 @QG5 @QFE) (J @ln73 @QHS @QGw @al61 @QC2 @ia73 @QHc @QCZ) (J @QGq @QHA @QG7 @QCI @QBD @QCX @QCi @Q43) (J @QDl @QCk @Q0N @QBX @Q3N @Qxm @Q0k @Q4i) (J @Qx5 @Q3E @Q3u @QpR @Qsz @Qn1 @Qsc @QnT) (J @Qxv @sl22 @Qfs @Qft @Qfh @Qjr @Q18 @QtX)) (J (J @Q1H @Quh @Q1u @Q0m @Q1R @Qw8 @Q1y @QpS) (J @Qs2 @Qof @Qwt @Qs7 @Qkt @QpQ @Qon @QCQ) (J @QoE @Q1O @QwW @Q0C @Qwa @QzT @QwA @Q2w) (J @Q2Y @Qo9 @Qsd @QsS @Qwo @Q45 @Qsh @Q2x) (J @Qwg @Q0Z @QoR @Qsu @ln28 @QH9 @QEY @ia28) (J @QEZ @QFY @QGk @QH4 @QB2 @QDq @Q4N @QC4) (J @sl23 @QBB @Q3r @Q1w @QsX @Q03 @al58 @Q9j) (J @Qtr @Q33 @ap56 @Quk @Qqx @QwJ @QwR @Q24)) (J (J @QxE @Q2u @Q2q @Q00 @Q3y @QqE @Qxh @Qqk) (J @QtP @Qww @Qqp @QsE @QoP @Qxy @QnG @QsP) (J @QvW @Qpl @QwS @Q2S @Qi5 @ln65 @QHt @QEN) (J @ia65 @QED @QGW @QFW @QGZ @al64 @QBV @QGE) (J @QFc @QFi @QDo @ldp9 @ldi9 @lde9 @Qpg @Qt0) (J @Qwl @Q1M @Q2N @Q2I @Q2j @Q2i @QpA @Quf) (J @Qxz @QtW @QnR @Quq @Qwj @Qok @ms23 @Qgl) (J @Q1I @Q4C @ap73 @QnO @Q3I @QzD @Qt8 @Q3b))) (And.intro (J (J @Qtp @Q0x @Qtv @Q4p @Qp2 @QxH @Qo4 @Qx3) (J @QnN @QtH @QBA @Q4b @QtY @Q2v @QvS @Q4m) (J @QxZ @Q1W @QGf @QzG @QFK @Q6K @Qte @QpI) (J @Qtb @Q31 @Q3a @QGu @QBM @QHb @QGB @QH5) (J @QCE @QDa @QC3 @QCs @QCN @Q0Y @Qv3 @Q2A) (J @QuX @Q0z @QvF @Q3v @Q2z @Q4f @Q4K @Q1B) (J @Qvr @Q1v @QtA @Qny @Qum @Q6U @Q8Z @ms73) (J @al73 @QzL @QxO @Q3z @QpT @QtN @QvO @QmZ)) (And.intro (J (J @ms28 @ln55 @QHP @QEB @Qv0 @Q3G @ia55 @QGn) (J @QGX @QH7 @QHH @Q0b @ln56 @QH0 @QGd @ia56) (J @QEL @QBH @QCP @QCf @sl56 @Ql8 @Q4F @QoN) (J @Qxr @QnM @Que @QvQ @QzY @Q1G @Qub @Q3L) (J @Q13 @QuS @Q1C @Q3n @Qq3 @QxJ @Qnr @QxG) (J @QtG @Q0K @Q4v @Q4g @Q3K @Q0W @Qns @Qsb) (J @QwK @QmY @Qsn @Q4A @Q3c @Qw7 @Q3C @Q8X) (J @Q01 @Qjz @QnZ @Qtx @Qpm @Qwr @Q4D @QxF)) (And.intro (J (J @Qsg @Q2H @QgJ @Q8x @Q8B @Q1L @ms55 @Qx4) (J @QzX @Qvi @Q2o @Qv1 @Q2M @QxX @Q29 @QvA) (J @Q0d @QuI @Q3w @QnP @Qus @Qot @Qt4 @QuP) (J @Q1Y @Qss @Q3s @QuZ @Q4u @Qut @Q32 @QCm) (J @QFx @QGH @QG8 @Q2G @QFL @Q8d @QsZ @Q0e) (J @QwP @Q1h @Qsl @Q41 @Qvh @Qvg @Q4e @Qvu) (J @Q19 @Q2s @Quj @Q2E @Q6m @Q9J @QC8 @QCp) (J @QDh @Qwk @Q1P @QH8 @QsG @QzW @Qya @Q1J)) (And.intro (J (J @Qtm @Q4a @QwX @Q2a @Qu9 @Q1d @QsR @Q3d) (J @Q23 @Qxw @Q05 @Qx7 @Q27 @Qwd @Q0G @Q2f) (J @Q44 @QCu @QDk @ldp5 @ldi5 @lde5 @QGb @QBF) (J @Qqq @Qun @Qlf @QpM @Qkl @Qov @Qph @QuH) (J @QuN @Qpj @Qvy @ms56 @Qxl @QmW @Qx2 @QwT) (J @Qs6 @QqA @QwY @QuQ @QoA @Qt9 @Qo6 @QvH) (J @Qnf @QvV @QnK @QxL @Qn8 @Qwz @QpN @QwC) (J @QoT @QuC @eqb4 @QxV @Qsv @QkS @Qpn @QvP)) (And.intro (J (J @neb4 @Qvw @Qt6 @Qoo @Qsy @Qos @Qvo @Qlk) (J @Qpz @QnU @Qnz @Qn7 @Qxu @Qoa @QtC @Qna) (J @QwL @Qql @Qur @QnB @Qw6 @QnI @QoY @Qxe) (J @QkL @QqD @Qmq @Qn0 @Qno @QkQ @Qpf @QlT) (J @Qpc @Qne @Qka @QpD @Ql2 @QoW @Qp3 @Qkp) (J @Qqz @QqB @Ql0 @Qod @QCt @Qxp @Qqu @Qts) (J @Qtz @Qq0 @Qu0 @Qpi @Qty @QtD @Qpr @QvZ) (J @QC7 @QBP @QCJ @Q7l @QAo @Q9N @Q38 @Q1m)) (And.intro (J @Q2C @Q95 @Q9v @Q8u @Q0v @QAc @Q4o @Q7j) (And.intro (J @Q9d @Q6z @Q0S @Q6h @Q8e @Q9Z @QAd @Q9A) (And.intro (J @Q6G @Q9W @Q2y @Q0g @Q2T @Q8v @QAa @Q9b) (And.intro (J @Q9G @Q0P @Q71 @Q2e @Q37 @QAj @Q96 @Q8I) (And.intro (J @Q7t @QAu @Q4L @Q91 @Q66 @Q2K @Q3D @Q2R) (And.intro @Q1o (And.intro @Qz4 (And.intro @Q22 (And.intro @Q3f (And.intro @Qxo (And.intro @QuU @Q1f)))))))))))))))))
theorem TYPES:type_of% (And.intro (J @ag4 @sz4 @ag28 @sz28 @ag25 @sz25 @ag3 @sz3) (And.intro (J @ag23 @sz23 @ag44 @sz44 @ag2 @sz2 @ag22 @sz22) (And.intro (J @ag61 @sz61 @ag73 @sz73 @ag72 @sz72 @ag55 @sz55) (And.intro (J @ag58 @sz58 @ag64 @sz64 @ag35 @sz35 @ag9 @sz9) (And.intro (J @QFQ @QHr @ag90 @sz90 @QHs @QFu @ag56 @sz56) (And.intro @QFO (And.intro @QEO (And.intro @ag5 @sz5)))))))) :=
 (And.intro (J @ag4 @sz4 @ag28 @sz28 @ag25 @sz25 @ag3 @sz3) (And.intro (J @ag23 @sz23 @ag44 @sz44 @ag2 @sz2 @ag22 @sz22) (And.intro (J @ag61 @sz61 @ag73 @sz73 @ag72 @sz72 @ag55 @sz55) (And.intro (J @ag58 @sz58 @ag64 @sz64 @ag35 @sz35 @ag9 @sz9) (And.intro (J @QFQ @QHr @ag90 @sz90 @QHs @QFu @ag56 @sz56) (And.intro @QFO (And.intro @QEO (And.intro @ag5 @sz5))))))))
theorem FT:type_of% (And.intro @EVb (And.intro @EVc (And.intro @FACTS @TYPES))) :=
 (And.intro @EVb (And.intro @EVc (And.intro @FACTS @TYPES)))
theorem LP:type_of% (And.intro @Option.some_or.{0} (And.intro @Option.none_or.{0} (And.intro @Option.getD_some.{0} @Option.some.injEq.{0}))) :=
 (And.intro @Option.some_or.{0} (And.intro @Option.none_or.{0} (And.intro @Option.getD_some.{0} @Option.some.injEq.{0})))
end Go.Proofs.Sw
