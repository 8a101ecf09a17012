import Derived.Test.YtjnnliedeobfgaaGreatT3
import Derived.Test.YtjnnliedeobfgaaGreatV2
import Derived.Test.YtjnnliedeobfgaaGreatT4
import Derived.Test.YtjnnliedeobfgaaGreatProg
import Derived.KernelRfl
import Derived.WalkKit
import Derived.Lib.Walk
import Derived.Lib.SliceRun
import Derived.Lib.AppendZerosOnto
set_option linter.unusedVariables false
set_option linter.unusedSimpArgs false
open Go Go.Proofs Ve
set_option maxRecDepth 100000
namespace VeT
noncomputable section
abbrev q3_0(R:Run)(N:Nat):=kS R pol_Z157 5 N [1,1,0,1,0,0,1,1] F_Z157
abbrev q3_1(R:Run)(N:Nat):=kS R pol_Z157 14 N [1,1,1] F_Z157
abbrev q3_2(R:Run)(N:Nat):=kS R pol_Z172 11 N [1,1,1] F_Z172
abbrev q3_3(R:Run)(N:Nat):=kS R pol_Z177 3 N [1,0,1,0,0,1,1] F_Z177
abbrev q3_4(R:Run)(N:Nat):=kS R pol_Z177 15 N [1,1] F_Z177
abbrev q3_5(R:Run)(N:Nat):=kS R pol_Z181 10 N [1,1,1,0,1,0,0,1,0,0,1,1,1,0,0,1,1] F_Z181
abbrev q3_6(R:Run)(N:Nat):=kS R pol_Z181 5 N [1,1,1,0,1,0,0,1,1] F_Z181
abbrev q3_7(R:Run)(N:Nat):=kS R pol_Z181 21 N [1,1,1,1] F_Z181
abbrev q3_8(R:Run)(N:Nat):=kL R pol_Z157 4 N [1,1,0,1,0,0] F_Z157
abbrev q3_9(R:Run)(N:Nat):=kL R pol_Z177 2 N [1,0,1,0,0] F_Z177
abbrev q3_10(R:Run)(N:Nat):=kL R pol_Z181 4 N [1,1,1,0,1,0,0] F_Z181
abbrev q3_11(R:Run):=kB R pol_Z181 0
def Z37.l0(R:Run)(N n:Nat)(a b e:List Int)(f g h i:Int)(j:vK)(k:List Int):Option Dv:=R.w (some ⟨(V.dead::(.c (.d yL a)::(.c (.box 2 0)::(zd 3 (.c (.arr 25)::(.c (.d yL b)::(zd 4 (.c (.d yL e)::(.c (.d yI f)::(.c (.d yI g)::(zd 34 []))))))))))),(none::(none::(some (.box [.d yI h,.d yI i,.d yK j] false false)::(zo 22 (some (.arr yI k true false false)::(zo 27 []))))))⟩) fun st=>lC R pol_Z37 4 N [1,1,1,0,1,0,0] F_Z37 n st (kB R pol_Z37 0 (kS R pol_Z37 9 N [1,1,1,1] F_Z37 (qsf E sg_Z37 F_Z37)))
theorem Z37.l0_succ(R:Run)(hw:R.ok)(N n:Nat)(a b c:List Int)(d e f g:Int)(h:vK)(i:List Int):Z37.l0 R N (n+1) a b c d e f g h i=(bif (decide (e<d)) then((idx? c e).bind fun y11=>((idx? a (y11,()).1).bind fun y12=>((chk (decide ((List.length i+List.length [(y12,()).1])*8≤70368744177664))).bind fun _=>((idx? h e).bind fun y13=>((idx? a (y11,()).1).bind fun y14=>((chk (f != 0)).bind fun _=>((qdj R n_Z22 o_Z22 [⟨yL,b⟩,⟨yL,(y13,()).1⟩,⟨yI,(Int.tmod (w64 (f-(y14,()).1)) f)⟩,⟨yI,f⟩]).bind fun r15=>(Z37.l0 R N n a r15.1 c d (w64 (e+(1:Int))) f g h (i++[(y12,()).1]))))))))) else((qdj R n_Z63 o_Z63 [⟨yL,b⟩]).bind fun r25=>some ⟨o_Z37,(i,r25.1,())⟩)):=(hw _ _).trans (by kernel_rfl)
theorem Z37.ev(R:Run)(N:Nat)(a0 a1:Int)(a2:vK)(a3:List Int):qrz E R sg_Z37 pol_Z37 F_Z37 N [⟨yI,a0⟩,⟨yI,a1⟩,⟨yK,a2⟩,⟨yL,a3⟩]=((qdj R n_Z67 o_Z67 [⟨yI,a0⟩,⟨yI,a1⟩,⟨yK,a2⟩]).bind fun r1=>(Z37.l0 R N N a3 a3 r1.1 (List.length r1.1:Int) (0:Int) a0 a1 a2 ([]:List Int))):=by kernel_rfl
theorem Z36.ev(R:Run)(N:Nat)(a0 a1:Int)(a2:vK)(a3:List Int):qrz E R sg_Z36 pol_Z36 F_Z36 N [⟨yI,a0⟩,⟨yI,a1⟩,⟨yK,a2⟩,⟨yL,a3⟩]=((qdj R n_Z37 o_Z37 [⟨yI,a0⟩,⟨yI,a1⟩,⟨yK,a2⟩,⟨yL,a3⟩]).bind fun r1=>some ⟨o_Z36,(r1.2.1,())⟩):=by kernel_rfl
theorem Z32.ev(R:Run)(N:Nat)(a0:vK)(a1:Int)(a2:List Int)(a3:vN)(a4:Int):qrz E R sg_Z32 pol_Z32 F_Z32 N [⟨yK,a0⟩,⟨yI,a1⟩,⟨yL,a2⟩,⟨yN,a3⟩,⟨yI,a4⟩]=((qdj R n_Z30 o_Z30 [⟨yK,a0⟩,⟨yI,a1⟩,⟨yL,a2⟩,⟨yN,a3⟩,⟨yI,a4⟩]).bind fun r1=>((qdj R n_Z31 o_Z31 [⟨yK,a0⟩,⟨yI,a1⟩,⟨yL,a2⟩,⟨yN,a3⟩,⟨yI,a4⟩]).bind fun r2=>((qdj R n_Z65 o_Z65 [⟨yI,r2.1⟩,⟨yI,r2.2.1⟩,⟨yI,r2.2.2.1⟩,⟨yL,r2.2.2.2.1⟩]).bind fun r3=>((qdj R n_Z52 o_Z52 [⟨yI,r1.1⟩,⟨yI,r1.2.1⟩,⟨yK,r1.2.2.1⟩,⟨yK,r3.1⟩]).bind fun r4=>some ⟨o_Z32,(r4.1,())⟩)))):=by kernel_rfl
theorem Z7.ev(R:Run)(N:Nat)(a0:vK)(a1:Int)(a2:List Int)(a3:vN)(a4:Int):qrz E R sg_Z7 pol_Z7 F_Z7 N [⟨yK,a0⟩,⟨yI,a1⟩,⟨yL,a2⟩,⟨yN,a3⟩,⟨yI,a4⟩]=((qdj R n_Z51 o_Z51 [⟨yK,a0⟩,⟨yI,a1⟩,⟨yL,a2⟩,⟨yN,a3⟩,⟨yI,a4⟩]).bind fun r1=>(bif (r1.1 != (0:Int)) then some ⟨o_Z7,(([]:List (List Int)),r1.1,())⟩ else((qdj R n_Z32 o_Z32 [⟨yK,a0⟩,⟨yI,a1⟩,⟨yL,a2⟩,⟨yN,a3⟩,⟨yI,a4⟩]).bind fun r2=>some ⟨o_Z7,(r2.1,(0:Int),())⟩))):=by kernel_rfl
def Z129.j1(R:Run)(N a:Nat)(b:List Int)(e f g:Int)(h:Bool):Option Dv:=R.w (some ⟨(.c (.d yL b)::(.c (.d yI e)::(.c (.d yI f)::(zd 4 (.c (.d yI g)::(zd 29 (.c (.d .bool h)::[]))))))),(zo 41 [])⟩) fun st=>eC R pol_Z129 N [1,0,1,0,0,1,0,0,1] F_Z129 st (kB R pol_Z129 1 (kS R pol_Z129 3 N [1,0,1,0,0,1,1] F_Z129 (kL R pol_Z129 2 N [1,0,1,0,0] F_Z129 a (kB R pol_Z129 0 (kS R pol_Z129 6 N [1,1] F_Z129 (qsf E sg_Z129 F_Z129))))))
def Z129.l0(R:Run)(N n:Nat)(a:List Int)(b e f:Int):Option Dv:=R.w (some ⟨(.c (.d yL a)::(.c (.d yI b)::(.c (.d yI e)::(zd 4 (.c (.d yI f)::(zd 30 [])))))),(zo 41 [])⟩) fun st=>lC R pol_Z129 2 N [1,0,1,0,0] F_Z129 n st (kB R pol_Z129 0 (kS R pol_Z129 6 N [1,1] F_Z129 (qsf E sg_Z129 F_Z129)))
theorem Z129.j1_eq(R:Run)(hw:R.ok)(N a:Nat)(b:List Int)(c d e:Int)(f:Bool):Z129.j1 R N a b c d e f=(bif f then some ⟨o_Z129,(false,())⟩ else(Z129.l0 R N a b c d (w64 (e+(1:Int))))):=(hw _ _).trans (by kernel_rfl)
theorem Z129.l0_succ(R:Run)(hw:R.ok)(N n:Nat)(a:List Int)(b c d:Int):Z129.l0 R N (n+1) a b c d=(bif (decide (d<(List.length a:Int))) then((idx? a d).bind fun y5=>((qdj R n_Z126 o_Z126 [⟨yI,(y5,()).1⟩,⟨yI,b⟩,⟨yI,c⟩]).bind fun r6=>(bif (!r6.1) then(Z129.j1 R N n a b c d true) else(bif (decide (d>(0:Int))) then((idx? a (w64 (d-(1:Int)))).bind fun y16=>((idx? a d).bind fun y17=>(Z129.j1 R N n a b c d (decide ((y16,()).1≥(y17,()).1))))) else(Z129.j1 R N n a b c d false))))) else some ⟨o_Z129,(true,())⟩):=(hw _ _).trans (by kernel_rfl)
theorem Z129.ev(R:Run)(N:Nat)(a0:List Int)(a1 a2:Int):qrz E R sg_Z129 pol_Z129 F_Z129 N [⟨yL,a0⟩,⟨yI,a1⟩,⟨yI,a2⟩]=(Z129.l0 R N N a0 a1 a2 (0:Int)):=by kernel_rfl
theorem Z159.ev(R:Run)(N:Nat)(a0:List Int):qrz E R sg_Z159 pol_Z159 F_Z159 N [⟨yL,a0⟩]=((qdj R n_Z126 o_Z126 [⟨yI,(List.length a0:Int)⟩,⟨yI,(1:Int)⟩,⟨yI,(4:Int)⟩]).bind fun r1=>(bif r1.1 then((qdj R n_Z129 o_Z129 [⟨yL,a0⟩,⟨yI,(0:Int)⟩,⟨yI,(9:Int)⟩]).bind fun r2=>some ⟨o_Z159,(r2.1,())⟩) else some ⟨o_Z159,(false,())⟩)):=by kernel_rfl
def Z157.j3(R:Run)(N a b:Nat)(e:(vK×Unit))(f:Int)(g:List Int)(h:Int)(i:Bool):Option Dv:=R.w (some ⟨(.c (.ip yC e 0)::(V.dead::(V.dead::(.c (.d yI f)::(.c (.d yL g)::(.c (.d yI h)::(zd 50 (.c (.d .bool i)::(zd 8 []))))))))),(zo 66 [])⟩) fun st=>eC R pol_Z157 N [1,1,0,1,0,0,1,0,0,1,1,1,0,0,0,1] F_Z157 st (kS R pol_Z157 12 N [1,1,0,1,0,0,1,0,0,1,1,1,0,0,1] F_Z157 (kL R pol_Z157 10 N [1,1,0,1,0,0,1,0,0,1,1,1,0,0] F_Z157 b (kB R pol_Z157 2 (kB R pol_Z157 1 (q3_0 R N (q3_8 R N a (kB R pol_Z157 0 (q3_1 R N (qsf E sg_Z157 F_Z157)))))))))
def Z157.l2(R:Run)(N a n:Nat)(b:(vK×Unit))(e:Int)(f:List Int)(g:Int):Option Dv:=R.w (some ⟨(.c (.ip yC b 0)::(V.dead::(V.dead::(.c (.d yI e)::(.c (.d yL f)::(.c (.d yI g)::(zd 59 []))))))),(zo 66 [])⟩) fun st=>lC R pol_Z157 10 N [1,1,0,1,0,0,1,0,0,1,1,1,0,0] F_Z157 n st (kB R pol_Z157 2 (kB R pol_Z157 1 (q3_0 R N (q3_8 R N a (kB R pol_Z157 0 (q3_1 R N (qsf E sg_Z157 F_Z157)))))))
def Z157.j1(R:Run)(N a:Nat)(b:(vK×Unit))(e:Int)(f:List Int)(g:Bool):Option Dv:=R.w (some ⟨(.c (.ip yC b 0)::(V.dead::(V.dead::(.c (.d yI e)::(.c (.d yL f)::(zd 42 (.c (.d .bool g)::(zd 17 [])))))))),(zo 66 [])⟩) fun st=>eC R pol_Z157 N [1,1,0,1,0,0,1,0,0,1,0,1] F_Z157 st (kS R pol_Z157 9 N [1,1,0,1,0,0,1,0,0,1,1] F_Z157 (kB R pol_Z157 1 (q3_0 R N (q3_8 R N a (kB R pol_Z157 0 (q3_1 R N (qsf E sg_Z157 F_Z157)))))))
def Z157.l0(R:Run)(N n:Nat)(a:(vK×Unit))(b:Int):Option Dv:=R.w (some ⟨(.c (.ip yC a 0)::(V.dead::(V.dead::(.c (.d yI b)::(zd 61 []))))),(zo 66 [])⟩) fun st=>lC R pol_Z157 4 N [1,1,0,1,0,0] F_Z157 n st (kB R pol_Z157 0 (q3_1 R N (qsf E sg_Z157 F_Z157)))
theorem Z157.j3_eq(R:Run)(hw:R.ok)(N a b:Nat)(c:(vK×Unit))(d:Int)(e:List Int)(f:Int)(g:Bool):Z157.j3 R N a b c d e f g=(bif g then((qdj R n_Z153 o_Z153 [⟨yL,e⟩,⟨yI,f⟩]).bind fun r18=>((qdj R n_Z155 o_Z155 [⟨(.ptr yC),c⟩,⟨yL,r18.1⟩]).bind fun r19=>(bif (decide (r19.1<(0:Int))) then some ⟨o_Z157,(false,())⟩ else(Z157.l2 R N a b c d e (w64 (f+(1:Int))))))) else(Z157.l0 R N a c (w64 (d+(1:Int))))):=(hw _ _).trans (by kernel_rfl)
theorem Z157.l2_succ(R:Run)(hw:R.ok)(N a n:Nat)(b:(vK×Unit))(c:Int)(d:List Int)(e:Int):Z157.l2 R N a (n+1) b c d e=(bif (decide (e<(List.length d:Int))) then(Z157.j3 R N a n b c d e (decide ((List.length d:Int)>(1:Int)))) else(Z157.j3 R N a n b c d e false)):=(hw _ _).trans (by kernel_rfl)
theorem Z157.j1_eq(R:Run)(hw:R.ok)(N a:Nat)(b:(vK×Unit))(c:Int)(d:List Int)(e:Bool):Z157.j1 R N a b c d e=(bif e then some ⟨o_Z157,(false,())⟩ else(Z157.l2 R N a N b c d (0:Int))):=(hw _ _).trans (by kernel_rfl)
theorem Z157.l0_succ(R:Run)(hw:R.ok)(N n:Nat)(a:(vK×Unit))(b:Int):Z157.l0 R N (n+1) a b=(bif (decide (b<(List.length a.1:Int))) then((idx? a.1 b).bind fun y3=>((qdj R n_Z159 o_Z159 [⟨yL,(y3,()).1⟩]).bind fun r4=>(bif (!r4.1) then(Z157.j1 R N n a b ((y3,()).1) true) else(bif (decide (b>(0:Int))) then((idx? a.1 (w64 (b-(1:Int)))).bind fun y31=>((qdj R n_Z149 o_Z149 [⟨yL,(y31,()).1⟩,⟨yL,(y3,()).1⟩]).bind fun r32=>(Z157.j1 R N n a b ((y3,()).1) (!r32.1)))) else(Z157.j1 R N n a b ((y3,()).1) false))))) else some ⟨o_Z157,(true,())⟩):=(hw _ _).trans (by kernel_rfl)
theorem Z157.ev(R:Run)(N:Nat)(a0:(vK×Unit)):qrz E R sg_Z157 pol_Z157 F_Z157 N [⟨(.ptr yC),a0⟩]=(bif (decide ((List.length a0.1:Int)>(48:Int))) then some ⟨o_Z157,(false,())⟩ else(Z157.l0 R N N a0 (0:Int))):=by kernel_rfl
theorem Z170.ev(R:Run)(N:Nat)(a0:vS)(a1 a2:Int)(a3:vM):qrz E R sg_Z170 pol_Z170 F_Z170 N [⟨(.ptr yS),a0⟩,⟨yI,a1⟩,⟨yI,a2⟩,⟨(.ptr yM),a3⟩]=((qdj R n_Z154 o_Z154 [⟨(.ptr yC),(a0.1,())⟩,⟨yI,a1⟩]).bind fun r1=>((idx? r1.1 a2).bind fun y2=>((qdj R n_Z142 o_Z142 [⟨(.ptr yM),a3⟩]).bind fun r3=>(bif r3.1 then(bif (a3.1==a0.2.1) then((idx? a0.2.2.1 a1).bind fun y4=>(bif (a3.2.1==(y4,()).1) then((idx? a0.2.2.1 (y2,()).1).bind fun y5=>some ⟨o_Z170,((a3.2.2.1==(y5,()).1),())⟩) else some ⟨o_Z170,(false,())⟩)) else some ⟨o_Z170,(false,())⟩) else some ⟨o_Z170,(false,())⟩)))):=by kernel_rfl
def Z156.l0(R:Run)(N n:Nat)(a:(vK×Unit))(b e:Int)(f:List Int):Option Dv:=R.w (some ⟨(.c (.ip yC a 0)::(.c (.d yI b)::(zd 3 (.c (.arr 7)::(.c (.d yI e)::(zd 26 [])))))),(zo 7 (some (.arr yI f true false false)::(zo 27 [])))⟩) fun st=>lC R pol_Z156 3 N [1,1,0,1,0,0] F_Z156 n st (kB R pol_Z156 0 (kS R pol_Z156 7 N [1,1,1] F_Z156 (qsf E sg_Z156 F_Z156)))
theorem Z156.l0_succ(R:Run)(hw:R.ok)(N n:Nat)(a:(vK×Unit))(b c:Int)(d:List Int):Z156.l0 R N (n+1) a b c d=(bif (decide (c<(List.length a.1:Int))) then((idx? a.1 c).bind fun y5=>(bif ((List.length (y5,()).1:Int)==(w64 (b+(1:Int)))) then((chk (decide ((List.length d+List.length [c])*8≤70368744177664))).bind fun _=>(Z156.l0 R N n a b (w64 (c+(1:Int))) (d++[c]))) else(Z156.l0 R N n a b (w64 (c+(1:Int))) d))) else some ⟨o_Z156,(d,())⟩):=(hw _ _).trans (by kernel_rfl)
theorem Z156.ev(R:Run)(N:Nat)(a0:(vK×Unit))(a1:Int):qrz E R sg_Z156 pol_Z156 F_Z156 N [⟨(.ptr yC),a0⟩,⟨yI,a1⟩]=(Z156.l0 R N N a0 a1 (0:Int) ([]:List Int)):=by kernel_rfl
def Z175.l0(R:Run)(N n:Nat)(a b:List Int)(e f:Int):Option Dv:=R.w (some ⟨(V.dead::(.c (.d yL a)::(zd 5 (.c (.d yL b)::(.c (.d yI e)::(.c (.d yI f)::(zd 19 []))))))),(zo 32 [])⟩) fun st=>lC R pol_Z175 4 N [1,1,1,0,1,0,0] F_Z175 n st (kB R pol_Z175 0 (kS R pol_Z175 7 N [1,1,1,1] F_Z175 (qsf E sg_Z175 F_Z175)))
theorem Z175.l0_succ(R:Run)(hw:R.ok)(N n:Nat)(a b:List Int)(c d:Int):Z175.l0 R N (n+1) a b c d=(bif (decide (d<(List.length b:Int))) then((idx? b d).bind fun y6=>((idx? a (y6,()).1).bind fun y7=>(Z175.l0 R N n a b (w64 (c+(y7,()).1)) (w64 (d+(1:Int)))))) else some ⟨o_Z175,(c,())⟩):=(hw _ _).trans (by kernel_rfl)
theorem Z175.ev(R:Run)(N:Nat)(a0:(vK×Unit))(a1:List Int)(a2:Int):qrz E R sg_Z175 pol_Z175 F_Z175 N [⟨(.ptr yC),a0⟩,⟨yL,a1⟩,⟨yI,a2⟩]=((qdj R n_Z156 o_Z156 [⟨(.ptr yC),a0⟩,⟨yI,a2⟩]).bind fun r1=>(Z175.l0 R N N a1 r1.1 (0:Int) (0:Int))):=by kernel_rfl
def Z174.l0(R:Run)(N n:Nat)(a:(vK×Unit))(b:List Int)(e:Int):Option Dv:=R.w (some ⟨(.c (.ip yC a 0)::(.c (.d yL b)::(zd 3 (.c (.d yI e)::(zd 17 []))))),(zo 25 [])⟩) fun st=>lC R pol_Z174 4 N [1,1,0,1,0,0] F_Z174 n st (kB R pol_Z174 0 (kS R pol_Z174 8 N [1,1,1] F_Z174 (qsf E sg_Z174 F_Z174)))
theorem Z174.l0_succ(R:Run)(hw:R.ok)(N n:Nat)(a:(vK×Unit))(b:List Int)(c:Int):Z174.l0 R N (n+1) a b c=(bif (decide (c≤(3:Int))) then((qdj R n_Z175 o_Z175 [⟨(.ptr yC),a⟩,⟨yL,b⟩,⟨yI,c⟩]).bind fun r5=>(bif (decide (r5.1>(32:Int))) then some ⟨o_Z174,(false,())⟩ else(Z174.l0 R N n a b (w64 (c+(1:Int)))))) else some ⟨o_Z174,(true,())⟩):=(hw _ _).trans (by kernel_rfl)
theorem Z174.ev(R:Run)(N:Nat)(a0:(vK×Unit))(a1:List Int):qrz E R sg_Z174 pol_Z174 F_Z174 N [⟨(.ptr yC),a0⟩,⟨yL,a1⟩]=((qdj R n_Z137 o_Z137 [⟨yL,a1⟩,⟨yI,(List.length a0.1:Int)⟩,⟨yI,(4:Int)⟩]).bind fun r1=>(bif (!r1.1) then some ⟨o_Z174,(false,())⟩ else(Z174.l0 R N N a0 a1 (0:Int)))):=by kernel_rfl
theorem Z164.ev(R:Run)(N:Nat)(a0:(vK×Unit)):qrz E R sg_Z164 pol_Z164 F_Z164 N [⟨(.ptr yC),a0⟩]=((qdj R n_Z173 o_Z173 [⟨(.ptr yC),a0⟩,⟨yI,(List.length a0.1:Int)⟩,⟨yI,(0:Int)⟩]).bind fun r1=>some ⟨o_Z164,(r1.1,())⟩):=by kernel_rfl
def Z172.j3(R:Run)(N a b:Nat)(e:vS)(f g:Int)(h:Bool):Option Dv:=R.w (some ⟨(.c (.ip yS e 0)::(V.dead::(V.dead::(.c (.d yI f)::(.c (.d yI g)::(zd 68 (.c (.d .bool h)::(zd 18 [])))))))),(zo 93 [])⟩) fun st=>eC R pol_Z172 N [1,1,0,1,0,0,1,0,0,1,0,0,0,1] F_Z172 st (kS R pol_Z172 9 N [1,1,0,1,0,0,1,0,0,1,0,0,1] F_Z172 (kL R pol_Z172 7 N [1,1,0,1,0,0,1,0,0,1,0,0] F_Z172 b (kB R pol_Z172 2 (kB R pol_Z172 1 (kS R pol_Z172 5 N [1,1,0,1,0,0,1,1] F_Z172 (kL R pol_Z172 4 N [1,1,0,1,0,0] F_Z172 a (kB R pol_Z172 0 (q3_2 R N (qsf E sg_Z172 F_Z172)))))))))
def Z172.l2(R:Run)(N a n:Nat)(b:vS)(e f:Int):Option Dv:=R.w (some ⟨(.c (.ip yS b 0)::(V.dead::(V.dead::(.c (.d yI e)::(.c (.d yI f)::(zd 87 [])))))),(zo 93 [])⟩) fun st=>lC R pol_Z172 7 N [1,1,0,1,0,0,1,0,0,1,0,0] F_Z172 n st (kB R pol_Z172 2 (kB R pol_Z172 1 (kS R pol_Z172 5 N [1,1,0,1,0,0,1,1] F_Z172 (kL R pol_Z172 4 N [1,1,0,1,0,0] F_Z172 a (kB R pol_Z172 0 (q3_2 R N (qsf E sg_Z172 F_Z172)))))))
def Z172.l1(R:Run)(N n:Nat)(a:vS)(b:Int):Option Dv:=R.w (some ⟨(.c (.ip yS a 0)::(V.dead::(V.dead::(.c (.d yI b)::(zd 88 []))))),(zo 93 [])⟩) fun st=>lC R pol_Z172 4 N [1,1,0,1,0,0] F_Z172 n st (kB R pol_Z172 0 (q3_2 R N (qsf E sg_Z172 F_Z172)))
def Z172.j0(R:Run)(N:Nat)(a:vS)(b:Bool):Option Dv:=R.w (some ⟨(.c (.ip yS a 0)::(zd 39 (.c (.d .bool b)::(zd 51 [])))),(zo 93 [])⟩) fun st=>eC R pol_Z172 N [1,0,1] F_Z172 st (kS R pol_Z172 3 N [1,1] F_Z172 (qsf E sg_Z172 F_Z172))
theorem Z172.j3_eq(R:Run)(hw:R.ok)(N a b:Nat)(c:vS)(d e:Int)(f:Bool):Z172.j3 R N a b c d e f=(bif f then((qdj R n_Z173 o_Z173 [⟨(.ptr yC),(c.1,())⟩,⟨yI,d⟩,⟨yI,e⟩]).bind fun r15=>((idx? c.2.2.2.1 r15.1).bind fun y16=>((qdj R n_Z170 o_Z170 [⟨(.ptr yS),c⟩,⟨yI,d⟩,⟨yI,e⟩,⟨(.ptr yM),y16⟩]).bind fun r17=>(bif (!r17.1) then some ⟨o_Z172,(false,())⟩ else(Z172.l2 R N a b c d (w64 (e+(1:Int)))))))) else(Z172.l1 R N a c (w64 (d+(1:Int))))):=(hw _ _).trans (by kernel_rfl)
theorem Z172.l2_succ(R:Run)(hw:R.ok)(N a n:Nat)(b:vS)(c d:Int):Z172.l2 R N a (n+1) b c d=((idx? b.1 c).bind fun y9=>(bif (decide (d<(List.length (y9,()).1:Int))) then((idx? b.1 c).bind fun y10=>(Z172.j3 R N a n b c d (decide ((List.length (y10,()).1:Int)>(1:Int))))) else(Z172.j3 R N a n b c d false))):=(hw _ _).trans (by kernel_rfl)
theorem Z172.l1_succ(R:Run)(hw:R.ok)(N n:Nat)(a:vS)(b:Int):Z172.l1 R N (n+1) a b=(bif (decide (b<(List.length a.1:Int))) then(Z172.l2 R N n N a b (0:Int)) else some ⟨o_Z172,(true,())⟩):=(hw _ _).trans (by kernel_rfl)
theorem Z172.j0_eq(R:Run)(hw:R.ok)(N:Nat)(a:vS)(b:Bool):Z172.j0 R N a b=(bif b then some ⟨o_Z172,(false,())⟩ else(Z172.l1 R N N a (0:Int))):=(hw _ _).trans (by kernel_rfl)
theorem Z172.ev(R:Run)(N:Nat)(a0:vS):qrz E R sg_Z172 pol_Z172 F_Z172 N [⟨(.ptr yS),a0⟩]=((qdj R n_Z157 o_Z157 [⟨(.ptr yC),(a0.1,())⟩]).bind fun r1=>(bif (!r1.1) then(Z172.j0 R N a0 true) else((qdj R n_Z124 o_Z124 [⟨yI,a0.2.1⟩]).bind fun r27=>(bif (!r27.1) then(Z172.j0 R N a0 true) else((qdj R n_Z174 o_Z174 [⟨(.ptr yC),(a0.1,())⟩,⟨yL,a0.2.2.1⟩]).bind fun r30=>(bif (!r30.1) then(Z172.j0 R N a0 true) else((qdj R n_Z164 o_Z164 [⟨(.ptr yC),(a0.1,())⟩]).bind fun r33=>(Z172.j0 R N a0 ((List.length a0.2.2.2.1:Int) != r33.1))))))))):=by kernel_rfl
theorem Z151.ev(R:Run)(N:Nat)(a0:Int):qrz E R sg_Z151 pol_Z151 F_Z151 N [⟨yI,a0⟩]=((qdj R n_Z126 o_Z126 [⟨yI,a0⟩,⟨yI,(0:Int)⟩,⟨yI,(3:Int)⟩]).bind fun r1=>some ⟨o_Z151,(r1.1,())⟩):=by kernel_rfl
theorem Z123.ev(R:Run)(N:Nat)(a0:vK)(a1:Int)(a2:List Int)(a3:vN)(a4:Int):qrz E R sg_Z123 pol_Z123 F_Z123 N [⟨yK,a0⟩,⟨yI,a1⟩,⟨yL,a2⟩,⟨yN,a3⟩,⟨yI,a4⟩]=((qdj R n_Z172 o_Z172 [⟨(.ptr yS),(a0,a1,a2,a3,())⟩]).bind fun r1=>(bif (!r1.1) then some ⟨o_Z123,((0:Int),(1:Int),())⟩ else((qdj R n_Z151 o_Z151 [⟨yI,a4⟩]).bind fun r2=>(bif (!r2.1) then some ⟨o_Z123,((0:Int),(2:Int),())⟩ else((qdj R n_Z175 o_Z175 [⟨(.ptr yC),((a0,a1,a2,a3,()).1,())⟩,⟨yL,a2⟩,⟨yI,a4⟩]).bind fun r3=>some ⟨o_Z123,(r3.1,(0:Int),())⟩))))):=by kernel_rfl
def Z121.l0(R:Run)(N n:Nat)(a b e:Int)(f g:List Int)(h i:Int):Option Dv:=R.w (some ⟨(V.dead::(.c (.d yI a)::(.c (.d yI b)::(zd 4 (.c (.box 28 0)::(.c (.arr 12)::(.c (.d yI e)::(zd 15 [])))))))),(zo 12 (some (.arr yI f true false false)::(zo 15 (some (.box [.d (.sl (.int .u8)) g,.d yI h,.d (.int .u64) i] false false)::[]))))⟩) fun st=>lC R pol_Z121 4 N [1,1,1,0,1,0,0] F_Z121 n st (kB R pol_Z121 0 (kS R pol_Z121 7 N [1,1,1,1] F_Z121 (qsf E sg_Z121 F_Z121)))
theorem Z121.l0_succ(R:Run)(hw:R.ok)(N n:Nat)(a b c:Int)(d e:List Int)(f g:Int):Z121.l0 R N (n+1) a b c d e f g=(bif (decide (c<a)) then((qdj R n_Z134 o_Z134 [⟨(.ptr yR),(e,f,g,())⟩,⟨yI,b⟩]).bind fun r9=>((chk (decide ((List.length d+List.length [r9.1])*8≤70368744177664))).bind fun _=>(Z121.l0 R N n a b (w64 (c+(1:Int))) (d++[r9.1]) r9.2.1.1 r9.2.1.2.1 r9.2.1.2.2.1))) else some ⟨o_Z121,(d,())⟩):=(hw _ _).trans (by kernel_rfl)
theorem Z121.ev(R:Run)(N:Nat)(a0:List Int)(a1 a2:Int):qrz E R sg_Z121 pol_Z121 F_Z121 N [⟨(.sl (.int .u8)),a0⟩,⟨yI,a1⟩,⟨yI,a2⟩]=((qdj R n_Z125 o_Z125 [⟨(.sl (.int .u8)),a0⟩]).bind fun r1=>(Z121.l0 R N N a1 a2 (0:Int) ([]:List Int) r1.1.1 r1.1.2.1 r1.1.2.2.1)):=by kernel_rfl
theorem Z61.ev(R:Run)(N:Nat)(a0:List Int)(a1 a2:Int):qrz E R sg_Z61 pol_Z61 F_Z61 N [⟨yL,a0⟩,⟨yI,a1⟩,⟨yI,a2⟩]=((qdj R n_Z77 o_Z77 [⟨yL,a0⟩]).bind fun r1=>(bif (r1.1==a1) then((qdj R n_Z25 o_Z25 [⟨yL,a0⟩,⟨yI,a2⟩]).bind fun r2=>some ⟨o_Z61,(r2.1,())⟩) else some ⟨o_Z61,(false,())⟩)):=by kernel_rfl
theorem Z83.ev(R:Run)(N:Nat)(a0:vK)(a1:Int)(a2:List Int)(a3:vN)(a4:Int)(a5:List Int):qrz E R sg_Z83 pol_Z83 F_Z83 N [⟨yK,a0⟩,⟨yI,a1⟩,⟨yL,a2⟩,⟨yN,a3⟩,⟨yI,a4⟩,⟨yL,a5⟩]=((qdj R n_Z51 o_Z51 [⟨yK,a0⟩,⟨yI,a1⟩,⟨yL,a2⟩,⟨yN,a3⟩,⟨yI,a4⟩]).bind fun r1=>(bif (r1.1 != (0:Int)) then some ⟨o_Z83,(r1.1,())⟩ else((qdj R n_Z80 o_Z80 [⟨yK,a0⟩,⟨yI,a1⟩,⟨yL,a2⟩,⟨yN,a3⟩,⟨yI,a4⟩]).bind fun r2=>((qdj R n_Z61 o_Z61 [⟨yL,a5⟩,⟨yI,r2.1⟩,⟨yI,a1⟩]).bind fun r3=>(bif (!r3.1) then some ⟨o_Z83,((7:Int),())⟩ else some ⟨o_Z83,((0:Int),())⟩))))):=by kernel_rfl
def Z78.l1(R:Run)(N n:Nat)(a:List Int)(b e f g h:Int)(i j:List Int)(k:vK):Option Dv:=R.w (some ⟨(V.dead::(V.dead::(.c (.box 2 0)::(zd 3 (.c (.arr 76)::(zd 3 (.c (.arr 46)::(zd 36 (.c (.d yL a)::(.c (.d yI b)::(.c (.d yI e)::(zd 21 [])))))))))))),(none::(none::(some (.box [.d yI f,.d yI g,.d yI h,.d yL i] false false)::(zo 43 (some (.arr yI j true false false)::(zo 29 (some (.arr yL k false false false)::(none::[]))))))))⟩) fun st=>lC R pol_Z78 10 N [1,1,1,1,1,0,1,0,0] F_Z78 n st (kB R pol_Z78 2 (kS R pol_Z78 16 N [1,1,1,1,1,1] F_Z78 (qsf E sg_Z78 F_Z78)))
def Z78.l0(R:Run)(N n:Nat)(a:List Int)(b e f g h:Int)(i:List Int)(j:vK):Option Dv:=R.w (some ⟨(V.dead::(.c (.d yL a)::(.c (.box 2 0)::(zd 3 (.c (.arr 76)::(zd 9 (.c (.d yI b)::(.c (.d yI e)::(zd 53 []))))))))),(none::(none::(some (.box [.d yI f,.d yI g,.d yI h,.d yL i] false false)::(zo 73 (some (.arr yL j true false false)::(none::[]))))))⟩) fun st=>lC R pol_Z78 3 N [1,1,0,1,0,0] F_Z78 n st (kB R pol_Z78 0 (kS R pol_Z78 7 N [1,1,1] F_Z78 (qsf E sg_Z78 F_Z78)))
theorem Z78.l1_succ(R:Run)(hw:R.ok)(N n:Nat)(a:List Int)(b c d e f:Int)(g h:List Int)(i:vK):Z78.l1 R N (n+1) a b c d e f g h i=(bif (decide (c<b)) then((idx? a c).bind fun y39=>(bif ((y39,()).1==f) then some ⟨o_Z78,(([]:List Int),false,())⟩ else((chk (decide (0≤c)&&decide (c<(List.length i:Int)))).bind fun _=>(Option.bind (i)[(Int.toNat c)]? fun y40=>((idx? y40 f).bind fun y41=>((chk (decide (0≤(y39,()).1)&&decide ((y39,()).1<(List.length h:Int)))).bind fun _=>(Z78.l1 R N n a b (w64 (c+(1:Int))) d e f g (List.set h (Int.toNat (y39,()).1) (y41,()).1) i))))))) else some ⟨o_Z78,(h,true,())⟩):=(hw _ _).trans (by kernel_rfl)
theorem Z78.l0_succ(R:Run)(hw:R.ok)(N n:Nat)(a:List Int)(b c d e f:Int)(g:List Int)(h:vK):Z78.l0 R N (n+1) a b c d e f g h=(bif (decide (c<b)) then((chk (decide (0≤c)&&decide (c<(List.length h:Int)))).bind fun _=>((idx? a c).bind fun y10=>(qoP (Option.bind (h)[(Int.toNat c)]? fun y11=>((chk (decide ((List.length y11+List.length [(y10,()).1])*8≤70368744177664))).bind fun _=>((chk (decide (0≤c)&&decide (c<(List.length h:Int)))).bind fun _=>((chk (decide ((Int.toNat c)=(Int.toNat c)))).bind fun _=>(Z78.l0 R N n a b (w64 (c+(1:Int))) d e f g (List.set h (Int.toNat c) (y11++[(y10,()).1]))))))) (Option.bind (h)[(Int.toNat c)]? fun y20=>((chk (decide ((List.length y20+List.length [(y10,()).1])*8≤70368744177664))).bind fun _=>((chk (decide (0≤c)&&decide (c<(List.length h:Int)))).bind fun _=>((chk (decide ((Int.toNat c)=(Int.toNat c)))).bind fun _=>(Z78.l0 R N n a b (w64 (c+(1:Int))) d e f g (List.set h (Int.toNat c) (y20++[(y10,()).1])))))))))) else((qdj R n_Z41 o_Z41 [⟨yK,h⟩,⟨yI,(w64 (f+(1:Int)))⟩,⟨yI,d⟩]).bind fun r29=>((chk (decide (0≤f)&&decide (f*8≤70368744177664))).bind fun _=>(Z78.l1 R N N r29.1 (List.length r29.1:Int) (0:Int) d e f g (List.replicate (Int.toNat f) (0:Int)) r29.2.2.1)))):=(hw _ _).trans (by kernel_rfl)
theorem Z78.ev(R:Run)(N:Nat)(a0 a1 a2:Int)(a3 a4:List Int):qrz E R sg_Z78 pol_Z78 F_Z78 N [⟨yI,a0⟩,⟨yI,a1⟩,⟨yI,a2⟩,⟨yL,a3⟩,⟨yL,a4⟩]=((qdj R n_Z74 o_Z74 [⟨yI,a0⟩,⟨yI,a1⟩,⟨yI,a2⟩,⟨yL,a3⟩]).bind fun r1=>(Z78.l0 R N N a4 (List.length r1.1:Int) (0:Int) a0 a1 a2 a3 r1.1)):=by kernel_rfl
theorem Z70.ev(R:Run)(N:Nat)(a0:vK)(a1:Int)(a2:List Int)(a3:vN)(a4:Int)(a5:List Int):qrz E R sg_Z70 pol_Z70 F_Z70 N [⟨yK,a0⟩,⟨yI,a1⟩,⟨yL,a2⟩,⟨yN,a3⟩,⟨yI,a4⟩,⟨yL,a5⟩]=((qdj R n_Z31 o_Z31 [⟨yK,a0⟩,⟨yI,a1⟩,⟨yL,a2⟩,⟨yN,a3⟩,⟨yI,(w64 (a4-(1:Int)))⟩]).bind fun r1=>((qdj R n_Z78 o_Z78 [⟨yI,r1.1⟩,⟨yI,r1.2.1⟩,⟨yI,r1.2.2.1⟩,⟨yL,r1.2.2.2.1⟩,⟨yL,a5⟩]).bind fun r2=>some ⟨o_Z70,(r2.1,r2.2.1,())⟩)):=by kernel_rfl
theorem Z12.ev(R:Run)(N:Nat)(a0:vK)(a1:Int)(a2:List Int)(a3:vN)(a4:Int)(a5:List Int):qrz E R sg_Z12 pol_Z12 F_Z12 N [⟨yK,a0⟩,⟨yI,a1⟩,⟨yL,a2⟩,⟨yN,a3⟩,⟨yI,a4⟩,⟨yL,a5⟩]=((qdj R n_Z83 o_Z83 [⟨yK,a0⟩,⟨yI,a1⟩,⟨yL,a2⟩,⟨yN,a3⟩,⟨yI,a4⟩,⟨yL,a5⟩]).bind fun r1=>(bif (r1.1 != (0:Int)) then some ⟨o_Z12,(([]:List Int),r1.1,())⟩ else((qdj R n_Z70 o_Z70 [⟨yK,a0⟩,⟨yI,a1⟩,⟨yL,a2⟩,⟨yN,a3⟩,⟨yI,a4⟩,⟨yL,a5⟩]).bind fun r2=>(bif (!r2.2.1) then some ⟨o_Z12,(([]:List Int),(3:Int),())⟩ else some ⟨o_Z12,(r2.1,(0:Int),())⟩)))):=by kernel_rfl
theorem Z8.ev(R:Run)(N:Nat)(a0:vK)(a1:Int)(a2:List Int)(a3:vN)(a4:Int)(a5:List Int):qrz E R sg_Z8 pol_Z8 F_Z8 N [⟨yK,a0⟩,⟨yI,a1⟩,⟨yL,a2⟩,⟨yN,a3⟩,⟨yI,a4⟩,⟨yL,a5⟩]=((qdj R n_Z12 o_Z12 [⟨yK,a0⟩,⟨yI,a1⟩,⟨yL,a2⟩,⟨yN,a3⟩,⟨yI,a4⟩,⟨yL,a5⟩]).bind fun r1=>some ⟨o_Z8,((r1.2.1==(0:Int)),())⟩):=by kernel_rfl
def Z24.l0(R:Run)(N n:Nat)(a:List Int)(b e f g h:Int)(i j:List Int):Option Dv:=R.w (some ⟨(V.dead::(.c (.d yL a)::(.c (.box 2 0)::(V.dead::(V.dead::(.c (.arr 21)::(V.dead::(V.dead::(.c (.d yI b)::(.c (.d yI e)::(zd 14 []))))))))))),(none::(none::(some (.box [.d yI f,.d yI g,.d yI h,.d yL i] false false)::(zo 18 (some (.arr yI j true false false)::(zo 7 []))))))⟩) fun st=>lC R pol_Z24 3 N [1,1,0,1,0,0] F_Z24 n st (kB R pol_Z24 0 (kS R pol_Z24 7 N [1,1,1] F_Z24 (qsf E sg_Z24 F_Z24)))
theorem Z24.l0_succ(R:Run)(hw:R.ok)(N n:Nat)(a:List Int)(b c d e f:Int)(g h:List Int):Z24.l0 R N (n+1) a b c d e f g h=(bif (decide (c<b)) then((qdj R n_Z11 o_Z11 [⟨yI,d⟩,⟨yI,e⟩,⟨yI,f⟩,⟨yL,g⟩,⟨yI,c⟩]).bind fun r9=>((qdj R n_Z40 o_Z40 [⟨yL,r9.1⟩,⟨yL,a⟩,⟨yI,d⟩]).bind fun r10=>((chk (decide ((List.length h+List.length [r10.1])*8≤70368744177664))).bind fun _=>(Z24.l0 R N n a b (w64 (c+(1:Int))) d e f g (h++[r10.1]))))) else some ⟨o_Z24,(h,())⟩):=(hw _ _).trans (by kernel_rfl)
theorem Z24.ev(R:Run)(N:Nat)(a0 a1 a2:Int)(a3 a4:List Int):qrz E R sg_Z24 pol_Z24 F_Z24 N [⟨yI,a0⟩,⟨yI,a1⟩,⟨yI,a2⟩,⟨yL,a3⟩,⟨yL,a4⟩]=(Z24.l0 R N N a4 a1 (0:Int) a0 a1 a2 a3 ([]:List Int)):=by kernel_rfl
theorem Z56.ev(R:Run)(N:Nat)(a0:vK)(a1:Int)(a2:List Int)(a3:vN)(a4:Int)(a5:List Int):qrz E R sg_Z56 pol_Z56 F_Z56 N [⟨yK,a0⟩,⟨yI,a1⟩,⟨yL,a2⟩,⟨yN,a3⟩,⟨yI,a4⟩,⟨yL,a5⟩]=((qdj R n_Z31 o_Z31 [⟨yK,a0⟩,⟨yI,a1⟩,⟨yL,a2⟩,⟨yN,a3⟩,⟨yI,a4⟩]).bind fun r1=>((qdj R n_Z24 o_Z24 [⟨yI,r1.1⟩,⟨yI,r1.2.1⟩,⟨yI,r1.2.2.1⟩,⟨yL,r1.2.2.2.1⟩,⟨yL,a5⟩]).bind fun r2=>((qdj R n_Z63 o_Z63 [⟨yL,r2.1⟩]).bind fun r3=>some ⟨o_Z56,(r3.1,())⟩))):=by kernel_rfl
def Z96.l1(R:Run)(N n:Nat)(a:(List vK))(b e:Int)(f:vK):Option Dv:=R.w (some ⟨(zd 6 (.c (.arr 37)::(zd 18 (.c (.d (.sl yK) a)::(.c (.d yI b)::(.c (.d yI e)::(zd 8 []))))))),(zo 37 (some (.arr yL f false false false)::[]))⟩) fun st=>lC R pol_Z96 11 N [1,1,1,1,0,1,0,0] F_Z96 n st (kB R pol_Z96 2 (kS R pol_Z96 15 N [1,1,1,1,1] F_Z96 (qsf E sg_Z96 F_Z96)))
def Z96.l0(R:Run)(N n:Nat)(a:(List vK))(b:Int)(e:(List vK))(f g:Int):Option Dv:=R.w (some ⟨(.c (.d (.sl yK) a)::(V.dead::(V.dead::(.c (.d yI b)::(zd 5 (.c (.d (.sl yK) e)::(.c (.d yI f)::(.c (.d yI g)::(zd 24 []))))))))),(zo 38 [])⟩) fun st=>lC R pol_Z96 3 N [1,1,0,1,0,0] F_Z96 n st (kB R pol_Z96 0 (kS R pol_Z96 9 N [1,1,1] F_Z96 (qsf E sg_Z96 F_Z96)))
theorem Z96.l1_succ(R:Run)(hw:R.ok)(N n:Nat)(a:(List vK))(b c:Int)(d:vK):Z96.l1 R N (n+1) a b c d=(bif (decide (c<b)) then((idx? a c).bind fun y17=>((chk (decide ((List.length d+List.length (y17,()).1)*24≤70368744177664))).bind fun _=>(Z96.l1 R N n a b (w64 (c+(1:Int))) (d++(y17,()).1)))) else some ⟨o_Z96,(d,())⟩):=(hw _ _).trans (by kernel_rfl)
theorem Z96.l0_succ(R:Run)(hw:R.ok)(N n:Nat)(a:(List vK))(b:Int)(c:(List vK))(d e:Int):Z96.l0 R N (n+1) a b c d e=(bif (decide (e<d)) then((idx? c e).bind fun y6=>(bif (decide ((w64 (b+(List.length (y6,()).1:Int)))<(0:Int))) then none else(Z96.l0 R N n a (w64 (b+(List.length (y6,()).1:Int))) c d (w64 (e+(1:Int)))))) else((qdj R n_Z107 o_Z107 [⟨yK,([]:List (List Int))⟩,⟨yI,b⟩]).bind fun r12=>(Z96.l1 R N N a (List.length a:Int) (0:Int) r12.1))):=(hw _ _).trans (by kernel_rfl)
theorem Z96.ev(R:Run)(N:Nat)(a0:(List vK)):qrz E R sg_Z96 pol_Z96 F_Z96 N [⟨(.sl yK),a0⟩]=(Z96.l0 R N N a0 (0:Int) a0 (List.length a0:Int) (0:Int)):=by kernel_rfl
theorem Z66.ev(R:Run)(N:Nat)(a0 a1:Int)(a2:vK):qrz E R sg_Z66 pol_Z66 F_Z66 N [⟨yI,a0⟩,⟨yI,a1⟩,⟨yK,a2⟩]=((qdj R n_Z76 o_Z76 [⟨yK,a2⟩]).bind fun r1=>((qdj R n_Z97 o_Z97 [⟨yK,a2⟩]).bind fun r2=>some ⟨o_Z66,(a0,r1.1,a1,r2.1,())⟩)):=by kernel_rfl
theorem Z34.ev(R:Run)(N:Nat)(a0:vK)(a1 a2:Int)(a3:vK)(a4:List Int):qrz E R sg_Z34 pol_Z34 F_Z34 N [⟨yK,a0⟩,⟨yI,a1⟩,⟨yI,a2⟩,⟨yK,a3⟩,⟨yL,a4⟩]=((qdj R n_Z96 o_Z96 [⟨(.sl yK),[a0,a3]⟩]).bind fun r1=>((qdj R n_Z66 o_Z66 [⟨yI,a1⟩,⟨yI,a2⟩,⟨yK,r1.1⟩]).bind fun r2=>((qdj R n_Z81 o_Z81 [⟨yI,r2.1⟩,⟨yI,r2.2.1⟩,⟨yI,r2.2.2.1⟩,⟨yL,r2.2.2.2.1⟩]).bind fun r3=>((qdj R n_Z78 o_Z78 [⟨yI,r3.1⟩,⟨yI,r3.2.1⟩,⟨yI,r3.2.2.1⟩,⟨yL,r3.2.2.2.1⟩,⟨yL,a4⟩]).bind fun r4=>((chk (decide (0≤(List.length a0:Int))&&decide ((List.length a0:Int)≤(List.length r4.1:Int)))).bind fun _=>some ⟨o_Z34,((List.drop 0 (List.take (Int.toNat (List.length a0:Int)) r4.1)),())⟩))))):=by kernel_rfl
theorem Z6.ev(R:Run)(N:Nat)(a0:vK)(a1:Int)(a2:List Int)(a3:vN)(a4:Int)(a5:List Int):qrz E R sg_Z6 pol_Z6 F_Z6 N [⟨yK,a0⟩,⟨yI,a1⟩,⟨yL,a2⟩,⟨yN,a3⟩,⟨yI,a4⟩,⟨yL,a5⟩]=((qdj R n_Z83 o_Z83 [⟨yK,a0⟩,⟨yI,a1⟩,⟨yL,a2⟩,⟨yN,a3⟩,⟨yI,a4⟩,⟨yL,a5⟩]).bind fun r1=>(bif (r1.1 != (0:Int)) then some ⟨o_Z6,(([]:List Int),r1.1,())⟩ else((qdj R n_Z56 o_Z56 [⟨yK,a0⟩,⟨yI,a1⟩,⟨yL,a2⟩,⟨yN,a3⟩,⟨yI,a4⟩,⟨yL,a5⟩]).bind fun r2=>(bif (!r2.1) then some ⟨o_Z6,(([]:List Int),(6:Int),())⟩ else((qdj R n_Z32 o_Z32 [⟨yK,a0⟩,⟨yI,a1⟩,⟨yL,a2⟩,⟨yN,a3⟩,⟨yI,a4⟩]).bind fun r3=>((qdj R n_Z30 o_Z30 [⟨yK,a0⟩,⟨yI,a1⟩,⟨yL,a2⟩,⟨yN,a3⟩,⟨yI,a4⟩]).bind fun r4=>((qdj R n_Z34 o_Z34 [⟨yK,r3.1⟩,⟨yI,r4.1⟩,⟨yI,r4.2.1⟩,⟨yK,r4.2.2.1⟩,⟨yL,a5⟩]).bind fun r5=>some ⟨o_Z6,(r5.1,(0:Int),())⟩))))))):=by kernel_rfl
def Z91.l0(R:Run)(N n:Nat)(a b:List Int)(e:Int):Option Dv:=R.w (some ⟨(.c (.d yL a)::(.c (.d yL b)::(zd 3 (.c (.d yI e)::(zd 20 []))))),(zo 28 [])⟩) fun st=>lC R pol_Z91 4 N [1,1,0,1,0,0] F_Z91 n st (kB R pol_Z91 0 (kS R pol_Z91 8 N [1,1,1] F_Z91 (qsf E sg_Z91 F_Z91)))
theorem Z91.l0_succ(R:Run)(hw:R.ok)(N n:Nat)(a b:List Int)(c:Int):Z91.l0 R N (n+1) a b c=(bif (decide (c<(List.length a:Int))) then((idx? a c).bind fun y4=>((idx? b c).bind fun y5=>(bif ((y4,()).1 != (y5,()).1) then some ⟨o_Z91,(false,())⟩ else(Z91.l0 R N n a b (w64 (c+(1:Int))))))) else some ⟨o_Z91,(true,())⟩):=(hw _ _).trans (by kernel_rfl)
theorem Z91.ev(R:Run)(N:Nat)(a0 a1:List Int):qrz E R sg_Z91 pol_Z91 F_Z91 N [⟨yL,a0⟩,⟨yL,a1⟩]=(bif ((List.length a0:Int) != (List.length a1:Int)) then some ⟨o_Z91,(false,())⟩ else(Z91.l0 R N N a0 a1 (0:Int))):=by kernel_rfl
theorem Z167.ev(R:Run)(N:Nat)(a0:vS)(a1 a2:Int):qrz E R sg_Z167 pol_Z167 F_Z167 N [⟨(.ptr yS),a0⟩,⟨yI,a1⟩,⟨yI,a2⟩]=((qdj R n_Z173 o_Z173 [⟨(.ptr yC),(a0.1,())⟩,⟨yI,a1⟩,⟨yI,a2⟩]).bind fun r1=>((idx? a0.2.2.2.1 r1.1).bind fun y2=>some ⟨o_Z167,(y2,())⟩)):=by kernel_rfl
def Z176.j0(R:Run)(N:Nat)(a:vS)(b e f g h i j:Int):Option Dv:=R.w (some ⟨(.c (.ip yS a 0)::(.c (.d yI b)::(.c (.d yI e)::(.c (.d yI f)::(zd 4 (.c (.box 8 0)::(.c (.d yI g)::(zd 22 [])))))))),(zo 8 (some (.box [.d yI h,.d yI i,.d yI j,.nils yI] false false)::(zo 28 [])))⟩) fun st=>eC R pol_Z176 N [1,1,1] F_Z176 st (qsf E sg_Z176 F_Z176)
theorem Z176.j0_eq(R:Run)(hw:R.ok)(N:Nat)(a:vS)(b c d e f g h:Int):Z176.j0 R N a b c d e f g h=((qdj R n_Z167 o_Z167 [⟨(.ptr yS),a⟩,⟨yI,b⟩,⟨yI,c⟩]).bind fun r11=>((qdj R n_Z167 o_Z167 [⟨(.ptr yS),a⟩,⟨yI,e⟩,⟨yI,d⟩]).bind fun r12=>((qdj R n_Z146 o_Z146 [⟨(.ptr yM),r11.1⟩,⟨(.ptr yM),r12.1⟩]).bind fun r13=>some ⟨o_Z176,(r13.1,r13.2.1,r13.2.2.1,r13.2.2.2.1,())⟩))):=(hw _ _).trans (by kernel_rfl)
theorem Z176.ev(R:Run)(N:Nat)(a0:vS)(a1 a2 a3:Int):qrz E R sg_Z176 pol_Z176 F_Z176 N [⟨(.ptr yS),a0⟩,⟨yI,a1⟩,⟨yI,a2⟩,⟨yI,a3⟩]=((qdj R n_Z154 o_Z154 [⟨(.ptr yC),(a0.1,())⟩,⟨yI,a1⟩]).bind fun r1=>((idx? r1.1 a2).bind fun y2=>(bif (decide (a3>a2)) then(Z176.j0 R N a0 a1 a2 (w64 (a3-(1:Int))) ((y2,()).1) (0:Int) (0:Int) (0:Int)) else(Z176.j0 R N a0 a1 a2 a3 ((y2,()).1) (0:Int) (0:Int) (0:Int))))):=by kernel_rfl
def Z145.l1(R:Run)(N n:Nat)(a b:vM)(e:Int):Option Dv:=R.w (some ⟨(.c (.ip yM a 0)::(.c (.ip yM b 0)::(zd 3 (.c (.d yI e)::(zd 68 []))))),(zo 76 [])⟩) fun st=>lC R pol_Z145 4 N [1,1,0,1,0,0] F_Z145 n st (kB R pol_Z145 0 (kS R pol_Z145 8 N [1,1,1] F_Z145 (qsf E sg_Z145 F_Z145)))
def Z145.j0(R:Run)(N:Nat)(a b:vM)(e:Bool):Option Dv:=R.w (some ⟨(.c (.ip yM a 0)::(.c (.ip yM b 0)::(zd 47 (.c (.d .bool e)::(zd 24 []))))),(zo 76 [])⟩) fun st=>eC R pol_Z145 N [1,0,1] F_Z145 st (kS R pol_Z145 3 N [1,1] F_Z145 (qsf E sg_Z145 F_Z145))
theorem Z145.l1_succ(R:Run)(hw:R.ok)(N n:Nat)(a b:vM)(c:Int):Z145.l1 R N (n+1) a b c=(bif (decide (c<(List.length a.2.2.2.1:Int))) then((idx? a.2.2.2.1 c).bind fun y7=>((idx? b.2.2.2.1 c).bind fun y8=>(bif ((y7,()).1 != (y8,()).1) then some ⟨o_Z145,(false,())⟩ else(Z145.l1 R N n a b (w64 (c+(1:Int))))))) else some ⟨o_Z145,(true,())⟩):=(hw _ _).trans (by kernel_rfl)
theorem Z145.j0_eq(R:Run)(hw:R.ok)(N:Nat)(a b:vM)(c:Bool):Z145.j0 R N a b c=(bif c then some ⟨o_Z145,(false,())⟩ else(Z145.l1 R N N a b (0:Int))):=(hw _ _).trans (by kernel_rfl)
theorem Z145.ev(R:Run)(N:Nat)(a0 a1:vM):qrz E R sg_Z145 pol_Z145 F_Z145 N [⟨(.ptr yM),a0⟩,⟨(.ptr yM),a1⟩]=(bif (a0.1 != a1.1) then(Z145.j0 R N a0 a1 true) else(bif (a0.2.1 != a1.2.1) then(Z145.j0 R N a0 a1 true) else(bif (a0.2.2.1 != a1.2.2.1) then(Z145.j0 R N a0 a1 true) else(Z145.j0 R N a0 a1 ((List.length a0.2.2.2.1:Int) != (List.length a1.2.2.2.1:Int)))))):=by kernel_rfl
def Z177.l3(R:Run)(N a b n:Nat)(e:vS)(f g h i:Int):Option Dv:=R.w (some ⟨(.c (.ip yS e 0)::(zd 4 (.c (.d yI f)::(.c (.d yI g)::(.c (.d yI h)::(.c (.d yI i)::(zd 52 []))))))),(zo 62 [])⟩) fun st=>lC R pol_Z177 9 N [1,0,1,0,0,1,0,0,1,1,0,0,1,0,0,1,0,0] F_Z177 n st (kB R pol_Z177 4 (kB R pol_Z177 3 (kS R pol_Z177 7 N [1,0,1,0,0,1,0,0,1,1,0,0,1,1] F_Z177 (kL R pol_Z177 6 N [1,0,1,0,0,1,0,0,1,1,0,0] F_Z177 b (kB R pol_Z177 2 (kB R pol_Z177 1 (q3_3 R N (q3_9 R N a (kB R pol_Z177 0 (q3_4 R N (qsf E sg_Z177 F_Z177)))))))))))
def Z177.j2(R:Run)(N a b:Nat)(e:vS)(f g h:Int)(i:Bool):Option Dv:=R.w (some ⟨(.c (.ip yS e 0)::(zd 4 (.c (.d yI f)::(.c (.d yI g)::(.c (.d yI h)::(zd 28 (.c (.d .bool i)::(zd 24 [])))))))),(zo 62 [])⟩) fun st=>eC R pol_Z177 N [1,0,1,0,0,1,0,0,1,1,0,0,0,1] F_Z177 st (kS R pol_Z177 8 N [1,0,1,0,0,1,0,0,1,1,0,0,1] F_Z177 (kL R pol_Z177 6 N [1,0,1,0,0,1,0,0,1,1,0,0] F_Z177 b (kB R pol_Z177 2 (kB R pol_Z177 1 (q3_3 R N (q3_9 R N a (kB R pol_Z177 0 (q3_4 R N (qsf E sg_Z177 F_Z177)))))))))
def Z177.l1(R:Run)(N a n:Nat)(b:vS)(e f g:Int):Option Dv:=R.w (some ⟨(.c (.ip yS b 0)::(zd 4 (.c (.d yI e)::(.c (.d yI f)::(.c (.d yI g)::(zd 53 [])))))),(zo 62 [])⟩) fun st=>lC R pol_Z177 6 N [1,0,1,0,0,1,0,0,1,1,0,0] F_Z177 n st (kB R pol_Z177 2 (kB R pol_Z177 1 (q3_3 R N (q3_9 R N a (kB R pol_Z177 0 (q3_4 R N (qsf E sg_Z177 F_Z177)))))))
def Z177.l0(R:Run)(N n:Nat)(a:vS)(b:Int):Option Dv:=R.w (some ⟨(.c (.ip yS a 0)::(zd 4 (.c (.d yI b)::(zd 55 [])))),(zo 62 [])⟩) fun st=>lC R pol_Z177 2 N [1,0,1,0,0] F_Z177 n st (kB R pol_Z177 0 (q3_4 R N (qsf E sg_Z177 F_Z177)))
theorem Z177.l3_succ(R:Run)(hw:R.ok)(N a b n:Nat)(c:vS)(d e f g:Int):Z177.l3 R N a b (n+1) c d e f g=(bif (decide (g<e)) then((qdj R n_Z176 o_Z176 [⟨(.ptr yS),c⟩,⟨yI,d⟩,⟨yI,f⟩,⟨yI,g⟩]).bind fun r18=>((qdj R n_Z176 o_Z176 [⟨(.ptr yS),c⟩,⟨yI,d⟩,⟨yI,g⟩,⟨yI,f⟩]).bind fun r19=>((qdj R n_Z145 o_Z145 [⟨(.ptr yM),(r18.1,r18.2.1,r18.2.2.1,r18.2.2.2.1,())⟩,⟨(.ptr yM),(r19.1,r19.2.1,r19.2.2.1,r19.2.2.2.1,())⟩]).bind fun r20=>(bif (!r20.1) then some ⟨o_Z177,(d,f,g,())⟩ else(Z177.l3 R N a b n c d e f (w64 (g+(1:Int)))))))) else(Z177.l1 R N a b c d e (w64 (f+(1:Int))))):=(hw _ _).trans (by kernel_rfl)
theorem Z177.j2_eq(R:Run)(hw:R.ok)(N a b:Nat)(c:vS)(d e f:Int)(g:Bool):Z177.j2 R N a b c d e f g=(bif g then(Z177.l3 R N a b N c d e f (w64 (f+(1:Int)))) else(Z177.l0 R N a c (w64 (d+(1:Int))))):=(hw _ _).trans (by kernel_rfl)
theorem Z177.l1_succ(R:Run)(hw:R.ok)(N a n:Nat)(b:vS)(c d e:Int):Z177.l1 R N a (n+1) b c d e=(bif (decide (e<d)) then(Z177.j2 R N a n b c d e (decide (d>(2:Int)))) else(Z177.j2 R N a n b c d e false)):=(hw _ _).trans (by kernel_rfl)
theorem Z177.l0_succ(R:Run)(hw:R.ok)(N n:Nat)(a:vS)(b:Int):Z177.l0 R N (n+1) a b=(bif (decide (b<(List.length a.1:Int))) then((idx? a.1 b).bind fun y3=>(Z177.l1 R N n N a b (List.length (y3,()).1:Int) (0:Int))) else some ⟨o_Z177,((-1:Int),(0:Int),(0:Int),())⟩):=(hw _ _).trans (by kernel_rfl)
theorem Z177.ev(R:Run)(N:Nat)(a0:vS):qrz E R sg_Z177 pol_Z177 F_Z177 N [⟨(.ptr yS),a0⟩]=(Z177.l0 R N N a0 (0:Int)):=by kernel_rfl
theorem Z169.ev(R:Run)(N:Nat)(a0:vS):qrz E R sg_Z169 pol_Z169 F_Z169 N [⟨(.ptr yS),a0⟩]=((qdj R n_Z172 o_Z172 [⟨(.ptr yS),a0⟩]).bind fun r1=>(bif (!r1.1) then some ⟨o_Z169,(false,())⟩ else((qdj R n_Z177 o_Z177 [⟨(.ptr yS),a0⟩]).bind fun r2=>some ⟨o_Z169,((decide (r2.1<(0:Int))),())⟩))):=by kernel_rfl
theorem Z178.ev(R:Run)(N:Nat)(a0:vS)(a1:Int):qrz E R sg_Z178 pol_Z178 F_Z178 N [⟨(.ptr yS),a0⟩,⟨yI,a1⟩]=((qdj R n_Z169 o_Z169 [⟨(.ptr yS),a0⟩]).bind fun r1=>(bif (!r1.1) then some ⟨o_Z178,((1:Int),())⟩ else((qdj R n_Z151 o_Z151 [⟨yI,a1⟩]).bind fun r2=>(bif (!r2.1) then some ⟨o_Z178,((2:Int),())⟩ else some ⟨o_Z178,((0:Int),())⟩)))):=by kernel_rfl
theorem Z180.ev(R:Run)(N:Nat)(a0:vS)(a1:Int)(a2:List Int):qrz E R sg_Z180 pol_Z180 F_Z180 N [⟨(.ptr yS),a0⟩,⟨yI,a1⟩,⟨yL,a2⟩]=((qdj R n_Z178 o_Z178 [⟨(.ptr yS),a0⟩,⟨yI,a1⟩]).bind fun r1=>(bif (r1.1 != (0:Int)) then some ⟨o_Z180,(r1.1,())⟩ else((qdj R n_Z175 o_Z175 [⟨(.ptr yC),(a0.1,())⟩,⟨yL,a0.2.2.1⟩,⟨yI,a1⟩]).bind fun r2=>((qdj R n_Z137 o_Z137 [⟨yL,a2⟩,⟨yI,r2.1⟩,⟨yI,a0.2.1⟩]).bind fun r3=>(bif (!r3.1) then some ⟨o_Z180,((7:Int),())⟩ else some ⟨o_Z180,((0:Int),())⟩))))):=by kernel_rfl
def Z179.l0(R:Run)(N n:Nat)(a:vS)(b e f:Int):Option Dv:=R.w (some ⟨(.c (.ip yS a 0)::(.c (.d yI b)::(zd 3 (.c (.d yI e)::(.c (.d yI f)::(zd 34 [])))))),(zo 43 [])⟩) fun st=>lC R pol_Z179 3 N [1,1,0,1,0,0] F_Z179 n st (kB R pol_Z179 0 (kS R pol_Z179 7 N [1,1,1] F_Z179 (qsf E sg_Z179 F_Z179)))
theorem Z179.l0_succ(R:Run)(hw:R.ok)(N n:Nat)(a:vS)(b c d:Int):Z179.l0 R N (n+1) a b c d=(bif (decide (d<b)) then((idx? a.1 d).bind fun y5=>((idx? a.1 b).bind fun y6=>(bif ((List.length (y5,()).1:Int)==(List.length (y6,()).1:Int)) then((idx? a.2.2.1 d).bind fun y7=>(Z179.l0 R N n a b (w64 (c+(y7,()).1)) (w64 (d+(1:Int))))) else(Z179.l0 R N n a b c (w64 (d+(1:Int))))))) else some ⟨o_Z179,(c,())⟩):=(hw _ _).trans (by kernel_rfl)
theorem Z179.ev(R:Run)(N:Nat)(a0:vS)(a1:Int):qrz E R sg_Z179 pol_Z179 F_Z179 N [⟨(.ptr yS),a0⟩,⟨yI,a1⟩]=(Z179.l0 R N N a0 a1 (0:Int) (0:Int)):=by kernel_rfl
theorem Z161.ev(R:Run)(N:Nat)(a0 a1:Int):qrz E R sg_Z161 pol_Z161 F_Z161 N [⟨yI,a0⟩,⟨yI,a1⟩]=(bif ((Int.tmod a0 (2:Int))==(0:Int)) then((chk (a1 != 0)).bind fun _=>some ⟨o_Z161,((Int.tmod (1:Int) a1),())⟩) else some ⟨o_Z161,((w64 (a1-(1:Int))),())⟩):=by kernel_rfl
def Z181.l5(R:Run)(N a b e n:Nat)(f:vS)(g:Int)(h:List Int)(i:Int)(j:List Int)(k l:Int)(m:vM)(o p q r s t u v x y:Int)(z:List Int):Option Dv:=R.w (some ⟨(.c (.ip yS f 0)::(.c (.d yI g)::(V.dead::(V.dead::(.c (.box 4 0)::(.c (.box 5 0)::(.c (.d yL h)::(.c (.d yI i)::(.c (.d yL j)::(.c (.d yI k)::(.c (.d yI l)::(.c (.ip yM m 0)::(.c (.d yI o)::(.c (.d yI p)::(.c (.d yI q)::(.c (.d yI r)::(zd 130 []))))))))))))))))),(zo 4 (some (.box [.d yI s,.d yI t,.d yI u,.nils yI] false false)::(some (.box [.d yI v,.d yI x,.d yI y,.arr 148] false false)::(zo 142 (some (.arr yI z true false false)::[])))))⟩) fun st=>lC R pol_Z181 18 N [1,1,1,0,1,0,0,1,0,0,1,1,1,0,0,1,0,0,1,1,1,1,0,0,1,0,0,1,0,0] F_Z181 n st (kB R pol_Z181 6 (kB R pol_Z181 5 (kS R pol_Z181 16 N [1,1,1,0,1,0,0,1,0,0,1,1,1,0,0,1,0,0,1,1,1,1,0,0,1,1] F_Z181 (kL R pol_Z181 15 N [1,1,1,0,1,0,0,1,0,0,1,1,1,0,0,1,0,0,1,1,1,1,0,0] F_Z181 e (kB R pol_Z181 4 (kB R pol_Z181 3 (q3_5 R N (kL R pol_Z181 9 N [1,1,1,0,1,0,0,1,0,0,1,1,1,0,0] F_Z181 b (kB R pol_Z181 2 (kB R pol_Z181 1 (q3_6 R N (q3_10 R N a (q3_11 R (q3_7 R N (qsf E sg_Z181 F_Z181)))))))))))))))
def Z181.l4(R:Run)(N a b n:Nat)(e:vS)(f:Int)(g:List Int)(h:Int)(i:List Int)(j k:Int)(l:vM)(m o p q r s t u v:Int)(x:List Int):Option Dv:=R.w (some ⟨(.c (.ip yS e 0)::(.c (.d yI f)::(V.dead::(V.dead::(.c (.box 4 0)::(.c (.box 5 0)::(.c (.d yL g)::(.c (.d yI h)::(.c (.d yL i)::(.c (.d yI j)::(.c (.d yI k)::(.c (.ip yM l 0)::(.c (.d yI m)::(.c (.d yI o)::(.c (.d yI p)::(zd 131 [])))))))))))))))),(zo 4 (some (.box [.d yI q,.d yI r,.d yI s,.nils yI] false false)::(some (.box [.d yI t,.d yI u,.d yI v,.arr 148] false false)::(zo 142 (some (.arr yI x true false false)::[])))))⟩) fun st=>lC R pol_Z181 15 N [1,1,1,0,1,0,0,1,0,0,1,1,1,0,0,1,0,0,1,1,1,1,0,0] F_Z181 n st (kB R pol_Z181 4 (kB R pol_Z181 3 (q3_5 R N (kL R pol_Z181 9 N [1,1,1,0,1,0,0,1,0,0,1,1,1,0,0] F_Z181 b (kB R pol_Z181 2 (kB R pol_Z181 1 (q3_6 R N (q3_10 R N a (q3_11 R (q3_7 R N (qsf E sg_Z181 F_Z181)))))))))))
def Z181.l3(R:Run)(N a n:Nat)(b:vS)(e:Int)(f:List Int)(g:Int)(h:List Int)(i j k l m o p q:Int)(r:List Int):Option Dv:=R.w (some ⟨(.c (.ip yS b 0)::(.c (.d yI e)::(V.dead::(V.dead::(.c (.box 4 0)::(.c (.box 5 0)::(.c (.d yL f)::(.c (.d yI g)::(.c (.d yL h)::(.c (.d yI i)::(.c (.d yI j)::(zd 135 [])))))))))))),(zo 4 (some (.box [.d yI k,.d yI l,.d yI m,.nils yI] false false)::(some (.box [.d yI o,.d yI p,.d yI q,.arr 148] false false)::(zo 142 (some (.arr yI r true false false)::[])))))⟩) fun st=>lC R pol_Z181 9 N [1,1,1,0,1,0,0,1,0,0,1,1,1,0,0] F_Z181 n st (kB R pol_Z181 2 (kB R pol_Z181 1 (q3_6 R N (q3_10 R N a (q3_11 R (q3_7 R N (qsf E sg_Z181 F_Z181)))))))
def Z181.j2(R:Run)(N a:Nat)(b:vS)(e:Int)(f:List Int)(g:Int)(h:Bool)(i j k l m o:Int)(p:List Int):Option Dv:=R.w (some ⟨(.c (.ip yS b 0)::(.c (.d yI e)::(V.dead::(V.dead::(.c (.box 4 0)::(.c (.box 5 0)::(.c (.d yL f)::(.c (.d yI g)::(zd 45 (.c (.d .bool h)::(zd 92 []))))))))))),(zo 4 (some (.box [.d yI i,.d yI j,.d yI k,.nils yI] false false)::(some (.box [.d yI l,.d yI m,.d yI o,.arr 148] false false)::(zo 142 (some (.arr yI p true false false)::[])))))⟩) fun st=>eC R pol_Z181 N [1,1,1,0,1,0,0,0,1] F_Z181 st (kS R pol_Z181 6 N [1,1,1,0,1,0,0,1] F_Z181 (q3_10 R N a (q3_11 R (q3_7 R N (qsf E sg_Z181 F_Z181)))))
def Z181.l1(R:Run)(N n:Nat)(a:vS)(b:Int)(e:List Int)(f g h i j k l:Int)(m:List Int):Option Dv:=R.w (some ⟨(.c (.ip yS a 0)::(.c (.d yI b)::(V.dead::(V.dead::(.c (.box 4 0)::(.c (.box 5 0)::(.c (.d yL e)::(.c (.d yI f)::(zd 138 []))))))))),(zo 4 (some (.box [.d yI g,.d yI h,.d yI i,.nils yI] false false)::(some (.box [.d yI j,.d yI k,.d yI l,.arr 148] false false)::(zo 142 (some (.arr yI m true false false)::[])))))⟩) fun st=>lC R pol_Z181 4 N [1,1,1,0,1,0,0] F_Z181 n st (q3_11 R (q3_7 R N (qsf E sg_Z181 F_Z181)))
def Z181.j0(R:Run)(N:Nat)(a:vS)(b e f g h i j:Int)(k:List Int):Option Dv:=R.w (some ⟨(.c (.ip yS a 0)::(.c (.d yI b)::(V.dead::(V.dead::(.c (.box 4 0)::(.c (.box 5 0)::(zd 140 []))))))),(zo 4 (some (.box [.d yI e,.d yI f,.d yI g,.nils yI] false false)::(some (.box [.d yI h,.d yI i,.d yI j,.arr 148] false false)::(zo 142 (some (.arr yI k true false false)::[])))))⟩) fun st=>eC R pol_Z181 N [1,1] F_Z181 st (qsf E sg_Z181 F_Z181)
theorem Z181.l5_succ(R:Run)(hw:R.ok)(N a b c n:Nat)(d:vS)(e:Int)(f:List Int)(g:Int)(h:List Int)(i j:Int)(k:vM)(l m o p q r s t u v:Int)(w:List Int):Z181.l5 R N a b c (n+1) d e f g h i j k l m o p q r s t u v w=(bif (decide (p<k.2.2.1)) then((idx? k.2.2.2.1 (w64 ((w64 (o*k.2.2.1))+p))).bind fun y97=>((chk (d.2.1 != 0)).bind fun _=>((chk (decide (0≤(w64 ((w64 ((w64 ((w64 (i+o))*v))+l))+p)))&&decide ((w64 ((w64 ((w64 ((w64 (i+o))*v))+l))+p))<(List.length w:Int)))).bind fun _=>(Z181.l5 R N a b c n d e f g h i j k l m o (w64 (p+(1:Int))) q r s t u v (List.set w (Int.toNat (w64 ((w64 ((w64 ((w64 (i+o))*v))+l))+p))) (Int.tmod (w64 ((y97,()).1*m)) d.2.1)))))) else(Z181.l4 R N a b c d e f g h i j k l m (w64 (o+(1:Int))) q r s t u v w)):=(hw _ _).trans (by kernel_rfl)
theorem Z181.l4_succ(R:Run)(hw:R.ok)(N a b n:Nat)(c:vS)(d:Int)(e:List Int)(f:Int)(g:List Int)(h i:Int)(j:vM)(k l m o p q r s t:Int)(u:List Int):Z181.l4 R N a b (n+1) c d e f g h i j k l m o p q r s t u=(bif (decide (m<j.2.1)) then(Z181.l5 R N a b n N c d e f g h i j k l m (0:Int) o p q r s t u) else(Z181.l3 R N a b c d e f g h (w64 (i+(1:Int))) o p q r s t u)):=(hw _ _).trans (by kernel_rfl)
theorem Z181.l3_succ(R:Run)(hw:R.ok)(N a n:Nat)(b:vS)(c:Int)(d:List Int)(e:Int)(f:List Int)(g h i j k l m o:Int)(p:List Int):Z181.l3 R N a (n+1) b c d e f g h i j k l m o p=(bif (decide (h<(List.length f:Int))) then((idx? d e).bind fun y55=>((qdj R n_Z167 o_Z167 [⟨(.ptr yS),b⟩,⟨yI,(y55,()).1⟩,⟨yI,h⟩]).bind fun r56=>((idx? f h).bind fun y57=>((qdj R n_Z179 o_Z179 [⟨(.ptr yS),b⟩,⟨yI,(y57,()).1⟩]).bind fun r58=>((qdj R n_Z161 o_Z161 [⟨yI,h⟩,⟨yI,b.2.1⟩]).bind fun r59=>(Z181.l4 R N a n N b c d e f g h r56.1 r58.1 r59.1 (0:Int) i j k l m o p)))))) else(Z181.l1 R N a b c d (w64 (e+(1:Int))) i j k l m o p)):=(hw _ _).trans (by kernel_rfl)
theorem Z181.j2_eq(R:Run)(hw:R.ok)(N a:Nat)(b:vS)(c:Int)(d:List Int)(e:Int)(f:Bool)(g h i j k l:Int)(m:List Int):Z181.j2 R N a b c d e f g h i j k l m=(bif f then((idx? d e).bind fun y37=>((qdj R n_Z154 o_Z154 [⟨(.ptr yC),(b.1,())⟩,⟨yI,(y37,()).1⟩]).bind fun r38=>((idx? d e).bind fun y39=>((qdj R n_Z179 o_Z179 [⟨(.ptr yS),b⟩,⟨yI,(y39,()).1⟩]).bind fun r40=>(Z181.l3 R N a N b c d e r38.1 r40.1 (0:Int) g h i j k l m))))) else some ⟨o_Z181,(j,k,l,m,())⟩):=(hw _ _).trans (by kernel_rfl)
theorem Z181.l1_succ(R:Run)(hw:R.ok)(N n:Nat)(a:vS)(b:Int)(c:List Int)(d e f g h i j:Int)(k:List Int):Z181.l1 R N (n+1) a b c d e f g h i j k=(bif (decide (d<(List.length c:Int))) then(Z181.j2 R N n a b c d (decide (b≥(0:Int))) e f g h i j k) else(Z181.j2 R N n a b c d false e f g h i j k)):=(hw _ _).trans (by kernel_rfl)
theorem Z181.j0_eq(R:Run)(hw:R.ok)(N:Nat)(a:vS)(b c d e f g h:Int)(i:List Int):Z181.j0 R N a b c d e f g h i=((qdj R n_Z156 o_Z156 [⟨(.ptr yC),(a.1,())⟩,⟨yI,(w64 (b+(1:Int)))⟩]).bind fun r13=>(Z181.l1 R N N a b r13.1 (0:Int) c d e f g h i)):=(hw _ _).trans (by kernel_rfl)
theorem Z181.ev(R:Run)(N:Nat)(a0:vS)(a1:Int):qrz E R sg_Z181 pol_Z181 F_Z181 N [⟨(.ptr yS),a0⟩,⟨yI,a1⟩]=(qoP ((qdj R n_Z175 o_Z175 [⟨(.ptr yC),(a0.1,())⟩,⟨yL,a0.2.2.1⟩,⟨yI,(w64 (a1+(1:Int)))⟩]).bind fun r1=>(qoP ((qdj R n_Z175 o_Z175 [⟨(.ptr yC),(a0.1,())⟩,⟨yL,a0.2.2.1⟩,⟨yI,a1⟩]).bind fun r2=>(qoP ((qdj R n_Z148 o_Z148 [⟨yI,a0.2.1⟩,⟨yI,r1.1⟩,⟨yI,r2.1⟩]).bind fun r3=>(Z181.j0 R N a0 a1 (0:Int) (0:Int) (0:Int) r3.1 r3.2.1 r3.2.2.1 r3.2.2.2.1)) ((qdj R n_Z148 o_Z148 [⟨yI,a0.2.1⟩,⟨yI,r1.1⟩,⟨yI,r2.1⟩]).bind fun r172=>(Z181.j0 R N a0 a1 (0:Int) (0:Int) (0:Int) r172.1 r172.2.1 r172.2.2.1 r172.2.2.2.1)))) ((qdj R n_Z175 o_Z175 [⟨(.ptr yC),(a0.1,())⟩,⟨yL,a0.2.2.1⟩,⟨yI,a1⟩]).bind fun r182=>((qdj R n_Z148 o_Z148 [⟨yI,a0.2.1⟩,⟨yI,r1.1⟩,⟨yI,r182.1⟩]).bind fun r183=>(Z181.j0 R N a0 a1 (0:Int) (0:Int) (0:Int) r183.1 r183.2.1 r183.2.2.1 r183.2.2.2.1))))) ((qdj R n_Z175 o_Z175 [⟨(.ptr yC),(a0.1,())⟩,⟨yL,a0.2.2.1⟩,⟨yI,(w64 (a1+(1:Int)))⟩]).bind fun r193=>((qdj R n_Z175 o_Z175 [⟨(.ptr yC),(a0.1,())⟩,⟨yL,a0.2.2.1⟩,⟨yI,a1⟩]).bind fun r194=>((qdj R n_Z148 o_Z148 [⟨yI,a0.2.1⟩,⟨yI,r193.1⟩,⟨yI,r194.1⟩]).bind fun r195=>(Z181.j0 R N a0 a1 (0:Int) (0:Int) (0:Int) r195.1 r195.2.1 r195.2.2.1 r195.2.2.2.1))))):=by kernel_rfl
def Z136.l1(R:Run)(N a n:Nat)(b:vM)(e:List Int)(f g h:Int)(i:List Int):Option Dv:=R.w (some ⟨(.c (.ip yM b 0)::(.c (.d yL e)::(zd 3 (.c (.arr 9)::(.c (.d yI f)::(.c (.d yI g)::(.c (.d yI h)::(zd 48 [])))))))),(zo 9 (some (.arr yI i true false false)::(zo 49 [])))⟩) fun st=>lC R pol_Z136 7 N [1,1,0,1,0,0,1,0,0,1,0,1,0,0] F_Z136 n st (kB R pol_Z136 2 (kS R pol_Z136 10 N [1,1,0,1,0,0,1,0,0,1,1] F_Z136 (kB R pol_Z136 1 (kS R pol_Z136 4 N [1,1,0,1,0,0,1,1] F_Z136 (kL R pol_Z136 3 N [1,1,0,1,0,0] F_Z136 a (kB R pol_Z136 0 (kS R pol_Z136 11 N [1,1,1] F_Z136 (qsf E sg_Z136 F_Z136))))))))
def Z136.l0(R:Run)(N n:Nat)(a:vM)(b:List Int)(e:Int)(f:List Int):Option Dv:=R.w (some ⟨(.c (.ip yM a 0)::(.c (.d yL b)::(zd 3 (.c (.arr 9)::(.c (.d yI e)::(zd 50 [])))))),(zo 9 (some (.arr yI f true false false)::(zo 49 [])))⟩) fun st=>lC R pol_Z136 3 N [1,1,0,1,0,0] F_Z136 n st (kB R pol_Z136 0 (kS R pol_Z136 11 N [1,1,1] F_Z136 (qsf E sg_Z136 F_Z136)))
theorem Z136.l1_succ(R:Run)(hw:R.ok)(N a n:Nat)(b:vM)(c:List Int)(d e f:Int)(g:List Int):Z136.l1 R N a (n+1) b c d e f g=(bif (decide (f<b.2.2.1)) then((idx? b.2.2.2.1 (w64 ((w64 (d*b.2.2.1))+f))).bind fun y11=>((idx? c f).bind fun y12=>(Z136.l1 R N a n b c d (w64 (e+(w64 ((y11,()).1*(y12,()).1)))) (w64 (f+(1:Int))) g))) else((chk (b.1 != 0)).bind fun _=>((chk (decide ((List.length g+List.length [(Int.tmod e b.1)])*8≤70368744177664))).bind fun _=>(Z136.l0 R N a b c (w64 (d+(1:Int))) (g++[(Int.tmod e b.1)]))))):=(hw _ _).trans (by kernel_rfl)
theorem Z136.l0_succ(R:Run)(hw:R.ok)(N n:Nat)(a:vM)(b:List Int)(c:Int)(d:List Int):Z136.l0 R N (n+1) a b c d=(bif (decide (c<a.2.1)) then(Z136.l1 R N n N a b c (0:Int) (0:Int) d) else some ⟨o_Z136,(d,())⟩):=(hw _ _).trans (by kernel_rfl)
theorem Z136.ev(R:Run)(N:Nat)(a0:vM)(a1:List Int):qrz E R sg_Z136 pol_Z136 F_Z136 N [⟨(.ptr yM),a0⟩,⟨yL,a1⟩]=(Z136.l0 R N N a0 a1 (0:Int) ([]:List Int)):=by kernel_rfl
theorem Z119.ev(R:Run)(N:Nat)(a0:vK)(a1:Int)(a2:List Int)(a3:vN)(a4:Int)(a5:List Int):qrz E R sg_Z119 pol_Z119 F_Z119 N [⟨yK,a0⟩,⟨yI,a1⟩,⟨yL,a2⟩,⟨yN,a3⟩,⟨yI,a4⟩,⟨yL,a5⟩]=((qdj R n_Z180 o_Z180 [⟨(.ptr yS),(a0,a1,a2,a3,())⟩,⟨yI,a4⟩,⟨yL,a5⟩]).bind fun r1=>(bif (r1.1 != (0:Int)) then some ⟨o_Z119,(([]:List Int),r1.1,())⟩ else((qdj R n_Z181 o_Z181 [⟨(.ptr yS),(a0,a1,a2,a3,())⟩,⟨yI,a4⟩]).bind fun r2=>((qdj R n_Z136 o_Z136 [⟨(.ptr yM),(r2.1,r2.2.1,r2.2.2.1,r2.2.2.2.1,())⟩,⟨yL,a5⟩]).bind fun r3=>some ⟨o_Z119,(r3.1,(0:Int),())⟩)))):=by kernel_rfl
theorem Z5.ev(R:Run)(N:Nat)(a0:vK)(a1:Int)(a2:List Int)(a3:vN)(a4:Int)(a5:List Int):qrz E R sg_Z5 pol_Z5 F_Z5 N [⟨yK,a0⟩,⟨yI,a1⟩,⟨yL,a2⟩,⟨yN,a3⟩,⟨yI,a4⟩,⟨yL,a5⟩]=((qdj R n_Z83 o_Z83 [⟨yK,a0⟩,⟨yI,a1⟩,⟨yL,a2⟩,⟨yN,a3⟩,⟨yI,a4⟩,⟨yL,a5⟩]).bind fun r1=>(bif (r1.1 != (0:Int)) then some ⟨o_Z5,(([]:List Int),r1.1,())⟩ else((qdj R n_Z31 o_Z31 [⟨yK,a0⟩,⟨yI,a1⟩,⟨yL,a2⟩,⟨yN,a3⟩,⟨yI,a4⟩]).bind fun r2=>((qdj R n_Z24 o_Z24 [⟨yI,r2.1⟩,⟨yI,r2.2.1⟩,⟨yI,r2.2.2.1⟩,⟨yL,r2.2.2.2.1⟩,⟨yL,a5⟩]).bind fun r3=>some ⟨o_Z5,(r3.1,(0:Int),())⟩)))):=by kernel_rfl
def Z13.j0(R:Run)(N:Nat)(a:Int)(b e:List Int)(f:Bool)(g:vK)(h:Int)(i:List Int)(j:vN):Option Dv:=R.w (some ⟨(V.dead::(.c (.d yI a)::(.c (.d yL b)::(.c (.d yL e)::(.c (.box 4 0)::(zd 31 (.c (.d .bool f)::(zd 15 [])))))))),(zo 4 (some (.box [.d yK g,.d yI h,.d yL i,.d yN j] false false)::(zo 54 [])))⟩) fun st=>eC R pol_Z13 N [1,0,1] F_Z13 st (kS R pol_Z13 3 N [1,1] F_Z13 (qsf E sg_Z13 F_Z13))
theorem Z13.j0_eq(R:Run)(hw:R.ok)(N:Nat)(a:Int)(b c:List Int)(d:Bool)(e:vK)(f:Int)(g:List Int)(h:vN):Z13.j0 R N a b c d e f g h=(bif d then some ⟨o_Z13,(false,())⟩ else((qdj R n_Z22 o_Z22 [⟨yL,b⟩,⟨yL,c⟩,⟨yI,(w64 (f-(1:Int)))⟩,⟨yI,f⟩]).bind fun r10=>((qdj R n_Z70 o_Z70 [⟨yK,e⟩,⟨yI,f⟩,⟨yL,g⟩,⟨yN,h⟩,⟨yI,a⟩,⟨yL,r10.1⟩]).bind fun r11=>some ⟨o_Z13,(r11.2.1,())⟩))):=(hw _ _).trans (by kernel_rfl)
theorem Z13.ev(R:Run)(N:Nat)(a0:vK)(a1:Int)(a2:List Int)(a3:vN)(a4:Int)(a5 a6:List Int):qrz E R sg_Z13 pol_Z13 F_Z13 N [⟨yK,a0⟩,⟨yI,a1⟩,⟨yL,a2⟩,⟨yN,a3⟩,⟨yI,a4⟩,⟨yL,a5⟩,⟨yL,a6⟩]=((qdj R n_Z83 o_Z83 [⟨yK,a0⟩,⟨yI,a1⟩,⟨yL,a2⟩,⟨yN,a3⟩,⟨yI,a4⟩,⟨yL,a5⟩]).bind fun r1=>(bif (r1.1 != (0:Int)) then(Z13.j0 R N a4 a5 a6 true a0 a1 a2 a3) else((qdj R n_Z83 o_Z83 [⟨yK,a0⟩,⟨yI,a1⟩,⟨yL,a2⟩,⟨yN,a3⟩,⟨yI,a4⟩,⟨yL,a6⟩]).bind fun r12=>(bif (r12.1 != (0:Int)) then(Z13.j0 R N a4 a5 a6 true a0 a1 a2 a3) else((qdj R n_Z56 o_Z56 [⟨yK,a0⟩,⟨yI,a1⟩,⟨yL,a2⟩,⟨yN,a3⟩,⟨yI,a4⟩,⟨yL,a5⟩]).bind fun r21=>(bif (!r21.1) then(Z13.j0 R N a4 a5 a6 true a0 a1 a2 a3) else((qdj R n_Z56 o_Z56 [⟨yK,a0⟩,⟨yI,a1⟩,⟨yL,a2⟩,⟨yN,a3⟩,⟨yI,a4⟩,⟨yL,a6⟩]).bind fun r30=>(Z13.j0 R N a4 a5 a6 (!r30.1) a0 a1 a2 a3)))))))):=by kernel_rfl
end
end VeT

open Go Go.Proofs Ve
set_option maxRecDepth 100000
namespace VeT
noncomputable section
abbrev q4_0(R:Run)(N:Nat):=kS R pol_Z88 13 N [1,1,1,1,1,1,1,1,1,0,1,0,0,1,1] F_Z88
abbrev q4_1(R:Run)(N:Nat):=kS R pol_Z88 20 N [1,1,1,1,1,1,1,1,1,1] F_Z88
abbrev q4_2(R:Run)(N:Nat):=kS R pol_Z88 33 N [1,1,1,1,1,1,1,1,1,1,1,1,1,1,1,1,1,1] F_Z88
def Z88.l2(R:Run)(N a n:Nat)(b:List Int)(e:Int)(f:vK)(g:Int)(h:List Int)(i j:Int)(k:vK)(l:Int)(m:List Int)(o:vN)(p:List Int):Option Dv:=R.w (some ⟨(.c (.d (.sl (.int .u8)) b)::(zd 4 (.c (.box 5 0)::(.c (.d yI e)::(.c (.d yK f)::(V.dead::(.c (.d yI g)::(V.dead::(.c (.d yL h)::(.c (.arr 58)::(.c (.d yI i)::(.c (.d yI j)::(zd 205 []))))))))))))),(zo 5 (some (.box [.d yK k,.d yI l,.d yL m,.d yN o] false false)::(zo 52 (some (.arr yI p true false false)::(zo 163 [])))))⟩) fun st=>lC R pol_Z88 17 N [1,1,1,1,1,1,1,1,1,0,1,0,0,1,0,0,1,1,0,0] F_Z88 n st (kB R pol_Z88 2 (kB R pol_Z88 1 (q4_0 R N (kL R pol_Z88 12 N [1,1,1,1,1,1,1,1,1,0,1,0,0] F_Z88 a (kB R pol_Z88 0 (q4_1 R N (qsf E sg_Z88 F_Z88)))))))
def Z88.j1(R:Run)(N a:Nat)(b:List Int)(e:Int)(f:vK)(g:Int)(h:List Int)(i:Int)(j:Bool)(k:vK)(l:Int)(m:List Int)(o:vN)(p:List Int):Option Dv:=R.w (some ⟨(.c (.d (.sl (.int .u8)) b)::(zd 4 (.c (.box 5 0)::(.c (.d yI e)::(.c (.d yK f)::(V.dead::(.c (.d yI g)::(V.dead::(.c (.d yL h)::(.c (.arr 58)::(.c (.d yI i)::(zd 66 (.c (.d .bool j)::(zd 139 [])))))))))))))),(zo 5 (some (.box [.d yK k,.d yI l,.d yL m,.d yN o] false false)::(zo 52 (some (.arr yI p true false false)::(zo 163 [])))))⟩) fun st=>eC R pol_Z88 N [1,1,1,1,1,1,1,1,1,0,1,0,0,1,0,0,0,1] F_Z88 st (kS R pol_Z88 16 N [1,1,1,1,1,1,1,1,1,0,1,0,0,1,0,0,1] F_Z88 (kB R pol_Z88 1 (q4_0 R N (kL R pol_Z88 12 N [1,1,1,1,1,1,1,1,1,0,1,0,0] F_Z88 a (kB R pol_Z88 0 (q4_1 R N (qsf E sg_Z88 F_Z88)))))))
def Z88.j5(R:Run)(N a:Nat)(b e:List Int)(f g:Int)(h:Bool)(i:vK)(j:Int)(k:List Int)(l:vN)(m o:List Int):Option Dv:=R.w (some ⟨(zd 5 (.c (.box 5 0)::(zd 5 (.c (.d yL b)::(.c (.arr 58)::(zd 7 (.c (.d yL e)::(.c (.d yI f)::(.c (.arr 144)::(.c (.d yI g)::(zd 130 (.c (.d .bool h)::(zd 65 []))))))))))))),(zo 5 (some (.box [.d yK i,.d yI j,.d yL k,.d yN l] false false)::(zo 52 (some (.arr yI m true false false)::(zo 85 (some (.arr yI o true false false)::(zo 77 [])))))))⟩) fun st=>eC R pol_Z88 N [1,1,1,1,1,1,1,1,1,1,1,1,1,1,1,1,1,0,1,0,0,0,1] F_Z88 st (kS R pol_Z88 32 N [1,1,1,1,1,1,1,1,1,1,1,1,1,1,1,1,1,0,1,0,0,1] F_Z88 (kL R pol_Z88 30 N [1,1,1,1,1,1,1,1,1,1,1,1,1,1,1,1,1,0,1,0,0] F_Z88 a (kB R pol_Z88 4 (q4_2 R N (qsf E sg_Z88 F_Z88)))))
def Z88.l4(R:Run)(N n:Nat)(a b:List Int)(e f:Int)(g:vK)(h:Int)(i:List Int)(j:vN)(k l:List Int):Option Dv:=R.w (some ⟨(zd 5 (.c (.box 5 0)::(zd 5 (.c (.d yL a)::(.c (.arr 58)::(zd 7 (.c (.d yL b)::(.c (.d yI e)::(.c (.arr 144)::(.c (.d yI f)::(zd 196 []))))))))))),(zo 5 (some (.box [.d yK g,.d yI h,.d yL i,.d yN j] false false)::(zo 52 (some (.arr yI k true false false)::(zo 85 (some (.arr yI l true false false)::(zo 77 [])))))))⟩) fun st=>lC R pol_Z88 30 N [1,1,1,1,1,1,1,1,1,1,1,1,1,1,1,1,1,0,1,0,0] F_Z88 n st (kB R pol_Z88 4 (q4_2 R N (qsf E sg_Z88 F_Z88)))
def Z88.j3(R:Run)(N:Nat)(a:List Int)(b e:Int)(f:List Int)(g:Bool)(h:vK)(i:Int)(j:List Int)(k:vN)(l:List Int):Option Dv:=R.w (some ⟨(.c (.d (.sl (.int .u8)) a)::(zd 4 (.c (.box 5 0)::(.c (.d yI b)::(V.dead::(V.dead::(.c (.d yI e)::(V.dead::(.c (.d yL f)::(.c (.arr 58)::(zd 111 (.c (.d .bool g)::(zd 95 []))))))))))))),(zo 5 (some (.box [.d yK h,.d yI i,.d yL j,.d yN k] false false)::(zo 52 (some (.arr yI l true false false)::(zo 163 [])))))⟩) fun st=>eC R pol_Z88 N [1,1,1,1,1,1,1,1,1,1,1,0,1] F_Z88 st (kS R pol_Z88 23 N [1,1,1,1,1,1,1,1,1,1,1,1] F_Z88 (qsf E sg_Z88 F_Z88))
def Z88.l0(R:Run)(N n:Nat)(a:List Int)(b:Int)(e:vK)(f:Int)(g:List Int)(h:Int)(i:vK)(j:Int)(k:List Int)(l:vN)(m:List Int):Option Dv:=R.w (some ⟨(.c (.d (.sl (.int .u8)) a)::(zd 4 (.c (.box 5 0)::(.c (.d yI b)::(.c (.d yK e)::(V.dead::(.c (.d yI f)::(V.dead::(.c (.d yL g)::(.c (.arr 58)::(.c (.d yI h)::(zd 206 [])))))))))))),(zo 5 (some (.box [.d yK i,.d yI j,.d yL k,.d yN l] false false)::(zo 52 (some (.arr yI m true false false)::(zo 163 [])))))⟩) fun st=>lC R pol_Z88 12 N [1,1,1,1,1,1,1,1,1,0,1,0,0] F_Z88 n st (kB R pol_Z88 0 (q4_1 R N (qsf E sg_Z88 F_Z88)))
theorem Z88.l2_succ(R:Run)(hw:R.ok)(N a n:Nat)(b:List Int)(c:Int)(d:vK)(e:Int)(f:List Int)(g h:Int)(i:vK)(j:Int)(k:List Int)(l:vN)(m:List Int):Z88.l2 R N a (n+1) b c d e f g h i j k l m=(bif (decide (h<(List.length m:Int))) then((chk (decide (0≤h)&&decide (h<(List.length m:Int)))).bind fun _=>(Option.bind (m)[(Int.toNat h)]? fun y43=>((idx? f g).bind fun y44=>((idx? d g).bind fun y45=>((idx? (y45,()).1 h).bind fun y46=>((chk (j != 0)).bind fun _=>((chk (decide (0≤h)&&decide (h<(List.length m:Int)))).bind fun _=>(Z88.l2 R N a n b c d e f g (w64 (h+(1:Int))) i j k l (List.set m (Int.toNat h) (Int.tmod (w64 (y43+(w64 ((y44,()).1*(y46,()).1)))) j)))))))))) else(Z88.l0 R N a b c d e f (w64 (g+(1:Int))) i j k l m)):=(hw _ _).trans (by kernel_rfl)
theorem Z88.j1_eq(R:Run)(hw:R.ok)(N a:Nat)(b:List Int)(c:Int)(d:vK)(e:Int)(f:List Int)(g:Int)(h:Bool)(i:vK)(j:Int)(k:List Int)(l:vN)(m:List Int):Z88.j1 R N a b c d e f g h i j k l m=(bif h then some ⟨o_Z88,(false,())⟩ else(Z88.l2 R N a N b c d e f g (0:Int) i j k l m)):=(hw _ _).trans (by kernel_rfl)
theorem Z88.j5_eq(R:Run)(hw:R.ok)(N a:Nat)(b c:List Int)(d e:Int)(f:Bool)(g:vK)(h:Int)(i:List Int)(j:vN)(k l:List Int):Z88.j5 R N a b c d e f g h i j k l=(bif f then((chk (decide (0≤e)&&decide (e<(List.length k:Int)))).bind fun _=>(Option.bind (k)[(Int.toNat e)]? fun y119=>((idx? c e).bind fun y120=>((chk (h != 0)).bind fun _=>((chk (decide (0≤e)&&decide (e<(List.length l:Int)))).bind fun _=>(Z88.l4 R N a b c d (w64 (e+(1:Int))) g h i j k (List.set l (Int.toNat e) (Int.tmod (w64 (y119+(y120,()).1)) h)))))))) else((qdj R n_Z6 o_Z6 [⟨yK,g⟩,⟨yI,h⟩,⟨yL,i⟩,⟨yN,j⟩,⟨yI,(1:Int)⟩,⟨yL,l⟩]).bind fun r131=>((qdj R n_Z12 o_Z12 [⟨yK,g⟩,⟨yI,h⟩,⟨yL,i⟩,⟨yN,j⟩,⟨yI,(1:Int)⟩,⟨yL,c⟩]).bind fun r132=>((qdj R n_Z5 o_Z5 [⟨yK,g⟩,⟨yI,h⟩,⟨yL,i⟩,⟨yN,j⟩,⟨yI,(0:Int)⟩,⟨yL,r132.1⟩]).bind fun r133=>(bif (d==(0:Int)) then(bif (r131.2.1==(0:Int)) then((qdj R n_Z91 o_Z91 [⟨yL,r131.1⟩,⟨yL,b⟩]).bind fun r134=>(bif r134.1 then((qdj R n_Z13 o_Z13 [⟨yK,g⟩,⟨yI,h⟩,⟨yL,i⟩,⟨yN,j⟩,⟨yI,(1:Int)⟩,⟨yL,k⟩,⟨yL,l⟩]).bind fun r135=>(bif r135.1 then(bif (r132.2.1==(0:Int)) then(bif (r133.2.1==(0:Int)) then((qdj R n_Z91 o_Z91 [⟨yL,r133.1⟩,⟨yL,c⟩]).bind fun r136=>some ⟨o_Z88,(r136.1,())⟩) else some ⟨o_Z88,(false,())⟩) else some ⟨o_Z88,(false,())⟩) else some ⟨o_Z88,(false,())⟩)) else some ⟨o_Z88,(false,())⟩)) else some ⟨o_Z88,(false,())⟩) else some ⟨o_Z88,(false,())⟩))))):=(hw _ _).trans (by kernel_rfl)
theorem Z88.l4_succ(R:Run)(hw:R.ok)(N n:Nat)(a b:List Int)(c d:Int)(e:vK)(f:Int)(g:List Int)(h:vN)(i j:List Int):Z88.l4 R N (n+1) a b c d e f g h i j=(bif (decide (d<(List.length j:Int))) then(Z88.j5 R N n a b c d (decide (d<(List.length b:Int))) e f g h i j) else(Z88.j5 R N n a b c d false e f g h i j)):=(hw _ _).trans (by kernel_rfl)
theorem Z88.j3_eq(R:Run)(hw:R.ok)(N:Nat)(a:List Int)(b c:Int)(d:List Int)(e:Bool)(f:vK)(g:Int)(h:List Int)(i:vN)(j:List Int):Z88.j3 R N a b c d e f g h i j=(bif e then some ⟨o_Z88,(false,())⟩ else(bif (b==(0:Int)) then some ⟨o_Z88,(true,())⟩ else((qdj R n_Z123 o_Z123 [⟨yK,f⟩,⟨yI,g⟩,⟨yL,h⟩,⟨yN,i⟩,⟨yI,(0:Int)⟩]).bind fun r95=>((qdj R n_Z121 o_Z121 [⟨(.sl (.int .u8)),a⟩,⟨yI,r95.1⟩,⟨yI,g⟩]).bind fun r96=>((qdj R n_Z119 o_Z119 [⟨yK,f⟩,⟨yI,g⟩,⟨yL,h⟩,⟨yN,i⟩,⟨yI,(0:Int)⟩,⟨yL,r96.1⟩]).bind fun r97=>((chk (decide (0≤c)&&decide (c*8≤70368744177664))).bind fun _=>(Z88.l4 R N N d r97.1 r97.2.1 (0:Int) f g h i j (List.replicate (Int.toNat c) (0:Int))))))))):=(hw _ _).trans (by kernel_rfl)
theorem Z88.l0_succ(R:Run)(hw:R.ok)(N n:Nat)(a:List Int)(b:Int)(c:vK)(d:Int)(e:List Int)(f:Int)(g:vK)(h:Int)(i:List Int)(j:vN)(k:List Int):Z88.l0 R N (n+1) a b c d e f g h i j k=(bif (decide (f<(List.length c:Int))) then((idx? c f).bind fun y18=>(bif ((List.length (y18,()).1:Int) != d) then(Z88.j1 R N n a b c d e f true g h i j k) else((idx? c f).bind fun y70=>((qdj R n_Z8 o_Z8 [⟨yK,g⟩,⟨yI,h⟩,⟨yL,i⟩,⟨yN,j⟩,⟨yI,b⟩,⟨yL,(y70,()).1⟩]).bind fun r71=>(Z88.j1 R N n a b c d e f r71.1 g h i j k))))) else((qdj R n_Z6 o_Z6 [⟨yK,g⟩,⟨yI,h⟩,⟨yL,i⟩,⟨yN,j⟩,⟨yI,b⟩,⟨yL,k⟩]).bind fun r84=>(bif (r84.2.1 != (0:Int)) then(Z88.j3 R N a b d e true g h i j k) else((qdj R n_Z91 o_Z91 [⟨yL,r84.1⟩,⟨yL,e⟩]).bind fun r148=>(Z88.j3 R N a b d e (!r148.1) g h i j k))))):=(hw _ _).trans (by kernel_rfl)
theorem Z88.ev(R:Run)(N:Nat)(a0 a1:List Int):qrz E R sg_Z88 pol_Z88 F_Z88 N [⟨(.sl (.int .u8)),a0⟩,⟨(.sl (.int .u8)),a1⟩]=((qdj R n_Z90 o_Z90 [⟨(.sl (.int .u8)),a0⟩,⟨(.sl (.int .u8)),a1⟩]).bind fun r1=>(bif r1.1 then some ⟨o_Z88,(true,())⟩ else((qdj R n_Z122 o_Z122 [⟨(.sl (.int .u8)),a0⟩]).bind fun r2=>((qdj R n_Z89 o_Z89 [⟨(.sl (.int .u8)),a1⟩,⟨yI,(0:Int)⟩,⟨yI,(2:Int)⟩]).bind fun r3=>((qdj R n_Z7 o_Z7 [⟨yK,r2.1⟩,⟨yI,r2.2.1⟩,⟨yL,r2.2.2.1⟩,⟨yN,r2.2.2.2.1⟩,⟨yI,r3.1⟩]).bind fun r4=>((qdj R n_Z123 o_Z123 [⟨yK,r2.1⟩,⟨yI,r2.2.1⟩,⟨yL,r2.2.2.1⟩,⟨yN,r2.2.2.2.1⟩,⟨yI,r3.1⟩]).bind fun r5=>(bif (r4.2.1 != (0:Int)) then some ⟨o_Z88,(false,())⟩ else((qdj R n_Z121 o_Z121 [⟨(.sl (.int .u8)),a1⟩,⟨yI,(List.length r4.1:Int)⟩,⟨yI,r2.2.1⟩]).bind fun r6=>((chk (decide (0≤r5.1)&&decide (r5.1*8≤70368744177664))).bind fun _=>(Z88.l0 R N N a0 r3.1 r4.1 r5.1 r6.1 (0:Int) r2.1 r2.2.1 r2.2.2.1 r2.2.2.2.1 (List.replicate (Int.toNat r5.1) (0:Int)))))))))))):=by kernel_rfl
end
end VeT


open Go Go.Proofs Ve
set_option maxRecDepth 100000
namespace VeT
@[reducible] noncomputable def qa3:Func:=Tryz.f104
@[reducible] def qb1:Ty:=(.cons (.sl (.lab yL)) .nil)
noncomputable def qcL:Sig:=⟨[(true,3),(false,1)],[],qb1,[(false,1)],[.own],[]⟩
noncomputable def qaK:Pol:=⟨40,[(20,[some 20]),(28,[some 39])],[(3,⟨[2,5,8,9,10],[2,21],[(5,21,(.lab yL),true)],[],[],[21],[]⟩)],[],[],[]⟩
noncomputable def impl_independent_L.l0(R:Run)(N:Nat)(n:Nat)(t8__1:(List (Value×(List Int))))(t9__2:Int)(t10__3:Int)(v_4:Int)(v_5:Int)(v_6:vK)(o21_7:(List (Value×(List Int)))):Option Dv:=R.w (some ⟨(V.dead::(V.dead::(.c (.box 2 0)::(V.dead::(V.dead::(.c (.arr 21)::(V.dead::(V.dead::(.c (.d (.sl (.lab yL)) t8__1)::(.c (.d yI t9__2)::(.c (.d yI t10__3)::(zd 24 [])))))))))))),(none::(none::(some (.box [.d yI v_4,.d yI v_5,.d yK v_6] false false)::(zo 18 (some (.arr (.lab yL) o21_7 false false false)::(zo 18 []))))))⟩) fun st=>qnL (qbW E R qaK N (sub [1,1,0,1,0,0] (bodyOf qa3))) (qet R qaK.loopM 3) n st (qsh (qet R qaK.blkM 0) 0 (qsk (qet R qaK.seqM 9) (qbW E R qaK N (sub [1,1,1] (bodyOf qa3))) (qsf E qcL qa3)))
theorem impl_independent_L.l0_succ(R:Run)(hw:R.ok)(N:Nat)(n:Nat)(t8__1:(List (Value×(List Int))))(t9__2:Int)(t10__3:Int)(v_4:Int)(v_5:Int)(v_6:vK)(o21_7:(List (Value×(List Int)))):impl_independent_L.l0 R N (n+1) t8__1 t9__2 t10__3 v_4 v_5 v_6 o21_7=(bif (decide (t10__3<t9__2)) then(Option.bind (idx? t8__1 t10__3) fun y8=>(Option.bind (qdj R n_Z36 o_Z36 [⟨yI,v_4⟩,⟨yI,v_5⟩,⟨yK,v_6⟩,⟨yL,(y8,()).1.2⟩]) fun r9=>(bif (!r9.1) then(Option.bind (chk (decide ((List.length o21_7+List.length [(y8,()).1])*24≤70368744177664))) fun _=>(qoP (Option.bind (qdj R n_Z38 o_Z38 [⟨yK,v_6⟩]) fun r10=>(Option.bind (chk (decide ((List.length r10.1+List.length [(y8,()).1.2])*24≤70368744177664))) fun _=>(Option.bind (qdj R n_Z79 o_Z79 [⟨yI,v_4⟩,⟨yI,v_5⟩,⟨yK,(r10.1++[(y8,()).1.2])⟩]) fun r11=>(impl_independent_L.l0 R N n t8__1 t9__2 (w64 (t10__3+(1:Int))) r11.1 r11.2.1 r11.2.2.1 (o21_7++[(y8,()).1]))))) (Option.bind (qdj R n_Z38 o_Z38 [⟨yK,v_6⟩]) fun r19=>(Option.bind (chk (decide ((List.length r19.1+List.length [(y8,()).1.2])*24≤70368744177664))) fun _=>(Option.bind (qdj R n_Z79 o_Z79 [⟨yI,v_4⟩,⟨yI,v_5⟩,⟨yK,(r19.1++[(y8,()).1.2])⟩]) fun r20=>(impl_independent_L.l0 R N n t8__1 t9__2 (w64 (t10__3+(1:Int))) r20.1 r20.2.1 r20.2.2.1 (o21_7++[(y8,()).1]))))))) else(impl_independent_L.l0 R N n t8__1 t9__2 (w64 (t10__3+(1:Int))) v_4 v_5 v_6 o21_7)))) else some ⟨qb1,(o21_7,())⟩):=(hw _ _).trans (by kernel_rfl)
theorem impl_independent_L.ev(R:Run)(N:Nat)(a0:Int)(a1:Int)(a2:vK)(a3:(List (Value×(List Int)))):qrz E R qcL qaK qa3 N [⟨yI,a0⟩,⟨yI,a1⟩,⟨yK,a2⟩,⟨(.sl (.lab yL)),a3⟩]=(impl_independent_L.l0 R N N a3 (List.length a3:Int) (0:Int) a0 a1 a2 ([]:List (Value×(List Int)))):=by kernel_rfl
end VeT
namespace VeT
section
open Go Go.Proofs Go.RowKit Go.Lib
section
open Go Ve
theorem qnt{ρ:Type}{a:Option ρ}:Ve.qoP a a=a:=by unfold Ve.qoP;split<;>first | rfl | (rename_i h;exact absurd rfl h)
theorem qjI(R:Run)(hw:R.ok)(N:Nat)(l:List (Value×List Int))(hl:l.length≤1048576):∀(suf pre:List (Value×List Int)) (n:Nat) (p W:Int) (B:List (List Int)) (ms:List Bool) (acc:List (Value×List Int)),
  l=pre++suf→acc.length≤pre.length→qpB n_Z36 n_Z38 n_Z79 R p W B (suf.map Prod.snd)=some ms →
  impl_independent_L.l0 R N (suf.length+1+n) l (l.length:Int) (pre.length:Int) p W B acc=some ⟨qb1,(acc++sel ms suf,())⟩:=by
 intro suf
 induction suf with
 | nil =>
  intro pre n p W B ms acc hlp hacc h
  obtain rfl:=Option.some.inj h
  rw[show([]:List (Value×List Int)).length+1+n=n+1 by simp;omega,impl_independent_L.l0_succ R hw]
  have:decide ((pre.length:Int)<(l.length:Int))=false:=decide_eq_false (by rw[hlp];simp)
  rw[this]
  simp[sel]
 | cons y suf ih =>
  intro pre n p W B ms acc hlp hacc h
  obtain⟨v,x⟩:=y
  have hlen:pre.length<l.length:=by rw[hlp];simp
  rw[show((v,x)::suf).length+1+n=(suf.length+1+n)+1 by simp;omega,impl_independent_L.l0_succ R hw]
  have h1:decide ((pre.length:Int)<(l.length:Int))=true:=decide_eq_true (by omega)
  have h2:idx? l (pre.length:Int)=some (v,x):=by
   unfold idx?
   rw[decide_eq_true (by omega:(0:Int)≤(pre.length:Int)),cond_true,Int.toNat_natCast,hlp];simp
  have hc:∀ {k:Nat},k≤1048576→chk (decide ((k+1)*24≤70368744177664))=some ():=fun {k} hk=>by
   unfold chk;rw[decide_eq_true (by omega)];rfl
  rw[h1,cond_true,h2,Option.bind_some]
  simp only[List.map_cons,qpB] at h
  obtain⟨r,hr,h⟩:=Option.bind_eq_some_iff.1 h
  have hr':qdj R n_Z36 o_Z36 [⟨yI,p⟩,⟨yI,W⟩,⟨yK,B⟩,⟨yL,x⟩]=some r:=hr
  show Option.bind (qdj R n_Z36 o_Z36 [⟨yI,p⟩,⟨yI,W⟩,⟨yK,B⟩,⟨yL,x⟩]) _=_
  rw[hr',Option.bind_some]
  obtain⟨r,⟨⟩⟩:=r
  have hpre:(pre++[(v,x)]).length=pre.length+1:=by simp
  have hw1:w64 ((pre.length:Int)+1)=((pre++[(v,x)]).length:Int):=by rw[hpre,qad (by omega)]
  rw[hw1]
  cases r with
  | true =>
   obtain⟨ms',hm,rfl⟩:=Option.map_eq_some_iff.1 h
   have:=ih (pre++[(v,x)]) n p W B ms' acc (by rw[hlp];simp) (by omega) hm
   exact this
  | false =>
   have h:(qdj R n_Z38 o_Z38 [⟨yK,B⟩]).bind (fun b=>(chk (decide ((b.1.length+1)*24≤70368744177664))).bind fun _ =>
    (qdj R n_Z79 o_Z79 [⟨.int .i64,p⟩,⟨.int .i64,W⟩,⟨yK,b.1++[x]⟩]).bind fun s=>(qpB n_Z36 n_Z38 n_Z79 R s.1 s.2.1 s.2.2.1 (suf.map Prod.snd)).map (true::·))=some ms:=h
   obtain⟨b,hb,h⟩:=Option.bind_eq_some_iff.1 h
   obtain⟨u,hu,h⟩:=Option.bind_eq_some_iff.1 h
   obtain⟨s,hs,h⟩:=Option.bind_eq_some_iff.1 h
   obtain⟨ms',hm,rfl⟩:=Option.map_eq_some_iff.1 h
   have:=ih (pre++[(v,x)]) n s.1 s.2.1 s.2.2.1 ms' (acc++[(v,x)]) (by rw[hlp];simp) (by simp;omega) hm
   have hca:=hc (k:=acc.length) (by omega)
   show Option.bind (chk (decide ((List.length acc+1)*24≤70368744177664))) _=_
   rw[hca,Option.bind_some]
   refine qnt.trans ?_
   rw[hb,Option.bind_some]
   show Option.bind (chk (decide ((List.length b.1+1)*24≤70368744177664))) _=_
   rw[hu,Option.bind_some]
   show Option.bind (qdj R n_Z79 o_Z79 [⟨.int .i64,p⟩,⟨.int .i64,W⟩,⟨yK,b.1++[x]⟩]) _=_
   rw[hs,Option.bind_some]
   refine this.trans ?_
   simp[sel,List.append_assoc]
theorem qgn(hE:EnvOk E){R:Run}(hR:qg8 E R)(hw:R.ok)(hRw:∀ o f,R.w o f=o.bind f){args:List Dv}{dv:Dv}(h:qgG n_Z36 n_Z38 n_Z79 R args=some dv) :
  qb6 E.P ⟨[(true,3),(false,1)],[.imm,.imm,.imm,.take true],.cons tLL .nil,[(false,1)],[.deep],[]⟩ 104 args dv:=by
 match args,h with
 | [d0,d1,d2,d3],h =>
  simp only[qgG,Option.bind_eq_some_iff] at h
  obtain⟨p,h0,W,h1,B,h2,xs,h3,h⟩:=h
  obtain rfl:=to_some h0
  obtain rfl:=to_some h1
  obtain rfl:=to_some h2
  obtain rfl:=to_some h3
  split at h
  ·rename_i hx
   obtain⟨ms,hm,rfl⟩:=Option.map_eq_some_iff.1 h
   refine qk7 fun vs hv=>?_
   have hz:(vs.zip xs).map Prod.snd=xs:=qjJ hv
   have hl:(vs.zip xs).length=xs.length:=by rw[List.length_zip,hv,Nat.min_self]
   refine qmY hE hR hRw (pol:=qaK) (fn:=qa3) (N:=xs.length+1) (by kernel_rfl) ?_
   refine(impl_independent_L.ev R _ p W B (vs.zip xs)).trans ?_
   have:=qjI R hw (xs.length+1) (vs.zip xs) (by omega) (vs.zip xs) [] 0 p W B ms [] rfl (Nat.le_refl _) (by rw[hz];exact hm)
   rw[hl] at this ⊢
   exact this
  ·cases h
end
set_option maxHeartbeats 2000000 in
set_option maxRecDepth 100000 in
theorem qkD(base:Option Addr)(l c n:Nat)(w:World)(hlc:l≤c)(hc63:c≤9223372036854775807)(hn63:n≤9223372036854775807)(hroom:l+n≤c) :
  Calls Tryz.prog 285 #[.slice base l c,.int .i64 n] w fun e w'=>e=.returned (.slice base l c)∧w'=w:=by
 have h1:¬ ((n:Int)<0):=by omega
 have h2:wrap64 ((c:Int)-(l:Int))=(c:Int)-(l:Int):=by unfold wrap64;omega
 have h3:wrap64 ((n:Int)-((c:Int)-(l:Int)))=(n:Int)-((c:Int)-(l:Int)):=by unfold wrap64;omega
 have h4:¬ ((n:Int)-((c:Int)-(l:Int))>0):=by omega
 go_enter Tryz.func285,Tryz.ntmps285
 go_wp2
 go_ret
 exact⟨rfl,rfl⟩
set_option maxHeartbeats 4000000 in
set_option maxRecDepth 100000 in
theorem qkL(i0:TypeInfo)(z:Value)(hi0:Tryz.prog.info? 2=some i0)(hz0:i0.zero=some z)(hs0:0<i0.size)
    (base:Option Addr) (l c n:Nat) (cs:List Value) (w:World) (hlc:l≤c) (hroom:c<l+n) (hbig:(l+n)*i0.bytes≤140737488355328) (h63:l+n≤4611686018427387904)
    (hcl:cs.length=c*i0.size) (hnil:base=none→c=0) (hcs:∀ a,base=some a→∀(j:Nat) v,cs[j]? = some v→w.cell? (a.add j)=some v) :
    Calls Tryz.prog 285 #[.slice base l c,.int .i64 n] w fun e w' =>
      e=.returned (.slice (some ⟨w.heap.size,0,none⟩) l (grownCap w (l+n) c 2)) ∧
      w'=w.drew.alloc (.cells (cs.toArray++Builtin.zeroCells z.cells (l+n-c)++Builtin.zeroCells z.cells (grownCap w (l+n) c 2-(l+n))) 2):=by
  have h1:¬ ((n:Int)<0):=by omega
  have h2:wrap64 ((c:Int)-(l:Int))=(c:Int)-(l:Int):=by unfold wrap64;omega
  have h3:wrap64 ((n:Int)-((c:Int)-(l:Int)))=(n:Int)-((c:Int)-(l:Int)):=by unfold wrap64;omega
  have h4:(n:Int)-((c:Int)-(l:Int))>0:=by omega
  have z25:∀ w,(Go.sizeOf 2).run Tryz.prog w=.ok i0.size w:=fun w=>by simp[Go.sizeOf,typeInfo,hi0]
  have hck:c+(l+n-c)=l+n:=by omega
  have hold:(Builtin.firstCells i0.size c (.slice base c c)).run Tryz.prog w.drew=.ok cs.toArray w.drew:=by
    cases base with
    | none =>
      have h0:=hnil rfl
      subst h0
      have hc0:cs=[]:=List.length_eq_zero_iff.1 (by simpa using hcl)
      rw[hc0]
      exact run_firstCells_none w.drew i0.size 0 0 0
    | some a=>exact run_firstCells_some w.drew i0.size c a c c cs hcl (fun j v hj=>hcs a rfl j v hj)
  have hrz:∀ ty,(Builtin.append_ #[27,3] ty #[.slice base c c,.int .i64 ((n:Int)-((c:Int)-(l:Int)))]).run Tryz.prog w =
      .ok (.slice (some ⟨w.heap.size,0,none⟩) (l+n) (grownCap w (l+n) c 2)) (w.drew.alloc (.cells (cs.toArray++Builtin.zeroCells z.cells (l+n-c)++Builtin.zeroCells z.cells (grownCap w (l+n) c 2-(l+n))) 2)):=fun ty=>by
    have h:=Lib.run_append_grow_zeros w 27 3 ty 2 i0 z .i64 .i64 Tryz.underlying27 Tryz.underlying3 hi0 hz0 base c c cs hold (l+n-c) (by omega) hs0 (by omega) (by omega)
      (by have:(l+n-c)*i0.bytes≤(l+n)*i0.bytes:=Nat.mul_le_mul_right _ (by omega)
          omega)
      (by rw[hck];exact growslice_fits hroom hbig)
    rw[hck] at h
    rw[show(n:Int)-((c:Int)-(l:Int))=((l+n-c:Nat):Int) by omega]
    exact h
  have hGn:l+n≤grownCap w (l+n) c 2:=grownCap_ge w _ _ _
  obtain⟨G,hG⟩:∃ G,G=grownCap w (l+n) c 2:=⟨_,rfl⟩
  rw[← hG] at hrz hGn ⊢
  have hG63:G≤9223372036854775807:=by
    have:=grownCap_le_maxLen w (l+n) c 2 (by unfold maxLen;omega)
    rw[← hG] at this
    unfold maxLen at this
    omega
  clear hold hck hG hcs hcl
  go_enter Tryz.func285,Tryz.ntmps285
  cases base with
  | none =>
    have h0:=hnil rfl
    subst h0
    obtain rfl:l=0:=by omega
    go_wp2_with (at_builtin;refine Lib.wpList_append_run _ rfl _ _ _ _ rfl _ _ rfl rfl _ _ (hrz _) ?_)
    all_goals (go_ret;exact⟨rfl,rfl⟩)
  | some a =>
    obtain⟨ab,ao,asp⟩:=a
    go_wp2_with (at_builtin;refine Lib.wpList_append_run _ rfl _ _ _ _ rfl _ _ rfl rfl _ _ (hrz _) ?_)
    all_goals (go_ret;exact⟨rfl,rfl⟩)
theorem qlj:(Tryz.prog.info? 2).any (fun i=>i.size==Ve.Ty.size yI&&i.zero.any (fun z=>z.cells.size==Ve.Ty.size yI)&&decide (i.bytes≤64*Ve.Ty.size yI)&&decide (0<i.bytes)&&decide (0<Ve.Ty.size yI))=true:=by kernel_rfl
open Ve in
theorem qg0(R:Run){args:List Dv}{dv:Dv}(h:qiK yI R args=some dv) :
  qb6 Tryz.prog ⟨[(false,1),(false,1)],[.take true,.imm],.cons yL .nil,[(false,1)],[.deep],[]⟩ 285 args dv:=by
 have hi:=qlj
 cases hi0:Tryz.prog.info? 2 with
 | none=>rw[hi0] at hi;cases hi
 | some i0 =>
  rw[hi0] at hi
  simp only[Option.any_some,Bool.and_eq_true,decide_eq_true_eq,beq_iff_eq] at hi
  obtain⟨⟨⟨⟨h1,h2⟩,h3⟩,h4⟩,h5⟩:=hi
  cases hz:i0.zero with
  | none=>rw[hz] at h2;cases h2
  | some z =>
   rw[hz] at h2
   exact qfG h1 (by simpa using h2) h5 h3 h4 qkD (fun base l c n cs w a1 a2 a3 a4 a5 a6 a7=>qkL i0 z hi0 hz (by rw[h1];exact h5) base l c n cs w a1 a2 a3 a4 a5 a6 a7) R h
set_option maxHeartbeats 2000000 in
set_option maxRecDepth 100000 in
theorem qk5(base:Option Addr)(l c n:Nat)(w:World)(hlc:l≤c)(hc63:c≤9223372036854775807)(hn63:n≤9223372036854775807)(hroom:l+n≤c) :
  Calls Tryz.prog 291 #[.slice base l c,.int .i64 n] w fun e w'=>e=.returned (.slice base l c)∧w'=w:=by
 have h1:¬ ((n:Int)<0):=by omega
 have h2:wrap64 ((c:Int)-(l:Int))=(c:Int)-(l:Int):=by unfold wrap64;omega
 have h3:wrap64 ((n:Int)-((c:Int)-(l:Int)))=(n:Int)-((c:Int)-(l:Int)):=by unfold wrap64;omega
 have h4:¬ ((n:Int)-((c:Int)-(l:Int))>0):=by omega
 go_enter Tryz.func291,Tryz.ntmps291
 go_wp2
 go_ret
 exact⟨rfl,rfl⟩
set_option maxHeartbeats 4000000 in
set_option maxRecDepth 100000 in
theorem qlu(i0:TypeInfo)(z:Value)(hi0:Tryz.prog.info? 27=some i0)(hz0:i0.zero=some z)(hs0:0<i0.size)
    (base:Option Addr) (l c n:Nat) (cs:List Value) (w:World) (hlc:l≤c) (hroom:c<l+n) (hbig:(l+n)*i0.bytes≤140737488355328) (h63:l+n≤4611686018427387904)
    (hcl:cs.length=c*i0.size) (hnil:base=none→c=0) (hcs:∀ a,base=some a→∀(j:Nat) v,cs[j]? = some v→w.cell? (a.add j)=some v) :
    Calls Tryz.prog 291 #[.slice base l c,.int .i64 n] w fun e w' =>
      e=.returned (.slice (some ⟨w.heap.size,0,none⟩) l (grownCap w (l+n) c 27)) ∧
      w'=w.drew.alloc (.cells (cs.toArray++Builtin.zeroCells z.cells (l+n-c)++Builtin.zeroCells z.cells (grownCap w (l+n) c 27-(l+n))) 27):=by
  have h1:¬ ((n:Int)<0):=by omega
  have h2:wrap64 ((c:Int)-(l:Int))=(c:Int)-(l:Int):=by unfold wrap64;omega
  have h3:wrap64 ((n:Int)-((c:Int)-(l:Int)))=(n:Int)-((c:Int)-(l:Int)):=by unfold wrap64;omega
  have h4:(n:Int)-((c:Int)-(l:Int))>0:=by omega
  have z25:∀ w,(Go.sizeOf 27).run Tryz.prog w=.ok i0.size w:=fun w=>by simp[Go.sizeOf,typeInfo,hi0]
  have hck:c+(l+n-c)=l+n:=by omega
  have hold:(Builtin.firstCells i0.size c (.slice base c c)).run Tryz.prog w.drew=.ok cs.toArray w.drew:=by
    cases base with
    | none =>
      have h0:=hnil rfl
      subst h0
      have hc0:cs=[]:=List.length_eq_zero_iff.1 (by simpa using hcl)
      rw[hc0]
      exact run_firstCells_none w.drew i0.size 0 0 0
    | some a=>exact run_firstCells_some w.drew i0.size c a c c cs hcl (fun j v hj=>hcs a rfl j v hj)
  have hrz:∀ ty,(Builtin.append_ #[24,3] ty #[.slice base c c,.int .i64 ((n:Int)-((c:Int)-(l:Int)))]).run Tryz.prog w =
      .ok (.slice (some ⟨w.heap.size,0,none⟩) (l+n) (grownCap w (l+n) c 27)) (w.drew.alloc (.cells (cs.toArray++Builtin.zeroCells z.cells (l+n-c)++Builtin.zeroCells z.cells (grownCap w (l+n) c 27-(l+n))) 27)):=fun ty=>by
    have h:=Lib.run_append_grow_zeros w 24 3 ty 27 i0 z .i64 .i64 Tryz.underlying24 Tryz.underlying3 hi0 hz0 base c c cs hold (l+n-c) (by omega) hs0 (by omega) (by omega)
      (by have:(l+n-c)*i0.bytes≤(l+n)*i0.bytes:=Nat.mul_le_mul_right _ (by omega)
          omega)
      (by rw[hck];exact growslice_fits hroom hbig)
    rw[hck] at h
    rw[show(n:Int)-((c:Int)-(l:Int))=((l+n-c:Nat):Int) by omega]
    exact h
  have hGn:l+n≤grownCap w (l+n) c 27:=grownCap_ge w _ _ _
  obtain⟨G,hG⟩:∃ G,G=grownCap w (l+n) c 27:=⟨_,rfl⟩
  rw[← hG] at hrz hGn ⊢
  have hG63:G≤9223372036854775807:=by
    have:=grownCap_le_maxLen w (l+n) c 27 (by unfold maxLen;omega)
    rw[← hG] at this
    unfold maxLen at this
    omega
  clear hold hck hG hcs hcl
  go_enter Tryz.func291,Tryz.ntmps291
  cases base with
  | none =>
    have h0:=hnil rfl
    subst h0
    obtain rfl:l=0:=by omega
    go_wp2_with (at_builtin;refine Lib.wpList_append_run _ rfl _ _ _ _ rfl _ _ rfl rfl _ _ (hrz _) ?_)
    all_goals (go_ret;exact⟨rfl,rfl⟩)
  | some a =>
    obtain⟨ab,ao,asp⟩:=a
    go_wp2_with (at_builtin;refine Lib.wpList_append_run _ rfl _ _ _ _ rfl _ _ rfl rfl _ _ (hrz _) ?_)
    all_goals (go_ret;exact⟨rfl,rfl⟩)
theorem qlI:(Tryz.prog.info? 27).any (fun i=>i.size==Ve.Ty.size yL&&i.zero.any (fun z=>z.cells.size==Ve.Ty.size yL)&&decide (i.bytes≤64*Ve.Ty.size yL)&&decide (0<i.bytes)&&decide (0<Ve.Ty.size yL))=true:=by kernel_rfl
open Ve in
theorem qg9(R:Run){args:List Dv}{dv:Dv}(h:qiK yL R args=some dv) :
  qb6 Tryz.prog ⟨[(false,1),(false,1)],[.take true,.imm],.cons yK .nil,[(false,1)],[.deep],[]⟩ 291 args dv:=by
 have hi:=qlI
 cases hi0:Tryz.prog.info? 27 with
 | none=>rw[hi0] at hi;cases hi
 | some i0 =>
  rw[hi0] at hi
  simp only[Option.any_some,Bool.and_eq_true,decide_eq_true_eq,beq_iff_eq] at hi
  obtain⟨⟨⟨⟨h1,h2⟩,h3⟩,h4⟩,h5⟩:=hi
  cases hz:i0.zero with
  | none=>rw[hz] at h2;cases h2
  | some z =>
   rw[hz] at h2
   exact qfG h1 (by simpa using h2) h5 h3 h4 qk5 (fun base l c n cs w a1 a2 a3 a4 a5 a6 a7=>qlu i0 z hi0 hz (by rw[h1];exact h5) base l c n cs w a1 a2 a3 a4 a5 a6 a7) R h
end
section
open Go Ve
theorem qpV:primL=(List.range 378).map fun i=>bif Nat.beq i 104 then some (qgG n_Z36 n_Z38 n_Z79) else bif Nat.beq i 285 then some (qiK yI) else bif Nat.beq i 291 then some (qiK yL) else none:=by kernel_rfl
theorem qrZ(hE:EnvOk E):∀ f p,E.prim f=some p→∀ r,qg8 E (mkR r)→∀ args dv sg,E.sig f=some sg→p (mkR r) args=some dv→qb6 E.P sg f args dv:=by
 intro f p hp r hr args dv sg hsg h
 have hp:primL.getD f none=some p:=hp
 rw[qpV,List.getD_eq_getElem?_getD,List.getElem?_map] at hp
 by_cases hf:f<378
 ·rw[List.getElem?_range hf] at hp
  simp only[Option.map_some,Option.getD_some] at hp
  by_cases h104:f=104
  ·subst h104
   obtain rfl:(qgG n_Z36 n_Z38 n_Z79)=p:=Option.some.inj hp
   obtain rfl:sg_Z52=sg:=Option.some.inj (sig_impl_independent_eq.symm.trans hsg)
   exact qgn hE hr (qqy _) (fun _ _=>rfl) h
  rw[show Nat.beq f 104=false from Bool.eq_false_iff.2 fun h=>h104 (Nat.eq_of_beq_eq_true h),cond_false] at hp
  by_cases h285:f=285
  ·subst h285
   obtain rfl:(qiK yI)=p:=Option.some.inj hp
   obtain rfl:sg_Z108=sg:=Option.some.inj (sig_slices_Grow_Sint64_int64_eq.symm.trans hsg)
   exact qg0 _ h
  rw[show Nat.beq f 285=false from Bool.eq_false_iff.2 fun h=>h285 (Nat.eq_of_beq_eq_true h),cond_false] at hp
  by_cases h291:f=291
  ·subst h291
   obtain rfl:(qiK yL)=p:=Option.some.inj hp
   obtain rfl:sg_Z107=sg:=Option.some.inj (sig_slices_Grow_SSint64_Sint64_eq.symm.trans hsg)
   exact qg9 _ h
  rw[show Nat.beq f 291=false from Bool.eq_false_iff.2 fun h=>h291 (Nat.eq_of_beq_eq_true h),cond_false] at hp
  cases hp
 ·rw[List.getElem?_eq_none (by simpa using hf)] at hp
  cases hp
end
end VeT
open Go Go.Proofs Ve
namespace VeT
end VeT
open Go Go.Proofs Ve
namespace VeT
theorem qbe(s:List (List Int))(c:((vK×Unit)×(Int×Unit)×Unit))(p:(List Int)→Bool)(hs:s.length≤1048576)(hp:∀ x∈s,Ret E n_Z16 [⟨yL,x⟩,⟨(.ptr yC),c.1⟩,⟨(.ptr (.cons yI .nil)),c.2.1⟩] ⟨o_Z16,(p x,())⟩) :
    Ret E n_Z109 [⟨yK,s⟩,⟨(.fn n_Z16 (.cons (.ptr yC) (.cons (.ptr (.cons yI .nil)) .nil))),c⟩] ⟨o_Z109,(qjH p s,())⟩:=by
  obtain⟨o,h1,h2,h3⟩:=qco 1 (L:=fun φ n k=>Z110.l0 (mkR (run E (φ 0))) (φ 0) n s c (s.length:Int) k) (len:=s.length) (fun k=>∃ h:k<s.length,p s[k]=true) (fun o=>some ⟨o_Z109,(o2i o,())⟩) (fun _ _ _ _=>rfl) (fun k hk hP=>by
      obtain⟨_,hP⟩:=hP
      simp only[Z110.l0_succ _ qae]
      refine qaC (decide_eq_true (by omega)) (qac (qak hk) (qaa (hp _ (List.getElem_mem hk)) (qaC hP qal)))) (fun k q hk hP ih=>by
      simp only[Z110.l0_succ _ qae]
      refine qaC (decide_eq_true (by omega)) (qac (qak hk) (qaa (hp _ (List.getElem_mem hk)) (qaI (Bool.eq_false_iff.2 fun h=>hP ⟨hk,h⟩) ?_)))
      rw[qad (by omega)];exact ih) (by
      simp only[Z110.l0_succ _ qae]
      exact qaI (decide_eq_false (by omega)) qal)
  rw[qdd h1 h2] at h3
  refine qaj ?_
  simp only[run_Z109,Z110.ev]
  exact Ev.start (p:=fun φ n=>Z110.l0 (mkR (run E (φ 0))) (φ 0) n s c (s.length:Int) 0=_) 1 h3 (fun _ _ _ h=>h)
theorem qbq(s:List (List Int))(c:((Int×Unit)×Unit))(p:(List Int)→Bool)(hs:s.length≤1048576)(hp:∀ x∈s,Ret E n_Z42 [⟨yL,x⟩,⟨(.ptr (.cons yI .nil)),c.1⟩] ⟨o_Z42,(p x,())⟩) :
    Ret E n_Z109 [⟨yK,s⟩,⟨(.fn n_Z42 (.cons (.ptr (.cons yI .nil)) .nil)),c⟩] ⟨o_Z109,(qjH p s,())⟩:=by
  obtain⟨o,h1,h2,h3⟩:=qco 1 (L:=fun φ n k=>Z111.l0 (mkR (run E (φ 0))) (φ 0) n s c (s.length:Int) k) (len:=s.length) (fun k=>∃ h:k<s.length,p s[k]=true) (fun o=>some ⟨o_Z109,(o2i o,())⟩) (fun _ _ _ _=>rfl) (fun k hk hP=>by
      obtain⟨_,hP⟩:=hP
      simp only[Z111.l0_succ _ qae]
      refine qaC (decide_eq_true (by omega)) (qac (qak hk) (qaa (hp _ (List.getElem_mem hk)) (qaC hP qal)))) (fun k q hk hP ih=>by
      simp only[Z111.l0_succ _ qae]
      refine qaC (decide_eq_true (by omega)) (qac (qak hk) (qaa (hp _ (List.getElem_mem hk)) (qaI (Bool.eq_false_iff.2 fun h=>hP ⟨hk,h⟩) ?_)))
      rw[qad (by omega)];exact ih) (by
      simp only[Z111.l0_succ _ qae]
      exact qaI (decide_eq_false (by omega)) qal)
  rw[qdd h1 h2] at h3
  refine qaj ?_
  simp only[run_Z109,Z111.ev]
  exact Ev.start (p:=fun φ n=>Z111.l0 (mkR (run E (φ 0))) (φ 0) n s c (s.length:Int) 0=_) 1 h3 (fun _ _ _ h=>h)
theorem qbl(s:List Int)(p:Int→Bool)(hs:s.length≤1048576)(hp:∀ x∈s,Ret E n_Z21 [⟨yI,x⟩] ⟨o_Z21,(p x,())⟩) :
    Ret E n_Z112 [⟨yL,s⟩,⟨(.fn n_Z21 .nil),()⟩] ⟨o_Z112,(qjH p s,())⟩:=by
  obtain⟨o,h1,h2,h3⟩:=qco 1 (L:=fun φ n k=>Z113.l0 (mkR (run E (φ 0))) (φ 0) n s (s.length:Int) k) (len:=s.length) (fun k=>∃ h:k<s.length,p s[k]=true) (fun o=>some ⟨o_Z112,(o2i o,())⟩) (fun _ _ _ _=>rfl) (fun k hk hP=>by
      obtain⟨_,hP⟩:=hP
      simp only[Z113.l0_succ _ qae]
      refine qaC (decide_eq_true (by omega)) (qac (qak hk) (qaa (hp _ (List.getElem_mem hk)) (qaC hP qal)))) (fun k q hk hP ih=>by
      simp only[Z113.l0_succ _ qae]
      refine qaC (decide_eq_true (by omega)) (qac (qak hk) (qaa (hp _ (List.getElem_mem hk)) (qaI (Bool.eq_false_iff.2 fun h=>hP ⟨hk,h⟩) ?_)))
      rw[qad (by omega)];exact ih) (by
      simp only[Z113.l0_succ _ qae]
      exact qaI (decide_eq_false (by omega)) qal)
  rw[qdd h1 h2] at h3
  refine qaj ?_
  simp only[run_Z112,Z113.ev]
  exact Ev.start (p:=fun φ n=>Z113.l0 (mkR (run E (φ 0))) (φ 0) n s (s.length:Int) 0=_) 1 h3 (fun _ _ _ h=>h)
theorem qbr(s:List Int)(c:((Int×Unit)×Unit))(p:Int→Bool)(hs:s.length≤1048576)(hp:∀ x∈s,Ret E n_Z26 [⟨yI,x⟩,⟨(.ptr (.cons yI .nil)),c.1⟩] ⟨o_Z26,(p x,())⟩) :
    Ret E n_Z112 [⟨yL,s⟩,⟨(.fn n_Z26 (.cons (.ptr (.cons yI .nil)) .nil)),c⟩] ⟨o_Z112,(qjH p s,())⟩:=by
  obtain⟨o,h1,h2,h3⟩:=qco 1 (L:=fun φ n k=>Z114.l0 (mkR (run E (φ 0))) (φ 0) n s c (s.length:Int) k) (len:=s.length) (fun k=>∃ h:k<s.length,p s[k]=true) (fun o=>some ⟨o_Z112,(o2i o,())⟩) (fun _ _ _ _=>rfl) (fun k hk hP=>by
      obtain⟨_,hP⟩:=hP
      simp only[Z114.l0_succ _ qae]
      refine qaC (decide_eq_true (by omega)) (qac (qak hk) (qaa (hp _ (List.getElem_mem hk)) (qaC hP qal)))) (fun k q hk hP ih=>by
      simp only[Z114.l0_succ _ qae]
      refine qaC (decide_eq_true (by omega)) (qac (qak hk) (qaa (hp _ (List.getElem_mem hk)) (qaI (Bool.eq_false_iff.2 fun h=>hP ⟨hk,h⟩) ?_)))
      rw[qad (by omega)];exact ih) (by
      simp only[Z114.l0_succ _ qae]
      exact qaI (decide_eq_false (by omega)) qal)
  rw[qdd h1 h2] at h3
  refine qaj ?_
  simp only[run_Z112,Z114.ev]
  exact Ev.start (p:=fun φ n=>Z114.l0 (mkR (run E (φ 0))) (φ 0) n s c (s.length:Int) 0=_) 1 h3 (fun _ _ _ h=>h)
theorem qbu(s:List Int)(p:Int→Bool)(hs:s.length≤1048576)(hp:∀ x∈s,Ret E n_Z28 [⟨yI,x⟩] ⟨o_Z28,(p x,())⟩) :
    Ret E n_Z112 [⟨yL,s⟩,⟨(.fn n_Z28 .nil),()⟩] ⟨o_Z112,(qjH p s,())⟩:=by
  obtain⟨o,h1,h2,h3⟩:=qco 1 (L:=fun φ n k=>Z115.l0 (mkR (run E (φ 0))) (φ 0) n s (s.length:Int) k) (len:=s.length) (fun k=>∃ h:k<s.length,p s[k]=true) (fun o=>some ⟨o_Z112,(o2i o,())⟩) (fun _ _ _ _=>rfl) (fun k hk hP=>by
      obtain⟨_,hP⟩:=hP
      simp only[Z115.l0_succ _ qae]
      refine qaC (decide_eq_true (by omega)) (qac (qak hk) (qaa (hp _ (List.getElem_mem hk)) (qaC hP qal)))) (fun k q hk hP ih=>by
      simp only[Z115.l0_succ _ qae]
      refine qaC (decide_eq_true (by omega)) (qac (qak hk) (qaa (hp _ (List.getElem_mem hk)) (qaI (Bool.eq_false_iff.2 fun h=>hP ⟨hk,h⟩) ?_)))
      rw[qad (by omega)];exact ih) (by
      simp only[Z115.l0_succ _ qae]
      exact qaI (decide_eq_false (by omega)) qal)
  rw[qdd h1 h2] at h3
  refine qaj ?_
  simp only[run_Z112,Z115.ev]
  exact Ev.start (p:=fun φ n=>Z115.l0 (mkR (run E (φ 0))) (φ 0) n s (s.length:Int) 0=_) 1 h3 (fun _ _ _ h=>h)
theorem qbI(s:List Int)(p:Int→Bool)(hs:s.length≤1048576)(hp:∀ x∈s,Ret E n_Z64 [⟨yI,x⟩] ⟨o_Z64,(p x,())⟩) :
    Ret E n_Z112 [⟨yL,s⟩,⟨(.fn n_Z64 .nil),()⟩] ⟨o_Z112,(qjH p s,())⟩:=by
  obtain⟨o,h1,h2,h3⟩:=qco 1 (L:=fun φ n k=>Z116.l0 (mkR (run E (φ 0))) (φ 0) n s (s.length:Int) k) (len:=s.length) (fun k=>∃ h:k<s.length,p s[k]=true) (fun o=>some ⟨o_Z112,(o2i o,())⟩) (fun _ _ _ _=>rfl) (fun k hk hP=>by
      obtain⟨_,hP⟩:=hP
      simp only[Z116.l0_succ _ qae]
      refine qaC (decide_eq_true (by omega)) (qac (qak hk) (qaa (hp _ (List.getElem_mem hk)) (qaC hP qal)))) (fun k q hk hP ih=>by
      simp only[Z116.l0_succ _ qae]
      refine qaC (decide_eq_true (by omega)) (qac (qak hk) (qaa (hp _ (List.getElem_mem hk)) (qaI (Bool.eq_false_iff.2 fun h=>hP ⟨hk,h⟩) ?_)))
      rw[qad (by omega)];exact ih) (by
      simp only[Z116.l0_succ _ qae]
      exact qaI (decide_eq_false (by omega)) qal)
  rw[qdd h1 h2] at h3
  refine qaj ?_
  simp only[run_Z112,Z116.ev]
  exact Ev.start (p:=fun φ n=>Z116.l0 (mkR (run E (φ 0))) (φ 0) n s (s.length:Int) 0=_) 1 h3 (fun _ _ _ h=>h)
theorem qbA(s:List Int)(p:Int→Bool)(hs:s.length≤1048576)(hp:∀ x∈s,Ret E n_Z68 [⟨yI,x⟩] ⟨o_Z68,(p x,())⟩) :
    Ret E n_Z112 [⟨yL,s⟩,⟨(.fn n_Z68 .nil),()⟩] ⟨o_Z112,(qjH p s,())⟩:=by
  obtain⟨o,h1,h2,h3⟩:=qco 1 (L:=fun φ n k=>Z117.l0 (mkR (run E (φ 0))) (φ 0) n s (s.length:Int) k) (len:=s.length) (fun k=>∃ h:k<s.length,p s[k]=true) (fun o=>some ⟨o_Z112,(o2i o,())⟩) (fun _ _ _ _=>rfl) (fun k hk hP=>by
      obtain⟨_,hP⟩:=hP
      simp only[Z117.l0_succ _ qae]
      refine qaC (decide_eq_true (by omega)) (qac (qak hk) (qaa (hp _ (List.getElem_mem hk)) (qaC hP qal)))) (fun k q hk hP ih=>by
      simp only[Z117.l0_succ _ qae]
      refine qaC (decide_eq_true (by omega)) (qac (qak hk) (qaa (hp _ (List.getElem_mem hk)) (qaI (Bool.eq_false_iff.2 fun h=>hP ⟨hk,h⟩) ?_)))
      rw[qad (by omega)];exact ih) (by
      simp only[Z117.l0_succ _ qae]
      exact qaI (decide_eq_false (by omega)) qal)
  rw[qdd h1 h2] at h3
  refine qaj ?_
  simp only[run_Z112,Z117.ev]
  exact Ev.start (p:=fun φ n=>Z117.l0 (mkR (run E (φ 0))) (φ 0) n s (s.length:Int) 0=_) 1 h3 (fun _ _ _ h=>h)
theorem qa5(s:List (List Int))(c:((vK×Unit)×(Int×Unit)×Unit))(p:(List Int)→Bool)(hs:s.length≤1048576)(hp:∀ x∈s,Ret E n_Z16 [⟨yL,x⟩,⟨(.ptr yC),c.1⟩,⟨(.ptr (.cons yI .nil)),c.2.1⟩] ⟨o_Z16,(p x,())⟩) :
  Ret E n_Z98 [⟨yK,s⟩,⟨(.fn n_Z16 (.cons (.ptr yC) (.cons (.ptr (.cons yI .nil)) .nil))),c⟩] ⟨o_Z98,(pb (∃ x∈s,p x=true),())⟩:=by
 refine qaj ?_
 simp only[run_Z98,Z99.ev]
 refine qaa (qbe s c p hs hp) (qah ?_)
 simp only[ge_iff_le,qfa,qaN qb8]
theorem qa7(s:List Int)(p:Int→Bool)(hs:s.length≤1048576)(hp:∀ x∈s,Ret E n_Z21 [⟨yI,x⟩] ⟨o_Z21,(p x,())⟩) :
  Ret E n_Z100 [⟨yL,s⟩,⟨(.fn n_Z21 .nil),()⟩] ⟨o_Z100,(pb (∃ x∈s,p x=true),())⟩:=by
 refine qaj ?_
 simp only[run_Z100,Z101.ev]
 refine qaa (qbl s p hs hp) (qah ?_)
 simp only[ge_iff_le,qfa,qaN qb8]
theorem qbb(s:List Int)(c:((Int×Unit)×Unit))(p:Int→Bool)(hs:s.length≤1048576)(hp:∀ x∈s,Ret E n_Z26 [⟨yI,x⟩,⟨(.ptr (.cons yI .nil)),c.1⟩] ⟨o_Z26,(p x,())⟩) :
  Ret E n_Z100 [⟨yL,s⟩,⟨(.fn n_Z26 (.cons (.ptr (.cons yI .nil)) .nil)),c⟩] ⟨o_Z100,(pb (∃ x∈s,p x=true),())⟩:=by
 refine qaj ?_
 simp only[run_Z100,Z102.ev]
 refine qaa (qbr s c p hs hp) (qah ?_)
 simp only[ge_iff_le,qfa,qaN qb8]
theorem qbm(s:List Int)(p:Int→Bool)(hs:s.length≤1048576)(hp:∀ x∈s,Ret E n_Z28 [⟨yI,x⟩] ⟨o_Z28,(p x,())⟩) :
  Ret E n_Z100 [⟨yL,s⟩,⟨(.fn n_Z28 .nil),()⟩] ⟨o_Z100,(pb (∃ x∈s,p x=true),())⟩:=by
 refine qaj ?_
 simp only[run_Z100,Z103.ev]
 refine qaa (qbu s p hs hp) (qah ?_)
 simp only[ge_iff_le,qfa,qaN qb8]
theorem qby(s:List Int)(p:Int→Bool)(hs:s.length≤1048576)(hp:∀ x∈s,Ret E n_Z64 [⟨yI,x⟩] ⟨o_Z64,(p x,())⟩) :
  Ret E n_Z100 [⟨yL,s⟩,⟨(.fn n_Z64 .nil),()⟩] ⟨o_Z100,(pb (∃ x∈s,p x=true),())⟩:=by
 refine qaj ?_
 simp only[run_Z100,Z104.ev]
 refine qaa (qbI s p hs hp) (qah ?_)
 simp only[ge_iff_le,qfa,qaN qb8]
theorem qbM(p:Int)(R C:Nat)(c:(vM×Unit))(f:Nat→Nat→Int)(hR:R≤1048576)(hC:C≤1048576)(hRC:R*C≤1048576)(hf:∀ i j:Nat,i<R→j<C→Ret E n_Z82 [⟨yI,(i:Int)⟩,⟨yI,(j:Int)⟩,⟨(.ptr yM),c.1⟩] ⟨o_Z82,(f i j,())⟩) :
  Ret E n_Z45 [⟨yI,p⟩,⟨yI,(R:Int)⟩,⟨yI,(C:Int)⟩,⟨(.fn n_Z82 (.cons (.ptr yM) .nil)),c⟩] ⟨o_Z45,(p,(R:Int),(C:Int),qar f C R,())⟩:=by
 refine qaj ?_
 simp only[run_Z45,Z47.ev]
 refine Ev.start (p:=fun φ n=>Z47.l0 (mkR (run E (φ 0))) (φ 0) n (C:Int) c (R:Int) 0 0 0 0 p (R:Int) (C:Int) []=_) 1 ?_ (fun _ _ _ h=>h)
 refine qan 1 (L:=fun φ n k a=>Z47.l0 (mkR (run E (φ 0))) (φ 0) n (C:Int) c (R:Int) k 0 0 0 p (R:Int) (C:Int) a) (len:=R) (fun k=>qar f C k) (fun _ _ _ _ _=>rfl) (fun k r hk ih=>?_) ?_
 ·simp only[Z47.l0_succ _ qae]
  refine qaC (decide_eq_true (by omega)) ?_
  refine Ev.start (p:=fun φ n=>Z47.l1 (mkR (run E (φ 0))) (φ 0) (φ 1) n (C:Int) c (k:Int) (R:Int) (k:Int) (C:Int) 0 0 0 0 p (R:Int) (C:Int) (qar f C k)=_) 2 ?_ (fun _ _ _ h=>h)
  have hle:(k+1)*C≤R*C:=Nat.mul_le_mul_right _ hk
  rw[Nat.add_mul] at hle
  have:=qan 2 (L:=fun φ n j a=>Z47.l1 (mkR (run E (φ 0))) (φ 0) (φ 1) n (C:Int) c (k:Int) (R:Int) (k:Int) (C:Int) j 0 0 0 p (R:Int) (C:Int) a) (len:=C) (fun j=>qar f C k++(List.range j).map (f k)) (r:=r) (fun _ _ _ _ _=>rfl) (fun j r hj ih=>?_) ?_
  ·simpa using this
  ·simp only[Z47.l1_succ _ qae]
   rw[List.range_succ,List.map_append,← List.append_assoc] at ih
   refine qaC (decide_eq_true (by omega)) (qaa (hf k j hk hj) (qao (by simp[qaq];omega) ?_))
   rw[qad (by omega)];exact ih
  ·simp only[Z47.l1_succ _ qae]
   refine qaI (decide_eq_false (by omega)) ?_
   rw[qad (by omega)];exact ih
 ·simp only[Z47.l0_succ _ qae]
  exact qaI (decide_eq_false (by omega)) qal
theorem qdy(p:Int)(R C:Nat)(c:(vM×(vK×Unit)×Unit))(f:Nat→Nat→Int)(hR:R≤1048576)(hC:C≤1048576)(hRC:R*C≤1048576)(hf:∀ i j:Nat,i<R→j<C→Ret E n_Z72 [⟨yI,(i:Int)⟩,⟨yI,(j:Int)⟩,⟨(.ptr yM),c.1⟩,⟨(.ptr yC),c.2.1⟩] ⟨o_Z72,(f i j,())⟩) :
  Ret E n_Z45 [⟨yI,p⟩,⟨yI,(R:Int)⟩,⟨yI,(C:Int)⟩,⟨(.fn n_Z72 (.cons (.ptr yM) (.cons (.ptr yC) .nil))),c⟩] ⟨o_Z45,(p,(R:Int),(C:Int),qar f C R,())⟩:=by
 refine qaj ?_
 simp only[run_Z45,Z46.ev]
 refine Ev.start (p:=fun φ n=>Z46.l0 (mkR (run E (φ 0))) (φ 0) n (C:Int) c (R:Int) 0 0 0 0 p (R:Int) (C:Int) []=_) 1 ?_ (fun _ _ _ h=>h)
 refine qan 1 (L:=fun φ n k a=>Z46.l0 (mkR (run E (φ 0))) (φ 0) n (C:Int) c (R:Int) k 0 0 0 p (R:Int) (C:Int) a) (len:=R) (fun k=>qar f C k) (fun _ _ _ _ _=>rfl) (fun k r hk ih=>?_) ?_
 ·simp only[Z46.l0_succ _ qae]
  refine qaC (decide_eq_true (by omega)) ?_
  refine Ev.start (p:=fun φ n=>Z46.l1 (mkR (run E (φ 0))) (φ 0) (φ 1) n (C:Int) c (k:Int) (R:Int) (k:Int) (C:Int) 0 0 0 0 p (R:Int) (C:Int) (qar f C k)=_) 2 ?_ (fun _ _ _ h=>h)
  have hle:(k+1)*C≤R*C:=Nat.mul_le_mul_right _ hk
  rw[Nat.add_mul] at hle
  have:=qan 2 (L:=fun φ n j a=>Z46.l1 (mkR (run E (φ 0))) (φ 0) (φ 1) n (C:Int) c (k:Int) (R:Int) (k:Int) (C:Int) j 0 0 0 p (R:Int) (C:Int) a) (len:=C) (fun j=>qar f C k++(List.range j).map (f k)) (r:=r) (fun _ _ _ _ _=>rfl) (fun j r hj ih=>?_) ?_
  ·simpa using this
  ·simp only[Z46.l1_succ _ qae]
   rw[List.range_succ,List.map_append,← List.append_assoc] at ih
   refine qaC (decide_eq_true (by omega)) (qaa (hf k j hk hj) (qao (by simp[qaq];omega) ?_))
   rw[qad (by omega)];exact ih
  ·simp only[Z46.l1_succ _ qae]
   refine qaI (decide_eq_false (by omega)) ?_
   rw[qad (by omega)];exact ih
 ·simp only[Z46.l0_succ _ qae]
  exact qaI (decide_eq_false (by omega)) qal
theorem qej(p:Int)(R C:Nat)(f:Nat→Nat→Int)(hR:R≤1048576)(hC:C≤1048576)(hRC:R*C≤1048576)(hf:∀ i j:Nat,i<R→j<C→Ret E n_Z87 [⟨yI,(i:Int)⟩,⟨yI,(j:Int)⟩] ⟨o_Z87,(f i j,())⟩) :
  Ret E n_Z45 [⟨yI,p⟩,⟨yI,(R:Int)⟩,⟨yI,(C:Int)⟩,⟨(.fn n_Z87 .nil),()⟩] ⟨o_Z45,(p,(R:Int),(C:Int),qar f C R,())⟩:=by
 refine qaj ?_
 simp only[run_Z45,Z48.ev]
 refine Ev.start (p:=fun φ n=>Z48.l0 (mkR (run E (φ 0))) (φ 0) n (C:Int) (R:Int) 0 0 0 0 p (R:Int) (C:Int) []=_) 1 ?_ (fun _ _ _ h=>h)
 refine qan 1 (L:=fun φ n k a=>Z48.l0 (mkR (run E (φ 0))) (φ 0) n (C:Int) (R:Int) k 0 0 0 p (R:Int) (C:Int) a) (len:=R) (fun k=>qar f C k) (fun _ _ _ _ _=>rfl) (fun k r hk ih=>?_) ?_
 ·simp only[Z48.l0_succ _ qae]
  refine qaC (decide_eq_true (by omega)) ?_
  refine Ev.start (p:=fun φ n=>Z48.l1 (mkR (run E (φ 0))) (φ 0) (φ 1) n (C:Int) (k:Int) (R:Int) (k:Int) (C:Int) 0 0 0 0 p (R:Int) (C:Int) (qar f C k)=_) 2 ?_ (fun _ _ _ h=>h)
  have hle:(k+1)*C≤R*C:=Nat.mul_le_mul_right _ hk
  rw[Nat.add_mul] at hle
  have:=qan 2 (L:=fun φ n j a=>Z48.l1 (mkR (run E (φ 0))) (φ 0) (φ 1) n (C:Int) (k:Int) (R:Int) (k:Int) (C:Int) j 0 0 0 p (R:Int) (C:Int) a) (len:=C) (fun j=>qar f C k++(List.range j).map (f k)) (r:=r) (fun _ _ _ _ _=>rfl) (fun j r hj ih=>?_) ?_
  ·simpa using this
  ·simp only[Z48.l1_succ _ qae]
   rw[List.range_succ,List.map_append,← List.append_assoc] at ih
   refine qaC (decide_eq_true (by omega)) (qaa (hf k j hk hj) (qao (by simp[qaq];omega) ?_))
   rw[qad (by omega)];exact ih
  ·simp only[Z48.l1_succ _ qae]
   refine qaI (decide_eq_false (by omega)) ?_
   rw[qad (by omega)];exact ih
 ·simp only[Z48.l0_succ _ qae]
  exact qaI (decide_eq_false (by omega)) qal
end VeT
open Go Go.Proofs Ve
namespace VeT
abbrev cM:Ty:=.cons yI (.cons yI (.cons yI (.cons yL .nil)))
abbrev cC:Ty:=.cons yK .nil
abbrev cS:Ty:=.cons yK (.cons yI (.cons yL (.cons (.sl (.st cM)) .nil)))
abbrev Mat:=Int×Int×Int×List Int×Unit
abbrev Cpx:=List (List Int)×Unit
abbrev Shf:=List (List Int)×Int×List Int×List Mat×Unit
abbrev Sim:=List Int
abbrev dI(x:Int):Dv:=⟨.int .i64,x⟩
abbrev dL(x:List Int):Dv:=⟨.sl yI,x⟩
abbrev dLL(x:List (List Int)):Dv:=⟨.sl yL,x⟩
abbrev dC(x:Cpx):Dv:=⟨.ptr cC,x⟩
abbrev dM(x:Mat):Dv:=⟨.ptr cM,x⟩
abbrev dS(x:Shf):Dv:=⟨.ptr cS,x⟩
abbrev dMs(x:List Mat):Dv:=⟨.sl (.st cM),x⟩
theorem qc3(n lo hi:Int):Ret E n_Z84 [dI n,dI lo,dI hi] ⟨o_Z84,(pb (lo≤n∧n≤hi),())⟩:=by
 refine qaj ?_
 simp only[run_Z84,Z84.ev]
 refine qee (fun h=>qah ?_) fun h=>qah ?_
 ·rw[qfa,qaN (show n≤hi↔lo≤n∧n≤hi by omega)]
 ·rw[qat (by omega)]
theorem qch(n lo hi:Int):Ret E n_Z126 [dI n,dI lo,dI hi] ⟨o_Z126,(pb (lo≤n∧n≤hi),())⟩:=by
 refine qaj ?_
 simp only[run_Z126,Z126.ev]
 refine qee (fun h=>qah ?_) fun h=>qah ?_
 ·rw[qfa,qaN (show n≤hi↔lo≤n∧n≤hi by omega)]
 ·rw[qat (by omega)]
theorem qlL(n:Int):Ret E n_Z62 [dI n] ⟨o_Z62,(pb (0≤n∧n≤9),())⟩:=by
 refine qaj ?_
 simp only[run_Z62,Z62.ev]
 exact qaa (qc3 _ _ _) qal
theorem qfT(n:Int):Ret E n_Z21 [dI n] ⟨o_Z21,(!pb (0≤n∧n≤9),())⟩:=by
 refine qaj ?_
 simp only[run_Z21,Z21.ev]
 exact qaa (qlL _) qal
def qiI(s:Sim):Prop:=∀ j,1≤j→j<s.length→s.getD (j-1) 0<s.getD j 0
theorem qlQ(s:Sim)(hs:Sm yL s):Ret E n_Z59 [dL s] ⟨o_Z59,(pb (qiI s),())⟩:=by
 have hs1:s.length≤1048576:=hs.1
 refine qaj ?_
 simp only[run_Z59,Z59.ev]
 by_cases h0:s.length=0
 ·refine Ev.start (p:=fun φ n=>Z59.l0 (mkR (run E (φ 0))) (φ 0) n s 1=_) 1 ?_ (fun _ _ _ h=>h)
  refine qe2 1 (σ:=Unit) (L:=fun φ n _=>Z59.l0 (mkR (run E (φ 0))) (φ 0) n s 1) (fun _ _ _ _=>rfl) (fun _=>True) (fun _=>_) (fun _=>0) (fun _ _ _=>?_) () trivial
  simp only[Z59.l0_succ _ qae]
  refine qaI (decide_eq_false (by omega)) (qah ?_)
  rw[qaP]
  intro j h1 h2;omega
 ·refine Ev.start (p:=fun φ n=>Z59.l0 (mkR (run E (φ 0))) (φ 0) n s 1=_) 1 ?_ (fun _ _ _ h=>h)
  refine qdN 1 (L:=fun φ n k=>Z59.l0 (mkR (run E (φ 0))) (φ 0) n s k) (len:=s.length) 1 (by omega) (fun j=>s.getD (j-1) 0<s.getD j 0) (fun b=>some ⟨o_Z59,(b,())⟩) (fun _ _ _ _=>rfl) (fun k h1 h2 hP _=>?_) (fun k r h1 h2 hP _ ih=>?_) (fun _=>?_)
  ·simp only[Z59.l0_succ _ qae]
   refine qaC (decide_eq_true (by omega)) ?_
   rw[qaf (by omega) (by omega),show((k:Int)-1)=((k-1:Nat):Int) by omega]
   refine qac (qak (by omega)) (qac (qak h2) (qaC (decide_eq_true ?_) qal))
   simpa [List.getD_eq_getElem?_getD,h2,show k-1<s.length by omega] using hP
  ·simp only[Z59.l0_succ _ qae]
   refine qaC (decide_eq_true (by omega)) ?_
   rw[qaf (by omega) (by omega),show((k:Int)-1)=((k-1:Nat):Int) by omega]
   refine qac (qak (by omega)) (qac (qak h2) (qaI (decide_eq_false ?_) ?_))
   ·simpa [List.getD_eq_getElem?_getD,h2,show k-1<s.length by omega] using hP
   ·rw[qad (by omega)];exact ih
  ·simp only[Z59.l0_succ _ qae]
   exact qaI (decide_eq_false (by omega)) qal
end VeT
open Go Go.Proofs Ve
namespace VeT
def Vx(s:Sim):Prop:=1≤s.length∧s.length≤4∧qiI s∧∀ x∈s,0≤x∧x≤9
theorem qei(s:Sim)(hs:Sm yL s):Ret E n_Z20 [dL s] ⟨o_Z20,(pb (Vx s),())⟩:=by
 refine qaj ?_
 simp only[run_Z20,Z20.ev]
 refine qee (fun h1=>qee (fun h2=>qaa (qlQ s hs) (qbL (fun h3=>qaa (qa7 s _ hs.1 fun x _=>qfT x) (qah ?_)) fun h3=>qah ?_)) fun h2=>qah ?_) fun h1=>qah ?_
 ·have h3:=qaG.1 h3
  have:(!pb (∃ x∈s,(!pb (0≤x∧x≤9))=true))=pb (Vx s):=qim (by
   simp only[Bool.not_eq_true',qaY]
   exact⟨fun h=>⟨by omega,by omega,h3,fun x hx=>Classical.byContradiction fun hn=>h ⟨x,hx,hn⟩⟩,fun h ⟨x,hx,hn⟩=>hn (h.2.2.2 x hx)⟩)
  rw[this]
 ·rw[qat fun h=>qaY.1 h3 h.2.2.1]
 ·rw[qat fun h=>h2 (by have:=h.2.1;omega)]
 ·rw[qat fun h=>h1 (by have:=h.1;omega)]
theorem qlg(s:Sim)(lo hi:Int)(hs:Sm yL s):Ret E n_Z129 [dL s,dI lo,dI hi] ⟨o_Z129,(pb (qiI s∧∀ x∈s,lo≤x∧x≤hi),())⟩:=by
 have hs1:s.length≤1048576:=hs.1
 refine qaj ?_
 simp only[run_Z129,Z129.ev]
 refine Ev.start (p:=fun φ n=>Z129.l0 (mkR (run E (φ 0))) (φ 0) n s lo hi 0=_) 1 ?_ (fun _ _ _ h=>h)
 refine(qdN 1 (L:=fun φ n k=>Z129.l0 (mkR (run E (φ 0))) (φ 0) n s lo hi k) (len:=s.length) 0 (by omega) (fun j=>(lo≤s.getD j 0∧s.getD j 0≤hi)∧(1≤j→s.getD (j-1) 0<s.getD j 0)) (fun b=>some ⟨o_Z129,(b,())⟩) (fun _ _ _ _=>rfl) (fun k h1 h2 hP _=>?_) (fun k r h1 h2 hP _ ih=>?_) (fun _=>?_)).to ?_
 ·simp only[Z129.l0_succ _ qae]
  refine qaC (decide_eq_true (by omega)) (qac (qak h2) (qaa (qch _ _ _) ?_))
  have e:s.getD k 0=s[k]:=by simp[List.getD_eq_getElem?_getD,h2]
  rw[e] at hP
  refine qbL (fun _=>?_) (fun hin=>?_)
  ·simp only[Z129.j1_eq _ qae,cond_true];(first | exact qal | exact Ev.of fun _=>trivial)
  ·have hin:lo≤s[k]∧s[k]≤hi:=qaG.1 (by simpa using hin)
   have hk:1≤k:=Classical.byContradiction fun h=>hP ⟨hin,fun h'=>absurd h' h⟩
   refine qaC (decide_eq_true (by omega)) ?_
   rw[qaf (by omega) (by omega),show((k:Int)-1)=((k-1:Nat):Int) by omega]
   refine qac (qak (by omega)) (qac (qak h2) ?_)
   have e':s.getD (k-1) 0=s[k-1]:=by simp[List.getD_eq_getElem?_getD,show k-1<s.length by omega]
   rw[e'] at hP
   have:decide (s[k-1]≥s[k])=true:=decide_eq_true (Classical.byContradiction fun h=>hP ⟨hin,fun _=>by omega⟩)
   simp only[this,Z129.j1_eq _ qae,cond_true];(first | exact qal | exact Ev.of fun _=>trivial)
 ·simp only[Z129.l0_succ _ qae]
  refine qaC (decide_eq_true (by omega)) (qac (qak h2) (qaa (qch _ _ _) ?_))
  have e:s.getD k 0=s[k]:=by simp[List.getD_eq_getElem?_getD,h2]
  rw[e] at hP
  refine qaI (by rw[qaP hP.1];rfl) ?_
  refine qee (fun hk=>?_) fun hk=>?_
  ·rw[qaf (by omega) (by omega),show((k:Int)-1)=((k-1:Nat):Int) by omega]
   refine qac (qak (by omega)) (qac (qak h2) ?_)
   have e':s.getD (k-1) 0=s[k-1]:=by simp[List.getD_eq_getElem?_getD,show k-1<s.length by omega]
   rw[e'] at hP
   have:decide (s[k-1]≥s[k])=false:=decide_eq_false (by have:=hP.2 (by omega);omega)
   simp only[this,Z129.j1_eq _ qae,cond_false]
   rw[qad (by omega)];exact ih
  ·simp only[Z129.j1_eq _ qae,cond_false]
   rw[qad (by omega)];exact ih
 ·simp only[Z129.l0_succ _ qae]
  exact qaI (decide_eq_false (by omega)) qal
 ·refine congrArg (fun b:Bool=>some (⟨o_Z129,(b,())⟩:Dv)) (qaN ⟨fun h=>⟨fun j h1 h2=>(h j (by omega) h2).2 h1,fun x hx=>?_⟩,fun⟨h1,h2⟩ j _ hj=>⟨?_,fun h3=>h1 j h3 hj⟩⟩)
  ·obtain⟨j,hj,rfl⟩:=List.mem_iff_getElem.1 hx
   simpa [List.getD_eq_getElem?_getD,hj] using (h j (by omega) hj).1
  ·simpa [List.getD_eq_getElem?_getD,hj] using h2 _ (List.getElem_mem hj)
theorem qfe(s:Sim)(hs:Sm yL s):Ret E n_Z159 [dL s] ⟨o_Z159,(pb (Vx s),())⟩:=by
 refine qaj ?_
 simp only[run_Z159,Z159.ev]
 refine qaa (qch _ _ _) (qbL (fun h1=>qaa (qlg s _ _ hs) (qah ?_)) fun h1=>qah ?_)
 ·have h1:=qaG.1 h1
  exact congrArg (fun b:Bool=>some (⟨o_Z159,(b,())⟩:Dv)) (qaN ⟨fun h=>⟨by omega,by omega,h.1,h.2⟩,fun h=>⟨h.2.2.1,h.2.2.2⟩⟩)
 ·rw[qat fun h=>qaY.1 h1 ⟨by have:=h.1;omega,by have:=h.2.1;omega⟩]
def qiZ(a b:Int):Int:=if a<b then -1 else if b<a then 1 else 0
def qeZ:Sim→Sim→Int
 | [],[]=>0
 | [],_::_=>-1
 | _::_,[]=>1
 | x::xs,y::ys=>if x<y then -1 else if y<x then 1 else qeZ xs ys
def qdP(a b:Sim):Int:=if qiZ a.length b.length≠0 then qiZ a.length b.length else qeZ a b
theorem qes{a b:Int}:qiZ a b=0↔a=b:=by unfold qiZ;split<;>(try split)<;>omega
theorem qqk{a b:Int}:qiZ b a=- qiZ a b:=by unfold qiZ;split<;>split<;>(try split)<;>omega
theorem qpw{a b:Int}:qiZ a b<0↔a<b:=by unfold qiZ;split<;>(try split)<;>omega
theorem qov:∀ {a b:Sim},qeZ a b=0↔a=b
 | [],[]=>by simp[qeZ]
 | [],_::_=>by simp[qeZ]
 | _::_,[]=>by simp[qeZ]
 | x::xs,y::ys=>by
  have:=@qov xs ys
  simp only[qeZ,List.cons.injEq]
  split
  ·constructor
   ·intro h;omega
   ·rintro⟨rfl,_⟩;omega
  ·split
   ·constructor
    ·intro h;omega
    ·rintro⟨rfl,_⟩;omega
   ·rw[this];constructor
    ·intro h;exact⟨by omega,h⟩
    ·exact fun h=>h.2
theorem qnm:∀ {a b:Sim},qeZ b a=- qeZ a b
 | [],[]=>by simp[qeZ]
 | [],_::_=>by simp[qeZ]
 | _::_,[]=>by simp[qeZ]
 | x::xs,y::ys=>by
  have:=@qnm xs ys
  simp only[qeZ]
  split<;>split<;>(try split)<;>omega
theorem qjg:∀ {a b c:Sim},qeZ a b<0→qeZ b c<0→qeZ a c<0
 | [],[],c,h,_=>by simp[qeZ] at h
 | [],_::_,[],_,h=>by simp[qeZ] at h
 | [],_::_,_::_,_,_=>by simp[qeZ]
 | _::_,[],_,h,_=>by simp[qeZ] at h
 | _::_,_::_,[],_,h=>by simp[qeZ] at h
 | x::xs,y::ys,z::zs,h1,h2=>by
  have:=@qjg xs ys zs
  simp only[qeZ] at h1 h2 ⊢
  split at h1<;>split at h2<;>(try split at h1)<;>(try split at h2)<;>(try split)<;>(try split)<;>first | omega | (exact this h1 h2)
theorem qdJ{a b:Sim}:qdP a b=0↔a=b:=by
 unfold qdP
 split
 ·rename_i h
  exact⟨fun h'=>absurd h' h,fun h'=>absurd (qes.2 (by rw[h'])) h⟩
 ·exact qov
theorem qmJ{a b:Sim}:qdP b a=- qdP a b:=by
 unfold qdP
 rw[@qqk a.length b.length]
 split<;>split<;>first | omega | exact qnm
theorem qke{a b:Sim}:qdP a b<0↔a.length<b.length∨a.length=b.length∧qeZ a b<0:=by
 unfold qdP
 split
 ·rename_i h
  rw[qpw]
  rw[Ne,qes] at h
  omega
 ·rename_i h
  rw[Classical.not_not,qes] at h
  omega
theorem qgx{a b c:Sim}(h1:qdP a b<0)(h2:qdP b c<0):qdP a c<0:=by
 rw[qke] at *
 rcases h1 with h1 | ⟨h1,h1'⟩<;>rcases h2 with h2 | ⟨h2,h2'⟩
 ·left;omega
 ·left;omega
 ·left;omega
 ·right;exact⟨by omega,qjg h1' h2'⟩
theorem qjo(a:Int):Ret E n_Z3 [dI a] ⟨o_Z3,(false,())⟩:=by
 refine qaj ?_
 simp only[run_Z3,Z3.ev]
 exact qah (by simp)
theorem qk8(a:Int):Ret E n_Z4 [dI a] ⟨o_Z4,(false,())⟩:=by
 refine qaj ?_
 simp only[run_Z4,Z4.ev]
 exact qah (by simp)
theorem qkC(a b:Int):Ret E n_Z0 [dI a,dI b] ⟨o_Z0,(qiZ a b,())⟩:=by
 refine qaj ?_
 simp only[run_Z0,Z0.ev]
 refine qaa (qjo _) (qaa (qjo _) (qaI rfl (qaI rfl (qee (fun h=>qah ?_) fun h=>qee (fun h2=>qah ?_) fun h2=>qah ?_))))
 ·rw[qiZ,if_pos h]
 ·rw[qiZ,if_neg h,if_pos h2]
 ·rw[qiZ,if_neg h,if_neg h2]
theorem ql7(a b:Int):Ret E n_Z1 [dI a,dI b] ⟨o_Z1,(qiZ a b,())⟩:=by
 refine qaj ?_
 simp only[run_Z1,Z1.ev]
 refine qaa (qk8 _) (qaa (qk8 _) (qaI rfl (qaI rfl (qee (fun h=>qah ?_) fun h=>qee (fun h2=>qah ?_) fun h2=>qah ?_))))
 ·rw[qiZ,if_pos h]
 ·rw[qiZ,if_neg h,if_pos h2]
 ·rw[qiZ,if_neg h,if_neg h2]
theorem qhW{a b:Sim}{k:Nat}(h:k<a.length)(h':k<b.length):qeZ (a.drop k) (b.drop k)=if qiZ a[k] b[k]≠0 then qiZ a[k] b[k] else qeZ (a.drop (k+1)) (b.drop (k+1)):=by
 rw[List.drop_eq_getElem_cons h,List.drop_eq_getElem_cons h',qeZ]
 unfold qiZ
 split
 ·simp
 ·split
  ·simp
  ·simp
theorem qg7(a b:Sim)(ha:Sm yL a):Ret E n_Z95 [dL a,dL b] ⟨o_Z95,(qeZ a b,())⟩:=by
 have ha1:a.length≤1048576:=ha.1
 refine qaj ?_
 simp only[run_Z95,Z95.ev]
 refine Ev.start (p:=fun φ n=>Z95.l0 (mkR (run E (φ 0))) (φ 0) n a b a (a.length:Int) 0=_) 1 ?_ (fun _ _ _ h=>h)
 refine qe2 1 (σ:=Nat) (L:=fun φ n k=>Z95.l0 (mkR (run E (φ 0))) (φ 0) n a b a (a.length:Int) (k:Int)) (fun _ _ _ _=>rfl) (fun k=>k≤a.length∧k≤b.length) (fun k=>some ⟨o_Z95,(qeZ (a.drop k) (b.drop k),())⟩) (fun k=>a.length-k) (fun k ⟨hk,hkb⟩ ih=>?_) 0 ⟨Nat.zero_le _,Nat.zero_le _⟩
 simp only[Z95.l0_succ _ qae]
 refine qee (fun h=>?_) fun h=>?_
 ·have hka:k<a.length:=by omega
  refine qac (qak hka) (qee (fun h2=>qah ?_) fun h2=>?_)
  ·rw[List.drop_eq_getElem_cons hka,List.drop_of_length_le (l:=b) (by omega),qeZ]
  ·have hkb:k<b.length:=by omega
   refine qac (qak hkb) (qaa (ql7 _ _) (qbL (fun h3=>qah ?_) fun h3=>?_))
   ·rw[qhW hka hkb,if_pos (by simpa using h3)]
   ·rw[qad (by omega)]
    refine(ih (k+1) ⟨by omega,by omega⟩ (by omega)).to ?_
    rw[qhW hka hkb,if_neg (by simpa using h3)]
 ·have e:k=a.length:=by omega
  subst e
  refine qee (fun h2=>qah ?_) fun h2=>qah ?_
  ·rw[List.drop_of_length_le (l:=a) (by omega),List.drop_eq_getElem_cons (l:=b) (by omega),qeZ]
  ·rw[List.drop_of_length_le (l:=a) (by omega),List.drop_of_length_le (l:=b) (by omega),qeZ]
theorem qq0(a b:Int):Ret E n_Z2 [dL [a,b]] ⟨o_Z2,(if a≠0 then a else b,())⟩:=by
 refine qaj ?_
 simp only[run_Z2,Z2.ev]
 refine Ev.start (p:=fun φ n=>Z2.l0 (mkR (run E (φ 0))) (φ 0) n 0 [a,b] ([a,b].length:Int) 0=_) 1 ?_ (fun _ _ _ h=>h)
 refine Ev.round 1 (L:=fun φ n=>Z2.l0 (mkR (run E (φ 0))) (φ 0) n 0 [a,b] ([a,b].length:Int) 0) ?_ (fun _ _ _=>rfl)
 simp only[Z2.l0_succ _ qae]
 refine qaC (by simp) (qac (x:=a) rfl (qbL (fun h=>qah ?_) fun h=>?_))
 ·rw[if_pos (by simpa using h)]
 ·rw[if_neg (by simpa using h)]
  rw[show w64 ((0:Int)+1)=1 by decide]
  refine Ev.round 1 (L:=fun φ n=>Z2.l0 (mkR (run E (φ 0))) (φ 0) n 0 [a,b] ([a,b].length:Int) 1) ?_ (fun _ _ _=>rfl)
  simp only[Z2.l0_succ _ qae]
  refine qaC (by simp) (qac (x:=b) rfl (qbL (fun h=>qal) fun h=>?_))
  rw[show w64 ((1:Int)+1)=2 by decide]
  refine Ev.round 1 (L:=fun φ n=>Z2.l0 (mkR (run E (φ 0))) (φ 0) n 0 [a,b] ([a,b].length:Int) 2) ?_ (fun _ _ _=>rfl)
  simp only[Z2.l0_succ _ qae]
  refine qaI (by simp) (qah ?_)
  have:b=0:=by simpa using h
  rw[this]
theorem qbn(a b:Sim)(ha:Sm yL a):Ret E n_Z35 [dL a,dL b] ⟨o_Z35,(qdP a b,())⟩:=by
 refine qaj ?_
 simp only[run_Z35,Z35.ev]
 exact qaa (qkC _ _) (qaa (qg7 a b ha) (qaa (qq0 _ _) qal))
theorem qcS(a b:Sim)(ha:Sm yL a):Ret E n_Z149 [dL a,dL b] ⟨o_Z149,(pb (qdP a b<0),())⟩:=by
  have ha1:a.length≤1048576:=ha.1
  refine qaj ?_
  simp only[run_Z149,Z149.ev]
  refine qbL (fun h=>qah ?_) fun h=>?_
  · have h:(a.length:Int)≠b.length:=by simpa using h
    rw[qfa,qaN (show(a.length:Int)<b.length↔qdP a b<0 by rw[qke];omega)]
  · have h : a.length = b.length := by have : (a.length : Int) = b.length := by simpa using h
                                       omega
    refine Ev.start (p:=fun φ n=>Z149.l0 (mkR (run E (φ 0))) (φ 0) n a b 0=_) 1 ?_ (fun _ _ _ h=>h)
    refine(qe2 1 (σ:=Nat) (L:=fun φ n k=>Z149.l0 (mkR (run E (φ 0))) (φ 0) n a b (k:Int)) (fun _ _ _ _=>rfl) (fun k=>k≤a.length) (fun k=>some ⟨o_Z149,(pb (qeZ (a.drop k) (b.drop k)<0),())⟩) (fun k=>a.length-k) (fun k hk ih=>?_) 0 (Nat.zero_le _)).to ?_
    · simp only[Z149.l0_succ _ qae]
      refine qee (fun h1=>?_) fun h1=>?_
      · have hka:k<a.length:=by omega
        have hkb:k<b.length:=by omega
        have e:=qhW hka hkb
        refine qac (qak hka) (qac (qak hkb) (qbL (fun h3=>?_) fun h3=>?_))
        · refine qac (qak hka) (qac (qak hkb) (qah ?_))
          have h3:a[k]≠b[k]:=by simpa using h3
          rw[if_pos (by rw[Ne,qes];exact h3)] at e
          rw[e,qfa,qaN qpw]
        · have h3:a[k]=b[k]:=by simpa using h3
          rw[if_neg (by rw[Classical.not_not,qes];exact h3)] at e
          rw[qad (by omega),e]
          exact ih (k+1) (by show k+1≤_;omega) (by show a.length-(k+1)<_;omega)
      · refine qah ?_
        have hk:k≤a.length:=hk
        have e:k=a.length:=by omega
        subst e
        rw[List.drop_of_length_le (l:=a) (by omega),List.drop_of_length_le (l:=b) (by omega),qeZ,qat (by omega)]
    · refine congrArg (fun b:Bool=>some (⟨o_Z149,(b,())⟩:Dv)) (qaN ?_)
      simp only[List.drop_zero];rw[qke];omega
end VeT
open Go Go.Proofs Ve
namespace VeT
theorem qag{α:Type}{s:List α}{k:Nat}{d:α}(h:k<s.length):s.getD k d=s[k]:=by simp[List.getD_eq_getElem?_getD,h]
theorem qb2{t:Ty}{s:List t.T}(h:Sm (.sl t) s){k:Nat}(hk:k<s.length):Sm t s[k]:=h.2 _ (List.getElem_mem hk)
theorem qr6{s:Sim}(h:s.length≤1048576):Sm yL s:=⟨h,fun _ _=>trivial⟩
theorem qc1(s:Sim)(hs:s.length≤1048576):Ret E n_Z127 [dL s] ⟨o_Z127,(s,())⟩:=by
 refine qaj ?_
 simp only[run_Z127,Z127.ev]
 exact qao (by simp;omega) (qah rfl)
theorem qdO(s:Sim)(k:Nat)(hk:k<s.length)(hs:s.length≤1048576):Ret E n_Z153 [dL s,dI (k:Int)] ⟨o_Z153,(s.eraseIdx k,())⟩:=by
 refine qaj ?_
 simp only[run_Z153,Z153.ev]
 rw[qad (by omega)]
 simp only[Int.toNat_natCast]
 refine qao (by simp;omega) (qaa (qc1 _ (by simp;omega)) (qao (by simp;omega) (qao (by simp;omega) (qah ?_))))
 rw[List.eraseIdx_eq_take_drop_succ]
theorem qgS(a b:Sim)(ha:a.length≤1048576):Ret E n_Z130 [dL a,dL b] ⟨o_Z130,(pb (a=b),())⟩:=by
 refine qaj ?_
 simp only[run_Z130,Z130.ev]
 refine qbL (fun h=>qah ?_) fun h=>?_
 ·have h:(a.length:Int)≠b.length:=by simpa using h
  rw[qat fun e=>h (by rw[e])]
 ·have h:(a.length:Int)=b.length:=by simpa using h
  refine Ev.start (p:=fun φ n=>Z130.l0 (mkR (run E (φ 0))) (φ 0) n a b 0=_) 1 ?_ (fun _ _ _ h=>h)
  refine(qdN 1 (L:=fun φ n k=>Z130.l0 (mkR (run E (φ 0))) (φ 0) n a b k) (len:=a.length) 0 (by omega) (fun j=>a.getD j 0=b.getD j 0) (fun b=>some ⟨o_Z130,(b,())⟩) (fun _ _ _ _=>rfl) (fun k h1 h2 hP _=>?_) (fun k r h1 h2 hP _ ih=>?_) (fun _=>?_)).to ?_
  ·simp only[Z130.l0_succ _ qae]
   have hb:k<b.length:=by omega
   rw[qag h2,qag hb] at hP
   exact qaC (decide_eq_true (by omega)) (qac (qak h2) (qac (qak hb) (qaC (by simpa using hP) qal)))
  ·simp only[Z130.l0_succ _ qae]
   have hb:k<b.length:=by omega
   rw[qag h2,qag hb] at hP
   refine qaC (decide_eq_true (by omega)) (qac (qak h2) (qac (qak hb) (qaI (by simpa using hP) ?_)))
   rw[qad (by omega)];exact ih
  ·simp only[Z130.l0_succ _ qae]
   exact qaI (decide_eq_false (by omega)) qal
  ·refine congrArg (fun b:Bool=>some (⟨o_Z130,(b,())⟩:Dv)) (qaN ⟨fun hh=>List.ext_getElem (by omega) fun j h1 h2=>?_,fun hh j _ _=>by rw[hh]⟩)
   have:=hh j (by omega) h1
   rwa [qag h1,qag h2] at this
noncomputable def qeu(c:List Sim)(s:Sim):Int:=qjH (fun x=>pb (x=s)) c
theorem qba{c:List Sim}{s:Sim}:0≤qeu c s↔s∈c:=by
 unfold qeu
 rw[qb8]
 simp only[qaG]
 exact⟨fun⟨x,h,e⟩=>e ▸ h,fun h=>⟨s,h,rfl⟩⟩
theorem qb7(c:Cpx)(s:Sim)(hc:Sm yK c.1):Ret E n_Z155 [dC c,dL s] ⟨o_Z155,(qeu c.1 s,())⟩:=by
  have hc1:c.1.length≤1048576:=hc.1
  obtain⟨o,h1,h2,h3⟩:=qco 1 (L:=fun φ n k=>Z155.l0 (mkR (run E (φ 0))) (φ 0) n c s k) (len:=c.1.length) (fun k=>∃ h:k<c.1.length,pb (c.1[k]=s)=true) (fun o=>some ⟨o_Z155,(o2i o,())⟩) (fun _ _ _ _=>rfl) (fun k hk hP=>by
      obtain⟨_,hP⟩:=hP
      simp only[Z155.l0_succ _ qae]
      refine qaC (decide_eq_true (by omega)) (qac (qak hk) (qaa (qgS _ _ (qb2 hc hk).1) (qaC hP qal)))) (fun k q hk hP ih=>by
      simp only[Z155.l0_succ _ qae]
      refine qaC (decide_eq_true (by omega)) (qac (qak hk) (qaa (qgS _ _ (qb2 hc hk).1) (qaI (Bool.eq_false_iff.2 fun h=>hP ⟨hk,h⟩) ?_)))
      rw[qad (by omega)];exact ih) (by
      simp only[Z155.l0_succ _ qae]
      exact qaI (decide_eq_false (by omega)) qal)
  rw[qdd (p:=fun x=>pb (x=s)) h1 h2] at h3
  refine qaj ?_
  simp only[run_Z155,Z155.ev]
  exact Ev.start (p:=fun φ n=>Z155.l0 (mkR (run E (φ 0))) (φ 0) n c s 0=_) 1 h3 (fun _ _ _ h=>h)
theorem qpD(n:Nat)(args:List Dv):run E (n+1) n_Z108 args=qiK yI (mkR (run E n)) args:=rfl
theorem qp7(s:Sim)(n:Int)(h0:0≤n)(h1:n≤1048576)(hs:s.length≤1048576):Ret E n_Z108 [dL s,dI n] ⟨o_Z108,(s,())⟩:=by
 refine qaj ?_
 simp only[qpD]
 refine qah ((if_pos (show 0≤n∧((List.length s:Int)+n)*(64*(Ty.size (Ty.int IntKind.i64):Int))≤70368744177664 from⟨h0,?_⟩)).trans rfl)
 have:(Ty.size (Ty.int IntKind.i64))=1:=rfl
 rw[this];omega
theorem qjA(ll:List Sim)(hl:ll.length≤1048576)(hf:ll.flatten.length≤1048576):Ret E n_Z97 [dLL ll] ⟨o_Z97,(ll.flatten,())⟩:=by
 have hle:∀ k,(ll.take k).flatten.length≤ll.flatten.length:=fun k=>by
  have:=congrArg List.length (congrArg List.flatten (List.take_append_drop k ll))
  rw[List.flatten_append,List.length_append] at this;omega
 have hst:∀ k (h:k<ll.length),(ll.take (k+1)).flatten=(ll.take k).flatten++ll[k]:=fun k h=>by
  rw[List.take_succ_eq_append_getElem h,List.flatten_append];simp
 refine qaj ?_
 simp only[run_Z97,Z97.ev]
 refine Ev.start (p:=fun φ n=>Z97.l0 (mkR (run E (φ 0))) (φ 0) n ll 0 ll (ll.length:Int) 0=_) 1 ?_ (fun _ _ _ h=>h)
 refine qan 1 (L:=fun φ n k a=>Z97.l0 (mkR (run E (φ 0))) (φ 0) n ll a ll (ll.length:Int) k) (len:=ll.length) (fun k=>(((ll.take k).flatten.length:Nat):Int)) (fun _ _ _ _ _=>rfl) (fun k r hk ih=>?_) ?_
 ·simp only[Z97.l0_succ _ qae]
  have:=hle (k+1)
  have e:=hst k hk
  have e2:w64 (((ll.take k).flatten.length:Nat)+(List.length (ll[k]):Int))=(((ll.take (k+1)).flatten.length:Nat):Int):=by
   rw[qaf (by omega) (by rw[e,List.length_append] at this;omega),e,List.length_append];omega
  refine qaC (decide_eq_true (by omega)) (qac (qak hk) ?_)
  show Ev fun φ=>(bif decide (w64 (((ll.take k).flatten.length:Nat)+(List.length (ll[k]):Int))<0) then none else Z97.l0 (mkR (run E (φ 0))) (φ 0) (φ 1) ll (w64 (((ll.take k).flatten.length:Nat)+(List.length (ll[k]):Int))) ll (ll.length:Int) (w64 ((k:Int)+1)))=r
  rw[e2,qad (by omega)]
  exact qaI (decide_eq_false (by omega)) ih
 ·simp only[Z97.l0_succ _ qae]
  refine qaI (decide_eq_false (by omega)) (qaa (qp7 [] _ (by omega) (by have:=hle ll.length;omega) (by simp)) ?_)
  refine Ev.start (p:=fun φ n=>Z97.l1 (mkR (run E (φ 0))) (φ 0) n ll (ll.length:Int) 0 []=_) 2 ?_ (fun _ _ _ h=>h)
  refine qan 2 (L:=fun φ n k a=>Z97.l1 (mkR (run E (φ 0))) (φ 0) n ll (ll.length:Int) k a) (len:=ll.length) (fun k=>(ll.take k).flatten) (fun _ _ _ _ _=>rfl) (fun k r hk ih=>?_) ?_
  ·simp only[Z97.l1_succ _ qae]
   have:=hle (k+1)
   have e:=hst k hk
   rw[e] at ih this
   rw[List.length_append] at this
   refine qaC (decide_eq_true (by omega)) (qac (qak hk) (qao (decide_eq_true (by show(_+List.length ll[k])*8≤_;omega)) ?_))
   rw[qad (by omega)]
   exact ih
  ·simp only[Z97.l1_succ _ qae]
   refine qaI (decide_eq_false (by omega)) (qah ?_)
   rw[List.take_of_length_le (Nat.le_refl _)]
def qcp(s:Sim):List Sim:=if 1<s.length then(List.range s.length).map (s.eraseIdx ·) else []
theorem qda{s f:Sim}:f∈qcp s↔1<s.length∧∃ i,i<s.length∧f=s.eraseIdx i:=by
 unfold qcp
 split
 ·rename_i h
  simp only[List.mem_map,List.mem_range,h,true_and]
  exact⟨fun⟨i,h1,h2⟩=>⟨i,h1,h2.symm⟩,fun⟨i,h1,h2⟩=>⟨i,h1,h2.symm⟩⟩
 ·rename_i h
  simp[h]
theorem qpq{s f:Sim}(h:f∈qcp s):f.length+1=s.length:=by
 obtain⟨h1,i,h2,rfl⟩:=qda.1 h
 rw[List.length_eraseIdx,if_pos h2];omega
theorem qgH{s:Sim}:(qcp s).length≤s.length:=by
 unfold qcp;split<;>simp
theorem qfq(s:Sim)(hs:s.length≤1048576):Ret E n_Z44 [dL s] ⟨o_Z44,(qcp s,())⟩:=by
 refine qaj ?_
 simp only[run_Z44,Z44.ev]
 refine Ev.start (p:=fun φ n=>Z44.l0 (mkR (run E (φ 0))) (φ 0) n s (s.length:Int) 0 []=_) 1 ?_ (fun _ _ _ h=>h)
 by_cases h1:1<s.length
 ·refine qan 1 (L:=fun φ n k a=>Z44.l0 (mkR (run E (φ 0))) (φ 0) n s (s.length:Int) k a) (len:=s.length) (fun k=>(List.range k).map (s.eraseIdx ·)) (fun _ _ _ _ _=>rfl) (fun k r hk ih=>?_) ?_
  ·simp only[Z44.l0_succ _ qae]
   rw[List.range_succ,List.map_append] at ih
   rw[qad (by omega)]
   simp only[Int.toNat_natCast]
   refine qaC (decide_eq_true (by omega)) (qaC (decide_eq_true (by omega)) (qao (by simp;omega) (qao (by simp;omega) (qaa (qjA _ (by simp) (by simp;omega)) (qao (by simp;omega) ?_)))))
   rw[show [s.take k,s.drop (k+1)].flatten=s.eraseIdx k by simp[List.eraseIdx_eq_take_drop_succ]]
   exact ih
  ·simp only[Z44.l0_succ _ qae]
   exact qaI (decide_eq_false (by omega)) (qah (by rw[qcp,if_pos h1]))
 ·refine qan 1 (L:=fun φ n k a=>Z44.l0 (mkR (run E (φ 0))) (φ 0) n s (s.length:Int) k a) (len:=s.length) (fun k=>[]) (fun _ _ _ _ _=>rfl) (fun k r hk ih=>?_) ?_
  ·simp only[Z44.l0_succ _ qae]
   rw[qad (by omega)]
   exact qaC (decide_eq_true (by omega)) (qaI (decide_eq_false (by omega)) ih)
  ·simp only[Z44.l0_succ _ qae]
   exact qaI (decide_eq_false (by omega)) (qah (by rw[qcp,if_neg h1]))
def Srt(c:List Sim):Prop:=∀ i j (h:j<c.length) (hij:i<j),qdP c[i] c[j]<0
theorem qqK{c:List Sim}(h:∀ k,1≤k→k<c.length→qdP (c.getD (k-1) []) (c.getD k [])<0):Srt c:=by
 intro i j
 induction j with
 | zero=>intro _ h;omega
 | succ j ih =>
  intro hj hij
  have:=h (j+1) (by omega) hj
  rw[Nat.add_sub_cancel,qag (by omega),qag hj] at this
  by_cases e:i=j
  ·subst e;exact this
  ·exact qgx (ih (by omega) (by omega)) this
theorem Srt.take{c:List Sim}(h:Srt c)(k:Nat):Srt (c.take k):=by
 intro i j hj hij
 rw[List.getElem_take,List.getElem_take]
 exact h i j (by rw[List.length_take] at hj;omega) hij
def bs(c:List Sim)(s:Sim):Nat:=c.findIdx (fun x=>!decide (qdP x s<0))
theorem qrK{c:List Sim}{s:Sim}:bs c s≤c.length:=List.findIdx_le_length
theorem qjK{c:List Sim}{s:Sim}(hc:Srt c){t:Nat}(h:t<c.length):t<bs c s↔qdP c[t] s<0:=by
 constructor
 ·intro ht
  have:=List.not_of_lt_findIdx ht
  simpa using this
 ·intro ht
  refine Classical.byContradiction fun hn=>?_
  have hb:bs c s<c.length:=by omega
  have h1:qdP c[bs c s] s<0:=by
   by_cases e:bs c s=t
   ·simp only[e];exact ht
   ·exact qgx (hc _ _ h (by omega)) ht
  have:=List.findIdx_getElem (w:=hb)
  simp only[Bool.not_eq_true',decide_eq_false_iff_not] at this
  exact this h1
theorem qoy{c:List Sim}{s:Sim}(hc:Srt c):qeu c s=if h:bs c s<c.length∧c.getD (bs c s) []=s then(bs c s:Int) else -1:=by
 have e:c.findIdx? (fun x=>pb (x=s))=if bs c s<c.length∧c.getD (bs c s) []=s then some (bs c s) else none:=by
  split
  ·rename_i h
   obtain⟨h1,h2⟩:=h
   rw[List.findIdx?_eq_some_iff_getElem]
   rw[qag h1] at h2
   refine⟨h1,qaP h2,fun j hj=>?_⟩
   rw[qaG]
   intro he
   have:=(qjK (s:=s) hc (show j<c.length by omega)).1 hj
   rw[he,qdJ.2 rfl] at this
   omega
  ·rename_i h
   rw[List.findIdx?_eq_none_iff]
   intro x hx
   rw[qaY]
   rintro rfl
   obtain⟨j,hj,rfl⟩:=List.mem_iff_getElem.1 hx
   have h0:¬ j<bs c c[j]:=fun hlt=>by
    have:=(qjK hc hj).1 hlt
    rw[qdJ.2 rfl] at this;omega
   by_cases hjb:bs c c[j]=j
   ·exact h ⟨by omega,by rw[hjb,qag hj]⟩
   ·have hb:bs c c[j]<c.length:=by omega
    have:=(qjK (s:=c[j]) hc hb).2 (hc _ _ hj (by omega))
    omega
 unfold qeu qjH
 rw[e]
 split<;>rfl
theorem qg4(c:List Sim)(s:Sim)(hc:Sm yK c)(hs:Srt c):Ret E n_Z92 [dLL c,dL s,⟨.fn n_Z35 .nil,()⟩] ⟨o_Z92,((bs c s:Int),pb (bs c s<c.length∧c.getD (bs c s) []=s),())⟩:=by
 have hc1:c.length≤1048576:=hc.1
 refine qaj ?_
 simp only[run_Z92,Z93.ev]
 refine Ev.start (p:=fun φ n=>Z93.l0 (mkR (run E (φ 0))) (φ 0) n c s (c.length:Int) 0 (c.length:Int)=_) 1 ?_ (fun _ _ _ h=>h)
 refine qe2 1 (σ:=Nat×Nat) (L:=fun φ n st=>Z93.l0 (mkR (run E (φ 0))) (φ 0) n c s (c.length:Int) (st.1:Int) (st.2:Int)) (fun _ _ _ _=>rfl) (fun st=>st.1≤bs c s∧bs c s≤st.2∧st.2≤c.length) (fun _=>_) (fun st=>st.2-st.1) (fun st hi ih=>?_) (0,c.length) ⟨Nat.zero_le _,qrK,Nat.le_refl _⟩
 obtain⟨i,j⟩:=st
 obtain⟨h1,h2,h3⟩:=hi
 simp only at h1 h2 h3 ih
 simp only[Z93.l0_succ _ qae]
 rw[qsn (by omega)]
 refine qee (fun hij=>?_) fun hij=>?_
 ·have hh:(i+j) / 2<c.length:=by omega
  refine qao (by decide) (qac (qak hh) (qaa (qbn _ _ (qb2 hc hh)) (qee (fun hlt=>?_) fun hlt=>?_)))
  ·rw[qad (by omega)]
   have:=(qjK hs hh).2 hlt
   exact ih ((i+j) / 2+1,j) ⟨this,h2,h3⟩ (by simp only;omega)
  ·have:¬ (i+j) / 2<bs c s:=fun h=>hlt ((qjK hs hh).1 h)
   exact ih (i,(i+j) / 2) ⟨h1,by simp only;omega,by simp only;omega⟩ (by simp only;omega)
 ·have e:i=bs c s:=by omega
  subst e
  refine qee (fun hl=>?_) fun hl=>qah ?_
  ·have hh:bs c s<c.length:=by omega
   refine qac (qak hh) (qaa (qbn _ _ (qb2 hc hh)) (qah ?_))
   have:(qdP c[bs c s] s==0)=pb (bs c s<c.length∧c.getD (bs c s) []=s):=qim (by
    rw[qag hh,beq_iff_eq,qdJ];exact⟨fun h=>⟨hh,h⟩,fun h=>h.2⟩)
   rw[this]
  ·rw[qat fun h=>hl (by omega)]
theorem qh0(c:List Sim)(s:Sim)(hc:Sm yK c)(hs:Srt c):Ret E n_Z53 [dLL c,dL s] ⟨o_Z53,(qeu c s,())⟩:=by
 refine qaj ?_
 simp only[run_Z53,Z53.ev]
 refine qaa (qg4 c s hc hs) (qbL (fun h=>qah ?_) fun h=>qah ?_)
 ·rw[qoy hs,dif_neg (qaY.1 (by simpa using h))]
 ·rw[qoy hs,dif_pos (qaG.1 (by simpa using h))]
end VeT
open Go Go.Proofs Ve
namespace VeT
def VC(c:List Sim):Prop:=c.length≤48∧(∀ k,k<c.length→Vx (c.getD k []))∧(∀ k,1≤k→k<c.length→qdP (c.getD (k-1) []) (c.getD k [])<0)∧∀ k,k<c.length→∀ f∈qcp (c.getD k []),f∈c
theorem VC.srt{c:List Sim}(h:VC c):Srt c:=qqK h.2.2.1
def qlF(c:List Sim)(k:Nat):Prop:=(Vx (c.getD k [])∧(1≤k→qdP (c.getD (k-1) []) (c.getD k [])<0))∧∀ f∈qcp (c.getD k []),f∈c.take k
theorem qro{c:List Sim}:((∀ k,0≤k→k<c.length→qlF c k)∧c.length≤48)↔VC c:=by
 constructor
 ·rintro⟨h,hl⟩
  exact⟨hl,fun k hk=>(h k (by omega) hk).1.1,fun k h1 hk=>(h k (by omega) hk).1.2 h1,fun k hk f hf=>List.mem_of_mem_take ((h k (by omega) hk).2 f hf)⟩
 ·intro h
  have hs:=h.srt
  obtain⟨hl,h1,h2,h3⟩:=h
  refine⟨fun k _ hk=>⟨⟨h1 k hk,fun hk1=>h2 k hk1 hk⟩,fun f hf=>?_⟩,hl⟩
  have hm:=h3 k hk f hf
  have hlen:=qpq hf
  rw[qag hk] at hlen
  obtain⟨i,hi,rfl⟩:=List.mem_iff_getElem.1 hm
  have hlt:qdP c[i] c[k]<0:=qke.2 (.inl (by omega))
  have hik:i<k:=Classical.byContradiction fun hn=>by
   by_cases e:i=k
   ·subst e;omega
   ·have:=hs k i hi (by omega)
    rw[qmJ] at this;omega
  exact List.mem_iff_getElem.2 ⟨i,by rw[List.length_take];omega,by rw[List.getElem_take]⟩
theorem qqT{t:Ty}{s:List t.T}(h:Sm (.sl t) s)(k:Nat):Sm (.sl t) (s.take k):=⟨by have h1:s.length≤1048576:=h.1;show(s.take k).length≤_;rw[List.length_take];omega,fun x hx=>h.2 x (List.mem_of_mem_take hx)⟩
theorem qf9(c:List Sim)(f:Sim)(k:Nat)(hk:k≤c.length)(hc:Sm yK c)(hs:Srt (c.take k)) :
  Ret E n_Z16 [dL f,dC (c,()),⟨.ptr (.cons yI .nil),((k:Int),())⟩] ⟨o_Z16,(pb (¬ f∈c.take k),())⟩:=by
 refine qaj ?_
 simp only[run_Z16,Z16.ev]
 simp only[Int.toNat_natCast]
 refine qao (by simp;omega) (qaa (qh0 _ f (qqT hc k) hs) (qah ?_))
 simp only[qfa,qaN (show qeu (c.take k) f<0↔¬ f∈c.take k by rw[← qba];omega)]
theorem qg5(c:List Sim)(hc:Sm yK c):Ret E n_Z15 [dLL c] ⟨o_Z15,(pb (VC c),())⟩:=by
  have hc1:c.length≤1048576:=hc.1
  refine qaj ?_
  simp only[run_Z15,Z15.ev]
  refine Ev.start (p:=fun φ n=>Z15.l0 (mkR (run E (φ 0))) (φ 0) n c (c.length:Int) 0 c=_) 1 ?_ (fun _ _ _ h=>h)
  have key:∀(n:Nat) (k:Nat) (hk:k<c.length) (hpre:∀ j,0≤j→j<k→qlF c j),Srt (c.take k):=fun n k hk hpre=>qqK fun j h1 h2=>by
    rw[List.length_take] at h2
    have:=(hpre j (by omega) (by omega)).1.2 h1
    rw[qag (by omega),qag (by omega)] at this
    rw[qag (by rw[List.length_take];omega),qag (by rw[List.length_take];omega),List.getElem_take,List.getElem_take]
    exact this
  have hcon:∀(k:Nat) (hk:k<c.length) (hpre:∀ j,0≤j→j<k→qlF c j),Ret E n_Z98 [dLL (qcp c[k]),⟨.fn n_Z16 (.cons (.ptr yC) (.cons (.ptr (.cons yI .nil)) .nil)),((c,()),((k:Int),()),())⟩] ⟨o_Z98,(pb (∃ x∈qcp c[k],pb (¬ x∈c.take k)=true),())⟩:=fun k hk hpre =>
    qa5 (qcp c[k]) ((c,()),((k:Int),()),()) _ (Nat.le_trans qgH (qb2 hc hk).1) fun x hx=>qf9 c x k (by omega) hc (key 0 k hk hpre)
  refine(qdN 1 (L:=fun φ n k=>Z15.l0 (mkR (run E (φ 0))) (φ 0) n c (c.length:Int) k c) (len:=c.length) 0 (by omega) (qlF c) (fun b=>some ⟨o_Z15,(b&&decide ((c.length:Int)≤48),())⟩) (fun _ _ _ _=>rfl) (fun k h1 h2 hP hpre=>?_) (fun k r h1 h2 hP hpre ih=>?_) (fun _=>?_)).to ?_
  · simp only[Z15.l0_succ _ qae]
    refine qaC (decide_eq_true (by omega)) (qac (qak h2) (qaa (qei _ (qb2 hc h2)) ?_))
    refine qbL (fun hv=>?_) fun hv=>?_
    · simp only[Z15.j1_eq _ qae,cond_true];(first | exact qal | exact Ev.of fun _=>trivial)
    · have hv:Vx c[k]:=qaG.1 (by simpa using hv)
      have last:(1≤k→qdP (c.getD (k-1) []) (c.getD k [])<0)→Ev fun φ=>Z15.j1 (mkR (run E (φ 0))) (φ 0) (φ 1) c[k] c (c.length:Int) (k:Int) false c (k:Int)=some ⟨o_Z15,(false,())⟩:=fun hcm=>by
        simp only[Z15.j1_eq _ qae,cond_false]
        refine qaa (qfq _ (qb2 hc h2).1) (qaa (hcon k h2 hpre) (qaC ?_ qal))
        refine qaP (Classical.byContradiction fun hn=>hP ⟨⟨by rw[qag h2];exact hv,hcm⟩,fun f hf=>Classical.byContradiction fun hnf=>hn ⟨f,by rw[qag h2] at hf;exact hf,qaP hnf⟩⟩)
      refine qee (fun hk=>?_) fun hk=>?_
      · rw[qaf (by omega) (by omega),show((k:Int)-1)=((k-1:Nat):Int) by omega]
        have hk1:k-1<c.length:=by omega
        refine qac (qak hk1) (qaa (qbn _ _ (qb2 hc hk1)) ?_)
        by_cases hcm:qdP c[k-1] c[k]<0
        · simp only[show decide (qdP c[k-1] c[k]≥0)=false from decide_eq_false (by omega)]
          exact last fun _=>by rw[qag hk1,qag h2];exact hcm
        · simp only[show decide (qdP c[k-1] c[k]≥0)=true from decide_eq_true (by omega),Z15.j1_eq _ qae,cond_true]
          (first | exact qal | exact Ev.of fun _=>trivial)
      · exact last fun h=>absurd h (by omega)
  · simp only[Z15.l0_succ _ qae]
    have hP':=hP
    obtain⟨⟨hv,hcm⟩,hfc⟩:=hP'
    rw[qag h2] at hv hfc
    refine qaC (decide_eq_true (by omega)) (qac (qak h2) (qaa (qei _ (qb2 hc h2)) (qaI (by rw[qaP hv];rfl) ?_)))
    have last:Ev fun φ=>Z15.j1 (mkR (run E (φ 0))) (φ 0) (φ 1) c[k] c (c.length:Int) (k:Int) false c (k:Int)=r:=by
      simp only[Z15.j1_eq _ qae,cond_false]
      refine qaa (qfq _ (qb2 hc h2).1) (qaa (hcon k h2 hpre) (qaI ?_ ?_))
      · exact qat fun⟨x,hx,hn⟩=>qaG.1 hn (hfc x hx)
      · rw[qad (by omega)];exact ih
    refine qee (fun hk=>?_) fun hk=>last
    rw[qaf (by omega) (by omega),show((k:Int)-1)=((k-1:Nat):Int) by omega]
    have hk1:k-1<c.length:=by omega
    have hcm:=hcm (by omega)
    rw[qag hk1,qag h2] at hcm
    refine qac (qak hk1) (qaa (qbn _ _ (qb2 hc hk1)) ?_)
    simp only[show decide (qdP c[k-1] c[k]≥0)=false from decide_eq_false (by omega)]
    exact last
  · simp only[Z15.l0_succ _ qae]
    exact qaI (decide_eq_false (by omega)) (qah (by rw[Bool.true_and]))
  · have:(pb (∀ j,0≤j→j<c.length→qlF c j)&&decide ((c.length:Int)≤48))=pb (VC c):=qim (by
      rw[Bool.and_eq_true,qaG,decide_eq_true_iff,← qro]
      exact⟨fun h=>⟨h.1,by omega⟩,fun h=>⟨h.1,by omega⟩⟩)
    rw[this]
def qqL(c:List Sim)(k:Nat):Prop:=(Vx (c.getD k [])∧(1≤k→qdP (c.getD (k-1) []) (c.getD k [])<0))∧∀ f∈qcp (c.getD k []),f∈c
theorem qog(c:Cpx)(hc:Sm yK c.1):Ret E n_Z157 [dC c] ⟨o_Z157,(pb (VC c.1),())⟩:=by
  have hc1:c.1.length≤1048576:=hc.1
  refine qaj ?_
  simp only[run_Z157,Z157.ev]
  refine qee (fun h=>qah ?_) fun h48=>?_
  · rw[qat fun hv=>by have:=hv.1;omega]
  refine Ev.start (p:=fun φ n=>Z157.l0 (mkR (run E (φ 0))) (φ 0) n c 0=_) 1 ?_ (fun _ _ _ h=>h)
  -- the inner loop
  have inner:∀(k:Nat) (h2:k<c.1.length) (r:Option Dv),((∀ f∈qcp c.1[k],f∈c.1)→Ev fun φ=>Z157.l0 (mkR (run E (φ 0))) (φ 0) (φ 1) c ((k+1:Nat):Int)=r)→(¬ (∀ f∈qcp c.1[k],f∈c.1)→r=some ⟨o_Z157,(false,())⟩)→Ev fun φ=>Z157.l2 (mkR (run E (φ 0))) (φ 0) (φ 1) (φ 0) c (k:Int) c.1[k] 0=r:=fun k h2 r hgo hstop=>by
    have hks:(c.1[k]).length≤1048576:=(qb2 hc h2).1
    refine Ev.start (p:=fun φ n=>Z157.l2 (mkR (run E (φ 0))) (φ 0) (φ 1) n c (k:Int) c.1[k] 0=_) 2 ?_ (fun _ _ _ h=>h)
    by_cases hlen:1<(c.1[k]).length
    · obtain⟨t,f⟩:=qkb 2 (L:=fun φ n i=>Z157.l2 (mkR (run E (φ 0))) (φ 0) (φ 1) n c (k:Int) c.1[k] i) (len:=(c.1[k]).length) 0 (by omega) (fun i=>(c.1[k]).eraseIdx i∈c.1) (rt:=r) (rf:=some ⟨o_Z157,(false,())⟩) (fun _ _ _ _=>rfl) (fun i _ hi hP _=>by
        simp only[Z157.l2_succ _ qae]
        refine qaC (decide_eq_true (by omega)) ?_
        simp only[show decide (((c.1[k]).length:Int)>1)=true from decide_eq_true (by omega),Z157.j3_eq _ qae,cond_true]
        refine qaa (qdO _ i hi hks) (qaa (qb7 c _ hc) (qaC (decide_eq_true ?_) qal))
        have hq:=mt (qba (c:=c.1) (s:=(c.1[k]).eraseIdx i)).1 hP;simp only;exact Int.not_le.1 hq) (fun i q _ hi hP _ ih=>by
        simp only[Z157.l2_succ _ qae]
        refine qaC (decide_eq_true (by omega)) ?_
        simp only[show decide (((c.1[k]).length:Int)>1)=true from decide_eq_true (by omega),Z157.j3_eq _ qae,cond_true]
        refine qaa (qdO _ i hi hks) (qaa (qb7 c _ hc) (qaI (decide_eq_false ?_) ?_))
        · have hq:=(qba (c:=c.1) (s:=(c.1[k]).eraseIdx i)).2 hP;simp only;exact Int.not_lt.2 hq
        · rw[qad (by omega)];exact ih) (fun hall=>by
        simp only[Z157.l2_succ _ qae]
        refine qaI (decide_eq_false (by omega)) ?_
        simp only[Z157.j3_eq _ qae,cond_false]
        rw[qad (by omega)]
        exact hgo fun f hf=>by
          obtain⟨_,i,hi,rfl⟩:=qda.1 hf
          exact hall i (by omega) hi)
      by_cases hall:∀ i,0≤i→i<(c.1[k]).length→(c.1[k]).eraseIdx i∈c.1
      · exact t hall
      · rw[hstop fun hf=>hall fun i _ hi=>hf _ (qda.2 ⟨hlen,i,hi,rfl⟩)]
        exact f hall
    · refine Ev.round 2 (L:=fun φ n=>Z157.l2 (mkR (run E (φ 0))) (φ 0) (φ 1) n c (k:Int) c.1[k] 0) ?_ (fun _ _ _=>rfl)
      have hgo:=hgo fun f hf=>absurd (qda.1 hf).1 hlen
      have hj:Ev fun φ=>Z157.j3 (mkR (run E (φ 0))) (φ 0) (φ 1) (φ 2) c (k:Int) c.1[k] 0 false=r:=by
        simp only[Z157.j3_eq _ qae,cond_false]
        rw[qad (by omega)];exact hgo
      simp only[Z157.l2_succ _ qae]
      refine qee (fun _=>?_) fun _=>hj
      simp only[show decide (((c.1[k]).length:Int)>1)=false from decide_eq_false (by omega)]
      exact hj
  refine(qdN 1 (L:=fun φ n k=>Z157.l0 (mkR (run E (φ 0))) (φ 0) n c k) (len:=c.1.length) 0 (by omega) (qqL c.1) (fun b=>some ⟨o_Z157,(b,())⟩) (fun _ _ _ _=>rfl) (fun k h1 h2 hP hpre=>?_) (fun k r h1 h2 hP hpre ih=>?_) (fun _=>?_)).to ?_
  · simp only[Z157.l0_succ _ qae]
    refine qaC (decide_eq_true (by omega)) (qac (qak h2) (qaa (qfe _ (qb2 hc h2)) ?_))
    refine qbL (fun hv=>?_) fun hv=>?_
    · simp only[Z157.j1_eq _ qae,cond_true];(first | exact qal | exact Ev.of fun _=>trivial)
    · have hv:Vx c.1[k]:=qaG.1 (by simpa using hv)
      have last:(1≤k→qdP (c.1.getD (k-1) []) (c.1.getD k [])<0)→Ev fun φ=>Z157.j1 (mkR (run E (φ 0))) (φ 0) (φ 1) c (k:Int) c.1[k] false=some ⟨o_Z157,(false,())⟩:=fun hcm=>by
        simp only[Z157.j1_eq _ qae,cond_false]
        refine inner k h2 _ (fun hf=>absurd ⟨⟨by rw[qag h2];exact hv,hcm⟩,by rw[qag h2];exact hf⟩ hP) fun _=>rfl
      refine qee (fun hk=>?_) fun hk=>?_
      · rw[qaf (by omega) (by omega),show((k:Int)-1)=((k-1:Nat):Int) by omega]
        have hk1:k-1<c.1.length:=by omega
        refine qac (qak hk1) (qaa (qcS _ _ (qb2 hc hk1)) ?_)
        by_cases hcm:qdP c.1[k-1] c.1[k]<0
        · simp only[qaP hcm]
          exact last fun _=>by rw[qag hk1,qag h2];exact hcm
        · simp only[qat hcm,Z157.j1_eq _ qae,cond_true,Bool.not_false]
          (first | exact qal | exact Ev.of fun _=>trivial)
      · exact last fun h=>absurd h (by omega)
  · simp only[Z157.l0_succ _ qae]
    obtain⟨⟨hv,hcm⟩,hfc⟩:=hP
    rw[qag h2] at hv hfc
    refine qaC (decide_eq_true (by omega)) (qac (qak h2) (qaa (qfe _ (qb2 hc h2)) (qaI (by rw[qaP hv];rfl) ?_)))
    have last:Ev fun φ=>Z157.j1 (mkR (run E (φ 0))) (φ 0) (φ 1) c (k:Int) c.1[k] false=r:=by
      simp only[Z157.j1_eq _ qae,cond_false]
      exact inner k h2 _ (fun _=>ih) fun hn=>absurd hfc hn
    refine qee (fun hk=>?_) fun hk=>last
    rw[qaf (by omega) (by omega),show((k:Int)-1)=((k-1:Nat):Int) by omega]
    have hk1:k-1<c.1.length:=by omega
    have hcm:=hcm (by omega)
    rw[qag hk1,qag h2] at hcm
    refine qac (qak hk1) (qaa (qcS _ _ (qb2 hc hk1)) ?_)
    simp only[qaP hcm,Bool.not_true]
    exact last
  · simp only[Z157.l0_succ _ qae]
    exact qaI (decide_eq_false (by omega)) qal
  · have:pb (∀ j,0≤j→j<c.1.length→qqL c.1 j)=pb (VC c.1):=qaN
      ⟨fun h=>⟨by omega,fun k hk=>(h k (by omega) hk).1.1,fun k h1 hk=>(h k (by omega) hk).1.2 h1,fun k hk=>(h k (by omega) hk).2⟩,
       fun h k _ hk=>⟨⟨h.2.1 k hk,fun h1=>h.2.2.1 k h1 hk⟩,h.2.2.2 k hk⟩⟩
    rw[this]
end VeT
open Go Go.Proofs Ve
namespace VeT
def Pr(p:Int):Prop:=2≤p∧p≤251∧∀ k:Nat,2≤k→(k:Int)*k≤p→p%k≠0
theorem qfd(p:Int):Ret E n_Z18 [dI p] ⟨o_Z18,(pb (Pr p),())⟩:=by
  refine qaj ?_
  simp only[run_Z18,Z18.ev]
  refine qaa (qc3 _ _ _) (qbL (fun h=>qah ?_) fun h=>?_)
  · have h:¬ (2≤p∧p≤251):=qaY.1 (by simpa using h)
    rw[qat fun hp=>h ⟨hp.1,hp.2.1⟩]
  have hr:2≤p∧p≤251:=qaG.1 (by simpa using h)
  refine Ev.start (p:=fun φ n=>Z18.l0 (mkR (run E (φ 0))) (φ 0) n p 2=_) 1 ?_ (fun _ _ _ h=>h)
  refine qe2 1 (σ:=Nat) (L:=fun φ n k=>Z18.l0 (mkR (run E (φ 0))) (φ 0) n p (k:Int)) (fun _ _ _ _=>rfl) (fun k=>2≤k∧k≤17∧∀ j:Nat,2≤j→j<k→(j:Int)*j≤p→p%j≠0) (fun _=>_) (fun k=>17-k) (fun k ⟨h1,h2,h3⟩ ih=>?_) 2 ⟨by omega,by omega,fun j _ _=>by omega⟩
  simp only[Z18.l0_succ _ qae]
  have hkk:0≤(k:Int)*k∧(k:Int)*k≤289:=⟨Int.mul_nonneg (by omega) (by omega),by have:=Nat.mul_le_mul h2 h2;omega⟩
  have e:w64 ((k:Int)*k)=(k:Int)*k:=qaf (by omega) (by omega)
  simp only[e]
  refine qee (fun hle=>?_) fun hle=>qah ?_
  · have hk16:k<16:=Classical.byContradiction fun hn=>by
      have:=Nat.mul_le_mul (show 16≤k by omega) (show 16≤k by omega);omega
    refine qao (by simp;omega) ?_
    rw[Int.tmod_eq_emod_of_nonneg (by omega)]
    refine qbL (fun h0=>qah ?_) fun h0=>?_
    · rw[qat fun hp=>hp.2.2 k h1 hle (by simpa using h0)]
    · rw[qad (by omega)]
      refine ih (k+1) ⟨by omega,by omega,fun j hj1 hj2 hj3=>?_⟩ (by show 17-(k+1)<17-k;omega)
      by_cases hjk:j=k
      · subst hjk;simpa using h0
      · exact h3 j hj1 (by omega) hj3
  · rw[qaP]
    refine⟨hr.1,hr.2,fun j hj1 hj2=>?_⟩
    by_cases hjk:j<k
    · exact h3 j hj1 hjk hj2
    · exfalso
      have:=Nat.mul_le_mul (show k≤j by omega) (show k≤j by omega);omega
theorem qk9(p:Int):Ret E n_Z135 [dI p] ⟨o_Z135,(pb (Pr p),())⟩:=by
  refine qaj ?_
  simp only[run_Z135,Z135.ev]
  refine qaa (qch _ _ _) (qbL (fun h=>qah ?_) fun h=>?_)
  · have h:¬ (2≤p∧p≤251):=qaY.1 (by simpa using h)
    rw[qat fun hp=>h ⟨hp.1,hp.2.1⟩]
  have hr:2≤p∧p≤251:=qaG.1 (by simpa using h)
  refine Ev.start (p:=fun φ n=>Z135.l0 (mkR (run E (φ 0))) (φ 0) n p 2=_) 1 ?_ (fun _ _ _ h=>h)
  refine qe2 1 (σ:=Nat) (L:=fun φ n k=>Z135.l0 (mkR (run E (φ 0))) (φ 0) n p (k:Int)) (fun _ _ _ _=>rfl) (fun k=>2≤k∧k≤17∧∀ j:Nat,2≤j→j<k→(j:Int)*j≤p→p%j≠0) (fun _=>_) (fun k=>17-k) (fun k ⟨h1,h2,h3⟩ ih=>?_) 2 ⟨by omega,by omega,fun j _ _=>by omega⟩
  simp only[Z135.l0_succ _ qae]
  have hkk:0≤(k:Int)*k∧(k:Int)*k≤289:=⟨Int.mul_nonneg (by omega) (by omega),by have:=Nat.mul_le_mul h2 h2;omega⟩
  have e:w64 ((k:Int)*k)=(k:Int)*k:=qaf (by omega) (by omega)
  simp only[e]
  refine qee (fun hle=>?_) fun hle=>qah ?_
  · have hk16:k<16:=Classical.byContradiction fun hn=>by
      have:=Nat.mul_le_mul (show 16≤k by omega) (show 16≤k by omega);omega
    refine qao (by simp;omega) ?_
    rw[Int.tmod_eq_emod_of_nonneg (by omega)]
    refine qbL (fun h0=>qah ?_) fun h0=>?_
    · rw[qat fun hp=>hp.2.2 k h1 hle (by simpa using h0)]
    · rw[qad (by omega)]
      refine ih (k+1) ⟨by omega,by omega,fun j hj1 hj2 hj3=>?_⟩ (by show 17-(k+1)<17-k;omega)
      by_cases hjk:j=k
      · subst hjk;simpa using h0
      · exact h3 j hj1 (by omega) hj3
  · rw[qaP]
    refine⟨hr.1,hr.2,fun j hj1 hj2=>?_⟩
    by_cases hjk:j<k
    · exact h3 j hj1 hjk hj2
    · exfalso
      have:=Nat.mul_le_mul (show k≤j by omega) (show k≤j by omega);omega
theorem qdm(p:Int):Ret E n_Z124 [dI p] ⟨o_Z124,(pb (Pr p),())⟩:=by
 refine qaj ?_
 simp only[run_Z124,Z124.ev]
 exact qaa (qk9 p) qal
def qax(v:Sim)(p:Int):Prop:=∀ x∈v,0≤x∧x≤p-1
theorem qkw(a p:Int)(hp:0≤p∧p≤1048576):Ret E n_Z58 [dI a,dI p] ⟨o_Z58,(pb (0≤a∧a≤p-1),())⟩:=by
 refine qaj ?_
 simp only[run_Z58,Z58.ev]
 rw[qaf (by omega) (by omega)]
 exact qaa (qc3 _ _ _) qal
theorem qgm(a p:Int)(hp:0≤p∧p≤1048576):Ret E n_Z26 [dI a,⟨.ptr (.cons yI .nil),(p,())⟩] ⟨o_Z26,(!pb (0≤a∧a≤p-1),())⟩:=by
 refine qaj ?_
 simp only[run_Z26,Z26.ev]
 exact qaa (qkw _ _ hp) qal
theorem qjP{α:Type}{s:List α}{P:α→Prop}:(!pb (∃ x∈s,(!pb (P x))=true))=pb (∀ x∈s,P x):=qim (by
 simp only[Bool.not_eq_true',qaY]
 exact⟨fun h x hx=>Classical.byContradiction fun hn=>h ⟨x,hx,hn⟩,fun h ⟨x,hx,hn⟩=>hn (h x hx)⟩)
theorem qel(v:Sim)(p:Int)(hv:v.length≤1048576)(hp:0≤p∧p≤1048576):Ret E n_Z25 [dL v,dI p] ⟨o_Z25,(pb (qax v p),())⟩:=by
 refine qaj ?_
 simp only[run_Z25,Z25.ev]
 refine qaa (qbb v ((p,()),()) _ hv fun x _=>qgm x p hp) (qah ?_)
 simp only[qjP];rfl
theorem qdV(v:Sim)(n p:Int)(hv:v.length≤1048576)(hp:0≤p∧p≤1048576):Ret E n_Z137 [dL v,dI n,dI p] ⟨o_Z137,(pb (qax v p∧(v.length:Int)=n),())⟩:=by
  have e:w64 (p-1)=p-1:=qaf (by omega) (by omega)
  refine qaj ?_
  simp only[run_Z137,Z137.ev]
  refine Ev.start (p:=fun φ n'=>Z137.l0 (mkR (run E (φ 0))) (φ 0) n' v n p 0=_) 1 ?_ (fun _ _ _ h=>h)
  refine(qdN 1 (L:=fun φ n' k=>Z137.l0 (mkR (run E (φ 0))) (φ 0) n' v n p k) (len:=v.length) 0 (by omega) (fun j=>0≤v.getD j 0∧v.getD j 0≤p-1) (fun b=>some ⟨o_Z137,(b&&((v.length:Int)==n),())⟩) (fun _ _ _ _=>rfl) (fun k h1 h2 hP _=>?_) (fun k r h1 h2 hP _ ih=>?_) (fun _=>?_)).to ?_
  · simp only[Z137.l0_succ _ qae,e]
    rw[qag h2] at hP
    exact qaC (decide_eq_true (by omega)) (qac (qak h2) (qaa (qch _ _ _) (qaC (by rw[qat hP];rfl) qal)))
  · simp only[Z137.l0_succ _ qae,e]
    rw[qag h2] at hP
    refine qaC (decide_eq_true (by omega)) (qac (qak h2) (qaa (qch _ _ _) (qaI (by rw[qaP hP];rfl) ?_)))
    rw[qad (by omega)];exact ih
  · simp only[Z137.l0_succ _ qae]
    exact qaI (decide_eq_false (by omega)) (qah (by rw[Bool.true_and]))
  · have:(pb (∀ j,0≤j→j<v.length→0≤v.getD j 0∧v.getD j 0≤p-1)&&((v.length:Int)==n))=pb (qax v p∧(v.length:Int)=n):=qim (by
      rw[Bool.and_eq_true,qaG,beq_iff_eq]
      refine and_congr_left' ⟨fun h x hx=>?_,fun h j _ hj=>?_⟩
      · obtain⟨j,hj,rfl⟩:=List.mem_iff_getElem.1 hx
        have:=h j (by omega) hj
        rwa [qag hj] at this
      · rw[qag hj];exact h _ (List.getElem_mem hj))
    rw[this]
theorem qjv(n:Int):Ret E n_Z60 [dI n] ⟨o_Z60,(pb (0≤n∧n≤32),())⟩:=by
 refine qaj ?_
 simp only[run_Z60,Z60.ev]
 exact qaa (qc3 _ _ _) qal
theorem qen(s:Sim):Ret E n_Z77 [dL s] ⟨o_Z77,((s.length:Int),())⟩:=by
 refine qaj ?_
 simp only[run_Z77,Z77.ev]
 (first | exact qal | exact Ev.of fun _=>trivial)
theorem qlq(s:List Sim):Ret E n_Z76 [dLL s] ⟨o_Z76,((s.length:Int),())⟩:=by
 refine qaj ?_
 simp only[run_Z76,Z76.ev]
 (first | exact qal | exact Ev.of fun _=>trivial)
def VM(m:Mat):Prop:=Pr m.1∧(0≤m.2.1∧m.2.1≤32)∧(0≤m.2.2.1∧m.2.2.1≤32)∧(m.2.2.2.1.length:Int)=m.2.1*m.2.2.1∧qax m.2.2.2.1 m.1
theorem qjO{a b:Int}(ha:0≤a∧a≤32)(hb:0≤b∧b≤32):0≤a*b∧a*b≤1024:=by
 obtain⟨x,rfl⟩:=Int.eq_ofNat_of_zero_le ha.1
 obtain⟨y,rfl⟩:=Int.eq_ofNat_of_zero_le hb.1
 have:=Nat.mul_le_mul (show x≤32 by omega) (show y≤32 by omega)
 have e:(x:Int)*y=((x*y:Nat):Int):=by simp
 show 0≤(x:Int)*y∧(x:Int)*y≤1024
 rw[e];omega
theorem qiB(m:Mat)(hm:Sm (.st cM) m):Ret E n_Z17 [dI m.1,dI m.2.1,dI m.2.2.1,dL m.2.2.2.1] ⟨o_Z17,(pb (VM m),())⟩:=by
 have hl:m.2.2.2.1.length≤1048576:=hm.2.2.2.1.1
 refine qaj ?_
 simp only[run_Z17,Z17.ev]
 refine qaa (qfd _) (qbL (fun h1=>qaa (qjv _) (qbL (fun h2=>qaa (qjv _) (qbL (fun h3=>qaa (qen _) (qbL (fun h4=>?_) fun h4=>qah ?_)) fun h3=>qah ?_)) fun h2=>qah ?_)) fun h1=>qah ?_)
 ·have h1:=qaG.1 h1;have h2:=qaG.1 h2;have h3:=qaG.1 h3
  have:=qjO h2 h3
  rw[qaf (by omega) (by omega)] at h4
  refine qaa (qel _ _ hl ⟨by have:=h1.1;omega,by have:=h1.2.1;omega⟩) (qah ?_)
  exact congrArg (fun b:Bool=>some (⟨o_Z17,(b,())⟩:Dv)) (qaN ⟨fun h=>⟨h1,h2,h3,by simpa using h4,h⟩,fun h=>h.2.2.2.2⟩)
 ·have h2:=qaG.1 h2;have h3:=qaG.1 h3
  have:=qjO h2 h3
  rw[qaf (by omega) (by omega)] at h4
  rw[qat fun h=>by have:=h.2.2.2.1;simp[this] at h4]
 ·rw[qat fun h=>qaY.1 h3 h.2.2.1]
 ·rw[qat fun h=>qaY.1 h2 h.2.1]
 ·rw[qat fun h=>qaY.1 h1 h.1]
theorem qlK(m:Mat)(hm:Sm (.st cM) m):Ret E n_Z142 [dM m] ⟨o_Z142,(pb (VM m),())⟩:=by
 have hl:m.2.2.2.1.length≤1048576:=hm.2.2.2.1.1
 refine qaj ?_
 simp only[run_Z142,Z142.ev]
 refine qaa (qdm _) (qbL (fun h1=>qaa (qch _ _ _) (qbL (fun h2=>qaa (qch _ _ _) (qbL (fun h3=>?_) fun h3=>qah ?_)) fun h2=>qah ?_)) fun h1=>qah ?_)
 ·have h1:=qaG.1 h1;have h2:=qaG.1 h2;have h3:=qaG.1 h3
  have:=qjO h2 h3
  rw[qaf (by omega) (by omega)]
  refine qaa (qdV _ _ _ hl ⟨by have:=h1.1;omega,by have:=h1.2.1;omega⟩) (qah ?_)
  exact congrArg (fun b:Bool=>some (⟨o_Z142,(b,())⟩:Dv)) (qaN ⟨fun h=>⟨h1,h2,h3,h.2,h.1⟩,fun h=>⟨h.2.2.2.2,h.2.2.2.1⟩⟩)
 ·rw[qat fun h=>qaY.1 h3 h.2.2.1]
 ·rw[qat fun h=>qaY.1 h2 h.2.1]
 ·rw[qat fun h=>qaY.1 h1 h.1]
def Bt(m:Mat)(p f t:Int):Prop:=VM m∧m.1=p∧m.2.1=t∧m.2.2.1=f
theorem qf0(m:Mat)(p f t:Int)(hm:Sm (.st cM) m):Ret E n_Z55 [dI m.1,dI m.2.1,dI m.2.2.1,dL m.2.2.2.1,dI p,dI f,dI t] ⟨o_Z55,(pb (Bt m p f t),())⟩:=by
 refine qaj ?_
 simp only[run_Z55,Z55.ev]
 refine qaa (qiB m hm) (qbL (fun h1=>qbL (fun h2=>qbL (fun h3=>qah ?_) fun h3=>qah ?_) fun h2=>qah ?_) fun h1=>qah ?_)
 ·have h1:=qaG.1 h1
  have:(m.2.2.1==f)=pb (Bt m p f t):=qim (by
   rw[beq_iff_eq];exact⟨fun h=>⟨h1,by simpa using h2,by simpa using h3,h⟩,fun h=>h.2.2.2⟩)
  rw[this]
 ·rw[qat fun h=>by have:=h.2.2.1;simp[this] at h3]
 ·rw[qat fun h=>by have:=h.2.1;simp[this] at h2]
 ·rw[qat fun h=>qaY.1 h1 h.1]
def qav(c:List Sim)(d:Int)(k:Nat):List Int:=((List.range k).filter fun i=>decide (((c.getD i []).length:Int)=d+1)).map Int.ofNat
theorem qc4(c:List Sim)(d:Int)(k:Nat):qav c d (k+1)=qav c d k++if ((c.getD k []).length:Int)=d+1 then [(k:Int)] else []:=by
 unfold qav
 rw[List.range_succ,List.filter_append,List.map_append]
 congr 1
 by_cases h:((c.getD k []).length:Int)=d+1
 ·rw[if_pos h,List.filter_cons_of_pos (by simpa using h)];rfl
 ·rw[if_neg h,List.filter_cons_of_neg (by simpa using h)];rfl
theorem qbS(c:List Sim)(d:Int)(k:Nat):(qav c d k).length≤k:=by
 unfold qav
 rw[List.length_map]
 exact Nat.le_trans (List.length_filter_le _ _) (by simp)
theorem qhD{c:List Sim}{d:Int}{k:Nat}{x:Int}(h:x∈qav c d k):∃ i:Nat,x=i∧i<k:=by
 unfold qav at h
 rw[List.mem_map] at h
 obtain⟨i,hi,rfl⟩:=h
 exact⟨i,rfl,by have:=(List.mem_filter.1 hi).1;simpa using this⟩
theorem qc8(c:List Sim)(d:Int)(hc:Sm yK c)(hd:-1≤d∧d≤1048576):Ret E n_Z75 [dLL c,dI d] ⟨o_Z75,(qav c d c.length,())⟩:=by
 have hc1:c.length≤1048576:=hc.1
 have hd1:w64 (d+1)=d+1:=qaf (by omega) (by omega)
 refine qaj ?_
 simp only[run_Z75,Z75.ev]
 refine Ev.start (p:=fun φ n=>Z75.l0 (mkR (run E (φ 0))) (φ 0) n d c (c.length:Int) 0 []=_) 1 ?_ (fun _ _ _ h=>h)
 refine qan 1 (L:=fun φ n k a=>Z75.l0 (mkR (run E (φ 0))) (φ 0) n d c (c.length:Int) k a) (len:=c.length) (fun k=>qav c d k) (fun _ _ _ _ _=>rfl) (fun k r hk ih=>?_) ?_
 ·simp only[Z75.l0_succ _ qae,hd1]
  rw[qc4,qag hk] at ih
  have hlen:=qbS c d k
  refine qaC (decide_eq_true (by omega)) (qac (qak hk) (qaa (qen _) ?_))
  rw[qad (by omega)]
  refine qbL (fun he=>qao (decide_eq_true (by simp only[List.length_cons,List.length_nil];omega)) ?_) fun he=>?_
  ·rw[if_pos (by simpa using he)] at ih;exact ih
  ·rw[if_neg (by simpa using he),List.append_nil] at ih;exact ih
 ·simp only[Z75.l0_succ _ qae]
  exact qaI (decide_eq_false (by omega)) qal
theorem qlz(c:List Sim)(d:Int)(hc:Sm yK c)(hd:-1≤d∧d≤1048576):Ret E n_Z156 [dC (c,()),dI d] ⟨o_Z156,(qav c d c.length,())⟩:=by
 have hc1:c.length≤1048576:=hc.1
 have hd1:w64 (d+1)=d+1:=qaf (by omega) (by omega)
 refine qaj ?_
 simp only[run_Z156,Z156.ev]
 refine Ev.start (p:=fun φ n=>Z156.l0 (mkR (run E (φ 0))) (φ 0) n (c,()) d 0 []=_) 1 ?_ (fun _ _ _ h=>h)
 refine qan 1 (L:=fun φ n k a=>Z156.l0 (mkR (run E (φ 0))) (φ 0) n (c,()) d k a) (len:=c.length) (fun k=>qav c d k) (fun _ _ _ _ _=>rfl) (fun k r hk ih=>?_) ?_
 ·simp only[Z156.l0_succ _ qae,hd1]
  rw[qc4,qag hk] at ih
  have hlen:=qbS c d k
  refine qaC (decide_eq_true (by omega)) (qac (qak hk) ?_)
  rw[qad (by omega)]
  refine qbL (fun he=>qao (decide_eq_true (by simp only[List.length_cons,List.length_nil];omega)) ?_) fun he=>?_
  ·rw[if_pos (by simpa using he)] at ih;exact ih
  ·rw[if_neg (by simpa using he),List.append_nil] at ih;exact ih
 ·simp only[Z156.l0_succ _ qae]
  exact qaI (decide_eq_false (by omega)) qal
def qiD(c:List Sim)(st:Sim)(d:Int)(k:Nat):Int:=(((qav c d c.length).take k).map fun i=>st.getD i.toNat 0).sum
theorem qfN(c:List Sim)(st:Sim)(d:Int)(k:Nat)(h:k<(qav c d c.length).length):qiD c st d (k+1)=qiD c st d k+st.getD ((qav c d c.length)[k]).toNat 0:=by
 unfold qiD
 rw[List.take_succ_eq_append_getElem h,List.map_append,List.sum_append]
 simp
theorem qkf{c:List Sim}{st:Sim}(hst:∀ x∈st,0≤x∧x≤3)(d:Int)(k:Nat):0≤qiD c st d k∧qiD c st d k≤3*k:=by
  induction k with
  | zero=>simp[qiD]
  | succ k ih =>
    by_cases h:k<(qav c d c.length).length
    · rw[qfN _ _ _ _ h]
      have:0≤st.getD ((qav c d c.length)[k]).toNat 0∧st.getD ((qav c d c.length)[k]).toNat 0≤3:=by
        by_cases hl:((qav c d c.length)[k]).toNat<st.length
        · rw[qag hl];exact hst _ (List.getElem_mem hl)
        · rw[List.getD_eq_getElem?_getD,List.getElem?_eq_none (by omega)];simp
      omega
    · have:qiD c st d (k+1)=qiD c st d k:=by
        unfold qiD
        rw[List.take_of_length_le (by omega),List.take_of_length_le (by omega)]
      omega
theorem qcM(c:List Sim)(st:Sim)(d:Int)(p:Int)(ms:List Mat)(hc:Sm yK c)(hl:st.length=c.length)(hst:∀ x∈st,0≤x∧x≤3)(hd:-1≤d∧d≤1048576) :
  Ret E n_Z80 [dLL c,dI p,dL st,dMs ms,dI d] ⟨o_Z80,(qiD c st d (qav c d c.length).length,())⟩:=by
 have hc1:c.length≤1048576:=hc.1
 have hol:=qbS c d c.length
 refine qaj ?_
 simp only[run_Z80,Z80.ev]
 refine qaa (qc8 c d hc hd) ?_
 refine Ev.start (p:=fun φ n=>Z80.l0 (mkR (run E (φ 0))) (φ 0) n 0 (qav c d c.length) ((qav c d c.length).length:Int) 0 c p st ms=_) 1 ?_ (fun _ _ _ h=>h)
 refine qan 1 (L:=fun φ n k a=>Z80.l0 (mkR (run E (φ 0))) (φ 0) n a (qav c d c.length) ((qav c d c.length).length:Int) k c p st ms) (len:=(qav c d c.length).length) (fun k=>qiD c st d k) (fun _ _ _ _ _=>rfl) (fun k r hk ih=>?_) ?_
 ·simp only[Z80.l0_succ _ qae]
  obtain⟨i,hi,hik⟩:=qhD (List.getElem_mem hk)
  rw[qfN _ _ _ _ hk,hi,Int.toNat_natCast,qag (by omega)] at ih
  have hb:=qkf hst d k (c:=c)
  have hb2:=hst _ (List.getElem_mem (show i<st.length by omega))
  refine qaC (decide_eq_true (by omega)) (qac (qak hk) ?_)
  simp only[hi]
  refine qac (qak (by omega)) ?_
  rw[qad (by omega),qaf (by omega) (by omega)]
  exact ih
 ·simp only[Z80.l0_succ _ qae]
  exact qaI (decide_eq_false (by omega)) qal
theorem qcX(c:List Sim)(st:Sim)(d:Int)(hc:Sm yK c)(hl:st.length=c.length)(hst:∀ x∈st,0≤x∧x≤3)(hd:-1≤d∧d≤1048576) :
  Ret E n_Z175 [dC (c,()),dL st,dI d] ⟨o_Z175,(qiD c st d (qav c d c.length).length,())⟩:=by
 have hc1:c.length≤1048576:=hc.1
 have hol:=qbS c d c.length
 refine qaj ?_
 simp only[run_Z175,Z175.ev]
 refine qaa (qlz c d hc hd) ?_
 refine Ev.start (p:=fun φ n=>Z175.l0 (mkR (run E (φ 0))) (φ 0) n st (qav c d c.length) 0 0=_) 1 ?_ (fun _ _ _ h=>h)
 refine qan 1 (L:=fun φ n k a=>Z175.l0 (mkR (run E (φ 0))) (φ 0) n st (qav c d c.length) a k) (len:=(qav c d c.length).length) (fun k=>qiD c st d k) (fun _ _ _ _ _=>rfl) (fun k r hk ih=>?_) ?_
 ·simp only[Z175.l0_succ _ qae]
  obtain⟨i,hi,hik⟩:=qhD (List.getElem_mem hk)
  rw[qfN _ _ _ _ hk,hi,Int.toNat_natCast,qag (by omega)] at ih
  have hb:=qkf hst d k (c:=c)
  have hb2:=hst _ (List.getElem_mem (show i<st.length by omega))
  refine qaC (decide_eq_true (by omega)) (qac (qak hk) ?_)
  simp only[hi]
  refine qac (qak (by omega)) ?_
  rw[qad (by omega),qaf (by omega) (by omega)]
  exact ih
 ·simp only[Z175.l0_succ _ qae]
  exact qaI (decide_eq_false (by omega)) qal
end VeT
