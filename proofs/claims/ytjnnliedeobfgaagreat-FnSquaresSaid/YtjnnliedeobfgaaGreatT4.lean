import Derived.Test.YtjnnliedeobfgaaGreatT3
import Derived.Test.YtjnnliedeobfgaaGreatV2
import Derived.Shelf.SlSortCmp.Whole1
import Derived.Shelf.SlSortCmp.NoneTotal
import Derived.Ground.SlsfProg
import Derived.Test.YtjnnliedeobfgaaGreatProg
import Derived.KernelRfl
import Derived.WalkKit
import Derived.Lib.Walk
import Derived.Lib.SliceRun
import Derived.Lib.AppendZerosOnto
set_option linter.unusedVariables false
set_option linter.unusedSimpArgs false
open Go Go.Proofs Ve
set_option maxRecDepth 100000
namespace VeT
noncomputable section
abbrev q1_0(R:Run)(N:Nat):=kS R pol_Z47 10 N [1,1,0,1,0,0,1,1,1] F_Z47
abbrev q1_1(R:Run)(N:Nat):=kS R pol_Z47 11 N [1,1,1] F_Z47
abbrev q1_2(R:Run)(N:Nat):=kS R pol_Z87 12 N [1,0,1,0,0,1,1,0,0,1,1,1,1,1,0,0,1,1,0,0,1,1,0,0,1,1] F_Z87
abbrev q1_3(R:Run)(N:Nat):=kS R pol_Z87 17 N [1,0,1,0,0,1,1,0,0,1,1,1,1,1,0,0,1,1,1] F_Z87
abbrev q1_4(R:Run)(N:Nat):=kS R pol_Z87 18 N [1,0,1,0,0,1,1,1] F_Z87
abbrev q1_5(R:Run)(N:Nat):=kS R pol_Z87 19 N [1,1] F_Z87
abbrev q1_6(R:Run)(N:Nat):=kL R pol_Z47 3 N [1,1,0,1,0,0] F_Z47
abbrev q1_7(R:Run)(N:Nat):=kL R pol_Z87 11 N [1,0,1,0,0,1,1,0,0,1,1,1,1,1,0,0,1,1,0,0,1,1,0,0] F_Z87
abbrev q1_8(R:Run)(N:Nat):=kL R pol_Z87 8 N [1,0,1,0,0,1,1,0,0,1,1,1,1,1,0,0] F_Z87
abbrev q1_9(R:Run)(N:Nat):=kL R pol_Z87 2 N [1,0,1,0,0] F_Z87
abbrev q1_10(R:Run)(N:Nat):=lC R pol_Z47 6 N [1,1,0,1,0,0,1,1,0,0,1,1,0,0] F_Z47
abbrev q1_11(R:Run)(N:Nat):=lC R pol_Z47 3 N [1,1,0,1,0,0] F_Z47
abbrev q1_12(R:Run):=kB R pol_Z47 0
abbrev q1_13(R:Run):=kB R pol_Z87 0
def Z50.l1(R:Run)(N a n:Nat)(b e f g h i j k l m o p:Int)(q:List Int):Option Dv:=R.w (some ⟨(V.dead::(V.dead::(.c (.d yI b)::(.c (.d (.fn n_Z85 .nil) ())::(zd 4 (.c (.box 8 0)::(.c (.box 9 0)::(.c (.d yI e)::(zd 5 (.c (.d yI f)::(.c (.d yI g)::(V.dead::(V.dead::(.c (.d yI h)::(.c (.d yI i)::(zd 14 [])))))))))))))))),(zo 8 (some (.box [.d yI j,.d yI k,.d yI l,.nils yI] false false)::(some (.box [.d yI m,.d yI o,.d yI p,.arr 31] false false)::(zo 21 (some (.arr yI q true false false)::(zo 8 []))))))⟩) fun st=>q1_10 R N n st (kB R pol_Z47 2 (kB R pol_Z47 1 (q1_0 R N (q1_6 R N a (q1_12 R (q1_1 R N (qqQ E sg_Z47 F_Z47)))))))
def Z50.l0(R:Run)(N n:Nat)(a b e f g h i j k:Int)(l:List Int):Option Dv:=R.w (some ⟨(V.dead::(V.dead::(.c (.d yI a)::(.c (.d (.fn n_Z85 .nil) ())::(zd 4 (.c (.box 8 0)::(.c (.box 9 0)::(zd 6 (.c (.d yI b)::(.c (.d yI e)::(zd 18 []))))))))))),(zo 8 (some (.box [.d yI f,.d yI g,.d yI h,.nils yI] false false)::(some (.box [.d yI i,.d yI j,.d yI k,.arr 31] false false)::(zo 21 (some (.arr yI l true false false)::(zo 8 []))))))⟩) fun st=>q1_11 R N n st (q1_12 R (q1_1 R N (qqQ E sg_Z47 F_Z47)))
theorem Z50.l1_succ(R:Run)(hw:R.ok)(N a n:Nat)(b c d e f g h i j k l m:Int)(o:List Int):Z50.l1 R N a (n+1) b c d e f g h i j k l m o=(bif (decide (g<f)) then((qce R n_Z85 o_Z85 [⟨yI,c⟩,⟨yI,g⟩]).bind fun r24=>((chk (decide ((List.length o+List.length [r24.1])*8≤70368744177664))).bind fun _=>(Z50.l1 R N a n b c d e f (w64 (g+(1:Int))) h i j k l m (o++[r24.1])))) else(Z50.l0 R N a b d (w64 (e+(1:Int))) h i j k l m o)):=(hw _ _).trans (by kernel_rfl)
theorem Z50.l0_succ(R:Run)(hw:R.ok)(N n:Nat)(a b c d e f g h i:Int)(j:List Int):Z50.l0 R N (n+1) a b c d e f g h i j=(bif (decide (c<b)) then(Z50.l1 R N n N a c b c a (0:Int) d e f g h i j) else some ⟨o_Z47,(g,h,i,j,())⟩):=(hw _ _).trans (by kernel_rfl)
theorem Z50.ev(R:Run)(N:Nat)(a0 a1 a2:Int):qqm E R sg_Z47 pol_Z47 F_Z47 N [⟨yI,a0⟩,⟨yI,a1⟩,⟨yI,a2⟩,⟨(.fn n_Z85 .nil),()⟩]=(Z50.l0 R N N a2 a1 (0:Int) (0:Int) (0:Int) (0:Int) a0 a1 a2 ([]:List Int)):=by kernel_rfl
theorem Z84.ev(R:Run)(N:Nat)(a0 a1:Int):qqm E R sg_Z84 pol_Z84 F_Z84 N [⟨yI,a0⟩,⟨yI,a1⟩]=((qce R n_Z47 o_Z47 [⟨yI,a0⟩,⟨yI,a1⟩,⟨yI,a1⟩,⟨(.fn n_Z85 .nil),()⟩]).bind fun r1=>some ⟨o_Z84,(r1.1,r1.2.1,r1.2.2.1,r1.2.2.2.1,())⟩):=by kernel_rfl
def Z121.l0(R:Run)(N n:Nat)(a:List Int)(b e f:Int):Option Dv:=R.w (some ⟨(.c (.d yL a)::(.c (.d yI b)::(zd 5 (.c (.d yI e)::(.c (.d yI f)::(zd 10 [])))))),(zo 21 [])⟩) fun st=>lC R pol_Z121 2 N [1,0,1,0,0] F_Z121 n st (kB R pol_Z121 0 (kS R pol_Z121 7 N [1,1] F_Z121 (qqQ E sg_Z121 F_Z121)))
theorem Z121.l0_succ(R:Run)(hw:R.ok)(N n:Nat)(a:List Int)(b c d:Int):Z121.l0 R N (n+1) a b c d=(bif (decide (d<c)) then((idx? a d).bind fun y5=>(bif (b==(y5,()).1) then some ⟨o_Z121,(d,())⟩ else(Z121.l0 R N n a b c (w64 (d+(1:Int)))))) else some ⟨o_Z121,((-1:Int),())⟩):=(hw _ _).trans (by kernel_rfl)
theorem Z121.ev(R:Run)(N:Nat)(a0:List Int)(a1:Int):qqm E R sg_Z121 pol_Z121 F_Z121 N [⟨yL,a0⟩,⟨yI,a1⟩]=(Z121.l0 R N N a0 a1 (List.length a0:Int) (0:Int)):=by kernel_rfl
theorem Z16.ev(R:Run)(N:Nat)(a0 a1 a2:Int)(a3:(Int×Unit))(a4:(vK×Unit))(a5 a6:((List Int)×Unit)):qqm E R sg_Z16 pol_Z16 F_Z16 N [⟨yI,a0⟩,⟨yI,a1⟩,⟨yI,a2⟩,⟨(.ptr (.cons yI .nil)),a3⟩,⟨(.ptr yC),a4⟩,⟨(.ptr (.cons yL .nil)),a5⟩,⟨(.ptr (.cons yL .nil)),a6⟩]=(bif (decide (a1>(0:Int))) then((qce R n_Z84 o_Z84 [⟨yI,a3.1⟩,⟨yI,(1:Int)⟩]).bind fun r1=>some ⟨o_Z16,(r1.1,r1.2.1,r1.2.2.1,r1.2.2.2.1,())⟩) else((idx? a4.1 a0).bind fun y2=>((chk (decide (0≤(2:Int))&&decide ((2:Int)≤(List.length (y2,()).1:Int)))).bind fun _=>((qce R n_Z56 o_Z56 [⟨yK,a4.1⟩,⟨yL,(List.take (Int.toNat (2:Int)) (y2,()).1)⟩]).bind fun r3=>((qce R n_Z121 o_Z121 [⟨yL,a6.1⟩,⟨yI,r3.1⟩]).bind fun r4=>((idx? a5.1 r4.1).bind fun y5=>some ⟨o_Z16,(a3.1,(1:Int),(1:Int),[(y5,()).1],())⟩)))))):=by kernel_rfl
theorem Z39.ev(R:Run)(N:Nat)(a0 a1 a2:Int)(a3:List Int):qqm E R sg_Z39 pol_Z39 F_Z39 N [⟨yI,a0⟩,⟨yI,a1⟩,⟨yI,a2⟩,⟨yL,a3⟩]=((qce R n_Z96 o_Z96 [⟨yL,a3⟩]).bind fun r1=>some ⟨o_Z39,(a0,a1,a2,r1.1,())⟩):=by kernel_rfl
def Z76.l0(R:Run)(N n:Nat)(a:((Int×Unit)×(vK×Unit)×((List Int)×Unit)×((List Int)×Unit)×Unit))(b:(List (Int×Int×Int×Unit)))(e f g h:Int)(i:vN)(j:vK)(k:List Int):Option Dv:=R.w (some ⟨(zd 3 (.c (.d (.fn n_Z16 (.cons (.ptr (.cons yI .nil)) (.cons (.ptr yC) (.cons (.ptr (.cons yL .nil)) (.cons (.ptr (.cons yL .nil)) .nil))))) a)::(zd 4 (.c (.box 8 0)::(.c (.box 9 0)::(zd 10 (.c (.d (.sl (.st (.cons yI (.cons yI (.cons yI .nil))))) b)::(.c (.d yI e)::(.c (.d yI f)::(zd 14 [])))))))))),(zo 8 (some (.box [.nils yL,.d yI g,.nils yI,.nils (.st yM)] false false)::(some (.box [.arr 42,.d yI h,.arr 43,.arr 33] false false)::(zo 23 (some (.arr (.st yM) i true false false)::(zo 8 (some (.arr yL j true false false)::(some (.arr yI k true false false)::[]))))))))⟩) fun st=>lC R pol_Z73 3 N [1,1,0,1,0,0] F_Z73 n st (kB R pol_Z73 0 (kS R pol_Z73 7 N [1,1,1] F_Z73 (qqQ E sg_Z73 F_Z73)))
theorem Z76.l0_succ(R:Run)(hw:R.ok)(N n:Nat)(a:((Int×Unit)×(vK×Unit)×((List Int)×Unit)×((List Int)×Unit)×Unit))(b:(List (Int×Int×Int×Unit)))(c d e f:Int)(g:vN)(h:vK)(i:List Int):Z76.l0 R N (n+1) a b c d e f g h i=(bif (decide (d<c)) then((idx? b d).bind fun y13=>((qce R n_Z16 o_Z16 [⟨yI,y13.1⟩,⟨yI,y13.2.1⟩,⟨yI,y13.2.2.1⟩,⟨(.ptr (.cons yI .nil)),a.1⟩,⟨(.ptr yC),a.2.1⟩,⟨(.ptr (.cons yL .nil)),a.2.2.1⟩,⟨(.ptr (.cons yL .nil)),a.2.2.2.1⟩]).bind fun r14=>((qce R n_Z39 o_Z39 [⟨yI,r14.1⟩,⟨yI,r14.2.1⟩,⟨yI,r14.2.2.1⟩,⟨yL,r14.2.2.2.1⟩]).bind fun r15=>((chk (decide ((List.length g+List.length [(r15.1,r15.2.1,r15.2.2.1,r15.2.2.2.1,())])*48≤70368744177664))).bind fun _=>(Z76.l0 R N n a b c (w64 (d+(1:Int))) e f (g++[(r15.1,r15.2.1,r15.2.2.1,r15.2.2.2.1,())]) h i))))) else some ⟨o_Z73,(h,f,i,g,())⟩):=(hw _ _).trans (by kernel_rfl)
theorem Z76.ev(R:Run)(N:Nat)(a0:vK)(a1:Int)(a2:List Int)(a3:((Int×Unit)×(vK×Unit)×((List Int)×Unit)×((List Int)×Unit)×Unit)):qqm E R sg_Z73 pol_Z73 F_Z73 N [⟨yK,a0⟩,⟨yI,a1⟩,⟨yL,a2⟩,⟨(.fn n_Z16 (.cons (.ptr (.cons yI .nil)) (.cons (.ptr yC) (.cons (.ptr (.cons yL .nil)) (.cons (.ptr (.cons yL .nil)) .nil))))),a3⟩]=((qce R n_Z54 o_Z54 [⟨yK,a0⟩]).bind fun r1=>((qce R n_Z96 o_Z96 [⟨yL,a2⟩]).bind fun r2=>((qce R n_Z30 o_Z30 [⟨yK,a0⟩]).bind fun r3=>(Z76.l0 R N N a3 r3.1 (List.length r3.1:Int) (0:Int) (0:Int) a1 ([]:List vM) r1.1 r2.1)))):=by kernel_rfl
def Z14.j1(R:Run)(N:Nat)(a:Bool)(b:vK)(e:Int)(f:List Int)(g:Int)(h:List Int):Option Dv:=R.w (some ⟨(zd 3 (.c (.box 3 0)::(.c (.box 4 0)::(.c (.box 5 0)::(.c (.box 6 0)::(V.dead::(.c (.box 8 0)::(zd 21 (.c (.d .bool a)::(zd 13 [])))))))))),(zo 3 (some (.box [.d yK b] false false)::(some (.box [.d yI e] true false)::(some (.box [.d yL f] false false)::(some (.box [.nils yL,.d yI g,.nils yI,.nils (.st yM)] false false)::(none::(some (.box [.d yL h] false false)::(zo 41 []))))))))⟩) fun st=>eC R pol_Z14 N [1,1,1,0,1] F_Z14 st (kS R pol_Z14 6 N [1,1,1,1] F_Z14 (qqQ E sg_Z14 F_Z14))
def Z14.j0(R:Run)(N:Nat)(a:Bool)(b:vK)(e:Int)(f:List Int)(g:Int):Option Dv:=R.w (some ⟨(zd 3 (.c (.box 3 0)::(.c (.box 4 0)::(.c (.box 5 0)::(.c (.box 6 0)::(zd 10 (.c (.d .bool a)::(zd 26 [])))))))),(zo 3 (some (.box [.d yK b] false false)::(some (.box [.d yI e] false false)::(some (.box [.d yL f] false false)::(some (.box [.nils yL,.d yI g,.nils yI,.nils (.st yM)] false false)::(zo 43 []))))))⟩) fun st=>eC R pol_Z14 N [1,0,1] F_Z14 st (kS R pol_Z14 3 N [1,1] F_Z14 (qqQ E sg_Z14 F_Z14))
theorem Z14.j1_eq(R:Run)(hw:R.ok)(N:Nat)(a:Bool)(b:vK)(c:Int)(d:List Int)(e:Int)(f:List Int):Z14.j1 R N a b c d e f=(bif a then some ⟨o_Z14,(([]:List (List Int)),(0:Int),([]:List Int),([]:List vM),(7:Int),())⟩ else((qce R n_Z44 o_Z44 [⟨yK,b⟩,⟨yI,(1:Int)⟩]).bind fun r14=>((qce R n_Z28 o_Z28 [⟨yK,b⟩,⟨yL,r14.1⟩]).bind fun r15=>(bif (!r15.1) then some ⟨o_Z14,(([]:List (List Int)),(0:Int),([]:List Int),([]:List vM),(5:Int),())⟩ else((qce R n_Z73 o_Z73 [⟨yK,b⟩,⟨yI,c⟩,⟨yL,r14.1⟩,⟨(.fn n_Z16 (.cons (.ptr (.cons yI .nil)) (.cons (.ptr yC) (.cons (.ptr (.cons yL .nil)) (.cons (.ptr (.cons yL .nil)) .nil))))),((c,()),(b,()),(d,()),(f,()),())⟩]).bind fun r16=>some ⟨o_Z14,(r16.1,r16.2.1,r16.2.2.1,r16.2.2.2.1,(0:Int),())⟩))))):=(hw _ _).trans (by kernel_rfl)
theorem Z14.j0_eq(R:Run)(hw:R.ok)(N:Nat)(a:Bool)(b:vK)(c:Int)(d:List Int)(e:Int):Z14.j0 R N a b c d e=(bif a then some ⟨o_Z14,(([]:List (List Int)),(0:Int),([]:List Int),([]:List vM),(1:Int),())⟩ else((qce R n_Z77 o_Z77 [⟨yK,b⟩,⟨yI,(1:Int)⟩]).bind fun r7=>(bif ((List.length d:Int) != (List.length r7.1:Int)) then(Z14.j1 R N true b c d e r7.1) else((qce R n_Z102 o_Z102 [⟨yL,d⟩,⟨(.fn n_Z15 (.cons (.ptr (.cons yI .nil)) .nil)),((c,()),())⟩]).bind fun r17=>(Z14.j1 R N r17.1 b c d e r7.1))))):=(hw _ _).trans (by kernel_rfl)
theorem Z14.ev(R:Run)(N:Nat)(a0:vK)(a1:Int)(a2:List Int):qqm E R sg_Z14 pol_Z14 F_Z14 N [⟨yK,a0⟩,⟨yI,a1⟩,⟨yL,a2⟩]=((qce R n_Z17 o_Z17 [⟨yK,a0⟩]).bind fun r1=>(bif (!r1.1) then(Z14.j0 R N true a0 a1 a2 (0:Int)) else((qce R n_Z20 o_Z20 [⟨yI,a1⟩]).bind fun r24=>(Z14.j0 R N (!r24.1) a0 a1 a2 (0:Int))))):=by kernel_rfl
theorem Z7.ev(R:Run)(N:Nat)(a0 a1 a2:Int)(a3 a4:(Int×Unit)):qqm E R sg_Z7 pol_Z7 F_Z7 N [⟨yI,a0⟩,⟨yI,a1⟩,⟨yI,a2⟩,⟨(.ptr (.cons yI .nil)),a3⟩,⟨(.ptr (.cons yI .nil)),a4⟩]=((qce R n_Z84 o_Z84 [⟨yI,a3.1⟩,⟨yI,a4.1⟩]).bind fun r1=>some ⟨o_Z7,(r1.1,r1.2.1,r1.2.2.1,r1.2.2.2.1,())⟩):=by kernel_rfl
def Z74.l0(R:Run)(N n:Nat)(a:((Int×Unit)×(Int×Unit)×Unit))(b:(List (Int×Int×Int×Unit)))(e f g h:Int)(i:vN)(j:vK)(k:List Int):Option Dv:=R.w (some ⟨(zd 3 (.c (.d (.fn n_Z7 (.cons (.ptr (.cons yI .nil)) (.cons (.ptr (.cons yI .nil)) .nil))) a)::(zd 4 (.c (.box 8 0)::(.c (.box 9 0)::(zd 10 (.c (.d (.sl (.st (.cons yI (.cons yI (.cons yI .nil))))) b)::(.c (.d yI e)::(.c (.d yI f)::(zd 14 [])))))))))),(zo 8 (some (.box [.nils yL,.d yI g,.nils yI,.nils (.st yM)] false false)::(some (.box [.arr 42,.d yI h,.arr 43,.arr 33] false false)::(zo 23 (some (.arr (.st yM) i true false false)::(zo 8 (some (.arr yL j true false false)::(some (.arr yI k true false false)::[]))))))))⟩) fun st=>lC R pol_Z73 3 N [1,1,0,1,0,0] F_Z73 n st (kB R pol_Z73 0 (kS R pol_Z73 7 N [1,1,1] F_Z73 (qqQ E sg_Z73 F_Z73)))
theorem Z74.l0_succ(R:Run)(hw:R.ok)(N n:Nat)(a:((Int×Unit)×(Int×Unit)×Unit))(b:(List (Int×Int×Int×Unit)))(c d e f:Int)(g:vN)(h:vK)(i:List Int):Z74.l0 R N (n+1) a b c d e f g h i=(bif (decide (d<c)) then((idx? b d).bind fun y13=>((qce R n_Z7 o_Z7 [⟨yI,y13.1⟩,⟨yI,y13.2.1⟩,⟨yI,y13.2.2.1⟩,⟨(.ptr (.cons yI .nil)),a.1⟩,⟨(.ptr (.cons yI .nil)),a.2.1⟩]).bind fun r14=>((qce R n_Z39 o_Z39 [⟨yI,r14.1⟩,⟨yI,r14.2.1⟩,⟨yI,r14.2.2.1⟩,⟨yL,r14.2.2.2.1⟩]).bind fun r15=>((chk (decide ((List.length g+List.length [(r15.1,r15.2.1,r15.2.2.1,r15.2.2.2.1,())])*48≤70368744177664))).bind fun _=>(Z74.l0 R N n a b c (w64 (d+(1:Int))) e f (g++[(r15.1,r15.2.1,r15.2.2.1,r15.2.2.2.1,())]) h i))))) else some ⟨o_Z73,(h,f,i,g,())⟩):=(hw _ _).trans (by kernel_rfl)
theorem Z74.ev(R:Run)(N:Nat)(a0:vK)(a1:Int)(a2:List Int)(a3:((Int×Unit)×(Int×Unit)×Unit)):qqm E R sg_Z73 pol_Z73 F_Z73 N [⟨yK,a0⟩,⟨yI,a1⟩,⟨yL,a2⟩,⟨(.fn n_Z7 (.cons (.ptr (.cons yI .nil)) (.cons (.ptr (.cons yI .nil)) .nil))),a3⟩]=((qce R n_Z54 o_Z54 [⟨yK,a0⟩]).bind fun r1=>((qce R n_Z96 o_Z96 [⟨yL,a2⟩]).bind fun r2=>((qce R n_Z30 o_Z30 [⟨yK,a0⟩]).bind fun r3=>(Z74.l0 R N N a3 r3.1 (List.length r3.1:Int) (0:Int) (0:Int) a1 ([]:List vM) r1.1 r2.1)))):=by kernel_rfl
def Z6.j0(R:Run)(N:Nat)(a:Bool)(b:vK)(e f g:Int):Option Dv:=R.w (some ⟨(zd 3 (.c (.box 3 0)::(.c (.box 4 0)::(.c (.box 5 0)::(.c (.box 6 0)::(V.dead::(.c (.d .bool a)::(zd 29 [])))))))),(zo 3 (some (.box [.d yK b] false false)::(some (.box [.d yI e] false false)::(some (.box [.d yI f] false false)::(some (.box [.nils yL,.d yI g,.nils yI,.nils (.st yM)] false false)::(zo 37 []))))))⟩) fun st=>eC R pol_Z6 N [1,0,0,1] F_Z6 st (kB R pol_Z6 0 (kS R pol_Z6 7 N [1,1] F_Z6 (qqQ E sg_Z6 F_Z6)))
theorem Z6.j0_eq(R:Run)(hw:R.ok)(N:Nat)(a:Bool)(b:vK)(c d e:Int):Z6.j0 R N a b c d e=(bif a then some ⟨o_Z6,(([]:List (List Int)),(0:Int),([]:List Int),([]:List vM),(1:Int),())⟩ else((qce R n_Z86 o_Z86 [⟨yI,d⟩,⟨yI,(0:Int)⟩,⟨yI,(3:Int)⟩]).bind fun r7=>(bif (!r7.1) then some ⟨o_Z6,(([]:List (List Int)),(0:Int),([]:List Int),([]:List vM),(2:Int),())⟩ else((qce R n_Z44 o_Z44 [⟨yK,b⟩,⟨yI,d⟩]).bind fun r8=>((qce R n_Z28 o_Z28 [⟨yK,b⟩,⟨yL,r8.1⟩]).bind fun r9=>(bif (!r9.1) then some ⟨o_Z6,(([]:List (List Int)),(0:Int),([]:List Int),([]:List vM),(5:Int),())⟩ else(qn5 ((qce R n_Z44 o_Z44 [⟨yK,b⟩,⟨yI,d⟩]).bind fun r10=>((qce R n_Z73 o_Z73 [⟨yK,b⟩,⟨yI,c⟩,⟨yL,r10.1⟩,⟨(.fn n_Z7 (.cons (.ptr (.cons yI .nil)) (.cons (.ptr (.cons yI .nil)) .nil))),((c,()),(d,()),())⟩]).bind fun r11=>some ⟨o_Z6,(r11.1,r11.2.1,r11.2.2.1,r11.2.2.2.1,(0:Int),())⟩)) ((qce R n_Z44 o_Z44 [⟨yK,b⟩,⟨yI,d⟩]).bind fun r12=>((qce R n_Z73 o_Z73 [⟨yK,b⟩,⟨yI,c⟩,⟨yL,r12.1⟩,⟨(.fn n_Z7 (.cons (.ptr (.cons yI .nil)) (.cons (.ptr (.cons yI .nil)) .nil))),((c,()),(d,()),())⟩]).bind fun r13=>some ⟨o_Z6,(r13.1,r13.2.1,r13.2.2.1,r13.2.2.2.1,(0:Int),())⟩))))))))):=(hw _ _).trans (by kernel_rfl)
theorem Z6.ev(R:Run)(N:Nat)(a0:vK)(a1 a2:Int):qqm E R sg_Z6 pol_Z6 F_Z6 N [⟨yK,a0⟩,⟨yI,a1⟩,⟨yI,a2⟩]=((qce R n_Z17 o_Z17 [⟨yK,a0⟩]).bind fun r1=>(bif (!r1.1) then(Z6.j0 R N true a0 a1 a2 (0:Int)) else((qce R n_Z20 o_Z20 [⟨yI,a1⟩]).bind fun r14=>(Z6.j0 R N (!r14.1) a0 a1 a2 (0:Int))))):=by kernel_rfl
theorem Z61.ev(R:Run)(N:Nat)(a0:Int):qqm E R sg_Z61 pol_Z61 F_Z61 N [⟨yI,a0⟩]=((qce R n_Z86 o_Z86 [⟨yI,a0⟩,⟨yI,(0:Int)⟩,⟨yI,(32:Int)⟩]).bind fun r1=>some ⟨o_Z61,(r1.1,())⟩):=by kernel_rfl
theorem Z59.ev(R:Run)(N:Nat)(a0 a1:Int):qqm E R sg_Z59 pol_Z59 F_Z59 N [⟨yI,a0⟩,⟨yI,a1⟩]=((qce R n_Z86 o_Z86 [⟨yI,a0⟩,⟨yI,(0:Int)⟩,⟨yI,(w64 (a1-(1:Int)))⟩]).bind fun r1=>some ⟨o_Z59,(r1.1,())⟩):=by kernel_rfl
theorem Z27.ev(R:Run)(N:Nat)(a0:Int)(a1:(Int×Unit)):qqm E R sg_Z27 pol_Z27 F_Z27 N [⟨yI,a0⟩,⟨(.ptr (.cons yI .nil)),a1⟩]=((qce R n_Z59 o_Z59 [⟨yI,a0⟩,⟨yI,a1.1⟩]).bind fun r1=>some ⟨o_Z27,((!r1.1),())⟩):=by kernel_rfl
def Z117.l0(R:Run)(N n:Nat)(a:List Int)(b:((Int×Unit)×Unit))(e f:Int):Option Dv:=R.w (some ⟨(.c (.d yL a)::(.c (.d (.fn n_Z27 (.cons (.ptr (.cons yI .nil)) .nil)) b)::(zd 5 (.c (.d yI e)::(.c (.d yI f)::(zd 10 [])))))),(zo 21 [])⟩) fun st=>lC R pol_Z114 2 N [1,0,1,0,0] F_Z114 n st (kB R pol_Z114 0 (kS R pol_Z114 7 N [1,1] F_Z114 (qqQ E sg_Z114 F_Z114)))
theorem Z117.l0_succ(R:Run)(hw:R.ok)(N n:Nat)(a:List Int)(b:((Int×Unit)×Unit))(c d:Int):Z117.l0 R N (n+1) a b c d=(bif (decide (d<c)) then((idx? a d).bind fun y5=>((qce R n_Z27 o_Z27 [⟨yI,(y5,()).1⟩,⟨(.ptr (.cons yI .nil)),b.1⟩]).bind fun r6=>(bif r6.1 then some ⟨o_Z114,(d,())⟩ else(Z117.l0 R N n a b c (w64 (d+(1:Int))))))) else some ⟨o_Z114,((-1:Int),())⟩):=(hw _ _).trans (by kernel_rfl)
theorem Z117.ev(R:Run)(N:Nat)(a0:List Int)(a1:((Int×Unit)×Unit)):qqm E R sg_Z114 pol_Z114 F_Z114 N [⟨yL,a0⟩,⟨(.fn n_Z27 (.cons (.ptr (.cons yI .nil)) .nil)),a1⟩]=(Z117.l0 R N N a0 a1 (List.length a0:Int) (0:Int)):=by kernel_rfl
theorem Z105.ev(R:Run)(N:Nat)(a0:List Int)(a1:((Int×Unit)×Unit)):qqm E R sg_Z102 pol_Z102 F_Z102 N [⟨yL,a0⟩,⟨(.fn n_Z27 (.cons (.ptr (.cons yI .nil)) .nil)),a1⟩]=((qce R n_Z114 o_Z114 [⟨yL,a0⟩,⟨(.fn n_Z27 (.cons (.ptr (.cons yI .nil)) .nil)),a1⟩]).bind fun r1=>some ⟨o_Z102,((decide (r1.1≥(0:Int))),())⟩):=by kernel_rfl
theorem Z26.ev(R:Run)(N:Nat)(a0:List Int)(a1:Int):qqm E R sg_Z26 pol_Z26 F_Z26 N [⟨yL,a0⟩,⟨yI,a1⟩]=((qce R n_Z102 o_Z102 [⟨yL,a0⟩,⟨(.fn n_Z27 (.cons (.ptr (.cons yI .nil)) .nil)),((a1,()),())⟩]).bind fun r1=>some ⟨o_Z26,((!r1.1),())⟩):=by kernel_rfl
theorem Z19.ev(R:Run)(N:Nat)(a0 a1 a2:Int)(a3:List Int):qqm E R sg_Z19 pol_Z19 F_Z19 N [⟨yI,a0⟩,⟨yI,a1⟩,⟨yI,a2⟩,⟨yL,a3⟩]=((qce R n_Z20 o_Z20 [⟨yI,a0⟩]).bind fun r1=>(bif r1.1 then((qce R n_Z61 o_Z61 [⟨yI,a1⟩]).bind fun r2=>(bif r2.1 then((qce R n_Z61 o_Z61 [⟨yI,a2⟩]).bind fun r3=>(bif r3.1 then((qce R n_Z79 o_Z79 [⟨yL,a3⟩]).bind fun r4=>(bif (r4.1==(w64 (a1*a2))) then((qce R n_Z26 o_Z26 [⟨yL,a3⟩,⟨yI,a0⟩]).bind fun r5=>some ⟨o_Z19,(r5.1,())⟩) else some ⟨o_Z19,(false,())⟩)) else some ⟨o_Z19,(false,())⟩)) else some ⟨o_Z19,(false,())⟩)) else some ⟨o_Z19,(false,())⟩)):=by kernel_rfl
theorem Z58.ev(R:Run)(N:Nat)(a0 a1 a2:Int)(a3:List Int)(a4 a5 a6:Int):qqm E R sg_Z58 pol_Z58 F_Z58 N [⟨yI,a0⟩,⟨yI,a1⟩,⟨yI,a2⟩,⟨yL,a3⟩,⟨yI,a4⟩,⟨yI,a5⟩,⟨yI,a6⟩]=((qce R n_Z19 o_Z19 [⟨yI,a0⟩,⟨yI,a1⟩,⟨yI,a2⟩,⟨yL,a3⟩]).bind fun r1=>(bif r1.1 then(bif (a0==a4) then(bif (a1==a6) then some ⟨o_Z58,((a2==a5),())⟩ else some ⟨o_Z58,(false,())⟩) else some ⟨o_Z58,(false,())⟩) else some ⟨o_Z58,(false,())⟩)):=by kernel_rfl
def Z21.j2(R:Run)(N a:Nat)(b e:(List (Int×Int×Int×Unit)))(f g:Int)(h:Bool)(i:vK)(j:Int)(k:List Int)(l:vN):Option Dv:=R.w (some ⟨(V.dead::(.c (.box 1 0)::(V.dead::(.c (.d (.sl (.st (.cons yI (.cons yI (.cons yI .nil))))) b)::(zd 23 (.c (.d (.sl (.st (.cons yI (.cons yI (.cons yI .nil))))) e)::(.c (.d yI f)::(.c (.d yI g)::(zd 31 (.c (.d .bool h)::(zd 7 []))))))))))),(none::(some (.box [.d yK i,.d yI j,.d yL k,.d yN l] false false)::(zo 71 [])))⟩) fun st=>eC R pol_Z21 N [1,1,1,0,1,0,0,1,1,0,0,1,1] F_Z21 st (kB R pol_Z21 1 (kS R pol_Z21 9 N [1,1,1,0,1,0,0,1,1,1] F_Z21 (kL R pol_Z21 5 N [1,1,1,0,1,0,0] F_Z21 a (kB R pol_Z21 0 (kS R pol_Z21 10 N [1,1,1,1] F_Z21 (qqQ E sg_Z21 F_Z21))))))
def Z21.l1(R:Run)(N n:Nat)(a b:(List (Int×Int×Int×Unit)))(e f:Int)(g:vK)(h:Int)(i:List Int)(j:vN):Option Dv:=R.w (some ⟨(V.dead::(.c (.box 1 0)::(V.dead::(.c (.d (.sl (.st (.cons yI (.cons yI (.cons yI .nil))))) a)::(zd 23 (.c (.d (.sl (.st (.cons yI (.cons yI (.cons yI .nil))))) b)::(.c (.d yI e)::(.c (.d yI f)::(zd 39 []))))))))),(none::(some (.box [.d yK g,.d yI h,.d yL i,.d yN j] false false)::(zo 71 [])))⟩) fun st=>lC R pol_Z21 5 N [1,1,1,0,1,0,0] F_Z21 n st (kB R pol_Z21 0 (kS R pol_Z21 10 N [1,1,1,1] F_Z21 (qqQ E sg_Z21 F_Z21)))
def Z21.j0(R:Run)(N:Nat)(a:Bool)(b:vK)(e:Int)(f:List Int)(g:vN):Option Dv:=R.w (some ⟨(V.dead::(.c (.box 1 0)::(zd 21 (.c (.d .bool a)::(zd 45 []))))),(none::(some (.box [.d yK b,.d yI e,.d yL f,.d yN g] false false)::(zo 71 [])))⟩) fun st=>eC R pol_Z21 N [1,0,1] F_Z21 st (kS R pol_Z21 3 N [1,1] F_Z21 (qqQ E sg_Z21 F_Z21))
theorem Z21.j2_eq(R:Run)(hw:R.ok)(N a:Nat)(b c:(List (Int×Int×Int×Unit)))(d e:Int)(f:Bool)(g:vK)(h:Int)(i:List Int)(j:vN):Z21.j2 R N a b c d e f g h i j=(bif f then some ⟨o_Z21,(false,())⟩ else(Z21.l1 R N a b c d (w64 (e+(1:Int))) g h i j)):=(hw _ _).trans (by kernel_rfl)
theorem Z21.l1_succ(R:Run)(hw:R.ok)(N n:Nat)(a b:(List (Int×Int×Int×Unit)))(c d:Int)(e:vK)(f:Int)(g:List Int)(h:vN):Z21.l1 R N (n+1) a b c d e f g h=(bif (decide (d<c)) then((idx? b d).bind fun y16=>(bif (decide (d≥(List.length h:Int))) then(Z21.j2 R N n a b c d true e f g h) else((idx? h d).bind fun y34=>((idx? g y16.2.2.1).bind fun y35=>((idx? g y16.1).bind fun y36=>((qce R n_Z58 o_Z58 [⟨yI,y34.1⟩,⟨yI,y34.2.1⟩,⟨yI,y34.2.2.1⟩,⟨yL,y34.2.2.2.1⟩,⟨yI,f⟩,⟨yI,(y35,()).1⟩,⟨yI,(y36,()).1⟩]).bind fun r37=>(Z21.j2 R N n a b c d (!r37.1) e f g h))))))) else some ⟨o_Z21,(((List.length a:Int)==(List.length h:Int)),())⟩):=(hw _ _).trans (by kernel_rfl)
theorem Z21.j0_eq(R:Run)(hw:R.ok)(N:Nat)(a:Bool)(b:vK)(c:Int)(d:List Int)(e:vN):Z21.j0 R N a b c d e=(bif a then some ⟨o_Z21,(false,())⟩ else((qce R n_Z30 o_Z30 [⟨yK,b⟩]).bind fun r7=>(Z21.l1 R N N r7.1 r7.1 (List.length r7.1:Int) (0:Int) b c d e))):=(hw _ _).trans (by kernel_rfl)
theorem Z21.ev(R:Run)(N:Nat)(a0:vK)(a1:Int)(a2:List Int)(a3:vN):qqm E R sg_Z21 pol_Z21 F_Z21 N [⟨yK,a0⟩,⟨yI,a1⟩,⟨yL,a2⟩,⟨yN,a3⟩]=((qce R n_Z17 o_Z17 [⟨yK,a0⟩]).bind fun r1=>(bif (!r1.1) then(Z21.j0 R N true a0 a1 a2 a3) else((qce R n_Z20 o_Z20 [⟨yI,a1⟩]).bind fun r47=>(bif (!r47.1) then(Z21.j0 R N true a0 a1 a2 a3) else((qce R n_Z28 o_Z28 [⟨yK,a0⟩,⟨yL,a2⟩]).bind fun r53=>(Z21.j0 R N (!r53.1) a0 a1 a2 a3)))))):=by kernel_rfl
def Z53.l0(R:Run)(N n:Nat)(a:Int)(b:vK)(e f:Int):Option Dv:=R.w (some ⟨(zd 5 (.c (.d yI a)::(zd 6 (.c (.d yK b)::(.c (.d yI e)::(.c (.d yI f)::(zd 12 []))))))),(zo 32 [])⟩) fun st=>lC R pol_Z53 3 N [1,1,0,1,0,0] F_Z53 n st (kB R pol_Z53 0 (kS R pol_Z53 8 N [1,1,1] F_Z53 (qqQ E sg_Z53 F_Z53)))
theorem Z53.l0_succ(R:Run)(hw:R.ok)(N n:Nat)(a:Int)(b:vK)(c d:Int):Z53.l0 R N (n+1) a b c d=(bif (decide (d<c)) then((idx? b d).bind fun y5=>(bif (decide ((List.length (y5,()).1:Int)>(1:Int))) then((qce R n_Z79 o_Z79 [⟨yL,(y5,()).1⟩]).bind fun r6=>(Z53.l0 R N n (w64 (a+r6.1)) b c (w64 (d+(1:Int))))) else(Z53.l0 R N n a b c (w64 (d+(1:Int)))))) else some ⟨o_Z53,(a,())⟩):=(hw _ _).trans (by kernel_rfl)
theorem Z53.ev(R:Run)(N:Nat)(a0:vK)(a1:Int)(a2:List Int)(a3:vN)(a4:Int):qqm E R sg_Z53 pol_Z53 F_Z53 N [⟨yK,a0⟩,⟨yI,a1⟩,⟨yL,a2⟩,⟨yN,a3⟩,⟨yI,a4⟩]=((chk (decide (0≤a4)&&decide (a4≤(List.length a0:Int)))).bind fun _=>(Z53.l0 R N N (0:Int) (List.take (Int.toNat a4) a0) (List.length (List.take (Int.toNat a4) a0):Int) (0:Int))):=by kernel_rfl
theorem Z40.ev(R:Run)(N:Nat)(a0:vK)(a1:Int)(a2:List Int)(a3:vN)(a4 a5:Int):qqm E R sg_Z40 pol_Z40 F_Z40 N [⟨yK,a0⟩,⟨yI,a1⟩,⟨yL,a2⟩,⟨yN,a3⟩,⟨yI,a4⟩,⟨yI,a5⟩]=((qce R n_Z53 o_Z53 [⟨yK,a0⟩,⟨yI,a1⟩,⟨yL,a2⟩,⟨yN,a3⟩,⟨yI,a4⟩]).bind fun r1=>((idx? a3 (w64 (r1.1+a5))).bind fun y2=>some ⟨o_Z40,(y2.1,y2.2.1,y2.2.2.1,y2.2.2.2.1,())⟩)):=by kernel_rfl
theorem Z9.ev(R:Run)(N:Nat)(a0 a1 a2:Int)(a3:List Int)(a4 a5:Int):qqm E R sg_Z9 pol_Z9 F_Z9 N [⟨yI,a0⟩,⟨yI,a1⟩,⟨yI,a2⟩,⟨yL,a3⟩,⟨yI,a4⟩,⟨yI,a5⟩]=((idx? a3 (w64 ((w64 (a4*a2))+a5))).bind fun y1=>some ⟨o_Z9,((y1,()).1,())⟩):=by kernel_rfl
theorem Z83.ev(R:Run)(N:Nat)(a0 a1:Int)(a2:vM):qqm E R sg_Z83 pol_Z83 F_Z83 N [⟨yI,a0⟩,⟨yI,a1⟩,⟨(.ptr yM),a2⟩]=((qce R n_Z9 o_Z9 [⟨yI,a2.1⟩,⟨yI,a2.2.1⟩,⟨yI,a2.2.2.1⟩,⟨yL,a2.2.2.2.1⟩,⟨yI,a1⟩,⟨yI,a0⟩]).bind fun r1=>some ⟨o_Z83,(r1.1,())⟩):=by kernel_rfl
def Z49.l1(R:Run)(N a n:Nat)(b:Int)(e:(vM×Unit))(f g h i j k l m o p q:Int)(r:List Int):Option Dv:=R.w (some ⟨(V.dead::(V.dead::(.c (.d yI b)::(.c (.d (.fn n_Z83 (.cons (.ptr yM) .nil)) e)::(zd 4 (.c (.box 8 0)::(.c (.box 9 0)::(.c (.d yI f)::(zd 5 (.c (.d yI g)::(.c (.d yI h)::(V.dead::(V.dead::(.c (.d yI i)::(.c (.d yI j)::(zd 14 [])))))))))))))))),(zo 8 (some (.box [.d yI k,.d yI l,.d yI m,.nils yI] false false)::(some (.box [.d yI o,.d yI p,.d yI q,.arr 31] false false)::(zo 21 (some (.arr yI r true false false)::(zo 8 []))))))⟩) fun st=>q1_10 R N n st (kB R pol_Z47 2 (kB R pol_Z47 1 (q1_0 R N (q1_6 R N a (q1_12 R (q1_1 R N (qqQ E sg_Z47 F_Z47)))))))
def Z49.l0(R:Run)(N n:Nat)(a:Int)(b:(vM×Unit))(e f g h i j k l:Int)(m:List Int):Option Dv:=R.w (some ⟨(V.dead::(V.dead::(.c (.d yI a)::(.c (.d (.fn n_Z83 (.cons (.ptr yM) .nil)) b)::(zd 4 (.c (.box 8 0)::(.c (.box 9 0)::(zd 6 (.c (.d yI e)::(.c (.d yI f)::(zd 18 []))))))))))),(zo 8 (some (.box [.d yI g,.d yI h,.d yI i,.nils yI] false false)::(some (.box [.d yI j,.d yI k,.d yI l,.arr 31] false false)::(zo 21 (some (.arr yI m true false false)::(zo 8 []))))))⟩) fun st=>q1_11 R N n st (q1_12 R (q1_1 R N (qqQ E sg_Z47 F_Z47)))
theorem Z49.l1_succ(R:Run)(hw:R.ok)(N a n:Nat)(b:Int)(c:(vM×Unit))(d e f g h i j k l m o:Int)(p:List Int):Z49.l1 R N a (n+1) b c d e f g h i j k l m o p=(bif (decide (h<g)) then((qce R n_Z83 o_Z83 [⟨yI,d⟩,⟨yI,h⟩,⟨(.ptr yM),c.1⟩]).bind fun r26=>((chk (decide ((List.length p+List.length [r26.1])*8≤70368744177664))).bind fun _=>(Z49.l1 R N a n b c d e f g (w64 (h+(1:Int))) i j k l m o (p++[r26.1])))) else(Z49.l0 R N a b c e (w64 (f+(1:Int))) i j k l m o p)):=(hw _ _).trans (by kernel_rfl)
theorem Z49.l0_succ(R:Run)(hw:R.ok)(N n:Nat)(a:Int)(b:(vM×Unit))(c d e f g h i j:Int)(k:List Int):Z49.l0 R N (n+1) a b c d e f g h i j k=(bif (decide (d<c)) then(Z49.l1 R N n N a b d c d a (0:Int) e f g h i j k) else some ⟨o_Z47,(h,i,j,k,())⟩):=(hw _ _).trans (by kernel_rfl)
theorem Z49.ev(R:Run)(N:Nat)(a0 a1 a2:Int)(a3:(vM×Unit)):qqm E R sg_Z47 pol_Z47 F_Z47 N [⟨yI,a0⟩,⟨yI,a1⟩,⟨yI,a2⟩,⟨(.fn n_Z83 (.cons (.ptr yM) .nil)),a3⟩]=(Z49.l0 R N N a2 a3 a1 (0:Int) (0:Int) (0:Int) (0:Int) a0 a1 a2 ([]:List Int)):=by kernel_rfl
theorem Z82.ev(R:Run)(N:Nat)(a0 a1 a2:Int)(a3:List Int):qqm E R sg_Z82 pol_Z82 F_Z82 N [⟨yI,a0⟩,⟨yI,a1⟩,⟨yI,a2⟩,⟨yL,a3⟩]=((qce R n_Z47 o_Z47 [⟨yI,a0⟩,⟨yI,a2⟩,⟨yI,a1⟩,⟨(.fn n_Z83 (.cons (.ptr yM) .nil)),((a0,a1,a2,a3,()),())⟩]).bind fun r1=>some ⟨o_Z82,(r1.1,r1.2.1,r1.2.2.1,r1.2.2.2.1,())⟩):=by kernel_rfl
theorem Z10.ev(R:Run)(N:Nat)(a0 a1 a2:Int)(a3:List Int)(a4:Int):qqm E R sg_Z10 pol_Z10 F_Z10 N [⟨yI,a0⟩,⟨yI,a1⟩,⟨yI,a2⟩,⟨yL,a3⟩,⟨yI,a4⟩]=((chk (decide (0≤(w64 (a4*a2)))&&decide ((w64 (a4*a2))≤(w64 ((w64 (a4+(1:Int)))*a2)))&&decide ((w64 ((w64 (a4+(1:Int)))*a2))≤(List.length a3:Int)))).bind fun _=>some ⟨o_Z10,((List.drop (Int.toNat (w64 (a4*a2))) (List.take (Int.toNat (w64 ((w64 (a4+(1:Int)))*a2))) a3)),())⟩):=by kernel_rfl
def Z72.l0(R:Run)(N n:Nat)(a b e f g:Int)(h:List Int)(i:vK):Option Dv:=R.w (some ⟨(V.dead::(.c (.box 1 0)::(V.dead::(.c (.arr 16)::(V.dead::(V.dead::(.c (.d yI a)::(.c (.d yI b)::(zd 11 []))))))))),(none::(some (.box [.d yI e,.d yI f,.d yI g,.d yL h] false false)::(zo 14 (some (.arr yL i true false false)::(zo 7 [])))))⟩) fun st=>lC R pol_Z72 3 N [1,1,0,1,0,0] F_Z72 n st (kB R pol_Z72 0 (kS R pol_Z72 7 N [1,1,1] F_Z72 (qqQ E sg_Z72 F_Z72)))
theorem Z72.l0_succ(R:Run)(hw:R.ok)(N n:Nat)(a b c d e:Int)(f:List Int)(g:vK):Z72.l0 R N (n+1) a b c d e f g=(bif (decide (b<a)) then((qce R n_Z10 o_Z10 [⟨yI,c⟩,⟨yI,d⟩,⟨yI,e⟩,⟨yL,f⟩,⟨yI,b⟩]).bind fun r8=>((qce R n_Z96 o_Z96 [⟨yL,r8.1⟩]).bind fun r9=>((chk (decide ((List.length g+List.length [r9.1])*24≤70368744177664))).bind fun _=>(Z72.l0 R N n a (w64 (b+(1:Int))) c d e f (g++[r9.1]))))) else some ⟨o_Z72,(g,())⟩):=(hw _ _).trans (by kernel_rfl)
theorem Z72.ev(R:Run)(N:Nat)(a0 a1 a2:Int)(a3:List Int):qqm E R sg_Z72 pol_Z72 F_Z72 N [⟨yI,a0⟩,⟨yI,a1⟩,⟨yI,a2⟩,⟨yL,a3⟩]=(Z72.l0 R N N a1 (0:Int) a0 a1 a2 a3 ([]:List (List Int))):=by kernel_rfl
theorem Z34.ev(R:Run)(N:Nat)(a0 a1 a2:Int)(a3:List Int):qqm E R sg_Z34 pol_Z34 F_Z34 N [⟨yI,a0⟩,⟨yI,a1⟩,⟨yI,a2⟩,⟨yL,a3⟩]=((qce R n_Z82 o_Z82 [⟨yI,a0⟩,⟨yI,a1⟩,⟨yI,a2⟩,⟨yL,a3⟩]).bind fun r1=>((qce R n_Z72 o_Z72 [⟨yI,r1.1⟩,⟨yI,r1.2.1⟩,⟨yI,r1.2.2.1⟩,⟨yL,r1.2.2.2.1⟩]).bind fun r2=>some ⟨o_Z34,(r2.1,())⟩)):=by kernel_rfl
def Z41.l0(R:Run)(N n:Nat)(a b:List Int)(e f g h:Int):Option Dv:=R.w (some ⟨(.c (.d yL a)::(.c (.d yL b)::(.c (.d yI e)::(zd 4 (.c (.d yI f)::(V.dead::(V.dead::(.c (.d yI g)::(.c (.d yI h)::(zd 17 [])))))))))),(zo 32 [])⟩) fun st=>lC R pol_Z41 3 N [1,1,0,1,0,0] F_Z41 n st (kB R pol_Z41 0 (kS R pol_Z41 7 N [1,1,1] F_Z41 (qqQ E sg_Z41 F_Z41)))
theorem Z41.l0_succ(R:Run)(hw:R.ok)(N n:Nat)(a b:List Int)(c d e f:Int):Z41.l0 R N (n+1) a b c d e f=(bif (decide (f<e)) then((idx? a f).bind fun y7=>((idx? b f).bind fun y8=>((chk (c != 0)).bind fun _=>(Z41.l0 R N n a b c (Int.tmod (w64 (d+(w64 ((y7,()).1*(y8,()).1)))) c) e (w64 (f+(1:Int))))))) else some ⟨o_Z41,(d,())⟩):=(hw _ _).trans (by kernel_rfl)
theorem Z41.ev(R:Run)(N:Nat)(a0 a1:List Int)(a2:Int):qqm E R sg_Z41 pol_Z41 F_Z41 N [⟨yL,a0⟩,⟨yL,a1⟩,⟨yI,a2⟩]=(Z41.l0 R N N a0 a1 a2 (0:Int) (List.length a0:Int) (0:Int)):=by kernel_rfl
theorem Z70.ev(R:Run)(N:Nat)(a0 a1:Int)(a2:vM)(a3:(vK×Unit)):qqm E R sg_Z70 pol_Z70 F_Z70 N [⟨yI,a0⟩,⟨yI,a1⟩,⟨(.ptr yM),a2⟩,⟨(.ptr yC),a3⟩]=((idx? a3.1 a1).bind fun y1=>((qce R n_Z10 o_Z10 [⟨yI,a2.1⟩,⟨yI,a2.2.1⟩,⟨yI,a2.2.2.1⟩,⟨yL,a2.2.2.2.1⟩,⟨yI,a0⟩]).bind fun r2=>((qce R n_Z41 o_Z41 [⟨yL,r2.1⟩,⟨yL,(y1,()).1⟩,⟨yI,a2.1⟩]).bind fun r3=>some ⟨o_Z70,(r3.1,())⟩))):=by kernel_rfl
def Z48.l1(R:Run)(N a n:Nat)(b:Int)(e:(vM×(vK×Unit)×Unit))(f g h i j k l m o p q:Int)(r:List Int):Option Dv:=R.w (some ⟨(V.dead::(V.dead::(.c (.d yI b)::(.c (.d (.fn n_Z70 (.cons (.ptr yM) (.cons (.ptr yC) .nil))) e)::(zd 4 (.c (.box 8 0)::(.c (.box 9 0)::(.c (.d yI f)::(zd 5 (.c (.d yI g)::(.c (.d yI h)::(V.dead::(V.dead::(.c (.d yI i)::(.c (.d yI j)::(zd 14 [])))))))))))))))),(zo 8 (some (.box [.d yI k,.d yI l,.d yI m,.nils yI] false false)::(some (.box [.d yI o,.d yI p,.d yI q,.arr 31] false false)::(zo 21 (some (.arr yI r true false false)::(zo 8 []))))))⟩) fun st=>q1_10 R N n st (kB R pol_Z47 2 (kB R pol_Z47 1 (q1_0 R N (q1_6 R N a (q1_12 R (q1_1 R N (qqQ E sg_Z47 F_Z47)))))))
def Z48.l0(R:Run)(N n:Nat)(a:Int)(b:(vM×(vK×Unit)×Unit))(e f g h i j k l:Int)(m:List Int):Option Dv:=R.w (some ⟨(V.dead::(V.dead::(.c (.d yI a)::(.c (.d (.fn n_Z70 (.cons (.ptr yM) (.cons (.ptr yC) .nil))) b)::(zd 4 (.c (.box 8 0)::(.c (.box 9 0)::(zd 6 (.c (.d yI e)::(.c (.d yI f)::(zd 18 []))))))))))),(zo 8 (some (.box [.d yI g,.d yI h,.d yI i,.nils yI] false false)::(some (.box [.d yI j,.d yI k,.d yI l,.arr 31] false false)::(zo 21 (some (.arr yI m true false false)::(zo 8 []))))))⟩) fun st=>q1_11 R N n st (q1_12 R (q1_1 R N (qqQ E sg_Z47 F_Z47)))
theorem Z48.l1_succ(R:Run)(hw:R.ok)(N a n:Nat)(b:Int)(c:(vM×(vK×Unit)×Unit))(d e f g h i j k l m o:Int)(p:List Int):Z48.l1 R N a (n+1) b c d e f g h i j k l m o p=(bif (decide (h<g)) then((qce R n_Z70 o_Z70 [⟨yI,d⟩,⟨yI,h⟩,⟨(.ptr yM),c.1⟩,⟨(.ptr yC),c.2.1⟩]).bind fun r26=>((chk (decide ((List.length p+List.length [r26.1])*8≤70368744177664))).bind fun _=>(Z48.l1 R N a n b c d e f g (w64 (h+(1:Int))) i j k l m o (p++[r26.1])))) else(Z48.l0 R N a b c e (w64 (f+(1:Int))) i j k l m o p)):=(hw _ _).trans (by kernel_rfl)
theorem Z48.l0_succ(R:Run)(hw:R.ok)(N n:Nat)(a:Int)(b:(vM×(vK×Unit)×Unit))(c d e f g h i j:Int)(k:List Int):Z48.l0 R N (n+1) a b c d e f g h i j k=(bif (decide (d<c)) then(Z48.l1 R N n N a b d c d a (0:Int) e f g h i j k) else some ⟨o_Z47,(h,i,j,k,())⟩):=(hw _ _).trans (by kernel_rfl)
theorem Z48.ev(R:Run)(N:Nat)(a0 a1 a2:Int)(a3:(vM×(vK×Unit)×Unit)):qqm E R sg_Z47 pol_Z47 F_Z47 N [⟨yI,a0⟩,⟨yI,a1⟩,⟨yI,a2⟩,⟨(.fn n_Z70 (.cons (.ptr yM) (.cons (.ptr yC) .nil))),a3⟩]=(Z48.l0 R N N a2 a3 a1 (0:Int) (0:Int) (0:Int) (0:Int) a0 a1 a2 ([]:List Int)):=by kernel_rfl
theorem Z69.ev(R:Run)(N:Nat)(a0 a1 a2:Int)(a3:List Int)(a4 a5 a6:Int)(a7:List Int):qqm E R sg_Z69 pol_Z69 F_Z69 N [⟨yI,a0⟩,⟨yI,a1⟩,⟨yI,a2⟩,⟨yL,a3⟩,⟨yI,a4⟩,⟨yI,a5⟩,⟨yI,a6⟩,⟨yL,a7⟩]=((qce R n_Z34 o_Z34 [⟨yI,a4⟩,⟨yI,a5⟩,⟨yI,a6⟩,⟨yL,a7⟩]).bind fun r1=>((qce R n_Z47 o_Z47 [⟨yI,a0⟩,⟨yI,a1⟩,⟨yI,a6⟩,⟨(.fn n_Z70 (.cons (.ptr yM) (.cons (.ptr yC) .nil))),((a0,a1,a2,a3,()),(r1.1,()),())⟩]).bind fun r2=>some ⟨o_Z69,(r2.1,r2.2.1,r2.2.2.1,r2.2.2.2.1,())⟩)):=by kernel_rfl
theorem Z13.ev(R:Run)(N:Nat)(a0 a1 a2:Int)(a3:List Int)(a4 a5 a6:Int)(a7:List Int):qqm E R sg_Z13 pol_Z13 F_Z13 N [⟨yI,a0⟩,⟨yI,a1⟩,⟨yI,a2⟩,⟨yL,a3⟩,⟨yI,a4⟩,⟨yI,a5⟩,⟨yI,a6⟩,⟨yL,a7⟩]=(bif (a0==a4) then(bif (a1==a5) then(bif (a2==a6) then((qce R n_Z109 o_Z109 [⟨yL,a3⟩,⟨yL,a7⟩]).bind fun r1=>some ⟨o_Z13,(r1.1,())⟩) else some ⟨o_Z13,(false,())⟩) else some ⟨o_Z13,(false,())⟩) else some ⟨o_Z13,(false,())⟩):=by kernel_rfl
def Z87.j4(R:Run)(N a b e:Nat)(f:List Int)(g:Int)(h:List Int)(i j:Int)(k:vK)(l m o p:Int)(q:vK)(r:Int)(s:List Int)(t:vN)(u v x:Int)(y:List Int)(z a0 a1:Int)(a2:List Int):Option Dv:=R.w (some ⟨(V.dead::(.c (.box 1 0)::(zd 4 (.c (.d yL f)::(.c (.d yI g)::(.c (.d yL h)::(.c (.d yI i)::(.c (.d yI j)::(.c (.box 11 0)::(.c (.box 12 0)::(V.dead::(V.dead::(.c (.d yK k)::(.c (.d yI l)::(.c (.d yI m)::(zd 13 (.c (.d yI o)::(.c (.d yI p)::(zd 53 []))))))))))))))))))),(none::(some (.box [.d yK q,.d yI r,.d yL s,.d yN t] false false)::(zo 9 (some (.box [.d yI u,.d yI v,.d yI x,.d yL y] false false)::(some (.box [.d yI z,.d yI a0,.d yI a1,.d yL a2] false false)::(zo 77 []))))))⟩) fun st=>eC R pol_Z87 N [1,0,1,0,0,1,1,0,0,1,1,1,1,1,0,0,1,1,0,0,1,1,0,0,1,0,0,1,1] F_Z87 st (kB R pol_Z87 5 (q1_2 R N (q1_7 R N e (kB R pol_Z87 4 (kB R pol_Z87 3 (q1_3 R N (q1_8 R N b (kB R pol_Z87 2 (kB R pol_Z87 1 (q1_4 R N (q1_9 R N a (q1_13 R (q1_5 R N (qqQ E sg_Z87 F_Z87))))))))))))))
def Z87.j3(R:Run)(N a b e:Nat)(f:List Int)(g:Int)(h:List Int)(i j:Int)(k:vK)(l m o p:Int)(q:vK)(r:Int)(s:List Int)(t:vN)(u v x:Int)(y:List Int):Option Dv:=R.w (some ⟨(V.dead::(.c (.box 1 0)::(zd 4 (.c (.d yL f)::(.c (.d yI g)::(.c (.d yL h)::(.c (.d yI i)::(.c (.d yI j)::(.c (.box 11 0)::(zd 3 (.c (.d yK k)::(.c (.d yI l)::(.c (.d yI m)::(zd 13 (.c (.d yI o)::(.c (.d yI p)::(zd 53 []))))))))))))))))),(none::(some (.box [.d yK q,.d yI r,.d yL s,.d yN t] false false)::(zo 9 (some (.box [.d yI u,.d yI v,.d yI x,.d yL y] false false)::(zo 78 [])))))⟩) fun st=>eC R pol_Z87 N [1,0,1,0,0,1,1,0,0,1,1,1,1,1,0,0,1,1,0,0,1,1,0,0,1,0,0,1] F_Z87 st (kB R pol_Z87 5 (q1_2 R N (q1_7 R N e (kB R pol_Z87 4 (kB R pol_Z87 3 (q1_3 R N (q1_8 R N b (kB R pol_Z87 2 (kB R pol_Z87 1 (q1_4 R N (q1_9 R N a (q1_13 R (q1_5 R N (qqQ E sg_Z87 F_Z87))))))))))))))
def Z87.l2(R:Run)(N a b n:Nat)(e:List Int)(f:Int)(g:List Int)(h i:Int)(j:vK)(k l m o:Int)(p:vK)(q:Int)(r:List Int)(s:vN):Option Dv:=R.w (some ⟨(V.dead::(.c (.box 1 0)::(zd 4 (.c (.d yL e)::(.c (.d yI f)::(.c (.d yL g)::(.c (.d yI h)::(.c (.d yI i)::(zd 4 (.c (.d yK j)::(.c (.d yI k)::(.c (.d yI l)::(zd 13 (.c (.d yI m)::(.c (.d yI o)::(zd 53 [])))))))))))))))),(none::(some (.box [.d yK p,.d yI q,.d yL r,.d yN s] false false)::(zo 88 [])))⟩) fun st=>lC R pol_Z87 11 N [1,0,1,0,0,1,1,0,0,1,1,1,1,1,0,0,1,1,0,0,1,1,0,0] F_Z87 n st (kB R pol_Z87 4 (kB R pol_Z87 3 (q1_3 R N (q1_8 R N b (kB R pol_Z87 2 (kB R pol_Z87 1 (q1_4 R N (q1_9 R N a (q1_13 R (q1_5 R N (qqQ E sg_Z87 F_Z87)))))))))))
def Z87.l1(R:Run)(N a n:Nat)(b:List Int)(e:Int)(f:List Int)(g:vK)(h i j k:Int)(l:vK)(m:Int)(o:List Int)(p:vN):Option Dv:=R.w (some ⟨(V.dead::(.c (.box 1 0)::(zd 4 (.c (.d yL b)::(.c (.d yI e)::(.c (.d yL f)::(zd 6 (.c (.d yK g)::(.c (.d yI h)::(.c (.d yI i)::(zd 13 (.c (.d yI j)::(.c (.d yI k)::(zd 53 [])))))))))))))),(none::(some (.box [.d yK l,.d yI m,.d yL o,.d yN p] false false)::(zo 88 [])))⟩) fun st=>lC R pol_Z87 8 N [1,0,1,0,0,1,1,0,0,1,1,1,1,1,0,0] F_Z87 n st (kB R pol_Z87 2 (kB R pol_Z87 1 (q1_4 R N (q1_9 R N a (q1_13 R (q1_5 R N (qqQ E sg_Z87 F_Z87)))))))
def Z87.l0(R:Run)(N n:Nat)(a:vK)(b e:Int)(f:vK)(g:Int)(h:List Int)(i:vN):Option Dv:=R.w (some ⟨(V.dead::(.c (.box 1 0)::(zd 13 (.c (.d yK a)::(.c (.d yI b)::(.c (.d yI e)::(zd 68 []))))))),(none::(some (.box [.d yK f,.d yI g,.d yL h,.d yN i] false false)::(zo 88 [])))⟩) fun st=>lC R pol_Z87 2 N [1,0,1,0,0] F_Z87 n st (q1_13 R (q1_5 R N (qqQ E sg_Z87 F_Z87)))
theorem Z87.j4_eq(R:Run)(hw:R.ok)(N a b c:Nat)(d:List Int)(e:Int)(f:List Int)(g h:Int)(i:vK)(j k l m:Int)(o:vK)(p:Int)(q:List Int)(r:vN)(s t u:Int)(v:List Int)(w x y:Int)(z:List Int):Z87.j4 R N a b c d e f g h i j k l m o p q r s t u v w x y z=((qce R n_Z13 o_Z13 [⟨yI,s⟩,⟨yI,t⟩,⟨yI,u⟩,⟨yL,v⟩,⟨yI,w⟩,⟨yI,x⟩,⟨yI,y⟩,⟨yL,z⟩]).bind fun r91=>(bif (!r91.1) then((idx? f g).bind fun y92=>((qce R n_Z45 o_Z45 [⟨yK,o⟩,⟨yI,(y92,()).1⟩]).bind fun r93=>((idx? r93.1 (w64 (h-(1:Int)))).bind fun y94=>some ⟨o_Z87,(e,(y94,()).1,true,())⟩))) else(Z87.l2 R N a b c d e f g (w64 (h+(1:Int))) i j k l m o p q r))):=(hw _ _).trans (by kernel_rfl)
theorem Z87.j3_eq(R:Run)(hw:R.ok)(N a b c:Nat)(d:List Int)(e:Int)(f:List Int)(g h:Int)(i:vK)(j k l m:Int)(o:vK)(p:Int)(q:List Int)(r:vN)(s t u:Int)(v:List Int):Z87.j3 R N a b c d e f g h i j k l m o p q r s t u v=((idx? f h).bind fun y65=>(qn5 ((qce R n_Z40 o_Z40 [⟨yK,o⟩,⟨yI,p⟩,⟨yL,q⟩,⟨yN,r⟩,⟨yI,e⟩,⟨yI,h⟩]).bind fun r66=>(qn5 ((qce R n_Z40 o_Z40 [⟨yK,o⟩,⟨yI,p⟩,⟨yL,q⟩,⟨yN,r⟩,⟨yI,(y65,()).1⟩,⟨yI,g⟩]).bind fun r67=>(qn5 ((qce R n_Z69 o_Z69 [⟨yI,r66.1⟩,⟨yI,r66.2.1⟩,⟨yI,r66.2.2.1⟩,⟨yL,r66.2.2.2.1⟩,⟨yI,r67.1⟩,⟨yI,r67.2.1⟩,⟨yI,r67.2.2.1⟩,⟨yL,r67.2.2.2.1⟩]).bind fun r68=>(Z87.j4 R N a b c d e f g h i j k l m o p q r s t u v r68.1 r68.2.1 r68.2.2.1 r68.2.2.2.1)) ((qce R n_Z69 o_Z69 [⟨yI,r66.1⟩,⟨yI,r66.2.1⟩,⟨yI,r66.2.2.1⟩,⟨yL,r66.2.2.2.1⟩,⟨yI,r67.1⟩,⟨yI,r67.2.1⟩,⟨yI,r67.2.2.1⟩,⟨yL,r67.2.2.2.1⟩]).bind fun r109=>(Z87.j4 R N a b c d e f g h i j k l m o p q r s t u v r109.1 r109.2.1 r109.2.2.1 r109.2.2.2.1)))) ((qce R n_Z40 o_Z40 [⟨yK,o⟩,⟨yI,p⟩,⟨yL,q⟩,⟨yN,r⟩,⟨yI,(y65,()).1⟩,⟨yI,g⟩]).bind fun r132=>((qce R n_Z69 o_Z69 [⟨yI,r66.1⟩,⟨yI,r66.2.1⟩,⟨yI,r66.2.2.1⟩,⟨yL,r66.2.2.2.1⟩,⟨yI,r132.1⟩,⟨yI,r132.2.1⟩,⟨yI,r132.2.2.1⟩,⟨yL,r132.2.2.2.1⟩]).bind fun r133=>(Z87.j4 R N a b c d e f g h i j k l m o p q r s t u v r133.1 r133.2.1 r133.2.2.1 r133.2.2.2.1))))) ((qce R n_Z40 o_Z40 [⟨yK,o⟩,⟨yI,p⟩,⟨yL,q⟩,⟨yN,r⟩,⟨yI,e⟩,⟨yI,h⟩]).bind fun r156=>((qce R n_Z40 o_Z40 [⟨yK,o⟩,⟨yI,p⟩,⟨yL,q⟩,⟨yN,r⟩,⟨yI,(y65,()).1⟩,⟨yI,g⟩]).bind fun r157=>((qce R n_Z69 o_Z69 [⟨yI,r156.1⟩,⟨yI,r156.2.1⟩,⟨yI,r156.2.2.1⟩,⟨yL,r156.2.2.2.1⟩,⟨yI,r157.1⟩,⟨yI,r157.2.1⟩,⟨yI,r157.2.2.1⟩,⟨yL,r157.2.2.2.1⟩]).bind fun r158=>(Z87.j4 R N a b c d e f g h i j k l m o p q r s t u v r158.1 r158.2.1 r158.2.2.1 r158.2.2.2.1)))))):=(hw _ _).trans (by kernel_rfl)
theorem Z87.l2_succ(R:Run)(hw:R.ok)(N a b n:Nat)(c:List Int)(d:Int)(e:List Int)(f g:Int)(h:vK)(i j k l:Int)(m:vK)(o:Int)(p:List Int)(q:vN):Z87.l2 R N a b (n+1) c d e f g h i j k l m o p q=(bif (decide (g<(List.length c:Int))) then((idx? e f).bind fun y43=>(qn5 ((qce R n_Z40 o_Z40 [⟨yK,m⟩,⟨yI,o⟩,⟨yL,p⟩,⟨yN,q⟩,⟨yI,d⟩,⟨yI,f⟩]).bind fun r44=>(qn5 ((qce R n_Z40 o_Z40 [⟨yK,m⟩,⟨yI,o⟩,⟨yL,p⟩,⟨yN,q⟩,⟨yI,(y43,()).1⟩,⟨yI,(w64 (g-(1:Int)))⟩]).bind fun r45=>(qn5 ((qce R n_Z69 o_Z69 [⟨yI,r44.1⟩,⟨yI,r44.2.1⟩,⟨yI,r44.2.2.1⟩,⟨yL,r44.2.2.2.1⟩,⟨yI,r45.1⟩,⟨yI,r45.2.1⟩,⟨yI,r45.2.2.1⟩,⟨yL,r45.2.2.2.1⟩]).bind fun r46=>(Z87.j3 R N a b n c d e f g h i j k l m o p q r46.1 r46.2.1 r46.2.2.1 r46.2.2.2.1)) ((qce R n_Z69 o_Z69 [⟨yI,r44.1⟩,⟨yI,r44.2.1⟩,⟨yI,r44.2.2.1⟩,⟨yL,r44.2.2.2.1⟩,⟨yI,r45.1⟩,⟨yI,r45.2.1⟩,⟨yI,r45.2.2.1⟩,⟨yL,r45.2.2.2.1⟩]).bind fun r181=>(Z87.j3 R N a b n c d e f g h i j k l m o p q r181.1 r181.2.1 r181.2.2.1 r181.2.2.2.1)))) ((qce R n_Z40 o_Z40 [⟨yK,m⟩,⟨yI,o⟩,⟨yL,p⟩,⟨yN,q⟩,⟨yI,(y43,()).1⟩,⟨yI,(w64 (g-(1:Int)))⟩]).bind fun r200=>((qce R n_Z69 o_Z69 [⟨yI,r44.1⟩,⟨yI,r44.2.1⟩,⟨yI,r44.2.2.1⟩,⟨yL,r44.2.2.2.1⟩,⟨yI,r200.1⟩,⟨yI,r200.2.1⟩,⟨yI,r200.2.2.1⟩,⟨yL,r200.2.2.2.1⟩]).bind fun r201=>(Z87.j3 R N a b n c d e f g h i j k l m o p q r201.1 r201.2.1 r201.2.2.1 r201.2.2.2.1))))) ((qce R n_Z40 o_Z40 [⟨yK,m⟩,⟨yI,o⟩,⟨yL,p⟩,⟨yN,q⟩,⟨yI,d⟩,⟨yI,f⟩]).bind fun r220=>((qce R n_Z40 o_Z40 [⟨yK,m⟩,⟨yI,o⟩,⟨yL,p⟩,⟨yN,q⟩,⟨yI,(y43,()).1⟩,⟨yI,(w64 (g-(1:Int)))⟩]).bind fun r221=>((qce R n_Z69 o_Z69 [⟨yI,r220.1⟩,⟨yI,r220.2.1⟩,⟨yI,r220.2.2.1⟩,⟨yL,r220.2.2.2.1⟩,⟨yI,r221.1⟩,⟨yI,r221.2.1⟩,⟨yI,r221.2.2.1⟩,⟨yL,r221.2.2.2.1⟩]).bind fun r222=>(Z87.j3 R N a b n c d e f g h i j k l m o p q r222.1 r222.2.1 r222.2.2.1 r222.2.2.2.1)))))) else(Z87.l1 R N a b c d e h i j k (w64 (l+(1:Int))) m o p q)):=(hw _ _).trans (by kernel_rfl)
theorem Z87.l1_succ(R:Run)(hw:R.ok)(N a n:Nat)(b:List Int)(c:Int)(d:List Int)(e:vK)(f g h i:Int)(j:vK)(k:Int)(l:List Int)(m:vN):Z87.l1 R N a (n+1) b c d e f g h i j k l m=(bif (decide (i<h)) then(Z87.l2 R N a n N b c d i (w64 (i+(1:Int))) e f g h i j k l m) else(Z87.l0 R N a e f (w64 (g+(1:Int))) j k l m)):=(hw _ _).trans (by kernel_rfl)
theorem Z87.l0_succ(R:Run)(hw:R.ok)(N n:Nat)(a:vK)(b c:Int)(d:vK)(e:Int)(f:List Int)(g:vN):Z87.l0 R N (n+1) a b c d e f g=(bif (decide (c<b)) then((idx? a c).bind fun y8=>(bif (decide ((List.length (y8,()).1:Int)<(3:Int))) then(Z87.l0 R N n a b (w64 (c+(1:Int))) d e f g) else((qce R n_Z45 o_Z45 [⟨yK,d⟩,⟨yI,c⟩]).bind fun r16=>(Z87.l1 R N n N ((y8,()).1) c r16.1 a b c (List.length (y8,()).1:Int) (0:Int) d e f g)))) else some ⟨o_Z87,((0:Int),(0:Int),false,())⟩):=(hw _ _).trans (by kernel_rfl)
theorem Z87.ev(R:Run)(N:Nat)(a0:vK)(a1:Int)(a2:List Int)(a3:vN):qqm E R sg_Z87 pol_Z87 F_Z87 N [⟨yK,a0⟩,⟨yI,a1⟩,⟨yL,a2⟩,⟨yN,a3⟩]=(Z87.l0 R N N a0 (List.length a0:Int) (0:Int) a0 a1 a2 a3):=by kernel_rfl
theorem Z8.ev(R:Run)(N:Nat)(a0:vK)(a1:Int)(a2:List Int)(a3:vN):qqm E R sg_Z8 pol_Z8 F_Z8 N [⟨yK,a0⟩,⟨yI,a1⟩,⟨yL,a2⟩,⟨yN,a3⟩]=((qce R n_Z21 o_Z21 [⟨yK,a0⟩,⟨yI,a1⟩,⟨yL,a2⟩,⟨yN,a3⟩]).bind fun r1=>(bif (!r1.1) then some ⟨o_Z8,(false,())⟩ else((qce R n_Z87 o_Z87 [⟨yK,a0⟩,⟨yI,a1⟩,⟨yL,a2⟩,⟨yN,a3⟩]).bind fun r2=>some ⟨o_Z8,((!r2.2.2.1),())⟩))):=by kernel_rfl
theorem Z89.ev(R:Run)(N:Nat)(a0 a1:Int):qqm E R sg_Z89 pol_Z89 F_Z89 N [⟨yI,a0⟩,⟨yI,a1⟩]=some ⟨o_Z89,((0:Int),())⟩:=by kernel_rfl
def Z51.l1(R:Run)(N a n:Nat)(b e f g h i j k l m o p:Int)(q:List Int):Option Dv:=R.w (some ⟨(V.dead::(V.dead::(.c (.d yI b)::(.c (.d (.fn n_Z89 .nil) ())::(zd 4 (.c (.box 8 0)::(.c (.box 9 0)::(.c (.d yI e)::(zd 5 (.c (.d yI f)::(.c (.d yI g)::(V.dead::(V.dead::(.c (.d yI h)::(.c (.d yI i)::(zd 14 [])))))))))))))))),(zo 8 (some (.box [.d yI j,.d yI k,.d yI l,.nils yI] false false)::(some (.box [.d yI m,.d yI o,.d yI p,.arr 31] false false)::(zo 21 (some (.arr yI q true false false)::(zo 8 []))))))⟩) fun st=>q1_10 R N n st (kB R pol_Z47 2 (kB R pol_Z47 1 (q1_0 R N (q1_6 R N a (q1_12 R (q1_1 R N (qqQ E sg_Z47 F_Z47)))))))
def Z51.l0(R:Run)(N n:Nat)(a b e f g h i j k:Int)(l:List Int):Option Dv:=R.w (some ⟨(V.dead::(V.dead::(.c (.d yI a)::(.c (.d (.fn n_Z89 .nil) ())::(zd 4 (.c (.box 8 0)::(.c (.box 9 0)::(zd 6 (.c (.d yI b)::(.c (.d yI e)::(zd 18 []))))))))))),(zo 8 (some (.box [.d yI f,.d yI g,.d yI h,.nils yI] false false)::(some (.box [.d yI i,.d yI j,.d yI k,.arr 31] false false)::(zo 21 (some (.arr yI l true false false)::(zo 8 []))))))⟩) fun st=>q1_11 R N n st (q1_12 R (q1_1 R N (qqQ E sg_Z47 F_Z47)))
theorem Z51.l1_succ(R:Run)(hw:R.ok)(N a n:Nat)(b c d e f g h i j k l m:Int)(o:List Int):Z51.l1 R N a (n+1) b c d e f g h i j k l m o=(bif (decide (g<f)) then((qce R n_Z89 o_Z89 [⟨yI,c⟩,⟨yI,g⟩]).bind fun r24=>((chk (decide ((List.length o+List.length [r24.1])*8≤70368744177664))).bind fun _=>(Z51.l1 R N a n b c d e f (w64 (g+(1:Int))) h i j k l m (o++[r24.1])))) else(Z51.l0 R N a b d (w64 (e+(1:Int))) h i j k l m o)):=(hw _ _).trans (by kernel_rfl)
theorem Z51.l0_succ(R:Run)(hw:R.ok)(N n:Nat)(a b c d e f g h i:Int)(j:List Int):Z51.l0 R N (n+1) a b c d e f g h i j=(bif (decide (c<b)) then(Z51.l1 R N n N a c b c a (0:Int) d e f g h i j) else some ⟨o_Z47,(g,h,i,j,())⟩):=(hw _ _).trans (by kernel_rfl)
theorem Z51.ev(R:Run)(N:Nat)(a0 a1 a2:Int):qqm E R sg_Z47 pol_Z47 F_Z47 N [⟨yI,a0⟩,⟨yI,a1⟩,⟨yI,a2⟩,⟨(.fn n_Z89 .nil),()⟩]=(Z51.l0 R N N a2 a1 (0:Int) (0:Int) (0:Int) (0:Int) a0 a1 a2 ([]:List Int)):=by kernel_rfl
theorem Z88.ev(R:Run)(N:Nat)(a0 a1 a2:Int):qqm E R sg_Z88 pol_Z88 F_Z88 N [⟨yI,a0⟩,⟨yI,a1⟩,⟨yI,a2⟩]=((qce R n_Z47 o_Z47 [⟨yI,a0⟩,⟨yI,a1⟩,⟨yI,a2⟩,⟨(.fn n_Z89 .nil),()⟩]).bind fun r1=>some ⟨o_Z88,(r1.1,r1.2.1,r1.2.2.1,r1.2.2.2.1,())⟩):=by kernel_rfl
def Z52.l0(R:Run)(N n:Nat)(a b:Int)(e:List Int)(f g:Int)(h:vK)(i:Int)(j:List Int)(k:vN):Option Dv:=R.w (some ⟨(V.dead::(.c (.d yI a)::(.c (.box 2 0)::(V.dead::(V.dead::(.c (.d yI b)::(zd 12 (.c (.d yL e)::(.c (.d yI f)::(.c (.d yI g)::(zd 15 []))))))))))),(none::(none::(some (.box [.d yK h,.d yI i,.d yL j,.d yN k] false false)::(zo 38 []))))⟩) fun st=>lC R pol_Z52 3 N [1,1,0,1,0,0] F_Z52 n st (kB R pol_Z52 0 (kS R pol_Z52 8 N [1,1,1] F_Z52 (qqQ E sg_Z52 F_Z52)))
theorem Z52.l0_succ(R:Run)(hw:R.ok)(N n:Nat)(a b:Int)(c:List Int)(d e:Int)(f:vK)(g:Int)(h:List Int)(i:vN):Z52.l0 R N (n+1) a b c d e f g h i=(bif (decide (e<d)) then((idx? c e).bind fun y13=>(bif ((y13,()).1==a) then some ⟨o_Z52,(b,())⟩ else((idx? h (y13,()).1).bind fun y14=>(Z52.l0 R N n a (w64 (b+(y14,()).1)) c d (w64 (e+(1:Int))) f g h i)))) else some ⟨o_Z52,(b,())⟩):=(hw _ _).trans (by kernel_rfl)
theorem Z52.ev(R:Run)(N:Nat)(a0:vK)(a1:Int)(a2:List Int)(a3:vN)(a4:Int):qqm E R sg_Z52 pol_Z52 F_Z52 N [⟨yK,a0⟩,⟨yI,a1⟩,⟨yL,a2⟩,⟨yN,a3⟩,⟨yI,a4⟩]=((idx? a0 a4).bind fun y1=>((qce R n_Z79 o_Z79 [⟨yL,(y1,()).1⟩]).bind fun r2=>((qce R n_Z77 o_Z77 [⟨yK,a0⟩,⟨yI,(w64 (r2.1-(1:Int)))⟩]).bind fun r3=>(Z52.l0 R N N a4 (0:Int) r3.1 (List.length r3.1:Int) (0:Int) a0 a1 a2 a3)))):=by kernel_rfl
theorem Z25.ev(R:Run)(N:Nat)(a0 a1:Int):qqm E R sg_Z25 pol_Z25 F_Z25 N [⟨yI,a0⟩,⟨yI,a1⟩]=(bif ((Int.tmod a0 (2:Int))==(0:Int)) then some ⟨o_Z25,((1:Int),())⟩ else some ⟨o_Z25,((w64 (a1-(1:Int))),())⟩):=by kernel_rfl
end
end VeT

open Go Go.Proofs Ve
set_option maxRecDepth 100000
namespace VeT
noncomputable section
abbrev q2_0(R:Run)(N:Nat):=kS R pol_Z32 20 N [1,1,0,1,0,0,1,1,0,0,1,1,1,0,0,1,1,1] F_Z32
abbrev q2_1(R:Run)(N:Nat):=kS R pol_Z32 21 N [1,1,0,1,0,0,1,1,1] F_Z32
abbrev q2_2(R:Run)(N:Nat):=kS R pol_Z32 22 N [1,1,1] F_Z32
abbrev q2_3(R:Run)(N:Nat):=kS R pol_Z42 22 N [1,1,1,0,1,0,0,1,1,0,0,1,1,1,1,1,1,1,1,1] F_Z42
abbrev q2_4(R:Run)(N:Nat):=kS R pol_Z42 23 N [1,1,1,0,1,0,0,1,1,1] F_Z42
abbrev q2_5(R:Run)(N:Nat):=kS R pol_Z42 24 N [1,1,1,1] F_Z42
abbrev q2_6(R:Run)(N:Nat):=kS R pol_Z114 7 N [1,1] F_Z114
abbrev q2_7(R:Run)(N:Nat):=kS R pol_Z90 38 N [1,1,1,1,1,1,1,1,1,1,1,1,1,1,1,1,1,1,1,1,1,1] F_Z90
abbrev q2_8(R:Run)(N:Nat):=kL R pol_Z32 7 N [1,1,0,1,0,0,1,1,0,0,1,1,1,0,0] F_Z32
abbrev q2_9(R:Run)(N:Nat):=kL R pol_Z32 3 N [1,1,0,1,0,0] F_Z32
abbrev q2_10(R:Run)(N:Nat):=kL R pol_Z42 4 N [1,1,1,0,1,0,0] F_Z42
abbrev q2_11(R:Run)(N:Nat):=lC R pol_Z114 2 N [1,0,1,0,0] F_Z114
abbrev q2_12(R:Run):=kB R pol_Z32 0
abbrev q2_13(R:Run):=kB R pol_Z42 0
def Z32.j2(R:Run)(N:Nat)(a b e f g h:Int)(i:List Int):Option Dv:=R.w (some ⟨(zd 4 (.c (.box 4 0)::(.c (.box 5 0)::(zd 91 [])))),(zo 4 (some (.box [.d yI a,.d yI b,.d yI e,.nils yI] false false)::(some (.box [.d yI f,.d yI g,.d yI h,.arr 102] false false)::(zo 96 (some (.arr yI i true false false)::[])))))⟩) fun st=>eC R pol_Z32 N [1,1,1] F_Z32 st (qqQ E sg_Z32 F_Z32)
def Z32.l5(R:Run)(N a b e n:Nat)(f g h i j k:Int)(l:List Int)(m o:Int)(p:List Int)(q r s t u v:Int)(x:vK)(y:Int)(z:List Int)(a0:vN)(a1 a2 a3 a4 a5 a6 a7 a8 a9:Int)(b0 b1:List Int):Option Dv:=R.w (some ⟨(V.dead::(.c (.d yI f)::(.c (.box 2 0)::(V.dead::(.c (.box 4 0)::(.c (.box 5 0)::(V.dead::(.c (.d yI g)::(.c (.d yI h)::(V.dead::(.c (.box 10 0)::(.c (.d yI i)::(.c (.d yI j)::(.c (.d yI k)::(zd 15 (.c (.d yL l)::(.c (.d yI m)::(.c (.d yI o)::(zd 8 (.c (.d yL p)::(.c (.d yI q)::(.c (.d yI r)::(zd 15 (.c (.d yI s)::(.c (.d yI t)::(zd 3 (.c (.d yI u)::(.c (.d yI v)::(zd 32 []))))))))))))))))))))))))))))),(none::(none::(some (.box [.d yK x,.d yI y,.d yL z,.d yN a0] false false)::(none::(some (.box [.d yI a1,.d yI a2,.d yI a3,.nils yI] false false)::(some (.box [.d yI a4,.d yI a5,.d yI a6,.arr 102] false false)::(zo 4 (some (.box [.d yI a7,.d yI a8,.d yI a9,.d yL b0] false false)::(zo 91 (some (.arr yI b1 true false false)::[]))))))))))⟩) fun st=>lC R pol_Z32 15 N [1,1,0,1,0,0,1,1,0,0,1,1,1,0,0,1,1,0,0,1,1,1,1,0,0,1,1,0,0,1,1,0,0] F_Z32 n st (kB R pol_Z32 6 (kB R pol_Z32 5 (kS R pol_Z32 19 N [1,1,0,1,0,0,1,1,0,0,1,1,1,0,0,1,1,0,0,1,1,1,1,0,0,1,1,1] F_Z32 (kL R pol_Z32 12 N [1,1,0,1,0,0,1,1,0,0,1,1,1,0,0,1,1,0,0,1,1,1,1,0,0] F_Z32 e (kB R pol_Z32 4 (kB R pol_Z32 3 (q2_0 R N (q2_8 R N b (kB R pol_Z32 2 (kB R pol_Z32 1 (q2_1 R N (q2_9 R N a (q2_12 R (q2_2 R N (qqQ E sg_Z32 F_Z32)))))))))))))))
def Z32.l4(R:Run)(N a b n:Nat)(e f g h i:Int)(j:List Int)(k l:Int)(m:List Int)(o p q r:Int)(s:vK)(t:Int)(u:List Int)(v:vN)(x y z a0 a1 a2 a3 a4 a5:Int)(a6 a7:List Int):Option Dv:=R.w (some ⟨(V.dead::(.c (.d yI e)::(.c (.box 2 0)::(V.dead::(.c (.box 4 0)::(.c (.box 5 0)::(V.dead::(.c (.d yI f)::(.c (.d yI g)::(V.dead::(.c (.box 10 0)::(.c (.d yI h)::(.c (.d yI i)::(zd 16 (.c (.d yL j)::(.c (.d yI k)::(.c (.d yI l)::(zd 8 (.c (.d yL m)::(.c (.d yI o)::(.c (.d yI p)::(zd 15 (.c (.d yI q)::(.c (.d yI r)::(zd 37 []))))))))))))))))))))))))),(none::(none::(some (.box [.d yK s,.d yI t,.d yL u,.d yN v] false false)::(none::(some (.box [.d yI x,.d yI y,.d yI z,.nils yI] false false)::(some (.box [.d yI a0,.d yI a1,.d yI a2,.arr 102] false false)::(zo 4 (some (.box [.d yI a3,.d yI a4,.d yI a5,.d yL a6] false false)::(zo 91 (some (.arr yI a7 true false false)::[]))))))))))⟩) fun st=>lC R pol_Z32 12 N [1,1,0,1,0,0,1,1,0,0,1,1,1,0,0,1,1,0,0,1,1,1,1,0,0] F_Z32 n st (kB R pol_Z32 4 (kB R pol_Z32 3 (q2_0 R N (q2_8 R N b (kB R pol_Z32 2 (kB R pol_Z32 1 (q2_1 R N (q2_9 R N a (q2_12 R (q2_2 R N (qqQ E sg_Z32 F_Z32)))))))))))
def Z32.l3(R:Run)(N a n:Nat)(b e:Int)(f:List Int)(g h:Int)(i:List Int)(j k:Int)(l:vK)(m:Int)(o:List Int)(p:vN)(q r s t u v:Int)(x:List Int):Option Dv:=R.w (some ⟨(V.dead::(.c (.d yI b)::(.c (.box 2 0)::(V.dead::(.c (.box 4 0)::(.c (.box 5 0)::(V.dead::(.c (.d yI e)::(zd 21 (.c (.d yL f)::(.c (.d yI g)::(.c (.d yI h)::(zd 8 (.c (.d yL i)::(.c (.d yI j)::(.c (.d yI k)::(zd 54 []))))))))))))))))),(none::(none::(some (.box [.d yK l,.d yI m,.d yL o,.d yN p] false false)::(none::(some (.box [.d yI q,.d yI r,.d yI s,.nils yI] false false)::(some (.box [.d yI t,.d yI u,.d yI v,.arr 102] false false)::(zo 96 (some (.arr yI x true false false)::[]))))))))⟩) fun st=>lC R pol_Z32 7 N [1,1,0,1,0,0,1,1,0,0,1,1,1,0,0] F_Z32 n st (kB R pol_Z32 2 (kB R pol_Z32 1 (q2_1 R N (q2_9 R N a (q2_12 R (q2_2 R N (qqQ E sg_Z32 F_Z32)))))))
def Z32.l1(R:Run)(N n:Nat)(a:Int)(b:List Int)(e f:Int)(g:vK)(h:Int)(i:List Int)(j:vN)(k l m o p q:Int)(r:List Int):Option Dv:=R.w (some ⟨(V.dead::(.c (.d yI a)::(.c (.box 2 0)::(V.dead::(.c (.box 4 0)::(.c (.box 5 0)::(zd 23 (.c (.d yL b)::(.c (.d yI e)::(.c (.d yI f)::(zd 65 []))))))))))),(none::(none::(some (.box [.d yK g,.d yI h,.d yL i,.d yN j] false false)::(none::(some (.box [.d yI k,.d yI l,.d yI m,.nils yI] false false)::(some (.box [.d yI o,.d yI p,.d yI q,.arr 102] false false)::(zo 96 (some (.arr yI r true false false)::[]))))))))⟩) fun st=>lC R pol_Z32 3 N [1,1,0,1,0,0] F_Z32 n st (q2_12 R (q2_2 R N (qqQ E sg_Z32 F_Z32)))
def Z32.j0(R:Run)(N:Nat)(a:Int)(b:vK)(e:Int)(f:List Int)(g:vN)(h i j k l m:Int)(o:List Int):Option Dv:=R.w (some ⟨(V.dead::(.c (.d yI a)::(.c (.box 2 0)::(V.dead::(.c (.box 4 0)::(.c (.box 5 0)::(zd 91 []))))))),(none::(none::(some (.box [.d yK b,.d yI e,.d yL f,.d yN g] false false)::(none::(some (.box [.d yI h,.d yI i,.d yI j,.nils yI] false false)::(some (.box [.d yI k,.d yI l,.d yI m,.arr 102] false false)::(zo 96 (some (.arr yI o true false false)::[]))))))))⟩) fun st=>eC R pol_Z32 N [1,1] F_Z32 st (qqQ E sg_Z32 F_Z32)
theorem Z32.j2_eq(R:Run)(hw:R.ok)(N:Nat)(a b c d e f:Int)(g:List Int):Z32.j2 R N a b c d e f g=some ⟨o_Z32,(d,e,f,g,())⟩:=(hw _ _).trans (by kernel_rfl)
theorem Z32.l5_succ(R:Run)(hw:R.ok)(N a b c n:Nat)(d e f g h i:Int)(j:List Int)(k l:Int)(m:List Int)(o p q r s t:Int)(u:vK)(v:Int)(w:List Int)(x:vN)(y z a0 a1 a2 a3 a4 a5 a6:Int)(a7 a8:List Int):Z32.l5 R N a b c (n+1) d e f g h i j k l m o p q r s t u v w x y z a0 a1 a2 a3 a4 a5 a6 a7 a8=(bif (decide (t<s)) then((qce R n_Z9 o_Z9 [⟨yI,a4⟩,⟨yI,a5⟩,⟨yI,a6⟩,⟨yL,a7⟩,⟨yI,i⟩,⟨yI,t⟩]).bind fun r123=>((qce R n_Z25 o_Z25 [⟨yI,f⟩,⟨yI,v⟩]).bind fun r124=>((chk (v != 0)).bind fun _=>((chk (decide (0≤(w64 ((w64 ((w64 ((w64 (g+i))*a3))+h))+t)))&&decide ((w64 ((w64 ((w64 ((w64 (g+i))*a3))+h))+t))<(List.length a8:Int)))).bind fun _=>(Z32.l5 R N a b c n d e f g h i j k l m o p q r s (w64 (t+(1:Int))) u v w x y z a0 a1 a2 a3 a4 a5 a6 a7 (List.set a8 (Int.toNat (w64 ((w64 ((w64 ((w64 (g+i))*a3))+h))+t))) (Int.tmod (w64 (r123.1*r124.1)) v))))))) else(Z32.l4 R N a b c d e f g h j k l m o p q (w64 (r+(1:Int))) u v w x y z a0 a1 a2 a3 a4 a5 a6 a7 a8)):=(hw _ _).trans (by kernel_rfl)
theorem Z32.l4_succ(R:Run)(hw:R.ok)(N a b n:Nat)(c d e f g:Int)(h:List Int)(i j:Int)(k:List Int)(l m o p:Int)(q:vK)(r:Int)(s:List Int)(t:vN)(u v w x y z a0 a1 a2:Int)(a3 a4:List Int):Z32.l4 R N a b (n+1) c d e f g h i j k l m o p q r s t u v w x y z a0 a1 a2 a3 a4=(bif (decide (p<o)) then(Z32.l5 R N a b n N c d e f g p h i j k l m o p a2 (0:Int) q r s t u v w x y z a0 a1 a2 a3 a4) else(Z32.l3 R N a b c d h i j k l (w64 (m+(1:Int))) q r s t u v w x y z a4)):=(hw _ _).trans (by kernel_rfl)
theorem Z32.l3_succ(R:Run)(hw:R.ok)(N a n:Nat)(b c:Int)(d:List Int)(e f:Int)(g:List Int)(h i:Int)(j:vK)(k:Int)(l:List Int)(m:vN)(o p q r s t:Int)(u:List Int):Z32.l3 R N a (n+1) b c d e f g h i j k l m o p q r s t u=(bif (decide (i<h)) then((idx? g i).bind fun y60=>((qce R n_Z40 o_Z40 [⟨yK,j⟩,⟨yI,k⟩,⟨yL,l⟩,⟨yN,m⟩,⟨yI,c⟩,⟨yI,i⟩]).bind fun r61=>((qce R n_Z52 o_Z52 [⟨yK,j⟩,⟨yI,k⟩,⟨yL,l⟩,⟨yN,m⟩,⟨yI,c⟩]).bind fun r62=>((qce R n_Z52 o_Z52 [⟨yK,j⟩,⟨yI,k⟩,⟨yL,l⟩,⟨yN,m⟩,⟨yI,(y60,()).1⟩]).bind fun r63=>(Z32.l4 R N a n N b c i r62.1 r63.1 d e f g h i r61.2.1 (0:Int) j k l m o p q r s t r61.1 r61.2.1 r61.2.2.1 r61.2.2.2.1 u))))) else(Z32.l1 R N a b d e (w64 (f+(1:Int))) j k l m o p q r s t u)):=(hw _ _).trans (by kernel_rfl)
theorem Z32.l1_succ(R:Run)(hw:R.ok)(N n:Nat)(a:Int)(b:List Int)(c d:Int)(e:vK)(f:Int)(g:List Int)(h:vN)(i j k l m o:Int)(p:List Int):Z32.l1 R N (n+1) a b c d e f g h i j k l m o p=(bif (decide (d<c)) then((idx? b d).bind fun y32=>(bif (decide (a<(0:Int))) then(Z32.j2 R N i j k l m o p) else((qce R n_Z45 o_Z45 [⟨yK,e⟩,⟨yI,(y32,()).1⟩]).bind fun r40=>(Z32.l3 R N n N a ((y32,()).1) b c d r40.1 (List.length r40.1:Int) (0:Int) e f g h i j k l m o p)))) else(Z32.j2 R N i j k l m o p)):=(hw _ _).trans (by kernel_rfl)
theorem Z32.j0_eq(R:Run)(hw:R.ok)(N:Nat)(a:Int)(b:vK)(c:Int)(d:List Int)(e:vN)(f g h i j k:Int)(l:List Int):Z32.j0 R N a b c d e f g h i j k l=((qce R n_Z77 o_Z77 [⟨yK,b⟩,⟨yI,(w64 (a+(1:Int)))⟩]).bind fun r16=>(Z32.l1 R N N a r16.1 (List.length r16.1:Int) (0:Int) b c d e f g h i j k l)):=(hw _ _).trans (by kernel_rfl)
theorem Z32.ev(R:Run)(N:Nat)(a0:vK)(a1:Int)(a2:List Int)(a3:vN)(a4:Int):qqm E R sg_Z32 pol_Z32 F_Z32 N [⟨yK,a0⟩,⟨yI,a1⟩,⟨yL,a2⟩,⟨yN,a3⟩,⟨yI,a4⟩]=(qn5 ((qce R n_Z81 o_Z81 [⟨yK,a0⟩,⟨yI,a1⟩,⟨yL,a2⟩,⟨yN,a3⟩,⟨yI,(w64 (a4+(1:Int)))⟩]).bind fun r1=>(qn5 ((qce R n_Z81 o_Z81 [⟨yK,a0⟩,⟨yI,a1⟩,⟨yL,a2⟩,⟨yN,a3⟩,⟨yI,a4⟩]).bind fun r2=>(qn5 ((qce R n_Z88 o_Z88 [⟨yI,a1⟩,⟨yI,r1.1⟩,⟨yI,r2.1⟩]).bind fun r3=>(Z32.j0 R N a4 a0 a1 a2 a3 (0:Int) (0:Int) (0:Int) r3.1 r3.2.1 r3.2.2.1 r3.2.2.2.1)) ((qce R n_Z88 o_Z88 [⟨yI,a1⟩,⟨yI,r1.1⟩,⟨yI,r2.1⟩]).bind fun r225=>(Z32.j0 R N a4 a0 a1 a2 a3 (0:Int) (0:Int) (0:Int) r225.1 r225.2.1 r225.2.2.1 r225.2.2.2.1)))) ((qce R n_Z81 o_Z81 [⟨yK,a0⟩,⟨yI,a1⟩,⟨yL,a2⟩,⟨yN,a3⟩,⟨yI,a4⟩]).bind fun r238=>((qce R n_Z88 o_Z88 [⟨yI,a1⟩,⟨yI,r1.1⟩,⟨yI,r238.1⟩]).bind fun r239=>(Z32.j0 R N a4 a0 a1 a2 a3 (0:Int) (0:Int) (0:Int) r239.1 r239.2.1 r239.2.2.1 r239.2.2.2.1))))) ((qce R n_Z81 o_Z81 [⟨yK,a0⟩,⟨yI,a1⟩,⟨yL,a2⟩,⟨yN,a3⟩,⟨yI,(w64 (a4+(1:Int)))⟩]).bind fun r252=>((qce R n_Z81 o_Z81 [⟨yK,a0⟩,⟨yI,a1⟩,⟨yL,a2⟩,⟨yN,a3⟩,⟨yI,a4⟩]).bind fun r253=>((qce R n_Z88 o_Z88 [⟨yI,a1⟩,⟨yI,r252.1⟩,⟨yI,r253.1⟩]).bind fun r254=>(Z32.j0 R N a4 a0 a1 a2 a3 (0:Int) (0:Int) (0:Int) r254.1 r254.2.1 r254.2.2.1 r254.2.2.2.1))))):=by kernel_rfl
theorem Z43.ev(R:Run)(N:Nat)(a0:List Int)(a1:(Int×Unit)):qqm E R sg_Z43 pol_Z43 F_Z43 N [⟨yL,a0⟩,⟨(.ptr (.cons yI .nil)),a1⟩]=((idx? a0 a1.1).bind fun y1=>some ⟨o_Z43,(((y1,()).1 != (0:Int)),())⟩):=by kernel_rfl
def Z113.l0(R:Run)(N n:Nat)(a:vK)(b:((Int×Unit)×Unit))(e f:Int):Option Dv:=R.w (some ⟨(.c (.d yK a)::(.c (.d (.fn n_Z43 (.cons (.ptr (.cons yI .nil)) .nil)) b)::(zd 5 (.c (.d yI e)::(.c (.d yI f)::(zd 10 [])))))),(zo 21 [])⟩) fun st=>lC R pol_Z111 2 N [1,0,1,0,0] F_Z111 n st (kB R pol_Z111 0 (kS R pol_Z111 7 N [1,1] F_Z111 (qqQ E sg_Z111 F_Z111)))
theorem Z113.l0_succ(R:Run)(hw:R.ok)(N n:Nat)(a:vK)(b:((Int×Unit)×Unit))(c d:Int):Z113.l0 R N (n+1) a b c d=(bif (decide (d<c)) then((idx? a d).bind fun y5=>((qce R n_Z43 o_Z43 [⟨yL,(y5,()).1⟩,⟨(.ptr (.cons yI .nil)),b.1⟩]).bind fun r6=>(bif r6.1 then some ⟨o_Z111,(d,())⟩ else(Z113.l0 R N n a b c (w64 (d+(1:Int))))))) else some ⟨o_Z111,((-1:Int),())⟩):=(hw _ _).trans (by kernel_rfl)
theorem Z113.ev(R:Run)(N:Nat)(a0:vK)(a1:((Int×Unit)×Unit)):qqm E R sg_Z111 pol_Z111 F_Z111 N [⟨yK,a0⟩,⟨(.fn n_Z43 (.cons (.ptr (.cons yI .nil)) .nil)),a1⟩]=(Z113.l0 R N N a0 a1 (List.length a0:Int) (0:Int)):=by kernel_rfl
theorem Z71.ev(R:Run)(N:Nat)(a0 a1:Int):qqm E R sg_Z71 pol_Z71 F_Z71 N [⟨yI,a0⟩,⟨yI,a1⟩]=((chk (a1 != 0)).bind fun _=>((chk (a1 != 0)).bind fun _=>some ⟨o_Z71,((Int.tmod (w64 ((Int.tmod a0 a1)+a1)) a1),())⟩)):=by kernel_rfl
def Z68.l0(R:Run)(N n:Nat)(a b e f:Int):Option Dv:=R.w (some ⟨(.c (.d yI a)::(.c (.d yI b)::(.c (.d yI e)::(zd 4 (.c (.d yI f)::(zd 18 [])))))),(zo 29 [])⟩) fun st=>lC R pol_Z68 2 N [1,1,0,0,0] F_Z68 n st (kB R pol_Z68 0 (kS R pol_Z68 7 N [1,1,1] F_Z68 (qqQ E sg_Z68 F_Z68)))
theorem Z68.l0_succ(R:Run)(hw:R.ok)(N n:Nat)(a b c d:Int):Z68.l0 R N (n+1) a b c d=(bif (decide (b>(0:Int))) then(bif ((Int.tmod b (2:Int))==(1:Int)) then((chk (c != 0)).bind fun _=>((chk (c != 0)).bind fun _=>(Z68.l0 R N n (Int.tmod (w64 (a*a)) c) (w64 (Int.tdiv b (2:Int))) c (Int.tmod (w64 (d*a)) c)))) else((chk (c != 0)).bind fun _=>(Z68.l0 R N n (Int.tmod (w64 (a*a)) c) (w64 (Int.tdiv b (2:Int))) c d))) else some ⟨o_Z68,(d,())⟩):=(hw _ _).trans (by kernel_rfl)
theorem Z68.ev(R:Run)(N:Nat)(a0 a1 a2:Int):qqm E R sg_Z68 pol_Z68 F_Z68 N [⟨yI,a0⟩,⟨yI,a1⟩,⟨yI,a2⟩]=(Z68.l0 R N N a0 a1 a2 (1:Int)):=by kernel_rfl
theorem Z57.ev(R:Run)(N:Nat)(a0 a1:Int):qqm E R sg_Z57 pol_Z57 F_Z57 N [⟨yI,a0⟩,⟨yI,a1⟩]=((qce R n_Z68 o_Z68 [⟨yI,a0⟩,⟨yI,(w64 (a1-(2:Int)))⟩,⟨yI,a1⟩]).bind fun r1=>some ⟨o_Z57,(r1.1,())⟩):=by kernel_rfl
def Z24.l0(R:Run)(N n:Nat)(a b:List Int)(e f g h:Int)(i:List Int):Option Dv:=R.w (some ⟨(.c (.d yL a)::(.c (.d yL b)::(.c (.d yI e)::(.c (.d yI f)::(zd 5 (.c (.arr 31)::(V.dead::(V.dead::(.c (.d yI g)::(.c (.d yI h)::(zd 20 []))))))))))),(zo 31 (some (.arr yI i true false false)::(zo 6 [])))⟩) fun st=>lC R pol_Z24 3 N [1,1,0,1,0,0] F_Z24 n st (kB R pol_Z24 0 (kS R pol_Z24 7 N [1,1,1] F_Z24 (qqQ E sg_Z24 F_Z24)))
theorem Z24.l0_succ(R:Run)(hw:R.ok)(N n:Nat)(a b:List Int)(c d e f:Int)(g:List Int):Z24.l0 R N (n+1) a b c d e f g=(bif (decide (f<e)) then((idx? a f).bind fun y8=>((idx? b f).bind fun y9=>((chk (d != 0)).bind fun _=>((chk (decide ((List.length g+List.length [(Int.tmod (w64 ((y8,()).1+(w64 (c*(y9,()).1)))) d)])*8≤70368744177664))).bind fun _=>(Z24.l0 R N n a b c d e (w64 (f+(1:Int))) (g++[(Int.tmod (w64 ((y8,()).1+(w64 (c*(y9,()).1)))) d)])))))) else some ⟨o_Z24,(g,())⟩):=(hw _ _).trans (by kernel_rfl)
theorem Z24.ev(R:Run)(N:Nat)(a0 a1:List Int)(a2 a3:Int):qqm E R sg_Z24 pol_Z24 F_Z24 N [⟨yL,a0⟩,⟨yL,a1⟩,⟨yI,a2⟩,⟨yI,a3⟩]=(Z24.l0 R N N a0 a1 a2 a3 (List.length a0:Int) (0:Int) ([]:List Int)):=by kernel_rfl
def Z42.j4(R:Run)(N a b:Nat)(e f g h i:Int)(j:List Int)(k l m o:Int)(p:Bool)(q:Int)(r:List Int)(s:vK):Option Dv:=R.w (some ⟨(.c (.arr 120)::(.c (.d yI e)::(.c (.d yI f)::(zd 5 (.c (.arr 116)::(.c (.d yI g)::(.c (.box 10 0)::(.c (.d yI h)::(V.dead::(V.dead::(.c (.d yI i)::(.c (.d yL j)::(.c (.d yI k)::(.c (.d yI l)::(zd 61 (.c (.arr 120)::(.c (.d yI m)::(.c (.d yI o)::(zd 13 (.c (.d .bool p)::(zd 24 []))))))))))))))))))))),(zo 10 (some (.box [.d yI q] true false)::(zo 105 (some (.arr yI r true false false)::(zo 3 (some (.arr yL s false false true)::(zo 4 [])))))))⟩) fun st=>eC R pol_Z42 N [1,1,1,0,1,0,0,1,1,0,0,1,1,1,1,1,1,1,1,0,1,0,0,1,1,0,0,1,1] F_Z42 st (kB R pol_Z42 3 (kS R pol_Z42 21 N [1,1,1,0,1,0,0,1,1,0,0,1,1,1,1,1,1,1,1,0,1,0,0,1,1,1] F_Z42 (kL R pol_Z42 17 N [1,1,1,0,1,0,0,1,1,0,0,1,1,1,1,1,1,1,1,0,1,0,0] F_Z42 b (kB R pol_Z42 2 (q2_3 R N (kB R pol_Z42 1 (q2_4 R N (q2_10 R N a (q2_13 R (q2_5 R N (qqQ E sg_Z42 F_Z42)))))))))))
def Z42.l3(R:Run)(N a n:Nat)(b e f g h i j k l:Int)(m:List Int)(o:vK):Option Dv:=R.w (some ⟨(.c (.arr 120)::(.c (.d yI b)::(.c (.d yI e)::(zd 5 (.c (.arr 116)::(.c (.d yI f)::(.c (.box 10 0)::(.c (.d yI g)::(zd 4 (.c (.d yI h)::(.c (.d yI i)::(zd 61 (.c (.arr 120)::(.c (.d yI j)::(.c (.d yI k)::(zd 38 [])))))))))))))))),(zo 10 (some (.box [.d yI l] true false)::(zo 105 (some (.arr yI m true false false)::(zo 3 (some (.arr yL o false false true)::(zo 4 [])))))))⟩) fun st=>lC R pol_Z42 17 N [1,1,1,0,1,0,0,1,1,0,0,1,1,1,1,1,1,1,1,0,1,0,0] F_Z42 n st (kB R pol_Z42 2 (q2_3 R N (kB R pol_Z42 1 (q2_4 R N (q2_10 R N a (q2_13 R (q2_5 R N (qqQ E sg_Z42 F_Z42))))))))
def Z42.j2(R:Run)(N a:Nat)(b e f g h i j:Int)(k:List Int)(l:vK):Option Dv:=R.w (some ⟨(.c (.arr 120)::(.c (.d yI b)::(.c (.d yI e)::(zd 5 (.c (.arr 116)::(.c (.d yI f)::(.c (.box 10 0)::(.c (.d yI g)::(zd 4 (.c (.d yI h)::(.c (.d yI i)::(zd 102 [])))))))))))),(zo 10 (some (.box [.d yI j] true false)::(zo 105 (some (.arr yI k true false false)::(zo 3 (some (.arr yL l false false true)::(zo 4 [])))))))⟩) fun st=>eC R pol_Z42 N [1,1,1,0,1,0,0,1,1,0,0,1,1,1,1,1,1,1,1] F_Z42 st (kB R pol_Z42 1 (q2_4 R N (q2_10 R N a (q2_13 R (q2_5 R N (qqQ E sg_Z42 F_Z42))))))
def Z42.j1(R:Run)(N a:Nat)(b e f g h i j:Int)(k:List Int)(l:vK):Option Dv:=R.w (some ⟨(.c (.arr 120)::(.c (.d yI b)::(.c (.d yI e)::(zd 5 (.c (.arr 116)::(.c (.d yI f)::(.c (.box 10 0)::(.c (.d yI g)::(zd 4 (.c (.d yI h)::(.c (.d yI i)::(zd 102 [])))))))))))),(zo 10 (some (.box [.d yI j] true false)::(zo 105 (some (.arr yI k true false false)::(zo 3 (some (.arr yL l false false true)::(zo 4 [])))))))⟩) fun st=>eC R pol_Z42 N [1,1,1,0,1,0,0,1,1,0,0,1,1,1,1,1] F_Z42 st (kB R pol_Z42 1 (q2_4 R N (q2_10 R N a (q2_13 R (q2_5 R N (qqQ E sg_Z42 F_Z42))))))
def Z42.l0(R:Run)(N n:Nat)(a b e f g:Int)(h:List Int)(i:vK):Option Dv:=R.w (some ⟨(.c (.arr 120)::(.c (.d yI a)::(.c (.d yI b)::(zd 5 (.c (.arr 116)::(.c (.d yI e)::(zd 6 (.c (.d yI f)::(.c (.d yI g)::(zd 102 [])))))))))),(zo 116 (some (.arr yI h true false false)::(zo 3 (some (.arr yL i false false true)::(zo 4 [])))))⟩) fun st=>lC R pol_Z42 4 N [1,1,1,0,1,0,0] F_Z42 n st (q2_13 R (q2_5 R N (qqQ E sg_Z42 F_Z42)))
theorem Z42.j4_eq(R:Run)(hw:R.ok)(N a b:Nat)(c d e f g:Int)(h:List Int)(i j k l:Int)(m:Bool)(o:Int)(p:List Int)(q:vK):Z42.j4 R N a b c d e f g h i j k l m o p q=(bif m then((chk (decide (0≤f)&&decide (f<(List.length q:Int)))).bind fun _=>(Option.bind (q)[(Int.toNat f)]? fun y69=>((idx? h o).bind fun y70=>((qce R n_Z24 o_Z24 [⟨yL,h⟩,⟨yL,y69⟩,⟨yI,(w64 (d-(y70,()).1))⟩,⟨yI,d⟩]).bind fun r71=>((chk (decide (0≤g)&&decide (g<(List.length q:Int)))).bind fun _=>(Z42.l3 R N a b c d e f i j k (w64 (l+(1:Int))) o p (List.set q (Int.toNat g) r71.1))))))) else(Z42.l3 R N a b c d e f i j k (w64 (l+(1:Int))) o p q)):=(hw _ _).trans (by kernel_rfl)
theorem Z42.l3_succ(R:Run)(hw:R.ok)(N a n:Nat)(b c d e f g h i j:Int)(k:List Int)(l:vK):Z42.l3 R N a (n+1) b c d e f g h i j k l=(bif (decide (i<h)) then((chk (decide (0≤i)&&decide (i<(List.length l:Int)))).bind fun _=>(Option.bind (l)[(Int.toNat i)]? fun y53=>(bif (i != e) then((idx? y53 j).bind fun y54=>(Z42.j4 R N a n b c d e i y53 f g h i ((y54,()).1 != (0:Int)) j k l)) else(Z42.j4 R N a n b c d e i y53 f g h i false j k l)))) else((chk (decide ((List.length k+List.length [j])*8≤70368744177664))).bind fun _=>(Z42.l0 R N a b c d f (w64 (g+(1:Int))) (k++[j]) l))):=(hw _ _).trans (by kernel_rfl)
theorem Z42.j2_eq(R:Run)(hw:R.ok)(N a:Nat)(b c d e f g h:Int)(i:List Int)(j:vK):Z42.j2 R N a b c d e f g h i j=(Z42.l3 R N a N b c d e f g (List.length j:Int) (0:Int) h i j):=(hw _ _).trans (by kernel_rfl)
theorem Z42.j1_eq(R:Run)(hw:R.ok)(N a:Nat)(b c d e f g h:Int)(i:List Int)(j:vK):Z42.j1 R N a b c d e f g h i j=((chk (decide (0≤e)&&decide (e<(List.length j:Int)))).bind fun _=>(Option.bind (j)[(Int.toNat e)]? fun y28=>((idx? y28 h).bind fun y29=>((chk (c != 0)).bind fun _=>((chk (decide (0≤e)&&decide (e<(List.length j:Int)))).bind fun _=>(Option.bind (j)[(Int.toNat e)]? fun y30=>(qn5 ((chk (decide (0≤b)&&decide (b*8≤70368744177664))).bind fun _=>((qce R n_Z57 o_Z57 [⟨yI,(y29,()).1⟩,⟨yI,c⟩]).bind fun r31=>((qce R n_Z24 o_Z24 [⟨yL,(List.replicate (Int.toNat b) (0:Int))⟩,⟨yL,y30⟩,⟨yI,r31.1⟩,⟨yI,c⟩]).bind fun r32=>((chk (decide (0≤e)&&decide (e<(List.length j:Int)))).bind fun _=>(Z42.j2 R N a b c (Int.tmod (w64 (d*(y29,()).1)) c) e f g h i (List.set j (Int.toNat e) r32.1)))))) ((qce R n_Z57 o_Z57 [⟨yI,(y29,()).1⟩,⟨yI,c⟩]).bind fun r115=>((chk (decide (0≤b)&&decide (b*8≤70368744177664))).bind fun _=>((qce R n_Z24 o_Z24 [⟨yL,(List.replicate (Int.toNat b) (0:Int))⟩,⟨yL,y30⟩,⟨yI,r115.1⟩,⟨yI,c⟩]).bind fun r116=>((chk (decide (0≤e)&&decide (e<(List.length j:Int)))).bind fun _=>(Z42.j2 R N a b c (Int.tmod (w64 (d*(y29,()).1)) c) e f g h i (List.set j (Int.toNat e) r116.1))))))))))))):=(hw _ _).trans (by kernel_rfl)
theorem Z42.l0_succ(R:Run)(hw:R.ok)(N n:Nat)(a b c d e:Int)(f:List Int)(g:vK):Z42.l0 R N (n+1) a b c d e f g=(bif (decide (e<d)) then((chk (decide (0≤(List.length f:Int))&&decide ((List.length f:Int)≤(List.length g:Int)))).bind fun _=>((qce R n_Z111 o_Z111 [⟨yK,(List.drop (Int.toNat (List.length f:Int)) (List.take (List.length g) g))⟩,⟨(.fn n_Z43 (.cons (.ptr (.cons yI .nil)) .nil)),((e,()),())⟩]).bind fun r8=>(bif (decide (r8.1<(0:Int))) then(Z42.l0 R N n a b (0:Int) d (w64 (e+(1:Int))) f g) else(bif (decide (r8.1>(0:Int))) then((chk (decide (0≤(w64 ((List.length f:Int)+r8.1)))&&decide ((w64 ((List.length f:Int)+r8.1))<(List.length g:Int)))).bind fun _=>(Option.bind (g)[(Int.toNat (w64 ((List.length f:Int)+r8.1)))]? fun y16=>((chk (decide (0≤(List.length f:Int))&&decide ((List.length f:Int)<(List.length g:Int)))).bind fun _=>(Option.bind (g)[(Int.toNat (List.length f:Int))]? fun y17=>((chk (decide (0≤(List.length f:Int))&&decide ((List.length f:Int)<(List.length g:Int)))).bind fun _=>((chk (decide (0≤(w64 ((List.length f:Int)+r8.1)))&&decide ((w64 ((List.length f:Int)+r8.1))<(List.length (List.set g (Int.toNat (List.length f:Int)) y16):Int)))).bind fun _=>((qce R n_Z71 o_Z71 [⟨yI,(w64 (0-c))⟩,⟨yI,b⟩]).bind fun r18=>(Z42.j1 R N n a b r18.1 (List.length f:Int) d e e f (List.set (List.set g (Int.toNat (List.length f:Int)) y16) (Int.toNat (w64 ((List.length f:Int)+r8.1))) y17))))))))) else(Z42.j1 R N n a b c (List.length f:Int) d e e f g))))) else some ⟨o_Z42,(f,c,g,())⟩):=(hw _ _).trans (by kernel_rfl)
theorem Z42.ev(R:Run)(N:Nat)(a0:vK)(a1 a2:Int):qqm E R sg_Z42 pol_Z42 F_Z42 N [⟨yK,a0⟩,⟨yI,a1⟩,⟨yI,a2⟩]=(Z42.l0 R N N a1 a2 (1:Int) a1 (0:Int) ([]:List Int) a0):=by kernel_rfl
theorem Z80.ev(R:Run)(N:Nat)(a0 a1:Int)(a2:vK):qqm E R sg_Z80 pol_Z80 F_Z80 N [⟨yI,a0⟩,⟨yI,a1⟩,⟨yK,a2⟩]=((qce R n_Z38 o_Z38 [⟨yK,a2⟩]).bind fun r1=>((qce R n_Z42 o_Z42 [⟨yK,r1.1⟩,⟨yI,a1⟩,⟨yI,a0⟩]).bind fun r2=>((chk (decide (0≤(List.length r2.1:Int))&&decide ((List.length r2.1:Int)≤(List.length r2.2.2.1:Int)))).bind fun _=>((qce R n_Z38 o_Z38 [⟨yK,(List.drop 0 (List.take (Int.toNat (List.length r2.1:Int)) r2.2.2.1))⟩]).bind fun r3=>some ⟨o_Z80,(a0,a1,r3.1,())⟩)))):=by kernel_rfl
theorem Z31.ev(R:Run)(N:Nat)(a0:vK)(a1:Int)(a2:List Int)(a3:vN)(a4:Int):qqm E R sg_Z31 pol_Z31 F_Z31 N [⟨yK,a0⟩,⟨yI,a1⟩,⟨yL,a2⟩,⟨yN,a3⟩,⟨yI,a4⟩]=((qce R n_Z32 o_Z32 [⟨yK,a0⟩,⟨yI,a1⟩,⟨yL,a2⟩,⟨yN,a3⟩,⟨yI,(w64 (a4-(1:Int)))⟩]).bind fun r1=>((qce R n_Z34 o_Z34 [⟨yI,r1.1⟩,⟨yI,r1.2.1⟩,⟨yI,r1.2.2.1⟩,⟨yL,r1.2.2.2.1⟩]).bind fun r2=>((qce R n_Z80 o_Z80 [⟨yI,a1⟩,⟨yI,r1.2.1⟩,⟨yK,r2.1⟩]).bind fun r3=>some ⟨o_Z31,(r3.1,r3.2.1,r3.2.2.1,())⟩))):=by kernel_rfl
theorem Z108.ev(R:Run)(N:Nat)(a0:List Int)(a1:Int):qqm E R sg_Z108 pol_Z108 F_Z108 N [⟨yL,a0⟩,⟨yI,a1⟩]=((qce R n_Z121 o_Z121 [⟨yL,a0⟩,⟨yI,a1⟩]).bind fun r1=>some ⟨o_Z108,((decide (r1.1≥(0:Int))),())⟩):=by kernel_rfl
def Z65.l1(R:Run)(N a n:Nat)(b:List Int)(e f g:Int)(h:List Int)(i j k l m:Int)(o p:List Int)(q r:vK):Option Dv:=R.w (some ⟨(V.dead::(.c (.box 1 0)::(V.dead::(.c (.arr 68)::(.c (.d yL b)::(V.dead::(.c (.arr 61)::(.c (.d yI e)::(.c (.arr 32)::(zd 14 (.c (.d yI f)::(.c (.d yI g)::(zd 11 (.c (.d yL h)::(.c (.d yI i)::(.c (.d yI j)::(zd 25 []))))))))))))))))),(none::(some (.box [.d yI k,.d yI l,.d yI m,.d yL o] false false)::(zo 30 (some (.arr yI p true false false)::(zo 28 (some (.arr yL q true false false)::(zo 6 (some (.arr yL r false false false)::[]))))))))⟩) fun st=>lC R pol_Z65 11 N [1,1,1,1,0,1,0,0,1,1,0,0,1,1,1,1,0,1,0,0] F_Z65 n st (kB R pol_Z65 2 (kS R pol_Z65 15 N [1,1,1,1,0,1,0,0,1,1,0,0,1,1,1,1,1] F_Z65 (kB R pol_Z65 1 (kS R pol_Z65 16 N [1,1,1,1,0,1,0,0,1,1,1] F_Z65 (kL R pol_Z65 5 N [1,1,1,1,0,1,0,0] F_Z65 a (kB R pol_Z65 0 (kS R pol_Z65 17 N [1,1,1,1,1] F_Z65 (qqQ E sg_Z65 F_Z65))))))))
def Z65.l0(R:Run)(N n:Nat)(a:List Int)(b e f g h:Int)(i:List Int)(j k:vK):Option Dv:=R.w (some ⟨(V.dead::(.c (.box 1 0)::(V.dead::(.c (.arr 68)::(.c (.d yL a)::(V.dead::(.c (.arr 61)::(zd 16 (.c (.d yI b)::(.c (.d yI e)::(zd 39 []))))))))))),(none::(some (.box [.d yI f,.d yI g,.d yI h,.d yL i] false false)::(zo 59 (some (.arr yL j true false false)::(zo 6 (some (.arr yL k false false false)::[]))))))⟩) fun st=>lC R pol_Z65 5 N [1,1,1,1,0,1,0,0] F_Z65 n st (kB R pol_Z65 0 (kS R pol_Z65 17 N [1,1,1,1,1] F_Z65 (qqQ E sg_Z65 F_Z65)))
theorem Z65.l1_succ(R:Run)(hw:R.ok)(N a n:Nat)(b:List Int)(c d e:Int)(f:List Int)(g h i j k:Int)(l m:List Int)(o p:vK):Z65.l1 R N a (n+1) b c d e f g h i j k l m o p=(bif (decide (h<g)) then((idx? f h).bind fun y36=>((chk (decide (0≤h)&&decide (h<(List.length p:Int)))).bind fun _=>(Option.bind (p)[(Int.toNat h)]? fun y37=>((idx? y37 c).bind fun y38=>((qce R n_Z71 o_Z71 [⟨yI,(w64 (0-(y38,()).1))⟩,⟨yI,i⟩]).bind fun r39=>((chk (decide (0≤(y36,()).1)&&decide ((y36,()).1<(List.length m:Int)))).bind fun _=>(Z65.l1 R N a n b c d e f g (w64 (h+(1:Int))) i j k l (List.set m (Int.toNat (y36,()).1) r39.1) o p))))))) else((chk (decide ((List.length o+List.length [m])*24≤70368744177664))).bind fun _=>(Z65.l0 R N a b d (w64 (e+(1:Int))) i j k l (o++[m]) p))):=(hw _ _).trans (by kernel_rfl)
theorem Z65.l0_succ(R:Run)(hw:R.ok)(N n:Nat)(a:List Int)(b c d e f:Int)(g:List Int)(h i:vK):Z65.l0 R N (n+1) a b c d e f g h i=(bif (decide (c<b)) then((qce R n_Z108 o_Z108 [⟨yL,a⟩,⟨yI,c⟩]).bind fun r12=>(bif r12.1 then(Z65.l0 R N n a b (w64 (c+(1:Int))) d e f g h i) else((chk (decide (0≤f)&&decide (f*8≤70368744177664))).bind fun _=>((chk (decide (0≤c)&&decide (c<(List.length (List.replicate (Int.toNat f) (0:Int)):Int)))).bind fun _=>(Z65.l1 R N n N a c b c a (List.length a:Int) (0:Int) d e f g (List.set (List.replicate (Int.toNat f) (0:Int)) (Int.toNat c) (1:Int)) h i))))) else some ⟨o_Z65,(h,())⟩):=(hw _ _).trans (by kernel_rfl)
theorem Z65.ev(R:Run)(N:Nat)(a0 a1 a2:Int)(a3:List Int):qqm E R sg_Z65 pol_Z65 F_Z65 N [⟨yI,a0⟩,⟨yI,a1⟩,⟨yI,a2⟩,⟨yL,a3⟩]=((qce R n_Z72 o_Z72 [⟨yI,a0⟩,⟨yI,a1⟩,⟨yI,a2⟩,⟨yL,a3⟩]).bind fun r1=>((qce R n_Z42 o_Z42 [⟨yK,r1.1⟩,⟨yI,a2⟩,⟨yI,a0⟩]).bind fun r2=>(Z65.l0 R N N r2.1 a2 (0:Int) a0 a1 a2 a3 ([]:List (List Int)) r2.2.2.1))):=by kernel_rfl
theorem Z67.ev(R:Run)(N:Nat)(a0:Int):qqm E R sg_Z67 pol_Z67 F_Z67 N [⟨yI,a0⟩]=some ⟨o_Z67,((a0 != (0:Int)),())⟩:=by kernel_rfl
def Z120.l0(R:Run)(N n:Nat)(a:List Int)(b e:Int):Option Dv:=R.w (some ⟨(.c (.d yL a)::(.c (.d (.fn n_Z67 .nil) ())::(zd 5 (.c (.d yI b)::(.c (.d yI e)::(zd 10 [])))))),(zo 21 [])⟩) fun st=>q2_11 R N n st (kB R pol_Z114 0 (q2_6 R N (qqQ E sg_Z114 F_Z114)))
theorem Z120.l0_succ(R:Run)(hw:R.ok)(N n:Nat)(a:List Int)(b c:Int):Z120.l0 R N (n+1) a b c=(bif (decide (c<b)) then((idx? a c).bind fun y4=>((qce R n_Z67 o_Z67 [⟨yI,(y4,()).1⟩]).bind fun r5=>(bif r5.1 then some ⟨o_Z114,(c,())⟩ else(Z120.l0 R N n a b (w64 (c+(1:Int))))))) else some ⟨o_Z114,((-1:Int),())⟩):=(hw _ _).trans (by kernel_rfl)
theorem Z120.ev(R:Run)(N:Nat)(a0:List Int):qqm E R sg_Z114 pol_Z114 F_Z114 N [⟨yL,a0⟩,⟨(.fn n_Z67 .nil),()⟩]=(Z120.l0 R N N a0 (List.length a0:Int) (0:Int)):=by kernel_rfl
def Z66.l0(R:Run)(N n:Nat)(a:vK)(b e:Int)(f:List Int):Option Dv:=R.w (some ⟨(zd 3 (.c (.arr 17)::(zd 3 (.c (.d yK a)::(.c (.d yI b)::(.c (.d yI e)::(zd 10 []))))))),(zo 17 (some (.arr yI f true false false)::(zo 5 [])))⟩) fun st=>lC R pol_Z66 3 N [1,1,0,1,0,0] F_Z66 n st (kB R pol_Z66 0 (kS R pol_Z66 7 N [1,1,1] F_Z66 (qqQ E sg_Z66 F_Z66)))
theorem Z66.l0_succ(R:Run)(hw:R.ok)(N n:Nat)(a:vK)(b c:Int)(d:List Int):Z66.l0 R N (n+1) a b c d=(bif (decide (c<b)) then((idx? a c).bind fun y5=>((qce R n_Z114 o_Z114 [⟨yL,(y5,()).1⟩,⟨(.fn n_Z67 .nil),()⟩]).bind fun r6=>((chk (decide ((List.length d+List.length [r6.1])*8≤70368744177664))).bind fun _=>(Z66.l0 R N n a b (w64 (c+(1:Int))) (d++[r6.1]))))) else some ⟨o_Z66,(d,())⟩):=(hw _ _).trans (by kernel_rfl)
theorem Z66.ev(R:Run)(N:Nat)(a0 a1:Int)(a2:vK):qqm E R sg_Z66 pol_Z66 F_Z66 N [⟨yI,a0⟩,⟨yI,a1⟩,⟨yK,a2⟩]=(Z66.l0 R N N a2 (List.length a2:Int) (0:Int) ([]:List Int)):=by kernel_rfl
theorem Z64.ev(R:Run)(N:Nat)(a0:Int):qqm E R sg_Z64 pol_Z64 F_Z64 N [⟨yI,a0⟩]=some ⟨o_Z64,((a0 != (0:Int)),())⟩:=by kernel_rfl
def Z119.l0(R:Run)(N n:Nat)(a:List Int)(b e:Int):Option Dv:=R.w (some ⟨(.c (.d yL a)::(.c (.d (.fn n_Z64 .nil) ())::(zd 5 (.c (.d yI b)::(.c (.d yI e)::(zd 10 [])))))),(zo 21 [])⟩) fun st=>q2_11 R N n st (kB R pol_Z114 0 (q2_6 R N (qqQ E sg_Z114 F_Z114)))
theorem Z119.l0_succ(R:Run)(hw:R.ok)(N n:Nat)(a:List Int)(b c:Int):Z119.l0 R N (n+1) a b c=(bif (decide (c<b)) then((idx? a c).bind fun y4=>((qce R n_Z64 o_Z64 [⟨yI,(y4,()).1⟩]).bind fun r5=>(bif r5.1 then some ⟨o_Z114,(c,())⟩ else(Z119.l0 R N n a b (w64 (c+(1:Int))))))) else some ⟨o_Z114,((-1:Int),())⟩):=(hw _ _).trans (by kernel_rfl)
theorem Z119.ev(R:Run)(N:Nat)(a0:List Int):qqm E R sg_Z114 pol_Z114 F_Z114 N [⟨yL,a0⟩,⟨(.fn n_Z64 .nil),()⟩]=(Z119.l0 R N N a0 (List.length a0:Int) (0:Int)):=by kernel_rfl
theorem Z107.ev(R:Run)(N:Nat)(a0:List Int):qqm E R sg_Z102 pol_Z102 F_Z102 N [⟨yL,a0⟩,⟨(.fn n_Z64 .nil),()⟩]=((qce R n_Z114 o_Z114 [⟨yL,a0⟩,⟨(.fn n_Z64 .nil),()⟩]).bind fun r1=>some ⟨o_Z102,((decide (r1.1≥(0:Int))),())⟩):=by kernel_rfl
theorem Z63.ev(R:Run)(N:Nat)(a0:List Int):qqm E R sg_Z63 pol_Z63 F_Z63 N [⟨yL,a0⟩]=((qce R n_Z102 o_Z102 [⟨yL,a0⟩,⟨(.fn n_Z64 .nil),()⟩]).bind fun r1=>some ⟨o_Z63,((!r1.1),())⟩):=by kernel_rfl
def Z37.l0(R:Run)(N n:Nat)(a b e:List Int)(f g h i:Int)(j:vK)(k:List Int):Option Dv:=R.w (some ⟨(V.dead::(.c (.d yL a)::(.c (.box 2 0)::(zd 3 (.c (.arr 25)::(.c (.d yL b)::(zd 4 (.c (.d yL e)::(.c (.d yI f)::(.c (.d yI g)::(zd 34 []))))))))))),(none::(none::(some (.box [.d yI h,.d yI i,.d yK j] false false)::(zo 22 (some (.arr yI k true false false)::(zo 27 []))))))⟩) fun st=>lC R pol_Z37 4 N [1,1,1,0,1,0,0] F_Z37 n st (kB R pol_Z37 0 (kS R pol_Z37 9 N [1,1,1,1] F_Z37 (qqQ E sg_Z37 F_Z37)))
theorem Z37.l0_succ(R:Run)(hw:R.ok)(N n:Nat)(a b c:List Int)(d e f g:Int)(h:vK)(i:List Int):Z37.l0 R N (n+1) a b c d e f g h i=(bif (decide (e<d)) then((idx? c e).bind fun y11=>((idx? a (y11,()).1).bind fun y12=>((chk (decide ((List.length i+List.length [(y12,()).1])*8≤70368744177664))).bind fun _=>((idx? h e).bind fun y13=>((idx? a (y11,()).1).bind fun y14=>((chk (f != 0)).bind fun _=>((qce R n_Z24 o_Z24 [⟨yL,b⟩,⟨yL,(y13,()).1⟩,⟨yI,(Int.tmod (w64 (f-(y14,()).1)) f)⟩,⟨yI,f⟩]).bind fun r15=>(Z37.l0 R N n a r15.1 c d (w64 (e+(1:Int))) f g h (i++[(y12,()).1]))))))))) else((qce R n_Z63 o_Z63 [⟨yL,b⟩]).bind fun r25=>some ⟨o_Z37,(i,r25.1,())⟩)):=(hw _ _).trans (by kernel_rfl)
theorem Z37.ev(R:Run)(N:Nat)(a0 a1:Int)(a2:vK)(a3:List Int):qqm E R sg_Z37 pol_Z37 F_Z37 N [⟨yI,a0⟩,⟨yI,a1⟩,⟨yK,a2⟩,⟨yL,a3⟩]=((qce R n_Z66 o_Z66 [⟨yI,a0⟩,⟨yI,a1⟩,⟨yK,a2⟩]).bind fun r1=>(Z37.l0 R N N a3 a3 r1.1 (List.length r1.1:Int) (0:Int) a0 a1 a2 ([]:List Int))):=by kernel_rfl
theorem Z36.ev(R:Run)(N:Nat)(a0 a1:Int)(a2:vK)(a3:List Int):qqm E R sg_Z36 pol_Z36 F_Z36 N [⟨yI,a0⟩,⟨yI,a1⟩,⟨yK,a2⟩,⟨yL,a3⟩]=((qce R n_Z37 o_Z37 [⟨yI,a0⟩,⟨yI,a1⟩,⟨yK,a2⟩,⟨yL,a3⟩]).bind fun r1=>some ⟨o_Z36,(r1.2.1,())⟩):=by kernel_rfl
theorem Z33.ev(R:Run)(N:Nat)(a0:vK)(a1:Int)(a2:List Int)(a3:vN)(a4:Int):qqm E R sg_Z33 pol_Z33 F_Z33 N [⟨yK,a0⟩,⟨yI,a1⟩,⟨yL,a2⟩,⟨yN,a3⟩,⟨yI,a4⟩]=((qce R n_Z31 o_Z31 [⟨yK,a0⟩,⟨yI,a1⟩,⟨yL,a2⟩,⟨yN,a3⟩,⟨yI,a4⟩]).bind fun r1=>((qce R n_Z32 o_Z32 [⟨yK,a0⟩,⟨yI,a1⟩,⟨yL,a2⟩,⟨yN,a3⟩,⟨yI,a4⟩]).bind fun r2=>((qce R n_Z65 o_Z65 [⟨yI,r2.1⟩,⟨yI,r2.2.1⟩,⟨yI,r2.2.2.1⟩,⟨yL,r2.2.2.2.1⟩]).bind fun r3=>((qce R n_Z55 o_Z55 [⟨yI,r1.1⟩,⟨yI,r1.2.1⟩,⟨yK,r1.2.2.1⟩,⟨yK,r3.1⟩]).bind fun r4=>some ⟨o_Z33,(r4.1,())⟩)))):=by kernel_rfl
def Z5.l0(R:Run)(N n:Nat)(a:Int)(b:vK)(e:Int)(f:List Int)(g:vN)(h:List Int):Option Dv:=R.w (some ⟨(V.dead::(.c (.box 1 0)::(V.dead::(V.dead::(.c (.arr 18)::(zd 4 (.c (.d yI a)::(zd 11 [])))))))),(none::(some (.box [.d yK b,.d yI e,.d yL f,.d yN g] false false)::(zo 16 (some (.arr yI h true false false)::(zo 6 [])))))⟩) fun st=>lC R pol_Z5 5 N [1,1,1,0,1,0,0] F_Z5 n st (kB R pol_Z5 0 (kS R pol_Z5 9 N [1,1,1,1] F_Z5 (qqQ E sg_Z5 F_Z5)))
theorem Z5.l0_succ(R:Run)(hw:R.ok)(N n:Nat)(a:Int)(b:vK)(c:Int)(d:List Int)(e:vN)(f:List Int):Z5.l0 R N (n+1) a b c d e f=(bif (decide (a<(4:Int))) then((qce R n_Z33 o_Z33 [⟨yK,b⟩,⟨yI,c⟩,⟨yL,d⟩,⟨yN,e⟩,⟨yI,a⟩]).bind fun r8=>((qce R n_Z78 o_Z78 [⟨yK,r8.1⟩]).bind fun r9=>((chk (decide ((List.length f+List.length [r9.1])*8≤70368744177664))).bind fun _=>(Z5.l0 R N n (w64 (a+(1:Int))) b c d e (f++[r9.1]))))) else some ⟨o_Z5,(f,(0:Int),())⟩):=(hw _ _).trans (by kernel_rfl)
theorem Z5.ev(R:Run)(N:Nat)(a0:vK)(a1:Int)(a2:List Int)(a3:vN):qqm E R sg_Z5 pol_Z5 F_Z5 N [⟨yK,a0⟩,⟨yI,a1⟩,⟨yL,a2⟩,⟨yN,a3⟩]=((qce R n_Z8 o_Z8 [⟨yK,a0⟩,⟨yI,a1⟩,⟨yL,a2⟩,⟨yN,a3⟩]).bind fun r1=>(bif (!r1.1) then some ⟨o_Z5,(([]:List Int),(1:Int),())⟩ else(Z5.l0 R N N (0:Int) a0 a1 a2 a3 ([]:List Int)))):=by kernel_rfl
theorem Z12.ev(R:Run)(N:Nat)(a0 a1 a2:Int)(a3:(Int×Unit))(a4:((List Int)×Unit)):qqm E R sg_Z12 pol_Z12 F_Z12 N [⟨yI,a0⟩,⟨yI,a1⟩,⟨yI,a2⟩,⟨(.ptr (.cons yI .nil)),a3⟩,⟨(.ptr (.cons yL .nil)),a4⟩]=((idx? a4.1 a0).bind fun y1=>((idx? a4.1 a2).bind fun y2=>((qce R n_Z88 o_Z88 [⟨yI,a3.1⟩,⟨yI,(y1,()).1⟩,⟨yI,(y2,()).1⟩]).bind fun r3=>some ⟨o_Z12,(r3.1,r3.2.1,r3.2.2.1,r3.2.2.2.1,())⟩))):=by kernel_rfl
def Z75.l0(R:Run)(N n:Nat)(a:((Int×Unit)×((List Int)×Unit)×Unit))(b:(List (Int×Int×Int×Unit)))(e f g h:Int)(i:vN)(j:vK)(k:List Int):Option Dv:=R.w (some ⟨(zd 3 (.c (.d (.fn n_Z12 (.cons (.ptr (.cons yI .nil)) (.cons (.ptr (.cons yL .nil)) .nil))) a)::(zd 4 (.c (.box 8 0)::(.c (.box 9 0)::(zd 10 (.c (.d (.sl (.st (.cons yI (.cons yI (.cons yI .nil))))) b)::(.c (.d yI e)::(.c (.d yI f)::(zd 14 [])))))))))),(zo 8 (some (.box [.nils yL,.d yI g,.nils yI,.nils (.st yM)] false false)::(some (.box [.arr 42,.d yI h,.arr 43,.arr 33] false false)::(zo 23 (some (.arr (.st yM) i true false false)::(zo 8 (some (.arr yL j true false false)::(some (.arr yI k true false false)::[]))))))))⟩) fun st=>lC R pol_Z73 3 N [1,1,0,1,0,0] F_Z73 n st (kB R pol_Z73 0 (kS R pol_Z73 7 N [1,1,1] F_Z73 (qqQ E sg_Z73 F_Z73)))
theorem Z75.l0_succ(R:Run)(hw:R.ok)(N n:Nat)(a:((Int×Unit)×((List Int)×Unit)×Unit))(b:(List (Int×Int×Int×Unit)))(c d e f:Int)(g:vN)(h:vK)(i:List Int):Z75.l0 R N (n+1) a b c d e f g h i=(bif (decide (d<c)) then((idx? b d).bind fun y13=>((qce R n_Z12 o_Z12 [⟨yI,y13.1⟩,⟨yI,y13.2.1⟩,⟨yI,y13.2.2.1⟩,⟨(.ptr (.cons yI .nil)),a.1⟩,⟨(.ptr (.cons yL .nil)),a.2.1⟩]).bind fun r14=>((qce R n_Z39 o_Z39 [⟨yI,r14.1⟩,⟨yI,r14.2.1⟩,⟨yI,r14.2.2.1⟩,⟨yL,r14.2.2.2.1⟩]).bind fun r15=>((chk (decide ((List.length g+List.length [(r15.1,r15.2.1,r15.2.2.1,r15.2.2.2.1,())])*48≤70368744177664))).bind fun _=>(Z75.l0 R N n a b c (w64 (d+(1:Int))) e f (g++[(r15.1,r15.2.1,r15.2.2.1,r15.2.2.2.1,())]) h i))))) else some ⟨o_Z73,(h,f,i,g,())⟩):=(hw _ _).trans (by kernel_rfl)
theorem Z75.ev(R:Run)(N:Nat)(a0:vK)(a1:Int)(a2:List Int)(a3:((Int×Unit)×((List Int)×Unit)×Unit)):qqm E R sg_Z73 pol_Z73 F_Z73 N [⟨yK,a0⟩,⟨yI,a1⟩,⟨yL,a2⟩,⟨(.fn n_Z12 (.cons (.ptr (.cons yI .nil)) (.cons (.ptr (.cons yL .nil)) .nil))),a3⟩]=((qce R n_Z54 o_Z54 [⟨yK,a0⟩]).bind fun r1=>((qce R n_Z96 o_Z96 [⟨yL,a2⟩]).bind fun r2=>((qce R n_Z30 o_Z30 [⟨yK,a0⟩]).bind fun r3=>(Z75.l0 R N N a3 r3.1 (List.length r3.1:Int) (0:Int) (0:Int) a1 ([]:List vM) r1.1 r2.1)))):=by kernel_rfl
def Z11.j1(R:Run)(N:Nat)(a b:Int)(e:Bool)(f:vK)(g h:Int):Option Dv:=R.w (some ⟨(V.dead::(V.dead::(.c (.d yI a)::(.c (.d yI b)::(.c (.box 4 0)::(.c (.box 5 0)::(V.dead::(V.dead::(.c (.box 8 0)::(zd 22 (.c (.d .bool e)::(zd 12 [])))))))))))),(zo 4 (some (.box [.d yK f] false false)::(some (.box [.d yI g] false false)::(none::(none::(some (.box [.nils yL,.d yI h,.nils yI,.nils (.st yM)] false false)::(zo 43 [])))))))⟩) fun st=>eC R pol_Z11 N [1,1,0,1] F_Z11 st (kS R pol_Z11 5 N [1,1,1] F_Z11 (qqQ E sg_Z11 F_Z11))
def Z11.j0(R:Run)(N:Nat)(a b:Int)(e:Bool)(f:vK)(g h:Int):Option Dv:=R.w (some ⟨(V.dead::(V.dead::(.c (.d yI a)::(.c (.d yI b)::(.c (.box 4 0)::(.c (.box 5 0)::(V.dead::(V.dead::(.c (.box 8 0)::(zd 9 (.c (.d .bool e)::(zd 25 [])))))))))))),(zo 4 (some (.box [.d yK f] false false)::(some (.box [.d yI g] false false)::(none::(none::(some (.box [.nils yL,.d yI h,.nils yI,.nils (.st yM)] false false)::(zo 43 [])))))))⟩) fun st=>eC R pol_Z11 N [1,0,1] F_Z11 st (kS R pol_Z11 3 N [1,1] F_Z11 (qqQ E sg_Z11 F_Z11))
theorem Z11.j1_eq(R:Run)(hw:R.ok)(N:Nat)(a b:Int)(c:Bool)(d:vK)(e f:Int):Z11.j1 R N a b c d e f=(bif c then some ⟨o_Z11,(([]:List (List Int)),(0:Int),([]:List Int),([]:List vM),(2:Int),())⟩ else((qce R n_Z44 o_Z44 [⟨yK,d⟩,⟨yI,(0:Int)⟩]).bind fun r16=>((chk (decide (0≤a)&&decide (a<(List.length r16.1:Int)))).bind fun _=>((qce R n_Z73 o_Z73 [⟨yK,d⟩,⟨yI,e⟩,⟨yL,(List.set r16.1 (Int.toNat a) b)⟩,⟨(.fn n_Z12 (.cons (.ptr (.cons yI .nil)) (.cons (.ptr (.cons yL .nil)) .nil))),((e,()),((List.set r16.1 (Int.toNat a) b),()),())⟩]).bind fun r17=>some ⟨o_Z11,(r17.1,r17.2.1,r17.2.2.1,r17.2.2.2.1,(0:Int),())⟩)))):=(hw _ _).trans (by kernel_rfl)
theorem Z11.j0_eq(R:Run)(hw:R.ok)(N:Nat)(a b:Int)(c:Bool)(d:vK)(e f:Int):Z11.j0 R N a b c d e f=(bif c then some ⟨o_Z11,(([]:List (List Int)),(0:Int),([]:List Int),([]:List vM),(1:Int),())⟩ else((qce R n_Z78 o_Z78 [⟨yK,d⟩]).bind fun r8=>((qce R n_Z86 o_Z86 [⟨yI,a⟩,⟨yI,(0:Int)⟩,⟨yI,(w64 (r8.1-(1:Int)))⟩]).bind fun r9=>(bif (!r9.1) then(Z11.j1 R N a b true d e f) else((qce R n_Z86 o_Z86 [⟨yI,b⟩,⟨yI,(0:Int)⟩,⟨yI,(3:Int)⟩]).bind fun r18=>(Z11.j1 R N a b (!r18.1) d e f)))))):=(hw _ _).trans (by kernel_rfl)
theorem Z11.ev(R:Run)(N:Nat)(a0:vK)(a1 a2 a3:Int):qqm E R sg_Z11 pol_Z11 F_Z11 N [⟨yK,a0⟩,⟨yI,a1⟩,⟨yI,a2⟩,⟨yI,a3⟩]=((qce R n_Z17 o_Z17 [⟨yK,a0⟩]).bind fun r1=>(bif (!r1.1) then(Z11.j0 R N a2 a3 true a0 a1 (0:Int)) else((qce R n_Z20 o_Z20 [⟨yI,a1⟩]).bind fun r25=>(Z11.j0 R N a2 a3 (!r25.1) a0 a1 (0:Int))))):=by kernel_rfl
def Z93.l0(R:Run)(N n:Nat)(a b:List Int)(e:Int):Option Dv:=R.w (some ⟨(.c (.d yL a)::(.c (.d yL b)::(zd 3 (.c (.d yI e)::(zd 20 []))))),(zo 28 [])⟩) fun st=>lC R pol_Z93 4 N [1,1,0,1,0,0] F_Z93 n st (kB R pol_Z93 0 (kS R pol_Z93 8 N [1,1,1] F_Z93 (qqQ E sg_Z93 F_Z93)))
theorem Z93.l0_succ(R:Run)(hw:R.ok)(N n:Nat)(a b:List Int)(c:Int):Z93.l0 R N (n+1) a b c=(bif (decide (c<(List.length a:Int))) then((idx? a c).bind fun y4=>((idx? b c).bind fun y5=>(bif ((y4,()).1 != (y5,()).1) then some ⟨o_Z93,(false,())⟩ else(Z93.l0 R N n a b (w64 (c+(1:Int))))))) else some ⟨o_Z93,(true,())⟩):=(hw _ _).trans (by kernel_rfl)
theorem Z93.ev(R:Run)(N:Nat)(a0 a1:List Int):qqm E R sg_Z93 pol_Z93 F_Z93 N [⟨yL,a0⟩,⟨yL,a1⟩]=(bif ((List.length a0:Int) != (List.length a1:Int)) then some ⟨o_Z93,(false,())⟩ else(Z93.l0 R N N a0 a1 (0:Int))):=by kernel_rfl
def Z90.j5(R:Run)(N a:Nat)(b:List Int)(e f:Int)(g:Bool):Option Dv:=R.w (some ⟨(zd 28 (.c (.d yL b)::(V.dead::(.c (.d yI e)::(.c (.d yI f)::(zd 176 (.c (.d .bool g)::[]))))))),(zo 211 [])⟩) fun st=>eC R pol_Z90 N [1,1,1,1,1,1,1,1,1,1,1,1,1,1,1,1,1,1,1,1,1,0,1,0,0,1,0,0,1] F_Z90 st (kB R pol_Z90 5 (kS R pol_Z90 35 N [1,1,1,1,1,1,1,1,1,1,1,1,1,1,1,1,1,1,1,1,1,0,1,0,0,1,1] F_Z90 (kL R pol_Z90 34 N [1,1,1,1,1,1,1,1,1,1,1,1,1,1,1,1,1,1,1,1,1,0,1,0,0] F_Z90 a (kB R pol_Z90 4 (q2_7 R N (qqQ E sg_Z90 F_Z90))))))
def Z90.l4(R:Run)(N n:Nat)(a:List Int)(b e:Int):Option Dv:=R.w (some ⟨(zd 28 (.c (.d yL a)::(V.dead::(.c (.d yI b)::(.c (.d yI e)::(zd 177 [])))))),(zo 211 [])⟩) fun st=>lC R pol_Z90 34 N [1,1,1,1,1,1,1,1,1,1,1,1,1,1,1,1,1,1,1,1,1,0,1,0,0] F_Z90 n st (kB R pol_Z90 4 (q2_7 R N (qqQ E sg_Z90 F_Z90)))
def Z90.j3(R:Run)(N:Nat)(a:List Int)(b:Int)(e:Bool):Option Dv:=R.w (some ⟨(zd 28 (.c (.d yL a)::(V.dead::(.c (.d yI b)::(zd 151 (.c (.d .bool e)::(zd 26 []))))))),(zo 211 [])⟩) fun st=>eC R pol_Z90 N [1,1,1,1,1,1,1,1,1,1,1,1,1,1,1,1,1,1,1,1,0,1] F_Z90 st (kS R pol_Z90 33 N [1,1,1,1,1,1,1,1,1,1,1,1,1,1,1,1,1,1,1,1,1] F_Z90 (qqQ E sg_Z90 F_Z90))
def Z90.j2(R:Run)(N:Nat)(a:List Int)(b:Int)(e:Bool)(f:vK):Option Dv:=R.w (some ⟨(V.dead::(.c (.d (.sl (.int .u8)) a)::(zd 3 (.c (.box 5 0)::(.c (.d yI b)::(zd 137 (.c (.d .bool e)::(zd 64 [])))))))),(zo 5 (some (.box [.d yK f] false false)::(zo 205 [])))⟩) fun st=>eC R pol_Z90 N [1,1,1,1,1,1,1,1,1,1,1,1,1,0,1] F_Z90 st (kS R pol_Z90 24 N [1,1,1,1,1,1,1,1,1,1,1,1,1,1] F_Z90 (qqQ E sg_Z90 F_Z90))
def Z90.l1(R:Run)(N n:Nat)(a:List Int)(b:Int)(e:List Int)(f:Int)(g:vK)(h i:List Int):Option Dv:=R.w (some ⟨(V.dead::(.c (.d (.sl (.int .u8)) a)::(zd 3 (.c (.box 5 0)::(.c (.d yI b)::(.c (.d yL e)::(V.dead::(.c (.arr 44)::(.c (.arr 45)::(V.dead::(.c (.d yI f)::(zd 196 [])))))))))))),(zo 5 (some (.box [.d yK g] false false)::(zo 38 (some (.arr yI h true false false)::(some (.arr yI i true false false)::(zo 165 []))))))⟩) fun st=>lC R pol_Z90 13 N [1,1,1,1,1,1,1,1,0,1,0,0] F_Z90 n st (kB R pol_Z90 2 (kS R pol_Z90 18 N [1,1,1,1,1,1,1,1,1] F_Z90 (qqQ E sg_Z90 F_Z90)))
def Z90.l0(R:Run)(N n:Nat)(a:List Int)(b:Int)(e:List Int)(f:Int)(g:vK)(h i:List Int):Option Dv:=R.w (some ⟨(V.dead::(.c (.d (.sl (.int .u8)) a)::(zd 3 (.c (.box 5 0)::(.c (.d yI b)::(.c (.d yL e)::(V.dead::(.c (.arr 44)::(.c (.arr 45)::(.c (.d yI f)::(zd 197 []))))))))))),(zo 5 (some (.box [.d yK g] false false)::(zo 38 (some (.arr yI h true false false)::(some (.arr yI i true false false)::(zo 165 []))))))⟩) fun st=>lC R pol_Z90 9 N [1,1,1,1,1,1,1,0,1,0,0] F_Z90 n st (kB R pol_Z90 0 (kS R pol_Z90 12 N [1,1,1,1,1,1,1,1] F_Z90 (qqQ E sg_Z90 F_Z90)))
theorem Z90.j5_eq(R:Run)(hw:R.ok)(N a:Nat)(b:List Int)(c d:Int)(e:Bool):Z90.j5 R N a b c d e=(bif e then some ⟨o_Z90,(false,())⟩ else(Z90.l4 R N a b c (w64 (d+(1:Int))))):=(hw _ _).trans (by kernel_rfl)
theorem Z90.l4_succ(R:Run)(hw:R.ok)(N n:Nat)(a:List Int)(b c:Int):Z90.l4 R N (n+1) a b c=(bif (decide (c<(4:Int))) then(bif (c==b) then((idx? a c).bind fun y59=>(bif ((y59,()).1 != (2:Int)) then(Z90.j5 R N n a b c true) else(bif (c != b) then((idx? a c).bind fun y67=>(Z90.j5 R N n a b c ((y67,()).1 != (0:Int)))) else(Z90.j5 R N n a b c false)))) else(bif (c != b) then((idx? a c).bind fun y76=>(Z90.j5 R N n a b c ((y76,()).1 != (0:Int)))) else(Z90.j5 R N n a b c false))) else some ⟨o_Z90,(true,())⟩):=(hw _ _).trans (by kernel_rfl)
theorem Z90.j3_eq(R:Run)(hw:R.ok)(N:Nat)(a:List Int)(b:Int)(c:Bool):Z90.j3 R N a b c=(bif c then some ⟨o_Z90,(false,())⟩ else(Z90.l4 R N N a b (0:Int))):=(hw _ _).trans (by kernel_rfl)
theorem Z90.j2_eq(R:Run)(hw:R.ok)(N:Nat)(a:List Int)(b:Int)(c:Bool)(d:vK):Z90.j2 R N a b c d=(bif c then some ⟨o_Z90,(false,())⟩ else(bif ((List.length d:Int)==(0:Int)) then some ⟨o_Z90,(true,())⟩ else((qce R n_Z91 o_Z91 [⟨(.sl (.int .u8)),a⟩,⟨yI,(10:Int)⟩,⟨yI,(List.length d:Int)⟩]).bind fun r49=>((qce R n_Z11 o_Z11 [⟨yK,d⟩,⟨yI,b⟩,⟨yI,r49.1⟩,⟨yI,(2:Int)⟩]).bind fun r50=>((qce R n_Z5 o_Z5 [⟨yK,r50.1⟩,⟨yI,r50.2.1⟩,⟨yL,r50.2.2.1⟩,⟨yN,r50.2.2.2.1⟩]).bind fun r51=>((idx? d r49.1).bind fun y52=>(bif (r50.2.2.2.2.1 != (0:Int)) then(Z90.j3 R N r51.1 (w64 ((List.length (y52,()).1:Int)-(1:Int))) true) else(bif (r51.2.1 != (0:Int)) then(Z90.j3 R N r51.1 (w64 ((List.length (y52,()).1:Int)-(1:Int))) true) else(Z90.j3 R N r51.1 (w64 ((List.length (y52,()).1:Int)-(1:Int))) ((List.length r51.1:Int) != (4:Int))))))))))):=(hw _ _).trans (by kernel_rfl)
theorem Z90.l1_succ(R:Run)(hw:R.ok)(N n:Nat)(a:List Int)(b:Int)(c:List Int)(d:Int)(e:vK)(f g:List Int):Z90.l1 R N (n+1) a b c d e f g=(bif (decide (d<(List.length c:Int))) then((idx? c d).bind fun y27=>((idx? e (y27,()).1).bind fun y28=>((idx? (y28,()).1 (1:Int)).bind fun y29=>((chk (decide (0≤(y29,()).1)&&decide ((y29,()).1<(List.length g:Int)))).bind fun _=>(Option.bind (g)[(Int.toNat (y29,()).1)]? fun y30=>((qce R n_Z123 o_Z123 [⟨yI,y30⟩,⟨yI,b⟩]).bind fun r31=>((idx? (y28,()).1 (0:Int)).bind fun y32=>((chk (decide (0≤(y32,()).1)&&decide ((y32,()).1<(List.length g:Int)))).bind fun _=>(Option.bind (g)[(Int.toNat (y32,()).1)]? fun y33=>((chk (b != 0)).bind fun _=>((chk (decide ((List.length f+List.length [(Int.tmod (w64 (y33*r31.1)) b)])*8≤70368744177664))).bind fun _=>(Z90.l1 R N n a b c (w64 (d+(1:Int))) e (f++[(Int.tmod (w64 (y33*r31.1)) b)]) g)))))))))))) else((qce R n_Z14 o_Z14 [⟨yK,e⟩,⟨yI,b⟩,⟨yL,f⟩]).bind fun r41=>((qce R n_Z6 o_Z6 [⟨yK,e⟩,⟨yI,b⟩,⟨yI,(1:Int)⟩]).bind fun r42=>((qce R n_Z5 o_Z5 [⟨yK,r41.1⟩,⟨yI,r41.2.1⟩,⟨yL,r41.2.2.1⟩,⟨yN,r41.2.2.2.1⟩]).bind fun r43=>((qce R n_Z5 o_Z5 [⟨yK,r42.1⟩,⟨yI,r42.2.1⟩,⟨yL,r42.2.2.1⟩,⟨yN,r42.2.2.2.1⟩]).bind fun r44=>(bif (r41.2.2.2.2.1 != (0:Int)) then(Z90.j2 R N a b true e) else(bif (r42.2.2.2.2.1 != (0:Int)) then(Z90.j2 R N a b true e) else((qce R n_Z8 o_Z8 [⟨yK,r41.1⟩,⟨yI,r41.2.1⟩,⟨yL,r41.2.2.1⟩,⟨yN,r41.2.2.2.1⟩]).bind fun r95=>(bif (!r95.1) then(Z90.j2 R N a b true e) else(bif (r43.2.1 != (0:Int)) then(Z90.j2 R N a b true e) else(bif (r44.2.1 != (0:Int)) then(Z90.j2 R N a b true e) else((qce R n_Z93 o_Z93 [⟨yL,r43.1⟩,⟨yL,r44.1⟩]).bind fun r108=>(Z90.j2 R N a b (!r108.1) e))))))))))))):=(hw _ _).trans (by kernel_rfl)
theorem Z90.l0_succ(R:Run)(hw:R.ok)(N n:Nat)(a:List Int)(b:Int)(c:List Int)(d:Int)(e:vK)(f g:List Int):Z90.l0 R N (n+1) a b c d e f g=(bif (decide (d<(10:Int))) then((qce R n_Z91 o_Z91 [⟨(.sl (.int .u8)),a⟩,⟨yI,d⟩,⟨yI,(w64 (b-(1:Int)))⟩]).bind fun r12=>((chk (decide ((List.length g+List.length [(w64 ((1:Int)+r12.1))])*8≤70368744177664))).bind fun _=>(Z90.l0 R N n a b c (w64 (d+(1:Int))) e f (g++[(w64 ((1:Int)+r12.1))])))) else(Z90.l1 R N N a b c (0:Int) e f g)):=(hw _ _).trans (by kernel_rfl)
theorem Z90.ev(R:Run)(N:Nat)(a0 a1:List Int):qqm E R sg_Z90 pol_Z90 F_Z90 N [⟨(.sl (.int .u8)),a0⟩,⟨(.sl (.int .u8)),a1⟩]=((qce R n_Z92 o_Z92 [⟨(.sl (.int .u8)),a0⟩,⟨(.sl (.int .u8)),a1⟩]).bind fun r1=>(bif r1.1 then some ⟨o_Z90,(true,())⟩ else((qce R n_Z124 o_Z124 [⟨(.sl (.int .u8)),a0⟩]).bind fun r2=>((qce R n_Z125 o_Z125 [⟨(.sl (.int .u8)),a1⟩]).bind fun r3=>((qce R n_Z126 o_Z126 [⟨yK,r2.1⟩,⟨yI,(1:Int)⟩]).bind fun r4=>(Z90.l0 R N N a1 r3.1 r4.1 (0:Int) r2.1 ([]:List Int) ([]:List Int))))))):=by kernel_rfl
end
end VeT


open Go Go.Proofs Ve
set_option maxRecDepth 100000
namespace VeT
@[reducible] noncomputable def qaW:Func:=Tryz.f104
@[reducible] def qbR:Ty:=(.cons (.sl (.lab yL)) .nil)
noncomputable def qcv:Sig:=⟨[(true,3),(false,1)],[],qbR,[(false,1)],[.own],[]⟩
noncomputable def qaD:Pol:=⟨40,[(20,[some 20]),(28,[some 39])],[(3,⟨[2,5,8,9,10],[2,21],[(5,21,(.lab yL),true)],[],[],[21],[]⟩)],[],[],[]⟩
noncomputable def impl_independent_L.l0(R:Run)(N:Nat)(n:Nat)(t8__1:(List (Value×(List Int))))(t9__2:Int)(t10__3:Int)(v_4:Int)(v_5:Int)(v_6:vK)(o21_7:(List (Value×(List Int)))):Option Dv:=R.w (some ⟨(V.dead::(V.dead::(.c (.box 2 0)::(V.dead::(V.dead::(.c (.arr 21)::(V.dead::(V.dead::(.c (.d (.sl (.lab yL)) t8__1)::(.c (.d yI t9__2)::(.c (.d yI t10__3)::(zd 24 [])))))))))))),(none::(none::(some (.box [.d yI v_4,.d yI v_5,.d yK v_6] false false)::(zo 18 (some (.arr (.lab yL) o21_7 false false false)::(zo 18 []))))))⟩) fun st=>qkZ (qbb E R qaD N (sub [1,1,0,1,0,0] (bodyOf qaW))) (qbP R qaD.loopM 3) n st (qqn (qbP R qaD.blkM 0) 0 (qql (qbP R qaD.seqM 9) (qbb E R qaD N (sub [1,1,1] (bodyOf qaW))) (qqQ E qcv qaW)))
theorem impl_independent_L.l0_succ(R:Run)(hw:R.ok)(N:Nat)(n:Nat)(t8__1:(List (Value×(List Int))))(t9__2:Int)(t10__3:Int)(v_4:Int)(v_5:Int)(v_6:vK)(o21_7:(List (Value×(List Int)))):impl_independent_L.l0 R N (n+1) t8__1 t9__2 t10__3 v_4 v_5 v_6 o21_7=(bif (decide (t10__3<t9__2)) then(Option.bind (idx? t8__1 t10__3) fun y8=>(Option.bind (qce R n_Z36 o_Z36 [⟨yI,v_4⟩,⟨yI,v_5⟩,⟨yK,v_6⟩,⟨yL,(y8,()).1.2⟩]) fun r9=>(bif (!r9.1) then(Option.bind (chk (decide ((List.length o21_7+List.length [(y8,()).1])*24≤70368744177664))) fun _=>(qn5 (Option.bind (qce R n_Z38 o_Z38 [⟨yK,v_6⟩]) fun r10=>(Option.bind (chk (decide ((List.length r10.1+List.length [(y8,()).1.2])*24≤70368744177664))) fun _=>(Option.bind (qce R n_Z80 o_Z80 [⟨yI,v_4⟩,⟨yI,v_5⟩,⟨yK,(r10.1++[(y8,()).1.2])⟩]) fun r11=>(impl_independent_L.l0 R N n t8__1 t9__2 (w64 (t10__3+(1:Int))) r11.1 r11.2.1 r11.2.2.1 (o21_7++[(y8,()).1]))))) (Option.bind (qce R n_Z38 o_Z38 [⟨yK,v_6⟩]) fun r19=>(Option.bind (chk (decide ((List.length r19.1+List.length [(y8,()).1.2])*24≤70368744177664))) fun _=>(Option.bind (qce R n_Z80 o_Z80 [⟨yI,v_4⟩,⟨yI,v_5⟩,⟨yK,(r19.1++[(y8,()).1.2])⟩]) fun r20=>(impl_independent_L.l0 R N n t8__1 t9__2 (w64 (t10__3+(1:Int))) r20.1 r20.2.1 r20.2.2.1 (o21_7++[(y8,()).1]))))))) else(impl_independent_L.l0 R N n t8__1 t9__2 (w64 (t10__3+(1:Int))) v_4 v_5 v_6 o21_7)))) else some ⟨qbR,(o21_7,())⟩):=(hw _ _).trans (by kernel_rfl)
theorem impl_independent_L.ev(R:Run)(N:Nat)(a0:Int)(a1:Int)(a2:vK)(a3:(List (Value×(List Int)))):qqm E R qcv qaD qaW N [⟨yI,a0⟩,⟨yI,a1⟩,⟨yK,a2⟩,⟨(.sl (.lab yL)),a3⟩]=(impl_independent_L.l0 R N N a3 (List.length a3:Int) (0:Int) a0 a1 a2 ([]:List (Value×(List Int)))):=by kernel_rfl
@[reducible] noncomputable def qak:Func:=Tryz.f273
@[reducible] def qas:Ty:=(.cons (.sl (.lab yL)) .nil)
noncomputable def qaG:Sig:=⟨[(false,1),(false,1)],[.take false,.imm],qas,[(false,1)],[.own],[]⟩
noncomputable def qac:Pol:=⟨68,[],[(4,⟨[0,1,5],[66],[],[],[],[],[]⟩),(9,⟨[0,1,5,6,7],[66],[],[],[],[],[]⟩)],[],[],[]⟩
noncomputable def slices_CompactFunc_SSint64_Sint64_L.l1(R:Run)(N:Nat)(n110100:Nat)(n:Nat)(t5__6:Int)(t6__7:Nat)(t6__8:Nat)(t7__9:Int)(o66_10:(List (Value×(List Int)))):Option Dv:=R.w (some ⟨(.c (.arr 66)::(.c (.d (.fn n_Z109 .nil) ())::(zd 3 (.c (.d yI t5__6)::(.c (.sub 66 t6__7 t6__8 1)::(.c (.d yI t7__9)::(zd 58 []))))))),(zo 66 (some (.arr (.lab yL) o66_10 false false false)::(none::[])))⟩) fun st=>qkZ (qbb E R qac N (sub [1,1,0,1,0,0,1,0,0,1,0,1,0,1,0,0] (bodyOf qak))) (qbP R qac.loopM 9) n st (qqn (qbP R qac.blkM 2) 2 (qql (qbP R qac.seqM 14) (qbb E R qac N (sub [1,1,0,1,0,0,1,0,0,1,0,1,1] (bodyOf qak))) (qqn (qbP R qac.blkM 1) 1 (qql (qbP R qac.seqM 5) (qbb E R qac N (sub [1,1,0,1,0,0,1,1] (bodyOf qak))) (qra (qbb E R qac N (sub [1,1,0,1,0,0] (bodyOf qak))) (qbP R qac.loopM 4) n110100 (qqn (qbP R qac.blkM 0) 0 (qql (qbP R qac.seqM 16) (qbb E R qac N (sub [1,1,1] (bodyOf qak))) (qqQ E qaG qak))))))))
noncomputable def slices_CompactFunc_SSint64_Sint64_L.l0(R:Run)(N:Nat)(n:Nat)(t5__1:Int)(o66_2:(List (Value×(List Int)))):Option Dv:=R.w (some ⟨(.c (.arr 66)::(.c (.d (.fn n_Z109 .nil) ())::(zd 3 (.c (.d yI t5__1)::(zd 60 []))))),(zo 66 (some (.arr (.lab yL) o66_2 false false false)::(none::[])))⟩) fun st=>qkZ (qbb E R qac N (sub [1,1,0,1,0,0] (bodyOf qak))) (qbP R qac.loopM 4) n st (qqn (qbP R qac.blkM 0) 0 (qql (qbP R qac.seqM 16) (qbb E R qac N (sub [1,1,1] (bodyOf qak))) (qqQ E qaG qak)))
theorem slices_CompactFunc_SSint64_Sint64_L.l1_succ(R:Run)(hw:R.ok)(N:Nat)(n110100:Nat)(n:Nat)(t5__6:Int)(t6__7:Nat)(t6__8:Nat)(t7__9:Int)(o66_10:(List (Value×(List Int)))):slices_CompactFunc_SSint64_Sint64_L.l1 R N n110100 (n+1) t5__6 t6__7 t6__8 t7__9 o66_10=(Option.bind (chk (decide (t6__7≤t6__8)&&decide (t6__8≤List.length o66_10))) fun _=>(bif (decide (t7__9<((t6__8-t6__7:Nat):Int))) then(Option.bind (chk (decide (0≤t7__9)&&decide ((t6__7:Nat)+t7__9<((t6__8:Nat):Int))&&decide (t6__8≤List.length o66_10))) fun _=>(Option.bind (o66_10)[(t6__7+Int.toNat t7__9)]? fun y11=>(Option.bind (chk (decide (0≤(w64 (t7__9-(1:Int))))&&decide ((t6__7:Nat)+(w64 (t7__9-(1:Int)))<((t6__8:Nat):Int))&&decide (t6__8≤List.length o66_10))) fun _=>(Option.bind (o66_10)[(t6__7+Int.toNat (w64 (t7__9-(1:Int))))]? fun y12=>(Option.bind (qce R n_Z109 o_Z109 [⟨yL,y11.2⟩,⟨yL,y12.2⟩]) fun r13=>(bif (!r13.1) then(Option.bind (chk (decide (0≤t7__9)&&decide ((t6__7:Nat)+t7__9<((t6__8:Nat):Int))&&decide (t6__8≤List.length o66_10))) fun _=>(Option.bind (o66_10)[(t6__7+Int.toNat t7__9)]? fun y14=>(Option.bind (chk (decide (0≤t5__6)&&decide (t5__6<(List.length o66_10:Int)))) fun _=>(slices_CompactFunc_SSint64_Sint64_L.l1 R N n110100 n (w64 (t5__6+(1:Int))) t6__7 t6__8 (w64 (t7__9+(1:Int))) (List.set o66_10 (Int.toNat t5__6) y14))))) else(slices_CompactFunc_SSint64_Sint64_L.l1 R N n110100 n t5__6 t6__7 t6__8 (w64 (t7__9+(1:Int))) o66_10))))))) else(Option.bind (chk (decide (0≤t5__6)&&decide (t5__6≤(List.length o66_10:Int)))) fun _=>(Option.bind (chk (decide ((Int.toNat t5__6)≤(List.length o66_10))&&decide ((List.length o66_10)≤List.length o66_10))) fun _=>(Option.bind (chk (decide (0≤t5__6)&&decide (t5__6≤(List.length (List.take (Int.toNat t5__6) o66_10++List.replicate ((List.length o66_10)-(Int.toNat t5__6)) (Value.slice none 0 0,([]:(List Int)))++List.drop (List.length o66_10) o66_10):Int)))) fun _=>some ⟨qas,((List.drop 0 (List.take (Int.toNat t5__6) (List.take (Int.toNat t5__6) o66_10++List.replicate ((List.length o66_10)-(Int.toNat t5__6)) (Value.slice none 0 0,([]:(List Int)))++List.drop (List.length o66_10) o66_10))),())⟩))))):=(hw _ _).trans (by kernel_rfl)
theorem slices_CompactFunc_SSint64_Sint64_L.l0_succ(R:Run)(hw:R.ok)(N:Nat)(n:Nat)(t5__1:Int)(o66_2:(List (Value×(List Int)))):slices_CompactFunc_SSint64_Sint64_L.l0 R N (n+1) t5__1 o66_2=(bif (decide (t5__1<(List.length o66_2:Int))) then(Option.bind (chk (decide (0≤t5__1)&&decide (t5__1<(List.length o66_2:Int)))) fun _=>(Option.bind (o66_2)[(Int.toNat t5__1)]? fun y3=>(Option.bind (chk (decide (0≤(w64 (t5__1-(1:Int))))&&decide ((w64 (t5__1-(1:Int)))<(List.length o66_2:Int)))) fun _=>(Option.bind (o66_2)[(Int.toNat (w64 (t5__1-(1:Int))))]? fun y4=>(Option.bind (qce R n_Z109 o_Z109 [⟨yL,y3.2⟩,⟨yL,y4.2⟩]) fun r5=>(bif r5.1 then(Option.bind (chk (decide (0≤t5__1)&&decide (t5__1≤(List.length o66_2:Int)))) fun _=>(slices_CompactFunc_SSint64_Sint64_L.l1 R N n N t5__1 (Int.toNat t5__1) (List.length o66_2) (1:Int) o66_2)) else(slices_CompactFunc_SSint64_Sint64_L.l0 R N n (w64 (t5__1+(1:Int))) o66_2))))))) else some ⟨qas,(o66_2,())⟩):=(hw _ _).trans (by kernel_rfl)
theorem slices_CompactFunc_SSint64_Sint64_L.ev(R:Run)(N:Nat)(a0:(List (Value×(List Int)))):qqm E R qaG qac qak N [⟨(.sl (.lab yL)),a0⟩,⟨(.fn n_Z109 .nil),()⟩]=(bif (decide ((List.length a0:Int)<(2:Int))) then some ⟨qas,(a0,())⟩ else(slices_CompactFunc_SSint64_Sint64_L.l0 R N N (1:Int) a0)):=by kernel_rfl
end VeT
namespace Go.Proofs
open Go.Shelf
def Tryz.sortf272_ren:Go.Shelf.Ren:=⟨fun | 6=>272 | 15=>309 | 14=>317 | 28=>338 | 29=>339 | 20=>342 | 21=>343 | 22=>344 | 23=>345 | 24=>346 | 25=>347 | 26=>348 | 27=>349 | 46=>357 | 47=>353 | 48=>354 | 49=>358 | 50=>359 | 57=>361 | n=>n,fun | 22=>24 | 24=>27 | 25=>214 | 3=>3 | 39=>246 | 0=>0 | 53=>279 | 55=>185 | 4=>4 | 46=>273 | 45=>272 | 50=>227 | 5=>5 | 9=>9 | 66=>286 | 70=>290 | 76=>294 | 77=>153 | n=>n,fun | n=>n⟩
theorem Tryz.sortf272:Go.Proofs.SlLaysF.n6 Tryz.prog Tryz.sortf272_ren:={
 mixed:=by kernel_rfl
 f6:=⟨Tryz.f272.name,by decide,Tryz.func272.trans (congrArg some (by kernel_rfl))⟩
 f14:=⟨Tryz.f317.name,by decide,Tryz.func317.trans (congrArg some (by kernel_rfl))⟩
 f15:=Tryz.func309.trans (congrArg some (by kernel_rfl))
 f20:=⟨Tryz.f342.name,by decide,Tryz.func342.trans (congrArg some (by kernel_rfl))⟩
 f21:=⟨Tryz.f343.name,by decide,Tryz.func343.trans (congrArg some (by kernel_rfl))⟩
 f22:=⟨Tryz.f344.name,by decide,Tryz.func344.trans (congrArg some (by kernel_rfl))⟩
 f23:=⟨Tryz.f345.name,by decide,Tryz.func345.trans (congrArg some (by kernel_rfl))⟩
 f24:=⟨Tryz.f346.name,by decide,Tryz.func346.trans (congrArg some (by kernel_rfl))⟩
 f25:=⟨Tryz.f347.name,by decide,Tryz.func347.trans (congrArg some (by kernel_rfl))⟩
 f26:=⟨Tryz.f348.name,by decide,Tryz.func348.trans (congrArg some (by kernel_rfl))⟩
 f27:=⟨Tryz.f349.name,by decide,Tryz.func349.trans (congrArg some (by kernel_rfl))⟩
 f28:=Tryz.func338.trans (congrArg some (by kernel_rfl))
 f29:=Tryz.func339.trans (congrArg some (by kernel_rfl))
 f46:=⟨Tryz.f357.name,by decide,Tryz.func357.trans (congrArg some (by kernel_rfl))⟩
 f47:=Tryz.func353.trans (congrArg some (by kernel_rfl))
 f48:=Tryz.func354.trans (congrArg some (by kernel_rfl))
 f49:=⟨Tryz.f358.name,by decide,Tryz.func358.trans (congrArg some (by kernel_rfl))⟩
 f50:=⟨Tryz.f359.name,by decide,Tryz.func359.trans (congrArg some (by kernel_rfl))⟩
 f57:=⟨Tryz.f361.name,by decide,Tryz.func361.trans (congrArg some (by kernel_rfl))⟩
 t0:=Tryz.underlying0
 a0:=Tryz.isAgg0
 z0:=Tryz.sizeOf0
 v0:=Tryz.zeroValue0
 t3:=Tryz.underlying3
 a3:=Tryz.isAgg3
 z3:=Tryz.sizeOf3
 v3:=Tryz.zeroValue3
 t4:=Tryz.underlying4
 a4:=Tryz.isAgg4
 z4:=Tryz.sizeOf4
 v4:=Tryz.zeroValue4
 t5:=Tryz.underlying5
 a5:=Tryz.isAgg5
 z5:=Tryz.sizeOf5
 v5:=Tryz.zeroValue5
 t9:=Tryz.underlying9
 a9:=Tryz.isAgg9
 z9:=Tryz.sizeOf9
 v9:=Tryz.zeroValue9
 t22:=Tryz.underlying24
 a22:=Tryz.isAgg24
 z22:=Tryz.sizeOf24
 v22:=Tryz.zeroValue24
 a24:=Tryz.isAgg27
 z24:=Tryz.sizeOf27
 t25:=Tryz.underlying214
 a25:=Tryz.isAgg214
 z25:=Tryz.sizeOf214
 v25:=Tryz.zeroValue214
 t39:=Tryz.underlying246
 a39:=Tryz.isAgg246
 z39:=Tryz.sizeOf246
 v39:=Tryz.zeroValue246
 t45:=Tryz.underlying272
 a45:=Tryz.isAgg272
 z45:=Tryz.sizeOf272
 v45:=Tryz.zeroValue272
 t46:=Tryz.underlying273
 a46:=Tryz.isAgg273
 z46:=Tryz.sizeOf273
 v46:=Tryz.zeroValue273
 t50:=Tryz.underlying227
 a50:=Tryz.isAgg227
 z50:=Tryz.sizeOf227
 v50:=Tryz.zeroValue227
 t53:=Tryz.underlying279
 a53:=Tryz.isAgg279
 z53:=Tryz.sizeOf279
 v53:=Tryz.zeroValue279
 t55:=Tryz.underlying185
 a55:=Tryz.isAgg185
 z55:=Tryz.sizeOf185
 v55:=Tryz.zeroValue185
 t66:=Tryz.underlying286
 a66:=Tryz.isAgg286
 z66:=Tryz.sizeOf286
 v66:=Tryz.zeroValue286
 t70:=Tryz.underlying290
 a70:=Tryz.isAgg290
 z70:=Tryz.sizeOf290
 v70:=Tryz.zeroValue290
 t76:=Tryz.underlying294
 a76:=Tryz.isAgg294
 z76:=Tryz.sizeOf294
 v76:=Tryz.zeroValue294
 t77:=Tryz.underlying153
 a77:=Tryz.isAgg153
 z77:=Tryz.sizeOf153
 v77:=Tryz.zeroValue153 }
end Go.Proofs
namespace VeT
section
open Go Go.Proofs Go.RowKit Go.Lib
section
open Go Ve
theorem qmU{ρ:Type}{a:Option ρ}:Ve.qn5 a a=a:=by unfold Ve.qn5;split<;>first | rfl | (rename_i h;exact absurd rfl h)
theorem qjb(R:Run)(hw:R.ok)(N:Nat)(l:List (Value×List Int))(hl:l.length≤1048576):∀(suf pre:List (Value×List Int)) (n:Nat) (p W:Int) (B:List (List Int)) (ms:List Bool) (acc:List (Value×List Int)),
  l=pre++suf→acc.length≤pre.length→qn8 n_Z36 n_Z38 n_Z80 R p W B (suf.map Prod.snd)=some ms →
  impl_independent_L.l0 R N (suf.length+1+n) l (l.length:Int) (pre.length:Int) p W B acc=some ⟨qbR,(acc++sel ms suf,())⟩:=by
 intro suf
 induction suf with
 | nil =>
  intro pre n p W B ms acc hlp hacc h
  obtain rfl:=Option.some.inj h
  rw[show([]:List (Value×List Int)).length+1+n=n+1 by simp;omega,impl_independent_L.l0_succ R hw]
  have:decide ((pre.length:Int)<(l.length:Int))=false:=decide_eq_false (by rw[hlp];simp)
  rw[this]
  simp[sel]
 | cons y suf ih =>
  intro pre n p W B ms acc hlp hacc h
  obtain⟨v,x⟩:=y
  have hlen:pre.length<l.length:=by rw[hlp];simp
  rw[show((v,x)::suf).length+1+n=(suf.length+1+n)+1 by simp;omega,impl_independent_L.l0_succ R hw]
  have h1:decide ((pre.length:Int)<(l.length:Int))=true:=decide_eq_true (by omega)
  have h2:idx? l (pre.length:Int)=some (v,x):=by
   unfold idx?
   rw[decide_eq_true (by omega:(0:Int)≤(pre.length:Int)),cond_true,Int.toNat_natCast,hlp];simp
  have hc:∀ {k:Nat},k≤1048576→chk (decide ((k+1)*24≤70368744177664))=some ():=fun {k} hk=>by
   unfold chk;rw[decide_eq_true (by omega)];rfl
  rw[h1,cond_true,h2,Option.bind_some]
  simp only[List.map_cons,qn8] at h
  obtain⟨r,hr,h⟩:=Option.bind_eq_some_iff.1 h
  have hr':qce R n_Z36 o_Z36 [⟨yI,p⟩,⟨yI,W⟩,⟨yK,B⟩,⟨yL,x⟩]=some r:=hr
  show Option.bind (qce R n_Z36 o_Z36 [⟨yI,p⟩,⟨yI,W⟩,⟨yK,B⟩,⟨yL,x⟩]) _=_
  rw[hr',Option.bind_some]
  obtain⟨r,⟨⟩⟩:=r
  have hpre:(pre++[(v,x)]).length=pre.length+1:=by simp
  have hw1:w64 ((pre.length:Int)+1)=((pre++[(v,x)]).length:Int):=by rw[hpre,qah (by omega)]
  rw[hw1]
  cases r with
  | true =>
   obtain⟨ms',hm,rfl⟩:=Option.map_eq_some_iff.1 h
   have:=ih (pre++[(v,x)]) n p W B ms' acc (by rw[hlp];simp) (by omega) hm
   exact this
  | false =>
   have h:(qce R n_Z38 o_Z38 [⟨yK,B⟩]).bind (fun b=>(chk (decide ((b.1.length+1)*24≤70368744177664))).bind fun _ =>
    (qce R n_Z80 o_Z80 [⟨.int .i64,p⟩,⟨.int .i64,W⟩,⟨yK,b.1++[x]⟩]).bind fun s=>(qn8 n_Z36 n_Z38 n_Z80 R s.1 s.2.1 s.2.2.1 (suf.map Prod.snd)).map (true::·))=some ms:=h
   obtain⟨b,hb,h⟩:=Option.bind_eq_some_iff.1 h
   obtain⟨u,hu,h⟩:=Option.bind_eq_some_iff.1 h
   obtain⟨s,hs,h⟩:=Option.bind_eq_some_iff.1 h
   obtain⟨ms',hm,rfl⟩:=Option.map_eq_some_iff.1 h
   have:=ih (pre++[(v,x)]) n s.1 s.2.1 s.2.2.1 ms' (acc++[(v,x)]) (by rw[hlp];simp) (by simp;omega) hm
   have hca:=hc (k:=acc.length) (by omega)
   show Option.bind (chk (decide ((List.length acc+1)*24≤70368744177664))) _=_
   rw[hca,Option.bind_some]
   refine qmU.trans ?_
   rw[hb,Option.bind_some]
   show Option.bind (chk (decide ((List.length b.1+1)*24≤70368744177664))) _=_
   rw[hu,Option.bind_some]
   show Option.bind (qce R n_Z80 o_Z80 [⟨.int .i64,p⟩,⟨.int .i64,W⟩,⟨yK,b.1++[x]⟩]) _=_
   rw[hs,Option.bind_some]
   refine this.trans ?_
   simp[sel,List.append_assoc]
theorem qfR(hE:EnvOk E){R:Run}(hR:qfZ E R)(hw:R.ok)(hRw:∀ o f,R.w o f=o.bind f){args:List Dv}{dv:Dv}(h:qgq n_Z36 n_Z38 n_Z80 R args=some dv) :
  qa1 E.P ⟨[(true,3),(false,1)],[.imm,.imm,.imm,.take true],.cons tLL .nil,[(false,1)],[.deep],[]⟩ 104 args dv:=by
 match args,h with
 | [d0,d1,d2,d3],h =>
  simp only[qgq,Option.bind_eq_some_iff] at h
  obtain⟨p,h0,W,h1,B,h2,xs,h3,h⟩:=h
  obtain rfl:=to_some h0
  obtain rfl:=to_some h1
  obtain rfl:=to_some h2
  obtain rfl:=to_some h3
  split at h
  ·rename_i hx
   obtain⟨ms,hm,rfl⟩:=Option.map_eq_some_iff.1 h
   refine qkG fun vs hv=>?_
   have hz:(vs.zip xs).map Prod.snd=xs:=qe6 hv
   have hl:(vs.zip xs).length=xs.length:=by rw[List.length_zip,hv,Nat.min_self]
   refine qjp hE hR hRw (pol:=qaD) (fn:=qaW) (N:=xs.length+1) (by kernel_rfl) ?_
   refine(impl_independent_L.ev R _ p W B (vs.zip xs)).trans ?_
   have:=qjb R hw (xs.length+1) (vs.zip xs) (by omega) (vs.zip xs) [] 0 p W B ms [] rfl (Nat.le_refl _) (by rw[hz];exact hm)
   rw[hl] at this ⊢
   exact this
  ·cases h
end
open Ve in
theorem qfQ{R:Run}(hR:∀ args dv,R.r 230 args=some dv→qa1 Tryz.prog ⟨[(false,1),(false,1)],[],.cons tI .nil,[(false,1)],[],[]⟩ 230 args dv){args:List Dv}{dv:Dv}(h:qgr 230 R args=some dv) :
  qa1 Tryz.prog ⟨[(false,1),(false,1)],[.io true,.imm],.cons tLL .nil,[],[],[]⟩ 272 args dv :=
 qie (fun enc h1c cf hO blk cap d w a b c e=>Any.slices_SortFunc Tryz.sortf272 enc h1c cf hO 230 #[] blk 0 cap d w (enters_of Tryz.func230 (by kernel_rfl) rfl) a b c e)
  (fun A cap fv w=>(AnyF.slices_SortFunc_none { Tryz.sortf272 with } A cap fv w).mono fun e w' ⟨h,hw⟩=>⟨h,by rw[hw],by rw[hw];exact Kin.refl _⟩) hR h
section
open Go Ve
theorem qlp(R:Run)(hw:R.ok)(N n0:Nat)(l:List (Value×List Int))(hl:l.length≤1048576)
  (heq:∀(i:Nat) (h:i+1<l.length),R.r n_Z109 [⟨tL,l[i+1].2⟩,⟨tL,l[i].2⟩]=some ⟨.cons .bool .nil,(l[i+1].2==l[i].2,())⟩) (k0:Nat) (hk0:k0<l.length) :
  ∀(d k2 kw n:Nat) (o:List (Value×List Int)),k0+k2+d=l.length→1≤k2→kw+1≤k0+k2→o.length=l.length→o.take kw=sel (mC (l.map Prod.snd) (k0+k2)) l→(∀ i,k0+k2≤i+1→o[i]? = l[i]?) →
  slices_CompactFunc_SSint64_Sint64_L.l1 R N n0 (d+1+n) (kw:Int) k0 l.length (k2:Int) o=some ⟨qas,(sel (mC (l.map Prod.snd) l.length) l,())⟩:=by
 intro d
 induction d with
 | zero =>
  intro k2 kw n o hd h1 hkw hol ht hsame
  have e:k0+k2=l.length:=by omega
  rw[show 0+1+n=n+1 by omega,slices_CompactFunc_SSint64_Sint64_L.l1_succ R hw]
  have c1:chk (decide (k0≤l.length)&&decide (l.length≤o.length))=some ():=by unfold chk;rw[decide_eq_true (by omega),decide_eq_true (by omega)];rfl
  have c2:decide ((k2:Int)<((l.length-k0:Nat):Int))=false:=decide_eq_false (by omega)
  have c3:chk (decide ((0:Int)≤(kw:Int))&&decide ((kw:Int)≤(o.length:Int)))=some ():=by unfold chk;rw[decide_eq_true (by omega),decide_eq_true (by omega)];rfl
  have c4:chk (decide (kw≤o.length)&&decide (o.length≤o.length))=some ():=by unfold chk;rw[decide_eq_true (by omega),decide_eq_true (by omega)];rfl
  rw[c1,Option.bind_some,c2,cond_false,c3,Option.bind_some]
  simp only[Int.toNat_natCast]
  rw[c4,Option.bind_some]
  have hlen:(List.take kw o++List.replicate (o.length-kw) ((Value.slice none 0 0,[]):Value×List Int)++List.drop o.length o).length=o.length:=by simp;omega
  have c6:chk (decide ((0:Int)≤(kw:Int))&&decide ((kw:Int)≤((List.take kw o++List.replicate (o.length-kw) ((Value.slice none 0 0,[]):Value×List Int)++List.drop o.length o).length:Int)))=some ():=by unfold chk;rw[decide_eq_true (by omega),decide_eq_true (by omega)];rfl
  rw[c6,Option.bind_some,List.drop_zero,List.append_assoc,List.take_append_of_le_length (by simp;omega),List.take_take,Nat.min_self,ht,e]
 | succ d ih =>
  intro k2 kw n o hd h1 hkw hol ht hsame
  obtain⟨m,hm⟩:∃ m,m+1=k0+k2:=⟨k0+k2-1,by omega⟩
  have hml:m+1<l.length:=by omega
  rw[show d+1+1+n=(d+1+n)+1 by omega,slices_CompactFunc_SSint64_Sint64_L.l1_succ R hw]
  have c1:chk (decide (k0≤l.length)&&decide (l.length≤o.length))=some ():=by unfold chk;rw[decide_eq_true (by omega),decide_eq_true (by omega)];rfl
  have c2:decide ((k2:Int)<((l.length-k0:Nat):Int))=true:=decide_eq_true (by omega)
  have c3:chk (decide ((0:Int)≤(k2:Int))&&decide ((k0:Int)+(k2:Int)<((l.length:Nat):Int))&&decide (l.length≤o.length))=some ():=by unfold chk;rw[decide_eq_true (by omega),decide_eq_true (by omega),decide_eq_true (by omega)];rfl
  have ew:w64 ((k2:Int)-1)=((k2-1:Nat):Int):=by rw[qai (by omega) (by omega)];omega
  have c4:chk (decide ((0:Int)≤((k2-1:Nat):Int))&&decide ((k0:Int)+((k2-1:Nat):Int)<((l.length:Nat):Int))&&decide (l.length≤o.length))=some ():=by unfold chk;rw[decide_eq_true (by omega),decide_eq_true (by omega),decide_eq_true (by omega)];rfl
  have g1:o[k0+k2]? = some l[m+1]:=by rw[hsame _ (by omega),← hm,List.getElem?_eq_getElem hml]
  have g2:o[k0+(k2-1)]? = some l[m]:=by rw[hsame _ (by omega),show k0+(k2-1)=m by omega,List.getElem?_eq_getElem (by omega)]
  have hr:qce R n_Z109 o_Z109 [⟨yL,l[m+1].2⟩,⟨yL,l[m].2⟩]=some (l[m+1].2==l[m].2,()):=by
   unfold qce
   exact(congrArg (Option.bind · _) (heq m hml)).trans rfl
  rw[c1,Option.bind_some,c2,cond_true,c3,Option.bind_some]
  simp only[Int.toNat_natCast,ew]
  rw[g1,Option.bind_some,c4,Option.bind_some,g2,Option.bind_some]
  refine(congrArg (Option.bind · _) hr).trans ?_
  rw[Option.bind_some]
  have e2:w64 ((k2:Int)+1)=((k2+1:Nat):Int):=qah (by omega)
  have hx1:(l.map Prod.snd)[k0+k2]? = some l[m+1].2:=by rw[← hm,List.getElem?_map,List.getElem?_eq_getElem hml];rfl
  have hx2:(l.map Prod.snd)[k0+k2-1]? = some l[m].2:=by rw[show k0+k2-1=m by omega,List.getElem?_map,List.getElem?_eq_getElem (by omega)];rfl
  have hms:mC (l.map Prod.snd) (k0+(k2+1))=mC (l.map Prod.snd) (k0+k2)++[!(l[m+1].2==l[m].2)]:=by
   show mC (l.map Prod.snd) (k0+k2)++[k0+k2==0 || !((l.map Prod.snd)[k0+k2]? == (l.map Prod.snd)[k0+k2-1]?)]=_
   rw[hx1,hx2,show(k0+k2==0)=false from beq_false_of_ne (by omega),Bool.false_or]
   rfl
  have hsel:sel (mC (l.map Prod.snd) (k0+(k2+1))) l=sel (mC (l.map Prod.snd) (k0+k2)) l++(bif !(l[m+1].2==l[m].2) then [l[m+1]] else []):=by
   rw[hms,qfc (by rw[qgk];omega)]
   congr 2
   congr 1
   have:(mC (l.map Prod.snd) (k0+k2)).length=m+1:=by rw[qgk,hm]
   simp only[this]
  cases hb:(l[m+1].2==l[m].2) with
  | true =>
   rw[hb] at hsel
   simp only[Bool.not_true,cond_false,List.append_nil] at hsel ⊢
   rw[e2]
   exact ih (k2+1) kw n o (by omega) (by omega) (by omega) hol (by rw[hsel];exact ht) fun i hi=>hsame i (by omega)
  | false =>
   rw[hb] at hsel
   have c5:chk (decide ((0:Int)≤(kw:Int))&&decide ((kw:Int)<(o.length:Int)))=some ():=by unfold chk;rw[decide_eq_true (by omega),decide_eq_true (by omega)];rfl
   simp only[Bool.not_false,cond_true] at hsel ⊢
   rw[Option.bind_some,Option.bind_some,c5,Option.bind_some,e2,show w64 ((kw:Int)+1)=((kw+1:Nat):Int) from qah (by omega)]
   refine ih (k2+1) (kw+1) n (o.set kw l[m+1]) (by omega) (by omega) (by omega) (by rw[List.length_set];exact hol) ?_ fun i hi=>?_
   ·rw[hsel,← ht,List.take_succ_eq_append_getElem (by rw[List.length_set];omega),List.getElem_set_self,List.take_set_of_le (Nat.le_refl _)]
   ·rw[List.getElem?_set_ne (by omega)];exact hsame i (by omega)
theorem qjR(R:Run)(hw:R.ok)(N:Nat)(l:List (Value×List Int))(hl:l.length≤1048576)(hN:l.length+1≤N)
  (heq:∀(i:Nat) (h:i+1<l.length),R.r n_Z109 [⟨tL,l[i+1].2⟩,⟨tL,l[i].2⟩]=some ⟨.cons .bool .nil,(l[i+1].2==l[i].2,())⟩) :
  ∀(d k n:Nat),k+d=l.length→1≤k→sel (mC (l.map Prod.snd) k) l=l.take k →
  slices_CompactFunc_SSint64_Sint64_L.l0 R N (d+1+n) (k:Int) l=some ⟨qas,(sel (mC (l.map Prod.snd) l.length) l,())⟩:=by
 intro d
 induction d with
 | zero =>
  intro k n hd h1 ht
  rw[show 0+1+n=n+1 by omega,slices_CompactFunc_SSint64_Sint64_L.l0_succ R hw]
  have c2:decide ((k:Int)<(l.length:Int))=false:=decide_eq_false (by omega)
  rw[c2,cond_false,← show k=l.length by omega,ht,show k=l.length by omega,List.take_length]
 | succ d ih =>
  intro k n hd h1 ht
  obtain⟨m,rfl⟩:∃ m,k=m+1:=⟨k-1,by omega⟩
  have hml:m+1<l.length:=by omega
  rw[show d+1+1+n=(d+1+n)+1 by omega,slices_CompactFunc_SSint64_Sint64_L.l0_succ R hw]
  have c2:decide (((m+1:Nat):Int)<(l.length:Int))=true:=decide_eq_true (by omega)
  have c3:chk (decide ((0:Int)≤((m+1:Nat):Int))&&decide (((m+1:Nat):Int)<(l.length:Int)))=some ():=by unfold chk;rw[decide_eq_true (by omega),decide_eq_true (by omega)];rfl
  have ew:w64 (((m+1:Nat):Int)-1)=(m:Int):=by rw[qai (by omega) (by omega)];omega
  have c4:chk (decide ((0:Int)≤(m:Int))&&decide ((m:Int)<(l.length:Int)))=some ():=by unfold chk;rw[decide_eq_true (by omega),decide_eq_true (by omega)];rfl
  have g1:l[m+1]? = some l[m+1]:=List.getElem?_eq_getElem hml
  have g2:l[m]? = some l[m]:=List.getElem?_eq_getElem (by omega)
  have hr:qce R n_Z109 o_Z109 [⟨yL,l[m+1].2⟩,⟨yL,l[m].2⟩]=some (l[m+1].2==l[m].2,()):=by
   unfold qce
   exact(congrArg (Option.bind · _) (heq m hml)).trans rfl
  refine Eq.trans (b:=(chk (decide ((0:Int)≤((m+1:Nat):Int))&&decide (((m+1:Nat):Int)<(l.length:Int)))).bind _) (by rw[c2,cond_true]) ?_
  rw[c3,Option.bind_some]
  simp only[Int.toNat_natCast,ew]
  rw[g1,Option.bind_some,c4,Option.bind_some,g2,Option.bind_some]
  refine(congrArg (Option.bind · _) hr).trans ?_
  rw[Option.bind_some]
  have hx1:(l.map Prod.snd)[m+1]? = some l[m+1].2:=by rw[List.getElem?_map,g1];rfl
  have hx2:(l.map Prod.snd)[m+1-1]? = some l[m].2:=by rw[Nat.add_sub_cancel,List.getElem?_map,g2];rfl
  have hms:mC (l.map Prod.snd) (m+1+1)=mC (l.map Prod.snd) (m+1)++[!(l[m+1].2==l[m].2)]:=by
   show mC (l.map Prod.snd) (m+1)++[m+1==0 || !((l.map Prod.snd)[m+1]? == (l.map Prod.snd)[m+1-1]?)]=_
   rw[hx1,hx2,show(m+1==0)=false from rfl,Bool.false_or]
   rfl
  have hsel:sel (mC (l.map Prod.snd) (m+1+1)) l=sel (mC (l.map Prod.snd) (m+1)) l++(bif !(l[m+1].2==l[m].2) then [l[m+1]] else []):=by
   rw[hms,qfc (by rw[qgk];omega)]
   congr 2
   congr 1
   simp only[qgk]
  cases hb:(l[m+1].2==l[m].2) with
  | true =>
   rw[hb] at hsel
   simp only[Bool.not_true,cond_false,List.append_nil] at hsel
   have c5:chk (decide ((0:Int)≤((m+1:Nat):Int))&&decide (((m+1:Nat):Int)≤(l.length:Int)))=some ():=by unfold chk;rw[decide_eq_true (by omega),decide_eq_true (by omega)];rfl
   simp only[cond_true]
   rw[c5,Option.bind_some]
   have:=qlp R hw N (d+1+n) l hl heq (m+1) hml (l.length-(m+2)) 1 (m+1) (N-(l.length-(m+2)+1)) l (by omega) (Nat.le_refl _) (by omega) rfl (by rw[hsel];exact ht.symm) fun _ _=>rfl
   rw[show l.length-(m+2)+1+(N-(l.length-(m+2)+1))=N by omega] at this
   exact this
  | false =>
   rw[hb] at hsel
   simp only[Bool.not_false,cond_true] at hsel
   simp only[cond_false]
   rw[qah (by omega)]
   exact ih (m+1+1) n (by omega) (by omega) (by rw[hsel,ht,List.take_succ_eq_append_getElem hml])
theorem qkN(R:Run)(hw:R.ok)(N:Nat)(l:List (Value×List Int))(hl:l.length≤1048576)(hN:l.length+1≤N)
  (heq:∀(i:Nat) (h:i+1<l.length),R.r n_Z109 [⟨tL,l[i+1].2⟩,⟨tL,l[i].2⟩]=some ⟨.cons .bool .nil,(l[i+1].2==l[i].2,())⟩) :
  (bif (decide ((List.length l:Int)<(2:Int))) then some ⟨qas,(l,())⟩ else slices_CompactFunc_SSint64_Sint64_L.l0 R N N (1:Int) l)=some ⟨qas,(sel (mC (l.map Prod.snd) l.length) l,())⟩:=by
 by_cases h2:l.length<2
 ·have c:decide ((l.length:Int)<2)=true:=decide_eq_true (by omega)
  rw[c,cond_true]
  match l,h2 with
  | [],_=>rfl
  | [y],_=>rfl
 ·have c:decide ((l.length:Int)<2)=false:=decide_eq_false (by omega)
  rw[c,cond_false]
  have:=qjR R hw N l hl hN heq (l.length-1) 1 (N-l.length) (by omega) (Nat.le_refl _) (by
   match l,h2 with
   | y::z::l,_=>rfl)
  rw[show l.length-1+1+(N-l.length)=N by omega] at this
  exact this
theorem qfT(hE:EnvOk E){R:Run}(hR:qfZ E R)(hw:R.ok)(hRw:∀ o f,R.w o f=o.bind f){args:List Dv}{dv:Dv}(h:qdh n_Z109 R args=some dv) :
  qa1 E.P ⟨[(false,1),(false,1)],[.take true,.imm],.cons tLL .nil,[(false,1)],[.deep],[]⟩ 273 args dv:=by
 match args,h with
 | [d0,d1],h =>
  simp only[qdh,Option.bind_eq_some_iff] at h
  obtain⟨xs,h0,h⟩:=h
  obtain rfl:=to_some h0
  split at h
  ·rename_i hc
   obtain⟨hx,rfl,heq⟩:=hc
   obtain rfl:=Option.some.inj h
   refine qjG fun vs hv=>?_
   have hz:(vs.zip xs).map Prod.snd=xs:=qe6 hv
   have hl:(vs.zip xs).length=xs.length:=by rw[List.length_zip,hv,Nat.min_self]
   have hq:∀(i:Nat) (h:i+1<(vs.zip xs).length),R.r n_Z109 [⟨tL,(vs.zip xs)[i+1].2⟩,⟨tL,(vs.zip xs)[i].2⟩]=some ⟨.cons .bool .nil,((vs.zip xs)[i+1].2==(vs.zip xs)[i].2,())⟩:=fun i h=>by
    have e1:(vs.zip xs)[i+1].2=xs[i+1]'(by omega):=by rw[List.getElem_zip]
    have e2:(vs.zip xs)[i].2=xs[i]'(by omega):=by rw[List.getElem_zip]
    rw[e1,e2];exact heq i (by omega)
   refine qjp hE hR hRw (pol:=qac) (fn:=qak) (N:=xs.length+1) (by kernel_rfl) ?_
   refine(slices_CompactFunc_SSint64_Sint64_L.ev R _ (vs.zip xs)).trans ?_
   refine(qkN R hw (xs.length+1) (vs.zip xs) (by omega) (by omega) hq).trans ?_
   rw[hz,hl]
  ·cases h
end
set_option maxHeartbeats 2000000 in
set_option maxRecDepth 100000 in
theorem qjY(base:Option Addr)(l c n:Nat)(w:World)(hlc:l≤c)(hc63:c≤9223372036854775807)(hn63:n≤9223372036854775807)(hroom:l+n≤c) :
  Calls Tryz.prog 285 #[.slice base l c,.int .i64 n] w fun e w'=>e=.returned (.slice base l c)∧w'=w:=by
 have h1:¬ ((n:Int)<0):=by omega
 have h2:wrap64 ((c:Int)-(l:Int))=(c:Int)-(l:Int):=by unfold wrap64;omega
 have h3:wrap64 ((n:Int)-((c:Int)-(l:Int)))=(n:Int)-((c:Int)-(l:Int)):=by unfold wrap64;omega
 have h4:¬ ((n:Int)-((c:Int)-(l:Int))>0):=by omega
 go_enter Tryz.func285,Tryz.ntmps285
 go_wp2
 go_ret
 exact⟨rfl,rfl⟩
set_option maxHeartbeats 4000000 in
set_option maxRecDepth 100000 in
theorem qj1(i0:TypeInfo)(z:Value)(hi0:Tryz.prog.info? 2=some i0)(hz0:i0.zero=some z)(hs0:0<i0.size)
    (base:Option Addr) (l c n:Nat) (cs:List Value) (w:World) (hlc:l≤c) (hroom:c<l+n) (hbig:(l+n)*i0.bytes≤140737488355328) (h63:l+n≤4611686018427387904)
    (hcl:cs.length=c*i0.size) (hnil:base=none→c=0) (hcs:∀ a,base=some a→∀(j:Nat) v,cs[j]? = some v→w.cell? (a.add j)=some v) :
    Calls Tryz.prog 285 #[.slice base l c,.int .i64 n] w fun e w' =>
      e=.returned (.slice (some ⟨w.heap.size,0,none⟩) l (grownCap w (l+n) c 2)) ∧
      w'=w.drew.alloc (.cells (cs.toArray++Builtin.zeroCells z.cells (l+n-c)++Builtin.zeroCells z.cells (grownCap w (l+n) c 2-(l+n))) 2):=by
  have h1:¬ ((n:Int)<0):=by omega
  have h2:wrap64 ((c:Int)-(l:Int))=(c:Int)-(l:Int):=by unfold wrap64;omega
  have h3:wrap64 ((n:Int)-((c:Int)-(l:Int)))=(n:Int)-((c:Int)-(l:Int)):=by unfold wrap64;omega
  have h4:(n:Int)-((c:Int)-(l:Int))>0:=by omega
  have z25:∀ w,(Go.sizeOf 2).run Tryz.prog w=.ok i0.size w:=fun w=>by simp[Go.sizeOf,typeInfo,hi0]
  have hck:c+(l+n-c)=l+n:=by omega
  have hold:(Builtin.firstCells i0.size c (.slice base c c)).run Tryz.prog w.drew=.ok cs.toArray w.drew:=by
    cases base with
    | none =>
      have h0:=hnil rfl
      subst h0
      have hc0:cs=[]:=List.length_eq_zero_iff.1 (by simpa using hcl)
      rw[hc0]
      exact run_firstCells_none w.drew i0.size 0 0 0
    | some a=>exact run_firstCells_some w.drew i0.size c a c c cs hcl (fun j v hj=>hcs a rfl j v hj)
  have hrz:∀ ty,(Builtin.append_ #[27,3] ty #[.slice base c c,.int .i64 ((n:Int)-((c:Int)-(l:Int)))]).run Tryz.prog w =
      .ok (.slice (some ⟨w.heap.size,0,none⟩) (l+n) (grownCap w (l+n) c 2)) (w.drew.alloc (.cells (cs.toArray++Builtin.zeroCells z.cells (l+n-c)++Builtin.zeroCells z.cells (grownCap w (l+n) c 2-(l+n))) 2)):=fun ty=>by
    have h:=Lib.run_append_grow_zeros w 27 3 ty 2 i0 z .i64 .i64 Tryz.underlying27 Tryz.underlying3 hi0 hz0 base c c cs hold (l+n-c) (by omega) hs0 (by omega) (by omega)
      (by have:(l+n-c)*i0.bytes≤(l+n)*i0.bytes:=Nat.mul_le_mul_right _ (by omega)
          omega)
      (by rw[hck];exact growslice_fits hroom hbig)
    rw[hck] at h
    rw[show(n:Int)-((c:Int)-(l:Int))=((l+n-c:Nat):Int) by omega]
    exact h
  have hGn:l+n≤grownCap w (l+n) c 2:=grownCap_ge w _ _ _
  obtain⟨G,hG⟩:∃ G,G=grownCap w (l+n) c 2:=⟨_,rfl⟩
  rw[← hG] at hrz hGn ⊢
  have hG63:G≤9223372036854775807:=by
    have:=grownCap_le_maxLen w (l+n) c 2 (by unfold maxLen;omega)
    rw[← hG] at this
    unfold maxLen at this
    omega
  clear hold hck hG hcs hcl
  go_enter Tryz.func285,Tryz.ntmps285
  cases base with
  | none =>
    have h0:=hnil rfl
    subst h0
    obtain rfl:l=0:=by omega
    go_wp2_with (at_builtin;refine Lib.wpList_append_run _ rfl _ _ _ _ rfl _ _ rfl rfl _ _ (hrz _) ?_)
    all_goals (go_ret;exact⟨rfl,rfl⟩)
  | some a =>
    obtain⟨ab,ao,asp⟩:=a
    go_wp2_with (at_builtin;refine Lib.wpList_append_run _ rfl _ _ _ _ rfl _ _ rfl rfl _ _ (hrz _) ?_)
    all_goals (go_ret;exact⟨rfl,rfl⟩)
theorem qkl:(Tryz.prog.info? 2).any (fun i=>i.size==Ve.Ty.size yI&&i.zero.any (fun z=>z.cells.size==Ve.Ty.size yI)&&decide (i.bytes≤64*Ve.Ty.size yI)&&decide (0<i.bytes)&&decide (0<Ve.Ty.size yI))=true:=by kernel_rfl
open Ve in
theorem qgB(R:Run){args:List Dv}{dv:Dv}(h:qmy yI R args=some dv) :
  qa1 Tryz.prog ⟨[(false,1),(false,1)],[.take true,.imm],.cons yL .nil,[(false,1)],[.deep],[]⟩ 285 args dv:=by
 have hi:=qkl
 cases hi0:Tryz.prog.info? 2 with
 | none=>rw[hi0] at hi;cases hi
 | some i0 =>
  rw[hi0] at hi
  simp only[Option.any_some,Bool.and_eq_true,decide_eq_true_eq,beq_iff_eq] at hi
  obtain⟨⟨⟨⟨h1,h2⟩,h3⟩,h4⟩,h5⟩:=hi
  cases hz:i0.zero with
  | none=>rw[hz] at h2;cases h2
  | some z =>
   rw[hz] at h2
   exact qjh h1 (by simpa using h2) h5 h3 h4 qjY (fun base l c n cs w a1 a2 a3 a4 a5 a6 a7=>qj1 i0 z hi0 hz (by rw[h1];exact h5) base l c n cs w a1 a2 a3 a4 a5 a6 a7) R h
end
section
open Go Ve
theorem qoF:primL=(List.range 378).map fun i=>bif Nat.beq i 104 then some (qgq n_Z36 n_Z38 n_Z80) else bif Nat.beq i 272 then some (qgr n_Z35) else bif Nat.beq i 273 then some (qdh n_Z109) else bif Nat.beq i 285 then some (qmy yI) else none:=by kernel_rfl
theorem qqN(hE:EnvOk E):∀ f p,E.prim f=some p→∀ r,qfZ E (mkR r)→∀ args dv sg,E.sig f=some sg→p (mkR r) args=some dv→qa1 E.P sg f args dv:=by
 intro f p hp r hr args dv sg hsg h
 have hp:primL.getD f none=some p:=hp
 rw[qoF,List.getD_eq_getElem?_getD,List.getElem?_map] at hp
 by_cases hf:f<378
 ·rw[List.getElem?_range hf] at hp
  simp only[Option.map_some,Option.getD_some] at hp
  by_cases h104:f=104
  ·subst h104
   obtain rfl:(qgq n_Z36 n_Z38 n_Z80)=p:=Option.some.inj hp
   obtain rfl:sg_Z55=sg:=Option.some.inj (sig_impl_independent_eq.symm.trans hsg)
   exact qfR hE hr (qna _) (fun _ _=>rfl) h
  rw[show Nat.beq f 104=false from Bool.eq_false_iff.2 fun h=>h104 (Nat.eq_of_beq_eq_true h),cond_false] at hp
  by_cases h272:f=272
  ·subst h272
   obtain rfl:(qgr n_Z35)=p:=Option.some.inj hp
   obtain rfl:sg_Z122=sg:=Option.some.inj (sig_slices_SortFunc_SSint64_Sint64_eq.symm.trans hsg)
   exact qfQ (fun args dv h=>hr _ args dv _ sig_impl_compareSimplices_eq h) h
  rw[show Nat.beq f 272=false from Bool.eq_false_iff.2 fun h=>h272 (Nat.eq_of_beq_eq_true h),cond_false] at hp
  by_cases h273:f=273
  ·subst h273
   obtain rfl:(qdh n_Z109)=p:=Option.some.inj hp
   obtain rfl:sg_Z97=sg:=Option.some.inj (sig_slices_CompactFunc_SSint64_Sint64_eq.symm.trans hsg)
   exact qfT hE hr (qna _) (fun _ _=>rfl) h
  rw[show Nat.beq f 273=false from Bool.eq_false_iff.2 fun h=>h273 (Nat.eq_of_beq_eq_true h),cond_false] at hp
  by_cases h285:f=285
  ·subst h285
   obtain rfl:(qmy yI)=p:=Option.some.inj hp
   obtain rfl:sg_Z110=sg:=Option.some.inj (sig_slices_Grow_Sint64_int64_eq.symm.trans hsg)
   exact qgB _ h
  rw[show Nat.beq f 285=false from Bool.eq_false_iff.2 fun h=>h285 (Nat.eq_of_beq_eq_true h),cond_false] at hp
  cases hp
 ·rw[List.getElem?_eq_none (by simpa using hf)] at hp
  cases hp
end
end VeT
open Go Go.Proofs Ve
namespace VeT
end VeT
