import Derived.Test.YtagdejckmpipbaaGreatDoorT3
import Derived.Test.YtagdejckmpipbaaGreatDoorV2
import Derived.Test.YtagdejckmpipbaaGreatDoorT4
import Derived.Shelf.Strings.OnBuilder
import Derived.Shelf.Strconv.Itoa4
import Derived.Ground.NamesProg
import Derived.WideLaws
import Derived.Shelf.Strconv.ErrVarParseInt
import Derived.Shelf.Strings.Prefix
import Derived.Lib.ParseIntBTie
import Derived.Shelf.Strings.SplitShaped
import Derived.Lib.SplitLaws
import Derived.Lib.LaidTab
import Derived.Shelf.SlSortCmp.Whole1
import Derived.Shelf.SlSortCmp.NoneTotal
import Derived.Ground.SlsfProg
import Derived.Test.YtagdejckmpipbaaGreatDoorProg
import Derived.KernelRfl
import Derived.WalkKit
import Derived.Lib.Walk
import Derived.Lib.SliceRun
import Derived.Lib.AppendZerosOnto
import Derived.Lib.ItoaLen
set_option linter.unusedVariables false
set_option linter.unusedSimpArgs false
open Go Go.Proofs Ve
set_option maxRecDepth 100000
namespace VeT
noncomputable section
def Z18.j0(R:Run)(N:Nat)(a b:Int)(e:Bool)(f:vK)(g:Int)(h:List Int)(i:vN)(j k l:Int):Option Dv:=R.w (some ⟨(V.dead::(.c (.d yI a)::(.c (.d yI b)::(.c (.box 3 0)::(V.dead::(V.dead::(.c (.box 6 0)::(zd 6 (.c (.d .bool e)::(zd 31 [])))))))))),(zo 3 (some (.box [.d yK f,.d yI g,.d yL h,.d yN i] false false)::(none::(none::(some (.box [.d yI j,.d yI k,.d yI l,.nils yI] false false)::(zo 45 []))))))⟩) fun st=>eC R pol_Z18 N [1,0,0,1,1,1] F_Z18 st (kB R pol_Z18 0 (kS R pol_Z18 7 N [1,1] F_Z18 (qs4 E sg_Z18 F_Z18)))
theorem Z18.j0_eq(R:Run)(hw:R.ok)(N:Nat)(a b:Int)(c:Bool)(d:vK)(e:Int)(f:List Int)(g:vN)(h i j:Int):Z18.j0 R N a b c d e f g h i j=(bif c then some ⟨o_Z18,((0:Int),(0:Int),(0:Int),([]:List Int),(2:Int),())⟩ else((idx? d a).bind fun y13=>((idx? d b).bind fun y14=>((qgg R n_Z57 o_Z57 [⟨yL,(y13,()).1⟩,⟨yL,(y14,()).1⟩]).bind fun r15=>(bif (!r15.1) then some ⟨o_Z18,((0:Int),(0:Int),(0:Int),([]:List Int),(3:Int),())⟩ else((qgg R n_Z66 o_Z66 [⟨yK,d⟩,⟨yI,e⟩,⟨yL,f⟩,⟨yN,g⟩,⟨yI,a⟩,⟨yI,b⟩]).bind fun r16=>some ⟨o_Z18,(r16.1,r16.2.1,r16.2.2.1,r16.2.2.2.1,(0:Int),())⟩)))))):=(hw _ _).trans (by kernel_rfl)
theorem Z18.ev(R:Run)(N:Nat)(a0:vK)(a1:Int)(a2:List Int)(a3:vN)(a4 a5:Int):qsy E R sg_Z18 pol_Z18 F_Z18 N [⟨yK,a0⟩,⟨yI,a1⟩,⟨yL,a2⟩,⟨yN,a3⟩,⟨yI,a4⟩,⟨yI,a5⟩]=((qgg R n_Z28 o_Z28 [⟨yK,a0⟩,⟨yI,a1⟩,⟨yL,a2⟩,⟨yN,a3⟩]).bind fun r1=>(bif (!r1.1) then some ⟨o_Z18,((0:Int),(0:Int),(0:Int),([]:List Int),(1:Int),())⟩ else((qgg R n_Z59 o_Z59 [⟨yK,a0⟩,⟨yI,a1⟩,⟨yL,a2⟩,⟨yN,a3⟩,⟨yI,a4⟩]).bind fun r2=>(bif (!r2.1) then(Z18.j0 R N a4 a5 true a0 a1 a2 a3 (0:Int) (0:Int) (0:Int)) else((qgg R n_Z59 o_Z59 [⟨yK,a0⟩,⟨yI,a1⟩,⟨yL,a2⟩,⟨yN,a3⟩,⟨yI,a5⟩]).bind fun r17=>(Z18.j0 R N a4 a5 (!r17.1) a0 a1 a2 a3 (0:Int) (0:Int) (0:Int))))))):=by kernel_rfl
theorem Z136.ev(R:Run)(N:Nat)(a0 a1:vM):qsy E R sg_Z136 pol_Z136 F_Z136 N [⟨(.ptr yM),a0⟩,⟨(.ptr yM),a1⟩]=((qgg R n_Z142 o_Z142 [⟨(.ptr yM),a0⟩]).bind fun r1=>(bif r1.1 then((qgg R n_Z142 o_Z142 [⟨(.ptr yM),a1⟩]).bind fun r2=>some ⟨o_Z136,(r2.1,())⟩) else some ⟨o_Z136,(false,())⟩)):=by kernel_rfl
def Z118.j0(R:Run)(N:Nat)(a:Bool)(b e f:Int)(g:List Int)(h i j:Int)(k:List Int)(l m o:Int):Option Dv:=R.w (some ⟨(V.dead::(V.dead::(.c (.box 2 0)::(.c (.box 3 0)::(.c (.box 4 0)::(zd 15 (.c (.d .bool a)::(V.dead::(V.dead::[]))))))))),(none::(none::(some (.box [.d yI b,.d yI e,.d yI f,.d yL g] false false)::(some (.box [.d yI h,.d yI i,.d yI j,.d yL k] false false)::(some (.box [.d yI l,.d yI m,.d yI o,.nils yI] false false)::(zo 27 []))))))⟩) fun st=>eC R pol_Z118 N [1,1,0,1] F_Z118 st (kS R pol_Z118 5 N [1,1,1] F_Z118 (qs4 E sg_Z118 F_Z118))
theorem Z118.j0_eq(R:Run)(hw:R.ok)(N:Nat)(a:Bool)(b c d:Int)(e:List Int)(f g h:Int)(i:List Int)(j k l:Int):Z118.j0 R N a b c d e f g h i j k l=(bif a then some ⟨o_Z118,((0:Int),(0:Int),(0:Int),([]:List Int),(6:Int),())⟩ else((qgg R n_Z146 o_Z146 [⟨(.ptr yM),(b,c,d,e,())⟩,⟨(.ptr yM),(f,g,h,i,())⟩]).bind fun r14=>some ⟨o_Z118,(r14.1,r14.2.1,r14.2.2.1,r14.2.2.2.1,(0:Int),())⟩)):=(hw _ _).trans (by kernel_rfl)
theorem Z118.ev(R:Run)(N:Nat)(a0 a1 a2:Int)(a3:List Int)(a4 a5 a6:Int)(a7:List Int):qsy E R sg_Z118 pol_Z118 F_Z118 N [⟨yI,a0⟩,⟨yI,a1⟩,⟨yI,a2⟩,⟨yL,a3⟩,⟨yI,a4⟩,⟨yI,a5⟩,⟨yI,a6⟩,⟨yL,a7⟩]=((qgg R n_Z136 o_Z136 [⟨(.ptr yM),(a0,a1,a2,a3,())⟩,⟨(.ptr yM),(a4,a5,a6,a7,())⟩]).bind fun r1=>(bif (!r1.1) then some ⟨o_Z118,((0:Int),(0:Int),(0:Int),([]:List Int),(1:Int),())⟩ else(bif (a0 != a4) then(Z118.j0 R N true a0 a1 a2 a3 a4 a5 a6 a7 (0:Int) (0:Int) (0:Int)) else(Z118.j0 R N (a2 != a5) a0 a1 a2 a3 a4 a5 a6 a7 (0:Int) (0:Int) (0:Int))))):=by kernel_rfl
theorem Z116.ev(R:Run)(N:Nat)(a0:vK)(a1:Int):qsy E R sg_Z116 pol_Z116 F_Z116 N [⟨yK,a0⟩,⟨yI,a1⟩]=((qgg R n_Z149 o_Z149 [⟨(.ptr yC),(a0,())⟩,⟨yI,a1⟩]).bind fun r1=>(bif (r1.1 != (0:Int)) then some ⟨o_Z116,(([]:List Int),r1.1,())⟩ else((qgg R n_Z154 o_Z154 [⟨(.ptr yC),(a0,())⟩,⟨yI,a1⟩]).bind fun r2=>some ⟨o_Z116,(r2.1,(0:Int),())⟩))):=by kernel_rfl
theorem Z69.ev(R:Run)(N:Nat)(a0 a1 a2:Int)(a3:List Int)(a4 a5 a6:Int)(a7:List Int):qsy E R sg_Z69 pol_Z69 F_Z69 N [⟨yI,a0⟩,⟨yI,a1⟩,⟨yI,a2⟩,⟨yL,a3⟩,⟨yI,a4⟩,⟨yI,a5⟩,⟨yI,a6⟩,⟨yL,a7⟩]=(bif (a0==a4) then(bif (a1==a5) then some ⟨o_Z69,((a2==a6),())⟩ else some ⟨o_Z69,(false,())⟩) else some ⟨o_Z69,(false,())⟩):=by kernel_rfl
def Z21.j0(R:Run)(N:Nat)(a:vM)(b:vS)(e:Bool)(f g h i j k:Int):Option Dv:=R.w (some ⟨(zd 3 (.c (.ip yM a 0)::(.c (.ip yS b 0)::(.c (.box 5 0)::(.c (.box 6 0)::(zd 9 (.c (.d .bool e)::(zd 7 [])))))))),(zo 5 (some (.box [.d yI f,.d yI g,.d yI h] false false)::(some (.box [.d yI i,.d yI j,.d yI k,.nils yI] false false)::(zo 24 []))))⟩) fun st=>eC R pol_Z21 N [1,0,1] F_Z21 st (kS R pol_Z21 3 N [1,1] F_Z21 (qs4 E sg_Z21 F_Z21))
theorem Z21.j0_eq(R:Run)(hw:R.ok)(N:Nat)(a:vM)(b:vS)(c:Bool)(d e f g h i:Int):Z21.j0 R N a b c d e f g h i=(bif c then some ⟨o_Z21,(a.1,a.2.1,a.2.2.1,a.2.2.2.1,())⟩ else((qgg R n_Z42 o_Z42 [⟨yK,b.1⟩,⟨yI,b.2.1⟩,⟨yL,b.2.2.1⟩,⟨yN,b.2.2.2.1⟩,⟨yI,d⟩,⟨yI,e⟩]).bind fun r10=>some ⟨o_Z21,(r10.1,r10.2.1,r10.2.2.1,r10.2.2.2.1,())⟩)):=(hw _ _).trans (by kernel_rfl)
theorem Z21.ev(R:Run)(N:Nat)(a0 a1 a2:Int)(a3 a4:(Int×Unit))(a5:vM)(a6:vS):qsy E R sg_Z21 pol_Z21 F_Z21 N [⟨yI,a0⟩,⟨yI,a1⟩,⟨yI,a2⟩,⟨(.ptr (.cons yI .nil)),a3⟩,⟨(.ptr (.cons yI .nil)),a4⟩,⟨(.ptr yM),a5⟩,⟨(.ptr yS),a6⟩]=(bif (a0==a3.1) then(Z21.j0 R N a5 a6 (a1==a4.1) a0 a1 a2 (0:Int) (0:Int) (0:Int)) else(Z21.j0 R N a5 a6 false a0 a1 a2 (0:Int) (0:Int) (0:Int))):=by kernel_rfl
theorem Z41.ev(R:Run)(N:Nat)(a0 a1 a2:Int)(a3:List Int):qsy E R sg_Z41 pol_Z41 F_Z41 N [⟨yI,a0⟩,⟨yI,a1⟩,⟨yI,a2⟩,⟨yL,a3⟩]=((qgg R n_Z88 o_Z88 [⟨yL,a3⟩]).bind fun r1=>some ⟨o_Z41,(a0,a1,a2,r1.1,())⟩):=by kernel_rfl
def Z71.l0(R:Run)(N n:Nat)(a:((Int×Unit)×(Int×Unit)×vM×vS×Unit))(b:(List (Int×Int×Int×Unit)))(e f g h:Int)(i:vN)(j:vK)(k:List Int):Option Dv:=R.w (some ⟨(zd 3 (.c (.d (.fn n_Z21 (.cons (.ptr (.cons yI .nil)) (.cons (.ptr (.cons yI .nil)) (.cons (.ptr yM) (.cons (.ptr yS) .nil))))) a)::(zd 4 (.c (.box 8 0)::(.c (.box 9 0)::(zd 10 (.c (.d (.sl (.st (.cons yI (.cons yI (.cons yI .nil))))) b)::(.c (.d yI e)::(.c (.d yI f)::(zd 14 [])))))))))),(zo 8 (some (.box [.nils yL,.d yI g,.nils yI,.nils (.st yM)] false false)::(some (.box [.arr 42,.d yI h,.arr 43,.arr 33] false false)::(zo 23 (some (.arr (.st yM) i true false false)::(zo 8 (some (.arr yL j true false false)::(some (.arr yI k true false false)::[]))))))))⟩) fun st=>lC R pol_Z70 3 N [1,1,0,1,0,0] F_Z70 n st (kB R pol_Z70 0 (kS R pol_Z70 7 N [1,1,1] F_Z70 (qs4 E sg_Z70 F_Z70)))
theorem Z71.l0_succ(R:Run)(hw:R.ok)(N n:Nat)(a:((Int×Unit)×(Int×Unit)×vM×vS×Unit))(b:(List (Int×Int×Int×Unit)))(c d e f:Int)(g:vN)(h:vK)(i:List Int):Z71.l0 R N (n+1) a b c d e f g h i=(bif (decide (d<c)) then((idx? b d).bind fun y13=>((qgg R n_Z21 o_Z21 [⟨yI,y13.1⟩,⟨yI,y13.2.1⟩,⟨yI,y13.2.2.1⟩,⟨(.ptr (.cons yI .nil)),a.1⟩,⟨(.ptr (.cons yI .nil)),a.2.1⟩,⟨(.ptr yM),a.2.2.1⟩,⟨(.ptr yS),a.2.2.2.1⟩]).bind fun r14=>((qgg R n_Z41 o_Z41 [⟨yI,r14.1⟩,⟨yI,r14.2.1⟩,⟨yI,r14.2.2.1⟩,⟨yL,r14.2.2.2.1⟩]).bind fun r15=>((chk (decide ((List.length g+List.length [(r15.1,r15.2.1,r15.2.2.1,r15.2.2.2.1,())])*48≤70368744177664))).bind fun _=>(Z71.l0 R N n a b c (w64 (d+1)) e f (g++[(r15.1,r15.2.1,r15.2.2.1,r15.2.2.2.1,())]) h i))))) else some ⟨o_Z70,(h,f,i,g,())⟩):=(hw _ _).trans (by kernel_rfl)
theorem Z71.ev(R:Run)(N:Nat)(a0:vK)(a1:Int)(a2:List Int)(a3:((Int×Unit)×(Int×Unit)×vM×vS×Unit)):qsy E R sg_Z70 pol_Z70 F_Z70 N [⟨yK,a0⟩,⟨yI,a1⟩,⟨yL,a2⟩,⟨(.fn n_Z21 (.cons (.ptr (.cons yI .nil)) (.cons (.ptr (.cons yI .nil)) (.cons (.ptr yM) (.cons (.ptr yS) .nil))))),a3⟩]=((qgg R n_Z52 o_Z52 [⟨yK,a0⟩]).bind fun r1=>((qgg R n_Z88 o_Z88 [⟨yL,a2⟩]).bind fun r2=>((qgg R n_Z36 o_Z36 [⟨yK,a0⟩]).bind fun r3=>(Z71.l0 R N N a3 r3.1 (List.length r3.1:Int) (0:Int) (0:Int) a1 ([]:List vM) r1.1 r2.1)))):=by kernel_rfl
def Z20.j1(R:Run)(N:Nat)(a:Bool)(b:vK)(e:Int)(f:List Int)(g:vN)(h i j k l:Int)(m:List Int)(o:Int):Option Dv:=R.w (some ⟨(zd 4 (.c (.box 4 0)::(.c (.box 5 0)::(.c (.box 6 0)::(.c (.box 7 0)::(.c (.box 8 0)::(zd 24 (.c (.d .bool a)::(zd 17 []))))))))),(zo 4 (some (.box [.d yK b,.d yI e,.d yL f,.d yN g] false false)::(some (.box [.d yI h] false false)::(some (.box [.d yI i] false false)::(some (.box [.d yI j,.d yI k,.d yI l,.d yL m] false false)::(some (.box [.nils yL,.d yI o,.nils yI,.nils (.st yM)] false false)::(zo 55 [])))))))⟩) fun st=>eC R pol_Z20 N [1,1,0,1] F_Z20 st (kS R pol_Z20 5 N [1,1,1] F_Z20 (qs4 E sg_Z20 F_Z20))
def Z20.j0(R:Run)(N:Nat)(a:Bool)(b:vK)(e:Int)(f:List Int)(g:vN)(h i j k l:Int)(m:List Int)(o:Int):Option Dv:=R.w (some ⟨(zd 4 (.c (.box 4 0)::(.c (.box 5 0)::(.c (.box 6 0)::(.c (.box 7 0)::(.c (.box 8 0)::(zd 8 (.c (.d .bool a)::(zd 33 []))))))))),(zo 4 (some (.box [.d yK b,.d yI e,.d yL f,.d yN g] false false)::(some (.box [.d yI h] false false)::(some (.box [.d yI i] false false)::(some (.box [.d yI j,.d yI k,.d yI l,.d yL m] false false)::(some (.box [.nils yL,.d yI o,.nils yI,.nils (.st yM)] false false)::(zo 55 [])))))))⟩) fun st=>eC R pol_Z20 N [1,0,1] F_Z20 st (kS R pol_Z20 3 N [1,1] F_Z20 (qs4 E sg_Z20 F_Z20))
theorem Z20.j1_eq(R:Run)(hw:R.ok)(N:Nat)(a:Bool)(b:vK)(c:Int)(d:List Int)(e:vN)(f g h i j:Int)(k:List Int)(l:Int):Z20.j1 R N a b c d e f g h i j k l=(bif a then some ⟨o_Z20,(([]:List (List Int)),(0:Int),([]:List Int),([]:List vM),(2:Int),())⟩ else((qgg R n_Z42 o_Z42 [⟨yK,b⟩,⟨yI,c⟩,⟨yL,d⟩,⟨yN,e⟩,⟨yI,f⟩,⟨yI,g⟩]).bind fun r27=>((qgg R n_Z69 o_Z69 [⟨yI,h⟩,⟨yI,i⟩,⟨yI,j⟩,⟨yL,k⟩,⟨yI,r27.1⟩,⟨yI,r27.2.1⟩,⟨yI,r27.2.2.1⟩,⟨yL,r27.2.2.2.1⟩]).bind fun r28=>(bif (!r28.1) then some ⟨o_Z20,(([]:List (List Int)),(0:Int),([]:List Int),([]:List vM),(6:Int),())⟩ else((qgg R n_Z70 o_Z70 [⟨yK,b⟩,⟨yI,c⟩,⟨yL,d⟩,⟨(.fn n_Z21 (.cons (.ptr (.cons yI .nil)) (.cons (.ptr (.cons yI .nil)) (.cons (.ptr yM) (.cons (.ptr yS) .nil))))),((f,()),(g,()),(h,i,j,k,()),(b,c,d,e,()),())⟩]).bind fun r29=>some ⟨o_Z20,(r29.1,r29.2.1,r29.2.2.1,r29.2.2.2.1,(0:Int),())⟩))))):=(hw _ _).trans (by kernel_rfl)
theorem Z20.j0_eq(R:Run)(hw:R.ok)(N:Nat)(a:Bool)(b:vK)(c:Int)(d:List Int)(e:vN)(f g h i j:Int)(k:List Int)(l:Int):Z20.j0 R N a b c d e f g h i j k l=(bif a then some ⟨o_Z20,(([]:List (List Int)),(0:Int),([]:List Int),([]:List vM),(1:Int),())⟩ else((qgg R n_Z59 o_Z59 [⟨yK,b⟩,⟨yI,c⟩,⟨yL,d⟩,⟨yN,e⟩,⟨yI,f⟩]).bind fun r14=>(bif (!r14.1) then(Z20.j1 R N true b c d e f g h i j k l) else((qgg R n_Z44 o_Z44 [⟨yK,b⟩,⟨yI,f⟩]).bind fun r30=>((qgg R n_Z74 o_Z74 [⟨yL,r30.1⟩]).bind fun r31=>((qgg R n_Z81 o_Z81 [⟨yI,g⟩,⟨yI,(0:Int)⟩,⟨yI,(w64 (r31.1-(1:Int)))⟩]).bind fun r32=>(Z20.j1 R N (!r32.1) b c d e f g h i j k l))))))):=(hw _ _).trans (by kernel_rfl)
theorem Z20.ev(R:Run)(N:Nat)(a0:vK)(a1:Int)(a2:List Int)(a3:vN)(a4 a5 a6 a7 a8:Int)(a9:List Int):qsy E R sg_Z20 pol_Z20 F_Z20 N [⟨yK,a0⟩,⟨yI,a1⟩,⟨yL,a2⟩,⟨yN,a3⟩,⟨yI,a4⟩,⟨yI,a5⟩,⟨yI,a6⟩,⟨yI,a7⟩,⟨yI,a8⟩,⟨yL,a9⟩]=((qgg R n_Z28 o_Z28 [⟨yK,a0⟩,⟨yI,a1⟩,⟨yL,a2⟩,⟨yN,a3⟩]).bind fun r1=>(bif (!r1.1) then(Z20.j0 R N true a0 a1 a2 a3 a4 a5 a6 a7 a8 a9 (0:Int)) else((qgg R n_Z26 o_Z26 [⟨yI,a6⟩,⟨yI,a7⟩,⟨yI,a8⟩,⟨yL,a9⟩]).bind fun r45=>(Z20.j0 R N (!r45.1) a0 a1 a2 a3 a4 a5 a6 a7 a8 a9 (0:Int))))):=by kernel_rfl
def Z159.l0(R:Run)(N n:Nat)(a b:(vK×Unit))(e:Int):Option Dv:=R.w (some ⟨(.c (.ip yC a 0)::(.c (.ip yC b 0)::(zd 3 (.c (.d yI e)::(zd 36 []))))),(zo 44 [])⟩) fun st=>lC R pol_Z159 4 N [1,1,0,1,0,0] F_Z159 n st (kB R pol_Z159 0 (kS R pol_Z159 8 N [1,1,1] F_Z159 (qs4 E sg_Z159 F_Z159)))
theorem Z159.l0_succ(R:Run)(hw:R.ok)(N n:Nat)(a b:(vK×Unit))(c:Int):Z159.l0 R N (n+1) a b c=(bif (decide (c<(List.length a.1:Int))) then((idx? a.1 c).bind fun y4=>((idx? b.1 c).bind fun y5=>((qgg R n_Z130 o_Z130 [⟨yL,(y4,()).1⟩,⟨yL,(y5,()).1⟩]).bind fun r6=>(bif (!r6.1) then some ⟨o_Z159,(false,())⟩ else(Z159.l0 R N n a b (w64 (c+1))))))) else some ⟨o_Z159,(true,())⟩):=(hw _ _).trans (by kernel_rfl)
theorem Z159.ev(R:Run)(N:Nat)(a0 a1:(vK×Unit)):qsy E R sg_Z159 pol_Z159 F_Z159 N [⟨(.ptr yC),a0⟩,⟨(.ptr yC),a1⟩]=(bif ((List.length a0.1:Int) != (List.length a1.1:Int)) then some ⟨o_Z159,(false,())⟩ else(Z159.l0 R N N a0 a1 (0:Int))):=by kernel_rfl
def Z145.l1(R:Run)(N n:Nat)(a b:vM)(e:Int):Option Dv:=R.w (some ⟨(.c (.ip yM a 0)::(.c (.ip yM b 0)::(zd 3 (.c (.d yI e)::(zd 68 []))))),(zo 76 [])⟩) fun st=>lC R pol_Z145 4 N [1,1,0,1,0,0] F_Z145 n st (kB R pol_Z145 0 (kS R pol_Z145 8 N [1,1,1] F_Z145 (qs4 E sg_Z145 F_Z145)))
def Z145.j0(R:Run)(N:Nat)(a b:vM)(e:Bool):Option Dv:=R.w (some ⟨(.c (.ip yM a 0)::(.c (.ip yM b 0)::(zd 47 (.c (.d .bool e)::(zd 24 []))))),(zo 76 [])⟩) fun st=>eC R pol_Z145 N [1,0,1] F_Z145 st (kS R pol_Z145 3 N [1,1] F_Z145 (qs4 E sg_Z145 F_Z145))
theorem Z145.l1_succ(R:Run)(hw:R.ok)(N n:Nat)(a b:vM)(c:Int):Z145.l1 R N (n+1) a b c=(bif (decide (c<(List.length a.2.2.2.1:Int))) then((idx? a.2.2.2.1 c).bind fun y7=>((idx? b.2.2.2.1 c).bind fun y8=>(bif ((y7,()).1 != (y8,()).1) then some ⟨o_Z145,(false,())⟩ else(Z145.l1 R N n a b (w64 (c+1)))))) else some ⟨o_Z145,(true,())⟩):=(hw _ _).trans (by kernel_rfl)
theorem Z145.j0_eq(R:Run)(hw:R.ok)(N:Nat)(a b:vM)(c:Bool):Z145.j0 R N a b c=(bif c then some ⟨o_Z145,(false,())⟩ else(Z145.l1 R N N a b (0:Int))):=(hw _ _).trans (by kernel_rfl)
theorem Z145.ev(R:Run)(N:Nat)(a0 a1:vM):qsy E R sg_Z145 pol_Z145 F_Z145 N [⟨(.ptr yM),a0⟩,⟨(.ptr yM),a1⟩]=(bif (a0.1 != a1.1) then(Z145.j0 R N a0 a1 true) else(bif (a0.2.1 != a1.2.1) then(Z145.j0 R N a0 a1 true) else(bif (a0.2.2.1 != a1.2.2.1) then(Z145.j0 R N a0 a1 true) else(Z145.j0 R N a0 a1 ((List.length a0.2.2.2.1:Int) != (List.length a1.2.2.2.1:Int)))))):=by kernel_rfl
def Z170.l1(R:Run)(N n:Nat)(a b:vS)(e:Int):Option Dv:=R.w (some ⟨(.c (.ip yS a 0)::(.c (.ip yS b 0)::(zd 3 (.c (.d yI e)::(zd 67 []))))),(zo 75 [])⟩) fun st=>lC R pol_Z170 4 N [1,1,0,1,0,0] F_Z170 n st (kB R pol_Z170 0 (kS R pol_Z170 8 N [1,1,1] F_Z170 (qs4 E sg_Z170 F_Z170)))
def Z170.j0(R:Run)(N:Nat)(a b:vS)(e:Bool):Option Dv:=R.w (some ⟨(.c (.ip yS a 0)::(.c (.ip yS b 0)::(zd 47 (.c (.d .bool e)::(zd 23 []))))),(zo 75 [])⟩) fun st=>eC R pol_Z170 N [1,0,1] F_Z170 st (kS R pol_Z170 3 N [1,1] F_Z170 (qs4 E sg_Z170 F_Z170))
theorem Z170.l1_succ(R:Run)(hw:R.ok)(N n:Nat)(a b:vS)(c:Int):Z170.l1 R N (n+1) a b c=(bif (decide (c<(List.length a.2.2.2.1:Int))) then((idx? a.2.2.2.1 c).bind fun y8=>((idx? b.2.2.2.1 c).bind fun y9=>((qgg R n_Z145 o_Z145 [⟨(.ptr yM),y8⟩,⟨(.ptr yM),y9⟩]).bind fun r10=>(bif (!r10.1) then some ⟨o_Z170,(false,())⟩ else(Z170.l1 R N n a b (w64 (c+1))))))) else some ⟨o_Z170,(true,())⟩):=(hw _ _).trans (by kernel_rfl)
theorem Z170.j0_eq(R:Run)(hw:R.ok)(N:Nat)(a b:vS)(c:Bool):Z170.j0 R N a b c=(bif c then some ⟨o_Z170,(false,())⟩ else(Z170.l1 R N N a b (0:Int))):=(hw _ _).trans (by kernel_rfl)
theorem Z170.ev(R:Run)(N:Nat)(a0 a1:vS):qsy E R sg_Z170 pol_Z170 F_Z170 N [⟨(.ptr yS),a0⟩,⟨(.ptr yS),a1⟩]=((qgg R n_Z159 o_Z159 [⟨(.ptr yC),(a0.1,())⟩,⟨(.ptr yC),(a1.1,())⟩]).bind fun r1=>(bif (!r1.1) then(Z170.j0 R N a0 a1 true) else(bif (a0.2.1 != a1.2.1) then(Z170.j0 R N a0 a1 true) else((qgg R n_Z130 o_Z130 [⟨yL,a0.2.2.1⟩,⟨yL,a1.2.2.1⟩]).bind fun r17=>(bif (!r17.1) then(Z170.j0 R N a0 a1 true) else(Z170.j0 R N a0 a1 ((List.length a0.2.2.2.1:Int) != (List.length a1.2.2.2.1:Int)))))))):=by kernel_rfl
theorem Z121.ev(R:Run)(N:Nat)(a0:vK)(a1:Int)(a2:List Int)(a3:vN)(a4:vK)(a5:Int)(a6:List Int)(a7:vN):qsy E R sg_Z121 pol_Z121 F_Z121 N [⟨yK,a0⟩,⟨yI,a1⟩,⟨yL,a2⟩,⟨yN,a3⟩,⟨yK,a4⟩,⟨yI,a5⟩,⟨yL,a6⟩,⟨yN,a7⟩]=((qgg R n_Z170 o_Z170 [⟨(.ptr yS),(a0,a1,a2,a3,())⟩,⟨(.ptr yS),(a4,a5,a6,a7,())⟩]).bind fun r1=>some ⟨o_Z121,(r1.1,())⟩):=by kernel_rfl
theorem Z120.ev(R:Run)(N:Nat)(a0 a1 a2:Int)(a3:List Int)(a4 a5 a6:Int)(a7:List Int):qsy E R sg_Z120 pol_Z120 F_Z120 N [⟨yI,a0⟩,⟨yI,a1⟩,⟨yI,a2⟩,⟨yL,a3⟩,⟨yI,a4⟩,⟨yI,a5⟩,⟨yI,a6⟩,⟨yL,a7⟩]=((qgg R n_Z145 o_Z145 [⟨(.ptr yM),(a0,a1,a2,a3,())⟩,⟨(.ptr yM),(a4,a5,a6,a7,())⟩]).bind fun r1=>some ⟨o_Z120,(r1.1,())⟩):=by kernel_rfl
def Z83.j2(R:Run)(N a:Nat)(b:List Int)(e f:Int)(g:Bool)(h:vK)(i:Int)(j:List Int)(k:vN):Option Dv:=R.w (some ⟨(V.dead::(.c (.d (.sl (.int .u8)) b)::(zd 3 (.c (.box 5 0)::(zd 5 (.c (.d yI e)::(.c (.d yI f)::(zd 81 (.c (.d .bool g)::(zd 123 [])))))))))),(zo 5 (some (.box [.d yK h,.d yI i,.d yL j,.d yN k] false false)::(zo 214 [])))⟩) fun st=>eC R pol_Z83 N [1,1,1,1,1,1,1,0,1,0,0,1,0,0,1,1] F_Z83 st (kB R pol_Z83 1 (kS R pol_Z83 11 N [1,1,1,1,1,1,1,0,1,0,0,1,1] F_Z83 (kL R pol_Z83 10 N [1,1,1,1,1,1,1,0,1,0,0] F_Z83 a (kB R pol_Z83 0 (kS R pol_Z83 15 N [1,1,1,1,1,1,1,1] F_Z83 (qs4 E sg_Z83 F_Z83))))))
def Z83.j4(R:Run)(N:Nat)(a b e:Int)(f:vK)(g:Int)(h:List Int)(i:vN)(j k l:Int)(m:List Int):Option Dv:=R.w (some ⟨(zd 5 (.c (.box 5 0)::(zd 12 (.c (.d yI a)::(zd 13 (.c (.d yI b)::(.c (.box 33 0)::(.c (.d yI e)::(zd 183 []))))))))),(zo 5 (some (.box [.d yK f,.d yI g,.d yL h,.d yN i] false false)::(zo 27 (some (.box [.d yI j,.d yI k,.d yI l,.d yL m] false false)::(zo 186 [])))))⟩) fun st=>eC R pol_Z83 N [1,1,1,1,1,1,1,1,1,1,1,1,1,1,1,1,1,1,1,1,1,1,1] F_Z83 st (qs4 E sg_Z83 F_Z83)
def Z83.j3(R:Run)(N:Nat)(a:List Int)(b:Int)(e:Bool)(f:vK)(g:Int)(h:List Int)(i:vN):Option Dv:=R.w (some ⟨(V.dead::(.c (.d (.sl (.int .u8)) a)::(zd 3 (.c (.box 5 0)::(zd 12 (.c (.d yI b)::(zd 155 (.c (.d .bool e)::(zd 43 []))))))))),(zo 5 (some (.box [.d yK f,.d yI g,.d yL h,.d yN i] false false)::(zo 214 [])))⟩) fun st=>eC R pol_Z83 N [1,1,1,1,1,1,1,1,1,1,1,1,1,1,1,1,1,1,0,1] F_Z83 st (kS R pol_Z83 28 N [1,1,1,1,1,1,1,1,1,1,1,1,1,1,1,1,1,1,1] F_Z83 (qs4 E sg_Z83 F_Z83))
def Z83.l1(R:Run)(N n:Nat)(a:List Int)(b e:Int)(f:vK)(g:Int)(h:List Int)(i:vN):Option Dv:=R.w (some ⟨(V.dead::(.c (.d (.sl (.int .u8)) a)::(zd 3 (.c (.box 5 0)::(zd 5 (.c (.d yI b)::(.c (.d yI e)::(zd 205 [])))))))),(zo 5 (some (.box [.d yK f,.d yI g,.d yL h,.d yN i] false false)::(zo 214 [])))⟩) fun st=>lC R pol_Z83 10 N [1,1,1,1,1,1,1,0,1,0,0] F_Z83 n st (kB R pol_Z83 0 (kS R pol_Z83 15 N [1,1,1,1,1,1,1,1] F_Z83 (qs4 E sg_Z83 F_Z83)))
def Z83.j0(R:Run)(N:Nat)(a:List Int)(b:Bool)(e:vK)(f:Int)(g:List Int)(h:vN):Option Dv:=R.w (some ⟨(V.dead::(.c (.d (.sl (.int .u8)) a)::(zd 3 (.c (.box 5 0)::(zd 64 (.c (.d .bool b)::(zd 147 []))))))),(zo 5 (some (.box [.d yK e,.d yI f,.d yL g,.d yN h] false false)::(zo 214 [])))⟩) fun st=>eC R pol_Z83 N [1,1,1,1,1,0,1] F_Z83 st (kS R pol_Z83 8 N [1,1,1,1,1,1] F_Z83 (qs4 E sg_Z83 F_Z83))
theorem Z83.j2_eq(R:Run)(hw:R.ok)(N a:Nat)(b:List Int)(c d:Int)(e:Bool)(f:vK)(g:Int)(h:List Int)(i:vN):Z83.j2 R N a b c d e f g h i=(bif e then some ⟨o_Z83,(false,())⟩ else(Z83.l1 R N a b c (w64 (d+1)) f g h i)):=(hw _ _).trans (by kernel_rfl)
theorem Z83.j4_eq(R:Run)(hw:R.ok)(N:Nat)(a b c:Int)(d:vK)(e:Int)(f:List Int)(g:vN)(h i j:Int)(k:List Int):Z83.j4 R N a b c d e f g h i j k=((qgg R n_Z20 o_Z20 [⟨yK,d⟩,⟨yI,e⟩,⟨yL,f⟩,⟨yN,g⟩,⟨yI,a⟩,⟨yI,b⟩,⟨yI,h⟩,⟨yI,i⟩,⟨yI,j⟩,⟨yL,k⟩]).bind fun r85=>(bif (c==(0:Int)) then(bif (r85.2.2.2.2.1==(0:Int)) then((qgg R n_Z121 o_Z121 [⟨yK,r85.1⟩,⟨yI,r85.2.1⟩,⟨yL,r85.2.2.1⟩,⟨yN,r85.2.2.2.1⟩,⟨yK,d⟩,⟨yI,e⟩,⟨yL,f⟩,⟨yN,g⟩]).bind fun r86=>some ⟨o_Z83,(r86.1,())⟩) else some ⟨o_Z83,(false,())⟩) else some ⟨o_Z83,(false,())⟩)):=(hw _ _).trans (by kernel_rfl)
theorem Z83.j3_eq(R:Run)(hw:R.ok)(N:Nat)(a:List Int)(b:Int)(c:Bool)(d:vK)(e:Int)(f:List Int)(g:vN):Z83.j3 R N a b c d e f g=(bif c then some ⟨o_Z83,(false,())⟩ else((qgg R n_Z116 o_Z116 [⟨yK,d⟩,⟨yI,b⟩]).bind fun r70=>(bif ((List.length r70.1:Int)==(0:Int)) then some ⟨o_Z83,(true,())⟩ else((qgg R n_Z84 o_Z84 [⟨(.sl (.int .u8)),a⟩,⟨yI,(3:Int)⟩,⟨yI,(List.length r70.1:Int)⟩]).bind fun r71=>((idx? r70.1 r71.1).bind fun y72=>(qpQ ((qgg R n_Z18 o_Z18 [⟨yK,d⟩,⟨yI,e⟩,⟨yL,f⟩,⟨yN,g⟩,⟨yI,(y72,()).1⟩,⟨yI,b⟩]).bind fun r73=>(Z83.j4 R N b r71.1 r73.2.2.2.2.1 d e f g r73.1 r73.2.1 r73.2.2.1 r73.2.2.2.1)) ((qgg R n_Z18 o_Z18 [⟨yK,d⟩,⟨yI,e⟩,⟨yL,f⟩,⟨yN,g⟩,⟨yI,(y72,()).1⟩,⟨yI,b⟩]).bind fun r87=>(Z83.j4 R N b r71.1 r87.2.2.2.2.1 d e f g r87.1 r87.2.1 r87.2.2.1 r87.2.2.2.1)))))))):=(hw _ _).trans (by kernel_rfl)
theorem Z83.l1_succ(R:Run)(hw:R.ok)(N n:Nat)(a:List Int)(b c:Int)(d:vK)(e:Int)(f:List Int)(g:vN):Z83.l1 R N (n+1) a b c d e f g=(bif (decide (c<(4:Int))) then((qgg R n_Z23 o_Z23 [⟨yK,d⟩,⟨yI,e⟩,⟨yL,f⟩,⟨yN,g⟩,⟨yI,c⟩]).bind fun r20=>(bif (r20.2.1 != (0:Int)) then(Z83.j2 R N n a b c true d e f g) else(bif (decide (r20.1<(0:Int))) then(Z83.j2 R N n a b c true d e f g) else(Z83.j2 R N n a b c (decide (r20.1>(32:Int))) d e f g)))) else(bif (b==(0:Int)) then some ⟨o_Z83,(true,())⟩ else((qgg R n_Z84 o_Z84 [⟨(.sl (.int .u8)),a⟩,⟨yI,(0:Int)⟩,⟨yI,b⟩]).bind fun r52=>((qgg R n_Z122 o_Z122 [⟨yK,d⟩,⟨yI,r52.1⟩]).bind fun r53=>((qgg R n_Z84 o_Z84 [⟨(.sl (.int .u8)),a⟩,⟨yI,(1:Int)⟩,⟨yI,(List.length r53.1:Int)⟩]).bind fun r54=>((idx? r53.1 r54.1).bind fun y55=>((qgg R n_Z122 o_Z122 [⟨yK,d⟩,⟨yI,(y55,()).1⟩]).bind fun r56=>((qgg R n_Z84 o_Z84 [⟨(.sl (.int .u8)),a⟩,⟨yI,(2:Int)⟩,⟨yI,(List.length r56.1:Int)⟩]).bind fun r57=>((idx? r56.1 r57.1).bind fun y58=>((qgg R n_Z18 o_Z18 [⟨yK,d⟩,⟨yI,e⟩,⟨yL,f⟩,⟨yN,g⟩,⟨yI,r52.1⟩,⟨yI,(y55,()).1⟩]).bind fun r59=>((qgg R n_Z18 o_Z18 [⟨yK,d⟩,⟨yI,e⟩,⟨yL,f⟩,⟨yN,g⟩,⟨yI,(y55,()).1⟩,⟨yI,(y58,()).1⟩]).bind fun r60=>((qgg R n_Z18 o_Z18 [⟨yK,d⟩,⟨yI,e⟩,⟨yL,f⟩,⟨yN,g⟩,⟨yI,r52.1⟩,⟨yI,(y58,()).1⟩]).bind fun r61=>((qgg R n_Z118 o_Z118 [⟨yI,r60.1⟩,⟨yI,r60.2.1⟩,⟨yI,r60.2.2.1⟩,⟨yL,r60.2.2.2.1⟩,⟨yI,r59.1⟩,⟨yI,r59.2.1⟩,⟨yI,r59.2.2.1⟩,⟨yL,r59.2.2.2.1⟩]).bind fun r62=>(bif (r59.2.2.2.2.1 != (0:Int)) then(Z83.j3 R N a ((y55,()).1) true d e f g) else(bif (r60.2.2.2.2.1 != (0:Int)) then(Z83.j3 R N a ((y55,()).1) true d e f g) else(bif (r61.2.2.2.2.1 != (0:Int)) then(Z83.j3 R N a ((y55,()).1) true d e f g) else(bif (r62.2.2.2.2.1 != (0:Int)) then(Z83.j3 R N a ((y55,()).1) true d e f g) else((qgg R n_Z120 o_Z120 [⟨yI,r62.1⟩,⟨yI,r62.2.1⟩,⟨yI,r62.2.2.1⟩,⟨yL,r62.2.2.2.1⟩,⟨yI,r61.1⟩,⟨yI,r61.2.1⟩,⟨yI,r61.2.2.1⟩,⟨yL,r61.2.2.2.1⟩]).bind fun r120=>(Z83.j3 R N a ((y55,()).1) (!r120.1) d e f g))))))))))))))))))):=(hw _ _).trans (by kernel_rfl)
theorem Z83.j0_eq(R:Run)(hw:R.ok)(N:Nat)(a:List Int)(b:Bool)(c:vK)(d:Int)(e:List Int)(f:vN):Z83.j0 R N a b c d e f=(bif b then some ⟨o_Z83,(false,())⟩ else(Z83.l1 R N N a (List.length c:Int) (0:Int) c d e f)):=(hw _ _).trans (by kernel_rfl)
theorem Z83.ev(R:Run)(N:Nat)(a0 a1:List Int):qsy E R sg_Z83 pol_Z83 F_Z83 N [⟨(.sl (.int .u8)),a0⟩,⟨(.sl (.int .u8)),a1⟩]=((qgg R n_Z85 o_Z85 [⟨(.sl (.int .u8)),a0⟩,⟨(.sl (.int .u8)),a1⟩]).bind fun r1=>(bif r1.1 then some ⟨o_Z83,(true,())⟩ else((qgg R n_Z119 o_Z119 [⟨(.sl (.int .u8)),a0⟩]).bind fun r2=>((qgg R n_Z22 o_Z22 [⟨yK,r2.1⟩,⟨yI,r2.2.1⟩,⟨yL,r2.2.2.1⟩,⟨yN,r2.2.2.2.1⟩]).bind fun r3=>((qgg R n_Z17 o_Z17 [⟨.str,r3.1⟩]).bind fun r4=>((qgg R n_Z31 o_Z31 [⟨yK,r2.1⟩,⟨yI,r2.2.1⟩,⟨yL,r2.2.2.1⟩,⟨yN,r2.2.2.2.1⟩]).bind fun r5=>((qgg R n_Z9 o_Z9 [⟨yK,r2.1⟩,⟨yI,r2.2.1⟩,⟨yL,r2.2.2.1⟩,⟨yN,r2.2.2.2.1⟩]).bind fun r6=>(bif (!r6.1) then(Z83.j0 R N a1 true r2.1 r2.2.1 r2.2.2.1 r2.2.2.2.1) else(bif (!r4.2.2.2.2.1) then(Z83.j0 R N a1 true r2.1 r2.2.1 r2.2.2.1 r2.2.2.2.1) else((qgg R n_Z121 o_Z121 [⟨yK,r4.1⟩,⟨yI,r4.2.1⟩,⟨yL,r4.2.2.1⟩,⟨yN,r4.2.2.2.1⟩,⟨yK,r2.1⟩,⟨yI,r2.2.1⟩,⟨yL,r2.2.2.1⟩,⟨yN,r2.2.2.2.1⟩]).bind fun r134=>(bif (!r134.1) then(Z83.j0 R N a1 true r2.1 r2.2.1 r2.2.2.1 r2.2.2.2.1) else(Z83.j0 R N a1 (r5.2.2.1 != (3:Int)) r2.1 r2.2.1 r2.2.2.1 r2.2.2.2.1)))))))))))):=by kernel_rfl
end
end VeT


open Go Go.Proofs Ve
set_option maxRecDepth 100000
namespace VeT
@[reducible] noncomputable def qap:Func:=Tryz.f197
@[reducible] def qau:Ty:=(.cons (.sl (.lab yL)) .nil)
noncomputable def qaK:Sig:=⟨[(false,1),(false,1)],[.take false,.imm],qau,[(false,1)],[.own],[]⟩
noncomputable def qac:Pol:=⟨68,[],[(4,⟨[0,1,5],[66],[],[],[],[],[]⟩),(9,⟨[0,1,5,6,7],[66],[],[],[],[],[]⟩)],[],[],[]⟩
noncomputable def slices_CompactFunc_SSint64_Sint64_L.l1(R:Run)(N:Nat)(n110100:Nat)(n:Nat)(t5__6:Int)(t6__7:Nat)(t6__8:Nat)(t7__9:Int)(o66_10:(List (Value×(List Int)))):Option Dv:=R.w (some ⟨(.c (.arr 66)::(.c (.d (.fn n_Z102 .nil) ())::(zd 3 (.c (.d yI t5__6)::(.c (.sub 66 t6__7 t6__8 1)::(.c (.d yI t7__9)::(zd 58 []))))))),(zo 66 (some (.arr (.lab yL) o66_10 false false false)::(none::[])))⟩) fun st=>qmb (qbu E R qac N (sub [1,1,0,1,0,0,1,0,0,1,0,1,0,1,0,0] (bodyOf qap))) (qb6 R qac.loopM 9) n st (qsk (qb6 R qac.blkM 2) 2 (qsp (qb6 R qac.seqM 14) (qbu E R qac N (sub [1,1,0,1,0,0,1,0,0,1,0,1,1] (bodyOf qap))) (qsk (qb6 R qac.blkM 1) 1 (qsp (qb6 R qac.seqM 5) (qbu E R qac N (sub [1,1,0,1,0,0,1,1] (bodyOf qap))) (qsZ (qbu E R qac N (sub [1,1,0,1,0,0] (bodyOf qap))) (qb6 R qac.loopM 4) n110100 (qsk (qb6 R qac.blkM 0) 0 (qsp (qb6 R qac.seqM 16) (qbu E R qac N (sub [1,1,1] (bodyOf qap))) (qs4 E qaK qap))))))))
noncomputable def slices_CompactFunc_SSint64_Sint64_L.l0(R:Run)(N:Nat)(n:Nat)(t5__1:Int)(o66_2:(List (Value×(List Int)))):Option Dv:=R.w (some ⟨(.c (.arr 66)::(.c (.d (.fn n_Z102 .nil) ())::(zd 3 (.c (.d yI t5__1)::(zd 60 []))))),(zo 66 (some (.arr (.lab yL) o66_2 false false false)::(none::[])))⟩) fun st=>qmb (qbu E R qac N (sub [1,1,0,1,0,0] (bodyOf qap))) (qb6 R qac.loopM 4) n st (qsk (qb6 R qac.blkM 0) 0 (qsp (qb6 R qac.seqM 16) (qbu E R qac N (sub [1,1,1] (bodyOf qap))) (qs4 E qaK qap)))
theorem slices_CompactFunc_SSint64_Sint64_L.l1_succ(R:Run)(hw:R.ok)(N:Nat)(n110100:Nat)(n:Nat)(t5__6:Int)(t6__7:Nat)(t6__8:Nat)(t7__9:Int)(o66_10:(List (Value×(List Int)))):slices_CompactFunc_SSint64_Sint64_L.l1 R N n110100 (n+1) t5__6 t6__7 t6__8 t7__9 o66_10=(Option.bind (chk (decide (t6__7≤t6__8)&&decide (t6__8≤List.length o66_10))) fun _=>(bif (decide (t7__9<((t6__8-t6__7:Nat):Int))) then(Option.bind (chk (decide (0≤t7__9)&&decide ((t6__7:Nat)+t7__9<((t6__8:Nat):Int))&&decide (t6__8≤List.length o66_10))) fun _=>(Option.bind (o66_10)[(t6__7+Int.toNat t7__9)]? fun y11=>(Option.bind (chk (decide (0≤(w64 (t7__9-(1:Int))))&&decide ((t6__7:Nat)+(w64 (t7__9-(1:Int)))<((t6__8:Nat):Int))&&decide (t6__8≤List.length o66_10))) fun _=>(Option.bind (o66_10)[(t6__7+Int.toNat (w64 (t7__9-(1:Int))))]? fun y12=>(Option.bind (qgg R n_Z102 o_Z102 [⟨yL,y11.2⟩,⟨yL,y12.2⟩]) fun r13=>(bif (!r13.1) then(Option.bind (chk (decide (0≤t7__9)&&decide ((t6__7:Nat)+t7__9<((t6__8:Nat):Int))&&decide (t6__8≤List.length o66_10))) fun _=>(Option.bind (o66_10)[(t6__7+Int.toNat t7__9)]? fun y14=>(Option.bind (chk (decide (0≤t5__6)&&decide (t5__6<(List.length o66_10:Int)))) fun _=>(slices_CompactFunc_SSint64_Sint64_L.l1 R N n110100 n (w64 (t5__6+(1:Int))) t6__7 t6__8 (w64 (t7__9+(1:Int))) (List.set o66_10 (Int.toNat t5__6) y14))))) else(slices_CompactFunc_SSint64_Sint64_L.l1 R N n110100 n t5__6 t6__7 t6__8 (w64 (t7__9+(1:Int))) o66_10))))))) else(Option.bind (chk (decide (0≤t5__6)&&decide (t5__6≤(List.length o66_10:Int)))) fun _=>(Option.bind (chk (decide ((Int.toNat t5__6)≤(List.length o66_10))&&decide ((List.length o66_10)≤List.length o66_10))) fun _=>(Option.bind (chk (decide (0≤t5__6)&&decide (t5__6≤(List.length (List.take (Int.toNat t5__6) o66_10++List.replicate ((List.length o66_10)-(Int.toNat t5__6)) (Value.slice none 0 0,([]:(List Int)))++List.drop (List.length o66_10) o66_10):Int)))) fun _=>some ⟨qau,((List.drop 0 (List.take (Int.toNat t5__6) (List.take (Int.toNat t5__6) o66_10++List.replicate ((List.length o66_10)-(Int.toNat t5__6)) (Value.slice none 0 0,([]:(List Int)))++List.drop (List.length o66_10) o66_10))),())⟩))))):=(hw _ _).trans (by kernel_rfl)
theorem slices_CompactFunc_SSint64_Sint64_L.l0_succ(R:Run)(hw:R.ok)(N:Nat)(n:Nat)(t5__1:Int)(o66_2:(List (Value×(List Int)))):slices_CompactFunc_SSint64_Sint64_L.l0 R N (n+1) t5__1 o66_2=(bif (decide (t5__1<(List.length o66_2:Int))) then(Option.bind (chk (decide (0≤t5__1)&&decide (t5__1<(List.length o66_2:Int)))) fun _=>(Option.bind (o66_2)[(Int.toNat t5__1)]? fun y3=>(Option.bind (chk (decide (0≤(w64 (t5__1-(1:Int))))&&decide ((w64 (t5__1-(1:Int)))<(List.length o66_2:Int)))) fun _=>(Option.bind (o66_2)[(Int.toNat (w64 (t5__1-(1:Int))))]? fun y4=>(Option.bind (qgg R n_Z102 o_Z102 [⟨yL,y3.2⟩,⟨yL,y4.2⟩]) fun r5=>(bif r5.1 then(Option.bind (chk (decide (0≤t5__1)&&decide (t5__1≤(List.length o66_2:Int)))) fun _=>(slices_CompactFunc_SSint64_Sint64_L.l1 R N n N t5__1 (Int.toNat t5__1) (List.length o66_2) (1:Int) o66_2)) else(slices_CompactFunc_SSint64_Sint64_L.l0 R N n (w64 (t5__1+(1:Int))) o66_2))))))) else some ⟨qau,(o66_2,())⟩):=(hw _ _).trans (by kernel_rfl)
theorem slices_CompactFunc_SSint64_Sint64_L.ev(R:Run)(N:Nat)(a0:(List (Value×(List Int)))):qsy E R qaK qac qap N [⟨(.sl (.lab yL)),a0⟩,⟨(.fn n_Z102 .nil),()⟩]=(bif (decide ((List.length a0:Int)<(2:Int))) then some ⟨qau,(a0,())⟩ else(slices_CompactFunc_SSint64_Sint64_L.l0 R N N (1:Int) a0)):=by kernel_rfl
end VeT
namespace Go.Proofs
open Go.Shelf
def Tryz.joinl40_ren:Go.Shelf.Ren:=⟨fun | 156=>40 | 165=>101 | 166=>102 | 169=>103 | 240=>162 | 241=>163 | 276=>211 | 277=>212 | n=>n,fun | 31=>73 | 9=>9 | 3=>3 | 4=>4 | 0=>0 | 20=>20 | 72=>133 | 76=>137 | 70=>131 | 37=>42 | 75=>136 | 127=>178 | 164=>208 | 5=>5 | 80=>139 | n=>n,fun | n=>n⟩
theorem Tryz.joinl40:Go.Proofs.Lays.n156 Tryz.prog Tryz.joinl40_ren:={
 mixed:=by kernel_rfl
 f156:=Tryz.func40.trans (congrArg some (by kernel_rfl))
 f165:=Tryz.func101.trans (congrArg some (by kernel_rfl))
 f166:=Tryz.func102.trans (congrArg some (by kernel_rfl))
 f169:=Tryz.func103.trans (congrArg some (by kernel_rfl))
 f240:=Tryz.func162.trans (congrArg some (by kernel_rfl))
 f241:=Tryz.func163.trans (congrArg some (by kernel_rfl))
 f276:=Tryz.func211.trans (congrArg some (by kernel_rfl))
 f277:=Tryz.func212.trans (congrArg some (by kernel_rfl))
 t0:=Tryz.underlying0
 a0:=Tryz.isAgg0
 z0:=Tryz.sizeOf0
 v0:=Tryz.zeroValue0
 t3:=Tryz.underlying3
 a3:=Tryz.isAgg3
 z3:=Tryz.sizeOf3
 v3:=Tryz.zeroValue3
 t4:=Tryz.underlying4
 a4:=Tryz.isAgg4
 z4:=Tryz.sizeOf4
 v4:=Tryz.zeroValue4
 t9:=Tryz.underlying9
 a9:=Tryz.isAgg9
 z9:=Tryz.sizeOf9
 v9:=Tryz.zeroValue9
 t20:=Tryz.underlying20
 a20:=Tryz.isAgg20
 z20:=Tryz.sizeOf20
 v20:=Tryz.zeroValue20
 t31:=Tryz.underlying73
 a31:=Tryz.isAgg73
 z31:=Tryz.sizeOf73
 v31:=Tryz.zeroValue73
 t37:=Tryz.underlying42
 a37:=Tryz.isAgg42
 z37:=Tryz.sizeOf42
 v37:=Tryz.zeroValue42
 t70:=Tryz.underlying131
 a70:=Tryz.isAgg131
 z70:=Tryz.sizeOf131
 v70:=Tryz.zeroValue131
 t72:=Tryz.underlying133
 a72:=Tryz.isAgg133
 z72:=Tryz.sizeOf133
 v72:=Tryz.zeroValue133
 t75:=Tryz.underlying136
 a75:=Tryz.isAgg136
 z75:=Tryz.sizeOf136
 v75:=Tryz.zeroValue136
 t76:=Tryz.underlying137
 a76:=Tryz.isAgg137
 z76:=Tryz.sizeOf137
 v76:=Tryz.zeroValue137
 t127:=Tryz.underlying178
 a127:=Tryz.isAgg178
 z127:=Tryz.sizeOf178
 v127:=Tryz.zeroValue178
 t164:=Tryz.underlying208
 a164:=Tryz.isAgg208
 z164:=Tryz.sizeOf208
 v164:=Tryz.zeroValue208 }
def Tryz.splitl45_ren:Go.Shelf.Ren:=⟨fun | 146=>45 | 221=>112 | 268=>167 | 138=>168 | 143=>169 | 195=>213 | 197=>214 | 218=>215 | 219=>216 | 260=>240 | 217=>241 | 225=>242 | 224=>243 | 267=>244 | 266=>266 | 314=>267 | n=>n,fun | 9=>9 | 31=>73 | 3=>3 | 4=>4 | 0=>0 | 105=>212 | 21=>21 | 5=>5 | 46=>219 | 119=>251 | 139=>254 | 138=>253 | 146=>255 | 51=>236 | n=>n,fun | 1=>1 | 3=>4 | 4=>5 | n=>n⟩
theorem Tryz.splitl45:Go.Proofs.LaysM.n146 Tryz.prog Tryz.splitl45_ren:={
 mixed:=by kernel_rfl
 f138:=Tryz.func168.trans (congrArg some (by kernel_rfl))
 f143:=Tryz.func169.trans (congrArg some (by kernel_rfl))
 f146:=Tryz.func45.trans (congrArg some (by kernel_rfl))
 f195:=Tryz.func213.trans (congrArg some (by kernel_rfl))
 f197:=Tryz.func214.trans (congrArg some (by kernel_rfl))
 f217:=Tryz.func241.trans (congrArg some (by kernel_rfl))
 f218:=Tryz.func215.trans (congrArg some (by kernel_rfl))
 f219:=Tryz.func216.trans (congrArg some (by kernel_rfl))
 f221:=Tryz.func112.trans (congrArg some (by kernel_rfl))
 f224:=Tryz.func243.trans (congrArg some (by kernel_rfl))
 f225:=Tryz.func242.trans (congrArg some (by kernel_rfl))
 f260:=Tryz.func240.trans (congrArg some (by kernel_rfl))
 f266:=Tryz.func266.trans (congrArg some (by kernel_rfl))
 f267:=Tryz.func244.trans (congrArg some (by kernel_rfl))
 f268:=Tryz.func167.trans (congrArg some (by kernel_rfl))
 f314:=Tryz.func267.trans (congrArg some (by kernel_rfl))
 t0:=Tryz.underlying0
 a0:=Tryz.isAgg0
 z0:=Tryz.sizeOf0
 v0:=Tryz.zeroValue0
 t3:=Tryz.underlying3
 a3:=Tryz.isAgg3
 z3:=Tryz.sizeOf3
 v3:=Tryz.zeroValue3
 t4:=Tryz.underlying4
 a4:=Tryz.isAgg4
 z4:=Tryz.sizeOf4
 v4:=Tryz.zeroValue4
 t5:=Tryz.underlying5
 a5:=Tryz.isAgg5
 z5:=Tryz.sizeOf5
 v5:=Tryz.zeroValue5
 t9:=Tryz.underlying9
 a9:=Tryz.isAgg9
 z9:=Tryz.sizeOf9
 v9:=Tryz.zeroValue9
 t21:=Tryz.underlying21
 a21:=Tryz.isAgg21
 z21:=Tryz.sizeOf21
 v21:=Tryz.zeroValue21
 t31:=Tryz.underlying73
 a31:=Tryz.isAgg73
 z31:=Tryz.sizeOf73
 v31:=Tryz.zeroValue73
 t46:=Tryz.underlying219
 a46:=Tryz.isAgg219
 z46:=Tryz.sizeOf219
 v46:=Tryz.zeroValue219
 t51:=Tryz.underlying236
 a51:=Tryz.isAgg236
 z51:=Tryz.sizeOf236
 v51:=Tryz.zeroValue236
 t105:=Tryz.underlying212
 a105:=Tryz.isAgg212
 z105:=Tryz.sizeOf212
 v105:=Tryz.zeroValue212
 t119:=Tryz.underlying251
 a119:=Tryz.isAgg251
 z119:=Tryz.sizeOf251
 t138:=Tryz.underlying253
 a138:=Tryz.isAgg253
 z138:=Tryz.sizeOf253
 v138:=Tryz.zeroValue253
 t139:=Tryz.underlying254
 a139:=Tryz.isAgg254
 z139:=Tryz.sizeOf254
 v139:=Tryz.zeroValue254
 t146:=Tryz.underlying255
 a146:=Tryz.isAgg255
 z146:=Tryz.sizeOf255
 v146:=Tryz.zeroValue255
 g1:=by kernel_rfl
 g3:=by kernel_rfl
 g4:=by kernel_rfl
 i0:=by kernel_rfl
 i3:=by kernel_rfl
 i4:=by kernel_rfl
 i5:=by kernel_rfl
 i9:=by kernel_rfl
 i21:=by kernel_rfl
 i31:=by kernel_rfl
 i46:=by kernel_rfl
 i51:=by kernel_rfl
 i105:=by kernel_rfl
 i138:=by kernel_rfl
 i139:=by kernel_rfl
 i146:=by kernel_rfl
 m1:=by kernel_rfl
 s1_3:=fun w h=>Go.Proofs.cell_of_shapedOpen_int (zero:=#[.int .i64 0]) (t:=3) h (of_decide_eq_true (by kernel_rfl)) (by kernel_rfl) rfl (by kernel_rfl) (by kernel_rfl) Tryz.underlying3
 m3:=by kernel_rfl
 m4:=by kernel_rfl }
def Tryz.fmtl97_ren:Go.Shelf.Ren:=⟨fun | 173=>97 | 246=>161 | 283=>207 | 284=>208 | 285=>209 | 286=>210 | 129=>236 | 317=>235 | 318=>237 | 319=>238 | 320=>239 | 337=>264 | 338=>265 | n=>n,fun | 2=>2 | 3=>3 | 9=>9 | 4=>4 | 171=>203 | 0=>0 | 53=>151 | 37=>42 | 5=>5 | 173=>206 | 212=>235 | 51=>236 | 20=>20 | 213=>237 | 46=>219 | 232=>266 | 233=>267 | n=>n,fun | 17=>0 | 18=>6 | 19=>7 | n=>n⟩
theorem Tryz.fmtl97:Go.Proofs.LaysM.n173 Tryz.prog Tryz.fmtl97_ren:={
 mixed:=by kernel_rfl
 f129:=Tryz.func236.trans (congrArg some (by kernel_rfl))
 f173:=Tryz.func97.trans (congrArg some (by kernel_rfl))
 f246:=Tryz.func161.trans (congrArg some (by kernel_rfl))
 f283:=Tryz.func207.trans (congrArg some (by kernel_rfl))
 f284:=Tryz.func208.trans (congrArg some (by kernel_rfl))
 f285:=Tryz.func209.trans (congrArg some (by kernel_rfl))
 f286:=Tryz.func210.trans (congrArg some (by kernel_rfl))
 f317:=Tryz.func235.trans (congrArg some (by kernel_rfl))
 f318:=Tryz.func237.trans (congrArg some (by kernel_rfl))
 f319:=Tryz.func238.trans (congrArg some (by kernel_rfl))
 f320:=Tryz.func239.trans (congrArg some (by kernel_rfl))
 f337:=Tryz.func264.trans (congrArg some (by kernel_rfl))
 f338:=Tryz.func265.trans (congrArg some (by kernel_rfl))
 t0:=Tryz.underlying0
 a0:=Tryz.isAgg0
 z0:=Tryz.sizeOf0
 v0:=Tryz.zeroValue0
 t2:=Tryz.underlying2
 a2:=Tryz.isAgg2
 z2:=Tryz.sizeOf2
 v2:=Tryz.zeroValue2
 t3:=Tryz.underlying3
 a3:=Tryz.isAgg3
 z3:=Tryz.sizeOf3
 v3:=Tryz.zeroValue3
 t4:=Tryz.underlying4
 a4:=Tryz.isAgg4
 z4:=Tryz.sizeOf4
 v4:=Tryz.zeroValue4
 t5:=Tryz.underlying5
 a5:=Tryz.isAgg5
 z5:=Tryz.sizeOf5
 v5:=Tryz.zeroValue5
 t9:=Tryz.underlying9
 a9:=Tryz.isAgg9
 z9:=Tryz.sizeOf9
 v9:=Tryz.zeroValue9
 t20:=Tryz.underlying20
 a20:=Tryz.isAgg20
 z20:=Tryz.sizeOf20
 v20:=Tryz.zeroValue20
 t37:=Tryz.underlying42
 a37:=Tryz.isAgg42
 z37:=Tryz.sizeOf42
 v37:=Tryz.zeroValue42
 t46:=Tryz.underlying219
 a46:=Tryz.isAgg219
 z46:=Tryz.sizeOf219
 v46:=Tryz.zeroValue219
 t51:=Tryz.underlying236
 a51:=Tryz.isAgg236
 z51:=Tryz.sizeOf236
 v51:=Tryz.zeroValue236
 t53:=Tryz.underlying151
 a53:=Tryz.isAgg151
 z53:=Tryz.sizeOf151
 v53:=Tryz.zeroValue151
 t171:=Tryz.underlying203
 a171:=Tryz.isAgg203
 z171:=Tryz.sizeOf203
 v171:=Tryz.zeroValue203
 t173:=Tryz.underlying206
 a173:=Tryz.isAgg206
 z173:=Tryz.sizeOf206
 v173:=Tryz.zeroValue206
 t212:=Tryz.underlying235
 a212:=Tryz.isAgg235
 z212:=Tryz.sizeOf235
 v212:=Tryz.zeroValue235
 t213:=Tryz.underlying237
 a213:=Tryz.isAgg237
 z213:=Tryz.sizeOf237
 t232:=Tryz.underlying266
 a232:=Tryz.isAgg266
 z232:=Tryz.sizeOf266
 v232:=Tryz.zeroValue266
 t233:=Tryz.underlying267
 a233:=Tryz.isAgg267
 z233:=Tryz.sizeOf267
 v233:=Tryz.zeroValue267
 g17:=by kernel_rfl
 g18:=by kernel_rfl
 g19:=by kernel_rfl
 i0:=by kernel_rfl
 i2:=by kernel_rfl
 i3:=by kernel_rfl
 i4:=by kernel_rfl
 i5:=by kernel_rfl
 i9:=by kernel_rfl
 i20:=by kernel_rfl
 i37:=by kernel_rfl
 i46:=by kernel_rfl
 i51:=by kernel_rfl
 i53:=by kernel_rfl
 i171:=by kernel_rfl
 i173:=by kernel_rfl
 i212:=by kernel_rfl
 i232:=by kernel_rfl
 i233:=by kernel_rfl
 m17:=by kernel_rfl
 m18:=by kernel_rfl
 m19:=by kernel_rfl }
def Tryz.sortf196_ren:Go.Shelf.Ren:=⟨fun | 6=>196 | 15=>232 | 14=>231 | 28=>262 | 29=>236 | 20=>254 | 21=>255 | 22=>256 | 23=>257 | 24=>258 | 25=>259 | 26=>260 | 27=>261 | 46=>269 | 47=>270 | 48=>271 | 49=>272 | 50=>273 | 57=>274 | n=>n,fun | 22=>22 | 24=>25 | 25=>176 | 3=>3 | 39=>219 | 0=>0 | 53=>236 | 55=>151 | 4=>4 | 46=>245 | 45=>244 | 50=>195 | 5=>5 | 9=>9 | 66=>260 | 70=>264 | 76=>268 | 77=>269 | n=>n,fun | n=>n⟩
theorem Tryz.sortf196:Go.Proofs.SlLaysF.n6 Tryz.prog Tryz.sortf196_ren:={
 mixed:=by kernel_rfl
 f6:=⟨Tryz.f196.name,by decide,Tryz.func196.trans (congrArg some (by kernel_rfl))⟩
 f14:=⟨Tryz.f231.name,by decide,Tryz.func231.trans (congrArg some (by kernel_rfl))⟩
 f15:=Tryz.func232.trans (congrArg some (by kernel_rfl))
 f20:=⟨Tryz.f254.name,by decide,Tryz.func254.trans (congrArg some (by kernel_rfl))⟩
 f21:=⟨Tryz.f255.name,by decide,Tryz.func255.trans (congrArg some (by kernel_rfl))⟩
 f22:=⟨Tryz.f256.name,by decide,Tryz.func256.trans (congrArg some (by kernel_rfl))⟩
 f23:=⟨Tryz.f257.name,by decide,Tryz.func257.trans (congrArg some (by kernel_rfl))⟩
 f24:=⟨Tryz.f258.name,by decide,Tryz.func258.trans (congrArg some (by kernel_rfl))⟩
 f25:=⟨Tryz.f259.name,by decide,Tryz.func259.trans (congrArg some (by kernel_rfl))⟩
 f26:=⟨Tryz.f260.name,by decide,Tryz.func260.trans (congrArg some (by kernel_rfl))⟩
 f27:=⟨Tryz.f261.name,by decide,Tryz.func261.trans (congrArg some (by kernel_rfl))⟩
 f28:=Tryz.func262.trans (congrArg some (by kernel_rfl))
 f29:=Tryz.func236.trans (congrArg some (by kernel_rfl))
 f46:=⟨Tryz.f269.name,by decide,Tryz.func269.trans (congrArg some (by kernel_rfl))⟩
 f47:=Tryz.func270.trans (congrArg some (by kernel_rfl))
 f48:=Tryz.func271.trans (congrArg some (by kernel_rfl))
 f49:=⟨Tryz.f272.name,by decide,Tryz.func272.trans (congrArg some (by kernel_rfl))⟩
 f50:=⟨Tryz.f273.name,by decide,Tryz.func273.trans (congrArg some (by kernel_rfl))⟩
 f57:=⟨Tryz.f274.name,by decide,Tryz.func274.trans (congrArg some (by kernel_rfl))⟩
 t0:=Tryz.underlying0
 a0:=Tryz.isAgg0
 z0:=Tryz.sizeOf0
 v0:=Tryz.zeroValue0
 t3:=Tryz.underlying3
 a3:=Tryz.isAgg3
 z3:=Tryz.sizeOf3
 v3:=Tryz.zeroValue3
 t4:=Tryz.underlying4
 a4:=Tryz.isAgg4
 z4:=Tryz.sizeOf4
 v4:=Tryz.zeroValue4
 t5:=Tryz.underlying5
 a5:=Tryz.isAgg5
 z5:=Tryz.sizeOf5
 v5:=Tryz.zeroValue5
 t9:=Tryz.underlying9
 a9:=Tryz.isAgg9
 z9:=Tryz.sizeOf9
 v9:=Tryz.zeroValue9
 t22:=Tryz.underlying22
 a22:=Tryz.isAgg22
 z22:=Tryz.sizeOf22
 v22:=Tryz.zeroValue22
 a24:=Tryz.isAgg25
 z24:=Tryz.sizeOf25
 t25:=Tryz.underlying176
 a25:=Tryz.isAgg176
 z25:=Tryz.sizeOf176
 v25:=Tryz.zeroValue176
 t39:=Tryz.underlying219
 a39:=Tryz.isAgg219
 z39:=Tryz.sizeOf219
 v39:=Tryz.zeroValue219
 t45:=Tryz.underlying244
 a45:=Tryz.isAgg244
 z45:=Tryz.sizeOf244
 v45:=Tryz.zeroValue244
 t46:=Tryz.underlying245
 a46:=Tryz.isAgg245
 z46:=Tryz.sizeOf245
 v46:=Tryz.zeroValue245
 t50:=Tryz.underlying195
 a50:=Tryz.isAgg195
 z50:=Tryz.sizeOf195
 v50:=Tryz.zeroValue195
 t53:=Tryz.underlying236
 a53:=Tryz.isAgg236
 z53:=Tryz.sizeOf236
 v53:=Tryz.zeroValue236
 t55:=Tryz.underlying151
 a55:=Tryz.isAgg151
 z55:=Tryz.sizeOf151
 v55:=Tryz.zeroValue151
 t66:=Tryz.underlying260
 a66:=Tryz.isAgg260
 z66:=Tryz.sizeOf260
 v66:=Tryz.zeroValue260
 t70:=Tryz.underlying264
 a70:=Tryz.isAgg264
 z70:=Tryz.sizeOf264
 v70:=Tryz.zeroValue264
 t76:=Tryz.underlying268
 a76:=Tryz.isAgg268
 z76:=Tryz.sizeOf268
 v76:=Tryz.zeroValue268
 t77:=Tryz.underlying269
 a77:=Tryz.isAgg269
 z77:=Tryz.sizeOf269
 v77:=Tryz.zeroValue269 }
def Tryz.parsel115_ren:Go.Shelf.Ren:=⟨fun | 174=>115 | 247=>173 | 245=>174 | 287=>218 | 279=>219 | 280=>220 | 281=>221 | 282=>222 | 321=>245 | 322=>246 | 316=>247 | 171=>249 | 205=>248 | 243=>268 | 246=>161 | 283=>207 | 284=>208 | 285=>209 | 286=>210 | 129=>236 | 317=>235 | 318=>237 | 319=>238 | 320=>239 | 337=>264 | 338=>265 | n=>n,fun | 9=>9 | 3=>3 | 2=>2 | 75=>136 | 85=>148 | 4=>4 | 167=>216 | 5=>5 | 53=>151 | 175=>217 | 46=>219 | 168=>220 | 37=>42 | 0=>0 | 210=>241 | 21=>21 | 127=>178 | 145=>259 | 143=>257 | 171=>203 | 173=>206 | 212=>235 | 51=>236 | 20=>20 | 213=>237 | 232=>266 | 233=>267 | 80=>139 | n=>n,fun | 15=>2 | 16=>3 | 17=>0 | 18=>6 | 19=>7 | n=>n⟩
theorem Tryz.parsel115:Go.Proofs.LaysC.n174 Tryz.prog Tryz.parsel115_ren:={
 mixed:=by kernel_rfl
 f129:=Tryz.func236.trans (congrArg some (by kernel_rfl))
 f171:=Tryz.func249.trans (congrArg some (by kernel_rfl))
 f174:=Tryz.func115.trans (congrArg some (by kernel_rfl))
 f205:=Tryz.func248.trans (congrArg some (by kernel_rfl))
 f243:=Tryz.func268.trans (congrArg some (by kernel_rfl))
 f245:=Tryz.func174.trans (congrArg some (by kernel_rfl))
 f246:=Tryz.func161.trans (congrArg some (by kernel_rfl))
 f247:=Tryz.func173.trans (congrArg some (by kernel_rfl))
 f279:=Tryz.func219.trans (congrArg some (by kernel_rfl))
 f280:=Tryz.func220.trans (congrArg some (by kernel_rfl))
 f281:=Tryz.func221.trans (congrArg some (by kernel_rfl))
 f282:=Tryz.func222.trans (congrArg some (by kernel_rfl))
 f283:=Tryz.func207.trans (congrArg some (by kernel_rfl))
 f284:=Tryz.func208.trans (congrArg some (by kernel_rfl))
 f285:=Tryz.func209.trans (congrArg some (by kernel_rfl))
 f286:=Tryz.func210.trans (congrArg some (by kernel_rfl))
 f287:=Tryz.func218.trans (congrArg some (by kernel_rfl))
 f316:=Tryz.func247.trans (congrArg some (by kernel_rfl))
 f317:=Tryz.func235.trans (congrArg some (by kernel_rfl))
 f318:=Tryz.func237.trans (congrArg some (by kernel_rfl))
 f319:=Tryz.func238.trans (congrArg some (by kernel_rfl))
 f320:=Tryz.func239.trans (congrArg some (by kernel_rfl))
 f321:=Tryz.func245.trans (congrArg some (by kernel_rfl))
 f322:=Tryz.func246.trans (congrArg some (by kernel_rfl))
 f337:=Tryz.func264.trans (congrArg some (by kernel_rfl))
 f338:=Tryz.func265.trans (congrArg some (by kernel_rfl))
 t0:=Tryz.underlying0
 a0:=Tryz.isAgg0
 z0:=Tryz.sizeOf0
 v0:=Tryz.zeroValue0
 t2:=Tryz.underlying2
 a2:=Tryz.isAgg2
 z2:=Tryz.sizeOf2
 v2:=Tryz.zeroValue2
 t3:=Tryz.underlying3
 a3:=Tryz.isAgg3
 z3:=Tryz.sizeOf3
 v3:=Tryz.zeroValue3
 t4:=Tryz.underlying4
 a4:=Tryz.isAgg4
 z4:=Tryz.sizeOf4
 v4:=Tryz.zeroValue4
 t5:=Tryz.underlying5
 a5:=Tryz.isAgg5
 z5:=Tryz.sizeOf5
 v5:=Tryz.zeroValue5
 t9:=Tryz.underlying9
 a9:=Tryz.isAgg9
 z9:=Tryz.sizeOf9
 v9:=Tryz.zeroValue9
 t20:=Tryz.underlying20
 a20:=Tryz.isAgg20
 z20:=Tryz.sizeOf20
 v20:=Tryz.zeroValue20
 t21:=Tryz.underlying21
 a21:=Tryz.isAgg21
 z21:=Tryz.sizeOf21
 v21:=Tryz.zeroValue21
 t37:=Tryz.underlying42
 a37:=Tryz.isAgg42
 z37:=Tryz.sizeOf42
 v37:=Tryz.zeroValue42
 t46:=Tryz.underlying219
 a46:=Tryz.isAgg219
 z46:=Tryz.sizeOf219
 v46:=Tryz.zeroValue219
 t51:=Tryz.underlying236
 a51:=Tryz.isAgg236
 z51:=Tryz.sizeOf236
 v51:=Tryz.zeroValue236
 t53:=Tryz.underlying151
 a53:=Tryz.isAgg151
 z53:=Tryz.sizeOf151
 v53:=Tryz.zeroValue151
 t75:=Tryz.underlying136
 a75:=Tryz.isAgg136
 z75:=Tryz.sizeOf136
 v75:=Tryz.zeroValue136
 t85:=Tryz.underlying148
 a85:=Tryz.isAgg148
 z85:=Tryz.sizeOf148
 v85:=Tryz.zeroValue148
 t127:=Tryz.underlying178
 a127:=Tryz.isAgg178
 z127:=Tryz.sizeOf178
 v127:=Tryz.zeroValue178
 t143:=Tryz.underlying257
 a143:=Tryz.isAgg257
 z143:=Tryz.sizeOf257
 v143:=Tryz.zeroValue257
 t145:=Tryz.underlying259
 a145:=Tryz.isAgg259
 z145:=Tryz.sizeOf259
 v145:=Tryz.zeroValue259
 t167:=Tryz.underlying216
 a167:=Tryz.isAgg216
 z167:=Tryz.sizeOf216
 v167:=Tryz.zeroValue216
 t168:=Tryz.underlying220
 a168:=Tryz.isAgg220
 z168:=Tryz.sizeOf220
 v168:=Tryz.zeroValue220
 t171:=Tryz.underlying203
 a171:=Tryz.isAgg203
 z171:=Tryz.sizeOf203
 v171:=Tryz.zeroValue203
 t173:=Tryz.underlying206
 a173:=Tryz.isAgg206
 z173:=Tryz.sizeOf206
 v173:=Tryz.zeroValue206
 t175:=Tryz.underlying217
 a175:=Tryz.isAgg217
 z175:=Tryz.sizeOf217
 v175:=Tryz.zeroValue217
 t210:=Tryz.underlying241
 a210:=Tryz.isAgg241
 z210:=Tryz.sizeOf241
 v210:=Tryz.zeroValue241
 t212:=Tryz.underlying235
 a212:=Tryz.isAgg235
 z212:=Tryz.sizeOf235
 v212:=Tryz.zeroValue235
 t213:=Tryz.underlying237
 a213:=Tryz.isAgg237
 z213:=Tryz.sizeOf237
 t232:=Tryz.underlying266
 a232:=Tryz.isAgg266
 z232:=Tryz.sizeOf266
 v232:=Tryz.zeroValue266
 t233:=Tryz.underlying267
 a233:=Tryz.isAgg267
 z233:=Tryz.sizeOf267
 v233:=Tryz.zeroValue267
 g15:=by kernel_rfl
 g16:=by kernel_rfl
 g17:=by kernel_rfl
 g18:=by kernel_rfl
 g19:=by kernel_rfl
 t80:=Tryz.underlying139
 a80:=Tryz.isAgg139
 z80:=Tryz.sizeOf139
 v80:=Tryz.zeroValue139
 i0:=by kernel_rfl
 i2:=by kernel_rfl
 i3:=by kernel_rfl
 i4:=by kernel_rfl
 i5:=by kernel_rfl
 i9:=by kernel_rfl
 i20:=by kernel_rfl
 i21:=by kernel_rfl
 i37:=by kernel_rfl
 i46:=by kernel_rfl
 i51:=by kernel_rfl
 i53:=by kernel_rfl
 i75:=by kernel_rfl
 i80:=by kernel_rfl
 i85:=by kernel_rfl
 i127:=by kernel_rfl
 i143:=by kernel_rfl
 i145:=by kernel_rfl
 i167:=by kernel_rfl
 i168:=by kernel_rfl
 i171:=by kernel_rfl
 i173:=by kernel_rfl
 i175:=by kernel_rfl
 i210:=by kernel_rfl
 i212:=by kernel_rfl
 i232:=by kernel_rfl
 i233:=by kernel_rfl
 m15:=by kernel_rfl
 m16:=by kernel_rfl
 m17:=by kernel_rfl
 m18:=by kernel_rfl
 m19:=by kernel_rfl
 c0:=by kernel_rfl
 c2:=by kernel_rfl
 c3:=by kernel_rfl
 c4:=by kernel_rfl
 c5:=by kernel_rfl
 c9:=by kernel_rfl
 c20:=by kernel_rfl
 c21:=by kernel_rfl
 c37:=by kernel_rfl
 c46:=by kernel_rfl
 c51:=by kernel_rfl
 c53:=by kernel_rfl
 c75:=by kernel_rfl
 c80:=by kernel_rfl
 c85:=by kernel_rfl
 c127:=by kernel_rfl
 c143:=by kernel_rfl
 c145:=by kernel_rfl
 c167:=by kernel_rfl
 c168:=by kernel_rfl
 c171:=by kernel_rfl
 c173:=by kernel_rfl
 c175:=by kernel_rfl
 c210:=by kernel_rfl
 c212:=by kernel_rfl
 c213:=by kernel_rfl
 c232:=by kernel_rfl
 c233:=by kernel_rfl }
def Tryz.triml114_ren:Go.Shelf.Ren:=⟨fun | 101=>114 | 208=>172 | 206=>217 | n=>n,fun | 9=>9 | 4=>4 | 3=>3 | n=>n,fun | n=>n⟩
theorem Tryz.triml114:Go.Proofs.Lays.n101 Tryz.prog Tryz.triml114_ren:={
 mixed:=by kernel_rfl
 f101:=Tryz.func114.trans (congrArg some (by kernel_rfl))
 f206:=Tryz.func217.trans (congrArg some (by kernel_rfl))
 f208:=Tryz.func172.trans (congrArg some (by kernel_rfl))
 t3:=Tryz.underlying3
 a3:=Tryz.isAgg3
 z3:=Tryz.sizeOf3
 v3:=Tryz.zeroValue3
 t4:=Tryz.underlying4
 a4:=Tryz.isAgg4
 z4:=Tryz.sizeOf4
 v4:=Tryz.zeroValue4
 t9:=Tryz.underlying9
 a9:=Tryz.isAgg9
 z9:=Tryz.sizeOf9
 v9:=Tryz.zeroValue9 }
end Go.Proofs
namespace VeT
section
open Go Go.Proofs Go.RowKit Go.Lib
open Ve in
theorem qld {w : World} {S : qab} (h : Gl E.gs w S) : Lib.TabIs Tryz.prog w "internal/strconv.uint64pow10" .u64 Lib.pow10Tab := by
 obtain⟨_,cs,e,fz,h1,h2⟩:=h _ (.head _)
 have h2:cs=_:=h2
 subst h2
 unfold Lib.TabIs World.var?
 rw [show Tryz.prog.globalNamed "internal/strconv.uint64pow10" = some (gv "internal/strconv.uint64pow10") by kernel_rfl]
 simp only[Option.bind_some]
 rw[h1]
theorem qgw:Builder.Extra Tryz.prog Tryz.joinl40_ren:={
 sizeBuilder:=by kernel_rfl
 liesBuilder:=by kernel_rfl
 t5:=Tryz.fmtl97.t5
 a5:=Tryz.fmtl97.a5
 z5:=Tryz.fmtl97.z5
 v5:=Tryz.fmtl97.v5
 infoByte:=by kernel_rfl
 cellsByte:=by kernel_rfl
 sizeByte:=by kernel_rfl
 neB5:=by decide }
open Ve in
theorem qhS{R:Run}{args:List Dv}{dv:Dv}(h:qn9 R args=some dv):qaO E.gs Tryz.prog ⟨[(false,1),(false,1)],[],.cons .str .nil,[(false,1)],[],[.str]⟩ 40 args dv :=
 Ve.qj8 (fun a c sep w=>Any.strings_Join_none Tryz.joinl40 qgw a c sep w)
  (fun bk o c xs sep w h1 h2 h3 h4 h5=>Any.strings_Join Tryz.joinl40 qgw bk o c xs sep w h1 h2 h3 h4 h5) h
open Ve in
theorem qrt{w:World}{S:qab}(h:Gl E.gs w S):∃ m,w.cell? ⟨Tryz.splitl45_ren.g 1,0,none⟩=some (.int .i64 m):=by
 obtain⟨_,cs,e,fz,h1,m,h2⟩:=h _ (.tail _ (.tail _ (.tail _ (.head _))))
 refine⟨m,?_⟩
 have hg : Tryz.splitl45_ren.g 1 = gv "internal/bytealg.MaxLen" := by kernel_rfl
 rw[hg]
 have h1 : w.heap[gv "internal/bytealg.MaxLen"]? = some (.cells cs e fz) := h1
 simp only[World.cell?,h1]
 exact h2
open Ve in
theorem qgN{R:Run}{args:List Dv}{dv:Dv}(h:qjq R args=some dv):qaO E.gs Tryz.prog ⟨[(false,1),(false,1)],[],.cons (.sl .str) .nil,[(false,1)],[.deep],[]⟩ 45 args dv :=
 Ve.qiU (Tab:=fun w=>∃ m,w.cell? ⟨Tryz.splitl45_ren.g 1,0,none⟩=some (.int .i64 m)) (fun w S h=>qrt h)
  (fun s sep w hs h1 ⟨m,hm⟩=>(Any.strings_Split { Tryz.splitl45 with } Tryz.splitl45.i9 s sep m w hs hm h1).mono fun e w' ⟨he,hw⟩=>by
   have hlen:(qeS s sep).length=Lib.countB s sep+1:=Lib.splitB_all sep h1 0 _ s rfl
   have hle:=Lib.countB_le sep h1 s.size s (Nat.le_refl _)
   refine⟨_,?_,by omega,hw⟩
   rw[he,hlen]) h
theorem qoa(w:World)(k:Nat)(os:Array Go.Obj):Below w.heap.size w (Go.Sort.grow (w.drewN k) os):=by
 refine⟨rfl,rfl,rfl,?_,fun b hb=>?_⟩
 ·show w.heap.size≤(w.heap++os).size
  simp
 ·show(w.heap++os)[b]? = _
  rw[Array.getElem?_append_left hb]
theorem qpt{P:Program}{w w':World}(h:Below w.heap.size w w'){n:String}{cs:Array Value}(hv:w.var? P n=some cs):w'.var? P n=some cs:=by
 unfold World.var? at hv ⊢
 cases hg:P.globalNamed n with
 | none=>rw[hg] at hv;cases hv
 | some g =>
  rw[hg] at hv
  simp only[Option.bind_some] at hv ⊢
  cases hh:w.heap[g]? with
  | none=>rw[hh] at hv;cases hv
  | some o =>
   rw[h.block g (Array.getElem?_eq_some_iff.1 hh).1]
   exact hv
theorem qoy{P:Program}{w w':World}(h:Below w.heap.size w w'){n:String}{k:IntKind}{zs:List Int}(ht:Lib.TabIs P w n k zs):Lib.TabIs P w' n k zs:=qpt h ht
set_option maxRecDepth 100000 in
theorem qp1 (n : Int) (w : World) (h1 : -9223372036854775808 ≤ n) (h2 : n ≤ 9223372036854775807) (ht : Lib.TabIs Tryz.prog w "internal/strconv.uint64pow10" .u64 Lib.pow10Tab) :
  Calls Tryz.prog 38 #[.int .i64 n] w fun e w'=>e=.returned (.string (Ve.qrM n))∧Below w.heap.size w w':=by
 go_enter Tryz.func38,Tryz.ntmps38
 go_wp2_with (go_at_call 97;refine(Any.strconv_FormatInt_10 Tryz.fmtl97 n h1 h2 w ht).mono ?_;rintro e w' ⟨rfl,k,os,rfl⟩)
 go_ret
 exact⟨rfl,qoa _ _ _⟩
def qoD(l:List UInt8)(n:Int)(er:Value):Prop:=match Lib.parseIntB 64 l with
 | .ok v=>n=v∧er=.nilIface
 | _=>∃ a b,er=.iface a b
theorem qqf (s : ByteArray) (w : World) (hs : s.size ≤ 281474976710656) (hsy : ∃ tp p, w.var? Tryz.prog "strconv.ErrSyntax" = some #[.iface tp p]) (hra : ∃ tp p, w.var? Tryz.prog "strconv.ErrRange" = some #[.iface tp p]) :
  Calls Tryz.prog 115 #[.string s,.int .i64 10,.int .i64 64] w fun e w'=>∃ n er,e=.returned (.tuple #[.int .i64 n,er])∧qoD s.data.toList n er∧Below w.heap.size w w':=by
 rcases hp:Lib.parseIntB 64 s.data.toList with v | _ | _
 ·skip
  refine(Any.strconv_ParseInt_10_at64_ok Tryz.parsel115 s (by omega) v hp w).mono ?_
  rintro e w' ⟨rfl,hw⟩
  refine⟨v,.nilIface,rfl,by unfold qoD;rw[hp];exact⟨rfl,rfl⟩,?_⟩
  rcases hw with rfl | ⟨t,rfl⟩
  ·exact Below.refl _ _
  ·exact Lib.bytesWorld_below _ _ _
 ·skip
  obtain⟨tp,p,hv⟩:=hsy
  refine(Any.strconv_ParseInt_10_at64_syntax_var Tryz.parsel115 s hs hp tp p w hv).mono ?_
  rintro e w' ⟨N,rfl,_,_,hb⟩
  exact⟨_,_,rfl,by unfold qoD;rw[hp];exact⟨_,_,rfl⟩,hb⟩
 ·skip
  obtain⟨tp,p,hv⟩:=hra
  refine(Any.strconv_ParseInt_10_at64_range_var Tryz.parsel115 s hs hp tp p w hv).mono ?_
  rintro e w' ⟨N,rfl,_,_,hb⟩
  exact⟨_,_,rfl,by unfold qoD;rw[hp];exact⟨_,_,rfl⟩,hb⟩
theorem qk8{l:List UInt8}(h:(Go.Lib.trimPrefix l [45]).length<1∨18<(Go.Lib.trimPrefix l [45]).length):Ve.rdT l=(0,false):=if_pos h
theorem qqV{l:List UInt8}{v:Int}(h:¬ ((Go.Lib.trimPrefix l [45]).length<1∨18<(Go.Lib.trimPrefix l [45]).length))(hp:Lib.parseIntB 64 l=.ok v):Ve.rdT l=if Lib.itoa v=l then(v,true) else(0,false):=by
 unfold Ve.rdT
 rw[if_neg h,hp]
theorem qo2{l:List UInt8}(h:∀ v,Lib.parseIntB 64 l≠.ok v):Ve.rdT l=(0,false):=by
 unfold Ve.rdT
 split
 ·rfl
 ·split
  ·rename_i v hv
   exact absurd hv (h v)
  ·rfl
theorem qoH(n:Int)(s:ByteArray):((Ve.qrM n).toList==s.toList)=(Lib.itoa n==s.data.toList):=by
 rw[ByteArray.toList_eq,ByteArray.toList_eq]
 unfold Ve.qrM
 simp
theorem qij{w w1 w2:World}(h1:Below w.heap.size w w1)(h2:Below w1.heap.size w1 w2):Below w.heap.size w w2 :=
 ⟨h2.os.trans h1.os,h2.tape.trans h1.tape,h2.output.trans h1.output,Nat.le_trans h1.size h2.size,fun b h=>(h2.block b (Nat.lt_of_lt_of_le h h1.size)).trans (h1.block b h)⟩
set_option maxRecDepth 100000 in
theorem qrL (s : ByteArray) (w : World) (hs : s.size ≤ 281474976710656) (ht : Lib.TabIs Tryz.prog w "internal/strconv.uint64pow10" .u64 Lib.pow10Tab) (hsy : ∃ tp p, w.var? Tryz.prog "strconv.ErrSyntax" = some #[.iface tp p]) (hra : ∃ tp p, w.var? Tryz.prog "strconv.ErrRange" = some #[.iface tp p]) :
  Calls Tryz.prog 47 #[.string s] w fun e w'=>e=.returned (.tuple #[.int .i64 (Ve.rdT s.data.toList).1,.bool (Ve.rdT s.data.toList).2])∧Below w.heap.size w w':=by
 have cT:=Any.strings_TrimPrefix Tryz.triml114 s ⟨#[45]⟩ w
 have cP:=qqf s w hs hsy hra
 go_enter Tryz.func47,Tryz.ntmps47
 go_wp2_with (first | (go_at_call 114;refine cT.mono ?_;rintro e w' ⟨rfl,rfl⟩) | (go_at_call 115;refine cP.mono ?_;rintro e w' ⟨n,er,rfl,her,hb⟩))
 ·go_ret2
  exact⟨by rw[qk8 (by omega)];rfl,RowKit.Below.refl _ _⟩
 ·unfold qoD at her
  rcases hp:Lib.parseIntB 64 s.data.toList with v | _ | _
  ·skip
   rw[hp] at her
   obtain⟨rfl,rfl⟩:=her
   have hbd:=Lib.parseIntB_bounds hp
   have cD:=qp1 n _ (by omega) (by omega) (qoy hb ht)
   have hu:Tryz.prog.underlying 136=some (.interface (Tryz.prog.methodsAt 136)):=by kernel_rfl
   go_wp2_with (go_at_call 38;refine cD.mono ?_;rintro e w' ⟨rfl,hb2⟩)
   rw[eqGuard_nil_constR]
   simp only[run_neq_nil_nil _ _ hu,show ∀(P:Program) (w:World),Sem.run P (pure ()) w=Result.ok () w from fun _ _=>rfl,Result.andThen]
   go_wp2_with (go_at_call 38;refine cD.mono ?_;rintro e w' ⟨rfl,hb2⟩)
   ·go_ret2
    refine⟨?_,qij hb hb2⟩
    rename_i he
    have hne:¬ Lib.itoa n=s.data.toList:=fun e=>by
     rw[qoH,e] at he
     simp at he
    rw[qqV (by omega) hp,if_neg hne];rfl
   ·go_ret2
    refine⟨?_,qij hb hb2⟩
    rename_i he
    have hne:Lib.itoa n=s.data.toList:=by
     rw[qoH] at he
     simpa using he
    rw[qqV (by omega) hp,if_pos hne];rfl
  ·skip
   rw[hp] at her
   obtain⟨a,b,rfl⟩:=her
   have hu:Tryz.prog.underlying 136=some (.interface (Tryz.prog.methodsAt 136)):=by kernel_rfl
   go_wp2
   simp only[show ∀ x y,eqGuard BinOp.neq 136 x y (Value.iface a b) Value.nilIface=pure () from fun _ _=>rfl,run_neq_held_nil _ _ _ _ hu,show ∀(P:Program) (w:World),Sem.run P (pure ()) w=Result.ok () w from fun _ _=>rfl,Result.andThen]
   go_wp2
   go_ret2
   exact⟨by rw[qo2 (fun v e=>by rw[hp] at e;cases e)];rfl,hb⟩
  ·skip
   rw[hp] at her
   obtain⟨a,b,rfl⟩:=her
   have hu:Tryz.prog.underlying 136=some (.interface (Tryz.prog.methodsAt 136)):=by kernel_rfl
   go_wp2
   simp only[show ∀ x y,eqGuard BinOp.neq 136 x y (Value.iface a b) Value.nilIface=pure () from fun _ _=>rfl,run_neq_held_nil _ _ _ _ hu,show ∀(P:Program) (w:World),Sem.run P (pure ()) w=Result.ok () w from fun _ _=>rfl,Result.andThen]
   go_wp2
   go_ret2
   exact⟨by rw[qo2 (fun v e=>by rw[hp] at e;cases e)];rfl,hb⟩
 ·go_ret2
  exact⟨by rw[qk8 (by omega)];rfl,RowKit.Below.refl _ _⟩
theorem qlP{P:Program}{w:World}{n:String}{g:Nat}{cs:Array Value}{e:TypeId}{fz:Nat×Nat}(hg:P.globalNamed n=some g)(h:w.heap[g]? = some (.cells cs e fz)):w.var? P n=some cs:=by
 unfold World.var?
 rw[hg]
 simp only[Option.bind_some]
 rw[h]
open Ve in
theorem qq5 {w : World} {S : qab} (h : Gl E.gs w S) : ∃ tp p, w.var? Tryz.prog "strconv.ErrSyntax" = some #[.iface tp p] := by
 obtain⟨_,cs,e,fz,h1,tp,p,h2⟩:=h _ (.tail _ (.head _))
 refine⟨tp,p,?_⟩
 rw [qlP (show Tryz.prog.globalNamed "strconv.ErrSyntax" = some (gv "strconv.ErrSyntax") by kernel_rfl) h1, h2]
open Ve in
theorem qrJ {w : World} {S : qab} (h : Gl E.gs w S) : ∃ tp p, w.var? Tryz.prog "strconv.ErrRange" = some #[.iface tp p] := by
 obtain⟨_,cs,e,fz,h1,tp,p,h2⟩:=h _ (.tail _ (.tail _ (.head _)))
 refine⟨tp,p,?_⟩
 rw [qlP (show Tryz.prog.globalNamed "strconv.ErrRange" = some (gv "strconv.ErrRange") by kernel_rfl) h1, h2]
open Ve in
theorem qfr{R:Run}{args:List Dv}{dv:Dv}(h:qeq R args=some dv):qaO E.gs Tryz.prog ⟨[(false,1)],[],.cons tI (.cons .bool .nil),[(false,1),(false,1)],[],[.str]⟩ 47 args dv :=
 Ve.qgR (Tab := fun w => Lib.TabIs Tryz.prog w "internal/strconv.uint64pow10" .u64 Lib.pow10Tab ∧ (∃ tp p, w.var? Tryz.prog "strconv.ErrSyntax" = some #[.iface tp p]) ∧ (∃ tp p, w.var? Tryz.prog "strconv.ErrRange" = some #[.iface tp p])) (fun w S h => ⟨qld h, qq5 h, qrJ h⟩)
  (fun s w hs ht=>qrL s w hs ht.1 ht.2.1 ht.2.2) h
open Ve in
theorem qiV{R:Run}{args:List Dv}{dv:Dv}(h:qr0 R args=some dv):qaO E.gs Tryz.prog ⟨[(false,1),(false,1)],[],.cons .str .nil,[(false,1)],[],[]⟩ 97 args dv :=
 Ve.qkM (Tab := fun w => Lib.TabIs Tryz.prog w "internal/strconv.uint64pow10" .u64 Lib.pow10Tab) (fun w S h => qld h)
  (fun n w h1 h2 ht=>(Any.strconv_FormatInt_10 Tryz.fmtl97 n h1 h2 w ht).mono fun e w' ⟨he,k,os,hw⟩=>by
   subst hw
   refine⟨he,⟨rfl,rfl,rfl,Nat.le_add_right _ _⟩,?_,fun b hb=>?_⟩
   ·show w.heap.size≤(w.heap++os).size
    simp
   ·show(w.heap++os)[b]? = _
    rw[Array.getElem?_append_left hb]) h
open Ve in
theorem qfT{R:Run}(hR:∀ args dv,R.r 156 args=some dv→qaO E.gs Tryz.prog ⟨[(false,1),(false,1)],[],.cons tI .nil,[(false,1)],[],[]⟩ 156 args dv){args:List Dv}{dv:Dv}(h:qgr 156 R args=some dv) :
  qaO E.gs Tryz.prog ⟨[(false,1),(false,1)],[.io true,.imm],.cons tLL .nil,[],[],[]⟩ 196 args dv :=
 qiI (fun enc h1c cf hO blk cap d w a b c e=>Any.slices_SortFunc Tryz.sortf196 enc h1c cf hO 156 #[] blk 0 cap d w (enters_of Tryz.func156 (by kernel_rfl) rfl) a b c e)
  (fun A cap fv w=>(AnyF.slices_SortFunc_none { Tryz.sortf196 with } A cap fv w).mono fun e w' ⟨h,hw⟩=>⟨h,by rw[hw],by rw[hw];exact Kin.refl _⟩) hR h
section
open Go Ve
theorem qmv(R:Run)(hw:R.ok)(N n0:Nat)(l:List (Value×List Int))(hl:l.length≤1048576)
  (heq:∀(i:Nat) (h:i+1<l.length),R.r n_Z102 [⟨tL,l[i+1].2⟩,⟨tL,l[i].2⟩]=some ⟨.cons .bool .nil,(l[i+1].2==l[i].2,())⟩) (k0:Nat) (hk0:k0<l.length) :
  ∀(d k2 kw n:Nat) (o:List (Value×List Int)),k0+k2+d=l.length→1≤k2→kw+1≤k0+k2→o.length=l.length→o.take kw=sel (mC (l.map Prod.snd) (k0+k2)) l→(∀ i,k0+k2≤i+1→o[i]? = l[i]?) →
  slices_CompactFunc_SSint64_Sint64_L.l1 R N n0 (d+1+n) (kw:Int) k0 l.length (k2:Int) o=some ⟨qau,(sel (mC (l.map Prod.snd) l.length) l,())⟩:=by
 intro d
 induction d with
 | zero =>
  intro k2 kw n o hd h1 hkw hol ht hsame
  have e:k0+k2=l.length:=by omega
  rw[show 0+1+n=n+1 by omega,slices_CompactFunc_SSint64_Sint64_L.l1_succ R hw]
  have c1:chk (decide (k0≤l.length)&&decide (l.length≤o.length))=some ():=by unfold chk;rw[decide_eq_true (by omega),decide_eq_true (by omega)];rfl
  have c2:decide ((k2:Int)<((l.length-k0:Nat):Int))=false:=decide_eq_false (by omega)
  have c3:chk (decide ((0:Int)≤(kw:Int))&&decide ((kw:Int)≤(o.length:Int)))=some ():=by unfold chk;rw[decide_eq_true (by omega),decide_eq_true (by omega)];rfl
  have c4:chk (decide (kw≤o.length)&&decide (o.length≤o.length))=some ():=by unfold chk;rw[decide_eq_true (by omega),decide_eq_true (by omega)];rfl
  rw[c1,Option.bind_some,c2,cond_false,c3,Option.bind_some]
  simp only[Int.toNat_natCast]
  rw[c4,Option.bind_some]
  have hlen:(List.take kw o++List.replicate (o.length-kw) ((Value.slice none 0 0,[]):Value×List Int)++List.drop o.length o).length=o.length:=by simp;omega
  have c6:chk (decide ((0:Int)≤(kw:Int))&&decide ((kw:Int)≤((List.take kw o++List.replicate (o.length-kw) ((Value.slice none 0 0,[]):Value×List Int)++List.drop o.length o).length:Int)))=some ():=by unfold chk;rw[decide_eq_true (by omega),decide_eq_true (by omega)];rfl
  rw[c6,Option.bind_some,List.drop_zero,List.append_assoc,List.take_append_of_le_length (by simp;omega),List.take_take,Nat.min_self,ht,e]
 | succ d ih =>
  intro k2 kw n o hd h1 hkw hol ht hsame
  obtain⟨m,hm⟩:∃ m,m+1=k0+k2:=⟨k0+k2-1,by omega⟩
  have hml:m+1<l.length:=by omega
  rw[show d+1+1+n=(d+1+n)+1 by omega,slices_CompactFunc_SSint64_Sint64_L.l1_succ R hw]
  have c1:chk (decide (k0≤l.length)&&decide (l.length≤o.length))=some ():=by unfold chk;rw[decide_eq_true (by omega),decide_eq_true (by omega)];rfl
  have c2:decide ((k2:Int)<((l.length-k0:Nat):Int))=true:=decide_eq_true (by omega)
  have c3:chk (decide ((0:Int)≤(k2:Int))&&decide ((k0:Int)+(k2:Int)<((l.length:Nat):Int))&&decide (l.length≤o.length))=some ():=by unfold chk;rw[decide_eq_true (by omega),decide_eq_true (by omega),decide_eq_true (by omega)];rfl
  have ew:w64 ((k2:Int)-1)=((k2-1:Nat):Int):=by rw[qai (by omega) (by omega)];omega
  have c4:chk (decide ((0:Int)≤((k2-1:Nat):Int))&&decide ((k0:Int)+((k2-1:Nat):Int)<((l.length:Nat):Int))&&decide (l.length≤o.length))=some ():=by unfold chk;rw[decide_eq_true (by omega),decide_eq_true (by omega),decide_eq_true (by omega)];rfl
  have g1:o[k0+k2]? = some l[m+1]:=by rw[hsame _ (by omega),← hm,List.getElem?_eq_getElem hml]
  have g2:o[k0+(k2-1)]? = some l[m]:=by rw[hsame _ (by omega),show k0+(k2-1)=m by omega,List.getElem?_eq_getElem (by omega)]
  have hr:qgg R n_Z102 o_Z102 [⟨yL,l[m+1].2⟩,⟨yL,l[m].2⟩]=some (l[m+1].2==l[m].2,()):=by
   unfold qgg
   exact(congrArg (Option.bind · _) (heq m hml)).trans rfl
  rw[c1,Option.bind_some,c2,cond_true,c3,Option.bind_some]
  simp only[Int.toNat_natCast,ew]
  rw[g1,Option.bind_some,c4,Option.bind_some,g2,Option.bind_some]
  refine(congrArg (Option.bind · _) hr).trans ?_
  rw[Option.bind_some]
  have e2:w64 ((k2:Int)+1)=((k2+1:Nat):Int):=qah (by omega)
  have hx1:(l.map Prod.snd)[k0+k2]? = some l[m+1].2:=by rw[← hm,List.getElem?_map,List.getElem?_eq_getElem hml];rfl
  have hx2:(l.map Prod.snd)[k0+k2-1]? = some l[m].2:=by rw[show k0+k2-1=m by omega,List.getElem?_map,List.getElem?_eq_getElem (by omega)];rfl
  have hms:mC (l.map Prod.snd) (k0+(k2+1))=mC (l.map Prod.snd) (k0+k2)++[!(l[m+1].2==l[m].2)]:=by
   show mC (l.map Prod.snd) (k0+k2)++[k0+k2==0 || !((l.map Prod.snd)[k0+k2]? == (l.map Prod.snd)[k0+k2-1]?)]=_
   rw[hx1,hx2,show(k0+k2==0)=false from beq_false_of_ne (by omega),Bool.false_or]
   rfl
  have hsel:sel (mC (l.map Prod.snd) (k0+(k2+1))) l=sel (mC (l.map Prod.snd) (k0+k2)) l++(bif !(l[m+1].2==l[m].2) then [l[m+1]] else []):=by
   rw[hms,qfq (by rw[qgv];omega)]
   congr 2
   congr 1
   have:(mC (l.map Prod.snd) (k0+k2)).length=m+1:=by rw[qgv,hm]
   simp only[this]
  cases hb:(l[m+1].2==l[m].2) with
  | true =>
   rw[hb] at hsel
   simp only[Bool.not_true,cond_false,List.append_nil] at hsel ⊢
   rw[e2]
   exact ih (k2+1) kw n o (by omega) (by omega) (by omega) hol (by rw[hsel];exact ht) fun i hi=>hsame i (by omega)
  | false =>
   rw[hb] at hsel
   have c5:chk (decide ((0:Int)≤(kw:Int))&&decide ((kw:Int)<(o.length:Int)))=some ():=by unfold chk;rw[decide_eq_true (by omega),decide_eq_true (by omega)];rfl
   simp only[Bool.not_false,cond_true] at hsel ⊢
   rw[Option.bind_some,Option.bind_some,c5,Option.bind_some,e2,show w64 ((kw:Int)+1)=((kw+1:Nat):Int) from qah (by omega)]
   refine ih (k2+1) (kw+1) n (o.set kw l[m+1]) (by omega) (by omega) (by omega) (by rw[List.length_set];exact hol) ?_ fun i hi=>?_
   ·rw[hsel,← ht,List.take_succ_eq_append_getElem (by rw[List.length_set];omega),List.getElem_set_self,List.take_set_of_le (Nat.le_refl _)]
   ·rw[List.getElem?_set_ne (by omega)];exact hsame i (by omega)
theorem qkP(R:Run)(hw:R.ok)(N:Nat)(l:List (Value×List Int))(hl:l.length≤1048576)(hN:l.length+1≤N)
  (heq:∀(i:Nat) (h:i+1<l.length),R.r n_Z102 [⟨tL,l[i+1].2⟩,⟨tL,l[i].2⟩]=some ⟨.cons .bool .nil,(l[i+1].2==l[i].2,())⟩) :
  ∀(d k n:Nat),k+d=l.length→1≤k→sel (mC (l.map Prod.snd) k) l=l.take k →
  slices_CompactFunc_SSint64_Sint64_L.l0 R N (d+1+n) (k:Int) l=some ⟨qau,(sel (mC (l.map Prod.snd) l.length) l,())⟩:=by
 intro d
 induction d with
 | zero =>
  intro k n hd h1 ht
  rw[show 0+1+n=n+1 by omega,slices_CompactFunc_SSint64_Sint64_L.l0_succ R hw]
  have c2:decide ((k:Int)<(l.length:Int))=false:=decide_eq_false (by omega)
  rw[c2,cond_false,← show k=l.length by omega,ht,show k=l.length by omega,List.take_length]
 | succ d ih =>
  intro k n hd h1 ht
  obtain⟨m,rfl⟩:∃ m,k=m+1:=⟨k-1,by omega⟩
  have hml:m+1<l.length:=by omega
  rw[show d+1+1+n=(d+1+n)+1 by omega,slices_CompactFunc_SSint64_Sint64_L.l0_succ R hw]
  have c2:decide (((m+1:Nat):Int)<(l.length:Int))=true:=decide_eq_true (by omega)
  have c3:chk (decide ((0:Int)≤((m+1:Nat):Int))&&decide (((m+1:Nat):Int)<(l.length:Int)))=some ():=by unfold chk;rw[decide_eq_true (by omega),decide_eq_true (by omega)];rfl
  have ew:w64 (((m+1:Nat):Int)-1)=(m:Int):=by rw[qai (by omega) (by omega)];omega
  have c4:chk (decide ((0:Int)≤(m:Int))&&decide ((m:Int)<(l.length:Int)))=some ():=by unfold chk;rw[decide_eq_true (by omega),decide_eq_true (by omega)];rfl
  have g1:l[m+1]? = some l[m+1]:=List.getElem?_eq_getElem hml
  have g2:l[m]? = some l[m]:=List.getElem?_eq_getElem (by omega)
  have hr:qgg R n_Z102 o_Z102 [⟨yL,l[m+1].2⟩,⟨yL,l[m].2⟩]=some (l[m+1].2==l[m].2,()):=by
   unfold qgg
   exact(congrArg (Option.bind · _) (heq m hml)).trans rfl
  refine Eq.trans (b:=(chk (decide ((0:Int)≤((m+1:Nat):Int))&&decide (((m+1:Nat):Int)<(l.length:Int)))).bind _) (by rw[c2,cond_true]) ?_
  rw[c3,Option.bind_some]
  simp only[Int.toNat_natCast,ew]
  rw[g1,Option.bind_some,c4,Option.bind_some,g2,Option.bind_some]
  refine(congrArg (Option.bind · _) hr).trans ?_
  rw[Option.bind_some]
  have hx1:(l.map Prod.snd)[m+1]? = some l[m+1].2:=by rw[List.getElem?_map,g1];rfl
  have hx2:(l.map Prod.snd)[m+1-1]? = some l[m].2:=by rw[Nat.add_sub_cancel,List.getElem?_map,g2];rfl
  have hms:mC (l.map Prod.snd) (m+1+1)=mC (l.map Prod.snd) (m+1)++[!(l[m+1].2==l[m].2)]:=by
   show mC (l.map Prod.snd) (m+1)++[m+1==0 || !((l.map Prod.snd)[m+1]? == (l.map Prod.snd)[m+1-1]?)]=_
   rw[hx1,hx2,show(m+1==0)=false from rfl,Bool.false_or]
   rfl
  have hsel:sel (mC (l.map Prod.snd) (m+1+1)) l=sel (mC (l.map Prod.snd) (m+1)) l++(bif !(l[m+1].2==l[m].2) then [l[m+1]] else []):=by
   rw[hms,qfq (by rw[qgv];omega)]
   congr 2
   congr 1
   simp only[qgv]
  cases hb:(l[m+1].2==l[m].2) with
  | true =>
   rw[hb] at hsel
   simp only[Bool.not_true,cond_false,List.append_nil] at hsel
   have c5:chk (decide ((0:Int)≤((m+1:Nat):Int))&&decide (((m+1:Nat):Int)≤(l.length:Int)))=some ():=by unfold chk;rw[decide_eq_true (by omega),decide_eq_true (by omega)];rfl
   simp only[cond_true]
   rw[c5,Option.bind_some]
   have:=qmv R hw N (d+1+n) l hl heq (m+1) hml (l.length-(m+2)) 1 (m+1) (N-(l.length-(m+2)+1)) l (by omega) (Nat.le_refl _) (by omega) rfl (by rw[hsel];exact ht.symm) fun _ _=>rfl
   rw[show l.length-(m+2)+1+(N-(l.length-(m+2)+1))=N by omega] at this
   exact this
  | false =>
   rw[hb] at hsel
   simp only[Bool.not_false,cond_true] at hsel
   simp only[cond_false]
   rw[qah (by omega)]
   exact ih (m+1+1) n (by omega) (by omega) (by rw[hsel,ht,List.take_succ_eq_append_getElem hml])
theorem qlR(R:Run)(hw:R.ok)(N:Nat)(l:List (Value×List Int))(hl:l.length≤1048576)(hN:l.length+1≤N)
  (heq:∀(i:Nat) (h:i+1<l.length),R.r n_Z102 [⟨tL,l[i+1].2⟩,⟨tL,l[i].2⟩]=some ⟨.cons .bool .nil,(l[i+1].2==l[i].2,())⟩) :
  (bif (decide ((List.length l:Int)<(2:Int))) then some ⟨qau,(l,())⟩ else slices_CompactFunc_SSint64_Sint64_L.l0 R N N (1:Int) l)=some ⟨qau,(sel (mC (l.map Prod.snd) l.length) l,())⟩:=by
 by_cases h2:l.length<2
 ·have c:decide ((l.length:Int)<2)=true:=decide_eq_true (by omega)
  rw[c,cond_true]
  match l,h2 with
  | [],_=>rfl
  | [y],_=>rfl
 ·have c:decide ((l.length:Int)<2)=false:=decide_eq_false (by omega)
  rw[c,cond_false]
  have:=qkP R hw N l hl hN heq (l.length-1) 1 (N-l.length) (by omega) (Nat.le_refl _) (by
   match l,h2 with
   | y::z::l,_=>rfl)
  rw[show l.length-1+1+(N-l.length)=N by omega] at this
  exact this
theorem qfR(hE:EnvOk E){R:Run}(hR:qgL E R)(hw:R.ok)(hRw:∀ o f,R.w o f=o.bind f){args:List Dv}{dv:Dv}(h:qcf n_Z102 R args=some dv) :
  qaO E.gs E.P ⟨[(false,1),(false,1)],[.take true,.imm],.cons tLL .nil,[(false,1)],[.deep],[]⟩ 197 args dv:=by
 match args,h with
 | [d0,d1],h =>
  simp only[qcf,Option.bind_eq_some_iff] at h
  obtain⟨xs,h0,h⟩:=h
  obtain rfl:=to_some h0
  split at h
  ·rename_i hc
   obtain⟨hx,rfl,heq⟩:=hc
   obtain rfl:=Option.some.inj h
   refine qj2 fun vs hv=>?_
   have hz:(vs.zip xs).map Prod.snd=xs:=qjZ hv
   have hl:(vs.zip xs).length=xs.length:=by rw[List.length_zip,hv,Nat.min_self]
   have hq:∀(i:Nat) (h:i+1<(vs.zip xs).length),R.r n_Z102 [⟨tL,(vs.zip xs)[i+1].2⟩,⟨tL,(vs.zip xs)[i].2⟩]=some ⟨.cons .bool .nil,((vs.zip xs)[i+1].2==(vs.zip xs)[i].2,())⟩:=fun i h=>by
    have e1:(vs.zip xs)[i+1].2=xs[i+1]'(by omega):=by rw[List.getElem_zip]
    have e2:(vs.zip xs)[i].2=xs[i]'(by omega):=by rw[List.getElem_zip]
    rw[e1,e2];exact heq i (by omega)
   refine qmU hE hR hRw (pol:=qac) (fn:=qap) (N:=xs.length+1) (by kernel_rfl) ?_
   refine(slices_CompactFunc_SSint64_Sint64_L.ev R _ (vs.zip xs)).trans ?_
   refine(qlR R hw (xs.length+1) (vs.zip xs) (by omega) (by omega) hq).trans ?_
   rw[hz,hl]
  ·cases h
end
set_option maxHeartbeats 2000000 in
set_option maxRecDepth 100000 in
theorem qk5(base:Option Addr)(l c n:Nat)(w:World)(hlc:l≤c)(hc63:c≤9223372036854775807)(hn63:n≤9223372036854775807)(hroom:l+n≤c) :
  Calls Tryz.prog 230 #[.slice base l c,.int .i64 n] w fun e w'=>e=.returned (.slice base l c)∧w'=w:=by
 have h1:¬ ((n:Int)<0):=by omega
 have h2:wrap64 ((c:Int)-(l:Int))=(c:Int)-(l:Int):=by unfold wrap64;omega
 have h3:wrap64 ((n:Int)-((c:Int)-(l:Int)))=(n:Int)-((c:Int)-(l:Int)):=by unfold wrap64;omega
 have h4:¬ ((n:Int)-((c:Int)-(l:Int))>0):=by omega
 go_enter Tryz.func230,Tryz.ntmps230
 go_wp2
 go_ret
 exact⟨rfl,rfl⟩
set_option maxHeartbeats 4000000 in
set_option maxRecDepth 100000 in
theorem qlX(i0:TypeInfo)(z:Value)(hi0:Tryz.prog.info? 2=some i0)(hz0:i0.zero=some z)(hs0:0<i0.size)
    (base:Option Addr) (l c n:Nat) (cs:List Value) (w:World) (hlc:l≤c) (hroom:c<l+n) (hbig:(l+n)*i0.bytes≤140737488355328) (h63:l+n≤4611686018427387904)
    (hcl:cs.length=c*i0.size) (hnil:base=none→c=0) (hcs:∀ a,base=some a→∀(j:Nat) v,cs[j]? = some v→w.cell? (a.add j)=some v) :
    Calls Tryz.prog 230 #[.slice base l c,.int .i64 n] w fun e w' =>
      e=.returned (.slice (some ⟨w.heap.size,0,none⟩) l (grownCap w (l+n) c 2)) ∧
      w'=w.drew.alloc (.cells (cs.toArray++Builtin.zeroCells z.cells (l+n-c)++Builtin.zeroCells z.cells (grownCap w (l+n) c 2-(l+n))) 2):=by
  have h1:¬ ((n:Int)<0):=by omega
  have h2:wrap64 ((c:Int)-(l:Int))=(c:Int)-(l:Int):=by unfold wrap64;omega
  have h3:wrap64 ((n:Int)-((c:Int)-(l:Int)))=(n:Int)-((c:Int)-(l:Int)):=by unfold wrap64;omega
  have h4:(n:Int)-((c:Int)-(l:Int))>0:=by omega
  have z25:∀ w,(Go.sizeOf 2).run Tryz.prog w=.ok i0.size w:=fun w=>by simp[Go.sizeOf,typeInfo,hi0]
  have hck:c+(l+n-c)=l+n:=by omega
  have hold:(Builtin.firstCells i0.size c (.slice base c c)).run Tryz.prog w.drew=.ok cs.toArray w.drew:=by
    cases base with
    | none =>
      have h0:=hnil rfl
      subst h0
      have hc0:cs=[]:=List.length_eq_zero_iff.1 (by simpa using hcl)
      rw[hc0]
      exact run_firstCells_none w.drew i0.size 0 0 0
    | some a=>exact run_firstCells_some w.drew i0.size c a c c cs hcl (fun j v hj=>hcs a rfl j v hj)
  have hrz:∀ ty,(Builtin.append_ #[25,3] ty #[.slice base c c,.int .i64 ((n:Int)-((c:Int)-(l:Int)))]).run Tryz.prog w =
      .ok (.slice (some ⟨w.heap.size,0,none⟩) (l+n) (grownCap w (l+n) c 2)) (w.drew.alloc (.cells (cs.toArray++Builtin.zeroCells z.cells (l+n-c)++Builtin.zeroCells z.cells (grownCap w (l+n) c 2-(l+n))) 2)):=fun ty=>by
    have h:=Lib.run_append_grow_zeros w 25 3 ty 2 i0 z .i64 .i64 Tryz.underlying25 Tryz.underlying3 hi0 hz0 base c c cs hold (l+n-c) (by omega) hs0 (by omega) (by omega)
      (by have:(l+n-c)*i0.bytes≤(l+n)*i0.bytes:=Nat.mul_le_mul_right _ (by omega)
          omega)
      (by rw[hck];exact growslice_fits hroom hbig)
    rw[hck] at h
    rw[show(n:Int)-((c:Int)-(l:Int))=((l+n-c:Nat):Int) by omega]
    exact h
  have hGn:l+n≤grownCap w (l+n) c 2:=grownCap_ge w _ _ _
  obtain⟨G,hG⟩:∃ G,G=grownCap w (l+n) c 2:=⟨_,rfl⟩
  rw[← hG] at hrz hGn ⊢
  have hG63:G≤9223372036854775807:=by
    have:=grownCap_le_maxLen w (l+n) c 2 (by unfold maxLen;omega)
    rw[← hG] at this
    unfold maxLen at this
    omega
  clear hold hck hG hcs hcl
  go_enter Tryz.func230,Tryz.ntmps230
  cases base with
  | none =>
    have h0:=hnil rfl
    subst h0
    obtain rfl:l=0:=by omega
    go_wp2_with (at_builtin;refine Lib.wpList_append_run _ rfl _ _ _ _ rfl _ _ rfl rfl _ _ (hrz _) ?_)
    all_goals (go_ret;exact⟨rfl,rfl⟩)
  | some a =>
    obtain⟨ab,ao,asp⟩:=a
    go_wp2_with (at_builtin;refine Lib.wpList_append_run _ rfl _ _ _ _ rfl _ _ rfl rfl _ _ (hrz _) ?_)
    all_goals (go_ret;exact⟨rfl,rfl⟩)
theorem qkQ:(Tryz.prog.info? 2).any (fun i=>i.size==Ve.Ty.size yI&&i.zero.any (fun z=>z.cells.size==Ve.Ty.size yI)&&decide (i.bytes≤64*Ve.Ty.size yI)&&decide (0<i.bytes)&&decide (0<Ve.Ty.size yI))=true:=by kernel_rfl
open Ve in
theorem qgO(R:Run){args:List Dv}{dv:Dv}(h:qnM yI R args=some dv) :
  qaO E.gs Tryz.prog ⟨[(false,1),(false,1)],[.take true,.imm],.cons yL .nil,[(false,1)],[.deep],[]⟩ 230 args dv:=by
 have hi:=qkQ
 cases hi0:Tryz.prog.info? 2 with
 | none=>rw[hi0] at hi;cases hi
 | some i0 =>
  rw[hi0] at hi
  simp only[Option.any_some,Bool.and_eq_true,decide_eq_true_eq,beq_iff_eq] at hi
  obtain⟨⟨⟨⟨h1,h2⟩,h3⟩,h4⟩,h5⟩:=hi
  cases hz:i0.zero with
  | none=>rw[hz] at h2;cases h2
  | some z =>
   rw[hz] at h2
   exact qj9 h1 (by simpa using h2) h5 h3 h4 qk5 (fun base l c n cs w a1 a2 a3 a4 a5 a6 a7=>qlX i0 z hi0 hz (by rw[h1];exact h5) base l c n cs w a1 a2 a3 a4 a5 a6 a7) R h
end
section
open Go Ve
theorem qqu:primL=(List.range 305).map fun i=>bif Nat.beq i 40 then some qn9 else bif Nat.beq i 45 then some qjq else bif Nat.beq i 47 then some qeq else bif Nat.beq i 97 then some qr0 else bif Nat.beq i 196 then some (qgr n_Z39) else bif Nat.beq i 197 then some (qcf n_Z102) else bif Nat.beq i 230 then some (qnM yI) else none:=by kernel_rfl
theorem qsH(hE:EnvOk E):∀ f p,E.prim f=some p→∀ r,qgL E (mkR r)→∀ args dv sg,E.sig f=some sg→p (mkR r) args=some dv→qaO E.gs E.P sg f args dv:=by
 intro f p hp r hr args dv sg hsg h
 have hp:primL.getD f none=some p:=hp
 rw[qqu,List.getD_eq_getElem?_getD,List.getElem?_map] at hp
 by_cases hf:f<305
 ·rw[List.getElem?_range hf] at hp
  simp only[Option.map_some,Option.getD_some] at hp
  by_cases h40:f=40
  ·subst h40
   obtain rfl:qn9=p:=Option.some.inj hp
   obtain rfl:sg_Z172=sg:=Option.some.inj (sig_strings_Join_eq.symm.trans hsg)
   exact qhS h
  rw[show Nat.beq f 40=false from Bool.eq_false_iff.2 fun h=>h40 (Nat.eq_of_beq_eq_true h),cond_false] at hp
  by_cases h45:f=45
  ·subst h45
   obtain rfl:qjq=p:=Option.some.inj hp
   obtain rfl:sg_Z173=sg:=Option.some.inj (sig_strings_Split_eq.symm.trans hsg)
   exact qgN h
  rw[show Nat.beq f 45=false from Bool.eq_false_iff.2 fun h=>h45 (Nat.eq_of_beq_eq_true h),cond_false] at hp
  by_cases h47:f=47
  ·subst h47
   obtain rfl:qeq=p:=Option.some.inj hp
   obtain rfl:sg_Z15=sg:=Option.some.inj (sig_impl_ReadDecimal_eq.symm.trans hsg)
   exact qfr h
  rw[show Nat.beq f 47=false from Bool.eq_false_iff.2 fun h=>h47 (Nat.eq_of_beq_eq_true h),cond_false] at hp
  by_cases h97:f=97
  ·subst h97
   obtain rfl:qr0=p:=Option.some.inj hp
   obtain rfl:sg_Z171=sg:=Option.some.inj (sig_strconv_FormatInt_eq.symm.trans hsg)
   exact qiV h
  rw[show Nat.beq f 97=false from Bool.eq_false_iff.2 fun h=>h97 (Nat.eq_of_beq_eq_true h),cond_false] at hp
  by_cases h196:f=196
  ·subst h196
   obtain rfl:(qgr n_Z39)=p:=Option.some.inj hp
   obtain rfl:sg_Z115=sg:=Option.some.inj (sig_slices_SortFunc_SSint64_Sint64_eq.symm.trans hsg)
   exact qfT (fun args dv h=>hr _ args dv _ sig_impl_compareSimplices_eq h) h
  rw[show Nat.beq f 196=false from Bool.eq_false_iff.2 fun h=>h196 (Nat.eq_of_beq_eq_true h),cond_false] at hp
  by_cases h197:f=197
  ·subst h197
   obtain rfl:(qcf n_Z102)=p:=Option.some.inj hp
   obtain rfl:sg_Z89=sg:=Option.some.inj (sig_slices_CompactFunc_SSint64_Sint64_eq.symm.trans hsg)
   exact qfR hE hr (qqP _) (fun _ _=>rfl) h
  rw[show Nat.beq f 197=false from Bool.eq_false_iff.2 fun h=>h197 (Nat.eq_of_beq_eq_true h),cond_false] at hp
  by_cases h230:f=230
  ·subst h230
   obtain rfl:(qnM yI)=p:=Option.some.inj hp
   obtain rfl:sg_Z103=sg:=Option.some.inj (sig_slices_Grow_Sint64_int64_eq.symm.trans hsg)
   exact qgO _ h
  rw[show Nat.beq f 230=false from Bool.eq_false_iff.2 fun h=>h230 (Nat.eq_of_beq_eq_true h),cond_false] at hp
  cases hp
 ·rw[List.getElem?_eq_none (by simpa using hf)] at hp
  cases hp
end
end VeT
open Go Go.Proofs Ve
namespace VeT
end VeT
open Go Go.Proofs Ve
namespace VeT
theorem qbq(s:List (List Int))(p:(List Int)→Bool)(hs:s.length≤1048576)(hp:∀ x∈s,Ret E n_Z6 [⟨yL,x⟩] ⟨o_Z6,(p x,())⟩) :
    Ret E n_Z104 [⟨yK,s⟩,⟨(.fn n_Z6 .nil),()⟩] ⟨o_Z104,(qiF p s,())⟩:=by
  obtain⟨o,h1,h2,h3⟩:=qbM 1 (L:=fun φ n k=>Z105.l0 (mkR (run E (φ 0))) (φ 0) n s (s.length:Int) k) (len:=s.length) (fun k=>∃ h:k<s.length,p s[k]=true) (fun o=>some ⟨o_Z104,(o2i o,())⟩) (fun _ _ _ _=>rfl) (fun k hk hP=>by
      obtain⟨_,hP⟩:=hP
      simp only[Z105.l0_succ _ qag]
      refine qaB (decide_eq_true (by omega)) (qae (qao hk) (qaa (hp _ (List.getElem_mem hk)) (qaB hP qan)))) (fun k q hk hP ih=>by
      simp only[Z105.l0_succ _ qag]
      refine qaB (decide_eq_true (by omega)) (qae (qao hk) (qaa (hp _ (List.getElem_mem hk)) (qaD (Bool.eq_false_iff.2 fun h=>hP ⟨hk,h⟩) ?_)))
      rw[qah (by omega)];exact ih) (by
      simp only[Z105.l0_succ _ qag]
      exact qaD (decide_eq_false (by omega)) qan)
  rw[qdb h1 h2] at h3
  refine qak ?_
  simp only[run_Z104,Z105.ev]
  exact Ev.start (p:=fun φ n=>Z105.l0 (mkR (run E (φ 0))) (φ 0) n s (s.length:Int) 0=_) 1 h3 (fun _ _ _ h=>h)
theorem qbd(s:List (List Int))(c:((vK×Unit)×(Int×Unit)×Unit))(p:(List Int)→Bool)(hs:s.length≤1048576)(hp:∀ x∈s,Ret E n_Z25 [⟨yL,x⟩,⟨(.ptr yC),c.1⟩,⟨(.ptr (.cons yI .nil)),c.2.1⟩] ⟨o_Z25,(p x,())⟩) :
    Ret E n_Z104 [⟨yK,s⟩,⟨(.fn n_Z25 (.cons (.ptr yC) (.cons (.ptr (.cons yI .nil)) .nil))),c⟩] ⟨o_Z104,(qiF p s,())⟩:=by
  obtain⟨o,h1,h2,h3⟩:=qbM 1 (L:=fun φ n k=>Z106.l0 (mkR (run E (φ 0))) (φ 0) n s c (s.length:Int) k) (len:=s.length) (fun k=>∃ h:k<s.length,p s[k]=true) (fun o=>some ⟨o_Z104,(o2i o,())⟩) (fun _ _ _ _=>rfl) (fun k hk hP=>by
      obtain⟨_,hP⟩:=hP
      simp only[Z106.l0_succ _ qag]
      refine qaB (decide_eq_true (by omega)) (qae (qao hk) (qaa (hp _ (List.getElem_mem hk)) (qaB hP qan)))) (fun k q hk hP ih=>by
      simp only[Z106.l0_succ _ qag]
      refine qaB (decide_eq_true (by omega)) (qae (qao hk) (qaa (hp _ (List.getElem_mem hk)) (qaD (Bool.eq_false_iff.2 fun h=>hP ⟨hk,h⟩) ?_)))
      rw[qah (by omega)];exact ih) (by
      simp only[Z106.l0_succ _ qag]
      exact qaD (decide_eq_false (by omega)) qan)
  rw[qdb h1 h2] at h3
  refine qak ?_
  simp only[run_Z104,Z106.ev]
  exact Ev.start (p:=fun φ n=>Z106.l0 (mkR (run E (φ 0))) (φ 0) n s c (s.length:Int) 0=_) 1 h3 (fun _ _ _ h=>h)
theorem qbF(s:List Int)(p:Int→Bool)(hs:s.length≤1048576)(hp:∀ x∈s,Ret E n_Z11 [⟨yI,x⟩] ⟨o_Z11,(p x,())⟩) :
    Ret E n_Z107 [⟨yL,s⟩,⟨(.fn n_Z11 .nil),()⟩] ⟨o_Z107,(qiF p s,())⟩:=by
  obtain⟨o,h1,h2,h3⟩:=qbM 1 (L:=fun φ n k=>Z108.l0 (mkR (run E (φ 0))) (φ 0) n s (s.length:Int) k) (len:=s.length) (fun k=>∃ h:k<s.length,p s[k]=true) (fun o=>some ⟨o_Z107,(o2i o,())⟩) (fun _ _ _ _=>rfl) (fun k hk hP=>by
      obtain⟨_,hP⟩:=hP
      simp only[Z108.l0_succ _ qag]
      refine qaB (decide_eq_true (by omega)) (qae (qao hk) (qaa (hp _ (List.getElem_mem hk)) (qaB hP qan)))) (fun k q hk hP ih=>by
      simp only[Z108.l0_succ _ qag]
      refine qaB (decide_eq_true (by omega)) (qae (qao hk) (qaa (hp _ (List.getElem_mem hk)) (qaD (Bool.eq_false_iff.2 fun h=>hP ⟨hk,h⟩) ?_)))
      rw[qah (by omega)];exact ih) (by
      simp only[Z108.l0_succ _ qag]
      exact qaD (decide_eq_false (by omega)) qan)
  rw[qdb h1 h2] at h3
  refine qak ?_
  simp only[run_Z107,Z108.ev]
  exact Ev.start (p:=fun φ n=>Z108.l0 (mkR (run E (φ 0))) (φ 0) n s (s.length:Int) 0=_) 1 h3 (fun _ _ _ h=>h)
theorem qbl(s:List Int)(p:Int→Bool)(hs:s.length≤1048576)(hp:∀ x∈s,Ret E n_Z30 [⟨yI,x⟩] ⟨o_Z30,(p x,())⟩) :
    Ret E n_Z107 [⟨yL,s⟩,⟨(.fn n_Z30 .nil),()⟩] ⟨o_Z107,(qiF p s,())⟩:=by
  obtain⟨o,h1,h2,h3⟩:=qbM 1 (L:=fun φ n k=>Z109.l0 (mkR (run E (φ 0))) (φ 0) n s (s.length:Int) k) (len:=s.length) (fun k=>∃ h:k<s.length,p s[k]=true) (fun o=>some ⟨o_Z107,(o2i o,())⟩) (fun _ _ _ _=>rfl) (fun k hk hP=>by
      obtain⟨_,hP⟩:=hP
      simp only[Z109.l0_succ _ qag]
      refine qaB (decide_eq_true (by omega)) (qae (qao hk) (qaa (hp _ (List.getElem_mem hk)) (qaB hP qan)))) (fun k q hk hP ih=>by
      simp only[Z109.l0_succ _ qag]
      refine qaB (decide_eq_true (by omega)) (qae (qao hk) (qaa (hp _ (List.getElem_mem hk)) (qaD (Bool.eq_false_iff.2 fun h=>hP ⟨hk,h⟩) ?_)))
      rw[qah (by omega)];exact ih) (by
      simp only[Z109.l0_succ _ qag]
      exact qaD (decide_eq_false (by omega)) qan)
  rw[qdb h1 h2] at h3
  refine qak ?_
  simp only[run_Z107,Z109.ev]
  exact Ev.start (p:=fun φ n=>Z109.l0 (mkR (run E (φ 0))) (φ 0) n s (s.length:Int) 0=_) 1 h3 (fun _ _ _ h=>h)
theorem qbt(s:List Int)(c:((Int×Unit)×Unit))(p:Int→Bool)(hs:s.length≤1048576)(hp:∀ x∈s,Ret E n_Z33 [⟨yI,x⟩,⟨(.ptr (.cons yI .nil)),c.1⟩] ⟨o_Z33,(p x,())⟩) :
    Ret E n_Z107 [⟨yL,s⟩,⟨(.fn n_Z33 (.cons (.ptr (.cons yI .nil)) .nil)),c⟩] ⟨o_Z107,(qiF p s,())⟩:=by
  obtain⟨o,h1,h2,h3⟩:=qbM 1 (L:=fun φ n k=>Z110.l0 (mkR (run E (φ 0))) (φ 0) n s c (s.length:Int) k) (len:=s.length) (fun k=>∃ h:k<s.length,p s[k]=true) (fun o=>some ⟨o_Z107,(o2i o,())⟩) (fun _ _ _ _=>rfl) (fun k hk hP=>by
      obtain⟨_,hP⟩:=hP
      simp only[Z110.l0_succ _ qag]
      refine qaB (decide_eq_true (by omega)) (qae (qao hk) (qaa (hp _ (List.getElem_mem hk)) (qaB hP qan)))) (fun k q hk hP ih=>by
      simp only[Z110.l0_succ _ qag]
      refine qaB (decide_eq_true (by omega)) (qae (qao hk) (qaa (hp _ (List.getElem_mem hk)) (qaD (Bool.eq_false_iff.2 fun h=>hP ⟨hk,h⟩) ?_)))
      rw[qah (by omega)];exact ih) (by
      simp only[Z110.l0_succ _ qag]
      exact qaD (decide_eq_false (by omega)) qan)
  rw[qdb h1 h2] at h3
  refine qak ?_
  simp only[run_Z107,Z110.ev]
  exact Ev.start (p:=fun φ n=>Z110.l0 (mkR (run E (φ 0))) (φ 0) n s c (s.length:Int) 0=_) 1 h3 (fun _ _ _ h=>h)
theorem qbx(s:List Int)(p:Int→Bool)(hs:s.length≤1048576)(hp:∀ x∈s,Ret E n_Z35 [⟨yI,x⟩] ⟨o_Z35,(p x,())⟩) :
    Ret E n_Z107 [⟨yL,s⟩,⟨(.fn n_Z35 .nil),()⟩] ⟨o_Z107,(qiF p s,())⟩:=by
  obtain⟨o,h1,h2,h3⟩:=qbM 1 (L:=fun φ n k=>Z111.l0 (mkR (run E (φ 0))) (φ 0) n s (s.length:Int) k) (len:=s.length) (fun k=>∃ h:k<s.length,p s[k]=true) (fun o=>some ⟨o_Z107,(o2i o,())⟩) (fun _ _ _ _=>rfl) (fun k hk hP=>by
      obtain⟨_,hP⟩:=hP
      simp only[Z111.l0_succ _ qag]
      refine qaB (decide_eq_true (by omega)) (qae (qao hk) (qaa (hp _ (List.getElem_mem hk)) (qaB hP qan)))) (fun k q hk hP ih=>by
      simp only[Z111.l0_succ _ qag]
      refine qaB (decide_eq_true (by omega)) (qae (qao hk) (qaa (hp _ (List.getElem_mem hk)) (qaD (Bool.eq_false_iff.2 fun h=>hP ⟨hk,h⟩) ?_)))
      rw[qah (by omega)];exact ih) (by
      simp only[Z111.l0_succ _ qag]
      exact qaD (decide_eq_false (by omega)) qan)
  rw[qdb h1 h2] at h3
  refine qak ?_
  simp only[run_Z107,Z111.ev]
  exact Ev.start (p:=fun φ n=>Z111.l0 (mkR (run E (φ 0))) (φ 0) n s (s.length:Int) 0=_) 1 h3 (fun _ _ _ h=>h)
theorem qbK(s:List Int)(c:(((List Int)×Unit)×Unit))(p:Int→Bool)(hs:s.length≤1048576)(hp:∀ x∈s,Ret E n_Z58 [⟨yI,x⟩,⟨(.ptr (.cons yL .nil)),c.1⟩] ⟨o_Z58,(p x,())⟩) :
    Ret E n_Z107 [⟨yL,s⟩,⟨(.fn n_Z58 (.cons (.ptr (.cons yL .nil)) .nil)),c⟩] ⟨o_Z107,(qiF p s,())⟩:=by
  obtain⟨o,h1,h2,h3⟩:=qbM 1 (L:=fun φ n k=>Z112.l0 (mkR (run E (φ 0))) (φ 0) n s c (s.length:Int) k) (len:=s.length) (fun k=>∃ h:k<s.length,p s[k]=true) (fun o=>some ⟨o_Z107,(o2i o,())⟩) (fun _ _ _ _=>rfl) (fun k hk hP=>by
      obtain⟨_,hP⟩:=hP
      simp only[Z112.l0_succ _ qag]
      refine qaB (decide_eq_true (by omega)) (qae (qao hk) (qaa (hp _ (List.getElem_mem hk)) (qaB hP qan)))) (fun k q hk hP ih=>by
      simp only[Z112.l0_succ _ qag]
      refine qaB (decide_eq_true (by omega)) (qae (qao hk) (qaa (hp _ (List.getElem_mem hk)) (qaD (Bool.eq_false_iff.2 fun h=>hP ⟨hk,h⟩) ?_)))
      rw[qah (by omega)];exact ih) (by
      simp only[Z112.l0_succ _ qag]
      exact qaD (decide_eq_false (by omega)) qan)
  rw[qdb h1 h2] at h3
  refine qak ?_
  simp only[run_Z107,Z112.ev]
  exact Ev.start (p:=fun φ n=>Z112.l0 (mkR (run E (φ 0))) (φ 0) n s c (s.length:Int) 0=_) 1 h3 (fun _ _ _ h=>h)
theorem qbr(s:List Int)(c:(((List Int)×Unit)×Unit))(p:Int→Bool)(hs:s.length≤1048576)(hp:∀ x∈s,Ret E n_Z67 [⟨yI,x⟩,⟨(.ptr (.cons yL .nil)),c.1⟩] ⟨o_Z67,(p x,())⟩) :
    Ret E n_Z107 [⟨yL,s⟩,⟨(.fn n_Z67 (.cons (.ptr (.cons yL .nil)) .nil)),c⟩] ⟨o_Z107,(qiF p s,())⟩:=by
  obtain⟨o,h1,h2,h3⟩:=qbM 1 (L:=fun φ n k=>Z113.l0 (mkR (run E (φ 0))) (φ 0) n s c (s.length:Int) k) (len:=s.length) (fun k=>∃ h:k<s.length,p s[k]=true) (fun o=>some ⟨o_Z107,(o2i o,())⟩) (fun _ _ _ _=>rfl) (fun k hk hP=>by
      obtain⟨_,hP⟩:=hP
      simp only[Z113.l0_succ _ qag]
      refine qaB (decide_eq_true (by omega)) (qae (qao hk) (qaa (hp _ (List.getElem_mem hk)) (qaB hP qan)))) (fun k q hk hP ih=>by
      simp only[Z113.l0_succ _ qag]
      refine qaB (decide_eq_true (by omega)) (qae (qao hk) (qaa (hp _ (List.getElem_mem hk)) (qaD (Bool.eq_false_iff.2 fun h=>hP ⟨hk,h⟩) ?_)))
      rw[qah (by omega)];exact ih) (by
      simp only[Z113.l0_succ _ qag]
      exact qaD (decide_eq_false (by omega)) qan)
  rw[qdb h1 h2] at h3
  refine qak ?_
  simp only[run_Z107,Z113.ev]
  exact Ev.start (p:=fun φ n=>Z113.l0 (mkR (run E (φ 0))) (φ 0) n s c (s.length:Int) 0=_) 1 h3 (fun _ _ _ h=>h)
theorem qbc(s:List (List Int))(p:(List Int)→Bool)(hs:s.length≤1048576)(hp:∀ x∈s,Ret E n_Z6 [⟨yL,x⟩] ⟨o_Z6,(p x,())⟩) :
  Ret E n_Z92 [⟨yK,s⟩,⟨(.fn n_Z6 .nil),()⟩] ⟨o_Z92,(pb (∃ x∈s,p x=true),())⟩:=by
 refine qak ?_
 simp only[run_Z92,Z93.ev]
 refine qaa (qbq s p hs hp) (qal ?_)
 simp only[ge_iff_le,qdM,qaM qbA]
theorem qa1(s:List (List Int))(c:((vK×Unit)×(Int×Unit)×Unit))(p:(List Int)→Bool)(hs:s.length≤1048576)(hp:∀ x∈s,Ret E n_Z25 [⟨yL,x⟩,⟨(.ptr yC),c.1⟩,⟨(.ptr (.cons yI .nil)),c.2.1⟩] ⟨o_Z25,(p x,())⟩) :
  Ret E n_Z92 [⟨yK,s⟩,⟨(.fn n_Z25 (.cons (.ptr yC) (.cons (.ptr (.cons yI .nil)) .nil))),c⟩] ⟨o_Z92,(pb (∃ x∈s,p x=true),())⟩:=by
 refine qak ?_
 simp only[run_Z92,Z94.ev]
 refine qaa (qbd s c p hs hp) (qal ?_)
 simp only[ge_iff_le,qdM,qaM qbA]
theorem qbp(s:List Int)(p:Int→Bool)(hs:s.length≤1048576)(hp:∀ x∈s,Ret E n_Z11 [⟨yI,x⟩] ⟨o_Z11,(p x,())⟩) :
  Ret E n_Z95 [⟨yL,s⟩,⟨(.fn n_Z11 .nil),()⟩] ⟨o_Z95,(pb (∃ x∈s,p x=true),())⟩:=by
 refine qak ?_
 simp only[run_Z95,Z96.ev]
 refine qaa (qbF s p hs hp) (qal ?_)
 simp only[ge_iff_le,qdM,qaM qbA]
theorem qa8(s:List Int)(p:Int→Bool)(hs:s.length≤1048576)(hp:∀ x∈s,Ret E n_Z30 [⟨yI,x⟩] ⟨o_Z30,(p x,())⟩) :
  Ret E n_Z95 [⟨yL,s⟩,⟨(.fn n_Z30 .nil),()⟩] ⟨o_Z95,(pb (∃ x∈s,p x=true),())⟩:=by
 refine qak ?_
 simp only[run_Z95,Z97.ev]
 refine qaa (qbl s p hs hp) (qal ?_)
 simp only[ge_iff_le,qdM,qaM qbA]
theorem qbg(s:List Int)(c:((Int×Unit)×Unit))(p:Int→Bool)(hs:s.length≤1048576)(hp:∀ x∈s,Ret E n_Z33 [⟨yI,x⟩,⟨(.ptr (.cons yI .nil)),c.1⟩] ⟨o_Z33,(p x,())⟩) :
  Ret E n_Z95 [⟨yL,s⟩,⟨(.fn n_Z33 (.cons (.ptr (.cons yI .nil)) .nil)),c⟩] ⟨o_Z95,(pb (∃ x∈s,p x=true),())⟩:=by
 refine qak ?_
 simp only[run_Z95,Z98.ev]
 refine qaa (qbt s c p hs hp) (qal ?_)
 simp only[ge_iff_le,qdM,qaM qbA]
theorem qbm(s:List Int)(p:Int→Bool)(hs:s.length≤1048576)(hp:∀ x∈s,Ret E n_Z35 [⟨yI,x⟩] ⟨o_Z35,(p x,())⟩) :
  Ret E n_Z95 [⟨yL,s⟩,⟨(.fn n_Z35 .nil),()⟩] ⟨o_Z95,(pb (∃ x∈s,p x=true),())⟩:=by
 refine qak ?_
 simp only[run_Z95,Z99.ev]
 refine qaa (qbx s p hs hp) (qal ?_)
 simp only[ge_iff_le,qdM,qaM qbA]
theorem qby(s:List Int)(c:(((List Int)×Unit)×Unit))(p:Int→Bool)(hs:s.length≤1048576)(hp:∀ x∈s,Ret E n_Z58 [⟨yI,x⟩,⟨(.ptr (.cons yL .nil)),c.1⟩] ⟨o_Z58,(p x,())⟩) :
  Ret E n_Z95 [⟨yL,s⟩,⟨(.fn n_Z58 (.cons (.ptr (.cons yL .nil)) .nil)),c⟩] ⟨o_Z95,(pb (∃ x∈s,p x=true),())⟩:=by
 refine qak ?_
 simp only[run_Z95,Z100.ev]
 refine qaa (qbK s c p hs hp) (qal ?_)
 simp only[ge_iff_le,qdM,qaM qbA]
theorem qcP(p:Int)(R C:Nat)(c:(vM×Unit))(f:Nat→Nat→Int)(hR:R≤1048576)(hC:C≤1048576)(hRC:R*C≤1048576)(hf:∀ i j:Nat,i<R→j<C→Ret E n_Z78 [⟨yI,(i:Int)⟩,⟨yI,(j:Int)⟩,⟨(.ptr yM),c.1⟩] ⟨o_Z78,(f i j,())⟩) :
  Ret E n_Z47 [⟨yI,p⟩,⟨yI,(R:Int)⟩,⟨yI,(C:Int)⟩,⟨(.fn n_Z78 (.cons (.ptr yM) .nil)),c⟩] ⟨o_Z47,(p,(R:Int),(C:Int),qat f C R,())⟩:=by
 refine qak ?_
 simp only[run_Z47,Z49.ev]
 refine Ev.start (p:=fun φ n=>Z49.l0 (mkR (run E (φ 0))) (φ 0) n (C:Int) c (R:Int) 0 0 0 0 p (R:Int) (C:Int) []=_) 1 ?_ (fun _ _ _ h=>h)
 refine qaw 1 (L:=fun φ n k a=>Z49.l0 (mkR (run E (φ 0))) (φ 0) n (C:Int) c (R:Int) k 0 0 0 p (R:Int) (C:Int) a) (len:=R) (fun k=>qat f C k) (fun _ _ _ _ _=>rfl) (fun k r hk ih=>?_) ?_
 ·simp only[Z49.l0_succ _ qag]
  refine qaB (decide_eq_true (by omega)) ?_
  refine Ev.start (p:=fun φ n=>Z49.l1 (mkR (run E (φ 0))) (φ 0) (φ 1) n (C:Int) c (k:Int) (R:Int) (k:Int) (C:Int) 0 0 0 0 p (R:Int) (C:Int) (qat f C k)=_) 2 ?_ (fun _ _ _ h=>h)
  have hle:(k+1)*C≤R*C:=Nat.mul_le_mul_right _ hk
  rw[Nat.add_mul] at hle
  have:=qaw 2 (L:=fun φ n j a=>Z49.l1 (mkR (run E (φ 0))) (φ 0) (φ 1) n (C:Int) c (k:Int) (R:Int) (k:Int) (C:Int) j 0 0 0 p (R:Int) (C:Int) a) (len:=C) (fun j=>qat f C k++(List.range j).map (f k)) (r:=r) (fun _ _ _ _ _=>rfl) (fun j r hj ih=>?_) ?_
  ·simpa using this
  ·simp only[Z49.l1_succ _ qag]
   rw[List.range_succ,List.map_append,← List.append_assoc] at ih
   refine qaB (decide_eq_true (by omega)) (qaa (hf k j hk hj) (qax (by simp[qas];omega) ?_))
   rw[qah (by omega)];exact ih
  ·simp only[Z49.l1_succ _ qag]
   refine qaD (decide_eq_false (by omega)) ?_
   rw[qah (by omega)];exact ih
 ·simp only[Z49.l0_succ _ qag]
  exact qaD (decide_eq_false (by omega)) qan
theorem qde(p:Int)(R C:Nat)(c:(vM×(vK×Unit)×Unit))(f:Nat→Nat→Int)(hR:R≤1048576)(hC:C≤1048576)(hRC:R*C≤1048576)(hf:∀ i j:Nat,i<R→j<C→Ret E n_Z65 [⟨yI,(i:Int)⟩,⟨yI,(j:Int)⟩,⟨(.ptr yM),c.1⟩,⟨(.ptr yC),c.2.1⟩] ⟨o_Z65,(f i j,())⟩) :
  Ret E n_Z47 [⟨yI,p⟩,⟨yI,(R:Int)⟩,⟨yI,(C:Int)⟩,⟨(.fn n_Z65 (.cons (.ptr yM) (.cons (.ptr yC) .nil))),c⟩] ⟨o_Z47,(p,(R:Int),(C:Int),qat f C R,())⟩:=by
 refine qak ?_
 simp only[run_Z47,Z48.ev]
 refine Ev.start (p:=fun φ n=>Z48.l0 (mkR (run E (φ 0))) (φ 0) n (C:Int) c (R:Int) 0 0 0 0 p (R:Int) (C:Int) []=_) 1 ?_ (fun _ _ _ h=>h)
 refine qaw 1 (L:=fun φ n k a=>Z48.l0 (mkR (run E (φ 0))) (φ 0) n (C:Int) c (R:Int) k 0 0 0 p (R:Int) (C:Int) a) (len:=R) (fun k=>qat f C k) (fun _ _ _ _ _=>rfl) (fun k r hk ih=>?_) ?_
 ·simp only[Z48.l0_succ _ qag]
  refine qaB (decide_eq_true (by omega)) ?_
  refine Ev.start (p:=fun φ n=>Z48.l1 (mkR (run E (φ 0))) (φ 0) (φ 1) n (C:Int) c (k:Int) (R:Int) (k:Int) (C:Int) 0 0 0 0 p (R:Int) (C:Int) (qat f C k)=_) 2 ?_ (fun _ _ _ h=>h)
  have hle:(k+1)*C≤R*C:=Nat.mul_le_mul_right _ hk
  rw[Nat.add_mul] at hle
  have:=qaw 2 (L:=fun φ n j a=>Z48.l1 (mkR (run E (φ 0))) (φ 0) (φ 1) n (C:Int) c (k:Int) (R:Int) (k:Int) (C:Int) j 0 0 0 p (R:Int) (C:Int) a) (len:=C) (fun j=>qat f C k++(List.range j).map (f k)) (r:=r) (fun _ _ _ _ _=>rfl) (fun j r hj ih=>?_) ?_
  ·simpa using this
  ·simp only[Z48.l1_succ _ qag]
   rw[List.range_succ,List.map_append,← List.append_assoc] at ih
   refine qaB (decide_eq_true (by omega)) (qaa (hf k j hk hj) (qax (by simp[qas];omega) ?_))
   rw[qah (by omega)];exact ih
  ·simp only[Z48.l1_succ _ qag]
   refine qaD (decide_eq_false (by omega)) ?_
   rw[qah (by omega)];exact ih
 ·simp only[Z48.l0_succ _ qag]
  exact qaD (decide_eq_false (by omega)) qan
theorem qdO(p:Int)(R C:Nat)(f:Nat→Nat→Int)(hR:R≤1048576)(hC:C≤1048576)(hRC:R*C≤1048576)(hf:∀ i j:Nat,i<R→j<C→Ret E n_Z80 [⟨yI,(i:Int)⟩,⟨yI,(j:Int)⟩] ⟨o_Z80,(f i j,())⟩) :
  Ret E n_Z47 [⟨yI,p⟩,⟨yI,(R:Int)⟩,⟨yI,(C:Int)⟩,⟨(.fn n_Z80 .nil),()⟩] ⟨o_Z47,(p,(R:Int),(C:Int),qat f C R,())⟩:=by
 refine qak ?_
 simp only[run_Z47,Z50.ev]
 refine Ev.start (p:=fun φ n=>Z50.l0 (mkR (run E (φ 0))) (φ 0) n (C:Int) (R:Int) 0 0 0 0 p (R:Int) (C:Int) []=_) 1 ?_ (fun _ _ _ h=>h)
 refine qaw 1 (L:=fun φ n k a=>Z50.l0 (mkR (run E (φ 0))) (φ 0) n (C:Int) (R:Int) k 0 0 0 p (R:Int) (C:Int) a) (len:=R) (fun k=>qat f C k) (fun _ _ _ _ _=>rfl) (fun k r hk ih=>?_) ?_
 ·simp only[Z50.l0_succ _ qag]
  refine qaB (decide_eq_true (by omega)) ?_
  refine Ev.start (p:=fun φ n=>Z50.l1 (mkR (run E (φ 0))) (φ 0) (φ 1) n (C:Int) (k:Int) (R:Int) (k:Int) (C:Int) 0 0 0 0 p (R:Int) (C:Int) (qat f C k)=_) 2 ?_ (fun _ _ _ h=>h)
  have hle:(k+1)*C≤R*C:=Nat.mul_le_mul_right _ hk
  rw[Nat.add_mul] at hle
  have:=qaw 2 (L:=fun φ n j a=>Z50.l1 (mkR (run E (φ 0))) (φ 0) (φ 1) n (C:Int) (k:Int) (R:Int) (k:Int) (C:Int) j 0 0 0 p (R:Int) (C:Int) a) (len:=C) (fun j=>qat f C k++(List.range j).map (f k)) (r:=r) (fun _ _ _ _ _=>rfl) (fun j r hj ih=>?_) ?_
  ·simpa using this
  ·simp only[Z50.l1_succ _ qag]
   rw[List.range_succ,List.map_append,← List.append_assoc] at ih
   refine qaB (decide_eq_true (by omega)) (qaa (hf k j hk hj) (qax (by simp[qas];omega) ?_))
   rw[qah (by omega)];exact ih
  ·simp only[Z50.l1_succ _ qag]
   refine qaD (decide_eq_false (by omega)) ?_
   rw[qah (by omega)];exact ih
 ·simp only[Z50.l0_succ _ qag]
  exact qaD (decide_eq_false (by omega)) qan
end VeT
open Go Go.Proofs Ve
namespace VeT
abbrev cM:Ty:=.cons yI (.cons yI (.cons yI (.cons yL .nil)))
abbrev cC:Ty:=.cons yK .nil
abbrev cS:Ty:=.cons yK (.cons yI (.cons yL (.cons (.sl (.st cM)) .nil)))
abbrev Mat:=Int×Int×Int×List Int×Unit
abbrev Cpx:=List (List Int)×Unit
abbrev Shf:=List (List Int)×Int×List Int×List Mat×Unit
abbrev Sim:=List Int
abbrev dI(x:Int):Dv:=⟨.int .i64,x⟩
abbrev dL(x:List Int):Dv:=⟨.sl yI,x⟩
abbrev dLL(x:List (List Int)):Dv:=⟨.sl yL,x⟩
abbrev dC(x:Cpx):Dv:=⟨.ptr cC,x⟩
abbrev dM(x:Mat):Dv:=⟨.ptr cM,x⟩
abbrev dS(x:Shf):Dv:=⟨.ptr cS,x⟩
abbrev dMs(x:List Mat):Dv:=⟨.sl (.st cM),x⟩
theorem qbQ(n lo hi:Int):Ret E n_Z81 [dI n,dI lo,dI hi] ⟨o_Z81,(pb (lo≤n∧n≤hi),())⟩:=by
 refine qak ?_
 simp only[run_Z81,Z81.ev]
 refine qeE (fun h=>qal ?_) fun h=>qal ?_
 ·rw[qdM,qaM (show n≤hi↔lo≤n∧n≤hi by omega)]
 ·rw[qaq (by omega)]
theorem qb9(n lo hi:Int):Ret E n_Z126 [dI n,dI lo,dI hi] ⟨o_Z126,(pb (lo≤n∧n≤hi),())⟩:=by
 refine qak ?_
 simp only[run_Z126,Z126.ev]
 refine qeE (fun h=>qal ?_) fun h=>qal ?_
 ·rw[qdM,qaM (show n≤hi↔lo≤n∧n≤hi by omega)]
 ·rw[qaq (by omega)]
theorem qlc(n:Int):Ret E n_Z63 [dI n] ⟨o_Z63,(pb (0≤n∧n≤9),())⟩:=by
 refine qak ?_
 simp only[run_Z63,Z63.ev]
 exact qaa (qbQ _ _ _) qan
theorem qfk(n:Int):Ret E n_Z30 [dI n] ⟨o_Z30,(!pb (0≤n∧n≤9),())⟩:=by
 refine qak ?_
 simp only[run_Z30,Z30.ev]
 exact qaa (qlc _) qan
def qh2(s:Sim):Prop:=∀ j,1≤j→j<s.length→s.getD (j-1) 0<s.getD j 0
theorem qk1(s:Sim)(hs:Sm yL s):Ret E n_Z60 [dL s] ⟨o_Z60,(pb (qh2 s),())⟩:=by
 have hs1:s.length≤1048576:=hs.1
 refine qak ?_
 simp only[run_Z60,Z60.ev]
 by_cases h0:s.length=0
 ·refine Ev.start (p:=fun φ n=>Z60.l0 (mkR (run E (φ 0))) (φ 0) n s 1=_) 1 ?_ (fun _ _ _ h=>h)
  refine qfL 1 (σ:=Unit) (L:=fun φ n _=>Z60.l0 (mkR (run E (φ 0))) (φ 0) n s 1) (fun _ _ _ _=>rfl) (fun _=>True) (fun _=>_) (fun _=>0) (fun _ _ _=>?_) () trivial
  simp only[Z60.l0_succ _ qag]
  refine qaD (decide_eq_false (by omega)) (qal ?_)
  rw[qay]
  intro j h1 h2;omega
 ·refine Ev.start (p:=fun φ n=>Z60.l0 (mkR (run E (φ 0))) (φ 0) n s 1=_) 1 ?_ (fun _ _ _ h=>h)
  refine qdY 1 (L:=fun φ n k=>Z60.l0 (mkR (run E (φ 0))) (φ 0) n s k) (len:=s.length) 1 (by omega) (fun j=>s.getD (j-1) 0<s.getD j 0) (fun b=>some ⟨o_Z60,(b,())⟩) (fun _ _ _ _=>rfl) (fun k h1 h2 hP _=>?_) (fun k r h1 h2 hP _ ih=>?_) (fun _=>?_)
  ·simp only[Z60.l0_succ _ qag]
   refine qaB (decide_eq_true (by omega)) ?_
   rw[qai (by omega) (by omega),show((k:Int)-1)=((k-1:Nat):Int) by omega]
   refine qae (qao (by omega)) (qae (qao h2) (qaB (decide_eq_true ?_) qan))
   simpa [List.getD_eq_getElem?_getD,h2,show k-1<s.length by omega] using hP
  ·simp only[Z60.l0_succ _ qag]
   refine qaB (decide_eq_true (by omega)) ?_
   rw[qai (by omega) (by omega),show((k:Int)-1)=((k-1:Nat):Int) by omega]
   refine qae (qao (by omega)) (qae (qao h2) (qaD (decide_eq_false ?_) ?_))
   ·simpa [List.getD_eq_getElem?_getD,h2,show k-1<s.length by omega] using hP
   ·rw[qah (by omega)];exact ih
  ·simp only[Z60.l0_succ _ qag]
   exact qaD (decide_eq_false (by omega)) qan
end VeT
open Go Go.Proofs Ve
namespace VeT
def Vx(s:Sim):Prop:=1≤s.length∧s.length≤4∧qh2 s∧∀ x∈s,0≤x∧x≤9
theorem qcq(s:Sim)(hs:Sm yL s):Ret E n_Z29 [dL s] ⟨o_Z29,(pb (Vx s),())⟩:=by
 refine qak ?_
 simp only[run_Z29,Z29.ev]
 refine qeE (fun h1=>qeE (fun h2=>qaa (qk1 s hs) (qcs (fun h3=>qaa (qa8 s _ hs.1 fun x _=>qfk x) (qal ?_)) fun h3=>qal ?_)) fun h2=>qal ?_) fun h1=>qal ?_
 ·have h3:=qaH.1 h3
  have:(!pb (∃ x∈s,(!pb (0≤x∧x≤9))=true))=pb (Vx s):=qhG (by
   simp only[Bool.not_eq_true',qbh]
   exact⟨fun h=>⟨by omega,by omega,h3,fun x hx=>Classical.byContradiction fun hn=>h ⟨x,hx,hn⟩⟩,fun h ⟨x,hx,hn⟩=>hn (h.2.2.2 x hx)⟩)
  rw[this]
 ·rw[qaq fun h=>qbh.1 h3 h.2.2.1]
 ·rw[qaq fun h=>h2 (by have:=h.2.1;omega)]
 ·rw[qaq fun h=>h1 (by have:=h.1;omega)]
theorem qlm(s:Sim)(lo hi:Int)(hs:Sm yL s):Ret E n_Z129 [dL s,dI lo,dI hi] ⟨o_Z129,(pb (qh2 s∧∀ x∈s,lo≤x∧x≤hi),())⟩:=by
 have hs1:s.length≤1048576:=hs.1
 refine qak ?_
 simp only[run_Z129,Z129.ev]
 refine Ev.start (p:=fun φ n=>Z129.l0 (mkR (run E (φ 0))) (φ 0) n s lo hi 0=_) 1 ?_ (fun _ _ _ h=>h)
 refine(qdY 1 (L:=fun φ n k=>Z129.l0 (mkR (run E (φ 0))) (φ 0) n s lo hi k) (len:=s.length) 0 (by omega) (fun j=>(lo≤s.getD j 0∧s.getD j 0≤hi)∧(1≤j→s.getD (j-1) 0<s.getD j 0)) (fun b=>some ⟨o_Z129,(b,())⟩) (fun _ _ _ _=>rfl) (fun k h1 h2 hP _=>?_) (fun k r h1 h2 hP _ ih=>?_) (fun _=>?_)).to ?_
 ·simp only[Z129.l0_succ _ qag]
  refine qaB (decide_eq_true (by omega)) (qae (qao h2) (qaa (qb9 _ _ _) ?_))
  have e:s.getD k 0=s[k]:=by simp[List.getD_eq_getElem?_getD,h2]
  rw[e] at hP
  refine qcs (fun _=>?_) (fun hin=>?_)
  ·simp only[Z129.j1_eq _ qag,cond_true];(first | exact qan | exact Ev.of fun _=>trivial)
  ·have hin:lo≤s[k]∧s[k]≤hi:=qaH.1 (by simpa using hin)
   have hk:1≤k:=Classical.byContradiction fun h=>hP ⟨hin,fun h'=>absurd h' h⟩
   refine qaB (decide_eq_true (by omega)) ?_
   rw[qai (by omega) (by omega),show((k:Int)-1)=((k-1:Nat):Int) by omega]
   refine qae (qao (by omega)) (qae (qao h2) ?_)
   have e':s.getD (k-1) 0=s[k-1]:=by simp[List.getD_eq_getElem?_getD,show k-1<s.length by omega]
   rw[e'] at hP
   have:decide (s[k-1]≥s[k])=true:=decide_eq_true (Classical.byContradiction fun h=>hP ⟨hin,fun _=>by omega⟩)
   simp only[this,Z129.j1_eq _ qag,cond_true];(first | exact qan | exact Ev.of fun _=>trivial)
 ·simp only[Z129.l0_succ _ qag]
  refine qaB (decide_eq_true (by omega)) (qae (qao h2) (qaa (qb9 _ _ _) ?_))
  have e:s.getD k 0=s[k]:=by simp[List.getD_eq_getElem?_getD,h2]
  rw[e] at hP
  refine qaD (by rw[qay hP.1];rfl) ?_
  refine qeE (fun hk=>?_) fun hk=>?_
  ·rw[qai (by omega) (by omega),show((k:Int)-1)=((k-1:Nat):Int) by omega]
   refine qae (qao (by omega)) (qae (qao h2) ?_)
   have e':s.getD (k-1) 0=s[k-1]:=by simp[List.getD_eq_getElem?_getD,show k-1<s.length by omega]
   rw[e'] at hP
   have:decide (s[k-1]≥s[k])=false:=decide_eq_false (by have:=hP.2 (by omega);omega)
   simp only[this,Z129.j1_eq _ qag,cond_false]
   rw[qah (by omega)];exact ih
  ·simp only[Z129.j1_eq _ qag,cond_false]
   rw[qah (by omega)];exact ih
 ·simp only[Z129.l0_succ _ qag]
  exact qaD (decide_eq_false (by omega)) qan
 ·refine congrArg (fun b:Bool=>some (⟨o_Z129,(b,())⟩:Dv)) (qaM ⟨fun h=>⟨fun j h1 h2=>(h j (by omega) h2).2 h1,fun x hx=>?_⟩,fun⟨h1,h2⟩ j _ hj=>⟨?_,fun h3=>h1 j h3 hj⟩⟩)
  ·obtain⟨j,hj,rfl⟩:=List.mem_iff_getElem.1 hx
   simpa [List.getD_eq_getElem?_getD,hj] using (h j (by omega) hj).1
  ·simpa [List.getD_eq_getElem?_getD,hj] using h2 _ (List.getElem_mem hj)
theorem qeI(s:Sim)(hs:Sm yL s):Ret E n_Z160 [dL s] ⟨o_Z160,(pb (Vx s),())⟩:=by
 refine qak ?_
 simp only[run_Z160,Z160.ev]
 refine qaa (qb9 _ _ _) (qcs (fun h1=>qaa (qlm s _ _ hs) (qal ?_)) fun h1=>qal ?_)
 ·have h1:=qaH.1 h1
  exact congrArg (fun b:Bool=>some (⟨o_Z160,(b,())⟩:Dv)) (qaM ⟨fun h=>⟨by omega,by omega,h.1,h.2⟩,fun h=>⟨h.2.2.1,h.2.2.2⟩⟩)
 ·rw[qaq fun h=>qbh.1 h1 ⟨by have:=h.1;omega,by have:=h.2.1;omega⟩]
def qiH(a b:Int):Int:=if a<b then -1 else if b<a then 1 else 0
def qdU:Sim→Sim→Int
 | [],[]=>0
 | [],_::_=>-1
 | _::_,[]=>1
 | x::xs,y::ys=>if x<y then -1 else if y<x then 1 else qdU xs ys
def qcO(a b:Sim):Int:=if qiH a.length b.length≠0 then qiH a.length b.length else qdU a b
theorem qdW{a b:Int}:qiH a b=0↔a=b:=by unfold qiH;split<;>(try split)<;>omega
theorem qqr{a b:Int}:qiH b a=- qiH a b:=by unfold qiH;split<;>split<;>(try split)<;>omega
theorem qpa{a b:Int}:qiH a b<0↔a<b:=by unfold qiH;split<;>(try split)<;>omega
theorem qpz:∀ {a b:Sim},qdU a b=0↔a=b
 | [],[]=>by simp[qdU]
 | [],_::_=>by simp[qdU]
 | _::_,[]=>by simp[qdU]
 | x::xs,y::ys=>by
  have:=@qpz xs ys
  simp only[qdU,List.cons.injEq]
  split
  ·constructor
   ·intro h;omega
   ·rintro⟨rfl,_⟩;omega
  ·split
   ·constructor
    ·intro h;omega
    ·rintro⟨rfl,_⟩;omega
   ·rw[this];constructor
    ·intro h;exact⟨by omega,h⟩
    ·exact fun h=>h.2
theorem qm4:∀ {a b:Sim},qdU b a=- qdU a b
 | [],[]=>by simp[qdU]
 | [],_::_=>by simp[qdU]
 | _::_,[]=>by simp[qdU]
 | x::xs,y::ys=>by
  have:=@qm4 xs ys
  simp only[qdU]
  split<;>split<;>(try split)<;>omega
theorem qjp:∀ {a b c:Sim},qdU a b<0→qdU b c<0→qdU a c<0
 | [],[],c,h,_=>by simp[qdU] at h
 | [],_::_,[],_,h=>by simp[qdU] at h
 | [],_::_,_::_,_,_=>by simp[qdU]
 | _::_,[],_,h,_=>by simp[qdU] at h
 | _::_,_::_,[],_,h=>by simp[qdU] at h
 | x::xs,y::ys,z::zs,h1,h2=>by
  have:=@qjp xs ys zs
  simp only[qdU] at h1 h2 ⊢
  split at h1<;>split at h2<;>(try split at h1)<;>(try split at h2)<;>(try split)<;>(try split)<;>first | omega | (exact this h1 h2)
theorem qcc{a b:Sim}:qcO a b=0↔a=b:=by
 unfold qcO
 split
 ·rename_i h
  exact⟨fun h'=>absurd h' h,fun h'=>absurd (qdW.2 (by rw[h'])) h⟩
 ·exact qpz
theorem qj3{a b:Sim}:qcO b a=- qcO a b:=by
 unfold qcO
 rw[@qqr a.length b.length]
 split<;>split<;>first | omega | exact qm4
theorem qhL{a b:Sim}:qcO a b<0↔a.length<b.length∨a.length=b.length∧qdU a b<0:=by
 unfold qcO
 split
 ·rename_i h
  rw[qpa]
  rw[Ne,qdW] at h
  omega
 ·rename_i h
  rw[Classical.not_not,qdW] at h
  omega
theorem qer{a b c:Sim}(h1:qcO a b<0)(h2:qcO b c<0):qcO a c<0:=by
 rw[qhL] at *
 rcases h1 with h1 | ⟨h1,h1'⟩<;>rcases h2 with h2 | ⟨h2,h2'⟩
 ·left;omega
 ·left;omega
 ·left;omega
 ·right;exact⟨by omega,qjp h1' h2'⟩
theorem qjf(a:Int):Ret E n_Z3 [dI a] ⟨o_Z3,(false,())⟩:=by
 refine qak ?_
 simp only[run_Z3,Z3.ev]
 exact qal (by simp)
theorem qlx(a:Int):Ret E n_Z4 [dI a] ⟨o_Z4,(false,())⟩:=by
 refine qak ?_
 simp only[run_Z4,Z4.ev]
 exact qal (by simp)
theorem qlT(a b:Int):Ret E n_Z0 [dI a,dI b] ⟨o_Z0,(qiH a b,())⟩:=by
 refine qak ?_
 simp only[run_Z0,Z0.ev]
 refine qaa (qjf _) (qaa (qjf _) (qaD rfl (qaD rfl (qeE (fun h=>qal ?_) fun h=>qeE (fun h2=>qal ?_) fun h2=>qal ?_))))
 ·rw[qiH,if_pos h]
 ·rw[qiH,if_neg h,if_pos h2]
 ·rw[qiH,if_neg h,if_neg h2]
theorem qmN(a b:Int):Ret E n_Z1 [dI a,dI b] ⟨o_Z1,(qiH a b,())⟩:=by
 refine qak ?_
 simp only[run_Z1,Z1.ev]
 refine qaa (qlx _) (qaa (qlx _) (qaD rfl (qaD rfl (qeE (fun h=>qal ?_) fun h=>qeE (fun h2=>qal ?_) fun h2=>qal ?_))))
 ·rw[qiH,if_pos h]
 ·rw[qiH,if_neg h,if_pos h2]
 ·rw[qiH,if_neg h,if_neg h2]
theorem qic{a b:Sim}{k:Nat}(h:k<a.length)(h':k<b.length):qdU (a.drop k) (b.drop k)=if qiH a[k] b[k]≠0 then qiH a[k] b[k] else qdU (a.drop (k+1)) (b.drop (k+1)):=by
 rw[List.drop_eq_getElem_cons h,List.drop_eq_getElem_cons h',qdU]
 unfold qiH
 split
 ·simp
 ·split
  ·simp
  ·simp
theorem qgQ(a b:Sim)(ha:Sm yL a):Ret E n_Z90 [dL a,dL b] ⟨o_Z90,(qdU a b,())⟩:=by
 have ha1:a.length≤1048576:=ha.1
 refine qak ?_
 simp only[run_Z90,Z90.ev]
 refine Ev.start (p:=fun φ n=>Z90.l0 (mkR (run E (φ 0))) (φ 0) n a b a (a.length:Int) 0=_) 1 ?_ (fun _ _ _ h=>h)
 refine qfL 1 (σ:=Nat) (L:=fun φ n k=>Z90.l0 (mkR (run E (φ 0))) (φ 0) n a b a (a.length:Int) (k:Int)) (fun _ _ _ _=>rfl) (fun k=>k≤a.length∧k≤b.length) (fun k=>some ⟨o_Z90,(qdU (a.drop k) (b.drop k),())⟩) (fun k=>a.length-k) (fun k ⟨hk,hkb⟩ ih=>?_) 0 ⟨Nat.zero_le _,Nat.zero_le _⟩
 simp only[Z90.l0_succ _ qag]
 refine qeE (fun h=>?_) fun h=>?_
 ·have hka:k<a.length:=by omega
  refine qae (qao hka) (qeE (fun h2=>qal ?_) fun h2=>?_)
  ·rw[List.drop_eq_getElem_cons hka,List.drop_of_length_le (l:=b) (by omega),qdU]
  ·have hkb:k<b.length:=by omega
   refine qae (qao hkb) (qaa (qmN _ _) (qcs (fun h3=>qal ?_) fun h3=>?_))
   ·rw[qic hka hkb,if_pos (by simpa using h3)]
   ·rw[qah (by omega)]
    refine(ih (k+1) ⟨by omega,by omega⟩ (by omega)).to ?_
    rw[qic hka hkb,if_neg (by simpa using h3)]
 ·have e:k=a.length:=by omega
  subst e
  refine qeE (fun h2=>qal ?_) fun h2=>qal ?_
  ·rw[List.drop_of_length_le (l:=a) (by omega),List.drop_eq_getElem_cons (l:=b) (by omega),qdU]
  ·rw[List.drop_of_length_le (l:=a) (by omega),List.drop_of_length_le (l:=b) (by omega),qdU]
theorem qrT(a b:Int):Ret E n_Z2 [dL [a,b]] ⟨o_Z2,(if a≠0 then a else b,())⟩:=by
 refine qak ?_
 simp only[run_Z2,Z2.ev]
 refine Ev.start (p:=fun φ n=>Z2.l0 (mkR (run E (φ 0))) (φ 0) n 0 [a,b] ([a,b].length:Int) 0=_) 1 ?_ (fun _ _ _ h=>h)
 refine Ev.round 1 (L:=fun φ n=>Z2.l0 (mkR (run E (φ 0))) (φ 0) n 0 [a,b] ([a,b].length:Int) 0) ?_ (fun _ _ _=>rfl)
 simp only[Z2.l0_succ _ qag]
 refine qaB (by simp) (qae (x:=a) rfl (qcs (fun h=>qal ?_) fun h=>?_))
 ·rw[if_pos (by simpa using h)]
 ·rw[if_neg (by simpa using h)]
  rw[show w64 ((0:Int)+1)=1 by decide]
  refine Ev.round 1 (L:=fun φ n=>Z2.l0 (mkR (run E (φ 0))) (φ 0) n 0 [a,b] ([a,b].length:Int) 1) ?_ (fun _ _ _=>rfl)
  simp only[Z2.l0_succ _ qag]
  refine qaB (by simp) (qae (x:=b) rfl (qcs (fun h=>qan) fun h=>?_))
  rw[show w64 ((1:Int)+1)=2 by decide]
  refine Ev.round 1 (L:=fun φ n=>Z2.l0 (mkR (run E (φ 0))) (φ 0) n 0 [a,b] ([a,b].length:Int) 2) ?_ (fun _ _ _=>rfl)
  simp only[Z2.l0_succ _ qag]
  refine qaD (by simp) (qal ?_)
  have:b=0:=by simpa using h
  rw[this]
theorem qaW(a b:Sim)(ha:Sm yL a):Ret E n_Z39 [dL a,dL b] ⟨o_Z39,(qcO a b,())⟩:=by
 refine qak ?_
 simp only[run_Z39,Z39.ev]
 exact qaa (qlT _ _) (qaa (qgQ a b ha) (qaa (qrT _ _) qan))
theorem qcw(a b:Sim)(ha:Sm yL a):Ret E n_Z150 [dL a,dL b] ⟨o_Z150,(pb (qcO a b<0),())⟩:=by
  have ha1:a.length≤1048576:=ha.1
  refine qak ?_
  simp only[run_Z150,Z150.ev]
  refine qcs (fun h=>qal ?_) fun h=>?_
  · have h:(a.length:Int)≠b.length:=by simpa using h
    rw[qdM,qaM (show(a.length:Int)<b.length↔qcO a b<0 by rw[qhL];omega)]
  · have h : a.length = b.length := by have : (a.length : Int) = b.length := by simpa using h
                                       omega
    refine Ev.start (p:=fun φ n=>Z150.l0 (mkR (run E (φ 0))) (φ 0) n a b 0=_) 1 ?_ (fun _ _ _ h=>h)
    refine(qfL 1 (σ:=Nat) (L:=fun φ n k=>Z150.l0 (mkR (run E (φ 0))) (φ 0) n a b (k:Int)) (fun _ _ _ _=>rfl) (fun k=>k≤a.length) (fun k=>some ⟨o_Z150,(pb (qdU (a.drop k) (b.drop k)<0),())⟩) (fun k=>a.length-k) (fun k hk ih=>?_) 0 (Nat.zero_le _)).to ?_
    · simp only[Z150.l0_succ _ qag]
      refine qeE (fun h1=>?_) fun h1=>?_
      · have hka:k<a.length:=by omega
        have hkb:k<b.length:=by omega
        have e:=qic hka hkb
        refine qae (qao hka) (qae (qao hkb) (qcs (fun h3=>?_) fun h3=>?_))
        · refine qae (qao hka) (qae (qao hkb) (qal ?_))
          have h3:a[k]≠b[k]:=by simpa using h3
          rw[if_pos (by rw[Ne,qdW];exact h3)] at e
          rw[e,qdM,qaM qpa]
        · have h3:a[k]=b[k]:=by simpa using h3
          rw[if_neg (by rw[Classical.not_not,qdW];exact h3)] at e
          rw[qah (by omega),e]
          exact ih (k+1) (by show k+1≤_;omega) (by show a.length-(k+1)<_;omega)
      · refine qal ?_
        have hk:k≤a.length:=hk
        have e:k=a.length:=by omega
        subst e
        rw[List.drop_of_length_le (l:=a) (by omega),List.drop_of_length_le (l:=b) (by omega),qdU,qaq (by omega)]
    · refine congrArg (fun b:Bool=>some (⟨o_Z150,(b,())⟩:Dv)) (qaM ?_)
      simp only[List.drop_zero];rw[qhL];omega
end VeT
open Go Go.Proofs Ve
namespace VeT
theorem qaf{α:Type}{s:List α}{k:Nat}{d:α}(h:k<s.length):s.getD k d=s[k]:=by simp[List.getD_eq_getElem?_getD,h]
theorem qa7{t:Ty}{s:List t.T}(h:Sm (.sl t) s){k:Nat}(hk:k<s.length):Sm t s[k]:=h.2 _ (List.getElem_mem hk)
theorem qsV{s:Sim}(h:s.length≤1048576):Sm yL s:=⟨h,fun _ _=>trivial⟩
theorem qcE(s:Sim)(hs:s.length≤1048576):Ret E n_Z127 [dL s] ⟨o_Z127,(s,())⟩:=by
 refine qak ?_
 simp only[run_Z127,Z127.ev]
 exact qax (by simp;omega) (qal rfl)
theorem qdw(s:Sim)(k:Nat)(hk:k<s.length)(hs:s.length≤1048576):Ret E n_Z153 [dL s,dI (k:Int)] ⟨o_Z153,(s.eraseIdx k,())⟩:=by
 refine qak ?_
 simp only[run_Z153,Z153.ev]
 rw[qah (by omega)]
 simp only[Int.toNat_natCast]
 refine qax (by simp;omega) (qaa (qcE _ (by simp;omega)) (qax (by simp;omega) (qax (by simp;omega) (qal ?_))))
 rw[List.eraseIdx_eq_take_drop_succ]
theorem qcV(a b:Sim)(ha:a.length≤1048576):Ret E n_Z130 [dL a,dL b] ⟨o_Z130,(pb (a=b),())⟩:=by
 refine qak ?_
 simp only[run_Z130,Z130.ev]
 refine qcs (fun h=>qal ?_) fun h=>?_
 ·have h:(a.length:Int)≠b.length:=by simpa using h
  rw[qaq fun e=>h (by rw[e])]
 ·have h:(a.length:Int)=b.length:=by simpa using h
  refine Ev.start (p:=fun φ n=>Z130.l0 (mkR (run E (φ 0))) (φ 0) n a b 0=_) 1 ?_ (fun _ _ _ h=>h)
  refine(qdY 1 (L:=fun φ n k=>Z130.l0 (mkR (run E (φ 0))) (φ 0) n a b k) (len:=a.length) 0 (by omega) (fun j=>a.getD j 0=b.getD j 0) (fun b=>some ⟨o_Z130,(b,())⟩) (fun _ _ _ _=>rfl) (fun k h1 h2 hP _=>?_) (fun k r h1 h2 hP _ ih=>?_) (fun _=>?_)).to ?_
  ·simp only[Z130.l0_succ _ qag]
   have hb:k<b.length:=by omega
   rw[qaf h2,qaf hb] at hP
   exact qaB (decide_eq_true (by omega)) (qae (qao h2) (qae (qao hb) (qaB (by simpa using hP) qan)))
  ·simp only[Z130.l0_succ _ qag]
   have hb:k<b.length:=by omega
   rw[qaf h2,qaf hb] at hP
   refine qaB (decide_eq_true (by omega)) (qae (qao h2) (qae (qao hb) (qaD (by simpa using hP) ?_)))
   rw[qah (by omega)];exact ih
  ·simp only[Z130.l0_succ _ qag]
   exact qaD (decide_eq_false (by omega)) qan
  ·refine congrArg (fun b:Bool=>some (⟨o_Z130,(b,())⟩:Dv)) (qaM ⟨fun hh=>List.ext_getElem (by omega) fun j h1 h2=>?_,fun hh j _ _=>by rw[hh]⟩)
   have:=hh j (by omega) h1
   rwa [qaf h1,qaf h2] at this
noncomputable def qdP(c:List Sim)(s:Sim):Int:=qiF (fun x=>pb (x=s)) c
theorem qbb{c:List Sim}{s:Sim}:0≤qdP c s↔s∈c:=by
 unfold qdP
 rw[qbA]
 simp only[qaH]
 exact⟨fun⟨x,h,e⟩=>e ▸ h,fun h=>⟨s,h,rfl⟩⟩
theorem qbY(c:Cpx)(s:Sim)(hc:Sm yK c.1):Ret E n_Z155 [dC c,dL s] ⟨o_Z155,(qdP c.1 s,())⟩:=by
  have hc1:c.1.length≤1048576:=hc.1
  obtain⟨o,h1,h2,h3⟩:=qbM 1 (L:=fun φ n k=>Z155.l0 (mkR (run E (φ 0))) (φ 0) n c s k) (len:=c.1.length) (fun k=>∃ h:k<c.1.length,pb (c.1[k]=s)=true) (fun o=>some ⟨o_Z155,(o2i o,())⟩) (fun _ _ _ _=>rfl) (fun k hk hP=>by
      obtain⟨_,hP⟩:=hP
      simp only[Z155.l0_succ _ qag]
      refine qaB (decide_eq_true (by omega)) (qae (qao hk) (qaa (qcV _ _ (qa7 hc hk).1) (qaB hP qan)))) (fun k q hk hP ih=>by
      simp only[Z155.l0_succ _ qag]
      refine qaB (decide_eq_true (by omega)) (qae (qao hk) (qaa (qcV _ _ (qa7 hc hk).1) (qaD (Bool.eq_false_iff.2 fun h=>hP ⟨hk,h⟩) ?_)))
      rw[qah (by omega)];exact ih) (by
      simp only[Z155.l0_succ _ qag]
      exact qaD (decide_eq_false (by omega)) qan)
  rw[qdb (p:=fun x=>pb (x=s)) h1 h2] at h3
  refine qak ?_
  simp only[run_Z155,Z155.ev]
  exact Ev.start (p:=fun φ n=>Z155.l0 (mkR (run E (φ 0))) (φ 0) n c s 0=_) 1 h3 (fun _ _ _ h=>h)
theorem qqm(n:Nat)(args:List Dv):run E (n+1) n_Z103 args=qnM yI (mkR (run E n)) args:=rfl
theorem qp0(s:Sim)(n:Int)(h0:0≤n)(h1:n≤1048576)(hs:s.length≤1048576):Ret E n_Z103 [dL s,dI n] ⟨o_Z103,(s,())⟩:=by
 refine qak ?_
 simp only[qqm]
 refine qal ((if_pos (show 0≤n∧((List.length s:Int)+n)*(64*(Ty.size (Ty.int IntKind.i64):Int))≤70368744177664 from⟨h0,?_⟩)).trans rfl)
 have:(Ty.size (Ty.int IntKind.i64))=1:=rfl
 rw[this];omega
theorem qnX(ll:List Sim)(hl:ll.length≤1048576)(hf:ll.flatten.length≤1048576):Ret E n_Z91 [dLL ll] ⟨o_Z91,(ll.flatten,())⟩:=by
 have hle:∀ k,(ll.take k).flatten.length≤ll.flatten.length:=fun k=>by
  have:=congrArg List.length (congrArg List.flatten (List.take_append_drop k ll))
  rw[List.flatten_append,List.length_append] at this;omega
 have hst:∀ k (h:k<ll.length),(ll.take (k+1)).flatten=(ll.take k).flatten++ll[k]:=fun k h=>by
  rw[List.take_succ_eq_append_getElem h,List.flatten_append];simp
 refine qak ?_
 simp only[run_Z91,Z91.ev]
 refine Ev.start (p:=fun φ n=>Z91.l0 (mkR (run E (φ 0))) (φ 0) n ll 0 ll (ll.length:Int) 0=_) 1 ?_ (fun _ _ _ h=>h)
 refine qaw 1 (L:=fun φ n k a=>Z91.l0 (mkR (run E (φ 0))) (φ 0) n ll a ll (ll.length:Int) k) (len:=ll.length) (fun k=>(((ll.take k).flatten.length:Nat):Int)) (fun _ _ _ _ _=>rfl) (fun k r hk ih=>?_) ?_
 ·simp only[Z91.l0_succ _ qag]
  have:=hle (k+1)
  have e:=hst k hk
  have e2:w64 (((ll.take k).flatten.length:Nat)+(List.length (ll[k]):Int))=(((ll.take (k+1)).flatten.length:Nat):Int):=by
   rw[qai (by omega) (by rw[e,List.length_append] at this;omega),e,List.length_append];omega
  refine qaB (decide_eq_true (by omega)) (qae (qao hk) ?_)
  show Ev fun φ=>(bif decide (w64 (((ll.take k).flatten.length:Nat)+(List.length (ll[k]):Int))<0) then none else Z91.l0 (mkR (run E (φ 0))) (φ 0) (φ 1) ll (w64 (((ll.take k).flatten.length:Nat)+(List.length (ll[k]):Int))) ll (ll.length:Int) (w64 ((k:Int)+1)))=r
  rw[e2,qah (by omega)]
  exact qaD (decide_eq_false (by omega)) ih
 ·simp only[Z91.l0_succ _ qag]
  refine qaD (decide_eq_false (by omega)) (qaa (qp0 [] _ (by omega) (by have:=hle ll.length;omega) (by simp)) ?_)
  refine Ev.start (p:=fun φ n=>Z91.l1 (mkR (run E (φ 0))) (φ 0) n ll (ll.length:Int) 0 []=_) 2 ?_ (fun _ _ _ h=>h)
  refine qaw 2 (L:=fun φ n k a=>Z91.l1 (mkR (run E (φ 0))) (φ 0) n ll (ll.length:Int) k a) (len:=ll.length) (fun k=>(ll.take k).flatten) (fun _ _ _ _ _=>rfl) (fun k r hk ih=>?_) ?_
  ·simp only[Z91.l1_succ _ qag]
   have:=hle (k+1)
   have e:=hst k hk
   rw[e] at ih this
   rw[List.length_append] at this
   refine qaB (decide_eq_true (by omega)) (qae (qao hk) (qax (decide_eq_true (by show(_+List.length ll[k])*8≤_;omega)) ?_))
   rw[qah (by omega)]
   exact ih
  ·simp only[Z91.l1_succ _ qag]
   refine qaD (decide_eq_false (by omega)) (qal ?_)
   rw[List.take_of_length_le (Nat.le_refl _)]
def qbi(s:Sim):List Sim:=if 1<s.length then(List.range s.length).map (s.eraseIdx ·) else []
theorem qbL{s f:Sim}:f∈qbi s↔1<s.length∧∃ i,i<s.length∧f=s.eraseIdx i:=by
 unfold qbi
 split
 ·rename_i h
  simp only[List.mem_map,List.mem_range,h,true_and]
  exact⟨fun⟨i,h1,h2⟩=>⟨i,h1,h2.symm⟩,fun⟨i,h1,h2⟩=>⟨i,h1,h2.symm⟩⟩
 ·rename_i h
  simp[h]
theorem qii{s f:Sim}(h:f∈qbi s):f.length+1=s.length:=by
 obtain⟨h1,i,h2,rfl⟩:=qbL.1 h
 rw[List.length_eraseIdx,if_pos h2];omega
theorem qcZ{s:Sim}:(qbi s).length≤s.length:=by
 unfold qbi;split<;>simp
theorem qdE(s:Sim)(hs:s.length≤1048576):Ret E n_Z45 [dL s] ⟨o_Z45,(qbi s,())⟩:=by
 refine qak ?_
 simp only[run_Z45,Z45.ev]
 refine Ev.start (p:=fun φ n=>Z45.l0 (mkR (run E (φ 0))) (φ 0) n s (s.length:Int) 0 []=_) 1 ?_ (fun _ _ _ h=>h)
 by_cases h1:1<s.length
 ·refine qaw 1 (L:=fun φ n k a=>Z45.l0 (mkR (run E (φ 0))) (φ 0) n s (s.length:Int) k a) (len:=s.length) (fun k=>(List.range k).map (s.eraseIdx ·)) (fun _ _ _ _ _=>rfl) (fun k r hk ih=>?_) ?_
  ·simp only[Z45.l0_succ _ qag]
   rw[List.range_succ,List.map_append] at ih
   rw[qah (by omega)]
   simp only[Int.toNat_natCast]
   refine qaB (decide_eq_true (by omega)) (qaB (decide_eq_true (by omega)) (qax (by simp;omega) (qax (by simp;omega) (qaa (qnX _ (by simp) (by simp;omega)) (qax (by simp;omega) ?_)))))
   rw[show [s.take k,s.drop (k+1)].flatten=s.eraseIdx k by simp[List.eraseIdx_eq_take_drop_succ]]
   exact ih
  ·simp only[Z45.l0_succ _ qag]
   exact qaD (decide_eq_false (by omega)) (qal (by rw[qbi,if_pos h1]))
 ·refine qaw 1 (L:=fun φ n k a=>Z45.l0 (mkR (run E (φ 0))) (φ 0) n s (s.length:Int) k a) (len:=s.length) (fun k=>[]) (fun _ _ _ _ _=>rfl) (fun k r hk ih=>?_) ?_
  ·simp only[Z45.l0_succ _ qag]
   rw[qah (by omega)]
   exact qaB (decide_eq_true (by omega)) (qaD (decide_eq_false (by omega)) ih)
  ·simp only[Z45.l0_succ _ qag]
   exact qaD (decide_eq_false (by omega)) (qal (by rw[qbi,if_neg h1]))
def Srt(c:List Sim):Prop:=∀ i j (h:j<c.length) (hij:i<j),qcO c[i] c[j]<0
theorem qqY{c:List Sim}(h:∀ k,1≤k→k<c.length→qcO (c.getD (k-1) []) (c.getD k [])<0):Srt c:=by
 intro i j
 induction j with
 | zero=>intro _ h;omega
 | succ j ih =>
  intro hj hij
  have:=h (j+1) (by omega) hj
  rw[Nat.add_sub_cancel,qaf (by omega),qaf hj] at this
  by_cases e:i=j
  ·subst e;exact this
  ·exact qer (ih (by omega) (by omega)) this
theorem Srt.take{c:List Sim}(h:Srt c)(k:Nat):Srt (c.take k):=by
 intro i j hj hij
 rw[List.getElem_take,List.getElem_take]
 exact h i j (by rw[List.length_take] at hj;omega) hij
def bs(c:List Sim)(s:Sim):Nat:=c.findIdx (fun x=>!decide (qcO x s<0))
theorem qr6{c:List Sim}{s:Sim}:bs c s≤c.length:=List.findIdx_le_length
theorem qjP{c:List Sim}{s:Sim}(hc:Srt c){t:Nat}(h:t<c.length):t<bs c s↔qcO c[t] s<0:=by
 constructor
 ·intro ht
  have:=List.not_of_lt_findIdx ht
  simpa using this
 ·intro ht
  refine Classical.byContradiction fun hn=>?_
  have hb:bs c s<c.length:=by omega
  have h1:qcO c[bs c s] s<0:=by
   by_cases e:bs c s=t
   ·simp only[e];exact ht
   ·exact qer (hc _ _ h (by omega)) ht
  have:=List.findIdx_getElem (w:=hb)
  simp only[Bool.not_eq_true',decide_eq_false_iff_not] at this
  exact this h1
theorem qoJ{c:List Sim}{s:Sim}(hc:Srt c):qdP c s=if h:bs c s<c.length∧c.getD (bs c s) []=s then(bs c s:Int) else -1:=by
 have e:c.findIdx? (fun x=>pb (x=s))=if bs c s<c.length∧c.getD (bs c s) []=s then some (bs c s) else none:=by
  split
  ·rename_i h
   obtain⟨h1,h2⟩:=h
   rw[List.findIdx?_eq_some_iff_getElem]
   rw[qaf h1] at h2
   refine⟨h1,qay h2,fun j hj=>?_⟩
   rw[qaH]
   intro he
   have:=(qjP (s:=s) hc (show j<c.length by omega)).1 hj
   rw[he,qcc.2 rfl] at this
   omega
  ·rename_i h
   rw[List.findIdx?_eq_none_iff]
   intro x hx
   rw[qbh]
   rintro rfl
   obtain⟨j,hj,rfl⟩:=List.mem_iff_getElem.1 hx
   have h0:¬ j<bs c c[j]:=fun hlt=>by
    have:=(qjP hc hj).1 hlt
    rw[qcc.2 rfl] at this;omega
   by_cases hjb:bs c c[j]=j
   ·exact h ⟨by omega,by rw[hjb,qaf hj]⟩
   ·have hb:bs c c[j]<c.length:=by omega
    have:=(qjP (s:=c[j]) hc hb).2 (hc _ _ hj (by omega))
    omega
 unfold qdP qiF
 rw[e]
 split<;>rfl
theorem qgM(c:List Sim)(s:Sim)(hc:Sm yK c)(hs:Srt c):Ret E n_Z86 [dLL c,dL s,⟨.fn n_Z39 .nil,()⟩] ⟨o_Z86,((bs c s:Int),pb (bs c s<c.length∧c.getD (bs c s) []=s),())⟩:=by
 have hc1:c.length≤1048576:=hc.1
 refine qak ?_
 simp only[run_Z86,Z87.ev]
 refine Ev.start (p:=fun φ n=>Z87.l0 (mkR (run E (φ 0))) (φ 0) n c s (c.length:Int) 0 (c.length:Int)=_) 1 ?_ (fun _ _ _ h=>h)
 refine qfL 1 (σ:=Nat×Nat) (L:=fun φ n st=>Z87.l0 (mkR (run E (φ 0))) (φ 0) n c s (c.length:Int) (st.1:Int) (st.2:Int)) (fun _ _ _ _=>rfl) (fun st=>st.1≤bs c s∧bs c s≤st.2∧st.2≤c.length) (fun _=>_) (fun st=>st.2-st.1) (fun st hi ih=>?_) (0,c.length) ⟨Nat.zero_le _,qr6,Nat.le_refl _⟩
 obtain⟨i,j⟩:=st
 obtain⟨h1,h2,h3⟩:=hi
 simp only at h1 h2 h3 ih
 simp only[Z87.l0_succ _ qag]
 rw[qtc (by omega)]
 refine qeE (fun hij=>?_) fun hij=>?_
 ·have hh:(i+j) / 2<c.length:=by omega
  refine qax (by decide) (qae (qao hh) (qaa (qaW _ _ (qa7 hc hh)) (qeE (fun hlt=>?_) fun hlt=>?_)))
  ·rw[qah (by omega)]
   have:=(qjP hs hh).2 hlt
   exact ih ((i+j) / 2+1,j) ⟨this,h2,h3⟩ (by simp only;omega)
  ·have:¬ (i+j) / 2<bs c s:=fun h=>hlt ((qjP hs hh).1 h)
   exact ih (i,(i+j) / 2) ⟨h1,by simp only;omega,by simp only;omega⟩ (by simp only;omega)
 ·have e:i=bs c s:=by omega
  subst e
  refine qeE (fun hl=>?_) fun hl=>qal ?_
  ·have hh:bs c s<c.length:=by omega
   refine qae (qao hh) (qaa (qaW _ _ (qa7 hc hh)) (qal ?_))
   have:(qcO c[bs c s] s==0)=pb (bs c s<c.length∧c.getD (bs c s) []=s):=qhG (by
    rw[qaf hh,beq_iff_eq,qcc];exact⟨fun h=>⟨hh,h⟩,fun h=>h.2⟩)
   rw[this]
  ·rw[qaq fun h=>hl (by omega)]
theorem qhB(c:List Sim)(s:Sim)(hc:Sm yK c)(hs:Srt c):Ret E n_Z53 [dLL c,dL s] ⟨o_Z53,(qdP c s,())⟩:=by
 refine qak ?_
 simp only[run_Z53,Z53.ev]
 refine qaa (qgM c s hc hs) (qcs (fun h=>qal ?_) fun h=>qal ?_)
 ·rw[qoJ hs,dif_neg (qbh.1 (by simpa using h))]
 ·rw[qoJ hs,dif_pos (qaH.1 (by simpa using h))]
end VeT
open Go Go.Proofs Ve
namespace VeT
def VC(c:List Sim):Prop:=c.length≤48∧(∀ k,k<c.length→Vx (c.getD k []))∧(∀ k,1≤k→k<c.length→qcO (c.getD (k-1) []) (c.getD k [])<0)∧∀ k,k<c.length→∀ f∈qbi (c.getD k []),f∈c
theorem VC.srt{c:List Sim}(h:VC c):Srt c:=qqY h.2.2.1
def qlZ(c:List Sim)(k:Nat):Prop:=(Vx (c.getD k [])∧(1≤k→qcO (c.getD (k-1) []) (c.getD k [])<0))∧∀ f∈qbi (c.getD k []),f∈c.take k
theorem qrE{c:List Sim}:((∀ k,0≤k→k<c.length→qlZ c k)∧c.length≤48)↔VC c:=by
 constructor
 ·rintro⟨h,hl⟩
  exact⟨hl,fun k hk=>(h k (by omega) hk).1.1,fun k h1 hk=>(h k (by omega) hk).1.2 h1,fun k hk f hf=>List.mem_of_mem_take ((h k (by omega) hk).2 f hf)⟩
 ·intro h
  have hs:=h.srt
  obtain⟨hl,h1,h2,h3⟩:=h
  refine⟨fun k _ hk=>⟨⟨h1 k hk,fun hk1=>h2 k hk1 hk⟩,fun f hf=>?_⟩,hl⟩
  have hm:=h3 k hk f hf
  have hlen:=qii hf
  rw[qaf hk] at hlen
  obtain⟨i,hi,rfl⟩:=List.mem_iff_getElem.1 hm
  have hlt:qcO c[i] c[k]<0:=qhL.2 (.inl (by omega))
  have hik:i<k:=Classical.byContradiction fun hn=>by
   by_cases e:i=k
   ·subst e;omega
   ·have:=hs k i hi (by omega)
    rw[qj3] at this;omega
  exact List.mem_iff_getElem.2 ⟨i,by rw[List.length_take];omega,by rw[List.getElem_take]⟩
theorem qrf{t:Ty}{s:List t.T}(h:Sm (.sl t) s)(k:Nat):Sm (.sl t) (s.take k):=⟨by have h1:s.length≤1048576:=h.1;show(s.take k).length≤_;rw[List.length_take];omega,fun x hx=>h.2 x (List.mem_of_mem_take hx)⟩
theorem qfn(c:List Sim)(f:Sim)(k:Nat)(hk:k≤c.length)(hc:Sm yK c)(hs:Srt (c.take k)) :
  Ret E n_Z25 [dL f,dC (c,()),⟨.ptr (.cons yI .nil),((k:Int),())⟩] ⟨o_Z25,(pb (¬ f∈c.take k),())⟩:=by
 refine qak ?_
 simp only[run_Z25,Z25.ev]
 simp only[Int.toNat_natCast]
 refine qax (by simp;omega) (qaa (qhB _ f (qrf hc k) hs) (qal ?_))
 simp only[qdM,qaM (show qdP (c.take k) f<0↔¬ f∈c.take k by rw[← qbb];omega)]
theorem qdL(c:List Sim)(hc:Sm yK c):Ret E n_Z24 [dLL c] ⟨o_Z24,(pb (VC c),())⟩:=by
  have hc1:c.length≤1048576:=hc.1
  refine qak ?_
  simp only[run_Z24,Z24.ev]
  refine Ev.start (p:=fun φ n=>Z24.l0 (mkR (run E (φ 0))) (φ 0) n c (c.length:Int) 0 c=_) 1 ?_ (fun _ _ _ h=>h)
  have key:∀(n:Nat) (k:Nat) (hk:k<c.length) (hpre:∀ j,0≤j→j<k→qlZ c j),Srt (c.take k):=fun n k hk hpre=>qqY fun j h1 h2=>by
    rw[List.length_take] at h2
    have:=(hpre j (by omega) (by omega)).1.2 h1
    rw[qaf (by omega),qaf (by omega)] at this
    rw[qaf (by rw[List.length_take];omega),qaf (by rw[List.length_take];omega),List.getElem_take,List.getElem_take]
    exact this
  have hcon:∀(k:Nat) (hk:k<c.length) (hpre:∀ j,0≤j→j<k→qlZ c j),Ret E n_Z92 [dLL (qbi c[k]),⟨.fn n_Z25 (.cons (.ptr yC) (.cons (.ptr (.cons yI .nil)) .nil)),((c,()),((k:Int),()),())⟩] ⟨o_Z92,(pb (∃ x∈qbi c[k],pb (¬ x∈c.take k)=true),())⟩:=fun k hk hpre =>
    qa1 (qbi c[k]) ((c,()),((k:Int),()),()) _ (Nat.le_trans qcZ (qa7 hc hk).1) fun x hx=>qfn c x k (by omega) hc (key 0 k hk hpre)
  refine(qdY 1 (L:=fun φ n k=>Z24.l0 (mkR (run E (φ 0))) (φ 0) n c (c.length:Int) k c) (len:=c.length) 0 (by omega) (qlZ c) (fun b=>some ⟨o_Z24,(b&&decide ((c.length:Int)≤48),())⟩) (fun _ _ _ _=>rfl) (fun k h1 h2 hP hpre=>?_) (fun k r h1 h2 hP hpre ih=>?_) (fun _=>?_)).to ?_
  · simp only[Z24.l0_succ _ qag]
    refine qaB (decide_eq_true (by omega)) (qae (qao h2) (qaa (qcq _ (qa7 hc h2)) ?_))
    refine qcs (fun hv=>?_) fun hv=>?_
    · simp only[Z24.j1_eq _ qag,cond_true];(first | exact qan | exact Ev.of fun _=>trivial)
    · have hv:Vx c[k]:=qaH.1 (by simpa using hv)
      have last:(1≤k→qcO (c.getD (k-1) []) (c.getD k [])<0)→Ev fun φ=>Z24.j1 (mkR (run E (φ 0))) (φ 0) (φ 1) c[k] c (c.length:Int) (k:Int) false c (k:Int)=some ⟨o_Z24,(false,())⟩:=fun hcm=>by
        simp only[Z24.j1_eq _ qag,cond_false]
        refine qaa (qdE _ (qa7 hc h2).1) (qaa (hcon k h2 hpre) (qaB ?_ qan))
        refine qay (Classical.byContradiction fun hn=>hP ⟨⟨by rw[qaf h2];exact hv,hcm⟩,fun f hf=>Classical.byContradiction fun hnf=>hn ⟨f,by rw[qaf h2] at hf;exact hf,qay hnf⟩⟩)
      refine qeE (fun hk=>?_) fun hk=>?_
      · rw[qai (by omega) (by omega),show((k:Int)-1)=((k-1:Nat):Int) by omega]
        have hk1:k-1<c.length:=by omega
        refine qae (qao hk1) (qaa (qaW _ _ (qa7 hc hk1)) ?_)
        by_cases hcm:qcO c[k-1] c[k]<0
        · simp only[show decide (qcO c[k-1] c[k]≥0)=false from decide_eq_false (by omega)]
          exact last fun _=>by rw[qaf hk1,qaf h2];exact hcm
        · simp only[show decide (qcO c[k-1] c[k]≥0)=true from decide_eq_true (by omega),Z24.j1_eq _ qag,cond_true]
          (first | exact qan | exact Ev.of fun _=>trivial)
      · exact last fun h=>absurd h (by omega)
  · simp only[Z24.l0_succ _ qag]
    have hP':=hP
    obtain⟨⟨hv,hcm⟩,hfc⟩:=hP'
    rw[qaf h2] at hv hfc
    refine qaB (decide_eq_true (by omega)) (qae (qao h2) (qaa (qcq _ (qa7 hc h2)) (qaD (by rw[qay hv];rfl) ?_)))
    have last:Ev fun φ=>Z24.j1 (mkR (run E (φ 0))) (φ 0) (φ 1) c[k] c (c.length:Int) (k:Int) false c (k:Int)=r:=by
      simp only[Z24.j1_eq _ qag,cond_false]
      refine qaa (qdE _ (qa7 hc h2).1) (qaa (hcon k h2 hpre) (qaD ?_ ?_))
      · exact qaq fun⟨x,hx,hn⟩=>qaH.1 hn (hfc x hx)
      · rw[qah (by omega)];exact ih
    refine qeE (fun hk=>?_) fun hk=>last
    rw[qai (by omega) (by omega),show((k:Int)-1)=((k-1:Nat):Int) by omega]
    have hk1:k-1<c.length:=by omega
    have hcm:=hcm (by omega)
    rw[qaf hk1,qaf h2] at hcm
    refine qae (qao hk1) (qaa (qaW _ _ (qa7 hc hk1)) ?_)
    simp only[show decide (qcO c[k-1] c[k]≥0)=false from decide_eq_false (by omega)]
    exact last
  · simp only[Z24.l0_succ _ qag]
    exact qaD (decide_eq_false (by omega)) (qal (by rw[Bool.true_and]))
  · have:(pb (∀ j,0≤j→j<c.length→qlZ c j)&&decide ((c.length:Int)≤48))=pb (VC c):=qhG (by
      rw[Bool.and_eq_true,qaH,decide_eq_true_iff,← qrE]
      exact⟨fun h=>⟨h.1,by omega⟩,fun h=>⟨h.1,by omega⟩⟩)
    rw[this]
def qqX(c:List Sim)(k:Nat):Prop:=(Vx (c.getD k [])∧(1≤k→qcO (c.getD (k-1) []) (c.getD k [])<0))∧∀ f∈qbi (c.getD k []),f∈c
theorem qpB(c:Cpx)(hc:Sm yK c.1):Ret E n_Z156 [dC c] ⟨o_Z156,(pb (VC c.1),())⟩:=by
  have hc1:c.1.length≤1048576:=hc.1
  refine qak ?_
  simp only[run_Z156,Z156.ev]
  refine qeE (fun h=>qal ?_) fun h48=>?_
  · rw[qaq fun hv=>by have:=hv.1;omega]
  refine Ev.start (p:=fun φ n=>Z156.l0 (mkR (run E (φ 0))) (φ 0) n c 0=_) 1 ?_ (fun _ _ _ h=>h)
  -- the inner loop
  have inner:∀(k:Nat) (h2:k<c.1.length) (r:Option Dv),((∀ f∈qbi c.1[k],f∈c.1)→Ev fun φ=>Z156.l0 (mkR (run E (φ 0))) (φ 0) (φ 1) c ((k+1:Nat):Int)=r)→(¬ (∀ f∈qbi c.1[k],f∈c.1)→r=some ⟨o_Z156,(false,())⟩)→Ev fun φ=>Z156.l2 (mkR (run E (φ 0))) (φ 0) (φ 1) (φ 0) c (k:Int) c.1[k] 0=r:=fun k h2 r hgo hstop=>by
    have hks:(c.1[k]).length≤1048576:=(qa7 hc h2).1
    refine Ev.start (p:=fun φ n=>Z156.l2 (mkR (run E (φ 0))) (φ 0) (φ 1) n c (k:Int) c.1[k] 0=_) 2 ?_ (fun _ _ _ h=>h)
    by_cases hlen:1<(c.1[k]).length
    · obtain⟨t,f⟩:=qnw 2 (L:=fun φ n i=>Z156.l2 (mkR (run E (φ 0))) (φ 0) (φ 1) n c (k:Int) c.1[k] i) (len:=(c.1[k]).length) 0 (by omega) (fun i=>(c.1[k]).eraseIdx i∈c.1) (rt:=r) (rf:=some ⟨o_Z156,(false,())⟩) (fun _ _ _ _=>rfl) (fun i _ hi hP _=>by
        simp only[Z156.l2_succ _ qag]
        refine qaB (decide_eq_true (by omega)) ?_
        simp only[show decide (((c.1[k]).length:Int)>1)=true from decide_eq_true (by omega),Z156.j3_eq _ qag,cond_true]
        refine qaa (qdw _ i hi hks) (qaa (qbY c _ hc) (qaB (decide_eq_true ?_) qan))
        have hq:=mt (qbb (c:=c.1) (s:=(c.1[k]).eraseIdx i)).1 hP;simp only;exact Int.not_le.1 hq) (fun i q _ hi hP _ ih=>by
        simp only[Z156.l2_succ _ qag]
        refine qaB (decide_eq_true (by omega)) ?_
        simp only[show decide (((c.1[k]).length:Int)>1)=true from decide_eq_true (by omega),Z156.j3_eq _ qag,cond_true]
        refine qaa (qdw _ i hi hks) (qaa (qbY c _ hc) (qaD (decide_eq_false ?_) ?_))
        · have hq:=(qbb (c:=c.1) (s:=(c.1[k]).eraseIdx i)).2 hP;simp only;exact Int.not_lt.2 hq
        · rw[qah (by omega)];exact ih) (fun hall=>by
        simp only[Z156.l2_succ _ qag]
        refine qaD (decide_eq_false (by omega)) ?_
        simp only[Z156.j3_eq _ qag,cond_false]
        rw[qah (by omega)]
        exact hgo fun f hf=>by
          obtain⟨_,i,hi,rfl⟩:=qbL.1 hf
          exact hall i (by omega) hi)
      by_cases hall:∀ i,0≤i→i<(c.1[k]).length→(c.1[k]).eraseIdx i∈c.1
      · exact t hall
      · rw[hstop fun hf=>hall fun i _ hi=>hf _ (qbL.2 ⟨hlen,i,hi,rfl⟩)]
        exact f hall
    · refine Ev.round 2 (L:=fun φ n=>Z156.l2 (mkR (run E (φ 0))) (φ 0) (φ 1) n c (k:Int) c.1[k] 0) ?_ (fun _ _ _=>rfl)
      have hgo:=hgo fun f hf=>absurd (qbL.1 hf).1 hlen
      have hj:Ev fun φ=>Z156.j3 (mkR (run E (φ 0))) (φ 0) (φ 1) (φ 2) c (k:Int) c.1[k] 0 false=r:=by
        simp only[Z156.j3_eq _ qag,cond_false]
        rw[qah (by omega)];exact hgo
      simp only[Z156.l2_succ _ qag]
      refine qeE (fun _=>?_) fun _=>hj
      simp only[show decide (((c.1[k]).length:Int)>1)=false from decide_eq_false (by omega)]
      exact hj
  refine(qdY 1 (L:=fun φ n k=>Z156.l0 (mkR (run E (φ 0))) (φ 0) n c k) (len:=c.1.length) 0 (by omega) (qqX c.1) (fun b=>some ⟨o_Z156,(b,())⟩) (fun _ _ _ _=>rfl) (fun k h1 h2 hP hpre=>?_) (fun k r h1 h2 hP hpre ih=>?_) (fun _=>?_)).to ?_
  · simp only[Z156.l0_succ _ qag]
    refine qaB (decide_eq_true (by omega)) (qae (qao h2) (qaa (qeI _ (qa7 hc h2)) ?_))
    refine qcs (fun hv=>?_) fun hv=>?_
    · simp only[Z156.j1_eq _ qag,cond_true];(first | exact qan | exact Ev.of fun _=>trivial)
    · have hv:Vx c.1[k]:=qaH.1 (by simpa using hv)
      have last:(1≤k→qcO (c.1.getD (k-1) []) (c.1.getD k [])<0)→Ev fun φ=>Z156.j1 (mkR (run E (φ 0))) (φ 0) (φ 1) c (k:Int) c.1[k] false=some ⟨o_Z156,(false,())⟩:=fun hcm=>by
        simp only[Z156.j1_eq _ qag,cond_false]
        refine inner k h2 _ (fun hf=>absurd ⟨⟨by rw[qaf h2];exact hv,hcm⟩,by rw[qaf h2];exact hf⟩ hP) fun _=>rfl
      refine qeE (fun hk=>?_) fun hk=>?_
      · rw[qai (by omega) (by omega),show((k:Int)-1)=((k-1:Nat):Int) by omega]
        have hk1:k-1<c.1.length:=by omega
        refine qae (qao hk1) (qaa (qcw _ _ (qa7 hc hk1)) ?_)
        by_cases hcm:qcO c.1[k-1] c.1[k]<0
        · simp only[qay hcm]
          exact last fun _=>by rw[qaf hk1,qaf h2];exact hcm
        · simp only[qaq hcm,Z156.j1_eq _ qag,cond_true,Bool.not_false]
          (first | exact qan | exact Ev.of fun _=>trivial)
      · exact last fun h=>absurd h (by omega)
  · simp only[Z156.l0_succ _ qag]
    obtain⟨⟨hv,hcm⟩,hfc⟩:=hP
    rw[qaf h2] at hv hfc
    refine qaB (decide_eq_true (by omega)) (qae (qao h2) (qaa (qeI _ (qa7 hc h2)) (qaD (by rw[qay hv];rfl) ?_)))
    have last:Ev fun φ=>Z156.j1 (mkR (run E (φ 0))) (φ 0) (φ 1) c (k:Int) c.1[k] false=r:=by
      simp only[Z156.j1_eq _ qag,cond_false]
      exact inner k h2 _ (fun _=>ih) fun hn=>absurd hfc hn
    refine qeE (fun hk=>?_) fun hk=>last
    rw[qai (by omega) (by omega),show((k:Int)-1)=((k-1:Nat):Int) by omega]
    have hk1:k-1<c.1.length:=by omega
    have hcm:=hcm (by omega)
    rw[qaf hk1,qaf h2] at hcm
    refine qae (qao hk1) (qaa (qcw _ _ (qa7 hc hk1)) ?_)
    simp only[qay hcm,Bool.not_true]
    exact last
  · simp only[Z156.l0_succ _ qag]
    exact qaD (decide_eq_false (by omega)) qan
  · have:pb (∀ j,0≤j→j<c.1.length→qqX c.1 j)=pb (VC c.1):=qaM
      ⟨fun h=>⟨by omega,fun k hk=>(h k (by omega) hk).1.1,fun k h1 hk=>(h k (by omega) hk).1.2 h1,fun k hk=>(h k (by omega) hk).2⟩,
       fun h k _ hk=>⟨⟨h.2.1 k hk,fun h1=>h.2.2.1 k h1 hk⟩,h.2.2.2 k hk⟩⟩
    rw[this]
end VeT
open Go Go.Proofs Ve
namespace VeT
def Pr(p:Int):Prop:=2≤p∧p≤251∧∀ k:Nat,2≤k→(k:Int)*k≤p→p%k≠0
theorem qeK(p:Int):Ret E n_Z27 [dI p] ⟨o_Z27,(pb (Pr p),())⟩:=by
  refine qak ?_
  simp only[run_Z27,Z27.ev]
  refine qaa (qbQ _ _ _) (qcs (fun h=>qal ?_) fun h=>?_)
  · have h:¬ (2≤p∧p≤251):=qbh.1 (by simpa using h)
    rw[qaq fun hp=>h ⟨hp.1,hp.2.1⟩]
  have hr:2≤p∧p≤251:=qaH.1 (by simpa using h)
  refine Ev.start (p:=fun φ n=>Z27.l0 (mkR (run E (φ 0))) (φ 0) n p 2=_) 1 ?_ (fun _ _ _ h=>h)
  refine qfL 1 (σ:=Nat) (L:=fun φ n k=>Z27.l0 (mkR (run E (φ 0))) (φ 0) n p (k:Int)) (fun _ _ _ _=>rfl) (fun k=>2≤k∧k≤17∧∀ j:Nat,2≤j→j<k→(j:Int)*j≤p→p%j≠0) (fun _=>_) (fun k=>17-k) (fun k ⟨h1,h2,h3⟩ ih=>?_) 2 ⟨by omega,by omega,fun j _ _=>by omega⟩
  simp only[Z27.l0_succ _ qag]
  have hkk:0≤(k:Int)*k∧(k:Int)*k≤289:=⟨Int.mul_nonneg (by omega) (by omega),by have:=Nat.mul_le_mul h2 h2;omega⟩
  have e:w64 ((k:Int)*k)=(k:Int)*k:=qai (by omega) (by omega)
  simp only[e]
  refine qeE (fun hle=>?_) fun hle=>qal ?_
  · have hk16:k<16:=Classical.byContradiction fun hn=>by
      have:=Nat.mul_le_mul (show 16≤k by omega) (show 16≤k by omega);omega
    refine qax (by simp;omega) ?_
    rw[Int.tmod_eq_emod_of_nonneg (by omega)]
    refine qcs (fun h0=>qal ?_) fun h0=>?_
    · rw[qaq fun hp=>hp.2.2 k h1 hle (by simpa using h0)]
    · rw[qah (by omega)]
      refine ih (k+1) ⟨by omega,by omega,fun j hj1 hj2 hj3=>?_⟩ (by show 17-(k+1)<17-k;omega)
      by_cases hjk:j=k
      · subst hjk;simpa using h0
      · exact h3 j hj1 (by omega) hj3
  · rw[qay]
    refine⟨hr.1,hr.2,fun j hj1 hj2=>?_⟩
    by_cases hjk:j<k
    · exact h3 j hj1 hjk hj2
    · exfalso
      have:=Nat.mul_le_mul (show k≤j by omega) (show k≤j by omega);omega
theorem qkO(p:Int):Ret E n_Z135 [dI p] ⟨o_Z135,(pb (Pr p),())⟩:=by
  refine qak ?_
  simp only[run_Z135,Z135.ev]
  refine qaa (qb9 _ _ _) (qcs (fun h=>qal ?_) fun h=>?_)
  · have h:¬ (2≤p∧p≤251):=qbh.1 (by simpa using h)
    rw[qaq fun hp=>h ⟨hp.1,hp.2.1⟩]
  have hr:2≤p∧p≤251:=qaH.1 (by simpa using h)
  refine Ev.start (p:=fun φ n=>Z135.l0 (mkR (run E (φ 0))) (φ 0) n p 2=_) 1 ?_ (fun _ _ _ h=>h)
  refine qfL 1 (σ:=Nat) (L:=fun φ n k=>Z135.l0 (mkR (run E (φ 0))) (φ 0) n p (k:Int)) (fun _ _ _ _=>rfl) (fun k=>2≤k∧k≤17∧∀ j:Nat,2≤j→j<k→(j:Int)*j≤p→p%j≠0) (fun _=>_) (fun k=>17-k) (fun k ⟨h1,h2,h3⟩ ih=>?_) 2 ⟨by omega,by omega,fun j _ _=>by omega⟩
  simp only[Z135.l0_succ _ qag]
  have hkk:0≤(k:Int)*k∧(k:Int)*k≤289:=⟨Int.mul_nonneg (by omega) (by omega),by have:=Nat.mul_le_mul h2 h2;omega⟩
  have e:w64 ((k:Int)*k)=(k:Int)*k:=qai (by omega) (by omega)
  simp only[e]
  refine qeE (fun hle=>?_) fun hle=>qal ?_
  · have hk16:k<16:=Classical.byContradiction fun hn=>by
      have:=Nat.mul_le_mul (show 16≤k by omega) (show 16≤k by omega);omega
    refine qax (by simp;omega) ?_
    rw[Int.tmod_eq_emod_of_nonneg (by omega)]
    refine qcs (fun h0=>qal ?_) fun h0=>?_
    · rw[qaq fun hp=>hp.2.2 k h1 hle (by simpa using h0)]
    · rw[qah (by omega)]
      refine ih (k+1) ⟨by omega,by omega,fun j hj1 hj2 hj3=>?_⟩ (by show 17-(k+1)<17-k;omega)
      by_cases hjk:j=k
      · subst hjk;simpa using h0
      · exact h3 j hj1 (by omega) hj3
  · rw[qay]
    refine⟨hr.1,hr.2,fun j hj1 hj2=>?_⟩
    by_cases hjk:j<k
    · exact h3 j hj1 hjk hj2
    · exfalso
      have:=Nat.mul_le_mul (show k≤j by omega) (show k≤j by omega);omega
theorem qfi(p:Int):Ret E n_Z123 [dI p] ⟨o_Z123,(pb (Pr p),())⟩:=by
 refine qak ?_
 simp only[run_Z123,Z123.ev]
 exact qaa (qkO p) qan
def qaT(v:Sim)(p:Int):Prop:=∀ x∈v,0≤x∧x≤p-1
theorem qkp(a p:Int)(hp:0≤p∧p≤1048576):Ret E n_Z56 [dI a,dI p] ⟨o_Z56,(pb (0≤a∧a≤p-1),())⟩:=by
 refine qak ?_
 simp only[run_Z56,Z56.ev]
 rw[qai (by omega) (by omega)]
 exact qaa (qbQ _ _ _) qan
theorem qf9(a p:Int)(hp:0≤p∧p≤1048576):Ret E n_Z33 [dI a,⟨.ptr (.cons yI .nil),(p,())⟩] ⟨o_Z33,(!pb (0≤a∧a≤p-1),())⟩:=by
 refine qak ?_
 simp only[run_Z33,Z33.ev]
 exact qaa (qkp _ _ hp) qan
theorem qkE{α:Type}{s:List α}{P:α→Prop}:(!pb (∃ x∈s,(!pb (P x))=true))=pb (∀ x∈s,P x):=qhG (by
 simp only[Bool.not_eq_true',qbh]
 exact⟨fun h x hx=>Classical.byContradiction fun hn=>h ⟨x,hx,hn⟩,fun h ⟨x,hx,hn⟩=>hn (h x hx)⟩)
theorem qh5(v:Sim)(p:Int)(hv:v.length≤1048576)(hp:0≤p∧p≤1048576):Ret E n_Z32 [dL v,dI p] ⟨o_Z32,(pb (qaT v p),())⟩:=by
 refine qak ?_
 simp only[run_Z32,Z32.ev]
 refine qaa (qbg v ((p,()),()) _ hv fun x _=>qf9 x p hp) (qal ?_)
 simp only[qkE];rfl
theorem qjU(v:Sim)(n p:Int)(hv:v.length≤1048576)(hp:0≤p∧p≤1048576):Ret E n_Z137 [dL v,dI n,dI p] ⟨o_Z137,(pb (qaT v p∧(v.length:Int)=n),())⟩:=by
  have e:w64 (p-1)=p-1:=qai (by omega) (by omega)
  refine qak ?_
  simp only[run_Z137,Z137.ev]
  refine Ev.start (p:=fun φ n'=>Z137.l0 (mkR (run E (φ 0))) (φ 0) n' v n p 0=_) 1 ?_ (fun _ _ _ h=>h)
  refine(qdY 1 (L:=fun φ n' k=>Z137.l0 (mkR (run E (φ 0))) (φ 0) n' v n p k) (len:=v.length) 0 (by omega) (fun j=>0≤v.getD j 0∧v.getD j 0≤p-1) (fun b=>some ⟨o_Z137,(b&&((v.length:Int)==n),())⟩) (fun _ _ _ _=>rfl) (fun k h1 h2 hP _=>?_) (fun k r h1 h2 hP _ ih=>?_) (fun _=>?_)).to ?_
  · simp only[Z137.l0_succ _ qag,e]
    rw[qaf h2] at hP
    exact qaB (decide_eq_true (by omega)) (qae (qao h2) (qaa (qb9 _ _ _) (qaB (by rw[qaq hP];rfl) qan)))
  · simp only[Z137.l0_succ _ qag,e]
    rw[qaf h2] at hP
    refine qaB (decide_eq_true (by omega)) (qae (qao h2) (qaa (qb9 _ _ _) (qaD (by rw[qay hP];rfl) ?_)))
    rw[qah (by omega)];exact ih
  · simp only[Z137.l0_succ _ qag]
    exact qaD (decide_eq_false (by omega)) (qal (by rw[Bool.true_and]))
  · have:(pb (∀ j,0≤j→j<v.length→0≤v.getD j 0∧v.getD j 0≤p-1)&&((v.length:Int)==n))=pb (qaT v p∧(v.length:Int)=n):=qhG (by
      rw[Bool.and_eq_true,qaH,beq_iff_eq]
      refine and_congr_left' ⟨fun h x hx=>?_,fun h j _ hj=>?_⟩
      · obtain⟨j,hj,rfl⟩:=List.mem_iff_getElem.1 hx
        have:=h j (by omega) hj
        rwa [qaf hj] at this
      · rw[qaf hj];exact h _ (List.getElem_mem hj))
    rw[this]
theorem qjo(n:Int):Ret E n_Z61 [dI n] ⟨o_Z61,(pb (0≤n∧n≤32),())⟩:=by
 refine qak ?_
 simp only[run_Z61,Z61.ev]
 exact qaa (qbQ _ _ _) qan
theorem qfB(s:Sim):Ret E n_Z74 [dL s] ⟨o_Z74,((s.length:Int),())⟩:=by
 refine qak ?_
 simp only[run_Z74,Z74.ev]
 (first | exact qan | exact Ev.of fun _=>trivial)
theorem qhM(s:List Sim):Ret E n_Z73 [dLL s] ⟨o_Z73,((s.length:Int),())⟩:=by
 refine qak ?_
 simp only[run_Z73,Z73.ev]
 (first | exact qan | exact Ev.of fun _=>trivial)
def VM(m:Mat):Prop:=Pr m.1∧(0≤m.2.1∧m.2.1≤32)∧(0≤m.2.2.1∧m.2.2.1≤32)∧(m.2.2.2.1.length:Int)=m.2.1*m.2.2.1∧qaT m.2.2.2.1 m.1
theorem qfw{a b:Int}(ha:0≤a∧a≤32)(hb:0≤b∧b≤32):0≤a*b∧a*b≤1024:=by
 obtain⟨x,rfl⟩:=Int.eq_ofNat_of_zero_le ha.1
 obtain⟨y,rfl⟩:=Int.eq_ofNat_of_zero_le hb.1
 have:=Nat.mul_le_mul (show x≤32 by omega) (show y≤32 by omega)
 have e:(x:Int)*y=((x*y:Nat):Int):=by simp
 show 0≤(x:Int)*y∧(x:Int)*y≤1024
 rw[e];omega
theorem qd3(m:Mat)(hm:Sm (.st cM) m):Ret E n_Z26 [dI m.1,dI m.2.1,dI m.2.2.1,dL m.2.2.2.1] ⟨o_Z26,(pb (VM m),())⟩:=by
 have hl:m.2.2.2.1.length≤1048576:=hm.2.2.2.1.1
 refine qak ?_
 simp only[run_Z26,Z26.ev]
 refine qaa (qeK _) (qcs (fun h1=>qaa (qjo _) (qcs (fun h2=>qaa (qjo _) (qcs (fun h3=>qaa (qfB _) (qcs (fun h4=>?_) fun h4=>qal ?_)) fun h3=>qal ?_)) fun h2=>qal ?_)) fun h1=>qal ?_)
 ·have h1:=qaH.1 h1;have h2:=qaH.1 h2;have h3:=qaH.1 h3
  have:=qfw h2 h3
  rw[qai (by omega) (by omega)] at h4
  refine qaa (qh5 _ _ hl ⟨by have:=h1.1;omega,by have:=h1.2.1;omega⟩) (qal ?_)
  exact congrArg (fun b:Bool=>some (⟨o_Z26,(b,())⟩:Dv)) (qaM ⟨fun h=>⟨h1,h2,h3,by simpa using h4,h⟩,fun h=>h.2.2.2.2⟩)
 ·have h2:=qaH.1 h2;have h3:=qaH.1 h3
  have:=qfw h2 h3
  rw[qai (by omega) (by omega)] at h4
  rw[qaq fun h=>by have:=h.2.2.2.1;simp[this] at h4]
 ·rw[qaq fun h=>qbh.1 h3 h.2.2.1]
 ·rw[qaq fun h=>qbh.1 h2 h.2.1]
 ·rw[qaq fun h=>qbh.1 h1 h.1]
theorem qid(m:Mat)(hm:Sm (.st cM) m):Ret E n_Z142 [dM m] ⟨o_Z142,(pb (VM m),())⟩:=by
 have hl:m.2.2.2.1.length≤1048576:=hm.2.2.2.1.1
 refine qak ?_
 simp only[run_Z142,Z142.ev]
 refine qaa (qfi _) (qcs (fun h1=>qaa (qb9 _ _ _) (qcs (fun h2=>qaa (qb9 _ _ _) (qcs (fun h3=>?_) fun h3=>qal ?_)) fun h2=>qal ?_)) fun h1=>qal ?_)
 ·have h1:=qaH.1 h1;have h2:=qaH.1 h2;have h3:=qaH.1 h3
  have:=qfw h2 h3
  rw[qai (by omega) (by omega)]
  refine qaa (qjU _ _ _ hl ⟨by have:=h1.1;omega,by have:=h1.2.1;omega⟩) (qal ?_)
  exact congrArg (fun b:Bool=>some (⟨o_Z142,(b,())⟩:Dv)) (qaM ⟨fun h=>⟨h1,h2,h3,h.2,h.1⟩,fun h=>⟨h.2.2.2.2,h.2.2.2.1⟩⟩)
 ·rw[qaq fun h=>qbh.1 h3 h.2.2.1]
 ·rw[qaq fun h=>qbh.1 h2 h.2.1]
 ·rw[qaq fun h=>qbh.1 h1 h.1]
def Bt(m:Mat)(p f t:Int):Prop:=VM m∧m.1=p∧m.2.1=t∧m.2.2.1=f
theorem qfM(m:Mat)(p f t:Int)(hm:Sm (.st cM) m):Ret E n_Z54 [dI m.1,dI m.2.1,dI m.2.2.1,dL m.2.2.2.1,dI p,dI f,dI t] ⟨o_Z54,(pb (Bt m p f t),())⟩:=by
 refine qak ?_
 simp only[run_Z54,Z54.ev]
 refine qaa (qd3 m hm) (qcs (fun h1=>qcs (fun h2=>qcs (fun h3=>qal ?_) fun h3=>qal ?_) fun h2=>qal ?_) fun h1=>qal ?_)
 ·have h1:=qaH.1 h1
  have:(m.2.2.1==f)=pb (Bt m p f t):=qhG (by
   rw[beq_iff_eq];exact⟨fun h=>⟨h1,by simpa using h2,by simpa using h3,h⟩,fun h=>h.2.2.2⟩)
  rw[this]
 ·rw[qaq fun h=>by have:=h.2.2.1;simp[this] at h3]
 ·rw[qaq fun h=>by have:=h.2.1;simp[this] at h2]
 ·rw[qaq fun h=>qbh.1 h1 h.1]
def qaG(c:List Sim)(d:Int)(k:Nat):List Int:=((List.range k).filter fun i=>decide (((c.getD i []).length:Int)=d+1)).map Int.ofNat
theorem qeA(c:List Sim)(d:Int)(k:Nat):qaG c d (k+1)=qaG c d k++if ((c.getD k []).length:Int)=d+1 then [(k:Int)] else []:=by
 unfold qaG
 rw[List.range_succ,List.filter_append,List.map_append]
 congr 1
 by_cases h:((c.getD k []).length:Int)=d+1
 ·rw[if_pos h,List.filter_cons_of_pos (by simpa using h)];rfl
 ·rw[if_neg h,List.filter_cons_of_neg (by simpa using h)];rfl
theorem qgs(c:List Sim)(d:Int)(k:Nat):(qaG c d k).length≤k:=by
 unfold qaG
 rw[List.length_map]
 exact Nat.le_trans (List.length_filter_le _ _) (by simp)
theorem qpx{c:List Sim}{d:Int}{k:Nat}{x:Int}(h:x∈qaG c d k):∃ i:Nat,x=i∧i<k:=by
 unfold qaG at h
 rw[List.mem_map] at h
 obtain⟨i,hi,rfl⟩:=h
 exact⟨i,rfl,by have:=(List.mem_filter.1 hi).1;simpa using this⟩
theorem qhs(c:List Sim)(d:Int)(hc:Sm yK c)(hd:-1≤d∧d≤1048576):Ret E n_Z72 [dLL c,dI d] ⟨o_Z72,(qaG c d c.length,())⟩:=by
 have hc1:c.length≤1048576:=hc.1
 have hd1:w64 (d+1)=d+1:=qai (by omega) (by omega)
 refine qak ?_
 simp only[run_Z72,Z72.ev]
 refine Ev.start (p:=fun φ n=>Z72.l0 (mkR (run E (φ 0))) (φ 0) n d c (c.length:Int) 0 []=_) 1 ?_ (fun _ _ _ h=>h)
 refine qaw 1 (L:=fun φ n k a=>Z72.l0 (mkR (run E (φ 0))) (φ 0) n d c (c.length:Int) k a) (len:=c.length) (fun k=>qaG c d k) (fun _ _ _ _ _=>rfl) (fun k r hk ih=>?_) ?_
 ·simp only[Z72.l0_succ _ qag,hd1]
  rw[qeA,qaf hk] at ih
  have hlen:=qgs c d k
  refine qaB (decide_eq_true (by omega)) (qae (qao hk) (qaa (qfB _) ?_))
  rw[qah (by omega)]
  refine qcs (fun he=>qax (decide_eq_true (by simp only[List.length_cons,List.length_nil];omega)) ?_) fun he=>?_
  ·rw[if_pos (by simpa using he)] at ih;exact ih
  ·rw[if_neg (by simpa using he),List.append_nil] at ih;exact ih
 ·simp only[Z72.l0_succ _ qag]
  exact qaD (decide_eq_false (by omega)) qan
def qmX(c:List Sim)(st:Sim)(d:Int)(k:Nat):Int:=(((qaG c d c.length).take k).map fun i=>st.getD i.toNat 0).sum
theorem qkY(c:List Sim)(st:Sim)(d:Int)(k:Nat)(h:k<(qaG c d c.length).length):qmX c st d (k+1)=qmX c st d k+st.getD ((qaG c d c.length)[k]).toNat 0:=by
 unfold qmX
 rw[List.take_succ_eq_append_getElem h,List.map_append,List.sum_append]
 simp
theorem qpA{c:List Sim}{st:Sim}(hst:∀ x∈st,0≤x∧x≤3)(d:Int)(k:Nat):0≤qmX c st d k∧qmX c st d k≤3*k:=by
  induction k with
  | zero=>simp[qmX]
  | succ k ih =>
    by_cases h:k<(qaG c d c.length).length
    · rw[qkY _ _ _ _ h]
      have:0≤st.getD ((qaG c d c.length)[k]).toNat 0∧st.getD ((qaG c d c.length)[k]).toNat 0≤3:=by
        by_cases hl:((qaG c d c.length)[k]).toNat<st.length
        · rw[qaf hl];exact hst _ (List.getElem_mem hl)
        · rw[List.getD_eq_getElem?_getD,List.getElem?_eq_none (by omega)];simp
      omega
    · have:qmX c st d (k+1)=qmX c st d k:=by
        unfold qmX
        rw[List.take_of_length_le (by omega),List.take_of_length_le (by omega)]
      omega
theorem qd9(c:List Sim)(st:Sim)(d:Int)(p:Int)(ms:List Mat)(hc:Sm yK c)(hl:st.length=c.length)(hst:∀ x∈st,0≤x∧x≤3)(hd:-1≤d∧d≤1048576) :
  Ret E n_Z75 [dLL c,dI p,dL st,dMs ms,dI d] ⟨o_Z75,(qmX c st d (qaG c d c.length).length,())⟩:=by
 have hc1:c.length≤1048576:=hc.1
 have hol:=qgs c d c.length
 refine qak ?_
 simp only[run_Z75,Z75.ev]
 refine qaa (qhs c d hc hd) ?_
 refine Ev.start (p:=fun φ n=>Z75.l0 (mkR (run E (φ 0))) (φ 0) n 0 (qaG c d c.length) ((qaG c d c.length).length:Int) 0 c p st ms=_) 1 ?_ (fun _ _ _ h=>h)
 refine qaw 1 (L:=fun φ n k a=>Z75.l0 (mkR (run E (φ 0))) (φ 0) n a (qaG c d c.length) ((qaG c d c.length).length:Int) k c p st ms) (len:=(qaG c d c.length).length) (fun k=>qmX c st d k) (fun _ _ _ _ _=>rfl) (fun k r hk ih=>?_) ?_
 ·simp only[Z75.l0_succ _ qag]
  obtain⟨i,hi,hik⟩:=qpx (List.getElem_mem hk)
  rw[qkY _ _ _ _ hk,hi,Int.toNat_natCast,qaf (by omega)] at ih
  have hb:=qpA hst d k (c:=c)
  have hb2:=hst _ (List.getElem_mem (show i<st.length by omega))
  refine qaB (decide_eq_true (by omega)) (qae (qao hk) ?_)
  simp only[hi]
  refine qae (qao (by omega)) ?_
  rw[qah (by omega),qai (by omega) (by omega)]
  exact ih
 ·simp only[Z75.l0_succ _ qag]
  exact qaD (decide_eq_false (by omega)) qan
end VeT
open Go Go.Proofs Ve
namespace VeT
theorem qpC(s:Sim)(v:Int)(hs:s.length≤1048576):Ret E n_Z114 [dL s,dI v] ⟨o_Z114,(qiF (fun x=>pb (x=v)) s,())⟩:=by
  obtain⟨o,h1,h2,h3⟩:=qbM 1 (L:=fun φ n k=>Z114.l0 (mkR (run E (φ 0))) (φ 0) n s v (s.length:Int) k) (len:=s.length) (fun k=>∃ h:k<s.length,pb (s[k]=v)=true) (fun o=>some ⟨o_Z114,(o2i o,())⟩) (fun _ _ _ _=>rfl) (fun k hk hP=>by
      obtain⟨_,hP⟩:=hP
      have hP:=qaH.1 hP
      simp only[Z114.l0_succ _ qag]
      exact qaB (decide_eq_true (by omega)) (qae (qao hk) (qaB (by simp[hP]) qan))) (fun k q hk hP ih=>by
      simp only[Z114.l0_succ _ qag]
      refine qaB (decide_eq_true (by omega)) (qae (qao hk) (qaD (by simp only[beq_eq_false_iff_ne];exact fun e=>hP ⟨hk,qay e.symm⟩) ?_))
      rw[qah (by omega)];exact ih) (by
      simp only[Z114.l0_succ _ qag]
      exact qaD (decide_eq_false (by omega)) qan)
  rw[qdb (p:=fun x=>pb (x=v)) h1 h2] at h3
  refine qak ?_
  simp only[run_Z114,Z114.ev]
  exact Ev.start (p:=fun φ n=>Z114.l0 (mkR (run E (φ 0))) (φ 0) n s v (s.length:Int) 0=_) 1 h3 (fun _ _ _ h=>h)
theorem qgA(s:Sim)(v:Int)(hs:s.length≤1048576):Ret E n_Z101 [dL s,dI v] ⟨o_Z101,(pb (v∈s),())⟩:=by
 refine qak ?_
 simp only[run_Z101,Z101.ev]
 refine qaa (qpC s v hs) (qal ?_)
 have:decide (qiF (fun x=>pb (x=v)) s≥0)=pb (v∈s):=qhG (by
  rw[decide_eq_true_iff,ge_iff_le,qbA]
  exact⟨fun⟨x,h,e⟩=>qaH.1 e ▸ h,fun h=>⟨v,h,qay rfl⟩⟩)
 simp only[this]
theorem qjn(s:Sim)(v:Int)(hs:s.length≤1048576):Ret E n_Z125 [dL s,dI v] ⟨o_Z125,(pb (v∈s),())⟩:=by
  obtain⟨o,h1,h2,h3⟩:=qbM 1 (L:=fun φ n k=>Z125.l0 (mkR (run E (φ 0))) (φ 0) n s v k) (len:=s.length) (fun k=>∃ h:k<s.length,s[k]=v) (fun o=>some ⟨o_Z125,(o.isSome,())⟩) (fun _ _ _ _=>rfl) (fun k hk hP=>by
      obtain⟨_,hP⟩:=hP
      simp only[Z125.l0_succ _ qag]
      exact qaB (decide_eq_true (by omega)) (qae (qao hk) (qaB (by simp[hP]) qan))) (fun k q hk hP ih=>by
      simp only[Z125.l0_succ _ qag]
      refine qaB (decide_eq_true (by omega)) (qae (qao hk) (qaD (by simp only[beq_eq_false_iff_ne];exact fun e=>hP ⟨hk,e⟩) ?_))
      rw[qah (by omega)];exact ih) (by
      simp only[Z125.l0_succ _ qag]
      exact qaD (decide_eq_false (by omega)) qan)
  have:o.isSome=pb (v∈s):=qhG (by
    cases o with
    | none =>
      simp only[Option.isSome_none,Bool.false_eq_true,false_iff]
      intro hm
      obtain⟨j,hj,e⟩:=List.mem_iff_getElem.1 hm
      exact h2 rfl j hj ⟨hj,e⟩
    | some k =>
      obtain⟨_,⟨hk,e⟩,_⟩:=h1 k rfl
      simp only[Option.isSome_some,true_iff]
      exact e ▸ List.getElem_mem hk)
  rw[this] at h3
  refine qak ?_
  simp only[run_Z125,Z125.ev]
  exact Ev.start (p:=fun φ n=>Z125.l0 (mkR (run E (φ 0))) (φ 0) n s v 0=_) 1 h3 (fun _ _ _ h=>h)
def qeL(a b:Sim):Prop:=∀ x∈a,x∈b
theorem qlo(x:Int)(b:Sim)(hb:b.length≤1048576):Ret E n_Z58 [dI x,⟨.ptr (.cons yL .nil),(b,())⟩] ⟨o_Z58,(!pb (x∈b),())⟩:=by
 refine qak ?_
 simp only[run_Z58,Z58.ev]
 exact qaa (qgA b x hb) qan
theorem qjF(a b:Sim)(ha:a.length≤1048576)(hb:b.length≤1048576):Ret E n_Z57 [dL a,dL b] ⟨o_Z57,(pb (qeL a b),())⟩:=by
 refine qak ?_
 simp only[run_Z57,Z57.ev]
 refine qaa (qby a ((b,()),()) _ ha fun x _=>qlo x b hb) (qal ?_)
 simp only[qkE];rfl
theorem qmD(a b:Sim)(ha:a.length≤1048576)(hb:b.length≤1048576):Ret E n_Z157 [dL a,dL b] ⟨o_Z157,(pb (qeL a b),())⟩:=by
 refine qak ?_
 simp only[run_Z157,Z157.ev]
 refine Ev.start (p:=fun φ n=>Z157.l0 (mkR (run E (φ 0))) (φ 0) n a b 0=_) 1 ?_ (fun _ _ _ h=>h)
 refine(qdY 1 (L:=fun φ n k=>Z157.l0 (mkR (run E (φ 0))) (φ 0) n a b k) (len:=a.length) 0 (by omega) (fun j=>a.getD j 0∈b) (fun b=>some ⟨o_Z157,(b,())⟩) (fun _ _ _ _=>rfl) (fun k h1 h2 hP _=>?_) (fun k r h1 h2 hP _ ih=>?_) (fun _=>?_)).to ?_
 ·simp only[Z157.l0_succ _ qag]
  rw[qaf h2] at hP
  exact qaB (decide_eq_true (by omega)) (qae (qao h2) (qaa (qjn b _ hb) (qaB (by rw[qaq hP];rfl) qan)))
 ·simp only[Z157.l0_succ _ qag]
  rw[qaf h2] at hP
  refine qaB (decide_eq_true (by omega)) (qae (qao h2) (qaa (qjn b _ hb) (qaD (by rw[qay hP];rfl) ?_)))
  rw[qah (by omega)];exact ih
 ·simp only[Z157.l0_succ _ qag]
  exact qaD (decide_eq_false (by omega)) qan
 ·refine congrArg (fun b:Bool=>some (⟨o_Z157,(b,())⟩:Dv)) (qaM ⟨fun h x hx=>?_,fun h j _ hj=>by rw[qaf hj];exact h _ (List.getElem_mem hj)⟩)
  obtain⟨j,hj,rfl⟩:=List.mem_iff_getElem.1 hx
  have:=h j (by omega) hj
  rwa [qaf hj] at this
open Classical in
noncomputable def qdX(c:List Sim)(s:Sim):Nat→List Int
 | 0=>[]
 | k+1=>qdX c s k++if qeL s (c.getD k []) then [(k:Int)] else []
theorem qe9{c:List Sim}{s:Sim}:∀ {k:Nat},(qdX c s k).length≤k
 | 0=>by simp[qdX]
 | k+1=>by
  have:=qe9 (c:=c) (s:=s) (k:=k)
  rw[qdX,List.length_append];split<;>simp<;>omega
theorem qnP(c:List Sim)(k:Nat)(hk:k<c.length)(hc:Sm yK c):Ret E n_Z76 [dLL c,dI (k:Int)] ⟨o_Z76,(qdX c c[k] c.length,())⟩:=by
 have hc1:c.length≤1048576:=hc.1
 refine qak ?_
 simp only[run_Z76,Z76.ev]
 refine Ev.start (p:=fun φ n=>Z76.l0 (mkR (run E (φ 0))) (φ 0) n (k:Int) c (c.length:Int) 0 c []=_) 1 ?_ (fun _ _ _ h=>h)
 refine qaw 1 (L:=fun φ n j a=>Z76.l0 (mkR (run E (φ 0))) (φ 0) n (k:Int) c (c.length:Int) j c a) (len:=c.length) (fun j=>qdX c c[k] j) (fun _ _ _ _ _=>rfl) (fun j r hj ih=>?_) ?_
 ·simp only[Z76.l0_succ _ qag]
  have hl:=qe9 (c:=c) (s:=c[k]) (k:=j)
  rw[qdX,qaf hj] at ih
  rw[qah (by omega)]
  refine qaB (decide_eq_true (by omega)) (qae (qao hj) (qae (qao hk) (qaa (qjF _ _ (qa7 hc hk).1 (qa7 hc hj).1) (qcs (fun h=>qax (decide_eq_true (by simp only[List.length_cons,List.length_nil];omega)) ?_) fun h=>?_))))
  ·rw[if_pos (qaH.1 h)] at ih;exact ih
  ·rw[if_neg (qbh.1 h),List.append_nil] at ih;exact ih
 ·simp only[Z76.l0_succ _ qag]
  exact qaD (decide_eq_false (by omega)) qan
theorem qmg(c:Cpx)(s:Sim)(hs:s.length≤1048576)(hc:Sm yK c.1):Ret E n_Z162 [dC c,dL s] ⟨o_Z162,(qdX c.1 s c.1.length,())⟩:=by
 have hc1:c.1.length≤1048576:=hc.1
 refine qak ?_
 simp only[run_Z162,Z162.ev]
 refine Ev.start (p:=fun φ n=>Z162.l0 (mkR (run E (φ 0))) (φ 0) n c s 0 []=_) 1 ?_ (fun _ _ _ h=>h)
 refine qaw 1 (L:=fun φ n j a=>Z162.l0 (mkR (run E (φ 0))) (φ 0) n c s j a) (len:=c.1.length) (fun j=>qdX c.1 s j) (fun _ _ _ _ _=>rfl) (fun j r hj ih=>?_) ?_
 ·simp only[Z162.l0_succ _ qag]
  have hl:=qe9 (c:=c.1) (s:=s) (k:=j)
  rw[qdX,qaf hj] at ih
  rw[qah (by omega)]
  refine qaB (decide_eq_true (by omega)) (qae (qao hj) (qaa (qmD _ _ hs (qa7 hc hj).1) (qcs (fun h=>qax (decide_eq_true (by simp only[List.length_cons,List.length_nil];omega)) ?_) fun h=>?_)))
  ·rw[if_pos (qaH.1 h)] at ih;exact ih
  ·rw[if_neg (qbh.1 h),List.append_nil] at ih;exact ih
 ·simp only[Z162.l0_succ _ qag]
  exact qaD (decide_eq_false (by omega)) qan
end VeT
open Go Go.Proofs Ve
namespace VeT
abbrev Tx:=List UInt8
abbrev dT(l:ByteArray):Dv:=⟨.str,l⟩
abbrev dTs(l:List ByteArray):Dv:=⟨.sl .str,l⟩
def tx(l:Tx):ByteArray:=⟨l.toArray⟩
theorem qj5(l:Tx):(tx l).size=l.length:=by
 show l.toArray.size=_
 simp
theorem qeb(l:Tx):(tx l).data.toList=l:=by
 show l.toArray.toList=l
 simp
theorem qrx(b:ByteArray):tx b.data.toList=b:=rfl
theorem qm1(ls:List Tx)(s:Tx):qjK (ls.map tx) (tx s)=tx (Go.Lib.join ls s):=by
 unfold qjK
 have e:(ls.map tx).map (·.data.toList)=ls:=by
  rw[List.map_map]
  exact(List.map_congr_left fun l _=>qeb l).trans (List.map_id' ls)
 rw[e,qeb];rfl
theorem qjR(n:Nat)(args:List Dv):run E (n+1) n_Z171 args=qr0 (mkR (run E n)) args:=rfl
theorem qjM(n:Int)(h1:-9223372036854775808≤n)(h2:n≤9223372036854775807):Ret E n_Z171 [dI n,dI 10] ⟨o_Z171,(tx (Go.Lib.itoa n),())⟩:=by
 refine qak ?_
 simp only[qjR]
 refine qal ?_
 have hc:chk (decide ((10:Int)=(10:Int))&&decide (-9223372036854775808≤n)&&decide (n≤9223372036854775807))=some ():=by rw[decide_eq_true h1,decide_eq_true h2];rfl
 show((chk (decide ((10:Int)=(10:Int))&&decide (-9223372036854775808≤n)&&decide (n≤9223372036854775807))).map fun _=>(⟨.cons .str .nil,(qrM n,())⟩:Dv))=_
 rw[hc]
 rfl
theorem qqc(n:Nat)(args:List Dv):run E (n+1) n_Z172 args=qn9 (mkR (run E n)) args:=rfl
theorem qkk(ls:List Tx)(s:Tx)(h1:(Go.Lib.join ls s).length≤140737488355328)(h2:ls.length≤140737488355328):Ret E n_Z172 [dTs (ls.map tx),dT (tx s)] ⟨o_Z172,(tx (Go.Lib.join ls s),())⟩:=by
 refine qak ?_
 simp only[qqc]
 refine qal ?_
 have hc:chk (decide ((qjK (ls.map tx) (tx s)).size≤140737488355328)&&decide ((ls.map tx).length≤140737488355328))=some ():=by
  rw[qm1,qj5,List.length_map,decide_eq_true h1,decide_eq_true h2];rfl
 show((some (ls.map tx)).bind fun xs=>(some (tx s)).bind fun sep=>(chk (decide ((qjK xs sep).size≤140737488355328)&&decide (List.length xs≤140737488355328))).map fun _=>(⟨.cons .str .nil,(qjK xs sep,())⟩:Dv))=_
 simp only[Option.bind_some,hc]
 rw[Option.map_some,qm1]
theorem qiD(n:Int)(h1:-9223372036854775808≤n)(h2:n≤9223372036854775807):Ret E n_Z8 [dI n] ⟨o_Z8,(tx (Go.Lib.itoa n),())⟩:=by
 refine qak ?_
 simp only[run_Z8,Z8.ev]
 exact qaa (qjM n h1 h2) qan
def qqS(u:Nat):List Nat:=if h:u=0 then [] else u%10::qqS (u / 10)
termination_by u
decreasing_by omega
theorem qh3:qqS 0=[]:=by rw[qqS,dif_pos rfl]
theorem qno{u:Nat}(h:u≠0):qqS u=u%10::qqS (u / 10):=by rw[qqS,dif_neg h]
theorem qnC:∀(b u:Nat),u≤b→u≠0→((qqS u).map fun d=>UInt8.ofNat (48+d)).reverse=Go.Lib.decDigits u
 | 0,u,h,h0=>by omega
 | b+1,u,h,h0=>by
  rw[qno h0,List.map_cons,List.reverse_cons]
  by_cases h1:u<10
  ·rw[show u / 10=0 by omega,qh3,Go.Lib.decDigits_one h1,show u%10=u by omega];rfl
  ·rw[qnC b (u / 10) (by omega) (by omega)]
   conv=>rhs;rw[Go.Lib.decDigits,dif_neg h1]
theorem qm0:∀(b u:Nat),u<10 ^ b→(qqS u).length≤b
 | 0,u,h=>by
  obtain rfl:u=0:=by simp at h;exact h
  rw[qh3];exact Nat.le_refl _
 | b+1,u,h=>by
  by_cases h0:u=0
  ·subst h0;rw[qh3];exact Nat.zero_le _
  ·rw[qno h0,List.length_cons]
   have:=qm0 b (u / 10) (by rw[Nat.pow_succ] at h;omega)
   omega
end VeT
open Go Go.Proofs Ve
namespace VeT
theorem qn8{c:List Sim}{st:Sim}(hst:∀ x∈st,0≤x∧x≤3)(d:Int):0≤qmX c st d (qaG c d c.length).length:=(qpA hst d _).1
def SD(c:List Sim)(st:Sim)(d:Int):Int:=qmX c st d (qaG c d c.length).length
def SK(c:List Sim)(st:Sim):Prop:=st.length=c.length∧(∀ x∈st,0≤x∧x≤3)∧∀ d:Nat,d<4→SD c st (d:Int)≤32
theorem qhA(n:Int):Ret E n_Z35 [dI n] ⟨o_Z35,(!pb (0≤n∧n≤3),())⟩:=by
 refine qak ?_
 simp only[run_Z35,Z35.ev]
 exact qaa (qbQ _ _ _) qan
theorem qkl(c:List Sim)(st:Sim)(hc:Sm yK c)(hs:st.length≤1048576):Ret E n_Z34 [dLL c,dL st] ⟨o_Z34,(pb (SK c st),())⟩:=by
  refine qak ?_
  simp only[run_Z34,Z34.ev]
  refine qcs (fun h=>?_) fun h=>?_
  · simp only[Z34.j0_eq _ qag,cond_true]
    have h:¬ (st.length:Int)=c.length:=by simpa using h
    rw[qaq fun hk=>h (by rw[hk.1])];(first | exact qan | exact Ev.of fun _=>trivial)
  have hl : st.length = c.length := by have : (st.length : Int) = c.length := by simpa using h
                                       omega
  refine qaa (qbm st _ hs fun x _=>qhA x) ?_
  simp only[Z34.j0_eq _ qag]
  have e:=qkE (s:=st) (P:=fun x=>0≤x∧x≤3)
  refine qcs (fun h=>?_) fun h=>?_
  · simp only[h] at e
    rw[qaq fun hk=>qbh.1 e.symm hk.2.1];(first | exact qan | exact Ev.of fun _=>trivial)
  · simp only[h] at e
    have hst:∀ x∈st,0≤x∧x≤3:=qaH.1 e.symm
    refine Ev.start (p:=fun φ n=>Z34.l1 (mkR (run E (φ 0))) (φ 0) n st 0 c=_) 1 ?_ (fun _ _ _ h=>h)
    refine(qdY 1 (L:=fun φ n k=>Z34.l1 (mkR (run E (φ 0))) (φ 0) n st k c) (len:=4) 0 (by omega) (fun d=>SD c st (d:Int)≤32) (fun b=>some ⟨o_Z34,(b,())⟩) (fun _ _ _ _=>rfl) (fun k h1 h2 hP _=>?_) (fun k r h1 h2 hP _ ih=>?_) (fun _=>?_)).to ?_
    · simp only[Z34.l1_succ _ qag]
      exact qaB (decide_eq_true (by omega)) (qaa (qd9 c st _ _ _ hc hl hst (by omega)) (qaB (decide_eq_true (Int.not_le.1 hP)) qan))
    · simp only[Z34.l1_succ _ qag]
      refine qaB (decide_eq_true (by omega)) (qaa (qd9 c st _ _ _ hc hl hst (by omega)) (qaD (decide_eq_false (Int.not_lt.2 hP)) ?_))
      rw[qah (by omega)];exact ih
    · simp only[Z34.l1_succ _ qag]
      exact qaD (decide_eq_false (by omega)) qan
    · exact congrArg (fun b:Bool=>some (⟨o_Z34,(b,())⟩:Dv)) (qaM ⟨fun h=>⟨hl,hst,fun d hd=>h d (by omega) hd⟩,fun h d _ hd=>h.2.2 d hd⟩)
noncomputable def qaI(c:List Sim)(k:Nat):List Int:=(qbi (c.getD k [])).map (qdP c)
theorem qqz{c:List Sim}{s:Sim}:qdP c s<c.length∧-1≤qdP c s:=by
 unfold qdP qiF
 cases h:c.findIdx? (fun x=>pb (x=s)) with
 | none=>simp only[o2i];omega
 | some k =>
  rw[List.findIdx?_eq_some_iff_getElem] at h
  obtain⟨h,_⟩:=h
  simp only[o2i];omega
theorem qaF{c:List Sim}{k:Nat}:(qaI c k).length=if 1<(c.getD k []).length then(c.getD k []).length else 0:=by
 unfold qaI qbi
 rw[List.length_map]
 split<;>simp
theorem qng{c:List Sim}(h:VC c){k:Nat}(hk:k<c.length){x:Int}(hx:x∈qaI c k):0≤x∧x<c.length:=by
 unfold qaI at hx
 rw[List.mem_map] at hx
 obtain⟨f,hf,rfl⟩:=hx
 exact⟨qbb.2 (h.2.2.2 k hk f hf),qqz.1⟩
theorem qb7(c:List Sim)(k:Nat)(hk:k<c.length)(hc:Sm yK c)(hs:Srt c):Ret E n_Z44 [dLL c,dI (k:Int)] ⟨o_Z44,(qaI c k,())⟩:=by
 have hks:(c[k]).length≤1048576:=(qa7 hc hk).1
 have hfl:=qcZ (s:=c[k])
 refine qak ?_
 simp only[run_Z44,Z44.ev]
 refine qae (qao hk) (qaa (qdE _ hks) ?_)
 refine Ev.start (p:=fun φ n=>Z44.l0 (mkR (run E (φ 0))) (φ 0) n (qbi c[k]) ((qbi c[k]).length:Int) 0 c []=_) 1 ?_ (fun _ _ _ h=>h)
 refine qaw 1 (L:=fun φ n j a=>Z44.l0 (mkR (run E (φ 0))) (φ 0) n (qbi c[k]) ((qbi c[k]).length:Int) j c a) (len:=(qbi c[k]).length) (fun j=>((qbi c[k]).take j).map (qdP c)) (fun _ _ _ _ _=>rfl) (fun j r hj ih=>?_) ?_
 ·simp only[Z44.l0_succ _ qag]
  rw[List.take_succ_eq_append_getElem hj,List.map_append] at ih
  refine qaB (decide_eq_true (by omega)) (qae (qao hj) (qaa (qhB c _ hc hs) (qax (by simp;omega) ?_)))
  rw[qah (by omega)];exact ih
 ·simp only[Z44.l0_succ _ qag]
  refine qaD (decide_eq_false (by omega)) (qal ?_)
  rw[List.take_of_length_le (Nat.le_refl _),qaI,qaf hk]
theorem qdZ(c:List Sim)(k:Nat)(hk:k<c.length)(hc:Sm yK c):Ret E n_Z154 [dC (c,()),dI (k:Int)] ⟨o_Z154,(qaI c k,())⟩:=by
 have hks:(c[k]).length≤1048576:=(qa7 hc hk).1
 refine qak ?_
 simp only[run_Z154,Z154.ev]
 refine qae (qao hk) ?_
 refine Ev.start (p:=fun φ n=>Z154.l0 (mkR (run E (φ 0))) (φ 0) n (c,()) c[k] 0 []=_) 1 ?_ (fun _ _ _ h=>h)
 by_cases hlen:1<(c[k]).length
 ·refine qaw 1 (L:=fun φ n j a=>Z154.l0 (mkR (run E (φ 0))) (φ 0) n (c,()) c[k] j a) (len:=(c[k]).length) (fun j=>(List.range j).map fun i=>qdP c ((c[k]).eraseIdx i)) (fun _ _ _ _ _=>rfl) (fun j r hj ih=>?_) ?_
  ·simp only[Z154.l0_succ _ qag]
   rw[List.range_succ,List.map_append] at ih
   refine qaB (decide_eq_true (by omega)) ?_
   simp only[show decide (((c[k]).length:Int)>1)=true from decide_eq_true (by omega),Z154.j1_eq _ qag,cond_true]
   refine qaa (qdw _ j hj hks) (qaa (qbY (c,()) _ hc) (qax (by simp;omega) ?_))
   rw[qah (by omega)];exact ih
  ·simp only[Z154.l0_succ _ qag]
   refine qaD (decide_eq_false (by omega)) ?_
   simp only[Z154.j1_eq _ qag,cond_false]
   refine qal ?_
   rw[qaI,qaf hk,qbi,if_pos hlen,List.map_map];rfl
 ·refine Ev.round 1 (L:=fun φ n=>Z154.l0 (mkR (run E (φ 0))) (φ 0) n (c,()) c[k] 0 []) ?_ (fun _ _ _=>rfl)
  have hj:Ev fun φ=>Z154.j1 (mkR (run E (φ 0))) (φ 0) (φ 1) (c,()) c[k] 0 false []=some ⟨o_Z154,(qaI c k,())⟩:=by
   simp only[Z154.j1_eq _ qag,cond_false]
   refine qal ?_
   rw[qaI,qaf hk,qbi,if_neg hlen];rfl
  simp only[Z154.l0_succ _ qag]
  refine qeE (fun _=>?_) fun _=>hj
  simp only[show decide (((c[k]).length:Int)>1)=false from decide_eq_false (by omega)]
  exact hj
abbrev Arw:=Int×Int×Int×Unit
noncomputable def qmI(c:List Sim)(k i:Nat):List Arw:=(List.range i).map fun(j:Nat)=>((k:Int),(j:Int),(qaI c k).getD j 0,())
noncomputable def qaY(c:List Sim):Nat→List Arw
 | 0=>[]
 | k+1=>qaY c k++qmI c k (qaI c k).length
noncomputable def plc(c:List Sim)(k:Nat):Nat:=(qaY c k).length
theorem qdH{c:List Sim}{k i:Nat}:(qmI c k i).length=i:=by simp[qmI]
theorem qey{c:List Sim}{k:Nat}:plc c (k+1)=plc c k+(qaI c k).length:=by
 unfold plc;rw[qaY,List.length_append,qdH]
theorem VC.len4{c:List Sim}(h:VC c){k:Nat}(hk:k<c.length):(c.getD k []).length≤4:=(h.2.1 k hk).2.1
theorem VC.fIdx4{c:List Sim}(h:VC c){k:Nat}(hk:k<c.length):(qaI c k).length≤4:=by
 have:=h.len4 hk
 rw[qaF];split<;>omega
theorem VC.plc{c:List Sim}(h:VC c):∀ {k:Nat},k≤c.length→plc c k≤4*k
 | 0,_=>by simp[VeT.plc,qaY]
 | k+1,hk=>by
  have h1:=h.plc (k:=k) (by omega)
  have h2:=h.fIdx4 (k:=k) (by omega)
  rw[qey];omega
theorem qbD{c:List Sim}:∀ {n k i:Nat},k<n→i<(qaI c k).length→(qaY c n)[plc c k+i]? = some ((k:Int),(i:Int),(qaI c k).getD i 0,())
 | 0,_,_,h,_=>by omega
 | n+1,k,i,h,hi=>by
  rw[qaY]
  by_cases hk:k<n
  ·have:=qbD hk hi
   have hl:=(List.getElem?_eq_some_iff.1 this).1
   rw[List.getElem?_append_left hl];exact this
  ·obtain rfl:k=n:=by omega
   rw[List.getElem?_append_right (by unfold plc;omega)]
   rw[show plc c k+i-(qaY c k).length=i by unfold plc;omega]
   simp[qmI,hi]
theorem qda{c:List Sim}:∀ {n t:Nat},t<(qaY c n).length→∃ k i,k<n∧i<(qaI c k).length∧t=plc c k+i
 | 0,_,h=>by simp[qaY] at h
 | n+1,t,h=>by
  by_cases ht:t<(qaY c n).length
  ·obtain⟨k,i,h1,h2,h3⟩:=qda ht
   exact⟨k,i,by omega,h2,h3⟩
  ·rw[qaY,List.length_append,qdH] at h
   exact⟨n,t-(qaY c n).length,by omega,by omega,by unfold plc;omega⟩
theorem qfU(c:List Sim)(hc:Sm yK c)(hv:VC c):Ret E n_Z36 [dLL c] ⟨o_Z36,(qaY c c.length,())⟩:=by
 have hs:=hv.srt
 have h48:=hv.1
 refine qak ?_
 simp only[run_Z36,Z36.ev]
 refine qaa (qhM _) ?_
 refine Ev.start (p:=fun φ n=>Z36.l0 (mkR (run E (φ 0))) (φ 0) n (c.length:Int) 0 c []=_) 1 ?_ (fun _ _ _ h=>h)
 refine qaw 1 (L:=fun φ n k a=>Z36.l0 (mkR (run E (φ 0))) (φ 0) n (c.length:Int) k c a) (len:=c.length) (fun k=>qaY c k) (fun _ _ _ _ _=>rfl) (fun k r hk ih=>?_) ?_
 ·simp only[Z36.l0_succ _ qag]
  have hpl:=hv.plc (k:=k) (by omega)
  have hf4:=hv.fIdx4 hk
  refine qaB (decide_eq_true (by omega)) (qaa (qb7 c k hk hc hs) ?_)
  refine Ev.start (p:=fun φ n=>Z36.l1 (mkR (run E (φ 0))) (φ 0) (φ 1) n (k:Int) (c.length:Int) (k:Int) (qaI c k) ((qaI c k).length:Int) 0 c (qaY c k)=_) 2 ?_ (fun _ _ _ h=>h)
  have:=qaw 2 (L:=fun φ n j a=>Z36.l1 (mkR (run E (φ 0))) (φ 0) (φ 1) n (k:Int) (c.length:Int) (k:Int) (qaI c k) ((qaI c k).length:Int) j c a) (len:=(qaI c k).length) (fun j=>qaY c k++qmI c k j) (r:=r) (fun _ _ _ _ _=>rfl) (fun j r hj ih=>?_) ?_
  ·simpa [qmI] using this
  ·simp only[Z36.l1_succ _ qag]
   refine qaB (decide_eq_true (by omega)) (qae (qao hj) (qax (decide_eq_true ?_) ?_))
   ·rw[List.length_append,qdH];show(_+_+1)*24≤_
    have:(qaY c k).length=plc c k:=rfl
    omega
   ·rw[qah (by omega)]
    have e:qmI c k (j+1)=qmI c k j++[((k:Int),(j:Int),(qaI c k)[j],())]:=by
     unfold qmI;rw[List.range_succ,List.map_append];simp[List.getD_eq_getElem?_getD,hj]
    rw[e,← List.append_assoc] at ih
    exact ih
  ·simp only[Z36.l1_succ _ qag]
   refine qaD (decide_eq_false (by omega)) ?_
   rw[qah (by omega)];exact ih
 ·simp only[Z36.l0_succ _ qag]
  exact qaD (decide_eq_false (by omega)) qan
theorem qk6(c:List Sim)(k i:Nat)(hk:k≤c.length)(hi:i≤1048576)(hv:VC c):Ret E n_Z169 [dC (c,()),dI (k:Int),dI (i:Int)] ⟨o_Z169,(((plc c k+i:Nat):Int),())⟩:=by
 have h48:=hv.1
 refine qak ?_
 simp only[run_Z169,Z169.ev]
 refine Ev.start (p:=fun φ n=>Z169.l0 (mkR (run E (φ 0))) (φ 0) n (c,()) (k:Int) (i:Int) 0 0=_) 1 ?_ (fun _ _ _ h=>h)
 have:=qaw 1 (L:=fun φ n j a=>Z169.l0 (mkR (run E (φ 0))) (φ 0) n (c,()) (k:Int) (i:Int) a j) (len:=k) (fun j=>((plc c j:Nat):Int)) (r:=some ⟨o_Z169,(((plc c k+i:Nat):Int),())⟩) (fun _ _ _ _ _=>rfl) (fun j r hj ih=>?_) ?_
 ·exact this
 ·simp only[Z169.l0_succ _ qag]
  have hjc:j<c.length:=by omega
  have hpl:=hv.plc (k:=j) (by omega)
  have h4:=hv.len4 hjc
  have e:=qey (c:=c) (k:=j)
  rw[qaF] at e
  rw[qaf hjc] at e h4
  refine qaB (decide_eq_true (by omega)) (qae (qao hjc) (qeE (fun hl=>qae (qao hjc) ?_) fun hl=>?_))
  ·rw[if_pos (by omega)] at e
   rw[qah (by omega),qai (by omega) (by omega)]
   rw[e] at ih
   simpa using ih
  ·rw[if_neg (by omega)] at e
   rw[qah (by omega)]
   rw[e] at ih;exact ih
 ·simp only[Z169.l0_succ _ qag]
  have hpl:=hv.plc hk
  refine qaD (decide_eq_false (by omega)) (qal ?_)
  rw[qai (by omega) (by omega)]
  simp
end VeT
open Go Go.Proofs Ve
namespace VeT
def mz:Mat:=(0,0,0,[],())
def QB(p:Int)(st:Sim)(ms:List Mat)(t k:Nat)(f:Int):Prop:=Bt (ms.getD t mz) p (st.getD f.toNat 0) (st.getD k 0)
def VS(c:List Sim)(p:Int)(st:Sim)(ms:List Mat):Prop:=VC c∧Pr p∧SK c st∧plc c c.length=ms.length∧∀ k,k<c.length→∀ i,i<(qaI c k).length→QB p st ms (plc c k+i) k ((qaI c k).getD i 0)
def az:Arw:=(0,0,0,())
def QA(p:Int)(st:Sim)(ms:List Mat)(t:Nat)(a:Arw):Prop:=t<ms.length∧Bt (ms.getD t mz) p (st.getD a.2.2.1.toNat 0) (st.getD a.1.toNat 0)
theorem qou{c:List Sim}{p:Int}{st:Sim}{ms:List Mat}(hl:plc c c.length=ms.length) :
  (∀ t,0≤t→t<plc c c.length→QA p st ms t ((qaY c c.length).getD t az))↔∀ k,k<c.length→∀ i,i<(qaI c k).length→QB p st ms (plc c k+i) k ((qaI c k).getD i 0):=by
 constructor
 ·intro h k hk i hi
  have hg:=qbD hk hi
  have hlt:=(List.getElem?_eq_some_iff.1 hg).1
  have:=h (plc c k+i) (by omega) hlt
  rw[List.getD_eq_getElem?_getD,hg] at this
  exact this.2
 ·intro h t _ ht
  obtain⟨k,i,hk,hi,rfl⟩:=qda ht
  have hg:=qbD hk hi
  have:=h k hk i hi
  rw[List.getD_eq_getElem?_getD,hg]
  exact⟨by omega,this⟩
theorem qqN{ms:List Mat}(h:Sm (.sl (.st cM)) ms){t:Nat}(ht:t<ms.length):Sm (.st cM) ms[t]:=h.2 _ (List.getElem_mem ht)
theorem qbJ(c:List Sim)(p:Int)(st:Sim)(ms:List Mat)(hc:Sm yK c)(hst:st.length≤1048576)(hm:Sm (.sl (.st cM)) ms) :
    Ret E n_Z28 [dLL c,dI p,dL st,dMs ms] ⟨o_Z28,(pb (VS c p st ms),())⟩:=by
  have hm1:ms.length≤1048576:=hm.1
  refine qak ?_
  simp only[run_Z28,Z28.ev]
  have no:¬ VS c p st ms→Ev fun φ=>Z28.j0 (mkR (run E (φ 0))) (φ 0) true c p st ms=some ⟨o_Z28,(pb (VS c p st ms),())⟩:=fun h=>by
    simp only[Z28.j0_eq _ qag,cond_true]
    rw[qaq h];(first | exact qan | exact Ev.of fun _=>trivial)
  refine qaa (qdL c hc) (qcs (fun h=>no fun hv=>qbh.1 (show pb (VC c)=false by simpa using h) hv.1) fun h=>?_)
  have hv:VC c:=qaH.1 (by simpa using h)
  refine qaa (qeK p) (qcs (fun h=>no fun hv=>qbh.1 (show pb (Pr p)=false by simpa using h) hv.2.1) fun h=>?_)
  have hp:Pr p:=qaH.1 (by simpa using h)
  refine qaa (qkl c st hc hst) ?_
  by_cases hk:SK c st
  · simp only[qay hk,Bool.not_true,Z28.j0_eq _ qag,cond_false]
    refine qaa (qfU c hc hv) ?_
    have hpl:=hv.plc (Nat.le_refl _)
    have h48:=hv.1
    refine Ev.start (p:=fun φ n=>Z28.l1 (mkR (run E (φ 0))) (φ 0) n (qaY c c.length) (qaY c c.length) ((qaY c c.length).length:Int) 0 c p st ms=_) 1 ?_ (fun _ _ _ h=>h)
    have get:∀ t (ht:t<plc c c.length),∃ k i,k<c.length∧i<(qaI c k).length∧(qaY c c.length)[t]? = some ((k:Int),(i:Int),(qaI c k).getD i 0,())∧((qaI c k).getD i 0).toNat<st.length∧0≤(qaI c k).getD i 0:=fun t ht=>by
      obtain⟨k,i,hk',hi,rfl⟩:=qda ht
      have hb:=qng hv hk' (List.getElem_mem hi)
      exact⟨k,i,hk',hi,qbD hk' hi,by rw[qaf hi,hk.1];omega,by rw[qaf hi];omega⟩
    refine(qdY 1 (L:=fun φ n t=>Z28.l1 (mkR (run E (φ 0))) (φ 0) n (qaY c c.length) (qaY c c.length) ((qaY c c.length).length:Int) t c p st ms) (len:=plc c c.length) 0 (by omega) (fun t=>QA p st ms t ((qaY c c.length).getD t az)) (fun b=>some ⟨o_Z28,(b&&((plc c c.length:Int)==(ms.length:Int)),())⟩) (fun _ _ _ _=>rfl) (fun t h1 h2 hP _=>?_) (fun t r h1 h2 hP _ ih=>?_) (fun _=>?_)).to ?_
    · simp only[Z28.l1_succ _ qag]
      obtain⟨k,i,hkc,hi,hg,hf,hf0⟩:=get t h2
      have hlt:t<(qaY c c.length).length:=h2
      have hgt:(qaY c c.length)[t]=((k:Int),(i:Int),(qaI c k).getD i 0,()):=by
        rw[List.getElem?_eq_getElem hlt] at hg;exact Option.some.inj hg
      refine qaB (decide_eq_true (by omega)) (qae (qao hlt) ?_)
      rw[qaf hlt] at hP
      rw[hgt] at hP ⊢
      refine qeE (fun hge=>?_) fun hge=>?_
      · simp only[Z28.j2_eq _ qag,cond_true];(first | exact qan | exact Ev.of fun _=>trivial)
      · have htm:t<ms.length:=by omega
        refine qae (qao htm) ?_
        simp only
        rw[show(qaI c k).getD i 0=((((qaI c k).getD i 0).toNat:Nat):Int) by omega]
        refine qae (qao hf) (qae (qao (show k<st.length by rw[hk.1];exact hkc)) (qaa (qfM _ _ _ _ (qqN hm htm)) ?_))
        have:¬ Bt ms[t] p st[((qaI c k).getD i 0).toNat] (st[k]'(by rw[hk.1];exact hkc)):=fun hb=>hP ⟨htm,by
          simp only[Int.toNat_natCast]
          rw[qaf htm,qaf hf,qaf (s:=st) (k:=k) (by rw[hk.1];exact hkc)];exact hb⟩
        simp only[qaq this,Bool.not_false,Z28.j2_eq _ qag,cond_true];(first | exact qan | exact Ev.of fun _=>trivial)
    · simp only[Z28.l1_succ _ qag]
      obtain⟨k,i,hkc,hi,hg,hf,hf0⟩:=get t h2
      have hlt:t<(qaY c c.length).length:=h2
      have hgt:(qaY c c.length)[t]=((k:Int),(i:Int),(qaI c k).getD i 0,()):=by
        rw[List.getElem?_eq_getElem hlt] at hg;exact Option.some.inj hg
      refine qaB (decide_eq_true (by omega)) (qae (qao hlt) ?_)
      rw[qaf hlt] at hP
      rw[hgt] at hP ⊢
      obtain⟨htm,hb⟩:=hP
      refine qaD (decide_eq_false (by omega)) (qae (qao htm) ?_)
      simp only
      rw[show(qaI c k).getD i 0=((((qaI c k).getD i 0).toNat:Nat):Int) by omega]
      refine qae (qao hf) (qae (qao (show k<st.length by rw[hk.1];exact hkc)) (qaa (qfM _ _ _ _ (qqN hm htm)) ?_))
      simp only[Int.toNat_natCast] at hb
      rw[qaf htm,qaf hf,qaf (s:=st) (k:=k) (by rw[hk.1];exact hkc)] at hb
      simp only[qay hb,Bool.not_true,Z28.j2_eq _ qag,cond_false]
      rw[qah (by omega)];exact ih
    · simp only[Z28.l1_succ _ qag]
      exact qaD (decide_eq_false (by show ¬ ((plc c c.length:Nat):Int)<((plc c c.length:Nat):Int);omega)) (qal (by rw[Bool.true_and];rfl))
    · have:(pb (∀ t,0≤t→t<plc c c.length→QA p st ms t ((qaY c c.length).getD t az))&&((plc c c.length:Int)==(ms.length:Int)))=pb (VS c p st ms):=qhG (by
        rw[Bool.and_eq_true,qaH,beq_iff_eq]
        constructor
        · rintro⟨h1,h2⟩
          have h2:plc c c.length=ms.length:=by omega
          exact⟨hv,hp,hk,h2,(qou h2).1 h1⟩
        · rintro⟨_,_,_,h2,h1⟩
          exact⟨(qou h2).2 h1,by omega⟩)
      rw[this]
  · simp only[qaq hk,Bool.not_false]
    exact no fun hv=>hk hv.2.2.1
end VeT
open Go Go.Proofs Ve
namespace VeT
theorem qcA(x:Shf)(hx:Sm (.st cS) x):Ret E n_Z28 [dLL x.1,dI x.2.1,dL x.2.2.1,dMs x.2.2.2.1] ⟨o_Z28,(pb (VS x.1 x.2.1 x.2.2.1 x.2.2.2.1),())⟩ :=
 qbJ x.1 x.2.1 x.2.2.1 x.2.2.2.1 hx.1 hx.2.2.1.1 hx.2.2.2.1
theorem qhO(n:Int):Ret E n_Z55 [dI n] ⟨o_Z55,(pb (0≤n∧n≤3),())⟩:=by
 refine qak ?_
 simp only[run_Z55,Z55.ev]
 exact qaa (qbQ _ _ _) qan
open Classical in
noncomputable def qdp(x:Shf)(k:Int):Int×Int×Unit :=
 if VS x.1 x.2.1 x.2.2.1 x.2.2.2.1 then(if 0≤k∧k≤3 then(SD x.1 x.2.2.1 k,0,()) else(0,2,())) else(0,1,())
theorem qgU(x:Shf)(k:Int)(hx:Sm (.st cS) x):Ret E n_Z23 [dLL x.1,dI x.2.1,dL x.2.2.1,dMs x.2.2.2.1,dI k] ⟨o_Z23,qdp x k⟩:=by
 refine qak ?_
 simp only[run_Z23,Z23.ev]
 refine qaa (qcA x hx) (qcs (fun h=>qal ?_) fun h=>qaa (qhO k) (qcs (fun h2=>qal ?_) fun h2=>?_))
 ·have h:=qbh.1 (show pb (VS x.1 x.2.1 x.2.2.1 x.2.2.2.1)=false by simpa using h)
  rw[qdp,if_neg h]
 ·have h:=qaH.1 (show pb (VS x.1 x.2.1 x.2.2.1 x.2.2.2.1)=true by simpa using h)
  have h2:=qbh.1 (show pb (0≤k∧k≤3)=false by simpa using h2)
  rw[qdp,if_pos h,if_neg h2]
 ·have h:=qaH.1 (show pb (VS x.1 x.2.1 x.2.2.1 x.2.2.2.1)=true by simpa using h)
  have h2:=qaH.1 (show pb (0≤k∧k≤3)=true by simpa using h2)
  refine qaa (qd9 _ _ _ _ _ hx.1 h.2.2.1.1 h.2.2.1.2.1 (by omega)) (qal ?_)
  rw[qdp,if_pos h,if_pos h2];rfl
end VeT
open Go Go.Proofs Ve
namespace VeT
theorem qob(p r:Int)(C:Nat)(cells:Sim)(i j:Nat)(h:i*C+j<cells.length)(hl:cells.length≤1048576):Ret E n_Z12 [dI p,dI r,dI (C:Int),dL cells,dI (i:Int),dI (j:Int)] ⟨o_Z12,(cells[i*C+j],())⟩:=by
 refine qak ?_
 simp only[run_Z12,Z12.ev]
 rw[qa3,qai (n:=((i*C:Nat):Int)) (by omega) (by omega),qai (by omega) (by omega),show((i*C:Nat):Int)+(j:Int)=((i*C+j:Nat):Int) by omega]
 exact qae (qao h) qan
theorem qhI(p r:Int)(C:Nat)(cells:Sim)(i:Nat)(h:(i+1)*C≤cells.length)(hi:i≤1048576)(hl:cells.length≤1048576):Ret E n_Z13 [dI p,dI r,dI (C:Int),dL cells,dI (i:Int)] ⟨o_Z13,((cells.take ((i+1)*C)).drop (i*C),())⟩:=by
 refine qak ?_
 simp only[run_Z13,Z13.ev]
 have h1:i*C≤(i+1)*C:=Nat.mul_le_mul_right _ (by omega)
 have e1:w64 ((i:Int)*(C:Int))=((i*C:Nat):Int):=by rw[qa3];exact qai (by omega) (by omega)
 have e2:w64 ((i:Int)+1)=((i+1:Nat):Int):=qah (by omega)
 have e3:w64 (((i+1:Nat):Int)*(C:Int))=(((i+1)*C:Nat):Int):=by rw[qa3];exact qai (by omega) (by omega)
 simp only[e1,e2,e3,Int.toNat_natCast]
 exact qax (by simp only[Bool.and_eq_true,decide_eq_true_eq];omega) qan
theorem qfl(s:Sim)(hs:s.length≤1048576):Ret E n_Z88 [dL s] ⟨o_Z88,(s,())⟩:=by
 refine qak ?_
 simp only[run_Z88,Z88.ev,Z88.j0_eq _ qag,cond_true,cond_false]
 have h:Ev fun φ=>(Option.bind (chk (decide ((List.length ([]:List Int)+List.length s)*8≤70368744177664))) fun _=>some (⟨o_Z88,((([]:List Int)++s),())⟩:Dv))=some ⟨o_Z88,(s,())⟩ :=
  qax (by simp;omega) (qal rfl)
 cases s with
 | nil=>exact qaB rfl (qdc qan h)
 | cons a s=>exact qaD rfl h
theorem qiA(m:Mat)(C:Nat)(i j:Nat)(hC:m.2.2.1=(C:Int))(h:j*C+i<m.2.2.2.1.length)(hl:m.2.2.2.1.length≤1048576):Ret E n_Z78 [dI (i:Int),dI (j:Int),dM m] ⟨o_Z78,(m.2.2.2.1.getD (j*C+i) 0,())⟩:=by
 rw[qaf h]
 refine qak ?_
 simp only[run_Z78,Z78.ev]
 rw[hC]
 exact qaa (qob _ _ C _ j i h hl) qan
theorem qrB(a b:Sim)(p:Int)(hp:2≤p∧p≤251)(ha:a.length≤32)(hb:a.length≤b.length)(ea:∀ x∈a,0≤x∧x≤250)(eb:∀ x∈b,0≤x∧x≤250) :
  Ret E n_Z43 [dL a,dL b,dI p] ⟨o_Z43,(qa5 (fun l=>a.getD l 0) (fun l=>b.getD l 0) a.length%p,())⟩:=by
 refine qak ?_
 simp only[run_Z43,Z43.ev]
 refine Ev.start (p:=fun φ n=>Z43.l0 (mkR (run E (φ 0))) (φ 0) n a b p 0 (a.length:Int) 0=_) 1 ?_ (fun _ _ _ h=>h)
 have:=qaw 1 (L:=fun φ n k s=>Z43.l0 (mkR (run E (φ 0))) (φ 0) n a b p s (a.length:Int) k) (len:=a.length) (fun k=>qa5 (fun l=>a.getD l 0) (fun l=>b.getD l 0) k%p) (r:=some ⟨o_Z43,(qa5 (fun l=>a.getD l 0) (fun l=>b.getD l 0) a.length%p,())⟩) (fun _ _ _ _ _=>rfl) (fun k r hk ih=>?_) ?_
 ·simpa [qa5] using this
 ·simp only[Z43.l0_succ _ qag]
  have hkb:k<b.length:=by omega
  have hm:=qjl (ea _ (List.getElem_mem hk)) (eb _ (List.getElem_mem hkb))
  have h0:=Int.emod_nonneg (qa5 (fun l=>a.getD l 0) (fun l=>b.getD l 0) k) (show p≠0 by omega)
  have h1:=Int.emod_lt_of_pos (qa5 (fun l=>a.getD l 0) (fun l=>b.getD l 0) k) (show 0<p by omega)
  refine qaB (decide_eq_true (by omega)) (qae (qao hk) (qae (qao hkb) (qax (by simp;omega) ?_)))
  rw[qai (n:=a[k]*b[k]) (by omega) (by omega),qai (by omega) (by omega),Int.tmod_eq_emod_of_nonneg (by omega),Int.emod_add_emod,qah (by omega)]
  simp only[qa5] at ih
  rw[qaf hk,qaf hkb] at ih
  exact ih
 ·simp only[Z43.l0_succ _ qag]
  exact qaD (decide_eq_false (by omega)) qan
theorem qnL(p:Int)(R C:Nat)(cells:Sim)(hl:cells.length=R*C)(hR:R≤32)(hC:C≤32):Ret E n_Z68 [dI p,dI (R:Int),dI (C:Int),dL cells] ⟨o_Z68,((List.range R).map fun i=>(cells.take ((i+1)*C)).drop (i*C),())⟩:=by
 have h1024:=qeB hR hC
 refine qak ?_
 simp only[run_Z68,Z68.ev]
 refine Ev.start (p:=fun φ n=>Z68.l0 (mkR (run E (φ 0))) (φ 0) n (R:Int) 0 p (R:Int) (C:Int) cells []=_) 1 ?_ (fun _ _ _ h=>h)
 refine qaw 1 (L:=fun φ n k a=>Z68.l0 (mkR (run E (φ 0))) (φ 0) n (R:Int) k p (R:Int) (C:Int) cells a) (len:=R) (fun k=>(List.range k).map fun i=>(cells.take ((i+1)*C)).drop (i*C)) (fun _ _ _ _ _=>rfl) (fun k r hk ih=>?_) ?_
 ·simp only[Z68.l0_succ _ qag]
  have hle:(k+1)*C≤R*C:=Nat.mul_le_mul_right _ hk
  rw[List.range_succ,List.map_append] at ih
  refine qaB (decide_eq_true (by omega)) (qaa (qhI p _ C cells k (by omega) (by omega) (by omega)) (qaa (qfl _ (by simp;omega)) (qax (by simp;omega) ?_)))
  rw[qah (by omega)];exact ih
 ·simp only[Z68.l0_succ _ qag]
  exact qaD (decide_eq_false (by omega)) qan
end VeT
