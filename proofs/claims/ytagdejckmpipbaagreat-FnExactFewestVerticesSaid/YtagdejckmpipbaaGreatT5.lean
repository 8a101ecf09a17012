import Derived.Test.YtagdejckmpipbaaGreatT3
import Derived.Test.YtagdejckmpipbaaGreatV2
import Derived.Test.YtagdejckmpipbaaGreatT4
import Derived.Test.YtagdejckmpipbaaGreatProg
import Derived.KernelRfl
import Derived.WalkKit
import Derived.Lib.Walk
import Derived.Lib.SliceRun
import Derived.Lib.AppendZerosOnto
set_option linter.unusedVariables false
set_option linter.unusedSimpArgs false
open Go Go.Proofs Ve
set_option maxRecDepth 100000
namespace VeT
noncomputable section
abbrev q3_0(R:Run)(N:Nat):=kS R pol_Z31 22 N [1,1,1,0,1,0,0,1,1,0,0,1,1,1,1,1,1,1,1,1] F_Z31
abbrev q3_1(R:Run)(N:Nat):=kS R pol_Z31 23 N [1,1,1,0,1,0,0,1,1,1] F_Z31
abbrev q3_2(R:Run)(N:Nat):=kS R pol_Z31 24 N [1,1,1,1] F_Z31
abbrev q3_3(R:Run)(N:Nat):=kL R pol_Z31 4 N [1,1,1,0,1,0,0] F_Z31
abbrev q3_4(R:Run):=kB R pol_Z31 0
def Z27.l1(R:Run)(N a n:Nat)(b e:Int)(f:List Int)(g h:Int)(i:vK)(j k:Int)(l:vK)(m:Int)(o:List Int)(p:vN)(q r s:Int)(t:vK):Option Dv:=R.w (some ⟨(V.dead::(V.dead::(.c (.box 2 0)::(V.dead::(.c (.box 4 0)::(.c (.d yI b)::(.c (.arr 62)::(V.dead::(V.dead::(.c (.d yI e)::(zd 8 (.c (.d yL f)::(.c (.d yI g)::(.c (.d yI h)::(zd 10 (.c (.d yK i)::(.c (.d yI j)::(.c (.d yI k)::(zd 23 []))))))))))))))))))),(none::(none::(some (.box [.d yK l,.d yI m,.d yL o,.d yN p] false false)::(none::(some (.box [.d yI q,.d yI r,.d yI s,.nils yI] false false)::(zo 57 (some (.arr yL t true false false)::(none::[]))))))))⟩) fun st=>lC R pol_Z27 8 N [1,1,1,0,1,0,0,1,1,0,0,1,1,1,0,0] F_Z27 n st (kB R pol_Z27 2 (kB R pol_Z27 1 (kS R pol_Z27 14 N [1,1,1,0,1,0,0,1,1,1] F_Z27 (kL R pol_Z27 4 N [1,1,1,0,1,0,0] F_Z27 a (kB R pol_Z27 0 (kS R pol_Z27 15 N [1,1,1,1] F_Z27 (qqM E sg_Z27 F_Z27)))))))
def Z27.l0(R:Run)(N n:Nat)(a:Int)(b:List Int)(e f:Int)(g:vK)(h:Int)(i:List Int)(j:vN)(k l m:Int)(o:vK):Option Dv:=R.w (some ⟨(V.dead::(V.dead::(.c (.box 2 0)::(V.dead::(.c (.box 4 0)::(.c (.d yI a)::(.c (.arr 62)::(zd 11 (.c (.d yL b)::(.c (.d yI e)::(.c (.d yI f)::(zd 36 [])))))))))))),(none::(none::(some (.box [.d yK g,.d yI h,.d yL i,.d yN j] false false)::(none::(some (.box [.d yI k,.d yI l,.d yI m,.nils yI] false false)::(zo 57 (some (.arr yL o true false false)::(none::[]))))))))⟩) fun st=>lC R pol_Z27 4 N [1,1,1,0,1,0,0] F_Z27 n st (kB R pol_Z27 0 (kS R pol_Z27 15 N [1,1,1,1] F_Z27 (qqM E sg_Z27 F_Z27)))
theorem Z27.l1_succ(R:Run)(hw:R.ok)(N a n:Nat)(b c:Int)(d:List Int)(e f:Int)(g:vK)(h i:Int)(j:vK)(k:Int)(l:List Int)(m:vN)(o p q:Int)(r:vK):Z27.l1 R N a (n+1) b c d e f g h i j k l m o p q r=(bif (decide (i<h)) then((idx? g i).bind fun y36=>((chk (decide (0≤b)&&decide (b*8≤70368744177664))).bind fun _=>((qgL R n_Z41 o_Z41 [⟨yK,j⟩,⟨yI,k⟩,⟨yL,l⟩,⟨yN,m⟩,⟨yI,c⟩]).bind fun r37=>((chk (decide (0≤r37.1)&&decide (r37.1≤(List.length (List.replicate (Int.toNat b) (0:Int)):Int)))).bind fun _=>((chk (decide ((Int.toNat r37.1)≤(List.length (List.replicate (Int.toNat b) (0:Int))))&&decide ((List.length (List.replicate (Int.toNat b) (0:Int)))≤List.length (List.replicate (Int.toNat b) (0:Int))))).bind fun _=>((chk (decide ((List.length r+List.length [(List.take (Int.toNat r37.1) (List.replicate (Int.toNat b) (0:Int))++(List.take ((List.length (List.replicate (Int.toNat b) (0:Int)))-(Int.toNat r37.1)) (y36,()).1)++List.drop ((Int.toNat r37.1)+List.length (List.take ((List.length (List.replicate (Int.toNat b) (0:Int)))-(Int.toNat r37.1)) (y36,()).1)) (List.replicate (Int.toNat b) (0:Int)))])*24≤70368744177664))).bind fun _=>(Z27.l1 R N a n b c d e f g h (w64 (i+1)) j k l m o p q (r++[(List.take (Int.toNat r37.1) (List.replicate (Int.toNat b) (0:Int))++(List.take ((List.length (List.replicate (Int.toNat b) (0:Int)))-(Int.toNat r37.1)) (y36,()).1)++List.drop ((Int.toNat r37.1)+List.length (List.take ((List.length (List.replicate (Int.toNat b) (0:Int)))-(Int.toNat r37.1)) (y36,()).1)) (List.replicate (Int.toNat b) (0:Int)))])))))))) else(Z27.l0 R N a b d e (w64 (f+1)) j k l m o p q r)):=(hw _ _).trans (by kernel_rfl)
theorem Z27.l0_succ(R:Run)(hw:R.ok)(N n:Nat)(a:Int)(b:List Int)(c d:Int)(e:vK)(f:Int)(g:List Int)(h:vN)(i j k:Int)(l:vK):Z27.l0 R N (n+1) a b c d e f g h i j k l=(bif (decide (d<c)) then((idx? b d).bind fun y16=>((qgL R n_Z43 o_Z43 [⟨yK,e⟩,⟨yI,f⟩,⟨yL,g⟩,⟨yN,h⟩,⟨yI,(y16,()).1⟩]).bind fun r17=>((qgL R n_Z60 o_Z60 [⟨yK,e⟩,⟨yI,f⟩,⟨yL,g⟩,⟨yN,h⟩,⟨yI,r17.1⟩,⟨yI,(y16,()).1⟩]).bind fun r18=>((qgL R n_Z62 o_Z62 [⟨yI,r18.1⟩,⟨yI,r18.2.1⟩,⟨yI,r18.2.2.1⟩,⟨yL,r18.2.2.2.1⟩]).bind fun r19=>(Z27.l1 R N n N a r17.1 b c d r19.1 (List.length r19.1:Int) (0:Int) e f g h i j k l))))) else((qgL R n_Z54 o_Z54 [⟨yI,f⟩,⟨yI,a⟩,⟨yK,l⟩]).bind fun r66=>some ⟨o_Z27,(r66.1,r66.2.1,r66.2.2.1,r66.2.2.2.1,())⟩)):=(hw _ _).trans (by kernel_rfl)
theorem Z27.ev(R:Run)(N:Nat)(a0:vK)(a1:Int)(a2:List Int)(a3:vN)(a4:List Int):qqq E R sg_Z27 pol_Z27 F_Z27 N [⟨yK,a0⟩,⟨yI,a1⟩,⟨yL,a2⟩,⟨yN,a3⟩,⟨yL,a4⟩]=((qgL R n_Z66 o_Z66 [⟨yK,a0⟩,⟨yI,a1⟩,⟨yL,a2⟩,⟨yN,a3⟩,⟨yI,(0:Int)⟩]).bind fun r1=>((qgL R n_Z24 o_Z24 [⟨yK,a0⟩,⟨yI,a1⟩,⟨yL,a2⟩,⟨yN,a3⟩,⟨yI,(0:Int)⟩]).bind fun r2=>((qgL R n_Z62 o_Z62 [⟨yI,r2.1⟩,⟨yI,r2.2.1⟩,⟨yI,r2.2.2.1⟩,⟨yL,r2.2.2.2.1⟩]).bind fun r3=>(Z27.l0 R N N r1.1 a4 (List.length a4:Int) (0:Int) a0 a1 a2 a3 (0:Int) (0:Int) (0:Int) r3.1)))):=by kernel_rfl
theorem Z32.ev(R:Run)(N:Nat)(a0:List Int)(a1:(Int×Unit)):qqq E R sg_Z32 pol_Z32 F_Z32 N [⟨yL,a0⟩,⟨(.ptr (.cons yI .nil)),a1⟩]=((idx? a0 a1.1).bind fun y1=>some ⟨o_Z32,(((y1,()).1 != (0:Int)),())⟩):=by kernel_rfl
def Z117.l0(R:Run)(N n:Nat)(a:vK)(b:((Int×Unit)×Unit))(e f:Int):Option Dv:=R.w (some ⟨(.c (.d yK a)::(.c (.d (.fn n_Z32 (.cons (.ptr (.cons yI .nil)) .nil)) b)::(zd 5 (.c (.d yI e)::(.c (.d yI f)::(zd 10 [])))))),(zo 21 [])⟩) fun st=>lC R pol_Z115 2 N [1,0,1,0,0] F_Z115 n st (kB R pol_Z115 0 (kS R pol_Z115 7 N [1,1] F_Z115 (qqM E sg_Z115 F_Z115)))
theorem Z117.l0_succ(R:Run)(hw:R.ok)(N n:Nat)(a:vK)(b:((Int×Unit)×Unit))(c d:Int):Z117.l0 R N (n+1) a b c d=(bif (decide (d<c)) then((idx? a d).bind fun y5=>((qgL R n_Z32 o_Z32 [⟨yL,(y5,()).1⟩,⟨(.ptr (.cons yI .nil)),b.1⟩]).bind fun r6=>(bif r6.1 then some ⟨o_Z115,(d,())⟩ else(Z117.l0 R N n a b c (w64 (d+1)))))) else some ⟨o_Z115,((-1:Int),())⟩):=(hw _ _).trans (by kernel_rfl)
theorem Z117.ev(R:Run)(N:Nat)(a0:vK)(a1:((Int×Unit)×Unit)):qqq E R sg_Z115 pol_Z115 F_Z115 N [⟨yK,a0⟩,⟨(.fn n_Z32 (.cons (.ptr (.cons yI .nil)) .nil)),a1⟩]=(Z117.l0 R N N a0 a1 (List.length a0:Int) (0:Int)):=by kernel_rfl
theorem Z59.ev(R:Run)(N:Nat)(a0 a1:Int):qqq E R sg_Z59 pol_Z59 F_Z59 N [⟨yI,a0⟩,⟨yI,a1⟩]=((chk (a1 != 0)).bind fun _=>((chk (a1 != 0)).bind fun _=>some ⟨o_Z59,((Int.tmod (w64 ((Int.tmod a0 a1)+a1)) a1),())⟩)):=by kernel_rfl
def Z56.l0(R:Run)(N n:Nat)(a b e f:Int):Option Dv:=R.w (some ⟨(.c (.d yI a)::(.c (.d yI b)::(.c (.d yI e)::(zd 4 (.c (.d yI f)::(zd 18 [])))))),(zo 29 [])⟩) fun st=>lC R pol_Z56 2 N [1,1,0,0,0] F_Z56 n st (kB R pol_Z56 0 (kS R pol_Z56 7 N [1,1,1] F_Z56 (qqM E sg_Z56 F_Z56)))
theorem Z56.l0_succ(R:Run)(hw:R.ok)(N n:Nat)(a b c d:Int):Z56.l0 R N (n+1) a b c d=(bif (decide (b>(0:Int))) then(bif ((Int.tmod b (2:Int))==(1:Int)) then((chk (c != 0)).bind fun _=>((chk (c != 0)).bind fun _=>(Z56.l0 R N n (Int.tmod (w64 (a*a)) c) (w64 (Int.tdiv b (2:Int))) c (Int.tmod (w64 (d*a)) c)))) else((chk (c != 0)).bind fun _=>(Z56.l0 R N n (Int.tmod (w64 (a*a)) c) (w64 (Int.tdiv b (2:Int))) c d))) else some ⟨o_Z56,(d,())⟩):=(hw _ _).trans (by kernel_rfl)
theorem Z56.ev(R:Run)(N:Nat)(a0 a1 a2:Int):qqq E R sg_Z56 pol_Z56 F_Z56 N [⟨yI,a0⟩,⟨yI,a1⟩,⟨yI,a2⟩]=(Z56.l0 R N N a0 a1 a2 (1:Int)):=by kernel_rfl
theorem Z46.ev(R:Run)(N:Nat)(a0 a1:Int):qqq E R sg_Z46 pol_Z46 F_Z46 N [⟨yI,a0⟩,⟨yI,a1⟩]=((qgL R n_Z56 o_Z56 [⟨yI,a0⟩,⟨yI,(w64 (a1-(2:Int)))⟩,⟨yI,a1⟩]).bind fun r1=>some ⟨o_Z46,(r1.1,())⟩):=by kernel_rfl
def Z17.l0(R:Run)(N n:Nat)(a b:List Int)(e f g h:Int)(i:List Int):Option Dv:=R.w (some ⟨(.c (.d yL a)::(.c (.d yL b)::(.c (.d yI e)::(.c (.d yI f)::(zd 5 (.c (.arr 31)::(V.dead::(V.dead::(.c (.d yI g)::(.c (.d yI h)::(zd 20 []))))))))))),(zo 31 (some (.arr yI i true false false)::(zo 6 [])))⟩) fun st=>lC R pol_Z17 3 N [1,1,0,1,0,0] F_Z17 n st (kB R pol_Z17 0 (kS R pol_Z17 7 N [1,1,1] F_Z17 (qqM E sg_Z17 F_Z17)))
theorem Z17.l0_succ(R:Run)(hw:R.ok)(N n:Nat)(a b:List Int)(c d e f:Int)(g:List Int):Z17.l0 R N (n+1) a b c d e f g=(bif (decide (f<e)) then((idx? a f).bind fun y8=>((idx? b f).bind fun y9=>((chk (d != 0)).bind fun _=>((chk (decide ((List.length g+List.length [(Int.tmod (w64 ((y8,()).1+(w64 (c*(y9,()).1)))) d)])*8≤70368744177664))).bind fun _=>(Z17.l0 R N n a b c d e (w64 (f+1)) (g++[(Int.tmod (w64 ((y8,()).1+(w64 (c*(y9,()).1)))) d)])))))) else some ⟨o_Z17,(g,())⟩):=(hw _ _).trans (by kernel_rfl)
theorem Z17.ev(R:Run)(N:Nat)(a0 a1:List Int)(a2 a3:Int):qqq E R sg_Z17 pol_Z17 F_Z17 N [⟨yL,a0⟩,⟨yL,a1⟩,⟨yI,a2⟩,⟨yI,a3⟩]=(Z17.l0 R N N a0 a1 a2 a3 (List.length a0:Int) (0:Int) ([]:List Int)):=by kernel_rfl
def Z31.j4(R:Run)(N a b:Nat)(e f g h i:Int)(j:List Int)(k l m o:Int)(p:Bool)(q:Int)(r:List Int)(s:vK):Option Dv:=R.w (some ⟨(.c (.arr 120)::(.c (.d yI e)::(.c (.d yI f)::(zd 5 (.c (.arr 116)::(.c (.d yI g)::(.c (.box 10 0)::(.c (.d yI h)::(V.dead::(V.dead::(.c (.d yI i)::(.c (.d yL j)::(.c (.d yI k)::(.c (.d yI l)::(zd 61 (.c (.arr 120)::(.c (.d yI m)::(.c (.d yI o)::(zd 13 (.c (.d .bool p)::(zd 24 []))))))))))))))))))))),(zo 10 (some (.box [.d yI q] true false)::(zo 105 (some (.arr yI r true false false)::(zo 3 (some (.arr yL s false false true)::(zo 4 [])))))))⟩) fun st=>eC R pol_Z31 N [1,1,1,0,1,0,0,1,1,0,0,1,1,1,1,1,1,1,1,0,1,0,0,1,1,0,0,1,1] F_Z31 st (kB R pol_Z31 3 (kS R pol_Z31 21 N [1,1,1,0,1,0,0,1,1,0,0,1,1,1,1,1,1,1,1,0,1,0,0,1,1,1] F_Z31 (kL R pol_Z31 17 N [1,1,1,0,1,0,0,1,1,0,0,1,1,1,1,1,1,1,1,0,1,0,0] F_Z31 b (kB R pol_Z31 2 (q3_0 R N (kB R pol_Z31 1 (q3_1 R N (q3_3 R N a (q3_4 R (q3_2 R N (qqM E sg_Z31 F_Z31)))))))))))
def Z31.l3(R:Run)(N a n:Nat)(b e f g h i j k l:Int)(m:List Int)(o:vK):Option Dv:=R.w (some ⟨(.c (.arr 120)::(.c (.d yI b)::(.c (.d yI e)::(zd 5 (.c (.arr 116)::(.c (.d yI f)::(.c (.box 10 0)::(.c (.d yI g)::(zd 4 (.c (.d yI h)::(.c (.d yI i)::(zd 61 (.c (.arr 120)::(.c (.d yI j)::(.c (.d yI k)::(zd 38 [])))))))))))))))),(zo 10 (some (.box [.d yI l] true false)::(zo 105 (some (.arr yI m true false false)::(zo 3 (some (.arr yL o false false true)::(zo 4 [])))))))⟩) fun st=>lC R pol_Z31 17 N [1,1,1,0,1,0,0,1,1,0,0,1,1,1,1,1,1,1,1,0,1,0,0] F_Z31 n st (kB R pol_Z31 2 (q3_0 R N (kB R pol_Z31 1 (q3_1 R N (q3_3 R N a (q3_4 R (q3_2 R N (qqM E sg_Z31 F_Z31))))))))
def Z31.j2(R:Run)(N a:Nat)(b e f g h i j:Int)(k:List Int)(l:vK):Option Dv:=R.w (some ⟨(.c (.arr 120)::(.c (.d yI b)::(.c (.d yI e)::(zd 5 (.c (.arr 116)::(.c (.d yI f)::(.c (.box 10 0)::(.c (.d yI g)::(zd 4 (.c (.d yI h)::(.c (.d yI i)::(zd 102 [])))))))))))),(zo 10 (some (.box [.d yI j] true false)::(zo 105 (some (.arr yI k true false false)::(zo 3 (some (.arr yL l false false true)::(zo 4 [])))))))⟩) fun st=>eC R pol_Z31 N [1,1,1,0,1,0,0,1,1,0,0,1,1,1,1,1,1,1,1] F_Z31 st (kB R pol_Z31 1 (q3_1 R N (q3_3 R N a (q3_4 R (q3_2 R N (qqM E sg_Z31 F_Z31))))))
def Z31.j1(R:Run)(N a:Nat)(b e f g h i j:Int)(k:List Int)(l:vK):Option Dv:=R.w (some ⟨(.c (.arr 120)::(.c (.d yI b)::(.c (.d yI e)::(zd 5 (.c (.arr 116)::(.c (.d yI f)::(.c (.box 10 0)::(.c (.d yI g)::(zd 4 (.c (.d yI h)::(.c (.d yI i)::(zd 102 [])))))))))))),(zo 10 (some (.box [.d yI j] true false)::(zo 105 (some (.arr yI k true false false)::(zo 3 (some (.arr yL l false false true)::(zo 4 [])))))))⟩) fun st=>eC R pol_Z31 N [1,1,1,0,1,0,0,1,1,0,0,1,1,1,1,1] F_Z31 st (kB R pol_Z31 1 (q3_1 R N (q3_3 R N a (q3_4 R (q3_2 R N (qqM E sg_Z31 F_Z31))))))
def Z31.l0(R:Run)(N n:Nat)(a b e f g:Int)(h:List Int)(i:vK):Option Dv:=R.w (some ⟨(.c (.arr 120)::(.c (.d yI a)::(.c (.d yI b)::(zd 5 (.c (.arr 116)::(.c (.d yI e)::(zd 6 (.c (.d yI f)::(.c (.d yI g)::(zd 102 [])))))))))),(zo 116 (some (.arr yI h true false false)::(zo 3 (some (.arr yL i false false true)::(zo 4 [])))))⟩) fun st=>lC R pol_Z31 4 N [1,1,1,0,1,0,0] F_Z31 n st (q3_4 R (q3_2 R N (qqM E sg_Z31 F_Z31)))
theorem Z31.j4_eq(R:Run)(hw:R.ok)(N a b:Nat)(c d e f g:Int)(h:List Int)(i j k l:Int)(m:Bool)(o:Int)(p:List Int)(q:vK):Z31.j4 R N a b c d e f g h i j k l m o p q=(bif m then((chk (decide (0≤f)&&decide (f<(List.length q:Int)))).bind fun _=>(Option.bind (q)[(Int.toNat f)]? fun y69=>((idx? h o).bind fun y70=>((qgL R n_Z17 o_Z17 [⟨yL,h⟩,⟨yL,y69⟩,⟨yI,(w64 (d-(y70,()).1))⟩,⟨yI,d⟩]).bind fun r71=>((chk (decide (0≤g)&&decide (g<(List.length q:Int)))).bind fun _=>(Z31.l3 R N a b c d e f i j k (w64 (l+1)) o p (List.set q (Int.toNat g) r71.1))))))) else(Z31.l3 R N a b c d e f i j k (w64 (l+1)) o p q)):=(hw _ _).trans (by kernel_rfl)
theorem Z31.l3_succ(R:Run)(hw:R.ok)(N a n:Nat)(b c d e f g h i j:Int)(k:List Int)(l:vK):Z31.l3 R N a (n+1) b c d e f g h i j k l=(bif (decide (i<h)) then((chk (decide (0≤i)&&decide (i<(List.length l:Int)))).bind fun _=>(Option.bind (l)[(Int.toNat i)]? fun y53=>(bif (i != e) then((idx? y53 j).bind fun y54=>(Z31.j4 R N a n b c d e i y53 f g h i ((y54,()).1 != (0:Int)) j k l)) else(Z31.j4 R N a n b c d e i y53 f g h i false j k l)))) else((chk (decide ((List.length k+List.length [j])*8≤70368744177664))).bind fun _=>(Z31.l0 R N a b c d f (w64 (g+1)) (k++[j]) l))):=(hw _ _).trans (by kernel_rfl)
theorem Z31.j2_eq(R:Run)(hw:R.ok)(N a:Nat)(b c d e f g h:Int)(i:List Int)(j:vK):Z31.j2 R N a b c d e f g h i j=(Z31.l3 R N a N b c d e f g (List.length j:Int) (0:Int) h i j):=(hw _ _).trans (by kernel_rfl)
theorem Z31.j1_eq(R:Run)(hw:R.ok)(N a:Nat)(b c d e f g h:Int)(i:List Int)(j:vK):Z31.j1 R N a b c d e f g h i j=((chk (decide (0≤e)&&decide (e<(List.length j:Int)))).bind fun _=>(Option.bind (j)[(Int.toNat e)]? fun y28=>((idx? y28 h).bind fun y29=>((chk (c != 0)).bind fun _=>((chk (decide (0≤e)&&decide (e<(List.length j:Int)))).bind fun _=>(Option.bind (j)[(Int.toNat e)]? fun y30=>(qoY ((chk (decide (0≤b)&&decide (b*8≤70368744177664))).bind fun _=>((qgL R n_Z46 o_Z46 [⟨yI,(y29,()).1⟩,⟨yI,c⟩]).bind fun r31=>((qgL R n_Z17 o_Z17 [⟨yL,(List.replicate (Int.toNat b) (0:Int))⟩,⟨yL,y30⟩,⟨yI,r31.1⟩,⟨yI,c⟩]).bind fun r32=>((chk (decide (0≤e)&&decide (e<(List.length j:Int)))).bind fun _=>(Z31.j2 R N a b c (Int.tmod (w64 (d*(y29,()).1)) c) e f g h i (List.set j (Int.toNat e) r32.1)))))) ((qgL R n_Z46 o_Z46 [⟨yI,(y29,()).1⟩,⟨yI,c⟩]).bind fun r115=>((chk (decide (0≤b)&&decide (b*8≤70368744177664))).bind fun _=>((qgL R n_Z17 o_Z17 [⟨yL,(List.replicate (Int.toNat b) (0:Int))⟩,⟨yL,y30⟩,⟨yI,r115.1⟩,⟨yI,c⟩]).bind fun r116=>((chk (decide (0≤e)&&decide (e<(List.length j:Int)))).bind fun _=>(Z31.j2 R N a b c (Int.tmod (w64 (d*(y29,()).1)) c) e f g h i (List.set j (Int.toNat e) r116.1))))))))))))):=(hw _ _).trans (by kernel_rfl)
theorem Z31.l0_succ(R:Run)(hw:R.ok)(N n:Nat)(a b c d e:Int)(f:List Int)(g:vK):Z31.l0 R N (n+1) a b c d e f g=(bif (decide (e<d)) then((chk (decide (0≤(List.length f:Int))&&decide ((List.length f:Int)≤(List.length g:Int)))).bind fun _=>((qgL R n_Z115 o_Z115 [⟨yK,(List.drop (Int.toNat (List.length f:Int)) (List.take (List.length g) g))⟩,⟨(.fn n_Z32 (.cons (.ptr (.cons yI .nil)) .nil)),((e,()),())⟩]).bind fun r8=>(bif (decide (r8.1<(0:Int))) then(Z31.l0 R N n a b (0:Int) d (w64 (e+1)) f g) else(bif (decide (r8.1>(0:Int))) then((chk (decide (0≤(w64 ((List.length f:Int)+r8.1)))&&decide ((w64 ((List.length f:Int)+r8.1))<(List.length g:Int)))).bind fun _=>(Option.bind (g)[(Int.toNat (w64 ((List.length f:Int)+r8.1)))]? fun y16=>((chk (decide (0≤(List.length f:Int))&&decide ((List.length f:Int)<(List.length g:Int)))).bind fun _=>(Option.bind (g)[(Int.toNat (List.length f:Int))]? fun y17=>((chk (decide (0≤(List.length f:Int))&&decide ((List.length f:Int)<(List.length g:Int)))).bind fun _=>((chk (decide (0≤(w64 ((List.length f:Int)+r8.1)))&&decide ((w64 ((List.length f:Int)+r8.1))<(List.length (List.set g (Int.toNat (List.length f:Int)) y16):Int)))).bind fun _=>((qgL R n_Z59 o_Z59 [⟨yI,(w64 (0-c))⟩,⟨yI,b⟩]).bind fun r18=>(Z31.j1 R N n a b r18.1 (List.length f:Int) d e e f (List.set (List.set g (Int.toNat (List.length f:Int)) y16) (Int.toNat (w64 ((List.length f:Int)+r8.1))) y17))))))))) else(Z31.j1 R N n a b c (List.length f:Int) d e e f g))))) else some ⟨o_Z31,(f,c,g,())⟩):=(hw _ _).trans (by kernel_rfl)
theorem Z31.ev(R:Run)(N:Nat)(a0:vK)(a1 a2:Int):qqq E R sg_Z31 pol_Z31 F_Z31 N [⟨yK,a0⟩,⟨yI,a1⟩,⟨yI,a2⟩]=(Z31.l0 R N N a1 a2 (1:Int) a1 (0:Int) ([]:List Int) a0):=by kernel_rfl
def Z53.l1(R:Run)(N a n:Nat)(b:List Int)(e f g:Int)(h:List Int)(i j k l m:Int)(o p:List Int)(q r:vK):Option Dv:=R.w (some ⟨(V.dead::(.c (.box 1 0)::(V.dead::(.c (.arr 68)::(.c (.d yL b)::(V.dead::(.c (.arr 61)::(.c (.d yI e)::(.c (.arr 32)::(zd 14 (.c (.d yI f)::(.c (.d yI g)::(zd 11 (.c (.d yL h)::(.c (.d yI i)::(.c (.d yI j)::(zd 25 []))))))))))))))))),(none::(some (.box [.d yI k,.d yI l,.d yI m,.d yL o] false false)::(zo 30 (some (.arr yI p true false false)::(zo 28 (some (.arr yL q true false false)::(zo 6 (some (.arr yL r false false false)::[]))))))))⟩) fun st=>lC R pol_Z53 11 N [1,1,1,1,0,1,0,0,1,1,0,0,1,1,1,1,0,1,0,0] F_Z53 n st (kB R pol_Z53 2 (kS R pol_Z53 15 N [1,1,1,1,0,1,0,0,1,1,0,0,1,1,1,1,1] F_Z53 (kB R pol_Z53 1 (kS R pol_Z53 16 N [1,1,1,1,0,1,0,0,1,1,1] F_Z53 (kL R pol_Z53 5 N [1,1,1,1,0,1,0,0] F_Z53 a (kB R pol_Z53 0 (kS R pol_Z53 17 N [1,1,1,1,1] F_Z53 (qqM E sg_Z53 F_Z53))))))))
def Z53.l0(R:Run)(N n:Nat)(a:List Int)(b e f g h:Int)(i:List Int)(j k:vK):Option Dv:=R.w (some ⟨(V.dead::(.c (.box 1 0)::(V.dead::(.c (.arr 68)::(.c (.d yL a)::(V.dead::(.c (.arr 61)::(zd 16 (.c (.d yI b)::(.c (.d yI e)::(zd 39 []))))))))))),(none::(some (.box [.d yI f,.d yI g,.d yI h,.d yL i] false false)::(zo 59 (some (.arr yL j true false false)::(zo 6 (some (.arr yL k false false false)::[]))))))⟩) fun st=>lC R pol_Z53 5 N [1,1,1,1,0,1,0,0] F_Z53 n st (kB R pol_Z53 0 (kS R pol_Z53 17 N [1,1,1,1,1] F_Z53 (qqM E sg_Z53 F_Z53)))
theorem Z53.l1_succ(R:Run)(hw:R.ok)(N a n:Nat)(b:List Int)(c d e:Int)(f:List Int)(g h i j k:Int)(l m:List Int)(o p:vK):Z53.l1 R N a (n+1) b c d e f g h i j k l m o p=(bif (decide (h<g)) then((idx? f h).bind fun y36=>((chk (decide (0≤h)&&decide (h<(List.length p:Int)))).bind fun _=>(Option.bind (p)[(Int.toNat h)]? fun y37=>((idx? y37 c).bind fun y38=>((qgL R n_Z59 o_Z59 [⟨yI,(w64 (0-(y38,()).1))⟩,⟨yI,i⟩]).bind fun r39=>((chk (decide (0≤(y36,()).1)&&decide ((y36,()).1<(List.length m:Int)))).bind fun _=>(Z53.l1 R N a n b c d e f g (w64 (h+1)) i j k l (List.set m (Int.toNat (y36,()).1) r39.1) o p))))))) else((chk (decide ((List.length o+List.length [m])*24≤70368744177664))).bind fun _=>(Z53.l0 R N a b d (w64 (e+1)) i j k l (o++[m]) p))):=(hw _ _).trans (by kernel_rfl)
theorem Z53.l0_succ(R:Run)(hw:R.ok)(N n:Nat)(a:List Int)(b c d e f:Int)(g:List Int)(h i:vK):Z53.l0 R N (n+1) a b c d e f g h i=(bif (decide (c<b)) then((qgL R n_Z112 o_Z112 [⟨yL,a⟩,⟨yI,c⟩]).bind fun r12=>(bif r12.1 then(Z53.l0 R N n a b (w64 (c+1)) d e f g h i) else((chk (decide (0≤f)&&decide (f*8≤70368744177664))).bind fun _=>((chk (decide (0≤c)&&decide (c<(List.length (List.replicate (Int.toNat f) (0:Int)):Int)))).bind fun _=>(Z53.l1 R N n N a c b c a (List.length a:Int) (0:Int) d e f g (List.set (List.replicate (Int.toNat f) (0:Int)) (Int.toNat c) (1:Int)) h i))))) else some ⟨o_Z53,(h,())⟩):=(hw _ _).trans (by kernel_rfl)
theorem Z53.ev(R:Run)(N:Nat)(a0 a1 a2:Int)(a3:List Int):qqq E R sg_Z53 pol_Z53 F_Z53 N [⟨yI,a0⟩,⟨yI,a1⟩,⟨yI,a2⟩,⟨yL,a3⟩]=((qgL R n_Z62 o_Z62 [⟨yI,a0⟩,⟨yI,a1⟩,⟨yI,a2⟩,⟨yL,a3⟩]).bind fun r1=>((qgL R n_Z31 o_Z31 [⟨yK,r1.1⟩,⟨yI,a2⟩,⟨yI,a0⟩]).bind fun r2=>(Z53.l0 R N N r2.1 a2 (0:Int) a0 a1 a2 a3 ([]:List (List Int)) r2.2.2.1))):=by kernel_rfl
theorem Z44.ev(R:Run)(N:Nat)(a0:vK)(a1:Int)(a2:List Int)(a3:vN)(a4:List Int):qqq E R sg_Z44 pol_Z44 F_Z44 N [⟨yK,a0⟩,⟨yI,a1⟩,⟨yL,a2⟩,⟨yN,a3⟩,⟨yL,a4⟩]=((qgL R n_Z27 o_Z27 [⟨yK,a0⟩,⟨yI,a1⟩,⟨yL,a2⟩,⟨yN,a3⟩,⟨yL,a4⟩]).bind fun r1=>((qgL R n_Z53 o_Z53 [⟨yI,r1.1⟩,⟨yI,r1.2.1⟩,⟨yI,r1.2.2.1⟩,⟨yL,r1.2.2.2.1⟩]).bind fun r2=>((qgL R n_Z64 o_Z64 [⟨yK,r2.1⟩]).bind fun r3=>some ⟨o_Z44,(r3.1,())⟩))):=by kernel_rfl
def Z55.l1(R:Run)(N a n:Nat)(b:List Int)(e f g:Int)(h:List Int):Option Dv:=R.w (some ⟨(.c (.d yL b)::(zd 5 (.c (.d yI e)::(.c (.d yI f)::(.c (.arr 51)::(.c (.d yI g)::(zd 39 []))))))),(zo 51 (some (.arr yI h true false false)::[]))⟩) fun st=>lC R pol_Z55 8 N [1,1,0,1,0,0,1,0,0,1,0,1,0,1,0,0] F_Z55 n st (kB R pol_Z55 2 (kS R pol_Z55 11 N [1,1,0,1,0,0,1,0,0,1,0,1,1] F_Z55 (kB R pol_Z55 1 (kS R pol_Z55 4 N [1,1,0,1,0,0,1,1] F_Z55 (kL R pol_Z55 3 N [1,1,0,1,0,0] F_Z55 a (kB R pol_Z55 0 (kS R pol_Z55 12 N [1,1,1] F_Z55 (qqM E sg_Z55 F_Z55))))))))
def Z55.l0(R:Run)(N n:Nat)(a:List Int)(b e f:Int):Option Dv:=R.w (some ⟨(.c (.d yL a)::(.c (.d yI b)::(zd 4 (.c (.d yI e)::(.c (.d yI f)::(zd 41 [])))))),(zo 52 [])⟩) fun st=>lC R pol_Z55 3 N [1,1,0,1,0,0] F_Z55 n st (kB R pol_Z55 0 (kS R pol_Z55 12 N [1,1,1] F_Z55 (qqM E sg_Z55 F_Z55)))
theorem Z55.l1_succ(R:Run)(hw:R.ok)(N a n:Nat)(b:List Int)(c d e:Int)(f:List Int):Z55.l1 R N a (n+1) b c d e f=(bif (decide (e<c)) then((idx? b d).bind fun y13=>((chk (decide (0≤e)&&decide (e<(List.length f:Int)))).bind fun _=>(Z55.l1 R N a n b c d (w64 (e+1)) (List.set f (Int.toNat e) (w64 ((w64 ((w64 ((y13,()).1+(1:Int)))+e))-d)))))) else some ⟨o_Z55,(f,true,())⟩):=(hw _ _).trans (by kernel_rfl)
theorem Z55.l0_succ(R:Run)(hw:R.ok)(N n:Nat)(a:List Int)(b c d:Int):Z55.l0 R N (n+1) a b c d=(bif (decide (d≥(0:Int))) then((idx? a d).bind fun y6=>(bif (decide ((y6,()).1<(w64 ((w64 (b-c))+d)))) then((qgL R n_Z103 o_Z103 [⟨yL,a⟩]).bind fun r7=>(Z55.l1 R N n N a c d d r7.1)) else(Z55.l0 R N n a b c (w64 (d-1))))) else some ⟨o_Z55,(([]:List Int),false,())⟩):=(hw _ _).trans (by kernel_rfl)
theorem Z55.ev(R:Run)(N:Nat)(a0:List Int)(a1:Int):qqq E R sg_Z55 pol_Z55 F_Z55 N [⟨yL,a0⟩,⟨yI,a1⟩]=((qgL R n_Z65 o_Z65 [⟨yL,a0⟩]).bind fun r1=>(Z55.l0 R N N a0 a1 r1.1 (w64 (r1.1-(1:Int))))):=by kernel_rfl
def Z5.l1(R:Run)(N a n:Nat)(b:Int)(e:Bool)(f g:Int)(h:vK)(i:Int)(j:List Int)(k:vN)(l:Int)(m:Bool)(o:List Int):Option Dv:=R.w (some ⟨(V.dead::(V.dead::(.c (.box 2 0)::(zd 3 (.c (.box 6 0)::(.c (.d yI b)::(V.dead::(.c (.arr 50)::(.c (.d .bool e)::(zd 13 (.c (.d yI f)::(.c (.d yI g)::(zd 19 []))))))))))))),(none::(none::(some (.box [.d yK h,.d yI i,.d yL j,.d yN k] false false)::(zo 3 (some (.box [.d yI l,.d .bool m] false false)::(zo 43 (some (.arr yI o true false false)::[])))))))⟩) fun st=>lC R pol_Z5 11 N [1,1,1,1,1,0,1,0,0,1,1,0,0,1,1,0,0] F_Z5 n st (kB R pol_Z5 2 (kB R pol_Z5 1 (kS R pol_Z5 17 N [1,1,1,1,1,0,1,0,0,1,1,1] F_Z5 (kL R pol_Z5 8 N [1,1,1,1,1,0,1,0,0] F_Z5 a (kB R pol_Z5 0 (kS R pol_Z5 18 N [1,1,1,1,1,1] F_Z5 (qqM E sg_Z5 F_Z5)))))))
def Z5.l0(R:Run)(N n:Nat)(a b e:Int)(f:vK)(g:Int)(h:List Int)(i:vN)(j:Int)(k:Bool):Option Dv:=R.w (some ⟨(V.dead::(V.dead::(.c (.box 2 0)::(zd 3 (.c (.box 6 0)::(.c (.d yI a)::(zd 16 (.c (.d yI b)::(.c (.d yI e)::(zd 19 [])))))))))),(none::(none::(some (.box [.d yK f,.d yI g,.d yL h,.d yN i] false false)::(zo 3 (some (.box [.d yI j,.d .bool k] false false)::(zo 44 []))))))⟩) fun st=>lC R pol_Z5 8 N [1,1,1,1,1,0,1,0,0] F_Z5 n st (kB R pol_Z5 0 (kS R pol_Z5 18 N [1,1,1,1,1,1] F_Z5 (qqM E sg_Z5 F_Z5)))
theorem Z5.l1_succ(R:Run)(hw:R.ok)(N a n:Nat)(b:Int)(c:Bool)(d e:Int)(f:vK)(g:Int)(h:List Int)(i:vN)(j:Int)(k:Bool)(l:List Int):Z5.l1 R N a (n+1) b c d e f g h i j k l=(bif c then((qgL R n_Z28 o_Z28 [⟨(.ptr (.cons yI (.cons .bool .nil))),(j,k,())⟩]).bind fun r26=>(bif (!r26.1) then some ⟨o_Z5,(([]:List Int),(5:Int),())⟩ else((qgL R n_Z44 o_Z44 [⟨yK,f⟩,⟨yI,g⟩,⟨yL,h⟩,⟨yN,i⟩,⟨yL,l⟩]).bind fun r27=>(bif (r27.1==(0:Int)) then some ⟨o_Z5,(l,(0:Int),())⟩ else((qgL R n_Z55 o_Z55 [⟨yL,l⟩,⟨yI,b⟩]).bind fun r28=>(Z5.l1 R N a n b r28.2.1 d e f g h i r26.2.1.1 r26.2.1.2.1 r28.1)))))) else(Z5.l0 R N a b d (w64 (e+1)) f g h i j k)):=(hw _ _).trans (by kernel_rfl)
theorem Z5.l0_succ(R:Run)(hw:R.ok)(N n:Nat)(a b c:Int)(d:vK)(e:Int)(f:List Int)(g:vN)(h:Int)(i:Bool):Z5.l0 R N (n+1) a b c d e f g h i=(bif (decide (c<b)) then((qgL R n_Z40 o_Z40 [⟨yI,c⟩]).bind fun r14=>(Z5.l1 R N n N a true b c d e f g h i r14.1)) else some ⟨o_Z5,(([]:List Int),(3:Int),())⟩):=(hw _ _).trans (by kernel_rfl)
theorem Z5.ev(R:Run)(N:Nat)(a0:vK)(a1:Int)(a2:List Int)(a3:vN)(a4:Int):qqq E R sg_Z5 pol_Z5 F_Z5 N [⟨yK,a0⟩,⟨yI,a1⟩,⟨yL,a2⟩,⟨yN,a3⟩,⟨yI,a4⟩]=((qgL R n_Z6 o_Z6 [⟨yK,a0⟩,⟨yI,a1⟩,⟨yL,a2⟩,⟨yN,a3⟩]).bind fun r1=>(bif (!r1.1) then some ⟨o_Z5,(([]:List Int),(1:Int),())⟩ else((qgL R n_Z48 o_Z48 [⟨yI,a4⟩]).bind fun r2=>(bif (!r2.1) then some ⟨o_Z5,(([]:List Int),(2:Int),())⟩ else((qgL R n_Z71 o_Z71 [⟨yK,a0⟩]).bind fun r3=>((qgL R n_Z65 o_Z65 [⟨yL,r3.1⟩]).bind fun r4=>(Z5.l0 R N N r4.1 (w64 (r4.1+(1:Int))) (0:Int) a0 a1 a2 a3 a4 false))))))):=by kernel_rfl
def Z78.l0(R:Run)(N n:Nat)(a b:List Int)(e:Int):Option Dv:=R.w (some ⟨(.c (.d yL a)::(.c (.d yL b)::(zd 3 (.c (.d yI e)::(zd 20 []))))),(zo 28 [])⟩) fun st=>lC R pol_Z78 4 N [1,1,0,1,0,0] F_Z78 n st (kB R pol_Z78 0 (kS R pol_Z78 8 N [1,1,1] F_Z78 (qqM E sg_Z78 F_Z78)))
theorem Z78.l0_succ(R:Run)(hw:R.ok)(N n:Nat)(a b:List Int)(c:Int):Z78.l0 R N (n+1) a b c=(bif (decide (c<(List.length a:Int))) then((idx? a c).bind fun y4=>((idx? b c).bind fun y5=>(bif ((y4,()).1 != (y5,()).1) then some ⟨o_Z78,(false,())⟩ else(Z78.l0 R N n a b (w64 (c+1)))))) else some ⟨o_Z78,(true,())⟩):=(hw _ _).trans (by kernel_rfl)
theorem Z78.ev(R:Run)(N:Nat)(a0 a1:List Int):qqq E R sg_Z78 pol_Z78 F_Z78 N [⟨yL,a0⟩,⟨yL,a1⟩]=(bif ((List.length a0:Int) != (List.length a1:Int)) then some ⟨o_Z78,(false,())⟩ else(Z78.l0 R N N a0 a1 (0:Int))):=by kernel_rfl
def Z79.l0(R:Run)(N n:Nat)(a b:vK)(e:Int):Option Dv:=R.w (some ⟨(.c (.d yK a)::(.c (.d yK b)::(zd 3 (.c (.d yI e)::(zd 21 []))))),(zo 29 [])⟩) fun st=>lC R pol_Z79 4 N [1,1,0,1,0,0] F_Z79 n st (kB R pol_Z79 0 (kS R pol_Z79 8 N [1,1,1] F_Z79 (qqM E sg_Z79 F_Z79)))
theorem Z79.l0_succ(R:Run)(hw:R.ok)(N n:Nat)(a b:vK)(c:Int):Z79.l0 R N (n+1) a b c=(bif (decide (c<(List.length a:Int))) then((idx? a c).bind fun y4=>((idx? b c).bind fun y5=>((qgL R n_Z78 o_Z78 [⟨yL,(y4,()).1⟩,⟨yL,(y5,()).1⟩]).bind fun r6=>(bif (!r6.1) then some ⟨o_Z79,(false,())⟩ else(Z79.l0 R N n a b (w64 (c+1))))))) else some ⟨o_Z79,(true,())⟩):=(hw _ _).trans (by kernel_rfl)
theorem Z79.ev(R:Run)(N:Nat)(a0 a1:vK):qqq E R sg_Z79 pol_Z79 F_Z79 N [⟨yK,a0⟩,⟨yK,a1⟩]=(bif ((List.length a0:Int) != (List.length a1:Int)) then some ⟨o_Z79,(false,())⟩ else(Z79.l0 R N N a0 a1 (0:Int))):=by kernel_rfl
theorem Z77.ev(R:Run)(N:Nat)(a0 a1:vK):qqq E R sg_Z77 pol_Z77 F_Z77 N [⟨yK,a0⟩,⟨yK,a1⟩]=((qgL R n_Z79 o_Z79 [⟨yK,a0⟩,⟨yK,a1⟩]).bind fun r1=>(bif (!r1.1) then some ⟨o_Z77,(false,())⟩ else some ⟨o_Z77,(true,())⟩)):=by kernel_rfl
theorem Z80.ev(R:Run)(N:Nat)(a0 a1 a2:Int)(a3:List Int)(a4 a5 a6:Int)(a7:List Int):qqq E R sg_Z80 pol_Z80 F_Z80 N [⟨yI,a0⟩,⟨yI,a1⟩,⟨yI,a2⟩,⟨yL,a3⟩,⟨yI,a4⟩,⟨yI,a5⟩,⟨yI,a6⟩,⟨yL,a7⟩]=(bif (a0 != a4) then some ⟨o_Z80,(false,())⟩ else(bif (a1 != a5) then some ⟨o_Z80,(false,())⟩ else(bif (a2 != a6) then some ⟨o_Z80,(false,())⟩ else((qgL R n_Z78 o_Z78 [⟨yL,a3⟩,⟨yL,a7⟩]).bind fun r1=>(bif (!r1.1) then some ⟨o_Z80,(false,())⟩ else some ⟨o_Z80,(true,())⟩))))):=by kernel_rfl
def Z81.l0(R:Run)(N n:Nat)(a b:vN)(e:Int):Option Dv:=R.w (some ⟨(.c (.d yN a)::(.c (.d yN b)::(zd 3 (.c (.d yI e)::(zd 21 []))))),(zo 29 [])⟩) fun st=>lC R pol_Z81 4 N [1,1,0,1,0,0] F_Z81 n st (kB R pol_Z81 0 (kS R pol_Z81 8 N [1,1,1] F_Z81 (qqM E sg_Z81 F_Z81)))
theorem Z81.l0_succ(R:Run)(hw:R.ok)(N n:Nat)(a b:vN)(c:Int):Z81.l0 R N (n+1) a b c=(bif (decide (c<(List.length a:Int))) then((idx? a c).bind fun y4=>((idx? b c).bind fun y5=>((qgL R n_Z80 o_Z80 [⟨yI,y4.1⟩,⟨yI,y4.2.1⟩,⟨yI,y4.2.2.1⟩,⟨yL,y4.2.2.2.1⟩,⟨yI,y5.1⟩,⟨yI,y5.2.1⟩,⟨yI,y5.2.2.1⟩,⟨yL,y5.2.2.2.1⟩]).bind fun r6=>(bif (!r6.1) then some ⟨o_Z81,(false,())⟩ else(Z81.l0 R N n a b (w64 (c+1))))))) else some ⟨o_Z81,(true,())⟩):=(hw _ _).trans (by kernel_rfl)
theorem Z81.ev(R:Run)(N:Nat)(a0 a1:vN):qqq E R sg_Z81 pol_Z81 F_Z81 N [⟨yN,a0⟩,⟨yN,a1⟩]=(bif ((List.length a0:Int) != (List.length a1:Int)) then some ⟨o_Z81,(false,())⟩ else(Z81.l0 R N N a0 a1 (0:Int))):=by kernel_rfl
theorem Z82.ev(R:Run)(N:Nat)(a0:vK)(a1:Int)(a2:List Int)(a3:vN)(a4:vK)(a5:Int)(a6:List Int)(a7:vN):qqq E R sg_Z82 pol_Z82 F_Z82 N [⟨yK,a0⟩,⟨yI,a1⟩,⟨yL,a2⟩,⟨yN,a3⟩,⟨yK,a4⟩,⟨yI,a5⟩,⟨yL,a6⟩,⟨yN,a7⟩]=((qgL R n_Z77 o_Z77 [⟨yK,a0⟩,⟨yK,a4⟩]).bind fun r1=>(bif (!r1.1) then some ⟨o_Z82,(false,())⟩ else(bif (a1 != a5) then some ⟨o_Z82,(false,())⟩ else((qgL R n_Z78 o_Z78 [⟨yL,a2⟩,⟨yL,a6⟩]).bind fun r2=>(bif (!r2.1) then some ⟨o_Z82,(false,())⟩ else((qgL R n_Z81 o_Z81 [⟨yN,a3⟩,⟨yN,a7⟩]).bind fun r3=>(bif (!r3.1) then some ⟨o_Z82,(false,())⟩ else some ⟨o_Z82,(true,())⟩))))))):=by kernel_rfl
def Z85.l0(R:Run)(N n:Nat)(a b:Int)(e:List Int):Option Dv:=R.w (some ⟨(.c (.arr 19)::(.c (.d yI a)::(zd 3 (.c (.d yI b)::(zd 13 []))))),(zo 19 (some (.arr yI e true false true)::(none::[])))⟩) fun st=>lC R pol_Z85 2 N [1,0,1,0,0] F_Z85 n st (kB R pol_Z85 0 (kS R pol_Z85 6 N [1,1] F_Z85 (qqM E sg_Z85 F_Z85)))
theorem Z85.l0_succ(R:Run)(hw:R.ok)(N n:Nat)(a b:Int)(c:List Int):Z85.l0 R N (n+1) a b c=(bif (decide (b<(List.length c:Int))) then((chk (decide (0≤b)&&decide (b<(List.length c:Int)))).bind fun _=>(Z85.l0 R N n (w64 (a+1)) (w64 (b+1)) (List.set c (Int.toNat b) a))) else some ⟨o_Z85,(a,c,())⟩):=(hw _ _).trans (by kernel_rfl)
theorem Z85.ev(R:Run)(N:Nat)(a0:List Int)(a1:Int):qqq E R sg_Z85 pol_Z85 F_Z85 N [⟨yL,a0⟩,⟨yI,a1⟩]=(Z85.l0 R N N a1 (0:Int) a0):=by kernel_rfl
theorem Z84.ev(R:Run)(N:Nat)(a0:vK)(a1:Int):qqq E R sg_Z84 pol_Z84 F_Z84 N [⟨yK,a0⟩,⟨yI,a1⟩]=((qgL R n_Z86 o_Z86 [⟨yK,a0⟩,⟨yI,a1⟩]).bind fun r1=>some ⟨o_Z84,(r1.1,r1.2.1,())⟩):=by kernel_rfl
theorem Z88.ev(R:Run)(N:Nat)(a0:vK)(a1:Int)(a2:List Int)(a3:vN)(a4:Int):qqq E R sg_Z88 pol_Z88 F_Z88 N [⟨yK,a0⟩,⟨yI,a1⟩,⟨yL,a2⟩,⟨yN,a3⟩,⟨yI,a4⟩]=((qgL R n_Z84 o_Z84 [⟨yK,a0⟩,⟨yI,a4⟩]).bind fun r1=>((qgL R n_Z85 o_Z85 [⟨yL,a2⟩,⟨yI,r1.1⟩]).bind fun r2=>((qgL R n_Z87 o_Z87 [⟨yN,a3⟩,⟨yI,r2.1⟩]).bind fun r3=>some ⟨o_Z88,(r3.1,r1.2.1,r2.2.1,r3.2.1,())⟩))):=by kernel_rfl
def Z83.l0(R:Run)(N n:Nat)(a:List Int)(b e:Int):Option Dv:=R.w (some ⟨(.c (.d yL a)::(.c (.d yI b)::(zd 3 (.c (.d yI e)::(zd 15 []))))),(zo 23 [])⟩) fun st=>lC R pol_Z83 2 N [1,0,1,0,0] F_Z83 n st (kB R pol_Z83 0 (kS R pol_Z83 7 N [1,1] F_Z83 (qqM E sg_Z83 F_Z83)))
theorem Z83.l0_succ(R:Run)(hw:R.ok)(N n:Nat)(a:List Int)(b c:Int):Z83.l0 R N (n+1) a b c=(bif (decide (c<(List.length a:Int))) then((idx? a c).bind fun y4=>(bif ((y4,()).1 != b) then some ⟨o_Z83,((-1:Int),())⟩ else(Z83.l0 R N n a (w64 (b+1)) (w64 (c+1))))) else some ⟨o_Z83,(b,())⟩):=(hw _ _).trans (by kernel_rfl)
theorem Z83.ev(R:Run)(N:Nat)(a0:List Int)(a1:Int):qqq E R sg_Z83 pol_Z83 F_Z83 N [⟨yL,a0⟩,⟨yI,a1⟩]=(Z83.l0 R N N a0 a1 (0:Int)):=by kernel_rfl
def Z76.j2(R:Run)(N:Nat)(a:Int)(b:Bool)(e:List Int):Option Dv:=R.w (some ⟨(zd 9 (.c (.arr 109)::(V.dead::(V.dead::(.c (.d yI a)::(zd 79 (.c (.d .bool b)::(zd 8 [])))))))),(zo 109 (some (.arr yI e true false false)::[]))⟩) fun st=>eC R pol_Z76 N [1,1,1,1,1,1,1,1,1,1,1,1,1,1,1,1,1,1,1,0,1] F_Z76 st (kS R pol_Z76 27 N [1,1,1,1,1,1,1,1,1,1,1,1,1,1,1,1,1,1,1,1] F_Z76 (qqM E sg_Z76 F_Z76))
def Z76.j1(R:Run)(N:Nat)(a:Int)(b:List Int)(e:Int)(f:Bool)(g:vK)(h:Int)(i:List Int)(j:vN)(k:List Int):Option Dv:=R.w (some ⟨(V.dead::(.c (.d yI a)::(.c (.box 2 0)::(zd 3 (.c (.d yL b)::(.c (.d yI e)::(V.dead::(.c (.arr 109)::(zd 55 (.c (.d .bool f)::(zd 35 []))))))))))),(none::(none::(some (.box [.d yK g,.d yI h,.d yL i,.d yN j] false false)::(zo 106 (some (.arr yI k true false false)::[])))))⟩) fun st=>eC R pol_Z76 N [1,1,1,1,1,1,1,1,1,1,1,0,1] F_Z76 st (kS R pol_Z76 16 N [1,1,1,1,1,1,1,1,1,1,1,1] F_Z76 (qqM E sg_Z76 F_Z76))
def Z76.j0(R:Run)(N:Nat)(a:Int)(b:List Int)(e f:Int)(g:Bool)(h:vK)(i:Int)(j:List Int)(k:vN)(l:Int)(m:vK)(o:List Int)(p:vN)(q:List Int):Option Dv:=R.w (some ⟨(V.dead::(.c (.d yI a)::(.c (.box 2 0)::(zd 3 (.c (.d yL b)::(.c (.d yI e)::(.c (.box 8 0)::(.c (.arr 109)::(.c (.d yI f)::(zd 33 (.c (.d .bool g)::(zd 56 [])))))))))))),(none::(none::(some (.box [.d yK h,.d yI i,.d yL j,.d yN k] false false)::(zo 5 (some (.box [.arr 106,.d yI l,.arr 107,.arr 108] false false)::(zo 97 (some (.arr yL m true false false)::(some (.arr yI o true false false)::(some (.arr (.st yM) p true false false)::(some (.arr yI q true false false)::[]))))))))))⟩) fun st=>eC R pol_Z76 N [1,1,1,1,1,1,1,0,1] F_Z76 st (kS R pol_Z76 10 N [1,1,1,1,1,1,1,1] F_Z76 (qqM E sg_Z76 F_Z76))
theorem Z76.j2_eq(R:Run)(hw:R.ok)(N:Nat)(a:Int)(b:Bool)(c:List Int):Z76.j2 R N a b c=(bif b then some ⟨o_Z76,(false,())⟩ else((qgL R n_Z83 o_Z83 [⟨yL,c⟩,⟨yI,(1:Int)⟩]).bind fun r41=>(bif (decide (r41.1<(0:Int))) then some ⟨o_Z76,(false,())⟩ else(bif (r41.1 != a) then some ⟨o_Z76,(false,())⟩ else some ⟨o_Z76,(true,())⟩)))):=(hw _ _).trans (by kernel_rfl)
theorem Z76.j1_eq(R:Run)(hw:R.ok)(N:Nat)(a:Int)(b:List Int)(c:Int)(d:Bool)(e:vK)(f:Int)(g:List Int)(h:vN)(i:List Int):Z76.j1 R N a b c d e f g h i=(bif d then some ⟨o_Z76,(false,())⟩ else((qgL R n_Z85 o_Z85 [⟨yL,i⟩,⟨yI,(1:Int)⟩]).bind fun r33=>((qgL R n_Z83 o_Z83 [⟨yL,r33.2.1⟩,⟨yI,(1:Int)⟩]).bind fun r34=>(bif (decide (r34.1<(0:Int))) then some ⟨o_Z76,(false,())⟩ else(bif (r34.1 != r33.1) then some ⟨o_Z76,(false,())⟩ else((qgL R n_Z100 o_Z100 [⟨yK,e⟩,⟨yI,f⟩,⟨yL,g⟩,⟨yN,h⟩]).bind fun r35=>((qgL R n_Z5 o_Z5 [⟨yK,r35.1⟩,⟨yI,r35.2.1⟩,⟨yL,r35.2.2.1⟩,⟨yN,r35.2.2.2.1⟩,⟨yI,a⟩]).bind fun r36=>((qgL R n_Z78 o_Z78 [⟨yL,r36.1⟩,⟨yL,b⟩]).bind fun r37=>(bif (!r37.1) then(Z76.j2 R N r33.1 true r33.2.1) else(Z76.j2 R N r33.1 (r36.2.1 != c) r33.2.1)))))))))):=(hw _ _).trans (by kernel_rfl)
theorem Z76.j0_eq(R:Run)(hw:R.ok)(N:Nat)(a:Int)(b:List Int)(c d:Int)(e:Bool)(f:vK)(g:Int)(h:List Int)(i:vN)(j:Int)(k:vK)(l:List Int)(m:vN)(o:List Int):Z76.j0 R N a b c d e f g h i j k l m o=(bif e then some ⟨o_Z76,(false,())⟩ else((qgL R n_Z100 o_Z100 [⟨yK,f⟩,⟨yI,g⟩,⟨yL,h⟩,⟨yN,i⟩]).bind fun r21=>((qgL R n_Z82 o_Z82 [⟨yK,k⟩,⟨yI,j⟩,⟨yL,l⟩,⟨yN,m⟩,⟨yK,r21.1⟩,⟨yI,r21.2.1⟩,⟨yL,r21.2.2.1⟩,⟨yN,r21.2.2.2.1⟩]).bind fun r22=>(bif (!r22.1) then some ⟨o_Z76,(false,())⟩ else((qgL R n_Z88 o_Z88 [⟨yK,k⟩,⟨yI,j⟩,⟨yL,l⟩,⟨yN,m⟩,⟨yI,(1:Int)⟩]).bind fun r23=>(bif (decide (r23.1<(0:Int))) then(Z76.j1 R N a b c true f g h i o) else((qgL R n_Z78 o_Z78 [⟨yL,o⟩,⟨yL,b⟩]).bind fun r45=>(bif (!r45.1) then(Z76.j1 R N a b c true f g h i o) else(Z76.j1 R N a b c (d != c) f g h i o))))))))):=(hw _ _).trans (by kernel_rfl)
theorem Z76.ev(R:Run)(N:Nat)(a0:vK)(a1:Int)(a2:List Int)(a3:vN)(a4:Int):qqq E R sg_Z76 pol_Z76 F_Z76 N [⟨yK,a0⟩,⟨yI,a1⟩,⟨yL,a2⟩,⟨yN,a3⟩,⟨yI,a4⟩]=((qgL R n_Z94 o_Z94 [⟨yK,a0⟩,⟨yI,a1⟩,⟨yL,a2⟩,⟨yN,a3⟩,⟨yI,(1048576:Int)⟩]).bind fun r1=>(bif (decide (r1.1<(0:Int))) then some ⟨o_Z76,(true,())⟩ else((qgL R n_Z100 o_Z100 [⟨yK,a0⟩,⟨yI,a1⟩,⟨yL,a2⟩,⟨yN,a3⟩]).bind fun r2=>((qgL R n_Z124 o_Z124 [⟨yK,r2.1⟩,⟨yI,r2.2.1⟩,⟨yL,r2.2.2.1⟩,⟨yN,r2.2.2.2.1⟩,⟨yI,a4⟩]).bind fun r3=>((qgL R n_Z100 o_Z100 [⟨yK,a0⟩,⟨yI,a1⟩,⟨yL,a2⟩,⟨yN,a3⟩]).bind fun r4=>((qgL R n_Z5 o_Z5 [⟨yK,r4.1⟩,⟨yI,r4.2.1⟩,⟨yL,r4.2.2.1⟩,⟨yN,r4.2.2.2.1⟩,⟨yI,a4⟩]).bind fun r5=>((qgL R n_Z78 o_Z78 [⟨yL,r5.1⟩,⟨yL,r3.1⟩]).bind fun r6=>(bif (!r6.1) then(Z76.j0 R N a4 r3.1 r3.2.1 r5.2.1 true a0 a1 a2 a3 r4.2.1 r4.1 r4.2.2.1 r4.2.2.2.1 r5.1) else(Z76.j0 R N a4 r3.1 r3.2.1 r5.2.1 (r5.2.1 != r3.2.1) a0 a1 a2 a3 r4.2.1 r4.1 r4.2.2.1 r4.2.2.2.1 r5.1))))))))):=by kernel_rfl
end
end VeT


namespace VeT
section
open Go Go.Proofs Go.RowKit Go.Lib
set_option maxHeartbeats 4000000 in
set_option maxRecDepth 100000 in
theorem qlo(b n c:Nat)(A:Option Addr)(hA:0<n→A=some ⟨b,0,none⟩)(hnc:n≤c)(hn:n≤9223372036854775807)(Inv:Nat→Int→World→Prop)(k:Int)(w:World)(h0:Inv 0 k w)
  (hk:∀ i k' wr,i<n→Inv i k' wr→0≤k'∧k'≤4611686018427387904)
  (step:∀ i k' wr,i<n→Inv i k' wr→∃ v0 v1 v2 u,wr.cell? ⟨b,i*4,none⟩=some v0∧wr.cell? ⟨b,i*4+1,none⟩=some v1∧wr.cell? ⟨b,i*4+2,none⟩=some v2∧wr.cell? ⟨b,i*4+3,none⟩=some u ∧
   wr.frozen? ⟨b,i*4,none⟩=false∧wr.frozen? ⟨b,i*4+1,none⟩=false∧wr.frozen? ⟨b,i*4+2,none⟩=false ∧
   Calls Tryz.prog 11 #[u,.int .i64 (k'+1+1+1)] (((wr.setCell ⟨b,i*4,none⟩ (.int .i64 k')).setCell ⟨b,i*4+1,none⟩ (.int .i64 (k'+1))).setCell ⟨b,i*4+2,none⟩ (.int .i64 (k'+1+1))) fun e w'=>∃ k2,e=.returned (.int .i64 k2)∧Inv (i+1) k2 w') :
  Calls Tryz.prog 35 #[.slice A n c,.int .i64 k] w fun e w'=>∃ k2,e=.returned (.int .i64 k2)∧Inv n k2 w':=by
 go_enter Tryz.func35,Tryz.ntmps35
 go_wp2
 go_loopw [1,5] (fun kv iv wr=>∃ i:Nat,∃ k':Int,i≤n∧iv=.int .i64 i∧kv=.int .i64 k'∧Inv i k' wr) (fun _ iv _=>n-(RowKit.intOf iv).toNat)
 case atStart=>exact⟨0,k,Nat.zero_le _,rfl,rfl,h0⟩
 case round =>
  obtain⟨i,k',hi,rfl,rfl,hInv⟩:=hrel
  by_cases hlt:i<n
  ·obtain rfl:=hA (by omega)
   obtain⟨v0,v1,v2,u,c0,c1,c2,c3,f0,f1,f2,hcall⟩:=step i k' _ hlt hInv
   have hkb:=hk i k' _ hlt hInv
   have w1:wrap64 (k'+1)=k'+1:=by unfold wrap64;omega
   have w2:wrap64 (k'+1+1)=k'+1+1:=by unfold wrap64;omega
   have w3:wrap64 (k'+1+1+1)=k'+1+1+1:=by unfold wrap64;omega
   go_wp2_with (go_at_call 11;refine hcall.mono ?_;rintro e w' ⟨k2,rfl,hI2⟩)
   go_roundw
   case rel=>exact⟨i+1,k2,by omega,by simp,rfl,hI2⟩
   case measure=>simp[RowKit.intOf];omega
  ·obtain rfl:i=n:=by omega
   go_wp2
   go_ret
   exact⟨k',rfl,hInv⟩
open Ve in
theorem qhY{R:Run}(hR:∀ args dv,R.r 11 args=some dv→qa4 E.gs Tryz.prog ⟨[(false,1),(false,1)],[.io true,.imm],oM,[(false,1)],[],[]⟩ 11 args dv){args:List Dv}{dv:Dv}(h:qfF 11 R args=some dv) :
  qa4 E.gs Tryz.prog ⟨[(false,1),(false,1)],[.io true,.imm],.cons tI (.cons (.sl tM) .nil),[(false,1)],[],[]⟩ 35 args dv :=
 qh5 qlo hR h
set_option maxHeartbeats 2000000 in
set_option maxRecDepth 100000 in
theorem qlt(b n c:Nat)(A:Option Addr)(hA:0<n→A=some ⟨b,0,none⟩)(hnc:n≤c)(hn:n≤9223372036854775807)(Inv:Nat→Int→World→Prop)(k:Int)(w:World)(h0:Inv 0 k w)
  (step:∀ i k' wr,i<n→Inv i k' wr→∃ u,wr.cell? ⟨b,i,none⟩=some u∧Calls Tryz.prog 11 #[u,.int .i64 k'] wr fun e w'=>∃ k2,e=.returned (.int .i64 k2)∧Inv (i+1) k2 w') :
  Calls Tryz.prog 52 #[.slice A n c,.int .i64 k] w fun e w'=>∃ k2,e=.returned (.int .i64 k2)∧Inv n k2 w':=by
 go_enter Tryz.func52,Tryz.ntmps52
 go_wp2
 go_loopw [1,5] (fun kv iv wr=>∃ i:Nat,∃ k':Int,i≤n∧iv=.int .i64 i∧kv=.int .i64 k'∧Inv i k' wr) (fun _ iv _=>n-(RowKit.intOf iv).toNat)
 case atStart=>exact⟨0,k,Nat.zero_le _,rfl,rfl,h0⟩
 case round =>
  obtain⟨i,k',hi,rfl,rfl,hInv⟩:=hrel
  by_cases hlt:i<n
  ·obtain rfl:=hA (by omega)
   obtain⟨u,hu,hcall⟩:=step i k' _ hlt hInv
   go_wp2_with (go_at_call 11;refine hcall.mono ?_;rintro e w' ⟨k2,rfl,hI2⟩)
   go_roundw
   case rel=>exact⟨i+1,k2,by omega,by simp,rfl,hI2⟩
   case measure=>simp[RowKit.intOf];omega
  ·obtain rfl:i=n:=by omega
   go_wp2
   go_ret
   exact⟨k',rfl,hInv⟩
open Ve in
theorem qg8{R:Run}(hR:∀ args dv,R.r 11 args=some dv→qa4 E.gs Tryz.prog ⟨[(false,1),(false,1)],[.io true,.imm],oM,[(false,1)],[],[]⟩ 11 args dv){args:List Dv}{dv:Dv}(h:qfC 11 R args=some dv) :
  qa4 E.gs Tryz.prog ⟨[(false,1),(false,1)],[.io true,.imm],.cons tI (.cons (.sl tL) .nil),[(false,1)],[],[]⟩ 52 args dv :=
 qiT qlt hR h
set_option maxHeartbeats 2000000 in
set_option maxRecDepth 100000 in
theorem qkx(base:Option Addr)(l c n:Nat)(w:World)(hlc:l≤c)(hc63:c≤9223372036854775807)(hn63:n≤9223372036854775807)(hroom:l+n≤c) :
  Calls Tryz.prog 151 #[.slice base l c,.int .i64 n] w fun e w'=>e=.returned (.slice base l c)∧w'=w:=by
 have h1:¬ ((n:Int)<0):=by omega
 have h2:wrap64 ((c:Int)-(l:Int))=(c:Int)-(l:Int):=by unfold wrap64;omega
 have h3:wrap64 ((n:Int)-((c:Int)-(l:Int)))=(n:Int)-((c:Int)-(l:Int)):=by unfold wrap64;omega
 have h4:¬ ((n:Int)-((c:Int)-(l:Int))>0):=by omega
 go_enter Tryz.func151,Tryz.ntmps151
 go_wp2
 go_ret
 exact⟨rfl,rfl⟩
set_option maxHeartbeats 4000000 in
set_option maxRecDepth 100000 in
theorem qku(i0:TypeInfo)(z:Value)(hi0:Tryz.prog.info? 2=some i0)(hz0:i0.zero=some z)(hs0:0<i0.size)
    (base:Option Addr) (l c n:Nat) (cs:List Value) (w:World) (hlc:l≤c) (hroom:c<l+n) (hbig:(l+n)*i0.bytes≤140737488355328) (h63:l+n≤4611686018427387904)
    (hcl:cs.length=c*i0.size) (hnil:base=none→c=0) (hcs:∀ a,base=some a→∀(j:Nat) v,cs[j]? = some v→w.cell? (a.add j)=some v) :
    Calls Tryz.prog 151 #[.slice base l c,.int .i64 n] w fun e w' =>
      e=.returned (.slice (some ⟨w.heap.size,0,none⟩) l (grownCap w (l+n) c 2)) ∧
      w'=w.drew.alloc (.cells (cs.toArray++Builtin.zeroCells z.cells (l+n-c)++Builtin.zeroCells z.cells (grownCap w (l+n) c 2-(l+n))) 2):=by
  have h1:¬ ((n:Int)<0):=by omega
  have h2:wrap64 ((c:Int)-(l:Int))=(c:Int)-(l:Int):=by unfold wrap64;omega
  have h3:wrap64 ((n:Int)-((c:Int)-(l:Int)))=(n:Int)-((c:Int)-(l:Int)):=by unfold wrap64;omega
  have h4:(n:Int)-((c:Int)-(l:Int))>0:=by omega
  have z25:∀ w,(Go.sizeOf 2).run Tryz.prog w=.ok i0.size w:=fun w=>by simp[Go.sizeOf,typeInfo,hi0]
  have hck:c+(l+n-c)=l+n:=by omega
  have hold:(Builtin.firstCells i0.size c (.slice base c c)).run Tryz.prog w.drew=.ok cs.toArray w.drew:=by
    cases base with
    | none =>
      have h0:=hnil rfl
      subst h0
      have hc0:cs=[]:=List.length_eq_zero_iff.1 (by simpa using hcl)
      rw[hc0]
      exact run_firstCells_none w.drew i0.size 0 0 0
    | some a=>exact run_firstCells_some w.drew i0.size c a c c cs hcl (fun j v hj=>hcs a rfl j v hj)
  have hrz:∀ ty,(Builtin.append_ #[25,3] ty #[.slice base c c,.int .i64 ((n:Int)-((c:Int)-(l:Int)))]).run Tryz.prog w =
      .ok (.slice (some ⟨w.heap.size,0,none⟩) (l+n) (grownCap w (l+n) c 2)) (w.drew.alloc (.cells (cs.toArray++Builtin.zeroCells z.cells (l+n-c)++Builtin.zeroCells z.cells (grownCap w (l+n) c 2-(l+n))) 2)):=fun ty=>by
    have h:=Lib.run_append_grow_zeros w 25 3 ty 2 i0 z .i64 .i64 Tryz.underlying25 Tryz.underlying3 hi0 hz0 base c c cs hold (l+n-c) (by omega) hs0 (by omega) (by omega)
      (by have:(l+n-c)*i0.bytes≤(l+n)*i0.bytes:=Nat.mul_le_mul_right _ (by omega)
          omega)
      (by rw[hck];exact growslice_fits hroom hbig)
    rw[hck] at h
    rw[show(n:Int)-((c:Int)-(l:Int))=((l+n-c:Nat):Int) by omega]
    exact h
  have hGn:l+n≤grownCap w (l+n) c 2:=grownCap_ge w _ _ _
  obtain⟨G,hG⟩:∃ G,G=grownCap w (l+n) c 2:=⟨_,rfl⟩
  rw[← hG] at hrz hGn ⊢
  have hG63:G≤9223372036854775807:=by
    have:=grownCap_le_maxLen w (l+n) c 2 (by unfold maxLen;omega)
    rw[← hG] at this
    unfold maxLen at this
    omega
  clear hold hck hG hcs hcl
  go_enter Tryz.func151,Tryz.ntmps151
  cases base with
  | none =>
    have h0:=hnil rfl
    subst h0
    obtain rfl:l=0:=by omega
    go_wp2_with (at_builtin;refine Lib.wpList_append_run _ rfl _ _ _ _ rfl _ _ rfl rfl _ _ (hrz _) ?_)
    all_goals (go_ret;exact⟨rfl,rfl⟩)
  | some a =>
    obtain⟨ab,ao,asp⟩:=a
    go_wp2_with (at_builtin;refine Lib.wpList_append_run _ rfl _ _ _ _ rfl _ _ rfl rfl _ _ (hrz _) ?_)
    all_goals (go_ret;exact⟨rfl,rfl⟩)
theorem qkt:(Tryz.prog.info? 2).any (fun i=>i.size==Ve.Ty.size yI&&i.zero.any (fun z=>z.cells.size==Ve.Ty.size yI)&&decide (i.bytes≤64*Ve.Ty.size yI)&&decide (0<i.bytes)&&decide (0<Ve.Ty.size yI))=true:=by kernel_rfl
open Ve in
theorem qgo(R:Run){args:List Dv}{dv:Dv}(h:qmD yI R args=some dv) :
  qa4 E.gs Tryz.prog ⟨[(false,1),(false,1)],[.take true,.imm],.cons yL .nil,[(false,1)],[.deep],[]⟩ 151 args dv:=by
 have hi:=qkt
 cases hi0:Tryz.prog.info? 2 with
 | none=>rw[hi0] at hi;cases hi
 | some i0 =>
  rw[hi0] at hi
  simp only[Option.any_some,Bool.and_eq_true,decide_eq_true_eq,beq_iff_eq] at hi
  obtain⟨⟨⟨⟨h1,h2⟩,h3⟩,h4⟩,h5⟩:=hi
  cases hz:i0.zero with
  | none=>rw[hz] at h2;cases h2
  | some z =>
   rw[hz] at h2
   exact qjL h1 (by simpa using h2) h5 h3 h4 qkx (fun base l c n cs w a1 a2 a3 a4 a5 a6 a7=>qku i0 z hi0 hz (by rw[h1];exact h5) base l c n cs w a1 a2 a3 a4 a5 a6 a7) R h
end
section
open Go Ve
theorem qoC:primL=(List.range 176).map fun i=>bif Nat.beq i 35 then some (qfF n_Z85) else bif Nat.beq i 52 then some (qfC n_Z85) else bif Nat.beq i 151 then some (qmD yI) else none:=by kernel_rfl
theorem qqn:∀ f p,E.prim f=some p→∀ r,qhH E (mkR r)→∀ args dv sg,E.sig f=some sg→p (mkR r) args=some dv→qa4 E.gs E.P sg f args dv:=by
 intro f p hp r hr args dv sg hsg h
 have hp:primL.getD f none=some p:=hp
 rw[qoC,List.getD_eq_getElem?_getD,List.getElem?_map] at hp
 by_cases hf:f<176
 ·rw[List.getElem?_range hf] at hp
  simp only[Option.map_some,Option.getD_some] at hp
  by_cases h35:f=35
  ·subst h35
   obtain rfl:(qfF n_Z85)=p:=Option.some.inj hp
   obtain rfl:sg_Z87=sg:=Option.some.inj (sig_laws_markMatrixS_eq.symm.trans hsg)
   exact qhY (fun args dv h=>hr _ args dv _ sig_laws_markInt64S_eq h) h
  rw[show Nat.beq f 35=false from Bool.eq_false_iff.2 fun h=>h35 (Nat.eq_of_beq_eq_true h),cond_false] at hp
  by_cases h52:f=52
  ·subst h52
   obtain rfl:(qfC n_Z85)=p:=Option.some.inj hp
   obtain rfl:sg_Z86=sg:=Option.some.inj (sig_laws_markInt64SS_eq.symm.trans hsg)
   exact qg8 (fun args dv h=>hr _ args dv _ sig_laws_markInt64S_eq h) h
  rw[show Nat.beq f 52=false from Bool.eq_false_iff.2 fun h=>h52 (Nat.eq_of_beq_eq_true h),cond_false] at hp
  by_cases h151:f=151
  ·subst h151
   obtain rfl:(qmD yI)=p:=Option.some.inj hp
   obtain rfl:sg_Z114=sg:=Option.some.inj (sig_slices_Grow_Sint64_int64_eq.symm.trans hsg)
   exact qgo _ h
  rw[show Nat.beq f 151=false from Bool.eq_false_iff.2 fun h=>h151 (Nat.eq_of_beq_eq_true h),cond_false] at hp
  cases hp
 ·rw[List.getElem?_eq_none (by simpa using hf)] at hp
  cases hp
end
end VeT
open Go Go.Proofs Ve
namespace VeT
theorem qdN(x:(List Int))(l:Int)(hx:Wf yL x)(h0:0≤l)(h1:l≤1048576) :
  ∃ r:Int,Ret E n_Z90 [⟨yL,x⟩,⟨.int .i64,l⟩] ⟨o_Z90,(r,())⟩∧(0≤r→r≤l∧Sm yL x):=by
 have hx1:x.length≤maxLen:=hx.1
 rw[qhL] at hx1
 have hw:w64 (l-x.length)=l-x.length:=qah (by omega) (by omega)
 by_cases hc:l-(x.length:Int)<0
 ·refine⟨-1,Evt.succ (Evt.of fun n=>?_),fun h=>by omega⟩
  rw[run_Z90,Z90.ev,hw,decide_eq_true hc];rfl
 ·refine⟨l-x.length,Evt.succ (Evt.of fun n=>?_),fun h=>⟨by omega,by omega,fun x _=>trivial⟩⟩
  rw[run_Z90,Z90.ev,hw,decide_eq_false hc];rfl
theorem qdY(x:(List Int))(hx:Sm yL x):Ret E n_Z96 [⟨yL,x⟩] ⟨o_Z96,(x,())⟩:=by
  have hx1:x.length≤1048576:=hx.1
  have hl:=qhX (a:=x) (L:=fun m n i o=>Z96.l0 (mkR (run E m)) m n x i o) (z:=List.replicate (Int.toNat (List.length x:Int)) (0:Int)) (r:=some ⟨o_Z96,(x,())⟩) (by simp) (fun k o hk ho=>by
      refine Evt.of fun m n=>?_
      show Z96.l0 _ _ _ _ _ _=_
      rw[Z96.l0_succ _ qae,decide_eq_true (show(k:Int)<x.length by omega),cond_true,qak hk]
      simp only[Option.bind_some]
      rw[qeb (by simp;omega),qad (by omega),Int.toNat_natCast]) (Evt.of fun m n=>by
      show Z96.l0 _ _ _ _ _ _=_
      rw[Z96.l0_succ _ qae,decide_eq_false (by omega),cond_false])
  refine Evt.succ (hl.mono fun n h=>?_)
  rw[run_Z96,Z96.ev,qeb (by simp;omega)]
  exact h
theorem qb7(x y:(List Int))(hx:Sm yL x):∃ b:Bool,Ret E n_Z78 [⟨yL,x⟩,⟨yL,y⟩] ⟨o_Z78,(b,())⟩∧(b=true↔x=y):=by
 have hx1:x.length≤1048576:=hx.1
 by_cases hl:x.length=y.length
 ·have hd:((x.length:Int) != (y.length:Int))=false:=by simp[hl]
  obtain⟨h1,h2⟩:=qhM (a:=x) (b:=y) (L:=fun m n i (_:Unit)=>Z78.l0 (mkR (run E m)) m n x y i) (fun u v=>u=v) (rt:=some ⟨o_Z78,(true,())⟩) (rf:=some ⟨o_Z78,(false,())⟩) hl.symm
   (fun k h h' hne=>Evt.of fun m n=>by
   show Z78.l0 _ _ _ _ _ _=_
   rw[Z78.l0_succ _ qae,decide_eq_true (show(k:Int)<x.length by omega),cond_true,qak h,qak h']
   have:(x[k] != y[k])=true:=by simpa using hne
   simp only[Option.bind_some,this,cond_true])
   (fun k h h' he=>Evt.of fun m n=>by
   show Z78.l0 _ _ _ _ _ _=_
   rw[Z78.l0_succ _ qae,decide_eq_true (show(k:Int)<x.length by omega),cond_true,qak h,qak h']
   have:(x[k] != y[k])=false:=by simpa using he
   simp only[Option.bind_some,this,cond_false]
   rw[qad (by omega)])
   (Evt.of fun m n=>by
   show Z78.l0 _ _ _ _ _ _=_
   rw[Z78.l0_succ _ qae,decide_eq_false (by omega),cond_false])
  by_cases he:x=y
  ·refine⟨true,Evt.succ ((h1 (by subst he;intros;rfl)).mono fun n h=>?_),by simp[he]⟩
   rw[run_Z78,Z78.ev,hd,cond_false]
   exact h
  ·refine⟨false,Evt.succ ((h2 fun hh=>he (List.ext_getElem hl hh)).mono fun n h=>?_),by simp[he]⟩
   rw[run_Z78,Z78.ev,hd,cond_false]
   exact h
 ·have hd:((x.length:Int) != (y.length:Int))=true:=by simp;omega
  refine⟨false,Evt.succ (Evt.of fun n=>?_),⟨fun h=>(nomatch h),fun h=>absurd (congrArg List.length h) hl⟩⟩
  rw[run_Z78,Z78.ev,hd,cond_true]
theorem qjq(x:vK)(l:Int)(hx:Wf yK x)(h0:0≤l)(h1:l≤1048576) :
    ∃ r:Int,Ret E n_Z91 [⟨yK,x⟩,⟨.int .i64,l⟩] ⟨o_Z91,(r,())⟩∧(0≤r→r≤l∧Sm yK x):=by
  have hx1:x.length≤maxLen:=hx.1
  rw[qhL] at hx1
  have hw:w64 (l-x.length)=l-x.length:=qah (by omega) (by omega)
  by_cases hc:l-(x.length:Int)<0
  · refine⟨-1,Evt.succ (Evt.of fun n=>?_),fun h=>by omega⟩
    rw[run_Z91,Z91.ev,hw,decide_eq_true hc];rfl
  · obtain⟨r,hr,hs⟩:=qnb (xs:=x) (L:=fun m n i left=>Z91.l0 (mkR (run E m)) m n x left i) (ret:=fun r=>some ⟨o_Z91,(r,())⟩) (fun x=>Sm yL x) (fun k left hk hl0 hl1=>by
      obtain⟨r,hr,hs⟩:=qdN x[k] left (hx.2 _ (List.getElem_mem hk)) hl0 hl1
      refine⟨r,hs,hr.mono fun m h n=>?_⟩
      show Z91.l0 _ _ _ _ _ _=_
      rw[Z91.l0_succ _ qae,decide_eq_true (show(k:Int)<x.length by omega),cond_true,qak hk]
      simp only[Option.bind_some,qaz h]
      rw[qad (by omega)]) (fun left=>Evt.of fun m n=>by
      show Z91.l0 _ _ _ _ _ _=_
      rw[Z91.l0_succ _ qae,decide_eq_false (by omega),cond_false]) (l-x.length) (by omega) (by omega)
    refine⟨r,Evt.succ (hr.mono fun n h=>?_),fun h=>⟨by have:=(hs h).1;omega,by omega,(hs h).2⟩⟩
    rw[run_Z91,Z91.ev,hw,decide_eq_false hc]
    exact h
theorem qjt(x:vK)(hx:Sm yK x):Ret E n_Z97 [⟨yK,x⟩] ⟨o_Z97,(x,())⟩:=by
  have hx1:x.length≤1048576:=hx.1
  have hl:=qhX (a:=x) (L:=fun m n i o=>Z97.l0 (mkR (run E m)) m n x i o) (z:=List.replicate (Int.toNat (List.length x:Int)) ([]:List Int)) (r:=some ⟨o_Z97,(x,())⟩) (by simp) (fun k o hk ho=>by
      have hr:=qdY x[k] (hx.2 _ (List.getElem_mem hk))
      refine hr.mono fun m h n=>?_
      show Z97.l0 _ _ _ _ _ _=_
      rw[Z97.l0_succ _ qae,decide_eq_true (show(k:Int)<x.length by omega),cond_true,qak hk]
      simp only[Option.bind_some,qaz h]
      rw[qeb (by simp;omega),qad (by omega),Int.toNat_natCast]) (Evt.of fun m n=>by
      show Z97.l0 _ _ _ _ _ _=_
      rw[Z97.l0_succ _ qae,decide_eq_false (by omega),cond_false])
  refine Evt.succ (hl.mono fun n h=>?_)
  rw[run_Z97,Z97.ev,qeb (by simp;omega)]
  exact h
theorem qjO(x y:vK)(hx:Sm yK x):∃ b:Bool,Ret E n_Z79 [⟨yK,x⟩,⟨yK,y⟩] ⟨o_Z79,(b,())⟩∧(b=true↔x=y):=by
 have hx1:x.length≤1048576:=hx.1
 by_cases hl:x.length=y.length
 ·have hd:((x.length:Int) != (y.length:Int))=false:=by simp[hl]
  obtain⟨h1,h2⟩:=qhM (a:=x) (b:=y) (L:=fun m n i (_:Unit)=>Z79.l0 (mkR (run E m)) m n x y i) (fun u v=>u=v) (rt:=some ⟨o_Z79,(true,())⟩) (rf:=some ⟨o_Z79,(false,())⟩) hl.symm
   (fun k h h' hne=>by
   obtain⟨b,hb,hbe⟩:=qb7 x[k] y[k] (hx.2 _ (List.getElem_mem h))
   have hb0:b=false:=by cases b<;>simp_all
   subst hb0
   refine hb.mono fun m hm n=>?_
   show Z79.l0 _ _ _ _ _ _=_
   rw[Z79.l0_succ _ qae,decide_eq_true (show(k:Int)<x.length by omega),cond_true,qak h,qak h']
   simp only[Option.bind_some,qaz hm,Bool.not_false,Bool.not_true,cond_true,cond_false])
   (fun k h h' he=>by
   obtain⟨b,hb,hbe⟩:=qb7 x[k] y[k] (hx.2 _ (List.getElem_mem h))
   have hb0:b=true:=by cases b<;>simp_all
   subst hb0
   refine hb.mono fun m hm n=>?_
   show Z79.l0 _ _ _ _ _ _=_
   rw[Z79.l0_succ _ qae,decide_eq_true (show(k:Int)<x.length by omega),cond_true,qak h,qak h']
   simp only[Option.bind_some,qaz hm,Bool.not_false,Bool.not_true,cond_true,cond_false]
   rw[qad (by omega)])
   (Evt.of fun m n=>by
   show Z79.l0 _ _ _ _ _ _=_
   rw[Z79.l0_succ _ qae,decide_eq_false (by omega),cond_false])
  by_cases he:x=y
  ·refine⟨true,Evt.succ ((h1 (by subst he;intros;rfl)).mono fun n h=>?_),by simp[he]⟩
   rw[run_Z79,Z79.ev,hd,cond_false]
   exact h
  ·refine⟨false,Evt.succ ((h2 fun hh=>he (List.ext_getElem hl hh)).mono fun n h=>?_),by simp[he]⟩
   rw[run_Z79,Z79.ev,hd,cond_false]
   exact h
 ·have hd:((x.length:Int) != (y.length:Int))=true:=by simp;omega
  refine⟨false,Evt.succ (Evt.of fun n=>?_),⟨fun h=>(nomatch h),fun h=>absurd (congrArg List.length h) hl⟩⟩
  rw[run_Z79,Z79.ev,hd,cond_true]
theorem qi5(x:(vK×Unit))(l:Int)(hx:Wf (.st yC) x)(h0:0≤l)(h1:l≤1048576) :
  ∃ r:Int,Ret E n_Z89 [⟨yK,x.1⟩,⟨.int .i64,l⟩] ⟨o_Z89,(r,())⟩∧(0≤r→r≤l∧Sm (.st yC) x):=by
 obtain⟨r0,hr0,hs0⟩:=qjq x.1 l hx.1 (by omega) (by omega)
 by_cases hc0:r0<0
 ·refine⟨-1,Evt.succ (hr0.mono fun n e0=>?_),fun h=>by omega⟩
  rw[run_Z89,Z89.ev]
  simp only[Option.bind_some,cond_true,cond_false,qaz e0,decide_eq_true hc0]
 have hb0:=hs0 (by omega)
 refine⟨r0,Evt.succ (hr0.mono fun n e0=>?_),fun h=>⟨by omega,?_⟩⟩
 ·skip
  rw[run_Z89,Z89.ev]
  simp only[Option.bind_some,cond_true,cond_false,qaz e0,decide_eq_false hc0]
 ·exact⟨hb0.2,trivial⟩
theorem qji(x:(vK×Unit))(hx:Sm (.st yC) x):Ret E n_Z95 [⟨yK,x.1⟩] ⟨o_Z95,x⟩:=by
 have hr0:=qjt x.1 hx.1
 refine Evt.succ (hr0.mono fun n e0=>?_)
 rw[run_Z95,Z95.ev]
 simp only[Option.bind_some,qaz e0]
theorem qjI(x y:(vK×Unit))(hx:Sm (.st yC) x):∃ b:Bool,Ret E n_Z77 [⟨yK,x.1⟩,⟨yK,y.1⟩] ⟨o_Z77,(b,())⟩∧(b=true↔x=y):=by
 obtain⟨b0,hr0,hb0⟩:=qjO x.1 y.1 hx.1
 refine⟨b0,Evt.succ (hr0.mono fun n e0=>?_),?_⟩
 ·skip
  rw[run_Z77,Z77.ev]
  simp only[Option.bind_some,qaz e0]
  clear hx hr0 e0 hb0
  cases b0<;>rfl
 ·obtain⟨x0,_⟩:=x
  obtain⟨y0,_⟩:=y
  simp only[Bool.and_eq_true,decide_eq_true_eq,hb0,Prod.mk.injEq,and_true]
  try simp only[and_assoc]
theorem qk0(x:vM)(l:Int)(hx:Wf (.st yM) x)(h0:0≤l)(h1:l≤1048576) :
  ∃ r:Int,Ret E n_Z92 [⟨yI,x.1⟩,⟨yI,x.2.1⟩,⟨yI,x.2.2.1⟩,⟨yL,x.2.2.2.1⟩,⟨.int .i64,l⟩] ⟨o_Z92,(r,())⟩∧(0≤r→r≤l∧Sm (.st yM) x):=by
 obtain⟨r0,hr0,hs0⟩:=qdN x.2.2.2.1 l hx.2.2.2.1 (by omega) (by omega)
 by_cases hc0:r0<0
 ·refine⟨-1,Evt.succ (hr0.mono fun n e0=>?_),fun h=>by omega⟩
  rw[run_Z92,Z92.ev]
  simp only[Option.bind_some,cond_true,cond_false,qaz e0,decide_eq_true hc0]
 have hb0:=hs0 (by omega)
 refine⟨r0,Evt.succ (hr0.mono fun n e0=>?_),fun h=>⟨by omega,?_⟩⟩
 ·skip
  rw[run_Z92,Z92.ev]
  simp only[Option.bind_some,cond_true,cond_false,qaz e0,decide_eq_false hc0]
 ·exact⟨trivial,trivial,trivial,hb0.2,trivial⟩
theorem qj1(x:vM)(hx:Sm (.st yM) x):Ret E n_Z98 [⟨yI,x.1⟩,⟨yI,x.2.1⟩,⟨yI,x.2.2.1⟩,⟨yL,x.2.2.2.1⟩] ⟨o_Z98,x⟩:=by
 have hr0:=qdY x.2.2.2.1 hx.2.2.2.1
 refine Evt.succ (hr0.mono fun n e0=>?_)
 rw[run_Z98,Z98.ev]
 simp only[Option.bind_some,qaz e0]
theorem qf3(x y:vM)(hx:Sm (.st yM) x):∃ b:Bool,Ret E n_Z80 [⟨yI,x.1⟩,⟨yI,x.2.1⟩,⟨yI,x.2.2.1⟩,⟨yL,x.2.2.2.1⟩,⟨yI,y.1⟩,⟨yI,y.2.1⟩,⟨yI,y.2.2.1⟩,⟨yL,y.2.2.2.1⟩] ⟨o_Z80,(b,())⟩∧(b=true↔x=y):=by
 obtain⟨b0,hr0,hb0⟩:=qb7 x.2.2.2.1 y.2.2.2.1 hx.2.2.2.1
 refine⟨decide (x.1=y.1)&&decide (x.2.1=y.2.1)&&decide (x.2.2.1=y.2.2.1)&&b0,Evt.succ (hr0.mono fun n e0=>?_),?_⟩
 ·skip
  rw[run_Z80,Z80.ev]
  simp only[Option.bind_some,qaz e0]
  simp only[show(x.1 != y.1)=!decide (x.1=y.1) from rfl]
  generalize decide (x.1=y.1)=d0
  simp only[show(x.2.1 != y.2.1)=!decide (x.2.1=y.2.1) from rfl]
  generalize decide (x.2.1=y.2.1)=d1
  simp only[show(x.2.2.1 != y.2.2.1)=!decide (x.2.2.1=y.2.2.1) from rfl]
  generalize decide (x.2.2.1=y.2.2.1)=d2
  clear hx hr0 e0 hb0
  cases d0<;>cases d1<;>cases d2<;>cases b0<;>rfl
 ·obtain⟨x0,x1,x2,x3,_⟩:=x
  obtain⟨y0,y1,y2,y3,_⟩:=y
  simp only[Bool.and_eq_true,decide_eq_true_eq,hb0,Prod.mk.injEq,and_true]
  try simp only[and_assoc]
theorem qjS(x:vN)(l:Int)(hx:Wf yN x)(h0:0≤l)(h1:l≤1048576) :
    ∃ r:Int,Ret E n_Z93 [⟨yN,x⟩,⟨.int .i64,l⟩] ⟨o_Z93,(r,())⟩∧(0≤r→r≤l∧Sm yN x):=by
  have hx1:x.length≤maxLen:=hx.1
  rw[qhL] at hx1
  have hw:w64 (l-x.length)=l-x.length:=qah (by omega) (by omega)
  by_cases hc:l-(x.length:Int)<0
  · refine⟨-1,Evt.succ (Evt.of fun n=>?_),fun h=>by omega⟩
    rw[run_Z93,Z93.ev,hw,decide_eq_true hc];rfl
  · obtain⟨r,hr,hs⟩:=qnb (xs:=x) (L:=fun m n i left=>Z93.l0 (mkR (run E m)) m n x left i) (ret:=fun r=>some ⟨o_Z93,(r,())⟩) (fun x=>Sm (.st yM) x) (fun k left hk hl0 hl1=>by
      obtain⟨r,hr,hs⟩:=qk0 x[k] left (hx.2 _ (List.getElem_mem hk)) hl0 hl1
      refine⟨r,hs,hr.mono fun m h n=>?_⟩
      show Z93.l0 _ _ _ _ _ _=_
      rw[Z93.l0_succ _ qae,decide_eq_true (show(k:Int)<x.length by omega),cond_true,qak hk]
      simp only[Option.bind_some,qaz h]
      rw[qad (by omega)]) (fun left=>Evt.of fun m n=>by
      show Z93.l0 _ _ _ _ _ _=_
      rw[Z93.l0_succ _ qae,decide_eq_false (by omega),cond_false]) (l-x.length) (by omega) (by omega)
    refine⟨r,Evt.succ (hr.mono fun n h=>?_),fun h=>⟨by have:=(hs h).1;omega,by omega,(hs h).2⟩⟩
    rw[run_Z93,Z93.ev,hw,decide_eq_false hc]
    exact h
theorem qi7(x:vN)(hx:Sm yN x):Ret E n_Z99 [⟨yN,x⟩] ⟨o_Z99,(x,())⟩:=by
  have hx1:x.length≤1048576:=hx.1
  have hl:=qhX (a:=x) (L:=fun m n i o=>Z99.l0 (mkR (run E m)) m n x i o) (z:=List.replicate (Int.toNat (List.length x:Int)) ((0:Int),(0:Int),(0:Int),([]:List Int),())) (r:=some ⟨o_Z99,(x,())⟩) (by simp) (fun k o hk ho=>by
      have hr:=qj1 x[k] (hx.2 _ (List.getElem_mem hk))
      refine hr.mono fun m h n=>?_
      show Z99.l0 _ _ _ _ _ _=_
      rw[Z99.l0_succ _ qae,decide_eq_true (show(k:Int)<x.length by omega),cond_true,qak hk]
      simp only[Option.bind_some,qaz h]
      rw[qeb (by simp;omega),qad (by omega),Int.toNat_natCast]) (Evt.of fun m n=>by
      show Z99.l0 _ _ _ _ _ _=_
      rw[Z99.l0_succ _ qae,decide_eq_false (by omega),cond_false])
  refine Evt.succ (hl.mono fun n h=>?_)
  rw[run_Z99,Z99.ev,qeb (by simp;omega)]
  exact h
theorem qiP(x y:vN)(hx:Sm yN x):∃ b:Bool,Ret E n_Z81 [⟨yN,x⟩,⟨yN,y⟩] ⟨o_Z81,(b,())⟩∧(b=true↔x=y):=by
 have hx1:x.length≤1048576:=hx.1
 by_cases hl:x.length=y.length
 ·have hd:((x.length:Int) != (y.length:Int))=false:=by simp[hl]
  obtain⟨h1,h2⟩:=qhM (a:=x) (b:=y) (L:=fun m n i (_:Unit)=>Z81.l0 (mkR (run E m)) m n x y i) (fun u v=>u=v) (rt:=some ⟨o_Z81,(true,())⟩) (rf:=some ⟨o_Z81,(false,())⟩) hl.symm
   (fun k h h' hne=>by
   obtain⟨b,hb,hbe⟩:=qf3 x[k] y[k] (hx.2 _ (List.getElem_mem h))
   have hb0:b=false:=by cases b<;>simp_all
   subst hb0
   refine hb.mono fun m hm n=>?_
   show Z81.l0 _ _ _ _ _ _=_
   rw[Z81.l0_succ _ qae,decide_eq_true (show(k:Int)<x.length by omega),cond_true,qak h,qak h']
   simp only[Option.bind_some,qaz hm,Bool.not_false,Bool.not_true,cond_true,cond_false])
   (fun k h h' he=>by
   obtain⟨b,hb,hbe⟩:=qf3 x[k] y[k] (hx.2 _ (List.getElem_mem h))
   have hb0:b=true:=by cases b<;>simp_all
   subst hb0
   refine hb.mono fun m hm n=>?_
   show Z81.l0 _ _ _ _ _ _=_
   rw[Z81.l0_succ _ qae,decide_eq_true (show(k:Int)<x.length by omega),cond_true,qak h,qak h']
   simp only[Option.bind_some,qaz hm,Bool.not_false,Bool.not_true,cond_true,cond_false]
   rw[qad (by omega)])
   (Evt.of fun m n=>by
   show Z81.l0 _ _ _ _ _ _=_
   rw[Z81.l0_succ _ qae,decide_eq_false (by omega),cond_false])
  by_cases he:x=y
  ·refine⟨true,Evt.succ ((h1 (by subst he;intros;rfl)).mono fun n h=>?_),by simp[he]⟩
   rw[run_Z81,Z81.ev,hd,cond_false]
   exact h
  ·refine⟨false,Evt.succ ((h2 fun hh=>he (List.ext_getElem hl hh)).mono fun n h=>?_),by simp[he]⟩
   rw[run_Z81,Z81.ev,hd,cond_false]
   exact h
 ·have hd:((x.length:Int) != (y.length:Int))=true:=by simp;omega
  refine⟨false,Evt.succ (Evt.of fun n=>?_),⟨fun h=>(nomatch h),fun h=>absurd (congrArg List.length h) hl⟩⟩
  rw[run_Z81,Z81.ev,hd,cond_true]
theorem qlx(x:vS)(l:Int)(hx:Wf (.st yS) x)(h0:0≤l)(h1:l≤1048576) :
  ∃ r:Int,Ret E n_Z94 [⟨yK,x.1⟩,⟨yI,x.2.1⟩,⟨yL,x.2.2.1⟩,⟨yN,x.2.2.2.1⟩,⟨.int .i64,l⟩] ⟨o_Z94,(r,())⟩∧(0≤r→r≤l∧Sm (.st yS) x):=by
 obtain⟨r0,hr0,hs0⟩:=qi5 (x.1,()) l ⟨hx.1,trivial⟩ (by omega) (by omega)
 by_cases hc0:r0<0
 ·refine⟨-1,Evt.succ (hr0.mono fun n e0=>?_),fun h=>by omega⟩
  rw[run_Z94,Z94.ev]
  simp only[Option.bind_some,cond_true,cond_false,qaz e0,decide_eq_true hc0]
 have hb0:=hs0 (by omega)
 obtain⟨r1,hr1,hs1⟩:=qdN x.2.2.1 r0 hx.2.2.1 (by omega) (by omega)
 by_cases hc1:r1<0
 ·refine⟨-1,Evt.succ ((hr0.and hr1).mono fun n hh=>?_),fun h=>by omega⟩
  obtain⟨e0,e1⟩:=hh
  rw[run_Z94,Z94.ev]
  simp only[Option.bind_some,cond_true,cond_false,qaz e0,qaz e1,decide_eq_false hc0,decide_eq_true hc1]
 have hb1:=hs1 (by omega)
 obtain⟨r2,hr2,hs2⟩:=qjS x.2.2.2.1 r1 hx.2.2.2.1 (by omega) (by omega)
 by_cases hc2:r2<0
 ·refine⟨-1,Evt.succ (((hr0.and hr1).and hr2).mono fun n hh=>?_),fun h=>by omega⟩
  obtain⟨⟨e0,e1⟩,e2⟩:=hh
  rw[run_Z94,Z94.ev]
  simp only[Option.bind_some,cond_true,cond_false,qaz e0,qaz e1,qaz e2,decide_eq_false hc0,decide_eq_false hc1,decide_eq_true hc2]
 have hb2:=hs2 (by omega)
 refine⟨r2,Evt.succ (((hr0.and hr1).and hr2).mono fun n hh=>?_),fun h=>⟨by omega,?_⟩⟩
 ·obtain⟨⟨e0,e1⟩,e2⟩:=hh
  rw[run_Z94,Z94.ev]
  simp only[Option.bind_some,cond_true,cond_false,qaz e0,qaz e1,qaz e2,decide_eq_false hc0,decide_eq_false hc1,decide_eq_false hc2]
 ·exact⟨hb0.2.1,trivial,hb1.2,hb2.2,trivial⟩
theorem qlu(x:vS)(hx:Sm (.st yS) x):Ret E n_Z100 [⟨yK,x.1⟩,⟨yI,x.2.1⟩,⟨yL,x.2.2.1⟩,⟨yN,x.2.2.2.1⟩] ⟨o_Z100,x⟩:=by
 have hr0:=qji (x.1,()) ⟨hx.1,trivial⟩
 have hr1:=qdY x.2.2.1 hx.2.2.1
 have hr2:=qi7 x.2.2.2.1 hx.2.2.2.1
 refine Evt.succ (((hr0.and hr1).and hr2).mono fun n hh=>?_)
 obtain⟨⟨e0,e1⟩,e2⟩:=hh
 rw[run_Z100,Z100.ev]
 simp only[Option.bind_some,qaz e0,qaz e1,qaz e2]
theorem qlF(x y:vS)(hx:Sm (.st yS) x):∃ b:Bool,Ret E n_Z82 [⟨yK,x.1⟩,⟨yI,x.2.1⟩,⟨yL,x.2.2.1⟩,⟨yN,x.2.2.2.1⟩,⟨yK,y.1⟩,⟨yI,y.2.1⟩,⟨yL,y.2.2.1⟩,⟨yN,y.2.2.2.1⟩] ⟨o_Z82,(b,())⟩∧(b=true↔x=y):=by
 obtain⟨b0,hr0,hb0⟩:=qjI (x.1,()) (y.1,()) ⟨hx.1,trivial⟩
 obtain⟨b1,hr1,hb1⟩:=qb7 x.2.2.1 y.2.2.1 hx.2.2.1
 obtain⟨b2,hr2,hb2⟩:=qiP x.2.2.2.1 y.2.2.2.1 hx.2.2.2.1
 refine⟨b0&&decide (x.2.1=y.2.1)&&b1&&b2,Evt.succ (((hr0.and hr1).and hr2).mono fun n hh=>?_),?_⟩
 ·obtain⟨⟨e0,e1⟩,e2⟩:=hh
  rw[run_Z82,Z82.ev]
  simp only[Option.bind_some,qaz e0,qaz e1,qaz e2]
  simp only[show(x.2.1 != y.2.1)=!decide (x.2.1=y.2.1) from rfl]
  generalize decide (x.2.1=y.2.1)=d1
  clear hx hr0 e0 hb0 hr1 e1 hb1 hr2 e2 hb2
  cases b0<;>cases d1<;>cases b1<;>cases b2<;>rfl
 ·obtain⟨x0,x1,x2,x3,_⟩:=x
  obtain⟨y0,y1,y2,y3,_⟩:=y
  simp only[Bool.and_eq_true,decide_eq_true_eq,hb0,hb1,hb2,Prod.mk.injEq,and_true]
  try simp only[and_assoc]
end VeT
open Go Go.Proofs Ve
namespace VeT
theorem qa3(s:List (List Int))(c:((vK×Unit)×(Int×Unit)×Unit))(p:(List Int)→Bool)(hs:s.length≤1048576)(hp:∀ x∈s,Ret E n_Z11 [⟨yL,x⟩,⟨(.ptr yC),c.1⟩,⟨(.ptr (.cons yI .nil)),c.2.1⟩] ⟨o_Z11,(p x,())⟩) :
    Ret E n_Z115 [⟨yK,s⟩,⟨(.fn n_Z11 (.cons (.ptr yC) (.cons (.ptr (.cons yI .nil)) .nil))),c⟩] ⟨o_Z115,(qjd p s,())⟩:=by
  obtain⟨o,h1,h2,h3⟩:=qbK 1 (L:=fun φ n k=>Z116.l0 (mkR (run E (φ 0))) (φ 0) n s c (s.length:Int) k) (len:=s.length) (fun k=>∃ h:k<s.length,p s[k]=true) (fun o=>some ⟨o_Z115,(o2i o,())⟩) (fun _ _ _ _=>rfl) (fun k hk hP=>by
      obtain⟨_,hP⟩:=hP
      simp only[Z116.l0_succ _ qae]
      refine qax (decide_eq_true (by omega)) (qac (qak hk) (qaa (hp _ (List.getElem_mem hk)) (qax hP qam)))) (fun k q hk hP ih=>by
      simp only[Z116.l0_succ _ qae]
      refine qax (decide_eq_true (by omega)) (qac (qak hk) (qaa (hp _ (List.getElem_mem hk)) (qaA (Bool.eq_false_iff.2 fun h=>hP ⟨hk,h⟩) ?_)))
      rw[qad (by omega)];exact ih) (by
      simp only[Z116.l0_succ _ qae]
      exact qaA (decide_eq_false (by omega)) qam)
  rw[qdo h1 h2] at h3
  refine qal ?_
  simp only[run_Z115,Z116.ev]
  exact Ev.start (p:=fun φ n=>Z116.l0 (mkR (run E (φ 0))) (φ 0) n s c (s.length:Int) 0=_) 1 h3 (fun _ _ _ h=>h)
theorem qba(s:List (List Int))(c:((Int×Unit)×Unit))(p:(List Int)→Bool)(hs:s.length≤1048576)(hp:∀ x∈s,Ret E n_Z32 [⟨yL,x⟩,⟨(.ptr (.cons yI .nil)),c.1⟩] ⟨o_Z32,(p x,())⟩) :
    Ret E n_Z115 [⟨yK,s⟩,⟨(.fn n_Z32 (.cons (.ptr (.cons yI .nil)) .nil)),c⟩] ⟨o_Z115,(qjd p s,())⟩:=by
  obtain⟨o,h1,h2,h3⟩:=qbK 1 (L:=fun φ n k=>Z117.l0 (mkR (run E (φ 0))) (φ 0) n s c (s.length:Int) k) (len:=s.length) (fun k=>∃ h:k<s.length,p s[k]=true) (fun o=>some ⟨o_Z115,(o2i o,())⟩) (fun _ _ _ _=>rfl) (fun k hk hP=>by
      obtain⟨_,hP⟩:=hP
      simp only[Z117.l0_succ _ qae]
      refine qax (decide_eq_true (by omega)) (qac (qak hk) (qaa (hp _ (List.getElem_mem hk)) (qax hP qam)))) (fun k q hk hP ih=>by
      simp only[Z117.l0_succ _ qae]
      refine qax (decide_eq_true (by omega)) (qac (qak hk) (qaa (hp _ (List.getElem_mem hk)) (qaA (Bool.eq_false_iff.2 fun h=>hP ⟨hk,h⟩) ?_)))
      rw[qad (by omega)];exact ih) (by
      simp only[Z117.l0_succ _ qae]
      exact qaA (decide_eq_false (by omega)) qam)
  rw[qdo h1 h2] at h3
  refine qal ?_
  simp only[run_Z115,Z117.ev]
  exact Ev.start (p:=fun φ n=>Z117.l0 (mkR (run E (φ 0))) (φ 0) n s c (s.length:Int) 0=_) 1 h3 (fun _ _ _ h=>h)
theorem qa7(s:List Int)(p:Int→Bool)(hs:s.length≤1048576)(hp:∀ x∈s,Ret E n_Z16 [⟨yI,x⟩] ⟨o_Z16,(p x,())⟩) :
    Ret E n_Z118 [⟨yL,s⟩,⟨(.fn n_Z16 .nil),()⟩] ⟨o_Z118,(qjd p s,())⟩:=by
  obtain⟨o,h1,h2,h3⟩:=qbK 1 (L:=fun φ n k=>Z119.l0 (mkR (run E (φ 0))) (φ 0) n s (s.length:Int) k) (len:=s.length) (fun k=>∃ h:k<s.length,p s[k]=true) (fun o=>some ⟨o_Z118,(o2i o,())⟩) (fun _ _ _ _=>rfl) (fun k hk hP=>by
      obtain⟨_,hP⟩:=hP
      simp only[Z119.l0_succ _ qae]
      refine qax (decide_eq_true (by omega)) (qac (qak hk) (qaa (hp _ (List.getElem_mem hk)) (qax hP qam)))) (fun k q hk hP ih=>by
      simp only[Z119.l0_succ _ qae]
      refine qax (decide_eq_true (by omega)) (qac (qak hk) (qaa (hp _ (List.getElem_mem hk)) (qaA (Bool.eq_false_iff.2 fun h=>hP ⟨hk,h⟩) ?_)))
      rw[qad (by omega)];exact ih) (by
      simp only[Z119.l0_succ _ qae]
      exact qaA (decide_eq_false (by omega)) qam)
  rw[qdo h1 h2] at h3
  refine qal ?_
  simp only[run_Z118,Z119.ev]
  exact Ev.start (p:=fun φ n=>Z119.l0 (mkR (run E (φ 0))) (φ 0) n s (s.length:Int) 0=_) 1 h3 (fun _ _ _ h=>h)
theorem qbe(s:List Int)(c:((Int×Unit)×Unit))(p:Int→Bool)(hs:s.length≤1048576)(hp:∀ x∈s,Ret E n_Z20 [⟨yI,x⟩,⟨(.ptr (.cons yI .nil)),c.1⟩] ⟨o_Z20,(p x,())⟩) :
    Ret E n_Z118 [⟨yL,s⟩,⟨(.fn n_Z20 (.cons (.ptr (.cons yI .nil)) .nil)),c⟩] ⟨o_Z118,(qjd p s,())⟩:=by
  obtain⟨o,h1,h2,h3⟩:=qbK 1 (L:=fun φ n k=>Z120.l0 (mkR (run E (φ 0))) (φ 0) n s c (s.length:Int) k) (len:=s.length) (fun k=>∃ h:k<s.length,p s[k]=true) (fun o=>some ⟨o_Z118,(o2i o,())⟩) (fun _ _ _ _=>rfl) (fun k hk hP=>by
      obtain⟨_,hP⟩:=hP
      simp only[Z120.l0_succ _ qae]
      refine qax (decide_eq_true (by omega)) (qac (qak hk) (qaa (hp _ (List.getElem_mem hk)) (qax hP qam)))) (fun k q hk hP ih=>by
      simp only[Z120.l0_succ _ qae]
      refine qax (decide_eq_true (by omega)) (qac (qak hk) (qaa (hp _ (List.getElem_mem hk)) (qaA (Bool.eq_false_iff.2 fun h=>hP ⟨hk,h⟩) ?_)))
      rw[qad (by omega)];exact ih) (by
      simp only[Z120.l0_succ _ qae]
      exact qaA (decide_eq_false (by omega)) qam)
  rw[qdo h1 h2] at h3
  refine qal ?_
  simp only[run_Z118,Z120.ev]
  exact Ev.start (p:=fun φ n=>Z120.l0 (mkR (run E (φ 0))) (φ 0) n s c (s.length:Int) 0=_) 1 h3 (fun _ _ _ h=>h)
theorem qbh(s:List Int)(p:Int→Bool)(hs:s.length≤1048576)(hp:∀ x∈s,Ret E n_Z22 [⟨yI,x⟩] ⟨o_Z22,(p x,())⟩) :
    Ret E n_Z118 [⟨yL,s⟩,⟨(.fn n_Z22 .nil),()⟩] ⟨o_Z118,(qjd p s,())⟩:=by
  obtain⟨o,h1,h2,h3⟩:=qbK 1 (L:=fun φ n k=>Z121.l0 (mkR (run E (φ 0))) (φ 0) n s (s.length:Int) k) (len:=s.length) (fun k=>∃ h:k<s.length,p s[k]=true) (fun o=>some ⟨o_Z118,(o2i o,())⟩) (fun _ _ _ _=>rfl) (fun k hk hP=>by
      obtain⟨_,hP⟩:=hP
      simp only[Z121.l0_succ _ qae]
      refine qax (decide_eq_true (by omega)) (qac (qak hk) (qaa (hp _ (List.getElem_mem hk)) (qax hP qam)))) (fun k q hk hP ih=>by
      simp only[Z121.l0_succ _ qae]
      refine qax (decide_eq_true (by omega)) (qac (qak hk) (qaa (hp _ (List.getElem_mem hk)) (qaA (Bool.eq_false_iff.2 fun h=>hP ⟨hk,h⟩) ?_)))
      rw[qad (by omega)];exact ih) (by
      simp only[Z121.l0_succ _ qae]
      exact qaA (decide_eq_false (by omega)) qam)
  rw[qdo h1 h2] at h3
  refine qal ?_
  simp only[run_Z118,Z121.ev]
  exact Ev.start (p:=fun φ n=>Z121.l0 (mkR (run E (φ 0))) (φ 0) n s (s.length:Int) 0=_) 1 h3 (fun _ _ _ h=>h)
theorem qbc(s:List Int)(c:(((List Int)×Unit)×Unit))(p:Int→Bool)(hs:s.length≤1048576)(hp:∀ x∈s,Ret E n_Z61 [⟨yI,x⟩,⟨(.ptr (.cons yL .nil)),c.1⟩] ⟨o_Z61,(p x,())⟩) :
    Ret E n_Z118 [⟨yL,s⟩,⟨(.fn n_Z61 (.cons (.ptr (.cons yL .nil)) .nil)),c⟩] ⟨o_Z118,(qjd p s,())⟩:=by
  obtain⟨o,h1,h2,h3⟩:=qbK 1 (L:=fun φ n k=>Z122.l0 (mkR (run E (φ 0))) (φ 0) n s c (s.length:Int) k) (len:=s.length) (fun k=>∃ h:k<s.length,p s[k]=true) (fun o=>some ⟨o_Z118,(o2i o,())⟩) (fun _ _ _ _=>rfl) (fun k hk hP=>by
      obtain⟨_,hP⟩:=hP
      simp only[Z122.l0_succ _ qae]
      refine qax (decide_eq_true (by omega)) (qac (qak hk) (qaa (hp _ (List.getElem_mem hk)) (qax hP qam)))) (fun k q hk hP ih=>by
      simp only[Z122.l0_succ _ qae]
      refine qax (decide_eq_true (by omega)) (qac (qak hk) (qaa (hp _ (List.getElem_mem hk)) (qaA (Bool.eq_false_iff.2 fun h=>hP ⟨hk,h⟩) ?_)))
      rw[qad (by omega)];exact ih) (by
      simp only[Z122.l0_succ _ qae]
      exact qaA (decide_eq_false (by omega)) qam)
  rw[qdo h1 h2] at h3
  refine qal ?_
  simp only[run_Z118,Z122.ev]
  exact Ev.start (p:=fun φ n=>Z122.l0 (mkR (run E (φ 0))) (φ 0) n s c (s.length:Int) 0=_) 1 h3 (fun _ _ _ h=>h)
theorem qaW(s:List (List Int))(c:((vK×Unit)×(Int×Unit)×Unit))(p:(List Int)→Bool)(hs:s.length≤1048576)(hp:∀ x∈s,Ret E n_Z11 [⟨yL,x⟩,⟨(.ptr yC),c.1⟩,⟨(.ptr (.cons yI .nil)),c.2.1⟩] ⟨o_Z11,(p x,())⟩) :
  Ret E n_Z106 [⟨yK,s⟩,⟨(.fn n_Z11 (.cons (.ptr yC) (.cons (.ptr (.cons yI .nil)) .nil))),c⟩] ⟨o_Z106,(pb (∃ x∈s,p x=true),())⟩:=by
 refine qal ?_
 simp only[run_Z106,Z107.ev]
 refine qaa (qa3 s c p hs hp) (qan ?_)
 simp only[ge_iff_le,qfh,qaM qbZ]
theorem qaZ(s:List Int)(p:Int→Bool)(hs:s.length≤1048576)(hp:∀ x∈s,Ret E n_Z16 [⟨yI,x⟩] ⟨o_Z16,(p x,())⟩) :
  Ret E n_Z108 [⟨yL,s⟩,⟨(.fn n_Z16 .nil),()⟩] ⟨o_Z108,(pb (∃ x∈s,p x=true),())⟩:=by
 refine qal ?_
 simp only[run_Z108,Z109.ev]
 refine qaa (qa7 s p hs hp) (qan ?_)
 simp only[ge_iff_le,qfh,qaM qbZ]
theorem qa5(s:List Int)(c:((Int×Unit)×Unit))(p:Int→Bool)(hs:s.length≤1048576)(hp:∀ x∈s,Ret E n_Z20 [⟨yI,x⟩,⟨(.ptr (.cons yI .nil)),c.1⟩] ⟨o_Z20,(p x,())⟩) :
  Ret E n_Z108 [⟨yL,s⟩,⟨(.fn n_Z20 (.cons (.ptr (.cons yI .nil)) .nil)),c⟩] ⟨o_Z108,(pb (∃ x∈s,p x=true),())⟩:=by
 refine qal ?_
 simp only[run_Z108,Z110.ev]
 refine qaa (qbe s c p hs hp) (qan ?_)
 simp only[ge_iff_le,qfh,qaM qbZ]
theorem qa8(s:List Int)(p:Int→Bool)(hs:s.length≤1048576)(hp:∀ x∈s,Ret E n_Z22 [⟨yI,x⟩] ⟨o_Z22,(p x,())⟩) :
  Ret E n_Z108 [⟨yL,s⟩,⟨(.fn n_Z22 .nil),()⟩] ⟨o_Z108,(pb (∃ x∈s,p x=true),())⟩:=by
 refine qal ?_
 simp only[run_Z108,Z111.ev]
 refine qaa (qbh s p hs hp) (qan ?_)
 simp only[ge_iff_le,qfh,qaM qbZ]
theorem qcC(p:Int)(R C:Nat)(c:(vM×Unit))(f:Nat→Nat→Int)(hR:R≤1048576)(hC:C≤1048576)(hRC:R*C≤1048576)(hf:∀ i j:Nat,i<R→j<C→Ret E n_Z68 [⟨yI,(i:Int)⟩,⟨yI,(j:Int)⟩,⟨(.ptr yM),c.1⟩] ⟨o_Z68,(f i j,())⟩) :
  Ret E n_Z35 [⟨yI,p⟩,⟨yI,(R:Int)⟩,⟨yI,(C:Int)⟩,⟨(.fn n_Z68 (.cons (.ptr yM) .nil)),c⟩] ⟨o_Z35,(p,(R:Int),(C:Int),qat f C R,())⟩:=by
 refine qal ?_
 simp only[run_Z35,Z37.ev]
 refine Ev.start (p:=fun φ n=>Z37.l0 (mkR (run E (φ 0))) (φ 0) n (C:Int) c (R:Int) 0 0 0 0 p (R:Int) (C:Int) []=_) 1 ?_ (fun _ _ _ h=>h)
 refine qap 1 (L:=fun φ n k a=>Z37.l0 (mkR (run E (φ 0))) (φ 0) n (C:Int) c (R:Int) k 0 0 0 p (R:Int) (C:Int) a) (len:=R) (fun k=>qat f C k) (fun _ _ _ _ _=>rfl) (fun k r hk ih=>?_) ?_
 ·simp only[Z37.l0_succ _ qae]
  refine qax (decide_eq_true (by omega)) ?_
  refine Ev.start (p:=fun φ n=>Z37.l1 (mkR (run E (φ 0))) (φ 0) (φ 1) n (C:Int) c (k:Int) (R:Int) (k:Int) (C:Int) 0 0 0 0 p (R:Int) (C:Int) (qat f C k)=_) 2 ?_ (fun _ _ _ h=>h)
  have hle:(k+1)*C≤R*C:=Nat.mul_le_mul_right _ hk
  rw[Nat.add_mul] at hle
  have:=qap 2 (L:=fun φ n j a=>Z37.l1 (mkR (run E (φ 0))) (φ 0) (φ 1) n (C:Int) c (k:Int) (R:Int) (k:Int) (C:Int) j 0 0 0 p (R:Int) (C:Int) a) (len:=C) (fun j=>qat f C k++(List.range j).map (f k)) (r:=r) (fun _ _ _ _ _=>rfl) (fun j r hj ih=>?_) ?_
  ·simpa using this
  ·simp only[Z37.l1_succ _ qae]
   rw[List.range_succ,List.map_append,← List.append_assoc] at ih
   refine qax (decide_eq_true (by omega)) (qaa (hf k j hk hj) (qaq (by simp[qav];omega) ?_))
   rw[qad (by omega)];exact ih
  ·simp only[Z37.l1_succ _ qae]
   refine qaA (decide_eq_false (by omega)) ?_
   rw[qad (by omega)];exact ih
 ·simp only[Z37.l0_succ _ qae]
  exact qaA (decide_eq_false (by omega)) qam
theorem qcS(p:Int)(R C:Nat)(c:(vM×(vK×Unit)×Unit))(f:Nat→Nat→Int)(hR:R≤1048576)(hC:C≤1048576)(hRC:R*C≤1048576)(hf:∀ i j:Nat,i<R→j<C→Ret E n_Z58 [⟨yI,(i:Int)⟩,⟨yI,(j:Int)⟩,⟨(.ptr yM),c.1⟩,⟨(.ptr yC),c.2.1⟩] ⟨o_Z58,(f i j,())⟩) :
  Ret E n_Z35 [⟨yI,p⟩,⟨yI,(R:Int)⟩,⟨yI,(C:Int)⟩,⟨(.fn n_Z58 (.cons (.ptr yM) (.cons (.ptr yC) .nil))),c⟩] ⟨o_Z35,(p,(R:Int),(C:Int),qat f C R,())⟩:=by
 refine qal ?_
 simp only[run_Z35,Z36.ev]
 refine Ev.start (p:=fun φ n=>Z36.l0 (mkR (run E (φ 0))) (φ 0) n (C:Int) c (R:Int) 0 0 0 0 p (R:Int) (C:Int) []=_) 1 ?_ (fun _ _ _ h=>h)
 refine qap 1 (L:=fun φ n k a=>Z36.l0 (mkR (run E (φ 0))) (φ 0) n (C:Int) c (R:Int) k 0 0 0 p (R:Int) (C:Int) a) (len:=R) (fun k=>qat f C k) (fun _ _ _ _ _=>rfl) (fun k r hk ih=>?_) ?_
 ·simp only[Z36.l0_succ _ qae]
  refine qax (decide_eq_true (by omega)) ?_
  refine Ev.start (p:=fun φ n=>Z36.l1 (mkR (run E (φ 0))) (φ 0) (φ 1) n (C:Int) c (k:Int) (R:Int) (k:Int) (C:Int) 0 0 0 0 p (R:Int) (C:Int) (qat f C k)=_) 2 ?_ (fun _ _ _ h=>h)
  have hle:(k+1)*C≤R*C:=Nat.mul_le_mul_right _ hk
  rw[Nat.add_mul] at hle
  have:=qap 2 (L:=fun φ n j a=>Z36.l1 (mkR (run E (φ 0))) (φ 0) (φ 1) n (C:Int) c (k:Int) (R:Int) (k:Int) (C:Int) j 0 0 0 p (R:Int) (C:Int) a) (len:=C) (fun j=>qat f C k++(List.range j).map (f k)) (r:=r) (fun _ _ _ _ _=>rfl) (fun j r hj ih=>?_) ?_
  ·simpa using this
  ·simp only[Z36.l1_succ _ qae]
   rw[List.range_succ,List.map_append,← List.append_assoc] at ih
   refine qax (decide_eq_true (by omega)) (qaa (hf k j hk hj) (qaq (by simp[qav];omega) ?_))
   rw[qad (by omega)];exact ih
  ·simp only[Z36.l1_succ _ qae]
   refine qaA (decide_eq_false (by omega)) ?_
   rw[qad (by omega)];exact ih
 ·simp only[Z36.l0_succ _ qae]
  exact qaA (decide_eq_false (by omega)) qam
theorem qdF(p:Int)(R C:Nat)(f:Nat→Nat→Int)(hR:R≤1048576)(hC:C≤1048576)(hRC:R*C≤1048576)(hf:∀ i j:Nat,i<R→j<C→Ret E n_Z75 [⟨yI,(i:Int)⟩,⟨yI,(j:Int)⟩] ⟨o_Z75,(f i j,())⟩) :
  Ret E n_Z35 [⟨yI,p⟩,⟨yI,(R:Int)⟩,⟨yI,(C:Int)⟩,⟨(.fn n_Z75 .nil),()⟩] ⟨o_Z35,(p,(R:Int),(C:Int),qat f C R,())⟩:=by
 refine qal ?_
 simp only[run_Z35,Z39.ev]
 refine Ev.start (p:=fun φ n=>Z39.l0 (mkR (run E (φ 0))) (φ 0) n (C:Int) (R:Int) 0 0 0 0 p (R:Int) (C:Int) []=_) 1 ?_ (fun _ _ _ h=>h)
 refine qap 1 (L:=fun φ n k a=>Z39.l0 (mkR (run E (φ 0))) (φ 0) n (C:Int) (R:Int) k 0 0 0 p (R:Int) (C:Int) a) (len:=R) (fun k=>qat f C k) (fun _ _ _ _ _=>rfl) (fun k r hk ih=>?_) ?_
 ·simp only[Z39.l0_succ _ qae]
  refine qax (decide_eq_true (by omega)) ?_
  refine Ev.start (p:=fun φ n=>Z39.l1 (mkR (run E (φ 0))) (φ 0) (φ 1) n (C:Int) (k:Int) (R:Int) (k:Int) (C:Int) 0 0 0 0 p (R:Int) (C:Int) (qat f C k)=_) 2 ?_ (fun _ _ _ h=>h)
  have hle:(k+1)*C≤R*C:=Nat.mul_le_mul_right _ hk
  rw[Nat.add_mul] at hle
  have:=qap 2 (L:=fun φ n j a=>Z39.l1 (mkR (run E (φ 0))) (φ 0) (φ 1) n (C:Int) (k:Int) (R:Int) (k:Int) (C:Int) j 0 0 0 p (R:Int) (C:Int) a) (len:=C) (fun j=>qat f C k++(List.range j).map (f k)) (r:=r) (fun _ _ _ _ _=>rfl) (fun j r hj ih=>?_) ?_
  ·simpa using this
  ·simp only[Z39.l1_succ _ qae]
   rw[List.range_succ,List.map_append,← List.append_assoc] at ih
   refine qax (decide_eq_true (by omega)) (qaa (hf k j hk hj) (qaq (by simp[qav];omega) ?_))
   rw[qad (by omega)];exact ih
  ·simp only[Z39.l1_succ _ qae]
   refine qaA (decide_eq_false (by omega)) ?_
   rw[qad (by omega)];exact ih
 ·simp only[Z39.l0_succ _ qae]
  exact qaA (decide_eq_false (by omega)) qam
theorem qdC(p:Int)(R C:Nat)(f:Nat→Nat→Int)(hR:R≤1048576)(hC:C≤1048576)(hRC:R*C≤1048576)(hf:∀ i j:Nat,i<R→j<C→Ret E n_Z70 [⟨yI,(i:Int)⟩,⟨yI,(j:Int)⟩] ⟨o_Z70,(f i j,())⟩) :
  Ret E n_Z35 [⟨yI,p⟩,⟨yI,(R:Int)⟩,⟨yI,(C:Int)⟩,⟨(.fn n_Z70 .nil),()⟩] ⟨o_Z35,(p,(R:Int),(C:Int),qat f C R,())⟩:=by
 refine qal ?_
 simp only[run_Z35,Z38.ev]
 refine Ev.start (p:=fun φ n=>Z38.l0 (mkR (run E (φ 0))) (φ 0) n (C:Int) (R:Int) 0 0 0 0 p (R:Int) (C:Int) []=_) 1 ?_ (fun _ _ _ h=>h)
 refine qap 1 (L:=fun φ n k a=>Z38.l0 (mkR (run E (φ 0))) (φ 0) n (C:Int) (R:Int) k 0 0 0 p (R:Int) (C:Int) a) (len:=R) (fun k=>qat f C k) (fun _ _ _ _ _=>rfl) (fun k r hk ih=>?_) ?_
 ·simp only[Z38.l0_succ _ qae]
  refine qax (decide_eq_true (by omega)) ?_
  refine Ev.start (p:=fun φ n=>Z38.l1 (mkR (run E (φ 0))) (φ 0) (φ 1) n (C:Int) (k:Int) (R:Int) (k:Int) (C:Int) 0 0 0 0 p (R:Int) (C:Int) (qat f C k)=_) 2 ?_ (fun _ _ _ h=>h)
  have hle:(k+1)*C≤R*C:=Nat.mul_le_mul_right _ hk
  rw[Nat.add_mul] at hle
  have:=qap 2 (L:=fun φ n j a=>Z38.l1 (mkR (run E (φ 0))) (φ 0) (φ 1) n (C:Int) (k:Int) (R:Int) (k:Int) (C:Int) j 0 0 0 p (R:Int) (C:Int) a) (len:=C) (fun j=>qat f C k++(List.range j).map (f k)) (r:=r) (fun _ _ _ _ _=>rfl) (fun j r hj ih=>?_) ?_
  ·simpa using this
  ·simp only[Z38.l1_succ _ qae]
   rw[List.range_succ,List.map_append,← List.append_assoc] at ih
   refine qax (decide_eq_true (by omega)) (qaa (hf k j hk hj) (qaq (by simp[qav];omega) ?_))
   rw[qad (by omega)];exact ih
  ·simp only[Z38.l1_succ _ qae]
   refine qaA (decide_eq_false (by omega)) ?_
   rw[qad (by omega)];exact ih
 ·simp only[Z38.l0_succ _ qae]
  exact qaA (decide_eq_false (by omega)) qam
end VeT
open Go Go.Proofs Ve
namespace VeT
abbrev cM:Ty:=.cons yI (.cons yI (.cons yI (.cons yL .nil)))
abbrev cC:Ty:=.cons yK .nil
abbrev cS:Ty:=.cons yK (.cons yI (.cons yL (.cons (.sl (.st cM)) .nil)))
abbrev Mat:=Int×Int×Int×List Int×Unit
abbrev Cpx:=List (List Int)×Unit
abbrev Shf:=List (List Int)×Int×List Int×List Mat×Unit
abbrev Sim:=List Int
abbrev dI(x:Int):Dv:=⟨.int .i64,x⟩
abbrev dL(x:List Int):Dv:=⟨.sl yI,x⟩
abbrev dLL(x:List (List Int)):Dv:=⟨.sl yL,x⟩
abbrev dC(x:Cpx):Dv:=⟨.ptr cC,x⟩
abbrev dM(x:Mat):Dv:=⟨.ptr cM,x⟩
abbrev dS(x:Shf):Dv:=⟨.ptr cS,x⟩
abbrev dMs(x:List Mat):Dv:=⟨.sl (.st cM),x⟩
theorem qck(n lo hi:Int):Ret E n_Z72 [dI n,dI lo,dI hi] ⟨o_Z72,(pb (lo≤n∧n≤hi),())⟩:=by
 refine qal ?_
 simp only[run_Z72,Z72.ev]
 refine qdH (fun h=>qan ?_) fun h=>qan ?_
 ·rw[qfh,qaM (show n≤hi↔lo≤n∧n≤hi by omega)]
 ·rw[qas (by omega)]
theorem qbR(n lo hi:Int):Ret E n_Z127 [dI n,dI lo,dI hi] ⟨o_Z127,(pb (lo≤n∧n≤hi),())⟩:=by
 refine qal ?_
 simp only[run_Z127,Z127.ev]
 refine qdH (fun h=>qan ?_) fun h=>qan ?_
 ·rw[qfh,qaM (show n≤hi↔lo≤n∧n≤hi by omega)]
 ·rw[qas (by omega)]
theorem qkF(n:Int):Ret E n_Z52 [dI n] ⟨o_Z52,(pb (0≤n∧n≤9),())⟩:=by
 refine qal ?_
 simp only[run_Z52,Z52.ev]
 exact qaa (qck _ _ _) qam
theorem qfe(n:Int):Ret E n_Z16 [dI n] ⟨o_Z16,(!pb (0≤n∧n≤9),())⟩:=by
 refine qal ?_
 simp only[run_Z16,Z16.ev]
 exact qaa (qkF _) qam
def qgn(s:Sim):Prop:=∀ j,1≤j→j<s.length→s.getD (j-1) 0<s.getD j 0
theorem qjY(s:Sim)(hs:Sm yL s):Ret E n_Z50 [dL s] ⟨o_Z50,(pb (qgn s),())⟩:=by
 have hs1:s.length≤1048576:=hs.1
 refine qal ?_
 simp only[run_Z50,Z50.ev]
 by_cases h0:s.length=0
 ·refine Ev.start (p:=fun φ n=>Z50.l0 (mkR (run E (φ 0))) (φ 0) n s 1=_) 1 ?_ (fun _ _ _ h=>h)
  refine qef 1 (σ:=Unit) (L:=fun φ n _=>Z50.l0 (mkR (run E (φ 0))) (φ 0) n s 1) (fun _ _ _ _=>rfl) (fun _=>True) (fun _=>_) (fun _=>0) (fun _ _ _=>?_) () trivial
  simp only[Z50.l0_succ _ qae]
  refine qaA (decide_eq_false (by omega)) (qan ?_)
  rw[qaK]
  intro j h1 h2;omega
 ·refine Ev.start (p:=fun φ n=>Z50.l0 (mkR (run E (φ 0))) (φ 0) n s 1=_) 1 ?_ (fun _ _ _ h=>h)
  refine qdw 1 (L:=fun φ n k=>Z50.l0 (mkR (run E (φ 0))) (φ 0) n s k) (len:=s.length) 1 (by omega) (fun j=>s.getD (j-1) 0<s.getD j 0) (fun b=>some ⟨o_Z50,(b,())⟩) (fun _ _ _ _=>rfl) (fun k h1 h2 hP _=>?_) (fun k r h1 h2 hP _ ih=>?_) (fun _=>?_)
  ·simp only[Z50.l0_succ _ qae]
   refine qax (decide_eq_true (by omega)) ?_
   rw[qah (by omega) (by omega),show((k:Int)-1)=((k-1:Nat):Int) by omega]
   refine qac (qak (by omega)) (qac (qak h2) (qax (decide_eq_true ?_) qam))
   simpa [List.getD_eq_getElem?_getD,h2,show k-1<s.length by omega] using hP
  ·simp only[Z50.l0_succ _ qae]
   refine qax (decide_eq_true (by omega)) ?_
   rw[qah (by omega) (by omega),show((k:Int)-1)=((k-1:Nat):Int) by omega]
   refine qac (qak (by omega)) (qac (qak h2) (qaA (decide_eq_false ?_) ?_))
   ·simpa [List.getD_eq_getElem?_getD,h2,show k-1<s.length by omega] using hP
   ·rw[qad (by omega)];exact ih
  ·simp only[Z50.l0_succ _ qae]
   exact qaA (decide_eq_false (by omega)) qam
end VeT
open Go Go.Proofs Ve
namespace VeT
def Vx(s:Sim):Prop:=1≤s.length∧s.length≤4∧qgn s∧∀ x∈s,0≤x∧x≤9
theorem qdA(s:Sim)(hs:Sm yL s):Ret E n_Z15 [dL s] ⟨o_Z15,(pb (Vx s),())⟩:=by
 refine qal ?_
 simp only[run_Z15,Z15.ev]
 refine qdH (fun h1=>qdH (fun h2=>qaa (qjY s hs) (qb5 (fun h3=>qaa (qaZ s _ hs.1 fun x _=>qfe x) (qan ?_)) fun h3=>qan ?_)) fun h2=>qan ?_) fun h1=>qan ?_
 ·have h3:=qaE.1 h3
  have:(!pb (∃ x∈s,(!pb (0≤x∧x≤9))=true))=pb (Vx s):=qgq (by
   simp only[Bool.not_eq_true',qa1]
   exact⟨fun h=>⟨by omega,by omega,h3,fun x hx=>Classical.byContradiction fun hn=>h ⟨x,hx,hn⟩⟩,fun h ⟨x,hx,hn⟩=>hn (h.2.2.2 x hx)⟩)
  rw[this]
 ·rw[qas fun h=>qa1.1 h3 h.2.2.1]
 ·rw[qas fun h=>h2 (by have:=h.2.1;omega)]
 ·rw[qas fun h=>h1 (by have:=h.1;omega)]
theorem qkG(s:Sim)(lo hi:Int)(hs:Sm yL s):Ret E n_Z129 [dL s,dI lo,dI hi] ⟨o_Z129,(pb (qgn s∧∀ x∈s,lo≤x∧x≤hi),())⟩:=by
 have hs1:s.length≤1048576:=hs.1
 refine qal ?_
 simp only[run_Z129,Z129.ev]
 refine Ev.start (p:=fun φ n=>Z129.l0 (mkR (run E (φ 0))) (φ 0) n s lo hi 0=_) 1 ?_ (fun _ _ _ h=>h)
 refine(qdw 1 (L:=fun φ n k=>Z129.l0 (mkR (run E (φ 0))) (φ 0) n s lo hi k) (len:=s.length) 0 (by omega) (fun j=>(lo≤s.getD j 0∧s.getD j 0≤hi)∧(1≤j→s.getD (j-1) 0<s.getD j 0)) (fun b=>some ⟨o_Z129,(b,())⟩) (fun _ _ _ _=>rfl) (fun k h1 h2 hP _=>?_) (fun k r h1 h2 hP _ ih=>?_) (fun _=>?_)).to ?_
 ·simp only[Z129.l0_succ _ qae]
  refine qax (decide_eq_true (by omega)) (qac (qak h2) (qaa (qbR _ _ _) ?_))
  have e:s.getD k 0=s[k]:=by simp[List.getD_eq_getElem?_getD,h2]
  rw[e] at hP
  refine qb5 (fun _=>?_) (fun hin=>?_)
  ·simp only[Z129.j1_eq _ qae,cond_true];(first | exact qam | exact Ev.of fun _=>trivial)
  ·have hin:lo≤s[k]∧s[k]≤hi:=qaE.1 (by simpa using hin)
   have hk:1≤k:=Classical.byContradiction fun h=>hP ⟨hin,fun h'=>absurd h' h⟩
   refine qax (decide_eq_true (by omega)) ?_
   rw[qah (by omega) (by omega),show((k:Int)-1)=((k-1:Nat):Int) by omega]
   refine qac (qak (by omega)) (qac (qak h2) ?_)
   have e':s.getD (k-1) 0=s[k-1]:=by simp[List.getD_eq_getElem?_getD,show k-1<s.length by omega]
   rw[e'] at hP
   have:decide (s[k-1]≥s[k])=true:=decide_eq_true (Classical.byContradiction fun h=>hP ⟨hin,fun _=>by omega⟩)
   simp only[this,Z129.j1_eq _ qae,cond_true];(first | exact qam | exact Ev.of fun _=>trivial)
 ·simp only[Z129.l0_succ _ qae]
  refine qax (decide_eq_true (by omega)) (qac (qak h2) (qaa (qbR _ _ _) ?_))
  have e:s.getD k 0=s[k]:=by simp[List.getD_eq_getElem?_getD,h2]
  rw[e] at hP
  refine qaA (by rw[qaK hP.1];rfl) ?_
  refine qdH (fun hk=>?_) fun hk=>?_
  ·rw[qah (by omega) (by omega),show((k:Int)-1)=((k-1:Nat):Int) by omega]
   refine qac (qak (by omega)) (qac (qak h2) ?_)
   have e':s.getD (k-1) 0=s[k-1]:=by simp[List.getD_eq_getElem?_getD,show k-1<s.length by omega]
   rw[e'] at hP
   have:decide (s[k-1]≥s[k])=false:=decide_eq_false (by have:=hP.2 (by omega);omega)
   simp only[this,Z129.j1_eq _ qae,cond_false]
   rw[qad (by omega)];exact ih
  ·simp only[Z129.j1_eq _ qae,cond_false]
   rw[qad (by omega)];exact ih
 ·simp only[Z129.l0_succ _ qae]
  exact qaA (decide_eq_false (by omega)) qam
 ·refine congrArg (fun b:Bool=>some (⟨o_Z129,(b,())⟩:Dv)) (qaM ⟨fun h=>⟨fun j h1 h2=>(h j (by omega) h2).2 h1,fun x hx=>?_⟩,fun⟨h1,h2⟩ j _ hj=>⟨?_,fun h3=>h1 j h3 hj⟩⟩)
  ·obtain⟨j,hj,rfl⟩:=List.mem_iff_getElem.1 hx
   simpa [List.getD_eq_getElem?_getD,hj] using (h j (by omega) hj).1
  ·simpa [List.getD_eq_getElem?_getD,hj] using h2 _ (List.getElem_mem hj)
theorem qej(s:Sim)(hs:Sm yL s):Ret E n_Z150 [dL s] ⟨o_Z150,(pb (Vx s),())⟩:=by
 refine qal ?_
 simp only[run_Z150,Z150.ev]
 refine qaa (qbR _ _ _) (qb5 (fun h1=>qaa (qkG s _ _ hs) (qan ?_)) fun h1=>qan ?_)
 ·have h1:=qaE.1 h1
  exact congrArg (fun b:Bool=>some (⟨o_Z150,(b,())⟩:Dv)) (qaM ⟨fun h=>⟨by omega,by omega,h.1,h.2⟩,fun h=>⟨h.2.2.1,h.2.2.2⟩⟩)
 ·rw[qas fun h=>qa1.1 h1 ⟨by have:=h.1;omega,by have:=h.2.1;omega⟩]
def qiE(a b:Int):Int:=if a<b then -1 else if b<a then 1 else 0
def qeh:Sim→Sim→Int
 | [],[]=>0
 | [],_::_=>-1
 | _::_,[]=>1
 | x::xs,y::ys=>if x<y then -1 else if y<x then 1 else qeh xs ys
def qeT(a b:Sim):Int:=if qiE a.length b.length≠0 then qiE a.length b.length else qeh a b
theorem qd4{a b:Int}:qiE a b=0↔a=b:=by unfold qiE;split<;>(try split)<;>omega
theorem qot{a b:Int}:qiE b a=- qiE a b:=by unfold qiE;split<;>split<;>(try split)<;>omega
theorem qm0{a b:Int}:qiE a b<0↔a<b:=by unfold qiE;split<;>(try split)<;>omega
theorem qnx:∀ {a b:Sim},qeh a b=0↔a=b
 | [],[]=>by simp[qeh]
 | [],_::_=>by simp[qeh]
 | _::_,[]=>by simp[qeh]
 | x::xs,y::ys=>by
  have:=@qnx xs ys
  simp only[qeh,List.cons.injEq]
  split
  ·constructor
   ·intro h;omega
   ·rintro⟨rfl,_⟩;omega
  ·split
   ·constructor
    ·intro h;omega
    ·rintro⟨rfl,_⟩;omega
   ·rw[this];constructor
    ·intro h;exact⟨by omega,h⟩
    ·exact fun h=>h.2
theorem qlY:∀ {a b:Sim},qeh b a=- qeh a b
 | [],[]=>by simp[qeh]
 | [],_::_=>by simp[qeh]
 | _::_,[]=>by simp[qeh]
 | x::xs,y::ys=>by
  have:=@qlY xs ys
  simp only[qeh]
  split<;>split<;>(try split)<;>omega
theorem qim:∀ {a b c:Sim},qeh a b<0→qeh b c<0→qeh a c<0
 | [],[],c,h,_=>by simp[qeh] at h
 | [],_::_,[],_,h=>by simp[qeh] at h
 | [],_::_,_::_,_,_=>by simp[qeh]
 | _::_,[],_,h,_=>by simp[qeh] at h
 | _::_,_::_,[],_,h=>by simp[qeh] at h
 | x::xs,y::ys,z::zs,h1,h2=>by
  have:=@qim xs ys zs
  simp only[qeh] at h1 h2 ⊢
  split at h1<;>split at h2<;>(try split at h1)<;>(try split at h2)<;>(try split)<;>(try split)<;>first | omega | (exact this h1 h2)
theorem qc5{a b:Sim}:qeT a b=0↔a=b:=by
 unfold qeT
 split
 ·rename_i h
  exact⟨fun h'=>absurd h' h,fun h'=>absurd (qd4.2 (by rw[h'])) h⟩
 ·exact qnx
theorem qob{a b:Sim}:qeT b a=- qeT a b:=by
 unfold qeT
 rw[@qot a.length b.length]
 split<;>split<;>first | omega | exact qlY
theorem qht{a b:Sim}:qeT a b<0↔a.length<b.length∨a.length=b.length∧qeh a b<0:=by
 unfold qeT
 split
 ·rename_i h
  rw[qm0]
  rw[Ne,qd4] at h
  omega
 ·rename_i h
  rw[Classical.not_not,qd4] at h
  omega
theorem qit{a b c:Sim}(h1:qeT a b<0)(h2:qeT b c<0):qeT a c<0:=by
 rw[qht] at *
 rcases h1 with h1 | ⟨h1,h1'⟩<;>rcases h2 with h2 | ⟨h2,h2'⟩
 ·left;omega
 ·left;omega
 ·left;omega
 ·right;exact⟨by omega,qim h1' h2'⟩
theorem qiK(a:Int):Ret E n_Z3 [dI a] ⟨o_Z3,(false,())⟩:=by
 refine qal ?_
 simp only[run_Z3,Z3.ev]
 exact qan (by simp)
theorem qks(a:Int):Ret E n_Z4 [dI a] ⟨o_Z4,(false,())⟩:=by
 refine qal ?_
 simp only[run_Z4,Z4.ev]
 exact qan (by simp)
theorem qka(a b:Int):Ret E n_Z0 [dI a,dI b] ⟨o_Z0,(qiE a b,())⟩:=by
 refine qal ?_
 simp only[run_Z0,Z0.ev]
 refine qaa (qiK _) (qaa (qiK _) (qaA rfl (qaA rfl (qdH (fun h=>qan ?_) fun h=>qdH (fun h2=>qan ?_) fun h2=>qan ?_))))
 ·rw[qiE,if_pos h]
 ·rw[qiE,if_neg h,if_pos h2]
 ·rw[qiE,if_neg h,if_neg h2]
theorem qlG(a b:Int):Ret E n_Z1 [dI a,dI b] ⟨o_Z1,(qiE a b,())⟩:=by
 refine qal ?_
 simp only[run_Z1,Z1.ev]
 refine qaa (qks _) (qaa (qks _) (qaA rfl (qaA rfl (qdH (fun h=>qan ?_) fun h=>qdH (fun h2=>qan ?_) fun h2=>qan ?_))))
 ·rw[qiE,if_pos h]
 ·rw[qiE,if_neg h,if_pos h2]
 ·rw[qiE,if_neg h,if_neg h2]
theorem qhw{a b:Sim}{k:Nat}(h:k<a.length)(h':k<b.length):qeh (a.drop k) (b.drop k)=if qiE a[k] b[k]≠0 then qiE a[k] b[k] else qeh (a.drop (k+1)) (b.drop (k+1)):=by
 rw[List.drop_eq_getElem_cons h,List.drop_eq_getElem_cons h',qeh]
 unfold qiE
 split
 ·simp
 ·split
  ·simp
  ·simp
theorem qgp(a b:Sim)(ha:Sm yL a):Ret E n_Z104 [dL a,dL b] ⟨o_Z104,(qeh a b,())⟩:=by
 have ha1:a.length≤1048576:=ha.1
 refine qal ?_
 simp only[run_Z104,Z104.ev]
 refine Ev.start (p:=fun φ n=>Z104.l0 (mkR (run E (φ 0))) (φ 0) n a b a (a.length:Int) 0=_) 1 ?_ (fun _ _ _ h=>h)
 refine qef 1 (σ:=Nat) (L:=fun φ n k=>Z104.l0 (mkR (run E (φ 0))) (φ 0) n a b a (a.length:Int) (k:Int)) (fun _ _ _ _=>rfl) (fun k=>k≤a.length∧k≤b.length) (fun k=>some ⟨o_Z104,(qeh (a.drop k) (b.drop k),())⟩) (fun k=>a.length-k) (fun k ⟨hk,hkb⟩ ih=>?_) 0 ⟨Nat.zero_le _,Nat.zero_le _⟩
 simp only[Z104.l0_succ _ qae]
 refine qdH (fun h=>?_) fun h=>?_
 ·have hka:k<a.length:=by omega
  refine qac (qak hka) (qdH (fun h2=>qan ?_) fun h2=>?_)
  ·rw[List.drop_eq_getElem_cons hka,List.drop_of_length_le (l:=b) (by omega),qeh]
  ·have hkb:k<b.length:=by omega
   refine qac (qak hkb) (qaa (qlG _ _) (qb5 (fun h3=>qan ?_) fun h3=>?_))
   ·rw[qhw hka hkb,if_pos (by simpa using h3)]
   ·rw[qad (by omega)]
    refine(ih (k+1) ⟨by omega,by omega⟩ (by omega)).to ?_
    rw[qhw hka hkb,if_neg (by simpa using h3)]
 ·have e:k=a.length:=by omega
  subst e
  refine qdH (fun h2=>qan ?_) fun h2=>qan ?_
  ·rw[List.drop_of_length_le (l:=a) (by omega),List.drop_eq_getElem_cons (l:=b) (by omega),qeh]
  ·rw[List.drop_of_length_le (l:=a) (by omega),List.drop_of_length_le (l:=b) (by omega),qeh]
theorem qpx(a b:Int):Ret E n_Z2 [dL [a,b]] ⟨o_Z2,(if a≠0 then a else b,())⟩:=by
 refine qal ?_
 simp only[run_Z2,Z2.ev]
 refine Ev.start (p:=fun φ n=>Z2.l0 (mkR (run E (φ 0))) (φ 0) n 0 [a,b] ([a,b].length:Int) 0=_) 1 ?_ (fun _ _ _ h=>h)
 refine Ev.round 1 (L:=fun φ n=>Z2.l0 (mkR (run E (φ 0))) (φ 0) n 0 [a,b] ([a,b].length:Int) 0) ?_ (fun _ _ _=>rfl)
 simp only[Z2.l0_succ _ qae]
 refine qax (by simp) (qac (x:=a) rfl (qb5 (fun h=>qan ?_) fun h=>?_))
 ·rw[if_pos (by simpa using h)]
 ·rw[if_neg (by simpa using h)]
  rw[show w64 ((0:Int)+1)=1 by decide]
  refine Ev.round 1 (L:=fun φ n=>Z2.l0 (mkR (run E (φ 0))) (φ 0) n 0 [a,b] ([a,b].length:Int) 1) ?_ (fun _ _ _=>rfl)
  simp only[Z2.l0_succ _ qae]
  refine qax (by simp) (qac (x:=b) rfl (qb5 (fun h=>qam) fun h=>?_))
  rw[show w64 ((1:Int)+1)=2 by decide]
  refine Ev.round 1 (L:=fun φ n=>Z2.l0 (mkR (run E (φ 0))) (φ 0) n 0 [a,b] ([a,b].length:Int) 2) ?_ (fun _ _ _=>rfl)
  simp only[Z2.l0_succ _ qae]
  refine qaA (by simp) (qan ?_)
  have:b=0:=by simpa using h
  rw[this]
theorem qa9(a b:Sim)(ha:Sm yL a):Ret E n_Z26 [dL a,dL b] ⟨o_Z26,(qeT a b,())⟩:=by
 refine qal ?_
 simp only[run_Z26,Z26.ev]
 exact qaa (qka _ _) (qaa (qgp a b ha) (qaa (qpx _ _) qam))
theorem qfd(a b:Sim)(ha:Sm yL a):Ret E n_Z144 [dL a,dL b] ⟨o_Z144,(pb (qeT a b<0),())⟩:=by
  have ha1:a.length≤1048576:=ha.1
  refine qal ?_
  simp only[run_Z144,Z144.ev]
  refine qb5 (fun h=>qan ?_) fun h=>?_
  · have h:(a.length:Int)≠b.length:=by simpa using h
    rw[qfh,qaM (show(a.length:Int)<b.length↔qeT a b<0 by rw[qht];omega)]
  · have h : a.length = b.length := by have : (a.length : Int) = b.length := by simpa using h
                                       omega
    refine Ev.start (p:=fun φ n=>Z144.l0 (mkR (run E (φ 0))) (φ 0) n a b 0=_) 1 ?_ (fun _ _ _ h=>h)
    refine(qef 1 (σ:=Nat) (L:=fun φ n k=>Z144.l0 (mkR (run E (φ 0))) (φ 0) n a b (k:Int)) (fun _ _ _ _=>rfl) (fun k=>k≤a.length) (fun k=>some ⟨o_Z144,(pb (qeh (a.drop k) (b.drop k)<0),())⟩) (fun k=>a.length-k) (fun k hk ih=>?_) 0 (Nat.zero_le _)).to ?_
    · simp only[Z144.l0_succ _ qae]
      refine qdH (fun h1=>?_) fun h1=>?_
      · have hka:k<a.length:=by omega
        have hkb:k<b.length:=by omega
        have e:=qhw hka hkb
        refine qac (qak hka) (qac (qak hkb) (qb5 (fun h3=>?_) fun h3=>?_))
        · refine qac (qak hka) (qac (qak hkb) (qan ?_))
          have h3:a[k]≠b[k]:=by simpa using h3
          rw[if_pos (by rw[Ne,qd4];exact h3)] at e
          rw[e,qfh,qaM qm0]
        · have h3:a[k]=b[k]:=by simpa using h3
          rw[if_neg (by rw[Classical.not_not,qd4];exact h3)] at e
          rw[qad (by omega),e]
          exact ih (k+1) (by show k+1≤_;omega) (by show a.length-(k+1)<_;omega)
      · refine qan ?_
        have hk:k≤a.length:=hk
        have e:k=a.length:=by omega
        subst e
        rw[List.drop_of_length_le (l:=a) (by omega),List.drop_of_length_le (l:=b) (by omega),qeh,qas (by omega)]
    · refine congrArg (fun b:Bool=>some (⟨o_Z144,(b,())⟩:Dv)) (qaM ?_)
      simp only[List.drop_zero];rw[qht];omega
end VeT
open Go Go.Proofs Ve
namespace VeT
theorem qaf{α:Type}{s:List α}{k:Nat}{d:α}(h:k<s.length):s.getD k d=s[k]:=by simp[List.getD_eq_getElem?_getD,h]
theorem qbq{t:Ty}{s:List t.T}(h:Sm (.sl t) s){k:Nat}(hk:k<s.length):Sm t s[k]:=h.2 _ (List.getElem_mem hk)
theorem qhl{s:Sim}(h:s.length≤1048576):Sm yL s:=⟨h,fun _ _=>trivial⟩
theorem qfI(s:Sim)(hs:s.length≤1048576):Ret E n_Z128 [dL s] ⟨o_Z128,(s,())⟩:=by
 refine qal ?_
 simp only[run_Z128,Z128.ev]
 exact qaq (by simp;omega) (qan rfl)
theorem qeC(s:Sim)(k:Nat)(hk:k<s.length)(hs:s.length≤1048576):Ret E n_Z145 [dL s,dI (k:Int)] ⟨o_Z145,(s.eraseIdx k,())⟩:=by
 refine qal ?_
 simp only[run_Z145,Z145.ev]
 rw[qad (by omega)]
 simp only[Int.toNat_natCast]
 refine qaq (by simp;omega) (qaa (qfI _ (by simp;omega)) (qaq (by simp;omega) (qaq (by simp;omega) (qan ?_))))
 rw[List.eraseIdx_eq_take_drop_succ]
theorem qf7(a b:Sim)(ha:a.length≤1048576):Ret E n_Z130 [dL a,dL b] ⟨o_Z130,(pb (a=b),())⟩:=by
 refine qal ?_
 simp only[run_Z130,Z130.ev]
 refine qb5 (fun h=>qan ?_) fun h=>?_
 ·have h:(a.length:Int)≠b.length:=by simpa using h
  rw[qas fun e=>h (by rw[e])]
 ·have h:(a.length:Int)=b.length:=by simpa using h
  refine Ev.start (p:=fun φ n=>Z130.l0 (mkR (run E (φ 0))) (φ 0) n a b 0=_) 1 ?_ (fun _ _ _ h=>h)
  refine(qdw 1 (L:=fun φ n k=>Z130.l0 (mkR (run E (φ 0))) (φ 0) n a b k) (len:=a.length) 0 (by omega) (fun j=>a.getD j 0=b.getD j 0) (fun b=>some ⟨o_Z130,(b,())⟩) (fun _ _ _ _=>rfl) (fun k h1 h2 hP _=>?_) (fun k r h1 h2 hP _ ih=>?_) (fun _=>?_)).to ?_
  ·simp only[Z130.l0_succ _ qae]
   have hb:k<b.length:=by omega
   rw[qaf h2,qaf hb] at hP
   exact qax (decide_eq_true (by omega)) (qac (qak h2) (qac (qak hb) (qax (by simpa using hP) qam)))
  ·simp only[Z130.l0_succ _ qae]
   have hb:k<b.length:=by omega
   rw[qaf h2,qaf hb] at hP
   refine qax (decide_eq_true (by omega)) (qac (qak h2) (qac (qak hb) (qaA (by simpa using hP) ?_)))
   rw[qad (by omega)];exact ih
  ·simp only[Z130.l0_succ _ qae]
   exact qaA (decide_eq_false (by omega)) qam
  ·refine congrArg (fun b:Bool=>some (⟨o_Z130,(b,())⟩:Dv)) (qaM ⟨fun hh=>List.ext_getElem (by omega) fun j h1 h2=>?_,fun hh j _ _=>by rw[hh]⟩)
   have:=hh j (by omega) h1
   rwa [qaf h1,qaf h2] at this
noncomputable def qcT(c:List Sim)(s:Sim):Int:=qjd (fun x=>pb (x=s)) c
theorem qbF{c:List Sim}{s:Sim}:0≤qcT c s↔s∈c:=by
 unfold qcT
 rw[qbZ]
 simp only[qaE]
 exact⟨fun⟨x,h,e⟩=>e ▸ h,fun h=>⟨s,h,rfl⟩⟩
theorem qdh(c:Cpx)(s:Sim)(hc:Sm yK c.1):Ret E n_Z147 [dC c,dL s] ⟨o_Z147,(qcT c.1 s,())⟩:=by
  have hc1:c.1.length≤1048576:=hc.1
  obtain⟨o,h1,h2,h3⟩:=qbK 1 (L:=fun φ n k=>Z147.l0 (mkR (run E (φ 0))) (φ 0) n c s k) (len:=c.1.length) (fun k=>∃ h:k<c.1.length,pb (c.1[k]=s)=true) (fun o=>some ⟨o_Z147,(o2i o,())⟩) (fun _ _ _ _=>rfl) (fun k hk hP=>by
      obtain⟨_,hP⟩:=hP
      simp only[Z147.l0_succ _ qae]
      refine qax (decide_eq_true (by omega)) (qac (qak hk) (qaa (qf7 _ _ (qbq hc hk).1) (qax hP qam)))) (fun k q hk hP ih=>by
      simp only[Z147.l0_succ _ qae]
      refine qax (decide_eq_true (by omega)) (qac (qak hk) (qaa (qf7 _ _ (qbq hc hk).1) (qaA (Bool.eq_false_iff.2 fun h=>hP ⟨hk,h⟩) ?_)))
      rw[qad (by omega)];exact ih) (by
      simp only[Z147.l0_succ _ qae]
      exact qaA (decide_eq_false (by omega)) qam)
  rw[qdo (p:=fun x=>pb (x=s)) h1 h2] at h3
  refine qal ?_
  simp only[run_Z147,Z147.ev]
  exact Ev.start (p:=fun φ n=>Z147.l0 (mkR (run E (φ 0))) (φ 0) n c s 0=_) 1 h3 (fun _ _ _ h=>h)
theorem qoI(n:Nat)(args:List Dv):run E (n+1) n_Z114 args=qmD yI (mkR (run E n)) args:=rfl
theorem qoe(s:Sim)(n:Int)(h0:0≤n)(h1:n≤1048576)(hs:s.length≤1048576):Ret E n_Z114 [dL s,dI n] ⟨o_Z114,(s,())⟩:=by
 refine qal ?_
 simp only[qoI]
 refine qan ((if_pos (show 0≤n∧((List.length s:Int)+n)*(64*(Ty.size (Ty.int IntKind.i64):Int))≤70368744177664 from⟨h0,?_⟩)).trans rfl)
 have:(Ty.size (Ty.int IntKind.i64))=1:=rfl
 rw[this];omega
theorem qiJ(ll:List Sim)(hl:ll.length≤1048576)(hf:ll.flatten.length≤1048576):Ret E n_Z105 [dLL ll] ⟨o_Z105,(ll.flatten,())⟩:=by
 have hle:∀ k,(ll.take k).flatten.length≤ll.flatten.length:=fun k=>by
  have:=congrArg List.length (congrArg List.flatten (List.take_append_drop k ll))
  rw[List.flatten_append,List.length_append] at this;omega
 have hst:∀ k (h:k<ll.length),(ll.take (k+1)).flatten=(ll.take k).flatten++ll[k]:=fun k h=>by
  rw[List.take_succ_eq_append_getElem h,List.flatten_append];simp
 refine qal ?_
 simp only[run_Z105,Z105.ev]
 refine Ev.start (p:=fun φ n=>Z105.l0 (mkR (run E (φ 0))) (φ 0) n ll 0 ll (ll.length:Int) 0=_) 1 ?_ (fun _ _ _ h=>h)
 refine qap 1 (L:=fun φ n k a=>Z105.l0 (mkR (run E (φ 0))) (φ 0) n ll a ll (ll.length:Int) k) (len:=ll.length) (fun k=>(((ll.take k).flatten.length:Nat):Int)) (fun _ _ _ _ _=>rfl) (fun k r hk ih=>?_) ?_
 ·simp only[Z105.l0_succ _ qae]
  have:=hle (k+1)
  have e:=hst k hk
  have e2:w64 (((ll.take k).flatten.length:Nat)+(List.length (ll[k]):Int))=(((ll.take (k+1)).flatten.length:Nat):Int):=by
   rw[qah (by omega) (by rw[e,List.length_append] at this;omega),e,List.length_append];omega
  refine qax (decide_eq_true (by omega)) (qac (qak hk) ?_)
  show Ev fun φ=>(bif decide (w64 (((ll.take k).flatten.length:Nat)+(List.length (ll[k]):Int))<0) then none else Z105.l0 (mkR (run E (φ 0))) (φ 0) (φ 1) ll (w64 (((ll.take k).flatten.length:Nat)+(List.length (ll[k]):Int))) ll (ll.length:Int) (w64 ((k:Int)+1)))=r
  rw[e2,qad (by omega)]
  exact qaA (decide_eq_false (by omega)) ih
 ·simp only[Z105.l0_succ _ qae]
  refine qaA (decide_eq_false (by omega)) (qaa (qoe [] _ (by omega) (by have:=hle ll.length;omega) (by simp)) ?_)
  refine Ev.start (p:=fun φ n=>Z105.l1 (mkR (run E (φ 0))) (φ 0) n ll (ll.length:Int) 0 []=_) 2 ?_ (fun _ _ _ h=>h)
  refine qap 2 (L:=fun φ n k a=>Z105.l1 (mkR (run E (φ 0))) (φ 0) n ll (ll.length:Int) k a) (len:=ll.length) (fun k=>(ll.take k).flatten) (fun _ _ _ _ _=>rfl) (fun k r hk ih=>?_) ?_
  ·simp only[Z105.l1_succ _ qae]
   have:=hle (k+1)
   have e:=hst k hk
   rw[e] at ih this
   rw[List.length_append] at this
   refine qax (decide_eq_true (by omega)) (qac (qak hk) (qaq (decide_eq_true (by show(_+List.length ll[k])*8≤_;omega)) ?_))
   rw[qad (by omega)]
   exact ih
  ·simp only[Z105.l1_succ _ qae]
   refine qaA (decide_eq_false (by omega)) (qan ?_)
   rw[List.take_of_length_le (Nat.le_refl _)]
def qb2(s:Sim):List Sim:=if 1<s.length then(List.range s.length).map (s.eraseIdx ·) else []
theorem qc2{s f:Sim}:f∈qb2 s↔1<s.length∧∃ i,i<s.length∧f=s.eraseIdx i:=by
 unfold qb2
 split
 ·rename_i h
  simp only[List.mem_map,List.mem_range,h,true_and]
  exact⟨fun⟨i,h1,h2⟩=>⟨i,h1,h2.symm⟩,fun⟨i,h1,h2⟩=>⟨i,h1,h2.symm⟩⟩
 ·rename_i h
  simp[h]
theorem qnZ{s f:Sim}(h:f∈qb2 s):f.length+1=s.length:=by
 obtain⟨h1,i,h2,rfl⟩:=qc2.1 h
 rw[List.length_eraseIdx,if_pos h2];omega
theorem qf0{s:Sim}:(qb2 s).length≤s.length:=by
 unfold qb2;split<;>simp
theorem qeG(s:Sim)(hs:s.length≤1048576):Ret E n_Z34 [dL s] ⟨o_Z34,(qb2 s,())⟩:=by
 refine qal ?_
 simp only[run_Z34,Z34.ev]
 refine Ev.start (p:=fun φ n=>Z34.l0 (mkR (run E (φ 0))) (φ 0) n s (s.length:Int) 0 []=_) 1 ?_ (fun _ _ _ h=>h)
 by_cases h1:1<s.length
 ·refine qap 1 (L:=fun φ n k a=>Z34.l0 (mkR (run E (φ 0))) (φ 0) n s (s.length:Int) k a) (len:=s.length) (fun k=>(List.range k).map (s.eraseIdx ·)) (fun _ _ _ _ _=>rfl) (fun k r hk ih=>?_) ?_
  ·simp only[Z34.l0_succ _ qae]
   rw[List.range_succ,List.map_append] at ih
   rw[qad (by omega)]
   simp only[Int.toNat_natCast]
   refine qax (decide_eq_true (by omega)) (qax (decide_eq_true (by omega)) (qaq (by simp;omega) (qaq (by simp;omega) (qaa (qiJ _ (by simp) (by simp;omega)) (qaq (by simp;omega) ?_)))))
   rw[show [s.take k,s.drop (k+1)].flatten=s.eraseIdx k by simp[List.eraseIdx_eq_take_drop_succ]]
   exact ih
  ·simp only[Z34.l0_succ _ qae]
   exact qaA (decide_eq_false (by omega)) (qan (by rw[qb2,if_pos h1]))
 ·refine qap 1 (L:=fun φ n k a=>Z34.l0 (mkR (run E (φ 0))) (φ 0) n s (s.length:Int) k a) (len:=s.length) (fun k=>[]) (fun _ _ _ _ _=>rfl) (fun k r hk ih=>?_) ?_
  ·simp only[Z34.l0_succ _ qae]
   rw[qad (by omega)]
   exact qax (decide_eq_true (by omega)) (qaA (decide_eq_false (by omega)) ih)
  ·simp only[Z34.l0_succ _ qae]
   exact qaA (decide_eq_false (by omega)) (qan (by rw[qb2,if_neg h1]))
def Srt(c:List Sim):Prop:=∀ i j (h:j<c.length) (hij:i<j),qeT c[i] c[j]<0
theorem qo4{c:List Sim}(h:∀ k,1≤k→k<c.length→qeT (c.getD (k-1) []) (c.getD k [])<0):Srt c:=by
 intro i j
 induction j with
 | zero=>intro _ h;omega
 | succ j ih =>
  intro hj hij
  have:=h (j+1) (by omega) hj
  rw[Nat.add_sub_cancel,qaf (by omega),qaf hj] at this
  by_cases e:i=j
  ·subst e;exact this
  ·exact qit (ih (by omega) (by omega)) this
theorem Srt.take{c:List Sim}(h:Srt c)(k:Nat):Srt (c.take k):=by
 intro i j hj hij
 rw[List.getElem_take,List.getElem_take]
 exact h i j (by rw[List.length_take] at hj;omega) hij
def bs(c:List Sim)(s:Sim):Nat:=c.findIdx (fun x=>!decide (qeT x s<0))
theorem qqE{c:List Sim}{s:Sim}:bs c s≤c.length:=List.findIdx_le_length
theorem qnC{c:List Sim}{s:Sim}(hc:Srt c){t:Nat}(h:t<c.length):t<bs c s↔qeT c[t] s<0:=by
 constructor
 ·intro ht
  have:=List.not_of_lt_findIdx ht
  simpa using this
 ·intro ht
  refine Classical.byContradiction fun hn=>?_
  have hb:bs c s<c.length:=by omega
  have h1:qeT c[bs c s] s<0:=by
   by_cases e:bs c s=t
   ·simp only[e];exact ht
   ·exact qit (hc _ _ h (by omega)) ht
  have:=List.findIdx_getElem (w:=hb)
  simp only[Bool.not_eq_true',decide_eq_false_iff_not] at this
  exact this h1
theorem qnS{c:List Sim}{s:Sim}(hc:Srt c):qcT c s=if h:bs c s<c.length∧c.getD (bs c s) []=s then(bs c s:Int) else -1:=by
 have e:c.findIdx? (fun x=>pb (x=s))=if bs c s<c.length∧c.getD (bs c s) []=s then some (bs c s) else none:=by
  split
  ·rename_i h
   obtain⟨h1,h2⟩:=h
   rw[List.findIdx?_eq_some_iff_getElem]
   rw[qaf h1] at h2
   refine⟨h1,qaK h2,fun j hj=>?_⟩
   rw[qaE]
   intro he
   have:=(qnC (s:=s) hc (show j<c.length by omega)).1 hj
   rw[he,qc5.2 rfl] at this
   omega
  ·rename_i h
   rw[List.findIdx?_eq_none_iff]
   intro x hx
   rw[qa1]
   rintro rfl
   obtain⟨j,hj,rfl⟩:=List.mem_iff_getElem.1 hx
   have h0:¬ j<bs c c[j]:=fun hlt=>by
    have:=(qnC hc hj).1 hlt
    rw[qc5.2 rfl] at this;omega
   by_cases hjb:bs c c[j]=j
   ·exact h ⟨by omega,by rw[hjb,qaf hj]⟩
   ·have hb:bs c c[j]<c.length:=by omega
    have:=(qnC (s:=c[j]) hc hb).2 (hc _ _ hj (by omega))
    omega
 unfold qcT qjd
 rw[e]
 split<;>rfl
theorem qgy(c:List Sim)(s:Sim)(hc:Sm yK c)(hs:Srt c):Ret E n_Z101 [dLL c,dL s,⟨.fn n_Z26 .nil,()⟩] ⟨o_Z101,((bs c s:Int),pb (bs c s<c.length∧c.getD (bs c s) []=s),())⟩:=by
 have hc1:c.length≤1048576:=hc.1
 refine qal ?_
 simp only[run_Z101,Z102.ev]
 refine Ev.start (p:=fun φ n=>Z102.l0 (mkR (run E (φ 0))) (φ 0) n c s (c.length:Int) 0 (c.length:Int)=_) 1 ?_ (fun _ _ _ h=>h)
 refine qef 1 (σ:=Nat×Nat) (L:=fun φ n st=>Z102.l0 (mkR (run E (φ 0))) (φ 0) n c s (c.length:Int) (st.1:Int) (st.2:Int)) (fun _ _ _ _=>rfl) (fun st=>st.1≤bs c s∧bs c s≤st.2∧st.2≤c.length) (fun _=>_) (fun st=>st.2-st.1) (fun st hi ih=>?_) (0,c.length) ⟨Nat.zero_le _,qqE,Nat.le_refl _⟩
 obtain⟨i,j⟩:=st
 obtain⟨h1,h2,h3⟩:=hi
 simp only at h1 h2 h3 ih
 simp only[Z102.l0_succ _ qae]
 rw[qqN (by omega)]
 refine qdH (fun hij=>?_) fun hij=>?_
 ·have hh:(i+j) / 2<c.length:=by omega
  refine qaq (by decide) (qac (qak hh) (qaa (qa9 _ _ (qbq hc hh)) (qdH (fun hlt=>?_) fun hlt=>?_)))
  ·rw[qad (by omega)]
   have:=(qnC hs hh).2 hlt
   exact ih ((i+j) / 2+1,j) ⟨this,h2,h3⟩ (by simp only;omega)
  ·have:¬ (i+j) / 2<bs c s:=fun h=>hlt ((qnC hs hh).1 h)
   exact ih (i,(i+j) / 2) ⟨h1,by simp only;omega,by simp only;omega⟩ (by simp only;omega)
 ·have e:i=bs c s:=by omega
  subst e
  refine qdH (fun hl=>?_) fun hl=>qan ?_
  ·have hh:bs c s<c.length:=by omega
   refine qac (qak hh) (qaa (qa9 _ _ (qbq hc hh)) (qan ?_))
   have:(qeT c[bs c s] s==0)=pb (bs c s<c.length∧c.getD (bs c s) []=s):=qgq (by
    rw[qaf hh,beq_iff_eq,qc5];exact⟨fun h=>⟨hh,h⟩,fun h=>h.2⟩)
   rw[this]
  ·rw[qas fun h=>hl (by omega)]
theorem qeN(c:List Sim)(s:Sim)(hc:Sm yK c)(hs:Srt c):Ret E n_Z45 [dLL c,dL s] ⟨o_Z45,(qcT c s,())⟩:=by
 refine qal ?_
 simp only[run_Z45,Z45.ev]
 refine qaa (qgy c s hc hs) (qb5 (fun h=>qan ?_) fun h=>qan ?_)
 ·rw[qnS hs,dif_neg (qa1.1 (by simpa using h))]
 ·rw[qnS hs,dif_pos (qaE.1 (by simpa using h))]
end VeT
open Go Go.Proofs Ve
namespace VeT
def VC(c:List Sim):Prop:=c.length≤48∧(∀ k,k<c.length→Vx (c.getD k []))∧(∀ k,1≤k→k<c.length→qeT (c.getD (k-1) []) (c.getD k [])<0)∧∀ k,k<c.length→∀ f∈qb2 (c.getD k []),f∈c
theorem VC.srt{c:List Sim}(h:VC c):Srt c:=qo4 h.2.2.1
def qjZ(c:List Sim)(k:Nat):Prop:=(Vx (c.getD k [])∧(1≤k→qeT (c.getD (k-1) []) (c.getD k [])<0))∧∀ f∈qb2 (c.getD k []),f∈c.take k
theorem qpA{c:List Sim}:((∀ k,0≤k→k<c.length→qjZ c k)∧c.length≤48)↔VC c:=by
 constructor
 ·rintro⟨h,hl⟩
  exact⟨hl,fun k hk=>(h k (by omega) hk).1.1,fun k h1 hk=>(h k (by omega) hk).1.2 h1,fun k hk f hf=>List.mem_of_mem_take ((h k (by omega) hk).2 f hf)⟩
 ·intro h
  have hs:=h.srt
  obtain⟨hl,h1,h2,h3⟩:=h
  refine⟨fun k _ hk=>⟨⟨h1 k hk,fun hk1=>h2 k hk1 hk⟩,fun f hf=>?_⟩,hl⟩
  have hm:=h3 k hk f hf
  have hlen:=qnZ hf
  rw[qaf hk] at hlen
  obtain⟨i,hi,rfl⟩:=List.mem_iff_getElem.1 hm
  have hlt:qeT c[i] c[k]<0:=qht.2 (.inl (by omega))
  have hik:i<k:=Classical.byContradiction fun hn=>by
   by_cases e:i=k
   ·subst e;omega
   ·have:=hs k i hi (by omega)
    rw[qob] at this;omega
  exact List.mem_iff_getElem.2 ⟨i,by rw[List.length_take];omega,by rw[List.getElem_take]⟩
theorem qpO{t:Ty}{s:List t.T}(h:Sm (.sl t) s)(k:Nat):Sm (.sl t) (s.take k):=⟨by have h1:s.length≤1048576:=h.1;show(s.take k).length≤_;rw[List.length_take];omega,fun x hx=>h.2 x (List.mem_of_mem_take hx)⟩
theorem qfa(c:List Sim)(f:Sim)(k:Nat)(hk:k≤c.length)(hc:Sm yK c)(hs:Srt (c.take k)) :
  Ret E n_Z11 [dL f,dC (c,()),⟨.ptr (.cons yI .nil),((k:Int),())⟩] ⟨o_Z11,(pb (¬ f∈c.take k),())⟩:=by
 refine qal ?_
 simp only[run_Z11,Z11.ev]
 simp only[Int.toNat_natCast]
 refine qaq (by simp;omega) (qaa (qeN _ f (qpO hc k) hs) (qan ?_))
 simp only[qfh,qaM (show qcT (c.take k) f<0↔¬ f∈c.take k by rw[← qbF];omega)]
theorem qgt(c:List Sim)(hc:Sm yK c):Ret E n_Z10 [dLL c] ⟨o_Z10,(pb (VC c),())⟩:=by
  have hc1:c.length≤1048576:=hc.1
  refine qal ?_
  simp only[run_Z10,Z10.ev]
  refine Ev.start (p:=fun φ n=>Z10.l0 (mkR (run E (φ 0))) (φ 0) n c (c.length:Int) 0 c=_) 1 ?_ (fun _ _ _ h=>h)
  have key:∀(n:Nat) (k:Nat) (hk:k<c.length) (hpre:∀ j,0≤j→j<k→qjZ c j),Srt (c.take k):=fun n k hk hpre=>qo4 fun j h1 h2=>by
    rw[List.length_take] at h2
    have:=(hpre j (by omega) (by omega)).1.2 h1
    rw[qaf (by omega),qaf (by omega)] at this
    rw[qaf (by rw[List.length_take];omega),qaf (by rw[List.length_take];omega),List.getElem_take,List.getElem_take]
    exact this
  have hcon:∀(k:Nat) (hk:k<c.length) (hpre:∀ j,0≤j→j<k→qjZ c j),Ret E n_Z106 [dLL (qb2 c[k]),⟨.fn n_Z11 (.cons (.ptr yC) (.cons (.ptr (.cons yI .nil)) .nil)),((c,()),((k:Int),()),())⟩] ⟨o_Z106,(pb (∃ x∈qb2 c[k],pb (¬ x∈c.take k)=true),())⟩:=fun k hk hpre =>
    qaW (qb2 c[k]) ((c,()),((k:Int),()),()) _ (Nat.le_trans qf0 (qbq hc hk).1) fun x hx=>qfa c x k (by omega) hc (key 0 k hk hpre)
  refine(qdw 1 (L:=fun φ n k=>Z10.l0 (mkR (run E (φ 0))) (φ 0) n c (c.length:Int) k c) (len:=c.length) 0 (by omega) (qjZ c) (fun b=>some ⟨o_Z10,(b&&decide ((c.length:Int)≤48),())⟩) (fun _ _ _ _=>rfl) (fun k h1 h2 hP hpre=>?_) (fun k r h1 h2 hP hpre ih=>?_) (fun _=>?_)).to ?_
  · simp only[Z10.l0_succ _ qae]
    refine qax (decide_eq_true (by omega)) (qac (qak h2) (qaa (qdA _ (qbq hc h2)) ?_))
    refine qb5 (fun hv=>?_) fun hv=>?_
    · simp only[Z10.j1_eq _ qae,cond_true];(first | exact qam | exact Ev.of fun _=>trivial)
    · have hv:Vx c[k]:=qaE.1 (by simpa using hv)
      have last:(1≤k→qeT (c.getD (k-1) []) (c.getD k [])<0)→Ev fun φ=>Z10.j1 (mkR (run E (φ 0))) (φ 0) (φ 1) c[k] c (c.length:Int) (k:Int) false c (k:Int)=some ⟨o_Z10,(false,())⟩:=fun hcm=>by
        simp only[Z10.j1_eq _ qae,cond_false]
        refine qaa (qeG _ (qbq hc h2).1) (qaa (hcon k h2 hpre) (qax ?_ qam))
        refine qaK (Classical.byContradiction fun hn=>hP ⟨⟨by rw[qaf h2];exact hv,hcm⟩,fun f hf=>Classical.byContradiction fun hnf=>hn ⟨f,by rw[qaf h2] at hf;exact hf,qaK hnf⟩⟩)
      refine qdH (fun hk=>?_) fun hk=>?_
      · rw[qah (by omega) (by omega),show((k:Int)-1)=((k-1:Nat):Int) by omega]
        have hk1:k-1<c.length:=by omega
        refine qac (qak hk1) (qaa (qa9 _ _ (qbq hc hk1)) ?_)
        by_cases hcm:qeT c[k-1] c[k]<0
        · simp only[show decide (qeT c[k-1] c[k]≥0)=false from decide_eq_false (by omega)]
          exact last fun _=>by rw[qaf hk1,qaf h2];exact hcm
        · simp only[show decide (qeT c[k-1] c[k]≥0)=true from decide_eq_true (by omega),Z10.j1_eq _ qae,cond_true]
          (first | exact qam | exact Ev.of fun _=>trivial)
      · exact last fun h=>absurd h (by omega)
  · simp only[Z10.l0_succ _ qae]
    have hP':=hP
    obtain⟨⟨hv,hcm⟩,hfc⟩:=hP'
    rw[qaf h2] at hv hfc
    refine qax (decide_eq_true (by omega)) (qac (qak h2) (qaa (qdA _ (qbq hc h2)) (qaA (by rw[qaK hv];rfl) ?_)))
    have last:Ev fun φ=>Z10.j1 (mkR (run E (φ 0))) (φ 0) (φ 1) c[k] c (c.length:Int) (k:Int) false c (k:Int)=r:=by
      simp only[Z10.j1_eq _ qae,cond_false]
      refine qaa (qeG _ (qbq hc h2).1) (qaa (hcon k h2 hpre) (qaA ?_ ?_))
      · exact qas fun⟨x,hx,hn⟩=>qaE.1 hn (hfc x hx)
      · rw[qad (by omega)];exact ih
    refine qdH (fun hk=>?_) fun hk=>last
    rw[qah (by omega) (by omega),show((k:Int)-1)=((k-1:Nat):Int) by omega]
    have hk1:k-1<c.length:=by omega
    have hcm:=hcm (by omega)
    rw[qaf hk1,qaf h2] at hcm
    refine qac (qak hk1) (qaa (qa9 _ _ (qbq hc hk1)) ?_)
    simp only[show decide (qeT c[k-1] c[k]≥0)=false from decide_eq_false (by omega)]
    exact last
  · simp only[Z10.l0_succ _ qae]
    exact qaA (decide_eq_false (by omega)) (qan (by rw[Bool.true_and]))
  · have:(pb (∀ j,0≤j→j<c.length→qjZ c j)&&decide ((c.length:Int)≤48))=pb (VC c):=qgq (by
      rw[Bool.and_eq_true,qaE,decide_eq_true_iff,← qpA]
      exact⟨fun h=>⟨h.1,by omega⟩,fun h=>⟨h.1,by omega⟩⟩)
    rw[this]
def qpe(c:List Sim)(k:Nat):Prop:=(Vx (c.getD k [])∧(1≤k→qeT (c.getD (k-1) []) (c.getD k [])<0))∧∀ f∈qb2 (c.getD k []),f∈c
theorem qmZ(c:Cpx)(hc:Sm yK c.1):Ret E n_Z149 [dC c] ⟨o_Z149,(pb (VC c.1),())⟩:=by
  have hc1:c.1.length≤1048576:=hc.1
  refine qal ?_
  simp only[run_Z149,Z149.ev]
  refine qdH (fun h=>qan ?_) fun h48=>?_
  · rw[qas fun hv=>by have:=hv.1;omega]
  refine Ev.start (p:=fun φ n=>Z149.l0 (mkR (run E (φ 0))) (φ 0) n c 0=_) 1 ?_ (fun _ _ _ h=>h)
  -- the inner loop
  have inner:∀(k:Nat) (h2:k<c.1.length) (r:Option Dv),((∀ f∈qb2 c.1[k],f∈c.1)→Ev fun φ=>Z149.l0 (mkR (run E (φ 0))) (φ 0) (φ 1) c ((k+1:Nat):Int)=r)→(¬ (∀ f∈qb2 c.1[k],f∈c.1)→r=some ⟨o_Z149,(false,())⟩)→Ev fun φ=>Z149.l2 (mkR (run E (φ 0))) (φ 0) (φ 1) (φ 0) c (k:Int) c.1[k] 0=r:=fun k h2 r hgo hstop=>by
    have hks:(c.1[k]).length≤1048576:=(qbq hc h2).1
    refine Ev.start (p:=fun φ n=>Z149.l2 (mkR (run E (φ 0))) (φ 0) (φ 1) n c (k:Int) c.1[k] 0=_) 2 ?_ (fun _ _ _ h=>h)
    by_cases hlen:1<(c.1[k]).length
    · obtain⟨t,f⟩:=qiN 2 (L:=fun φ n i=>Z149.l2 (mkR (run E (φ 0))) (φ 0) (φ 1) n c (k:Int) c.1[k] i) (len:=(c.1[k]).length) 0 (by omega) (fun i=>(c.1[k]).eraseIdx i∈c.1) (rt:=r) (rf:=some ⟨o_Z149,(false,())⟩) (fun _ _ _ _=>rfl) (fun i _ hi hP _=>by
        simp only[Z149.l2_succ _ qae]
        refine qax (decide_eq_true (by omega)) ?_
        simp only[show decide (((c.1[k]).length:Int)>1)=true from decide_eq_true (by omega),Z149.j3_eq _ qae,cond_true]
        refine qaa (qeC _ i hi hks) (qaa (qdh c _ hc) (qax (decide_eq_true ?_) qam))
        have hq:=mt (qbF (c:=c.1) (s:=(c.1[k]).eraseIdx i)).1 hP;simp only;exact Int.not_le.1 hq) (fun i q _ hi hP _ ih=>by
        simp only[Z149.l2_succ _ qae]
        refine qax (decide_eq_true (by omega)) ?_
        simp only[show decide (((c.1[k]).length:Int)>1)=true from decide_eq_true (by omega),Z149.j3_eq _ qae,cond_true]
        refine qaa (qeC _ i hi hks) (qaa (qdh c _ hc) (qaA (decide_eq_false ?_) ?_))
        · have hq:=(qbF (c:=c.1) (s:=(c.1[k]).eraseIdx i)).2 hP;simp only;exact Int.not_lt.2 hq
        · rw[qad (by omega)];exact ih) (fun hall=>by
        simp only[Z149.l2_succ _ qae]
        refine qaA (decide_eq_false (by omega)) ?_
        simp only[Z149.j3_eq _ qae,cond_false]
        rw[qad (by omega)]
        exact hgo fun f hf=>by
          obtain⟨_,i,hi,rfl⟩:=qc2.1 hf
          exact hall i (by omega) hi)
      by_cases hall:∀ i,0≤i→i<(c.1[k]).length→(c.1[k]).eraseIdx i∈c.1
      · exact t hall
      · rw[hstop fun hf=>hall fun i _ hi=>hf _ (qc2.2 ⟨hlen,i,hi,rfl⟩)]
        exact f hall
    · refine Ev.round 2 (L:=fun φ n=>Z149.l2 (mkR (run E (φ 0))) (φ 0) (φ 1) n c (k:Int) c.1[k] 0) ?_ (fun _ _ _=>rfl)
      have hgo:=hgo fun f hf=>absurd (qc2.1 hf).1 hlen
      have hj:Ev fun φ=>Z149.j3 (mkR (run E (φ 0))) (φ 0) (φ 1) (φ 2) c (k:Int) c.1[k] 0 false=r:=by
        simp only[Z149.j3_eq _ qae,cond_false]
        rw[qad (by omega)];exact hgo
      simp only[Z149.l2_succ _ qae]
      refine qdH (fun _=>?_) fun _=>hj
      simp only[show decide (((c.1[k]).length:Int)>1)=false from decide_eq_false (by omega)]
      exact hj
  refine(qdw 1 (L:=fun φ n k=>Z149.l0 (mkR (run E (φ 0))) (φ 0) n c k) (len:=c.1.length) 0 (by omega) (qpe c.1) (fun b=>some ⟨o_Z149,(b,())⟩) (fun _ _ _ _=>rfl) (fun k h1 h2 hP hpre=>?_) (fun k r h1 h2 hP hpre ih=>?_) (fun _=>?_)).to ?_
  · simp only[Z149.l0_succ _ qae]
    refine qax (decide_eq_true (by omega)) (qac (qak h2) (qaa (qej _ (qbq hc h2)) ?_))
    refine qb5 (fun hv=>?_) fun hv=>?_
    · simp only[Z149.j1_eq _ qae,cond_true];(first | exact qam | exact Ev.of fun _=>trivial)
    · have hv:Vx c.1[k]:=qaE.1 (by simpa using hv)
      have last:(1≤k→qeT (c.1.getD (k-1) []) (c.1.getD k [])<0)→Ev fun φ=>Z149.j1 (mkR (run E (φ 0))) (φ 0) (φ 1) c (k:Int) c.1[k] false=some ⟨o_Z149,(false,())⟩:=fun hcm=>by
        simp only[Z149.j1_eq _ qae,cond_false]
        refine inner k h2 _ (fun hf=>absurd ⟨⟨by rw[qaf h2];exact hv,hcm⟩,by rw[qaf h2];exact hf⟩ hP) fun _=>rfl
      refine qdH (fun hk=>?_) fun hk=>?_
      · rw[qah (by omega) (by omega),show((k:Int)-1)=((k-1:Nat):Int) by omega]
        have hk1:k-1<c.1.length:=by omega
        refine qac (qak hk1) (qaa (qfd _ _ (qbq hc hk1)) ?_)
        by_cases hcm:qeT c.1[k-1] c.1[k]<0
        · simp only[qaK hcm]
          exact last fun _=>by rw[qaf hk1,qaf h2];exact hcm
        · simp only[qas hcm,Z149.j1_eq _ qae,cond_true,Bool.not_false]
          (first | exact qam | exact Ev.of fun _=>trivial)
      · exact last fun h=>absurd h (by omega)
  · simp only[Z149.l0_succ _ qae]
    obtain⟨⟨hv,hcm⟩,hfc⟩:=hP
    rw[qaf h2] at hv hfc
    refine qax (decide_eq_true (by omega)) (qac (qak h2) (qaa (qej _ (qbq hc h2)) (qaA (by rw[qaK hv];rfl) ?_)))
    have last:Ev fun φ=>Z149.j1 (mkR (run E (φ 0))) (φ 0) (φ 1) c (k:Int) c.1[k] false=r:=by
      simp only[Z149.j1_eq _ qae,cond_false]
      exact inner k h2 _ (fun _=>ih) fun hn=>absurd hfc hn
    refine qdH (fun hk=>?_) fun hk=>last
    rw[qah (by omega) (by omega),show((k:Int)-1)=((k-1:Nat):Int) by omega]
    have hk1:k-1<c.1.length:=by omega
    have hcm:=hcm (by omega)
    rw[qaf hk1,qaf h2] at hcm
    refine qac (qak hk1) (qaa (qfd _ _ (qbq hc hk1)) ?_)
    simp only[qaK hcm,Bool.not_true]
    exact last
  · simp only[Z149.l0_succ _ qae]
    exact qaA (decide_eq_false (by omega)) qam
  · have:pb (∀ j,0≤j→j<c.1.length→qpe c.1 j)=pb (VC c.1):=qaM
      ⟨fun h=>⟨by omega,fun k hk=>(h k (by omega) hk).1.1,fun k h1 hk=>(h k (by omega) hk).1.2 h1,fun k hk=>(h k (by omega) hk).2⟩,
       fun h k _ hk=>⟨⟨h.2.1 k hk,fun h1=>h.2.2.1 k h1 hk⟩,h.2.2.2 k hk⟩⟩
    rw[this]
end VeT
open Go Go.Proofs Ve
namespace VeT
def Pr(p:Int):Prop:=2≤p∧p≤251∧∀ k:Nat,2≤k→(k:Int)*k≤p→p%k≠0
theorem qeo(p:Int):Ret E n_Z13 [dI p] ⟨o_Z13,(pb (Pr p),())⟩:=by
  refine qal ?_
  simp only[run_Z13,Z13.ev]
  refine qaa (qck _ _ _) (qb5 (fun h=>qan ?_) fun h=>?_)
  · have h:¬ (2≤p∧p≤251):=qa1.1 (by simpa using h)
    rw[qas fun hp=>h ⟨hp.1,hp.2.1⟩]
  have hr:2≤p∧p≤251:=qaE.1 (by simpa using h)
  refine Ev.start (p:=fun φ n=>Z13.l0 (mkR (run E (φ 0))) (φ 0) n p 2=_) 1 ?_ (fun _ _ _ h=>h)
  refine qef 1 (σ:=Nat) (L:=fun φ n k=>Z13.l0 (mkR (run E (φ 0))) (φ 0) n p (k:Int)) (fun _ _ _ _=>rfl) (fun k=>2≤k∧k≤17∧∀ j:Nat,2≤j→j<k→(j:Int)*j≤p→p%j≠0) (fun _=>_) (fun k=>17-k) (fun k ⟨h1,h2,h3⟩ ih=>?_) 2 ⟨by omega,by omega,fun j _ _=>by omega⟩
  simp only[Z13.l0_succ _ qae]
  have hkk:0≤(k:Int)*k∧(k:Int)*k≤289:=⟨Int.mul_nonneg (by omega) (by omega),by have:=Nat.mul_le_mul h2 h2;omega⟩
  have e:w64 ((k:Int)*k)=(k:Int)*k:=qah (by omega) (by omega)
  simp only[e]
  refine qdH (fun hle=>?_) fun hle=>qan ?_
  · have hk16:k<16:=Classical.byContradiction fun hn=>by
      have:=Nat.mul_le_mul (show 16≤k by omega) (show 16≤k by omega);omega
    refine qaq (by simp;omega) ?_
    rw[Int.tmod_eq_emod_of_nonneg (by omega)]
    refine qb5 (fun h0=>qan ?_) fun h0=>?_
    · rw[qas fun hp=>hp.2.2 k h1 hle (by simpa using h0)]
    · rw[qad (by omega)]
      refine ih (k+1) ⟨by omega,by omega,fun j hj1 hj2 hj3=>?_⟩ (by show 17-(k+1)<17-k;omega)
      by_cases hjk:j=k
      · subst hjk;simpa using h0
      · exact h3 j hj1 (by omega) hj3
  · rw[qaK]
    refine⟨hr.1,hr.2,fun j hj1 hj2=>?_⟩
    by_cases hjk:j<k
    · exact h3 j hj1 hjk hj2
    · exfalso
      have:=Nat.mul_le_mul (show k≤j by omega) (show k≤j by omega);omega
theorem qkP(p:Int):Ret E n_Z132 [dI p] ⟨o_Z132,(pb (Pr p),())⟩:=by
  refine qal ?_
  simp only[run_Z132,Z132.ev]
  refine qaa (qbR _ _ _) (qb5 (fun h=>qan ?_) fun h=>?_)
  · have h:¬ (2≤p∧p≤251):=qa1.1 (by simpa using h)
    rw[qas fun hp=>h ⟨hp.1,hp.2.1⟩]
  have hr:2≤p∧p≤251:=qaE.1 (by simpa using h)
  refine Ev.start (p:=fun φ n=>Z132.l0 (mkR (run E (φ 0))) (φ 0) n p 2=_) 1 ?_ (fun _ _ _ h=>h)
  refine qef 1 (σ:=Nat) (L:=fun φ n k=>Z132.l0 (mkR (run E (φ 0))) (φ 0) n p (k:Int)) (fun _ _ _ _=>rfl) (fun k=>2≤k∧k≤17∧∀ j:Nat,2≤j→j<k→(j:Int)*j≤p→p%j≠0) (fun _=>_) (fun k=>17-k) (fun k ⟨h1,h2,h3⟩ ih=>?_) 2 ⟨by omega,by omega,fun j _ _=>by omega⟩
  simp only[Z132.l0_succ _ qae]
  have hkk:0≤(k:Int)*k∧(k:Int)*k≤289:=⟨Int.mul_nonneg (by omega) (by omega),by have:=Nat.mul_le_mul h2 h2;omega⟩
  have e:w64 ((k:Int)*k)=(k:Int)*k:=qah (by omega) (by omega)
  simp only[e]
  refine qdH (fun hle=>?_) fun hle=>qan ?_
  · have hk16:k<16:=Classical.byContradiction fun hn=>by
      have:=Nat.mul_le_mul (show 16≤k by omega) (show 16≤k by omega);omega
    refine qaq (by simp;omega) ?_
    rw[Int.tmod_eq_emod_of_nonneg (by omega)]
    refine qb5 (fun h0=>qan ?_) fun h0=>?_
    · rw[qas fun hp=>hp.2.2 k h1 hle (by simpa using h0)]
    · rw[qad (by omega)]
      refine ih (k+1) ⟨by omega,by omega,fun j hj1 hj2 hj3=>?_⟩ (by show 17-(k+1)<17-k;omega)
      by_cases hjk:j=k
      · subst hjk;simpa using h0
      · exact h3 j hj1 (by omega) hj3
  · rw[qaK]
    refine⟨hr.1,hr.2,fun j hj1 hj2=>?_⟩
    by_cases hjk:j<k
    · exact h3 j hj1 hjk hj2
    · exfalso
      have:=Nat.mul_le_mul (show k≤j by omega) (show k≤j by omega);omega
theorem qcL(p:Int):Ret E n_Z125 [dI p] ⟨o_Z125,(pb (Pr p),())⟩:=by
 refine qal ?_
 simp only[run_Z125,Z125.ev]
 exact qaa (qkP p) qam
def qbz(v:Sim)(p:Int):Prop:=∀ x∈v,0≤x∧x≤p-1
theorem qjn(a p:Int)(hp:0≤p∧p≤1048576):Ret E n_Z49 [dI a,dI p] ⟨o_Z49,(pb (0≤a∧a≤p-1),())⟩:=by
 refine qal ?_
 simp only[run_Z49,Z49.ev]
 rw[qah (by omega) (by omega)]
 exact qaa (qck _ _ _) qam
theorem qfS(a p:Int)(hp:0≤p∧p≤1048576):Ret E n_Z20 [dI a,⟨.ptr (.cons yI .nil),(p,())⟩] ⟨o_Z20,(!pb (0≤a∧a≤p-1),())⟩:=by
 refine qal ?_
 simp only[run_Z20,Z20.ev]
 exact qaa (qjn _ _ hp) qam
theorem qlX{α:Type}{s:List α}{P:α→Prop}:(!pb (∃ x∈s,(!pb (P x))=true))=pb (∀ x∈s,P x):=qgq (by
 simp only[Bool.not_eq_true',qa1]
 exact⟨fun h x hx=>Classical.byContradiction fun hn=>h ⟨x,hx,hn⟩,fun h ⟨x,hx,hn⟩=>hn (h x hx)⟩)
theorem qg5(v:Sim)(p:Int)(hv:v.length≤1048576)(hp:0≤p∧p≤1048576):Ret E n_Z19 [dL v,dI p] ⟨o_Z19,(pb (qbz v p),())⟩:=by
 refine qal ?_
 simp only[run_Z19,Z19.ev]
 refine qaa (qa5 v ((p,()),()) _ hv fun x _=>qfS x p hp) (qan ?_)
 simp only[qlX];rfl
theorem qfj(v:Sim)(n p:Int)(hv:v.length≤1048576)(hp:0≤p∧p≤1048576):Ret E n_Z133 [dL v,dI n,dI p] ⟨o_Z133,(pb (qbz v p∧(v.length:Int)=n),())⟩:=by
  have e:w64 (p-1)=p-1:=qah (by omega) (by omega)
  refine qal ?_
  simp only[run_Z133,Z133.ev]
  refine Ev.start (p:=fun φ n'=>Z133.l0 (mkR (run E (φ 0))) (φ 0) n' v n p 0=_) 1 ?_ (fun _ _ _ h=>h)
  refine(qdw 1 (L:=fun φ n' k=>Z133.l0 (mkR (run E (φ 0))) (φ 0) n' v n p k) (len:=v.length) 0 (by omega) (fun j=>0≤v.getD j 0∧v.getD j 0≤p-1) (fun b=>some ⟨o_Z133,(b&&((v.length:Int)==n),())⟩) (fun _ _ _ _=>rfl) (fun k h1 h2 hP _=>?_) (fun k r h1 h2 hP _ ih=>?_) (fun _=>?_)).to ?_
  · simp only[Z133.l0_succ _ qae,e]
    rw[qaf h2] at hP
    exact qax (decide_eq_true (by omega)) (qac (qak h2) (qaa (qbR _ _ _) (qax (by rw[qas hP];rfl) qam)))
  · simp only[Z133.l0_succ _ qae,e]
    rw[qaf h2] at hP
    refine qax (decide_eq_true (by omega)) (qac (qak h2) (qaa (qbR _ _ _) (qaA (by rw[qaK hP];rfl) ?_)))
    rw[qad (by omega)];exact ih
  · simp only[Z133.l0_succ _ qae]
    exact qaA (decide_eq_false (by omega)) (qan (by rw[Bool.true_and]))
  · have:(pb (∀ j,0≤j→j<v.length→0≤v.getD j 0∧v.getD j 0≤p-1)&&((v.length:Int)==n))=pb (qbz v p∧(v.length:Int)=n):=qgq (by
      rw[Bool.and_eq_true,qaE,beq_iff_eq]
      refine and_congr_left' ⟨fun h x hx=>?_,fun h j _ hj=>?_⟩
      · obtain⟨j,hj,rfl⟩:=List.mem_iff_getElem.1 hx
        have:=h j (by omega) hj
        rwa [qaf hj] at this
      · rw[qaf hj];exact h _ (List.getElem_mem hj))
    rw[this]
theorem qiL(n:Int):Ret E n_Z51 [dI n] ⟨o_Z51,(pb (0≤n∧n≤32),())⟩:=by
 refine qal ?_
 simp only[run_Z51,Z51.ev]
 exact qaa (qck _ _ _) qam
theorem qcX(s:Sim):Ret E n_Z65 [dL s] ⟨o_Z65,((s.length:Int),())⟩:=by
 refine qal ?_
 simp only[run_Z65,Z65.ev]
 (first | exact qam | exact Ev.of fun _=>trivial)
theorem qhG(s:List Sim):Ret E n_Z64 [dLL s] ⟨o_Z64,((s.length:Int),())⟩:=by
 refine qal ?_
 simp only[run_Z64,Z64.ev]
 (first | exact qam | exact Ev.of fun _=>trivial)
def VM(m:Mat):Prop:=Pr m.1∧(0≤m.2.1∧m.2.1≤32)∧(0≤m.2.2.1∧m.2.2.1≤32)∧(m.2.2.2.1.length:Int)=m.2.1*m.2.2.1∧qbz m.2.2.2.1 m.1
theorem qjj{a b:Int}(ha:0≤a∧a≤32)(hb:0≤b∧b≤32):0≤a*b∧a*b≤1024:=by
 obtain⟨x,rfl⟩:=Int.eq_ofNat_of_zero_le ha.1
 obtain⟨y,rfl⟩:=Int.eq_ofNat_of_zero_le hb.1
 have:=Nat.mul_le_mul (show x≤32 by omega) (show y≤32 by omega)
 have e:(x:Int)*y=((x*y:Nat):Int):=by simp
 show 0≤(x:Int)*y∧(x:Int)*y≤1024
 rw[e];omega
theorem qgW(m:Mat)(hm:Sm (.st cM) m):Ret E n_Z12 [dI m.1,dI m.2.1,dI m.2.2.1,dL m.2.2.2.1] ⟨o_Z12,(pb (VM m),())⟩:=by
 have hl:m.2.2.2.1.length≤1048576:=hm.2.2.2.1.1
 refine qal ?_
 simp only[run_Z12,Z12.ev]
 refine qaa (qeo _) (qb5 (fun h1=>qaa (qiL _) (qb5 (fun h2=>qaa (qiL _) (qb5 (fun h3=>qaa (qcX _) (qb5 (fun h4=>?_) fun h4=>qan ?_)) fun h3=>qan ?_)) fun h2=>qan ?_)) fun h1=>qan ?_)
 ·have h1:=qaE.1 h1;have h2:=qaE.1 h2;have h3:=qaE.1 h3
  have:=qjj h2 h3
  rw[qah (by omega) (by omega)] at h4
  refine qaa (qg5 _ _ hl ⟨by have:=h1.1;omega,by have:=h1.2.1;omega⟩) (qan ?_)
  exact congrArg (fun b:Bool=>some (⟨o_Z12,(b,())⟩:Dv)) (qaM ⟨fun h=>⟨h1,h2,h3,by simpa using h4,h⟩,fun h=>h.2.2.2.2⟩)
 ·have h2:=qaE.1 h2;have h3:=qaE.1 h3
  have:=qjj h2 h3
  rw[qah (by omega) (by omega)] at h4
  rw[qas fun h=>by have:=h.2.2.2.1;simp[this] at h4]
 ·rw[qas fun h=>qa1.1 h3 h.2.2.1]
 ·rw[qas fun h=>qa1.1 h2 h.2.1]
 ·rw[qas fun h=>qa1.1 h1 h.1]
theorem qn5(m:Mat)(hm:Sm (.st cM) m):Ret E n_Z137 [dM m] ⟨o_Z137,(pb (VM m),())⟩:=by
 have hl:m.2.2.2.1.length≤1048576:=hm.2.2.2.1.1
 refine qal ?_
 simp only[run_Z137,Z137.ev]
 refine qaa (qcL _) (qb5 (fun h1=>qaa (qbR _ _ _) (qb5 (fun h2=>qaa (qbR _ _ _) (qb5 (fun h3=>?_) fun h3=>qan ?_)) fun h2=>qan ?_)) fun h1=>qan ?_)
 ·have h1:=qaE.1 h1;have h2:=qaE.1 h2;have h3:=qaE.1 h3
  have:=qjj h2 h3
  rw[qah (by omega) (by omega)]
  refine qaa (qfj _ _ _ hl ⟨by have:=h1.1;omega,by have:=h1.2.1;omega⟩) (qan ?_)
  exact congrArg (fun b:Bool=>some (⟨o_Z137,(b,())⟩:Dv)) (qaM ⟨fun h=>⟨h1,h2,h3,h.2,h.1⟩,fun h=>⟨h.2.2.2.2,h.2.2.2.1⟩⟩)
 ·rw[qas fun h=>qa1.1 h3 h.2.2.1]
 ·rw[qas fun h=>qa1.1 h2 h.2.1]
 ·rw[qas fun h=>qa1.1 h1 h.1]
def Bt(m:Mat)(p f t:Int):Prop:=VM m∧m.1=p∧m.2.1=t∧m.2.2.1=f
theorem qeU(m:Mat)(p f t:Int)(hm:Sm (.st cM) m):Ret E n_Z47 [dI m.1,dI m.2.1,dI m.2.2.1,dL m.2.2.2.1,dI p,dI f,dI t] ⟨o_Z47,(pb (Bt m p f t),())⟩:=by
 refine qal ?_
 simp only[run_Z47,Z47.ev]
 refine qaa (qgW m hm) (qb5 (fun h1=>qb5 (fun h2=>qb5 (fun h3=>qan ?_) fun h3=>qan ?_) fun h2=>qan ?_) fun h1=>qan ?_)
 ·have h1:=qaE.1 h1
  have:(m.2.2.1==f)=pb (Bt m p f t):=qgq (by
   rw[beq_iff_eq];exact⟨fun h=>⟨h1,by simpa using h2,by simpa using h3,h⟩,fun h=>h.2.2.2⟩)
  rw[this]
 ·rw[qas fun h=>by have:=h.2.2.1;simp[this] at h3]
 ·rw[qas fun h=>by have:=h.2.1;simp[this] at h2]
 ·rw[qas fun h=>qa1.1 h1 h.1]
def qau(c:List Sim)(d:Int)(k:Nat):List Int:=((List.range k).filter fun i=>decide (((c.getD i []).length:Int)=d+1)).map Int.ofNat
theorem qbG(c:List Sim)(d:Int)(k:Nat):qau c d (k+1)=qau c d k++if ((c.getD k []).length:Int)=d+1 then [(k:Int)] else []:=by
 unfold qau
 rw[List.range_succ,List.filter_append,List.map_append]
 congr 1
 by_cases h:((c.getD k []).length:Int)=d+1
 ·rw[if_pos h,List.filter_cons_of_pos (by simpa using h)];rfl
 ·rw[if_neg h,List.filter_cons_of_neg (by simpa using h)];rfl
theorem qbp(c:List Sim)(d:Int)(k:Nat):(qau c d k).length≤k:=by
 unfold qau
 rw[List.length_map]
 exact Nat.le_trans (List.length_filter_le _ _) (by simp)
theorem qdV{c:List Sim}{d:Int}{k:Nat}{x:Int}(h:x∈qau c d k):∃ i:Nat,x=i∧i<k:=by
 unfold qau at h
 rw[List.mem_map] at h
 obtain⟨i,hi,rfl⟩:=h
 exact⟨i,rfl,by have:=(List.mem_filter.1 hi).1;simpa using this⟩
theorem qcA(c:List Sim)(d:Int)(hc:Sm yK c)(hd:-1≤d∧d≤1048576):Ret E n_Z63 [dLL c,dI d] ⟨o_Z63,(qau c d c.length,())⟩:=by
 have hc1:c.length≤1048576:=hc.1
 have hd1:w64 (d+1)=d+1:=qah (by omega) (by omega)
 refine qal ?_
 simp only[run_Z63,Z63.ev]
 refine Ev.start (p:=fun φ n=>Z63.l0 (mkR (run E (φ 0))) (φ 0) n d c (c.length:Int) 0 []=_) 1 ?_ (fun _ _ _ h=>h)
 refine qap 1 (L:=fun φ n k a=>Z63.l0 (mkR (run E (φ 0))) (φ 0) n d c (c.length:Int) k a) (len:=c.length) (fun k=>qau c d k) (fun _ _ _ _ _=>rfl) (fun k r hk ih=>?_) ?_
 ·simp only[Z63.l0_succ _ qae,hd1]
  rw[qbG,qaf hk] at ih
  have hlen:=qbp c d k
  refine qax (decide_eq_true (by omega)) (qac (qak hk) (qaa (qcX _) ?_))
  rw[qad (by omega)]
  refine qb5 (fun he=>qaq (decide_eq_true (by simp only[List.length_cons,List.length_nil];omega)) ?_) fun he=>?_
  ·rw[if_pos (by simpa using he)] at ih;exact ih
  ·rw[if_neg (by simpa using he),List.append_nil] at ih;exact ih
 ·simp only[Z63.l0_succ _ qae]
  exact qaA (decide_eq_false (by omega)) qam
theorem qhN(c:List Sim)(d:Int)(hc:Sm yK c)(hd:-1≤d∧d≤1048576):Ret E n_Z148 [dC (c,()),dI d] ⟨o_Z148,(qau c d c.length,())⟩:=by
 have hc1:c.length≤1048576:=hc.1
 have hd1:w64 (d+1)=d+1:=qah (by omega) (by omega)
 refine qal ?_
 simp only[run_Z148,Z148.ev]
 refine Ev.start (p:=fun φ n=>Z148.l0 (mkR (run E (φ 0))) (φ 0) n (c,()) d 0 []=_) 1 ?_ (fun _ _ _ h=>h)
 refine qap 1 (L:=fun φ n k a=>Z148.l0 (mkR (run E (φ 0))) (φ 0) n (c,()) d k a) (len:=c.length) (fun k=>qau c d k) (fun _ _ _ _ _=>rfl) (fun k r hk ih=>?_) ?_
 ·simp only[Z148.l0_succ _ qae,hd1]
  rw[qbG,qaf hk] at ih
  have hlen:=qbp c d k
  refine qax (decide_eq_true (by omega)) (qac (qak hk) ?_)
  rw[qad (by omega)]
  refine qb5 (fun he=>qaq (decide_eq_true (by simp only[List.length_cons,List.length_nil];omega)) ?_) fun he=>?_
  ·rw[if_pos (by simpa using he)] at ih;exact ih
  ·rw[if_neg (by simpa using he),List.append_nil] at ih;exact ih
 ·simp only[Z148.l0_succ _ qae]
  exact qaA (decide_eq_false (by omega)) qam
def qfv(c:List Sim)(st:Sim)(d:Int)(k:Nat):Int:=(((qau c d c.length).take k).map fun i=>st.getD i.toNat 0).sum
theorem qdS(c:List Sim)(st:Sim)(d:Int)(k:Nat)(h:k<(qau c d c.length).length):qfv c st d (k+1)=qfv c st d k+st.getD ((qau c d c.length)[k]).toNat 0:=by
 unfold qfv
 rw[List.take_succ_eq_append_getElem h,List.map_append,List.sum_append]
 simp
theorem qhO{c:List Sim}{st:Sim}(hst:∀ x∈st,0≤x∧x≤3)(d:Int)(k:Nat):0≤qfv c st d k∧qfv c st d k≤3*k:=by
  induction k with
  | zero=>simp[qfv]
  | succ k ih =>
    by_cases h:k<(qau c d c.length).length
    · rw[qdS _ _ _ _ h]
      have:0≤st.getD ((qau c d c.length)[k]).toNat 0∧st.getD ((qau c d c.length)[k]).toNat 0≤3:=by
        by_cases hl:((qau c d c.length)[k]).toNat<st.length
        · rw[qaf hl];exact hst _ (List.getElem_mem hl)
        · rw[List.getD_eq_getElem?_getD,List.getElem?_eq_none (by omega)];simp
      omega
    · have:qfv c st d (k+1)=qfv c st d k:=by
        unfold qfv
        rw[List.take_of_length_le (by omega),List.take_of_length_le (by omega)]
      omega
theorem qb9(c:List Sim)(st:Sim)(d:Int)(p:Int)(ms:List Mat)(hc:Sm yK c)(hl:st.length=c.length)(hst:∀ x∈st,0≤x∧x≤3)(hd:-1≤d∧d≤1048576) :
  Ret E n_Z66 [dLL c,dI p,dL st,dMs ms,dI d] ⟨o_Z66,(qfv c st d (qau c d c.length).length,())⟩:=by
 have hc1:c.length≤1048576:=hc.1
 have hol:=qbp c d c.length
 refine qal ?_
 simp only[run_Z66,Z66.ev]
 refine qaa (qcA c d hc hd) ?_
 refine Ev.start (p:=fun φ n=>Z66.l0 (mkR (run E (φ 0))) (φ 0) n 0 (qau c d c.length) ((qau c d c.length).length:Int) 0 c p st ms=_) 1 ?_ (fun _ _ _ h=>h)
 refine qap 1 (L:=fun φ n k a=>Z66.l0 (mkR (run E (φ 0))) (φ 0) n a (qau c d c.length) ((qau c d c.length).length:Int) k c p st ms) (len:=(qau c d c.length).length) (fun k=>qfv c st d k) (fun _ _ _ _ _=>rfl) (fun k r hk ih=>?_) ?_
 ·simp only[Z66.l0_succ _ qae]
  obtain⟨i,hi,hik⟩:=qdV (List.getElem_mem hk)
  rw[qdS _ _ _ _ hk,hi,Int.toNat_natCast,qaf (by omega)] at ih
  have hb:=qhO hst d k (c:=c)
  have hb2:=hst _ (List.getElem_mem (show i<st.length by omega))
  refine qax (decide_eq_true (by omega)) (qac (qak hk) ?_)
  simp only[hi]
  refine qac (qak (by omega)) ?_
  rw[qad (by omega),qah (by omega) (by omega)]
  exact ih
 ·simp only[Z66.l0_succ _ qae]
  exact qaA (decide_eq_false (by omega)) qam
theorem qfX(c:List Sim)(st:Sim)(d:Int)(hc:Sm yK c)(hl:st.length=c.length)(hst:∀ x∈st,0≤x∧x≤3)(hd:-1≤d∧d≤1048576) :
  Ret E n_Z159 [dC (c,()),dL st,dI d] ⟨o_Z159,(qfv c st d (qau c d c.length).length,())⟩:=by
 have hc1:c.length≤1048576:=hc.1
 have hol:=qbp c d c.length
 refine qal ?_
 simp only[run_Z159,Z159.ev]
 refine qaa (qhN c d hc hd) ?_
 refine Ev.start (p:=fun φ n=>Z159.l0 (mkR (run E (φ 0))) (φ 0) n st (qau c d c.length) 0 0=_) 1 ?_ (fun _ _ _ h=>h)
 refine qap 1 (L:=fun φ n k a=>Z159.l0 (mkR (run E (φ 0))) (φ 0) n st (qau c d c.length) a k) (len:=(qau c d c.length).length) (fun k=>qfv c st d k) (fun _ _ _ _ _=>rfl) (fun k r hk ih=>?_) ?_
 ·simp only[Z159.l0_succ _ qae]
  obtain⟨i,hi,hik⟩:=qdV (List.getElem_mem hk)
  rw[qdS _ _ _ _ hk,hi,Int.toNat_natCast,qaf (by omega)] at ih
  have hb:=qhO hst d k (c:=c)
  have hb2:=hst _ (List.getElem_mem (show i<st.length by omega))
  refine qax (decide_eq_true (by omega)) (qac (qak hk) ?_)
  simp only[hi]
  refine qac (qak (by omega)) ?_
  rw[qad (by omega),qah (by omega) (by omega)]
  exact ih
 ·simp only[Z159.l0_succ _ qae]
  exact qaA (decide_eq_false (by omega)) qam
end VeT
open Go Go.Proofs Ve
namespace VeT
theorem qmL{c:List Sim}{st:Sim}(hst:∀ x∈st,0≤x∧x≤3)(d:Int):0≤qfv c st d (qau c d c.length).length:=(qhO hst d _).1
def SD(c:List Sim)(st:Sim)(d:Int):Int:=qfv c st d (qau c d c.length).length
def SK(c:List Sim)(st:Sim):Prop:=st.length=c.length∧(∀ x∈st,0≤x∧x≤3)∧∀ d:Nat,d<4→SD c st (d:Int)≤32
theorem qhS(n:Int):Ret E n_Z22 [dI n] ⟨o_Z22,(!pb (0≤n∧n≤3),())⟩:=by
 refine qal ?_
 simp only[run_Z22,Z22.ev]
 exact qaa (qck _ _ _) qam
theorem qjR(c:List Sim)(st:Sim)(hc:Sm yK c)(hs:st.length≤1048576):Ret E n_Z21 [dLL c,dL st] ⟨o_Z21,(pb (SK c st),())⟩:=by
  refine qal ?_
  simp only[run_Z21,Z21.ev]
  refine qb5 (fun h=>?_) fun h=>?_
  · simp only[Z21.j0_eq _ qae,cond_true]
    have h:¬ (st.length:Int)=c.length:=by simpa using h
    rw[qas fun hk=>h (by rw[hk.1])];(first | exact qam | exact Ev.of fun _=>trivial)
  have hl : st.length = c.length := by have : (st.length : Int) = c.length := by simpa using h
                                       omega
  refine qaa (qa8 st _ hs fun x _=>qhS x) ?_
  simp only[Z21.j0_eq _ qae]
  have e:=qlX (s:=st) (P:=fun x=>0≤x∧x≤3)
  refine qb5 (fun h=>?_) fun h=>?_
  · simp only[h] at e
    rw[qas fun hk=>qa1.1 e.symm hk.2.1];(first | exact qam | exact Ev.of fun _=>trivial)
  · simp only[h] at e
    have hst:∀ x∈st,0≤x∧x≤3:=qaE.1 e.symm
    refine Ev.start (p:=fun φ n=>Z21.l1 (mkR (run E (φ 0))) (φ 0) n st 0 c=_) 1 ?_ (fun _ _ _ h=>h)
    refine(qdw 1 (L:=fun φ n k=>Z21.l1 (mkR (run E (φ 0))) (φ 0) n st k c) (len:=4) 0 (by omega) (fun d=>SD c st (d:Int)≤32) (fun b=>some ⟨o_Z21,(b,())⟩) (fun _ _ _ _=>rfl) (fun k h1 h2 hP _=>?_) (fun k r h1 h2 hP _ ih=>?_) (fun _=>?_)).to ?_
    · simp only[Z21.l1_succ _ qae]
      exact qax (decide_eq_true (by omega)) (qaa (qb9 c st _ _ _ hc hl hst (by omega)) (qax (decide_eq_true (Int.not_le.1 hP)) qam))
    · simp only[Z21.l1_succ _ qae]
      refine qax (decide_eq_true (by omega)) (qaa (qb9 c st _ _ _ hc hl hst (by omega)) (qaA (decide_eq_false (Int.not_lt.2 hP)) ?_))
      rw[qad (by omega)];exact ih
    · simp only[Z21.l1_succ _ qae]
      exact qaA (decide_eq_false (by omega)) qam
    · exact congrArg (fun b:Bool=>some (⟨o_Z21,(b,())⟩:Dv)) (qaM ⟨fun h=>⟨hl,hst,fun d hd=>h d (by omega) hd⟩,fun h d _ hd=>h.2.2 d hd⟩)
theorem qiX(c:List Sim)(st:Sim)(hc:Sm yK c)(hs:st.length≤1048576):Ret E n_Z158 [dC (c,()),dL st] ⟨o_Z158,(pb (SK c st),())⟩:=by
 refine qal ?_
 simp only[run_Z158,Z158.ev]
 refine qaa (qfj st _ _ hs (by omega)) (qb5 (fun h=>?_) fun h=>?_)
 ·have h:=qa1.1 (show pb (qbz st 4∧(st.length:Int)=c.length)=false by simpa using h)
  rw[qas fun hk=>h ⟨hk.2.1,by rw[hk.1]⟩];(first | exact qam | exact Ev.of fun _=>trivial)
 ·have h:=qaE.1 (show pb (qbz st 4∧(st.length:Int)=c.length)=true by simpa using h)
  have hl:st.length=c.length:=by have:=h.2;omega
  have hst:∀ x∈st,0≤x∧x≤3:=h.1
  refine Ev.start (p:=fun φ n=>Z158.l0 (mkR (run E (φ 0))) (φ 0) n (c,()) st 0=_) 1 ?_ (fun _ _ _ h=>h)
  refine(qdw 1 (L:=fun φ n k=>Z158.l0 (mkR (run E (φ 0))) (φ 0) n (c,()) st k) (len:=4) 0 (by omega) (fun d=>SD c st (d:Int)≤32) (fun b=>some ⟨o_Z158,(b,())⟩) (fun _ _ _ _=>rfl) (fun k h1 h2 hP _=>?_) (fun k r h1 h2 hP _ ih=>?_) (fun _=>?_)).to ?_
  ·simp only[Z158.l0_succ _ qae]
   exact qax (decide_eq_true (by omega)) (qaa (qfX c st _ hc hl hst (by omega)) (qax (decide_eq_true (Int.not_le.1 hP)) qam))
  ·simp only[Z158.l0_succ _ qae]
   refine qax (decide_eq_true (by omega)) (qaa (qfX c st _ hc hl hst (by omega)) (qaA (decide_eq_false (Int.not_lt.2 hP)) ?_))
   rw[qad (by omega)];exact ih
  ·simp only[Z158.l0_succ _ qae]
   exact qaA (decide_eq_false (by omega)) qam
  ·exact congrArg (fun b:Bool=>some (⟨o_Z158,(b,())⟩:Dv)) (qaM ⟨fun h=>⟨hl,hst,fun d hd=>h d (by omega) hd⟩,fun h d _ hd=>h.2.2 d hd⟩)
noncomputable def qaU(c:List Sim)(k:Nat):List Int:=(qb2 (c.getD k [])).map (qcT c)
theorem qlP{c:List Sim}{s:Sim}:qcT c s<c.length∧-1≤qcT c s:=by
 unfold qcT qjd
 cases h:c.findIdx? (fun x=>pb (x=s)) with
 | none=>simp only[o2i];omega
 | some k =>
  rw[List.findIdx?_eq_some_iff_getElem] at h
  obtain⟨h,_⟩:=h
  simp only[o2i];omega
theorem qaV{c:List Sim}{k:Nat}:(qaU c k).length=if 1<(c.getD k []).length then(c.getD k []).length else 0:=by
 unfold qaU qb2
 rw[List.length_map]
 split<;>simp
theorem qjG{c:List Sim}(h:VC c){k:Nat}(hk:k<c.length){x:Int}(hx:x∈qaU c k):0≤x∧x<c.length:=by
 unfold qaU at hx
 rw[List.mem_map] at hx
 obtain⟨f,hf,rfl⟩:=hx
 exact⟨qbF.2 (h.2.2.2 k hk f hf),qlP.1⟩
theorem qbN(c:List Sim)(k:Nat)(hk:k<c.length)(hc:Sm yK c)(hs:Srt c):Ret E n_Z33 [dLL c,dI (k:Int)] ⟨o_Z33,(qaU c k,())⟩:=by
 have hks:(c[k]).length≤1048576:=(qbq hc hk).1
 have hfl:=qf0 (s:=c[k])
 refine qal ?_
 simp only[run_Z33,Z33.ev]
 refine qac (qak hk) (qaa (qeG _ hks) ?_)
 refine Ev.start (p:=fun φ n=>Z33.l0 (mkR (run E (φ 0))) (φ 0) n (qb2 c[k]) ((qb2 c[k]).length:Int) 0 c []=_) 1 ?_ (fun _ _ _ h=>h)
 refine qap 1 (L:=fun φ n j a=>Z33.l0 (mkR (run E (φ 0))) (φ 0) n (qb2 c[k]) ((qb2 c[k]).length:Int) j c a) (len:=(qb2 c[k]).length) (fun j=>((qb2 c[k]).take j).map (qcT c)) (fun _ _ _ _ _=>rfl) (fun j r hj ih=>?_) ?_
 ·simp only[Z33.l0_succ _ qae]
  rw[List.take_succ_eq_append_getElem hj,List.map_append] at ih
  refine qax (decide_eq_true (by omega)) (qac (qak hj) (qaa (qeN c _ hc hs) (qaq (by simp;omega) ?_)))
  rw[qad (by omega)];exact ih
 ·simp only[Z33.l0_succ _ qae]
  refine qaA (decide_eq_false (by omega)) (qan ?_)
  rw[List.take_of_length_le (Nat.le_refl _),qaU,qaf hk]
theorem qcM(c:List Sim)(k:Nat)(hk:k<c.length)(hc:Sm yK c):Ret E n_Z146 [dC (c,()),dI (k:Int)] ⟨o_Z146,(qaU c k,())⟩:=by
 have hks:(c[k]).length≤1048576:=(qbq hc hk).1
 refine qal ?_
 simp only[run_Z146,Z146.ev]
 refine qac (qak hk) ?_
 refine Ev.start (p:=fun φ n=>Z146.l0 (mkR (run E (φ 0))) (φ 0) n (c,()) c[k] 0 []=_) 1 ?_ (fun _ _ _ h=>h)
 by_cases hlen:1<(c[k]).length
 ·refine qap 1 (L:=fun φ n j a=>Z146.l0 (mkR (run E (φ 0))) (φ 0) n (c,()) c[k] j a) (len:=(c[k]).length) (fun j=>(List.range j).map fun i=>qcT c ((c[k]).eraseIdx i)) (fun _ _ _ _ _=>rfl) (fun j r hj ih=>?_) ?_
  ·simp only[Z146.l0_succ _ qae]
   rw[List.range_succ,List.map_append] at ih
   refine qax (decide_eq_true (by omega)) ?_
   simp only[show decide (((c[k]).length:Int)>1)=true from decide_eq_true (by omega),Z146.j1_eq _ qae,cond_true]
   refine qaa (qeC _ j hj hks) (qaa (qdh (c,()) _ hc) (qaq (by simp;omega) ?_))
   rw[qad (by omega)];exact ih
  ·simp only[Z146.l0_succ _ qae]
   refine qaA (decide_eq_false (by omega)) ?_
   simp only[Z146.j1_eq _ qae,cond_false]
   refine qan ?_
   rw[qaU,qaf hk,qb2,if_pos hlen,List.map_map];rfl
 ·refine Ev.round 1 (L:=fun φ n=>Z146.l0 (mkR (run E (φ 0))) (φ 0) n (c,()) c[k] 0 []) ?_ (fun _ _ _=>rfl)
  have hj:Ev fun φ=>Z146.j1 (mkR (run E (φ 0))) (φ 0) (φ 1) (c,()) c[k] 0 false []=some ⟨o_Z146,(qaU c k,())⟩:=by
   simp only[Z146.j1_eq _ qae,cond_false]
   refine qan ?_
   rw[qaU,qaf hk,qb2,if_neg hlen];rfl
  simp only[Z146.l0_succ _ qae]
  refine qdH (fun _=>?_) fun _=>hj
  simp only[show decide (((c[k]).length:Int)>1)=false from decide_eq_false (by omega)]
  exact hj
abbrev Arw:=Int×Int×Int×Unit
noncomputable def qof(c:List Sim)(k i:Nat):List Arw:=(List.range i).map fun(j:Nat)=>((k:Int),(j:Int),(qaU c k).getD j 0,())
noncomputable def qeE(c:List Sim):Nat→List Arw
 | 0=>[]
 | k+1=>qeE c k++qof c k (qaU c k).length
noncomputable def plc(c:List Sim)(k:Nat):Nat:=(qeE c k).length
theorem qeB{c:List Sim}{k i:Nat}:(qof c k i).length=i:=by simp[qof]
theorem qje{c:List Sim}{k:Nat}:plc c (k+1)=plc c k+(qaU c k).length:=by
 unfold plc;rw[qeE,List.length_append,qeB]
theorem VC.len4{c:List Sim}(h:VC c){k:Nat}(hk:k<c.length):(c.getD k []).length≤4:=(h.2.1 k hk).2.1
theorem VC.fIdx4{c:List Sim}(h:VC c){k:Nat}(hk:k<c.length):(qaU c k).length≤4:=by
 have:=h.len4 hk
 rw[qaV];split<;>omega
theorem VC.plc{c:List Sim}(h:VC c):∀ {k:Nat},k≤c.length→plc c k≤4*k
 | 0,_=>by simp[VeT.plc,qeE]
 | k+1,hk=>by
  have h1:=h.plc (k:=k) (by omega)
  have h2:=h.fIdx4 (k:=k) (by omega)
  rw[qje];omega
theorem qec{c:List Sim}:∀ {n k i:Nat},k<n→i<(qaU c k).length→(qeE c n)[plc c k+i]? = some ((k:Int),(i:Int),(qaU c k).getD i 0,())
 | 0,_,_,h,_=>by omega
 | n+1,k,i,h,hi=>by
  rw[qeE]
  by_cases hk:k<n
  ·have:=qec hk hi
   have hl:=(List.getElem?_eq_some_iff.1 this).1
   rw[List.getElem?_append_left hl];exact this
  ·obtain rfl:k=n:=by omega
   rw[List.getElem?_append_right (by unfold plc;omega)]
   rw[show plc c k+i-(qeE c k).length=i by unfold plc;omega]
   simp[qof,hi]
theorem qlh{c:List Sim}:∀ {n t:Nat},t<(qeE c n).length→∃ k i,k<n∧i<(qaU c k).length∧t=plc c k+i
 | 0,_,h=>by simp[qeE] at h
 | n+1,t,h=>by
  by_cases ht:t<(qeE c n).length
  ·obtain⟨k,i,h1,h2,h3⟩:=qlh ht
   exact⟨k,i,by omega,h2,h3⟩
  ·rw[qeE,List.length_append,qeB] at h
   exact⟨n,t-(qeE c n).length,by omega,by omega,by unfold plc;omega⟩
theorem qmO(c:List Sim)(hc:Sm yK c)(hv:VC c):Ret E n_Z23 [dLL c] ⟨o_Z23,(qeE c c.length,())⟩:=by
 have hs:=hv.srt
 have h48:=hv.1
 refine qal ?_
 simp only[run_Z23,Z23.ev]
 refine qaa (qhG _) ?_
 refine Ev.start (p:=fun φ n=>Z23.l0 (mkR (run E (φ 0))) (φ 0) n (c.length:Int) 0 c []=_) 1 ?_ (fun _ _ _ h=>h)
 refine qap 1 (L:=fun φ n k a=>Z23.l0 (mkR (run E (φ 0))) (φ 0) n (c.length:Int) k c a) (len:=c.length) (fun k=>qeE c k) (fun _ _ _ _ _=>rfl) (fun k r hk ih=>?_) ?_
 ·simp only[Z23.l0_succ _ qae]
  have hpl:=hv.plc (k:=k) (by omega)
  have hf4:=hv.fIdx4 hk
  refine qax (decide_eq_true (by omega)) (qaa (qbN c k hk hc hs) ?_)
  refine Ev.start (p:=fun φ n=>Z23.l1 (mkR (run E (φ 0))) (φ 0) (φ 1) n (k:Int) (c.length:Int) (k:Int) (qaU c k) ((qaU c k).length:Int) 0 c (qeE c k)=_) 2 ?_ (fun _ _ _ h=>h)
  have:=qap 2 (L:=fun φ n j a=>Z23.l1 (mkR (run E (φ 0))) (φ 0) (φ 1) n (k:Int) (c.length:Int) (k:Int) (qaU c k) ((qaU c k).length:Int) j c a) (len:=(qaU c k).length) (fun j=>qeE c k++qof c k j) (r:=r) (fun _ _ _ _ _=>rfl) (fun j r hj ih=>?_) ?_
  ·simpa [qof] using this
  ·simp only[Z23.l1_succ _ qae]
   refine qax (decide_eq_true (by omega)) (qac (qak hj) (qaq (decide_eq_true ?_) ?_))
   ·rw[List.length_append,qeB];show(_+_+1)*24≤_
    have:(qeE c k).length=plc c k:=rfl
    omega
   ·rw[qad (by omega)]
    have e:qof c k (j+1)=qof c k j++[((k:Int),(j:Int),(qaU c k)[j],())]:=by
     unfold qof;rw[List.range_succ,List.map_append];simp[List.getD_eq_getElem?_getD,hj]
    rw[e,← List.append_assoc] at ih
    exact ih
  ·simp only[Z23.l1_succ _ qae]
   refine qaA (decide_eq_false (by omega)) ?_
   rw[qad (by omega)];exact ih
 ·simp only[Z23.l0_succ _ qae]
  exact qaA (decide_eq_false (by omega)) qam
theorem qdO(c:List Sim)(k i:Nat)(hk:k≤c.length)(hi:i≤1048576)(hv:VC c):Ret E n_Z156 [dC (c,()),dI (k:Int),dI (i:Int)] ⟨o_Z156,(((plc c k+i:Nat):Int),())⟩:=by
 have h48:=hv.1
 refine qal ?_
 simp only[run_Z156,Z156.ev]
 refine Ev.start (p:=fun φ n=>Z156.l0 (mkR (run E (φ 0))) (φ 0) n (c,()) (k:Int) (i:Int) 0 0=_) 1 ?_ (fun _ _ _ h=>h)
 have:=qap 1 (L:=fun φ n j a=>Z156.l0 (mkR (run E (φ 0))) (φ 0) n (c,()) (k:Int) (i:Int) a j) (len:=k) (fun j=>((plc c j:Nat):Int)) (r:=some ⟨o_Z156,(((plc c k+i:Nat):Int),())⟩) (fun _ _ _ _ _=>rfl) (fun j r hj ih=>?_) ?_
 ·exact this
 ·simp only[Z156.l0_succ _ qae]
  have hjc:j<c.length:=by omega
  have hpl:=hv.plc (k:=j) (by omega)
  have h4:=hv.len4 hjc
  have e:=qje (c:=c) (k:=j)
  rw[qaV] at e
  rw[qaf hjc] at e h4
  refine qax (decide_eq_true (by omega)) (qac (qak hjc) (qdH (fun hl=>qac (qak hjc) ?_) fun hl=>?_))
  ·rw[if_pos (by omega)] at e
   rw[qad (by omega),qah (by omega) (by omega)]
   rw[e] at ih
   simpa using ih
  ·rw[if_neg (by omega)] at e
   rw[qad (by omega)]
   rw[e] at ih;exact ih
 ·simp only[Z156.l0_succ _ qae]
  have hpl:=hv.plc hk
  refine qaA (decide_eq_false (by omega)) (qan ?_)
  rw[qah (by omega) (by omega)]
  simp
theorem qkY(c:List Sim)(hv:VC c):Ret E n_Z151 [dC (c,())] ⟨o_Z151,(((plc c c.length:Nat):Int),())⟩:=by
 refine qal ?_
 simp only[run_Z151,Z151.ev]
 exact qaa (qdO c c.length 0 (Nat.le_refl _) (by omega) hv) qam
end VeT
open Go Go.Proofs Ve
namespace VeT
def mz:Mat:=(0,0,0,[],())
def QB(p:Int)(st:Sim)(ms:List Mat)(t k:Nat)(f:Int):Prop:=Bt (ms.getD t mz) p (st.getD f.toNat 0) (st.getD k 0)
def VS(c:List Sim)(p:Int)(st:Sim)(ms:List Mat):Prop:=VC c∧Pr p∧SK c st∧plc c c.length=ms.length∧∀ k,k<c.length→∀ i,i<(qaU c k).length→QB p st ms (plc c k+i) k ((qaU c k).getD i 0)
def az:Arw:=(0,0,0,())
def QA(p:Int)(st:Sim)(ms:List Mat)(t:Nat)(a:Arw):Prop:=t<ms.length∧Bt (ms.getD t mz) p (st.getD a.2.2.1.toNat 0) (st.getD a.1.toNat 0)
theorem qnR{c:List Sim}{p:Int}{st:Sim}{ms:List Mat}(hl:plc c c.length=ms.length) :
  (∀ t,0≤t→t<plc c c.length→QA p st ms t ((qeE c c.length).getD t az))↔∀ k,k<c.length→∀ i,i<(qaU c k).length→QB p st ms (plc c k+i) k ((qaU c k).getD i 0):=by
 constructor
 ·intro h k hk i hi
  have hg:=qec hk hi
  have hlt:=(List.getElem?_eq_some_iff.1 hg).1
  have:=h (plc c k+i) (by omega) hlt
  rw[List.getD_eq_getElem?_getD,hg] at this
  exact this.2
 ·intro h t _ ht
  obtain⟨k,i,hk,hi,rfl⟩:=qlh ht
  have hg:=qec hk hi
  have:=h k hk i hi
  rw[List.getD_eq_getElem?_getD,hg]
  exact⟨by omega,this⟩
theorem qnw{ms:List Mat}(h:Sm (.sl (.st cM)) ms){t:Nat}(ht:t<ms.length):Sm (.st cM) ms[t]:=h.2 _ (List.getElem_mem ht)
theorem qe4(c:List Sim)(p:Int)(st:Sim)(ms:List Mat)(hc:Sm yK c)(hst:st.length≤1048576)(hm:Sm (.sl (.st cM)) ms) :
    Ret E n_Z14 [dLL c,dI p,dL st,dMs ms] ⟨o_Z14,(pb (VS c p st ms),())⟩:=by
  have hm1:ms.length≤1048576:=hm.1
  refine qal ?_
  simp only[run_Z14,Z14.ev]
  have no:¬ VS c p st ms→Ev fun φ=>Z14.j0 (mkR (run E (φ 0))) (φ 0) true c p st ms=some ⟨o_Z14,(pb (VS c p st ms),())⟩:=fun h=>by
    simp only[Z14.j0_eq _ qae,cond_true]
    rw[qas h];(first | exact qam | exact Ev.of fun _=>trivial)
  refine qaa (qgt c hc) (qb5 (fun h=>no fun hv=>qa1.1 (show pb (VC c)=false by simpa using h) hv.1) fun h=>?_)
  have hv:VC c:=qaE.1 (by simpa using h)
  refine qaa (qeo p) (qb5 (fun h=>no fun hv=>qa1.1 (show pb (Pr p)=false by simpa using h) hv.2.1) fun h=>?_)
  have hp:Pr p:=qaE.1 (by simpa using h)
  refine qaa (qjR c st hc hst) ?_
  by_cases hk:SK c st
  · simp only[qaK hk,Bool.not_true,Z14.j0_eq _ qae,cond_false]
    refine qaa (qmO c hc hv) ?_
    have hpl:=hv.plc (Nat.le_refl _)
    have h48:=hv.1
    refine Ev.start (p:=fun φ n=>Z14.l1 (mkR (run E (φ 0))) (φ 0) n (qeE c c.length) (qeE c c.length) ((qeE c c.length).length:Int) 0 c p st ms=_) 1 ?_ (fun _ _ _ h=>h)
    have get:∀ t (ht:t<plc c c.length),∃ k i,k<c.length∧i<(qaU c k).length∧(qeE c c.length)[t]? = some ((k:Int),(i:Int),(qaU c k).getD i 0,())∧((qaU c k).getD i 0).toNat<st.length∧0≤(qaU c k).getD i 0:=fun t ht=>by
      obtain⟨k,i,hk',hi,rfl⟩:=qlh ht
      have hb:=qjG hv hk' (List.getElem_mem hi)
      exact⟨k,i,hk',hi,qec hk' hi,by rw[qaf hi,hk.1];omega,by rw[qaf hi];omega⟩
    refine(qdw 1 (L:=fun φ n t=>Z14.l1 (mkR (run E (φ 0))) (φ 0) n (qeE c c.length) (qeE c c.length) ((qeE c c.length).length:Int) t c p st ms) (len:=plc c c.length) 0 (by omega) (fun t=>QA p st ms t ((qeE c c.length).getD t az)) (fun b=>some ⟨o_Z14,(b&&((plc c c.length:Int)==(ms.length:Int)),())⟩) (fun _ _ _ _=>rfl) (fun t h1 h2 hP _=>?_) (fun t r h1 h2 hP _ ih=>?_) (fun _=>?_)).to ?_
    · simp only[Z14.l1_succ _ qae]
      obtain⟨k,i,hkc,hi,hg,hf,hf0⟩:=get t h2
      have hlt:t<(qeE c c.length).length:=h2
      have hgt:(qeE c c.length)[t]=((k:Int),(i:Int),(qaU c k).getD i 0,()):=by
        rw[List.getElem?_eq_getElem hlt] at hg;exact Option.some.inj hg
      refine qax (decide_eq_true (by omega)) (qac (qak hlt) ?_)
      rw[qaf hlt] at hP
      rw[hgt] at hP ⊢
      refine qdH (fun hge=>?_) fun hge=>?_
      · simp only[Z14.j2_eq _ qae,cond_true];(first | exact qam | exact Ev.of fun _=>trivial)
      · have htm:t<ms.length:=by omega
        refine qac (qak htm) ?_
        simp only
        rw[show(qaU c k).getD i 0=((((qaU c k).getD i 0).toNat:Nat):Int) by omega]
        refine qac (qak hf) (qac (qak (show k<st.length by rw[hk.1];exact hkc)) (qaa (qeU _ _ _ _ (qnw hm htm)) ?_))
        have:¬ Bt ms[t] p st[((qaU c k).getD i 0).toNat] (st[k]'(by rw[hk.1];exact hkc)):=fun hb=>hP ⟨htm,by
          simp only[Int.toNat_natCast]
          rw[qaf htm,qaf hf,qaf (s:=st) (k:=k) (by rw[hk.1];exact hkc)];exact hb⟩
        simp only[qas this,Bool.not_false,Z14.j2_eq _ qae,cond_true];(first | exact qam | exact Ev.of fun _=>trivial)
    · simp only[Z14.l1_succ _ qae]
      obtain⟨k,i,hkc,hi,hg,hf,hf0⟩:=get t h2
      have hlt:t<(qeE c c.length).length:=h2
      have hgt:(qeE c c.length)[t]=((k:Int),(i:Int),(qaU c k).getD i 0,()):=by
        rw[List.getElem?_eq_getElem hlt] at hg;exact Option.some.inj hg
      refine qax (decide_eq_true (by omega)) (qac (qak hlt) ?_)
      rw[qaf hlt] at hP
      rw[hgt] at hP ⊢
      obtain⟨htm,hb⟩:=hP
      refine qaA (decide_eq_false (by omega)) (qac (qak htm) ?_)
      simp only
      rw[show(qaU c k).getD i 0=((((qaU c k).getD i 0).toNat:Nat):Int) by omega]
      refine qac (qak hf) (qac (qak (show k<st.length by rw[hk.1];exact hkc)) (qaa (qeU _ _ _ _ (qnw hm htm)) ?_))
      simp only[Int.toNat_natCast] at hb
      rw[qaf htm,qaf hf,qaf (s:=st) (k:=k) (by rw[hk.1];exact hkc)] at hb
      simp only[qaK hb,Bool.not_true,Z14.j2_eq _ qae,cond_false]
      rw[qad (by omega)];exact ih
    · simp only[Z14.l1_succ _ qae]
      exact qaA (decide_eq_false (by show ¬ ((plc c c.length:Nat):Int)<((plc c c.length:Nat):Int);omega)) (qan (by rw[Bool.true_and];rfl))
    · have:(pb (∀ t,0≤t→t<plc c c.length→QA p st ms t ((qeE c c.length).getD t az))&&((plc c c.length:Int)==(ms.length:Int)))=pb (VS c p st ms):=qgq (by
        rw[Bool.and_eq_true,qaE,beq_iff_eq]
        constructor
        · rintro⟨h1,h2⟩
          have h2:plc c c.length=ms.length:=by omega
          exact⟨hv,hp,hk,h2,(qnR h2).1 h1⟩
        · rintro⟨_,_,_,h2,h1⟩
          exact⟨(qnR h2).2 h1,by omega⟩)
      rw[this]
  · simp only[qas hk,Bool.not_false]
    exact no fun hv=>hk hv.2.2.1
theorem qmI(x:Shf)(k i:Nat)(m:Mat)(hv:VC x.1)(hk:SK x.1 x.2.2.1)(hkc:k<x.1.length)(hi:i<(qaU x.1 k).length)(hc:Sm yK x.1)(hm:Sm (.st cM) m) :
  Ret E n_Z154 [dS x,dI (k:Int),dI (i:Int),dM m] ⟨o_Z154,(pb (Bt m x.2.1 (x.2.2.1.getD ((qaU x.1 k).getD i 0).toNat 0) (x.2.2.1.getD k 0)),())⟩:=by
 have hb:=qjG hv hkc (List.getElem_mem hi)
 have hks:k<x.2.2.1.length:=by rw[hk.1];exact hkc
 have hfs:((qaU x.1 k)[i]).toNat<x.2.2.1.length:=by rw[hk.1];omega
 rw[qaf hi,qaf hks,qaf hfs]
 refine qal ?_
 simp only[run_Z154,Z154.ev]
 refine qaa (qcM x.1 k hkc hc) (qac (qak hi) (qaa (qn5 m hm) (qb5 (fun h1=>qb5 (fun h2=>qac (qak hks) (qb5 (fun h3=>?_) fun h3=>qan ?_)) fun h2=>qan ?_) fun h1=>qan ?_)))
 ·have e:(qaU x.1 k)[i]=((((qaU x.1 k)[i]).toNat:Nat):Int):=by omega
  refine qac ((congrArg (idx? x.2.2.1) e).trans (qak hfs)) (qan ?_)
  have:(m.2.2.1==x.2.2.1[((qaU x.1 k)[i]).toNat])=pb (Bt m x.2.1 x.2.2.1[((qaU x.1 k)[i]).toNat] x.2.2.1[k]):=qgq (by
   rw[beq_iff_eq];exact⟨fun h=>⟨qaE.1 h1,by simpa using h2,by simpa using h3,h⟩,fun h=>h.2.2.2⟩)
  simp only[this]
 ·rw[qas fun h=>by have:=h.2.2.1;simp[this] at h3]
 ·rw[qas fun h=>by have:=h.2.1;simp[this] at h2]
 ·rw[qas fun h=>qa1.1 h1 h.1]
theorem qn4(x:Shf)(hx:Sm (.st cS) x):Ret E n_Z155 [dS x] ⟨o_Z155,(pb (VS x.1 x.2.1 x.2.2.1 x.2.2.2.1),())⟩:=by
 have hc:Sm yK x.1:=hx.1
 have hm:Sm (.sl (.st cM)) x.2.2.2.1:=hx.2.2.2.1
 have hst:x.2.2.1.length≤1048576:=hx.2.2.1.1
 refine qal ?_
 simp only[run_Z155,Z155.ev]
 have no:¬ VS x.1 x.2.1 x.2.2.1 x.2.2.2.1→Ev fun φ=>Z155.j0 (mkR (run E (φ 0))) (φ 0) x true=some ⟨o_Z155,(pb (VS x.1 x.2.1 x.2.2.1 x.2.2.2.1),())⟩:=fun h=>by
  simp only[Z155.j0_eq _ qae,cond_true]
  rw[qas h];(first | exact qam | exact Ev.of fun _=>trivial)
 refine qaa (qmZ (x.1,()) hc) (qb5 (fun h=>no fun hv=>qa1.1 (show pb (VC x.1)=false by simpa using h) hv.1) fun h=>?_)
 have hv:VC x.1:=qaE.1 (show pb (VC x.1)=true by simpa using h)
 refine qaa (qcL _) (qb5 (fun h=>no fun hv=>qa1.1 (show pb (Pr x.2.1)=false by simpa using h) hv.2.1) fun h=>?_)
 have hp:Pr x.2.1:=qaE.1 (by simpa using h)
 refine qaa (qiX x.1 x.2.2.1 hc hst) (qb5 (fun h=>no fun hv=>qa1.1 (show pb (SK x.1 x.2.2.1)=false by simpa using h) hv.2.2.1) fun h=>?_)
 have hk:SK x.1 x.2.2.1:=qaE.1 (by simpa using h)
 refine qaa (qkY x.1 hv) ?_
 by_cases hl:plc x.1 x.1.length=x.2.2.2.1.length
 ·have h48:=hv.1
  simp only[show((x.2.2.2.1.length:Int) != ((plc x.1 x.1.length:Nat):Int))=false by simp[hl],Z155.j0_eq _ qae,cond_false]
  refine Ev.start (p:=fun φ n=>Z155.l1 (mkR (run E (φ 0))) (φ 0) n x 0=_) 1 ?_ (fun _ _ _ h=>h)
  let P:Nat→Prop:=fun k=>∀ i,i<(qaU x.1 k).length→QB x.2.1 x.2.2.1 x.2.2.2.1 (plc x.1 k+i) k ((qaU x.1 k).getD i 0)
  have inner:∀(k:Nat) (h2:k<x.1.length) (r:Option Dv),(P k→Ev fun φ=>Z155.l1 (mkR (run E (φ 0))) (φ 0) (φ 1) x ((k+1:Nat):Int)=r)→(¬ P k→r=some ⟨o_Z155,(false,())⟩)→Ev fun φ=>Z155.l2 (mkR (run E (φ 0))) (φ 0) (φ 1) (φ 0) x (k:Int) 0=r:=fun k h2 r hgo hstop=>by
   have h4:=hv.len4 h2
   have hfl:=qaV (c:=x.1) (k:=k)
   rw[qaf h2] at h4 hfl
   refine Ev.start (p:=fun φ n=>Z155.l2 (mkR (run E (φ 0))) (φ 0) (φ 1) n x (k:Int) 0=_) 2 ?_ (fun _ _ _ h=>h)
   by_cases hlen:1<(x.1[k]).length
   ·rw[if_pos hlen] at hfl
    have mapAt:∀ i (hi:i<(qaU x.1 k).length),∃ ht:plc x.1 k+i<x.2.2.2.1.length,∀ R,(Ev fun φ=>(bif (!pb (Bt x.2.2.2.1[plc x.1 k+i] x.2.1 (x.2.2.1.getD ((qaU x.1 k).getD i 0).toNat 0) (x.2.2.1.getD k 0))) then some ⟨o_Z155,(false,())⟩ else Z155.l2 (mkR (run E (φ 0))) (φ 0) (φ 1) (φ 2) x (k:Int) (w64 ((i:Int)+1)))=R)→Ev fun φ=>Z155.j3 (mkR (run E (φ 0))) (φ 0) (φ 1) (φ 2) x (k:Int) (i:Int) true=R:=fun i hi=>by
     have hg:=qec h2 hi
     have hlt:=(List.getElem?_eq_some_iff.1 hg).1
     have ht:plc x.1 k+i<x.2.2.2.1.length:=by rw[← hl];exact hlt
     refine⟨ht,fun R hR=>?_⟩
     simp only[Z155.j3_eq _ qae,cond_true]
     refine qaa (qdO x.1 k i (by omega) (by omega) hv) (qac (qak ht) (qaa (qmI x k i _ hv hk h2 hi hc (qnw hm ht)) hR))
    obtain⟨t,f⟩:=qiN 2 (L:=fun φ n i=>Z155.l2 (mkR (run E (φ 0))) (φ 0) (φ 1) n x (k:Int) i) (len:=(x.1[k]).length) 0 (by omega) (fun i=>QB x.2.1 x.2.2.1 x.2.2.2.1 (plc x.1 k+i) k ((qaU x.1 k).getD i 0)) (rt:=r) (rf:=some ⟨o_Z155,(false,())⟩) (fun _ _ _ _=>rfl) (fun i _ hi hP _=>by
     obtain⟨ht,hm'⟩:=mapAt i (by omega)
     simp only[Z155.l2_succ _ qae]
     refine qac (qak h2) (qax (decide_eq_true (by omega)) (qac (qak h2) ?_))
     simp only[show decide (((x.1[k]).length:Int)>1)=true from decide_eq_true (by omega)]
     refine hm' _ (qax ?_ qam)
     rw[qas];· rfl
     intro hb;refine hP ?_
     show Bt _ _ _ _
     rw[qaf ht];exact hb) (fun i q _ hi hP _ ih=>by
     obtain⟨ht,hm'⟩:=mapAt i (by omega)
     simp only[Z155.l2_succ _ qae]
     refine qac (qak h2) (qax (decide_eq_true (by omega)) (qac (qak h2) ?_))
     simp only[show decide (((x.1[k]).length:Int)>1)=true from decide_eq_true (by omega)]
     refine hm' _ (qaA ?_ ?_)
     ·have hP:Bt (x.2.2.2.1.getD (plc x.1 k+i) mz) _ _ _:=hP
      rw[qaf ht] at hP
      rw[qaK hP];rfl
     ·rw[qad (by omega)];exact ih) (fun hall=>by
     simp only[Z155.l2_succ _ qae]
     refine qac (qak h2) (qaA (decide_eq_false (by omega)) ?_)
     simp only[Z155.j3_eq _ qae,cond_false]
     rw[qad (by omega)]
     exact hgo fun i hi=>hall i (by omega) (by omega))
    by_cases hall:∀ i,0≤i→i<(x.1[k]).length→QB x.2.1 x.2.2.1 x.2.2.2.1 (plc x.1 k+i) k ((qaU x.1 k).getD i 0)
    ·exact t hall
    ·rw[hstop fun hf=>hall fun i _ hi=>hf i (by omega)]
     exact f hall
   ·rw[if_neg hlen] at hfl
    refine Ev.round 2 (L:=fun φ n=>Z155.l2 (mkR (run E (φ 0))) (φ 0) (φ 1) n x (k:Int) 0) ?_ (fun _ _ _=>rfl)
    have hgo:=hgo fun i hi=>by omega
    have hj:Ev fun φ=>Z155.j3 (mkR (run E (φ 0))) (φ 0) (φ 1) (φ 2) x (k:Int) 0 false=r:=by
     simp only[Z155.j3_eq _ qae,cond_false]
     rw[qad (by omega)];exact hgo
    simp only[Z155.l2_succ _ qae]
    refine qac (qak h2) (qdH (fun _=>qac (qak h2) ?_) fun _=>hj)
    simp only[show decide (((x.1[k]).length:Int)>1)=false from decide_eq_false (by omega)]
    exact hj
  refine(qdw 1 (L:=fun φ n k=>Z155.l1 (mkR (run E (φ 0))) (φ 0) n x k) (len:=x.1.length) 0 (by omega) P (fun b=>some ⟨o_Z155,(b,())⟩) (fun _ _ _ _=>rfl) (fun k h1 h2 hP hpre=>?_) (fun k r h1 h2 hP hpre ih=>?_) (fun _=>?_)).to ?_
  ·simp only[Z155.l1_succ _ qae]
   exact qax (decide_eq_true (by omega)) (inner k h2 _ (fun h=>absurd h hP) fun _=>rfl)
  ·simp only[Z155.l1_succ _ qae]
   exact qax (decide_eq_true (by omega)) (inner k h2 _ (fun _=>ih) fun h=>absurd hP h)
  ·simp only[Z155.l1_succ _ qae]
   exact qaA (decide_eq_false (by omega)) qam
  ·exact congrArg (fun b:Bool=>some (⟨o_Z155,(b,())⟩:Dv)) (qaM ⟨fun h=>⟨hv,hp,hk,hl,fun k hk'=>h k (by omega) hk'⟩,fun h k _ hk'=>h.2.2.2.2 k hk'⟩)
 ·simp only[show((x.2.2.2.1.length:Int) != ((plc x.1 x.1.length:Nat):Int))=true by simp;omega]
  exact no fun h=>hl h.2.2.2.1
end VeT
open Go Go.Proofs Ve
namespace VeT
theorem qjB(x:Shf)(hx:Sm (.st cS) x):Ret E n_Z14 [dLL x.1,dI x.2.1,dL x.2.2.1,dMs x.2.2.2.1] ⟨o_Z14,(pb (VS x.1 x.2.1 x.2.2.1 x.2.2.2.1),())⟩ :=
 qe4 x.1 x.2.1 x.2.2.1 x.2.2.2.1 hx.1 hx.2.2.1.1 hx.2.2.2.1
end VeT
open Go Go.Proofs Ve
namespace VeT
theorem qih(p r:Int)(C:Nat)(cells:Sim)(i j:Nat)(h:i*C+j<cells.length)(hl:cells.length≤1048576):Ret E n_Z7 [dI p,dI r,dI (C:Int),dL cells,dI (i:Int),dI (j:Int)] ⟨o_Z7,(cells[i*C+j],())⟩:=by
 refine qal ?_
 simp only[run_Z7,Z7.ev]
 rw[qbg,qah (n:=((i*C:Nat):Int)) (by omega) (by omega),qah (by omega) (by omega),show((i*C:Nat):Int)+(j:Int)=((i*C+j:Nat):Int) by omega]
 exact qac (qak h) qam
theorem qeM(p r:Int)(C:Nat)(cells:Sim)(i:Nat)(h:(i+1)*C≤cells.length)(hi:i≤1048576)(hl:cells.length≤1048576):Ret E n_Z8 [dI p,dI r,dI (C:Int),dL cells,dI (i:Int)] ⟨o_Z8,((cells.take ((i+1)*C)).drop (i*C),())⟩:=by
 refine qal ?_
 simp only[run_Z8,Z8.ev]
 have h1:i*C≤(i+1)*C:=Nat.mul_le_mul_right _ (by omega)
 have e1:w64 ((i:Int)*(C:Int))=((i*C:Nat):Int):=by rw[qbg];exact qah (by omega) (by omega)
 have e2:w64 ((i:Int)+1)=((i+1:Nat):Int):=qad (by omega)
 have e3:w64 (((i+1:Nat):Int)*(C:Int))=(((i+1)*C:Nat):Int):=by rw[qbg];exact qah (by omega) (by omega)
 simp only[e1,e2,e3,Int.toNat_natCast]
 exact qaq (by simp only[Bool.and_eq_true,decide_eq_true_eq];omega) qam
theorem qhm(s:Sim)(hs:s.length≤1048576):Ret E n_Z103 [dL s] ⟨o_Z103,(s,())⟩:=by
 refine qal ?_
 simp only[run_Z103,Z103.ev,Z103.j0_eq _ qae,cond_true,cond_false]
 have h:Ev fun φ=>(Option.bind (chk (decide ((List.length ([]:List Int)+List.length s)*8≤70368744177664))) fun _=>some (⟨o_Z103,((([]:List Int)++s),())⟩:Dv))=some ⟨o_Z103,(s,())⟩ :=
  qaq (by simp;omega) (qan rfl)
 cases s with
 | nil=>exact qax rfl (qbO qam h)
 | cons a s=>exact qaA rfl h
theorem qho(m:Mat)(C:Nat)(i j:Nat)(hC:m.2.2.1=(C:Int))(h:j*C+i<m.2.2.2.1.length)(hl:m.2.2.2.1.length≤1048576):Ret E n_Z68 [dI (i:Int),dI (j:Int),dM m] ⟨o_Z68,(m.2.2.2.1.getD (j*C+i) 0,())⟩:=by
 rw[qaf h]
 refine qal ?_
 simp only[run_Z68,Z68.ev]
 rw[hC]
 exact qaa (qih _ _ C _ j i h hl) qam
theorem qpK(a b:Sim)(p:Int)(hp:2≤p∧p≤251)(ha:a.length≤32)(hb:a.length≤b.length)(ea:∀ x∈a,0≤x∧x≤250)(eb:∀ x∈b,0≤x∧x≤250) :
  Ret E n_Z30 [dL a,dL b,dI p] ⟨o_Z30,(qaT (fun l=>a.getD l 0) (fun l=>b.getD l 0) a.length%p,())⟩:=by
 refine qal ?_
 simp only[run_Z30,Z30.ev]
 refine Ev.start (p:=fun φ n=>Z30.l0 (mkR (run E (φ 0))) (φ 0) n a b p 0 (a.length:Int) 0=_) 1 ?_ (fun _ _ _ h=>h)
 have:=qap 1 (L:=fun φ n k s=>Z30.l0 (mkR (run E (φ 0))) (φ 0) n a b p s (a.length:Int) k) (len:=a.length) (fun k=>qaT (fun l=>a.getD l 0) (fun l=>b.getD l 0) k%p) (r:=some ⟨o_Z30,(qaT (fun l=>a.getD l 0) (fun l=>b.getD l 0) a.length%p,())⟩) (fun _ _ _ _ _=>rfl) (fun k r hk ih=>?_) ?_
 ·simpa [qaT] using this
 ·simp only[Z30.l0_succ _ qae]
  have hkb:k<b.length:=by omega
  have hm:=qes (ea _ (List.getElem_mem hk)) (eb _ (List.getElem_mem hkb))
  have h0:=Int.emod_nonneg (qaT (fun l=>a.getD l 0) (fun l=>b.getD l 0) k) (show p≠0 by omega)
  have h1:=Int.emod_lt_of_pos (qaT (fun l=>a.getD l 0) (fun l=>b.getD l 0) k) (show 0<p by omega)
  refine qax (decide_eq_true (by omega)) (qac (qak hk) (qac (qak hkb) (qaq (by simp;omega) ?_)))
  rw[qah (n:=a[k]*b[k]) (by omega) (by omega),qah (by omega) (by omega),Int.tmod_eq_emod_of_nonneg (by omega),Int.emod_add_emod,qad (by omega)]
  simp only[qaT] at ih
  rw[qaf hk,qaf hkb] at ih
  exact ih
 ·simp only[Z30.l0_succ _ qae]
  exact qaA (decide_eq_false (by omega)) qam
theorem qmQ(p:Int)(R C:Nat)(cells:Sim)(hl:cells.length=R*C)(hR:R≤32)(hC:C≤32):Ret E n_Z62 [dI p,dI (R:Int),dI (C:Int),dL cells] ⟨o_Z62,((List.range R).map fun i=>(cells.take ((i+1)*C)).drop (i*C),())⟩:=by
 have h1024:=qcY hR hC
 refine qal ?_
 simp only[run_Z62,Z62.ev]
 refine Ev.start (p:=fun φ n=>Z62.l0 (mkR (run E (φ 0))) (φ 0) n (R:Int) 0 p (R:Int) (C:Int) cells []=_) 1 ?_ (fun _ _ _ h=>h)
 refine qap 1 (L:=fun φ n k a=>Z62.l0 (mkR (run E (φ 0))) (φ 0) n (R:Int) k p (R:Int) (C:Int) cells a) (len:=R) (fun k=>(List.range k).map fun i=>(cells.take ((i+1)*C)).drop (i*C)) (fun _ _ _ _ _=>rfl) (fun k r hk ih=>?_) ?_
 ·simp only[Z62.l0_succ _ qae]
  have hle:(k+1)*C≤R*C:=Nat.mul_le_mul_right _ hk
  rw[List.range_succ,List.map_append] at ih
  refine qax (decide_eq_true (by omega)) (qaa (qeM p _ C cells k (by omega) (by omega) (by omega)) (qaa (qhm _ (by simp;omega)) (qaq (by simp;omega) ?_)))
  rw[qad (by omega)];exact ih
 ·simp only[Z62.l0_succ _ qae]
  exact qaA (decide_eq_false (by omega)) qam
end VeT
open Go Go.Proofs Ve
namespace VeT
theorem qbz.get{v:Sim}{p:Int}(h:qbz v p)(hp:2≤p∧p≤251)(i:Nat):0≤v.getD i 0∧v.getD i 0≤250:=by
 by_cases hi:i<v.length
 ·rw[qaf hi]
  have:=h _ (List.getElem_mem hi)
  omega
 ·rw[List.getD_eq_getElem?_getD,List.getElem?_eq_none (by omega)];simp
theorem qbz.mem{v:Sim}{p:Int}(h:qbz v p)(hp:2≤p∧p≤251):∀ x∈v,0≤x∧x≤250:=fun x hx=>by
 have:=h x hx;omega
def qkX(p:Int)(ca cb:Sim)(K C i j:Nat):Int:=qaT (fun l=>ca.getD (i*K+l) 0) (fun l=>cb.getD (l*C+j) 0) K%p
def qoE(a b:Mat):Mat:=(a.1,a.2.1,b.2.2.1,qat (qkX a.1 a.2.2.2.1 b.2.2.2.1 a.2.2.1.toNat b.2.2.1.toNat) b.2.2.1.toNat a.2.1.toNat,())
def qeO(K C:Nat)(cb:Sim):List Sim:=(List.range C).map fun i=>(List.range K).map fun j=>cb.getD (j*C+i) 0
theorem qjg(q:Int)(K C:Nat)(cb:Sim)(hl:cb.length=K*C)(hK:K≤32)(hC:C≤32):Ret E n_Z67 [dI q,dI (K:Int),dI (C:Int),dL cb] ⟨o_Z67,(q,(C:Int),(K:Int),qat (fun i j=>cb.getD (j*C+i) 0) K C,())⟩:=by
 have h1:=qcY hK hC
 have h2:=qcY hC hK
 refine qal ?_
 simp only[run_Z67,Z67.ev]
 refine qaa (qcC q C K ((q,(K:Int),(C:Int),cb,()),()) (fun i j=>cb.getD (j*C+i) 0) (by omega) (by omega) (by omega) fun i j hi hj=>?_) qam
 exact qho (q,(K:Int),(C:Int),cb,()) C i j rfl (by show _<cb.length;rw[hl];exact qgr hj hi) (by show cb.length≤_;omega)
theorem qjc(q:Int)(K C:Nat)(cb:Sim)(hl:cb.length=K*C)(hK:K≤32)(hC:C≤32):Ret E n_Z25 [dI q,dI (K:Int),dI (C:Int),dL cb] ⟨o_Z25,(qeO K C cb,())⟩:=by
 refine qal ?_
 simp only[run_Z25,Z25.ev]
 refine qaa (qjg q K C cb hl hK hC) (qaa (qmQ q C K _ qav hC hK) (qan ?_))
 have:((List.range C).map fun i=>((qat (fun i j=>cb.getD (j*C+i) 0) K C).take ((i+1)*K)).drop (i*K))=qeO K C cb :=
  List.map_congr_left fun i hi=>qkw (List.mem_range.1 hi)
 rw[this]
theorem qnl{K C:Nat}{cb:Sim}{q:Int}(hb:qbz cb q)(hq:2≤q∧q≤251){j:Nat}(hj:j<(qeO K C cb).length):∀ x∈(qeO K C cb)[j],0≤x∧x≤250:=by
 intro x hx
 have hm:=List.getElem_mem hj
 generalize (qeO K C cb)[j]=y at hm hx
 unfold qeO at hm
 rw[List.mem_map] at hm
 obtain⟨i,_,rfl⟩:=hm
 rw[List.mem_map] at hx
 obtain⟨l,_,rfl⟩:=hx
 exact hb.get hq _
theorem qjF(p:Int)(R K C:Nat)(ca cb:Sim)(i j:Nat)(hi:i<R)(hj:j<C)(hp:2≤p∧p≤251)(hla:ca.length=R*K)(hR:R≤32)(hK:K≤32)(ea:qbz ca p){q:Int}(hq:2≤q∧q≤251)(eb:qbz cb q) :
  Ret E n_Z58 [dI (i:Int),dI (j:Int),dM (p,(R:Int),(K:Int),ca,()),⟨.ptr yC,(qeO K C cb,())⟩] ⟨o_Z58,(qkX p ca cb K C i j,())⟩:=by
 have h1:=qcY hR hK
 have hle:(i+1)*K≤R*K:=Nat.mul_le_mul_right _ hi
 have hjl:j<(qeO K C cb).length:=by simp[qeO,hj]
 have hcl:((qeO K C cb)[j]).length=K:=by simp[qeO]
 have hrl:((ca.take ((i+1)*K)).drop (i*K)).length=K:=by
  rw[List.length_drop,List.length_take,Nat.min_eq_left (by omega),Nat.add_mul];omega
 refine qal ?_
 simp only[run_Z58,Z58.ev]
 refine qac (qak hjl) (qaa (qeM p _ K ca i (by omega) (by omega) (by omega)) (qaa (qpK ((ca.take ((i+1)*K)).drop (i*K)) ((qeO K C cb)[j]) p hp (by omega) (by omega) (fun x hx=>ea.mem hp x (List.mem_of_mem_take (List.mem_of_mem_drop hx))) (qnl eb hq hjl)) (qan ?_)))
 rw[hrl]
 have:qaT (fun l=>((ca.take ((i+1)*K)).drop (i*K)).getD l 0) (fun l=>((qeO K C cb)[j]).getD l 0) K=qaT (fun l=>ca.getD (i*K+l) 0) (fun l=>cb.getD (l*C+j) 0) K:=qaS fun l hl=>⟨by
  rw[List.getD_eq_getElem?_getD,List.getD_eq_getElem?_getD,List.getElem?_drop,List.getElem?_take_of_lt (by rw[Nat.add_mul];omega)],by
  simp[qeO,List.getD_eq_getElem?_getD,hl]⟩
 rw[this];rfl
theorem VM.nat{m:Mat}(h:VM m):∃ R K:Nat,m=(m.1,(R:Int),(K:Int),m.2.2.2.1,())∧R≤32∧K≤32∧m.2.2.2.1.length=R*K:=by
 obtain⟨p,r,k,c,⟨⟩⟩:=m
 obtain⟨_,h2,h3,h4,_⟩:=h
 simp only at h2 h3 h4
 obtain⟨R,rfl⟩:=Int.eq_ofNat_of_zero_le h2.1
 obtain⟨K,rfl⟩:=Int.eq_ofNat_of_zero_le h3.1
 refine⟨R,K,rfl,by omega,by omega,?_⟩
 rw[qbg] at h4;simp only;omega
theorem qhC(a b:Mat)(ha:VM a)(hb:VM b)(hab:a.2.2.1=b.2.1):Ret E n_Z57 [dI a.1,dI a.2.1,dI a.2.2.1,dL a.2.2.2.1,dI b.1,dI b.2.1,dI b.2.2.1,dL b.2.2.2.1] ⟨o_Z57,qoE a b⟩:=by
  obtain⟨R,K,ea,hR,hK,hla⟩:=ha.nat
  obtain⟨K',C,eb,hK',hC,hlb⟩:=hb.nat
  have pa:2≤a.1∧a.1≤251:=⟨ha.1.1,ha.1.2.1⟩
  have pb':2≤b.1∧b.1≤251:=⟨hb.1.1,hb.1.2.1⟩
  have ela:=ha.2.2.2.2
  have elb:=hb.2.2.2.2
  rw[ea,eb] at hab
  obtain rfl : K = K' := by have hab : (K : Int) = (K' : Int) := hab
                            omega
  rw[ea,eb]
  simp only
  refine qal ?_
  simp only[run_Z57,Z57.ev]
  have hRC:=qcY hR hC
  refine qaa (qjc _ K C _ hlb hK hC) (qaa (qcS a.1 R C ((a.1,(R:Int),(K:Int),a.2.2.2.1,()),(qeO K C b.2.2.2.1,()),()) (qkX a.1 a.2.2.2.1 b.2.2.2.1 K C) (by omega) (by omega) (by omega) fun i j hi hj=>?_) (qan ?_))
  · exact qjF a.1 R K C _ _ i j hi hj pa hla hR hK ela pb' elb
  · simp only[qoE,Int.toNat_natCast]
theorem qez(p:Int)(R C:Nat)(hR:R≤32)(hC:C≤32):Ret E n_Z142 [dI p,dI (R:Int),dI (C:Int)] ⟨o_Z142,(p,(R:Int),(C:Int),List.replicate (R*C) 0,())⟩:=by
 have h1:=qcY hR hC
 have e1:w64 ((R:Int)*(C:Int))=((R*C:Nat):Int):=by rw[qbg];exact qah (by omega) (by omega)
 refine qal ?_
 simp only[run_Z142,Z142.ev,e1,Int.toNat_natCast]
 exact qaq (by simp only[Bool.and_eq_true,decide_eq_true_eq];omega) qam
theorem qf5(a b:Mat)(ha:VM a)(hb:VM b)(hab:a.2.2.1=b.2.1):Ret E n_Z140 [dM a,dM b] ⟨o_Z140,qoE a b⟩:=by
  obtain⟨R,K,ea,hR,hK,hla⟩:=ha.nat
  obtain⟨K',C,eb,hK',hC,hlb⟩:=hb.nat
  have pa:2≤a.1∧a.1≤251:=⟨ha.1.1,ha.1.2.1⟩
  have pb':2≤b.1∧b.1≤251:=⟨hb.1.1,hb.1.2.1⟩
  have ela:=ha.2.2.2.2
  have elb:=hb.2.2.2.2
  rw[ea,eb] at hab
  obtain rfl : K = K' := by have hab : (K : Int) = (K' : Int) := hab
                            omega
  obtain⟨p,r,k,ca,⟨⟩⟩:=a
  obtain⟨q,k',c,cb,⟨⟩⟩:=b
  simp only[Prod.mk.injEq,true_and,and_true] at ea eb pa pb' ela elb hla hlb
  obtain⟨rfl,rfl⟩:=ea
  obtain⟨rfl,rfl⟩:=eb
  have hRC:=qcY hR hC
  have hRK:=qcY hR hK
  have hKC:=qcY hK hC
  have hM:qoE (p,(R:Int),(K:Int),ca,()) (q,(K:Int),(C:Int),cb,())=(p,(R:Int),(C:Int),qat (qkX p ca cb K C) C R,()):=by simp[qoE]
  rw[hM]
  refine qal ?_
  simp only[run_Z140,Z140.ev,Z140.j0_eq _ qae]
  suffices h:Ev fun φ=>Z140.l1 (mkR (run E (φ 0))) (φ 0) (φ 0) (p,(R:Int),(K:Int),ca,()) (q,(K:Int),(C:Int),cb,()) 0 0 0 0 p (R:Int) (C:Int) (List.replicate (R*C) 0)=some ⟨o_Z140,(p,(R:Int),(C:Int),qat (qkX p ca cb K C) C R,())⟩ by
    exact qbO (qaa (qez p R C hR hC) h) (qaa (qez p R C hR hC) h)
  refine Ev.start (p:=fun φ n=>Z140.l1 (mkR (run E (φ 0))) (φ 0) n (p,(R:Int),(K:Int),ca,()) (q,(K:Int),(C:Int),cb,()) 0 0 0 0 p (R:Int) (C:Int) (List.replicate (R*C) 0)=_) 1 ?_ (fun _ _ _ h=>h)
  have:=qap 1 (L:=fun φ n i o=>Z140.l1 (mkR (run E (φ 0))) (φ 0) n (p,(R:Int),(K:Int),ca,()) (q,(K:Int),(C:Int),cb,()) i 0 0 0 p (R:Int) (C:Int) o) (len:=R) (fun i=>qat (qkX p ca cb K C) C i++List.replicate ((R-i)*C) 0) (r:=some ⟨o_Z140,(p,(R:Int),(C:Int),qat (qkX p ca cb K C) C R,())⟩) (fun _ _ _ _ _=>rfl) (fun i r hi ih=>?_) ?_
  · simpa [qat] using this
  · simp only[Z140.l1_succ _ qae]
    refine qax (decide_eq_true (by omega)) ?_
    refine Ev.start (p:=fun φ n=>Z140.l2 (mkR (run E (φ 0))) (φ 0) (φ 1) n (p,(R:Int),(K:Int),ca,()) (q,(K:Int),(C:Int),cb,()) (i:Int) 0 0 0 0 p (R:Int) (C:Int) (qat (qkX p ca cb K C) C i++List.replicate ((R-i)*C) 0)=_) 2 ?_ (fun _ _ _ h=>h)
    have hRi:(R-i)*C=(R-(i+1))*C+C:=by
      rw[show R-i=(R-(i+1))+1 by omega,Nat.add_mul];omega
    have hiC:(i+1)*C≤R*C:=Nat.mul_le_mul_right _ hi
    have hiK:(i+1)*K≤R*K:=Nat.mul_le_mul_right _ hi
    rw[Nat.add_mul] at hiC hiK
    have:=qap 2 (L:=fun φ n j o=>Z140.l2 (mkR (run E (φ 0))) (φ 0) (φ 1) n (p,(R:Int),(K:Int),ca,()) (q,(K:Int),(C:Int),cb,()) (i:Int) j 0 0 0 p (R:Int) (C:Int) o) (len:=C) (fun j=>(qat (qkX p ca cb K C) C i++(List.range j).map (qkX p ca cb K C i))++List.replicate ((R-i)*C-j) 0) (r:=r) (fun _ _ _ _ _=>rfl) (fun j r hj ih=>?_) ?_
    · simpa using this
    · simp only[Z140.l2_succ _ qae]
      refine qax (decide_eq_true (by omega)) ?_
      have hpl:(qat (qkX p ca cb K C) C i++(List.range j).map (qkX p ca cb K C i)).length=i*C+j:=by simp[qav]
      have hsp:(R-i)*C-j=((R-i)*C-(j+1))+1:=by omega
      generalize hO:(qat (qkX p ca cb K C) C i++(List.range j).map (qkX p ca cb K C i))++List.replicate ((R-i)*C-j) 0=O
      have hOl:O.length=R*C:=by
        rw[← hO,List.length_append,hpl,List.length_replicate,hRi]
        have:R*C=(R-(i+1))*C+(i*C+C):=by
          have e:R=(R-(i+1))+(i+1):=by omega
          have:=congrArg (·*C) e
          simp only[Nat.add_mul,Nat.one_mul] at this ⊢;omega
        omega
      refine Ev.start (p:=fun φ n=>Z140.l3 (mkR (run E (φ 0))) (φ 0) (φ 1) (φ 2) n (p,(R:Int),(K:Int),ca,()) (q,(K:Int),(C:Int),cb,()) (i:Int) (j:Int) 0 0 0 0 0 p (R:Int) (C:Int) O=_) 3 ?_ (fun _ _ _ h=>h)
      refine qap 3 (L:=fun φ n l s=>Z140.l3 (mkR (run E (φ 0))) (φ 0) (φ 1) (φ 2) n (p,(R:Int),(K:Int),ca,()) (q,(K:Int),(C:Int),cb,()) (i:Int) (j:Int) s l 0 0 0 p (R:Int) (C:Int) O) (len:=K) (fun l=>qaT (fun l=>ca.getD (i*K+l) 0) (fun l=>cb.getD (l*C+j) 0) l) (fun _ _ _ _ _=>rfl) (fun l r hl ih=>?_) ?_
      · simp only[Z140.l3_succ _ qae]
        have b1:=qlk (f:=fun l=>ca.getD (i*K+l) 0) (g:=fun l=>cb.getD (l*C+j) 0) (n:=l) fun l _=>⟨ela.get pa _,elb.get pb' _⟩
        have b2:=qes (ela.get pa (i*K+l)) (elb.get pb' (l*C+j))
        have hlC:(l+1)*C≤K*C:=Nat.mul_le_mul_right _ hl
        rw[Nat.add_mul] at hlC
        have e1:w64 (w64 ((i:Int)*(K:Int))+(l:Int))=((i*K+l:Nat):Int):=by
          rw[qbg,qah (n:=((i*K:Nat):Int)) (by omega) (by omega),qah (by omega) (by omega)];omega
        have e2:w64 (w64 ((l:Int)*(C:Int))+(j:Int))=((l*C+j:Nat):Int):=by
          rw[qbg,qah (n:=((l*C:Nat):Int)) (by omega) (by omega),qah (by omega) (by omega)];omega
        simp only[e1,e2]
        have i1:i*K+l<ca.length:=by omega
        have i2:l*C+j<cb.length:=by omega
        refine qax (decide_eq_true (by omega)) (qac (qak i1) (qac (qak i2) ?_))
        simp only[qaT] at ih
        rw[qaf i1,qaf i2] at ih b2
        rw[qah (n:=ca[i*K+l]*cb[l*C+j]) (by omega) (by omega),qah (by omega) (by omega),qad (by omega)]
        exact ih
      · simp only[Z140.l3_succ _ qae]
        have b1:=qlk (f:=fun l=>ca.getD (i*K+l) 0) (g:=fun l=>cb.getD (l*C+j) 0) (n:=K) fun l _=>⟨ela.get pa _,elb.get pb' _⟩
        have e1:w64 (w64 ((i:Int)*(C:Int))+(j:Int))=((i*C+j:Nat):Int):=by
          rw[qbg,qah (n:=((i*C:Nat):Int)) (by omega) (by omega),qah (by omega) (by omega)];omega
        simp only[e1,Int.toNat_natCast]
        refine qaA (decide_eq_false (by omega)) (qaq (by simp;omega) (qaq (by simp only[Bool.and_eq_true,decide_eq_true_eq];omega) ?_))
        rw[Int.tmod_eq_emod_of_nonneg (by omega),qad (by omega),← hO,hsp,← hpl,qpS]
        rw[List.range_succ,List.map_append,← List.append_assoc] at ih
        exact ih
    · simp only[Z140.l2_succ _ qae]
      refine qaA (decide_eq_false (by omega)) ?_
      rw[qad (by omega),hRi,Nat.add_sub_cancel]
      exact ih
  · simp only[Z140.l1_succ _ qae]
    refine qaA (decide_eq_false (by omega)) (qan ?_)
    simp
end VeT
