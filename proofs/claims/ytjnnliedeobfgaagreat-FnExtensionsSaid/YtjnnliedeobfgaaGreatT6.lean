import Derived.Test.YtjnnliedeobfgaaGreatT3
import Derived.Test.YtjnnliedeobfgaaGreatV2
import Derived.Test.YtjnnliedeobfgaaGreatT4
import Derived.Test.YtjnnliedeobfgaaGreatT5
import Derived.Test.YtjnnliedeobfgaaGreatProg
import Derived.KernelRfl
import Derived.WalkKit
import Derived.Lib.Walk
import Derived.Lib.SliceRun
import Derived.Lib.AppendZerosOnto
set_option linter.unusedVariables false
set_option linter.unusedSimpArgs false
open Go Go.Proofs Ve
set_option maxRecDepth 100000
namespace VeT
noncomputable section
abbrev q4_0(R:Run)(N:Nat):=kS R pol_Z39 22 N [1,1,1,0,1,0,0,1,1,0,0,1,1,1,1,1,1,1,1,1] F_Z39
abbrev q4_1(R:Run)(N:Nat):=kS R pol_Z39 23 N [1,1,1,0,1,0,0,1,1,1] F_Z39
abbrev q4_2(R:Run)(N:Nat):=kS R pol_Z39 24 N [1,1,1,1] F_Z39
abbrev q4_3(R:Run)(N:Nat):=kS R pol_Z34 14 N [1,1,1,1] F_Z34
abbrev q4_4(R:Run)(N:Nat):=kS R pol_Z91 26 N [1,1,1,1,1,1,1,1,1,1,1,1,0,1,0,0,1,1] F_Z91
abbrev q4_5(R:Run)(N:Nat):=kS R pol_Z91 36 N [1,1,1,1,1,1,1,1,1,1,1,1,1] F_Z91
abbrev q4_6(R:Run)(N:Nat):=kL R pol_Z39 4 N [1,1,1,0,1,0,0] F_Z39
abbrev q4_7(R:Run)(N:Nat):=kL R pol_Z91 25 N [1,1,1,1,1,1,1,1,1,1,1,1,0,1,0,0] F_Z91
abbrev q4_8(R:Run):=kB R pol_Z39 0
def Z33.l1(R:Run)(N a n:Nat)(b e:Int)(f:List Int)(g h:Int)(i:vK)(j k:Int)(l:vK)(m:Int)(o:List Int)(p:vN)(q r s:Int)(t:vK):Option Dv:=R.w (some ⟨(V.dead::(V.dead::(.c (.box 2 0)::(V.dead::(.c (.box 4 0)::(.c (.d yI b)::(.c (.arr 62)::(V.dead::(V.dead::(.c (.d yI e)::(zd 8 (.c (.d yL f)::(.c (.d yI g)::(.c (.d yI h)::(zd 10 (.c (.d yK i)::(.c (.d yI j)::(.c (.d yI k)::(zd 23 []))))))))))))))))))),(none::(none::(some (.box [.d yK l,.d yI m,.d yL o,.d yN p] false false)::(none::(some (.box [.d yI q,.d yI r,.d yI s,.nils yI] false false)::(zo 57 (some (.arr yL t true false false)::(none::[]))))))))⟩) fun st=>lC R pol_Z33 8 N [1,1,1,0,1,0,0,1,1,0,0,1,1,1,0,0] F_Z33 n st (kB R pol_Z33 2 (kB R pol_Z33 1 (kS R pol_Z33 14 N [1,1,1,0,1,0,0,1,1,1] F_Z33 (kL R pol_Z33 4 N [1,1,1,0,1,0,0] F_Z33 a (kB R pol_Z33 0 (kS R pol_Z33 15 N [1,1,1,1] F_Z33 (qs6 E sg_Z33 F_Z33)))))))
def Z33.l0(R:Run)(N n:Nat)(a:Int)(b:List Int)(e f:Int)(g:vK)(h:Int)(i:List Int)(j:vN)(k l m:Int)(o:vK):Option Dv:=R.w (some ⟨(V.dead::(V.dead::(.c (.box 2 0)::(V.dead::(.c (.box 4 0)::(.c (.d yI a)::(.c (.arr 62)::(zd 11 (.c (.d yL b)::(.c (.d yI e)::(.c (.d yI f)::(zd 36 [])))))))))))),(none::(none::(some (.box [.d yK g,.d yI h,.d yL i,.d yN j] false false)::(none::(some (.box [.d yI k,.d yI l,.d yI m,.nils yI] false false)::(zo 57 (some (.arr yL o true false false)::(none::[]))))))))⟩) fun st=>lC R pol_Z33 4 N [1,1,1,0,1,0,0] F_Z33 n st (kB R pol_Z33 0 (kS R pol_Z33 15 N [1,1,1,1] F_Z33 (qs6 E sg_Z33 F_Z33)))
theorem Z33.l1_succ(R:Run)(hw:R.ok)(N a n:Nat)(b c:Int)(d:List Int)(e f:Int)(g:vK)(h i:Int)(j:vK)(k:Int)(l:List Int)(m:vN)(o p q:Int)(r:vK):Z33.l1 R N a (n+1) b c d e f g h i j k l m o p q r=(bif (decide (i<h)) then((idx? g i).bind fun y36=>((chk (decide (0≤b)&&decide (b*8≤70368744177664))).bind fun _=>((qlP R n_Z49 o_Z49 [⟨yK,j⟩,⟨yI,k⟩,⟨yL,l⟩,⟨yN,m⟩,⟨yI,c⟩]).bind fun r37=>((chk (decide (0≤r37.1)&&decide (r37.1≤(List.length (List.replicate (Int.toNat b) (0:Int)):Int)))).bind fun _=>((chk (decide ((Int.toNat r37.1)≤(List.length (List.replicate (Int.toNat b) (0:Int))))&&decide ((List.length (List.replicate (Int.toNat b) (0:Int)))≤List.length (List.replicate (Int.toNat b) (0:Int))))).bind fun _=>((chk (decide ((List.length r+List.length [(List.take (Int.toNat r37.1) (List.replicate (Int.toNat b) (0:Int))++(List.take ((List.length (List.replicate (Int.toNat b) (0:Int)))-(Int.toNat r37.1)) (y36,()).1)++List.drop ((Int.toNat r37.1)+List.length (List.take ((List.length (List.replicate (Int.toNat b) (0:Int)))-(Int.toNat r37.1)) (y36,()).1)) (List.replicate (Int.toNat b) (0:Int)))])*24≤70368744177664))).bind fun _=>(Z33.l1 R N a n b c d e f g h (w64 (i+1)) j k l m o p q (r++[(List.take (Int.toNat r37.1) (List.replicate (Int.toNat b) (0:Int))++(List.take ((List.length (List.replicate (Int.toNat b) (0:Int)))-(Int.toNat r37.1)) (y36,()).1)++List.drop ((Int.toNat r37.1)+List.length (List.take ((List.length (List.replicate (Int.toNat b) (0:Int)))-(Int.toNat r37.1)) (y36,()).1)) (List.replicate (Int.toNat b) (0:Int)))])))))))) else(Z33.l0 R N a b d e (w64 (f+1)) j k l m o p q r)):=(hw _ _).trans (by kernel_rfl)
theorem Z33.l0_succ(R:Run)(hw:R.ok)(N n:Nat)(a:Int)(b:List Int)(c d:Int)(e:vK)(f:Int)(g:List Int)(h:vN)(i j k:Int)(l:vK):Z33.l0 R N (n+1) a b c d e f g h i j k l=(bif (decide (d<c)) then((idx? b d).bind fun y16=>((qlP R n_Z51 o_Z51 [⟨yK,e⟩,⟨yI,f⟩,⟨yL,g⟩,⟨yN,h⟩,⟨yI,(y16,()).1⟩]).bind fun r17=>((qlP R n_Z74 o_Z74 [⟨yK,e⟩,⟨yI,f⟩,⟨yL,g⟩,⟨yN,h⟩,⟨yI,r17.1⟩,⟨yI,(y16,()).1⟩]).bind fun r18=>((qlP R n_Z76 o_Z76 [⟨yI,r18.1⟩,⟨yI,r18.2.1⟩,⟨yI,r18.2.2.1⟩,⟨yL,r18.2.2.2.1⟩]).bind fun r19=>(Z33.l1 R N n N a r17.1 b c d r19.1 (List.length r19.1:Int) (0:Int) e f g h i j k l))))) else((qlP R n_Z66 o_Z66 [⟨yI,f⟩,⟨yI,a⟩,⟨yK,l⟩]).bind fun r66=>some ⟨o_Z33,(r66.1,r66.2.1,r66.2.2.1,r66.2.2.2.1,())⟩)):=(hw _ _).trans (by kernel_rfl)
theorem Z33.ev(R:Run)(N:Nat)(a0:vK)(a1:Int)(a2:List Int)(a3:vN)(a4:List Int):qsB E R sg_Z33 pol_Z33 F_Z33 N [⟨yK,a0⟩,⟨yI,a1⟩,⟨yL,a2⟩,⟨yN,a3⟩,⟨yL,a4⟩]=((qlP R n_Z81 o_Z81 [⟨yK,a0⟩,⟨yI,a1⟩,⟨yL,a2⟩,⟨yN,a3⟩,⟨yI,(0:Int)⟩]).bind fun r1=>((qlP R n_Z30 o_Z30 [⟨yK,a0⟩,⟨yI,a1⟩,⟨yL,a2⟩,⟨yN,a3⟩,⟨yI,(0:Int)⟩]).bind fun r2=>((qlP R n_Z76 o_Z76 [⟨yI,r2.1⟩,⟨yI,r2.2.1⟩,⟨yI,r2.2.2.1⟩,⟨yL,r2.2.2.2.1⟩]).bind fun r3=>(Z33.l0 R N N r1.1 a4 (List.length a4:Int) (0:Int) a0 a1 a2 a3 (0:Int) (0:Int) (0:Int) r3.1)))):=by kernel_rfl
theorem Z40.ev(R:Run)(N:Nat)(a0:List Int)(a1:(Int×Unit)):qsB E R sg_Z40 pol_Z40 F_Z40 N [⟨yL,a0⟩,⟨(.ptr (.cons yI .nil)),a1⟩]=((idx? a0 a1.1).bind fun y1=>some ⟨o_Z40,(((y1,()).1 != (0:Int)),())⟩):=by kernel_rfl
def Z111.l0(R:Run)(N n:Nat)(a:vK)(b:((Int×Unit)×Unit))(e f:Int):Option Dv:=R.w (some ⟨(.c (.d yK a)::(.c (.d (.fn n_Z40 (.cons (.ptr (.cons yI .nil)) .nil)) b)::(zd 5 (.c (.d yI e)::(.c (.d yI f)::(zd 10 [])))))),(zo 21 [])⟩) fun st=>lC R pol_Z109 2 N [1,0,1,0,0] F_Z109 n st (kB R pol_Z109 0 (kS R pol_Z109 7 N [1,1] F_Z109 (qs6 E sg_Z109 F_Z109)))
theorem Z111.l0_succ(R:Run)(hw:R.ok)(N n:Nat)(a:vK)(b:((Int×Unit)×Unit))(c d:Int):Z111.l0 R N (n+1) a b c d=(bif (decide (d<c)) then((idx? a d).bind fun y5=>((qlP R n_Z40 o_Z40 [⟨yL,(y5,()).1⟩,⟨(.ptr (.cons yI .nil)),b.1⟩]).bind fun r6=>(bif r6.1 then some ⟨o_Z109,(d,())⟩ else(Z111.l0 R N n a b c (w64 (d+1)))))) else some ⟨o_Z109,((-1:Int),())⟩):=(hw _ _).trans (by kernel_rfl)
theorem Z111.ev(R:Run)(N:Nat)(a0:vK)(a1:((Int×Unit)×Unit)):qsB E R sg_Z109 pol_Z109 F_Z109 N [⟨yK,a0⟩,⟨(.fn n_Z40 (.cons (.ptr (.cons yI .nil)) .nil)),a1⟩]=(Z111.l0 R N N a0 a1 (List.length a0:Int) (0:Int)):=by kernel_rfl
theorem Z73.ev(R:Run)(N:Nat)(a0 a1:Int):qsB E R sg_Z73 pol_Z73 F_Z73 N [⟨yI,a0⟩,⟨yI,a1⟩]=((chk (a1 != 0)).bind fun _=>((chk (a1 != 0)).bind fun _=>some ⟨o_Z73,((Int.tmod (w64 ((Int.tmod a0 a1)+a1)) a1),())⟩)):=by kernel_rfl
def Z70.l0(R:Run)(N n:Nat)(a b e f:Int):Option Dv:=R.w (some ⟨(.c (.d yI a)::(.c (.d yI b)::(.c (.d yI e)::(zd 4 (.c (.d yI f)::(zd 18 [])))))),(zo 29 [])⟩) fun st=>lC R pol_Z70 2 N [1,1,0,0,0] F_Z70 n st (kB R pol_Z70 0 (kS R pol_Z70 7 N [1,1,1] F_Z70 (qs6 E sg_Z70 F_Z70)))
theorem Z70.l0_succ(R:Run)(hw:R.ok)(N n:Nat)(a b c d:Int):Z70.l0 R N (n+1) a b c d=(bif (decide (b>(0:Int))) then(bif ((Int.tmod b (2:Int))==(1:Int)) then((chk (c != 0)).bind fun _=>((chk (c != 0)).bind fun _=>(Z70.l0 R N n (Int.tmod (w64 (a*a)) c) (w64 (Int.tdiv b (2:Int))) c (Int.tmod (w64 (d*a)) c)))) else((chk (c != 0)).bind fun _=>(Z70.l0 R N n (Int.tmod (w64 (a*a)) c) (w64 (Int.tdiv b (2:Int))) c d))) else some ⟨o_Z70,(d,())⟩):=(hw _ _).trans (by kernel_rfl)
theorem Z70.ev(R:Run)(N:Nat)(a0 a1 a2:Int):qsB E R sg_Z70 pol_Z70 F_Z70 N [⟨yI,a0⟩,⟨yI,a1⟩,⟨yI,a2⟩]=(Z70.l0 R N N a0 a1 a2 (1:Int)):=by kernel_rfl
theorem Z54.ev(R:Run)(N:Nat)(a0 a1:Int):qsB E R sg_Z54 pol_Z54 F_Z54 N [⟨yI,a0⟩,⟨yI,a1⟩]=((qlP R n_Z70 o_Z70 [⟨yI,a0⟩,⟨yI,(w64 (a1-(2:Int)))⟩,⟨yI,a1⟩]).bind fun r1=>some ⟨o_Z54,(r1.1,())⟩):=by kernel_rfl
def Z21.l0(R:Run)(N n:Nat)(a b:List Int)(e f g h:Int)(i:List Int):Option Dv:=R.w (some ⟨(.c (.d yL a)::(.c (.d yL b)::(.c (.d yI e)::(.c (.d yI f)::(zd 5 (.c (.arr 31)::(V.dead::(V.dead::(.c (.d yI g)::(.c (.d yI h)::(zd 20 []))))))))))),(zo 31 (some (.arr yI i true false false)::(zo 6 [])))⟩) fun st=>lC R pol_Z21 3 N [1,1,0,1,0,0] F_Z21 n st (kB R pol_Z21 0 (kS R pol_Z21 7 N [1,1,1] F_Z21 (qs6 E sg_Z21 F_Z21)))
theorem Z21.l0_succ(R:Run)(hw:R.ok)(N n:Nat)(a b:List Int)(c d e f:Int)(g:List Int):Z21.l0 R N (n+1) a b c d e f g=(bif (decide (f<e)) then((idx? a f).bind fun y8=>((idx? b f).bind fun y9=>((chk (d != 0)).bind fun _=>((chk (decide ((List.length g+List.length [(Int.tmod (w64 ((y8,()).1+(w64 (c*(y9,()).1)))) d)])*8≤70368744177664))).bind fun _=>(Z21.l0 R N n a b c d e (w64 (f+1)) (g++[(Int.tmod (w64 ((y8,()).1+(w64 (c*(y9,()).1)))) d)])))))) else some ⟨o_Z21,(g,())⟩):=(hw _ _).trans (by kernel_rfl)
theorem Z21.ev(R:Run)(N:Nat)(a0 a1:List Int)(a2 a3:Int):qsB E R sg_Z21 pol_Z21 F_Z21 N [⟨yL,a0⟩,⟨yL,a1⟩,⟨yI,a2⟩,⟨yI,a3⟩]=(Z21.l0 R N N a0 a1 a2 a3 (List.length a0:Int) (0:Int) ([]:List Int)):=by kernel_rfl
def Z39.j4(R:Run)(N a b:Nat)(e f g h i:Int)(j:List Int)(k l m o:Int)(p:Bool)(q:Int)(r:List Int)(s:vK):Option Dv:=R.w (some ⟨(.c (.arr 120)::(.c (.d yI e)::(.c (.d yI f)::(zd 5 (.c (.arr 116)::(.c (.d yI g)::(.c (.box 10 0)::(.c (.d yI h)::(V.dead::(V.dead::(.c (.d yI i)::(.c (.d yL j)::(.c (.d yI k)::(.c (.d yI l)::(zd 61 (.c (.arr 120)::(.c (.d yI m)::(.c (.d yI o)::(zd 13 (.c (.d .bool p)::(zd 24 []))))))))))))))))))))),(zo 10 (some (.box [.d yI q] true false)::(zo 105 (some (.arr yI r true false false)::(zo 3 (some (.arr yL s false false true)::(zo 4 [])))))))⟩) fun st=>eC R pol_Z39 N [1,1,1,0,1,0,0,1,1,0,0,1,1,1,1,1,1,1,1,0,1,0,0,1,1,0,0,1,1] F_Z39 st (kB R pol_Z39 3 (kS R pol_Z39 21 N [1,1,1,0,1,0,0,1,1,0,0,1,1,1,1,1,1,1,1,0,1,0,0,1,1,1] F_Z39 (kL R pol_Z39 17 N [1,1,1,0,1,0,0,1,1,0,0,1,1,1,1,1,1,1,1,0,1,0,0] F_Z39 b (kB R pol_Z39 2 (q4_0 R N (kB R pol_Z39 1 (q4_1 R N (q4_6 R N a (q4_8 R (q4_2 R N (qs6 E sg_Z39 F_Z39)))))))))))
def Z39.l3(R:Run)(N a n:Nat)(b e f g h i j k l:Int)(m:List Int)(o:vK):Option Dv:=R.w (some ⟨(.c (.arr 120)::(.c (.d yI b)::(.c (.d yI e)::(zd 5 (.c (.arr 116)::(.c (.d yI f)::(.c (.box 10 0)::(.c (.d yI g)::(zd 4 (.c (.d yI h)::(.c (.d yI i)::(zd 61 (.c (.arr 120)::(.c (.d yI j)::(.c (.d yI k)::(zd 38 [])))))))))))))))),(zo 10 (some (.box [.d yI l] true false)::(zo 105 (some (.arr yI m true false false)::(zo 3 (some (.arr yL o false false true)::(zo 4 [])))))))⟩) fun st=>lC R pol_Z39 17 N [1,1,1,0,1,0,0,1,1,0,0,1,1,1,1,1,1,1,1,0,1,0,0] F_Z39 n st (kB R pol_Z39 2 (q4_0 R N (kB R pol_Z39 1 (q4_1 R N (q4_6 R N a (q4_8 R (q4_2 R N (qs6 E sg_Z39 F_Z39))))))))
def Z39.j2(R:Run)(N a:Nat)(b e f g h i j:Int)(k:List Int)(l:vK):Option Dv:=R.w (some ⟨(.c (.arr 120)::(.c (.d yI b)::(.c (.d yI e)::(zd 5 (.c (.arr 116)::(.c (.d yI f)::(.c (.box 10 0)::(.c (.d yI g)::(zd 4 (.c (.d yI h)::(.c (.d yI i)::(zd 102 [])))))))))))),(zo 10 (some (.box [.d yI j] true false)::(zo 105 (some (.arr yI k true false false)::(zo 3 (some (.arr yL l false false true)::(zo 4 [])))))))⟩) fun st=>eC R pol_Z39 N [1,1,1,0,1,0,0,1,1,0,0,1,1,1,1,1,1,1,1] F_Z39 st (kB R pol_Z39 1 (q4_1 R N (q4_6 R N a (q4_8 R (q4_2 R N (qs6 E sg_Z39 F_Z39))))))
def Z39.j1(R:Run)(N a:Nat)(b e f g h i j:Int)(k:List Int)(l:vK):Option Dv:=R.w (some ⟨(.c (.arr 120)::(.c (.d yI b)::(.c (.d yI e)::(zd 5 (.c (.arr 116)::(.c (.d yI f)::(.c (.box 10 0)::(.c (.d yI g)::(zd 4 (.c (.d yI h)::(.c (.d yI i)::(zd 102 [])))))))))))),(zo 10 (some (.box [.d yI j] true false)::(zo 105 (some (.arr yI k true false false)::(zo 3 (some (.arr yL l false false true)::(zo 4 [])))))))⟩) fun st=>eC R pol_Z39 N [1,1,1,0,1,0,0,1,1,0,0,1,1,1,1,1] F_Z39 st (kB R pol_Z39 1 (q4_1 R N (q4_6 R N a (q4_8 R (q4_2 R N (qs6 E sg_Z39 F_Z39))))))
def Z39.l0(R:Run)(N n:Nat)(a b e f g:Int)(h:List Int)(i:vK):Option Dv:=R.w (some ⟨(.c (.arr 120)::(.c (.d yI a)::(.c (.d yI b)::(zd 5 (.c (.arr 116)::(.c (.d yI e)::(zd 6 (.c (.d yI f)::(.c (.d yI g)::(zd 102 [])))))))))),(zo 116 (some (.arr yI h true false false)::(zo 3 (some (.arr yL i false false true)::(zo 4 [])))))⟩) fun st=>lC R pol_Z39 4 N [1,1,1,0,1,0,0] F_Z39 n st (q4_8 R (q4_2 R N (qs6 E sg_Z39 F_Z39)))
theorem Z39.j4_eq(R:Run)(hw:R.ok)(N a b:Nat)(c d e f g:Int)(h:List Int)(i j k l:Int)(m:Bool)(o:Int)(p:List Int)(q:vK):Z39.j4 R N a b c d e f g h i j k l m o p q=(bif m then((chk (decide (0≤f)&&decide (f<(List.length q:Int)))).bind fun _=>(Option.bind (q)[(Int.toNat f)]? fun y69=>((idx? h o).bind fun y70=>((qlP R n_Z21 o_Z21 [⟨yL,h⟩,⟨yL,y69⟩,⟨yI,(w64 (d-(y70,()).1))⟩,⟨yI,d⟩]).bind fun r71=>((chk (decide (0≤g)&&decide (g<(List.length q:Int)))).bind fun _=>(Z39.l3 R N a b c d e f i j k (w64 (l+1)) o p (List.set q (Int.toNat g) r71.1))))))) else(Z39.l3 R N a b c d e f i j k (w64 (l+1)) o p q)):=(hw _ _).trans (by kernel_rfl)
theorem Z39.l3_succ(R:Run)(hw:R.ok)(N a n:Nat)(b c d e f g h i j:Int)(k:List Int)(l:vK):Z39.l3 R N a (n+1) b c d e f g h i j k l=(bif (decide (i<h)) then((chk (decide (0≤i)&&decide (i<(List.length l:Int)))).bind fun _=>(Option.bind (l)[(Int.toNat i)]? fun y53=>(bif (i != e) then((idx? y53 j).bind fun y54=>(Z39.j4 R N a n b c d e i y53 f g h i ((y54,()).1 != (0:Int)) j k l)) else(Z39.j4 R N a n b c d e i y53 f g h i false j k l)))) else((chk (decide ((List.length k+List.length [j])*8≤70368744177664))).bind fun _=>(Z39.l0 R N a b c d f (w64 (g+1)) (k++[j]) l))):=(hw _ _).trans (by kernel_rfl)
theorem Z39.j2_eq(R:Run)(hw:R.ok)(N a:Nat)(b c d e f g h:Int)(i:List Int)(j:vK):Z39.j2 R N a b c d e f g h i j=(Z39.l3 R N a N b c d e f g (List.length j:Int) (0:Int) h i j):=(hw _ _).trans (by kernel_rfl)
theorem Z39.j1_eq(R:Run)(hw:R.ok)(N a:Nat)(b c d e f g h:Int)(i:List Int)(j:vK):Z39.j1 R N a b c d e f g h i j=((chk (decide (0≤e)&&decide (e<(List.length j:Int)))).bind fun _=>(Option.bind (j)[(Int.toNat e)]? fun y28=>((idx? y28 h).bind fun y29=>((chk (c != 0)).bind fun _=>((chk (decide (0≤e)&&decide (e<(List.length j:Int)))).bind fun _=>(Option.bind (j)[(Int.toNat e)]? fun y30=>(qq2 ((chk (decide (0≤b)&&decide (b*8≤70368744177664))).bind fun _=>((qlP R n_Z54 o_Z54 [⟨yI,(y29,()).1⟩,⟨yI,c⟩]).bind fun r31=>((qlP R n_Z21 o_Z21 [⟨yL,(List.replicate (Int.toNat b) (0:Int))⟩,⟨yL,y30⟩,⟨yI,r31.1⟩,⟨yI,c⟩]).bind fun r32=>((chk (decide (0≤e)&&decide (e<(List.length j:Int)))).bind fun _=>(Z39.j2 R N a b c (Int.tmod (w64 (d*(y29,()).1)) c) e f g h i (List.set j (Int.toNat e) r32.1)))))) ((qlP R n_Z54 o_Z54 [⟨yI,(y29,()).1⟩,⟨yI,c⟩]).bind fun r115=>((chk (decide (0≤b)&&decide (b*8≤70368744177664))).bind fun _=>((qlP R n_Z21 o_Z21 [⟨yL,(List.replicate (Int.toNat b) (0:Int))⟩,⟨yL,y30⟩,⟨yI,r115.1⟩,⟨yI,c⟩]).bind fun r116=>((chk (decide (0≤e)&&decide (e<(List.length j:Int)))).bind fun _=>(Z39.j2 R N a b c (Int.tmod (w64 (d*(y29,()).1)) c) e f g h i (List.set j (Int.toNat e) r116.1))))))))))))):=(hw _ _).trans (by kernel_rfl)
theorem Z39.l0_succ(R:Run)(hw:R.ok)(N n:Nat)(a b c d e:Int)(f:List Int)(g:vK):Z39.l0 R N (n+1) a b c d e f g=(bif (decide (e<d)) then((chk (decide (0≤(List.length f:Int))&&decide ((List.length f:Int)≤(List.length g:Int)))).bind fun _=>((qlP R n_Z109 o_Z109 [⟨yK,(List.drop (Int.toNat (List.length f:Int)) (List.take (List.length g) g))⟩,⟨(.fn n_Z40 (.cons (.ptr (.cons yI .nil)) .nil)),((e,()),())⟩]).bind fun r8=>(bif (decide (r8.1<(0:Int))) then(Z39.l0 R N n a b (0:Int) d (w64 (e+1)) f g) else(bif (decide (r8.1>(0:Int))) then((chk (decide (0≤(w64 ((List.length f:Int)+r8.1)))&&decide ((w64 ((List.length f:Int)+r8.1))<(List.length g:Int)))).bind fun _=>(Option.bind (g)[(Int.toNat (w64 ((List.length f:Int)+r8.1)))]? fun y16=>((chk (decide (0≤(List.length f:Int))&&decide ((List.length f:Int)<(List.length g:Int)))).bind fun _=>(Option.bind (g)[(Int.toNat (List.length f:Int))]? fun y17=>((chk (decide (0≤(List.length f:Int))&&decide ((List.length f:Int)<(List.length g:Int)))).bind fun _=>((chk (decide (0≤(w64 ((List.length f:Int)+r8.1)))&&decide ((w64 ((List.length f:Int)+r8.1))<(List.length (List.set g (Int.toNat (List.length f:Int)) y16):Int)))).bind fun _=>((qlP R n_Z73 o_Z73 [⟨yI,(w64 (0-c))⟩,⟨yI,b⟩]).bind fun r18=>(Z39.j1 R N n a b r18.1 (List.length f:Int) d e e f (List.set (List.set g (Int.toNat (List.length f:Int)) y16) (Int.toNat (w64 ((List.length f:Int)+r8.1))) y17))))))))) else(Z39.j1 R N n a b c (List.length f:Int) d e e f g))))) else some ⟨o_Z39,(f,c,g,())⟩):=(hw _ _).trans (by kernel_rfl)
theorem Z39.ev(R:Run)(N:Nat)(a0:vK)(a1 a2:Int):qsB E R sg_Z39 pol_Z39 F_Z39 N [⟨yK,a0⟩,⟨yI,a1⟩,⟨yI,a2⟩]=(Z39.l0 R N N a1 a2 (1:Int) a1 (0:Int) ([]:List Int) a0):=by kernel_rfl
def Z80.l1(R:Run)(N n:Nat)(a:List Int)(b e f g h:Int)(i j:List Int)(k:vK):Option Dv:=R.w (some ⟨(V.dead::(V.dead::(.c (.box 2 0)::(zd 3 (.c (.arr 76)::(zd 3 (.c (.arr 46)::(zd 36 (.c (.d yL a)::(.c (.d yI b)::(.c (.d yI e)::(zd 21 [])))))))))))),(none::(none::(some (.box [.d yI f,.d yI g,.d yI h,.d yL i] false false)::(zo 43 (some (.arr yI j true false false)::(zo 29 (some (.arr yL k false false false)::(none::[]))))))))⟩) fun st=>lC R pol_Z80 10 N [1,1,1,1,1,0,1,0,0] F_Z80 n st (kB R pol_Z80 2 (kS R pol_Z80 16 N [1,1,1,1,1,1] F_Z80 (qs6 E sg_Z80 F_Z80)))
def Z80.l0(R:Run)(N n:Nat)(a:List Int)(b e f g h:Int)(i:List Int)(j:vK):Option Dv:=R.w (some ⟨(V.dead::(.c (.d yL a)::(.c (.box 2 0)::(zd 3 (.c (.arr 76)::(zd 9 (.c (.d yI b)::(.c (.d yI e)::(zd 53 []))))))))),(none::(none::(some (.box [.d yI f,.d yI g,.d yI h,.d yL i] false false)::(zo 73 (some (.arr yL j true false false)::(none::[]))))))⟩) fun st=>lC R pol_Z80 3 N [1,1,0,1,0,0] F_Z80 n st (kB R pol_Z80 0 (kS R pol_Z80 7 N [1,1,1] F_Z80 (qs6 E sg_Z80 F_Z80)))
theorem Z80.l1_succ(R:Run)(hw:R.ok)(N n:Nat)(a:List Int)(b c d e f:Int)(g h:List Int)(i:vK):Z80.l1 R N (n+1) a b c d e f g h i=(bif (decide (c<b)) then((idx? a c).bind fun y39=>(bif ((y39,()).1==f) then some ⟨o_Z80,(([]:List Int),false,())⟩ else((chk (decide (0≤c)&&decide (c<(List.length i:Int)))).bind fun _=>(Option.bind (i)[(Int.toNat c)]? fun y40=>((idx? y40 f).bind fun y41=>((chk (decide (0≤(y39,()).1)&&decide ((y39,()).1<(List.length h:Int)))).bind fun _=>(Z80.l1 R N n a b (w64 (c+1)) d e f g (List.set h (Int.toNat (y39,()).1) (y41,()).1) i))))))) else some ⟨o_Z80,(h,true,())⟩):=(hw _ _).trans (by kernel_rfl)
theorem Z80.l0_succ(R:Run)(hw:R.ok)(N n:Nat)(a:List Int)(b c d e f:Int)(g:List Int)(h:vK):Z80.l0 R N (n+1) a b c d e f g h=(bif (decide (c<b)) then((chk (decide (0≤c)&&decide (c<(List.length h:Int)))).bind fun _=>((idx? a c).bind fun y10=>(qq2 (Option.bind (h)[(Int.toNat c)]? fun y11=>((chk (decide ((List.length y11+List.length [(y10,()).1])*8≤70368744177664))).bind fun _=>((chk (decide (0≤c)&&decide (c<(List.length h:Int)))).bind fun _=>((chk (decide ((Int.toNat c)=(Int.toNat c)))).bind fun _=>(Z80.l0 R N n a b (w64 (c+1)) d e f g (List.set h (Int.toNat c) (y11++[(y10,()).1]))))))) (Option.bind (h)[(Int.toNat c)]? fun y20=>((chk (decide ((List.length y20+List.length [(y10,()).1])*8≤70368744177664))).bind fun _=>((chk (decide (0≤c)&&decide (c<(List.length h:Int)))).bind fun _=>((chk (decide ((Int.toNat c)=(Int.toNat c)))).bind fun _=>(Z80.l0 R N n a b (w64 (c+1)) d e f g (List.set h (Int.toNat c) (y20++[(y10,()).1])))))))))) else((qlP R n_Z39 o_Z39 [⟨yK,h⟩,⟨yI,(w64 (f+1))⟩,⟨yI,d⟩]).bind fun r29=>((chk (decide (0≤f)&&decide (f*8≤70368744177664))).bind fun _=>(Z80.l1 R N N r29.1 (List.length r29.1:Int) (0:Int) d e f g (List.replicate (Int.toNat f) (0:Int)) r29.2.2.1)))):=(hw _ _).trans (by kernel_rfl)
theorem Z80.ev(R:Run)(N:Nat)(a0 a1 a2:Int)(a3 a4:List Int):qsB E R sg_Z80 pol_Z80 F_Z80 N [⟨yI,a0⟩,⟨yI,a1⟩,⟨yI,a2⟩,⟨yL,a3⟩,⟨yL,a4⟩]=((qlP R n_Z76 o_Z76 [⟨yI,a0⟩,⟨yI,a1⟩,⟨yI,a2⟩,⟨yL,a3⟩]).bind fun r1=>(Z80.l0 R N N a4 (List.length r1.1:Int) (0:Int) a0 a1 a2 a3 r1.1)):=by kernel_rfl
theorem Z5.ev(R:Run)(N:Nat)(a0:vK)(a1:Int)(a2:List Int)(a3:vN)(a4 a5:List Int):qsB E R sg_Z5 pol_Z5 F_Z5 N [⟨yK,a0⟩,⟨yI,a1⟩,⟨yL,a2⟩,⟨yN,a3⟩,⟨yL,a4⟩,⟨yL,a5⟩]=((qlP R n_Z65 o_Z65 [⟨yK,a0⟩,⟨yI,a1⟩,⟨yL,a2⟩,⟨yN,a3⟩,⟨yL,a4⟩,⟨yL,a5⟩]).bind fun r1=>(bif (r1.1 != (0:Int)) then some ⟨o_Z5,(([]:List Int),r1.1,())⟩ else((qlP R n_Z33 o_Z33 [⟨yK,a0⟩,⟨yI,a1⟩,⟨yL,a2⟩,⟨yN,a3⟩,⟨yL,a4⟩]).bind fun r2=>((qlP R n_Z81 o_Z81 [⟨yK,a0⟩,⟨yI,a1⟩,⟨yL,a2⟩,⟨yN,a3⟩,⟨yI,(1:Int)⟩]).bind fun r3=>((chk (decide (0≤r3.1)&&decide (r3.1*8≤70368744177664))).bind fun _=>((qlP R n_Z98 o_Z98 [⟨yK,[(List.replicate (Int.toNat r3.1) (0:Int)),a5]⟩]).bind fun r4=>((qlP R n_Z80 o_Z80 [⟨yI,r2.1⟩,⟨yI,r2.2.1⟩,⟨yI,r2.2.2.1⟩,⟨yL,r2.2.2.2.1⟩,⟨yL,r4.1⟩]).bind fun r5=>(bif (!r5.2.1) then some ⟨o_Z5,(([]:List Int),(3:Int),())⟩ else some ⟨o_Z5,(r5.1,(0:Int),())⟩)))))))):=by kernel_rfl
theorem Z59.ev(R:Run)(N:Nat)(a0:Int)(a1:((List Int)×Unit)):qsB E R sg_Z59 pol_Z59 F_Z59 N [⟨yI,a0⟩,⟨(.ptr (.cons yL .nil)),a1⟩]=((qlP R n_Z106 o_Z106 [⟨yL,a1.1⟩,⟨yI,a0⟩]).bind fun r1=>some ⟨o_Z59,((!r1.1),())⟩):=by kernel_rfl
def Z116.l0(R:Run)(N n:Nat)(a:List Int)(b:(((List Int)×Unit)×Unit))(e f:Int):Option Dv:=R.w (some ⟨(.c (.d yL a)::(.c (.d (.fn n_Z59 (.cons (.ptr (.cons yL .nil)) .nil)) b)::(zd 5 (.c (.d yI e)::(.c (.d yI f)::(zd 10 [])))))),(zo 21 [])⟩) fun st=>lC R pol_Z112 2 N [1,0,1,0,0] F_Z112 n st (kB R pol_Z112 0 (kS R pol_Z112 7 N [1,1] F_Z112 (qs6 E sg_Z112 F_Z112)))
theorem Z116.l0_succ(R:Run)(hw:R.ok)(N n:Nat)(a:List Int)(b:(((List Int)×Unit)×Unit))(c d:Int):Z116.l0 R N (n+1) a b c d=(bif (decide (d<c)) then((idx? a d).bind fun y5=>((qlP R n_Z59 o_Z59 [⟨yI,(y5,()).1⟩,⟨(.ptr (.cons yL .nil)),b.1⟩]).bind fun r6=>(bif r6.1 then some ⟨o_Z112,(d,())⟩ else(Z116.l0 R N n a b c (w64 (d+1)))))) else some ⟨o_Z112,((-1:Int),())⟩):=(hw _ _).trans (by kernel_rfl)
theorem Z116.ev(R:Run)(N:Nat)(a0:List Int)(a1:(((List Int)×Unit)×Unit)):qsB E R sg_Z112 pol_Z112 F_Z112 N [⟨yL,a0⟩,⟨(.fn n_Z59 (.cons (.ptr (.cons yL .nil)) .nil)),a1⟩]=(Z116.l0 R N N a0 a1 (List.length a0:Int) (0:Int)):=by kernel_rfl
theorem Z105.ev(R:Run)(N:Nat)(a0:List Int)(a1:(((List Int)×Unit)×Unit)):qsB E R sg_Z101 pol_Z101 F_Z101 N [⟨yL,a0⟩,⟨(.fn n_Z59 (.cons (.ptr (.cons yL .nil)) .nil)),a1⟩]=((qlP R n_Z112 o_Z112 [⟨yL,a0⟩,⟨(.fn n_Z59 (.cons (.ptr (.cons yL .nil)) .nil)),a1⟩]).bind fun r1=>some ⟨o_Z101,((decide (r1.1≥(0:Int))),())⟩):=by kernel_rfl
theorem Z58.ev(R:Run)(N:Nat)(a0 a1:List Int):qsB E R sg_Z58 pol_Z58 F_Z58 N [⟨yL,a0⟩,⟨yL,a1⟩]=((qlP R n_Z101 o_Z101 [⟨yL,a0⟩,⟨(.fn n_Z59 (.cons (.ptr (.cons yL .nil)) .nil)),((a1,()),())⟩]).bind fun r1=>some ⟨o_Z58,((!r1.1),())⟩):=by kernel_rfl
theorem Z35.ev(R:Run)(N:Nat)(a0:Int)(a1 a2:((List Int)×Unit))(a3:vS)(a4:((List Int)×Unit)):qsB E R sg_Z35 pol_Z35 F_Z35 N [⟨yI,a0⟩,⟨(.ptr (.cons yL .nil)),a1⟩,⟨(.ptr (.cons yL .nil)),a2⟩,⟨(.ptr yS),a3⟩,⟨(.ptr (.cons yL .nil)),a4⟩]=((idx? a2.1 a0).bind fun y1=>((idx? a2.1 a0).bind fun y2=>((idx? a4.1 a0).bind fun y3=>((idx? a3.2.2.1 (y3,()).1).bind fun y4=>((chk (decide (0≤(y1,()).1)&&decide ((y1,()).1≤(w64 ((y2,()).1+(y4,()).1)))&&decide ((w64 ((y2,()).1+(y4,()).1))≤(List.length a1.1:Int)))).bind fun _=>some ⟨o_Z35,((List.drop (Int.toNat (y1,()).1) (List.take (Int.toNat (w64 ((y2,()).1+(y4,()).1))) a1.1)),())⟩))))):=by kernel_rfl
def Z23.l0(R:Run)(N n:Nat)(a:List Int)(b e f g h:Int)(i j:List Int):Option Dv:=R.w (some ⟨(V.dead::(.c (.d yL a)::(.c (.box 2 0)::(V.dead::(V.dead::(.c (.arr 21)::(V.dead::(V.dead::(.c (.d yI b)::(.c (.d yI e)::(zd 14 []))))))))))),(none::(none::(some (.box [.d yI f,.d yI g,.d yI h,.d yL i] false false)::(zo 18 (some (.arr yI j true false false)::(zo 7 []))))))⟩) fun st=>lC R pol_Z23 3 N [1,1,0,1,0,0] F_Z23 n st (kB R pol_Z23 0 (kS R pol_Z23 7 N [1,1,1] F_Z23 (qs6 E sg_Z23 F_Z23)))
theorem Z23.l0_succ(R:Run)(hw:R.ok)(N n:Nat)(a:List Int)(b c d e f:Int)(g h:List Int):Z23.l0 R N (n+1) a b c d e f g h=(bif (decide (c<b)) then((qlP R n_Z12 o_Z12 [⟨yI,d⟩,⟨yI,e⟩,⟨yI,f⟩,⟨yL,g⟩,⟨yI,c⟩]).bind fun r9=>((qlP R n_Z38 o_Z38 [⟨yL,r9.1⟩,⟨yL,a⟩,⟨yI,d⟩]).bind fun r10=>((chk (decide ((List.length h+List.length [r10.1])*8≤70368744177664))).bind fun _=>(Z23.l0 R N n a b (w64 (c+1)) d e f g (h++[r10.1]))))) else some ⟨o_Z23,(h,())⟩):=(hw _ _).trans (by kernel_rfl)
theorem Z23.ev(R:Run)(N:Nat)(a0 a1 a2:Int)(a3 a4:List Int):qsB E R sg_Z23 pol_Z23 F_Z23 N [⟨yI,a0⟩,⟨yI,a1⟩,⟨yI,a2⟩,⟨yL,a3⟩,⟨yL,a4⟩]=(Z23.l0 R N N a4 a1 (0:Int) a0 a1 a2 a3 ([]:List Int)):=by kernel_rfl
def Z34.j2(R:Run)(N a b:Nat)(e:(((List Int)×Unit)×((List Int)×Unit)×vS×((List Int)×Unit)×Unit))(f g h i:Int)(j:List Int)(k l:Int)(m:List Int)(o p:Int)(q:Bool)(r:vK)(s:Int)(t:List Int)(u:vN)(v:List Int):Option Dv:=R.w (some ⟨(zd 3 (.c (.box 3 0)::(.c (.box 4 0)::(zd 6 (.c (.d (.fn n_Z35 (.cons (.ptr (.cons yL .nil)) (.cons (.ptr (.cons yL .nil)) (.cons (.ptr yS) (.cons (.ptr (.cons yL .nil)) .nil))))) e)::(.c (.d yI f)::(.c (.d yI g)::(.c (.d yI h)::(.c (.d yI i)::(zd 7 (.c (.d yL j)::(.c (.d yI k)::(.c (.d yI l)::(zd 4 (.c (.d yL m)::(.c (.d yI o)::(.c (.d yI p)::(zd 22 (.c (.d .bool q)::(zd 17 [])))))))))))))))))))),(zo 3 (some (.box [.d yK r,.d yI s,.d yL t,.d yN u] true false)::(some (.box [.d yL v] true false)::(zo 74 []))))⟩) fun st=>eC R pol_Z34 N [1,1,1,0,1,0,0,1,1,0,0,1,1,0,0,1,1,0,0,1,0,1] F_Z34 st (kS R pol_Z34 10 N [1,1,1,0,1,0,0,1,1,0,0,1,1,0,0,1,1,0,0,1,1] F_Z34 (kB R pol_Z34 3 (kS R pol_Z34 12 N [1,1,1,0,1,0,0,1,1,0,0,1,1,0,0,1,1,1] F_Z34 (kL R pol_Z34 7 N [1,1,1,0,1,0,0,1,1,0,0,1,1,0,0] F_Z34 b (kB R pol_Z34 2 (kB R pol_Z34 1 (kS R pol_Z34 13 N [1,1,1,0,1,0,0,1,1,1] F_Z34 (kL R pol_Z34 4 N [1,1,1,0,1,0,0] F_Z34 a (kB R pol_Z34 0 (q4_3 R N (qs6 E sg_Z34 F_Z34)))))))))))
def Z34.l1(R:Run)(N a n:Nat)(b:(((List Int)×Unit)×((List Int)×Unit)×vS×((List Int)×Unit)×Unit))(e f:Int)(g:List Int)(h i:Int)(j:List Int)(k l:Int)(m:vK)(o:Int)(p:List Int)(q:vN)(r:List Int):Option Dv:=R.w (some ⟨(zd 3 (.c (.box 3 0)::(.c (.box 4 0)::(zd 6 (.c (.d (.fn n_Z35 (.cons (.ptr (.cons yL .nil)) (.cons (.ptr (.cons yL .nil)) (.cons (.ptr yS) (.cons (.ptr (.cons yL .nil)) .nil))))) b)::(.c (.d yI e)::(.c (.d yI f)::(zd 9 (.c (.d yL g)::(.c (.d yI h)::(.c (.d yI i)::(zd 4 (.c (.d yL j)::(.c (.d yI k)::(.c (.d yI l)::(zd 40 [])))))))))))))))),(zo 3 (some (.box [.d yK m,.d yI o,.d yL p,.d yN q] true false)::(some (.box [.d yL r] true false)::(zo 74 []))))⟩) fun st=>lC R pol_Z34 7 N [1,1,1,0,1,0,0,1,1,0,0,1,1,0,0] F_Z34 n st (kB R pol_Z34 2 (kB R pol_Z34 1 (kS R pol_Z34 13 N [1,1,1,0,1,0,0,1,1,1] F_Z34 (kL R pol_Z34 4 N [1,1,1,0,1,0,0] F_Z34 a (kB R pol_Z34 0 (q4_3 R N (qs6 E sg_Z34 F_Z34)))))))
def Z34.l0(R:Run)(N n:Nat)(a:(((List Int)×Unit)×((List Int)×Unit)×vS×((List Int)×Unit)×Unit))(b:List Int)(e f:Int)(g:vK)(h:Int)(i:List Int)(j:vN)(k:List Int):Option Dv:=R.w (some ⟨(zd 3 (.c (.box 3 0)::(.c (.box 4 0)::(zd 6 (.c (.d (.fn n_Z35 (.cons (.ptr (.cons yL .nil)) (.cons (.ptr (.cons yL .nil)) (.cons (.ptr yS) (.cons (.ptr (.cons yL .nil)) .nil))))) a)::(zd 11 (.c (.d yL b)::(.c (.d yI e)::(.c (.d yI f)::(zd 47 [])))))))))),(zo 3 (some (.box [.d yK g,.d yI h,.d yL i,.d yN j] true false)::(some (.box [.d yL k] true false)::(zo 74 []))))⟩) fun st=>lC R pol_Z34 4 N [1,1,1,0,1,0,0] F_Z34 n st (kB R pol_Z34 0 (q4_3 R N (qs6 E sg_Z34 F_Z34)))
theorem Z34.j2_eq(R:Run)(hw:R.ok)(N a b:Nat)(c:(((List Int)×Unit)×((List Int)×Unit)×vS×((List Int)×Unit)×Unit))(d e f g:Int)(h:List Int)(i j:Int)(k:List Int)(l m:Int)(o:Bool)(p:vK)(q:Int)(r:List Int)(s:vN)(t:List Int):Z34.j2 R N a b c d e f g h i j k l m o p q r s t=(bif o then(Z34.l1 R N a b c d e h i j k l (w64 (m+1)) p q r s t) else((qlP R n_Z74 o_Z74 [⟨yK,p⟩,⟨yI,q⟩,⟨yL,r⟩,⟨yN,s⟩,⟨yI,g⟩,⟨yI,e⟩]).bind fun r58=>((qlP R n_Z35 o_Z35 [⟨yI,f⟩,⟨(.ptr (.cons yL .nil)),c.1⟩,⟨(.ptr (.cons yL .nil)),c.2.1⟩,⟨(.ptr yS),c.2.2.1⟩,⟨(.ptr (.cons yL .nil)),c.2.2.2.1⟩]).bind fun r59=>((qlP R n_Z23 o_Z23 [⟨yI,r58.1⟩,⟨yI,r58.2.1⟩,⟨yI,r58.2.2.1⟩,⟨yL,r58.2.2.2.1⟩,⟨yL,r59.1⟩]).bind fun r60=>((qlP R n_Z35 o_Z35 [⟨yI,d⟩,⟨(.ptr (.cons yL .nil)),c.1⟩,⟨(.ptr (.cons yL .nil)),c.2.1⟩,⟨(.ptr yS),c.2.2.1⟩,⟨(.ptr (.cons yL .nil)),c.2.2.2.1⟩]).bind fun r61=>((qlP R n_Z107 o_Z107 [⟨yL,r60.1⟩,⟨yL,r61.1⟩]).bind fun r62=>(bif (!r62.1) then some ⟨o_Z34,(g,e,true,())⟩ else(Z34.l1 R N a b c d e h i j k l (w64 (m+1)) p q r s t)))))))):=(hw _ _).trans (by kernel_rfl)
theorem Z34.l1_succ(R:Run)(hw:R.ok)(N a n:Nat)(b:(((List Int)×Unit)×((List Int)×Unit)×vS×((List Int)×Unit)×Unit))(c d:Int)(e:List Int)(f g:Int)(h:List Int)(i j:Int)(k:vK)(l:Int)(m:List Int)(o:vN)(p:List Int):Z34.l1 R N a (n+1) b c d e f g h i j k l m o p=(bif (decide (j<i)) then((idx? h j).bind fun y26=>(bif ((y26,()).1==d) then(Z34.j2 R N a n b c d j ((y26,()).1) e f g h i j true k l m o p) else((idx? k (y26,()).1).bind fun y77=>((idx? k d).bind fun y78=>((qlP R n_Z58 o_Z58 [⟨yL,(y77,()).1⟩,⟨yL,(y78,()).1⟩]).bind fun r79=>(Z34.j2 R N a n b c d j ((y26,()).1) e f g h i j (!r79.1) k l m o p)))))) else(Z34.l0 R N a b e f (w64 (g+1)) k l m o p)):=(hw _ _).trans (by kernel_rfl)
theorem Z34.l0_succ(R:Run)(hw:R.ok)(N n:Nat)(a:(((List Int)×Unit)×((List Int)×Unit)×vS×((List Int)×Unit)×Unit))(b:List Int)(c d:Int)(e:vK)(f:Int)(g:List Int)(h:vN)(i:List Int):Z34.l0 R N (n+1) a b c d e f g h i=(bif (decide (d<c)) then((idx? b d).bind fun y11=>(Z34.l1 R N n N a d ((y11,()).1) b c d i (List.length i:Int) (0:Int) e f g h i)) else some ⟨o_Z34,((0:Int),(0:Int),false,())⟩):=(hw _ _).trans (by kernel_rfl)
theorem Z34.ev(R:Run)(N:Nat)(a0:vK)(a1:Int)(a2:List Int)(a3:vN)(a4 a5:List Int):qsB E R sg_Z34 pol_Z34 F_Z34 N [⟨yK,a0⟩,⟨yI,a1⟩,⟨yL,a2⟩,⟨yN,a3⟩,⟨yL,a4⟩,⟨yL,a5⟩]=((qlP R n_Z68 o_Z68 [⟨yK,a0⟩,⟨yI,a1⟩,⟨yL,a2⟩,⟨yN,a3⟩,⟨yL,a4⟩]).bind fun r1=>(Z34.l0 R N N ((a5,()),(r1.1,()),(a0,a1,a2,a3,()),(a4,()),()) a4 (List.length a4:Int) (0:Int) a0 a1 a2 a3 a4)):=by kernel_rfl
theorem Z8.ev(R:Run)(N:Nat)(a0:vK)(a1:Int)(a2:List Int)(a3:vN)(a4 a5:List Int):qsB E R sg_Z8 pol_Z8 F_Z8 N [⟨yK,a0⟩,⟨yI,a1⟩,⟨yL,a2⟩,⟨yN,a3⟩,⟨yL,a4⟩,⟨yL,a5⟩]=((qlP R n_Z65 o_Z65 [⟨yK,a0⟩,⟨yI,a1⟩,⟨yL,a2⟩,⟨yN,a3⟩,⟨yL,a4⟩,⟨yL,a5⟩]).bind fun r1=>(bif (r1.1 != (0:Int)) then some ⟨o_Z8,((0:Int),(0:Int),r1.1,())⟩ else((qlP R n_Z34 o_Z34 [⟨yK,a0⟩,⟨yI,a1⟩,⟨yL,a2⟩,⟨yN,a3⟩,⟨yL,a4⟩,⟨yL,a5⟩]).bind fun r2=>(bif (!r2.2.2.1) then some ⟨o_Z8,((0:Int),(0:Int),(3:Int),())⟩ else some ⟨o_Z8,(r2.1,r2.2.1,(0:Int),())⟩)))):=by kernel_rfl
theorem Z9.ev(R:Run)(N:Nat)(a0:vK)(a1:Int)(a2:List Int)(a3:vN)(a4 a5:List Int):qsB E R sg_Z9 pol_Z9 F_Z9 N [⟨yK,a0⟩,⟨yI,a1⟩,⟨yL,a2⟩,⟨yN,a3⟩,⟨yL,a4⟩,⟨yL,a5⟩]=((qlP R n_Z65 o_Z65 [⟨yK,a0⟩,⟨yI,a1⟩,⟨yL,a2⟩,⟨yN,a3⟩,⟨yL,a4⟩,⟨yL,a5⟩]).bind fun r1=>(bif (r1.1 != (0:Int)) then some ⟨o_Z9,(false,())⟩ else((qlP R n_Z34 o_Z34 [⟨yK,a0⟩,⟨yI,a1⟩,⟨yL,a2⟩,⟨yN,a3⟩,⟨yL,a4⟩,⟨yL,a5⟩]).bind fun r2=>some ⟨o_Z9,((!r2.2.2.1),())⟩))):=by kernel_rfl
def Z93.l0(R:Run)(N n:Nat)(a b:List Int)(e:Int):Option Dv:=R.w (some ⟨(.c (.d yL a)::(.c (.d yL b)::(zd 3 (.c (.d yI e)::(zd 20 []))))),(zo 28 [])⟩) fun st=>lC R pol_Z93 4 N [1,1,0,1,0,0] F_Z93 n st (kB R pol_Z93 0 (kS R pol_Z93 8 N [1,1,1] F_Z93 (qs6 E sg_Z93 F_Z93)))
theorem Z93.l0_succ(R:Run)(hw:R.ok)(N n:Nat)(a b:List Int)(c:Int):Z93.l0 R N (n+1) a b c=(bif (decide (c<(List.length a:Int))) then((idx? a c).bind fun y4=>((idx? b c).bind fun y5=>(bif ((y4,()).1 != (y5,()).1) then some ⟨o_Z93,(false,())⟩ else(Z93.l0 R N n a b (w64 (c+1)))))) else some ⟨o_Z93,(true,())⟩):=(hw _ _).trans (by kernel_rfl)
theorem Z93.ev(R:Run)(N:Nat)(a0 a1:List Int):qsB E R sg_Z93 pol_Z93 F_Z93 N [⟨yL,a0⟩,⟨yL,a1⟩]=(bif ((List.length a0:Int) != (List.length a1:Int)) then some ⟨o_Z93,(false,())⟩ else(Z93.l0 R N N a0 a1 (0:Int))):=by kernel_rfl
def Z64.l1(R:Run)(N a n:Nat)(b:List Int)(e f g:Int)(h:List Int)(i j k l m:Int)(o p:List Int)(q r:vK):Option Dv:=R.w (some ⟨(V.dead::(.c (.box 1 0)::(V.dead::(.c (.arr 68)::(.c (.d yL b)::(V.dead::(.c (.arr 61)::(.c (.d yI e)::(.c (.arr 32)::(zd 14 (.c (.d yI f)::(.c (.d yI g)::(zd 11 (.c (.d yL h)::(.c (.d yI i)::(.c (.d yI j)::(zd 25 []))))))))))))))))),(none::(some (.box [.d yI k,.d yI l,.d yI m,.d yL o] false false)::(zo 30 (some (.arr yI p true false false)::(zo 28 (some (.arr yL q true false false)::(zo 6 (some (.arr yL r false false false)::[]))))))))⟩) fun st=>lC R pol_Z64 11 N [1,1,1,1,0,1,0,0,1,1,0,0,1,1,1,1,0,1,0,0] F_Z64 n st (kB R pol_Z64 2 (kS R pol_Z64 15 N [1,1,1,1,0,1,0,0,1,1,0,0,1,1,1,1,1] F_Z64 (kB R pol_Z64 1 (kS R pol_Z64 16 N [1,1,1,1,0,1,0,0,1,1,1] F_Z64 (kL R pol_Z64 5 N [1,1,1,1,0,1,0,0] F_Z64 a (kB R pol_Z64 0 (kS R pol_Z64 17 N [1,1,1,1,1] F_Z64 (qs6 E sg_Z64 F_Z64))))))))
def Z64.l0(R:Run)(N n:Nat)(a:List Int)(b e f g h:Int)(i:List Int)(j k:vK):Option Dv:=R.w (some ⟨(V.dead::(.c (.box 1 0)::(V.dead::(.c (.arr 68)::(.c (.d yL a)::(V.dead::(.c (.arr 61)::(zd 16 (.c (.d yI b)::(.c (.d yI e)::(zd 39 []))))))))))),(none::(some (.box [.d yI f,.d yI g,.d yI h,.d yL i] false false)::(zo 59 (some (.arr yL j true false false)::(zo 6 (some (.arr yL k false false false)::[]))))))⟩) fun st=>lC R pol_Z64 5 N [1,1,1,1,0,1,0,0] F_Z64 n st (kB R pol_Z64 0 (kS R pol_Z64 17 N [1,1,1,1,1] F_Z64 (qs6 E sg_Z64 F_Z64)))
theorem Z64.l1_succ(R:Run)(hw:R.ok)(N a n:Nat)(b:List Int)(c d e:Int)(f:List Int)(g h i j k:Int)(l m:List Int)(o p:vK):Z64.l1 R N a (n+1) b c d e f g h i j k l m o p=(bif (decide (h<g)) then((idx? f h).bind fun y36=>((chk (decide (0≤h)&&decide (h<(List.length p:Int)))).bind fun _=>(Option.bind (p)[(Int.toNat h)]? fun y37=>((idx? y37 c).bind fun y38=>((qlP R n_Z73 o_Z73 [⟨yI,(w64 (0-(y38,()).1))⟩,⟨yI,i⟩]).bind fun r39=>((chk (decide (0≤(y36,()).1)&&decide ((y36,()).1<(List.length m:Int)))).bind fun _=>(Z64.l1 R N a n b c d e f g (w64 (h+1)) i j k l (List.set m (Int.toNat (y36,()).1) r39.1) o p))))))) else((chk (decide ((List.length o+List.length [m])*24≤70368744177664))).bind fun _=>(Z64.l0 R N a b d (w64 (e+1)) i j k l (o++[m]) p))):=(hw _ _).trans (by kernel_rfl)
theorem Z64.l0_succ(R:Run)(hw:R.ok)(N n:Nat)(a:List Int)(b c d e f:Int)(g:List Int)(h i:vK):Z64.l0 R N (n+1) a b c d e f g h i=(bif (decide (c<b)) then((qlP R n_Z106 o_Z106 [⟨yL,a⟩,⟨yI,c⟩]).bind fun r12=>(bif r12.1 then(Z64.l0 R N n a b (w64 (c+1)) d e f g h i) else((chk (decide (0≤f)&&decide (f*8≤70368744177664))).bind fun _=>((chk (decide (0≤c)&&decide (c<(List.length (List.replicate (Int.toNat f) (0:Int)):Int)))).bind fun _=>(Z64.l1 R N n N a c b c a (List.length a:Int) (0:Int) d e f g (List.set (List.replicate (Int.toNat f) (0:Int)) (Int.toNat c) (1:Int)) h i))))) else some ⟨o_Z64,(h,())⟩):=(hw _ _).trans (by kernel_rfl)
theorem Z64.ev(R:Run)(N:Nat)(a0 a1 a2:Int)(a3:List Int):qsB E R sg_Z64 pol_Z64 F_Z64 N [⟨yI,a0⟩,⟨yI,a1⟩,⟨yI,a2⟩,⟨yL,a3⟩]=((qlP R n_Z76 o_Z76 [⟨yI,a0⟩,⟨yI,a1⟩,⟨yI,a2⟩,⟨yL,a3⟩]).bind fun r1=>((qlP R n_Z39 o_Z39 [⟨yK,r1.1⟩,⟨yI,a2⟩,⟨yI,a0⟩]).bind fun r2=>(Z64.l0 R N N r2.1 a2 (0:Int) a0 a1 a2 a3 ([]:List (List Int)) r2.2.2.1))):=by kernel_rfl
theorem Z52.ev(R:Run)(N:Nat)(a0:vK)(a1:Int)(a2:List Int)(a3:vN)(a4:List Int):qsB E R sg_Z52 pol_Z52 F_Z52 N [⟨yK,a0⟩,⟨yI,a1⟩,⟨yL,a2⟩,⟨yN,a3⟩,⟨yL,a4⟩]=((qlP R n_Z33 o_Z33 [⟨yK,a0⟩,⟨yI,a1⟩,⟨yL,a2⟩,⟨yN,a3⟩,⟨yL,a4⟩]).bind fun r1=>((qlP R n_Z64 o_Z64 [⟨yI,r1.1⟩,⟨yI,r1.2.1⟩,⟨yI,r1.2.2.1⟩,⟨yL,r1.2.2.2.1⟩]).bind fun r2=>((qlP R n_Z78 o_Z78 [⟨yK,r2.1⟩]).bind fun r3=>some ⟨o_Z52,(r3.1,())⟩))):=by kernel_rfl
theorem Z6.ev(R:Run)(N:Nat)(a0:vK)(a1:Int)(a2:List Int)(a3:vN)(a4:List Int):qsB E R sg_Z6 pol_Z6 F_Z6 N [⟨yK,a0⟩,⟨yI,a1⟩,⟨yL,a2⟩,⟨yN,a3⟩,⟨yL,a4⟩]=((qlP R n_Z69 o_Z69 [⟨yK,a0⟩,⟨yI,a1⟩,⟨yL,a2⟩,⟨yN,a3⟩,⟨yL,a4⟩]).bind fun r1=>(bif (r1.1 != (0:Int)) then some ⟨o_Z6,((0:Int),r1.1,())⟩ else((qlP R n_Z52 o_Z52 [⟨yK,a0⟩,⟨yI,a1⟩,⟨yL,a2⟩,⟨yN,a3⟩,⟨yL,a4⟩]).bind fun r2=>some ⟨o_Z6,(r2.1,(0:Int),())⟩))):=by kernel_rfl
theorem Z121.ev(R:Run)(N:Nat)(a0:vK)(a1:Int)(a2:List Int)(a3:vN):qsB E R sg_Z121 pol_Z121 F_Z121 N [⟨yK,a0⟩,⟨yI,a1⟩,⟨yL,a2⟩,⟨yN,a3⟩]=((qlP R n_Z177 o_Z177 [⟨(.ptr yS),(a0,a1,a2,a3,())⟩]).bind fun r1=>(bif (!r1.1) then some ⟨o_Z121,(([]:List (List Int)),(1:Int),())⟩ else((qlP R n_Z187 o_Z187 [⟨(.ptr yS),(a0,a1,a2,a3,())⟩]).bind fun r2=>((qlP R n_Z189 o_Z189 [⟨(.ptr yS),(a0,a1,a2,a3,())⟩]).bind fun r3=>((qlP R n_Z195 o_Z195 [⟨yI,a1⟩,⟨yI,r2.1⟩,⟨yK,r3.1⟩]).bind fun r4=>some ⟨o_Z121,(r4.1,(0:Int),())⟩))))):=by kernel_rfl
theorem Z120.ev(R:Run)(N:Nat)(a0:List Int):qsB E R sg_Z120 pol_Z120 F_Z120 N [⟨(.sl (.int .u8)),a0⟩]=((qlP R n_Z125 o_Z125 [⟨(.sl (.int .u8)),a0⟩]).bind fun r1=>((qlP R n_Z169 o_Z169 [⟨(.ptr yR),(r1.1.1,r1.1.2.1,r1.1.2.2.1,())⟩]).bind fun r2=>((qlP R n_Z133 o_Z133 [⟨(.ptr yR),(r2.2.2.2.2.1.1,r2.2.2.2.2.1.2.1,r2.2.2.2.2.1.2.2.1,())⟩,⟨yL,[(1:Int),(5:Int),(40:Int),(200:Int),(20000:Int),(0:Int),(20001:Int)]⟩]).bind fun r3=>some ⟨o_Z120,(r2.1,r2.2.1,r2.2.2.1,r2.2.2.2.1,r3.1,())⟩))):=by kernel_rfl
theorem Z56.ev(R:Run)(N:Nat)(a0:Int):qsB E R sg_Z56 pol_Z56 F_Z56 N [⟨yI,a0⟩]=((qlP R n_Z87 o_Z87 [⟨yI,a0⟩,⟨yI,(1:Int)⟩,⟨yI,(20000:Int)⟩]).bind fun r1=>some ⟨o_Z56,(r1.1,())⟩):=by kernel_rfl
def Z86.l0(R:Run)(N n:Nat)(a:vK)(b e:Int)(f:List Int):Option Dv:=R.w (some ⟨(zd 3 (.c (.arr 21)::(zd 3 (.c (.d yK a)::(.c (.d yI b)::(.c (.d yI e)::(zd 14 []))))))),(zo 21 (some (.arr yI f true false false)::(zo 3 [])))⟩) fun st=>lC R pol_Z86 3 N [1,1,0,1,0,0] F_Z86 n st (kB R pol_Z86 0 (kS R pol_Z86 8 N [1,1,1] F_Z86 (qs6 E sg_Z86 F_Z86)))
theorem Z86.l0_succ(R:Run)(hw:R.ok)(N n:Nat)(a:vK)(b c:Int)(d:List Int):Z86.l0 R N (n+1) a b c d=(bif (decide (c<b)) then((idx? a c).bind fun y5=>(bif ((List.length (y5,()).1:Int)==(1:Int)) then((idx? (y5,()).1 (0:Int)).bind fun y6=>((chk (decide ((List.length d+List.length [(y6,()).1])*8≤70368744177664))).bind fun _=>(Z86.l0 R N n a b (w64 (c+1)) (d++[(y6,()).1])))) else(Z86.l0 R N n a b (w64 (c+1)) d))) else some ⟨o_Z86,(d,())⟩):=(hw _ _).trans (by kernel_rfl)
theorem Z86.ev(R:Run)(N:Nat)(a0:vK):qsB E R sg_Z86 pol_Z86 F_Z86 N [⟨yK,a0⟩]=(Z86.l0 R N N a0 (List.length a0:Int) (0:Int) ([]:List Int)):=by kernel_rfl
def Z48.l0(R:Run)(N n:Nat)(a b:Int)(e:List Int):Option Dv:=R.w (some ⟨(zd 3 (.c (.arr 12)::(V.dead::(.c (.d yI a)::(.c (.d yI b)::(zd 8 [])))))),(zo 12 (some (.arr yI e true false false)::(zo 3 [])))⟩) fun st=>lC R pol_Z48 3 N [1,1,0,1,0,0] F_Z48 n st (kB R pol_Z48 0 (kS R pol_Z48 7 N [1,1,1] F_Z48 (qs6 E sg_Z48 F_Z48)))
theorem Z48.l0_succ(R:Run)(hw:R.ok)(N n:Nat)(a b:Int)(c:List Int):Z48.l0 R N (n+1) a b c=(bif (decide (b<a)) then((chk (decide ((List.length c+List.length [b])*8≤70368744177664))).bind fun _=>(Z48.l0 R N n a (w64 (b+1)) (c++[b]))) else some ⟨o_Z48,(c,())⟩):=(hw _ _).trans (by kernel_rfl)
theorem Z48.ev(R:Run)(N:Nat)(a0:Int):qsB E R sg_Z48 pol_Z48 F_Z48 N [⟨yI,a0⟩]=(Z48.l0 R N N a0 (0:Int) ([]:List Int)):=by kernel_rfl
theorem Z36.ev(R:Run)(N:Nat)(a0:(Int×Bool×Unit)):qsB E R sg_Z36 pol_Z36 F_Z36 N [⟨(.ptr (.cons yI (.cons .bool .nil))),a0⟩]=(bif (a0.1==(0:Int)) then some ⟨o_Z36,(false,(a0.1,true,()),())⟩ else some ⟨o_Z36,(true,((w64 (a0.1-(1:Int))),a0.2.1,()),())⟩):=by kernel_rfl
def Z67.l1(R:Run)(N a n:Nat)(b:List Int)(e f g:Int)(h:List Int):Option Dv:=R.w (some ⟨(.c (.d yL b)::(zd 5 (.c (.d yI e)::(.c (.d yI f)::(.c (.arr 51)::(.c (.d yI g)::(zd 39 []))))))),(zo 51 (some (.arr yI h true false false)::[]))⟩) fun st=>lC R pol_Z67 8 N [1,1,0,1,0,0,1,0,0,1,0,1,0,1,0,0] F_Z67 n st (kB R pol_Z67 2 (kS R pol_Z67 11 N [1,1,0,1,0,0,1,0,0,1,0,1,1] F_Z67 (kB R pol_Z67 1 (kS R pol_Z67 4 N [1,1,0,1,0,0,1,1] F_Z67 (kL R pol_Z67 3 N [1,1,0,1,0,0] F_Z67 a (kB R pol_Z67 0 (kS R pol_Z67 12 N [1,1,1] F_Z67 (qs6 E sg_Z67 F_Z67))))))))
def Z67.l0(R:Run)(N n:Nat)(a:List Int)(b e f:Int):Option Dv:=R.w (some ⟨(.c (.d yL a)::(.c (.d yI b)::(zd 4 (.c (.d yI e)::(.c (.d yI f)::(zd 41 [])))))),(zo 52 [])⟩) fun st=>lC R pol_Z67 3 N [1,1,0,1,0,0] F_Z67 n st (kB R pol_Z67 0 (kS R pol_Z67 12 N [1,1,1] F_Z67 (qs6 E sg_Z67 F_Z67)))
theorem Z67.l1_succ(R:Run)(hw:R.ok)(N a n:Nat)(b:List Int)(c d e:Int)(f:List Int):Z67.l1 R N a (n+1) b c d e f=(bif (decide (e<c)) then((idx? b d).bind fun y13=>((chk (decide (0≤e)&&decide (e<(List.length f:Int)))).bind fun _=>(Z67.l1 R N a n b c d (w64 (e+1)) (List.set f (Int.toNat e) (w64 ((w64 ((w64 ((y13,()).1+(1:Int)))+e))-d)))))) else some ⟨o_Z67,(f,true,())⟩):=(hw _ _).trans (by kernel_rfl)
theorem Z67.l0_succ(R:Run)(hw:R.ok)(N n:Nat)(a:List Int)(b c d:Int):Z67.l0 R N (n+1) a b c d=(bif (decide (d≥(0:Int))) then((idx? a d).bind fun y6=>(bif (decide ((y6,()).1<(w64 ((w64 (b-c))+d)))) then((qlP R n_Z96 o_Z96 [⟨yL,a⟩]).bind fun r7=>(Z67.l1 R N n N a c d d r7.1)) else(Z67.l0 R N n a b c (w64 (d-1))))) else some ⟨o_Z67,(([]:List Int),false,())⟩):=(hw _ _).trans (by kernel_rfl)
theorem Z67.ev(R:Run)(N:Nat)(a0:List Int)(a1:Int):qsB E R sg_Z67 pol_Z67 F_Z67 N [⟨yL,a0⟩,⟨yI,a1⟩]=((qlP R n_Z79 o_Z79 [⟨yL,a0⟩]).bind fun r1=>(Z67.l0 R N N a0 a1 r1.1 (w64 (r1.1-(1:Int))))):=by kernel_rfl
def Z7.l1(R:Run)(N a n:Nat)(b:Int)(e:List Int)(f:Bool)(g h:Int)(i:vK)(j:Int)(k:List Int)(l:vN)(m:Int)(o:Bool):Option Dv:=R.w (some ⟨(V.dead::(V.dead::(.c (.box 2 0)::(zd 3 (.c (.box 6 0)::(.c (.d yI b)::(V.dead::(.c (.d yL e)::(.c (.d .bool f)::(zd 13 (.c (.d yI g)::(.c (.d yI h)::(zd 19 []))))))))))))),(none::(none::(some (.box [.d yK i,.d yI j,.d yL k,.d yN l] false false)::(zo 3 (some (.box [.d yI m,.d .bool o] false false)::(zo 44 []))))))⟩) fun st=>lC R pol_Z7 11 N [1,1,1,1,1,0,1,0,0,1,1,0,0,1,1,0,0] F_Z7 n st (kB R pol_Z7 2 (kB R pol_Z7 1 (kS R pol_Z7 17 N [1,1,1,1,1,0,1,0,0,1,1,1] F_Z7 (kL R pol_Z7 8 N [1,1,1,1,1,0,1,0,0] F_Z7 a (kB R pol_Z7 0 (kS R pol_Z7 18 N [1,1,1,1,1,1] F_Z7 (qs6 E sg_Z7 F_Z7)))))))
def Z7.l0(R:Run)(N n:Nat)(a b e:Int)(f:vK)(g:Int)(h:List Int)(i:vN)(j:Int)(k:Bool):Option Dv:=R.w (some ⟨(V.dead::(V.dead::(.c (.box 2 0)::(zd 3 (.c (.box 6 0)::(.c (.d yI a)::(zd 16 (.c (.d yI b)::(.c (.d yI e)::(zd 19 [])))))))))),(none::(none::(some (.box [.d yK f,.d yI g,.d yL h,.d yN i] false false)::(zo 3 (some (.box [.d yI j,.d .bool k] false false)::(zo 44 []))))))⟩) fun st=>lC R pol_Z7 8 N [1,1,1,1,1,0,1,0,0] F_Z7 n st (kB R pol_Z7 0 (kS R pol_Z7 18 N [1,1,1,1,1,1] F_Z7 (qs6 E sg_Z7 F_Z7)))
theorem Z7.l1_succ(R:Run)(hw:R.ok)(N a n:Nat)(b:Int)(c:List Int)(d:Bool)(e f:Int)(g:vK)(h:Int)(i:List Int)(j:vN)(k:Int)(l:Bool):Z7.l1 R N a (n+1) b c d e f g h i j k l=(bif d then((qlP R n_Z36 o_Z36 [⟨(.ptr (.cons yI (.cons .bool .nil))),(k,l,())⟩]).bind fun r26=>(bif (!r26.1) then some ⟨o_Z7,(([]:List Int),(5:Int),())⟩ else((qlP R n_Z52 o_Z52 [⟨yK,g⟩,⟨yI,h⟩,⟨yL,i⟩,⟨yN,j⟩,⟨yL,c⟩]).bind fun r27=>(bif (r27.1==(0:Int)) then some ⟨o_Z7,(c,(0:Int),())⟩ else((qlP R n_Z67 o_Z67 [⟨yL,c⟩,⟨yI,b⟩]).bind fun r28=>(Z7.l1 R N a n b r28.1 r28.2.1 e f g h i j r26.2.1.1 r26.2.1.2.1)))))) else(Z7.l0 R N a b e (w64 (f+1)) g h i j k l)):=(hw _ _).trans (by kernel_rfl)
theorem Z7.l0_succ(R:Run)(hw:R.ok)(N n:Nat)(a b c:Int)(d:vK)(e:Int)(f:List Int)(g:vN)(h:Int)(i:Bool):Z7.l0 R N (n+1) a b c d e f g h i=(bif (decide (c<b)) then((qlP R n_Z48 o_Z48 [⟨yI,c⟩]).bind fun r14=>(Z7.l1 R N n N a r14.1 true b c d e f g h i)) else some ⟨o_Z7,(([]:List Int),(3:Int),())⟩):=(hw _ _).trans (by kernel_rfl)
theorem Z7.ev(R:Run)(N:Nat)(a0:vK)(a1:Int)(a2:List Int)(a3:vN)(a4:Int):qsB E R sg_Z7 pol_Z7 F_Z7 N [⟨yK,a0⟩,⟨yI,a1⟩,⟨yL,a2⟩,⟨yN,a3⟩,⟨yI,a4⟩]=((qlP R n_Z10 o_Z10 [⟨yK,a0⟩,⟨yI,a1⟩,⟨yL,a2⟩,⟨yN,a3⟩]).bind fun r1=>(bif (!r1.1) then some ⟨o_Z7,(([]:List Int),(1:Int),())⟩ else((qlP R n_Z56 o_Z56 [⟨yI,a4⟩]).bind fun r2=>(bif (!r2.1) then some ⟨o_Z7,(([]:List Int),(2:Int),())⟩ else((qlP R n_Z86 o_Z86 [⟨yK,a0⟩]).bind fun r3=>((qlP R n_Z79 o_Z79 [⟨yL,r3.1⟩]).bind fun r4=>(Z7.l0 R N N r4.1 (w64 (r4.1+(1:Int))) (0:Int) a0 a1 a2 a3 a4 false))))))):=by kernel_rfl
def Z91.j8(R:Run)(N a:Nat)(b:List Int)(e:Int)(f:Bool)(g:vK)(h:Int)(i:List Int)(j:vN):Option Dv:=R.w (some ⟨(zd 21 (.c (.box 21 0)::(V.dead::(.c (.d yL b)::(zd 3 (.c (.d yI e)::(zd 175 (.c (.d .bool f)::[])))))))),(zo 21 (some (.box [.d yK g,.d yI h,.d yL i,.d yN j] false false)::(zo 184 [])))⟩) fun st=>eC R pol_Z91 N [1,1,1,1,1,1,1,1,1,1,1,1,0,1,0,0,1,0,0,1,1,1,1] F_Z91 st (kB R pol_Z91 1 (q4_4 R N (q4_7 R N a (kB R pol_Z91 0 (q4_5 R N (qs6 E sg_Z91 F_Z91))))))
def Z91.l7(R:Run)(N a n:Nat)(b:List Int)(e f:Int)(g:vK)(h:Int)(i:List Int)(j:vN)(k:List Int):Option Dv:=R.w (some ⟨(zd 21 (.c (.box 21 0)::(V.dead::(.c (.d yL b)::(zd 3 (.c (.d yI e)::(.c (.arr 175)::(.c (.d yI f)::(zd 174 []))))))))),(zo 21 (some (.box [.d yK g,.d yI h,.d yL i,.d yN j] false false)::(zo 153 (some (.arr yI k true false false)::(zo 30 [])))))⟩) fun st=>lC R pol_Z91 29 N [1,1,1,1,1,1,1,1,1,1,1,1,0,1,0,0,1,0,0,1,0,1,0,0] F_Z91 n st (kB R pol_Z91 2 (kS R pol_Z91 33 N [1,1,1,1,1,1,1,1,1,1,1,1,0,1,0,0,1,0,0,1,1] F_Z91 (kB R pol_Z91 1 (q4_4 R N (q4_7 R N a (kB R pol_Z91 0 (q4_5 R N (qs6 E sg_Z91 F_Z91))))))))
def Z91.l6(R:Run)(N n:Nat)(a:List Int)(b:Int)(e:vK)(f:Int)(g:List Int)(h:vN):Option Dv:=R.w (some ⟨(zd 21 (.c (.box 21 0)::(V.dead::(.c (.d yL a)::(zd 3 (.c (.d yI b)::(zd 176 []))))))),(zo 21 (some (.box [.d yK e,.d yI f,.d yL g,.d yN h] false false)::(zo 184 [])))⟩) fun st=>lC R pol_Z91 25 N [1,1,1,1,1,1,1,1,1,1,1,1,0,1,0,0] F_Z91 n st (kB R pol_Z91 0 (q4_5 R N (qs6 E sg_Z91 F_Z91)))
def Z91.j5(R:Run)(N:Nat)(a:List Int)(b:Bool)(e:vK)(f:Int)(g:List Int)(h:vN):Option Dv:=R.w (some ⟨(zd 21 (.c (.box 21 0)::(V.dead::(.c (.d yL a)::(zd 144 (.c (.d .bool b)::(zd 35 []))))))),(zo 21 (some (.box [.d yK e,.d yI f,.d yL g,.d yN h] false false)::(zo 184 [])))⟩) fun st=>eC R pol_Z91 N [1,1,1,1,1,1,1,1,1,1,1,0,1] F_Z91 st (kS R pol_Z91 24 N [1,1,1,1,1,1,1,1,1,1,1,1] F_Z91 (qs6 E sg_Z91 F_Z91))
def Z91.j4(R:Run)(N:Nat)(a:List Int):Option Dv:=R.w (some ⟨(V.dead::(.c (.d (.sl (.int .u8)) a)::(zd 202 []))),(zo 206 [])⟩) fun st=>eC R pol_Z91 N [1,1,1,1,1,1,1] F_Z91 st (qs6 E sg_Z91 F_Z91)
def Z91.j3(R:Run)(N:Nat)(a:List Int)(b:Bool):Option Dv:=R.w (some ⟨(V.dead::(.c (.d (.sl (.int .u8)) a)::(zd 138 (.c (.d .bool b)::(zd 63 []))))),(zo 206 [])⟩) fun st=>eC R pol_Z91 N [1,1,1,1,1,1,0,1,0,1,1,1,1,1,1] F_Z91 st (kS R pol_Z91 17 N [1,1,1,1,1,1,1] F_Z91 (qs6 E sg_Z91 F_Z91))
def Z91.j2(R:Run)(N:Nat)(a b:List Int)(e:Bool)(f:vK)(g:Int)(h:List Int)(i:vN):Option Dv:=R.w (some ⟨(V.dead::(.c (.d (.sl (.int .u8)) a)::(zd 3 (.c (.box 5 0)::(.c (.d yL b)::(zd 91 (.c (.d .bool e)::(zd 105 [])))))))),(zo 5 (some (.box [.d yK f,.d yI g,.d yL h,.d yN i] false false)::(zo 200 [])))⟩) fun st=>eC R pol_Z91 N [1,1,1,1,1,1,0,1,0,1,0,1] F_Z91 st (kS R pol_Z91 12 N [1,1,1,1,1,1,0,1,0,1,1] F_Z91 (kS R pol_Z91 17 N [1,1,1,1,1,1,1] F_Z91 (qs6 E sg_Z91 F_Z91)))
def Z91.j1(R:Run)(N:Nat)(a b e f:List Int)(g h:Int)(i:Bool)(j:vK)(k:Int)(l:List Int)(m:vN):Option Dv:=R.w (some ⟨(V.dead::(.c (.d (.sl (.int .u8)) a)::(zd 3 (.c (.box 5 0)::(.c (.d yL b)::(.c (.d yL e)::(.c (.d yL f)::(.c (.d yI g)::(V.dead::(V.dead::(.c (.d yI h)::(zd 57 (.c (.d .bool i)::(zd 133 [])))))))))))))),(zo 5 (some (.box [.d yK j,.d yI k,.d yL l,.d yN m] false false)::(zo 200 [])))⟩) fun st=>eC R pol_Z91 N [1,1,1,1,1,0,1] F_Z91 st (kS R pol_Z91 8 N [1,1,1,1,1,1] F_Z91 (qs6 E sg_Z91 F_Z91))
def Z91.j0(R:Run)(N:Nat)(a b:List Int)(e:Bool):Option Dv:=R.w (some ⟨(.c (.d (.sl (.int .u8)) a)::(.c (.d (.sl (.int .u8)) b)::(zd 35 (.c (.d .bool e)::(zd 166 []))))),(zo 206 [])⟩) fun st=>eC R pol_Z91 N [1,0,1] F_Z91 st (kS R pol_Z91 3 N [1,1] F_Z91 (qs6 E sg_Z91 F_Z91))
theorem Z91.j8_eq(R:Run)(hw:R.ok)(N a:Nat)(b:List Int)(c:Int)(d:Bool)(e:vK)(f:Int)(g:List Int)(h:vN):Z91.j8 R N a b c d e f g h=(bif d then some ⟨o_Z91,(false,())⟩ else(Z91.l6 R N a b (w64 (c+1)) e f g h)):=(hw _ _).trans (by kernel_rfl)
theorem Z91.l7_succ(R:Run)(hw:R.ok)(N a n:Nat)(b:List Int)(c d:Int)(e:vK)(f:Int)(g:List Int)(h:vN)(i:List Int):Z91.l7 R N a (n+1) b c d e f g h i=(bif (decide (d<(List.length b:Int))) then(bif (d != c) then((idx? b d).bind fun y56=>((chk (decide ((List.length i+List.length [(y56,()).1])*8≤70368744177664))).bind fun _=>(Z91.l7 R N a n b c (w64 (d+1)) e f g h (i++[(y56,()).1])))) else(Z91.l7 R N a n b c (w64 (d+1)) e f g h i)) else((qlP R n_Z6 o_Z6 [⟨yK,e⟩,⟨yI,f⟩,⟨yL,g⟩,⟨yN,h⟩,⟨yL,i⟩]).bind fun r73=>(bif (r73.2.1 != (0:Int)) then(Z91.j8 R N a b c true e f g h) else(Z91.j8 R N a b c (r73.1==(0:Int)) e f g h)))):=(hw _ _).trans (by kernel_rfl)
theorem Z91.l6_succ(R:Run)(hw:R.ok)(N n:Nat)(a:List Int)(b:Int)(c:vK)(d:Int)(e:List Int)(f:vN):Z91.l6 R N (n+1) a b c d e f=(bif (decide (b<(List.length a:Int))) then(Z91.l7 R N n N a b (0:Int) c d e f ([]:List Int)) else some ⟨o_Z91,(true,())⟩):=(hw _ _).trans (by kernel_rfl)
theorem Z91.j5_eq(R:Run)(hw:R.ok)(N:Nat)(a:List Int)(b:Bool)(c:vK)(d:Int)(e:List Int)(f:vN):Z91.j5 R N a b c d e f=(bif b then some ⟨o_Z91,(false,())⟩ else(Z91.l6 R N N a (0:Int) c d e f)):=(hw _ _).trans (by kernel_rfl)
theorem Z91.j4_eq(R:Run)(hw:R.ok)(N:Nat)(a:List Int):Z91.j4 R N a=((qlP R n_Z120 o_Z120 [⟨(.sl (.int .u8)),a⟩]).bind fun r33=>((qlP R n_Z7 o_Z7 [⟨yK,r33.1⟩,⟨yI,r33.2.1⟩,⟨yL,r33.2.2.1⟩,⟨yN,r33.2.2.2.1⟩,⟨yI,r33.2.2.2.2.1⟩]).bind fun r34=>(bif (r34.2.1 != (0:Int)) then some ⟨o_Z91,(((List.length r34.1:Int)==(0:Int)),())⟩ else((qlP R n_Z6 o_Z6 [⟨yK,r33.1⟩,⟨yI,r33.2.1⟩,⟨yL,r33.2.2.1⟩,⟨yN,r33.2.2.2.1⟩,⟨yL,r34.1⟩]).bind fun r35=>(bif (r35.2.1 != (0:Int)) then(Z91.j5 R N r34.1 true r33.1 r33.2.1 r33.2.2.1 r33.2.2.2.1) else(Z91.j5 R N r34.1 (r35.1 != (0:Int)) r33.1 r33.2.1 r33.2.2.1 r33.2.2.2.1)))))):=(hw _ _).trans (by kernel_rfl)
theorem Z91.j3_eq(R:Run)(hw:R.ok)(N:Nat)(a:List Int)(b:Bool):Z91.j3 R N a b=(bif b then some ⟨o_Z91,(false,())⟩ else(Z91.j4 R N a)):=(hw _ _).trans (by kernel_rfl)
theorem Z91.j2_eq(R:Run)(hw:R.ok)(N:Nat)(a b:List Int)(c:Bool)(d:vK)(e:Int)(f:List Int)(g:vN):Z91.j2 R N a b c d e f g=(bif c then some ⟨o_Z91,(false,())⟩ else((qlP R n_Z6 o_Z6 [⟨yK,d⟩,⟨yI,e⟩,⟨yL,f⟩,⟨yN,g⟩,⟨yL,b⟩]).bind fun r27=>((qlP R n_Z6 o_Z6 [⟨yK,d⟩,⟨yI,e⟩,⟨yL,f⟩,⟨yN,g⟩,⟨yL,([]:List Int)⟩]).bind fun r28=>((qlP R n_Z121 o_Z121 [⟨yK,d⟩,⟨yI,e⟩,⟨yL,f⟩,⟨yN,g⟩]).bind fun r29=>(bif (r27.2.1 != (0:Int)) then(Z91.j3 R N a true) else(bif (r28.2.1 != (0:Int)) then(Z91.j3 R N a true) else(bif (r29.2.1 != (0:Int)) then(Z91.j3 R N a true) else(bif (decide (r27.1<(0:Int))) then(Z91.j3 R N a true) else(bif (decide (r27.1>r28.1)) then(Z91.j3 R N a true) else(Z91.j3 R N a (r28.1 != (List.length r29.1:Int)))))))))))):=(hw _ _).trans (by kernel_rfl)
theorem Z91.j1_eq(R:Run)(hw:R.ok)(N:Nat)(a b c d:List Int)(e f:Int)(g:Bool)(h:vK)(i:Int)(j:List Int)(k:vN):Z91.j1 R N a b c d e f g h i j k=(bif g then some ⟨o_Z91,(false,())⟩ else(bif (e==(0:Int)) then((qlP R n_Z124 o_Z124 [⟨yK,h⟩,⟨yI,i⟩,⟨yL,j⟩,⟨yN,k⟩,⟨yL,d⟩,⟨yL,b⟩]).bind fun r19=>(bif (r19.2.1 != (0:Int)) then(Z91.j2 R N a b true h i j k) else((qlP R n_Z93 o_Z93 [⟨yL,r19.1⟩,⟨yL,c⟩]).bind fun r110=>(bif (!r110.1) then(Z91.j2 R N a b true h i j k) else(bif (f != (3:Int)) then(Z91.j2 R N a b true h i j k) else((qlP R n_Z9 o_Z9 [⟨yK,h⟩,⟨yI,i⟩,⟨yL,j⟩,⟨yN,k⟩,⟨yL,b⟩,⟨yL,c⟩]).bind fun r125=>(Z91.j2 R N a b (!r125.1) h i j k))))))) else(Z91.j4 R N a))):=(hw _ _).trans (by kernel_rfl)
theorem Z91.j0_eq(R:Run)(hw:R.ok)(N:Nat)(a b:List Int)(c:Bool):Z91.j0 R N a b c=(bif c then some ⟨o_Z91,(true,())⟩ else((qlP R n_Z119 o_Z119 [⟨(.sl (.int .u8)),a⟩]).bind fun r5=>((qlP R n_Z5 o_Z5 [⟨yK,r5.1⟩,⟨yI,r5.2.1⟩,⟨yL,r5.2.2.1⟩,⟨yN,r5.2.2.2.1⟩,⟨yL,r5.2.2.2.2.1⟩,⟨yL,r5.2.2.2.2.2.1⟩]).bind fun r6=>((qlP R n_Z8 o_Z8 [⟨yK,r5.1⟩,⟨yI,r5.2.1⟩,⟨yL,r5.2.2.1⟩,⟨yN,r5.2.2.2.1⟩,⟨yL,r5.2.2.2.2.1⟩,⟨yL,r5.2.2.2.2.2.1⟩]).bind fun r7=>(bif (r7.2.2.1==(0:Int)) then(bif (r6.2.1 != (3:Int)) then(Z91.j1 R N b r5.2.2.2.2.1 r5.2.2.2.2.2.1 r6.1 r6.2.1 r7.2.2.1 true r5.1 r5.2.1 r5.2.2.1 r5.2.2.2.1) else((qlP R n_Z9 o_Z9 [⟨yK,r5.1⟩,⟨yI,r5.2.1⟩,⟨yL,r5.2.2.1⟩,⟨yN,r5.2.2.2.1⟩,⟨yL,r5.2.2.2.2.1⟩,⟨yL,r5.2.2.2.2.2.1⟩]).bind fun r134=>(Z91.j1 R N b r5.2.2.2.2.1 r5.2.2.2.2.2.1 r6.1 r6.2.1 r7.2.2.1 r134.1 r5.1 r5.2.1 r5.2.2.1 r5.2.2.2.1))) else(Z91.j1 R N b r5.2.2.2.2.1 r5.2.2.2.2.2.1 r6.1 r6.2.1 r7.2.2.1 false r5.1 r5.2.1 r5.2.2.1 r5.2.2.2.1)))))):=(hw _ _).trans (by kernel_rfl)
theorem Z91.ev(R:Run)(N:Nat)(a0 a1:List Int):qsB E R sg_Z91 pol_Z91 F_Z91 N [⟨(.sl (.int .u8)),a0⟩,⟨(.sl (.int .u8)),a1⟩]=((qlP R n_Z92 o_Z92 [⟨(.sl (.int .u8)),a0⟩]).bind fun r1=>(bif r1.1 then(Z91.j0 R N a0 a1 true) else((qlP R n_Z92 o_Z92 [⟨(.sl (.int .u8)),a1⟩]).bind fun r157=>(Z91.j0 R N a0 a1 r157.1)))):=by kernel_rfl
end
end VeT


namespace VeT
section
open Go Go.Proofs Go.RowKit Go.Lib
set_option maxHeartbeats 2000000 in
set_option maxRecDepth 100000 in
theorem qmb(base:Option Addr)(l c n:Nat)(w:World)(hlc:l≤c)(hc63:c≤9223372036854775807)(hn63:n≤9223372036854775807)(hroom:l+n≤c) :
  Calls Tryz.prog 285 #[.slice base l c,.int .i64 n] w fun e w'=>e=.returned (.slice base l c)∧w'=w:=by
 have h1:¬ ((n:Int)<0):=by omega
 have h2:wrap64 ((c:Int)-(l:Int))=(c:Int)-(l:Int):=by unfold wrap64;omega
 have h3:wrap64 ((n:Int)-((c:Int)-(l:Int)))=(n:Int)-((c:Int)-(l:Int)):=by unfold wrap64;omega
 have h4:¬ ((n:Int)-((c:Int)-(l:Int))>0):=by omega
 go_enter Tryz.func285,Tryz.ntmps285
 go_wp2
 go_ret
 exact⟨rfl,rfl⟩
set_option maxHeartbeats 4000000 in
set_option maxRecDepth 100000 in
theorem qlL(i0:TypeInfo)(z:Value)(hi0:Tryz.prog.info? 2=some i0)(hz0:i0.zero=some z)(hs0:0<i0.size)
    (base:Option Addr) (l c n:Nat) (cs:List Value) (w:World) (hlc:l≤c) (hroom:c<l+n) (hbig:(l+n)*i0.bytes≤140737488355328) (h63:l+n≤4611686018427387904)
    (hcl:cs.length=c*i0.size) (hnil:base=none→c=0) (hcs:∀ a,base=some a→∀(j:Nat) v,cs[j]? = some v→w.cell? (a.add j)=some v) :
    Calls Tryz.prog 285 #[.slice base l c,.int .i64 n] w fun e w' =>
      e=.returned (.slice (some ⟨w.heap.size,0,none⟩) l (grownCap w (l+n) c 2)) ∧
      w'=w.drew.alloc (.cells (cs.toArray++Builtin.zeroCells z.cells (l+n-c)++Builtin.zeroCells z.cells (grownCap w (l+n) c 2-(l+n))) 2):=by
  have h1:¬ ((n:Int)<0):=by omega
  have h2:wrap64 ((c:Int)-(l:Int))=(c:Int)-(l:Int):=by unfold wrap64;omega
  have h3:wrap64 ((n:Int)-((c:Int)-(l:Int)))=(n:Int)-((c:Int)-(l:Int)):=by unfold wrap64;omega
  have h4:(n:Int)-((c:Int)-(l:Int))>0:=by omega
  have z25:∀ w,(Go.sizeOf 2).run Tryz.prog w=.ok i0.size w:=fun w=>by simp[Go.sizeOf,typeInfo,hi0]
  have hck:c+(l+n-c)=l+n:=by omega
  have hold:(Builtin.firstCells i0.size c (.slice base c c)).run Tryz.prog w.drew=.ok cs.toArray w.drew:=by
    cases base with
    | none =>
      have h0:=hnil rfl
      subst h0
      have hc0:cs=[]:=zaW.1 (by simpa using hcl)
      rw[hc0]
      exact run_firstCells_none w.drew i0.size 0 0 0
    | some a=>exact run_firstCells_some w.drew i0.size c a c c cs hcl (fun j v hj=>hcs a rfl j v hj)
  have hrz:∀ ty,(Builtin.append_ #[27,3] ty #[.slice base c c,.int .i64 ((n:Int)-((c:Int)-(l:Int)))]).run Tryz.prog w =
      .ok (.slice (some ⟨w.heap.size,0,none⟩) (l+n) (grownCap w (l+n) c 2)) (w.drew.alloc (.cells (cs.toArray++Builtin.zeroCells z.cells (l+n-c)++Builtin.zeroCells z.cells (grownCap w (l+n) c 2-(l+n))) 2)):=fun ty=>by
    have h:=Lib.run_append_grow_zeros w 27 3 ty 2 i0 z .i64 .i64 Tryz.underlying27 Tryz.underlying3 hi0 hz0 base c c cs hold (l+n-c) (by omega) hs0 (by omega) (by omega)
      (by have:(l+n-c)*i0.bytes≤(l+n)*i0.bytes:=zaq _ (by omega)
          omega)
      (by rw[hck];exact growslice_fits hroom hbig)
    rw[hck] at h
    rw[show(n:Int)-((c:Int)-(l:Int))=((l+n-c:Nat):Int) by omega]
    exact h
  have hGn:l+n≤grownCap w (l+n) c 2:=grownCap_ge w _ _ _
  obtain⟨G,hG⟩:∃ G,G=grownCap w (l+n) c 2:=⟨_,rfl⟩
  rw[← hG] at hrz hGn ⊢
  have hG63:G≤9223372036854775807:=by
    have:=grownCap_le_maxLen w (l+n) c 2 (by unfold maxLen;omega)
    rw[← hG] at this
    unfold maxLen at this
    omega
  clear hold hck hG hcs hcl
  go_enter Tryz.func285,Tryz.ntmps285
  cases base with
  | none =>
    have h0:=hnil rfl
    subst h0
    obtain rfl:l=0:=by omega
    go_wp2_with (at_builtin;refine Lib.wpList_append_run _ rfl _ _ _ _ rfl _ _ rfl rfl _ _ (hrz _) ?_)
    all_goals (go_ret;exact⟨rfl,rfl⟩)
  | some a =>
    obtain⟨ab,ao,asp⟩:=a
    go_wp2_with (at_builtin;refine Lib.wpList_append_run _ rfl _ _ _ _ rfl _ _ rfl rfl _ _ (hrz _) ?_)
    all_goals (go_ret;exact⟨rfl,rfl⟩)
theorem qlf:(Tryz.prog.info? 2).any (fun i=>i.size==Ve.Ty.size yI&&i.zero.any (fun z=>z.cells.size==Ve.Ty.size yI)&&decide (i.bytes≤64*Ve.Ty.size yI)&&decide (0<i.bytes)&&decide (0<Ve.Ty.size yI))=true:=by kernel_rfl
open Ve in
theorem qhF(R:Run){args:List Dv}{dv:Dv}(h:qn0 yI R args=some dv) :
  qds Tryz.prog ⟨[(false,1),(false,1)],[.take true,.imm],.cons yL .nil,[(false,1)],[.deep],[]⟩ 285 args dv:=by
 have hi:=qlf
 cases hi0:Tryz.prog.info? 2 with
 | none=>rw[hi0] at hi;cases hi
 | some i0 =>
  rw[hi0] at hi
  simp only[Option.any_some,zah,decide_eq_true_eq,beq_iff_eq] at hi
  obtain⟨⟨⟨⟨h1,h2⟩,h3⟩,h4⟩,h5⟩:=hi
  cases hz:i0.zero with
  | none=>rw[hz] at h2;cases h2
  | some z =>
   rw[hz] at h2
   exact qkz h1 (by simpa using h2) h5 h3 h4 qmb (fun base l c n cs w a1 a2 a3 a4 a5 a6 a7=>qlL i0 z hi0 hz (by rw[h1];exact h5) base l c n cs w a1 a2 a3 a4 a5 a6 a7) R h
end
section
open Go Ve
theorem qqy:primL=(List.range 378).map fun i=>bif Nat.beq i 285 then some (qn0 yI) else none:=by kernel_rfl
theorem qsz:∀ f p,E.prim f=some p→∀ r,qi2 E (mkR r)→∀ args dv sg,E.sig f=some sg→p (mkR r) args=some dv→qds E.P sg f args dv:=by
 intro f p hp r hr args dv sg hsg h
 have hp:primL.getD f none=some p:=hp
 rw[qqy,zaa,zaD] at hp
 by_cases hf:f<378
 ·rw[zbg hf] at hp
  simp only[zbO,zcr] at hp
  by_cases h285:f=285
  ·subst h285
   obtain rfl:(qn0 yI)=p:=zad hp
   obtain rfl:sg_Z108=sg:=zad (sig_slices_Grow_Sint64_int64_eq.symm.trans hsg)
   exact qhF _ h
  rw[show Nat.beq f 285=false from zbM.2 fun h=>h285 (Nat.eq_of_beq_eq_true h),cond_false] at hp
  cases hp
 ·rw[zaw (by simpa using hf)] at hp
  cases hp
end
end VeT
open Go Go.Proofs Ve
namespace VeT
end VeT
open Go Go.Proofs Ve
namespace VeT
theorem qbi(s:List (List Int))(c:((vK×Unit)×(Int×Unit)×Unit))(p:(List Int)→Bool)(hs:s.length≤1048576)(hp:∀ x∈s,Ret E n_Z15 [⟨yL,x⟩,⟨(.ptr yC),c.1⟩,⟨(.ptr (.cons yI .nil)),c.2.1⟩] ⟨o_Z15,(p x,())⟩) :
    Ret E n_Z109 [⟨yK,s⟩,⟨(.fn n_Z15 (.cons (.ptr yC) (.cons (.ptr (.cons yI .nil)) .nil))),c⟩] ⟨o_Z109,(qjz p s,())⟩:=by
  obtain⟨o,h1,h2,h3⟩:=qb4 1 (L:=fun φ n k=>Z110.l0 (mkR (run E (φ 0))) (φ 0) n s c (s.length:Int) k) (len:=s.length) (fun k=>∃ h:k<s.length,p s[k]=true) (fun o=>some ⟨o_Z109,(o2i o,())⟩) (fun _ _ _ _=>rfl) (fun k hk hP=>by
      obtain⟨_,hP⟩:=hP
      simp only[Z110.l0_succ _ qae]
      refine qax (zac (by omega)) (qab (qak hk) (qaa (hp _ (zaj hk)) (qax hP qal)))) (fun k q hk hP ih=>by
      simp only[Z110.l0_succ _ qae]
      refine qax (zac (by omega)) (qab (qak hk) (qaa (hp _ (zaj hk)) (qaB (zbM.2 fun h=>hP ⟨hk,h⟩) ?_)))
      rw[qad (by omega)];exact ih) (by
      simp only[Z110.l0_succ _ qae]
      exact qaB (zae (by omega)) qal)
  rw[qdI h1 h2] at h3
  refine qai ?_
  simp only[run_Z109,Z110.ev]
  exact Ev.start (p:=fun φ n=>Z110.l0 (mkR (run E (φ 0))) (φ 0) n s c (s.length:Int) 0=_) 1 h3 (fun _ _ _ h=>h)
theorem qbv(s:List (List Int))(c:((Int×Unit)×Unit))(p:(List Int)→Bool)(hs:s.length≤1048576)(hp:∀ x∈s,Ret E n_Z40 [⟨yL,x⟩,⟨(.ptr (.cons yI .nil)),c.1⟩] ⟨o_Z40,(p x,())⟩) :
    Ret E n_Z109 [⟨yK,s⟩,⟨(.fn n_Z40 (.cons (.ptr (.cons yI .nil)) .nil)),c⟩] ⟨o_Z109,(qjz p s,())⟩:=by
  obtain⟨o,h1,h2,h3⟩:=qb4 1 (L:=fun φ n k=>Z111.l0 (mkR (run E (φ 0))) (φ 0) n s c (s.length:Int) k) (len:=s.length) (fun k=>∃ h:k<s.length,p s[k]=true) (fun o=>some ⟨o_Z109,(o2i o,())⟩) (fun _ _ _ _=>rfl) (fun k hk hP=>by
      obtain⟨_,hP⟩:=hP
      simp only[Z111.l0_succ _ qae]
      refine qax (zac (by omega)) (qab (qak hk) (qaa (hp _ (zaj hk)) (qax hP qal)))) (fun k q hk hP ih=>by
      simp only[Z111.l0_succ _ qae]
      refine qax (zac (by omega)) (qab (qak hk) (qaa (hp _ (zaj hk)) (qaB (zbM.2 fun h=>hP ⟨hk,h⟩) ?_)))
      rw[qad (by omega)];exact ih) (by
      simp only[Z111.l0_succ _ qae]
      exact qaB (zae (by omega)) qal)
  rw[qdI h1 h2] at h3
  refine qai ?_
  simp only[run_Z109,Z111.ev]
  exact Ev.start (p:=fun φ n=>Z111.l0 (mkR (run E (φ 0))) (φ 0) n s c (s.length:Int) 0=_) 1 h3 (fun _ _ _ h=>h)
theorem qbp(s:List Int)(p:Int→Bool)(hs:s.length≤1048576)(hp:∀ x∈s,Ret E n_Z20 [⟨yI,x⟩] ⟨o_Z20,(p x,())⟩) :
    Ret E n_Z112 [⟨yL,s⟩,⟨(.fn n_Z20 .nil),()⟩] ⟨o_Z112,(qjz p s,())⟩:=by
  obtain⟨o,h1,h2,h3⟩:=qb4 1 (L:=fun φ n k=>Z113.l0 (mkR (run E (φ 0))) (φ 0) n s (s.length:Int) k) (len:=s.length) (fun k=>∃ h:k<s.length,p s[k]=true) (fun o=>some ⟨o_Z112,(o2i o,())⟩) (fun _ _ _ _=>rfl) (fun k hk hP=>by
      obtain⟨_,hP⟩:=hP
      simp only[Z113.l0_succ _ qae]
      refine qax (zac (by omega)) (qab (qak hk) (qaa (hp _ (zaj hk)) (qax hP qal)))) (fun k q hk hP ih=>by
      simp only[Z113.l0_succ _ qae]
      refine qax (zac (by omega)) (qab (qak hk) (qaa (hp _ (zaj hk)) (qaB (zbM.2 fun h=>hP ⟨hk,h⟩) ?_)))
      rw[qad (by omega)];exact ih) (by
      simp only[Z113.l0_succ _ qae]
      exact qaB (zae (by omega)) qal)
  rw[qdI h1 h2] at h3
  refine qai ?_
  simp only[run_Z112,Z113.ev]
  exact Ev.start (p:=fun φ n=>Z113.l0 (mkR (run E (φ 0))) (φ 0) n s (s.length:Int) 0=_) 1 h3 (fun _ _ _ h=>h)
theorem qbw(s:List Int)(c:((Int×Unit)×Unit))(p:Int→Bool)(hs:s.length≤1048576)(hp:∀ x∈s,Ret E n_Z25 [⟨yI,x⟩,⟨(.ptr (.cons yI .nil)),c.1⟩] ⟨o_Z25,(p x,())⟩) :
    Ret E n_Z112 [⟨yL,s⟩,⟨(.fn n_Z25 (.cons (.ptr (.cons yI .nil)) .nil)),c⟩] ⟨o_Z112,(qjz p s,())⟩:=by
  obtain⟨o,h1,h2,h3⟩:=qb4 1 (L:=fun φ n k=>Z114.l0 (mkR (run E (φ 0))) (φ 0) n s c (s.length:Int) k) (len:=s.length) (fun k=>∃ h:k<s.length,p s[k]=true) (fun o=>some ⟨o_Z112,(o2i o,())⟩) (fun _ _ _ _=>rfl) (fun k hk hP=>by
      obtain⟨_,hP⟩:=hP
      simp only[Z114.l0_succ _ qae]
      refine qax (zac (by omega)) (qab (qak hk) (qaa (hp _ (zaj hk)) (qax hP qal)))) (fun k q hk hP ih=>by
      simp only[Z114.l0_succ _ qae]
      refine qax (zac (by omega)) (qab (qak hk) (qaa (hp _ (zaj hk)) (qaB (zbM.2 fun h=>hP ⟨hk,h⟩) ?_)))
      rw[qad (by omega)];exact ih) (by
      simp only[Z114.l0_succ _ qae]
      exact qaB (zae (by omega)) qal)
  rw[qdI h1 h2] at h3
  refine qai ?_
  simp only[run_Z112,Z114.ev]
  exact Ev.start (p:=fun φ n=>Z114.l0 (mkR (run E (φ 0))) (φ 0) n s c (s.length:Int) 0=_) 1 h3 (fun _ _ _ h=>h)
theorem qbB(s:List Int)(p:Int→Bool)(hs:s.length≤1048576)(hp:∀ x∈s,Ret E n_Z28 [⟨yI,x⟩] ⟨o_Z28,(p x,())⟩) :
    Ret E n_Z112 [⟨yL,s⟩,⟨(.fn n_Z28 .nil),()⟩] ⟨o_Z112,(qjz p s,())⟩:=by
  obtain⟨o,h1,h2,h3⟩:=qb4 1 (L:=fun φ n k=>Z115.l0 (mkR (run E (φ 0))) (φ 0) n s (s.length:Int) k) (len:=s.length) (fun k=>∃ h:k<s.length,p s[k]=true) (fun o=>some ⟨o_Z112,(o2i o,())⟩) (fun _ _ _ _=>rfl) (fun k hk hP=>by
      obtain⟨_,hP⟩:=hP
      simp only[Z115.l0_succ _ qae]
      refine qax (zac (by omega)) (qab (qak hk) (qaa (hp _ (zaj hk)) (qax hP qal)))) (fun k q hk hP ih=>by
      simp only[Z115.l0_succ _ qae]
      refine qax (zac (by omega)) (qab (qak hk) (qaa (hp _ (zaj hk)) (qaB (zbM.2 fun h=>hP ⟨hk,h⟩) ?_)))
      rw[qad (by omega)];exact ih) (by
      simp only[Z115.l0_succ _ qae]
      exact qaB (zae (by omega)) qal)
  rw[qdI h1 h2] at h3
  refine qai ?_
  simp only[run_Z112,Z115.ev]
  exact Ev.start (p:=fun φ n=>Z115.l0 (mkR (run E (φ 0))) (φ 0) n s (s.length:Int) 0=_) 1 h3 (fun _ _ _ h=>h)
theorem qbL(s:List Int)(c:(((List Int)×Unit)×Unit))(p:Int→Bool)(hs:s.length≤1048576)(hp:∀ x∈s,Ret E n_Z59 [⟨yI,x⟩,⟨(.ptr (.cons yL .nil)),c.1⟩] ⟨o_Z59,(p x,())⟩) :
    Ret E n_Z112 [⟨yL,s⟩,⟨(.fn n_Z59 (.cons (.ptr (.cons yL .nil)) .nil)),c⟩] ⟨o_Z112,(qjz p s,())⟩:=by
  obtain⟨o,h1,h2,h3⟩:=qb4 1 (L:=fun φ n k=>Z116.l0 (mkR (run E (φ 0))) (φ 0) n s c (s.length:Int) k) (len:=s.length) (fun k=>∃ h:k<s.length,p s[k]=true) (fun o=>some ⟨o_Z112,(o2i o,())⟩) (fun _ _ _ _=>rfl) (fun k hk hP=>by
      obtain⟨_,hP⟩:=hP
      simp only[Z116.l0_succ _ qae]
      refine qax (zac (by omega)) (qab (qak hk) (qaa (hp _ (zaj hk)) (qax hP qal)))) (fun k q hk hP ih=>by
      simp only[Z116.l0_succ _ qae]
      refine qax (zac (by omega)) (qab (qak hk) (qaa (hp _ (zaj hk)) (qaB (zbM.2 fun h=>hP ⟨hk,h⟩) ?_)))
      rw[qad (by omega)];exact ih) (by
      simp only[Z116.l0_succ _ qae]
      exact qaB (zae (by omega)) qal)
  rw[qdI h1 h2] at h3
  refine qai ?_
  simp only[run_Z112,Z116.ev]
  exact Ev.start (p:=fun φ n=>Z116.l0 (mkR (run E (φ 0))) (φ 0) n s c (s.length:Int) 0=_) 1 h3 (fun _ _ _ h=>h)
theorem qbz(s:List Int)(c:(((List Int)×Unit)×Unit))(p:Int→Bool)(hs:s.length≤1048576)(hp:∀ x∈s,Ret E n_Z75 [⟨yI,x⟩,⟨(.ptr (.cons yL .nil)),c.1⟩] ⟨o_Z75,(p x,())⟩) :
    Ret E n_Z112 [⟨yL,s⟩,⟨(.fn n_Z75 (.cons (.ptr (.cons yL .nil)) .nil)),c⟩] ⟨o_Z112,(qjz p s,())⟩:=by
  obtain⟨o,h1,h2,h3⟩:=qb4 1 (L:=fun φ n k=>Z117.l0 (mkR (run E (φ 0))) (φ 0) n s c (s.length:Int) k) (len:=s.length) (fun k=>∃ h:k<s.length,p s[k]=true) (fun o=>some ⟨o_Z112,(o2i o,())⟩) (fun _ _ _ _=>rfl) (fun k hk hP=>by
      obtain⟨_,hP⟩:=hP
      simp only[Z117.l0_succ _ qae]
      refine qax (zac (by omega)) (qab (qak hk) (qaa (hp _ (zaj hk)) (qax hP qal)))) (fun k q hk hP ih=>by
      simp only[Z117.l0_succ _ qae]
      refine qax (zac (by omega)) (qab (qak hk) (qaa (hp _ (zaj hk)) (qaB (zbM.2 fun h=>hP ⟨hk,h⟩) ?_)))
      rw[qad (by omega)];exact ih) (by
      simp only[Z117.l0_succ _ qae]
      exact qaB (zae (by omega)) qal)
  rw[qdI h1 h2] at h3
  refine qai ?_
  simp only[run_Z112,Z117.ev]
  exact Ev.start (p:=fun φ n=>Z117.l0 (mkR (run E (φ 0))) (φ 0) n s c (s.length:Int) 0=_) 1 h3 (fun _ _ _ h=>h)
theorem qbc(s:List (List Int))(c:((vK×Unit)×(Int×Unit)×Unit))(p:(List Int)→Bool)(hs:s.length≤1048576)(hp:∀ x∈s,Ret E n_Z15 [⟨yL,x⟩,⟨(.ptr yC),c.1⟩,⟨(.ptr (.cons yI .nil)),c.2.1⟩] ⟨o_Z15,(p x,())⟩) :
  Ret E n_Z99 [⟨yK,s⟩,⟨(.fn n_Z15 (.cons (.ptr yC) (.cons (.ptr (.cons yI .nil)) .nil))),c⟩] ⟨o_Z99,(pb (∃ x∈s,p x=true),())⟩:=by
 refine qai ?_
 simp only[run_Z99,Z100.ev]
 refine qaa (qbi s c p hs hp) (qah ?_)
 simp only[ge_iff_le,qfn,qaN qcb]
theorem qbg(s:List Int)(p:Int→Bool)(hs:s.length≤1048576)(hp:∀ x∈s,Ret E n_Z20 [⟨yI,x⟩] ⟨o_Z20,(p x,())⟩) :
  Ret E n_Z101 [⟨yL,s⟩,⟨(.fn n_Z20 .nil),()⟩] ⟨o_Z101,(pb (∃ x∈s,p x=true),())⟩:=by
 refine qai ?_
 simp only[run_Z101,Z102.ev]
 refine qaa (qbp s p hs hp) (qah ?_)
 simp only[ge_iff_le,qfn,qaN qcb]
theorem qbj(s:List Int)(c:((Int×Unit)×Unit))(p:Int→Bool)(hs:s.length≤1048576)(hp:∀ x∈s,Ret E n_Z25 [⟨yI,x⟩,⟨(.ptr (.cons yI .nil)),c.1⟩] ⟨o_Z25,(p x,())⟩) :
  Ret E n_Z101 [⟨yL,s⟩,⟨(.fn n_Z25 (.cons (.ptr (.cons yI .nil)) .nil)),c⟩] ⟨o_Z101,(pb (∃ x∈s,p x=true),())⟩:=by
 refine qai ?_
 simp only[run_Z101,Z103.ev]
 refine qaa (qbw s c p hs hp) (qah ?_)
 simp only[ge_iff_le,qfn,qaN qcb]
theorem qbo(s:List Int)(p:Int→Bool)(hs:s.length≤1048576)(hp:∀ x∈s,Ret E n_Z28 [⟨yI,x⟩] ⟨o_Z28,(p x,())⟩) :
  Ret E n_Z101 [⟨yL,s⟩,⟨(.fn n_Z28 .nil),()⟩] ⟨o_Z101,(pb (∃ x∈s,p x=true),())⟩:=by
 refine qai ?_
 simp only[run_Z101,Z104.ev]
 refine qaa (qbB s p hs hp) (qah ?_)
 simp only[ge_iff_le,qfn,qaN qcb]
theorem qbE(s:List Int)(c:(((List Int)×Unit)×Unit))(p:Int→Bool)(hs:s.length≤1048576)(hp:∀ x∈s,Ret E n_Z59 [⟨yI,x⟩,⟨(.ptr (.cons yL .nil)),c.1⟩] ⟨o_Z59,(p x,())⟩) :
  Ret E n_Z101 [⟨yL,s⟩,⟨(.fn n_Z59 (.cons (.ptr (.cons yL .nil)) .nil)),c⟩] ⟨o_Z101,(pb (∃ x∈s,p x=true),())⟩:=by
 refine qai ?_
 simp only[run_Z101,Z105.ev]
 refine qaa (qbL s c p hs hp) (qah ?_)
 simp only[ge_iff_le,qfn,qaN qcb]
theorem qdi(p:Int)(R C:Nat)(c:(vM×Unit))(f:Nat→Nat→Int)(hR:R≤1048576)(hC:C≤1048576)(hRC:R*C≤1048576)(hf:∀ i j:Nat,i<R→j<C→Ret E n_Z83 [⟨yI,(i:Int)⟩,⟨yI,(j:Int)⟩,⟨(.ptr yM),c.1⟩] ⟨o_Z83,(f i j,())⟩) :
  Ret E n_Z43 [⟨yI,p⟩,⟨yI,(R:Int)⟩,⟨yI,(C:Int)⟩,⟨(.fn n_Z83 (.cons (.ptr yM) .nil)),c⟩] ⟨o_Z43,(p,(R:Int),(C:Int),qar f C R,())⟩:=by
 refine qai ?_
 simp only[run_Z43,Z45.ev]
 refine Ev.start (p:=fun φ n=>Z45.l0 (mkR (run E (φ 0))) (φ 0) n (C:Int) c (R:Int) 0 0 0 0 p (R:Int) (C:Int) []=_) 1 ?_ (fun _ _ _ h=>h)
 refine qam 1 (L:=fun φ n k a=>Z45.l0 (mkR (run E (φ 0))) (φ 0) n (C:Int) c (R:Int) k 0 0 0 p (R:Int) (C:Int) a) (len:=R) (fun k=>qar f C k) (fun _ _ _ _ _=>rfl) (fun k r hk ih=>?_) ?_
 ·simp only[Z45.l0_succ _ qae]
  refine qax (zac (by omega)) ?_
  refine Ev.start (p:=fun φ n=>Z45.l1 (mkR (run E (φ 0))) (φ 0) (φ 1) n (C:Int) c (k:Int) (R:Int) (k:Int) (C:Int) 0 0 0 0 p (R:Int) (C:Int) (qar f C k)=_) 2 ?_ (fun _ _ _ h=>h)
  have hle:(k+1)*C≤R*C:=zaq _ hk
  rw[zar] at hle
  have:=qam 2 (L:=fun φ n j a=>Z45.l1 (mkR (run E (φ 0))) (φ 0) (φ 1) n (C:Int) c (k:Int) (R:Int) (k:Int) (C:Int) j 0 0 0 p (R:Int) (C:Int) a) (len:=C) (fun j=>qar f C k++(List.range j).map (f k)) (r:=r) (fun _ _ _ _ _=>rfl) (fun j r hj ih=>?_) ?_
  ·simpa using this
  ·simp only[Z45.l1_succ _ qae]
   rw[zaA,zat,← zaF] at ih
   refine qax (zac (by omega)) (qaa (hf k j hk hj) (qao (by simp[qas];omega) ?_))
   rw[qad (by omega)];exact ih
  ·simp only[Z45.l1_succ _ qae]
   refine qaB (zae (by omega)) ?_
   rw[qad (by omega)];exact ih
 ·simp only[Z45.l0_succ _ qae]
  exact qaB (zae (by omega)) qal
theorem qdJ(p:Int)(R C:Nat)(c:(vM×(vK×Unit)×Unit))(f:Nat→Nat→Int)(hR:R≤1048576)(hC:C≤1048576)(hRC:R*C≤1048576)(hf:∀ i j:Nat,i<R→j<C→Ret E n_Z72 [⟨yI,(i:Int)⟩,⟨yI,(j:Int)⟩,⟨(.ptr yM),c.1⟩,⟨(.ptr yC),c.2.1⟩] ⟨o_Z72,(f i j,())⟩) :
  Ret E n_Z43 [⟨yI,p⟩,⟨yI,(R:Int)⟩,⟨yI,(C:Int)⟩,⟨(.fn n_Z72 (.cons (.ptr yM) (.cons (.ptr yC) .nil))),c⟩] ⟨o_Z43,(p,(R:Int),(C:Int),qar f C R,())⟩:=by
 refine qai ?_
 simp only[run_Z43,Z44.ev]
 refine Ev.start (p:=fun φ n=>Z44.l0 (mkR (run E (φ 0))) (φ 0) n (C:Int) c (R:Int) 0 0 0 0 p (R:Int) (C:Int) []=_) 1 ?_ (fun _ _ _ h=>h)
 refine qam 1 (L:=fun φ n k a=>Z44.l0 (mkR (run E (φ 0))) (φ 0) n (C:Int) c (R:Int) k 0 0 0 p (R:Int) (C:Int) a) (len:=R) (fun k=>qar f C k) (fun _ _ _ _ _=>rfl) (fun k r hk ih=>?_) ?_
 ·simp only[Z44.l0_succ _ qae]
  refine qax (zac (by omega)) ?_
  refine Ev.start (p:=fun φ n=>Z44.l1 (mkR (run E (φ 0))) (φ 0) (φ 1) n (C:Int) c (k:Int) (R:Int) (k:Int) (C:Int) 0 0 0 0 p (R:Int) (C:Int) (qar f C k)=_) 2 ?_ (fun _ _ _ h=>h)
  have hle:(k+1)*C≤R*C:=zaq _ hk
  rw[zar] at hle
  have:=qam 2 (L:=fun φ n j a=>Z44.l1 (mkR (run E (φ 0))) (φ 0) (φ 1) n (C:Int) c (k:Int) (R:Int) (k:Int) (C:Int) j 0 0 0 p (R:Int) (C:Int) a) (len:=C) (fun j=>qar f C k++(List.range j).map (f k)) (r:=r) (fun _ _ _ _ _=>rfl) (fun j r hj ih=>?_) ?_
  ·simpa using this
  ·simp only[Z44.l1_succ _ qae]
   rw[zaA,zat,← zaF] at ih
   refine qax (zac (by omega)) (qaa (hf k j hk hj) (qao (by simp[qas];omega) ?_))
   rw[qad (by omega)];exact ih
  ·simp only[Z44.l1_succ _ qae]
   refine qaB (zae (by omega)) ?_
   rw[qad (by omega)];exact ih
 ·simp only[Z44.l0_succ _ qae]
  exact qaB (zae (by omega)) qal
theorem qeA(p:Int)(R C:Nat)(f:Nat→Nat→Int)(hR:R≤1048576)(hC:C≤1048576)(hRC:R*C≤1048576)(hf:∀ i j:Nat,i<R→j<C→Ret E n_Z90 [⟨yI,(i:Int)⟩,⟨yI,(j:Int)⟩] ⟨o_Z90,(f i j,())⟩) :
  Ret E n_Z43 [⟨yI,p⟩,⟨yI,(R:Int)⟩,⟨yI,(C:Int)⟩,⟨(.fn n_Z90 .nil),()⟩] ⟨o_Z43,(p,(R:Int),(C:Int),qar f C R,())⟩:=by
 refine qai ?_
 simp only[run_Z43,Z47.ev]
 refine Ev.start (p:=fun φ n=>Z47.l0 (mkR (run E (φ 0))) (φ 0) n (C:Int) (R:Int) 0 0 0 0 p (R:Int) (C:Int) []=_) 1 ?_ (fun _ _ _ h=>h)
 refine qam 1 (L:=fun φ n k a=>Z47.l0 (mkR (run E (φ 0))) (φ 0) n (C:Int) (R:Int) k 0 0 0 p (R:Int) (C:Int) a) (len:=R) (fun k=>qar f C k) (fun _ _ _ _ _=>rfl) (fun k r hk ih=>?_) ?_
 ·simp only[Z47.l0_succ _ qae]
  refine qax (zac (by omega)) ?_
  refine Ev.start (p:=fun φ n=>Z47.l1 (mkR (run E (φ 0))) (φ 0) (φ 1) n (C:Int) (k:Int) (R:Int) (k:Int) (C:Int) 0 0 0 0 p (R:Int) (C:Int) (qar f C k)=_) 2 ?_ (fun _ _ _ h=>h)
  have hle:(k+1)*C≤R*C:=zaq _ hk
  rw[zar] at hle
  have:=qam 2 (L:=fun φ n j a=>Z47.l1 (mkR (run E (φ 0))) (φ 0) (φ 1) n (C:Int) (k:Int) (R:Int) (k:Int) (C:Int) j 0 0 0 p (R:Int) (C:Int) a) (len:=C) (fun j=>qar f C k++(List.range j).map (f k)) (r:=r) (fun _ _ _ _ _=>rfl) (fun j r hj ih=>?_) ?_
  ·simpa using this
  ·simp only[Z47.l1_succ _ qae]
   rw[zaA,zat,← zaF] at ih
   refine qax (zac (by omega)) (qaa (hf k j hk hj) (qao (by simp[qas];omega) ?_))
   rw[qad (by omega)];exact ih
  ·simp only[Z47.l1_succ _ qae]
   refine qaB (zae (by omega)) ?_
   rw[qad (by omega)];exact ih
 ·simp only[Z47.l0_succ _ qae]
  exact qaB (zae (by omega)) qal
theorem qeB(p:Int)(R C:Nat)(f:Nat→Nat→Int)(hR:R≤1048576)(hC:C≤1048576)(hRC:R*C≤1048576)(hf:∀ i j:Nat,i<R→j<C→Ret E n_Z85 [⟨yI,(i:Int)⟩,⟨yI,(j:Int)⟩] ⟨o_Z85,(f i j,())⟩) :
  Ret E n_Z43 [⟨yI,p⟩,⟨yI,(R:Int)⟩,⟨yI,(C:Int)⟩,⟨(.fn n_Z85 .nil),()⟩] ⟨o_Z43,(p,(R:Int),(C:Int),qar f C R,())⟩:=by
 refine qai ?_
 simp only[run_Z43,Z46.ev]
 refine Ev.start (p:=fun φ n=>Z46.l0 (mkR (run E (φ 0))) (φ 0) n (C:Int) (R:Int) 0 0 0 0 p (R:Int) (C:Int) []=_) 1 ?_ (fun _ _ _ h=>h)
 refine qam 1 (L:=fun φ n k a=>Z46.l0 (mkR (run E (φ 0))) (φ 0) n (C:Int) (R:Int) k 0 0 0 p (R:Int) (C:Int) a) (len:=R) (fun k=>qar f C k) (fun _ _ _ _ _=>rfl) (fun k r hk ih=>?_) ?_
 ·simp only[Z46.l0_succ _ qae]
  refine qax (zac (by omega)) ?_
  refine Ev.start (p:=fun φ n=>Z46.l1 (mkR (run E (φ 0))) (φ 0) (φ 1) n (C:Int) (k:Int) (R:Int) (k:Int) (C:Int) 0 0 0 0 p (R:Int) (C:Int) (qar f C k)=_) 2 ?_ (fun _ _ _ h=>h)
  have hle:(k+1)*C≤R*C:=zaq _ hk
  rw[zar] at hle
  have:=qam 2 (L:=fun φ n j a=>Z46.l1 (mkR (run E (φ 0))) (φ 0) (φ 1) n (C:Int) (k:Int) (R:Int) (k:Int) (C:Int) j 0 0 0 p (R:Int) (C:Int) a) (len:=C) (fun j=>qar f C k++(List.range j).map (f k)) (r:=r) (fun _ _ _ _ _=>rfl) (fun j r hj ih=>?_) ?_
  ·simpa using this
  ·simp only[Z46.l1_succ _ qae]
   rw[zaA,zat,← zaF] at ih
   refine qax (zac (by omega)) (qaa (hf k j hk hj) (qao (by simp[qas];omega) ?_))
   rw[qad (by omega)];exact ih
  ·simp only[Z46.l1_succ _ qae]
   refine qaB (zae (by omega)) ?_
   rw[qad (by omega)];exact ih
 ·simp only[Z46.l0_succ _ qae]
  exact qaB (zae (by omega)) qal
end VeT
open Go Go.Proofs Ve
namespace VeT
abbrev cM:Ty:=.cons yI (.cons yI (.cons yI (.cons yL .nil)))
abbrev cC:Ty:=.cons yK .nil
abbrev cS:Ty:=.cons yK (.cons yI (.cons yL (.cons (.sl (.st cM)) .nil)))
abbrev Mat:=Int×Int×Int×List Int×Unit
abbrev Cpx:=List (List Int)×Unit
abbrev Shf:=List (List Int)×Int×List Int×List Mat×Unit
abbrev Sim:=List Int
abbrev dI(x:Int):Dv:=⟨.int .i64,x⟩
abbrev dL(x:List Int):Dv:=⟨.sl yI,x⟩
abbrev dLL(x:List (List Int)):Dv:=⟨.sl yL,x⟩
abbrev dC(x:Cpx):Dv:=⟨.ptr cC,x⟩
abbrev dM(x:Mat):Dv:=⟨.ptr cM,x⟩
abbrev dS(x:Shf):Dv:=⟨.ptr cS,x⟩
abbrev dMs(x:List Mat):Dv:=⟨.sl (.st cM),x⟩
theorem qc8(n lo hi:Int):Ret E n_Z87 [dI n,dI lo,dI hi] ⟨o_Z87,(pb (lo≤n∧n≤hi),())⟩:=by
 refine qai ?_
 simp only[run_Z87,Z87.ev]
 refine qew (fun h=>qah ?_) fun h=>qah ?_
 ·rw[qfn,qaN (show n≤hi↔lo≤n∧n≤hi by omega)]
 ·rw[qaq (by omega)]
theorem qb5(n lo hi:Int):Ret E n_Z127 [dI n,dI lo,dI hi] ⟨o_Z127,(pb (lo≤n∧n≤hi),())⟩:=by
 refine qai ?_
 simp only[run_Z127,Z127.ev]
 refine qew (fun h=>qah ?_) fun h=>qah ?_
 ·rw[qfn,qaN (show n≤hi↔lo≤n∧n≤hi by omega)]
 ·rw[qaq (by omega)]
theorem ql8(n:Int):Ret E n_Z63 [dI n] ⟨o_Z63,(pb (0≤n∧n≤9),())⟩:=by
 refine qai ?_
 simp only[run_Z63,Z63.ev]
 exact qaa (qc8 _ _ _) qal
theorem qf0(n:Int):Ret E n_Z20 [dI n] ⟨o_Z20,(!pb (0≤n∧n≤9),())⟩:=by
 refine qai ?_
 simp only[run_Z20,Z20.ev]
 exact qaa (ql8 _) qal
def qeL(s:Sim):Prop:=∀ j,1≤j→j<s.length→s.getD (j-1) 0<s.getD j 0
theorem qhn(s:Sim)(hs:Sm yL s):Ret E n_Z60 [dL s] ⟨o_Z60,(pb (qeL s),())⟩:=by
 have hs1:s.length≤1048576:=hs.1
 refine qai ?_
 simp only[run_Z60,Z60.ev]
 by_cases h0:s.length=0
 ·refine Ev.start (p:=fun φ n=>Z60.l0 (mkR (run E (φ 0))) (φ 0) n s 1=_) 1 ?_ (fun _ _ _ h=>h)
  refine qe4 1 (σ:=Unit) (L:=fun φ n _=>Z60.l0 (mkR (run E (φ 0))) (φ 0) n s 1) (fun _ _ _ _=>rfl) (fun _=>True) (fun _=>_) (fun _=>0) (fun _ _ _=>?_) () trivial
  simp only[Z60.l0_succ _ qae]
  refine qaB (zae (by omega)) (qah ?_)
  rw[qaK]
  intro j h1 h2;omega
 ·refine Ev.start (p:=fun φ n=>Z60.l0 (mkR (run E (φ 0))) (φ 0) n s 1=_) 1 ?_ (fun _ _ _ h=>h)
  refine qdk 1 (L:=fun φ n k=>Z60.l0 (mkR (run E (φ 0))) (φ 0) n s k) (len:=s.length) 1 (by omega) (fun j=>s.getD (j-1) 0<s.getD j 0) (fun b=>some ⟨o_Z60,(b,())⟩) (fun _ _ _ _=>rfl) (fun k h1 h2 hP _=>?_) (fun k r h1 h2 hP _ ih=>?_) (fun _=>?_)
  ·simp only[Z60.l0_succ _ qae]
   refine qax (zac (by omega)) ?_
   rw[qag (by omega) (by omega),show((k:Int)-1)=((k-1:Nat):Int) by omega]
   refine qab (qak (by omega)) (qab (qak h2) (qax (zac ?_) qal))
   simpa [zaa,h2,show k-1<s.length by omega] using hP
  ·simp only[Z60.l0_succ _ qae]
   refine qax (zac (by omega)) ?_
   rw[qag (by omega) (by omega),show((k:Int)-1)=((k-1:Nat):Int) by omega]
   refine qab (qak (by omega)) (qab (qak h2) (qaB (zae ?_) ?_))
   ·simpa [zaa,h2,show k-1<s.length by omega] using hP
   ·rw[qad (by omega)];exact ih
  ·simp only[Z60.l0_succ _ qae]
   exact qaB (zae (by omega)) qal
end VeT
open Go Go.Proofs Ve
namespace VeT
def Vx(s:Sim):Prop:=1≤s.length∧s.length≤4∧qeL s∧∀ x∈s,0≤x∧x≤9
theorem qes(s:Sim)(hs:Sm yL s):Ret E n_Z19 [dL s] ⟨o_Z19,(pb (Vx s),())⟩:=by
 refine qai ?_
 simp only[run_Z19,Z19.ev]
 refine qew (fun h1=>qew (fun h2=>qaa (qhn s hs) (qbS (fun h3=>qaa (qbg s _ hs.1 fun x _=>qf0 x) (qah ?_)) fun h3=>qah ?_)) fun h2=>qah ?_) fun h1=>qah ?_
 ·have h3:=qaD.1 h3
  have:(!pb (∃ x∈s,(!pb (0≤x∧x≤9))=true))=pb (Vx s):=qfy (by
   simp only[zbU,qa0]
   exact⟨fun h=>⟨by omega,by omega,h3,fun x hx=>Classical.byContradiction fun hn=>h ⟨x,hx,hn⟩⟩,fun h ⟨x,hx,hn⟩=>hn (h.2.2.2 x hx)⟩)
  rw[this]
 ·rw[qaq fun h=>qa0.1 h3 h.2.2.1]
 ·rw[qaq fun h=>h2 (by have:=h.2.1;omega)]
 ·rw[qaq fun h=>h1 (by have:=h.1;omega)]
theorem qhr(s:Sim)(lo hi:Int)(hs:Sm yL s):Ret E n_Z131 [dL s,dI lo,dI hi] ⟨o_Z131,(pb (qeL s∧∀ x∈s,lo≤x∧x≤hi),())⟩:=by
 have hs1:s.length≤1048576:=hs.1
 refine qai ?_
 simp only[run_Z131,Z131.ev]
 refine Ev.start (p:=fun φ n=>Z131.l0 (mkR (run E (φ 0))) (φ 0) n s lo hi 0=_) 1 ?_ (fun _ _ _ h=>h)
 refine(qdk 1 (L:=fun φ n k=>Z131.l0 (mkR (run E (φ 0))) (φ 0) n s lo hi k) (len:=s.length) 0 (by omega) (fun j=>(lo≤s.getD j 0∧s.getD j 0≤hi)∧(1≤j→s.getD (j-1) 0<s.getD j 0)) (fun b=>some ⟨o_Z131,(b,())⟩) (fun _ _ _ _=>rfl) (fun k h1 h2 hP _=>?_) (fun k r h1 h2 hP _ ih=>?_) (fun _=>?_)).to ?_
 ·simp only[Z131.l0_succ _ qae]
  refine qax (zac (by omega)) (qab (qak h2) (qaa (qb5 _ _ _) ?_))
  have e:s.getD k 0=s[k]:=by simp[zaa,h2]
  rw[e] at hP
  refine qbS (fun _=>?_) (fun hin=>?_)
  ·simp only[Z131.j1_eq _ qae,cond_true];(first | exact qal | exact Ev.of fun _=>trivial)
  ·have hin:lo≤s[k]∧s[k]≤hi:=qaD.1 (by simpa using hin)
   have hk:1≤k:=Classical.byContradiction fun h=>hP ⟨hin,fun h'=>absurd h' h⟩
   refine qax (zac (by omega)) ?_
   rw[qag (by omega) (by omega),show((k:Int)-1)=((k-1:Nat):Int) by omega]
   refine qab (qak (by omega)) (qab (qak h2) ?_)
   have e':s.getD (k-1) 0=s[k-1]:=by simp[zaa,show k-1<s.length by omega]
   rw[e'] at hP
   have:decide (s[k-1]≥s[k])=true:=zac (Classical.byContradiction fun h=>hP ⟨hin,fun _=>by omega⟩)
   simp only[this,Z131.j1_eq _ qae,cond_true];(first | exact qal | exact Ev.of fun _=>trivial)
 ·simp only[Z131.l0_succ _ qae]
  refine qax (zac (by omega)) (qab (qak h2) (qaa (qb5 _ _ _) ?_))
  have e:s.getD k 0=s[k]:=by simp[zaa,h2]
  rw[e] at hP
  refine qaB (by rw[qaK hP.1];rfl) ?_
  refine qew (fun hk=>?_) fun hk=>?_
  ·rw[qag (by omega) (by omega),show((k:Int)-1)=((k-1:Nat):Int) by omega]
   refine qab (qak (by omega)) (qab (qak h2) ?_)
   have e':s.getD (k-1) 0=s[k-1]:=by simp[zaa,show k-1<s.length by omega]
   rw[e'] at hP
   have:decide (s[k-1]≥s[k])=false:=zae (by have:=hP.2 (by omega);omega)
   simp only[this,Z131.j1_eq _ qae,cond_false]
   rw[qad (by omega)];exact ih
  ·simp only[Z131.j1_eq _ qae,cond_false]
   rw[qad (by omega)];exact ih
 ·simp only[Z131.l0_succ _ qae]
  exact qaB (zae (by omega)) qal
 ·refine congrArg (fun b:Bool=>some (⟨o_Z131,(b,())⟩:Dv)) (qaN ⟨fun h=>⟨fun j h1 h2=>(h j (by omega) h2).2 h1,fun x hx=>?_⟩,fun⟨h1,h2⟩ j _ hj=>⟨?_,fun h3=>h1 j h3 hj⟩⟩)
  ·obtain⟨j,hj,rfl⟩:=zaC.1 hx
   simpa [zaa,hj] using (h j (by omega) hj).1
  ·simpa [zaa,hj] using h2 _ (zaj hj)
theorem qfu(s:Sim)(hs:Sm yL s):Ret E n_Z167 [dL s] ⟨o_Z167,(pb (Vx s),())⟩:=by
 refine qai ?_
 simp only[run_Z167,Z167.ev]
 refine qaa (qb5 _ _ _) (qbS (fun h1=>qaa (qhr s _ _ hs) (qah ?_)) fun h1=>qah ?_)
 ·have h1:=qaD.1 h1
  exact congrArg (fun b:Bool=>some (⟨o_Z167,(b,())⟩:Dv)) (qaN ⟨fun h=>⟨by omega,by omega,h.1,h.2⟩,fun h=>⟨h.2.2.1,h.2.2.2⟩⟩)
 ·rw[qaq fun h=>qa0.1 h1 ⟨by have:=h.1;omega,by have:=h.2.1;omega⟩]
def qjA(a b:Int):Int:=if a<b then -1 else if b<a then 1 else 0
def qfj:Sim→Sim→Int
 | [],[]=>0
 | [],_::_=>-1
 | _::_,[]=>1
 | x::xs,y::ys=>if x<y then -1 else if y<x then 1 else qfj xs ys
def qd7(a b:Sim):Int:=if qjA a.length b.length≠0 then qjA a.length b.length else qfj a b
theorem qe8{a b:Int}:qjA a b=0↔a=b:=by unfold qjA;split<;>(try split)<;>omega
theorem qqK{a b:Int}:qjA b a=- qjA a b:=by unfold qjA;split<;>split<;>(try split)<;>omega
theorem qpJ{a b:Int}:qjA a b<0↔a<b:=by unfold qjA;split<;>(try split)<;>omega
theorem qoR:∀ {a b:Sim},qfj a b=0↔a=b
 | [],[]=>by simp[qfj]
 | [],_::_=>by simp[qfj]
 | _::_,[]=>by simp[qfj]
 | x::xs,y::ys=>by
  have:=@qoR xs ys
  simp only[qfj,List.cons.injEq]
  split
  ·constructor
   ·intro h;omega
   ·rintro⟨rfl,_⟩;omega
  ·split
   ·constructor
    ·intro h;omega
    ·rintro⟨rfl,_⟩;omega
   ·rw[this];constructor
    ·intro h;exact⟨by omega,h⟩
    ·exact fun h=>h.2
theorem qnB:∀ {a b:Sim},qfj b a=- qfj a b
 | [],[]=>by simp[qfj]
 | [],_::_=>by simp[qfj]
 | _::_,[]=>by simp[qfj]
 | x::xs,y::ys=>by
  have:=@qnB xs ys
  simp only[qfj]
  split<;>split<;>(try split)<;>omega
theorem qjZ:∀ {a b c:Sim},qfj a b<0→qfj b c<0→qfj a c<0
 | [],[],c,h,_=>by simp[qfj] at h
 | [],_::_,[],_,h=>by simp[qfj] at h
 | [],_::_,_::_,_,_=>by simp[qfj]
 | _::_,[],_,h,_=>by simp[qfj] at h
 | _::_,_::_,[],_,h=>by simp[qfj] at h
 | x::xs,y::ys,z::zs,h1,h2=>by
  have:=@qjZ xs ys zs
  simp only[qfj] at h1 h2 ⊢
  split at h1<;>split at h2<;>(try split at h1)<;>(try split at h2)<;>(try split)<;>(try split)<;>first | omega | (exact this h1 h2)
theorem qcr{a b:Sim}:qd7 a b=0↔a=b:=by
 unfold qd7
 split
 ·rename_i h
  exact⟨fun h'=>absurd h' h,fun h'=>absurd (qe8.2 (by rw[h'])) h⟩
 ·exact qoR
theorem qnd{a b:Sim}:qd7 b a=- qd7 a b:=by
 unfold qd7
 rw[@qqK a.length b.length]
 split<;>split<;>first | omega | exact qnB
theorem qgO{a b:Sim}:qd7 a b<0↔a.length<b.length∨a.length=b.length∧qfj a b<0:=by
 unfold qd7
 split
 ·rename_i h
  rw[qpJ]
  rw[Ne,qe8] at h
  omega
 ·rename_i h
  rw[zcn,qe8] at h
  omega
theorem qgV{a b c:Sim}(h1:qd7 a b<0)(h2:qd7 b c<0):qd7 a c<0:=by
 rw[qgO] at *
 rcases h1 with h1 | ⟨h1,h1'⟩<;>rcases h2 with h2 | ⟨h2,h2'⟩
 ·left;omega
 ·left;omega
 ·left;omega
 ·right;exact⟨by omega,qjZ h1' h2'⟩
theorem qj8(a:Int):Ret E n_Z3 [dI a] ⟨o_Z3,(false,())⟩:=by
 refine qai ?_
 simp only[run_Z3,Z3.ev]
 exact qah (by simp)
theorem qll(a:Int):Ret E n_Z4 [dI a] ⟨o_Z4,(false,())⟩:=by
 refine qai ?_
 simp only[run_Z4,Z4.ev]
 exact qah (by simp)
theorem qmd(a b:Int):Ret E n_Z0 [dI a,dI b] ⟨o_Z0,(qjA a b,())⟩:=by
 refine qai ?_
 simp only[run_Z0,Z0.ev]
 refine qaa (qj8 _) (qaa (qj8 _) (qaB rfl (qaB rfl (qew (fun h=>qah ?_) fun h=>qew (fun h2=>qah ?_) fun h2=>qah ?_))))
 ·rw[qjA,if_pos h]
 ·rw[qjA,if_neg h,if_pos h2]
 ·rw[qjA,if_neg h,if_neg h2]
theorem qmn(a b:Int):Ret E n_Z1 [dI a,dI b] ⟨o_Z1,(qjA a b,())⟩:=by
 refine qai ?_
 simp only[run_Z1,Z1.ev]
 refine qaa (qll _) (qaa (qll _) (qaB rfl (qaB rfl (qew (fun h=>qah ?_) fun h=>qew (fun h2=>qah ?_) fun h2=>qah ?_))))
 ·rw[qjA,if_pos h]
 ·rw[qjA,if_neg h,if_pos h2]
 ·rw[qjA,if_neg h,if_neg h2]
theorem qiW{a b:Sim}{k:Nat}(h:k<a.length)(h':k<b.length):qfj (a.drop k) (b.drop k)=if qjA a[k] b[k]≠0 then qjA a[k] b[k] else qfj (a.drop (k+1)) (b.drop (k+1)):=by
 rw[zby h,zby h',qfj]
 unfold qjA
 split
 ·simp
 ·split
  ·simp
  ·simp
theorem qhx(a b:Sim)(ha:Sm yL a):Ret E n_Z97 [dL a,dL b] ⟨o_Z97,(qfj a b,())⟩:=by
 have ha1:a.length≤1048576:=ha.1
 refine qai ?_
 simp only[run_Z97,Z97.ev]
 refine Ev.start (p:=fun φ n=>Z97.l0 (mkR (run E (φ 0))) (φ 0) n a b a (a.length:Int) 0=_) 1 ?_ (fun _ _ _ h=>h)
 refine qe4 1 (σ:=Nat) (L:=fun φ n k=>Z97.l0 (mkR (run E (φ 0))) (φ 0) n a b a (a.length:Int) (k:Int)) (fun _ _ _ _=>rfl) (fun k=>k≤a.length∧k≤b.length) (fun k=>some ⟨o_Z97,(qfj (a.drop k) (b.drop k),())⟩) (fun k=>a.length-k) (fun k ⟨hk,hkb⟩ ih=>?_) 0 ⟨zaE _,zaE _⟩
 simp only[Z97.l0_succ _ qae]
 refine qew (fun h=>?_) fun h=>?_
 ·have hka:k<a.length:=by omega
  refine qab (qak hka) (qew (fun h2=>qah ?_) fun h2=>?_)
  ·rw[zby hka,zbk (l:=b) (by omega),qfj]
  ·have hkb:k<b.length:=by omega
   refine qab (qak hkb) (qaa (qmn _ _) (qbS (fun h3=>qah ?_) fun h3=>?_))
   ·rw[qiW hka hkb,if_pos (by simpa using h3)]
   ·rw[qad (by omega)]
    refine(ih (k+1) ⟨by omega,by omega⟩ (by omega)).to ?_
    rw[qiW hka hkb,if_neg (by simpa using h3)]
 ·have e:k=a.length:=by omega
  subst e
  refine qew (fun h2=>qah ?_) fun h2=>qah ?_
  ·rw[zbk (l:=a) (by omega),zby (l:=b) (by omega),qfj]
  ·rw[zbk (l:=a) (by omega),zbk (l:=b) (by omega),qfj]
theorem qrT(a b:Int):Ret E n_Z2 [dL [a,b]] ⟨o_Z2,(if a≠0 then a else b,())⟩:=by
 refine qai ?_
 simp only[run_Z2,Z2.ev]
 refine Ev.start (p:=fun φ n=>Z2.l0 (mkR (run E (φ 0))) (φ 0) n 0 [a,b] ([a,b].length:Int) 0=_) 1 ?_ (fun _ _ _ h=>h)
 refine Ev.round 1 (L:=fun φ n=>Z2.l0 (mkR (run E (φ 0))) (φ 0) n 0 [a,b] ([a,b].length:Int) 0) ?_ (fun _ _ _=>rfl)
 simp only[Z2.l0_succ _ qae]
 refine qax (by simp) (qab (x:=a) rfl (qbS (fun h=>qah ?_) fun h=>?_))
 ·rw[if_pos (by simpa using h)]
 ·rw[if_neg (by simpa using h)]
  rw[show w64 ((0:Int)+1)=1 by decide]
  refine Ev.round 1 (L:=fun φ n=>Z2.l0 (mkR (run E (φ 0))) (φ 0) n 0 [a,b] ([a,b].length:Int) 1) ?_ (fun _ _ _=>rfl)
  simp only[Z2.l0_succ _ qae]
  refine qax (by simp) (qab (x:=b) rfl (qbS (fun h=>qal) fun h=>?_))
  rw[show w64 ((1:Int)+1)=2 by decide]
  refine Ev.round 1 (L:=fun φ n=>Z2.l0 (mkR (run E (φ 0))) (φ 0) n 0 [a,b] ([a,b].length:Int) 2) ?_ (fun _ _ _=>rfl)
  simp only[Z2.l0_succ _ qae]
  refine qaB (by simp) (qah ?_)
  have:b=0:=by simpa using h
  rw[this]
theorem qbq(a b:Sim)(ha:Sm yL a):Ret E n_Z32 [dL a,dL b] ⟨o_Z32,(qd7 a b,())⟩:=by
 refine qai ?_
 simp only[run_Z32,Z32.ev]
 exact qaa (qmd _ _) (qaa (qhx a b ha) (qaa (qrT _ _) qal))
theorem qcX(a b:Sim)(ha:Sm yL a):Ret E n_Z158 [dL a,dL b] ⟨o_Z158,(pb (qd7 a b<0),())⟩:=by
  have ha1:a.length≤1048576:=ha.1
  refine qai ?_
  simp only[run_Z158,Z158.ev]
  refine qbS (fun h=>qah ?_) fun h=>?_
  · have h:(a.length:Int)≠b.length:=by simpa using h
    rw[qfn,qaN (show(a.length:Int)<b.length↔qd7 a b<0 by rw[qgO];omega)]
  · have h : a.length = b.length := by have : (a.length : Int) = b.length := by simpa using h
                                       omega
    refine Ev.start (p:=fun φ n=>Z158.l0 (mkR (run E (φ 0))) (φ 0) n a b 0=_) 1 ?_ (fun _ _ _ h=>h)
    refine(qe4 1 (σ:=Nat) (L:=fun φ n k=>Z158.l0 (mkR (run E (φ 0))) (φ 0) n a b (k:Int)) (fun _ _ _ _=>rfl) (fun k=>k≤a.length) (fun k=>some ⟨o_Z158,(pb (qfj (a.drop k) (b.drop k)<0),())⟩) (fun k=>a.length-k) (fun k hk ih=>?_) 0 (zaE _)).to ?_
    · simp only[Z158.l0_succ _ qae]
      refine qew (fun h1=>?_) fun h1=>?_
      · have hka:k<a.length:=by omega
        have hkb:k<b.length:=by omega
        have e:=qiW hka hkb
        refine qab (qak hka) (qab (qak hkb) (qbS (fun h3=>?_) fun h3=>?_))
        · refine qab (qak hka) (qab (qak hkb) (qah ?_))
          have h3:a[k]≠b[k]:=by simpa using h3
          rw[if_pos (by rw[Ne,qe8];exact h3)] at e
          rw[e,qfn,qaN qpJ]
        · have h3:a[k]=b[k]:=by simpa using h3
          rw[if_neg (by rw[zcn,qe8];exact h3)] at e
          rw[qad (by omega),e]
          exact ih (k+1) (by show k+1≤_;omega) (by show a.length-(k+1)<_;omega)
      · refine qah ?_
        have hk:k≤a.length:=hk
        have e:k=a.length:=by omega
        subst e
        rw[zbk (l:=a) (by omega),zbk (l:=b) (by omega),qfj,qaq (by omega)]
    · refine congrArg (fun b:Bool=>some (⟨o_Z158,(b,())⟩:Dv)) (qaN ?_)
      simp only[zcp];rw[qgO];omega
end VeT
open Go Go.Proofs Ve
namespace VeT
theorem qac{α:Type}{s:List α}{k:Nat}{d:α}(h:k<s.length):s.getD k d=s[k]:=by simp[zaa,h]
theorem qbk{t:Ty}{s:List t.T}(h:Sm (.sl t) s){k:Nat}(hk:k<s.length):Sm t s[k]:=h.2 _ (zaj hk)
theorem qsT{s:Sim}(h:s.length≤1048576):Sm yL s:=⟨h,fun _ _=>trivial⟩
theorem qc1(s:Sim)(hs:s.length≤1048576):Ret E n_Z129 [dL s] ⟨o_Z129,(s,())⟩:=by
 refine qai ?_
 simp only[run_Z129,Z129.ev]
 exact qao (by simp;omega) (qah rfl)
theorem qd4(s:Sim)(k:Nat)(hk:k<s.length)(hs:s.length≤1048576):Ret E n_Z161 [dL s,dI (k:Int)] ⟨o_Z161,(s.eraseIdx k,())⟩:=by
 refine qai ?_
 simp only[run_Z161,Z161.ev]
 rw[qad (by omega)]
 simp only[zai]
 refine qao (by simp;omega) (qaa (qc1 _ (by simp;omega)) (qao (by simp;omega) (qao (by simp;omega) (qah ?_))))
 rw[List.eraseIdx_eq_take_drop_succ]
theorem qha(a b:Sim)(ha:a.length≤1048576):Ret E n_Z132 [dL a,dL b] ⟨o_Z132,(pb (a=b),())⟩:=by
 refine qai ?_
 simp only[run_Z132,Z132.ev]
 refine qbS (fun h=>qah ?_) fun h=>?_
 ·have h:(a.length:Int)≠b.length:=by simpa using h
  rw[qaq fun e=>h (by rw[e])]
 ·have h:(a.length:Int)=b.length:=by simpa using h
  refine Ev.start (p:=fun φ n=>Z132.l0 (mkR (run E (φ 0))) (φ 0) n a b 0=_) 1 ?_ (fun _ _ _ h=>h)
  refine(qdk 1 (L:=fun φ n k=>Z132.l0 (mkR (run E (φ 0))) (φ 0) n a b k) (len:=a.length) 0 (by omega) (fun j=>a.getD j 0=b.getD j 0) (fun b=>some ⟨o_Z132,(b,())⟩) (fun _ _ _ _=>rfl) (fun k h1 h2 hP _=>?_) (fun k r h1 h2 hP _ ih=>?_) (fun _=>?_)).to ?_
  ·simp only[Z132.l0_succ _ qae]
   have hb:k<b.length:=by omega
   rw[qac h2,qac hb] at hP
   exact qax (zac (by omega)) (qab (qak h2) (qab (qak hb) (qax (by simpa using hP) qal)))
  ·simp only[Z132.l0_succ _ qae]
   have hb:k<b.length:=by omega
   rw[qac h2,qac hb] at hP
   refine qax (zac (by omega)) (qab (qak h2) (qab (qak hb) (qaB (by simpa using hP) ?_)))
   rw[qad (by omega)];exact ih
  ·simp only[Z132.l0_succ _ qae]
   exact qaB (zae (by omega)) qal
  ·refine congrArg (fun b:Bool=>some (⟨o_Z132,(b,())⟩:Dv)) (qaN ⟨fun hh=>zbB (by omega) fun j h1 h2=>?_,fun hh j _ _=>by rw[hh]⟩)
   have:=hh j (by omega) h1
   rwa [qac h1,qac h2] at this
noncomputable def qdL(c:List Sim)(s:Sim):Int:=qjz (fun x=>pb (x=s)) c
theorem qbb{c:List Sim}{s:Sim}:0≤qdL c s↔s∈c:=by
 unfold qdL
 rw[qcb]
 simp only[qaD]
 exact⟨fun⟨x,h,e⟩=>e ▸ h,fun h=>⟨s,h,rfl⟩⟩
theorem qbP(c:Cpx)(s:Sim)(hc:Sm yK c.1):Ret E n_Z163 [dC c,dL s] ⟨o_Z163,(qdL c.1 s,())⟩:=by
  have hc1:c.1.length≤1048576:=hc.1
  obtain⟨o,h1,h2,h3⟩:=qb4 1 (L:=fun φ n k=>Z163.l0 (mkR (run E (φ 0))) (φ 0) n c s k) (len:=c.1.length) (fun k=>∃ h:k<c.1.length,pb (c.1[k]=s)=true) (fun o=>some ⟨o_Z163,(o2i o,())⟩) (fun _ _ _ _=>rfl) (fun k hk hP=>by
      obtain⟨_,hP⟩:=hP
      simp only[Z163.l0_succ _ qae]
      refine qax (zac (by omega)) (qab (qak hk) (qaa (qha _ _ (qbk hc hk).1) (qax hP qal)))) (fun k q hk hP ih=>by
      simp only[Z163.l0_succ _ qae]
      refine qax (zac (by omega)) (qab (qak hk) (qaa (qha _ _ (qbk hc hk).1) (qaB (zbM.2 fun h=>hP ⟨hk,h⟩) ?_)))
      rw[qad (by omega)];exact ih) (by
      simp only[Z163.l0_succ _ qae]
      exact qaB (zae (by omega)) qal)
  rw[qdI (p:=fun x=>pb (x=s)) h1 h2] at h3
  refine qai ?_
  simp only[run_Z163,Z163.ev]
  exact Ev.start (p:=fun φ n=>Z163.l0 (mkR (run E (φ 0))) (φ 0) n c s 0=_) 1 h3 (fun _ _ _ h=>h)
theorem qql(n:Nat)(args:List Dv):run E (n+1) n_Z108 args=qn0 yI (mkR (run E n)) args:=rfl
theorem qqE(s:Sim)(n:Int)(h0:0≤n)(h1:n≤1048576)(hs:s.length≤1048576):Ret E n_Z108 [dL s,dI n] ⟨o_Z108,(s,())⟩:=by
 refine qai ?_
 simp only[qql]
 refine qah ((if_pos (show 0≤n∧((List.length s:Int)+n)*(64*(Ty.size (Ty.int IntKind.i64):Int))≤70368744177664 from⟨h0,?_⟩)).trans rfl)
 have:(Ty.size (Ty.int IntKind.i64))=1:=rfl
 rw[this];omega
theorem qgP(ll:List Sim)(hl:ll.length≤1048576)(hf:ll.flatten.length≤1048576):Ret E n_Z98 [dLL ll] ⟨o_Z98,(ll.flatten,())⟩:=by
 have hle:∀ k,(ll.take k).flatten.length≤ll.flatten.length:=fun k=>by
  have:=congrArg List.length (congrArg List.flatten (List.take_append_drop k ll))
  rw[zbN,zal] at this;omega
 have hst:∀ k (h:k<ll.length),(ll.take (k+1)).flatten=(ll.take k).flatten++ll[k]:=fun k h=>by
  rw[zay h,zbN];simp
 refine qai ?_
 simp only[run_Z98,Z98.ev]
 refine Ev.start (p:=fun φ n=>Z98.l0 (mkR (run E (φ 0))) (φ 0) n ll 0 ll (ll.length:Int) 0=_) 1 ?_ (fun _ _ _ h=>h)
 refine qam 1 (L:=fun φ n k a=>Z98.l0 (mkR (run E (φ 0))) (φ 0) n ll a ll (ll.length:Int) k) (len:=ll.length) (fun k=>(((ll.take k).flatten.length:Nat):Int)) (fun _ _ _ _ _=>rfl) (fun k r hk ih=>?_) ?_
 ·simp only[Z98.l0_succ _ qae]
  have:=hle (k+1)
  have e:=hst k hk
  have e2:w64 (((ll.take k).flatten.length:Nat)+(List.length (ll[k]):Int))=(((ll.take (k+1)).flatten.length:Nat):Int):=by
   rw[qag (by omega) (by rw[e,zal] at this;omega),e,zal];omega
  refine qax (zac (by omega)) (qab (qak hk) ?_)
  show Ev fun φ=>(bif decide (w64 (((ll.take k).flatten.length:Nat)+(List.length (ll[k]):Int))<0) then none else Z98.l0 (mkR (run E (φ 0))) (φ 0) (φ 1) ll (w64 (((ll.take k).flatten.length:Nat)+(List.length (ll[k]):Int))) ll (ll.length:Int) (w64 ((k:Int)+1)))=r
  rw[e2,qad (by omega)]
  exact qaB (zae (by omega)) ih
 ·simp only[Z98.l0_succ _ qae]
  refine qaB (zae (by omega)) (qaa (qqE [] _ (by omega) (by have:=hle ll.length;omega) (by simp)) ?_)
  refine Ev.start (p:=fun φ n=>Z98.l1 (mkR (run E (φ 0))) (φ 0) n ll (ll.length:Int) 0 []=_) 2 ?_ (fun _ _ _ h=>h)
  refine qam 2 (L:=fun φ n k a=>Z98.l1 (mkR (run E (φ 0))) (φ 0) n ll (ll.length:Int) k a) (len:=ll.length) (fun k=>(ll.take k).flatten) (fun _ _ _ _ _=>rfl) (fun k r hk ih=>?_) ?_
  ·simp only[Z98.l1_succ _ qae]
   have:=hle (k+1)
   have e:=hst k hk
   rw[e] at ih this
   rw[zal] at this
   refine qax (zac (by omega)) (qab (qak hk) (qao (zac (by show(_+List.length ll[k])*8≤_;omega)) ?_))
   rw[qad (by omega)]
   exact ih
  ·simp only[Z98.l1_succ _ qae]
   refine qaB (zae (by omega)) (qah ?_)
   rw[zav (zaf _)]
def qcv(s:Sim):List Sim:=if 1<s.length then(List.range s.length).map (s.eraseIdx ·) else []
theorem qcN{s f:Sim}:f∈qcv s↔1<s.length∧∃ i,i<s.length∧f=s.eraseIdx i:=by
 unfold qcv
 split
 ·rename_i h
  simp only[zaO,zaG,h,true_and]
  exact⟨fun⟨i,h1,h2⟩=>⟨i,h1,h2.symm⟩,fun⟨i,h1,h2⟩=>⟨i,h1,h2.symm⟩⟩
 ·rename_i h
  simp[h]
theorem qoy{s f:Sim}(h:f∈qcv s):f.length+1=s.length:=by
 obtain⟨h1,i,h2,rfl⟩:=qcN.1 h
 rw[zbs,if_pos h2];omega
theorem qhg{s:Sim}:(qcv s).length≤s.length:=by
 unfold qcv;split<;>simp
theorem qfH(s:Sim)(hs:s.length≤1048576):Ret E n_Z42 [dL s] ⟨o_Z42,(qcv s,())⟩:=by
 refine qai ?_
 simp only[run_Z42,Z42.ev]
 refine Ev.start (p:=fun φ n=>Z42.l0 (mkR (run E (φ 0))) (φ 0) n s (s.length:Int) 0 []=_) 1 ?_ (fun _ _ _ h=>h)
 by_cases h1:1<s.length
 ·refine qam 1 (L:=fun φ n k a=>Z42.l0 (mkR (run E (φ 0))) (φ 0) n s (s.length:Int) k a) (len:=s.length) (fun k=>(List.range k).map (s.eraseIdx ·)) (fun _ _ _ _ _=>rfl) (fun k r hk ih=>?_) ?_
  ·simp only[Z42.l0_succ _ qae]
   rw[zaA,zat] at ih
   rw[qad (by omega)]
   simp only[zai]
   refine qax (zac (by omega)) (qax (zac (by omega)) (qao (by simp;omega) (qao (by simp;omega) (qaa (qgP _ (by simp) (by simp;omega)) (qao (by simp;omega) ?_)))))
   rw[show [s.take k,s.drop (k+1)].flatten=s.eraseIdx k by simp[List.eraseIdx_eq_take_drop_succ]]
   exact ih
  ·simp only[Z42.l0_succ _ qae]
   exact qaB (zae (by omega)) (qah (by rw[qcv,if_pos h1]))
 ·refine qam 1 (L:=fun φ n k a=>Z42.l0 (mkR (run E (φ 0))) (φ 0) n s (s.length:Int) k a) (len:=s.length) (fun k=>[]) (fun _ _ _ _ _=>rfl) (fun k r hk ih=>?_) ?_
  ·simp only[Z42.l0_succ _ qae]
   rw[qad (by omega)]
   exact qax (zac (by omega)) (qaB (zae (by omega)) ih)
  ·simp only[Z42.l0_succ _ qae]
   exact qaB (zae (by omega)) (qah (by rw[qcv,if_neg h1]))
def Srt(c:List Sim):Prop:=∀ i j (h:j<c.length) (hij:i<j),qd7 c[i] c[j]<0
theorem qq6{c:List Sim}(h:∀ k,1≤k→k<c.length→qd7 (c.getD (k-1) []) (c.getD k [])<0):Srt c:=by
 intro i j
 induction j with
 | zero=>intro _ h;omega
 | succ j ih =>
  intro hj hij
  have:=h (j+1) (by omega) hj
  rw[Nat.add_sub_cancel,qac (by omega),qac hj] at this
  by_cases e:i=j
  ·subst e;exact this
  ·exact qgV (ih (by omega) (by omega)) this
theorem Srt.take{c:List Sim}(h:Srt c)(k:Nat):Srt (c.take k):=by
 intro i j hj hij
 rw[zcb,zcb]
 exact h i j (by rw[zax] at hj;omega) hij
def bs(c:List Sim)(s:Sim):Nat:=c.findIdx (fun x=>!decide (qd7 x s<0))
theorem qsq{c:List Sim}{s:Sim}:bs c s≤c.length:=List.findIdx_le_length
theorem qkx{c:List Sim}{s:Sim}(hc:Srt c){t:Nat}(h:t<c.length):t<bs c s↔qd7 c[t] s<0:=by
 constructor
 ·intro ht
  have:=List.not_of_lt_findIdx ht
  simpa using this
 ·intro ht
  refine Classical.byContradiction fun hn=>?_
  have hb:bs c s<c.length:=by omega
  have h1:qd7 c[bs c s] s<0:=by
   by_cases e:bs c s=t
   ·simp only[e];exact ht
   ·exact qgV (hc _ _ h (by omega)) ht
  have:=List.findIdx_getElem (w:=hb)
  simp only[zbU,decide_eq_false_iff_not] at this
  exact this h1
theorem qpL{c:List Sim}{s:Sim}(hc:Srt c):qdL c s=if h:bs c s<c.length∧c.getD (bs c s) []=s then(bs c s:Int) else -1:=by
 have e:c.findIdx? (fun x=>pb (x=s))=if bs c s<c.length∧c.getD (bs c s) []=s then some (bs c s) else none:=by
  split
  ·rename_i h
   obtain⟨h1,h2⟩:=h
   rw[zbz]
   rw[qac h1] at h2
   refine⟨h1,qaK h2,fun j hj=>?_⟩
   rw[qaD]
   intro he
   have:=(qkx (s:=s) hc (show j<c.length by omega)).1 hj
   rw[he,qcr.2 rfl] at this
   omega
  ·rename_i h
   rw[List.findIdx?_eq_none_iff]
   intro x hx
   rw[qa0]
   rintro rfl
   obtain⟨j,hj,rfl⟩:=zaC.1 hx
   have h0:¬ j<bs c c[j]:=fun hlt=>by
    have:=(qkx hc hj).1 hlt
    rw[qcr.2 rfl] at this;omega
   by_cases hjb:bs c c[j]=j
   ·exact h ⟨by omega,by rw[hjb,qac hj]⟩
   ·have hb:bs c c[j]<c.length:=by omega
    have:=(qkx (s:=c[j]) hc hb).2 (hc _ _ hj (by omega))
    omega
 unfold qdL qjz
 rw[e]
 split<;>rfl
theorem qhv(c:List Sim)(s:Sim)(hc:Sm yK c)(hs:Srt c):Ret E n_Z94 [dLL c,dL s,⟨.fn n_Z32 .nil,()⟩] ⟨o_Z94,((bs c s:Int),pb (bs c s<c.length∧c.getD (bs c s) []=s),())⟩:=by
 have hc1:c.length≤1048576:=hc.1
 refine qai ?_
 simp only[run_Z94,Z95.ev]
 refine Ev.start (p:=fun φ n=>Z95.l0 (mkR (run E (φ 0))) (φ 0) n c s (c.length:Int) 0 (c.length:Int)=_) 1 ?_ (fun _ _ _ h=>h)
 refine qe4 1 (σ:=Nat×Nat) (L:=fun φ n st=>Z95.l0 (mkR (run E (φ 0))) (φ 0) n c s (c.length:Int) (st.1:Int) (st.2:Int)) (fun _ _ _ _=>rfl) (fun st=>st.1≤bs c s∧bs c s≤st.2∧st.2≤c.length) (fun _=>_) (fun st=>st.2-st.1) (fun st hi ih=>?_) (0,c.length) ⟨zaE _,qsq,zaf _⟩
 obtain⟨i,j⟩:=st
 obtain⟨h1,h2,h3⟩:=hi
 simp only at h1 h2 h3 ih
 simp only[Z95.l0_succ _ qae]
 rw[qs5 (by omega)]
 refine qew (fun hij=>?_) fun hij=>?_
 ·have hh:(i+j) / 2<c.length:=by omega
  refine qao (by decide) (qab (qak hh) (qaa (qbq _ _ (qbk hc hh)) (qew (fun hlt=>?_) fun hlt=>?_)))
  ·rw[qad (by omega)]
   have:=(qkx hs hh).2 hlt
   exact ih ((i+j) / 2+1,j) ⟨this,h2,h3⟩ (by simp only;omega)
  ·have:¬ (i+j) / 2<bs c s:=fun h=>hlt ((qkx hs hh).1 h)
   exact ih (i,(i+j) / 2) ⟨h1,by simp only;omega,by simp only;omega⟩ (by simp only;omega)
 ·have e:i=bs c s:=by omega
  subst e
  refine qew (fun hl=>?_) fun hl=>qah ?_
  ·have hh:bs c s<c.length:=by omega
   refine qab (qak hh) (qaa (qbq _ _ (qbk hc hh)) (qah ?_))
   have:(qd7 c[bs c s] s==0)=pb (bs c s<c.length∧c.getD (bs c s) []=s):=qfy (by
    rw[qac hh,beq_iff_eq,qcr];exact⟨fun h=>⟨hh,h⟩,fun h=>h.2⟩)
   rw[this]
  ·rw[qaq fun h=>hl (by omega)]
theorem qfP(c:List Sim)(s:Sim)(hc:Sm yK c)(hs:Srt c):Ret E n_Z53 [dLL c,dL s] ⟨o_Z53,(qdL c s,())⟩:=by
 refine qai ?_
 simp only[run_Z53,Z53.ev]
 refine qaa (qhv c s hc hs) (qbS (fun h=>qah ?_) fun h=>qah ?_)
 ·rw[qpL hs,dif_neg (qa0.1 (by simpa using h))]
 ·rw[qpL hs,dif_pos (qaD.1 (by simpa using h))]
end VeT
open Go Go.Proofs Ve
namespace VeT
def VC(c:List Sim):Prop:=c.length≤48∧(∀ k,k<c.length→Vx (c.getD k []))∧(∀ k,1≤k→k<c.length→qd7 (c.getD (k-1) []) (c.getD k [])<0)∧∀ k,k<c.length→∀ f∈qcv (c.getD k []),f∈c
theorem VC.srt{c:List Sim}(h:VC c):Srt c:=qq6 h.2.2.1
def qlK(c:List Sim)(k:Nat):Prop:=(Vx (c.getD k [])∧(1≤k→qd7 (c.getD (k-1) []) (c.getD k [])<0))∧∀ f∈qcv (c.getD k []),f∈c.take k
theorem qrF{c:List Sim}:((∀ k,0≤k→k<c.length→qlK c k)∧c.length≤48)↔VC c:=by
 constructor
 ·rintro⟨h,hl⟩
  exact⟨hl,fun k hk=>(h k (by omega) hk).1.1,fun k h1 hk=>(h k (by omega) hk).1.2 h1,fun k hk f hf=>zbx ((h k (by omega) hk).2 f hf)⟩
 ·intro h
  have hs:=h.srt
  obtain⟨hl,h1,h2,h3⟩:=h
  refine⟨fun k _ hk=>⟨⟨h1 k hk,fun hk1=>h2 k hk1 hk⟩,fun f hf=>?_⟩,hl⟩
  have hm:=h3 k hk f hf
  have hlen:=qoy hf
  rw[qac hk] at hlen
  obtain⟨i,hi,rfl⟩:=zaC.1 hm
  have hlt:qd7 c[i] c[k]<0:=qgO.2 (.inl (by omega))
  have hik:i<k:=Classical.byContradiction fun hn=>by
   by_cases e:i=k
   ·subst e;omega
   ·have:=hs k i hi (by omega)
    rw[qnd] at this;omega
  exact zaC.2 ⟨i,by rw[zax];omega,by rw[zcb]⟩
theorem qro{t:Ty}{s:List t.T}(h:Sm (.sl t) s)(k:Nat):Sm (.sl t) (s.take k):=⟨by have h1:s.length≤1048576:=h.1;show(s.take k).length≤_;rw[zax];omega,fun x hx=>h.2 x (zbx hx)⟩
theorem qgr(c:List Sim)(f:Sim)(k:Nat)(hk:k≤c.length)(hc:Sm yK c)(hs:Srt (c.take k)) :
  Ret E n_Z15 [dL f,dC (c,()),⟨.ptr (.cons yI .nil),((k:Int),())⟩] ⟨o_Z15,(pb (¬ f∈c.take k),())⟩:=by
 refine qai ?_
 simp only[run_Z15,Z15.ev]
 simp only[zai]
 refine qao (by simp;omega) (qaa (qfP _ f (qro hc k) hs) (qah ?_))
 simp only[qfn,qaN (show qdL (c.take k) f<0↔¬ f∈c.take k by rw[← qbb];omega)]
theorem qhE(c:List Sim)(hc:Sm yK c):Ret E n_Z14 [dLL c] ⟨o_Z14,(pb (VC c),())⟩:=by
  have hc1:c.length≤1048576:=hc.1
  refine qai ?_
  simp only[run_Z14,Z14.ev]
  refine Ev.start (p:=fun φ n=>Z14.l0 (mkR (run E (φ 0))) (φ 0) n c (c.length:Int) 0 c=_) 1 ?_ (fun _ _ _ h=>h)
  have key:∀(n:Nat) (k:Nat) (hk:k<c.length) (hpre:∀ j,0≤j→j<k→qlK c j),Srt (c.take k):=fun n k hk hpre=>qq6 fun j h1 h2=>by
    rw[zax] at h2
    have:=(hpre j (by omega) (by omega)).1.2 h1
    rw[qac (by omega),qac (by omega)] at this
    rw[qac (by rw[zax];omega),qac (by rw[zax];omega),zcb,zcb]
    exact this
  have hcon:∀(k:Nat) (hk:k<c.length) (hpre:∀ j,0≤j→j<k→qlK c j),Ret E n_Z99 [dLL (qcv c[k]),⟨.fn n_Z15 (.cons (.ptr yC) (.cons (.ptr (.cons yI .nil)) .nil)),((c,()),((k:Int),()),())⟩] ⟨o_Z99,(pb (∃ x∈qcv c[k],pb (¬ x∈c.take k)=true),())⟩:=fun k hk hpre =>
    qbc (qcv c[k]) ((c,()),((k:Int),()),()) _ (zaP qhg (qbk hc hk).1) fun x hx=>qgr c x k (by omega) hc (key 0 k hk hpre)
  refine(qdk 1 (L:=fun φ n k=>Z14.l0 (mkR (run E (φ 0))) (φ 0) n c (c.length:Int) k c) (len:=c.length) 0 (by omega) (qlK c) (fun b=>some ⟨o_Z14,(b&&decide ((c.length:Int)≤48),())⟩) (fun _ _ _ _=>rfl) (fun k h1 h2 hP hpre=>?_) (fun k r h1 h2 hP hpre ih=>?_) (fun _=>?_)).to ?_
  · simp only[Z14.l0_succ _ qae]
    refine qax (zac (by omega)) (qab (qak h2) (qaa (qes _ (qbk hc h2)) ?_))
    refine qbS (fun hv=>?_) fun hv=>?_
    · simp only[Z14.j1_eq _ qae,cond_true];(first | exact qal | exact Ev.of fun _=>trivial)
    · have hv:Vx c[k]:=qaD.1 (by simpa using hv)
      have last:(1≤k→qd7 (c.getD (k-1) []) (c.getD k [])<0)→Ev fun φ=>Z14.j1 (mkR (run E (φ 0))) (φ 0) (φ 1) c[k] c (c.length:Int) (k:Int) false c (k:Int)=some ⟨o_Z14,(false,())⟩:=fun hcm=>by
        simp only[Z14.j1_eq _ qae,cond_false]
        refine qaa (qfH _ (qbk hc h2).1) (qaa (hcon k h2 hpre) (qax ?_ qal))
        refine qaK (Classical.byContradiction fun hn=>hP ⟨⟨by rw[qac h2];exact hv,hcm⟩,fun f hf=>Classical.byContradiction fun hnf=>hn ⟨f,by rw[qac h2] at hf;exact hf,qaK hnf⟩⟩)
      refine qew (fun hk=>?_) fun hk=>?_
      · rw[qag (by omega) (by omega),show((k:Int)-1)=((k-1:Nat):Int) by omega]
        have hk1:k-1<c.length:=by omega
        refine qab (qak hk1) (qaa (qbq _ _ (qbk hc hk1)) ?_)
        by_cases hcm:qd7 c[k-1] c[k]<0
        · simp only[show decide (qd7 c[k-1] c[k]≥0)=false from zae (by omega)]
          exact last fun _=>by rw[qac hk1,qac h2];exact hcm
        · simp only[show decide (qd7 c[k-1] c[k]≥0)=true from zac (by omega),Z14.j1_eq _ qae,cond_true]
          (first | exact qal | exact Ev.of fun _=>trivial)
      · exact last fun h=>absurd h (by omega)
  · simp only[Z14.l0_succ _ qae]
    have hP':=hP
    obtain⟨⟨hv,hcm⟩,hfc⟩:=hP'
    rw[qac h2] at hv hfc
    refine qax (zac (by omega)) (qab (qak h2) (qaa (qes _ (qbk hc h2)) (qaB (by rw[qaK hv];rfl) ?_)))
    have last:Ev fun φ=>Z14.j1 (mkR (run E (φ 0))) (φ 0) (φ 1) c[k] c (c.length:Int) (k:Int) false c (k:Int)=r:=by
      simp only[Z14.j1_eq _ qae,cond_false]
      refine qaa (qfH _ (qbk hc h2).1) (qaa (hcon k h2 hpre) (qaB ?_ ?_))
      · exact qaq fun⟨x,hx,hn⟩=>qaD.1 hn (hfc x hx)
      · rw[qad (by omega)];exact ih
    refine qew (fun hk=>?_) fun hk=>last
    rw[qag (by omega) (by omega),show((k:Int)-1)=((k-1:Nat):Int) by omega]
    have hk1:k-1<c.length:=by omega
    have hcm:=hcm (by omega)
    rw[qac hk1,qac h2] at hcm
    refine qab (qak hk1) (qaa (qbq _ _ (qbk hc hk1)) ?_)
    simp only[show decide (qd7 c[k-1] c[k]≥0)=false from zae (by omega)]
    exact last
  · simp only[Z14.l0_succ _ qae]
    exact qaB (zae (by omega)) (qah (by rw[Bool.true_and]))
  · have:(pb (∀ j,0≤j→j<c.length→qlK c j)&&decide ((c.length:Int)≤48))=pb (VC c):=qfy (by
      rw[zah,qaD,decide_eq_true_iff,← qrF]
      exact⟨fun h=>⟨h.1,by omega⟩,fun h=>⟨h.1,by omega⟩⟩)
    rw[this]
def qqZ(c:List Sim)(k:Nat):Prop:=(Vx (c.getD k [])∧(1≤k→qd7 (c.getD (k-1) []) (c.getD k [])<0))∧∀ f∈qcv (c.getD k []),f∈c
theorem qpz(c:Cpx)(hc:Sm yK c.1):Ret E n_Z165 [dC c] ⟨o_Z165,(pb (VC c.1),())⟩:=by
  have hc1:c.1.length≤1048576:=hc.1
  refine qai ?_
  simp only[run_Z165,Z165.ev]
  refine qew (fun h=>qah ?_) fun h48=>?_
  · rw[qaq fun hv=>by have:=hv.1;omega]
  refine Ev.start (p:=fun φ n=>Z165.l0 (mkR (run E (φ 0))) (φ 0) n c 0=_) 1 ?_ (fun _ _ _ h=>h)
  -- the inner loop
  have inner:∀(k:Nat) (h2:k<c.1.length) (r:Option Dv),((∀ f∈qcv c.1[k],f∈c.1)→Ev fun φ=>Z165.l0 (mkR (run E (φ 0))) (φ 0) (φ 1) c ((k+1:Nat):Int)=r)→(¬ (∀ f∈qcv c.1[k],f∈c.1)→r=some ⟨o_Z165,(false,())⟩)→Ev fun φ=>Z165.l2 (mkR (run E (φ 0))) (φ 0) (φ 1) (φ 0) c (k:Int) c.1[k] 0=r:=fun k h2 r hgo hstop=>by
    have hks:(c.1[k]).length≤1048576:=(qbk hc h2).1
    refine Ev.start (p:=fun φ n=>Z165.l2 (mkR (run E (φ 0))) (φ 0) (φ 1) n c (k:Int) c.1[k] 0=_) 2 ?_ (fun _ _ _ h=>h)
    by_cases hlen:1<(c.1[k]).length
    · obtain⟨t,f⟩:=qkh 2 (L:=fun φ n i=>Z165.l2 (mkR (run E (φ 0))) (φ 0) (φ 1) n c (k:Int) c.1[k] i) (len:=(c.1[k]).length) 0 (by omega) (fun i=>(c.1[k]).eraseIdx i∈c.1) (rt:=r) (rf:=some ⟨o_Z165,(false,())⟩) (fun _ _ _ _=>rfl) (fun i _ hi hP _=>by
        simp only[Z165.l2_succ _ qae]
        refine qax (zac (by omega)) ?_
        simp only[show decide (((c.1[k]).length:Int)>1)=true from zac (by omega),Z165.j3_eq _ qae,cond_true]
        refine qaa (qd4 _ i hi hks) (qaa (qbP c _ hc) (qax (zac ?_) qal))
        have hq:=mt (qbb (c:=c.1) (s:=(c.1[k]).eraseIdx i)).1 hP;simp only;exact Int.not_le.1 hq) (fun i q _ hi hP _ ih=>by
        simp only[Z165.l2_succ _ qae]
        refine qax (zac (by omega)) ?_
        simp only[show decide (((c.1[k]).length:Int)>1)=true from zac (by omega),Z165.j3_eq _ qae,cond_true]
        refine qaa (qd4 _ i hi hks) (qaa (qbP c _ hc) (qaB (zae ?_) ?_))
        · have hq:=(qbb (c:=c.1) (s:=(c.1[k]).eraseIdx i)).2 hP;simp only;exact Int.not_lt.2 hq
        · rw[qad (by omega)];exact ih) (fun hall=>by
        simp only[Z165.l2_succ _ qae]
        refine qaB (zae (by omega)) ?_
        simp only[Z165.j3_eq _ qae,cond_false]
        rw[qad (by omega)]
        exact hgo fun f hf=>by
          obtain⟨_,i,hi,rfl⟩:=qcN.1 hf
          exact hall i (by omega) hi)
      by_cases hall:∀ i,0≤i→i<(c.1[k]).length→(c.1[k]).eraseIdx i∈c.1
      · exact t hall
      · rw[hstop fun hf=>hall fun i _ hi=>hf _ (qcN.2 ⟨hlen,i,hi,rfl⟩)]
        exact f hall
    · refine Ev.round 2 (L:=fun φ n=>Z165.l2 (mkR (run E (φ 0))) (φ 0) (φ 1) n c (k:Int) c.1[k] 0) ?_ (fun _ _ _=>rfl)
      have hgo:=hgo fun f hf=>absurd (qcN.1 hf).1 hlen
      have hj:Ev fun φ=>Z165.j3 (mkR (run E (φ 0))) (φ 0) (φ 1) (φ 2) c (k:Int) c.1[k] 0 false=r:=by
        simp only[Z165.j3_eq _ qae,cond_false]
        rw[qad (by omega)];exact hgo
      simp only[Z165.l2_succ _ qae]
      refine qew (fun _=>?_) fun _=>hj
      simp only[show decide (((c.1[k]).length:Int)>1)=false from zae (by omega)]
      exact hj
  refine(qdk 1 (L:=fun φ n k=>Z165.l0 (mkR (run E (φ 0))) (φ 0) n c k) (len:=c.1.length) 0 (by omega) (qqZ c.1) (fun b=>some ⟨o_Z165,(b,())⟩) (fun _ _ _ _=>rfl) (fun k h1 h2 hP hpre=>?_) (fun k r h1 h2 hP hpre ih=>?_) (fun _=>?_)).to ?_
  · simp only[Z165.l0_succ _ qae]
    refine qax (zac (by omega)) (qab (qak h2) (qaa (qfu _ (qbk hc h2)) ?_))
    refine qbS (fun hv=>?_) fun hv=>?_
    · simp only[Z165.j1_eq _ qae,cond_true];(first | exact qal | exact Ev.of fun _=>trivial)
    · have hv:Vx c.1[k]:=qaD.1 (by simpa using hv)
      have last:(1≤k→qd7 (c.1.getD (k-1) []) (c.1.getD k [])<0)→Ev fun φ=>Z165.j1 (mkR (run E (φ 0))) (φ 0) (φ 1) c (k:Int) c.1[k] false=some ⟨o_Z165,(false,())⟩:=fun hcm=>by
        simp only[Z165.j1_eq _ qae,cond_false]
        refine inner k h2 _ (fun hf=>absurd ⟨⟨by rw[qac h2];exact hv,hcm⟩,by rw[qac h2];exact hf⟩ hP) fun _=>rfl
      refine qew (fun hk=>?_) fun hk=>?_
      · rw[qag (by omega) (by omega),show((k:Int)-1)=((k-1:Nat):Int) by omega]
        have hk1:k-1<c.1.length:=by omega
        refine qab (qak hk1) (qaa (qcX _ _ (qbk hc hk1)) ?_)
        by_cases hcm:qd7 c.1[k-1] c.1[k]<0
        · simp only[qaK hcm]
          exact last fun _=>by rw[qac hk1,qac h2];exact hcm
        · simp only[qaq hcm,Z165.j1_eq _ qae,cond_true,Bool.not_false]
          (first | exact qal | exact Ev.of fun _=>trivial)
      · exact last fun h=>absurd h (by omega)
  · simp only[Z165.l0_succ _ qae]
    obtain⟨⟨hv,hcm⟩,hfc⟩:=hP
    rw[qac h2] at hv hfc
    refine qax (zac (by omega)) (qab (qak h2) (qaa (qfu _ (qbk hc h2)) (qaB (by rw[qaK hv];rfl) ?_)))
    have last:Ev fun φ=>Z165.j1 (mkR (run E (φ 0))) (φ 0) (φ 1) c (k:Int) c.1[k] false=r:=by
      simp only[Z165.j1_eq _ qae,cond_false]
      exact inner k h2 _ (fun _=>ih) fun hn=>absurd hfc hn
    refine qew (fun hk=>?_) fun hk=>last
    rw[qag (by omega) (by omega),show((k:Int)-1)=((k-1:Nat):Int) by omega]
    have hk1:k-1<c.1.length:=by omega
    have hcm:=hcm (by omega)
    rw[qac hk1,qac h2] at hcm
    refine qab (qak hk1) (qaa (qcX _ _ (qbk hc hk1)) ?_)
    simp only[qaK hcm,Bool.not_true]
    exact last
  · simp only[Z165.l0_succ _ qae]
    exact qaB (zae (by omega)) qal
  · have:pb (∀ j,0≤j→j<c.1.length→qqZ c.1 j)=pb (VC c.1):=qaN
      ⟨fun h=>⟨by omega,fun k hk=>(h k (by omega) hk).1.1,fun k h1 hk=>(h k (by omega) hk).1.2 h1,fun k hk=>(h k (by omega) hk).2⟩,
       fun h k _ hk=>⟨⟨h.2.1 k hk,fun h1=>h.2.2.1 k h1 hk⟩,h.2.2.2 k hk⟩⟩
    rw[this]
end VeT
open Go Go.Proofs Ve
namespace VeT
def Pr(p:Int):Prop:=2≤p∧p≤251∧∀ k:Nat,2≤k→(k:Int)*k≤p→p%k≠0
theorem qfp(p:Int):Ret E n_Z17 [dI p] ⟨o_Z17,(pb (Pr p),())⟩:=by
  refine qai ?_
  simp only[run_Z17,Z17.ev]
  refine qaa (qc8 _ _ _) (qbS (fun h=>qah ?_) fun h=>?_)
  · have h:¬ (2≤p∧p≤251):=qa0.1 (by simpa using h)
    rw[qaq fun hp=>h ⟨hp.1,hp.2.1⟩]
  have hr:2≤p∧p≤251:=qaD.1 (by simpa using h)
  refine Ev.start (p:=fun φ n=>Z17.l0 (mkR (run E (φ 0))) (φ 0) n p 2=_) 1 ?_ (fun _ _ _ h=>h)
  refine qe4 1 (σ:=Nat) (L:=fun φ n k=>Z17.l0 (mkR (run E (φ 0))) (φ 0) n p (k:Int)) (fun _ _ _ _=>rfl) (fun k=>2≤k∧k≤17∧∀ j:Nat,2≤j→j<k→(j:Int)*j≤p→p%j≠0) (fun _=>_) (fun k=>17-k) (fun k ⟨h1,h2,h3⟩ ih=>?_) 2 ⟨by omega,by omega,fun j _ _=>by omega⟩
  simp only[Z17.l0_succ _ qae]
  have hkk:0≤(k:Int)*k∧(k:Int)*k≤289:=⟨Int.mul_nonneg (by omega) (by omega),by have:=zbd h2 h2;omega⟩
  have e:w64 ((k:Int)*k)=(k:Int)*k:=qag (by omega) (by omega)
  simp only[e]
  refine qew (fun hle=>?_) fun hle=>qah ?_
  · have hk16:k<16:=Classical.byContradiction fun hn=>by
      have:=zbd (show 16≤k by omega) (show 16≤k by omega);omega
    refine qao (by simp;omega) ?_
    rw[zaH (by omega)]
    refine qbS (fun h0=>qah ?_) fun h0=>?_
    · rw[qaq fun hp=>hp.2.2 k h1 hle (by simpa using h0)]
    · rw[qad (by omega)]
      refine ih (k+1) ⟨by omega,by omega,fun j hj1 hj2 hj3=>?_⟩ (by show 17-(k+1)<17-k;omega)
      by_cases hjk:j=k
      · subst hjk;simpa using h0
      · exact h3 j hj1 (by omega) hj3
  · rw[qaK]
    refine⟨hr.1,hr.2,fun j hj1 hj2=>?_⟩
    by_cases hjk:j<k
    · exact h3 j hj1 hjk hj2
    · exfalso
      have:=zbd (show k≤j by omega) (show k≤j by omega);omega
theorem qme(p:Int):Ret E n_Z141 [dI p] ⟨o_Z141,(pb (Pr p),())⟩:=by
  refine qai ?_
  simp only[run_Z141,Z141.ev]
  refine qaa (qb5 _ _ _) (qbS (fun h=>qah ?_) fun h=>?_)
  · have h:¬ (2≤p∧p≤251):=qa0.1 (by simpa using h)
    rw[qaq fun hp=>h ⟨hp.1,hp.2.1⟩]
  have hr:2≤p∧p≤251:=qaD.1 (by simpa using h)
  refine Ev.start (p:=fun φ n=>Z141.l0 (mkR (run E (φ 0))) (φ 0) n p 2=_) 1 ?_ (fun _ _ _ h=>h)
  refine qe4 1 (σ:=Nat) (L:=fun φ n k=>Z141.l0 (mkR (run E (φ 0))) (φ 0) n p (k:Int)) (fun _ _ _ _=>rfl) (fun k=>2≤k∧k≤17∧∀ j:Nat,2≤j→j<k→(j:Int)*j≤p→p%j≠0) (fun _=>_) (fun k=>17-k) (fun k ⟨h1,h2,h3⟩ ih=>?_) 2 ⟨by omega,by omega,fun j _ _=>by omega⟩
  simp only[Z141.l0_succ _ qae]
  have hkk:0≤(k:Int)*k∧(k:Int)*k≤289:=⟨Int.mul_nonneg (by omega) (by omega),by have:=zbd h2 h2;omega⟩
  have e:w64 ((k:Int)*k)=(k:Int)*k:=qag (by omega) (by omega)
  simp only[e]
  refine qew (fun hle=>?_) fun hle=>qah ?_
  · have hk16:k<16:=Classical.byContradiction fun hn=>by
      have:=zbd (show 16≤k by omega) (show 16≤k by omega);omega
    refine qao (by simp;omega) ?_
    rw[zaH (by omega)]
    refine qbS (fun h0=>qah ?_) fun h0=>?_
    · rw[qaq fun hp=>hp.2.2 k h1 hle (by simpa using h0)]
    · rw[qad (by omega)]
      refine ih (k+1) ⟨by omega,by omega,fun j hj1 hj2 hj3=>?_⟩ (by show 17-(k+1)<17-k;omega)
      by_cases hjk:j=k
      · subst hjk;simpa using h0
      · exact h3 j hj1 (by omega) hj3
  · rw[qaK]
    refine⟨hr.1,hr.2,fun j hj1 hj2=>?_⟩
    by_cases hjk:j<k
    · exact h3 j hj1 hjk hj2
    · exfalso
      have:=zbd (show k≤j by omega) (show k≤j by omega);omega
theorem qdE(p:Int):Ret E n_Z123 [dI p] ⟨o_Z123,(pb (Pr p),())⟩:=by
 refine qai ?_
 simp only[run_Z123,Z123.ev]
 exact qaa (qme p) qal
def qaC(v:Sim)(p:Int):Prop:=∀ x∈v,0≤x∧x≤p-1
theorem qkM(a p:Int)(hp:0≤p∧p≤1048576):Ret E n_Z57 [dI a,dI p] ⟨o_Z57,(pb (0≤a∧a≤p-1),())⟩:=by
 refine qai ?_
 simp only[run_Z57,Z57.ev]
 rw[qag (by omega) (by omega)]
 exact qaa (qc8 _ _ _) qal
theorem qg5(a p:Int)(hp:0≤p∧p≤1048576):Ret E n_Z25 [dI a,⟨.ptr (.cons yI .nil),(p,())⟩] ⟨o_Z25,(!pb (0≤a∧a≤p-1),())⟩:=by
 refine qai ?_
 simp only[run_Z25,Z25.ev]
 exact qaa (qkM _ _ hp) qal
theorem qkN{α:Type}{s:List α}{P:α→Prop}:(!pb (∃ x∈s,(!pb (P x))=true))=pb (∀ x∈s,P x):=qfy (by
 simp only[zbU,qa0]
 exact⟨fun h x hx=>Classical.byContradiction fun hn=>h ⟨x,hx,hn⟩,fun h ⟨x,hx,hn⟩=>hn (h x hx)⟩)
theorem qdd(v:Sim)(p:Int)(hv:v.length≤1048576)(hp:0≤p∧p≤1048576):Ret E n_Z24 [dL v,dI p] ⟨o_Z24,(pb (qaC v p),())⟩:=by
 refine qai ?_
 simp only[run_Z24,Z24.ev]
 refine qaa (qbj v ((p,()),()) _ hv fun x _=>qg5 x p hp) (qah ?_)
 simp only[qkN];rfl
theorem qf1(v:Sim)(n p:Int)(hv:v.length≤1048576)(hp:0≤p∧p≤1048576):Ret E n_Z143 [dL v,dI n,dI p] ⟨o_Z143,(pb (qaC v p∧(v.length:Int)=n),())⟩:=by
  have e:w64 (p-1)=p-1:=qag (by omega) (by omega)
  refine qai ?_
  simp only[run_Z143,Z143.ev]
  refine Ev.start (p:=fun φ n'=>Z143.l0 (mkR (run E (φ 0))) (φ 0) n' v n p 0=_) 1 ?_ (fun _ _ _ h=>h)
  refine(qdk 1 (L:=fun φ n' k=>Z143.l0 (mkR (run E (φ 0))) (φ 0) n' v n p k) (len:=v.length) 0 (by omega) (fun j=>0≤v.getD j 0∧v.getD j 0≤p-1) (fun b=>some ⟨o_Z143,(b&&((v.length:Int)==n),())⟩) (fun _ _ _ _=>rfl) (fun k h1 h2 hP _=>?_) (fun k r h1 h2 hP _ ih=>?_) (fun _=>?_)).to ?_
  · simp only[Z143.l0_succ _ qae,e]
    rw[qac h2] at hP
    exact qax (zac (by omega)) (qab (qak h2) (qaa (qb5 _ _ _) (qax (by rw[qaq hP];rfl) qal)))
  · simp only[Z143.l0_succ _ qae,e]
    rw[qac h2] at hP
    refine qax (zac (by omega)) (qab (qak h2) (qaa (qb5 _ _ _) (qaB (by rw[qaK hP];rfl) ?_)))
    rw[qad (by omega)];exact ih
  · simp only[Z143.l0_succ _ qae]
    exact qaB (zae (by omega)) (qah (by rw[Bool.true_and]))
  · have:(pb (∀ j,0≤j→j<v.length→0≤v.getD j 0∧v.getD j 0≤p-1)&&((v.length:Int)==n))=pb (qaC v p∧(v.length:Int)=n):=qfy (by
      rw[zah,qaD,beq_iff_eq]
      refine and_congr_left' ⟨fun h x hx=>?_,fun h j _ hj=>?_⟩
      · obtain⟨j,hj,rfl⟩:=zaC.1 hx
        have:=h j (by omega) hj
        rwa [qac hj] at this
      · rw[qac hj];exact h _ (zaj hj))
    rw[this]
theorem qj4(n:Int):Ret E n_Z61 [dI n] ⟨o_Z61,(pb (0≤n∧n≤32),())⟩:=by
 refine qai ?_
 simp only[run_Z61,Z61.ev]
 exact qaa (qc8 _ _ _) qal
theorem qdm(s:Sim):Ret E n_Z79 [dL s] ⟨o_Z79,((s.length:Int),())⟩:=by
 refine qai ?_
 simp only[run_Z79,Z79.ev]
 (first | exact qal | exact Ev.of fun _=>trivial)
theorem qgi(s:List Sim):Ret E n_Z78 [dLL s] ⟨o_Z78,((s.length:Int),())⟩:=by
 refine qai ?_
 simp only[run_Z78,Z78.ev]
 (first | exact qal | exact Ev.of fun _=>trivial)
def VM(m:Mat):Prop:=Pr m.1∧(0≤m.2.1∧m.2.1≤32)∧(0≤m.2.2.1∧m.2.2.1≤32)∧(m.2.2.2.1.length:Int)=m.2.1*m.2.2.1∧qaC m.2.2.2.1 m.1
theorem qk5{a b:Int}(ha:0≤a∧a≤32)(hb:0≤b∧b≤32):0≤a*b∧a*b≤1024:=by
 obtain⟨x,rfl⟩:=zaL ha.1
 obtain⟨y,rfl⟩:=zaL hb.1
 have:=zbd (show x≤32 by omega) (show y≤32 by omega)
 have e:(x:Int)*y=((x*y:Nat):Int):=by simp
 show 0≤(x:Int)*y∧(x:Int)*y≤1024
 rw[e];omega
theorem qiS(m:Mat)(hm:Sm (.st cM) m):Ret E n_Z16 [dI m.1,dI m.2.1,dI m.2.2.1,dL m.2.2.2.1] ⟨o_Z16,(pb (VM m),())⟩:=by
 have hl:m.2.2.2.1.length≤1048576:=hm.2.2.2.1.1
 refine qai ?_
 simp only[run_Z16,Z16.ev]
 refine qaa (qfp _) (qbS (fun h1=>qaa (qj4 _) (qbS (fun h2=>qaa (qj4 _) (qbS (fun h3=>qaa (qdm _) (qbS (fun h4=>?_) fun h4=>qah ?_)) fun h3=>qah ?_)) fun h2=>qah ?_)) fun h1=>qah ?_)
 ·have h1:=qaD.1 h1;have h2:=qaD.1 h2;have h3:=qaD.1 h3
  have:=qk5 h2 h3
  rw[qag (by omega) (by omega)] at h4
  refine qaa (qdd _ _ hl ⟨by have:=h1.1;omega,by have:=h1.2.1;omega⟩) (qah ?_)
  exact congrArg (fun b:Bool=>some (⟨o_Z16,(b,())⟩:Dv)) (qaN ⟨fun h=>⟨h1,h2,h3,by simpa using h4,h⟩,fun h=>h.2.2.2.2⟩)
 ·have h2:=qaD.1 h2;have h3:=qaD.1 h3
  have:=qk5 h2 h3
  rw[qag (by omega) (by omega)] at h4
  rw[qaq fun h=>by have:=h.2.2.2.1;simp[this] at h4]
 ·rw[qaq fun h=>qa0.1 h3 h.2.2.1]
 ·rw[qaq fun h=>qa0.1 h2 h.2.1]
 ·rw[qaq fun h=>qa0.1 h1 h.1]
theorem qlr(m:Mat)(hm:Sm (.st cM) m):Ret E n_Z149 [dM m] ⟨o_Z149,(pb (VM m),())⟩:=by
 have hl:m.2.2.2.1.length≤1048576:=hm.2.2.2.1.1
 refine qai ?_
 simp only[run_Z149,Z149.ev]
 refine qaa (qdE _) (qbS (fun h1=>qaa (qb5 _ _ _) (qbS (fun h2=>qaa (qb5 _ _ _) (qbS (fun h3=>?_) fun h3=>qah ?_)) fun h2=>qah ?_)) fun h1=>qah ?_)
 ·have h1:=qaD.1 h1;have h2:=qaD.1 h2;have h3:=qaD.1 h3
  have:=qk5 h2 h3
  rw[qag (by omega) (by omega)]
  refine qaa (qf1 _ _ _ hl ⟨by have:=h1.1;omega,by have:=h1.2.1;omega⟩) (qah ?_)
  exact congrArg (fun b:Bool=>some (⟨o_Z149,(b,())⟩:Dv)) (qaN ⟨fun h=>⟨h1,h2,h3,h.2,h.1⟩,fun h=>⟨h.2.2.2.2,h.2.2.2.1⟩⟩)
 ·rw[qaq fun h=>qa0.1 h3 h.2.2.1]
 ·rw[qaq fun h=>qa0.1 h2 h.2.1]
 ·rw[qaq fun h=>qa0.1 h1 h.1]
def Bt(m:Mat)(p f t:Int):Prop:=VM m∧m.1=p∧m.2.1=t∧m.2.2.1=f
theorem qf9(m:Mat)(p f t:Int)(hm:Sm (.st cM) m):Ret E n_Z55 [dI m.1,dI m.2.1,dI m.2.2.1,dL m.2.2.2.1,dI p,dI f,dI t] ⟨o_Z55,(pb (Bt m p f t),())⟩:=by
 refine qai ?_
 simp only[run_Z55,Z55.ev]
 refine qaa (qiS m hm) (qbS (fun h1=>qbS (fun h2=>qbS (fun h3=>qah ?_) fun h3=>qah ?_) fun h2=>qah ?_) fun h1=>qah ?_)
 ·have h1:=qaD.1 h1
  have:(m.2.2.1==f)=pb (Bt m p f t):=qfy (by
   rw[beq_iff_eq];exact⟨fun h=>⟨h1,by simpa using h2,by simpa using h3,h⟩,fun h=>h.2.2.2⟩)
  rw[this]
 ·rw[qaq fun h=>by have:=h.2.2.1;simp[this] at h3]
 ·rw[qaq fun h=>by have:=h.2.1;simp[this] at h2]
 ·rw[qaq fun h=>qa0.1 h1 h.1]
def qay(c:List Sim)(d:Int)(k:Nat):List Int:=((List.range k).filter fun i=>decide (((c.getD i []).length:Int)=d+1)).map Int.ofNat
theorem qcG(c:List Sim)(d:Int)(k:Nat):qay c d (k+1)=qay c d k++if ((c.getD k []).length:Int)=d+1 then [(k:Int)] else []:=by
 unfold qay
 rw[zaA,List.filter_append,zat]
 congr 1
 by_cases h:((c.getD k []).length:Int)=d+1
 ·rw[if_pos h,List.filter_cons_of_pos (by simpa using h)];rfl
 ·rw[if_neg h,List.filter_cons_of_neg (by simpa using h)];rfl
theorem qbQ(c:List Sim)(d:Int)(k:Nat):(qay c d k).length≤k:=by
 unfold qay
 rw[zaR]
 exact zaP (List.length_filter_le _ _) (by simp)
theorem qeX{c:List Sim}{d:Int}{k:Nat}{x:Int}(h:x∈qay c d k):∃ i:Nat,x=i∧i<k:=by
 unfold qay at h
 rw[zaO] at h
 obtain⟨i,hi,rfl⟩:=h
 exact⟨i,rfl,by have:=(zbQ.1 hi).1;simpa using this⟩
theorem qdl(c:List Sim)(d:Int)(hc:Sm yK c)(hd:-1≤d∧d≤1048576):Ret E n_Z77 [dLL c,dI d] ⟨o_Z77,(qay c d c.length,())⟩:=by
 have hc1:c.length≤1048576:=hc.1
 have hd1:w64 (d+1)=d+1:=qag (by omega) (by omega)
 refine qai ?_
 simp only[run_Z77,Z77.ev]
 refine Ev.start (p:=fun φ n=>Z77.l0 (mkR (run E (φ 0))) (φ 0) n d c (c.length:Int) 0 []=_) 1 ?_ (fun _ _ _ h=>h)
 refine qam 1 (L:=fun φ n k a=>Z77.l0 (mkR (run E (φ 0))) (φ 0) n d c (c.length:Int) k a) (len:=c.length) (fun k=>qay c d k) (fun _ _ _ _ _=>rfl) (fun k r hk ih=>?_) ?_
 ·simp only[Z77.l0_succ _ qae,hd1]
  rw[qcG,qac hk] at ih
  have hlen:=qbQ c d k
  refine qax (zac (by omega)) (qab (qak hk) (qaa (qdm _) ?_))
  rw[qad (by omega)]
  refine qbS (fun he=>qao (zac (by simp only[zbh,zbE];omega)) ?_) fun he=>?_
  ·rw[if_pos (by simpa using he)] at ih;exact ih
  ·rw[if_neg (by simpa using he),zbm] at ih;exact ih
 ·simp only[Z77.l0_succ _ qae]
  exact qaB (zae (by omega)) qal
theorem qlX(c:List Sim)(d:Int)(hc:Sm yK c)(hd:-1≤d∧d≤1048576):Ret E n_Z164 [dC (c,()),dI d] ⟨o_Z164,(qay c d c.length,())⟩:=by
 have hc1:c.length≤1048576:=hc.1
 have hd1:w64 (d+1)=d+1:=qag (by omega) (by omega)
 refine qai ?_
 simp only[run_Z164,Z164.ev]
 refine Ev.start (p:=fun φ n=>Z164.l0 (mkR (run E (φ 0))) (φ 0) n (c,()) d 0 []=_) 1 ?_ (fun _ _ _ h=>h)
 refine qam 1 (L:=fun φ n k a=>Z164.l0 (mkR (run E (φ 0))) (φ 0) n (c,()) d k a) (len:=c.length) (fun k=>qay c d k) (fun _ _ _ _ _=>rfl) (fun k r hk ih=>?_) ?_
 ·simp only[Z164.l0_succ _ qae,hd1]
  rw[qcG,qac hk] at ih
  have hlen:=qbQ c d k
  refine qax (zac (by omega)) (qab (qak hk) ?_)
  rw[qad (by omega)]
  refine qbS (fun he=>qao (zac (by simp only[zbh,zbE];omega)) ?_) fun he=>?_
  ·rw[if_pos (by simpa using he)] at ih;exact ih
  ·rw[if_neg (by simpa using he),zbm] at ih;exact ih
 ·simp only[Z164.l0_succ _ qae]
  exact qaB (zae (by omega)) qal
def qgx(c:List Sim)(st:Sim)(d:Int)(k:Nat):Int:=(((qay c d c.length).take k).map fun i=>st.getD i.toNat 0).sum
theorem qeK(c:List Sim)(st:Sim)(d:Int)(k:Nat)(h:k<(qay c d c.length).length):qgx c st d (k+1)=qgx c st d k+st.getD ((qay c d c.length)[k]).toNat 0:=by
 unfold qgx
 rw[zay h,zat,List.sum_append]
 simp
theorem qhS{c:List Sim}{st:Sim}(hst:∀ x∈st,0≤x∧x≤3)(d:Int)(k:Nat):0≤qgx c st d k∧qgx c st d k≤3*k:=by
  induction k with
  | zero=>simp[qgx]
  | succ k ih =>
    by_cases h:k<(qay c d c.length).length
    · rw[qeK _ _ _ _ h]
      have:0≤st.getD ((qay c d c.length)[k]).toNat 0∧st.getD ((qay c d c.length)[k]).toNat 0≤3:=by
        by_cases hl:((qay c d c.length)[k]).toNat<st.length
        · rw[qac hl];exact hst _ (zaj hl)
        · rw[zaa,zaw (by omega)];simp
      omega
    · have:qgx c st d (k+1)=qgx c st d k:=by
        unfold qgx
        rw[zav (by omega),zav (by omega)]
      omega
theorem qcd(c:List Sim)(st:Sim)(d:Int)(p:Int)(ms:List Mat)(hc:Sm yK c)(hl:st.length=c.length)(hst:∀ x∈st,0≤x∧x≤3)(hd:-1≤d∧d≤1048576) :
  Ret E n_Z81 [dLL c,dI p,dL st,dMs ms,dI d] ⟨o_Z81,(qgx c st d (qay c d c.length).length,())⟩:=by
 have hc1:c.length≤1048576:=hc.1
 have hol:=qbQ c d c.length
 refine qai ?_
 simp only[run_Z81,Z81.ev]
 refine qaa (qdl c d hc hd) ?_
 refine Ev.start (p:=fun φ n=>Z81.l0 (mkR (run E (φ 0))) (φ 0) n 0 (qay c d c.length) ((qay c d c.length).length:Int) 0 c p st ms=_) 1 ?_ (fun _ _ _ h=>h)
 refine qam 1 (L:=fun φ n k a=>Z81.l0 (mkR (run E (φ 0))) (φ 0) n a (qay c d c.length) ((qay c d c.length).length:Int) k c p st ms) (len:=(qay c d c.length).length) (fun k=>qgx c st d k) (fun _ _ _ _ _=>rfl) (fun k r hk ih=>?_) ?_
 ·simp only[Z81.l0_succ _ qae]
  obtain⟨i,hi,hik⟩:=qeX (zaj hk)
  rw[qeK _ _ _ _ hk,hi,zai,qac (by omega)] at ih
  have hb:=qhS hst d k (c:=c)
  have hb2:=hst _ (zaj (show i<st.length by omega))
  refine qax (zac (by omega)) (qab (qak hk) ?_)
  simp only[hi]
  refine qab (qak (by omega)) ?_
  rw[qad (by omega),qag (by omega) (by omega)]
  exact ih
 ·simp only[Z81.l0_succ _ qae]
  exact qaB (zae (by omega)) qal
theorem qgL(c:List Sim)(st:Sim)(d:Int)(hc:Sm yK c)(hl:st.length=c.length)(hst:∀ x∈st,0≤x∧x≤3)(hd:-1≤d∧d≤1048576) :
  Ret E n_Z184 [dC (c,()),dL st,dI d] ⟨o_Z184,(qgx c st d (qay c d c.length).length,())⟩:=by
 have hc1:c.length≤1048576:=hc.1
 have hol:=qbQ c d c.length
 refine qai ?_
 simp only[run_Z184,Z184.ev]
 refine qaa (qlX c d hc hd) ?_
 refine Ev.start (p:=fun φ n=>Z184.l0 (mkR (run E (φ 0))) (φ 0) n st (qay c d c.length) 0 0=_) 1 ?_ (fun _ _ _ h=>h)
 refine qam 1 (L:=fun φ n k a=>Z184.l0 (mkR (run E (φ 0))) (φ 0) n st (qay c d c.length) a k) (len:=(qay c d c.length).length) (fun k=>qgx c st d k) (fun _ _ _ _ _=>rfl) (fun k r hk ih=>?_) ?_
 ·simp only[Z184.l0_succ _ qae]
  obtain⟨i,hi,hik⟩:=qeX (zaj hk)
  rw[qeK _ _ _ _ hk,hi,zai,qac (by omega)] at ih
  have hb:=qhS hst d k (c:=c)
  have hb2:=hst _ (zaj (show i<st.length by omega))
  refine qax (zac (by omega)) (qab (qak hk) ?_)
  simp only[hi]
  refine qab (qak (by omega)) ?_
  rw[qad (by omega),qag (by omega) (by omega)]
  exact ih
 ·simp only[Z184.l0_succ _ qae]
  exact qaB (zae (by omega)) qal
end VeT
open Go Go.Proofs Ve
namespace VeT
theorem qom{c:List Sim}{st:Sim}(hst:∀ x∈st,0≤x∧x≤3)(d:Int):0≤qgx c st d (qay c d c.length).length:=(qhS hst d _).1
def SD(c:List Sim)(st:Sim)(d:Int):Int:=qgx c st d (qay c d c.length).length
def SK(c:List Sim)(st:Sim):Prop:=st.length=c.length∧(∀ x∈st,0≤x∧x≤3)∧∀ d:Nat,d<4→SD c st (d:Int)≤32
theorem qh0(n:Int):Ret E n_Z28 [dI n] ⟨o_Z28,(!pb (0≤n∧n≤3),())⟩:=by
 refine qai ?_
 simp only[run_Z28,Z28.ev]
 exact qaa (qc8 _ _ _) qal
theorem qkF(c:List Sim)(st:Sim)(hc:Sm yK c)(hs:st.length≤1048576):Ret E n_Z27 [dLL c,dL st] ⟨o_Z27,(pb (SK c st),())⟩:=by
  refine qai ?_
  simp only[run_Z27,Z27.ev]
  refine qbS (fun h=>?_) fun h=>?_
  · simp only[Z27.j0_eq _ qae,cond_true]
    have h:¬ (st.length:Int)=c.length:=by simpa using h
    rw[qaq fun hk=>h (by rw[hk.1])];(first | exact qal | exact Ev.of fun _=>trivial)
  have hl : st.length = c.length := by have : (st.length : Int) = c.length := by simpa using h
                                       omega
  refine qaa (qbo st _ hs fun x _=>qh0 x) ?_
  simp only[Z27.j0_eq _ qae]
  have e:=qkN (s:=st) (P:=fun x=>0≤x∧x≤3)
  refine qbS (fun h=>?_) fun h=>?_
  · simp only[h] at e
    rw[qaq fun hk=>qa0.1 e.symm hk.2.1];(first | exact qal | exact Ev.of fun _=>trivial)
  · simp only[h] at e
    have hst:∀ x∈st,0≤x∧x≤3:=qaD.1 e.symm
    refine Ev.start (p:=fun φ n=>Z27.l1 (mkR (run E (φ 0))) (φ 0) n st 0 c=_) 1 ?_ (fun _ _ _ h=>h)
    refine(qdk 1 (L:=fun φ n k=>Z27.l1 (mkR (run E (φ 0))) (φ 0) n st k c) (len:=4) 0 (by omega) (fun d=>SD c st (d:Int)≤32) (fun b=>some ⟨o_Z27,(b,())⟩) (fun _ _ _ _=>rfl) (fun k h1 h2 hP _=>?_) (fun k r h1 h2 hP _ ih=>?_) (fun _=>?_)).to ?_
    · simp only[Z27.l1_succ _ qae]
      exact qax (zac (by omega)) (qaa (qcd c st _ _ _ hc hl hst (by omega)) (qax (zac (Int.not_le.1 hP)) qal))
    · simp only[Z27.l1_succ _ qae]
      refine qax (zac (by omega)) (qaa (qcd c st _ _ _ hc hl hst (by omega)) (qaB (zae (Int.not_lt.2 hP)) ?_))
      rw[qad (by omega)];exact ih
    · simp only[Z27.l1_succ _ qae]
      exact qaB (zae (by omega)) qal
    · exact congrArg (fun b:Bool=>some (⟨o_Z27,(b,())⟩:Dv)) (qaN ⟨fun h=>⟨hl,hst,fun d hd=>h d (by omega) hd⟩,fun h d _ hd=>h.2.2 d hd⟩)
theorem qks(c:List Sim)(st:Sim)(hc:Sm yK c)(hs:st.length≤1048576):Ret E n_Z183 [dC (c,()),dL st] ⟨o_Z183,(pb (SK c st),())⟩:=by
 refine qai ?_
 simp only[run_Z183,Z183.ev]
 refine qaa (qf1 st _ _ hs (by omega)) (qbS (fun h=>?_) fun h=>?_)
 ·have h:=qa0.1 (show pb (qaC st 4∧(st.length:Int)=c.length)=false by simpa using h)
  rw[qaq fun hk=>h ⟨hk.2.1,by rw[hk.1]⟩];(first | exact qal | exact Ev.of fun _=>trivial)
 ·have h:=qaD.1 (show pb (qaC st 4∧(st.length:Int)=c.length)=true by simpa using h)
  have hl:st.length=c.length:=by have:=h.2;omega
  have hst:∀ x∈st,0≤x∧x≤3:=h.1
  refine Ev.start (p:=fun φ n=>Z183.l0 (mkR (run E (φ 0))) (φ 0) n (c,()) st 0=_) 1 ?_ (fun _ _ _ h=>h)
  refine(qdk 1 (L:=fun φ n k=>Z183.l0 (mkR (run E (φ 0))) (φ 0) n (c,()) st k) (len:=4) 0 (by omega) (fun d=>SD c st (d:Int)≤32) (fun b=>some ⟨o_Z183,(b,())⟩) (fun _ _ _ _=>rfl) (fun k h1 h2 hP _=>?_) (fun k r h1 h2 hP _ ih=>?_) (fun _=>?_)).to ?_
  ·simp only[Z183.l0_succ _ qae]
   exact qax (zac (by omega)) (qaa (qgL c st _ hc hl hst (by omega)) (qax (zac (Int.not_le.1 hP)) qal))
  ·simp only[Z183.l0_succ _ qae]
   refine qax (zac (by omega)) (qaa (qgL c st _ hc hl hst (by omega)) (qaB (zae (Int.not_lt.2 hP)) ?_))
   rw[qad (by omega)];exact ih
  ·simp only[Z183.l0_succ _ qae]
   exact qaB (zae (by omega)) qal
  ·exact congrArg (fun b:Bool=>some (⟨o_Z183,(b,())⟩:Dv)) (qaN ⟨fun h=>⟨hl,hst,fun d hd=>h d (by omega) hd⟩,fun h d _ hd=>h.2.2 d hd⟩)
noncomputable def qaI(c:List Sim)(k:Nat):List Int:=(qcv (c.getD k [])).map (qdL c)
theorem qnl{c:List Sim}{s:Sim}:qdL c s<c.length∧-1≤qdL c s:=by
 unfold qdL qjz
 cases h:c.findIdx? (fun x=>pb (x=s)) with
 | none=>simp only[o2i];omega
 | some k =>
  rw[zbz] at h
  obtain⟨h,_⟩:=h
  simp only[o2i];omega
theorem qaE{c:List Sim}{k:Nat}:(qaI c k).length=if 1<(c.getD k []).length then(c.getD k []).length else 0:=by
 unfold qaI qcv
 rw[zaR]
 split<;>simp
theorem qkK{c:List Sim}(h:VC c){k:Nat}(hk:k<c.length){x:Int}(hx:x∈qaI c k):0≤x∧x<c.length:=by
 unfold qaI at hx
 rw[zaO] at hx
 obtain⟨f,hf,rfl⟩:=hx
 exact⟨qbb.2 (h.2.2.2 k hk f hf),qnl.1⟩
theorem qcm(c:List Sim)(k:Nat)(hk:k<c.length)(hc:Sm yK c)(hs:Srt c):Ret E n_Z41 [dLL c,dI (k:Int)] ⟨o_Z41,(qaI c k,())⟩:=by
 have hks:(c[k]).length≤1048576:=(qbk hc hk).1
 have hfl:=qhg (s:=c[k])
 refine qai ?_
 simp only[run_Z41,Z41.ev]
 refine qab (qak hk) (qaa (qfH _ hks) ?_)
 refine Ev.start (p:=fun φ n=>Z41.l0 (mkR (run E (φ 0))) (φ 0) n (qcv c[k]) ((qcv c[k]).length:Int) 0 c []=_) 1 ?_ (fun _ _ _ h=>h)
 refine qam 1 (L:=fun φ n j a=>Z41.l0 (mkR (run E (φ 0))) (φ 0) n (qcv c[k]) ((qcv c[k]).length:Int) j c a) (len:=(qcv c[k]).length) (fun j=>((qcv c[k]).take j).map (qdL c)) (fun _ _ _ _ _=>rfl) (fun j r hj ih=>?_) ?_
 ·simp only[Z41.l0_succ _ qae]
  rw[zay hj,zat] at ih
  refine qax (zac (by omega)) (qab (qak hj) (qaa (qfP c _ hc hs) (qao (by simp;omega) ?_)))
  rw[qad (by omega)];exact ih
 ·simp only[Z41.l0_succ _ qae]
  refine qaB (zae (by omega)) (qah ?_)
  rw[zav (zaf _),qaI,qac hk]
theorem qcj(c:List Sim)(k:Nat)(hk:k<c.length)(hc:Sm yK c):Ret E n_Z162 [dC (c,()),dI (k:Int)] ⟨o_Z162,(qaI c k,())⟩:=by
 have hks:(c[k]).length≤1048576:=(qbk hc hk).1
 refine qai ?_
 simp only[run_Z162,Z162.ev]
 refine qab (qak hk) ?_
 refine Ev.start (p:=fun φ n=>Z162.l0 (mkR (run E (φ 0))) (φ 0) n (c,()) c[k] 0 []=_) 1 ?_ (fun _ _ _ h=>h)
 by_cases hlen:1<(c[k]).length
 ·refine qam 1 (L:=fun φ n j a=>Z162.l0 (mkR (run E (φ 0))) (φ 0) n (c,()) c[k] j a) (len:=(c[k]).length) (fun j=>(List.range j).map fun i=>qdL c ((c[k]).eraseIdx i)) (fun _ _ _ _ _=>rfl) (fun j r hj ih=>?_) ?_
  ·simp only[Z162.l0_succ _ qae]
   rw[zaA,zat] at ih
   refine qax (zac (by omega)) ?_
   simp only[show decide (((c[k]).length:Int)>1)=true from zac (by omega),Z162.j1_eq _ qae,cond_true]
   refine qaa (qd4 _ j hj hks) (qaa (qbP (c,()) _ hc) (qao (by simp;omega) ?_))
   rw[qad (by omega)];exact ih
  ·simp only[Z162.l0_succ _ qae]
   refine qaB (zae (by omega)) ?_
   simp only[Z162.j1_eq _ qae,cond_false]
   refine qah ?_
   rw[qaI,qac hk,qcv,if_pos hlen,List.map_map];rfl
 ·refine Ev.round 1 (L:=fun φ n=>Z162.l0 (mkR (run E (φ 0))) (φ 0) n (c,()) c[k] 0 []) ?_ (fun _ _ _=>rfl)
  have hj:Ev fun φ=>Z162.j1 (mkR (run E (φ 0))) (φ 0) (φ 1) (c,()) c[k] 0 false []=some ⟨o_Z162,(qaI c k,())⟩:=by
   simp only[Z162.j1_eq _ qae,cond_false]
   refine qah ?_
   rw[qaI,qac hk,qcv,if_neg hlen];rfl
  simp only[Z162.l0_succ _ qae]
  refine qew (fun _=>?_) fun _=>hj
  simp only[show decide (((c[k]).length:Int)>1)=false from zae (by omega)]
  exact hj
abbrev Arw:=Int×Int×Int×Unit
noncomputable def qmm(c:List Sim)(k i:Nat):List Arw:=(List.range i).map fun(j:Nat)=>((k:Int),(j:Int),(qaI c k).getD j 0,())
noncomputable def qb2(c:List Sim):Nat→List Arw
 | 0=>[]
 | k+1=>qb2 c k++qmm c k (qaI c k).length
noncomputable def plc(c:List Sim)(k:Nat):Nat:=(qb2 c k).length
theorem qef{c:List Sim}{k i:Nat}:(qmm c k i).length=i:=by simp[qmm]
theorem qfg{c:List Sim}{k:Nat}:plc c (k+1)=plc c k+(qaI c k).length:=by
 unfold plc;rw[qb2,zal,qef]
theorem VC.len4{c:List Sim}(h:VC c){k:Nat}(hk:k<c.length):(c.getD k []).length≤4:=(h.2.1 k hk).2.1
theorem VC.fIdx4{c:List Sim}(h:VC c){k:Nat}(hk:k<c.length):(qaI c k).length≤4:=by
 have:=h.len4 hk
 rw[qaE];split<;>omega
theorem VC.plc{c:List Sim}(h:VC c):∀ {k:Nat},k≤c.length→plc c k≤4*k
 | 0,_=>by simp[VeT.plc,qb2]
 | k+1,hk=>by
  have h1:=h.plc (k:=k) (by omega)
  have h2:=h.fIdx4 (k:=k) (by omega)
  rw[qfg];omega
theorem qcL{c:List Sim}:∀ {n k i:Nat},k<n→i<(qaI c k).length→(qb2 c n)[plc c k+i]? = some ((k:Int),(i:Int),(qaI c k).getD i 0,())
 | 0,_,_,h,_=>by omega
 | n+1,k,i,h,hi=>by
  rw[qb2]
  by_cases hk:k<n
  ·have:=qcL hk hi
   have hl:=(zak.1 this).1
   rw[zao hl];exact this
  ·obtain rfl:k=n:=by omega
   rw[zap (by unfold plc;omega)]
   rw[show plc c k+i-(qb2 c k).length=i by unfold plc;omega]
   simp[qmm,hi]
theorem qhZ{c:List Sim}:∀ {n t:Nat},t<(qb2 c n).length→∃ k i,k<n∧i<(qaI c k).length∧t=plc c k+i
 | 0,_,h=>by simp[qb2] at h
 | n+1,t,h=>by
  by_cases ht:t<(qb2 c n).length
  ·obtain⟨k,i,h1,h2,h3⟩:=qhZ ht
   exact⟨k,i,by omega,h2,h3⟩
  ·rw[qb2,zal,qef] at h
   exact⟨n,t-(qb2 c n).length,by omega,by omega,by unfold plc;omega⟩
theorem qon(c:List Sim)(hc:Sm yK c)(hv:VC c):Ret E n_Z29 [dLL c] ⟨o_Z29,(qb2 c c.length,())⟩:=by
 have hs:=hv.srt
 have h48:=hv.1
 refine qai ?_
 simp only[run_Z29,Z29.ev]
 refine qaa (qgi _) ?_
 refine Ev.start (p:=fun φ n=>Z29.l0 (mkR (run E (φ 0))) (φ 0) n (c.length:Int) 0 c []=_) 1 ?_ (fun _ _ _ h=>h)
 refine qam 1 (L:=fun φ n k a=>Z29.l0 (mkR (run E (φ 0))) (φ 0) n (c.length:Int) k c a) (len:=c.length) (fun k=>qb2 c k) (fun _ _ _ _ _=>rfl) (fun k r hk ih=>?_) ?_
 ·simp only[Z29.l0_succ _ qae]
  have hpl:=hv.plc (k:=k) (by omega)
  have hf4:=hv.fIdx4 hk
  refine qax (zac (by omega)) (qaa (qcm c k hk hc hs) ?_)
  refine Ev.start (p:=fun φ n=>Z29.l1 (mkR (run E (φ 0))) (φ 0) (φ 1) n (k:Int) (c.length:Int) (k:Int) (qaI c k) ((qaI c k).length:Int) 0 c (qb2 c k)=_) 2 ?_ (fun _ _ _ h=>h)
  have:=qam 2 (L:=fun φ n j a=>Z29.l1 (mkR (run E (φ 0))) (φ 0) (φ 1) n (k:Int) (c.length:Int) (k:Int) (qaI c k) ((qaI c k).length:Int) j c a) (len:=(qaI c k).length) (fun j=>qb2 c k++qmm c k j) (r:=r) (fun _ _ _ _ _=>rfl) (fun j r hj ih=>?_) ?_
  ·simpa [qmm] using this
  ·simp only[Z29.l1_succ _ qae]
   refine qax (zac (by omega)) (qab (qak hj) (qao (zac ?_) ?_))
   ·rw[zal,qef];show(_+_+1)*24≤_
    have:(qb2 c k).length=plc c k:=rfl
    omega
   ·rw[qad (by omega)]
    have e:qmm c k (j+1)=qmm c k j++[((k:Int),(j:Int),(qaI c k)[j],())]:=by
     unfold qmm;rw[zaA,zat];simp[zaa,hj]
    rw[e,← zaF] at ih
    exact ih
  ·simp only[Z29.l1_succ _ qae]
   refine qaB (zae (by omega)) ?_
   rw[qad (by omega)];exact ih
 ·simp only[Z29.l0_succ _ qae]
  exact qaB (zae (by omega)) qal
theorem qdy(c:List Sim)(k i:Nat)(hk:k≤c.length)(hi:i≤1048576)(hv:VC c):Ret E n_Z181 [dC (c,()),dI (k:Int),dI (i:Int)] ⟨o_Z181,(((plc c k+i:Nat):Int),())⟩:=by
 have h48:=hv.1
 refine qai ?_
 simp only[run_Z181,Z181.ev]
 refine Ev.start (p:=fun φ n=>Z181.l0 (mkR (run E (φ 0))) (φ 0) n (c,()) (k:Int) (i:Int) 0 0=_) 1 ?_ (fun _ _ _ h=>h)
 have:=qam 1 (L:=fun φ n j a=>Z181.l0 (mkR (run E (φ 0))) (φ 0) n (c,()) (k:Int) (i:Int) a j) (len:=k) (fun j=>((plc c j:Nat):Int)) (r:=some ⟨o_Z181,(((plc c k+i:Nat):Int),())⟩) (fun _ _ _ _ _=>rfl) (fun j r hj ih=>?_) ?_
 ·exact this
 ·simp only[Z181.l0_succ _ qae]
  have hjc:j<c.length:=by omega
  have hpl:=hv.plc (k:=j) (by omega)
  have h4:=hv.len4 hjc
  have e:=qfg (c:=c) (k:=j)
  rw[qaE] at e
  rw[qac hjc] at e h4
  refine qax (zac (by omega)) (qab (qak hjc) (qew (fun hl=>qab (qak hjc) ?_) fun hl=>?_))
  ·rw[if_pos (by omega)] at e
   rw[qad (by omega),qag (by omega) (by omega)]
   rw[e] at ih
   simpa using ih
  ·rw[if_neg (by omega)] at e
   rw[qad (by omega)]
   rw[e] at ih;exact ih
 ·simp only[Z181.l0_succ _ qae]
  have hpl:=hv.plc hk
  refine qaB (zae (by omega)) (qah ?_)
  rw[qag (by omega) (by omega)]
  simp
theorem ql6(c:List Sim)(hv:VC c):Ret E n_Z172 [dC (c,())] ⟨o_Z172,(((plc c c.length:Nat):Int),())⟩:=by
 refine qai ?_
 simp only[run_Z172,Z172.ev]
 exact qaa (qdy c c.length 0 (zaf _) (by omega) hv) qal
end VeT
open Go Go.Proofs Ve
namespace VeT
def mz:Mat:=(0,0,0,[],())
def QB(p:Int)(st:Sim)(ms:List Mat)(t k:Nat)(f:Int):Prop:=Bt (ms.getD t mz) p (st.getD f.toNat 0) (st.getD k 0)
def VS(c:List Sim)(p:Int)(st:Sim)(ms:List Mat):Prop:=VC c∧Pr p∧SK c st∧plc c c.length=ms.length∧∀ k,k<c.length→∀ i,i<(qaI c k).length→QB p st ms (plc c k+i) k ((qaI c k).getD i 0)
def az:Arw:=(0,0,0,())
def QA(p:Int)(st:Sim)(ms:List Mat)(t:Nat)(a:Arw):Prop:=t<ms.length∧Bt (ms.getD t mz) p (st.getD a.2.2.1.toNat 0) (st.getD a.1.toNat 0)
theorem qpT{c:List Sim}{p:Int}{st:Sim}{ms:List Mat}(hl:plc c c.length=ms.length) :
  (∀ t,0≤t→t<plc c c.length→QA p st ms t ((qb2 c c.length).getD t az))↔∀ k,k<c.length→∀ i,i<(qaI c k).length→QB p st ms (plc c k+i) k ((qaI c k).getD i 0):=by
 constructor
 ·intro h k hk i hi
  have hg:=qcL hk hi
  have hlt:=(zak.1 hg).1
  have:=h (plc c k+i) (by omega) hlt
  rw[zaa,hg] at this
  exact this.2
 ·intro h t _ ht
  obtain⟨k,i,hk,hi,rfl⟩:=qhZ ht
  have hg:=qcL hk hi
  have:=h k hk i hi
  rw[zaa,hg]
  exact⟨by omega,this⟩
theorem qoW{ms:List Mat}(h:Sm (.sl (.st cM)) ms){t:Nat}(ht:t<ms.length):Sm (.st cM) ms[t]:=h.2 _ (zaj ht)
theorem qgw(c:List Sim)(p:Int)(st:Sim)(ms:List Mat)(hc:Sm yK c)(hst:st.length≤1048576)(hm:Sm (.sl (.st cM)) ms) :
    Ret E n_Z18 [dLL c,dI p,dL st,dMs ms] ⟨o_Z18,(pb (VS c p st ms),())⟩:=by
  have hm1:ms.length≤1048576:=hm.1
  refine qai ?_
  simp only[run_Z18,Z18.ev]
  have no:¬ VS c p st ms→Ev fun φ=>Z18.j0 (mkR (run E (φ 0))) (φ 0) true c p st ms=some ⟨o_Z18,(pb (VS c p st ms),())⟩:=fun h=>by
    simp only[Z18.j0_eq _ qae,cond_true]
    rw[qaq h];(first | exact qal | exact Ev.of fun _=>trivial)
  refine qaa (qhE c hc) (qbS (fun h=>no fun hv=>qa0.1 (show pb (VC c)=false by simpa using h) hv.1) fun h=>?_)
  have hv:VC c:=qaD.1 (by simpa using h)
  refine qaa (qfp p) (qbS (fun h=>no fun hv=>qa0.1 (show pb (Pr p)=false by simpa using h) hv.2.1) fun h=>?_)
  have hp:Pr p:=qaD.1 (by simpa using h)
  refine qaa (qkF c st hc hst) ?_
  by_cases hk:SK c st
  · simp only[qaK hk,Bool.not_true,Z18.j0_eq _ qae,cond_false]
    refine qaa (qon c hc hv) ?_
    have hpl:=hv.plc (zaf _)
    have h48:=hv.1
    refine Ev.start (p:=fun φ n=>Z18.l1 (mkR (run E (φ 0))) (φ 0) n (qb2 c c.length) (qb2 c c.length) ((qb2 c c.length).length:Int) 0 c p st ms=_) 1 ?_ (fun _ _ _ h=>h)
    have get:∀ t (ht:t<plc c c.length),∃ k i,k<c.length∧i<(qaI c k).length∧(qb2 c c.length)[t]? = some ((k:Int),(i:Int),(qaI c k).getD i 0,())∧((qaI c k).getD i 0).toNat<st.length∧0≤(qaI c k).getD i 0:=fun t ht=>by
      obtain⟨k,i,hk',hi,rfl⟩:=qhZ ht
      have hb:=qkK hv hk' (zaj hi)
      exact⟨k,i,hk',hi,qcL hk' hi,by rw[qac hi,hk.1];omega,by rw[qac hi];omega⟩
    refine(qdk 1 (L:=fun φ n t=>Z18.l1 (mkR (run E (φ 0))) (φ 0) n (qb2 c c.length) (qb2 c c.length) ((qb2 c c.length).length:Int) t c p st ms) (len:=plc c c.length) 0 (by omega) (fun t=>QA p st ms t ((qb2 c c.length).getD t az)) (fun b=>some ⟨o_Z18,(b&&((plc c c.length:Int)==(ms.length:Int)),())⟩) (fun _ _ _ _=>rfl) (fun t h1 h2 hP _=>?_) (fun t r h1 h2 hP _ ih=>?_) (fun _=>?_)).to ?_
    · simp only[Z18.l1_succ _ qae]
      obtain⟨k,i,hkc,hi,hg,hf,hf0⟩:=get t h2
      have hlt:t<(qb2 c c.length).length:=h2
      have hgt:(qb2 c c.length)[t]=((k:Int),(i:Int),(qaI c k).getD i 0,()):=by
        rw[zag hlt] at hg;exact zad hg
      refine qax (zac (by omega)) (qab (qak hlt) ?_)
      rw[qac hlt] at hP
      rw[hgt] at hP ⊢
      refine qew (fun hge=>?_) fun hge=>?_
      · simp only[Z18.j2_eq _ qae,cond_true];(first | exact qal | exact Ev.of fun _=>trivial)
      · have htm:t<ms.length:=by omega
        refine qab (qak htm) ?_
        simp only
        rw[show(qaI c k).getD i 0=((((qaI c k).getD i 0).toNat:Nat):Int) by omega]
        refine qab (qak hf) (qab (qak (show k<st.length by rw[hk.1];exact hkc)) (qaa (qf9 _ _ _ _ (qoW hm htm)) ?_))
        have:¬ Bt ms[t] p st[((qaI c k).getD i 0).toNat] (st[k]'(by rw[hk.1];exact hkc)):=fun hb=>hP ⟨htm,by
          simp only[zai]
          rw[qac htm,qac hf,qac (s:=st) (k:=k) (by rw[hk.1];exact hkc)];exact hb⟩
        simp only[qaq this,Bool.not_false,Z18.j2_eq _ qae,cond_true];(first | exact qal | exact Ev.of fun _=>trivial)
    · simp only[Z18.l1_succ _ qae]
      obtain⟨k,i,hkc,hi,hg,hf,hf0⟩:=get t h2
      have hlt:t<(qb2 c c.length).length:=h2
      have hgt:(qb2 c c.length)[t]=((k:Int),(i:Int),(qaI c k).getD i 0,()):=by
        rw[zag hlt] at hg;exact zad hg
      refine qax (zac (by omega)) (qab (qak hlt) ?_)
      rw[qac hlt] at hP
      rw[hgt] at hP ⊢
      obtain⟨htm,hb⟩:=hP
      refine qaB (zae (by omega)) (qab (qak htm) ?_)
      simp only
      rw[show(qaI c k).getD i 0=((((qaI c k).getD i 0).toNat:Nat):Int) by omega]
      refine qab (qak hf) (qab (qak (show k<st.length by rw[hk.1];exact hkc)) (qaa (qf9 _ _ _ _ (qoW hm htm)) ?_))
      simp only[zai] at hb
      rw[qac htm,qac hf,qac (s:=st) (k:=k) (by rw[hk.1];exact hkc)] at hb
      simp only[qaK hb,Bool.not_true,Z18.j2_eq _ qae,cond_false]
      rw[qad (by omega)];exact ih
    · simp only[Z18.l1_succ _ qae]
      exact qaB (zae (by show ¬ ((plc c c.length:Nat):Int)<((plc c c.length:Nat):Int);omega)) (qah (by rw[Bool.true_and];rfl))
    · have:(pb (∀ t,0≤t→t<plc c c.length→QA p st ms t ((qb2 c c.length).getD t az))&&((plc c c.length:Int)==(ms.length:Int)))=pb (VS c p st ms):=qfy (by
        rw[zah,qaD,beq_iff_eq]
        constructor
        · rintro⟨h1,h2⟩
          have h2:plc c c.length=ms.length:=by omega
          exact⟨hv,hp,hk,h2,(qpT h2).1 h1⟩
        · rintro⟨_,_,_,h2,h1⟩
          exact⟨(qpT h2).2 h1,by omega⟩)
      rw[this]
  · simp only[qaq hk,Bool.not_false]
    exact no fun hv=>hk hv.2.2.1
theorem qoc(x:Shf)(k i:Nat)(m:Mat)(hv:VC x.1)(hk:SK x.1 x.2.2.1)(hkc:k<x.1.length)(hi:i<(qaI x.1 k).length)(hc:Sm yK x.1)(hm:Sm (.st cM) m) :
  Ret E n_Z178 [dS x,dI (k:Int),dI (i:Int),dM m] ⟨o_Z178,(pb (Bt m x.2.1 (x.2.2.1.getD ((qaI x.1 k).getD i 0).toNat 0) (x.2.2.1.getD k 0)),())⟩:=by
 have hb:=qkK hv hkc (zaj hi)
 have hks:k<x.2.2.1.length:=by rw[hk.1];exact hkc
 have hfs:((qaI x.1 k)[i]).toNat<x.2.2.1.length:=by rw[hk.1];omega
 rw[qac hi,qac hks,qac hfs]
 refine qai ?_
 simp only[run_Z178,Z178.ev]
 refine qaa (qcj x.1 k hkc hc) (qab (qak hi) (qaa (qlr m hm) (qbS (fun h1=>qbS (fun h2=>qab (qak hks) (qbS (fun h3=>?_) fun h3=>qah ?_)) fun h2=>qah ?_) fun h1=>qah ?_)))
 ·have e:(qaI x.1 k)[i]=((((qaI x.1 k)[i]).toNat:Nat):Int):=by omega
  refine qab ((congrArg (idx? x.2.2.1) e).trans (qak hfs)) (qah ?_)
  have:(m.2.2.1==x.2.2.1[((qaI x.1 k)[i]).toNat])=pb (Bt m x.2.1 x.2.2.1[((qaI x.1 k)[i]).toNat] x.2.2.1[k]):=qfy (by
   rw[beq_iff_eq];exact⟨fun h=>⟨qaD.1 h1,by simpa using h2,by simpa using h3,h⟩,fun h=>h.2.2.2⟩)
  simp only[this]
 ·rw[qaq fun h=>by have:=h.2.2.1;simp[this] at h3]
 ·rw[qaq fun h=>by have:=h.2.1;simp[this] at h2]
 ·rw[qaq fun h=>qa0.1 h1 h.1]
theorem qoC(x:Shf)(hx:Sm (.st cS) x):Ret E n_Z180 [dS x] ⟨o_Z180,(pb (VS x.1 x.2.1 x.2.2.1 x.2.2.2.1),())⟩:=by
 have hc:Sm yK x.1:=hx.1
 have hm:Sm (.sl (.st cM)) x.2.2.2.1:=hx.2.2.2.1
 have hst:x.2.2.1.length≤1048576:=hx.2.2.1.1
 refine qai ?_
 simp only[run_Z180,Z180.ev]
 have no:¬ VS x.1 x.2.1 x.2.2.1 x.2.2.2.1→Ev fun φ=>Z180.j0 (mkR (run E (φ 0))) (φ 0) x true=some ⟨o_Z180,(pb (VS x.1 x.2.1 x.2.2.1 x.2.2.2.1),())⟩:=fun h=>by
  simp only[Z180.j0_eq _ qae,cond_true]
  rw[qaq h];(first | exact qal | exact Ev.of fun _=>trivial)
 refine qaa (qpz (x.1,()) hc) (qbS (fun h=>no fun hv=>qa0.1 (show pb (VC x.1)=false by simpa using h) hv.1) fun h=>?_)
 have hv:VC x.1:=qaD.1 (show pb (VC x.1)=true by simpa using h)
 refine qaa (qdE _) (qbS (fun h=>no fun hv=>qa0.1 (show pb (Pr x.2.1)=false by simpa using h) hv.2.1) fun h=>?_)
 have hp:Pr x.2.1:=qaD.1 (by simpa using h)
 refine qaa (qks x.1 x.2.2.1 hc hst) (qbS (fun h=>no fun hv=>qa0.1 (show pb (SK x.1 x.2.2.1)=false by simpa using h) hv.2.2.1) fun h=>?_)
 have hk:SK x.1 x.2.2.1:=qaD.1 (by simpa using h)
 refine qaa (ql6 x.1 hv) ?_
 by_cases hl:plc x.1 x.1.length=x.2.2.2.1.length
 ·have h48:=hv.1
  simp only[show((x.2.2.2.1.length:Int) != ((plc x.1 x.1.length:Nat):Int))=false by simp[hl],Z180.j0_eq _ qae,cond_false]
  refine Ev.start (p:=fun φ n=>Z180.l1 (mkR (run E (φ 0))) (φ 0) n x 0=_) 1 ?_ (fun _ _ _ h=>h)
  let P:Nat→Prop:=fun k=>∀ i,i<(qaI x.1 k).length→QB x.2.1 x.2.2.1 x.2.2.2.1 (plc x.1 k+i) k ((qaI x.1 k).getD i 0)
  have inner:∀(k:Nat) (h2:k<x.1.length) (r:Option Dv),(P k→Ev fun φ=>Z180.l1 (mkR (run E (φ 0))) (φ 0) (φ 1) x ((k+1:Nat):Int)=r)→(¬ P k→r=some ⟨o_Z180,(false,())⟩)→Ev fun φ=>Z180.l2 (mkR (run E (φ 0))) (φ 0) (φ 1) (φ 0) x (k:Int) 0=r:=fun k h2 r hgo hstop=>by
   have h4:=hv.len4 h2
   have hfl:=qaE (c:=x.1) (k:=k)
   rw[qac h2] at h4 hfl
   refine Ev.start (p:=fun φ n=>Z180.l2 (mkR (run E (φ 0))) (φ 0) (φ 1) n x (k:Int) 0=_) 2 ?_ (fun _ _ _ h=>h)
   by_cases hlen:1<(x.1[k]).length
   ·rw[if_pos hlen] at hfl
    have mapAt:∀ i (hi:i<(qaI x.1 k).length),∃ ht:plc x.1 k+i<x.2.2.2.1.length,∀ R,(Ev fun φ=>(bif (!pb (Bt x.2.2.2.1[plc x.1 k+i] x.2.1 (x.2.2.1.getD ((qaI x.1 k).getD i 0).toNat 0) (x.2.2.1.getD k 0))) then some ⟨o_Z180,(false,())⟩ else Z180.l2 (mkR (run E (φ 0))) (φ 0) (φ 1) (φ 2) x (k:Int) (w64 ((i:Int)+1)))=R)→Ev fun φ=>Z180.j3 (mkR (run E (φ 0))) (φ 0) (φ 1) (φ 2) x (k:Int) (i:Int) true=R:=fun i hi=>by
     have hg:=qcL h2 hi
     have hlt:=(zak.1 hg).1
     have ht:plc x.1 k+i<x.2.2.2.1.length:=by rw[← hl];exact hlt
     refine⟨ht,fun R hR=>?_⟩
     simp only[Z180.j3_eq _ qae,cond_true]
     refine qaa (qdy x.1 k i (by omega) (by omega) hv) (qab (qak ht) (qaa (qoc x k i _ hv hk h2 hi hc (qoW hm ht)) hR))
    obtain⟨t,f⟩:=qkh 2 (L:=fun φ n i=>Z180.l2 (mkR (run E (φ 0))) (φ 0) (φ 1) n x (k:Int) i) (len:=(x.1[k]).length) 0 (by omega) (fun i=>QB x.2.1 x.2.2.1 x.2.2.2.1 (plc x.1 k+i) k ((qaI x.1 k).getD i 0)) (rt:=r) (rf:=some ⟨o_Z180,(false,())⟩) (fun _ _ _ _=>rfl) (fun i _ hi hP _=>by
     obtain⟨ht,hm'⟩:=mapAt i (by omega)
     simp only[Z180.l2_succ _ qae]
     refine qab (qak h2) (qax (zac (by omega)) (qab (qak h2) ?_))
     simp only[show decide (((x.1[k]).length:Int)>1)=true from zac (by omega)]
     refine hm' _ (qax ?_ qal)
     rw[qaq];· rfl
     intro hb;refine hP ?_
     show Bt _ _ _ _
     rw[qac ht];exact hb) (fun i q _ hi hP _ ih=>by
     obtain⟨ht,hm'⟩:=mapAt i (by omega)
     simp only[Z180.l2_succ _ qae]
     refine qab (qak h2) (qax (zac (by omega)) (qab (qak h2) ?_))
     simp only[show decide (((x.1[k]).length:Int)>1)=true from zac (by omega)]
     refine hm' _ (qaB ?_ ?_)
     ·have hP:Bt (x.2.2.2.1.getD (plc x.1 k+i) mz) _ _ _:=hP
      rw[qac ht] at hP
      rw[qaK hP];rfl
     ·rw[qad (by omega)];exact ih) (fun hall=>by
     simp only[Z180.l2_succ _ qae]
     refine qab (qak h2) (qaB (zae (by omega)) ?_)
     simp only[Z180.j3_eq _ qae,cond_false]
     rw[qad (by omega)]
     exact hgo fun i hi=>hall i (by omega) (by omega))
    by_cases hall:∀ i,0≤i→i<(x.1[k]).length→QB x.2.1 x.2.2.1 x.2.2.2.1 (plc x.1 k+i) k ((qaI x.1 k).getD i 0)
    ·exact t hall
    ·rw[hstop fun hf=>hall fun i _ hi=>hf i (by omega)]
     exact f hall
   ·rw[if_neg hlen] at hfl
    refine Ev.round 2 (L:=fun φ n=>Z180.l2 (mkR (run E (φ 0))) (φ 0) (φ 1) n x (k:Int) 0) ?_ (fun _ _ _=>rfl)
    have hgo:=hgo fun i hi=>by omega
    have hj:Ev fun φ=>Z180.j3 (mkR (run E (φ 0))) (φ 0) (φ 1) (φ 2) x (k:Int) 0 false=r:=by
     simp only[Z180.j3_eq _ qae,cond_false]
     rw[qad (by omega)];exact hgo
    simp only[Z180.l2_succ _ qae]
    refine qab (qak h2) (qew (fun _=>qab (qak h2) ?_) fun _=>hj)
    simp only[show decide (((x.1[k]).length:Int)>1)=false from zae (by omega)]
    exact hj
  refine(qdk 1 (L:=fun φ n k=>Z180.l1 (mkR (run E (φ 0))) (φ 0) n x k) (len:=x.1.length) 0 (by omega) P (fun b=>some ⟨o_Z180,(b,())⟩) (fun _ _ _ _=>rfl) (fun k h1 h2 hP hpre=>?_) (fun k r h1 h2 hP hpre ih=>?_) (fun _=>?_)).to ?_
  ·simp only[Z180.l1_succ _ qae]
   exact qax (zac (by omega)) (inner k h2 _ (fun h=>absurd h hP) fun _=>rfl)
  ·simp only[Z180.l1_succ _ qae]
   exact qax (zac (by omega)) (inner k h2 _ (fun _=>ih) fun h=>absurd hP h)
  ·simp only[Z180.l1_succ _ qae]
   exact qaB (zae (by omega)) qal
  ·exact congrArg (fun b:Bool=>some (⟨o_Z180,(b,())⟩:Dv)) (qaN ⟨fun h=>⟨hv,hp,hk,hl,fun k hk'=>h k (by omega) hk'⟩,fun h k _ hk'=>h.2.2.2.2 k hk'⟩)
 ·simp only[show((x.2.2.2.1.length:Int) != ((plc x.1 x.1.length:Nat):Int))=true by simp;omega]
  exact no fun h=>hl h.2.2.2.1
end VeT
open Go Go.Proofs Ve
namespace VeT
theorem qkD(x:Shf)(hx:Sm (.st cS) x):Ret E n_Z18 [dLL x.1,dI x.2.1,dL x.2.2.1,dMs x.2.2.2.1] ⟨o_Z18,(pb (VS x.1 x.2.1 x.2.2.1 x.2.2.2.1),())⟩ :=
 qgw x.1 x.2.1 x.2.2.1 x.2.2.2.1 hx.1 hx.2.2.1.1 hx.2.2.2.1
end VeT
open Go Go.Proofs Ve
namespace VeT
theorem qjY(p r:Int)(C:Nat)(cells:Sim)(i j:Nat)(h:i*C+j<cells.length)(hl:cells.length≤1048576):Ret E n_Z11 [dI p,dI r,dI (C:Int),dL cells,dI (i:Int),dI (j:Int)] ⟨o_Z11,(cells[i*C+j],())⟩:=by
 refine qai ?_
 simp only[run_Z11,Z11.ev]
 rw[qa3,qag (n:=((i*C:Nat):Int)) (by omega) (by omega),qag (by omega) (by omega),show((i*C:Nat):Int)+(j:Int)=((i*C+j:Nat):Int) by omega]
 exact qab (qak h) qal
theorem qeg(p r:Int)(C:Nat)(cells:Sim)(i:Nat)(h:(i+1)*C≤cells.length)(hi:i≤1048576)(hl:cells.length≤1048576):Ret E n_Z12 [dI p,dI r,dI (C:Int),dL cells,dI (i:Int)] ⟨o_Z12,((cells.take ((i+1)*C)).drop (i*C),())⟩:=by
 refine qai ?_
 simp only[run_Z12,Z12.ev]
 have h1:i*C≤(i+1)*C:=zaq _ (by omega)
 have e1:w64 ((i:Int)*(C:Int))=((i*C:Nat):Int):=by rw[qa3];exact qag (by omega) (by omega)
 have e2:w64 ((i:Int)+1)=((i+1:Nat):Int):=qad (by omega)
 have e3:w64 (((i+1:Nat):Int)*(C:Int))=(((i+1)*C:Nat):Int):=by rw[qa3];exact qag (by omega) (by omega)
 simp only[e1,e2,e3,zai]
 exact qao (by simp only[zah,decide_eq_true_eq];omega) qal
theorem qja(s:Sim)(hs:s.length≤1048576):Ret E n_Z96 [dL s] ⟨o_Z96,(s,())⟩:=by
 refine qai ?_
 simp only[run_Z96,Z96.ev,Z96.j0_eq _ qae,cond_true,cond_false]
 have h:Ev fun φ=>(Option.bind (chk (decide ((List.length ([]:List Int)+List.length s)*8≤70368744177664))) fun _=>some (⟨o_Z96,((([]:List Int)++s),())⟩:Dv))=some ⟨o_Z96,(s,())⟩ :=
  qao (by simp;omega) (qah rfl)
 cases s with
 | nil=>exact qax rfl (qb8 qal h)
 | cons a s=>exact qaB rfl h
theorem qiz(m:Mat)(C:Nat)(i j:Nat)(hC:m.2.2.1=(C:Int))(h:j*C+i<m.2.2.2.1.length)(hl:m.2.2.2.1.length≤1048576):Ret E n_Z83 [dI (i:Int),dI (j:Int),dM m] ⟨o_Z83,(m.2.2.2.1.getD (j*C+i) 0,())⟩:=by
 rw[qac h]
 refine qai ?_
 simp only[run_Z83,Z83.ev]
 rw[hC]
 exact qaa (qjY _ _ C _ j i h hl) qal
theorem qpH(a b:Sim)(p:Int)(hp:2≤p∧p≤251)(ha:a.length≤32)(hb:a.length≤b.length)(ea:∀ x∈a,0≤x∧x≤250)(eb:∀ x∈b,0≤x∧x≤250) :
  Ret E n_Z38 [dL a,dL b,dI p] ⟨o_Z38,(qaG (fun l=>a.getD l 0) (fun l=>b.getD l 0) a.length%p,())⟩:=by
 refine qai ?_
 simp only[run_Z38,Z38.ev]
 refine Ev.start (p:=fun φ n=>Z38.l0 (mkR (run E (φ 0))) (φ 0) n a b p 0 (a.length:Int) 0=_) 1 ?_ (fun _ _ _ h=>h)
 have:=qam 1 (L:=fun φ n k s=>Z38.l0 (mkR (run E (φ 0))) (φ 0) n a b p s (a.length:Int) k) (len:=a.length) (fun k=>qaG (fun l=>a.getD l 0) (fun l=>b.getD l 0) k%p) (r:=some ⟨o_Z38,(qaG (fun l=>a.getD l 0) (fun l=>b.getD l 0) a.length%p,())⟩) (fun _ _ _ _ _=>rfl) (fun k r hk ih=>?_) ?_
 ·simpa [qaG] using this
 ·simp only[Z38.l0_succ _ qae]
  have hkb:k<b.length:=by omega
  have hm:=qet (ea _ (zaj hk)) (eb _ (zaj hkb))
  have h0:=zbI (qaG (fun l=>a.getD l 0) (fun l=>b.getD l 0) k) (show p≠0 by omega)
  have h1:=zbA (qaG (fun l=>a.getD l 0) (fun l=>b.getD l 0) k) (show 0<p by omega)
  refine qax (zac (by omega)) (qab (qak hk) (qab (qak hkb) (qao (by simp;omega) ?_)))
  rw[qag (n:=a[k]*b[k]) (by omega) (by omega),qag (by omega) (by omega),zaH (by omega),Int.emod_add_emod,qad (by omega)]
  simp only[qaG] at ih
  rw[qac hk,qac hkb] at ih
  exact ih
 ·simp only[Z38.l0_succ _ qae]
  exact qaB (zae (by omega)) qal
theorem qnO(p:Int)(R C:Nat)(cells:Sim)(hl:cells.length=R*C)(hR:R≤32)(hC:C≤32):Ret E n_Z76 [dI p,dI (R:Int),dI (C:Int),dL cells] ⟨o_Z76,((List.range R).map fun i=>(cells.take ((i+1)*C)).drop (i*C),())⟩:=by
 have h1024:=qcP hR hC
 refine qai ?_
 simp only[run_Z76,Z76.ev]
 refine Ev.start (p:=fun φ n=>Z76.l0 (mkR (run E (φ 0))) (φ 0) n (R:Int) 0 p (R:Int) (C:Int) cells []=_) 1 ?_ (fun _ _ _ h=>h)
 refine qam 1 (L:=fun φ n k a=>Z76.l0 (mkR (run E (φ 0))) (φ 0) n (R:Int) k p (R:Int) (C:Int) cells a) (len:=R) (fun k=>(List.range k).map fun i=>(cells.take ((i+1)*C)).drop (i*C)) (fun _ _ _ _ _=>rfl) (fun k r hk ih=>?_) ?_
 ·simp only[Z76.l0_succ _ qae]
  have hle:(k+1)*C≤R*C:=zaq _ hk
  rw[zaA,zat] at ih
  refine qax (zac (by omega)) (qaa (qeg p _ C cells k (by omega) (by omega) (by omega)) (qaa (qja _ (by simp;omega)) (qao (by simp;omega) ?_)))
  rw[qad (by omega)];exact ih
 ·simp only[Z76.l0_succ _ qae]
  exact qaB (zae (by omega)) qal
end VeT
