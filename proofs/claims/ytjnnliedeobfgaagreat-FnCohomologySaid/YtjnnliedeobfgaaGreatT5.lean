import Derived.Test.YtjnnliedeobfgaaGreatT3
import Derived.Test.YtjnnliedeobfgaaGreatV2
import Derived.Test.YtjnnliedeobfgaaGreatT4
import Derived.Shelf.SlSortCmp.Whole1
import Derived.Shelf.SlSortCmp.NoneTotal
import Derived.Ground.SlsfProg
import Derived.Test.YtjnnliedeobfgaaGreatProg
import Derived.KernelRfl
import Derived.WalkKit
import Derived.Lib.Walk
import Derived.Lib.SliceRun
import Derived.Lib.AppendZerosOnto
set_option linter.unusedVariables false
set_option linter.unusedSimpArgs false
open Go Go.Proofs Ve
set_option maxRecDepth 100000
namespace VeT
noncomputable section
abbrev q3_0(R:Run)(N:Nat):=kS R pol_Z45 22 N [1,1,1,0,1,0,0,1,1,0,0,1,1,1,1,1,1,1,1,1] F_Z45
abbrev q3_1(R:Run)(N:Nat):=kS R pol_Z45 23 N [1,1,1,0,1,0,0,1,1,1] F_Z45
abbrev q3_2(R:Run)(N:Nat):=kS R pol_Z45 24 N [1,1,1,1] F_Z45
abbrev q3_3(R:Run)(N:Nat):=kS R pol_Z121 7 N [1,1] F_Z121
abbrev q3_4(R:Run)(N:Nat):=kS R pol_Z171 12 N [1,1,1,1,1] F_Z171
abbrev q3_5(R:Run)(N:Nat):=kL R pol_Z45 4 N [1,1,1,0,1,0,0] F_Z45
abbrev q3_6(R:Run)(N:Nat):=lC R pol_Z121 2 N [1,0,1,0,0] F_Z121
abbrev q3_7(R:Run):=kB R pol_Z45 0
def Z45.j4(R:Run)(N a b:Nat)(e f g h i:Int)(j:List Int)(k l m o:Int)(p:Bool)(q:Int)(r:List Int)(s:vK):Option Dv:=R.w (some ⟨(.c (.arr 120)::(.c (.d yI e)::(.c (.d yI f)::(zd 5 (.c (.arr 116)::(.c (.d yI g)::(.c (.box 10 0)::(.c (.d yI h)::(V.dead::(V.dead::(.c (.d yI i)::(.c (.d yL j)::(.c (.d yI k)::(.c (.d yI l)::(zd 61 (.c (.arr 120)::(.c (.d yI m)::(.c (.d yI o)::(zd 13 (.c (.d .bool p)::(zd 24 []))))))))))))))))))))),(zo 10 (some (.box [.d yI q] true false)::(zo 105 (some (.arr yI r true false false)::(zo 3 (some (.arr yL s false false true)::(zo 4 [])))))))⟩) fun st=>eC R pol_Z45 N [1,1,1,0,1,0,0,1,1,0,0,1,1,1,1,1,1,1,1,0,1,0,0,1,1,0,0,1,1] F_Z45 st (kB R pol_Z45 3 (kS R pol_Z45 21 N [1,1,1,0,1,0,0,1,1,0,0,1,1,1,1,1,1,1,1,0,1,0,0,1,1,1] F_Z45 (kL R pol_Z45 17 N [1,1,1,0,1,0,0,1,1,0,0,1,1,1,1,1,1,1,1,0,1,0,0] F_Z45 b (kB R pol_Z45 2 (q3_0 R N (kB R pol_Z45 1 (q3_1 R N (q3_5 R N a (q3_7 R (q3_2 R N (qsX E sg_Z45 F_Z45)))))))))))
def Z45.l3(R:Run)(N a n:Nat)(b e f g h i j k l:Int)(m:List Int)(o:vK):Option Dv:=R.w (some ⟨(.c (.arr 120)::(.c (.d yI b)::(.c (.d yI e)::(zd 5 (.c (.arr 116)::(.c (.d yI f)::(.c (.box 10 0)::(.c (.d yI g)::(zd 4 (.c (.d yI h)::(.c (.d yI i)::(zd 61 (.c (.arr 120)::(.c (.d yI j)::(.c (.d yI k)::(zd 38 [])))))))))))))))),(zo 10 (some (.box [.d yI l] true false)::(zo 105 (some (.arr yI m true false false)::(zo 3 (some (.arr yL o false false true)::(zo 4 [])))))))⟩) fun st=>lC R pol_Z45 17 N [1,1,1,0,1,0,0,1,1,0,0,1,1,1,1,1,1,1,1,0,1,0,0] F_Z45 n st (kB R pol_Z45 2 (q3_0 R N (kB R pol_Z45 1 (q3_1 R N (q3_5 R N a (q3_7 R (q3_2 R N (qsX E sg_Z45 F_Z45))))))))
def Z45.j2(R:Run)(N a:Nat)(b e f g h i j:Int)(k:List Int)(l:vK):Option Dv:=R.w (some ⟨(.c (.arr 120)::(.c (.d yI b)::(.c (.d yI e)::(zd 5 (.c (.arr 116)::(.c (.d yI f)::(.c (.box 10 0)::(.c (.d yI g)::(zd 4 (.c (.d yI h)::(.c (.d yI i)::(zd 102 [])))))))))))),(zo 10 (some (.box [.d yI j] true false)::(zo 105 (some (.arr yI k true false false)::(zo 3 (some (.arr yL l false false true)::(zo 4 [])))))))⟩) fun st=>eC R pol_Z45 N [1,1,1,0,1,0,0,1,1,0,0,1,1,1,1,1,1,1,1] F_Z45 st (kB R pol_Z45 1 (q3_1 R N (q3_5 R N a (q3_7 R (q3_2 R N (qsX E sg_Z45 F_Z45))))))
def Z45.j1(R:Run)(N a:Nat)(b e f g h i j:Int)(k:List Int)(l:vK):Option Dv:=R.w (some ⟨(.c (.arr 120)::(.c (.d yI b)::(.c (.d yI e)::(zd 5 (.c (.arr 116)::(.c (.d yI f)::(.c (.box 10 0)::(.c (.d yI g)::(zd 4 (.c (.d yI h)::(.c (.d yI i)::(zd 102 [])))))))))))),(zo 10 (some (.box [.d yI j] true false)::(zo 105 (some (.arr yI k true false false)::(zo 3 (some (.arr yL l false false true)::(zo 4 [])))))))⟩) fun st=>eC R pol_Z45 N [1,1,1,0,1,0,0,1,1,0,0,1,1,1,1,1] F_Z45 st (kB R pol_Z45 1 (q3_1 R N (q3_5 R N a (q3_7 R (q3_2 R N (qsX E sg_Z45 F_Z45))))))
def Z45.l0(R:Run)(N n:Nat)(a b e f g:Int)(h:List Int)(i:vK):Option Dv:=R.w (some ⟨(.c (.arr 120)::(.c (.d yI a)::(.c (.d yI b)::(zd 5 (.c (.arr 116)::(.c (.d yI e)::(zd 6 (.c (.d yI f)::(.c (.d yI g)::(zd 102 [])))))))))),(zo 116 (some (.arr yI h true false false)::(zo 3 (some (.arr yL i false false true)::(zo 4 [])))))⟩) fun st=>lC R pol_Z45 4 N [1,1,1,0,1,0,0] F_Z45 n st (q3_7 R (q3_2 R N (qsX E sg_Z45 F_Z45)))
theorem Z45.j4_eq(R:Run)(hw:R.ok)(N a b:Nat)(c d e f g:Int)(h:List Int)(i j k l:Int)(m:Bool)(o:Int)(p:List Int)(q:vK):Z45.j4 R N a b c d e f g h i j k l m o p q=(bif m then((chk (decide (0≤f)&&decide (f<(List.length q:Int)))).bind fun _=>(Option.bind (q)[(Int.toNat f)]? fun y69=>((idx? h o).bind fun y70=>((qcx R n_Z26 o_Z26 [⟨yL,h⟩,⟨yL,y69⟩,⟨yI,(w64 (d-(y70,()).1))⟩,⟨yI,d⟩]).bind fun r71=>((chk (decide (0≤g)&&decide (g<(List.length q:Int)))).bind fun _=>(Z45.l3 R N a b c d e f i j k (w64 (l+(1:Int))) o p (List.set q (Int.toNat g) r71.1))))))) else(Z45.l3 R N a b c d e f i j k (w64 (l+(1:Int))) o p q)):=(hw _ _).trans (by kernel_rfl)
theorem Z45.l3_succ(R:Run)(hw:R.ok)(N a n:Nat)(b c d e f g h i j:Int)(k:List Int)(l:vK):Z45.l3 R N a (n+1) b c d e f g h i j k l=(bif (decide (i<h)) then((chk (decide (0≤i)&&decide (i<(List.length l:Int)))).bind fun _=>(Option.bind (l)[(Int.toNat i)]? fun y53=>(bif (i != e) then((idx? y53 j).bind fun y54=>(Z45.j4 R N a n b c d e i y53 f g h i ((y54,()).1 != (0:Int)) j k l)) else(Z45.j4 R N a n b c d e i y53 f g h i false j k l)))) else((chk (decide ((List.length k+List.length [j])*8≤70368744177664))).bind fun _=>(Z45.l0 R N a b c d f (w64 (g+(1:Int))) (k++[j]) l))):=(hw _ _).trans (by kernel_rfl)
theorem Z45.j2_eq(R:Run)(hw:R.ok)(N a:Nat)(b c d e f g h:Int)(i:List Int)(j:vK):Z45.j2 R N a b c d e f g h i j=(Z45.l3 R N a N b c d e f g (List.length j:Int) (0:Int) h i j):=(hw _ _).trans (by kernel_rfl)
theorem Z45.j1_eq(R:Run)(hw:R.ok)(N a:Nat)(b c d e f g h:Int)(i:List Int)(j:vK):Z45.j1 R N a b c d e f g h i j=((chk (decide (0≤e)&&decide (e<(List.length j:Int)))).bind fun _=>(Option.bind (j)[(Int.toNat e)]? fun y28=>((idx? y28 h).bind fun y29=>((chk (c != 0)).bind fun _=>((chk (decide (0≤e)&&decide (e<(List.length j:Int)))).bind fun _=>(Option.bind (j)[(Int.toNat e)]? fun y30=>(qo4 ((chk (decide (0≤b)&&decide (b*8≤70368744177664))).bind fun _=>((qcx R n_Z61 o_Z61 [⟨yI,(y29,()).1⟩,⟨yI,c⟩]).bind fun r31=>((qcx R n_Z26 o_Z26 [⟨yL,(List.replicate (Int.toNat b) (0:Int))⟩,⟨yL,y30⟩,⟨yI,r31.1⟩,⟨yI,c⟩]).bind fun r32=>((chk (decide (0≤e)&&decide (e<(List.length j:Int)))).bind fun _=>(Z45.j2 R N a b c (Int.tmod (w64 (d*(y29,()).1)) c) e f g h i (List.set j (Int.toNat e) r32.1)))))) ((qcx R n_Z61 o_Z61 [⟨yI,(y29,()).1⟩,⟨yI,c⟩]).bind fun r115=>((chk (decide (0≤b)&&decide (b*8≤70368744177664))).bind fun _=>((qcx R n_Z26 o_Z26 [⟨yL,(List.replicate (Int.toNat b) (0:Int))⟩,⟨yL,y30⟩,⟨yI,r115.1⟩,⟨yI,c⟩]).bind fun r116=>((chk (decide (0≤e)&&decide (e<(List.length j:Int)))).bind fun _=>(Z45.j2 R N a b c (Int.tmod (w64 (d*(y29,()).1)) c) e f g h i (List.set j (Int.toNat e) r116.1))))))))))))):=(hw _ _).trans (by kernel_rfl)
theorem Z45.l0_succ(R:Run)(hw:R.ok)(N n:Nat)(a b c d e:Int)(f:List Int)(g:vK):Z45.l0 R N (n+1) a b c d e f g=(bif (decide (e<d)) then((chk (decide (0≤(List.length f:Int))&&decide ((List.length f:Int)≤(List.length g:Int)))).bind fun _=>((qcx R n_Z118 o_Z118 [⟨yK,(List.drop (Int.toNat (List.length f:Int)) (List.take (List.length g) g))⟩,⟨(.fn n_Z46 (.cons (.ptr (.cons yI .nil)) .nil)),((e,()),())⟩]).bind fun r8=>(bif (decide (r8.1<(0:Int))) then(Z45.l0 R N n a b (0:Int) d (w64 (e+(1:Int))) f g) else(bif (decide (r8.1>(0:Int))) then((chk (decide (0≤(w64 ((List.length f:Int)+r8.1)))&&decide ((w64 ((List.length f:Int)+r8.1))<(List.length g:Int)))).bind fun _=>(Option.bind (g)[(Int.toNat (w64 ((List.length f:Int)+r8.1)))]? fun y16=>((chk (decide (0≤(List.length f:Int))&&decide ((List.length f:Int)<(List.length g:Int)))).bind fun _=>(Option.bind (g)[(Int.toNat (List.length f:Int))]? fun y17=>((chk (decide (0≤(List.length f:Int))&&decide ((List.length f:Int)<(List.length g:Int)))).bind fun _=>((chk (decide (0≤(w64 ((List.length f:Int)+r8.1)))&&decide ((w64 ((List.length f:Int)+r8.1))<(List.length (List.set g (Int.toNat (List.length f:Int)) y16):Int)))).bind fun _=>((qcx R n_Z79 o_Z79 [⟨yI,(w64 (0-c))⟩,⟨yI,b⟩]).bind fun r18=>(Z45.j1 R N n a b r18.1 (List.length f:Int) d e e f (List.set (List.set g (Int.toNat (List.length f:Int)) y16) (Int.toNat (w64 ((List.length f:Int)+r8.1))) y17))))))))) else(Z45.j1 R N n a b c (List.length f:Int) d e e f g))))) else some ⟨o_Z45,(f,c,g,())⟩):=(hw _ _).trans (by kernel_rfl)
theorem Z45.ev(R:Run)(N:Nat)(a0:vK)(a1 a2:Int):qsp E R sg_Z45 pol_Z45 F_Z45 N [⟨yK,a0⟩,⟨yI,a1⟩,⟨yI,a2⟩]=(Z45.l0 R N N a1 a2 (1:Int) a1 (0:Int) ([]:List Int) a0):=by kernel_rfl
theorem Z87.ev(R:Run)(N:Nat)(a0 a1:Int)(a2:vK):qsp E R sg_Z87 pol_Z87 F_Z87 N [⟨yI,a0⟩,⟨yI,a1⟩,⟨yK,a2⟩]=((qcx R n_Z41 o_Z41 [⟨yK,a2⟩]).bind fun r1=>((qcx R n_Z45 o_Z45 [⟨yK,r1.1⟩,⟨yI,a1⟩,⟨yI,a0⟩]).bind fun r2=>((chk (decide (0≤(List.length r2.1:Int))&&decide ((List.length r2.1:Int)≤(List.length r2.2.2.1:Int)))).bind fun _=>((qcx R n_Z41 o_Z41 [⟨yK,(List.drop 0 (List.take (Int.toNat (List.length r2.1:Int)) r2.2.2.1))⟩]).bind fun r3=>some ⟨o_Z87,(a0,a1,r3.1,())⟩)))):=by kernel_rfl
theorem Z34.ev(R:Run)(N:Nat)(a0:vK)(a1:Int)(a2:List Int)(a3:vN)(a4:Int):qsp E R sg_Z34 pol_Z34 F_Z34 N [⟨yK,a0⟩,⟨yI,a1⟩,⟨yL,a2⟩,⟨yN,a3⟩,⟨yI,a4⟩]=((qcx R n_Z35 o_Z35 [⟨yK,a0⟩,⟨yI,a1⟩,⟨yL,a2⟩,⟨yN,a3⟩,⟨yI,(w64 (a4-(1:Int)))⟩]).bind fun r1=>((qcx R n_Z37 o_Z37 [⟨yI,r1.1⟩,⟨yI,r1.2.1⟩,⟨yI,r1.2.2.1⟩,⟨yL,r1.2.2.2.1⟩]).bind fun r2=>((qcx R n_Z87 o_Z87 [⟨yI,a1⟩,⟨yI,r1.2.1⟩,⟨yK,r2.1⟩]).bind fun r3=>some ⟨o_Z34,(r3.1,r3.2.1,r3.2.2.1,())⟩))):=by kernel_rfl
def Z127.l0(R:Run)(N n:Nat)(a:List Int)(b e f:Int):Option Dv:=R.w (some ⟨(.c (.d yL a)::(.c (.d yI b)::(zd 5 (.c (.d yI e)::(.c (.d yI f)::(zd 10 [])))))),(zo 21 [])⟩) fun st=>lC R pol_Z127 2 N [1,0,1,0,0] F_Z127 n st (kB R pol_Z127 0 (kS R pol_Z127 7 N [1,1] F_Z127 (qsX E sg_Z127 F_Z127)))
theorem Z127.l0_succ(R:Run)(hw:R.ok)(N n:Nat)(a:List Int)(b c d:Int):Z127.l0 R N (n+1) a b c d=(bif (decide (d<c)) then((idx? a d).bind fun y5=>(bif (b==(y5,()).1) then some ⟨o_Z127,(d,())⟩ else(Z127.l0 R N n a b c (w64 (d+(1:Int)))))) else some ⟨o_Z127,((-1:Int),())⟩):=(hw _ _).trans (by kernel_rfl)
theorem Z127.ev(R:Run)(N:Nat)(a0:List Int)(a1:Int):qsp E R sg_Z127 pol_Z127 F_Z127 N [⟨yL,a0⟩,⟨yI,a1⟩]=(Z127.l0 R N N a0 a1 (List.length a0:Int) (0:Int)):=by kernel_rfl
theorem Z115.ev(R:Run)(N:Nat)(a0:List Int)(a1:Int):qsp E R sg_Z115 pol_Z115 F_Z115 N [⟨yL,a0⟩,⟨yI,a1⟩]=((qcx R n_Z127 o_Z127 [⟨yL,a0⟩,⟨yI,a1⟩]).bind fun r1=>some ⟨o_Z115,((decide (r1.1≥(0:Int))),())⟩):=by kernel_rfl
def Z72.l1(R:Run)(N a n:Nat)(b:List Int)(e f g:Int)(h:List Int)(i j k l m:Int)(o p:List Int)(q r:vK):Option Dv:=R.w (some ⟨(V.dead::(.c (.box 1 0)::(V.dead::(.c (.arr 68)::(.c (.d yL b)::(V.dead::(.c (.arr 61)::(.c (.d yI e)::(.c (.arr 32)::(zd 14 (.c (.d yI f)::(.c (.d yI g)::(zd 11 (.c (.d yL h)::(.c (.d yI i)::(.c (.d yI j)::(zd 25 []))))))))))))))))),(none::(some (.box [.d yI k,.d yI l,.d yI m,.d yL o] false false)::(zo 30 (some (.arr yI p true false false)::(zo 28 (some (.arr yL q true false false)::(zo 6 (some (.arr yL r false false false)::[]))))))))⟩) fun st=>lC R pol_Z72 11 N [1,1,1,1,0,1,0,0,1,1,0,0,1,1,1,1,0,1,0,0] F_Z72 n st (kB R pol_Z72 2 (kS R pol_Z72 15 N [1,1,1,1,0,1,0,0,1,1,0,0,1,1,1,1,1] F_Z72 (kB R pol_Z72 1 (kS R pol_Z72 16 N [1,1,1,1,0,1,0,0,1,1,1] F_Z72 (kL R pol_Z72 5 N [1,1,1,1,0,1,0,0] F_Z72 a (kB R pol_Z72 0 (kS R pol_Z72 17 N [1,1,1,1,1] F_Z72 (qsX E sg_Z72 F_Z72))))))))
def Z72.l0(R:Run)(N n:Nat)(a:List Int)(b e f g h:Int)(i:List Int)(j k:vK):Option Dv:=R.w (some ⟨(V.dead::(.c (.box 1 0)::(V.dead::(.c (.arr 68)::(.c (.d yL a)::(V.dead::(.c (.arr 61)::(zd 16 (.c (.d yI b)::(.c (.d yI e)::(zd 39 []))))))))))),(none::(some (.box [.d yI f,.d yI g,.d yI h,.d yL i] false false)::(zo 59 (some (.arr yL j true false false)::(zo 6 (some (.arr yL k false false false)::[]))))))⟩) fun st=>lC R pol_Z72 5 N [1,1,1,1,0,1,0,0] F_Z72 n st (kB R pol_Z72 0 (kS R pol_Z72 17 N [1,1,1,1,1] F_Z72 (qsX E sg_Z72 F_Z72)))
theorem Z72.l1_succ(R:Run)(hw:R.ok)(N a n:Nat)(b:List Int)(c d e:Int)(f:List Int)(g h i j k:Int)(l m:List Int)(o p:vK):Z72.l1 R N a (n+1) b c d e f g h i j k l m o p=(bif (decide (h<g)) then((idx? f h).bind fun y36=>((chk (decide (0≤h)&&decide (h<(List.length p:Int)))).bind fun _=>(Option.bind (p)[(Int.toNat h)]? fun y37=>((idx? y37 c).bind fun y38=>((qcx R n_Z79 o_Z79 [⟨yI,(w64 (0-(y38,()).1))⟩,⟨yI,i⟩]).bind fun r39=>((chk (decide (0≤(y36,()).1)&&decide ((y36,()).1<(List.length m:Int)))).bind fun _=>(Z72.l1 R N a n b c d e f g (w64 (h+(1:Int))) i j k l (List.set m (Int.toNat (y36,()).1) r39.1) o p))))))) else((chk (decide ((List.length o+List.length [m])*24≤70368744177664))).bind fun _=>(Z72.l0 R N a b d (w64 (e+(1:Int))) i j k l (o++[m]) p))):=(hw _ _).trans (by kernel_rfl)
theorem Z72.l0_succ(R:Run)(hw:R.ok)(N n:Nat)(a:List Int)(b c d e f:Int)(g:List Int)(h i:vK):Z72.l0 R N (n+1) a b c d e f g h i=(bif (decide (c<b)) then((qcx R n_Z115 o_Z115 [⟨yL,a⟩,⟨yI,c⟩]).bind fun r12=>(bif r12.1 then(Z72.l0 R N n a b (w64 (c+(1:Int))) d e f g h i) else((chk (decide (0≤f)&&decide (f*8≤70368744177664))).bind fun _=>((chk (decide (0≤c)&&decide (c<(List.length (List.replicate (Int.toNat f) (0:Int)):Int)))).bind fun _=>(Z72.l1 R N n N a c b c a (List.length a:Int) (0:Int) d e f g (List.set (List.replicate (Int.toNat f) (0:Int)) (Int.toNat c) (1:Int)) h i))))) else some ⟨o_Z72,(h,())⟩):=(hw _ _).trans (by kernel_rfl)
theorem Z72.ev(R:Run)(N:Nat)(a0 a1 a2:Int)(a3:List Int):qsp E R sg_Z72 pol_Z72 F_Z72 N [⟨yI,a0⟩,⟨yI,a1⟩,⟨yI,a2⟩,⟨yL,a3⟩]=((qcx R n_Z80 o_Z80 [⟨yI,a0⟩,⟨yI,a1⟩,⟨yI,a2⟩,⟨yL,a3⟩]).bind fun r1=>((qcx R n_Z45 o_Z45 [⟨yK,r1.1⟩,⟨yI,a2⟩,⟨yI,a0⟩]).bind fun r2=>(Z72.l0 R N N r2.1 a2 (0:Int) a0 a1 a2 a3 ([]:List (List Int)) r2.2.2.1))):=by kernel_rfl
theorem Z74.ev(R:Run)(N:Nat)(a0:Int):qsp E R sg_Z74 pol_Z74 F_Z74 N [⟨yI,a0⟩]=some ⟨o_Z74,((a0 != (0:Int)),())⟩:=by kernel_rfl
def Z126.l0(R:Run)(N n:Nat)(a:List Int)(b e:Int):Option Dv:=R.w (some ⟨(.c (.d yL a)::(.c (.d (.fn n_Z74 .nil) ())::(zd 5 (.c (.d yI b)::(.c (.d yI e)::(zd 10 [])))))),(zo 21 [])⟩) fun st=>q3_6 R N n st (kB R pol_Z121 0 (q3_3 R N (qsX E sg_Z121 F_Z121)))
theorem Z126.l0_succ(R:Run)(hw:R.ok)(N n:Nat)(a:List Int)(b c:Int):Z126.l0 R N (n+1) a b c=(bif (decide (c<b)) then((idx? a c).bind fun y4=>((qcx R n_Z74 o_Z74 [⟨yI,(y4,()).1⟩]).bind fun r5=>(bif r5.1 then some ⟨o_Z121,(c,())⟩ else(Z126.l0 R N n a b (w64 (c+(1:Int))))))) else some ⟨o_Z121,((-1:Int),())⟩):=(hw _ _).trans (by kernel_rfl)
theorem Z126.ev(R:Run)(N:Nat)(a0:List Int):qsp E R sg_Z121 pol_Z121 F_Z121 N [⟨yL,a0⟩,⟨(.fn n_Z74 .nil),()⟩]=(Z126.l0 R N N a0 (List.length a0:Int) (0:Int)):=by kernel_rfl
def Z73.l0(R:Run)(N n:Nat)(a:vK)(b e:Int)(f:List Int):Option Dv:=R.w (some ⟨(zd 3 (.c (.arr 17)::(zd 3 (.c (.d yK a)::(.c (.d yI b)::(.c (.d yI e)::(zd 10 []))))))),(zo 17 (some (.arr yI f true false false)::(zo 5 [])))⟩) fun st=>lC R pol_Z73 3 N [1,1,0,1,0,0] F_Z73 n st (kB R pol_Z73 0 (kS R pol_Z73 7 N [1,1,1] F_Z73 (qsX E sg_Z73 F_Z73)))
theorem Z73.l0_succ(R:Run)(hw:R.ok)(N n:Nat)(a:vK)(b c:Int)(d:List Int):Z73.l0 R N (n+1) a b c d=(bif (decide (c<b)) then((idx? a c).bind fun y5=>((qcx R n_Z121 o_Z121 [⟨yL,(y5,()).1⟩,⟨(.fn n_Z74 .nil),()⟩]).bind fun r6=>((chk (decide ((List.length d+List.length [r6.1])*8≤70368744177664))).bind fun _=>(Z73.l0 R N n a b (w64 (c+(1:Int))) (d++[r6.1]))))) else some ⟨o_Z73,(d,())⟩):=(hw _ _).trans (by kernel_rfl)
theorem Z73.ev(R:Run)(N:Nat)(a0 a1:Int)(a2:vK):qsp E R sg_Z73 pol_Z73 F_Z73 N [⟨yI,a0⟩,⟨yI,a1⟩,⟨yK,a2⟩]=(Z73.l0 R N N a2 (List.length a2:Int) (0:Int) ([]:List Int)):=by kernel_rfl
theorem Z71.ev(R:Run)(N:Nat)(a0:Int):qsp E R sg_Z71 pol_Z71 F_Z71 N [⟨yI,a0⟩]=some ⟨o_Z71,((a0 != (0:Int)),())⟩:=by kernel_rfl
def Z125.l0(R:Run)(N n:Nat)(a:List Int)(b e:Int):Option Dv:=R.w (some ⟨(.c (.d yL a)::(.c (.d (.fn n_Z71 .nil) ())::(zd 5 (.c (.d yI b)::(.c (.d yI e)::(zd 10 [])))))),(zo 21 [])⟩) fun st=>q3_6 R N n st (kB R pol_Z121 0 (q3_3 R N (qsX E sg_Z121 F_Z121)))
theorem Z125.l0_succ(R:Run)(hw:R.ok)(N n:Nat)(a:List Int)(b c:Int):Z125.l0 R N (n+1) a b c=(bif (decide (c<b)) then((idx? a c).bind fun y4=>((qcx R n_Z71 o_Z71 [⟨yI,(y4,()).1⟩]).bind fun r5=>(bif r5.1 then some ⟨o_Z121,(c,())⟩ else(Z125.l0 R N n a b (w64 (c+(1:Int))))))) else some ⟨o_Z121,((-1:Int),())⟩):=(hw _ _).trans (by kernel_rfl)
theorem Z125.ev(R:Run)(N:Nat)(a0:List Int):qsp E R sg_Z121 pol_Z121 F_Z121 N [⟨yL,a0⟩,⟨(.fn n_Z71 .nil),()⟩]=(Z125.l0 R N N a0 (List.length a0:Int) (0:Int)):=by kernel_rfl
theorem Z114.ev(R:Run)(N:Nat)(a0:List Int):qsp E R sg_Z110 pol_Z110 F_Z110 N [⟨yL,a0⟩,⟨(.fn n_Z71 .nil),()⟩]=((qcx R n_Z121 o_Z121 [⟨yL,a0⟩,⟨(.fn n_Z71 .nil),()⟩]).bind fun r1=>some ⟨o_Z110,((decide (r1.1≥(0:Int))),())⟩):=by kernel_rfl
theorem Z70.ev(R:Run)(N:Nat)(a0:List Int):qsp E R sg_Z70 pol_Z70 F_Z70 N [⟨yL,a0⟩]=((qcx R n_Z110 o_Z110 [⟨yL,a0⟩,⟨(.fn n_Z71 .nil),()⟩]).bind fun r1=>some ⟨o_Z70,((!r1.1),())⟩):=by kernel_rfl
def Z40.l0(R:Run)(N n:Nat)(a b e:List Int)(f g h i:Int)(j:vK)(k:List Int):Option Dv:=R.w (some ⟨(V.dead::(.c (.d yL a)::(.c (.box 2 0)::(zd 3 (.c (.arr 25)::(.c (.d yL b)::(zd 4 (.c (.d yL e)::(.c (.d yI f)::(.c (.d yI g)::(zd 34 []))))))))))),(none::(none::(some (.box [.d yI h,.d yI i,.d yK j] false false)::(zo 22 (some (.arr yI k true false false)::(zo 27 []))))))⟩) fun st=>lC R pol_Z40 4 N [1,1,1,0,1,0,0] F_Z40 n st (kB R pol_Z40 0 (kS R pol_Z40 9 N [1,1,1,1] F_Z40 (qsX E sg_Z40 F_Z40)))
theorem Z40.l0_succ(R:Run)(hw:R.ok)(N n:Nat)(a b c:List Int)(d e f g:Int)(h:vK)(i:List Int):Z40.l0 R N (n+1) a b c d e f g h i=(bif (decide (e<d)) then((idx? c e).bind fun y11=>((idx? a (y11,()).1).bind fun y12=>((chk (decide ((List.length i+List.length [(y12,()).1])*8≤70368744177664))).bind fun _=>((idx? h e).bind fun y13=>((idx? a (y11,()).1).bind fun y14=>((chk (f != 0)).bind fun _=>((qcx R n_Z26 o_Z26 [⟨yL,b⟩,⟨yL,(y13,()).1⟩,⟨yI,(Int.tmod (w64 (f-(y14,()).1)) f)⟩,⟨yI,f⟩]).bind fun r15=>(Z40.l0 R N n a r15.1 c d (w64 (e+(1:Int))) f g h (i++[(y12,()).1]))))))))) else((qcx R n_Z70 o_Z70 [⟨yL,b⟩]).bind fun r25=>some ⟨o_Z40,(i,r25.1,())⟩)):=(hw _ _).trans (by kernel_rfl)
theorem Z40.ev(R:Run)(N:Nat)(a0 a1:Int)(a2:vK)(a3:List Int):qsp E R sg_Z40 pol_Z40 F_Z40 N [⟨yI,a0⟩,⟨yI,a1⟩,⟨yK,a2⟩,⟨yL,a3⟩]=((qcx R n_Z73 o_Z73 [⟨yI,a0⟩,⟨yI,a1⟩,⟨yK,a2⟩]).bind fun r1=>(Z40.l0 R N N a3 a3 r1.1 (List.length r1.1:Int) (0:Int) a0 a1 a2 ([]:List Int))):=by kernel_rfl
theorem Z39.ev(R:Run)(N:Nat)(a0 a1:Int)(a2:vK)(a3:List Int):qsp E R sg_Z39 pol_Z39 F_Z39 N [⟨yI,a0⟩,⟨yI,a1⟩,⟨yK,a2⟩,⟨yL,a3⟩]=((qcx R n_Z40 o_Z40 [⟨yI,a0⟩,⟨yI,a1⟩,⟨yK,a2⟩,⟨yL,a3⟩]).bind fun r1=>some ⟨o_Z39,(r1.2.1,())⟩):=by kernel_rfl
theorem Z36.ev(R:Run)(N:Nat)(a0:vK)(a1:Int)(a2:List Int)(a3:vN)(a4:Int):qsp E R sg_Z36 pol_Z36 F_Z36 N [⟨yK,a0⟩,⟨yI,a1⟩,⟨yL,a2⟩,⟨yN,a3⟩,⟨yI,a4⟩]=((qcx R n_Z34 o_Z34 [⟨yK,a0⟩,⟨yI,a1⟩,⟨yL,a2⟩,⟨yN,a3⟩,⟨yI,a4⟩]).bind fun r1=>((qcx R n_Z35 o_Z35 [⟨yK,a0⟩,⟨yI,a1⟩,⟨yL,a2⟩,⟨yN,a3⟩,⟨yI,a4⟩]).bind fun r2=>((qcx R n_Z72 o_Z72 [⟨yI,r2.1⟩,⟨yI,r2.2.1⟩,⟨yI,r2.2.2.1⟩,⟨yL,r2.2.2.2.1⟩]).bind fun r3=>((qcx R n_Z59 o_Z59 [⟨yI,r1.1⟩,⟨yI,r1.2.1⟩,⟨yK,r1.2.2.1⟩,⟨yK,r3.1⟩]).bind fun r4=>some ⟨o_Z36,(r4.1,())⟩)))):=by kernel_rfl
def Z8.l0(R:Run)(N n:Nat)(a:Int)(b:vK)(e:Int)(f:List Int)(g:vN)(h:List Int):Option Dv:=R.w (some ⟨(V.dead::(.c (.box 1 0)::(V.dead::(V.dead::(.c (.arr 18)::(zd 4 (.c (.d yI a)::(zd 11 [])))))))),(none::(some (.box [.d yK b,.d yI e,.d yL f,.d yN g] false false)::(zo 16 (some (.arr yI h true false false)::(zo 6 [])))))⟩) fun st=>lC R pol_Z8 5 N [1,1,1,0,1,0,0] F_Z8 n st (kB R pol_Z8 0 (kS R pol_Z8 9 N [1,1,1,1] F_Z8 (qsX E sg_Z8 F_Z8)))
theorem Z8.l0_succ(R:Run)(hw:R.ok)(N n:Nat)(a:Int)(b:vK)(c:Int)(d:List Int)(e:vN)(f:List Int):Z8.l0 R N (n+1) a b c d e f=(bif (decide (a<(4:Int))) then((qcx R n_Z36 o_Z36 [⟨yK,b⟩,⟨yI,c⟩,⟨yL,d⟩,⟨yN,e⟩,⟨yI,a⟩]).bind fun r8=>((qcx R n_Z84 o_Z84 [⟨yK,r8.1⟩]).bind fun r9=>((chk (decide ((List.length f+List.length [r9.1])*8≤70368744177664))).bind fun _=>(Z8.l0 R N n (w64 (a+(1:Int))) b c d e (f++[r9.1]))))) else some ⟨o_Z8,(f,(0:Int),())⟩):=(hw _ _).trans (by kernel_rfl)
theorem Z8.ev(R:Run)(N:Nat)(a0:vK)(a1:Int)(a2:List Int)(a3:vN):qsp E R sg_Z8 pol_Z8 F_Z8 N [⟨yK,a0⟩,⟨yI,a1⟩,⟨yL,a2⟩,⟨yN,a3⟩]=((qcx R n_Z13 o_Z13 [⟨yK,a0⟩,⟨yI,a1⟩,⟨yL,a2⟩,⟨yN,a3⟩]).bind fun r1=>(bif (!r1.1) then some ⟨o_Z8,(([]:List Int),(1:Int),())⟩ else(Z8.l0 R N N (0:Int) a0 a1 a2 a3 ([]:List Int)))):=by kernel_rfl
theorem Z18.ev(R:Run)(N:Nat)(a0:vK)(a1:Int)(a2:List Int)(a3:vN):qsp E R sg_Z18 pol_Z18 F_Z18 N [⟨yK,a0⟩,⟨yI,a1⟩,⟨yL,a2⟩,⟨yN,a3⟩]=((qcx R n_Z13 o_Z13 [⟨yK,a0⟩,⟨yI,a1⟩,⟨yL,a2⟩,⟨yN,a3⟩]).bind fun r1=>(bif (!r1.1) then some ⟨o_Z18,((0:Int),(1:Int),())⟩ else((qcx R n_Z88 o_Z88 [⟨yK,a0⟩,⟨yI,a1⟩,⟨yL,a2⟩,⟨yN,a3⟩,⟨yI,(0:Int)⟩]).bind fun r2=>((qcx R n_Z88 o_Z88 [⟨yK,a0⟩,⟨yI,a1⟩,⟨yL,a2⟩,⟨yN,a3⟩,⟨yI,(1:Int)⟩]).bind fun r3=>((qcx R n_Z88 o_Z88 [⟨yK,a0⟩,⟨yI,a1⟩,⟨yL,a2⟩,⟨yN,a3⟩,⟨yI,(2:Int)⟩]).bind fun r4=>((qcx R n_Z88 o_Z88 [⟨yK,a0⟩,⟨yI,a1⟩,⟨yL,a2⟩,⟨yN,a3⟩,⟨yI,(3:Int)⟩]).bind fun r5=>some ⟨o_Z18,((w64 ((w64 ((w64 (r2.1-r3.1))+r4.1))-r5.1)),(0:Int),())⟩)))))):=by kernel_rfl
theorem Z7.ev(R:Run)(N:Nat)(a0:vK)(a1:Int)(a2:List Int)(a3:vN)(a4:Int):qsp E R sg_Z7 pol_Z7 F_Z7 N [⟨yK,a0⟩,⟨yI,a1⟩,⟨yL,a2⟩,⟨yN,a3⟩,⟨yI,a4⟩]=((qcx R n_Z57 o_Z57 [⟨yK,a0⟩,⟨yI,a1⟩,⟨yL,a2⟩,⟨yN,a3⟩,⟨yI,a4⟩]).bind fun r1=>(bif (r1.1 != (0:Int)) then some ⟨o_Z7,(([]:List (List Int)),r1.1,())⟩ else((qcx R n_Z36 o_Z36 [⟨yK,a0⟩,⟨yI,a1⟩,⟨yL,a2⟩,⟨yN,a3⟩,⟨yI,a4⟩]).bind fun r2=>some ⟨o_Z7,(r2.1,(0:Int),())⟩))):=by kernel_rfl
theorem Z6.ev(R:Run)(N:Nat)(a0:vK)(a1:Int)(a2:List Int)(a3:vN)(a4:Int):qsp E R sg_Z6 pol_Z6 F_Z6 N [⟨yK,a0⟩,⟨yI,a1⟩,⟨yL,a2⟩,⟨yN,a3⟩,⟨yI,a4⟩]=((qcx R n_Z57 o_Z57 [⟨yK,a0⟩,⟨yI,a1⟩,⟨yL,a2⟩,⟨yN,a3⟩,⟨yI,a4⟩]).bind fun r1=>(bif (r1.1 != (0:Int)) then some ⟨o_Z6,(([]:List (List Int)),r1.1,())⟩ else((qcx R n_Z35 o_Z35 [⟨yK,a0⟩,⟨yI,a1⟩,⟨yL,a2⟩,⟨yN,a3⟩,⟨yI,a4⟩]).bind fun r2=>((qcx R n_Z72 o_Z72 [⟨yI,r2.1⟩,⟨yI,r2.2.1⟩,⟨yI,r2.2.2.1⟩,⟨yL,r2.2.2.2.1⟩]).bind fun r3=>some ⟨o_Z6,(r3.1,(0:Int),())⟩)))):=by kernel_rfl
theorem Z63.ev(R:Run)(N:Nat)(a0:vK)(a1:Int)(a2:List Int)(a3:vN)(a4:Int)(a5:List Int):qsp E R sg_Z63 pol_Z63 F_Z63 N [⟨yK,a0⟩,⟨yI,a1⟩,⟨yL,a2⟩,⟨yN,a3⟩,⟨yI,a4⟩,⟨yL,a5⟩]=((qcx R n_Z35 o_Z35 [⟨yK,a0⟩,⟨yI,a1⟩,⟨yL,a2⟩,⟨yN,a3⟩,⟨yI,a4⟩]).bind fun r1=>((qcx R n_Z28 o_Z28 [⟨yI,r1.1⟩,⟨yI,r1.2.1⟩,⟨yI,r1.2.2.1⟩,⟨yL,r1.2.2.2.1⟩,⟨yL,a5⟩]).bind fun r2=>((qcx R n_Z70 o_Z70 [⟨yL,r2.1⟩]).bind fun r3=>some ⟨o_Z63,(r3.1,())⟩))):=by kernel_rfl
theorem Z12.ev(R:Run)(N:Nat)(a0:vK)(a1:Int)(a2:List Int)(a3:vN)(a4:Int)(a5:List Int):qsp E R sg_Z12 pol_Z12 F_Z12 N [⟨yK,a0⟩,⟨yI,a1⟩,⟨yL,a2⟩,⟨yN,a3⟩,⟨yI,a4⟩,⟨yL,a5⟩]=((qcx R n_Z93 o_Z93 [⟨yK,a0⟩,⟨yI,a1⟩,⟨yL,a2⟩,⟨yN,a3⟩,⟨yI,a4⟩,⟨yL,a5⟩]).bind fun r1=>(bif (r1.1==(0:Int)) then((qcx R n_Z63 o_Z63 [⟨yK,a0⟩,⟨yI,a1⟩,⟨yL,a2⟩,⟨yN,a3⟩,⟨yI,a4⟩,⟨yL,a5⟩]).bind fun r2=>some ⟨o_Z12,(r2.1,())⟩) else some ⟨o_Z12,(false,())⟩)):=by kernel_rfl
def Z47.l0(R:Run)(N n:Nat)(a b e:Int)(f:List Int):Option Dv:=R.w (some ⟨(V.dead::(.c (.d yI a)::(zd 3 (.c (.arr 14)::(V.dead::(V.dead::(.c (.d yI b)::(.c (.d yI e)::(zd 7 []))))))))),(zo 14 (some (.arr yI f true false false)::(zo 4 [])))⟩) fun st=>lC R pol_Z47 3 N [1,1,0,1,0,0] F_Z47 n st (kB R pol_Z47 0 (kS R pol_Z47 6 N [1,1,1] F_Z47 (qsX E sg_Z47 F_Z47)))
theorem Z47.l0_succ(R:Run)(hw:R.ok)(N n:Nat)(a b c:Int)(d:List Int):Z47.l0 R N (n+1) a b c d=(bif (decide (c<b)) then((chk (decide ((List.length d+List.length [a])*8≤70368744177664))).bind fun _=>(Z47.l0 R N n a b (w64 (c+(1:Int))) (d++[a]))) else some ⟨o_Z47,(d,())⟩):=(hw _ _).trans (by kernel_rfl)
theorem Z47.ev(R:Run)(N:Nat)(a0:vK)(a1:Int):qsp E R sg_Z47 pol_Z47 F_Z47 N [⟨yK,a0⟩,⟨yI,a1⟩]=(Z47.l0 R N N a1 (List.length a0:Int) (0:Int) ([]:List Int)):=by kernel_rfl
theorem Z58.ev(R:Run)(N:Nat)(a0:vK):qsp E R sg_Z58 pol_Z58 F_Z58 N [⟨yK,a0⟩]=((qcx R n_Z41 o_Z41 [⟨yK,a0⟩]).bind fun r1=>((qcx R n_Z128 o_Z128 [⟨yK,r1.1⟩,⟨(.fn n_Z38 .nil),()⟩]).bind fun r2=>((qcx R n_Z105 o_Z105 [⟨yK,r2.1⟩,⟨(.fn n_Z116 .nil),()⟩]).bind fun r3=>some ⟨o_Z58,(r3.1,())⟩))):=by kernel_rfl
theorem Z92.ev(R:Run)(N:Nat)(a0 a1:Int):qsp E R sg_Z92 pol_Z92 F_Z92 N [⟨yI,a0⟩,⟨yI,a1⟩]=(bif (a0==a1) then some ⟨o_Z92,((1:Int),())⟩ else some ⟨o_Z92,((0:Int),())⟩):=by kernel_rfl
def Z53.l1(R:Run)(N a n:Nat)(b e f g h i j k l m o p:Int)(q:List Int):Option Dv:=R.w (some ⟨(V.dead::(V.dead::(.c (.d yI b)::(.c (.d (.fn n_Z92 .nil) ())::(zd 4 (.c (.box 8 0)::(.c (.box 9 0)::(.c (.d yI e)::(zd 5 (.c (.d yI f)::(.c (.d yI g)::(V.dead::(V.dead::(.c (.d yI h)::(.c (.d yI i)::(zd 14 [])))))))))))))))),(zo 8 (some (.box [.d yI j,.d yI k,.d yI l,.nils yI] false false)::(some (.box [.d yI m,.d yI o,.d yI p,.arr 31] false false)::(zo 21 (some (.arr yI q true false false)::(zo 8 []))))))⟩) fun st=>lC R pol_Z50 6 N [1,1,0,1,0,0,1,1,0,0,1,1,0,0] F_Z50 n st (kB R pol_Z50 2 (kB R pol_Z50 1 (kS R pol_Z50 10 N [1,1,0,1,0,0,1,1,1] F_Z50 (kL R pol_Z50 3 N [1,1,0,1,0,0] F_Z50 a (kB R pol_Z50 0 (kS R pol_Z50 11 N [1,1,1] F_Z50 (qsX E sg_Z50 F_Z50)))))))
def Z53.l0(R:Run)(N n:Nat)(a b e f g h i j k:Int)(l:List Int):Option Dv:=R.w (some ⟨(V.dead::(V.dead::(.c (.d yI a)::(.c (.d (.fn n_Z92 .nil) ())::(zd 4 (.c (.box 8 0)::(.c (.box 9 0)::(zd 6 (.c (.d yI b)::(.c (.d yI e)::(zd 18 []))))))))))),(zo 8 (some (.box [.d yI f,.d yI g,.d yI h,.nils yI] false false)::(some (.box [.d yI i,.d yI j,.d yI k,.arr 31] false false)::(zo 21 (some (.arr yI l true false false)::(zo 8 []))))))⟩) fun st=>lC R pol_Z50 3 N [1,1,0,1,0,0] F_Z50 n st (kB R pol_Z50 0 (kS R pol_Z50 11 N [1,1,1] F_Z50 (qsX E sg_Z50 F_Z50)))
theorem Z53.l1_succ(R:Run)(hw:R.ok)(N a n:Nat)(b c d e f g h i j k l m:Int)(o:List Int):Z53.l1 R N a (n+1) b c d e f g h i j k l m o=(bif (decide (g<f)) then((qcx R n_Z92 o_Z92 [⟨yI,c⟩,⟨yI,g⟩]).bind fun r24=>((chk (decide ((List.length o+List.length [r24.1])*8≤70368744177664))).bind fun _=>(Z53.l1 R N a n b c d e f (w64 (g+(1:Int))) h i j k l m (o++[r24.1])))) else(Z53.l0 R N a b d (w64 (e+(1:Int))) h i j k l m o)):=(hw _ _).trans (by kernel_rfl)
theorem Z53.l0_succ(R:Run)(hw:R.ok)(N n:Nat)(a b c d e f g h i:Int)(j:List Int):Z53.l0 R N (n+1) a b c d e f g h i j=(bif (decide (c<b)) then(Z53.l1 R N n N a c b c a (0:Int) d e f g h i j) else some ⟨o_Z50,(g,h,i,j,())⟩):=(hw _ _).trans (by kernel_rfl)
theorem Z53.ev(R:Run)(N:Nat)(a0 a1 a2:Int):qsp E R sg_Z50 pol_Z50 F_Z50 N [⟨yI,a0⟩,⟨yI,a1⟩,⟨yI,a2⟩,⟨(.fn n_Z92 .nil),()⟩]=(Z53.l0 R N N a2 a1 (0:Int) (0:Int) (0:Int) (0:Int) a0 a1 a2 ([]:List Int)):=by kernel_rfl
theorem Z91.ev(R:Run)(N:Nat)(a0 a1:Int):qsp E R sg_Z91 pol_Z91 F_Z91 N [⟨yI,a0⟩,⟨yI,a1⟩]=((qcx R n_Z50 o_Z50 [⟨yI,a0⟩,⟨yI,a1⟩,⟨yI,a1⟩,⟨(.fn n_Z92 .nil),()⟩]).bind fun r1=>some ⟨o_Z91,(r1.1,r1.2.1,r1.2.2.1,r1.2.2.2.1,())⟩):=by kernel_rfl
theorem Z10.ev(R:Run)(N:Nat)(a0 a1 a2:Int)(a3 a4:(Int×Unit)):qsp E R sg_Z10 pol_Z10 F_Z10 N [⟨yI,a0⟩,⟨yI,a1⟩,⟨yI,a2⟩,⟨(.ptr (.cons yI .nil)),a3⟩,⟨(.ptr (.cons yI .nil)),a4⟩]=((qcx R n_Z91 o_Z91 [⟨yI,a3.1⟩,⟨yI,a4.1⟩]).bind fun r1=>some ⟨o_Z10,(r1.1,r1.2.1,r1.2.2.1,r1.2.2.2.1,())⟩):=by kernel_rfl
theorem Z42.ev(R:Run)(N:Nat)(a0 a1 a2:Int)(a3:List Int):qsp E R sg_Z42 pol_Z42 F_Z42 N [⟨yI,a0⟩,⟨yI,a1⟩,⟨yI,a2⟩,⟨yL,a3⟩]=((qcx R n_Z104 o_Z104 [⟨yL,a3⟩]).bind fun r1=>some ⟨o_Z42,(a0,a1,a2,r1.1,())⟩):=by kernel_rfl
def Z82.l0(R:Run)(N n:Nat)(a:((Int×Unit)×(Int×Unit)×Unit))(b:(List (Int×Int×Int×Unit)))(e f g h:Int)(i:vN)(j:vK)(k:List Int):Option Dv:=R.w (some ⟨(zd 3 (.c (.d (.fn n_Z10 (.cons (.ptr (.cons yI .nil)) (.cons (.ptr (.cons yI .nil)) .nil))) a)::(zd 4 (.c (.box 8 0)::(.c (.box 9 0)::(zd 10 (.c (.d (.sl (.st (.cons yI (.cons yI (.cons yI .nil))))) b)::(.c (.d yI e)::(.c (.d yI f)::(zd 14 [])))))))))),(zo 8 (some (.box [.nils yL,.d yI g,.nils yI,.nils (.st yM)] false false)::(some (.box [.arr 42,.d yI h,.arr 43,.arr 33] false false)::(zo 23 (some (.arr (.st yM) i true false false)::(zo 8 (some (.arr yL j true false false)::(some (.arr yI k true false false)::[]))))))))⟩) fun st=>lC R pol_Z81 3 N [1,1,0,1,0,0] F_Z81 n st (kB R pol_Z81 0 (kS R pol_Z81 7 N [1,1,1] F_Z81 (qsX E sg_Z81 F_Z81)))
theorem Z82.l0_succ(R:Run)(hw:R.ok)(N n:Nat)(a:((Int×Unit)×(Int×Unit)×Unit))(b:(List (Int×Int×Int×Unit)))(c d e f:Int)(g:vN)(h:vK)(i:List Int):Z82.l0 R N (n+1) a b c d e f g h i=(bif (decide (d<c)) then((idx? b d).bind fun y13=>((qcx R n_Z10 o_Z10 [⟨yI,y13.1⟩,⟨yI,y13.2.1⟩,⟨yI,y13.2.2.1⟩,⟨(.ptr (.cons yI .nil)),a.1⟩,⟨(.ptr (.cons yI .nil)),a.2.1⟩]).bind fun r14=>((qcx R n_Z42 o_Z42 [⟨yI,r14.1⟩,⟨yI,r14.2.1⟩,⟨yI,r14.2.2.1⟩,⟨yL,r14.2.2.2.1⟩]).bind fun r15=>((chk (decide ((List.length g+List.length [(r15.1,r15.2.1,r15.2.2.1,r15.2.2.2.1,())])*48≤70368744177664))).bind fun _=>(Z82.l0 R N n a b c (w64 (d+(1:Int))) e f (g++[(r15.1,r15.2.1,r15.2.2.1,r15.2.2.2.1,())]) h i))))) else some ⟨o_Z81,(h,f,i,g,())⟩):=(hw _ _).trans (by kernel_rfl)
theorem Z82.ev(R:Run)(N:Nat)(a0:vK)(a1:Int)(a2:List Int)(a3:((Int×Unit)×(Int×Unit)×Unit)):qsp E R sg_Z81 pol_Z81 F_Z81 N [⟨yK,a0⟩,⟨yI,a1⟩,⟨yL,a2⟩,⟨(.fn n_Z10 (.cons (.ptr (.cons yI .nil)) (.cons (.ptr (.cons yI .nil)) .nil))),a3⟩]=((qcx R n_Z58 o_Z58 [⟨yK,a0⟩]).bind fun r1=>((qcx R n_Z104 o_Z104 [⟨yL,a2⟩]).bind fun r2=>((qcx R n_Z33 o_Z33 [⟨yK,a0⟩]).bind fun r3=>(Z82.l0 R N N a3 r3.1 (List.length r3.1:Int) (0:Int) (0:Int) a1 ([]:List vM) r1.1 r2.1)))):=by kernel_rfl
def Z9.j0(R:Run)(N:Nat)(a:Bool)(b:vK)(e f g:Int):Option Dv:=R.w (some ⟨(zd 3 (.c (.box 3 0)::(.c (.box 4 0)::(.c (.box 5 0)::(.c (.box 6 0)::(V.dead::(.c (.d .bool a)::(zd 29 [])))))))),(zo 3 (some (.box [.d yK b] false false)::(some (.box [.d yI e] false false)::(some (.box [.d yI f] false false)::(some (.box [.nils yL,.d yI g,.nils yI,.nils (.st yM)] false false)::(zo 37 []))))))⟩) fun st=>eC R pol_Z9 N [1,0,0,1] F_Z9 st (kB R pol_Z9 0 (kS R pol_Z9 7 N [1,1] F_Z9 (qsX E sg_Z9 F_Z9)))
theorem Z9.j0_eq(R:Run)(hw:R.ok)(N:Nat)(a:Bool)(b:vK)(c d e:Int):Z9.j0 R N a b c d e=(bif a then some ⟨o_Z9,(([]:List (List Int)),(0:Int),([]:List Int),([]:List vM),(1:Int),())⟩ else((qcx R n_Z94 o_Z94 [⟨yI,d⟩,⟨yI,(0:Int)⟩,⟨yI,(3:Int)⟩]).bind fun r7=>(bif (!r7.1) then some ⟨o_Z9,(([]:List (List Int)),(0:Int),([]:List Int),([]:List vM),(2:Int),())⟩ else((qcx R n_Z47 o_Z47 [⟨yK,b⟩,⟨yI,d⟩]).bind fun r8=>((qcx R n_Z31 o_Z31 [⟨yK,b⟩,⟨yL,r8.1⟩]).bind fun r9=>(bif (!r9.1) then some ⟨o_Z9,(([]:List (List Int)),(0:Int),([]:List Int),([]:List vM),(5:Int),())⟩ else(qo4 ((qcx R n_Z47 o_Z47 [⟨yK,b⟩,⟨yI,d⟩]).bind fun r10=>((qcx R n_Z81 o_Z81 [⟨yK,b⟩,⟨yI,c⟩,⟨yL,r10.1⟩,⟨(.fn n_Z10 (.cons (.ptr (.cons yI .nil)) (.cons (.ptr (.cons yI .nil)) .nil))),((c,()),(d,()),())⟩]).bind fun r11=>some ⟨o_Z9,(r11.1,r11.2.1,r11.2.2.1,r11.2.2.2.1,(0:Int),())⟩)) ((qcx R n_Z47 o_Z47 [⟨yK,b⟩,⟨yI,d⟩]).bind fun r12=>((qcx R n_Z81 o_Z81 [⟨yK,b⟩,⟨yI,c⟩,⟨yL,r12.1⟩,⟨(.fn n_Z10 (.cons (.ptr (.cons yI .nil)) (.cons (.ptr (.cons yI .nil)) .nil))),((c,()),(d,()),())⟩]).bind fun r13=>some ⟨o_Z9,(r13.1,r13.2.1,r13.2.2.1,r13.2.2.2.1,(0:Int),())⟩))))))))):=(hw _ _).trans (by kernel_rfl)
theorem Z9.ev(R:Run)(N:Nat)(a0:vK)(a1 a2:Int):qsp E R sg_Z9 pol_Z9 F_Z9 N [⟨yK,a0⟩,⟨yI,a1⟩,⟨yI,a2⟩]=((qcx R n_Z19 o_Z19 [⟨yK,a0⟩]).bind fun r1=>(bif (!r1.1) then(Z9.j0 R N true a0 a1 a2 (0:Int)) else((qcx R n_Z22 o_Z22 [⟨yI,a1⟩]).bind fun r14=>(Z9.j0 R N (!r14.1) a0 a1 a2 (0:Int))))):=by kernel_rfl
def Z169.j1(R:Run)(N:Nat)(a:Bool):Option Dv:=R.w (some ⟨(zd 38 (.c (.d .bool a)::[])),(zo 42 [])⟩) fun st=>eC R pol_Z169 N [1,1,1,0,1] F_Z169 st (kS R pol_Z169 7 N [1,1,1,1] F_Z169 (qsX E sg_Z169 F_Z169))
def Z169.j0(R:Run)(N:Nat)(a:(vK×Unit))(b:Int)(e:Bool):Option Dv:=R.w (some ⟨(.c (.ip yC a 0)::(.c (.d yI b)::(zd 12 (.c (.d .bool e)::(zd 24 []))))),(zo 42 [])⟩) fun st=>eC R pol_Z169 N [1,0,1] F_Z169 st (kS R pol_Z169 3 N [1,1] F_Z169 (qsX E sg_Z169 F_Z169))
theorem Z169.j1_eq(R:Run)(hw:R.ok)(N:Nat)(a:Bool):Z169.j1 R N a=(bif a then some ⟨o_Z169,((5:Int),())⟩ else some ⟨o_Z169,((0:Int),())⟩):=(hw _ _).trans (by kernel_rfl)
theorem Z169.j0_eq(R:Run)(hw:R.ok)(N:Nat)(a:(vK×Unit))(b:Int)(c:Bool):Z169.j0 R N a b c=(bif c then some ⟨o_Z169,((1:Int),())⟩ else((qcx R n_Z159 o_Z159 [⟨yI,b⟩]).bind fun r5=>(bif (!r5.1) then some ⟨o_Z169,((2:Int),())⟩ else((qcx R n_Z164 o_Z164 [⟨(.ptr yC),a⟩,⟨yI,b⟩]).bind fun r6=>(bif (decide ((List.length r6.1:Int)>(32:Int))) then(Z169.j1 R N true) else((qcx R n_Z164 o_Z164 [⟨(.ptr yC),a⟩,⟨yI,(w64 (b-(1:Int)))⟩]).bind fun r8=>(bif (decide ((List.length r8.1:Int)>(32:Int))) then(Z169.j1 R N true) else((qcx R n_Z164 o_Z164 [⟨(.ptr yC),a⟩,⟨yI,(w64 (b+(1:Int)))⟩]).bind fun r10=>(Z169.j1 R N (decide ((List.length r10.1:Int)>(32:Int)))))))))))):=(hw _ _).trans (by kernel_rfl)
theorem Z169.ev(R:Run)(N:Nat)(a0:(vK×Unit))(a1 a2:Int):qsp E R sg_Z169 pol_Z169 F_Z169 N [⟨(.ptr yC),a0⟩,⟨yI,a1⟩,⟨yI,a2⟩]=((qcx R n_Z165 o_Z165 [⟨(.ptr yC),a0⟩]).bind fun r1=>(bif (!r1.1) then(Z169.j0 R N a0 a1 true) else((qcx R n_Z134 o_Z134 [⟨yI,a2⟩]).bind fun r12=>(Z169.j0 R N a0 a1 (!r12.1))))):=by kernel_rfl
theorem Z172.ev(R:Run)(N:Nat)(a0 a1:Int):qsp E R sg_Z172 pol_Z172 F_Z172 N [⟨yI,a0⟩,⟨yI,a1⟩]=(bif ((Int.tmod a0 (2:Int))==(0:Int)) then((chk (a1 != 0)).bind fun _=>some ⟨o_Z172,((Int.tmod (1:Int) a1),())⟩) else some ⟨o_Z172,((w64 (a1-(1:Int))),())⟩):=by kernel_rfl
def Z171.l2(R:Run)(N a n:Nat)(b:(vK×Unit))(e f:Int)(g h:List Int)(i:Int)(j:List Int)(k l m o p q r:Int)(s:List Int):Option Dv:=R.w (some ⟨(.c (.ip yC b 0)::(.c (.d yI e)::(.c (.d yI f)::(zd 3 (.c (.box 6 0)::(.c (.d yL g)::(.c (.d yL h)::(.c (.box 9 0)::(.c (.d yI i)::(.c (.d yL j)::(.c (.d yI k)::(zd 55 [])))))))))))),(zo 6 (some (.box [.d yI l,.d yI m,.d yI o,.nils yI] false false)::(none::(none::(some (.box [.d yI p,.d yI q,.d yI r,.arr 71] false false)::(zo 61 (some (.arr yI s true false false)::[])))))))⟩) fun st=>lC R pol_Z171 9 N [1,1,1,1,0,1,0,0,1,0,0,1,1,0,0] F_Z171 n st (kB R pol_Z171 2 (kB R pol_Z171 1 (kS R pol_Z171 6 N [1,1,1,1,0,1,0,0,1,1] F_Z171 (kL R pol_Z171 5 N [1,1,1,1,0,1,0,0] F_Z171 a (kB R pol_Z171 0 (q3_4 R N (qsX E sg_Z171 F_Z171)))))))
def Z171.j1(R:Run)(N a:Nat)(b:(vK×Unit))(e f:Int)(g h:List Int)(i:Int)(j:Bool)(k l m o p q:Int)(r:List Int):Option Dv:=R.w (some ⟨(.c (.ip yC b 0)::(.c (.d yI e)::(.c (.d yI f)::(zd 3 (.c (.box 6 0)::(.c (.d yL g)::(.c (.d yL h)::(.c (.box 9 0)::(.c (.d yI i)::(zd 22 (.c (.d .bool j)::(zd 34 [])))))))))))),(zo 6 (some (.box [.d yI k,.d yI l,.d yI m,.nils yI] false false)::(none::(none::(some (.box [.d yI o,.d yI p,.d yI q,.arr 71] false false)::(zo 61 (some (.arr yI r true false false)::[])))))))⟩) fun st=>eC R pol_Z171 N [1,1,1,1,0,1,0,0,0,1] F_Z171 st (kS R pol_Z171 7 N [1,1,1,1,0,1,0,0,1] F_Z171 (kL R pol_Z171 5 N [1,1,1,1,0,1,0,0] F_Z171 a (kB R pol_Z171 0 (q3_4 R N (qsX E sg_Z171 F_Z171)))))
def Z171.l0(R:Run)(N n:Nat)(a:(vK×Unit))(b e:Int)(f g:List Int)(h i j k l m o:Int)(p:List Int):Option Dv:=R.w (some ⟨(.c (.ip yC a 0)::(.c (.d yI b)::(.c (.d yI e)::(zd 3 (.c (.box 6 0)::(.c (.d yL f)::(.c (.d yL g)::(.c (.box 9 0)::(.c (.d yI h)::(zd 57 [])))))))))),(zo 6 (some (.box [.d yI i,.d yI j,.d yI k,.nils yI] false false)::(none::(none::(some (.box [.d yI l,.d yI m,.d yI o,.arr 71] false false)::(zo 61 (some (.arr yI p true false false)::[])))))))⟩) fun st=>lC R pol_Z171 5 N [1,1,1,1,0,1,0,0] F_Z171 n st (kB R pol_Z171 0 (q3_4 R N (qsX E sg_Z171 F_Z171)))
theorem Z171.l2_succ(R:Run)(hw:R.ok)(N a n:Nat)(b:(vK×Unit))(c d:Int)(e f:List Int)(g:Int)(h:List Int)(i j k l m o p:Int)(q:List Int):Z171.l2 R N a (n+1) b c d e f g h i j k l m o p q=(bif (decide (i<(List.length h:Int))) then((idx? h i).bind fun y48=>((idx? f (0:Int)).bind fun y49=>((qcx R n_Z172 o_Z172 [⟨yI,i⟩,⟨yI,d⟩]).bind fun r50=>((chk (decide (0≤(w64 ((w64 ((w64 ((y48,()).1-(y49,()).1))*p))+g)))&&decide ((w64 ((w64 ((w64 ((y48,()).1-(y49,()).1))*p))+g))<(List.length q:Int)))).bind fun _=>(Z171.l2 R N a n b c d e f g h (w64 (i+(1:Int))) j k l m o p (List.set q (Int.toNat (w64 ((w64 ((w64 ((y48,()).1-(y49,()).1))*p))+g))) r50.1)))))) else(Z171.l0 R N a b c d e f (w64 (g+(1:Int))) j k l m o p q)):=(hw _ _).trans (by kernel_rfl)
theorem Z171.j1_eq(R:Run)(hw:R.ok)(N a:Nat)(b:(vK×Unit))(c d:Int)(e f:List Int)(g:Int)(h:Bool)(i j k l m o:Int)(p:List Int):Z171.j1 R N a b c d e f g h i j k l m o p=(bif h then((idx? e g).bind fun y31=>((qcx R n_Z162 o_Z162 [⟨(.ptr yC),b⟩,⟨yI,(y31,()).1⟩]).bind fun r32=>(Z171.l2 R N a N b c d e f g r32.1 (0:Int) i j k l m o p))) else some ⟨o_Z171,(l,m,o,p,())⟩):=(hw _ _).trans (by kernel_rfl)
theorem Z171.l0_succ(R:Run)(hw:R.ok)(N n:Nat)(a:(vK×Unit))(b c:Int)(d e:List Int)(f g h i j k l:Int)(m:List Int):Z171.l0 R N (n+1) a b c d e f g h i j k l m=(bif (decide (f<(List.length d:Int))) then(Z171.j1 R N n a b c d e f (decide (b>(0:Int))) g h i j k l m) else(Z171.j1 R N n a b c d e f false g h i j k l m)):=(hw _ _).trans (by kernel_rfl)
theorem Z171.ev(R:Run)(N:Nat)(a0:(vK×Unit))(a1 a2:Int):qsp E R sg_Z171 pol_Z171 F_Z171 N [⟨(.ptr yC),a0⟩,⟨yI,a1⟩,⟨yI,a2⟩]=((qcx R n_Z164 o_Z164 [⟨(.ptr yC),a0⟩,⟨yI,a1⟩]).bind fun r1=>((qcx R n_Z164 o_Z164 [⟨(.ptr yC),a0⟩,⟨yI,(w64 (a1-(1:Int)))⟩]).bind fun r2=>((qcx R n_Z156 o_Z156 [⟨yI,a2⟩,⟨yI,(List.length r2.1:Int)⟩,⟨yI,(List.length r1.1:Int)⟩]).bind fun r3=>(Z171.l0 R N N a0 a1 a2 r1.1 r2.1 (0:Int) (0:Int) (0:Int) (0:Int) r3.1 r3.2.1 r3.2.2.1 r3.2.2.2.1)))):=by kernel_rfl
theorem Z170.ev(R:Run)(N:Nat)(a0:(vK×Unit))(a1 a2:Int):qsp E R sg_Z170 pol_Z170 F_Z170 N [⟨(.ptr yC),a0⟩,⟨yI,a1⟩,⟨yI,a2⟩]=((qcx R n_Z171 o_Z171 [⟨(.ptr yC),a0⟩,⟨yI,a1⟩,⟨yI,a2⟩]).bind fun r1=>((qcx R n_Z171 o_Z171 [⟨(.ptr yC),a0⟩,⟨yI,(w64 (a1+(1:Int)))⟩,⟨yI,a2⟩]).bind fun r2=>((qcx R n_Z152 o_Z152 [⟨(.ptr yM),(r1.1,r1.2.1,r1.2.2.1,r1.2.2.2.1,())⟩]).bind fun r3=>((qcx R n_Z152 o_Z152 [⟨(.ptr yM),(r2.1,r2.2.1,r2.2.2.1,r2.2.2.2.1,())⟩]).bind fun r4=>some ⟨o_Z170,((w64 ((w64 (r1.2.2.1-r3.1))-r4.1)),())⟩)))):=by kernel_rfl
def Z129.l1(R:Run)(N n:Nat)(a b:Int)(e:vK)(f:List Int):Option Dv:=R.w (some ⟨(V.dead::(.c (.d yI a)::(.c (.box 2 0)::(zd 3 (.c (.arr 15)::(.c (.d yI b)::(zd 23 []))))))),(none::(none::(some (.box [.d yK e] false false)::(zo 12 (some (.arr yI f true false false)::(zo 17 []))))))⟩) fun st=>lC R pol_Z129 5 N [1,1,1,0,1,0,0] F_Z129 n st (kB R pol_Z129 0 (kS R pol_Z129 10 N [1,1,1,1] F_Z129 (qsX E sg_Z129 F_Z129)))
def Z129.j0(R:Run)(N:Nat)(a:Int)(b:Bool)(e:vK):Option Dv:=R.w (some ⟨(V.dead::(.c (.d yI a)::(.c (.box 2 0)::(zd 11 (.c (.d .bool b)::(zd 16 [])))))),(none::(none::(some (.box [.d yK e] false false)::(zo 30 []))))⟩) fun st=>eC R pol_Z129 N [1,0,1] F_Z129 st (kS R pol_Z129 3 N [1,1] F_Z129 (qsX E sg_Z129 F_Z129))
theorem Z129.l1_succ(R:Run)(hw:R.ok)(N n:Nat)(a b:Int)(c:vK)(d:List Int):Z129.l1 R N (n+1) a b c d=(bif (decide (b≤(3:Int))) then((qcx R n_Z169 o_Z169 [⟨(.ptr yC),(c,())⟩,⟨yI,b⟩,⟨yI,a⟩]).bind fun r9=>(bif (r9.1 != (0:Int)) then some ⟨o_Z129,(([]:List Int),(5:Int),())⟩ else((qcx R n_Z170 o_Z170 [⟨(.ptr yC),(c,())⟩,⟨yI,b⟩,⟨yI,a⟩]).bind fun r10=>((chk (decide ((List.length d+List.length [r10.1])*8≤70368744177664))).bind fun _=>(Z129.l1 R N n a (w64 (b+(1:Int))) c (d++[r10.1])))))) else some ⟨o_Z129,(d,(0:Int),())⟩):=(hw _ _).trans (by kernel_rfl)
theorem Z129.j0_eq(R:Run)(hw:R.ok)(N:Nat)(a:Int)(b:Bool)(c:vK):Z129.j0 R N a b c=(bif b then some ⟨o_Z129,(([]:List Int),(1:Int),())⟩ else(Z129.l1 R N N a (0:Int) c ([]:List Int))):=(hw _ _).trans (by kernel_rfl)
theorem Z129.ev(R:Run)(N:Nat)(a0:vK)(a1:Int):qsp E R sg_Z129 pol_Z129 F_Z129 N [⟨yK,a0⟩,⟨yI,a1⟩]=((qcx R n_Z165 o_Z165 [⟨(.ptr yC),(a0,())⟩]).bind fun r1=>(bif (!r1.1) then(Z129.j0 R N a1 true a0) else((qcx R n_Z134 o_Z134 [⟨yI,a1⟩]).bind fun r15=>(Z129.j0 R N a1 (!r15.1) a0)))):=by kernel_rfl
def Z101.l0(R:Run)(N n:Nat)(a b:List Int)(e:Int):Option Dv:=R.w (some ⟨(.c (.d yL a)::(.c (.d yL b)::(zd 3 (.c (.d yI e)::(zd 20 []))))),(zo 28 [])⟩) fun st=>lC R pol_Z101 4 N [1,1,0,1,0,0] F_Z101 n st (kB R pol_Z101 0 (kS R pol_Z101 8 N [1,1,1] F_Z101 (qsX E sg_Z101 F_Z101)))
theorem Z101.l0_succ(R:Run)(hw:R.ok)(N n:Nat)(a b:List Int)(c:Int):Z101.l0 R N (n+1) a b c=(bif (decide (c<(List.length a:Int))) then((idx? a c).bind fun y4=>((idx? b c).bind fun y5=>(bif ((y4,()).1 != (y5,()).1) then some ⟨o_Z101,(false,())⟩ else(Z101.l0 R N n a b (w64 (c+(1:Int))))))) else some ⟨o_Z101,(true,())⟩):=(hw _ _).trans (by kernel_rfl)
theorem Z101.ev(R:Run)(N:Nat)(a0 a1:List Int):qsp E R sg_Z101 pol_Z101 F_Z101 N [⟨yL,a0⟩,⟨yL,a1⟩]=(bif ((List.length a0:Int) != (List.length a1:Int)) then some ⟨o_Z101,(false,())⟩ else(Z101.l0 R N N a0 a1 (0:Int))):=by kernel_rfl
def Z86.l1(R:Run)(N n:Nat)(a:List Int)(b e f g h:Int)(i j:List Int)(k:vK):Option Dv:=R.w (some ⟨(V.dead::(V.dead::(.c (.box 2 0)::(zd 3 (.c (.arr 76)::(zd 3 (.c (.arr 46)::(zd 36 (.c (.d yL a)::(.c (.d yI b)::(.c (.d yI e)::(zd 21 [])))))))))))),(none::(none::(some (.box [.d yI f,.d yI g,.d yI h,.d yL i] false false)::(zo 43 (some (.arr yI j true false false)::(zo 29 (some (.arr yL k false false false)::(none::[]))))))))⟩) fun st=>lC R pol_Z86 10 N [1,1,1,1,1,0,1,0,0] F_Z86 n st (kB R pol_Z86 2 (kS R pol_Z86 16 N [1,1,1,1,1,1] F_Z86 (qsX E sg_Z86 F_Z86)))
def Z86.l0(R:Run)(N n:Nat)(a:List Int)(b e f g h:Int)(i:List Int)(j:vK):Option Dv:=R.w (some ⟨(V.dead::(.c (.d yL a)::(.c (.box 2 0)::(zd 3 (.c (.arr 76)::(zd 9 (.c (.d yI b)::(.c (.d yI e)::(zd 53 []))))))))),(none::(none::(some (.box [.d yI f,.d yI g,.d yI h,.d yL i] false false)::(zo 73 (some (.arr yL j true false false)::(none::[]))))))⟩) fun st=>lC R pol_Z86 3 N [1,1,0,1,0,0] F_Z86 n st (kB R pol_Z86 0 (kS R pol_Z86 7 N [1,1,1] F_Z86 (qsX E sg_Z86 F_Z86)))
theorem Z86.l1_succ(R:Run)(hw:R.ok)(N n:Nat)(a:List Int)(b c d e f:Int)(g h:List Int)(i:vK):Z86.l1 R N (n+1) a b c d e f g h i=(bif (decide (c<b)) then((idx? a c).bind fun y39=>(bif ((y39,()).1==f) then some ⟨o_Z86,(([]:List Int),false,())⟩ else((chk (decide (0≤c)&&decide (c<(List.length i:Int)))).bind fun _=>(Option.bind (i)[(Int.toNat c)]? fun y40=>((idx? y40 f).bind fun y41=>((chk (decide (0≤(y39,()).1)&&decide ((y39,()).1<(List.length h:Int)))).bind fun _=>(Z86.l1 R N n a b (w64 (c+(1:Int))) d e f g (List.set h (Int.toNat (y39,()).1) (y41,()).1) i))))))) else some ⟨o_Z86,(h,true,())⟩):=(hw _ _).trans (by kernel_rfl)
theorem Z86.l0_succ(R:Run)(hw:R.ok)(N n:Nat)(a:List Int)(b c d e f:Int)(g:List Int)(h:vK):Z86.l0 R N (n+1) a b c d e f g h=(bif (decide (c<b)) then((chk (decide (0≤c)&&decide (c<(List.length h:Int)))).bind fun _=>((idx? a c).bind fun y10=>(qo4 (Option.bind (h)[(Int.toNat c)]? fun y11=>((chk (decide ((List.length y11+List.length [(y10,()).1])*8≤70368744177664))).bind fun _=>((chk (decide (0≤c)&&decide (c<(List.length h:Int)))).bind fun _=>((chk (decide ((Int.toNat c)=(Int.toNat c)))).bind fun _=>(Z86.l0 R N n a b (w64 (c+(1:Int))) d e f g (List.set h (Int.toNat c) (y11++[(y10,()).1]))))))) (Option.bind (h)[(Int.toNat c)]? fun y20=>((chk (decide ((List.length y20+List.length [(y10,()).1])*8≤70368744177664))).bind fun _=>((chk (decide (0≤c)&&decide (c<(List.length h:Int)))).bind fun _=>((chk (decide ((Int.toNat c)=(Int.toNat c)))).bind fun _=>(Z86.l0 R N n a b (w64 (c+(1:Int))) d e f g (List.set h (Int.toNat c) (y20++[(y10,()).1])))))))))) else((qcx R n_Z45 o_Z45 [⟨yK,h⟩,⟨yI,(w64 (f+(1:Int)))⟩,⟨yI,d⟩]).bind fun r29=>((chk (decide (0≤f)&&decide (f*8≤70368744177664))).bind fun _=>(Z86.l1 R N N r29.1 (List.length r29.1:Int) (0:Int) d e f g (List.replicate (Int.toNat f) (0:Int)) r29.2.2.1)))):=(hw _ _).trans (by kernel_rfl)
theorem Z86.ev(R:Run)(N:Nat)(a0 a1 a2:Int)(a3 a4:List Int):qsp E R sg_Z86 pol_Z86 F_Z86 N [⟨yI,a0⟩,⟨yI,a1⟩,⟨yI,a2⟩,⟨yL,a3⟩,⟨yL,a4⟩]=((qcx R n_Z80 o_Z80 [⟨yI,a0⟩,⟨yI,a1⟩,⟨yI,a2⟩,⟨yL,a3⟩]).bind fun r1=>(Z86.l0 R N N a4 (List.length r1.1:Int) (0:Int) a0 a1 a2 a3 r1.1)):=by kernel_rfl
theorem Z76.ev(R:Run)(N:Nat)(a0:vK)(a1:Int)(a2:List Int)(a3:vN)(a4:Int)(a5:List Int):qsp E R sg_Z76 pol_Z76 F_Z76 N [⟨yK,a0⟩,⟨yI,a1⟩,⟨yL,a2⟩,⟨yN,a3⟩,⟨yI,a4⟩,⟨yL,a5⟩]=((qcx R n_Z35 o_Z35 [⟨yK,a0⟩,⟨yI,a1⟩,⟨yL,a2⟩,⟨yN,a3⟩,⟨yI,(w64 (a4-(1:Int)))⟩]).bind fun r1=>((qcx R n_Z86 o_Z86 [⟨yI,r1.1⟩,⟨yI,r1.2.1⟩,⟨yI,r1.2.2.1⟩,⟨yL,r1.2.2.2.1⟩,⟨yL,a5⟩]).bind fun r2=>some ⟨o_Z76,(r2.1,r2.2.1,())⟩)):=by kernel_rfl
theorem Z16.ev(R:Run)(N:Nat)(a0:vK)(a1:Int)(a2:List Int)(a3:vN)(a4:Int)(a5:List Int):qsp E R sg_Z16 pol_Z16 F_Z16 N [⟨yK,a0⟩,⟨yI,a1⟩,⟨yL,a2⟩,⟨yN,a3⟩,⟨yI,a4⟩,⟨yL,a5⟩]=((qcx R n_Z93 o_Z93 [⟨yK,a0⟩,⟨yI,a1⟩,⟨yL,a2⟩,⟨yN,a3⟩,⟨yI,a4⟩,⟨yL,a5⟩]).bind fun r1=>(bif (r1.1 != (0:Int)) then some ⟨o_Z16,(([]:List Int),r1.1,())⟩ else((qcx R n_Z76 o_Z76 [⟨yK,a0⟩,⟨yI,a1⟩,⟨yL,a2⟩,⟨yN,a3⟩,⟨yI,a4⟩,⟨yL,a5⟩]).bind fun r2=>(bif (!r2.2.1) then some ⟨o_Z16,(([]:List Int),(3:Int),())⟩ else some ⟨o_Z16,(r2.1,(0:Int),())⟩)))):=by kernel_rfl
theorem Z11.ev(R:Run)(N:Nat)(a0:vK)(a1:Int)(a2:List Int)(a3:vN)(a4:Int)(a5:List Int):qsp E R sg_Z11 pol_Z11 F_Z11 N [⟨yK,a0⟩,⟨yI,a1⟩,⟨yL,a2⟩,⟨yN,a3⟩,⟨yI,a4⟩,⟨yL,a5⟩]=((qcx R n_Z16 o_Z16 [⟨yK,a0⟩,⟨yI,a1⟩,⟨yL,a2⟩,⟨yN,a3⟩,⟨yI,a4⟩,⟨yL,a5⟩]).bind fun r1=>some ⟨o_Z11,((r1.2.1==(0:Int)),())⟩):=by kernel_rfl
def Z98.l1(R:Run)(N n:Nat)(a:Int)(b:vK)(e:Int)(f:vK)(g:Int)(h:List Int)(i:vN):Option Dv:=R.w (some ⟨(zd 5 (.c (.box 5 0)::(.c (.d yI a)::(zd 11 (.c (.d yK b)::(V.dead::(.c (.d yI e)::(zd 177 [])))))))),(zo 5 (some (.box [.d yK f,.d yI g,.d yL h,.d yN i] false false)::(zo 194 [])))⟩) fun st=>lC R pol_Z98 15 N [1,1,1,1,1,1,1,1,1,1,1,1,0,1,0,0] F_Z98 n st (kB R pol_Z98 0 (kS R pol_Z98 19 N [1,1,1,1,1,1,1,1,1,1,1,1,1] F_Z98 (qsX E sg_Z98 F_Z98)))
def Z98.j0(R:Run)(N:Nat)(a:Int)(b:vK)(e:Bool)(f:vK)(g:Int)(h:List Int)(i:vN):Option Dv:=R.w (some ⟨(zd 5 (.c (.box 5 0)::(.c (.d yI a)::(zd 11 (.c (.d yK b)::(zd 128 (.c (.d .bool e)::(zd 50 [])))))))),(zo 5 (some (.box [.d yK f,.d yI g,.d yL h,.d yN i] false false)::(zo 194 [])))⟩) fun st=>eC R pol_Z98 N [1,1,1,1,1,1,1,1,1,1,1,0,1] F_Z98 st (kS R pol_Z98 14 N [1,1,1,1,1,1,1,1,1,1,1,1] F_Z98 (qsX E sg_Z98 F_Z98))
theorem Z98.l1_succ(R:Run)(hw:R.ok)(N n:Nat)(a:Int)(b:vK)(c:Int)(d:vK)(e:Int)(f:List Int)(g:vN):Z98.l1 R N (n+1) a b c d e f g=(bif (decide (c<(List.length b:Int))) then((idx? b c).bind fun y25=>((qcx R n_Z12 o_Z12 [⟨yK,d⟩,⟨yI,e⟩,⟨yL,f⟩,⟨yN,g⟩,⟨yI,a⟩,⟨yL,(y25,()).1⟩]).bind fun r26=>(bif (!r26.1) then some ⟨o_Z98,(false,())⟩ else(Z98.l1 R N n a b (w64 (c+(1:Int))) d e f g)))) else((qcx R n_Z9 o_Z9 [⟨yK,d⟩,⟨yI,e⟩,⟨yI,(1:Int)⟩]).bind fun r34=>((qcx R n_Z8 o_Z8 [⟨yK,r34.1⟩,⟨yI,r34.2.1⟩,⟨yL,r34.2.2.1⟩,⟨yN,r34.2.2.2.1⟩]).bind fun r35=>((qcx R n_Z129 o_Z129 [⟨yK,d⟩,⟨yI,e⟩]).bind fun r36=>(bif (r34.2.2.2.2.1==(0:Int)) then(bif (r35.2.1==(0:Int)) then(bif (r36.2.1==(0:Int)) then((qcx R n_Z101 o_Z101 [⟨yL,r35.1⟩,⟨yL,r36.1⟩]).bind fun r37=>some ⟨o_Z98,(r37.1,())⟩) else some ⟨o_Z98,(false,())⟩) else some ⟨o_Z98,(false,())⟩) else some ⟨o_Z98,(false,())⟩))))):=(hw _ _).trans (by kernel_rfl)
theorem Z98.j0_eq(R:Run)(hw:R.ok)(N:Nat)(a:Int)(b:vK)(c:Bool)(d:vK)(e:Int)(f:List Int)(g:vN):Z98.j0 R N a b c d e f g=(bif c then some ⟨o_Z98,(false,())⟩ else(Z98.l1 R N N a b (0:Int) d e f g)):=(hw _ _).trans (by kernel_rfl)
theorem Z98.ev(R:Run)(N:Nat)(a0 a1:List Int):qsp E R sg_Z98 pol_Z98 F_Z98 N [⟨(.sl (.int .u8)),a0⟩,⟨(.sl (.int .u8)),a1⟩]=((qcx R n_Z100 o_Z100 [⟨(.sl (.int .u8)),a0⟩,⟨(.sl (.int .u8)),a1⟩]).bind fun r1=>(bif r1.1 then some ⟨o_Z98,(true,())⟩ else((qcx R n_Z132 o_Z132 [⟨(.sl (.int .u8)),a0⟩]).bind fun r2=>((qcx R n_Z99 o_Z99 [⟨(.sl (.int .u8)),a1⟩,⟨yI,(0:Int)⟩,⟨yI,(3:Int)⟩]).bind fun r3=>((qcx R n_Z133 o_Z133 [⟨yK,r2.1⟩,⟨yI,r2.2.1⟩,⟨yL,r2.2.2.1⟩,⟨yN,r2.2.2.2.1⟩,⟨yI,r3.1⟩]).bind fun r4=>((qcx R n_Z131 o_Z131 [⟨(.sl (.int .u8)),a1⟩,⟨yI,r4.1⟩,⟨yI,r2.2.1⟩]).bind fun r5=>((qcx R n_Z5 o_Z5 [⟨yK,r2.1⟩,⟨yI,r2.2.1⟩,⟨yL,r2.2.2.1⟩,⟨yN,r2.2.2.2.1⟩,⟨yI,r3.1⟩,⟨yL,r5.1⟩]).bind fun r6=>((qcx R n_Z8 o_Z8 [⟨yK,r2.1⟩,⟨yI,r2.2.1⟩,⟨yL,r2.2.2.1⟩,⟨yN,r2.2.2.2.1⟩]).bind fun r7=>((qcx R n_Z18 o_Z18 [⟨yK,r2.1⟩,⟨yI,r2.2.1⟩,⟨yL,r2.2.2.1⟩,⟨yN,r2.2.2.2.1⟩]).bind fun r8=>((qcx R n_Z7 o_Z7 [⟨yK,r2.1⟩,⟨yI,r2.2.1⟩,⟨yL,r2.2.2.1⟩,⟨yN,r2.2.2.2.1⟩,⟨yI,r3.1⟩]).bind fun r9=>((qcx R n_Z6 o_Z6 [⟨yK,r2.1⟩,⟨yI,r2.2.1⟩,⟨yL,r2.2.2.1⟩,⟨yN,r2.2.2.2.1⟩,⟨yI,r3.1⟩]).bind fun r10=>(bif (r6.2.1 != (0:Int)) then(Z98.j0 R N r3.1 r10.1 true r2.1 r2.2.1 r2.2.2.1 r2.2.2.2.1) else((qcx R n_Z12 o_Z12 [⟨yK,r2.1⟩,⟨yI,r2.2.1⟩,⟨yL,r2.2.2.1⟩,⟨yN,r2.2.2.2.1⟩,⟨yI,(w64 (r3.1+(1:Int)))⟩,⟨yL,r6.1⟩]).bind fun r38=>(bif (!r38.1) then(Z98.j0 R N r3.1 r10.1 true r2.1 r2.2.1 r2.2.2.1 r2.2.2.2.1) else((qcx R n_Z11 o_Z11 [⟨yK,r2.1⟩,⟨yI,r2.2.1⟩,⟨yL,r2.2.2.1⟩,⟨yN,r2.2.2.2.1⟩,⟨yI,(w64 (r3.1+(1:Int)))⟩,⟨yL,r6.1⟩]).bind fun r46=>(bif (!r46.1) then(Z98.j0 R N r3.1 r10.1 true r2.1 r2.2.1 r2.2.2.1 r2.2.2.2.1) else(bif (r7.2.1 != (0:Int)) then(Z98.j0 R N r3.1 r10.1 true r2.1 r2.2.1 r2.2.2.1 r2.2.2.2.1) else(bif ((List.length r7.1:Int) != (4:Int)) then(Z98.j0 R N r3.1 r10.1 true r2.1 r2.2.1 r2.2.2.1 r2.2.2.2.1) else(bif (r8.2.1 != (0:Int)) then(Z98.j0 R N r3.1 r10.1 true r2.1 r2.2.1 r2.2.2.1 r2.2.2.2.1) else((idx? r7.1 (0:Int)).bind fun y75=>((idx? r7.1 (1:Int)).bind fun y76=>((idx? r7.1 (2:Int)).bind fun y77=>((idx? r7.1 (3:Int)).bind fun y78=>(bif ((w64 ((w64 ((w64 ((y75,()).1-(y76,()).1))+(y77,()).1))-(y78,()).1)) != r8.1) then(Z98.j0 R N r3.1 r10.1 true r2.1 r2.2.1 r2.2.2.1 r2.2.2.2.1) else(bif (r9.2.1 != (0:Int)) then(Z98.j0 R N r3.1 r10.1 true r2.1 r2.2.1 r2.2.2.1 r2.2.2.2.1) else((idx? r7.1 r3.1).bind fun y93=>(bif ((List.length r9.1:Int) != (y93,()).1) then(Z98.j0 R N r3.1 r10.1 true r2.1 r2.2.1 r2.2.2.1 r2.2.2.2.1) else(bif (r10.2.1 != (0:Int)) then(Z98.j0 R N r3.1 r10.1 true r2.1 r2.2.1 r2.2.2.1 r2.2.2.2.1) else(Z98.j0 R N r3.1 r10.1 (decide ((List.length r10.1:Int)<(List.length r9.1:Int))) r2.1 r2.2.1 r2.2.2.1 r2.2.2.2.1))))))))))))))))))))))))))))):=by kernel_rfl
end
end VeT


open Go Go.Proofs Ve
set_option maxRecDepth 100000
namespace VeT
@[reducible] noncomputable def qa6:Func:=Tryz.f104
@[reducible] def qb3:Ty:=(.cons (.sl (.lab yL)) .nil)
noncomputable def qcM:Sig:=⟨[(true,3),(false,1)],[],qb3,[(false,1)],[.own],[]⟩
noncomputable def qaO:Pol:=⟨40,[(20,[some 20]),(28,[some 39])],[(3,⟨[2,5,8,9,10],[2,21],[(5,21,(.lab yL),true)],[],[],[21],[]⟩)],[],[],[]⟩
noncomputable def impl_independent_L.l0(R:Run)(N:Nat)(n:Nat)(t8__1:(List (Value×(List Int))))(t9__2:Int)(t10__3:Int)(v_4:Int)(v_5:Int)(v_6:vK)(o21_7:(List (Value×(List Int)))):Option Dv:=R.w (some ⟨(V.dead::(V.dead::(.c (.box 2 0)::(V.dead::(V.dead::(.c (.arr 21)::(V.dead::(V.dead::(.c (.d (.sl (.lab yL)) t8__1)::(.c (.d yI t9__2)::(.c (.d yI t10__3)::(zd 24 [])))))))))))),(none::(none::(some (.box [.d yI v_4,.d yI v_5,.d yK v_6] false false)::(zo 18 (some (.arr (.lab yL) o21_7 false false false)::(zo 18 []))))))⟩) fun st=>qk7 (qbm E R qaO N (sub [1,1,0,1,0,0] (bodyOf qa6))) (qbZ R qaO.loopM 3) n st (qsq (qbZ R qaO.blkM 0) 0 (qsk (qbZ R qaO.seqM 9) (qbm E R qaO N (sub [1,1,1] (bodyOf qa6))) (qsX E qcM qa6)))
theorem impl_independent_L.l0_succ(R:Run)(hw:R.ok)(N:Nat)(n:Nat)(t8__1:(List (Value×(List Int))))(t9__2:Int)(t10__3:Int)(v_4:Int)(v_5:Int)(v_6:vK)(o21_7:(List (Value×(List Int)))):impl_independent_L.l0 R N (n+1) t8__1 t9__2 t10__3 v_4 v_5 v_6 o21_7=(bif (decide (t10__3<t9__2)) then(Option.bind (idx? t8__1 t10__3) fun y8=>(Option.bind (qcx R n_Z39 o_Z39 [⟨yI,v_4⟩,⟨yI,v_5⟩,⟨yK,v_6⟩,⟨yL,(y8,()).1.2⟩]) fun r9=>(bif (!r9.1) then(Option.bind (chk (decide ((List.length o21_7+List.length [(y8,()).1])*24≤70368744177664))) fun _=>(qo4 (Option.bind (qcx R n_Z41 o_Z41 [⟨yK,v_6⟩]) fun r10=>(Option.bind (chk (decide ((List.length r10.1+List.length [(y8,()).1.2])*24≤70368744177664))) fun _=>(Option.bind (qcx R n_Z87 o_Z87 [⟨yI,v_4⟩,⟨yI,v_5⟩,⟨yK,(r10.1++[(y8,()).1.2])⟩]) fun r11=>(impl_independent_L.l0 R N n t8__1 t9__2 (w64 (t10__3+(1:Int))) r11.1 r11.2.1 r11.2.2.1 (o21_7++[(y8,()).1]))))) (Option.bind (qcx R n_Z41 o_Z41 [⟨yK,v_6⟩]) fun r19=>(Option.bind (chk (decide ((List.length r19.1+List.length [(y8,()).1.2])*24≤70368744177664))) fun _=>(Option.bind (qcx R n_Z87 o_Z87 [⟨yI,v_4⟩,⟨yI,v_5⟩,⟨yK,(r19.1++[(y8,()).1.2])⟩]) fun r20=>(impl_independent_L.l0 R N n t8__1 t9__2 (w64 (t10__3+(1:Int))) r20.1 r20.2.1 r20.2.2.1 (o21_7++[(y8,()).1]))))))) else(impl_independent_L.l0 R N n t8__1 t9__2 (w64 (t10__3+(1:Int))) v_4 v_5 v_6 o21_7)))) else some ⟨qb3,(o21_7,())⟩):=(hw _ _).trans (by kernel_rfl)
theorem impl_independent_L.ev(R:Run)(N:Nat)(a0:Int)(a1:Int)(a2:vK)(a3:(List (Value×(List Int)))):qsp E R qcM qaO qa6 N [⟨yI,a0⟩,⟨yI,a1⟩,⟨yK,a2⟩,⟨(.sl (.lab yL)),a3⟩]=(impl_independent_L.l0 R N N a3 (List.length a3:Int) (0:Int) a0 a1 a2 ([]:List (Value×(List Int)))):=by kernel_rfl
@[reducible] noncomputable def qao:Func:=Tryz.f273
@[reducible] def qax:Ty:=(.cons (.sl (.lab yL)) .nil)
noncomputable def qaR:Sig:=⟨[(false,1),(false,1)],[.take false,.imm],qax,[(false,1)],[.own],[]⟩
noncomputable def qac:Pol:=⟨68,[],[(4,⟨[0,1,5],[66],[],[],[],[],[]⟩),(9,⟨[0,1,5,6,7],[66],[],[],[],[],[]⟩)],[],[],[]⟩
noncomputable def slices_CompactFunc_SSint64_Sint64_L.l1(R:Run)(N:Nat)(n110100:Nat)(n:Nat)(t5__6:Int)(t6__7:Nat)(t6__8:Nat)(t7__9:Int)(o66_10:(List (Value×(List Int)))):Option Dv:=R.w (some ⟨(.c (.arr 66)::(.c (.d (.fn n_Z116 .nil) ())::(zd 3 (.c (.d yI t5__6)::(.c (.sub 66 t6__7 t6__8 1)::(.c (.d yI t7__9)::(zd 58 []))))))),(zo 66 (some (.arr (.lab yL) o66_10 false false false)::(none::[])))⟩) fun st=>qk7 (qbm E R qac N (sub [1,1,0,1,0,0,1,0,0,1,0,1,0,1,0,0] (bodyOf qao))) (qbZ R qac.loopM 9) n st (qsq (qbZ R qac.blkM 2) 2 (qsk (qbZ R qac.seqM 14) (qbm E R qac N (sub [1,1,0,1,0,0,1,0,0,1,0,1,1] (bodyOf qao))) (qsq (qbZ R qac.blkM 1) 1 (qsk (qbZ R qac.seqM 5) (qbm E R qac N (sub [1,1,0,1,0,0,1,1] (bodyOf qao))) (qtc (qbm E R qac N (sub [1,1,0,1,0,0] (bodyOf qao))) (qbZ R qac.loopM 4) n110100 (qsq (qbZ R qac.blkM 0) 0 (qsk (qbZ R qac.seqM 16) (qbm E R qac N (sub [1,1,1] (bodyOf qao))) (qsX E qaR qao))))))))
noncomputable def slices_CompactFunc_SSint64_Sint64_L.l0(R:Run)(N:Nat)(n:Nat)(t5__1:Int)(o66_2:(List (Value×(List Int)))):Option Dv:=R.w (some ⟨(.c (.arr 66)::(.c (.d (.fn n_Z116 .nil) ())::(zd 3 (.c (.d yI t5__1)::(zd 60 []))))),(zo 66 (some (.arr (.lab yL) o66_2 false false false)::(none::[])))⟩) fun st=>qk7 (qbm E R qac N (sub [1,1,0,1,0,0] (bodyOf qao))) (qbZ R qac.loopM 4) n st (qsq (qbZ R qac.blkM 0) 0 (qsk (qbZ R qac.seqM 16) (qbm E R qac N (sub [1,1,1] (bodyOf qao))) (qsX E qaR qao)))
theorem slices_CompactFunc_SSint64_Sint64_L.l1_succ(R:Run)(hw:R.ok)(N:Nat)(n110100:Nat)(n:Nat)(t5__6:Int)(t6__7:Nat)(t6__8:Nat)(t7__9:Int)(o66_10:(List (Value×(List Int)))):slices_CompactFunc_SSint64_Sint64_L.l1 R N n110100 (n+1) t5__6 t6__7 t6__8 t7__9 o66_10=(Option.bind (chk (decide (t6__7≤t6__8)&&decide (t6__8≤List.length o66_10))) fun _=>(bif (decide (t7__9<((t6__8-t6__7:Nat):Int))) then(Option.bind (chk (decide (0≤t7__9)&&decide ((t6__7:Nat)+t7__9<((t6__8:Nat):Int))&&decide (t6__8≤List.length o66_10))) fun _=>(Option.bind (o66_10)[(t6__7+Int.toNat t7__9)]? fun y11=>(Option.bind (chk (decide (0≤(w64 (t7__9-(1:Int))))&&decide ((t6__7:Nat)+(w64 (t7__9-(1:Int)))<((t6__8:Nat):Int))&&decide (t6__8≤List.length o66_10))) fun _=>(Option.bind (o66_10)[(t6__7+Int.toNat (w64 (t7__9-(1:Int))))]? fun y12=>(Option.bind (qcx R n_Z116 o_Z116 [⟨yL,y11.2⟩,⟨yL,y12.2⟩]) fun r13=>(bif (!r13.1) then(Option.bind (chk (decide (0≤t7__9)&&decide ((t6__7:Nat)+t7__9<((t6__8:Nat):Int))&&decide (t6__8≤List.length o66_10))) fun _=>(Option.bind (o66_10)[(t6__7+Int.toNat t7__9)]? fun y14=>(Option.bind (chk (decide (0≤t5__6)&&decide (t5__6<(List.length o66_10:Int)))) fun _=>(slices_CompactFunc_SSint64_Sint64_L.l1 R N n110100 n (w64 (t5__6+(1:Int))) t6__7 t6__8 (w64 (t7__9+(1:Int))) (List.set o66_10 (Int.toNat t5__6) y14))))) else(slices_CompactFunc_SSint64_Sint64_L.l1 R N n110100 n t5__6 t6__7 t6__8 (w64 (t7__9+(1:Int))) o66_10))))))) else(Option.bind (chk (decide (0≤t5__6)&&decide (t5__6≤(List.length o66_10:Int)))) fun _=>(Option.bind (chk (decide ((Int.toNat t5__6)≤(List.length o66_10))&&decide ((List.length o66_10)≤List.length o66_10))) fun _=>(Option.bind (chk (decide (0≤t5__6)&&decide (t5__6≤(List.length (List.take (Int.toNat t5__6) o66_10++List.replicate ((List.length o66_10)-(Int.toNat t5__6)) (Value.slice none 0 0,([]:(List Int)))++List.drop (List.length o66_10) o66_10):Int)))) fun _=>some ⟨qax,((List.drop 0 (List.take (Int.toNat t5__6) (List.take (Int.toNat t5__6) o66_10++List.replicate ((List.length o66_10)-(Int.toNat t5__6)) (Value.slice none 0 0,([]:(List Int)))++List.drop (List.length o66_10) o66_10))),())⟩))))):=(hw _ _).trans (by kernel_rfl)
theorem slices_CompactFunc_SSint64_Sint64_L.l0_succ(R:Run)(hw:R.ok)(N:Nat)(n:Nat)(t5__1:Int)(o66_2:(List (Value×(List Int)))):slices_CompactFunc_SSint64_Sint64_L.l0 R N (n+1) t5__1 o66_2=(bif (decide (t5__1<(List.length o66_2:Int))) then(Option.bind (chk (decide (0≤t5__1)&&decide (t5__1<(List.length o66_2:Int)))) fun _=>(Option.bind (o66_2)[(Int.toNat t5__1)]? fun y3=>(Option.bind (chk (decide (0≤(w64 (t5__1-(1:Int))))&&decide ((w64 (t5__1-(1:Int)))<(List.length o66_2:Int)))) fun _=>(Option.bind (o66_2)[(Int.toNat (w64 (t5__1-(1:Int))))]? fun y4=>(Option.bind (qcx R n_Z116 o_Z116 [⟨yL,y3.2⟩,⟨yL,y4.2⟩]) fun r5=>(bif r5.1 then(Option.bind (chk (decide (0≤t5__1)&&decide (t5__1≤(List.length o66_2:Int)))) fun _=>(slices_CompactFunc_SSint64_Sint64_L.l1 R N n N t5__1 (Int.toNat t5__1) (List.length o66_2) (1:Int) o66_2)) else(slices_CompactFunc_SSint64_Sint64_L.l0 R N n (w64 (t5__1+(1:Int))) o66_2))))))) else some ⟨qax,(o66_2,())⟩):=(hw _ _).trans (by kernel_rfl)
theorem slices_CompactFunc_SSint64_Sint64_L.ev(R:Run)(N:Nat)(a0:(List (Value×(List Int)))):qsp E R qaR qac qao N [⟨(.sl (.lab yL)),a0⟩,⟨(.fn n_Z116 .nil),()⟩]=(bif (decide ((List.length a0:Int)<(2:Int))) then some ⟨qax,(a0,())⟩ else(slices_CompactFunc_SSint64_Sint64_L.l0 R N N (1:Int) a0)):=by kernel_rfl
end VeT
namespace Go.Proofs
open Go.Shelf
def Tryz.sortf272_ren:Go.Shelf.Ren:=⟨fun | 6=>272 | 15=>309 | 14=>317 | 28=>338 | 29=>339 | 20=>342 | 21=>343 | 22=>344 | 23=>345 | 24=>346 | 25=>347 | 26=>348 | 27=>349 | 46=>357 | 47=>353 | 48=>354 | 49=>358 | 50=>359 | 57=>361 | n=>n,fun | 22=>24 | 24=>27 | 25=>214 | 3=>3 | 39=>246 | 0=>0 | 53=>279 | 55=>185 | 4=>4 | 46=>273 | 45=>272 | 50=>227 | 5=>5 | 9=>9 | 66=>286 | 70=>290 | 76=>294 | 77=>153 | n=>n,fun | n=>n⟩
theorem Tryz.sortf272:Go.Proofs.SlLaysF.n6 Tryz.prog Tryz.sortf272_ren:={
 mixed:=by kernel_rfl
 f6:=⟨Tryz.f272.name,by decide,Tryz.func272.trans (congrArg some (by kernel_rfl))⟩
 f14:=⟨Tryz.f317.name,by decide,Tryz.func317.trans (congrArg some (by kernel_rfl))⟩
 f15:=Tryz.func309.trans (congrArg some (by kernel_rfl))
 f20:=⟨Tryz.f342.name,by decide,Tryz.func342.trans (congrArg some (by kernel_rfl))⟩
 f21:=⟨Tryz.f343.name,by decide,Tryz.func343.trans (congrArg some (by kernel_rfl))⟩
 f22:=⟨Tryz.f344.name,by decide,Tryz.func344.trans (congrArg some (by kernel_rfl))⟩
 f23:=⟨Tryz.f345.name,by decide,Tryz.func345.trans (congrArg some (by kernel_rfl))⟩
 f24:=⟨Tryz.f346.name,by decide,Tryz.func346.trans (congrArg some (by kernel_rfl))⟩
 f25:=⟨Tryz.f347.name,by decide,Tryz.func347.trans (congrArg some (by kernel_rfl))⟩
 f26:=⟨Tryz.f348.name,by decide,Tryz.func348.trans (congrArg some (by kernel_rfl))⟩
 f27:=⟨Tryz.f349.name,by decide,Tryz.func349.trans (congrArg some (by kernel_rfl))⟩
 f28:=Tryz.func338.trans (congrArg some (by kernel_rfl))
 f29:=Tryz.func339.trans (congrArg some (by kernel_rfl))
 f46:=⟨Tryz.f357.name,by decide,Tryz.func357.trans (congrArg some (by kernel_rfl))⟩
 f47:=Tryz.func353.trans (congrArg some (by kernel_rfl))
 f48:=Tryz.func354.trans (congrArg some (by kernel_rfl))
 f49:=⟨Tryz.f358.name,by decide,Tryz.func358.trans (congrArg some (by kernel_rfl))⟩
 f50:=⟨Tryz.f359.name,by decide,Tryz.func359.trans (congrArg some (by kernel_rfl))⟩
 f57:=⟨Tryz.f361.name,by decide,Tryz.func361.trans (congrArg some (by kernel_rfl))⟩
 t0:=Tryz.underlying0
 a0:=Tryz.isAgg0
 z0:=Tryz.sizeOf0
 v0:=Tryz.zeroValue0
 t3:=Tryz.underlying3
 a3:=Tryz.isAgg3
 z3:=Tryz.sizeOf3
 v3:=Tryz.zeroValue3
 t4:=Tryz.underlying4
 a4:=Tryz.isAgg4
 z4:=Tryz.sizeOf4
 v4:=Tryz.zeroValue4
 t5:=Tryz.underlying5
 a5:=Tryz.isAgg5
 z5:=Tryz.sizeOf5
 v5:=Tryz.zeroValue5
 t9:=Tryz.underlying9
 a9:=Tryz.isAgg9
 z9:=Tryz.sizeOf9
 v9:=Tryz.zeroValue9
 t22:=Tryz.underlying24
 a22:=Tryz.isAgg24
 z22:=Tryz.sizeOf24
 v22:=Tryz.zeroValue24
 a24:=Tryz.isAgg27
 z24:=Tryz.sizeOf27
 t25:=Tryz.underlying214
 a25:=Tryz.isAgg214
 z25:=Tryz.sizeOf214
 v25:=Tryz.zeroValue214
 t39:=Tryz.underlying246
 a39:=Tryz.isAgg246
 z39:=Tryz.sizeOf246
 v39:=Tryz.zeroValue246
 t45:=Tryz.underlying272
 a45:=Tryz.isAgg272
 z45:=Tryz.sizeOf272
 v45:=Tryz.zeroValue272
 t46:=Tryz.underlying273
 a46:=Tryz.isAgg273
 z46:=Tryz.sizeOf273
 v46:=Tryz.zeroValue273
 t50:=Tryz.underlying227
 a50:=Tryz.isAgg227
 z50:=Tryz.sizeOf227
 v50:=Tryz.zeroValue227
 t53:=Tryz.underlying279
 a53:=Tryz.isAgg279
 z53:=Tryz.sizeOf279
 v53:=Tryz.zeroValue279
 t55:=Tryz.underlying185
 a55:=Tryz.isAgg185
 z55:=Tryz.sizeOf185
 v55:=Tryz.zeroValue185
 t66:=Tryz.underlying286
 a66:=Tryz.isAgg286
 z66:=Tryz.sizeOf286
 v66:=Tryz.zeroValue286
 t70:=Tryz.underlying290
 a70:=Tryz.isAgg290
 z70:=Tryz.sizeOf290
 v70:=Tryz.zeroValue290
 t76:=Tryz.underlying294
 a76:=Tryz.isAgg294
 z76:=Tryz.sizeOf294
 v76:=Tryz.zeroValue294
 t77:=Tryz.underlying153
 a77:=Tryz.isAgg153
 z77:=Tryz.sizeOf153
 v77:=Tryz.zeroValue153 }
end Go.Proofs
namespace VeT
section
open Go Go.Proofs Go.RowKit Go.Lib
section
open Go Ve
theorem qot{ρ:Type}{a:Option ρ}:Ve.qo4 a a=a:=by unfold Ve.qo4;split<;>first | rfl | (rename_i h;exact absurd rfl h)
theorem qkN(R:Run)(hw:R.ok)(N:Nat)(l:List (Value×List Int))(hl:l.length≤1048576):∀(suf pre:List (Value×List Int)) (n:Nat) (p W:Int) (B:List (List Int)) (ms:List Bool) (acc:List (Value×List Int)),
  l=pre++suf→acc.length≤pre.length→qp1 n_Z39 n_Z41 n_Z87 R p W B (suf.map Prod.snd)=some ms →
  impl_independent_L.l0 R N (suf.length+1+n) l (l.length:Int) (pre.length:Int) p W B acc=some ⟨qb3,(acc++sel ms suf,())⟩:=by
 intro suf
 induction suf with
 | nil =>
  intro pre n p W B ms acc hlp hacc h
  obtain rfl:=Option.some.inj h
  rw[show([]:List (Value×List Int)).length+1+n=n+1 by simp;omega,impl_independent_L.l0_succ R hw]
  have:decide ((pre.length:Int)<(l.length:Int))=false:=decide_eq_false (by rw[hlp];simp)
  rw[this]
  simp[sel]
 | cons y suf ih =>
  intro pre n p W B ms acc hlp hacc h
  obtain⟨v,x⟩:=y
  have hlen:pre.length<l.length:=by rw[hlp];simp
  rw[show((v,x)::suf).length+1+n=(suf.length+1+n)+1 by simp;omega,impl_independent_L.l0_succ R hw]
  have h1:decide ((pre.length:Int)<(l.length:Int))=true:=decide_eq_true (by omega)
  have h2:idx? l (pre.length:Int)=some (v,x):=by
   unfold idx?
   rw[decide_eq_true (by omega:(0:Int)≤(pre.length:Int)),cond_true,Int.toNat_natCast,hlp];simp
  have hc:∀ {k:Nat},k≤1048576→chk (decide ((k+1)*24≤70368744177664))=some ():=fun {k} hk=>by
   unfold chk;rw[decide_eq_true (by omega)];rfl
  rw[h1,cond_true,h2,Option.bind_some]
  simp only[List.map_cons,qp1] at h
  obtain⟨r,hr,h⟩:=Option.bind_eq_some_iff.1 h
  have hr':qcx R n_Z39 o_Z39 [⟨yI,p⟩,⟨yI,W⟩,⟨yK,B⟩,⟨yL,x⟩]=some r:=hr
  show Option.bind (qcx R n_Z39 o_Z39 [⟨yI,p⟩,⟨yI,W⟩,⟨yK,B⟩,⟨yL,x⟩]) _=_
  rw[hr',Option.bind_some]
  obtain⟨r,⟨⟩⟩:=r
  have hpre:(pre++[(v,x)]).length=pre.length+1:=by simp
  have hw1:w64 ((pre.length:Int)+1)=((pre++[(v,x)]).length:Int):=by rw[hpre,qae (by omega)]
  rw[hw1]
  cases r with
  | true =>
   obtain⟨ms',hm,rfl⟩:=Option.map_eq_some_iff.1 h
   have:=ih (pre++[(v,x)]) n p W B ms' acc (by rw[hlp];simp) (by omega) hm
   exact this
  | false =>
   have h:(qcx R n_Z41 o_Z41 [⟨yK,B⟩]).bind (fun b=>(chk (decide ((b.1.length+1)*24≤70368744177664))).bind fun _ =>
    (qcx R n_Z87 o_Z87 [⟨.int .i64,p⟩,⟨.int .i64,W⟩,⟨yK,b.1++[x]⟩]).bind fun s=>(qp1 n_Z39 n_Z41 n_Z87 R s.1 s.2.1 s.2.2.1 (suf.map Prod.snd)).map (true::·))=some ms:=h
   obtain⟨b,hb,h⟩:=Option.bind_eq_some_iff.1 h
   obtain⟨u,hu,h⟩:=Option.bind_eq_some_iff.1 h
   obtain⟨s,hs,h⟩:=Option.bind_eq_some_iff.1 h
   obtain⟨ms',hm,rfl⟩:=Option.map_eq_some_iff.1 h
   have:=ih (pre++[(v,x)]) n s.1 s.2.1 s.2.2.1 ms' (acc++[(v,x)]) (by rw[hlp];simp) (by simp;omega) hm
   have hca:=hc (k:=acc.length) (by omega)
   show Option.bind (chk (decide ((List.length acc+1)*24≤70368744177664))) _=_
   rw[hca,Option.bind_some]
   refine qot.trans ?_
   rw[hb,Option.bind_some]
   show Option.bind (chk (decide ((List.length b.1+1)*24≤70368744177664))) _=_
   rw[hu,Option.bind_some]
   show Option.bind (qcx R n_Z87 o_Z87 [⟨.int .i64,p⟩,⟨.int .i64,W⟩,⟨yK,b.1++[x]⟩]) _=_
   rw[hs,Option.bind_some]
   refine this.trans ?_
   simp[sel,List.append_assoc]
theorem qgY(hE:EnvOk E){R:Run}(hR:qgX E R)(hw:R.ok)(hRw:∀ o f,R.w o f=o.bind f){args:List Dv}{dv:Dv}(h:qg6 n_Z39 n_Z41 n_Z87 R args=some dv) :
  qbd E.P ⟨[(true,3),(false,1)],[.imm,.imm,.imm,.take true],.cons tLL .nil,[(false,1)],[.deep],[]⟩ 104 args dv:=by
 match args,h with
 | [d0,d1,d2,d3],h =>
  simp only[qg6,Option.bind_eq_some_iff] at h
  obtain⟨p,h0,W,h1,B,h2,xs,h3,h⟩:=h
  obtain rfl:=to_some h0
  obtain rfl:=to_some h1
  obtain rfl:=to_some h2
  obtain rfl:=to_some h3
  split at h
  ·rename_i hx
   obtain⟨ms,hm,rfl⟩:=Option.map_eq_some_iff.1 h
   refine qlC fun vs hv=>?_
   have hz:(vs.zip xs).map Prod.snd=xs:=qfC hv
   have hl:(vs.zip xs).length=xs.length:=by rw[List.length_zip,hv,Nat.min_self]
   refine qj6 hE hR hRw (pol:=qaO) (fn:=qa6) (N:=xs.length+1) (by kernel_rfl) ?_
   refine(impl_independent_L.ev R _ p W B (vs.zip xs)).trans ?_
   have:=qkN R hw (xs.length+1) (vs.zip xs) (by omega) (vs.zip xs) [] 0 p W B ms [] rfl (Nat.le_refl _) (by rw[hz];exact hm)
   rw[hl] at this ⊢
   exact this
  ·cases h
end
open Ve in
theorem qg2{R:Run}(hR:∀ args dv,R.r 230 args=some dv→qbd Tryz.prog ⟨[(false,1),(false,1)],[],.cons tI .nil,[(false,1)],[],[]⟩ 230 args dv){args:List Dv}{dv:Dv}(h:qhf 230 R args=some dv) :
  qbd Tryz.prog ⟨[(false,1),(false,1)],[.io true,.imm],.cons tLL .nil,[],[],[]⟩ 272 args dv :=
 qjh (fun enc h1c cf hO blk cap d w a b c e=>Any.slices_SortFunc Tryz.sortf272 enc h1c cf hO 230 #[] blk 0 cap d w (enters_of Tryz.func230 (by kernel_rfl) rfl) a b c e)
  (fun A cap fv w=>(AnyF.slices_SortFunc_none { Tryz.sortf272 with } A cap fv w).mono fun e w' ⟨h,hw⟩=>⟨h,by rw[hw],by rw[hw];exact Kin.refl _⟩) hR h
section
open Go Ve
theorem qmq(R:Run)(hw:R.ok)(N n0:Nat)(l:List (Value×List Int))(hl:l.length≤1048576)
  (heq:∀(i:Nat) (h:i+1<l.length),R.r n_Z116 [⟨tL,l[i+1].2⟩,⟨tL,l[i].2⟩]=some ⟨.cons .bool .nil,(l[i+1].2==l[i].2,())⟩) (k0:Nat) (hk0:k0<l.length) :
  ∀(d k2 kw n:Nat) (o:List (Value×List Int)),k0+k2+d=l.length→1≤k2→kw+1≤k0+k2→o.length=l.length→o.take kw=sel (mC (l.map Prod.snd) (k0+k2)) l→(∀ i,k0+k2≤i+1→o[i]? = l[i]?) →
  slices_CompactFunc_SSint64_Sint64_L.l1 R N n0 (d+1+n) (kw:Int) k0 l.length (k2:Int) o=some ⟨qax,(sel (mC (l.map Prod.snd) l.length) l,())⟩:=by
 intro d
 induction d with
 | zero =>
  intro k2 kw n o hd h1 hkw hol ht hsame
  have e:k0+k2=l.length:=by omega
  rw[show 0+1+n=n+1 by omega,slices_CompactFunc_SSint64_Sint64_L.l1_succ R hw]
  have c1:chk (decide (k0≤l.length)&&decide (l.length≤o.length))=some ():=by unfold chk;rw[decide_eq_true (by omega),decide_eq_true (by omega)];rfl
  have c2:decide ((k2:Int)<((l.length-k0:Nat):Int))=false:=decide_eq_false (by omega)
  have c3:chk (decide ((0:Int)≤(kw:Int))&&decide ((kw:Int)≤(o.length:Int)))=some ():=by unfold chk;rw[decide_eq_true (by omega),decide_eq_true (by omega)];rfl
  have c4:chk (decide (kw≤o.length)&&decide (o.length≤o.length))=some ():=by unfold chk;rw[decide_eq_true (by omega),decide_eq_true (by omega)];rfl
  rw[c1,Option.bind_some,c2,cond_false,c3,Option.bind_some]
  simp only[Int.toNat_natCast]
  rw[c4,Option.bind_some]
  have hlen:(List.take kw o++List.replicate (o.length-kw) ((Value.slice none 0 0,[]):Value×List Int)++List.drop o.length o).length=o.length:=by simp;omega
  have c6:chk (decide ((0:Int)≤(kw:Int))&&decide ((kw:Int)≤((List.take kw o++List.replicate (o.length-kw) ((Value.slice none 0 0,[]):Value×List Int)++List.drop o.length o).length:Int)))=some ():=by unfold chk;rw[decide_eq_true (by omega),decide_eq_true (by omega)];rfl
  rw[c6,Option.bind_some,List.drop_zero,List.append_assoc,List.take_append_of_le_length (by simp;omega),List.take_take,Nat.min_self,ht,e]
 | succ d ih =>
  intro k2 kw n o hd h1 hkw hol ht hsame
  obtain⟨m,hm⟩:∃ m,m+1=k0+k2:=⟨k0+k2-1,by omega⟩
  have hml:m+1<l.length:=by omega
  rw[show d+1+1+n=(d+1+n)+1 by omega,slices_CompactFunc_SSint64_Sint64_L.l1_succ R hw]
  have c1:chk (decide (k0≤l.length)&&decide (l.length≤o.length))=some ():=by unfold chk;rw[decide_eq_true (by omega),decide_eq_true (by omega)];rfl
  have c2:decide ((k2:Int)<((l.length-k0:Nat):Int))=true:=decide_eq_true (by omega)
  have c3:chk (decide ((0:Int)≤(k2:Int))&&decide ((k0:Int)+(k2:Int)<((l.length:Nat):Int))&&decide (l.length≤o.length))=some ():=by unfold chk;rw[decide_eq_true (by omega),decide_eq_true (by omega),decide_eq_true (by omega)];rfl
  have ew:w64 ((k2:Int)-1)=((k2-1:Nat):Int):=by rw[qad (by omega) (by omega)];omega
  have c4:chk (decide ((0:Int)≤((k2-1:Nat):Int))&&decide ((k0:Int)+((k2-1:Nat):Int)<((l.length:Nat):Int))&&decide (l.length≤o.length))=some ():=by unfold chk;rw[decide_eq_true (by omega),decide_eq_true (by omega),decide_eq_true (by omega)];rfl
  have g1:o[k0+k2]? = some l[m+1]:=by rw[hsame _ (by omega),← hm,List.getElem?_eq_getElem hml]
  have g2:o[k0+(k2-1)]? = some l[m]:=by rw[hsame _ (by omega),show k0+(k2-1)=m by omega,List.getElem?_eq_getElem (by omega)]
  have hr:qcx R n_Z116 o_Z116 [⟨yL,l[m+1].2⟩,⟨yL,l[m].2⟩]=some (l[m+1].2==l[m].2,()):=by
   unfold qcx
   exact(congrArg (Option.bind · _) (heq m hml)).trans rfl
  rw[c1,Option.bind_some,c2,cond_true,c3,Option.bind_some]
  simp only[Int.toNat_natCast,ew]
  rw[g1,Option.bind_some,c4,Option.bind_some,g2,Option.bind_some]
  refine(congrArg (Option.bind · _) hr).trans ?_
  rw[Option.bind_some]
  have e2:w64 ((k2:Int)+1)=((k2+1:Nat):Int):=qae (by omega)
  have hx1:(l.map Prod.snd)[k0+k2]? = some l[m+1].2:=by rw[← hm,List.getElem?_map,List.getElem?_eq_getElem hml];rfl
  have hx2:(l.map Prod.snd)[k0+k2-1]? = some l[m].2:=by rw[show k0+k2-1=m by omega,List.getElem?_map,List.getElem?_eq_getElem (by omega)];rfl
  have hms:mC (l.map Prod.snd) (k0+(k2+1))=mC (l.map Prod.snd) (k0+k2)++[!(l[m+1].2==l[m].2)]:=by
   show mC (l.map Prod.snd) (k0+k2)++[k0+k2==0 || !((l.map Prod.snd)[k0+k2]? == (l.map Prod.snd)[k0+k2-1]?)]=_
   rw[hx1,hx2,show(k0+k2==0)=false from beq_false_of_ne (by omega),Bool.false_or]
   rfl
  have hsel:sel (mC (l.map Prod.snd) (k0+(k2+1))) l=sel (mC (l.map Prod.snd) (k0+k2)) l++(bif !(l[m+1].2==l[m].2) then [l[m+1]] else []):=by
   rw[hms,qgs (by rw[qg8];omega)]
   congr 2
   congr 1
   have:(mC (l.map Prod.snd) (k0+k2)).length=m+1:=by rw[qg8,hm]
   simp only[this]
  cases hb:(l[m+1].2==l[m].2) with
  | true =>
   rw[hb] at hsel
   simp only[Bool.not_true,cond_false,List.append_nil] at hsel ⊢
   rw[e2]
   exact ih (k2+1) kw n o (by omega) (by omega) (by omega) hol (by rw[hsel];exact ht) fun i hi=>hsame i (by omega)
  | false =>
   rw[hb] at hsel
   have c5:chk (decide ((0:Int)≤(kw:Int))&&decide ((kw:Int)<(o.length:Int)))=some ():=by unfold chk;rw[decide_eq_true (by omega),decide_eq_true (by omega)];rfl
   simp only[Bool.not_false,cond_true] at hsel ⊢
   rw[Option.bind_some,Option.bind_some,c5,Option.bind_some,e2,show w64 ((kw:Int)+1)=((kw+1:Nat):Int) from qae (by omega)]
   refine ih (k2+1) (kw+1) n (o.set kw l[m+1]) (by omega) (by omega) (by omega) (by rw[List.length_set];exact hol) ?_ fun i hi=>?_
   ·rw[hsel,← ht,List.take_succ_eq_append_getElem (by rw[List.length_set];omega),List.getElem_set_self,List.take_set_of_le (Nat.le_refl _)]
   ·rw[List.getElem?_set_ne (by omega)];exact hsame i (by omega)
theorem qlz(R:Run)(hw:R.ok)(N:Nat)(l:List (Value×List Int))(hl:l.length≤1048576)(hN:l.length+1≤N)
  (heq:∀(i:Nat) (h:i+1<l.length),R.r n_Z116 [⟨tL,l[i+1].2⟩,⟨tL,l[i].2⟩]=some ⟨.cons .bool .nil,(l[i+1].2==l[i].2,())⟩) :
  ∀(d k n:Nat),k+d=l.length→1≤k→sel (mC (l.map Prod.snd) k) l=l.take k →
  slices_CompactFunc_SSint64_Sint64_L.l0 R N (d+1+n) (k:Int) l=some ⟨qax,(sel (mC (l.map Prod.snd) l.length) l,())⟩:=by
 intro d
 induction d with
 | zero =>
  intro k n hd h1 ht
  rw[show 0+1+n=n+1 by omega,slices_CompactFunc_SSint64_Sint64_L.l0_succ R hw]
  have c2:decide ((k:Int)<(l.length:Int))=false:=decide_eq_false (by omega)
  rw[c2,cond_false,← show k=l.length by omega,ht,show k=l.length by omega,List.take_length]
 | succ d ih =>
  intro k n hd h1 ht
  obtain⟨m,rfl⟩:∃ m,k=m+1:=⟨k-1,by omega⟩
  have hml:m+1<l.length:=by omega
  rw[show d+1+1+n=(d+1+n)+1 by omega,slices_CompactFunc_SSint64_Sint64_L.l0_succ R hw]
  have c2:decide (((m+1:Nat):Int)<(l.length:Int))=true:=decide_eq_true (by omega)
  have c3:chk (decide ((0:Int)≤((m+1:Nat):Int))&&decide (((m+1:Nat):Int)<(l.length:Int)))=some ():=by unfold chk;rw[decide_eq_true (by omega),decide_eq_true (by omega)];rfl
  have ew:w64 (((m+1:Nat):Int)-1)=(m:Int):=by rw[qad (by omega) (by omega)];omega
  have c4:chk (decide ((0:Int)≤(m:Int))&&decide ((m:Int)<(l.length:Int)))=some ():=by unfold chk;rw[decide_eq_true (by omega),decide_eq_true (by omega)];rfl
  have g1:l[m+1]? = some l[m+1]:=List.getElem?_eq_getElem hml
  have g2:l[m]? = some l[m]:=List.getElem?_eq_getElem (by omega)
  have hr:qcx R n_Z116 o_Z116 [⟨yL,l[m+1].2⟩,⟨yL,l[m].2⟩]=some (l[m+1].2==l[m].2,()):=by
   unfold qcx
   exact(congrArg (Option.bind · _) (heq m hml)).trans rfl
  refine Eq.trans (b:=(chk (decide ((0:Int)≤((m+1:Nat):Int))&&decide (((m+1:Nat):Int)<(l.length:Int)))).bind _) (by rw[c2,cond_true]) ?_
  rw[c3,Option.bind_some]
  simp only[Int.toNat_natCast,ew]
  rw[g1,Option.bind_some,c4,Option.bind_some,g2,Option.bind_some]
  refine(congrArg (Option.bind · _) hr).trans ?_
  rw[Option.bind_some]
  have hx1:(l.map Prod.snd)[m+1]? = some l[m+1].2:=by rw[List.getElem?_map,g1];rfl
  have hx2:(l.map Prod.snd)[m+1-1]? = some l[m].2:=by rw[Nat.add_sub_cancel,List.getElem?_map,g2];rfl
  have hms:mC (l.map Prod.snd) (m+1+1)=mC (l.map Prod.snd) (m+1)++[!(l[m+1].2==l[m].2)]:=by
   show mC (l.map Prod.snd) (m+1)++[m+1==0 || !((l.map Prod.snd)[m+1]? == (l.map Prod.snd)[m+1-1]?)]=_
   rw[hx1,hx2,show(m+1==0)=false from rfl,Bool.false_or]
   rfl
  have hsel:sel (mC (l.map Prod.snd) (m+1+1)) l=sel (mC (l.map Prod.snd) (m+1)) l++(bif !(l[m+1].2==l[m].2) then [l[m+1]] else []):=by
   rw[hms,qgs (by rw[qg8];omega)]
   congr 2
   congr 1
   simp only[qg8]
  cases hb:(l[m+1].2==l[m].2) with
  | true =>
   rw[hb] at hsel
   simp only[Bool.not_true,cond_false,List.append_nil] at hsel
   have c5:chk (decide ((0:Int)≤((m+1:Nat):Int))&&decide (((m+1:Nat):Int)≤(l.length:Int)))=some ():=by unfold chk;rw[decide_eq_true (by omega),decide_eq_true (by omega)];rfl
   simp only[cond_true]
   rw[c5,Option.bind_some]
   have:=qmq R hw N (d+1+n) l hl heq (m+1) hml (l.length-(m+2)) 1 (m+1) (N-(l.length-(m+2)+1)) l (by omega) (Nat.le_refl _) (by omega) rfl (by rw[hsel];exact ht.symm) fun _ _=>rfl
   rw[show l.length-(m+2)+1+(N-(l.length-(m+2)+1))=N by omega] at this
   exact this
  | false =>
   rw[hb] at hsel
   simp only[Bool.not_false,cond_true] at hsel
   simp only[cond_false]
   rw[qae (by omega)]
   exact ih (m+1+1) n (by omega) (by omega) (by rw[hsel,ht,List.take_succ_eq_append_getElem hml])
theorem ql6(R:Run)(hw:R.ok)(N:Nat)(l:List (Value×List Int))(hl:l.length≤1048576)(hN:l.length+1≤N)
  (heq:∀(i:Nat) (h:i+1<l.length),R.r n_Z116 [⟨tL,l[i+1].2⟩,⟨tL,l[i].2⟩]=some ⟨.cons .bool .nil,(l[i+1].2==l[i].2,())⟩) :
  (bif (decide ((List.length l:Int)<(2:Int))) then some ⟨qax,(l,())⟩ else slices_CompactFunc_SSint64_Sint64_L.l0 R N N (1:Int) l)=some ⟨qax,(sel (mC (l.map Prod.snd) l.length) l,())⟩:=by
 by_cases h2:l.length<2
 ·have c:decide ((l.length:Int)<2)=true:=decide_eq_true (by omega)
  rw[c,cond_true]
  match l,h2 with
  | [],_=>rfl
  | [y],_=>rfl
 ·have c:decide ((l.length:Int)<2)=false:=decide_eq_false (by omega)
  rw[c,cond_false]
  have:=qlz R hw N l hl hN heq (l.length-1) 1 (N-l.length) (by omega) (Nat.le_refl _) (by
   match l,h2 with
   | y::z::l,_=>rfl)
  rw[show l.length-1+1+(N-l.length)=N by omega] at this
  exact this
theorem qg3(hE:EnvOk E){R:Run}(hR:qgX E R)(hw:R.ok)(hRw:∀ o f,R.w o f=o.bind f){args:List Dv}{dv:Dv}(h:qdQ n_Z116 R args=some dv) :
  qbd E.P ⟨[(false,1),(false,1)],[.take true,.imm],.cons tLL .nil,[(false,1)],[.deep],[]⟩ 273 args dv:=by
 match args,h with
 | [d0,d1],h =>
  simp only[qdQ,Option.bind_eq_some_iff] at h
  obtain⟨xs,h0,h⟩:=h
  obtain rfl:=to_some h0
  split at h
  ·rename_i hc
   obtain⟨hx,rfl,heq⟩:=hc
   obtain rfl:=Option.some.inj h
   refine qku fun vs hv=>?_
   have hz:(vs.zip xs).map Prod.snd=xs:=qfC hv
   have hl:(vs.zip xs).length=xs.length:=by rw[List.length_zip,hv,Nat.min_self]
   have hq:∀(i:Nat) (h:i+1<(vs.zip xs).length),R.r n_Z116 [⟨tL,(vs.zip xs)[i+1].2⟩,⟨tL,(vs.zip xs)[i].2⟩]=some ⟨.cons .bool .nil,((vs.zip xs)[i+1].2==(vs.zip xs)[i].2,())⟩:=fun i h=>by
    have e1:(vs.zip xs)[i+1].2=xs[i+1]'(by omega):=by rw[List.getElem_zip]
    have e2:(vs.zip xs)[i].2=xs[i]'(by omega):=by rw[List.getElem_zip]
    rw[e1,e2];exact heq i (by omega)
   refine qj6 hE hR hRw (pol:=qac) (fn:=qao) (N:=xs.length+1) (by kernel_rfl) ?_
   refine(slices_CompactFunc_SSint64_Sint64_L.ev R _ (vs.zip xs)).trans ?_
   refine(ql6 R hw (xs.length+1) (vs.zip xs) (by omega) (by omega) hq).trans ?_
   rw[hz,hl]
  ·cases h
end
set_option maxHeartbeats 2000000 in
set_option maxRecDepth 100000 in
theorem qlU(base:Option Addr)(l c n:Nat)(w:World)(hlc:l≤c)(hc63:c≤9223372036854775807)(hn63:n≤9223372036854775807)(hroom:l+n≤c) :
  Calls Tryz.prog 285 #[.slice base l c,.int .i64 n] w fun e w'=>e=.returned (.slice base l c)∧w'=w:=by
 have h1:¬ ((n:Int)<0):=by omega
 have h2:wrap64 ((c:Int)-(l:Int))=(c:Int)-(l:Int):=by unfold wrap64;omega
 have h3:wrap64 ((n:Int)-((c:Int)-(l:Int)))=(n:Int)-((c:Int)-(l:Int)):=by unfold wrap64;omega
 have h4:¬ ((n:Int)-((c:Int)-(l:Int))>0):=by omega
 go_enter Tryz.func285,Tryz.ntmps285
 go_wp2
 go_ret
 exact⟨rfl,rfl⟩
set_option maxHeartbeats 4000000 in
set_option maxRecDepth 100000 in
theorem qlp(i0:TypeInfo)(z:Value)(hi0:Tryz.prog.info? 2=some i0)(hz0:i0.zero=some z)(hs0:0<i0.size)
    (base:Option Addr) (l c n:Nat) (cs:List Value) (w:World) (hlc:l≤c) (hroom:c<l+n) (hbig:(l+n)*i0.bytes≤140737488355328) (h63:l+n≤4611686018427387904)
    (hcl:cs.length=c*i0.size) (hnil:base=none→c=0) (hcs:∀ a,base=some a→∀(j:Nat) v,cs[j]? = some v→w.cell? (a.add j)=some v) :
    Calls Tryz.prog 285 #[.slice base l c,.int .i64 n] w fun e w' =>
      e=.returned (.slice (some ⟨w.heap.size,0,none⟩) l (grownCap w (l+n) c 2)) ∧
      w'=w.drew.alloc (.cells (cs.toArray++Builtin.zeroCells z.cells (l+n-c)++Builtin.zeroCells z.cells (grownCap w (l+n) c 2-(l+n))) 2):=by
  have h1:¬ ((n:Int)<0):=by omega
  have h2:wrap64 ((c:Int)-(l:Int))=(c:Int)-(l:Int):=by unfold wrap64;omega
  have h3:wrap64 ((n:Int)-((c:Int)-(l:Int)))=(n:Int)-((c:Int)-(l:Int)):=by unfold wrap64;omega
  have h4:(n:Int)-((c:Int)-(l:Int))>0:=by omega
  have z25:∀ w,(Go.sizeOf 2).run Tryz.prog w=.ok i0.size w:=fun w=>by simp[Go.sizeOf,typeInfo,hi0]
  have hck:c+(l+n-c)=l+n:=by omega
  have hold:(Builtin.firstCells i0.size c (.slice base c c)).run Tryz.prog w.drew=.ok cs.toArray w.drew:=by
    cases base with
    | none =>
      have h0:=hnil rfl
      subst h0
      have hc0:cs=[]:=List.length_eq_zero_iff.1 (by simpa using hcl)
      rw[hc0]
      exact run_firstCells_none w.drew i0.size 0 0 0
    | some a=>exact run_firstCells_some w.drew i0.size c a c c cs hcl (fun j v hj=>hcs a rfl j v hj)
  have hrz:∀ ty,(Builtin.append_ #[27,3] ty #[.slice base c c,.int .i64 ((n:Int)-((c:Int)-(l:Int)))]).run Tryz.prog w =
      .ok (.slice (some ⟨w.heap.size,0,none⟩) (l+n) (grownCap w (l+n) c 2)) (w.drew.alloc (.cells (cs.toArray++Builtin.zeroCells z.cells (l+n-c)++Builtin.zeroCells z.cells (grownCap w (l+n) c 2-(l+n))) 2)):=fun ty=>by
    have h:=Lib.run_append_grow_zeros w 27 3 ty 2 i0 z .i64 .i64 Tryz.underlying27 Tryz.underlying3 hi0 hz0 base c c cs hold (l+n-c) (by omega) hs0 (by omega) (by omega)
      (by have:(l+n-c)*i0.bytes≤(l+n)*i0.bytes:=Nat.mul_le_mul_right _ (by omega)
          omega)
      (by rw[hck];exact growslice_fits hroom hbig)
    rw[hck] at h
    rw[show(n:Int)-((c:Int)-(l:Int))=((l+n-c:Nat):Int) by omega]
    exact h
  have hGn:l+n≤grownCap w (l+n) c 2:=grownCap_ge w _ _ _
  obtain⟨G,hG⟩:∃ G,G=grownCap w (l+n) c 2:=⟨_,rfl⟩
  rw[← hG] at hrz hGn ⊢
  have hG63:G≤9223372036854775807:=by
    have:=grownCap_le_maxLen w (l+n) c 2 (by unfold maxLen;omega)
    rw[← hG] at this
    unfold maxLen at this
    omega
  clear hold hck hG hcs hcl
  go_enter Tryz.func285,Tryz.ntmps285
  cases base with
  | none =>
    have h0:=hnil rfl
    subst h0
    obtain rfl:l=0:=by omega
    go_wp2_with (at_builtin;refine Lib.wpList_append_run _ rfl _ _ _ _ rfl _ _ rfl rfl _ _ (hrz _) ?_)
    all_goals (go_ret;exact⟨rfl,rfl⟩)
  | some a =>
    obtain⟨ab,ao,asp⟩:=a
    go_wp2_with (at_builtin;refine Lib.wpList_append_run _ rfl _ _ _ _ rfl _ _ rfl rfl _ _ (hrz _) ?_)
    all_goals (go_ret;exact⟨rfl,rfl⟩)
theorem qla:(Tryz.prog.info? 2).any (fun i=>i.size==Ve.Ty.size yI&&i.zero.any (fun z=>z.cells.size==Ve.Ty.size yI)&&decide (i.bytes≤64*Ve.Ty.size yI)&&decide (0<i.bytes)&&decide (0<Ve.Ty.size yI))=true:=by kernel_rfl
open Ve in
theorem qhw(R:Run){args:List Dv}{dv:Dv}(h:qnX yI R args=some dv) :
  qbd Tryz.prog ⟨[(false,1),(false,1)],[.take true,.imm],.cons yL .nil,[(false,1)],[.deep],[]⟩ 285 args dv:=by
 have hi:=qla
 cases hi0:Tryz.prog.info? 2 with
 | none=>rw[hi0] at hi;cases hi
 | some i0 =>
  rw[hi0] at hi
  simp only[Option.any_some,Bool.and_eq_true,decide_eq_true_eq,beq_iff_eq] at hi
  obtain⟨⟨⟨⟨h1,h2⟩,h3⟩,h4⟩,h5⟩:=hi
  cases hz:i0.zero with
  | none=>rw[hz] at h2;cases h2
  | some z =>
   rw[hz] at h2
   exact qky h1 (by simpa using h2) h5 h3 h4 qlU (fun base l c n cs w a1 a2 a3 a4 a5 a6 a7=>qlp i0 z hi0 hz (by rw[h1];exact h5) base l c n cs w a1 a2 a3 a4 a5 a6 a7) R h
end
section
open Go Ve
theorem qqv:primL=(List.range 378).map fun i=>bif Nat.beq i 104 then some (qg6 n_Z39 n_Z41 n_Z87) else bif Nat.beq i 272 then some (qhf n_Z38) else bif Nat.beq i 273 then some (qdQ n_Z116) else bif Nat.beq i 285 then some (qnX yI) else none:=by kernel_rfl
theorem qsT(hE:EnvOk E):∀ f p,E.prim f=some p→∀ r,qgX E (mkR r)→∀ args dv sg,E.sig f=some sg→p (mkR r) args=some dv→qbd E.P sg f args dv:=by
 intro f p hp r hr args dv sg hsg h
 have hp:primL.getD f none=some p:=hp
 rw[qqv,List.getD_eq_getElem?_getD,List.getElem?_map] at hp
 by_cases hf:f<378
 ·rw[List.getElem?_range hf] at hp
  simp only[Option.map_some,Option.getD_some] at hp
  by_cases h104:f=104
  ·subst h104
   obtain rfl:(qg6 n_Z39 n_Z41 n_Z87)=p:=Option.some.inj hp
   obtain rfl:sg_Z59=sg:=Option.some.inj (sig_impl_independent_eq.symm.trans hsg)
   exact qgY hE hr (qpG _) (fun _ _=>rfl) h
  rw[show Nat.beq f 104=false from Bool.eq_false_iff.2 fun h=>h104 (Nat.eq_of_beq_eq_true h),cond_false] at hp
  by_cases h272:f=272
  ·subst h272
   obtain rfl:(qhf n_Z38)=p:=Option.some.inj hp
   obtain rfl:sg_Z128=sg:=Option.some.inj (sig_slices_SortFunc_SSint64_Sint64_eq.symm.trans hsg)
   exact qg2 (fun args dv h=>hr _ args dv _ sig_impl_compareSimplices_eq h) h
  rw[show Nat.beq f 272=false from Bool.eq_false_iff.2 fun h=>h272 (Nat.eq_of_beq_eq_true h),cond_false] at hp
  by_cases h273:f=273
  ·subst h273
   obtain rfl:(qdQ n_Z116)=p:=Option.some.inj hp
   obtain rfl:sg_Z105=sg:=Option.some.inj (sig_slices_CompactFunc_SSint64_Sint64_eq.symm.trans hsg)
   exact qg3 hE hr (qpG _) (fun _ _=>rfl) h
  rw[show Nat.beq f 273=false from Bool.eq_false_iff.2 fun h=>h273 (Nat.eq_of_beq_eq_true h),cond_false] at hp
  by_cases h285:f=285
  ·subst h285
   obtain rfl:(qnX yI)=p:=Option.some.inj hp
   obtain rfl:sg_Z117=sg:=Option.some.inj (sig_slices_Grow_Sint64_int64_eq.symm.trans hsg)
   exact qhw _ h
  rw[show Nat.beq f 285=false from Bool.eq_false_iff.2 fun h=>h285 (Nat.eq_of_beq_eq_true h),cond_false] at hp
  cases hp
 ·rw[List.getElem?_eq_none (by simpa using hf)] at hp
  cases hp
end
end VeT
open Go Go.Proofs Ve
namespace VeT
end VeT
open Go Go.Proofs Ve
namespace VeT
theorem qbi(s:List (List Int))(c:((vK×Unit)×(Int×Unit)×Unit))(p:(List Int)→Bool)(hs:s.length≤1048576)(hp:∀ x∈s,Ret E n_Z20 [⟨yL,x⟩,⟨(.ptr yC),c.1⟩,⟨(.ptr (.cons yI .nil)),c.2.1⟩] ⟨o_Z20,(p x,())⟩) :
    Ret E n_Z118 [⟨yK,s⟩,⟨(.fn n_Z20 (.cons (.ptr yC) (.cons (.ptr (.cons yI .nil)) .nil))),c⟩] ⟨o_Z118,(qhK p s,())⟩:=by
  obtain⟨o,h1,h2,h3⟩:=qct 1 (L:=fun φ n k=>Z119.l0 (mkR (run E (φ 0))) (φ 0) n s c (s.length:Int) k) (len:=s.length) (fun k=>∃ h:k<s.length,p s[k]=true) (fun o=>some ⟨o_Z118,(o2i o,())⟩) (fun _ _ _ _=>rfl) (fun k hk hP=>by
      obtain⟨_,hP⟩:=hP
      simp only[Z119.l0_succ _ qag]
      refine qaD (decide_eq_true (by omega)) (qaf (qap hk) (qaa (hp _ (List.getElem_mem hk)) (qaD hP qam)))) (fun k q hk hP ih=>by
      simp only[Z119.l0_succ _ qag]
      refine qaD (decide_eq_true (by omega)) (qaf (qap hk) (qaa (hp _ (List.getElem_mem hk)) (qaJ (Bool.eq_false_iff.2 fun h=>hP ⟨hk,h⟩) ?_)))
      rw[qae (by omega)];exact ih) (by
      simp only[Z119.l0_succ _ qag]
      exact qaJ (decide_eq_false (by omega)) qam)
  rw[qdc h1 h2] at h3
  refine qal ?_
  simp only[run_Z118,Z119.ev]
  exact Ev.start (p:=fun φ n=>Z119.l0 (mkR (run E (φ 0))) (φ 0) n s c (s.length:Int) 0=_) 1 h3 (fun _ _ _ h=>h)
theorem qbz(s:List (List Int))(c:((Int×Unit)×Unit))(p:(List Int)→Bool)(hs:s.length≤1048576)(hp:∀ x∈s,Ret E n_Z46 [⟨yL,x⟩,⟨(.ptr (.cons yI .nil)),c.1⟩] ⟨o_Z46,(p x,())⟩) :
    Ret E n_Z118 [⟨yK,s⟩,⟨(.fn n_Z46 (.cons (.ptr (.cons yI .nil)) .nil)),c⟩] ⟨o_Z118,(qhK p s,())⟩:=by
  obtain⟨o,h1,h2,h3⟩:=qct 1 (L:=fun φ n k=>Z120.l0 (mkR (run E (φ 0))) (φ 0) n s c (s.length:Int) k) (len:=s.length) (fun k=>∃ h:k<s.length,p s[k]=true) (fun o=>some ⟨o_Z118,(o2i o,())⟩) (fun _ _ _ _=>rfl) (fun k hk hP=>by
      obtain⟨_,hP⟩:=hP
      simp only[Z120.l0_succ _ qag]
      refine qaD (decide_eq_true (by omega)) (qaf (qap hk) (qaa (hp _ (List.getElem_mem hk)) (qaD hP qam)))) (fun k q hk hP ih=>by
      simp only[Z120.l0_succ _ qag]
      refine qaD (decide_eq_true (by omega)) (qaf (qap hk) (qaa (hp _ (List.getElem_mem hk)) (qaJ (Bool.eq_false_iff.2 fun h=>hP ⟨hk,h⟩) ?_)))
      rw[qae (by omega)];exact ih) (by
      simp only[Z120.l0_succ _ qag]
      exact qaJ (decide_eq_false (by omega)) qam)
  rw[qdc h1 h2] at h3
  refine qal ?_
  simp only[run_Z118,Z120.ev]
  exact Ev.start (p:=fun φ n=>Z120.l0 (mkR (run E (φ 0))) (φ 0) n s c (s.length:Int) 0=_) 1 h3 (fun _ _ _ h=>h)
theorem qbr(s:List Int)(p:Int→Bool)(hs:s.length≤1048576)(hp:∀ x∈s,Ret E n_Z25 [⟨yI,x⟩] ⟨o_Z25,(p x,())⟩) :
    Ret E n_Z121 [⟨yL,s⟩,⟨(.fn n_Z25 .nil),()⟩] ⟨o_Z121,(qhK p s,())⟩:=by
  obtain⟨o,h1,h2,h3⟩:=qct 1 (L:=fun φ n k=>Z122.l0 (mkR (run E (φ 0))) (φ 0) n s (s.length:Int) k) (len:=s.length) (fun k=>∃ h:k<s.length,p s[k]=true) (fun o=>some ⟨o_Z121,(o2i o,())⟩) (fun _ _ _ _=>rfl) (fun k hk hP=>by
      obtain⟨_,hP⟩:=hP
      simp only[Z122.l0_succ _ qag]
      refine qaD (decide_eq_true (by omega)) (qaf (qap hk) (qaa (hp _ (List.getElem_mem hk)) (qaD hP qam)))) (fun k q hk hP ih=>by
      simp only[Z122.l0_succ _ qag]
      refine qaD (decide_eq_true (by omega)) (qaf (qap hk) (qaa (hp _ (List.getElem_mem hk)) (qaJ (Bool.eq_false_iff.2 fun h=>hP ⟨hk,h⟩) ?_)))
      rw[qae (by omega)];exact ih) (by
      simp only[Z122.l0_succ _ qag]
      exact qaJ (decide_eq_false (by omega)) qam)
  rw[qdc h1 h2] at h3
  refine qal ?_
  simp only[run_Z121,Z122.ev]
  exact Ev.start (p:=fun φ n=>Z122.l0 (mkR (run E (φ 0))) (φ 0) n s (s.length:Int) 0=_) 1 h3 (fun _ _ _ h=>h)
theorem qbu(s:List Int)(c:((Int×Unit)×Unit))(p:Int→Bool)(hs:s.length≤1048576)(hp:∀ x∈s,Ret E n_Z30 [⟨yI,x⟩,⟨(.ptr (.cons yI .nil)),c.1⟩] ⟨o_Z30,(p x,())⟩) :
    Ret E n_Z121 [⟨yL,s⟩,⟨(.fn n_Z30 (.cons (.ptr (.cons yI .nil)) .nil)),c⟩] ⟨o_Z121,(qhK p s,())⟩:=by
  obtain⟨o,h1,h2,h3⟩:=qct 1 (L:=fun φ n k=>Z123.l0 (mkR (run E (φ 0))) (φ 0) n s c (s.length:Int) k) (len:=s.length) (fun k=>∃ h:k<s.length,p s[k]=true) (fun o=>some ⟨o_Z121,(o2i o,())⟩) (fun _ _ _ _=>rfl) (fun k hk hP=>by
      obtain⟨_,hP⟩:=hP
      simp only[Z123.l0_succ _ qag]
      refine qaD (decide_eq_true (by omega)) (qaf (qap hk) (qaa (hp _ (List.getElem_mem hk)) (qaD hP qam)))) (fun k q hk hP ih=>by
      simp only[Z123.l0_succ _ qag]
      refine qaD (decide_eq_true (by omega)) (qaf (qap hk) (qaa (hp _ (List.getElem_mem hk)) (qaJ (Bool.eq_false_iff.2 fun h=>hP ⟨hk,h⟩) ?_)))
      rw[qae (by omega)];exact ih) (by
      simp only[Z123.l0_succ _ qag]
      exact qaJ (decide_eq_false (by omega)) qam)
  rw[qdc h1 h2] at h3
  refine qal ?_
  simp only[run_Z121,Z123.ev]
  exact Ev.start (p:=fun φ n=>Z123.l0 (mkR (run E (φ 0))) (φ 0) n s c (s.length:Int) 0=_) 1 h3 (fun _ _ _ h=>h)
theorem qbE(s:List Int)(p:Int→Bool)(hs:s.length≤1048576)(hp:∀ x∈s,Ret E n_Z32 [⟨yI,x⟩] ⟨o_Z32,(p x,())⟩) :
    Ret E n_Z121 [⟨yL,s⟩,⟨(.fn n_Z32 .nil),()⟩] ⟨o_Z121,(qhK p s,())⟩:=by
  obtain⟨o,h1,h2,h3⟩:=qct 1 (L:=fun φ n k=>Z124.l0 (mkR (run E (φ 0))) (φ 0) n s (s.length:Int) k) (len:=s.length) (fun k=>∃ h:k<s.length,p s[k]=true) (fun o=>some ⟨o_Z121,(o2i o,())⟩) (fun _ _ _ _=>rfl) (fun k hk hP=>by
      obtain⟨_,hP⟩:=hP
      simp only[Z124.l0_succ _ qag]
      refine qaD (decide_eq_true (by omega)) (qaf (qap hk) (qaa (hp _ (List.getElem_mem hk)) (qaD hP qam)))) (fun k q hk hP ih=>by
      simp only[Z124.l0_succ _ qag]
      refine qaD (decide_eq_true (by omega)) (qaf (qap hk) (qaa (hp _ (List.getElem_mem hk)) (qaJ (Bool.eq_false_iff.2 fun h=>hP ⟨hk,h⟩) ?_)))
      rw[qae (by omega)];exact ih) (by
      simp only[Z124.l0_succ _ qag]
      exact qaJ (decide_eq_false (by omega)) qam)
  rw[qdc h1 h2] at h3
  refine qal ?_
  simp only[run_Z121,Z124.ev]
  exact Ev.start (p:=fun φ n=>Z124.l0 (mkR (run E (φ 0))) (φ 0) n s (s.length:Int) 0=_) 1 h3 (fun _ _ _ h=>h)
theorem qbT(s:List Int)(p:Int→Bool)(hs:s.length≤1048576)(hp:∀ x∈s,Ret E n_Z71 [⟨yI,x⟩] ⟨o_Z71,(p x,())⟩) :
    Ret E n_Z121 [⟨yL,s⟩,⟨(.fn n_Z71 .nil),()⟩] ⟨o_Z121,(qhK p s,())⟩:=by
  obtain⟨o,h1,h2,h3⟩:=qct 1 (L:=fun φ n k=>Z125.l0 (mkR (run E (φ 0))) (φ 0) n s (s.length:Int) k) (len:=s.length) (fun k=>∃ h:k<s.length,p s[k]=true) (fun o=>some ⟨o_Z121,(o2i o,())⟩) (fun _ _ _ _=>rfl) (fun k hk hP=>by
      obtain⟨_,hP⟩:=hP
      simp only[Z125.l0_succ _ qag]
      refine qaD (decide_eq_true (by omega)) (qaf (qap hk) (qaa (hp _ (List.getElem_mem hk)) (qaD hP qam)))) (fun k q hk hP ih=>by
      simp only[Z125.l0_succ _ qag]
      refine qaD (decide_eq_true (by omega)) (qaf (qap hk) (qaa (hp _ (List.getElem_mem hk)) (qaJ (Bool.eq_false_iff.2 fun h=>hP ⟨hk,h⟩) ?_)))
      rw[qae (by omega)];exact ih) (by
      simp only[Z125.l0_succ _ qag]
      exact qaJ (decide_eq_false (by omega)) qam)
  rw[qdc h1 h2] at h3
  refine qal ?_
  simp only[run_Z121,Z125.ev]
  exact Ev.start (p:=fun φ n=>Z125.l0 (mkR (run E (φ 0))) (φ 0) n s (s.length:Int) 0=_) 1 h3 (fun _ _ _ h=>h)
theorem qbM(s:List Int)(p:Int→Bool)(hs:s.length≤1048576)(hp:∀ x∈s,Ret E n_Z74 [⟨yI,x⟩] ⟨o_Z74,(p x,())⟩) :
    Ret E n_Z121 [⟨yL,s⟩,⟨(.fn n_Z74 .nil),()⟩] ⟨o_Z121,(qhK p s,())⟩:=by
  obtain⟨o,h1,h2,h3⟩:=qct 1 (L:=fun φ n k=>Z126.l0 (mkR (run E (φ 0))) (φ 0) n s (s.length:Int) k) (len:=s.length) (fun k=>∃ h:k<s.length,p s[k]=true) (fun o=>some ⟨o_Z121,(o2i o,())⟩) (fun _ _ _ _=>rfl) (fun k hk hP=>by
      obtain⟨_,hP⟩:=hP
      simp only[Z126.l0_succ _ qag]
      refine qaD (decide_eq_true (by omega)) (qaf (qap hk) (qaa (hp _ (List.getElem_mem hk)) (qaD hP qam)))) (fun k q hk hP ih=>by
      simp only[Z126.l0_succ _ qag]
      refine qaD (decide_eq_true (by omega)) (qaf (qap hk) (qaa (hp _ (List.getElem_mem hk)) (qaJ (Bool.eq_false_iff.2 fun h=>hP ⟨hk,h⟩) ?_)))
      rw[qae (by omega)];exact ih) (by
      simp only[Z126.l0_succ _ qag]
      exact qaJ (decide_eq_false (by omega)) qam)
  rw[qdc h1 h2] at h3
  refine qal ?_
  simp only[run_Z121,Z126.ev]
  exact Ev.start (p:=fun φ n=>Z126.l0 (mkR (run E (φ 0))) (φ 0) n s (s.length:Int) 0=_) 1 h3 (fun _ _ _ h=>h)
theorem qa9(s:List (List Int))(c:((vK×Unit)×(Int×Unit)×Unit))(p:(List Int)→Bool)(hs:s.length≤1048576)(hp:∀ x∈s,Ret E n_Z20 [⟨yL,x⟩,⟨(.ptr yC),c.1⟩,⟨(.ptr (.cons yI .nil)),c.2.1⟩] ⟨o_Z20,(p x,())⟩) :
  Ret E n_Z108 [⟨yK,s⟩,⟨(.fn n_Z20 (.cons (.ptr yC) (.cons (.ptr (.cons yI .nil)) .nil))),c⟩] ⟨o_Z108,(pb (∃ x∈s,p x=true),())⟩:=by
 refine qal ?_
 simp only[run_Z108,Z109.ev]
 refine qaa (qbi s c p hs hp) (qai ?_)
 simp only[ge_iff_le,qfx,qaS qb9]
theorem qbf(s:List Int)(p:Int→Bool)(hs:s.length≤1048576)(hp:∀ x∈s,Ret E n_Z25 [⟨yI,x⟩] ⟨o_Z25,(p x,())⟩) :
  Ret E n_Z110 [⟨yL,s⟩,⟨(.fn n_Z25 .nil),()⟩] ⟨o_Z110,(pb (∃ x∈s,p x=true),())⟩:=by
 refine qal ?_
 simp only[run_Z110,Z111.ev]
 refine qaa (qbr s p hs hp) (qai ?_)
 simp only[ge_iff_le,qfx,qaS qb9]
theorem qbk(s:List Int)(c:((Int×Unit)×Unit))(p:Int→Bool)(hs:s.length≤1048576)(hp:∀ x∈s,Ret E n_Z30 [⟨yI,x⟩,⟨(.ptr (.cons yI .nil)),c.1⟩] ⟨o_Z30,(p x,())⟩) :
  Ret E n_Z110 [⟨yL,s⟩,⟨(.fn n_Z30 (.cons (.ptr (.cons yI .nil)) .nil)),c⟩] ⟨o_Z110,(pb (∃ x∈s,p x=true),())⟩:=by
 refine qal ?_
 simp only[run_Z110,Z112.ev]
 refine qaa (qbu s c p hs hp) (qai ?_)
 simp only[ge_iff_le,qfx,qaS qb9]
theorem qbs(s:List Int)(p:Int→Bool)(hs:s.length≤1048576)(hp:∀ x∈s,Ret E n_Z32 [⟨yI,x⟩] ⟨o_Z32,(p x,())⟩) :
  Ret E n_Z110 [⟨yL,s⟩,⟨(.fn n_Z32 .nil),()⟩] ⟨o_Z110,(pb (∃ x∈s,p x=true),())⟩:=by
 refine qal ?_
 simp only[run_Z110,Z113.ev]
 refine qaa (qbE s p hs hp) (qai ?_)
 simp only[ge_iff_le,qfx,qaS qb9]
theorem qbG(s:List Int)(p:Int→Bool)(hs:s.length≤1048576)(hp:∀ x∈s,Ret E n_Z71 [⟨yI,x⟩] ⟨o_Z71,(p x,())⟩) :
  Ret E n_Z110 [⟨yL,s⟩,⟨(.fn n_Z71 .nil),()⟩] ⟨o_Z110,(pb (∃ x∈s,p x=true),())⟩:=by
 refine qal ?_
 simp only[run_Z110,Z114.ev]
 refine qaa (qbT s p hs hp) (qai ?_)
 simp only[ge_iff_le,qfx,qaS qb9]
theorem qdb(p:Int)(R C:Nat)(c:(vM×Unit))(f:Nat→Nat→Int)(hR:R≤1048576)(hC:C≤1048576)(hRC:R*C≤1048576)(hf:∀ i j:Nat,i<R→j<C→Ret E n_Z90 [⟨yI,(i:Int)⟩,⟨yI,(j:Int)⟩,⟨(.ptr yM),c.1⟩] ⟨o_Z90,(f i j,())⟩) :
  Ret E n_Z50 [⟨yI,p⟩,⟨yI,(R:Int)⟩,⟨yI,(C:Int)⟩,⟨(.fn n_Z90 (.cons (.ptr yM) .nil)),c⟩] ⟨o_Z50,(p,(R:Int),(C:Int),qav f C R,())⟩:=by
 refine qal ?_
 simp only[run_Z50,Z52.ev]
 refine Ev.start (p:=fun φ n=>Z52.l0 (mkR (run E (φ 0))) (φ 0) n (C:Int) c (R:Int) 0 0 0 0 p (R:Int) (C:Int) []=_) 1 ?_ (fun _ _ _ h=>h)
 refine qaq 1 (L:=fun φ n k a=>Z52.l0 (mkR (run E (φ 0))) (φ 0) n (C:Int) c (R:Int) k 0 0 0 p (R:Int) (C:Int) a) (len:=R) (fun k=>qav f C k) (fun _ _ _ _ _=>rfl) (fun k r hk ih=>?_) ?_
 ·simp only[Z52.l0_succ _ qag]
  refine qaD (decide_eq_true (by omega)) ?_
  refine Ev.start (p:=fun φ n=>Z52.l1 (mkR (run E (φ 0))) (φ 0) (φ 1) n (C:Int) c (k:Int) (R:Int) (k:Int) (C:Int) 0 0 0 0 p (R:Int) (C:Int) (qav f C k)=_) 2 ?_ (fun _ _ _ h=>h)
  have hle:(k+1)*C≤R*C:=Nat.mul_le_mul_right _ hk
  rw[Nat.add_mul] at hle
  have:=qaq 2 (L:=fun φ n j a=>Z52.l1 (mkR (run E (φ 0))) (φ 0) (φ 1) n (C:Int) c (k:Int) (R:Int) (k:Int) (C:Int) j 0 0 0 p (R:Int) (C:Int) a) (len:=C) (fun j=>qav f C k++(List.range j).map (f k)) (r:=r) (fun _ _ _ _ _=>rfl) (fun j r hj ih=>?_) ?_
  ·simpa using this
  ·simp only[Z52.l1_succ _ qag]
   rw[List.range_succ,List.map_append,← List.append_assoc] at ih
   refine qaD (decide_eq_true (by omega)) (qaa (hf k j hk hj) (qar (by simp[qau];omega) ?_))
   rw[qae (by omega)];exact ih
  ·simp only[Z52.l1_succ _ qag]
   refine qaJ (decide_eq_false (by omega)) ?_
   rw[qae (by omega)];exact ih
 ·simp only[Z52.l0_succ _ qag]
  exact qaJ (decide_eq_false (by omega)) qam
theorem qdH(p:Int)(R C:Nat)(c:(vM×(vK×Unit)×Unit))(f:Nat→Nat→Int)(hR:R≤1048576)(hC:C≤1048576)(hRC:R*C≤1048576)(hf:∀ i j:Nat,i<R→j<C→Ret E n_Z78 [⟨yI,(i:Int)⟩,⟨yI,(j:Int)⟩,⟨(.ptr yM),c.1⟩,⟨(.ptr yC),c.2.1⟩] ⟨o_Z78,(f i j,())⟩) :
  Ret E n_Z50 [⟨yI,p⟩,⟨yI,(R:Int)⟩,⟨yI,(C:Int)⟩,⟨(.fn n_Z78 (.cons (.ptr yM) (.cons (.ptr yC) .nil))),c⟩] ⟨o_Z50,(p,(R:Int),(C:Int),qav f C R,())⟩:=by
 refine qal ?_
 simp only[run_Z50,Z51.ev]
 refine Ev.start (p:=fun φ n=>Z51.l0 (mkR (run E (φ 0))) (φ 0) n (C:Int) c (R:Int) 0 0 0 0 p (R:Int) (C:Int) []=_) 1 ?_ (fun _ _ _ h=>h)
 refine qaq 1 (L:=fun φ n k a=>Z51.l0 (mkR (run E (φ 0))) (φ 0) n (C:Int) c (R:Int) k 0 0 0 p (R:Int) (C:Int) a) (len:=R) (fun k=>qav f C k) (fun _ _ _ _ _=>rfl) (fun k r hk ih=>?_) ?_
 ·simp only[Z51.l0_succ _ qag]
  refine qaD (decide_eq_true (by omega)) ?_
  refine Ev.start (p:=fun φ n=>Z51.l1 (mkR (run E (φ 0))) (φ 0) (φ 1) n (C:Int) c (k:Int) (R:Int) (k:Int) (C:Int) 0 0 0 0 p (R:Int) (C:Int) (qav f C k)=_) 2 ?_ (fun _ _ _ h=>h)
  have hle:(k+1)*C≤R*C:=Nat.mul_le_mul_right _ hk
  rw[Nat.add_mul] at hle
  have:=qaq 2 (L:=fun φ n j a=>Z51.l1 (mkR (run E (φ 0))) (φ 0) (φ 1) n (C:Int) c (k:Int) (R:Int) (k:Int) (C:Int) j 0 0 0 p (R:Int) (C:Int) a) (len:=C) (fun j=>qav f C k++(List.range j).map (f k)) (r:=r) (fun _ _ _ _ _=>rfl) (fun j r hj ih=>?_) ?_
  ·simpa using this
  ·simp only[Z51.l1_succ _ qag]
   rw[List.range_succ,List.map_append,← List.append_assoc] at ih
   refine qaD (decide_eq_true (by omega)) (qaa (hf k j hk hj) (qar (by simp[qau];omega) ?_))
   rw[qae (by omega)];exact ih
  ·simp only[Z51.l1_succ _ qag]
   refine qaJ (decide_eq_false (by omega)) ?_
   rw[qae (by omega)];exact ih
 ·simp only[Z51.l0_succ _ qag]
  exact qaJ (decide_eq_false (by omega)) qam
theorem qer(p:Int)(R C:Nat)(f:Nat→Nat→Int)(hR:R≤1048576)(hC:C≤1048576)(hRC:R*C≤1048576)(hf:∀ i j:Nat,i<R→j<C→Ret E n_Z97 [⟨yI,(i:Int)⟩,⟨yI,(j:Int)⟩] ⟨o_Z97,(f i j,())⟩) :
  Ret E n_Z50 [⟨yI,p⟩,⟨yI,(R:Int)⟩,⟨yI,(C:Int)⟩,⟨(.fn n_Z97 .nil),()⟩] ⟨o_Z50,(p,(R:Int),(C:Int),qav f C R,())⟩:=by
 refine qal ?_
 simp only[run_Z50,Z54.ev]
 refine Ev.start (p:=fun φ n=>Z54.l0 (mkR (run E (φ 0))) (φ 0) n (C:Int) (R:Int) 0 0 0 0 p (R:Int) (C:Int) []=_) 1 ?_ (fun _ _ _ h=>h)
 refine qaq 1 (L:=fun φ n k a=>Z54.l0 (mkR (run E (φ 0))) (φ 0) n (C:Int) (R:Int) k 0 0 0 p (R:Int) (C:Int) a) (len:=R) (fun k=>qav f C k) (fun _ _ _ _ _=>rfl) (fun k r hk ih=>?_) ?_
 ·simp only[Z54.l0_succ _ qag]
  refine qaD (decide_eq_true (by omega)) ?_
  refine Ev.start (p:=fun φ n=>Z54.l1 (mkR (run E (φ 0))) (φ 0) (φ 1) n (C:Int) (k:Int) (R:Int) (k:Int) (C:Int) 0 0 0 0 p (R:Int) (C:Int) (qav f C k)=_) 2 ?_ (fun _ _ _ h=>h)
  have hle:(k+1)*C≤R*C:=Nat.mul_le_mul_right _ hk
  rw[Nat.add_mul] at hle
  have:=qaq 2 (L:=fun φ n j a=>Z54.l1 (mkR (run E (φ 0))) (φ 0) (φ 1) n (C:Int) (k:Int) (R:Int) (k:Int) (C:Int) j 0 0 0 p (R:Int) (C:Int) a) (len:=C) (fun j=>qav f C k++(List.range j).map (f k)) (r:=r) (fun _ _ _ _ _=>rfl) (fun j r hj ih=>?_) ?_
  ·simpa using this
  ·simp only[Z54.l1_succ _ qag]
   rw[List.range_succ,List.map_append,← List.append_assoc] at ih
   refine qaD (decide_eq_true (by omega)) (qaa (hf k j hk hj) (qar (by simp[qau];omega) ?_))
   rw[qae (by omega)];exact ih
  ·simp only[Z54.l1_succ _ qag]
   refine qaJ (decide_eq_false (by omega)) ?_
   rw[qae (by omega)];exact ih
 ·simp only[Z54.l0_succ _ qag]
  exact qaJ (decide_eq_false (by omega)) qam
theorem qeq(p:Int)(R C:Nat)(f:Nat→Nat→Int)(hR:R≤1048576)(hC:C≤1048576)(hRC:R*C≤1048576)(hf:∀ i j:Nat,i<R→j<C→Ret E n_Z92 [⟨yI,(i:Int)⟩,⟨yI,(j:Int)⟩] ⟨o_Z92,(f i j,())⟩) :
  Ret E n_Z50 [⟨yI,p⟩,⟨yI,(R:Int)⟩,⟨yI,(C:Int)⟩,⟨(.fn n_Z92 .nil),()⟩] ⟨o_Z50,(p,(R:Int),(C:Int),qav f C R,())⟩:=by
 refine qal ?_
 simp only[run_Z50,Z53.ev]
 refine Ev.start (p:=fun φ n=>Z53.l0 (mkR (run E (φ 0))) (φ 0) n (C:Int) (R:Int) 0 0 0 0 p (R:Int) (C:Int) []=_) 1 ?_ (fun _ _ _ h=>h)
 refine qaq 1 (L:=fun φ n k a=>Z53.l0 (mkR (run E (φ 0))) (φ 0) n (C:Int) (R:Int) k 0 0 0 p (R:Int) (C:Int) a) (len:=R) (fun k=>qav f C k) (fun _ _ _ _ _=>rfl) (fun k r hk ih=>?_) ?_
 ·simp only[Z53.l0_succ _ qag]
  refine qaD (decide_eq_true (by omega)) ?_
  refine Ev.start (p:=fun φ n=>Z53.l1 (mkR (run E (φ 0))) (φ 0) (φ 1) n (C:Int) (k:Int) (R:Int) (k:Int) (C:Int) 0 0 0 0 p (R:Int) (C:Int) (qav f C k)=_) 2 ?_ (fun _ _ _ h=>h)
  have hle:(k+1)*C≤R*C:=Nat.mul_le_mul_right _ hk
  rw[Nat.add_mul] at hle
  have:=qaq 2 (L:=fun φ n j a=>Z53.l1 (mkR (run E (φ 0))) (φ 0) (φ 1) n (C:Int) (k:Int) (R:Int) (k:Int) (C:Int) j 0 0 0 p (R:Int) (C:Int) a) (len:=C) (fun j=>qav f C k++(List.range j).map (f k)) (r:=r) (fun _ _ _ _ _=>rfl) (fun j r hj ih=>?_) ?_
  ·simpa using this
  ·simp only[Z53.l1_succ _ qag]
   rw[List.range_succ,List.map_append,← List.append_assoc] at ih
   refine qaD (decide_eq_true (by omega)) (qaa (hf k j hk hj) (qar (by simp[qau];omega) ?_))
   rw[qae (by omega)];exact ih
  ·simp only[Z53.l1_succ _ qag]
   refine qaJ (decide_eq_false (by omega)) ?_
   rw[qae (by omega)];exact ih
 ·simp only[Z53.l0_succ _ qag]
  exact qaJ (decide_eq_false (by omega)) qam
end VeT
open Go Go.Proofs Ve
namespace VeT
abbrev cM:Ty:=.cons yI (.cons yI (.cons yI (.cons yL .nil)))
abbrev cC:Ty:=.cons yK .nil
abbrev cS:Ty:=.cons yK (.cons yI (.cons yL (.cons (.sl (.st cM)) .nil)))
abbrev Mat:=Int×Int×Int×List Int×Unit
abbrev Cpx:=List (List Int)×Unit
abbrev Shf:=List (List Int)×Int×List Int×List Mat×Unit
abbrev Sim:=List Int
abbrev dI(x:Int):Dv:=⟨.int .i64,x⟩
abbrev dL(x:List Int):Dv:=⟨.sl yI,x⟩
abbrev dLL(x:List (List Int)):Dv:=⟨.sl yL,x⟩
abbrev dC(x:Cpx):Dv:=⟨.ptr cC,x⟩
abbrev dM(x:Mat):Dv:=⟨.ptr cM,x⟩
abbrev dS(x:Shf):Dv:=⟨.ptr cS,x⟩
abbrev dMs(x:List Mat):Dv:=⟨.sl (.st cM),x⟩
theorem qcH(n lo hi:Int):Ret E n_Z94 [dI n,dI lo,dI hi] ⟨o_Z94,(pb (lo≤n∧n≤hi),())⟩:=by
 refine qal ?_
 simp only[run_Z94,Z94.ev]
 refine qeu (fun h=>qai ?_) fun h=>qai ?_
 ·rw[qfx,qaS (show n≤hi↔lo≤n∧n≤hi by omega)]
 ·rw[qaw (by omega)]
theorem qck(n lo hi:Int):Ret E n_Z136 [dI n,dI lo,dI hi] ⟨o_Z136,(pb (lo≤n∧n≤hi),())⟩:=by
 refine qal ?_
 simp only[run_Z136,Z136.ev]
 refine qeu (fun h=>qai ?_) fun h=>qai ?_
 ·rw[qfx,qaS (show n≤hi↔lo≤n∧n≤hi by omega)]
 ·rw[qaw (by omega)]
theorem qlw(n:Int):Ret E n_Z69 [dI n] ⟨o_Z69,(pb (0≤n∧n≤9),())⟩:=by
 refine qal ?_
 simp only[run_Z69,Z69.ev]
 exact qaa (qcH _ _ _) qam
theorem qge(n:Int):Ret E n_Z25 [dI n] ⟨o_Z25,(!pb (0≤n∧n≤9),())⟩:=by
 refine qal ?_
 simp only[run_Z25,Z25.ev]
 exact qaa (qlw _) qam
def qjm(s:Sim):Prop:=∀ j,1≤j→j<s.length→s.getD (j-1) 0<s.getD j 0
theorem qle(s:Sim)(hs:Sm yL s):Ret E n_Z66 [dL s] ⟨o_Z66,(pb (qjm s),())⟩:=by
 have hs1:s.length≤1048576:=hs.1
 refine qal ?_
 simp only[run_Z66,Z66.ev]
 by_cases h0:s.length=0
 ·refine Ev.start (p:=fun φ n=>Z66.l0 (mkR (run E (φ 0))) (φ 0) n s 1=_) 1 ?_ (fun _ _ _ h=>h)
  refine qfn 1 (σ:=Unit) (L:=fun φ n _=>Z66.l0 (mkR (run E (φ 0))) (φ 0) n s 1) (fun _ _ _ _=>rfl) (fun _=>True) (fun _=>_) (fun _=>0) (fun _ _ _=>?_) () trivial
  simp only[Z66.l0_succ _ qag]
  refine qaJ (decide_eq_false (by omega)) (qai ?_)
  rw[qaI]
  intro j h1 h2;omega
 ·refine Ev.start (p:=fun φ n=>Z66.l0 (mkR (run E (φ 0))) (φ 0) n s 1=_) 1 ?_ (fun _ _ _ h=>h)
  refine qeo 1 (L:=fun φ n k=>Z66.l0 (mkR (run E (φ 0))) (φ 0) n s k) (len:=s.length) 1 (by omega) (fun j=>s.getD (j-1) 0<s.getD j 0) (fun b=>some ⟨o_Z66,(b,())⟩) (fun _ _ _ _=>rfl) (fun k h1 h2 hP _=>?_) (fun k r h1 h2 hP _ ih=>?_) (fun _=>?_)
  ·simp only[Z66.l0_succ _ qag]
   refine qaD (decide_eq_true (by omega)) ?_
   rw[qad (by omega) (by omega),show((k:Int)-1)=((k-1:Nat):Int) by omega]
   refine qaf (qap (by omega)) (qaf (qap h2) (qaD (decide_eq_true ?_) qam))
   simpa [List.getD_eq_getElem?_getD,h2,show k-1<s.length by omega] using hP
  ·simp only[Z66.l0_succ _ qag]
   refine qaD (decide_eq_true (by omega)) ?_
   rw[qad (by omega) (by omega),show((k:Int)-1)=((k-1:Nat):Int) by omega]
   refine qaf (qap (by omega)) (qaf (qap h2) (qaJ (decide_eq_false ?_) ?_))
   ·simpa [List.getD_eq_getElem?_getD,h2,show k-1<s.length by omega] using hP
   ·rw[qae (by omega)];exact ih
  ·simp only[Z66.l0_succ _ qag]
   exact qaJ (decide_eq_false (by omega)) qam
end VeT
open Go Go.Proofs Ve
namespace VeT
def Vx(s:Sim):Prop:=1≤s.length∧s.length≤4∧qjm s∧∀ x∈s,0≤x∧x≤9
theorem qek(s:Sim)(hs:Sm yL s):Ret E n_Z24 [dL s] ⟨o_Z24,(pb (Vx s),())⟩:=by
 refine qal ?_
 simp only[run_Z24,Z24.ev]
 refine qeu (fun h1=>qeu (fun h2=>qaa (qle s hs) (qcj (fun h3=>qaa (qbf s _ hs.1 fun x _=>qge x) (qai ?_)) fun h3=>qai ?_)) fun h2=>qai ?_) fun h1=>qai ?_
 ·have h3:=qaL.1 h3
  have:(!pb (∃ x∈s,(!pb (0≤x∧x≤9))=true))=pb (Vx s):=qja (by
   simp only[Bool.not_eq_true',qbc]
   exact⟨fun h=>⟨by omega,by omega,h3,fun x hx=>Classical.byContradiction fun hn=>h ⟨x,hx,hn⟩⟩,fun h ⟨x,hx,hn⟩=>hn (h.2.2.2 x hx)⟩)
  rw[this]
 ·rw[qaw fun h=>qbc.1 h3 h.2.2.1]
 ·rw[qaw fun h=>h2 (by have:=h.2.1;omega)]
 ·rw[qaw fun h=>h1 (by have:=h.1;omega)]
theorem ql4(s:Sim)(lo hi:Int)(hs:Sm yL s):Ret E n_Z139 [dL s,dI lo,dI hi] ⟨o_Z139,(pb (qjm s∧∀ x∈s,lo≤x∧x≤hi),())⟩:=by
 have hs1:s.length≤1048576:=hs.1
 refine qal ?_
 simp only[run_Z139,Z139.ev]
 refine Ev.start (p:=fun φ n=>Z139.l0 (mkR (run E (φ 0))) (φ 0) n s lo hi 0=_) 1 ?_ (fun _ _ _ h=>h)
 refine(qeo 1 (L:=fun φ n k=>Z139.l0 (mkR (run E (φ 0))) (φ 0) n s lo hi k) (len:=s.length) 0 (by omega) (fun j=>(lo≤s.getD j 0∧s.getD j 0≤hi)∧(1≤j→s.getD (j-1) 0<s.getD j 0)) (fun b=>some ⟨o_Z139,(b,())⟩) (fun _ _ _ _=>rfl) (fun k h1 h2 hP _=>?_) (fun k r h1 h2 hP _ ih=>?_) (fun _=>?_)).to ?_
 ·simp only[Z139.l0_succ _ qag]
  refine qaD (decide_eq_true (by omega)) (qaf (qap h2) (qaa (qck _ _ _) ?_))
  have e:s.getD k 0=s[k]:=by simp[List.getD_eq_getElem?_getD,h2]
  rw[e] at hP
  refine qcj (fun _=>?_) (fun hin=>?_)
  ·simp only[Z139.j1_eq _ qag,cond_true];(first | exact qam | exact Ev.of fun _=>trivial)
  ·have hin:lo≤s[k]∧s[k]≤hi:=qaL.1 (by simpa using hin)
   have hk:1≤k:=Classical.byContradiction fun h=>hP ⟨hin,fun h'=>absurd h' h⟩
   refine qaD (decide_eq_true (by omega)) ?_
   rw[qad (by omega) (by omega),show((k:Int)-1)=((k-1:Nat):Int) by omega]
   refine qaf (qap (by omega)) (qaf (qap h2) ?_)
   have e':s.getD (k-1) 0=s[k-1]:=by simp[List.getD_eq_getElem?_getD,show k-1<s.length by omega]
   rw[e'] at hP
   have:decide (s[k-1]≥s[k])=true:=decide_eq_true (Classical.byContradiction fun h=>hP ⟨hin,fun _=>by omega⟩)
   simp only[this,Z139.j1_eq _ qag,cond_true];(first | exact qam | exact Ev.of fun _=>trivial)
 ·simp only[Z139.l0_succ _ qag]
  refine qaD (decide_eq_true (by omega)) (qaf (qap h2) (qaa (qck _ _ _) ?_))
  have e:s.getD k 0=s[k]:=by simp[List.getD_eq_getElem?_getD,h2]
  rw[e] at hP
  refine qaJ (by rw[qaI hP.1];rfl) ?_
  refine qeu (fun hk=>?_) fun hk=>?_
  ·rw[qad (by omega) (by omega),show((k:Int)-1)=((k-1:Nat):Int) by omega]
   refine qaf (qap (by omega)) (qaf (qap h2) ?_)
   have e':s.getD (k-1) 0=s[k-1]:=by simp[List.getD_eq_getElem?_getD,show k-1<s.length by omega]
   rw[e'] at hP
   have:decide (s[k-1]≥s[k])=false:=decide_eq_false (by have:=hP.2 (by omega);omega)
   simp only[this,Z139.j1_eq _ qag,cond_false]
   rw[qae (by omega)];exact ih
  ·simp only[Z139.j1_eq _ qag,cond_false]
   rw[qae (by omega)];exact ih
 ·simp only[Z139.l0_succ _ qag]
  exact qaJ (decide_eq_false (by omega)) qam
 ·refine congrArg (fun b:Bool=>some (⟨o_Z139,(b,())⟩:Dv)) (qaS ⟨fun h=>⟨fun j h1 h2=>(h j (by omega) h2).2 h1,fun x hx=>?_⟩,fun⟨h1,h2⟩ j _ hj=>⟨?_,fun h3=>h1 j h3 hj⟩⟩)
  ·obtain⟨j,hj,rfl⟩:=List.mem_iff_getElem.1 hx
   simpa [List.getD_eq_getElem?_getD,hj] using (h j (by omega) hj).1
  ·simpa [List.getD_eq_getElem?_getD,hj] using h2 _ (List.getElem_mem hj)
theorem qfu(s:Sim)(hs:Sm yL s):Ret E n_Z167 [dL s] ⟨o_Z167,(pb (Vx s),())⟩:=by
 refine qal ?_
 simp only[run_Z167,Z167.ev]
 refine qaa (qck _ _ _) (qcj (fun h1=>qaa (ql4 s _ _ hs) (qai ?_)) fun h1=>qai ?_)
 ·have h1:=qaL.1 h1
  exact congrArg (fun b:Bool=>some (⟨o_Z167,(b,())⟩:Dv)) (qaS ⟨fun h=>⟨by omega,by omega,h.1,h.2⟩,fun h=>⟨h.2.2.1,h.2.2.2⟩⟩)
 ·rw[qaw fun h=>qbc.1 h1 ⟨by have:=h.1;omega,by have:=h.2.1;omega⟩]
def qjr(a b:Int):Int:=if a<b then -1 else if b<a then 1 else 0
def qe4:Sim→Sim→Int
 | [],[]=>0
 | [],_::_=>-1
 | _::_,[]=>1
 | x::xs,y::ys=>if x<y then -1 else if y<x then 1 else qe4 xs ys
def qdq(a b:Sim):Int:=if qjr a.length b.length≠0 then qjr a.length b.length else qe4 a b
theorem qez{a b:Int}:qjr a b=0↔a=b:=by unfold qjr;split<;>(try split)<;>omega
theorem qqV{a b:Int}:qjr b a=- qjr a b:=by unfold qjr;split<;>split<;>(try split)<;>omega
theorem qpS{a b:Int}:qjr a b<0↔a<b:=by unfold qjr;split<;>(try split)<;>omega
theorem qpE:∀ {a b:Sim},qe4 a b=0↔a=b
 | [],[]=>by simp[qe4]
 | [],_::_=>by simp[qe4]
 | _::_,[]=>by simp[qe4]
 | x::xs,y::ys=>by
  have:=@qpE xs ys
  simp only[qe4,List.cons.injEq]
  split
  ·constructor
   ·intro h;omega
   ·rintro⟨rfl,_⟩;omega
  ·split
   ·constructor
    ·intro h;omega
    ·rintro⟨rfl,_⟩;omega
   ·rw[this];constructor
    ·intro h;exact⟨by omega,h⟩
    ·exact fun h=>h.2
theorem qnv:∀ {a b:Sim},qe4 b a=- qe4 a b
 | [],[]=>by simp[qe4]
 | [],_::_=>by simp[qe4]
 | _::_,[]=>by simp[qe4]
 | x::xs,y::ys=>by
  have:=@qnv xs ys
  simp only[qe4]
  split<;>split<;>(try split)<;>omega
theorem qjs:∀ {a b c:Sim},qe4 a b<0→qe4 b c<0→qe4 a c<0
 | [],[],c,h,_=>by simp[qe4] at h
 | [],_::_,[],_,h=>by simp[qe4] at h
 | [],_::_,_::_,_,_=>by simp[qe4]
 | _::_,[],_,h,_=>by simp[qe4] at h
 | _::_,_::_,[],_,h=>by simp[qe4] at h
 | x::xs,y::ys,z::zs,h1,h2=>by
  have:=@qjs xs ys zs
  simp only[qe4] at h1 h2 ⊢
  split at h1<;>split at h2<;>(try split at h1)<;>(try split at h2)<;>(try split)<;>(try split)<;>first | omega | (exact this h1 h2)
theorem qcn{a b:Sim}:qdq a b=0↔a=b:=by
 unfold qdq
 split
 ·rename_i h
  exact⟨fun h'=>absurd h' h,fun h'=>absurd (qez.2 (by rw[h'])) h⟩
 ·exact qpE
theorem qkt{a b:Sim}:qdq b a=- qdq a b:=by
 unfold qdq
 rw[@qqV a.length b.length]
 split<;>split<;>first | omega | exact qnv
theorem qiI{a b:Sim}:qdq a b<0↔a.length<b.length∨a.length=b.length∧qe4 a b<0:=by
 unfold qdq
 split
 ·rename_i h
  rw[qpS]
  rw[Ne,qez] at h
  omega
 ·rename_i h
  rw[Classical.not_not,qez] at h
  omega
theorem qfa{a b c:Sim}(h1:qdq a b<0)(h2:qdq b c<0):qdq a c<0:=by
 rw[qiI] at *
 rcases h1 with h1 | ⟨h1,h1'⟩<;>rcases h2 with h2 | ⟨h2,h2'⟩
 ·left;omega
 ·left;omega
 ·left;omega
 ·right;exact⟨by omega,qjs h1' h2'⟩
theorem qjG(a:Int):Ret E n_Z3 [dI a] ⟨o_Z3,(false,())⟩:=by
 refine qal ?_
 simp only[run_Z3,Z3.ev]
 exact qai (by simp)
theorem qmj(a:Int):Ret E n_Z4 [dI a] ⟨o_Z4,(false,())⟩:=by
 refine qal ?_
 simp only[run_Z4,Z4.ev]
 exact qai (by simp)
theorem qlu(a b:Int):Ret E n_Z0 [dI a,dI b] ⟨o_Z0,(qjr a b,())⟩:=by
 refine qal ?_
 simp only[run_Z0,Z0.ev]
 refine qaa (qjG _) (qaa (qjG _) (qaJ rfl (qaJ rfl (qeu (fun h=>qai ?_) fun h=>qeu (fun h2=>qai ?_) fun h2=>qai ?_))))
 ·rw[qjr,if_pos h]
 ·rw[qjr,if_neg h,if_pos h2]
 ·rw[qjr,if_neg h,if_neg h2]
theorem qms(a b:Int):Ret E n_Z1 [dI a,dI b] ⟨o_Z1,(qjr a b,())⟩:=by
 refine qal ?_
 simp only[run_Z1,Z1.ev]
 refine qaa (qmj _) (qaa (qmj _) (qaJ rfl (qaJ rfl (qeu (fun h=>qai ?_) fun h=>qeu (fun h2=>qai ?_) fun h2=>qai ?_))))
 ·rw[qjr,if_pos h]
 ·rw[qjr,if_neg h,if_pos h2]
 ·rw[qjr,if_neg h,if_neg h2]
theorem qiH{a b:Sim}{k:Nat}(h:k<a.length)(h':k<b.length):qe4 (a.drop k) (b.drop k)=if qjr a[k] b[k]≠0 then qjr a[k] b[k] else qe4 (a.drop (k+1)) (b.drop (k+1)):=by
 rw[List.drop_eq_getElem_cons h,List.drop_eq_getElem_cons h',qe4]
 unfold qjr
 split
 ·simp
 ·split
  ·simp
  ·simp
theorem qhy(a b:Sim)(ha:Sm yL a):Ret E n_Z106 [dL a,dL b] ⟨o_Z106,(qe4 a b,())⟩:=by
 have ha1:a.length≤1048576:=ha.1
 refine qal ?_
 simp only[run_Z106,Z106.ev]
 refine Ev.start (p:=fun φ n=>Z106.l0 (mkR (run E (φ 0))) (φ 0) n a b a (a.length:Int) 0=_) 1 ?_ (fun _ _ _ h=>h)
 refine qfn 1 (σ:=Nat) (L:=fun φ n k=>Z106.l0 (mkR (run E (φ 0))) (φ 0) n a b a (a.length:Int) (k:Int)) (fun _ _ _ _=>rfl) (fun k=>k≤a.length∧k≤b.length) (fun k=>some ⟨o_Z106,(qe4 (a.drop k) (b.drop k),())⟩) (fun k=>a.length-k) (fun k ⟨hk,hkb⟩ ih=>?_) 0 ⟨Nat.zero_le _,Nat.zero_le _⟩
 simp only[Z106.l0_succ _ qag]
 refine qeu (fun h=>?_) fun h=>?_
 ·have hka:k<a.length:=by omega
  refine qaf (qap hka) (qeu (fun h2=>qai ?_) fun h2=>?_)
  ·rw[List.drop_eq_getElem_cons hka,List.drop_of_length_le (l:=b) (by omega),qe4]
  ·have hkb:k<b.length:=by omega
   refine qaf (qap hkb) (qaa (qms _ _) (qcj (fun h3=>qai ?_) fun h3=>?_))
   ·rw[qiH hka hkb,if_pos (by simpa using h3)]
   ·rw[qae (by omega)]
    refine(ih (k+1) ⟨by omega,by omega⟩ (by omega)).to ?_
    rw[qiH hka hkb,if_neg (by simpa using h3)]
 ·have e:k=a.length:=by omega
  subst e
  refine qeu (fun h2=>qai ?_) fun h2=>qai ?_
  ·rw[List.drop_of_length_le (l:=a) (by omega),List.drop_eq_getElem_cons (l:=b) (by omega),qe4]
  ·rw[List.drop_of_length_le (l:=a) (by omega),List.drop_of_length_le (l:=b) (by omega),qe4]
theorem qse(a b:Int):Ret E n_Z2 [dL [a,b]] ⟨o_Z2,(if a≠0 then a else b,())⟩:=by
 refine qal ?_
 simp only[run_Z2,Z2.ev]
 refine Ev.start (p:=fun φ n=>Z2.l0 (mkR (run E (φ 0))) (φ 0) n 0 [a,b] ([a,b].length:Int) 0=_) 1 ?_ (fun _ _ _ h=>h)
 refine Ev.round 1 (L:=fun φ n=>Z2.l0 (mkR (run E (φ 0))) (φ 0) n 0 [a,b] ([a,b].length:Int) 0) ?_ (fun _ _ _=>rfl)
 simp only[Z2.l0_succ _ qag]
 refine qaD (by simp) (qaf (x:=a) rfl (qcj (fun h=>qai ?_) fun h=>?_))
 ·rw[if_pos (by simpa using h)]
 ·rw[if_neg (by simpa using h)]
  rw[show w64 ((0:Int)+1)=1 by decide]
  refine Ev.round 1 (L:=fun φ n=>Z2.l0 (mkR (run E (φ 0))) (φ 0) n 0 [a,b] ([a,b].length:Int) 1) ?_ (fun _ _ _=>rfl)
  simp only[Z2.l0_succ _ qag]
  refine qaD (by simp) (qaf (x:=b) rfl (qcj (fun h=>qam) fun h=>?_))
  rw[show w64 ((1:Int)+1)=2 by decide]
  refine Ev.round 1 (L:=fun φ n=>Z2.l0 (mkR (run E (φ 0))) (φ 0) n 0 [a,b] ([a,b].length:Int) 2) ?_ (fun _ _ _=>rfl)
  simp only[Z2.l0_succ _ qag]
  refine qaJ (by simp) (qai ?_)
  have:b=0:=by simpa using h
  rw[this]
theorem qa5(a b:Sim)(ha:Sm yL a):Ret E n_Z38 [dL a,dL b] ⟨o_Z38,(qdq a b,())⟩:=by
 refine qal ?_
 simp only[run_Z38,Z38.ev]
 exact qaa (qlu _ _) (qaa (qhy a b ha) (qaa (qse _ _) qam))
theorem qcX(a b:Sim)(ha:Sm yL a):Ret E n_Z157 [dL a,dL b] ⟨o_Z157,(pb (qdq a b<0),())⟩:=by
  have ha1:a.length≤1048576:=ha.1
  refine qal ?_
  simp only[run_Z157,Z157.ev]
  refine qcj (fun h=>qai ?_) fun h=>?_
  · have h:(a.length:Int)≠b.length:=by simpa using h
    rw[qfx,qaS (show(a.length:Int)<b.length↔qdq a b<0 by rw[qiI];omega)]
  · have h : a.length = b.length := by have : (a.length : Int) = b.length := by simpa using h
                                       omega
    refine Ev.start (p:=fun φ n=>Z157.l0 (mkR (run E (φ 0))) (φ 0) n a b 0=_) 1 ?_ (fun _ _ _ h=>h)
    refine(qfn 1 (σ:=Nat) (L:=fun φ n k=>Z157.l0 (mkR (run E (φ 0))) (φ 0) n a b (k:Int)) (fun _ _ _ _=>rfl) (fun k=>k≤a.length) (fun k=>some ⟨o_Z157,(pb (qe4 (a.drop k) (b.drop k)<0),())⟩) (fun k=>a.length-k) (fun k hk ih=>?_) 0 (Nat.zero_le _)).to ?_
    · simp only[Z157.l0_succ _ qag]
      refine qeu (fun h1=>?_) fun h1=>?_
      · have hka:k<a.length:=by omega
        have hkb:k<b.length:=by omega
        have e:=qiH hka hkb
        refine qaf (qap hka) (qaf (qap hkb) (qcj (fun h3=>?_) fun h3=>?_))
        · refine qaf (qap hka) (qaf (qap hkb) (qai ?_))
          have h3:a[k]≠b[k]:=by simpa using h3
          rw[if_pos (by rw[Ne,qez];exact h3)] at e
          rw[e,qfx,qaS qpS]
        · have h3:a[k]=b[k]:=by simpa using h3
          rw[if_neg (by rw[Classical.not_not,qez];exact h3)] at e
          rw[qae (by omega),e]
          exact ih (k+1) (by show k+1≤_;omega) (by show a.length-(k+1)<_;omega)
      · refine qai ?_
        have hk:k≤a.length:=hk
        have e:k=a.length:=by omega
        subst e
        rw[List.drop_of_length_le (l:=a) (by omega),List.drop_of_length_le (l:=b) (by omega),qe4,qaw (by omega)]
    · refine congrArg (fun b:Bool=>some (⟨o_Z157,(b,())⟩:Dv)) (qaS ?_)
      simp only[List.drop_zero];rw[qiI];omega
end VeT
open Go Go.Proofs Ve
namespace VeT
theorem qah{α:Type}{s:List α}{k:Nat}{d:α}(h:k<s.length):s.getD k d=s[k]:=by simp[List.getD_eq_getElem?_getD,h]
theorem qb0{t:Ty}{s:List t.T}(h:Sm (.sl t) s){k:Nat}(hk:k<s.length):Sm t s[k]:=h.2 _ (List.getElem_mem hk)
theorem qs0{s:Sim}(h:s.length≤1048576):Sm yL s:=⟨h,fun _ _=>trivial⟩
theorem qc0(s:Sim)(hs:s.length≤1048576):Ret E n_Z137 [dL s] ⟨o_Z137,(s,())⟩:=by
 refine qal ?_
 simp only[run_Z137,Z137.ev]
 exact qar (by simp;omega) (qai rfl)
theorem qdZ(s:Sim)(k:Nat)(hk:k<s.length)(hs:s.length≤1048576):Ret E n_Z161 [dL s,dI (k:Int)] ⟨o_Z161,(s.eraseIdx k,())⟩:=by
 refine qal ?_
 simp only[run_Z161,Z161.ev]
 rw[qae (by omega)]
 simp only[Int.toNat_natCast]
 refine qar (by simp;omega) (qaa (qc0 _ (by simp;omega)) (qar (by simp;omega) (qar (by simp;omega) (qai ?_))))
 rw[List.eraseIdx_eq_take_drop_succ]
theorem qhc(a b:Sim)(ha:a.length≤1048576):Ret E n_Z140 [dL a,dL b] ⟨o_Z140,(pb (a=b),())⟩:=by
 refine qal ?_
 simp only[run_Z140,Z140.ev]
 refine qcj (fun h=>qai ?_) fun h=>?_
 ·have h:(a.length:Int)≠b.length:=by simpa using h
  rw[qaw fun e=>h (by rw[e])]
 ·have h:(a.length:Int)=b.length:=by simpa using h
  refine Ev.start (p:=fun φ n=>Z140.l0 (mkR (run E (φ 0))) (φ 0) n a b 0=_) 1 ?_ (fun _ _ _ h=>h)
  refine(qeo 1 (L:=fun φ n k=>Z140.l0 (mkR (run E (φ 0))) (φ 0) n a b k) (len:=a.length) 0 (by omega) (fun j=>a.getD j 0=b.getD j 0) (fun b=>some ⟨o_Z140,(b,())⟩) (fun _ _ _ _=>rfl) (fun k h1 h2 hP _=>?_) (fun k r h1 h2 hP _ ih=>?_) (fun _=>?_)).to ?_
  ·simp only[Z140.l0_succ _ qag]
   have hb:k<b.length:=by omega
   rw[qah h2,qah hb] at hP
   exact qaD (decide_eq_true (by omega)) (qaf (qap h2) (qaf (qap hb) (qaD (by simpa using hP) qam)))
  ·simp only[Z140.l0_succ _ qag]
   have hb:k<b.length:=by omega
   rw[qah h2,qah hb] at hP
   refine qaD (decide_eq_true (by omega)) (qaf (qap h2) (qaf (qap hb) (qaJ (by simpa using hP) ?_)))
   rw[qae (by omega)];exact ih
  ·simp only[Z140.l0_succ _ qag]
   exact qaJ (decide_eq_false (by omega)) qam
  ·refine congrArg (fun b:Bool=>some (⟨o_Z140,(b,())⟩:Dv)) (qaS ⟨fun hh=>List.ext_getElem (by omega) fun j h1 h2=>?_,fun hh j _ _=>by rw[hh]⟩)
   have:=hh j (by omega) h1
   rwa [qah h1,qah h2] at this
noncomputable def qdm(c:List Sim)(s:Sim):Int:=qhK (fun x=>pb (x=s)) c
theorem qa8{c:List Sim}{s:Sim}:0≤qdm c s↔s∈c:=by
 unfold qdm
 rw[qb9]
 simp only[qaL]
 exact⟨fun⟨x,h,e⟩=>e ▸ h,fun h=>⟨s,h,rfl⟩⟩
theorem qcb(c:Cpx)(s:Sim)(hc:Sm yK c.1):Ret E n_Z163 [dC c,dL s] ⟨o_Z163,(qdm c.1 s,())⟩:=by
  have hc1:c.1.length≤1048576:=hc.1
  obtain⟨o,h1,h2,h3⟩:=qct 1 (L:=fun φ n k=>Z163.l0 (mkR (run E (φ 0))) (φ 0) n c s k) (len:=c.1.length) (fun k=>∃ h:k<c.1.length,pb (c.1[k]=s)=true) (fun o=>some ⟨o_Z163,(o2i o,())⟩) (fun _ _ _ _=>rfl) (fun k hk hP=>by
      obtain⟨_,hP⟩:=hP
      simp only[Z163.l0_succ _ qag]
      refine qaD (decide_eq_true (by omega)) (qaf (qap hk) (qaa (qhc _ _ (qb0 hc hk).1) (qaD hP qam)))) (fun k q hk hP ih=>by
      simp only[Z163.l0_succ _ qag]
      refine qaD (decide_eq_true (by omega)) (qaf (qap hk) (qaa (qhc _ _ (qb0 hc hk).1) (qaJ (Bool.eq_false_iff.2 fun h=>hP ⟨hk,h⟩) ?_)))
      rw[qae (by omega)];exact ih) (by
      simp only[Z163.l0_succ _ qag]
      exact qaJ (decide_eq_false (by omega)) qam)
  rw[qdc (p:=fun x=>pb (x=s)) h1 h2] at h3
  refine qal ?_
  simp only[run_Z163,Z163.ev]
  exact Ev.start (p:=fun φ n=>Z163.l0 (mkR (run E (φ 0))) (φ 0) n c s 0=_) 1 h3 (fun _ _ _ h=>h)
theorem qp5(n:Nat)(args:List Dv):run E (n+1) n_Z117 args=qnX yI (mkR (run E n)) args:=rfl
theorem qqw(s:Sim)(n:Int)(h0:0≤n)(h1:n≤1048576)(hs:s.length≤1048576):Ret E n_Z117 [dL s,dI n] ⟨o_Z117,(s,())⟩:=by
 refine qal ?_
 simp only[qp5]
 refine qai ((if_pos (show 0≤n∧((List.length s:Int)+n)*(64*(Ty.size (Ty.int IntKind.i64):Int))≤70368744177664 from⟨h0,?_⟩)).trans rfl)
 have:(Ty.size (Ty.int IntKind.i64))=1:=rfl
 rw[this];omega
theorem qn7(ll:List Sim)(hl:ll.length≤1048576)(hf:ll.flatten.length≤1048576):Ret E n_Z107 [dLL ll] ⟨o_Z107,(ll.flatten,())⟩:=by
 have hle:∀ k,(ll.take k).flatten.length≤ll.flatten.length:=fun k=>by
  have:=congrArg List.length (congrArg List.flatten (List.take_append_drop k ll))
  rw[List.flatten_append,List.length_append] at this;omega
 have hst:∀ k (h:k<ll.length),(ll.take (k+1)).flatten=(ll.take k).flatten++ll[k]:=fun k h=>by
  rw[List.take_succ_eq_append_getElem h,List.flatten_append];simp
 refine qal ?_
 simp only[run_Z107,Z107.ev]
 refine Ev.start (p:=fun φ n=>Z107.l0 (mkR (run E (φ 0))) (φ 0) n ll 0 ll (ll.length:Int) 0=_) 1 ?_ (fun _ _ _ h=>h)
 refine qaq 1 (L:=fun φ n k a=>Z107.l0 (mkR (run E (φ 0))) (φ 0) n ll a ll (ll.length:Int) k) (len:=ll.length) (fun k=>(((ll.take k).flatten.length:Nat):Int)) (fun _ _ _ _ _=>rfl) (fun k r hk ih=>?_) ?_
 ·simp only[Z107.l0_succ _ qag]
  have:=hle (k+1)
  have e:=hst k hk
  have e2:w64 (((ll.take k).flatten.length:Nat)+(List.length (ll[k]):Int))=(((ll.take (k+1)).flatten.length:Nat):Int):=by
   rw[qad (by omega) (by rw[e,List.length_append] at this;omega),e,List.length_append];omega
  refine qaD (decide_eq_true (by omega)) (qaf (qap hk) ?_)
  show Ev fun φ=>(bif decide (w64 (((ll.take k).flatten.length:Nat)+(List.length (ll[k]):Int))<0) then none else Z107.l0 (mkR (run E (φ 0))) (φ 0) (φ 1) ll (w64 (((ll.take k).flatten.length:Nat)+(List.length (ll[k]):Int))) ll (ll.length:Int) (w64 ((k:Int)+1)))=r
  rw[e2,qae (by omega)]
  exact qaJ (decide_eq_false (by omega)) ih
 ·simp only[Z107.l0_succ _ qag]
  refine qaJ (decide_eq_false (by omega)) (qaa (qqw [] _ (by omega) (by have:=hle ll.length;omega) (by simp)) ?_)
  refine Ev.start (p:=fun φ n=>Z107.l1 (mkR (run E (φ 0))) (φ 0) n ll (ll.length:Int) 0 []=_) 2 ?_ (fun _ _ _ h=>h)
  refine qaq 2 (L:=fun φ n k a=>Z107.l1 (mkR (run E (φ 0))) (φ 0) n ll (ll.length:Int) k a) (len:=ll.length) (fun k=>(ll.take k).flatten) (fun _ _ _ _ _=>rfl) (fun k r hk ih=>?_) ?_
  ·simp only[Z107.l1_succ _ qag]
   have:=hle (k+1)
   have e:=hst k hk
   rw[e] at ih this
   rw[List.length_append] at this
   refine qaD (decide_eq_true (by omega)) (qaf (qap hk) (qar (decide_eq_true (by show(_+List.length ll[k])*8≤_;omega)) ?_))
   rw[qae (by omega)]
   exact ih
  ·simp only[Z107.l1_succ _ qag]
   refine qaJ (decide_eq_false (by omega)) (qai ?_)
   rw[List.take_of_length_le (Nat.le_refl _)]
def qcw(s:Sim):List Sim:=if 1<s.length then(List.range s.length).map (s.eraseIdx ·) else []
theorem qdd{s f:Sim}:f∈qcw s↔1<s.length∧∃ i,i<s.length∧f=s.eraseIdx i:=by
 unfold qcw
 split
 ·rename_i h
  simp only[List.mem_map,List.mem_range,h,true_and]
  exact⟨fun⟨i,h1,h2⟩=>⟨i,h1,h2.symm⟩,fun⟨i,h1,h2⟩=>⟨i,h1,h2.symm⟩⟩
 ·rename_i h
  simp[h]
theorem qlo{s f:Sim}(h:f∈qcw s):f.length+1=s.length:=by
 obtain⟨h1,i,h2,rfl⟩:=qdd.1 h
 rw[List.length_eraseIdx,if_pos h2];omega
theorem qhj{s:Sim}:(qcw s).length≤s.length:=by
 unfold qcw;split<;>simp
theorem qfT(s:Sim)(hs:s.length≤1048576):Ret E n_Z49 [dL s] ⟨o_Z49,(qcw s,())⟩:=by
 refine qal ?_
 simp only[run_Z49,Z49.ev]
 refine Ev.start (p:=fun φ n=>Z49.l0 (mkR (run E (φ 0))) (φ 0) n s (s.length:Int) 0 []=_) 1 ?_ (fun _ _ _ h=>h)
 by_cases h1:1<s.length
 ·refine qaq 1 (L:=fun φ n k a=>Z49.l0 (mkR (run E (φ 0))) (φ 0) n s (s.length:Int) k a) (len:=s.length) (fun k=>(List.range k).map (s.eraseIdx ·)) (fun _ _ _ _ _=>rfl) (fun k r hk ih=>?_) ?_
  ·simp only[Z49.l0_succ _ qag]
   rw[List.range_succ,List.map_append] at ih
   rw[qae (by omega)]
   simp only[Int.toNat_natCast]
   refine qaD (decide_eq_true (by omega)) (qaD (decide_eq_true (by omega)) (qar (by simp;omega) (qar (by simp;omega) (qaa (qn7 _ (by simp) (by simp;omega)) (qar (by simp;omega) ?_)))))
   rw[show [s.take k,s.drop (k+1)].flatten=s.eraseIdx k by simp[List.eraseIdx_eq_take_drop_succ]]
   exact ih
  ·simp only[Z49.l0_succ _ qag]
   exact qaJ (decide_eq_false (by omega)) (qai (by rw[qcw,if_pos h1]))
 ·refine qaq 1 (L:=fun φ n k a=>Z49.l0 (mkR (run E (φ 0))) (φ 0) n s (s.length:Int) k a) (len:=s.length) (fun k=>[]) (fun _ _ _ _ _=>rfl) (fun k r hk ih=>?_) ?_
  ·simp only[Z49.l0_succ _ qag]
   rw[qae (by omega)]
   exact qaD (decide_eq_true (by omega)) (qaJ (decide_eq_false (by omega)) ih)
  ·simp only[Z49.l0_succ _ qag]
   exact qaJ (decide_eq_false (by omega)) (qai (by rw[qcw,if_neg h1]))
def Srt(c:List Sim):Prop:=∀ i j (h:j<c.length) (hij:i<j),qdq c[i] c[j]<0
theorem qrh{c:List Sim}(h:∀ k,1≤k→k<c.length→qdq (c.getD (k-1) []) (c.getD k [])<0):Srt c:=by
 intro i j
 induction j with
 | zero=>intro _ h;omega
 | succ j ih =>
  intro hj hij
  have:=h (j+1) (by omega) hj
  rw[Nat.add_sub_cancel,qah (by omega),qah hj] at this
  by_cases e:i=j
  ·subst e;exact this
  ·exact qfa (ih (by omega) (by omega)) this
theorem Srt.take{c:List Sim}(h:Srt c)(k:Nat):Srt (c.take k):=by
 intro i j hj hij
 rw[List.getElem_take,List.getElem_take]
 exact h i j (by rw[List.length_take] at hj;omega) hij
def bs(c:List Sim)(s:Sim):Nat:=c.findIdx (fun x=>!decide (qdq x s<0))
theorem qsL{c:List Sim}{s:Sim}:bs c s≤c.length:=List.findIdx_le_length
theorem qkL{c:List Sim}{s:Sim}(hc:Srt c){t:Nat}(h:t<c.length):t<bs c s↔qdq c[t] s<0:=by
 constructor
 ·intro ht
  have:=List.not_of_lt_findIdx ht
  simpa using this
 ·intro ht
  refine Classical.byContradiction fun hn=>?_
  have hb:bs c s<c.length:=by omega
  have h1:qdq c[bs c s] s<0:=by
   by_cases e:bs c s=t
   ·simp only[e];exact ht
   ·exact qfa (hc _ _ h (by omega)) ht
  have:=List.findIdx_getElem (w:=hb)
  simp only[Bool.not_eq_true',decide_eq_false_iff_not] at this
  exact this h1
theorem qpD{c:List Sim}{s:Sim}(hc:Srt c):qdm c s=if h:bs c s<c.length∧c.getD (bs c s) []=s then(bs c s:Int) else -1:=by
 have e:c.findIdx? (fun x=>pb (x=s))=if bs c s<c.length∧c.getD (bs c s) []=s then some (bs c s) else none:=by
  split
  ·rename_i h
   obtain⟨h1,h2⟩:=h
   rw[List.findIdx?_eq_some_iff_getElem]
   rw[qah h1] at h2
   refine⟨h1,qaI h2,fun j hj=>?_⟩
   rw[qaL]
   intro he
   have:=(qkL (s:=s) hc (show j<c.length by omega)).1 hj
   rw[he,qcn.2 rfl] at this
   omega
  ·rename_i h
   rw[List.findIdx?_eq_none_iff]
   intro x hx
   rw[qbc]
   rintro rfl
   obtain⟨j,hj,rfl⟩:=List.mem_iff_getElem.1 hx
   have h0:¬ j<bs c c[j]:=fun hlt=>by
    have:=(qkL hc hj).1 hlt
    rw[qcn.2 rfl] at this;omega
   by_cases hjb:bs c c[j]=j
   ·exact h ⟨by omega,by rw[hjb,qah hj]⟩
   ·have hb:bs c c[j]<c.length:=by omega
    have:=(qkL (s:=c[j]) hc hb).2 (hc _ _ hj (by omega))
    omega
 unfold qdm qhK
 rw[e]
 split<;>rfl
theorem qhu(c:List Sim)(s:Sim)(hc:Sm yK c)(hs:Srt c):Ret E n_Z102 [dLL c,dL s,⟨.fn n_Z38 .nil,()⟩] ⟨o_Z102,((bs c s:Int),pb (bs c s<c.length∧c.getD (bs c s) []=s),())⟩:=by
 have hc1:c.length≤1048576:=hc.1
 refine qal ?_
 simp only[run_Z102,Z103.ev]
 refine Ev.start (p:=fun φ n=>Z103.l0 (mkR (run E (φ 0))) (φ 0) n c s (c.length:Int) 0 (c.length:Int)=_) 1 ?_ (fun _ _ _ h=>h)
 refine qfn 1 (σ:=Nat×Nat) (L:=fun φ n st=>Z103.l0 (mkR (run E (φ 0))) (φ 0) n c s (c.length:Int) (st.1:Int) (st.2:Int)) (fun _ _ _ _=>rfl) (fun st=>st.1≤bs c s∧bs c s≤st.2∧st.2≤c.length) (fun _=>_) (fun st=>st.2-st.1) (fun st hi ih=>?_) (0,c.length) ⟨Nat.zero_le _,qsL,Nat.le_refl _⟩
 obtain⟨i,j⟩:=st
 obtain⟨h1,h2,h3⟩:=hi
 simp only at h1 h2 h3 ih
 simp only[Z103.l0_succ _ qag]
 rw[qtq (by omega)]
 refine qeu (fun hij=>?_) fun hij=>?_
 ·have hh:(i+j) / 2<c.length:=by omega
  refine qar (by decide) (qaf (qap hh) (qaa (qa5 _ _ (qb0 hc hh)) (qeu (fun hlt=>?_) fun hlt=>?_)))
  ·rw[qae (by omega)]
   have:=(qkL hs hh).2 hlt
   exact ih ((i+j) / 2+1,j) ⟨this,h2,h3⟩ (by simp only;omega)
  ·have:¬ (i+j) / 2<bs c s:=fun h=>hlt ((qkL hs hh).1 h)
   exact ih (i,(i+j) / 2) ⟨h1,by simp only;omega,by simp only;omega⟩ (by simp only;omega)
 ·have e:i=bs c s:=by omega
  subst e
  refine qeu (fun hl=>?_) fun hl=>qai ?_
  ·have hh:bs c s<c.length:=by omega
   refine qaf (qap hh) (qaa (qa5 _ _ (qb0 hc hh)) (qai ?_))
   have:(qdq c[bs c s] s==0)=pb (bs c s<c.length∧c.getD (bs c s) []=s):=qja (by
    rw[qah hh,beq_iff_eq,qcn];exact⟨fun h=>⟨hh,h⟩,fun h=>h.2⟩)
   rw[this]
  ·rw[qaw fun h=>hl (by omega)]
theorem qim(c:List Sim)(s:Sim)(hc:Sm yK c)(hs:Srt c):Ret E n_Z60 [dLL c,dL s] ⟨o_Z60,(qdm c s,())⟩:=by
 refine qal ?_
 simp only[run_Z60,Z60.ev]
 refine qaa (qhu c s hc hs) (qcj (fun h=>qai ?_) fun h=>qai ?_)
 ·rw[qpD hs,dif_neg (qbc.1 (by simpa using h))]
 ·rw[qpD hs,dif_pos (qaL.1 (by simpa using h))]
end VeT
open Go Go.Proofs Ve
namespace VeT
def VC(c:List Sim):Prop:=c.length≤48∧(∀ k,k<c.length→Vx (c.getD k []))∧(∀ k,1≤k→k<c.length→qdq (c.getD (k-1) []) (c.getD k [])<0)∧∀ k,k<c.length→∀ f∈qcw (c.getD k []),f∈c
theorem VC.srt{c:List Sim}(h:VC c):Srt c:=qrh h.2.2.1
def qlg(c:List Sim)(k:Nat):Prop:=(Vx (c.getD k [])∧(1≤k→qdq (c.getD (k-1) []) (c.getD k [])<0))∧∀ f∈qcw (c.getD k []),f∈c.take k
theorem qr3{c:List Sim}:((∀ k,0≤k→k<c.length→qlg c k)∧c.length≤48)↔VC c:=by
 constructor
 ·rintro⟨h,hl⟩
  exact⟨hl,fun k hk=>(h k (by omega) hk).1.1,fun k h1 hk=>(h k (by omega) hk).1.2 h1,fun k hk f hf=>List.mem_of_mem_take ((h k (by omega) hk).2 f hf)⟩
 ·intro h
  have hs:=h.srt
  obtain⟨hl,h1,h2,h3⟩:=h
  refine⟨fun k _ hk=>⟨⟨h1 k hk,fun hk1=>h2 k hk1 hk⟩,fun f hf=>?_⟩,hl⟩
  have hm:=h3 k hk f hf
  have hlen:=qlo hf
  rw[qah hk] at hlen
  obtain⟨i,hi,rfl⟩:=List.mem_iff_getElem.1 hm
  have hlt:qdq c[i] c[k]<0:=qiI.2 (.inl (by omega))
  have hik:i<k:=Classical.byContradiction fun hn=>by
   by_cases e:i=k
   ·subst e;omega
   ·have:=hs k i hi (by omega)
    rw[qkt] at this;omega
  exact List.mem_iff_getElem.2 ⟨i,by rw[List.length_take];omega,by rw[List.getElem_take]⟩
theorem qr1{t:Ty}{s:List t.T}(h:Sm (.sl t) s)(k:Nat):Sm (.sl t) (s.take k):=⟨by have h1:s.length≤1048576:=h.1;show(s.take k).length≤_;rw[List.length_take];omega,fun x hx=>h.2 x (List.mem_of_mem_take hx)⟩
theorem qgm(c:List Sim)(f:Sim)(k:Nat)(hk:k≤c.length)(hc:Sm yK c)(hs:Srt (c.take k)) :
  Ret E n_Z20 [dL f,dC (c,()),⟨.ptr (.cons yI .nil),((k:Int),())⟩] ⟨o_Z20,(pb (¬ f∈c.take k),())⟩:=by
 refine qal ?_
 simp only[run_Z20,Z20.ev]
 simp only[Int.toNat_natCast]
 refine qar (by simp;omega) (qaa (qim _ f (qr1 hc k) hs) (qai ?_))
 simp only[qfx,qaS (show qdm (c.take k) f<0↔¬ f∈c.take k by rw[← qa8];omega)]
theorem qel(c:List Sim)(hc:Sm yK c):Ret E n_Z19 [dLL c] ⟨o_Z19,(pb (VC c),())⟩:=by
  have hc1:c.length≤1048576:=hc.1
  refine qal ?_
  simp only[run_Z19,Z19.ev]
  refine Ev.start (p:=fun φ n=>Z19.l0 (mkR (run E (φ 0))) (φ 0) n c (c.length:Int) 0 c=_) 1 ?_ (fun _ _ _ h=>h)
  have key:∀(n:Nat) (k:Nat) (hk:k<c.length) (hpre:∀ j,0≤j→j<k→qlg c j),Srt (c.take k):=fun n k hk hpre=>qrh fun j h1 h2=>by
    rw[List.length_take] at h2
    have:=(hpre j (by omega) (by omega)).1.2 h1
    rw[qah (by omega),qah (by omega)] at this
    rw[qah (by rw[List.length_take];omega),qah (by rw[List.length_take];omega),List.getElem_take,List.getElem_take]
    exact this
  have hcon:∀(k:Nat) (hk:k<c.length) (hpre:∀ j,0≤j→j<k→qlg c j),Ret E n_Z108 [dLL (qcw c[k]),⟨.fn n_Z20 (.cons (.ptr yC) (.cons (.ptr (.cons yI .nil)) .nil)),((c,()),((k:Int),()),())⟩] ⟨o_Z108,(pb (∃ x∈qcw c[k],pb (¬ x∈c.take k)=true),())⟩:=fun k hk hpre =>
    qa9 (qcw c[k]) ((c,()),((k:Int),()),()) _ (Nat.le_trans qhj (qb0 hc hk).1) fun x hx=>qgm c x k (by omega) hc (key 0 k hk hpre)
  refine(qeo 1 (L:=fun φ n k=>Z19.l0 (mkR (run E (φ 0))) (φ 0) n c (c.length:Int) k c) (len:=c.length) 0 (by omega) (qlg c) (fun b=>some ⟨o_Z19,(b&&decide ((c.length:Int)≤48),())⟩) (fun _ _ _ _=>rfl) (fun k h1 h2 hP hpre=>?_) (fun k r h1 h2 hP hpre ih=>?_) (fun _=>?_)).to ?_
  · simp only[Z19.l0_succ _ qag]
    refine qaD (decide_eq_true (by omega)) (qaf (qap h2) (qaa (qek _ (qb0 hc h2)) ?_))
    refine qcj (fun hv=>?_) fun hv=>?_
    · simp only[Z19.j1_eq _ qag,cond_true];(first | exact qam | exact Ev.of fun _=>trivial)
    · have hv:Vx c[k]:=qaL.1 (by simpa using hv)
      have last:(1≤k→qdq (c.getD (k-1) []) (c.getD k [])<0)→Ev fun φ=>Z19.j1 (mkR (run E (φ 0))) (φ 0) (φ 1) c[k] c (c.length:Int) (k:Int) false c (k:Int)=some ⟨o_Z19,(false,())⟩:=fun hcm=>by
        simp only[Z19.j1_eq _ qag,cond_false]
        refine qaa (qfT _ (qb0 hc h2).1) (qaa (hcon k h2 hpre) (qaD ?_ qam))
        refine qaI (Classical.byContradiction fun hn=>hP ⟨⟨by rw[qah h2];exact hv,hcm⟩,fun f hf=>Classical.byContradiction fun hnf=>hn ⟨f,by rw[qah h2] at hf;exact hf,qaI hnf⟩⟩)
      refine qeu (fun hk=>?_) fun hk=>?_
      · rw[qad (by omega) (by omega),show((k:Int)-1)=((k-1:Nat):Int) by omega]
        have hk1:k-1<c.length:=by omega
        refine qaf (qap hk1) (qaa (qa5 _ _ (qb0 hc hk1)) ?_)
        by_cases hcm:qdq c[k-1] c[k]<0
        · simp only[show decide (qdq c[k-1] c[k]≥0)=false from decide_eq_false (by omega)]
          exact last fun _=>by rw[qah hk1,qah h2];exact hcm
        · simp only[show decide (qdq c[k-1] c[k]≥0)=true from decide_eq_true (by omega),Z19.j1_eq _ qag,cond_true]
          (first | exact qam | exact Ev.of fun _=>trivial)
      · exact last fun h=>absurd h (by omega)
  · simp only[Z19.l0_succ _ qag]
    have hP':=hP
    obtain⟨⟨hv,hcm⟩,hfc⟩:=hP'
    rw[qah h2] at hv hfc
    refine qaD (decide_eq_true (by omega)) (qaf (qap h2) (qaa (qek _ (qb0 hc h2)) (qaJ (by rw[qaI hv];rfl) ?_)))
    have last:Ev fun φ=>Z19.j1 (mkR (run E (φ 0))) (φ 0) (φ 1) c[k] c (c.length:Int) (k:Int) false c (k:Int)=r:=by
      simp only[Z19.j1_eq _ qag,cond_false]
      refine qaa (qfT _ (qb0 hc h2).1) (qaa (hcon k h2 hpre) (qaJ ?_ ?_))
      · exact qaw fun⟨x,hx,hn⟩=>qaL.1 hn (hfc x hx)
      · rw[qae (by omega)];exact ih
    refine qeu (fun hk=>?_) fun hk=>last
    rw[qad (by omega) (by omega),show((k:Int)-1)=((k-1:Nat):Int) by omega]
    have hk1:k-1<c.length:=by omega
    have hcm:=hcm (by omega)
    rw[qah hk1,qah h2] at hcm
    refine qaf (qap hk1) (qaa (qa5 _ _ (qb0 hc hk1)) ?_)
    simp only[show decide (qdq c[k-1] c[k]≥0)=false from decide_eq_false (by omega)]
    exact last
  · simp only[Z19.l0_succ _ qag]
    exact qaJ (decide_eq_false (by omega)) (qai (by rw[Bool.true_and]))
  · have:(pb (∀ j,0≤j→j<c.length→qlg c j)&&decide ((c.length:Int)≤48))=pb (VC c):=qja (by
      rw[Bool.and_eq_true,qaL,decide_eq_true_iff,← qr3]
      exact⟨fun h=>⟨h.1,by omega⟩,fun h=>⟨h.1,by omega⟩⟩)
    rw[this]
def qrj(c:List Sim)(k:Nat):Prop:=(Vx (c.getD k [])∧(1≤k→qdq (c.getD (k-1) []) (c.getD k [])<0))∧∀ f∈qcw (c.getD k []),f∈c
theorem qi5(c:Cpx)(hc:Sm yK c.1):Ret E n_Z165 [dC c] ⟨o_Z165,(pb (VC c.1),())⟩:=by
  have hc1:c.1.length≤1048576:=hc.1
  refine qal ?_
  simp only[run_Z165,Z165.ev]
  refine qeu (fun h=>qai ?_) fun h48=>?_
  · rw[qaw fun hv=>by have:=hv.1;omega]
  refine Ev.start (p:=fun φ n=>Z165.l0 (mkR (run E (φ 0))) (φ 0) n c 0=_) 1 ?_ (fun _ _ _ h=>h)
  -- the inner loop
  have inner:∀(k:Nat) (h2:k<c.1.length) (r:Option Dv),((∀ f∈qcw c.1[k],f∈c.1)→Ev fun φ=>Z165.l0 (mkR (run E (φ 0))) (φ 0) (φ 1) c ((k+1:Nat):Int)=r)→(¬ (∀ f∈qcw c.1[k],f∈c.1)→r=some ⟨o_Z165,(false,())⟩)→Ev fun φ=>Z165.l2 (mkR (run E (φ 0))) (φ 0) (φ 1) (φ 0) c (k:Int) c.1[k] 0=r:=fun k h2 r hgo hstop=>by
    have hks:(c.1[k]).length≤1048576:=(qb0 hc h2).1
    refine Ev.start (p:=fun φ n=>Z165.l2 (mkR (run E (φ 0))) (φ 0) (φ 1) n c (k:Int) c.1[k] 0=_) 2 ?_ (fun _ _ _ h=>h)
    by_cases hlen:1<(c.1[k]).length
    · obtain⟨t,f⟩:=qks 2 (L:=fun φ n i=>Z165.l2 (mkR (run E (φ 0))) (φ 0) (φ 1) n c (k:Int) c.1[k] i) (len:=(c.1[k]).length) 0 (by omega) (fun i=>(c.1[k]).eraseIdx i∈c.1) (rt:=r) (rf:=some ⟨o_Z165,(false,())⟩) (fun _ _ _ _=>rfl) (fun i _ hi hP _=>by
        simp only[Z165.l2_succ _ qag]
        refine qaD (decide_eq_true (by omega)) ?_
        simp only[show decide (((c.1[k]).length:Int)>1)=true from decide_eq_true (by omega),Z165.j3_eq _ qag,cond_true]
        refine qaa (qdZ _ i hi hks) (qaa (qcb c _ hc) (qaD (decide_eq_true ?_) qam))
        have hq:=mt (qa8 (c:=c.1) (s:=(c.1[k]).eraseIdx i)).1 hP;simp only;exact Int.not_le.1 hq) (fun i q _ hi hP _ ih=>by
        simp only[Z165.l2_succ _ qag]
        refine qaD (decide_eq_true (by omega)) ?_
        simp only[show decide (((c.1[k]).length:Int)>1)=true from decide_eq_true (by omega),Z165.j3_eq _ qag,cond_true]
        refine qaa (qdZ _ i hi hks) (qaa (qcb c _ hc) (qaJ (decide_eq_false ?_) ?_))
        · have hq:=(qa8 (c:=c.1) (s:=(c.1[k]).eraseIdx i)).2 hP;simp only;exact Int.not_lt.2 hq
        · rw[qae (by omega)];exact ih) (fun hall=>by
        simp only[Z165.l2_succ _ qag]
        refine qaJ (decide_eq_false (by omega)) ?_
        simp only[Z165.j3_eq _ qag,cond_false]
        rw[qae (by omega)]
        exact hgo fun f hf=>by
          obtain⟨_,i,hi,rfl⟩:=qdd.1 hf
          exact hall i (by omega) hi)
      by_cases hall:∀ i,0≤i→i<(c.1[k]).length→(c.1[k]).eraseIdx i∈c.1
      · exact t hall
      · rw[hstop fun hf=>hall fun i _ hi=>hf _ (qdd.2 ⟨hlen,i,hi,rfl⟩)]
        exact f hall
    · refine Ev.round 2 (L:=fun φ n=>Z165.l2 (mkR (run E (φ 0))) (φ 0) (φ 1) n c (k:Int) c.1[k] 0) ?_ (fun _ _ _=>rfl)
      have hgo:=hgo fun f hf=>absurd (qdd.1 hf).1 hlen
      have hj:Ev fun φ=>Z165.j3 (mkR (run E (φ 0))) (φ 0) (φ 1) (φ 2) c (k:Int) c.1[k] 0 false=r:=by
        simp only[Z165.j3_eq _ qag,cond_false]
        rw[qae (by omega)];exact hgo
      simp only[Z165.l2_succ _ qag]
      refine qeu (fun _=>?_) fun _=>hj
      simp only[show decide (((c.1[k]).length:Int)>1)=false from decide_eq_false (by omega)]
      exact hj
  refine(qeo 1 (L:=fun φ n k=>Z165.l0 (mkR (run E (φ 0))) (φ 0) n c k) (len:=c.1.length) 0 (by omega) (qrj c.1) (fun b=>some ⟨o_Z165,(b,())⟩) (fun _ _ _ _=>rfl) (fun k h1 h2 hP hpre=>?_) (fun k r h1 h2 hP hpre ih=>?_) (fun _=>?_)).to ?_
  · simp only[Z165.l0_succ _ qag]
    refine qaD (decide_eq_true (by omega)) (qaf (qap h2) (qaa (qfu _ (qb0 hc h2)) ?_))
    refine qcj (fun hv=>?_) fun hv=>?_
    · simp only[Z165.j1_eq _ qag,cond_true];(first | exact qam | exact Ev.of fun _=>trivial)
    · have hv:Vx c.1[k]:=qaL.1 (by simpa using hv)
      have last:(1≤k→qdq (c.1.getD (k-1) []) (c.1.getD k [])<0)→Ev fun φ=>Z165.j1 (mkR (run E (φ 0))) (φ 0) (φ 1) c (k:Int) c.1[k] false=some ⟨o_Z165,(false,())⟩:=fun hcm=>by
        simp only[Z165.j1_eq _ qag,cond_false]
        refine inner k h2 _ (fun hf=>absurd ⟨⟨by rw[qah h2];exact hv,hcm⟩,by rw[qah h2];exact hf⟩ hP) fun _=>rfl
      refine qeu (fun hk=>?_) fun hk=>?_
      · rw[qad (by omega) (by omega),show((k:Int)-1)=((k-1:Nat):Int) by omega]
        have hk1:k-1<c.1.length:=by omega
        refine qaf (qap hk1) (qaa (qcX _ _ (qb0 hc hk1)) ?_)
        by_cases hcm:qdq c.1[k-1] c.1[k]<0
        · simp only[qaI hcm]
          exact last fun _=>by rw[qah hk1,qah h2];exact hcm
        · simp only[qaw hcm,Z165.j1_eq _ qag,cond_true,Bool.not_false]
          (first | exact qam | exact Ev.of fun _=>trivial)
      · exact last fun h=>absurd h (by omega)
  · simp only[Z165.l0_succ _ qag]
    obtain⟨⟨hv,hcm⟩,hfc⟩:=hP
    rw[qah h2] at hv hfc
    refine qaD (decide_eq_true (by omega)) (qaf (qap h2) (qaa (qfu _ (qb0 hc h2)) (qaJ (by rw[qaI hv];rfl) ?_)))
    have last:Ev fun φ=>Z165.j1 (mkR (run E (φ 0))) (φ 0) (φ 1) c (k:Int) c.1[k] false=r:=by
      simp only[Z165.j1_eq _ qag,cond_false]
      exact inner k h2 _ (fun _=>ih) fun hn=>absurd hfc hn
    refine qeu (fun hk=>?_) fun hk=>last
    rw[qad (by omega) (by omega),show((k:Int)-1)=((k-1:Nat):Int) by omega]
    have hk1:k-1<c.1.length:=by omega
    have hcm:=hcm (by omega)
    rw[qah hk1,qah h2] at hcm
    refine qaf (qap hk1) (qaa (qcX _ _ (qb0 hc hk1)) ?_)
    simp only[qaI hcm,Bool.not_true]
    exact last
  · simp only[Z165.l0_succ _ qag]
    exact qaJ (decide_eq_false (by omega)) qam
  · have:pb (∀ j,0≤j→j<c.1.length→qrj c.1 j)=pb (VC c.1):=qaS
      ⟨fun h=>⟨by omega,fun k hk=>(h k (by omega) hk).1.1,fun k h1 hk=>(h k (by omega) hk).1.2 h1,fun k hk=>(h k (by omega) hk).2⟩,
       fun h k _ hk=>⟨⟨h.2.1 k hk,fun h1=>h.2.2.1 k h1 hk⟩,h.2.2.2 k hk⟩⟩
    rw[this]
end VeT
open Go Go.Proofs Ve
namespace VeT
def Pr(p:Int):Prop:=2≤p∧p≤251∧∀ k:Nat,2≤k→(k:Int)*k≤p→p%k≠0
theorem qdG(p:Int):Ret E n_Z22 [dI p] ⟨o_Z22,(pb (Pr p),())⟩:=by
  refine qal ?_
  simp only[run_Z22,Z22.ev]
  refine qaa (qcH _ _ _) (qcj (fun h=>qai ?_) fun h=>?_)
  · have h:¬ (2≤p∧p≤251):=qbc.1 (by simpa using h)
    rw[qaw fun hp=>h ⟨hp.1,hp.2.1⟩]
  have hr:2≤p∧p≤251:=qaL.1 (by simpa using h)
  refine Ev.start (p:=fun φ n=>Z22.l0 (mkR (run E (φ 0))) (φ 0) n p 2=_) 1 ?_ (fun _ _ _ h=>h)
  refine qfn 1 (σ:=Nat) (L:=fun φ n k=>Z22.l0 (mkR (run E (φ 0))) (φ 0) n p (k:Int)) (fun _ _ _ _=>rfl) (fun k=>2≤k∧k≤17∧∀ j:Nat,2≤j→j<k→(j:Int)*j≤p→p%j≠0) (fun _=>_) (fun k=>17-k) (fun k ⟨h1,h2,h3⟩ ih=>?_) 2 ⟨by omega,by omega,fun j _ _=>by omega⟩
  simp only[Z22.l0_succ _ qag]
  have hkk:0≤(k:Int)*k∧(k:Int)*k≤289:=⟨Int.mul_nonneg (by omega) (by omega),by have:=Nat.mul_le_mul h2 h2;omega⟩
  have e:w64 ((k:Int)*k)=(k:Int)*k:=qad (by omega) (by omega)
  simp only[e]
  refine qeu (fun hle=>?_) fun hle=>qai ?_
  · have hk16:k<16:=Classical.byContradiction fun hn=>by
      have:=Nat.mul_le_mul (show 16≤k by omega) (show 16≤k by omega);omega
    refine qar (by simp;omega) ?_
    rw[Int.tmod_eq_emod_of_nonneg (by omega)]
    refine qcj (fun h0=>qai ?_) fun h0=>?_
    · rw[qaw fun hp=>hp.2.2 k h1 hle (by simpa using h0)]
    · rw[qae (by omega)]
      refine ih (k+1) ⟨by omega,by omega,fun j hj1 hj2 hj3=>?_⟩ (by show 17-(k+1)<17-k;omega)
      by_cases hjk:j=k
      · subst hjk;simpa using h0
      · exact h3 j hj1 (by omega) hj3
  · rw[qaI]
    refine⟨hr.1,hr.2,fun j hj1 hj2=>?_⟩
    by_cases hjk:j<k
    · exact h3 j hj1 hjk hj2
    · exfalso
      have:=Nat.mul_le_mul (show k≤j by omega) (show k≤j by omega);omega
theorem qmh(p:Int):Ret E n_Z145 [dI p] ⟨o_Z145,(pb (Pr p),())⟩:=by
  refine qal ?_
  simp only[run_Z145,Z145.ev]
  refine qaa (qck _ _ _) (qcj (fun h=>qai ?_) fun h=>?_)
  · have h:¬ (2≤p∧p≤251):=qbc.1 (by simpa using h)
    rw[qaw fun hp=>h ⟨hp.1,hp.2.1⟩]
  have hr:2≤p∧p≤251:=qaL.1 (by simpa using h)
  refine Ev.start (p:=fun φ n=>Z145.l0 (mkR (run E (φ 0))) (φ 0) n p 2=_) 1 ?_ (fun _ _ _ h=>h)
  refine qfn 1 (σ:=Nat) (L:=fun φ n k=>Z145.l0 (mkR (run E (φ 0))) (φ 0) n p (k:Int)) (fun _ _ _ _=>rfl) (fun k=>2≤k∧k≤17∧∀ j:Nat,2≤j→j<k→(j:Int)*j≤p→p%j≠0) (fun _=>_) (fun k=>17-k) (fun k ⟨h1,h2,h3⟩ ih=>?_) 2 ⟨by omega,by omega,fun j _ _=>by omega⟩
  simp only[Z145.l0_succ _ qag]
  have hkk:0≤(k:Int)*k∧(k:Int)*k≤289:=⟨Int.mul_nonneg (by omega) (by omega),by have:=Nat.mul_le_mul h2 h2;omega⟩
  have e:w64 ((k:Int)*k)=(k:Int)*k:=qad (by omega) (by omega)
  simp only[e]
  refine qeu (fun hle=>?_) fun hle=>qai ?_
  · have hk16:k<16:=Classical.byContradiction fun hn=>by
      have:=Nat.mul_le_mul (show 16≤k by omega) (show 16≤k by omega);omega
    refine qar (by simp;omega) ?_
    rw[Int.tmod_eq_emod_of_nonneg (by omega)]
    refine qcj (fun h0=>qai ?_) fun h0=>?_
    · rw[qaw fun hp=>hp.2.2 k h1 hle (by simpa using h0)]
    · rw[qae (by omega)]
      refine ih (k+1) ⟨by omega,by omega,fun j hj1 hj2 hj3=>?_⟩ (by show 17-(k+1)<17-k;omega)
      by_cases hjk:j=k
      · subst hjk;simpa using h0
      · exact h3 j hj1 (by omega) hj3
  · rw[qaI]
    refine⟨hr.1,hr.2,fun j hj1 hj2=>?_⟩
    by_cases hjk:j<k
    · exact h3 j hj1 hjk hj2
    · exfalso
      have:=Nat.mul_le_mul (show k≤j by omega) (show k≤j by omega);omega
theorem qbS(p:Int):Ret E n_Z134 [dI p] ⟨o_Z134,(pb (Pr p),())⟩:=by
 refine qal ?_
 simp only[run_Z134,Z134.ev]
 exact qaa (qmh p) qam
def qaE(v:Sim)(p:Int):Prop:=∀ x∈v,0≤x∧x≤p-1
theorem qj7(a p:Int)(hp:0≤p∧p≤1048576):Ret E n_Z65 [dI a,dI p] ⟨o_Z65,(pb (0≤a∧a≤p-1),())⟩:=by
 refine qal ?_
 simp only[run_Z65,Z65.ev]
 rw[qad (by omega) (by omega)]
 exact qaa (qcH _ _ _) qam
theorem qgI(a p:Int)(hp:0≤p∧p≤1048576):Ret E n_Z30 [dI a,⟨.ptr (.cons yI .nil),(p,())⟩] ⟨o_Z30,(!pb (0≤a∧a≤p-1),())⟩:=by
 refine qal ?_
 simp only[run_Z30,Z30.ev]
 exact qaa (qj7 _ _ hp) qam
theorem qkw{α:Type}{s:List α}{P:α→Prop}:(!pb (∃ x∈s,(!pb (P x))=true))=pb (∀ x∈s,P x):=qja (by
 simp only[Bool.not_eq_true',qbc]
 exact⟨fun h x hx=>Classical.byContradiction fun hn=>h ⟨x,hx,hn⟩,fun h ⟨x,hx,hn⟩=>hn (h x hx)⟩)
theorem qey(v:Sim)(p:Int)(hv:v.length≤1048576)(hp:0≤p∧p≤1048576):Ret E n_Z29 [dL v,dI p] ⟨o_Z29,(pb (qaE v p),())⟩:=by
 refine qal ?_
 simp only[run_Z29,Z29.ev]
 refine qaa (qbk v ((p,()),()) _ hv fun x _=>qgI x p hp) (qai ?_)
 simp only[qkw];rfl
theorem qf5(v:Sim)(n p:Int)(hv:v.length≤1048576)(hp:0≤p∧p≤1048576):Ret E n_Z146 [dL v,dI n,dI p] ⟨o_Z146,(pb (qaE v p∧(v.length:Int)=n),())⟩:=by
  have e:w64 (p-1)=p-1:=qad (by omega) (by omega)
  refine qal ?_
  simp only[run_Z146,Z146.ev]
  refine Ev.start (p:=fun φ n'=>Z146.l0 (mkR (run E (φ 0))) (φ 0) n' v n p 0=_) 1 ?_ (fun _ _ _ h=>h)
  refine(qeo 1 (L:=fun φ n' k=>Z146.l0 (mkR (run E (φ 0))) (φ 0) n' v n p k) (len:=v.length) 0 (by omega) (fun j=>0≤v.getD j 0∧v.getD j 0≤p-1) (fun b=>some ⟨o_Z146,(b&&((v.length:Int)==n),())⟩) (fun _ _ _ _=>rfl) (fun k h1 h2 hP _=>?_) (fun k r h1 h2 hP _ ih=>?_) (fun _=>?_)).to ?_
  · simp only[Z146.l0_succ _ qag,e]
    rw[qah h2] at hP
    exact qaD (decide_eq_true (by omega)) (qaf (qap h2) (qaa (qck _ _ _) (qaD (by rw[qaw hP];rfl) qam)))
  · simp only[Z146.l0_succ _ qag,e]
    rw[qah h2] at hP
    refine qaD (decide_eq_true (by omega)) (qaf (qap h2) (qaa (qck _ _ _) (qaJ (by rw[qaI hP];rfl) ?_)))
    rw[qae (by omega)];exact ih
  · simp only[Z146.l0_succ _ qag]
    exact qaJ (decide_eq_false (by omega)) (qai (by rw[Bool.true_and]))
  · have:(pb (∀ j,0≤j→j<v.length→0≤v.getD j 0∧v.getD j 0≤p-1)&&((v.length:Int)==n))=pb (qaE v p∧(v.length:Int)=n):=qja (by
      rw[Bool.and_eq_true,qaL,beq_iff_eq]
      refine and_congr_left' ⟨fun h x hx=>?_,fun h j _ hj=>?_⟩
      · obtain⟨j,hj,rfl⟩:=List.mem_iff_getElem.1 hx
        have:=h j (by omega) hj
        rwa [qah hj] at this
      · rw[qah hj];exact h _ (List.getElem_mem hj))
    rw[this]
theorem qjN(n:Int):Ret E n_Z67 [dI n] ⟨o_Z67,(pb (0≤n∧n≤32),())⟩:=by
 refine qal ?_
 simp only[run_Z67,Z67.ev]
 exact qaa (qcH _ _ _) qam
theorem qex(s:Sim):Ret E n_Z85 [dL s] ⟨o_Z85,((s.length:Int),())⟩:=by
 refine qal ?_
 simp only[run_Z85,Z85.ev]
 (first | exact qam | exact Ev.of fun _=>trivial)
theorem ql7(s:List Sim):Ret E n_Z84 [dLL s] ⟨o_Z84,((s.length:Int),())⟩:=by
 refine qal ?_
 simp only[run_Z84,Z84.ev]
 (first | exact qam | exact Ev.of fun _=>trivial)
def VM(m:Mat):Prop:=Pr m.1∧(0≤m.2.1∧m.2.1≤32)∧(0≤m.2.2.1∧m.2.2.1≤32)∧(m.2.2.2.1.length:Int)=m.2.1*m.2.2.1∧qaE m.2.2.2.1 m.1
theorem qkW{a b:Int}(ha:0≤a∧a≤32)(hb:0≤b∧b≤32):0≤a*b∧a*b≤1024:=by
 obtain⟨x,rfl⟩:=Int.eq_ofNat_of_zero_le ha.1
 obtain⟨y,rfl⟩:=Int.eq_ofNat_of_zero_le hb.1
 have:=Nat.mul_le_mul (show x≤32 by omega) (show y≤32 by omega)
 have e:(x:Int)*y=((x*y:Nat):Int):=by simp
 show 0≤(x:Int)*y∧(x:Int)*y≤1024
 rw[e];omega
theorem qif(m:Mat)(hm:Sm (.st cM) m):Ret E n_Z21 [dI m.1,dI m.2.1,dI m.2.2.1,dL m.2.2.2.1] ⟨o_Z21,(pb (VM m),())⟩:=by
 have hl:m.2.2.2.1.length≤1048576:=hm.2.2.2.1.1
 refine qal ?_
 simp only[run_Z21,Z21.ev]
 refine qaa (qdG _) (qcj (fun h1=>qaa (qjN _) (qcj (fun h2=>qaa (qjN _) (qcj (fun h3=>qaa (qex _) (qcj (fun h4=>?_) fun h4=>qai ?_)) fun h3=>qai ?_)) fun h2=>qai ?_)) fun h1=>qai ?_)
 ·have h1:=qaL.1 h1;have h2:=qaL.1 h2;have h3:=qaL.1 h3
  have:=qkW h2 h3
  rw[qad (by omega) (by omega)] at h4
  refine qaa (qey _ _ hl ⟨by have:=h1.1;omega,by have:=h1.2.1;omega⟩) (qai ?_)
  exact congrArg (fun b:Bool=>some (⟨o_Z21,(b,())⟩:Dv)) (qaS ⟨fun h=>⟨h1,h2,h3,by simpa using h4,h⟩,fun h=>h.2.2.2.2⟩)
 ·have h2:=qaL.1 h2;have h3:=qaL.1 h3
  have:=qkW h2 h3
  rw[qad (by omega) (by omega)] at h4
  rw[qaw fun h=>by have:=h.2.2.2.1;simp[this] at h4]
 ·rw[qaw fun h=>qbc.1 h3 h.2.2.1]
 ·rw[qaw fun h=>qbc.1 h2 h.2.1]
 ·rw[qaw fun h=>qbc.1 h1 h.1]
theorem qlr(m:Mat)(hm:Sm (.st cM) m):Ret E n_Z151 [dM m] ⟨o_Z151,(pb (VM m),())⟩:=by
 have hl:m.2.2.2.1.length≤1048576:=hm.2.2.2.1.1
 refine qal ?_
 simp only[run_Z151,Z151.ev]
 refine qaa (qbS _) (qcj (fun h1=>qaa (qck _ _ _) (qcj (fun h2=>qaa (qck _ _ _) (qcj (fun h3=>?_) fun h3=>qai ?_)) fun h2=>qai ?_)) fun h1=>qai ?_)
 ·have h1:=qaL.1 h1;have h2:=qaL.1 h2;have h3:=qaL.1 h3
  have:=qkW h2 h3
  rw[qad (by omega) (by omega)]
  refine qaa (qf5 _ _ _ hl ⟨by have:=h1.1;omega,by have:=h1.2.1;omega⟩) (qai ?_)
  exact congrArg (fun b:Bool=>some (⟨o_Z151,(b,())⟩:Dv)) (qaS ⟨fun h=>⟨h1,h2,h3,h.2,h.1⟩,fun h=>⟨h.2.2.2.2,h.2.2.2.1⟩⟩)
 ·rw[qaw fun h=>qbc.1 h3 h.2.2.1]
 ·rw[qaw fun h=>qbc.1 h2 h.2.1]
 ·rw[qaw fun h=>qbc.1 h1 h.1]
def Bt(m:Mat)(p f t:Int):Prop:=VM m∧m.1=p∧m.2.1=t∧m.2.2.1=f
theorem qf4(m:Mat)(p f t:Int)(hm:Sm (.st cM) m):Ret E n_Z62 [dI m.1,dI m.2.1,dI m.2.2.1,dL m.2.2.2.1,dI p,dI f,dI t] ⟨o_Z62,(pb (Bt m p f t),())⟩:=by
 refine qal ?_
 simp only[run_Z62,Z62.ev]
 refine qaa (qif m hm) (qcj (fun h1=>qcj (fun h2=>qcj (fun h3=>qai ?_) fun h3=>qai ?_) fun h2=>qai ?_) fun h1=>qai ?_)
 ·have h1:=qaL.1 h1
  have:(m.2.2.1==f)=pb (Bt m p f t):=qja (by
   rw[beq_iff_eq];exact⟨fun h=>⟨h1,by simpa using h2,by simpa using h3,h⟩,fun h=>h.2.2.2⟩)
  rw[this]
 ·rw[qaw fun h=>by have:=h.2.2.1;simp[this] at h3]
 ·rw[qaw fun h=>by have:=h.2.1;simp[this] at h2]
 ·rw[qaw fun h=>qbc.1 h1 h.1]
def qak(c:List Sim)(d:Int)(k:Nat):List Int:=((List.range k).filter fun i=>decide (((c.getD i []).length:Int)=d+1)).map Int.ofNat
theorem qbN(c:List Sim)(d:Int)(k:Nat):qak c d (k+1)=qak c d k++if ((c.getD k []).length:Int)=d+1 then [(k:Int)] else []:=by
 unfold qak
 rw[List.range_succ,List.filter_append,List.map_append]
 congr 1
 by_cases h:((c.getD k []).length:Int)=d+1
 ·rw[if_pos h,List.filter_cons_of_pos (by simpa using h)];rfl
 ·rw[if_neg h,List.filter_cons_of_neg (by simpa using h)];rfl
theorem qce(c:List Sim)(d:Int)(k:Nat):(qak c d k).length≤k:=by
 unfold qak
 rw[List.length_map]
 exact Nat.le_trans (List.length_filter_le _ _) (by simp)
theorem qdX{c:List Sim}{d:Int}{k:Nat}{x:Int}(h:x∈qak c d k):∃ i:Nat,x=i∧i<k:=by
 unfold qak at h
 rw[List.mem_map] at h
 obtain⟨i,hi,rfl⟩:=h
 exact⟨i,rfl,by have:=(List.mem_filter.1 hi).1;simpa using this⟩
theorem qc6(c:List Sim)(d:Int)(hc:Sm yK c)(hd:-1≤d∧d≤1048576):Ret E n_Z83 [dLL c,dI d] ⟨o_Z83,(qak c d c.length,())⟩:=by
 have hc1:c.length≤1048576:=hc.1
 have hd1:w64 (d+1)=d+1:=qad (by omega) (by omega)
 refine qal ?_
 simp only[run_Z83,Z83.ev]
 refine Ev.start (p:=fun φ n=>Z83.l0 (mkR (run E (φ 0))) (φ 0) n d c (c.length:Int) 0 []=_) 1 ?_ (fun _ _ _ h=>h)
 refine qaq 1 (L:=fun φ n k a=>Z83.l0 (mkR (run E (φ 0))) (φ 0) n d c (c.length:Int) k a) (len:=c.length) (fun k=>qak c d k) (fun _ _ _ _ _=>rfl) (fun k r hk ih=>?_) ?_
 ·simp only[Z83.l0_succ _ qag,hd1]
  rw[qbN,qah hk] at ih
  have hlen:=qce c d k
  refine qaD (decide_eq_true (by omega)) (qaf (qap hk) (qaa (qex _) ?_))
  rw[qae (by omega)]
  refine qcj (fun he=>qar (decide_eq_true (by simp only[List.length_cons,List.length_nil];omega)) ?_) fun he=>?_
  ·rw[if_pos (by simpa using he)] at ih;exact ih
  ·rw[if_neg (by simpa using he),List.append_nil] at ih;exact ih
 ·simp only[Z83.l0_succ _ qag]
  exact qaJ (decide_eq_false (by omega)) qam
theorem qdW(c:List Sim)(d:Int)(hc:Sm yK c)(hd:-1≤d∧d≤1048576):Ret E n_Z164 [dC (c,()),dI d] ⟨o_Z164,(qak c d c.length,())⟩:=by
 have hc1:c.length≤1048576:=hc.1
 have hd1:w64 (d+1)=d+1:=qad (by omega) (by omega)
 refine qal ?_
 simp only[run_Z164,Z164.ev]
 refine Ev.start (p:=fun φ n=>Z164.l0 (mkR (run E (φ 0))) (φ 0) n (c,()) d 0 []=_) 1 ?_ (fun _ _ _ h=>h)
 refine qaq 1 (L:=fun φ n k a=>Z164.l0 (mkR (run E (φ 0))) (φ 0) n (c,()) d k a) (len:=c.length) (fun k=>qak c d k) (fun _ _ _ _ _=>rfl) (fun k r hk ih=>?_) ?_
 ·simp only[Z164.l0_succ _ qag,hd1]
  rw[qbN,qah hk] at ih
  have hlen:=qce c d k
  refine qaD (decide_eq_true (by omega)) (qaf (qap hk) ?_)
  rw[qae (by omega)]
  refine qcj (fun he=>qar (decide_eq_true (by simp only[List.length_cons,List.length_nil];omega)) ?_) fun he=>?_
  ·rw[if_pos (by simpa using he)] at ih;exact ih
  ·rw[if_neg (by simpa using he),List.append_nil] at ih;exact ih
 ·simp only[Z164.l0_succ _ qag]
  exact qaJ (decide_eq_false (by omega)) qam
def qjk(c:List Sim)(st:Sim)(d:Int)(k:Nat):Int:=(((qak c d c.length).take k).map fun i=>st.getD i.toNat 0).sum
theorem qgw(c:List Sim)(st:Sim)(d:Int)(k:Nat)(h:k<(qak c d c.length).length):qjk c st d (k+1)=qjk c st d k+st.getD ((qak c d c.length)[k]).toNat 0:=by
 unfold qjk
 rw[List.take_succ_eq_append_getElem h,List.map_append,List.sum_append]
 simp
theorem qkY{c:List Sim}{st:Sim}(hst:∀ x∈st,0≤x∧x≤3)(d:Int)(k:Nat):0≤qjk c st d k∧qjk c st d k≤3*k:=by
  induction k with
  | zero=>simp[qjk]
  | succ k ih =>
    by_cases h:k<(qak c d c.length).length
    · rw[qgw _ _ _ _ h]
      have:0≤st.getD ((qak c d c.length)[k]).toNat 0∧st.getD ((qak c d c.length)[k]).toNat 0≤3:=by
        by_cases hl:((qak c d c.length)[k]).toNat<st.length
        · rw[qah hl];exact hst _ (List.getElem_mem hl)
        · rw[List.getD_eq_getElem?_getD,List.getElem?_eq_none (by omega)];simp
      omega
    · have:qjk c st d (k+1)=qjk c st d k:=by
        unfold qjk
        rw[List.take_of_length_le (by omega),List.take_of_length_le (by omega)]
      omega
theorem qbn(c:List Sim)(st:Sim)(d:Int)(p:Int)(ms:List Mat)(hc:Sm yK c)(hl:st.length=c.length)(hst:∀ x∈st,0≤x∧x≤3)(hd:-1≤d∧d≤1048576) :
  Ret E n_Z88 [dLL c,dI p,dL st,dMs ms,dI d] ⟨o_Z88,(qjk c st d (qak c d c.length).length,())⟩:=by
 have hc1:c.length≤1048576:=hc.1
 have hol:=qce c d c.length
 refine qal ?_
 simp only[run_Z88,Z88.ev]
 refine qaa (qc6 c d hc hd) ?_
 refine Ev.start (p:=fun φ n=>Z88.l0 (mkR (run E (φ 0))) (φ 0) n 0 (qak c d c.length) ((qak c d c.length).length:Int) 0 c p st ms=_) 1 ?_ (fun _ _ _ h=>h)
 refine qaq 1 (L:=fun φ n k a=>Z88.l0 (mkR (run E (φ 0))) (φ 0) n a (qak c d c.length) ((qak c d c.length).length:Int) k c p st ms) (len:=(qak c d c.length).length) (fun k=>qjk c st d k) (fun _ _ _ _ _=>rfl) (fun k r hk ih=>?_) ?_
 ·simp only[Z88.l0_succ _ qag]
  obtain⟨i,hi,hik⟩:=qdX (List.getElem_mem hk)
  rw[qgw _ _ _ _ hk,hi,Int.toNat_natCast,qah (by omega)] at ih
  have hb:=qkY hst d k (c:=c)
  have hb2:=hst _ (List.getElem_mem (show i<st.length by omega))
  refine qaD (decide_eq_true (by omega)) (qaf (qap hk) ?_)
  simp only[hi]
  refine qaf (qap (by omega)) ?_
  rw[qae (by omega),qad (by omega) (by omega)]
  exact ih
 ·simp only[Z88.l0_succ _ qag]
  exact qaJ (decide_eq_false (by omega)) qam
theorem qgO(c:List Sim)(st:Sim)(d:Int)(hc:Sm yK c)(hl:st.length=c.length)(hst:∀ x∈st,0≤x∧x≤3)(hd:-1≤d∧d≤1048576) :
  Ret E n_Z184 [dC (c,()),dL st,dI d] ⟨o_Z184,(qjk c st d (qak c d c.length).length,())⟩:=by
 have hc1:c.length≤1048576:=hc.1
 have hol:=qce c d c.length
 refine qal ?_
 simp only[run_Z184,Z184.ev]
 refine qaa (qdW c d hc hd) ?_
 refine Ev.start (p:=fun φ n=>Z184.l0 (mkR (run E (φ 0))) (φ 0) n st (qak c d c.length) 0 0=_) 1 ?_ (fun _ _ _ h=>h)
 refine qaq 1 (L:=fun φ n k a=>Z184.l0 (mkR (run E (φ 0))) (φ 0) n st (qak c d c.length) a k) (len:=(qak c d c.length).length) (fun k=>qjk c st d k) (fun _ _ _ _ _=>rfl) (fun k r hk ih=>?_) ?_
 ·simp only[Z184.l0_succ _ qag]
  obtain⟨i,hi,hik⟩:=qdX (List.getElem_mem hk)
  rw[qgw _ _ _ _ hk,hi,Int.toNat_natCast,qah (by omega)] at ih
  have hb:=qkY hst d k (c:=c)
  have hb2:=hst _ (List.getElem_mem (show i<st.length by omega))
  refine qaD (decide_eq_true (by omega)) (qaf (qap hk) ?_)
  simp only[hi]
  refine qaf (qap (by omega)) ?_
  rw[qae (by omega),qad (by omega) (by omega)]
  exact ih
 ·simp only[Z184.l0_succ _ qag]
  exact qaJ (decide_eq_false (by omega)) qam
end VeT
open Go Go.Proofs Ve
namespace VeT
theorem qnU{c:List Sim}{st:Sim}(hst:∀ x∈st,0≤x∧x≤3)(d:Int):0≤qjk c st d (qak c d c.length).length:=(qkY hst d _).1
def SD(c:List Sim)(st:Sim)(d:Int):Int:=qjk c st d (qak c d c.length).length
def SK(c:List Sim)(st:Sim):Prop:=st.length=c.length∧(∀ x∈st,0≤x∧x≤3)∧∀ d:Nat,d<4→SD c st (d:Int)≤32
theorem qhQ(n:Int):Ret E n_Z32 [dI n] ⟨o_Z32,(!pb (0≤n∧n≤3),())⟩:=by
 refine qal ?_
 simp only[run_Z32,Z32.ev]
 exact qaa (qcH _ _ _) qam
theorem qgj(c:List Sim)(st:Sim)(hc:Sm yK c)(hs:st.length≤1048576):Ret E n_Z31 [dLL c,dL st] ⟨o_Z31,(pb (SK c st),())⟩:=by
  refine qal ?_
  simp only[run_Z31,Z31.ev]
  refine qcj (fun h=>?_) fun h=>?_
  · simp only[Z31.j0_eq _ qag,cond_true]
    have h:¬ (st.length:Int)=c.length:=by simpa using h
    rw[qaw fun hk=>h (by rw[hk.1])];(first | exact qam | exact Ev.of fun _=>trivial)
  have hl : st.length = c.length := by have : (st.length : Int) = c.length := by simpa using h
                                       omega
  refine qaa (qbs st _ hs fun x _=>qhQ x) ?_
  simp only[Z31.j0_eq _ qag]
  have e:=qkw (s:=st) (P:=fun x=>0≤x∧x≤3)
  refine qcj (fun h=>?_) fun h=>?_
  · simp only[h] at e
    rw[qaw fun hk=>qbc.1 e.symm hk.2.1];(first | exact qam | exact Ev.of fun _=>trivial)
  · simp only[h] at e
    have hst:∀ x∈st,0≤x∧x≤3:=qaL.1 e.symm
    refine Ev.start (p:=fun φ n=>Z31.l1 (mkR (run E (φ 0))) (φ 0) n st 0 c=_) 1 ?_ (fun _ _ _ h=>h)
    refine(qeo 1 (L:=fun φ n k=>Z31.l1 (mkR (run E (φ 0))) (φ 0) n st k c) (len:=4) 0 (by omega) (fun d=>SD c st (d:Int)≤32) (fun b=>some ⟨o_Z31,(b,())⟩) (fun _ _ _ _=>rfl) (fun k h1 h2 hP _=>?_) (fun k r h1 h2 hP _ ih=>?_) (fun _=>?_)).to ?_
    · simp only[Z31.l1_succ _ qag]
      exact qaD (decide_eq_true (by omega)) (qaa (qbn c st _ _ _ hc hl hst (by omega)) (qaD (decide_eq_true (Int.not_le.1 hP)) qam))
    · simp only[Z31.l1_succ _ qag]
      refine qaD (decide_eq_true (by omega)) (qaa (qbn c st _ _ _ hc hl hst (by omega)) (qaJ (decide_eq_false (Int.not_lt.2 hP)) ?_))
      rw[qae (by omega)];exact ih
    · simp only[Z31.l1_succ _ qag]
      exact qaJ (decide_eq_false (by omega)) qam
    · exact congrArg (fun b:Bool=>some (⟨o_Z31,(b,())⟩:Dv)) (qaS ⟨fun h=>⟨hl,hst,fun d hd=>h d (by omega) hd⟩,fun h d _ hd=>h.2.2 d hd⟩)
theorem qkX(c:List Sim)(st:Sim)(hc:Sm yK c)(hs:st.length≤1048576):Ret E n_Z183 [dC (c,()),dL st] ⟨o_Z183,(pb (SK c st),())⟩:=by
 refine qal ?_
 simp only[run_Z183,Z183.ev]
 refine qaa (qf5 st _ _ hs (by omega)) (qcj (fun h=>?_) fun h=>?_)
 ·have h:=qbc.1 (show pb (qaE st 4∧(st.length:Int)=c.length)=false by simpa using h)
  rw[qaw fun hk=>h ⟨hk.2.1,by rw[hk.1]⟩];(first | exact qam | exact Ev.of fun _=>trivial)
 ·have h:=qaL.1 (show pb (qaE st 4∧(st.length:Int)=c.length)=true by simpa using h)
  have hl:st.length=c.length:=by have:=h.2;omega
  have hst:∀ x∈st,0≤x∧x≤3:=h.1
  refine Ev.start (p:=fun φ n=>Z183.l0 (mkR (run E (φ 0))) (φ 0) n (c,()) st 0=_) 1 ?_ (fun _ _ _ h=>h)
  refine(qeo 1 (L:=fun φ n k=>Z183.l0 (mkR (run E (φ 0))) (φ 0) n (c,()) st k) (len:=4) 0 (by omega) (fun d=>SD c st (d:Int)≤32) (fun b=>some ⟨o_Z183,(b,())⟩) (fun _ _ _ _=>rfl) (fun k h1 h2 hP _=>?_) (fun k r h1 h2 hP _ ih=>?_) (fun _=>?_)).to ?_
  ·simp only[Z183.l0_succ _ qag]
   exact qaD (decide_eq_true (by omega)) (qaa (qgO c st _ hc hl hst (by omega)) (qaD (decide_eq_true (Int.not_le.1 hP)) qam))
  ·simp only[Z183.l0_succ _ qag]
   refine qaD (decide_eq_true (by omega)) (qaa (qgO c st _ hc hl hst (by omega)) (qaJ (decide_eq_false (Int.not_lt.2 hP)) ?_))
   rw[qae (by omega)];exact ih
  ·simp only[Z183.l0_succ _ qag]
   exact qaJ (decide_eq_false (by omega)) qam
  ·exact congrArg (fun b:Bool=>some (⟨o_Z183,(b,())⟩:Dv)) (qaS ⟨fun h=>⟨hl,hst,fun d hd=>h d (by omega) hd⟩,fun h d _ hd=>h.2.2 d hd⟩)
noncomputable def qaG(c:List Sim)(k:Nat):List Int:=(qcw (c.getD k [])).map (qdm c)
theorem qqu{c:List Sim}{s:Sim}:qdm c s<c.length∧-1≤qdm c s:=by
 unfold qdm qhK
 cases h:c.findIdx? (fun x=>pb (x=s)) with
 | none=>simp only[o2i];omega
 | some k =>
  rw[List.findIdx?_eq_some_iff_getElem] at h
  obtain⟨h,_⟩:=h
  simp only[o2i];omega
theorem qaF{c:List Sim}{k:Nat}:(qaG c k).length=if 1<(c.getD k []).length then(c.getD k []).length else 0:=by
 unfold qaG qcw
 rw[List.length_map]
 split<;>simp
theorem qkb{c:List Sim}(h:VC c){k:Nat}(hk:k<c.length){x:Int}(hx:x∈qaG c k):0≤x∧x<c.length:=by
 unfold qaG at hx
 rw[List.mem_map] at hx
 obtain⟨f,hf,rfl⟩:=hx
 exact⟨qa8.2 (h.2.2.2 k hk f hf),qqu.1⟩
theorem qdh(c:List Sim)(k:Nat)(hk:k<c.length)(hc:Sm yK c)(hs:Srt c):Ret E n_Z48 [dLL c,dI (k:Int)] ⟨o_Z48,(qaG c k,())⟩:=by
 have hks:(c[k]).length≤1048576:=(qb0 hc hk).1
 have hfl:=qhj (s:=c[k])
 refine qal ?_
 simp only[run_Z48,Z48.ev]
 refine qaf (qap hk) (qaa (qfT _ hks) ?_)
 refine Ev.start (p:=fun φ n=>Z48.l0 (mkR (run E (φ 0))) (φ 0) n (qcw c[k]) ((qcw c[k]).length:Int) 0 c []=_) 1 ?_ (fun _ _ _ h=>h)
 refine qaq 1 (L:=fun φ n j a=>Z48.l0 (mkR (run E (φ 0))) (φ 0) n (qcw c[k]) ((qcw c[k]).length:Int) j c a) (len:=(qcw c[k]).length) (fun j=>((qcw c[k]).take j).map (qdm c)) (fun _ _ _ _ _=>rfl) (fun j r hj ih=>?_) ?_
 ·simp only[Z48.l0_succ _ qag]
  rw[List.take_succ_eq_append_getElem hj,List.map_append] at ih
  refine qaD (decide_eq_true (by omega)) (qaf (qap hj) (qaa (qim c _ hc hs) (qar (by simp;omega) ?_)))
  rw[qae (by omega)];exact ih
 ·simp only[Z48.l0_succ _ qag]
  refine qaJ (decide_eq_false (by omega)) (qai ?_)
  rw[List.take_of_length_le (Nat.le_refl _),qaG,qah hk]
theorem qdy(c:List Sim)(k:Nat)(hk:k<c.length)(hc:Sm yK c):Ret E n_Z162 [dC (c,()),dI (k:Int)] ⟨o_Z162,(qaG c k,())⟩:=by
 have hks:(c[k]).length≤1048576:=(qb0 hc hk).1
 refine qal ?_
 simp only[run_Z162,Z162.ev]
 refine qaf (qap hk) ?_
 refine Ev.start (p:=fun φ n=>Z162.l0 (mkR (run E (φ 0))) (φ 0) n (c,()) c[k] 0 []=_) 1 ?_ (fun _ _ _ h=>h)
 by_cases hlen:1<(c[k]).length
 ·refine qaq 1 (L:=fun φ n j a=>Z162.l0 (mkR (run E (φ 0))) (φ 0) n (c,()) c[k] j a) (len:=(c[k]).length) (fun j=>(List.range j).map fun i=>qdm c ((c[k]).eraseIdx i)) (fun _ _ _ _ _=>rfl) (fun j r hj ih=>?_) ?_
  ·simp only[Z162.l0_succ _ qag]
   rw[List.range_succ,List.map_append] at ih
   refine qaD (decide_eq_true (by omega)) ?_
   simp only[show decide (((c[k]).length:Int)>1)=true from decide_eq_true (by omega),Z162.j1_eq _ qag,cond_true]
   refine qaa (qdZ _ j hj hks) (qaa (qcb (c,()) _ hc) (qar (by simp;omega) ?_))
   rw[qae (by omega)];exact ih
  ·simp only[Z162.l0_succ _ qag]
   refine qaJ (decide_eq_false (by omega)) ?_
   simp only[Z162.j1_eq _ qag,cond_false]
   refine qai ?_
   rw[qaG,qah hk,qcw,if_pos hlen,List.map_map];rfl
 ·refine Ev.round 1 (L:=fun φ n=>Z162.l0 (mkR (run E (φ 0))) (φ 0) n (c,()) c[k] 0 []) ?_ (fun _ _ _=>rfl)
  have hj:Ev fun φ=>Z162.j1 (mkR (run E (φ 0))) (φ 0) (φ 1) (c,()) c[k] 0 false []=some ⟨o_Z162,(qaG c k,())⟩:=by
   simp only[Z162.j1_eq _ qag,cond_false]
   refine qai ?_
   rw[qaG,qah hk,qcw,if_neg hlen];rfl
  simp only[Z162.l0_succ _ qag]
  refine qeu (fun _=>?_) fun _=>hj
  simp only[show decide (((c[k]).length:Int)>1)=false from decide_eq_false (by omega)]
  exact hj
abbrev Arw:=Int×Int×Int×Unit
noncomputable def qmB(c:List Sim)(k i:Nat):List Arw:=(List.range i).map fun(j:Nat)=>((k:Int),(j:Int),(qaG c k).getD j 0,())
noncomputable def qbB(c:List Sim):Nat→List Arw
 | 0=>[]
 | k+1=>qbB c k++qmB c k (qaG c k).length
noncomputable def plc(c:List Sim)(k:Nat):Nat:=(qbB c k).length
theorem qd2{c:List Sim}{k i:Nat}:(qmB c k i).length=i:=by simp[qmB]
theorem qfd{c:List Sim}{k:Nat}:plc c (k+1)=plc c k+(qaG c k).length:=by
 unfold plc;rw[qbB,List.length_append,qd2]
theorem VC.len4{c:List Sim}(h:VC c){k:Nat}(hk:k<c.length):(c.getD k []).length≤4:=(h.2.1 k hk).2.1
theorem VC.fIdx4{c:List Sim}(h:VC c){k:Nat}(hk:k<c.length):(qaG c k).length≤4:=by
 have:=h.len4 hk
 rw[qaF];split<;>omega
theorem VC.plc{c:List Sim}(h:VC c):∀ {k:Nat},k≤c.length→plc c k≤4*k
 | 0,_=>by simp[VeT.plc,qbB]
 | k+1,hk=>by
  have h1:=h.plc (k:=k) (by omega)
  have h2:=h.fIdx4 (k:=k) (by omega)
  rw[qfd];omega
theorem qcr{c:List Sim}:∀ {n k i:Nat},k<n→i<(qaG c k).length→(qbB c n)[plc c k+i]? = some ((k:Int),(i:Int),(qaG c k).getD i 0,())
 | 0,_,_,h,_=>by omega
 | n+1,k,i,h,hi=>by
  rw[qbB]
  by_cases hk:k<n
  ·have:=qcr hk hi
   have hl:=(List.getElem?_eq_some_iff.1 this).1
   rw[List.getElem?_append_left hl];exact this
  ·obtain rfl:k=n:=by omega
   rw[List.getElem?_append_right (by unfold plc;omega)]
   rw[show plc c k+i-(qbB c k).length=i by unfold plc;omega]
   simp[qmB,hi]
theorem qiU{c:List Sim}:∀ {n t:Nat},t<(qbB c n).length→∃ k i,k<n∧i<(qaG c k).length∧t=plc c k+i
 | 0,_,h=>by simp[qbB] at h
 | n+1,t,h=>by
  by_cases ht:t<(qbB c n).length
  ·obtain⟨k,i,h1,h2,h3⟩:=qiU ht
   exact⟨k,i,by omega,h2,h3⟩
  ·rw[qbB,List.length_append,qd2] at h
   exact⟨n,t-(qbB c n).length,by omega,by omega,by unfold plc;omega⟩
theorem qjp(c:List Sim)(hc:Sm yK c)(hv:VC c):Ret E n_Z33 [dLL c] ⟨o_Z33,(qbB c c.length,())⟩:=by
 have hs:=hv.srt
 have h48:=hv.1
 refine qal ?_
 simp only[run_Z33,Z33.ev]
 refine qaa (ql7 _) ?_
 refine Ev.start (p:=fun φ n=>Z33.l0 (mkR (run E (φ 0))) (φ 0) n (c.length:Int) 0 c []=_) 1 ?_ (fun _ _ _ h=>h)
 refine qaq 1 (L:=fun φ n k a=>Z33.l0 (mkR (run E (φ 0))) (φ 0) n (c.length:Int) k c a) (len:=c.length) (fun k=>qbB c k) (fun _ _ _ _ _=>rfl) (fun k r hk ih=>?_) ?_
 ·simp only[Z33.l0_succ _ qag]
  have hpl:=hv.plc (k:=k) (by omega)
  have hf4:=hv.fIdx4 hk
  refine qaD (decide_eq_true (by omega)) (qaa (qdh c k hk hc hs) ?_)
  refine Ev.start (p:=fun φ n=>Z33.l1 (mkR (run E (φ 0))) (φ 0) (φ 1) n (k:Int) (c.length:Int) (k:Int) (qaG c k) ((qaG c k).length:Int) 0 c (qbB c k)=_) 2 ?_ (fun _ _ _ h=>h)
  have:=qaq 2 (L:=fun φ n j a=>Z33.l1 (mkR (run E (φ 0))) (φ 0) (φ 1) n (k:Int) (c.length:Int) (k:Int) (qaG c k) ((qaG c k).length:Int) j c a) (len:=(qaG c k).length) (fun j=>qbB c k++qmB c k j) (r:=r) (fun _ _ _ _ _=>rfl) (fun j r hj ih=>?_) ?_
  ·simpa [qmB] using this
  ·simp only[Z33.l1_succ _ qag]
   refine qaD (decide_eq_true (by omega)) (qaf (qap hj) (qar (decide_eq_true ?_) ?_))
   ·rw[List.length_append,qd2];show(_+_+1)*24≤_
    have:(qbB c k).length=plc c k:=rfl
    omega
   ·rw[qae (by omega)]
    have e:qmB c k (j+1)=qmB c k j++[((k:Int),(j:Int),(qaG c k)[j],())]:=by
     unfold qmB;rw[List.range_succ,List.map_append];simp[List.getD_eq_getElem?_getD,hj]
    rw[e,← List.append_assoc] at ih
    exact ih
  ·simp only[Z33.l1_succ _ qag]
   refine qaJ (decide_eq_false (by omega)) ?_
   rw[qae (by omega)];exact ih
 ·simp only[Z33.l0_succ _ qag]
  exact qaJ (decide_eq_false (by omega)) qam
theorem qeH(c:List Sim)(k i:Nat)(hk:k≤c.length)(hi:i≤1048576)(hv:VC c):Ret E n_Z182 [dC (c,()),dI (k:Int),dI (i:Int)] ⟨o_Z182,(((plc c k+i:Nat):Int),())⟩:=by
 have h48:=hv.1
 refine qal ?_
 simp only[run_Z182,Z182.ev]
 refine Ev.start (p:=fun φ n=>Z182.l0 (mkR (run E (φ 0))) (φ 0) n (c,()) (k:Int) (i:Int) 0 0=_) 1 ?_ (fun _ _ _ h=>h)
 have:=qaq 1 (L:=fun φ n j a=>Z182.l0 (mkR (run E (φ 0))) (φ 0) n (c,()) (k:Int) (i:Int) a j) (len:=k) (fun j=>((plc c j:Nat):Int)) (r:=some ⟨o_Z182,(((plc c k+i:Nat):Int),())⟩) (fun _ _ _ _ _=>rfl) (fun j r hj ih=>?_) ?_
 ·exact this
 ·simp only[Z182.l0_succ _ qag]
  have hjc:j<c.length:=by omega
  have hpl:=hv.plc (k:=j) (by omega)
  have h4:=hv.len4 hjc
  have e:=qfd (c:=c) (k:=j)
  rw[qaF] at e
  rw[qah hjc] at e h4
  refine qaD (decide_eq_true (by omega)) (qaf (qap hjc) (qeu (fun hl=>qaf (qap hjc) ?_) fun hl=>?_))
  ·rw[if_pos (by omega)] at e
   rw[qae (by omega),qad (by omega) (by omega)]
   rw[e] at ih
   simpa using ih
  ·rw[if_neg (by omega)] at e
   rw[qae (by omega)]
   rw[e] at ih;exact ih
 ·simp only[Z182.l0_succ _ qag]
  have hpl:=hv.plc hk
  refine qaJ (decide_eq_false (by omega)) (qai ?_)
  rw[qad (by omega) (by omega)]
  simp
theorem qld(c:List Sim)(hv:VC c):Ret E n_Z175 [dC (c,())] ⟨o_Z175,(((plc c c.length:Nat):Int),())⟩:=by
 refine qal ?_
 simp only[run_Z175,Z175.ev]
 exact qaa (qeH c c.length 0 (Nat.le_refl _) (by omega) hv) qam
end VeT
