import Derived.Test.YtjnnliedeobfgaaGreatT3
import Derived.Test.YtjnnliedeobfgaaGreatV2
import Derived.Shelf.SlicesG.CompactI
import Derived.Ground.SlgnProg
import Derived.Shelf.SlSortCmp.Whole1
import Derived.Shelf.SlSortCmp.NoneTotal
import Derived.Ground.SlsfProg
import Derived.Shelf.SortG.Plain
import Derived.Shelf.SortG.SortNone
import Derived.Test.YtjnnliedeobfgaaGreatProg
import Derived.KernelRfl
import Derived.WalkKit
import Derived.Lib.Walk
import Derived.Lib.SliceRun
import Derived.Lib.AppendZerosOnto
set_option linter.unusedVariables false
set_option linter.unusedSimpArgs false
open Go Go.Proofs Ve
set_option maxRecDepth 100000
namespace VeT
noncomputable section
abbrev q1_0(R:Run)(N:Nat):=kS R pol_Z25 12 N [1,1,1] F_Z25
abbrev q1_1(R:Run)(N:Nat):=kS R pol_Z98 5 N [1,1,0,1,0,0,1,1] F_Z98
abbrev q1_2(R:Run)(N:Nat):=kS R pol_Z98 14 N [1,1,1] F_Z98
abbrev q1_3(R:Run)(N:Nat):=kS R pol_Z102 12 N [1,1,1,1,1] F_Z102
abbrev q1_4(R:Run)(N:Nat):=kS R pol_Z86 14 N [1,1,1] F_Z86
abbrev q1_5(R:Run)(N:Nat):=kL R pol_Z98 4 N [1,1,0,1,0,0] F_Z98
def Z21.l1(R:Run)(N a n:Nat)(b e f g h i j k l m o p:Int)(q:List Int):Option Dv:=R.w (some ⟨(V.dead::(V.dead::(.c (.d yI b)::(.c (.d (.fn n_Z38 .nil) ())::(zd 4 (.c (.box 8 0)::(.c (.box 9 0)::(.c (.d yI e)::(zd 5 (.c (.d yI f)::(.c (.d yI g)::(V.dead::(V.dead::(.c (.d yI h)::(.c (.d yI i)::(zd 14 [])))))))))))))))),(zo 8 (some (.box [.d yI j,.d yI k,.d yI l,.nils yI] false false)::(some (.box [.d yI m,.d yI o,.d yI p,.arr 31] false false)::(zo 21 (some (.arr yI q true false false)::(zo 8 []))))))⟩) fun st=>lC R pol_Z20 6 N [1,1,0,1,0,0,1,1,0,0,1,1,0,0] F_Z20 n st (kB R pol_Z20 2 (kB R pol_Z20 1 (kS R pol_Z20 10 N [1,1,0,1,0,0,1,1,1] F_Z20 (kL R pol_Z20 3 N [1,1,0,1,0,0] F_Z20 a (kB R pol_Z20 0 (kS R pol_Z20 11 N [1,1,1] F_Z20 (qo8 E sg_Z20 F_Z20)))))))
def Z21.l0(R:Run)(N n:Nat)(a b e f g h i j k:Int)(l:List Int):Option Dv:=R.w (some ⟨(V.dead::(V.dead::(.c (.d yI a)::(.c (.d (.fn n_Z38 .nil) ())::(zd 4 (.c (.box 8 0)::(.c (.box 9 0)::(zd 6 (.c (.d yI b)::(.c (.d yI e)::(zd 18 []))))))))))),(zo 8 (some (.box [.d yI f,.d yI g,.d yI h,.nils yI] false false)::(some (.box [.d yI i,.d yI j,.d yI k,.arr 31] false false)::(zo 21 (some (.arr yI l true false false)::(zo 8 []))))))⟩) fun st=>lC R pol_Z20 3 N [1,1,0,1,0,0] F_Z20 n st (kB R pol_Z20 0 (kS R pol_Z20 11 N [1,1,1] F_Z20 (qo8 E sg_Z20 F_Z20)))
theorem Z21.l1_succ(R:Run)(hw:R.ok)(N a n:Nat)(b c d e f g h i j k l m:Int)(o:List Int):Z21.l1 R N a (n+1) b c d e f g h i j k l m o=(bif (decide (g<f)) then((qdp R n_Z38 o_Z38 [⟨yI,c⟩,⟨yI,g⟩]).bind fun r24=>((chk (decide ((List.length o+List.length [r24.1])*8≤70368744177664))).bind fun _=>(Z21.l1 R N a n b c d e f (w64 (g+1)) h i j k l m (o++[r24.1])))) else(Z21.l0 R N a b d (w64 (e+1)) h i j k l m o)):=(hw _ _).trans (by kernel_rfl)
theorem Z21.l0_succ(R:Run)(hw:R.ok)(N n:Nat)(a b c d e f g h i:Int)(j:List Int):Z21.l0 R N (n+1) a b c d e f g h i j=(bif (decide (c<b)) then(Z21.l1 R N n N a c b c a (0:Int) d e f g h i j) else some ⟨o_Z20,(g,h,i,j,())⟩):=(hw _ _).trans (by kernel_rfl)
theorem Z21.ev(R:Run)(N:Nat)(a0 a1 a2:Int):qos E R sg_Z20 pol_Z20 F_Z20 N [⟨yI,a0⟩,⟨yI,a1⟩,⟨yI,a2⟩,⟨(.fn n_Z38 .nil),()⟩]=(Z21.l0 R N N a2 a1 (0:Int) (0:Int) (0:Int) (0:Int) a0 a1 a2 ([]:List Int)):=by kernel_rfl
theorem Z37.ev(R:Run)(N:Nat)(a0 a1 a2:Int):qos E R sg_Z37 pol_Z37 F_Z37 N [⟨yI,a0⟩,⟨yI,a1⟩,⟨yI,a2⟩]=((qdp R n_Z20 o_Z20 [⟨yI,a0⟩,⟨yI,a1⟩,⟨yI,a2⟩,⟨(.fn n_Z38 .nil),()⟩]).bind fun r1=>some ⟨o_Z37,(r1.1,r1.2.1,r1.2.2.1,r1.2.2.2.1,())⟩):=by kernel_rfl
def Z25.j2(R:Run)(N a b:Nat)(e f:List Int)(g h:Int)(i:List Int)(j k:Int)(l:List Int)(m o:Int)(p:Bool)(q:vK):Option Dv:=R.w (some ⟨(V.dead::(.c (.d yL e)::(.c (.d yL f)::(.c (.box 3 0)::(zd 3 (.c (.d yI g)::(V.dead::(.c (.d yI h)::(V.dead::(V.dead::(.c (.d yL i)::(.c (.d yI j)::(.c (.d yI k)::(zd 6 (.c (.d yL l)::(.c (.d yI m)::(.c (.d yI o)::(zd 17 (.c (.d .bool p)::(zd 5 [])))))))))))))))))))),(zo 3 (some (.box [.d yK q] false false)::(zo 46 [])))⟩) fun st=>eC R pol_Z25 N [1,1,0,1,0,0,1,1,0,0,1,1,0,0,1,1,0,0,1,1] F_Z25 st (kB R pol_Z25 3 (kS R pol_Z25 10 N [1,1,0,1,0,0,1,1,0,0,1,1,0,0,1,1,1] F_Z25 (kL R pol_Z25 6 N [1,1,0,1,0,0,1,1,0,0,1,1,0,0] F_Z25 b (kB R pol_Z25 2 (kB R pol_Z25 1 (kS R pol_Z25 11 N [1,1,0,1,0,0,1,1,1] F_Z25 (kL R pol_Z25 3 N [1,1,0,1,0,0] F_Z25 a (kB R pol_Z25 0 (q1_0 R N (qo8 E sg_Z25 F_Z25))))))))))
def Z25.l1(R:Run)(N a n:Nat)(b e:List Int)(f g:Int)(h:List Int)(i j:Int)(k:List Int)(l m:Int)(o:vK):Option Dv:=R.w (some ⟨(V.dead::(.c (.d yL b)::(.c (.d yL e)::(.c (.box 3 0)::(zd 3 (.c (.d yI f)::(V.dead::(.c (.d yI g)::(V.dead::(V.dead::(.c (.d yL h)::(.c (.d yI i)::(.c (.d yI j)::(zd 6 (.c (.d yL k)::(.c (.d yI l)::(.c (.d yI m)::(zd 23 [])))))))))))))))))),(zo 3 (some (.box [.d yK o] false false)::(zo 46 [])))⟩) fun st=>lC R pol_Z25 6 N [1,1,0,1,0,0,1,1,0,0,1,1,0,0] F_Z25 n st (kB R pol_Z25 2 (kB R pol_Z25 1 (kS R pol_Z25 11 N [1,1,0,1,0,0,1,1,1] F_Z25 (kL R pol_Z25 3 N [1,1,0,1,0,0] F_Z25 a (kB R pol_Z25 0 (q1_0 R N (qo8 E sg_Z25 F_Z25)))))))
def Z25.l0(R:Run)(N n:Nat)(a b:List Int)(e:Int)(f:List Int)(g h:Int)(i:vK):Option Dv:=R.w (some ⟨(V.dead::(.c (.d yL a)::(.c (.d yL b)::(.c (.box 3 0)::(zd 3 (.c (.d yI e)::(zd 4 (.c (.d yL f)::(.c (.d yI g)::(.c (.d yI h)::(zd 32 []))))))))))),(zo 3 (some (.box [.d yK i] false false)::(zo 46 [])))⟩) fun st=>lC R pol_Z25 3 N [1,1,0,1,0,0] F_Z25 n st (kB R pol_Z25 0 (q1_0 R N (qo8 E sg_Z25 F_Z25)))
theorem Z25.j2_eq(R:Run)(hw:R.ok)(N a b:Nat)(c d:List Int)(e f:Int)(g:List Int)(h i:Int)(j:List Int)(k l:Int)(m:Bool)(o:vK):Z25.j2 R N a b c d e f g h i j k l m o=(bif m then(Z25.l1 R N a b c d (w64 (e+1)) f g h i j k (w64 (l+1)) o) else(Z25.l1 R N a b c d e f g h i j k (w64 (l+1)) o)):=(hw _ _).trans (by kernel_rfl)
theorem Z25.l1_succ(R:Run)(hw:R.ok)(N a n:Nat)(b c:List Int)(d e:Int)(f:List Int)(g h:Int)(i:List Int)(j k:Int)(l:vK):Z25.l1 R N a (n+1) b c d e f g h i j k l=(bif (decide (k<j)) then((idx? i k).bind fun y20=>(qnn (qnn ((qdp R n_Z22 o_Z22 [⟨yK,l⟩,⟨yL,b⟩,⟨yL,[e]⟩]).bind fun r21=>((idx? r21.1 (0:Int)).bind fun y22=>((qdp R n_Z22 o_Z22 [⟨yK,l⟩,⟨yL,b⟩,⟨yL,[(y20,()).1]⟩]).bind fun r23=>((idx? r23.1 (0:Int)).bind fun y24=>(Z25.j2 R N a n b c d e f g h i j k (decide ((y22,()).1<(y24,()).1)) l))))) ((qdp R n_Z22 o_Z22 [⟨yK,l⟩,⟨yL,b⟩,⟨yL,[e]⟩]).bind fun r59=>((idx? r59.1 (0:Int)).bind fun y60=>((qdp R n_Z22 o_Z22 [⟨yK,l⟩,⟨yL,b⟩,⟨yL,[(y20,()).1]⟩]).bind fun r61=>((idx? r61.1 (0:Int)).bind fun y62=>(Z25.j2 R N a n b c d e f g h i j k (decide ((y60,()).1<(y62,()).1)) l)))))) ((qdp R n_Z22 o_Z22 [⟨yK,l⟩,⟨yL,b⟩,⟨yL,[e]⟩]).bind fun r75=>((idx? r75.1 (0:Int)).bind fun y76=>((qdp R n_Z22 o_Z22 [⟨yK,l⟩,⟨yL,b⟩,⟨yL,[(y20,()).1]⟩]).bind fun r77=>((idx? r77.1 (0:Int)).bind fun y78=>(Z25.j2 R N a n b c d e f g h i j k (decide ((y76,()).1<(y78,()).1)) l))))))) else(Z25.l0 R N a b c d f g (w64 (h+1)) l)):=(hw _ _).trans (by kernel_rfl)
theorem Z25.l0_succ(R:Run)(hw:R.ok)(N n:Nat)(a b:List Int)(c:Int)(d:List Int)(e f:Int)(g:vK):Z25.l0 R N (n+1) a b c d e f g=(bif (decide (f<e)) then((idx? d f).bind fun y8=>((chk (decide (0≤f)&&decide (f≤(List.length b:Int)))).bind fun _=>(Z25.l1 R N n N a b c ((y8,()).1) d e f (List.take (Int.toNat f) b) (List.length (List.take (Int.toNat f) b):Int) (0:Int) g))) else some ⟨o_Z25,(c,())⟩):=(hw _ _).trans (by kernel_rfl)
theorem Z25.ev(R:Run)(N:Nat)(a0:vK)(a1 a2:List Int):qos E R sg_Z25 pol_Z25 F_Z25 N [⟨yK,a0⟩,⟨yL,a1⟩,⟨yL,a2⟩]=(Z25.l0 R N N a1 a2 (0:Int) a2 (List.length a2:Int) (0:Int) a0):=by kernel_rfl
theorem Z14.ev(R:Run)(N:Nat)(a0 a1:Int):qos E R sg_Z14 pol_Z14 F_Z14 N [⟨yI,a0⟩,⟨yI,a1⟩]=(bif ((Int.tmod a0 (2:Int))==(0:Int)) then some ⟨o_Z14,((1:Int),())⟩ else some ⟨o_Z14,((w64 (a1-1)),())⟩):=by kernel_rfl
def Z15.l0(R:Run)(N n:Nat)(a:List Int)(b:Int)(e f g:List Int)(h i:Int)(j k:vK)(l m o p q r:Int)(s:List Int):Option Dv:=R.w (some ⟨(V.dead::(V.dead::(.c (.d yL a)::(V.dead::(.c (.d yI b)::(.c (.box 5 0)::(.c (.box 6 0)::(zd 3 (.c (.box 10 0)::(.c (.d yL e)::(.c (.d yL f)::(.c (.box 13 0)::(zd 17 (.c (.d yL g)::(.c (.d yI h)::(.c (.d yI i)::(zd 40 []))))))))))))))))),(zo 5 (some (.box [.d yK j] false false)::(some (.box [.d yK k] false false)::(zo 3 (some (.box [.d yI l,.d yI m,.d yI o,.nils yI] false false)::(none::(none::(some (.box [.d yI p,.d yI q,.d yI r,.arr 79] false false)::(zo 65 (some (.arr yI s true false false)::[]))))))))))⟩) fun st=>lC R pol_Z15 4 N [1,1,1,0,1,0,0] F_Z15 n st (kB R pol_Z15 0 (kS R pol_Z15 12 N [1,1,1,1] F_Z15 (qo8 E sg_Z15 F_Z15)))
theorem Z15.l0_succ(R:Run)(hw:R.ok)(N n:Nat)(a:List Int)(b:Int)(c d e:List Int)(f g:Int)(h i:vK)(j k l m o p:Int)(q:List Int):Z15.l0 R N (n+1) a b c d e f g h i j k l m o p q=(bif (decide (g<f)) then((idx? e g).bind fun y22=>((idx? h (y22,()).1).bind fun y23=>((qdp R n_Z22 o_Z22 [⟨yK,h⟩,⟨yL,a⟩,⟨yL,(y23,()).1⟩]).bind fun r24=>(bif ((List.length r24.1:Int)==(List.length (y23,()).1:Int)) then((qdp R n_Z24 o_Z24 [⟨yK,i⟩,⟨yL,r24.1⟩]).bind fun r25=>((qdp R n_Z60 o_Z60 [⟨yL,d⟩,⟨yI,r25.1⟩]).bind fun r26=>((qdp R n_Z25 o_Z25 [⟨yK,h⟩,⟨yL,a⟩,⟨yL,(y23,()).1⟩]).bind fun r27=>((qdp R n_Z14 o_Z14 [⟨yI,r27.1⟩,⟨yI,b⟩]).bind fun r28=>((chk (decide (0≤(w64 ((w64 (r26.1*(List.length c:Int)))+g)))&&decide ((w64 ((w64 (r26.1*(List.length c:Int)))+g))<(List.length q:Int)))).bind fun _=>(Z15.l0 R N n a b c d e f (w64 (g+1)) h i j k l m o p (List.set q (Int.toNat (w64 ((w64 (r26.1*(List.length c:Int)))+g))) r28.1))))))) else(Z15.l0 R N n a b c d e f (w64 (g+1)) h i j k l m o p q))))) else some ⟨o_Z15,(m,o,p,q,())⟩):=(hw _ _).trans (by kernel_rfl)
theorem Z15.ev(R:Run)(N:Nat)(a0 a1:vK)(a2:List Int)(a3 a4:Int):qos E R sg_Z15 pol_Z15 F_Z15 N [⟨yK,a0⟩,⟨yK,a1⟩,⟨yL,a2⟩,⟨yI,a3⟩,⟨yI,a4⟩]=((qdp R n_Z32 o_Z32 [⟨yK,a0⟩,⟨yI,a3⟩]).bind fun r1=>((qdp R n_Z32 o_Z32 [⟨yK,a1⟩,⟨yI,a3⟩]).bind fun r2=>((qdp R n_Z34 o_Z34 [⟨yL,r2.1⟩]).bind fun r3=>((qdp R n_Z34 o_Z34 [⟨yL,r1.1⟩]).bind fun r4=>((qdp R n_Z37 o_Z37 [⟨yI,a4⟩,⟨yI,r3.1⟩,⟨yI,r4.1⟩]).bind fun r5=>(Z15.l0 R N N a2 a4 r1.1 r2.1 r1.1 (List.length r1.1:Int) (0:Int) a0 a1 (0:Int) (0:Int) (0:Int) r5.1 r5.2.1 r5.2.2.1 r5.2.2.2.1)))))):=by kernel_rfl
theorem Z5.ev(R:Run)(N:Nat)(a0 a1:vK)(a2:List Int)(a3 a4:Int):qos E R sg_Z5 pol_Z5 F_Z5 N [⟨yK,a0⟩,⟨yK,a1⟩,⟨yL,a2⟩,⟨yI,a3⟩,⟨yI,a4⟩]=((qdp R n_Z16 o_Z16 [⟨yK,a0⟩,⟨yK,a1⟩,⟨yL,a2⟩,⟨yI,a3⟩,⟨yI,a4⟩,⟨yI,(0:Int)⟩]).bind fun r1=>(bif (r1.1 != (0:Int)) then some ⟨o_Z5,((0:Int),(0:Int),(0:Int),([]:List Int),r1.1,())⟩ else((qdp R n_Z15 o_Z15 [⟨yK,a0⟩,⟨yK,a1⟩,⟨yL,a2⟩,⟨yI,a3⟩,⟨yI,a4⟩]).bind fun r2=>some ⟨o_Z5,(r2.1,r2.2.1,r2.2.2.1,r2.2.2.2.1,(0:Int),())⟩))):=by kernel_rfl
theorem Z7.ev(R:Run)(N:Nat)(a0 a1:vK)(a2:List Int):qos E R sg_Z7 pol_Z7 F_Z7 N [⟨yK,a0⟩,⟨yK,a1⟩,⟨yL,a2⟩]=((qdp R n_Z9 o_Z9 [⟨yK,a0⟩]).bind fun r1=>(bif r1.1 then((qdp R n_Z9 o_Z9 [⟨yK,a1⟩]).bind fun r2=>(bif r2.1 then((qdp R n_Z27 o_Z27 [⟨yK,a0⟩,⟨yK,a1⟩,⟨yL,a2⟩]).bind fun r3=>some ⟨o_Z7,(r3.1,())⟩) else some ⟨o_Z7,(false,())⟩)) else some ⟨o_Z7,(false,())⟩)):=by kernel_rfl
theorem Z72.ev(R:Run)(N:Nat)(a0 a1 a2:Int):qos E R sg_Z72 pol_Z72 F_Z72 N [⟨yI,a0⟩,⟨yI,a1⟩,⟨yI,a2⟩]=(bif (decide (a0≥a1)) then some ⟨o_Z72,((decide (a0≤a2)),())⟩ else some ⟨o_Z72,(false,())⟩):=by kernel_rfl
def Z75.j1(R:Run)(N a:Nat)(b:List Int)(e f g:Int)(h:Bool):Option Dv:=R.w (some ⟨(.c (.d yL b)::(.c (.d yI e)::(.c (.d yI f)::(zd 4 (.c (.d yI g)::(zd 29 (.c (.d .bool h)::[]))))))),(zo 41 [])⟩) fun st=>eC R pol_Z75 N [1,0,1,0,0,1,0,0,1] F_Z75 st (kB R pol_Z75 1 (kS R pol_Z75 3 N [1,0,1,0,0,1,1] F_Z75 (kL R pol_Z75 2 N [1,0,1,0,0] F_Z75 a (kB R pol_Z75 0 (kS R pol_Z75 6 N [1,1] F_Z75 (qo8 E sg_Z75 F_Z75))))))
def Z75.l0(R:Run)(N n:Nat)(a:List Int)(b e f:Int):Option Dv:=R.w (some ⟨(.c (.d yL a)::(.c (.d yI b)::(.c (.d yI e)::(zd 4 (.c (.d yI f)::(zd 30 [])))))),(zo 41 [])⟩) fun st=>lC R pol_Z75 2 N [1,0,1,0,0] F_Z75 n st (kB R pol_Z75 0 (kS R pol_Z75 6 N [1,1] F_Z75 (qo8 E sg_Z75 F_Z75)))
theorem Z75.j1_eq(R:Run)(hw:R.ok)(N a:Nat)(b:List Int)(c d e:Int)(f:Bool):Z75.j1 R N a b c d e f=(bif f then some ⟨o_Z75,(false,())⟩ else(Z75.l0 R N a b c d (w64 (e+1)))):=(hw _ _).trans (by kernel_rfl)
theorem Z75.l0_succ(R:Run)(hw:R.ok)(N n:Nat)(a:List Int)(b c d:Int):Z75.l0 R N (n+1) a b c d=(bif (decide (d<(List.length a:Int))) then((idx? a d).bind fun y5=>((qdp R n_Z72 o_Z72 [⟨yI,(y5,()).1⟩,⟨yI,b⟩,⟨yI,c⟩]).bind fun r6=>(bif (!r6.1) then(Z75.j1 R N n a b c d true) else(bif (decide (d>(0:Int))) then((idx? a (w64 (d-1))).bind fun y16=>((idx? a d).bind fun y17=>(Z75.j1 R N n a b c d (decide ((y16,()).1≥(y17,()).1))))) else(Z75.j1 R N n a b c d false))))) else some ⟨o_Z75,(true,())⟩):=(hw _ _).trans (by kernel_rfl)
theorem Z75.ev(R:Run)(N:Nat)(a0:List Int)(a1 a2:Int):qos E R sg_Z75 pol_Z75 F_Z75 N [⟨yL,a0⟩,⟨yI,a1⟩,⟨yI,a2⟩]=(Z75.l0 R N N a0 a1 a2 (0:Int)):=by kernel_rfl
theorem Z100.ev(R:Run)(N:Nat)(a0:List Int):qos E R sg_Z100 pol_Z100 F_Z100 N [⟨yL,a0⟩]=((qdp R n_Z72 o_Z72 [⟨yI,(List.length a0:Int)⟩,⟨yI,(1:Int)⟩,⟨yI,(4:Int)⟩]).bind fun r1=>(bif r1.1 then((qdp R n_Z75 o_Z75 [⟨yL,a0⟩,⟨yI,(0:Int)⟩,⟨yI,(9:Int)⟩]).bind fun r2=>some ⟨o_Z100,(r2.1,())⟩) else some ⟨o_Z100,(false,())⟩)):=by kernel_rfl
def Z98.j3(R:Run)(N a b:Nat)(e:(vK×Unit))(f:Int)(g:List Int)(h:Int)(i:Bool):Option Dv:=R.w (some ⟨(.c (.ip yC e 0)::(V.dead::(V.dead::(.c (.d yI f)::(.c (.d yL g)::(.c (.d yI h)::(zd 50 (.c (.d .bool i)::(zd 8 []))))))))),(zo 66 [])⟩) fun st=>eC R pol_Z98 N [1,1,0,1,0,0,1,0,0,1,1,1,0,0,0,1] F_Z98 st (kS R pol_Z98 12 N [1,1,0,1,0,0,1,0,0,1,1,1,0,0,1] F_Z98 (kL R pol_Z98 10 N [1,1,0,1,0,0,1,0,0,1,1,1,0,0] F_Z98 b (kB R pol_Z98 2 (kB R pol_Z98 1 (q1_1 R N (q1_5 R N a (kB R pol_Z98 0 (q1_2 R N (qo8 E sg_Z98 F_Z98)))))))))
def Z98.l2(R:Run)(N a n:Nat)(b:(vK×Unit))(e:Int)(f:List Int)(g:Int):Option Dv:=R.w (some ⟨(.c (.ip yC b 0)::(V.dead::(V.dead::(.c (.d yI e)::(.c (.d yL f)::(.c (.d yI g)::(zd 59 []))))))),(zo 66 [])⟩) fun st=>lC R pol_Z98 10 N [1,1,0,1,0,0,1,0,0,1,1,1,0,0] F_Z98 n st (kB R pol_Z98 2 (kB R pol_Z98 1 (q1_1 R N (q1_5 R N a (kB R pol_Z98 0 (q1_2 R N (qo8 E sg_Z98 F_Z98)))))))
def Z98.j1(R:Run)(N a:Nat)(b:(vK×Unit))(e:Int)(f:List Int)(g:Bool):Option Dv:=R.w (some ⟨(.c (.ip yC b 0)::(V.dead::(V.dead::(.c (.d yI e)::(.c (.d yL f)::(zd 42 (.c (.d .bool g)::(zd 17 [])))))))),(zo 66 [])⟩) fun st=>eC R pol_Z98 N [1,1,0,1,0,0,1,0,0,1,0,1] F_Z98 st (kS R pol_Z98 9 N [1,1,0,1,0,0,1,0,0,1,1] F_Z98 (kB R pol_Z98 1 (q1_1 R N (q1_5 R N a (kB R pol_Z98 0 (q1_2 R N (qo8 E sg_Z98 F_Z98)))))))
def Z98.l0(R:Run)(N n:Nat)(a:(vK×Unit))(b:Int):Option Dv:=R.w (some ⟨(.c (.ip yC a 0)::(V.dead::(V.dead::(.c (.d yI b)::(zd 61 []))))),(zo 66 [])⟩) fun st=>lC R pol_Z98 4 N [1,1,0,1,0,0] F_Z98 n st (kB R pol_Z98 0 (q1_2 R N (qo8 E sg_Z98 F_Z98)))
theorem Z98.j3_eq(R:Run)(hw:R.ok)(N a b:Nat)(c:(vK×Unit))(d:Int)(e:List Int)(f:Int)(g:Bool):Z98.j3 R N a b c d e f g=(bif g then((qdp R n_Z94 o_Z94 [⟨yL,e⟩,⟨yI,f⟩]).bind fun r18=>((qdp R n_Z96 o_Z96 [⟨(.ptr yC),c⟩,⟨yL,r18.1⟩]).bind fun r19=>(bif (decide (r19.1<(0:Int))) then some ⟨o_Z98,(false,())⟩ else(Z98.l2 R N a b c d e (w64 (f+1)))))) else(Z98.l0 R N a c (w64 (d+1)))):=(hw _ _).trans (by kernel_rfl)
theorem Z98.l2_succ(R:Run)(hw:R.ok)(N a n:Nat)(b:(vK×Unit))(c:Int)(d:List Int)(e:Int):Z98.l2 R N a (n+1) b c d e=(bif (decide (e<(List.length d:Int))) then(Z98.j3 R N a n b c d e (decide ((List.length d:Int)>(1:Int)))) else(Z98.j3 R N a n b c d e false)):=(hw _ _).trans (by kernel_rfl)
theorem Z98.j1_eq(R:Run)(hw:R.ok)(N a:Nat)(b:(vK×Unit))(c:Int)(d:List Int)(e:Bool):Z98.j1 R N a b c d e=(bif e then some ⟨o_Z98,(false,())⟩ else(Z98.l2 R N a N b c d (0:Int))):=(hw _ _).trans (by kernel_rfl)
theorem Z98.l0_succ(R:Run)(hw:R.ok)(N n:Nat)(a:(vK×Unit))(b:Int):Z98.l0 R N (n+1) a b=(bif (decide (b<(List.length a.1:Int))) then((idx? a.1 b).bind fun y3=>((qdp R n_Z100 o_Z100 [⟨yL,(y3,()).1⟩]).bind fun r4=>(bif (!r4.1) then(Z98.j1 R N n a b ((y3,()).1) true) else(bif (decide (b>(0:Int))) then((idx? a.1 (w64 (b-1))).bind fun y31=>((qdp R n_Z88 o_Z88 [⟨yL,(y31,()).1⟩,⟨yL,(y3,()).1⟩]).bind fun r32=>(Z98.j1 R N n a b ((y3,()).1) (!r32.1)))) else(Z98.j1 R N n a b ((y3,()).1) false))))) else some ⟨o_Z98,(true,())⟩):=(hw _ _).trans (by kernel_rfl)
theorem Z98.ev(R:Run)(N:Nat)(a0:(vK×Unit)):qos E R sg_Z98 pol_Z98 F_Z98 N [⟨(.ptr yC),a0⟩]=(bif (decide ((List.length a0.1:Int)>(48:Int))) then some ⟨o_Z98,(false,())⟩ else(Z98.l0 R N N a0 (0:Int))):=by kernel_rfl
def Z109.l0(R:Run)(N n:Nat)(a b:(vK×Unit))(e f:List Int)(g:Int):Option Dv:=R.w (some ⟨(.c (.ip yC a 0)::(.c (.ip yC b 0)::(.c (.d yL e)::(zd 4 (.c (.d yL f)::(.c (.d yI g)::(zd 26 []))))))),(zo 38 [])⟩) fun st=>lC R pol_Z109 3 N [1,1,0,1,0,0] F_Z109 n st (kB R pol_Z109 0 (kS R pol_Z109 7 N [1,1,1] F_Z109 (qo8 E sg_Z109 F_Z109)))
theorem Z109.l0_succ(R:Run)(hw:R.ok)(N n:Nat)(a b:(vK×Unit))(c d:List Int)(e:Int):Z109.l0 R N (n+1) a b c d e=(bif (decide (e<(List.length c:Int))) then((idx? c e).bind fun y7=>((qdp R n_Z72 o_Z72 [⟨yI,(y7,()).1⟩,⟨yI,(0:Int)⟩,⟨yI,(9:Int)⟩]).bind fun r8=>(bif (!r8.1) then some ⟨o_Z109,(false,())⟩ else(Z109.l0 R N n a b c d (w64 (e+1)))))) else(bif ((List.length c:Int)==(List.length d:Int)) then((qdp R n_Z107 o_Z107 [⟨(.ptr yC),a⟩,⟨(.ptr yC),b⟩,⟨yL,d⟩,⟨yL,c⟩]).bind fun r14=>some ⟨o_Z109,(r14.1,())⟩) else some ⟨o_Z109,(false,())⟩)):=(hw _ _).trans (by kernel_rfl)
theorem Z109.ev(R:Run)(N:Nat)(a0 a1:(vK×Unit))(a2:List Int):qos E R sg_Z109 pol_Z109 F_Z109 N [⟨(.ptr yC),a0⟩,⟨(.ptr yC),a1⟩,⟨yL,a2⟩]=((qdp R n_Z111 o_Z111 [⟨(.ptr yC),a0⟩]).bind fun r1=>(Z109.l0 R N N a0 a1 a2 r1.1 (0:Int))):=by kernel_rfl
theorem Z66.ev(R:Run)(N:Nat)(a0 a1:vK)(a2:List Int):qos E R sg_Z66 pol_Z66 F_Z66 N [⟨yK,a0⟩,⟨yK,a1⟩,⟨yL,a2⟩]=((qdp R n_Z98 o_Z98 [⟨(.ptr yC),(a0,())⟩]).bind fun r1=>(bif r1.1 then((qdp R n_Z98 o_Z98 [⟨(.ptr yC),(a1,())⟩]).bind fun r2=>(bif r2.1 then((qdp R n_Z109 o_Z109 [⟨(.ptr yC),(a0,())⟩,⟨(.ptr yC),(a1,())⟩,⟨yL,a2⟩]).bind fun r3=>some ⟨o_Z66,(r3.1,())⟩) else some ⟨o_Z66,(false,())⟩)) else some ⟨o_Z66,(false,())⟩)):=by kernel_rfl
def Z43.j0(R:Run)(N:Nat)(a:List Int)(b:Bool):Option Dv:=R.w (some ⟨(.c (.d yL a)::(zd 3 (.c (.d .bool b)::(zd 3 [])))),(zo 9 [])⟩) fun st=>eC R pol_Z43 N [1,0,1] F_Z43 st (kS R pol_Z43 3 N [1,1] F_Z43 (qo8 E sg_Z43 F_Z43))
theorem Z43.j0_eq(R:Run)(hw:R.ok)(N:Nat)(a:List Int)(b:Bool):Z43.j0 R N a b=(bif b then some ⟨o_Z43,(([]:List Int),())⟩ else((chk (decide ((List.length ([]:List Int)+List.length a)*8≤70368744177664))).bind fun _=>some ⟨o_Z43,((([]:List Int)++a),())⟩)):=(hw _ _).trans (by kernel_rfl)
theorem Z43.ev(R:Run)(N:Nat)(a0:List Int):qos E R sg_Z43 pol_Z43 F_Z43 N [⟨yL,a0⟩]=(bif (List.isEmpty a0) then(qnn (Z43.j0 R N a0 true) (Z43.j0 R N a0 false)) else(Z43.j0 R N a0 false)):=by kernel_rfl
def Z18.l0(R:Run)(N n:Nat)(a:vK)(b e:Int)(f:vK):Option Dv:=R.w (some ⟨(zd 3 (.c (.arr 16)::(V.dead::(V.dead::(.c (.d yK a)::(.c (.d yI b)::(.c (.d yI e)::(zd 10 [])))))))),(zo 16 (some (.arr yL f true false false)::(zo 4 [])))⟩) fun st=>lC R pol_Z18 3 N [1,1,0,1,0,0] F_Z18 n st (kB R pol_Z18 0 (kS R pol_Z18 7 N [1,1,1] F_Z18 (qo8 E sg_Z18 F_Z18)))
theorem Z18.l0_succ(R:Run)(hw:R.ok)(N n:Nat)(a:vK)(b c:Int)(d:vK):Z18.l0 R N (n+1) a b c d=(bif (decide (c<b)) then((idx? a c).bind fun y5=>((qdp R n_Z43 o_Z43 [⟨yL,(y5,()).1⟩]).bind fun r6=>((chk (decide ((List.length d+List.length [r6.1])*24≤70368744177664))).bind fun _=>(Z18.l0 R N n a b (w64 (c+1)) (d++[r6.1]))))) else some ⟨o_Z18,(d,())⟩):=(hw _ _).trans (by kernel_rfl)
theorem Z18.ev(R:Run)(N:Nat)(a0:vK):qos E R sg_Z18 pol_Z18 F_Z18 N [⟨yK,a0⟩]=(Z18.l0 R N N a0 (List.length a0:Int) (0:Int) ([]:List (List Int))):=by kernel_rfl
def Z53.l0(R:Run)(N n:Nat)(a b:List Int)(e f:Int):Option Dv:=R.w (some ⟨(.c (.d yL a)::(.c (.d yL b)::(zd 10 (.c (.d yI e)::(.c (.d yI f)::(zd 12 [])))))),(zo 28 [])⟩) fun st=>lC R pol_Z53 4 N [1,1,0,1,0,0] F_Z53 n st (kB R pol_Z53 0 (kS R pol_Z53 9 N [1,1,1] F_Z53 (qo8 E sg_Z53 F_Z53)))
theorem Z53.l0_succ(R:Run)(hw:R.ok)(N n:Nat)(a b:List Int)(c d:Int):Z53.l0 R N (n+1) a b c d=(bif (decide (d<c)) then((idx? a d).bind fun y5=>((idx? b d).bind fun y6=>(bif ((y5,()).1 != (y6,()).1) then some ⟨o_Z53,(false,())⟩ else(Z53.l0 R N n a b c (w64 (d+1)))))) else some ⟨o_Z53,(true,())⟩):=(hw _ _).trans (by kernel_rfl)
theorem Z53.ev(R:Run)(N:Nat)(a0 a1:List Int):qos E R sg_Z53 pol_Z53 F_Z53 N [⟨yL,a0⟩,⟨yL,a1⟩]=(bif ((List.length a0:Int) != (List.length a1:Int)) then some ⟨o_Z53,(false,())⟩ else(Z53.l0 R N N a0 a1 (List.length a0:Int) (0:Int))):=by kernel_rfl
theorem Z23.ev(R:Run)(N:Nat)(a0:vK):qos E R sg_Z23 pol_Z23 F_Z23 N [⟨yK,a0⟩]=((qdp R n_Z18 o_Z18 [⟨yK,a0⟩]).bind fun r1=>((qdp R n_Z61 o_Z61 [⟨yK,r1.1⟩,⟨(.fn n_Z17 .nil),()⟩]).bind fun r2=>((qdp R n_Z44 o_Z44 [⟨yK,r2.1⟩,⟨(.fn n_Z53 .nil),()⟩]).bind fun r3=>some ⟨o_Z23,(r3.1,())⟩))):=by kernel_rfl
def Z8.l0(R:Run)(N n:Nat)(a:List Int)(b:vK)(e f:Int)(g h:vK):Option Dv:=R.w (some ⟨(V.dead::(V.dead::(.c (.d yL a)::(.c (.box 3 0)::(V.dead::(V.dead::(.c (.box 6 0)::(V.dead::(V.dead::(.c (.arr 33)::(zd 11 (.c (.d yK b)::(.c (.d yI e)::(.c (.d yI f)::(zd 13 []))))))))))))))),(zo 3 (some (.box [.d yK g] false false)::(none::(none::(some (.box [.nils yL] false false)::(zo 26 (some (.arr yL h true false false)::(zo 8 []))))))))⟩) fun st=>lC R pol_Z8 6 N [1,1,1,0,1,0,0] F_Z8 n st (kB R pol_Z8 0 (kS R pol_Z8 10 N [1,1,1,1] F_Z8 (qo8 E sg_Z8 F_Z8)))
theorem Z8.l0_succ(R:Run)(hw:R.ok)(N n:Nat)(a:List Int)(b:vK)(c d:Int)(e f:vK):Z8.l0 R N (n+1) a b c d e f=(bif (decide (d<c)) then((idx? b d).bind fun y8=>((qdp R n_Z22 o_Z22 [⟨yK,e⟩,⟨yL,a⟩,⟨yL,(y8,()).1⟩]).bind fun r9=>((chk (decide ((List.length f+List.length [r9.1])*24≤70368744177664))).bind fun _=>(Z8.l0 R N n a b c (w64 (d+1)) e (f++[r9.1]))))) else((qdp R n_Z23 o_Z23 [⟨yK,f⟩]).bind fun r16=>some ⟨o_Z8,(r16.1,(0:Int),())⟩)):=(hw _ _).trans (by kernel_rfl)
theorem Z8.ev(R:Run)(N:Nat)(a0 a1:vK)(a2:List Int):qos E R sg_Z8 pol_Z8 F_Z8 N [⟨yK,a0⟩,⟨yK,a1⟩,⟨yL,a2⟩]=((qdp R n_Z31 o_Z31 [⟨yK,a0⟩,⟨yK,a1⟩,⟨yL,a2⟩]).bind fun r1=>(bif (r1.1 != (0:Int)) then some ⟨o_Z8,(([]:List (List Int)),r1.1,())⟩ else(Z8.l0 R N N a2 a0 (List.length a0:Int) (0:Int) a0 ([]:List (List Int))))):=by kernel_rfl
theorem Z33.ev(R:Run)(N:Nat)(a0:vK):qos E R sg_Z33 pol_Z33 F_Z33 N [⟨yK,a0⟩]=some ⟨o_Z33,((List.length a0:Int),())⟩:=by kernel_rfl
def Z6.l0(R:Run)(N n:Nat)(a:List Int)(b:Int)(e:vK)(f g:Int)(h i:vK)(j:List Int):Option Dv:=R.w (some ⟨(V.dead::(V.dead::(.c (.d yL a)::(.c (.d yI b)::(.c (.box 4 0)::(.c (.box 5 0)::(zd 5 (.c (.arr 49)::(zd 17 (.c (.d yK e)::(.c (.d yI f)::(.c (.d yI g)::(zd 20 []))))))))))))),(zo 4 (some (.box [.d yK h] false false)::(some (.box [.d yK i] false false)::(zo 43 (some (.arr yI j true false false)::(zo 6 []))))))⟩) fun st=>lC R pol_Z6 8 N [1,1,1,1,0,1,0,0] F_Z6 n st (kB R pol_Z6 0 (kS R pol_Z6 13 N [1,1,1,1,1] F_Z6 (qo8 E sg_Z6 F_Z6)))
theorem Z6.l0_succ(R:Run)(hw:R.ok)(N n:Nat)(a:List Int)(b:Int)(c:vK)(d e:Int)(f g:vK)(h:List Int):Z6.l0 R N (n+1) a b c d e f g h=(bif (decide (e<d)) then((idx? c e).bind fun y12=>((idx? g b).bind fun y13=>((qdp R n_Z22 o_Z22 [⟨yK,f⟩,⟨yL,a⟩,⟨yL,(y12,()).1⟩]).bind fun r14=>((qdp R n_Z53 o_Z53 [⟨yL,r14.1⟩,⟨yL,(y13,()).1⟩]).bind fun r15=>(bif r15.1 then((chk (decide ((List.length h+List.length [e])*8≤70368744177664))).bind fun _=>(Z6.l0 R N n a b c d (w64 (e+1)) f g (h++[e]))) else(Z6.l0 R N n a b c d (w64 (e+1)) f g h)))))) else some ⟨o_Z6,(h,(0:Int),())⟩):=(hw _ _).trans (by kernel_rfl)
theorem Z6.ev(R:Run)(N:Nat)(a0 a1:vK)(a2:List Int)(a3:Int):qos E R sg_Z6 pol_Z6 F_Z6 N [⟨yK,a0⟩,⟨yK,a1⟩,⟨yL,a2⟩,⟨yI,a3⟩]=((qdp R n_Z31 o_Z31 [⟨yK,a0⟩,⟨yK,a1⟩,⟨yL,a2⟩]).bind fun r1=>(bif (r1.1 != (0:Int)) then some ⟨o_Z6,(([]:List Int),r1.1,())⟩ else((qdp R n_Z33 o_Z33 [⟨yK,a1⟩]).bind fun r2=>((qdp R n_Z36 o_Z36 [⟨yI,a3⟩,⟨yI,(0:Int)⟩,⟨yI,(w64 (r2.1-(1:Int)))⟩]).bind fun r3=>(bif (!r3.1) then some ⟨o_Z6,(([]:List Int),(2:Int),())⟩ else(Z6.l0 R N N a2 a3 a0 (List.length a0:Int) (0:Int) a0 a1 ([]:List Int))))))):=by kernel_rfl
def Z65.j0(R:Run)(N:Nat)(a:List Int)(b:Bool)(e:vK):Option Dv:=R.w (some ⟨(V.dead::(.c (.d yL a)::(.c (.box 2 0)::(zd 10 (.c (.d .bool b)::(zd 5 [])))))),(none::(none::(some (.box [.d yK e] false false)::(zo 18 []))))⟩) fun st=>eC R pol_Z65 N [1,0,1] F_Z65 st (kS R pol_Z65 3 N [1,1] F_Z65 (qo8 E sg_Z65 F_Z65))
theorem Z65.j0_eq(R:Run)(hw:R.ok)(N:Nat)(a:List Int)(b:Bool)(c:vK):Z65.j0 R N a b c=(bif b then some ⟨o_Z65,((0:Int),(1:Int),())⟩ else((qdp R n_Z96 o_Z96 [⟨(.ptr yC),(c,())⟩,⟨yL,a⟩]).bind fun r5=>(bif (decide (r5.1<(0:Int))) then some ⟨o_Z65,((0:Int),(3:Int),())⟩ else some ⟨o_Z65,(r5.1,(0:Int),())⟩))):=(hw _ _).trans (by kernel_rfl)
theorem Z65.ev(R:Run)(N:Nat)(a0:vK)(a1:List Int):qos E R sg_Z65 pol_Z65 F_Z65 N [⟨yK,a0⟩,⟨yL,a1⟩]=((qdp R n_Z98 o_Z98 [⟨(.ptr yC),(a0,())⟩]).bind fun r1=>(bif (!r1.1) then(Z65.j0 R N a1 true a0) else((qdp R n_Z100 o_Z100 [⟨yL,a1⟩]).bind fun r6=>(Z65.j0 R N a1 (!r6.1) a0)))):=by kernel_rfl
def Z81.l0(R:Run)(N n:Nat)(a b:Int):Option Dv:=R.w (some ⟨(.c (.d yI a)::(V.dead::(V.dead::(.c (.d yI b)::(zd 14 []))))),(zo 19 [])⟩) fun st=>lC R pol_Z81 4 N [1,1,0,1,0,0] F_Z81 n st (kB R pol_Z81 0 (kS R pol_Z81 8 N [1,1,1] F_Z81 (qo8 E sg_Z81 F_Z81)))
theorem Z81.l0_succ(R:Run)(hw:R.ok)(N n:Nat)(a b:Int):Z81.l0 R N (n+1) a b=(bif (decide ((w64 (b*b))≤a)) then((chk (b != 0)).bind fun _=>(bif ((Int.tmod a b)==(0:Int)) then some ⟨o_Z81,(false,())⟩ else(Z81.l0 R N n a (w64 (b+1))))) else some ⟨o_Z81,(true,())⟩):=(hw _ _).trans (by kernel_rfl)
theorem Z81.ev(R:Run)(N:Nat)(a0:Int):qos E R sg_Z81 pol_Z81 F_Z81 N [⟨yI,a0⟩]=((qdp R n_Z72 o_Z72 [⟨yI,a0⟩,⟨yI,(2:Int)⟩,⟨yI,(251:Int)⟩]).bind fun r1=>(bif (!r1.1) then some ⟨o_Z81,(false,())⟩ else(Z81.l0 R N N a0 (2:Int)))):=by kernel_rfl
theorem Z70.ev(R:Run)(N:Nat)(a0:Int):qos E R sg_Z70 pol_Z70 F_Z70 N [⟨yI,a0⟩]=((qdp R n_Z81 o_Z81 [⟨yI,a0⟩]).bind fun r1=>some ⟨o_Z70,(r1.1,())⟩):=by kernel_rfl
theorem Z91.ev(R:Run)(N:Nat)(a0:Int):qos E R sg_Z91 pol_Z91 F_Z91 N [⟨yI,a0⟩]=((qdp R n_Z72 o_Z72 [⟨yI,a0⟩,⟨yI,(0:Int)⟩,⟨yI,(3:Int)⟩]).bind fun r1=>some ⟨o_Z91,(r1.1,())⟩):=by kernel_rfl
def Z97.l0(R:Run)(N n:Nat)(a:(vK×Unit))(b e:Int)(f:List Int):Option Dv:=R.w (some ⟨(.c (.ip yC a 0)::(.c (.d yI b)::(zd 3 (.c (.arr 7)::(.c (.d yI e)::(zd 26 [])))))),(zo 7 (some (.arr yI f true false false)::(zo 27 [])))⟩) fun st=>lC R pol_Z97 3 N [1,1,0,1,0,0] F_Z97 n st (kB R pol_Z97 0 (kS R pol_Z97 7 N [1,1,1] F_Z97 (qo8 E sg_Z97 F_Z97)))
theorem Z97.l0_succ(R:Run)(hw:R.ok)(N n:Nat)(a:(vK×Unit))(b c:Int)(d:List Int):Z97.l0 R N (n+1) a b c d=(bif (decide (c<(List.length a.1:Int))) then((idx? a.1 c).bind fun y5=>(bif ((List.length (y5,()).1:Int)==(w64 (b+1))) then((chk (decide ((List.length d+List.length [c])*8≤70368744177664))).bind fun _=>(Z97.l0 R N n a b (w64 (c+1)) (d++[c]))) else(Z97.l0 R N n a b (w64 (c+1)) d))) else some ⟨o_Z97,(d,())⟩):=(hw _ _).trans (by kernel_rfl)
theorem Z97.ev(R:Run)(N:Nat)(a0:(vK×Unit))(a1:Int):qos E R sg_Z97 pol_Z97 F_Z97 N [⟨(.ptr yC),a0⟩,⟨yI,a1⟩]=(Z97.l0 R N N a0 a1 (0:Int) ([]:List Int)):=by kernel_rfl
def Z101.j1(R:Run)(N:Nat)(a:Bool):Option Dv:=R.w (some ⟨(zd 38 (.c (.d .bool a)::[])),(zo 42 [])⟩) fun st=>eC R pol_Z101 N [1,1,1,0,1] F_Z101 st (kS R pol_Z101 7 N [1,1,1,1] F_Z101 (qo8 E sg_Z101 F_Z101))
def Z101.j0(R:Run)(N:Nat)(a:(vK×Unit))(b:Int)(e:Bool):Option Dv:=R.w (some ⟨(.c (.ip yC a 0)::(.c (.d yI b)::(zd 12 (.c (.d .bool e)::(zd 24 []))))),(zo 42 [])⟩) fun st=>eC R pol_Z101 N [1,0,1] F_Z101 st (kS R pol_Z101 3 N [1,1] F_Z101 (qo8 E sg_Z101 F_Z101))
theorem Z101.j1_eq(R:Run)(hw:R.ok)(N:Nat)(a:Bool):Z101.j1 R N a=(bif a then some ⟨o_Z101,((5:Int),())⟩ else some ⟨o_Z101,((0:Int),())⟩):=(hw _ _).trans (by kernel_rfl)
theorem Z101.j0_eq(R:Run)(hw:R.ok)(N:Nat)(a:(vK×Unit))(b:Int)(c:Bool):Z101.j0 R N a b c=(bif c then some ⟨o_Z101,((1:Int),())⟩ else((qdp R n_Z91 o_Z91 [⟨yI,b⟩]).bind fun r5=>(bif (!r5.1) then some ⟨o_Z101,((2:Int),())⟩ else((qdp R n_Z97 o_Z97 [⟨(.ptr yC),a⟩,⟨yI,b⟩]).bind fun r6=>(bif (decide ((List.length r6.1:Int)>(32:Int))) then(Z101.j1 R N true) else((qdp R n_Z97 o_Z97 [⟨(.ptr yC),a⟩,⟨yI,(w64 (b-1))⟩]).bind fun r8=>(bif (decide ((List.length r8.1:Int)>(32:Int))) then(Z101.j1 R N true) else((qdp R n_Z97 o_Z97 [⟨(.ptr yC),a⟩,⟨yI,(w64 (b+1))⟩]).bind fun r10=>(Z101.j1 R N (decide ((List.length r10.1:Int)>(32:Int)))))))))))):=(hw _ _).trans (by kernel_rfl)
theorem Z101.ev(R:Run)(N:Nat)(a0:(vK×Unit))(a1 a2:Int):qos E R sg_Z101 pol_Z101 F_Z101 N [⟨(.ptr yC),a0⟩,⟨yI,a1⟩,⟨yI,a2⟩]=((qdp R n_Z98 o_Z98 [⟨(.ptr yC),a0⟩]).bind fun r1=>(bif (!r1.1) then(Z101.j0 R N a0 a1 true) else((qdp R n_Z70 o_Z70 [⟨yI,a2⟩]).bind fun r12=>(Z101.j0 R N a0 a1 (!r12.1))))):=by kernel_rfl
theorem Z87.ev(R:Run)(N:Nat)(a0 a1 a2:Int):qos E R sg_Z87 pol_Z87 F_Z87 N [⟨yI,a0⟩,⟨yI,a1⟩,⟨yI,a2⟩]=((chk (decide (0≤(w64 (a1*a2)))&&decide ((w64 (a1*a2))*8≤70368744177664))).bind fun _=>some ⟨o_Z87,(a0,a1,a2,(List.replicate (Int.toNat (w64 (a1*a2))) (0:Int)),())⟩):=by kernel_rfl
def Z95.j1(R:Run)(N a:Nat)(b:(vK×Unit))(e:List Int)(f:Int)(g:Bool)(h:List Int):Option Dv:=R.w (some ⟨(.c (.ip yC b 0)::(zd 4 (.c (.d yL e)::(.c (.arr 15)::(.c (.d yI f)::(zd 16 (.c (.d .bool g)::(zd 11 [])))))))),(zo 15 (some (.arr yI h true false false)::(zo 22 [])))⟩) fun st=>eC R pol_Z95 N [1,1,1,0,1,0,0,0,1] F_Z95 st (kS R pol_Z95 6 N [1,1,1,0,1,0,0,1] F_Z95 (kL R pol_Z95 4 N [1,1,1,0,1,0,0] F_Z95 a (kB R pol_Z95 0 (kS R pol_Z95 7 N [1,1,1,1] F_Z95 (qo8 E sg_Z95 F_Z95)))))
def Z95.l0(R:Run)(N n:Nat)(a:(vK×Unit))(b:List Int)(e:Int)(f:List Int):Option Dv:=R.w (some ⟨(.c (.ip yC a 0)::(zd 4 (.c (.d yL b)::(.c (.arr 15)::(.c (.d yI e)::(zd 28 [])))))),(zo 15 (some (.arr yI f true false false)::(zo 22 [])))⟩) fun st=>lC R pol_Z95 4 N [1,1,1,0,1,0,0] F_Z95 n st (kB R pol_Z95 0 (kS R pol_Z95 7 N [1,1,1,1] F_Z95 (qo8 E sg_Z95 F_Z95)))
theorem Z95.j1_eq(R:Run)(hw:R.ok)(N a:Nat)(b:(vK×Unit))(c:List Int)(d:Int)(e:Bool)(f:List Int):Z95.j1 R N a b c d e f=(bif e then((qdp R n_Z94 o_Z94 [⟨yL,c⟩,⟨yI,d⟩]).bind fun r11=>((qdp R n_Z96 o_Z96 [⟨(.ptr yC),b⟩,⟨yL,r11.1⟩]).bind fun r12=>((chk (decide ((List.length f+List.length [r12.1])*8≤70368744177664))).bind fun _=>(Z95.l0 R N a b c (w64 (d+1)) (f++[r12.1]))))) else some ⟨o_Z95,(f,())⟩):=(hw _ _).trans (by kernel_rfl)
theorem Z95.l0_succ(R:Run)(hw:R.ok)(N n:Nat)(a:(vK×Unit))(b:List Int)(c:Int)(d:List Int):Z95.l0 R N (n+1) a b c d=(bif (decide (c<(List.length b:Int))) then(Z95.j1 R N n a b c (decide ((List.length b:Int)>(1:Int))) d) else(Z95.j1 R N n a b c false d)):=(hw _ _).trans (by kernel_rfl)
theorem Z95.ev(R:Run)(N:Nat)(a0:(vK×Unit))(a1:Int):qos E R sg_Z95 pol_Z95 F_Z95 N [⟨(.ptr yC),a0⟩,⟨yI,a1⟩]=((idx? a0.1 a1).bind fun y1=>(Z95.l0 R N N a0 ((y1,()).1) (0:Int) ([]:List Int))):=by kernel_rfl
theorem Z104.ev(R:Run)(N:Nat)(a0 a1:Int):qos E R sg_Z104 pol_Z104 F_Z104 N [⟨yI,a0⟩,⟨yI,a1⟩]=(bif ((Int.tmod a0 (2:Int))==(0:Int)) then((chk (a1 != 0)).bind fun _=>some ⟨o_Z104,((Int.tmod (1:Int) a1),())⟩) else some ⟨o_Z104,((w64 (a1-1)),())⟩):=by kernel_rfl
def Z102.l2(R:Run)(N a n:Nat)(b:(vK×Unit))(e f:Int)(g h:List Int)(i:Int)(j:List Int)(k l m o p q r:Int)(s:List Int):Option Dv:=R.w (some ⟨(.c (.ip yC b 0)::(.c (.d yI e)::(.c (.d yI f)::(zd 3 (.c (.box 6 0)::(.c (.d yL g)::(.c (.d yL h)::(.c (.box 9 0)::(.c (.d yI i)::(.c (.d yL j)::(.c (.d yI k)::(zd 55 [])))))))))))),(zo 6 (some (.box [.d yI l,.d yI m,.d yI o,.nils yI] false false)::(none::(none::(some (.box [.d yI p,.d yI q,.d yI r,.arr 71] false false)::(zo 61 (some (.arr yI s true false false)::[])))))))⟩) fun st=>lC R pol_Z102 9 N [1,1,1,1,0,1,0,0,1,0,0,1,1,0,0] F_Z102 n st (kB R pol_Z102 2 (kB R pol_Z102 1 (kS R pol_Z102 6 N [1,1,1,1,0,1,0,0,1,1] F_Z102 (kL R pol_Z102 5 N [1,1,1,1,0,1,0,0] F_Z102 a (kB R pol_Z102 0 (q1_3 R N (qo8 E sg_Z102 F_Z102)))))))
def Z102.j1(R:Run)(N a:Nat)(b:(vK×Unit))(e f:Int)(g h:List Int)(i:Int)(j:Bool)(k l m o p q:Int)(r:List Int):Option Dv:=R.w (some ⟨(.c (.ip yC b 0)::(.c (.d yI e)::(.c (.d yI f)::(zd 3 (.c (.box 6 0)::(.c (.d yL g)::(.c (.d yL h)::(.c (.box 9 0)::(.c (.d yI i)::(zd 22 (.c (.d .bool j)::(zd 34 [])))))))))))),(zo 6 (some (.box [.d yI k,.d yI l,.d yI m,.nils yI] false false)::(none::(none::(some (.box [.d yI o,.d yI p,.d yI q,.arr 71] false false)::(zo 61 (some (.arr yI r true false false)::[])))))))⟩) fun st=>eC R pol_Z102 N [1,1,1,1,0,1,0,0,0,1] F_Z102 st (kS R pol_Z102 7 N [1,1,1,1,0,1,0,0,1] F_Z102 (kL R pol_Z102 5 N [1,1,1,1,0,1,0,0] F_Z102 a (kB R pol_Z102 0 (q1_3 R N (qo8 E sg_Z102 F_Z102)))))
def Z102.l0(R:Run)(N n:Nat)(a:(vK×Unit))(b e:Int)(f g:List Int)(h i j k l m o:Int)(p:List Int):Option Dv:=R.w (some ⟨(.c (.ip yC a 0)::(.c (.d yI b)::(.c (.d yI e)::(zd 3 (.c (.box 6 0)::(.c (.d yL f)::(.c (.d yL g)::(.c (.box 9 0)::(.c (.d yI h)::(zd 57 [])))))))))),(zo 6 (some (.box [.d yI i,.d yI j,.d yI k,.nils yI] false false)::(none::(none::(some (.box [.d yI l,.d yI m,.d yI o,.arr 71] false false)::(zo 61 (some (.arr yI p true false false)::[])))))))⟩) fun st=>lC R pol_Z102 5 N [1,1,1,1,0,1,0,0] F_Z102 n st (kB R pol_Z102 0 (q1_3 R N (qo8 E sg_Z102 F_Z102)))
theorem Z102.l2_succ(R:Run)(hw:R.ok)(N a n:Nat)(b:(vK×Unit))(c d:Int)(e f:List Int)(g:Int)(h:List Int)(i j k l m o p:Int)(q:List Int):Z102.l2 R N a (n+1) b c d e f g h i j k l m o p q=(bif (decide (i<(List.length h:Int))) then((idx? h i).bind fun y48=>((idx? f (0:Int)).bind fun y49=>((qdp R n_Z104 o_Z104 [⟨yI,i⟩,⟨yI,d⟩]).bind fun r50=>((chk (decide (0≤(w64 ((w64 ((w64 ((y48,()).1-(y49,()).1))*p))+g)))&&decide ((w64 ((w64 ((w64 ((y48,()).1-(y49,()).1))*p))+g))<(List.length q:Int)))).bind fun _=>(Z102.l2 R N a n b c d e f g h (w64 (i+1)) j k l m o p (List.set q (Int.toNat (w64 ((w64 ((w64 ((y48,()).1-(y49,()).1))*p))+g))) r50.1)))))) else(Z102.l0 R N a b c d e f (w64 (g+1)) j k l m o p q)):=(hw _ _).trans (by kernel_rfl)
theorem Z102.j1_eq(R:Run)(hw:R.ok)(N a:Nat)(b:(vK×Unit))(c d:Int)(e f:List Int)(g:Int)(h:Bool)(i j k l m o:Int)(p:List Int):Z102.j1 R N a b c d e f g h i j k l m o p=(bif h then((idx? e g).bind fun y31=>((qdp R n_Z95 o_Z95 [⟨(.ptr yC),b⟩,⟨yI,(y31,()).1⟩]).bind fun r32=>(Z102.l2 R N a N b c d e f g r32.1 (0:Int) i j k l m o p))) else some ⟨o_Z102,(l,m,o,p,())⟩):=(hw _ _).trans (by kernel_rfl)
theorem Z102.l0_succ(R:Run)(hw:R.ok)(N n:Nat)(a:(vK×Unit))(b c:Int)(d e:List Int)(f g h i j k l:Int)(m:List Int):Z102.l0 R N (n+1) a b c d e f g h i j k l m=(bif (decide (f<(List.length d:Int))) then(Z102.j1 R N n a b c d e f (decide (b>(0:Int))) g h i j k l m) else(Z102.j1 R N n a b c d e f false g h i j k l m)):=(hw _ _).trans (by kernel_rfl)
theorem Z102.ev(R:Run)(N:Nat)(a0:(vK×Unit))(a1 a2:Int):qos E R sg_Z102 pol_Z102 F_Z102 N [⟨(.ptr yC),a0⟩,⟨yI,a1⟩,⟨yI,a2⟩]=((qdp R n_Z97 o_Z97 [⟨(.ptr yC),a0⟩,⟨yI,a1⟩]).bind fun r1=>((qdp R n_Z97 o_Z97 [⟨(.ptr yC),a0⟩,⟨yI,(w64 (a1-1))⟩]).bind fun r2=>((qdp R n_Z87 o_Z87 [⟨yI,a2⟩,⟨yI,(List.length r2.1:Int)⟩,⟨yI,(List.length r1.1:Int)⟩]).bind fun r3=>(Z102.l0 R N N a0 a1 a2 r1.1 r2.1 (0:Int) (0:Int) (0:Int) (0:Int) r3.1 r3.2.1 r3.2.2.1 r3.2.2.2.1)))):=by kernel_rfl
theorem Z63.ev(R:Run)(N:Nat)(a0:vK)(a1 a2:Int):qos E R sg_Z63 pol_Z63 F_Z63 N [⟨yK,a0⟩,⟨yI,a1⟩,⟨yI,a2⟩]=((qdp R n_Z101 o_Z101 [⟨(.ptr yC),(a0,())⟩,⟨yI,a1⟩,⟨yI,a2⟩]).bind fun r1=>(bif (r1.1 != (0:Int)) then some ⟨o_Z63,((0:Int),(0:Int),(0:Int),([]:List Int),r1.1,())⟩ else((qdp R n_Z102 o_Z102 [⟨(.ptr yC),(a0,())⟩,⟨yI,a1⟩,⟨yI,a2⟩]).bind fun r2=>some ⟨o_Z63,(r2.1,r2.2.1,r2.2.2.1,r2.2.2.2.1,(0:Int),())⟩))):=by kernel_rfl
def Z83.l0(R:Run)(N n:Nat)(a:List Int)(b e f:Int):Option Dv:=R.w (some ⟨(.c (.d yL a)::(.c (.d yI b)::(.c (.d yI e)::(zd 4 (.c (.d yI f)::(zd 18 [])))))),(zo 29 [])⟩) fun st=>lC R pol_Z83 2 N [1,0,1,0,0] F_Z83 n st (kB R pol_Z83 0 (kS R pol_Z83 6 N [1,1] F_Z83 (qo8 E sg_Z83 F_Z83)))
theorem Z83.l0_succ(R:Run)(hw:R.ok)(N n:Nat)(a:List Int)(b c d:Int):Z83.l0 R N (n+1) a b c d=(bif (decide (d<(List.length a:Int))) then((idx? a d).bind fun y5=>((qdp R n_Z72 o_Z72 [⟨yI,(y5,()).1⟩,⟨yI,(0:Int)⟩,⟨yI,(w64 (c-1))⟩]).bind fun r6=>(bif (!r6.1) then some ⟨o_Z83,(false,())⟩ else(Z83.l0 R N n a b c (w64 (d+1)))))) else some ⟨o_Z83,(((List.length a:Int)==b),())⟩):=(hw _ _).trans (by kernel_rfl)
theorem Z83.ev(R:Run)(N:Nat)(a0:List Int)(a1 a2:Int):qos E R sg_Z83 pol_Z83 F_Z83 N [⟨yL,a0⟩,⟨yI,a1⟩,⟨yI,a2⟩]=(Z83.l0 R N N a0 a1 a2 (0:Int)):=by kernel_rfl
theorem Z84.ev(R:Run)(N:Nat)(a0:vM):qos E R sg_Z84 pol_Z84 F_Z84 N [⟨(.ptr yM),a0⟩]=((qdp R n_Z70 o_Z70 [⟨yI,a0.1⟩]).bind fun r1=>(bif r1.1 then((qdp R n_Z72 o_Z72 [⟨yI,a0.2.1⟩,⟨yI,(0:Int)⟩,⟨yI,(32:Int)⟩]).bind fun r2=>(bif r2.1 then((qdp R n_Z72 o_Z72 [⟨yI,a0.2.2.1⟩,⟨yI,(0:Int)⟩,⟨yI,(32:Int)⟩]).bind fun r3=>(bif r3.1 then((qdp R n_Z83 o_Z83 [⟨yL,a0.2.2.2.1⟩,⟨yI,(w64 (a0.2.1*a0.2.2.1))⟩,⟨yI,a0.1⟩]).bind fun r4=>some ⟨o_Z84,(r4.1,())⟩) else some ⟨o_Z84,(false,())⟩)) else some ⟨o_Z84,(false,())⟩)) else some ⟨o_Z84,(false,())⟩)):=by kernel_rfl
theorem Z82.ev(R:Run)(N:Nat)(a0 a1:vM):qos E R sg_Z82 pol_Z82 F_Z82 N [⟨(.ptr yM),a0⟩,⟨(.ptr yM),a1⟩]=((qdp R n_Z84 o_Z84 [⟨(.ptr yM),a0⟩]).bind fun r1=>(bif r1.1 then((qdp R n_Z84 o_Z84 [⟨(.ptr yM),a1⟩]).bind fun r2=>some ⟨o_Z82,(r2.1,())⟩) else some ⟨o_Z82,(false,())⟩)):=by kernel_rfl
def Z86.l3(R:Run)(N a b n:Nat)(e f:vM)(g h i j k l m o p q:Int)(r:List Int):Option Dv:=R.w (some ⟨(.c (.ip yM e 0)::(.c (.ip yM f 0)::(V.dead::(V.dead::(.c (.box 4 0)::(.c (.box 5 0)::(.c (.d yI g)::(.c (.d yI h)::(.c (.d yI i)::(.c (.d yI j)::(zd 86 []))))))))))),(zo 4 (some (.box [.d yI k,.d yI l,.d yI m,.nils yI] false false)::(some (.box [.d yI o,.d yI p,.d yI q,.arr 98] false false)::(zo 92 (some (.arr yI r true false false)::[])))))⟩) fun st=>lC R pol_Z86 10 N [1,1,0,1,0,0,1,0,0,1,0,0,1,0,0,1,0,1,0,0] F_Z86 n st (kB R pol_Z86 4 (kS R pol_Z86 13 N [1,1,0,1,0,0,1,0,0,1,0,0,1,0,0,1,1] F_Z86 (kB R pol_Z86 3 (kS R pol_Z86 7 N [1,1,0,1,0,0,1,0,0,1,0,0,1,1] F_Z86 (kL R pol_Z86 6 N [1,1,0,1,0,0,1,0,0,1,0,0] F_Z86 b (kB R pol_Z86 2 (kB R pol_Z86 1 (kS R pol_Z86 4 N [1,1,0,1,0,0,1,1] F_Z86 (kL R pol_Z86 3 N [1,1,0,1,0,0] F_Z86 a (kB R pol_Z86 0 (q1_4 R N (qo8 E sg_Z86 F_Z86))))))))))))
def Z86.l2(R:Run)(N a n:Nat)(b e:vM)(f g h i j k l m:Int)(o:List Int):Option Dv:=R.w (some ⟨(.c (.ip yM b 0)::(.c (.ip yM e 0)::(V.dead::(V.dead::(.c (.box 4 0)::(.c (.box 5 0)::(.c (.d yI f)::(.c (.d yI g)::(zd 88 []))))))))),(zo 4 (some (.box [.d yI h,.d yI i,.d yI j,.nils yI] false false)::(some (.box [.d yI k,.d yI l,.d yI m,.arr 98] false false)::(zo 92 (some (.arr yI o true false false)::[])))))⟩) fun st=>lC R pol_Z86 6 N [1,1,0,1,0,0,1,0,0,1,0,0] F_Z86 n st (kB R pol_Z86 2 (kB R pol_Z86 1 (kS R pol_Z86 4 N [1,1,0,1,0,0,1,1] F_Z86 (kL R pol_Z86 3 N [1,1,0,1,0,0] F_Z86 a (kB R pol_Z86 0 (q1_4 R N (qo8 E sg_Z86 F_Z86)))))))
def Z86.l1(R:Run)(N n:Nat)(a b:vM)(e f g h i j k:Int)(l:List Int):Option Dv:=R.w (some ⟨(.c (.ip yM a 0)::(.c (.ip yM b 0)::(V.dead::(V.dead::(.c (.box 4 0)::(.c (.box 5 0)::(.c (.d yI e)::(zd 89 [])))))))),(zo 4 (some (.box [.d yI f,.d yI g,.d yI h,.nils yI] false false)::(some (.box [.d yI i,.d yI j,.d yI k,.arr 98] false false)::(zo 92 (some (.arr yI l true false false)::[])))))⟩) fun st=>lC R pol_Z86 3 N [1,1,0,1,0,0] F_Z86 n st (kB R pol_Z86 0 (q1_4 R N (qo8 E sg_Z86 F_Z86)))
def Z86.j0(R:Run)(N:Nat)(a b:vM)(e f g h i j:Int)(k:List Int):Option Dv:=R.w (some ⟨(.c (.ip yM a 0)::(.c (.ip yM b 0)::(V.dead::(V.dead::(.c (.box 4 0)::(.c (.box 5 0)::(zd 90 []))))))),(zo 4 (some (.box [.d yI e,.d yI f,.d yI g,.nils yI] false false)::(some (.box [.d yI h,.d yI i,.d yI j,.arr 98] false false)::(zo 92 (some (.arr yI k true false false)::[])))))⟩) fun st=>eC R pol_Z86 N [1,1] F_Z86 st (qo8 E sg_Z86 F_Z86)
theorem Z86.l3_succ(R:Run)(hw:R.ok)(N a b n:Nat)(c d:vM)(e f g h i j k l m o:Int)(p:List Int):Z86.l3 R N a b (n+1) c d e f g h i j k l m o p=(bif (decide (h<c.2.2.1)) then((idx? c.2.2.2.1 (w64 ((w64 (e*c.2.2.1))+h))).bind fun y45=>((idx? d.2.2.2.1 (w64 ((w64 (h*d.2.2.1))+f))).bind fun y46=>(Z86.l3 R N a b n c d e f (w64 (g+(w64 ((y45,()).1*(y46,()).1)))) (w64 (h+1)) i j k l m o p))) else((chk (c.1 != 0)).bind fun _=>((chk (decide (0≤(w64 ((w64 (e*d.2.2.1))+f)))&&decide ((w64 ((w64 (e*d.2.2.1))+f))<(List.length p:Int)))).bind fun _=>(Z86.l2 R N a b c d e (w64 (f+1)) i j k l m o (List.set p (Int.toNat (w64 ((w64 (e*d.2.2.1))+f))) (Int.tmod g c.1)))))):=(hw _ _).trans (by kernel_rfl)
theorem Z86.l2_succ(R:Run)(hw:R.ok)(N a n:Nat)(b c:vM)(d e f g h i j k:Int)(l:List Int):Z86.l2 R N a (n+1) b c d e f g h i j k l=(bif (decide (e<c.2.2.1)) then(Z86.l3 R N a n N b c d e (0:Int) (0:Int) f g h i j k l) else(Z86.l1 R N a b c (w64 (d+1)) f g h i j k l)):=(hw _ _).trans (by kernel_rfl)
theorem Z86.l1_succ(R:Run)(hw:R.ok)(N n:Nat)(a b:vM)(c d e f g h i:Int)(j:List Int):Z86.l1 R N (n+1) a b c d e f g h i j=(bif (decide (c<a.2.1)) then(Z86.l2 R N n N a b c (0:Int) d e f g h i j) else some ⟨o_Z86,(g,h,i,j,())⟩):=(hw _ _).trans (by kernel_rfl)
theorem Z86.j0_eq(R:Run)(hw:R.ok)(N:Nat)(a b:vM)(c d e f g h:Int)(i:List Int):Z86.j0 R N a b c d e f g h i=(Z86.l1 R N N a b (0:Int) c d e f g h i):=(hw _ _).trans (by kernel_rfl)
theorem Z86.ev(R:Run)(N:Nat)(a0 a1:vM):qos E R sg_Z86 pol_Z86 F_Z86 N [⟨(.ptr yM),a0⟩,⟨(.ptr yM),a1⟩]=(qnn ((qdp R n_Z87 o_Z87 [⟨yI,a0.1⟩,⟨yI,a0.2.1⟩,⟨yI,a1.2.2.1⟩]).bind fun r1=>(Z86.j0 R N a0 a1 (0:Int) (0:Int) (0:Int) r1.1 r1.2.1 r1.2.2.1 r1.2.2.2.1)) ((qdp R n_Z87 o_Z87 [⟨yI,a0.1⟩,⟨yI,a0.2.1⟩,⟨yI,a1.2.2.1⟩]).bind fun r81=>(Z86.j0 R N a0 a1 (0:Int) (0:Int) (0:Int) r81.1 r81.2.1 r81.2.2.1 r81.2.2.2.1))):=by kernel_rfl
def Z67.j0(R:Run)(N:Nat)(a:Bool)(b e f:Int)(g:List Int)(h i j:Int)(k:List Int)(l m o:Int):Option Dv:=R.w (some ⟨(V.dead::(V.dead::(.c (.box 2 0)::(.c (.box 3 0)::(.c (.box 4 0)::(zd 15 (.c (.d .bool a)::(V.dead::(V.dead::[]))))))))),(none::(none::(some (.box [.d yI b,.d yI e,.d yI f,.d yL g] false false)::(some (.box [.d yI h,.d yI i,.d yI j,.d yL k] false false)::(some (.box [.d yI l,.d yI m,.d yI o,.nils yI] false false)::(zo 27 []))))))⟩) fun st=>eC R pol_Z67 N [1,1,0,1] F_Z67 st (kS R pol_Z67 5 N [1,1,1] F_Z67 (qo8 E sg_Z67 F_Z67))
theorem Z67.j0_eq(R:Run)(hw:R.ok)(N:Nat)(a:Bool)(b c d:Int)(e:List Int)(f g h:Int)(i:List Int)(j k l:Int):Z67.j0 R N a b c d e f g h i j k l=(bif a then some ⟨o_Z67,((0:Int),(0:Int),(0:Int),([]:List Int),(6:Int),())⟩ else((qdp R n_Z86 o_Z86 [⟨(.ptr yM),(b,c,d,e,())⟩,⟨(.ptr yM),(f,g,h,i,())⟩]).bind fun r14=>some ⟨o_Z67,(r14.1,r14.2.1,r14.2.2.1,r14.2.2.2.1,(0:Int),())⟩)):=(hw _ _).trans (by kernel_rfl)
theorem Z67.ev(R:Run)(N:Nat)(a0 a1 a2:Int)(a3:List Int)(a4 a5 a6:Int)(a7:List Int):qos E R sg_Z67 pol_Z67 F_Z67 N [⟨yI,a0⟩,⟨yI,a1⟩,⟨yI,a2⟩,⟨yL,a3⟩,⟨yI,a4⟩,⟨yI,a5⟩,⟨yI,a6⟩,⟨yL,a7⟩]=((qdp R n_Z82 o_Z82 [⟨(.ptr yM),(a0,a1,a2,a3,())⟩,⟨(.ptr yM),(a4,a5,a6,a7,())⟩]).bind fun r1=>(bif (!r1.1) then some ⟨o_Z67,((0:Int),(0:Int),(0:Int),([]:List Int),(1:Int),())⟩ else(bif (a0 != a4) then(Z67.j0 R N true a0 a1 a2 a3 a4 a5 a6 a7 (0:Int) (0:Int) (0:Int)) else(Z67.j0 R N (a2 != a5) a0 a1 a2 a3 a4 a5 a6 a7 (0:Int) (0:Int) (0:Int))))):=by kernel_rfl
def Z85.l1(R:Run)(N n:Nat)(a b:vM)(e:Int):Option Dv:=R.w (some ⟨(.c (.ip yM a 0)::(.c (.ip yM b 0)::(zd 3 (.c (.d yI e)::(zd 68 []))))),(zo 76 [])⟩) fun st=>lC R pol_Z85 4 N [1,1,0,1,0,0] F_Z85 n st (kB R pol_Z85 0 (kS R pol_Z85 8 N [1,1,1] F_Z85 (qo8 E sg_Z85 F_Z85)))
def Z85.j0(R:Run)(N:Nat)(a b:vM)(e:Bool):Option Dv:=R.w (some ⟨(.c (.ip yM a 0)::(.c (.ip yM b 0)::(zd 47 (.c (.d .bool e)::(zd 24 []))))),(zo 76 [])⟩) fun st=>eC R pol_Z85 N [1,0,1] F_Z85 st (kS R pol_Z85 3 N [1,1] F_Z85 (qo8 E sg_Z85 F_Z85))
theorem Z85.l1_succ(R:Run)(hw:R.ok)(N n:Nat)(a b:vM)(c:Int):Z85.l1 R N (n+1) a b c=(bif (decide (c<(List.length a.2.2.2.1:Int))) then((idx? a.2.2.2.1 c).bind fun y7=>((idx? b.2.2.2.1 c).bind fun y8=>(bif ((y7,()).1 != (y8,()).1) then some ⟨o_Z85,(false,())⟩ else(Z85.l1 R N n a b (w64 (c+1)))))) else some ⟨o_Z85,(true,())⟩):=(hw _ _).trans (by kernel_rfl)
theorem Z85.j0_eq(R:Run)(hw:R.ok)(N:Nat)(a b:vM)(c:Bool):Z85.j0 R N a b c=(bif c then some ⟨o_Z85,(false,())⟩ else(Z85.l1 R N N a b (0:Int))):=(hw _ _).trans (by kernel_rfl)
theorem Z85.ev(R:Run)(N:Nat)(a0 a1:vM):qos E R sg_Z85 pol_Z85 F_Z85 N [⟨(.ptr yM),a0⟩,⟨(.ptr yM),a1⟩]=(bif (a0.1 != a1.1) then(Z85.j0 R N a0 a1 true) else(bif (a0.2.1 != a1.2.1) then(Z85.j0 R N a0 a1 true) else(bif (a0.2.2.1 != a1.2.2.1) then(Z85.j0 R N a0 a1 true) else(Z85.j0 R N a0 a1 ((List.length a0.2.2.2.1:Int) != (List.length a1.2.2.2.1:Int)))))):=by kernel_rfl
theorem Z68.ev(R:Run)(N:Nat)(a0 a1 a2:Int)(a3:List Int)(a4 a5 a6:Int)(a7:List Int):qos E R sg_Z68 pol_Z68 F_Z68 N [⟨yI,a0⟩,⟨yI,a1⟩,⟨yI,a2⟩,⟨yL,a3⟩,⟨yI,a4⟩,⟨yI,a5⟩,⟨yI,a6⟩,⟨yL,a7⟩]=((qdp R n_Z85 o_Z85 [⟨(.ptr yM),(a0,a1,a2,a3,())⟩,⟨(.ptr yM),(a4,a5,a6,a7,())⟩]).bind fun r1=>some ⟨o_Z68,(r1.1,())⟩):=by kernel_rfl
theorem Z69.ev(R:Run)(N:Nat)(a0:vK):qos E R sg_Z69 pol_Z69 F_Z69 N [⟨yK,a0⟩]=((qdp R n_Z98 o_Z98 [⟨(.ptr yC),(a0,())⟩]).bind fun r1=>some ⟨o_Z69,(r1.1,())⟩):=by kernel_rfl
def Z39.j3(R:Run)(N:Nat)(a b e:Int)(f:Bool)(g h i:Int)(j:List Int)(k l m:Int)(o:List Int)(p q r:Int)(s:List Int)(t u v:Int)(x:List Int):Option Dv:=R.w (some ⟨(zd 8 (.c (.box 8 0)::(zd 9 (.c (.box 18 0)::(.c (.d yI a)::(.c (.box 20 0)::(.c (.d yI b)::(.c (.box 22 0)::(.c (.d yI e)::(zd 139 (.c (.d .bool f)::(zd 33 [])))))))))))),(zo 8 (some (.box [.d yI g,.d yI h,.d yI i,.d yL j] false false)::(zo 9 (some (.box [.d yI k,.d yI l,.d yI m,.d yL o] false false)::(none::(some (.box [.d yI p,.d yI q,.d yI r,.d yL s] false false)::(none::(some (.box [.d yI t,.d yI u,.d yI v,.d yL x] false false)::(zo 175 [])))))))))⟩) fun st=>eC R pol_Z39 N [1,1,1,1,1,1,1,1,1,1,1,1,1,1,0,1] F_Z39 st (kS R pol_Z39 30 N [1,1,1,1,1,1,1,1,1,1,1,1,1,1,1] F_Z39 (qo8 E sg_Z39 F_Z39))
def Z39.j2(R:Run)(N:Nat)(a:List Int)(b e:Int)(f:Bool)(g h:vK)(i j k:Int)(l:List Int):Option Dv:=R.w (some ⟨(zd 3 (.c (.box 3 0)::(.c (.box 4 0)::(.c (.d yL a)::(.c (.d yI b)::(.c (.d yI e)::(.c (.box 8 0)::(zd 120 (.c (.d .bool f)::(zd 67 [])))))))))),(zo 3 (some (.box [.d yK g] false false)::(some (.box [.d yK h] false false)::(zo 3 (some (.box [.d yI i,.d yI j,.d yI k,.d yL l] false false)::(zo 189 []))))))⟩) fun st=>eC R pol_Z39 N [1,1,1,1,1,1,1,1,1,1,0,1] F_Z39 st (kS R pol_Z39 25 N [1,1,1,1,1,1,1,1,1,1,1] F_Z39 (qo8 E sg_Z39 F_Z39))
def Z39.l1(R:Run)(N n:Nat)(a:List Int)(b e f g h:Int)(i j:vK)(k l m:Int)(o:List Int)(p:vK):Option Dv:=R.w (some ⟨(zd 3 (.c (.box 3 0)::(.c (.box 4 0)::(.c (.d yL a)::(.c (.d yI b)::(.c (.d yI e)::(.c (.box 8 0)::(.c (.d yI f)::(.c (.box 10 0)::(V.dead::(.c (.d yI g)::(.c (.d yI h)::(zd 183 []))))))))))))),(zo 3 (some (.box [.d yK i] false false)::(some (.box [.d yK j] false false)::(zo 3 (some (.box [.d yI k,.d yI l,.d yI m,.d yL o] false false)::(none::(some (.box [.d yK p] false false)::(zo 187 []))))))))⟩) fun st=>lC R pol_Z39 12 N [1,1,1,1,1,1,1,1,0,1,0,0] F_Z39 n st (kB R pol_Z39 0 (kS R pol_Z39 21 N [1,1,1,1,1,1,1,1,1] F_Z39 (qo8 E sg_Z39 F_Z39)))
def Z39.j0(R:Run)(N:Nat)(a:List Int)(b e f:Int)(g:Bool)(h i:vK)(j k l:Int)(m:List Int)(o:vK):Option Dv:=R.w (some ⟨(zd 3 (.c (.box 3 0)::(.c (.box 4 0)::(.c (.d yL a)::(.c (.d yI b)::(.c (.d yI e)::(.c (.box 8 0)::(.c (.d yI f)::(.c (.box 10 0)::(zd 70 (.c (.d .bool g)::(zd 115 [])))))))))))),(zo 3 (some (.box [.d yK h] false false)::(some (.box [.d yK i] false false)::(zo 3 (some (.box [.d yI j,.d yI k,.d yI l,.d yL m] false false)::(none::(some (.box [.d yK o] false false)::(zo 187 []))))))))⟩) fun st=>eC R pol_Z39 N [1,1,1,1,1,1,0,1] F_Z39 st (kS R pol_Z39 10 N [1,1,1,1,1,1,1] F_Z39 (qo8 E sg_Z39 F_Z39))
theorem Z39.j3_eq(R:Run)(hw:R.ok)(N:Nat)(a b c:Int)(d:Bool)(e f g:Int)(h:List Int)(i j k:Int)(l:List Int)(m o p:Int)(q:List Int)(r s t:Int)(u:List Int):Z39.j3 R N a b c d e f g h i j k l m o p q r s t u=(bif d then(bif (a==(5:Int)) then some ⟨o_Z39,(true,())⟩ else(bif (b==(5:Int)) then some ⟨o_Z39,(true,())⟩ else some ⟨o_Z39,((c==(5:Int)),())⟩)) else((qdp R n_Z67 o_Z67 [⟨yI,i⟩,⟨yI,j⟩,⟨yI,k⟩,⟨yL,l⟩,⟨yI,m⟩,⟨yI,o⟩,⟨yI,p⟩,⟨yL,q⟩]).bind fun r81=>((qdp R n_Z67 o_Z67 [⟨yI,r⟩,⟨yI,s⟩,⟨yI,t⟩,⟨yL,u⟩,⟨yI,e⟩,⟨yI,f⟩,⟨yI,g⟩,⟨yL,h⟩]).bind fun r82=>(bif (r81.2.2.2.2.1==(0:Int)) then(bif (r82.2.2.2.2.1==(0:Int)) then((qdp R n_Z68 o_Z68 [⟨yI,r81.1⟩,⟨yI,r81.2.1⟩,⟨yI,r81.2.2.1⟩,⟨yL,r81.2.2.2.1⟩,⟨yI,r82.1⟩,⟨yI,r82.2.1⟩,⟨yI,r82.2.2.1⟩,⟨yL,r82.2.2.2.1⟩]).bind fun r83=>some ⟨o_Z39,(r83.1,())⟩) else some ⟨o_Z39,(false,())⟩) else some ⟨o_Z39,(false,())⟩)))):=(hw _ _).trans (by kernel_rfl)
theorem Z39.j2_eq(R:Run)(hw:R.ok)(N:Nat)(a:List Int)(b c:Int)(d:Bool)(e f:vK)(g h i:Int)(j:List Int):Z39.j2 R N a b c d e f g h i j=(bif d then some ⟨o_Z39,(true,())⟩ else((qdp R n_Z5 o_Z5 [⟨yK,e⟩,⟨yK,f⟩,⟨yL,a⟩,⟨yI,(w64 (b-1))⟩,⟨yI,c⟩]).bind fun r58=>((qdp R n_Z63 o_Z63 [⟨yK,e⟩,⟨yI,b⟩,⟨yI,c⟩]).bind fun r59=>((qdp R n_Z63 o_Z63 [⟨yK,f⟩,⟨yI,b⟩,⟨yI,c⟩]).bind fun r60=>(bif (r58.2.2.2.2.1 != (0:Int)) then(Z39.j3 R N r58.2.2.2.2.1 r59.2.2.2.2.1 r60.2.2.2.2.1 true g h i j r58.1 r58.2.1 r58.2.2.1 r58.2.2.2.1 r59.1 r59.2.1 r59.2.2.1 r59.2.2.2.1 r60.1 r60.2.1 r60.2.2.1 r60.2.2.2.1) else(bif (r59.2.2.2.2.1 != (0:Int)) then(Z39.j3 R N r58.2.2.2.2.1 r59.2.2.2.2.1 r60.2.2.2.2.1 true g h i j r58.1 r58.2.1 r58.2.2.1 r58.2.2.2.1 r59.1 r59.2.1 r59.2.2.1 r59.2.2.2.1 r60.1 r60.2.1 r60.2.2.1 r60.2.2.2.1) else(Z39.j3 R N r58.2.2.2.2.1 r59.2.2.2.2.1 r60.2.2.2.2.1 (r60.2.2.2.2.1 != (0:Int)) g h i j r58.1 r58.2.1 r58.2.2.1 r58.2.2.2.1 r59.1 r59.2.1 r59.2.2.1 r59.2.2.2.1 r60.1 r60.2.1 r60.2.2.1 r60.2.2.2.1))))))):=(hw _ _).trans (by kernel_rfl)
theorem Z39.l1_succ(R:Run)(hw:R.ok)(N n:Nat)(a:List Int)(b c d e f:Int)(g h:vK)(i j k:Int)(l:List Int)(m:vK):Z39.l1 R N (n+1) a b c d e f g h i j k l m=(bif (decide (f<(List.length h:Int))) then((qdp R n_Z6 o_Z6 [⟨yK,g⟩,⟨yK,h⟩,⟨yL,a⟩,⟨yI,f⟩]).bind fun r32=>(bif (r32.2.1 != (0:Int)) then some ⟨o_Z39,(false,())⟩ else((idx? h f).bind fun y33=>((qdp R n_Z65 o_Z65 [⟨yK,m⟩,⟨yL,(y33,()).1⟩]).bind fun r34=>(bif ((decide ((List.length r32.1:Int)>(0:Int))) != (r34.2.1==(0:Int))) then some ⟨o_Z39,(false,())⟩ else(Z39.l1 R N n a b c d (w64 (e+(List.length r32.1:Int))) (w64 (f+1)) g h i j k l m)))))) else(bif (e != (List.length g:Int)) then some ⟨o_Z39,(false,())⟩ else(bif (d != (0:Int)) then(Z39.j2 R N a b c true g h i j k l) else(Z39.j2 R N a b c (decide (b<(1:Int))) g h i j k l)))):=(hw _ _).trans (by kernel_rfl)
theorem Z39.j0_eq(R:Run)(hw:R.ok)(N:Nat)(a:List Int)(b c d:Int)(e:Bool)(f g:vK)(h i j:Int)(k:List Int)(l:vK):Z39.j0 R N a b c d e f g h i j k l=(bif e then some ⟨o_Z39,(false,())⟩ else(Z39.l1 R N N a b c d (0:Int) (0:Int) f g h i j k l)):=(hw _ _).trans (by kernel_rfl)
theorem Z39.ev(R:Run)(N:Nat)(a0:List Int):qos E R sg_Z39 pol_Z39 F_Z39 N [⟨(.sl (.int .u8)),a0⟩]=((qdp R n_Z40 o_Z40 [⟨(.sl (.int .u8)),a0⟩]).bind fun r1=>(bif r1.1 then some ⟨o_Z39,(true,())⟩ else((qdp R n_Z64 o_Z64 [⟨(.sl (.int .u8)),a0⟩]).bind fun r2=>((qdp R n_Z5 o_Z5 [⟨yK,r2.1⟩,⟨yK,r2.2.1⟩,⟨yL,r2.2.2.1⟩,⟨yI,r2.2.2.2.1⟩,⟨yI,r2.2.2.2.2.1⟩]).bind fun r3=>((qdp R n_Z7 o_Z7 [⟨yK,r2.1⟩,⟨yK,r2.2.1⟩,⟨yL,r2.2.2.1⟩]).bind fun r4=>(bif (!r4.1) then(bif (r3.2.2.2.2.1 != (0:Int)) then((qdp R n_Z66 o_Z66 [⟨yK,r2.1⟩,⟨yK,r2.2.1⟩,⟨yL,r2.2.2.1⟩]).bind fun r5=>some ⟨o_Z39,((!r5.1),())⟩) else some ⟨o_Z39,(false,())⟩) else((qdp R n_Z8 o_Z8 [⟨yK,r2.1⟩,⟨yK,r2.2.1⟩,⟨yL,r2.2.2.1⟩]).bind fun r6=>(bif (r6.2.1 != (0:Int)) then(Z39.j0 R N r2.2.2.1 r2.2.2.2.1 r2.2.2.2.2.1 r3.2.2.2.2.1 true r2.1 r2.2.1 r3.1 r3.2.1 r3.2.2.1 r3.2.2.2.1 r6.1) else((qdp R n_Z66 o_Z66 [⟨yK,r2.1⟩,⟨yK,r2.2.1⟩,⟨yL,r2.2.2.1⟩]).bind fun r134=>(bif (!r134.1) then(Z39.j0 R N r2.2.2.1 r2.2.2.2.1 r2.2.2.2.2.1 r3.2.2.2.2.1 true r2.1 r2.2.1 r3.1 r3.2.1 r3.2.2.1 r3.2.2.2.1 r6.1) else((qdp R n_Z69 o_Z69 [⟨yK,r6.1⟩]).bind fun r147=>(Z39.j0 R N r2.2.2.1 r2.2.2.2.1 r2.2.2.2.2.1 r3.2.2.2.2.1 (!r147.1) r2.1 r2.2.1 r3.1 r3.2.1 r3.2.2.1 r3.2.2.2.1 r6.1)))))))))))):=by kernel_rfl
end
end VeT


open Go Go.Proofs Ve
set_option maxRecDepth 100000
namespace VeT
@[reducible] noncomputable def qai:Func:=Tryz.f273
@[reducible] def qaq:Ty:=(.cons (.sl (.lab yL)) .nil)
noncomputable def qaC:Sig:=⟨[(false,1),(false,1)],[.take false,.imm],qaq,[(false,1)],[.own],[]⟩
noncomputable def qab:Pol:=⟨68,[],[(4,⟨[0,1,5],[66],[],[],[],[],[]⟩),(9,⟨[0,1,5,6,7],[66],[],[],[],[],[]⟩)],[],[],[]⟩
noncomputable def slices_CompactFunc_SSint64_Sint64_L.l1(R:Run)(N:Nat)(n110100:Nat)(n:Nat)(t5__6:Int)(t6__7:Nat)(t6__8:Nat)(t7__9:Int)(o66_10:(List (Value×(List Int)))):Option Dv:=R.w (some ⟨(.c (.arr 66)::(.c (.d (.fn n_Z53 .nil) ())::(zd 3 (.c (.d yI t5__6)::(.c (.sub 66 t6__7 t6__8 1)::(.c (.d yI t7__9)::(zd 58 []))))))),(zo 66 (some (.arr (.lab yL) o66_10 false false false)::(none::[])))⟩) fun st=>qjH (qa2 E R qab N (sub [1,1,0,1,0,0,1,0,0,1,0,1,0,1,0,0] (bodyOf qai))) (qbA R qab.loopM 9) n st (qoJ (qbA R qab.blkM 2) 2 (qoI (qbA R qab.seqM 14) (qa2 E R qab N (sub [1,1,0,1,0,0,1,0,0,1,0,1,1] (bodyOf qai))) (qoJ (qbA R qab.blkM 1) 1 (qoI (qbA R qab.seqM 5) (qa2 E R qab N (sub [1,1,0,1,0,0,1,1] (bodyOf qai))) (qpc (qa2 E R qab N (sub [1,1,0,1,0,0] (bodyOf qai))) (qbA R qab.loopM 4) n110100 (qoJ (qbA R qab.blkM 0) 0 (qoI (qbA R qab.seqM 16) (qa2 E R qab N (sub [1,1,1] (bodyOf qai))) (qo8 E qaC qai))))))))
noncomputable def slices_CompactFunc_SSint64_Sint64_L.l0(R:Run)(N:Nat)(n:Nat)(t5__1:Int)(o66_2:(List (Value×(List Int)))):Option Dv:=R.w (some ⟨(.c (.arr 66)::(.c (.d (.fn n_Z53 .nil) ())::(zd 3 (.c (.d yI t5__1)::(zd 60 []))))),(zo 66 (some (.arr (.lab yL) o66_2 false false false)::(none::[])))⟩) fun st=>qjH (qa2 E R qab N (sub [1,1,0,1,0,0] (bodyOf qai))) (qbA R qab.loopM 4) n st (qoJ (qbA R qab.blkM 0) 0 (qoI (qbA R qab.seqM 16) (qa2 E R qab N (sub [1,1,1] (bodyOf qai))) (qo8 E qaC qai)))
theorem slices_CompactFunc_SSint64_Sint64_L.l1_succ(R:Run)(hw:R.ok)(N:Nat)(n110100:Nat)(n:Nat)(t5__6:Int)(t6__7:Nat)(t6__8:Nat)(t7__9:Int)(o66_10:(List (Value×(List Int)))):slices_CompactFunc_SSint64_Sint64_L.l1 R N n110100 (n+1) t5__6 t6__7 t6__8 t7__9 o66_10=(Option.bind (chk (decide (t6__7≤t6__8)&&decide (t6__8≤List.length o66_10))) fun _=>(bif (decide (t7__9<((t6__8-t6__7:Nat):Int))) then(Option.bind (chk (decide (0≤t7__9)&&decide ((t6__7:Nat)+t7__9<((t6__8:Nat):Int))&&decide (t6__8≤List.length o66_10))) fun _=>(Option.bind (o66_10)[(t6__7+Int.toNat t7__9)]? fun y11=>(Option.bind (chk (decide (0≤(w64 (t7__9-(1:Int))))&&decide ((t6__7:Nat)+(w64 (t7__9-(1:Int)))<((t6__8:Nat):Int))&&decide (t6__8≤List.length o66_10))) fun _=>(Option.bind (o66_10)[(t6__7+Int.toNat (w64 (t7__9-(1:Int))))]? fun y12=>(Option.bind (qdp R n_Z53 o_Z53 [⟨yL,y11.2⟩,⟨yL,y12.2⟩]) fun r13=>(bif (!r13.1) then(Option.bind (chk (decide (0≤t7__9)&&decide ((t6__7:Nat)+t7__9<((t6__8:Nat):Int))&&decide (t6__8≤List.length o66_10))) fun _=>(Option.bind (o66_10)[(t6__7+Int.toNat t7__9)]? fun y14=>(Option.bind (chk (decide (0≤t5__6)&&decide (t5__6<(List.length o66_10:Int)))) fun _=>(slices_CompactFunc_SSint64_Sint64_L.l1 R N n110100 n (w64 (t5__6+(1:Int))) t6__7 t6__8 (w64 (t7__9+(1:Int))) (List.set o66_10 (Int.toNat t5__6) y14))))) else(slices_CompactFunc_SSint64_Sint64_L.l1 R N n110100 n t5__6 t6__7 t6__8 (w64 (t7__9+(1:Int))) o66_10))))))) else(Option.bind (chk (decide (0≤t5__6)&&decide (t5__6≤(List.length o66_10:Int)))) fun _=>(Option.bind (chk (decide ((Int.toNat t5__6)≤(List.length o66_10))&&decide ((List.length o66_10)≤List.length o66_10))) fun _=>(Option.bind (chk (decide (0≤t5__6)&&decide (t5__6≤(List.length (List.take (Int.toNat t5__6) o66_10++List.replicate ((List.length o66_10)-(Int.toNat t5__6)) (Value.slice none 0 0,([]:(List Int)))++List.drop (List.length o66_10) o66_10):Int)))) fun _=>some ⟨qaq,((List.drop 0 (List.take (Int.toNat t5__6) (List.take (Int.toNat t5__6) o66_10++List.replicate ((List.length o66_10)-(Int.toNat t5__6)) (Value.slice none 0 0,([]:(List Int)))++List.drop (List.length o66_10) o66_10))),())⟩))))):=(hw _ _).trans (by kernel_rfl)
theorem slices_CompactFunc_SSint64_Sint64_L.l0_succ(R:Run)(hw:R.ok)(N:Nat)(n:Nat)(t5__1:Int)(o66_2:(List (Value×(List Int)))):slices_CompactFunc_SSint64_Sint64_L.l0 R N (n+1) t5__1 o66_2=(bif (decide (t5__1<(List.length o66_2:Int))) then(Option.bind (chk (decide (0≤t5__1)&&decide (t5__1<(List.length o66_2:Int)))) fun _=>(Option.bind (o66_2)[(Int.toNat t5__1)]? fun y3=>(Option.bind (chk (decide (0≤(w64 (t5__1-(1:Int))))&&decide ((w64 (t5__1-(1:Int)))<(List.length o66_2:Int)))) fun _=>(Option.bind (o66_2)[(Int.toNat (w64 (t5__1-(1:Int))))]? fun y4=>(Option.bind (qdp R n_Z53 o_Z53 [⟨yL,y3.2⟩,⟨yL,y4.2⟩]) fun r5=>(bif r5.1 then(Option.bind (chk (decide (0≤t5__1)&&decide (t5__1≤(List.length o66_2:Int)))) fun _=>(slices_CompactFunc_SSint64_Sint64_L.l1 R N n N t5__1 (Int.toNat t5__1) (List.length o66_2) (1:Int) o66_2)) else(slices_CompactFunc_SSint64_Sint64_L.l0 R N n (w64 (t5__1+(1:Int))) o66_2))))))) else some ⟨qaq,(o66_2,())⟩):=(hw _ _).trans (by kernel_rfl)
theorem slices_CompactFunc_SSint64_Sint64_L.ev(R:Run)(N:Nat)(a0:(List (Value×(List Int)))):qos E R qaC qab qai N [⟨(.sl (.lab yL)),a0⟩,⟨(.fn n_Z53 .nil),()⟩]=(bif (decide ((List.length a0:Int)<(2:Int))) then some ⟨qaq,(a0,())⟩ else(slices_CompactFunc_SSint64_Sint64_L.l0 R N N (1:Int) a0)):=by kernel_rfl
end VeT
namespace Go.Proofs
open Go.Shelf
def Tryz.sort235_ren:Go.Shelf.Ren:=⟨fun | 53=>235 | 64=>309 | 63=>308 | 78=>338 | 79=>339 | 70=>329 | 71=>330 | 72=>331 | 73=>332 | 74=>333 | 75=>334 | 59=>335 | 76=>336 | 77=>337 | 88=>352 | 89=>353 | 90=>354 | 91=>355 | 92=>356 | 68=>351 | 96=>360 | n=>n,fun | 22=>27 | 23=>2 | 3=>3 | 51=>246 | 0=>0 | 67=>279 | 69=>185 | 4=>4 | 61=>273 | 60=>272 | 44=>227 | 5=>5 | 9=>9 | 75=>286 | 79=>290 | 83=>294 | 84=>153 | n=>n,fun | n=>n⟩
theorem Tryz.sort235:Go.Proofs.SlLaysN.n53 Tryz.prog Tryz.sort235_ren:={
 mixed:=by kernel_rfl
 f53:=⟨Tryz.f235.name,by decide,Tryz.func235.trans (congrArg some (by kernel_rfl))⟩
 f59:=⟨Tryz.f335.name,by decide,Tryz.func335.trans (congrArg some (by kernel_rfl))⟩
 f63:=⟨Tryz.f308.name,by decide,Tryz.func308.trans (congrArg some (by kernel_rfl))⟩
 f64:=Tryz.func309.trans (congrArg some (by kernel_rfl))
 f68:=⟨Tryz.f351.name,by decide,Tryz.func351.trans (congrArg some (by kernel_rfl))⟩
 f70:=⟨Tryz.f329.name,by decide,Tryz.func329.trans (congrArg some (by kernel_rfl))⟩
 f71:=⟨Tryz.f330.name,by decide,Tryz.func330.trans (congrArg some (by kernel_rfl))⟩
 f72:=⟨Tryz.f331.name,by decide,Tryz.func331.trans (congrArg some (by kernel_rfl))⟩
 f73:=⟨Tryz.f332.name,by decide,Tryz.func332.trans (congrArg some (by kernel_rfl))⟩
 f74:=⟨Tryz.f333.name,by decide,Tryz.func333.trans (congrArg some (by kernel_rfl))⟩
 f75:=⟨Tryz.f334.name,by decide,Tryz.func334.trans (congrArg some (by kernel_rfl))⟩
 f76:=⟨Tryz.f336.name,by decide,Tryz.func336.trans (congrArg some (by kernel_rfl))⟩
 f77:=⟨Tryz.f337.name,by decide,Tryz.func337.trans (congrArg some (by kernel_rfl))⟩
 f78:=Tryz.func338.trans (congrArg some (by kernel_rfl))
 f79:=Tryz.func339.trans (congrArg some (by kernel_rfl))
 f88:=⟨Tryz.f352.name,by decide,Tryz.func352.trans (congrArg some (by kernel_rfl))⟩
 f89:=Tryz.func353.trans (congrArg some (by kernel_rfl))
 f90:=Tryz.func354.trans (congrArg some (by kernel_rfl))
 f91:=⟨Tryz.f355.name,by decide,Tryz.func355.trans (congrArg some (by kernel_rfl))⟩
 f92:=⟨Tryz.f356.name,by decide,Tryz.func356.trans (congrArg some (by kernel_rfl))⟩
 f96:=⟨Tryz.f360.name,by decide,Tryz.func360.trans (congrArg some (by kernel_rfl))⟩
 t0:=Tryz.underlying0
 a0:=Tryz.isAgg0
 z0:=Tryz.sizeOf0
 v0:=Tryz.zeroValue0
 t3:=Tryz.underlying3
 a3:=Tryz.isAgg3
 z3:=Tryz.sizeOf3
 v3:=Tryz.zeroValue3
 t4:=Tryz.underlying4
 a4:=Tryz.isAgg4
 z4:=Tryz.sizeOf4
 v4:=Tryz.zeroValue4
 t5:=Tryz.underlying5
 a5:=Tryz.isAgg5
 z5:=Tryz.sizeOf5
 v5:=Tryz.zeroValue5
 t9:=Tryz.underlying9
 a9:=Tryz.isAgg9
 z9:=Tryz.sizeOf9
 v9:=Tryz.zeroValue9
 t22:=Tryz.underlying27
 a22:=Tryz.isAgg27
 z22:=Tryz.sizeOf27
 v22:=Tryz.zeroValue27
 t23:=Tryz.underlying2
 a23:=Tryz.isAgg2
 z23:=Tryz.sizeOf2
 v23:=Tryz.zeroValue2
 t44:=Tryz.underlying227
 a44:=Tryz.isAgg227
 z44:=Tryz.sizeOf227
 v44:=Tryz.zeroValue227
 t51:=Tryz.underlying246
 a51:=Tryz.isAgg246
 z51:=Tryz.sizeOf246
 v51:=Tryz.zeroValue246
 t60:=Tryz.underlying272
 a60:=Tryz.isAgg272
 z60:=Tryz.sizeOf272
 v60:=Tryz.zeroValue272
 t61:=Tryz.underlying273
 a61:=Tryz.isAgg273
 z61:=Tryz.sizeOf273
 v61:=Tryz.zeroValue273
 t67:=Tryz.underlying279
 a67:=Tryz.isAgg279
 z67:=Tryz.sizeOf279
 v67:=Tryz.zeroValue279
 t69:=Tryz.underlying185
 a69:=Tryz.isAgg185
 z69:=Tryz.sizeOf185
 v69:=Tryz.zeroValue185
 t75:=Tryz.underlying286
 a75:=Tryz.isAgg286
 z75:=Tryz.sizeOf286
 v75:=Tryz.zeroValue286
 t79:=Tryz.underlying290
 a79:=Tryz.isAgg290
 z79:=Tryz.sizeOf290
 v79:=Tryz.zeroValue290
 t83:=Tryz.underlying294
 a83:=Tryz.isAgg294
 z83:=Tryz.sizeOf294
 v83:=Tryz.zeroValue294
 t84:=Tryz.underlying153
 a84:=Tryz.isAgg153
 z84:=Tryz.sizeOf153
 v84:=Tryz.zeroValue153 }
def Tryz.comp236_ren:Go.Shelf.Ren:=⟨fun | 43=>236 | n=>n,fun | 22=>27 | 23=>2 | 3=>3 | 4=>4 | 0=>0 | n=>n,fun | n=>n⟩
theorem Tryz.comp236:Go.Proofs.SlLaysN.n43 Tryz.prog Tryz.comp236_ren:={
 mixed:=by kernel_rfl
 f43:=⟨Tryz.f236.name,by decide,Tryz.func236.trans (congrArg some (by kernel_rfl))⟩
 t0:=Tryz.underlying0
 a0:=Tryz.isAgg0
 z0:=Tryz.sizeOf0
 v0:=Tryz.zeroValue0
 t3:=Tryz.underlying3
 a3:=Tryz.isAgg3
 z3:=Tryz.sizeOf3
 v3:=Tryz.zeroValue3
 t4:=Tryz.underlying4
 a4:=Tryz.isAgg4
 z4:=Tryz.sizeOf4
 v4:=Tryz.zeroValue4
 t22:=Tryz.underlying27
 a22:=Tryz.isAgg27
 z22:=Tryz.sizeOf27
 v22:=Tryz.zeroValue27
 t23:=Tryz.underlying2
 a23:=Tryz.isAgg2
 z23:=Tryz.sizeOf2
 v23:=Tryz.zeroValue2
 i23:=by kernel_rfl }
def Tryz.sortf272_ren:Go.Shelf.Ren:=⟨fun | 6=>272 | 15=>309 | 14=>317 | 28=>338 | 29=>339 | 20=>342 | 21=>343 | 22=>344 | 23=>345 | 24=>346 | 25=>347 | 26=>348 | 27=>349 | 46=>357 | 47=>353 | 48=>354 | 49=>358 | 50=>359 | 57=>361 | n=>n,fun | 22=>24 | 24=>27 | 25=>214 | 3=>3 | 39=>246 | 0=>0 | 53=>279 | 55=>185 | 4=>4 | 46=>273 | 45=>272 | 50=>227 | 5=>5 | 9=>9 | 66=>286 | 70=>290 | 76=>294 | 77=>153 | n=>n,fun | n=>n⟩
theorem Tryz.sortf272:Go.Proofs.SlLaysF.n6 Tryz.prog Tryz.sortf272_ren:={
 mixed:=by kernel_rfl
 f6:=⟨Tryz.f272.name,by decide,Tryz.func272.trans (congrArg some (by kernel_rfl))⟩
 f14:=⟨Tryz.f317.name,by decide,Tryz.func317.trans (congrArg some (by kernel_rfl))⟩
 f15:=Tryz.func309.trans (congrArg some (by kernel_rfl))
 f20:=⟨Tryz.f342.name,by decide,Tryz.func342.trans (congrArg some (by kernel_rfl))⟩
 f21:=⟨Tryz.f343.name,by decide,Tryz.func343.trans (congrArg some (by kernel_rfl))⟩
 f22:=⟨Tryz.f344.name,by decide,Tryz.func344.trans (congrArg some (by kernel_rfl))⟩
 f23:=⟨Tryz.f345.name,by decide,Tryz.func345.trans (congrArg some (by kernel_rfl))⟩
 f24:=⟨Tryz.f346.name,by decide,Tryz.func346.trans (congrArg some (by kernel_rfl))⟩
 f25:=⟨Tryz.f347.name,by decide,Tryz.func347.trans (congrArg some (by kernel_rfl))⟩
 f26:=⟨Tryz.f348.name,by decide,Tryz.func348.trans (congrArg some (by kernel_rfl))⟩
 f27:=⟨Tryz.f349.name,by decide,Tryz.func349.trans (congrArg some (by kernel_rfl))⟩
 f28:=Tryz.func338.trans (congrArg some (by kernel_rfl))
 f29:=Tryz.func339.trans (congrArg some (by kernel_rfl))
 f46:=⟨Tryz.f357.name,by decide,Tryz.func357.trans (congrArg some (by kernel_rfl))⟩
 f47:=Tryz.func353.trans (congrArg some (by kernel_rfl))
 f48:=Tryz.func354.trans (congrArg some (by kernel_rfl))
 f49:=⟨Tryz.f358.name,by decide,Tryz.func358.trans (congrArg some (by kernel_rfl))⟩
 f50:=⟨Tryz.f359.name,by decide,Tryz.func359.trans (congrArg some (by kernel_rfl))⟩
 f57:=⟨Tryz.f361.name,by decide,Tryz.func361.trans (congrArg some (by kernel_rfl))⟩
 t0:=Tryz.underlying0
 a0:=Tryz.isAgg0
 z0:=Tryz.sizeOf0
 v0:=Tryz.zeroValue0
 t3:=Tryz.underlying3
 a3:=Tryz.isAgg3
 z3:=Tryz.sizeOf3
 v3:=Tryz.zeroValue3
 t4:=Tryz.underlying4
 a4:=Tryz.isAgg4
 z4:=Tryz.sizeOf4
 v4:=Tryz.zeroValue4
 t5:=Tryz.underlying5
 a5:=Tryz.isAgg5
 z5:=Tryz.sizeOf5
 v5:=Tryz.zeroValue5
 t9:=Tryz.underlying9
 a9:=Tryz.isAgg9
 z9:=Tryz.sizeOf9
 v9:=Tryz.zeroValue9
 t22:=Tryz.underlying24
 a22:=Tryz.isAgg24
 z22:=Tryz.sizeOf24
 v22:=Tryz.zeroValue24
 a24:=Tryz.isAgg27
 z24:=Tryz.sizeOf27
 t25:=Tryz.underlying214
 a25:=Tryz.isAgg214
 z25:=Tryz.sizeOf214
 v25:=Tryz.zeroValue214
 t39:=Tryz.underlying246
 a39:=Tryz.isAgg246
 z39:=Tryz.sizeOf246
 v39:=Tryz.zeroValue246
 t45:=Tryz.underlying272
 a45:=Tryz.isAgg272
 z45:=Tryz.sizeOf272
 v45:=Tryz.zeroValue272
 t46:=Tryz.underlying273
 a46:=Tryz.isAgg273
 z46:=Tryz.sizeOf273
 v46:=Tryz.zeroValue273
 t50:=Tryz.underlying227
 a50:=Tryz.isAgg227
 z50:=Tryz.sizeOf227
 v50:=Tryz.zeroValue227
 t53:=Tryz.underlying279
 a53:=Tryz.isAgg279
 z53:=Tryz.sizeOf279
 v53:=Tryz.zeroValue279
 t55:=Tryz.underlying185
 a55:=Tryz.isAgg185
 z55:=Tryz.sizeOf185
 v55:=Tryz.zeroValue185
 t66:=Tryz.underlying286
 a66:=Tryz.isAgg286
 z66:=Tryz.sizeOf286
 v66:=Tryz.zeroValue286
 t70:=Tryz.underlying290
 a70:=Tryz.isAgg290
 z70:=Tryz.sizeOf290
 v70:=Tryz.zeroValue290
 t76:=Tryz.underlying294
 a76:=Tryz.isAgg294
 z76:=Tryz.sizeOf294
 v76:=Tryz.zeroValue294
 t77:=Tryz.underlying153
 a77:=Tryz.isAgg153
 z77:=Tryz.sizeOf153
 v77:=Tryz.zeroValue153 }
end Go.Proofs
namespace VeT
section
open Go Go.Proofs Go.RowKit Go.Lib
open Ve in
theorem qfA(R:Run){args:List Dv}{dv:Dv}(h:qhj R args=some dv):qaL Tryz.prog ⟨[(false,1)],[.io true],.cons tL .nil,[],[],[]⟩ 235 args dv :=
 qg5 (fun blk cap zs w a b c=>AnyG.slices_Sort_int Tryz.sort235 blk 0 cap zs w a b c)
  (fun A cap w=>(AnyG.slices_Sort_int_none Tryz.sort235 A cap w).mono fun e w' ⟨h,hw⟩=>⟨h,by rw[hw],by rw[hw];exact Kin.refl _⟩) h
open Ve in
theorem qfE(R:Run){args:List Dv}{dv:Dv}(h:qhC R args=some dv):qaL Tryz.prog ⟨[(false,1)],[.take true],.cons tL .nil,[(false,1)],[.deep],[]⟩ 236 args dv :=
 qgX (fun blk cap zs w a b c=>AnyG.slices_Compact_int Tryz.comp236 blk 0 cap zs w a b c)
  (fun A cap w=>AnyG.slices_Compact_int_empty Tryz.comp236 A cap w) h
open Ve in
theorem qeG{R:Run}(hR:∀ args dv,R.r 230 args=some dv→qaL Tryz.prog ⟨[(false,1),(false,1)],[],.cons tI .nil,[(false,1)],[],[]⟩ 230 args dv){args:List Dv}{dv:Dv}(h:qe9 230 R args=some dv) :
  qaL Tryz.prog ⟨[(false,1),(false,1)],[.io true,.imm],.cons tLL .nil,[],[],[]⟩ 272 args dv :=
 qgZ (fun enc h1c cf hO blk cap d w a b c e=>Any.slices_SortFunc Tryz.sortf272 enc h1c cf hO 230 #[] blk 0 cap d w (enters_of Tryz.func230 (by kernel_rfl) rfl) a b c e)
  (fun A cap fv w=>(AnyF.slices_SortFunc_none { Tryz.sortf272 with } A cap fv w).mono fun e w' ⟨h,hw⟩=>⟨h,by rw[hw],by rw[hw];exact Kin.refl _⟩) hR h
section
open Go Ve
theorem qkd(R:Run)(hw:R.ok)(N n0:Nat)(l:List (Value×List Int))(hl:l.length≤1048576)
  (heq:∀(i:Nat) (h:i+1<l.length),R.r n_Z53 [⟨tL,l[i+1].2⟩,⟨tL,l[i].2⟩]=some ⟨.cons .bool .nil,(l[i+1].2==l[i].2,())⟩) (k0:Nat) (hk0:k0<l.length) :
  ∀(d k2 kw n:Nat) (o:List (Value×List Int)),k0+k2+d=l.length→1≤k2→kw+1≤k0+k2→o.length=l.length→o.take kw=sel (mC (l.map Prod.snd) (k0+k2)) l→(∀ i,k0+k2≤i+1→o[i]? = l[i]?) →
  slices_CompactFunc_SSint64_Sint64_L.l1 R N n0 (d+1+n) (kw:Int) k0 l.length (k2:Int) o=some ⟨qaq,(sel (mC (l.map Prod.snd) l.length) l,())⟩:=by
 intro d
 induction d with
 | zero =>
  intro k2 kw n o hd h1 hkw hol ht hsame
  have e:k0+k2=l.length:=by omega
  rw[show 0+1+n=n+1 by omega,slices_CompactFunc_SSint64_Sint64_L.l1_succ R hw]
  have c1:chk (decide (k0≤l.length)&&decide (l.length≤o.length))=some ():=by unfold chk;rw[decide_eq_true (by omega),decide_eq_true (by omega)];rfl
  have c2:decide ((k2:Int)<((l.length-k0:Nat):Int))=false:=decide_eq_false (by omega)
  have c3:chk (decide ((0:Int)≤(kw:Int))&&decide ((kw:Int)≤(o.length:Int)))=some ():=by unfold chk;rw[decide_eq_true (by omega),decide_eq_true (by omega)];rfl
  have c4:chk (decide (kw≤o.length)&&decide (o.length≤o.length))=some ():=by unfold chk;rw[decide_eq_true (by omega),decide_eq_true (by omega)];rfl
  rw[c1,Option.bind_some,c2,cond_false,c3,Option.bind_some]
  simp only[Int.toNat_natCast]
  rw[c4,Option.bind_some]
  have hlen:(List.take kw o++List.replicate (o.length-kw) ((Value.slice none 0 0,[]):Value×List Int)++List.drop o.length o).length=o.length:=by simp;omega
  have c6:chk (decide ((0:Int)≤(kw:Int))&&decide ((kw:Int)≤((List.take kw o++List.replicate (o.length-kw) ((Value.slice none 0 0,[]):Value×List Int)++List.drop o.length o).length:Int)))=some ():=by unfold chk;rw[decide_eq_true (by omega),decide_eq_true (by omega)];rfl
  rw[c6,Option.bind_some,List.drop_zero,List.append_assoc,List.take_append_of_le_length (by simp;omega),List.take_take,Nat.min_self,ht,e]
 | succ d ih =>
  intro k2 kw n o hd h1 hkw hol ht hsame
  obtain⟨m,hm⟩:∃ m,m+1=k0+k2:=⟨k0+k2-1,by omega⟩
  have hml:m+1<l.length:=by omega
  rw[show d+1+1+n=(d+1+n)+1 by omega,slices_CompactFunc_SSint64_Sint64_L.l1_succ R hw]
  have c1:chk (decide (k0≤l.length)&&decide (l.length≤o.length))=some ():=by unfold chk;rw[decide_eq_true (by omega),decide_eq_true (by omega)];rfl
  have c2:decide ((k2:Int)<((l.length-k0:Nat):Int))=true:=decide_eq_true (by omega)
  have c3:chk (decide ((0:Int)≤(k2:Int))&&decide ((k0:Int)+(k2:Int)<((l.length:Nat):Int))&&decide (l.length≤o.length))=some ():=by unfold chk;rw[decide_eq_true (by omega),decide_eq_true (by omega),decide_eq_true (by omega)];rfl
  have ew:w64 ((k2:Int)-1)=((k2-1:Nat):Int):=by rw[qam (by omega) (by omega)];omega
  have c4:chk (decide ((0:Int)≤((k2-1:Nat):Int))&&decide ((k0:Int)+((k2-1:Nat):Int)<((l.length:Nat):Int))&&decide (l.length≤o.length))=some ():=by unfold chk;rw[decide_eq_true (by omega),decide_eq_true (by omega),decide_eq_true (by omega)];rfl
  have g1:o[k0+k2]? = some l[m+1]:=by rw[hsame _ (by omega),← hm,List.getElem?_eq_getElem hml]
  have g2:o[k0+(k2-1)]? = some l[m]:=by rw[hsame _ (by omega),show k0+(k2-1)=m by omega,List.getElem?_eq_getElem (by omega)]
  have hr:qdp R n_Z53 o_Z53 [⟨yL,l[m+1].2⟩,⟨yL,l[m].2⟩]=some (l[m+1].2==l[m].2,()):=by
   unfold qdp
   exact(congrArg (Option.bind · _) (heq m hml)).trans rfl
  rw[c1,Option.bind_some,c2,cond_true,c3,Option.bind_some]
  simp only[Int.toNat_natCast,ew]
  rw[g1,Option.bind_some,c4,Option.bind_some,g2,Option.bind_some]
  refine(congrArg (Option.bind · _) hr).trans ?_
  rw[Option.bind_some]
  have e2:w64 ((k2:Int)+1)=((k2+1:Nat):Int):=qao (by omega)
  have hx1:(l.map Prod.snd)[k0+k2]? = some l[m+1].2:=by rw[← hm,List.getElem?_map,List.getElem?_eq_getElem hml];rfl
  have hx2:(l.map Prod.snd)[k0+k2-1]? = some l[m].2:=by rw[show k0+k2-1=m by omega,List.getElem?_map,List.getElem?_eq_getElem (by omega)];rfl
  have hms:mC (l.map Prod.snd) (k0+(k2+1))=mC (l.map Prod.snd) (k0+k2)++[!(l[m+1].2==l[m].2)]:=by
   show mC (l.map Prod.snd) (k0+k2)++[k0+k2==0 || !((l.map Prod.snd)[k0+k2]? == (l.map Prod.snd)[k0+k2-1]?)]=_
   rw[hx1,hx2,show(k0+k2==0)=false from beq_false_of_ne (by omega),Bool.false_or]
   rfl
  have hsel:sel (mC (l.map Prod.snd) (k0+(k2+1))) l=sel (mC (l.map Prod.snd) (k0+k2)) l++(bif !(l[m+1].2==l[m].2) then [l[m+1]] else []):=by
   rw[hms,qew (by rw[qfp];omega)]
   congr 2
   congr 1
   have:(mC (l.map Prod.snd) (k0+k2)).length=m+1:=by rw[qfp,hm]
   simp only[this]
  cases hb:(l[m+1].2==l[m].2) with
  | true =>
   rw[hb] at hsel
   simp only[Bool.not_true,cond_false,List.append_nil] at hsel ⊢
   rw[e2]
   exact ih (k2+1) kw n o (by omega) (by omega) (by omega) hol (by rw[hsel];exact ht) fun i hi=>hsame i (by omega)
  | false =>
   rw[hb] at hsel
   have c5:chk (decide ((0:Int)≤(kw:Int))&&decide ((kw:Int)<(o.length:Int)))=some ():=by unfold chk;rw[decide_eq_true (by omega),decide_eq_true (by omega)];rfl
   simp only[Bool.not_false,cond_true] at hsel ⊢
   rw[Option.bind_some,Option.bind_some,c5,Option.bind_some,e2,show w64 ((kw:Int)+1)=((kw+1:Nat):Int) from qao (by omega)]
   refine ih (k2+1) (kw+1) n (o.set kw l[m+1]) (by omega) (by omega) (by omega) (by rw[List.length_set];exact hol) ?_ fun i hi=>?_
   ·rw[hsel,← ht,List.take_succ_eq_append_getElem (by rw[List.length_set];omega),List.getElem_set_self,List.take_set_of_le (Nat.le_refl _)]
   ·rw[List.getElem?_set_ne (by omega)];exact hsame i (by omega)
theorem qiX(R:Run)(hw:R.ok)(N:Nat)(l:List (Value×List Int))(hl:l.length≤1048576)(hN:l.length+1≤N)
  (heq:∀(i:Nat) (h:i+1<l.length),R.r n_Z53 [⟨tL,l[i+1].2⟩,⟨tL,l[i].2⟩]=some ⟨.cons .bool .nil,(l[i+1].2==l[i].2,())⟩) :
  ∀(d k n:Nat),k+d=l.length→1≤k→sel (mC (l.map Prod.snd) k) l=l.take k →
  slices_CompactFunc_SSint64_Sint64_L.l0 R N (d+1+n) (k:Int) l=some ⟨qaq,(sel (mC (l.map Prod.snd) l.length) l,())⟩:=by
 intro d
 induction d with
 | zero =>
  intro k n hd h1 ht
  rw[show 0+1+n=n+1 by omega,slices_CompactFunc_SSint64_Sint64_L.l0_succ R hw]
  have c2:decide ((k:Int)<(l.length:Int))=false:=decide_eq_false (by omega)
  rw[c2,cond_false,← show k=l.length by omega,ht,show k=l.length by omega,List.take_length]
 | succ d ih =>
  intro k n hd h1 ht
  obtain⟨m,rfl⟩:∃ m,k=m+1:=⟨k-1,by omega⟩
  have hml:m+1<l.length:=by omega
  rw[show d+1+1+n=(d+1+n)+1 by omega,slices_CompactFunc_SSint64_Sint64_L.l0_succ R hw]
  have c2:decide (((m+1:Nat):Int)<(l.length:Int))=true:=decide_eq_true (by omega)
  have c3:chk (decide ((0:Int)≤((m+1:Nat):Int))&&decide (((m+1:Nat):Int)<(l.length:Int)))=some ():=by unfold chk;rw[decide_eq_true (by omega),decide_eq_true (by omega)];rfl
  have ew:w64 (((m+1:Nat):Int)-1)=(m:Int):=by rw[qam (by omega) (by omega)];omega
  have c4:chk (decide ((0:Int)≤(m:Int))&&decide ((m:Int)<(l.length:Int)))=some ():=by unfold chk;rw[decide_eq_true (by omega),decide_eq_true (by omega)];rfl
  have g1:l[m+1]? = some l[m+1]:=List.getElem?_eq_getElem hml
  have g2:l[m]? = some l[m]:=List.getElem?_eq_getElem (by omega)
  have hr:qdp R n_Z53 o_Z53 [⟨yL,l[m+1].2⟩,⟨yL,l[m].2⟩]=some (l[m+1].2==l[m].2,()):=by
   unfold qdp
   exact(congrArg (Option.bind · _) (heq m hml)).trans rfl
  refine Eq.trans (b:=(chk (decide ((0:Int)≤((m+1:Nat):Int))&&decide (((m+1:Nat):Int)<(l.length:Int)))).bind _) (by rw[c2,cond_true]) ?_
  rw[c3,Option.bind_some]
  simp only[Int.toNat_natCast,ew]
  rw[g1,Option.bind_some,c4,Option.bind_some,g2,Option.bind_some]
  refine(congrArg (Option.bind · _) hr).trans ?_
  rw[Option.bind_some]
  have hx1:(l.map Prod.snd)[m+1]? = some l[m+1].2:=by rw[List.getElem?_map,g1];rfl
  have hx2:(l.map Prod.snd)[m+1-1]? = some l[m].2:=by rw[Nat.add_sub_cancel,List.getElem?_map,g2];rfl
  have hms:mC (l.map Prod.snd) (m+1+1)=mC (l.map Prod.snd) (m+1)++[!(l[m+1].2==l[m].2)]:=by
   show mC (l.map Prod.snd) (m+1)++[m+1==0 || !((l.map Prod.snd)[m+1]? == (l.map Prod.snd)[m+1-1]?)]=_
   rw[hx1,hx2,show(m+1==0)=false from rfl,Bool.false_or]
   rfl
  have hsel:sel (mC (l.map Prod.snd) (m+1+1)) l=sel (mC (l.map Prod.snd) (m+1)) l++(bif !(l[m+1].2==l[m].2) then [l[m+1]] else []):=by
   rw[hms,qew (by rw[qfp];omega)]
   congr 2
   congr 1
   simp only[qfp]
  cases hb:(l[m+1].2==l[m].2) with
  | true =>
   rw[hb] at hsel
   simp only[Bool.not_true,cond_false,List.append_nil] at hsel
   have c5:chk (decide ((0:Int)≤((m+1:Nat):Int))&&decide (((m+1:Nat):Int)≤(l.length:Int)))=some ():=by unfold chk;rw[decide_eq_true (by omega),decide_eq_true (by omega)];rfl
   simp only[cond_true]
   rw[c5,Option.bind_some]
   have:=qkd R hw N (d+1+n) l hl heq (m+1) hml (l.length-(m+2)) 1 (m+1) (N-(l.length-(m+2)+1)) l (by omega) (Nat.le_refl _) (by omega) rfl (by rw[hsel];exact ht.symm) fun _ _=>rfl
   rw[show l.length-(m+2)+1+(N-(l.length-(m+2)+1))=N by omega] at this
   exact this
  | false =>
   rw[hb] at hsel
   simp only[Bool.not_false,cond_true] at hsel
   simp only[cond_false]
   rw[qao (by omega)]
   exact ih (m+1+1) n (by omega) (by omega) (by rw[hsel,ht,List.take_succ_eq_append_getElem hml])
theorem qis(R:Run)(hw:R.ok)(N:Nat)(l:List (Value×List Int))(hl:l.length≤1048576)(hN:l.length+1≤N)
  (heq:∀(i:Nat) (h:i+1<l.length),R.r n_Z53 [⟨tL,l[i+1].2⟩,⟨tL,l[i].2⟩]=some ⟨.cons .bool .nil,(l[i+1].2==l[i].2,())⟩) :
  (bif (decide ((List.length l:Int)<(2:Int))) then some ⟨qaq,(l,())⟩ else slices_CompactFunc_SSint64_Sint64_L.l0 R N N (1:Int) l)=some ⟨qaq,(sel (mC (l.map Prod.snd) l.length) l,())⟩:=by
 by_cases h2:l.length<2
 ·have c:decide ((l.length:Int)<2)=true:=decide_eq_true (by omega)
  rw[c,cond_true]
  match l,h2 with
  | [],_=>rfl
  | [y],_=>rfl
 ·have c:decide ((l.length:Int)<2)=false:=decide_eq_false (by omega)
  rw[c,cond_false]
  have:=qiX R hw N l hl hN heq (l.length-1) 1 (N-l.length) (by omega) (Nat.le_refl _) (by
   match l,h2 with
   | y::z::l,_=>rfl)
  rw[show l.length-1+1+(N-l.length)=N by omega] at this
  exact this
theorem qeZ(hE:EnvOk E){R:Run}(hR:qfy E R)(hw:R.ok)(hRw:∀ o f,R.w o f=o.bind f){args:List Dv}{dv:Dv}(h:qdc n_Z53 R args=some dv) :
  qaL E.P ⟨[(false,1),(false,1)],[.take true,.imm],.cons tLL .nil,[(false,1)],[.deep],[]⟩ 273 args dv:=by
 match args,h with
 | [d0,d1],h =>
  simp only[qdc,Option.bind_eq_some_iff] at h
  obtain⟨xs,h0,h⟩:=h
  obtain rfl:=to_some h0
  split at h
  ·rename_i hc
   obtain⟨hx,rfl,heq⟩:=hc
   obtain rfl:=Option.some.inj h
   refine qia fun vs hv=>?_
   have hz:(vs.zip xs).map Prod.snd=xs:=qeW hv
   have hl:(vs.zip xs).length=xs.length:=by rw[List.length_zip,hv,Nat.min_self]
   have hq:∀(i:Nat) (h:i+1<(vs.zip xs).length),R.r n_Z53 [⟨tL,(vs.zip xs)[i+1].2⟩,⟨tL,(vs.zip xs)[i].2⟩]=some ⟨.cons .bool .nil,((vs.zip xs)[i+1].2==(vs.zip xs)[i].2,())⟩:=fun i h=>by
    have e1:(vs.zip xs)[i+1].2=xs[i+1]'(by omega):=by rw[List.getElem_zip]
    have e2:(vs.zip xs)[i].2=xs[i]'(by omega):=by rw[List.getElem_zip]
    rw[e1,e2];exact heq i (by omega)
   refine qkt hE hR hRw (pol:=qab) (fn:=qai) (N:=xs.length+1) (by kernel_rfl) ?_
   refine(slices_CompactFunc_SSint64_Sint64_L.ev R _ (vs.zip xs)).trans ?_
   refine(qis R hw (xs.length+1) (vs.zip xs) (by omega) (by omega) hq).trans ?_
   rw[hz,hl]
  ·cases h
end
set_option maxHeartbeats 2000000 in
set_option maxRecDepth 100000 in
theorem qja(base:Option Addr)(l c n:Nat)(w:World)(hlc:l≤c)(hc63:c≤9223372036854775807)(hn63:n≤9223372036854775807)(hroom:l+n≤c) :
  Calls Tryz.prog 285 #[.slice base l c,.int .i64 n] w fun e w'=>e=.returned (.slice base l c)∧w'=w:=by
 have h1:¬ ((n:Int)<0):=by omega
 have h2:wrap64 ((c:Int)-(l:Int))=(c:Int)-(l:Int):=by unfold wrap64;omega
 have h3:wrap64 ((n:Int)-((c:Int)-(l:Int)))=(n:Int)-((c:Int)-(l:Int)):=by unfold wrap64;omega
 have h4:¬ ((n:Int)-((c:Int)-(l:Int))>0):=by omega
 go_enter Tryz.func285,Tryz.ntmps285
 go_wp2
 go_ret
 exact⟨rfl,rfl⟩
set_option maxHeartbeats 4000000 in
set_option maxRecDepth 100000 in
theorem qjv(i0:TypeInfo)(z:Value)(hi0:Tryz.prog.info? 2=some i0)(hz0:i0.zero=some z)(hs0:0<i0.size)
    (base:Option Addr) (l c n:Nat) (cs:List Value) (w:World) (hlc:l≤c) (hroom:c<l+n) (hbig:(l+n)*i0.bytes≤140737488355328) (h63:l+n≤4611686018427387904)
    (hcl:cs.length=c*i0.size) (hnil:base=none→c=0) (hcs:∀ a,base=some a→∀(j:Nat) v,cs[j]? = some v→w.cell? (a.add j)=some v) :
    Calls Tryz.prog 285 #[.slice base l c,.int .i64 n] w fun e w' =>
      e=.returned (.slice (some ⟨w.heap.size,0,none⟩) l (grownCap w (l+n) c 2)) ∧
      w'=w.drew.alloc (.cells (cs.toArray++Builtin.zeroCells z.cells (l+n-c)++Builtin.zeroCells z.cells (grownCap w (l+n) c 2-(l+n))) 2):=by
  have h1:¬ ((n:Int)<0):=by omega
  have h2:wrap64 ((c:Int)-(l:Int))=(c:Int)-(l:Int):=by unfold wrap64;omega
  have h3:wrap64 ((n:Int)-((c:Int)-(l:Int)))=(n:Int)-((c:Int)-(l:Int)):=by unfold wrap64;omega
  have h4:(n:Int)-((c:Int)-(l:Int))>0:=by omega
  have z25:∀ w,(Go.sizeOf 2).run Tryz.prog w=.ok i0.size w:=fun w=>by simp[Go.sizeOf,typeInfo,hi0]
  have hck:c+(l+n-c)=l+n:=by omega
  have hold:(Builtin.firstCells i0.size c (.slice base c c)).run Tryz.prog w.drew=.ok cs.toArray w.drew:=by
    cases base with
    | none =>
      have h0:=hnil rfl
      subst h0
      have hc0:cs=[]:=List.length_eq_zero_iff.1 (by simpa using hcl)
      rw[hc0]
      exact run_firstCells_none w.drew i0.size 0 0 0
    | some a=>exact run_firstCells_some w.drew i0.size c a c c cs hcl (fun j v hj=>hcs a rfl j v hj)
  have hrz:∀ ty,(Builtin.append_ #[27,3] ty #[.slice base c c,.int .i64 ((n:Int)-((c:Int)-(l:Int)))]).run Tryz.prog w =
      .ok (.slice (some ⟨w.heap.size,0,none⟩) (l+n) (grownCap w (l+n) c 2)) (w.drew.alloc (.cells (cs.toArray++Builtin.zeroCells z.cells (l+n-c)++Builtin.zeroCells z.cells (grownCap w (l+n) c 2-(l+n))) 2)):=fun ty=>by
    have h:=Lib.run_append_grow_zeros w 27 3 ty 2 i0 z .i64 .i64 Tryz.underlying27 Tryz.underlying3 hi0 hz0 base c c cs hold (l+n-c) (by omega) hs0 (by omega) (by omega)
      (by have:(l+n-c)*i0.bytes≤(l+n)*i0.bytes:=Nat.mul_le_mul_right _ (by omega)
          omega)
      (by rw[hck];exact growslice_fits hroom hbig)
    rw[hck] at h
    rw[show(n:Int)-((c:Int)-(l:Int))=((l+n-c:Nat):Int) by omega]
    exact h
  have hGn:l+n≤grownCap w (l+n) c 2:=grownCap_ge w _ _ _
  obtain⟨G,hG⟩:∃ G,G=grownCap w (l+n) c 2:=⟨_,rfl⟩
  rw[← hG] at hrz hGn ⊢
  have hG63:G≤9223372036854775807:=by
    have:=grownCap_le_maxLen w (l+n) c 2 (by unfold maxLen;omega)
    rw[← hG] at this
    unfold maxLen at this
    omega
  clear hold hck hG hcs hcl
  go_enter Tryz.func285,Tryz.ntmps285
  cases base with
  | none =>
    have h0:=hnil rfl
    subst h0
    obtain rfl:l=0:=by omega
    go_wp2_with (at_builtin;refine Lib.wpList_append_run _ rfl _ _ _ _ rfl _ _ rfl rfl _ _ (hrz _) ?_)
    all_goals (go_ret;exact⟨rfl,rfl⟩)
  | some a =>
    obtain⟨ab,ao,asp⟩:=a
    go_wp2_with (at_builtin;refine Lib.wpList_append_run _ rfl _ _ _ _ rfl _ _ rfl rfl _ _ (hrz _) ?_)
    all_goals (go_ret;exact⟨rfl,rfl⟩)
theorem qjd:(Tryz.prog.info? 2).any (fun i=>i.size==Ve.Ty.size yI&&i.zero.any (fun z=>z.cells.size==Ve.Ty.size yI)&&decide (i.bytes≤64*Ve.Ty.size yI)&&decide (0<i.bytes)&&decide (0<Ve.Ty.size yI))=true:=by kernel_rfl
open Ve in
theorem qfw(R:Run){args:List Dv}{dv:Dv}(h:qlk yI R args=some dv) :
  qaL Tryz.prog ⟨[(false,1),(false,1)],[.take true,.imm],.cons yL .nil,[(false,1)],[.deep],[]⟩ 285 args dv:=by
 have hi:=qjd
 cases hi0:Tryz.prog.info? 2 with
 | none=>rw[hi0] at hi;cases hi
 | some i0 =>
  rw[hi0] at hi
  simp only[Option.any_some,Bool.and_eq_true,decide_eq_true_eq,beq_iff_eq] at hi
  obtain⟨⟨⟨⟨h1,h2⟩,h3⟩,h4⟩,h5⟩:=hi
  cases hz:i0.zero with
  | none=>rw[hz] at h2;cases h2
  | some z =>
   rw[hz] at h2
   exact qhL h1 (by simpa using h2) h5 h3 h4 qja (fun base l c n cs w a1 a2 a3 a4 a5 a6 a7=>qjv i0 z hi0 hz (by rw[h1];exact h5) base l c n cs w a1 a2 a3 a4 a5 a6 a7) R h
end
section
open Go Ve
theorem qne:primL=(List.range 378).map fun i=>bif Nat.beq i 235 then some qhj else bif Nat.beq i 236 then some qhC else bif Nat.beq i 272 then some (qe9 n_Z17) else bif Nat.beq i 273 then some (qdc n_Z53) else bif Nat.beq i 285 then some (qlk yI) else none:=by kernel_rfl
theorem qoT(hE:EnvOk E):∀ f p,E.prim f=some p→∀ r,qfy E (mkR r)→∀ args dv sg,E.sig f=some sg→p (mkR r) args=some dv→qaL E.P sg f args dv:=by
 intro f p hp r hr args dv sg hsg h
 have hp:primL.getD f none=some p:=hp
 rw[qne,List.getD_eq_getElem?_getD,List.getElem?_map] at hp
 by_cases hf:f<378
 ·rw[List.getElem?_range hf] at hp
  simp only[Option.map_some,Option.getD_some] at hp
  by_cases h235:f=235
  ·subst h235
   obtain rfl:qhj=p:=Option.some.inj hp
   obtain rfl:sg_Z62=sg:=Option.some.inj (sig_slices_Sort_Sint64_int64_eq.symm.trans hsg)
   exact qfA _ h
  rw[show Nat.beq f 235=false from Bool.eq_false_iff.2 fun h=>h235 (Nat.eq_of_beq_eq_true h),cond_false] at hp
  by_cases h236:f=236
  ·subst h236
   obtain rfl:qhC=p:=Option.some.inj hp
   obtain rfl:sg_Z45=sg:=Option.some.inj (sig_slices_Compact_Sint64_int64_eq.symm.trans hsg)
   exact qfE _ h
  rw[show Nat.beq f 236=false from Bool.eq_false_iff.2 fun h=>h236 (Nat.eq_of_beq_eq_true h),cond_false] at hp
  by_cases h272:f=272
  ·subst h272
   obtain rfl:(qe9 n_Z17)=p:=Option.some.inj hp
   obtain rfl:sg_Z61=sg:=Option.some.inj (sig_slices_SortFunc_SSint64_Sint64_eq.symm.trans hsg)
   exact qeG (fun args dv h=>hr _ args dv _ sig_impl_compareSimplices_eq h) h
  rw[show Nat.beq f 272=false from Bool.eq_false_iff.2 fun h=>h272 (Nat.eq_of_beq_eq_true h),cond_false] at hp
  by_cases h273:f=273
  ·subst h273
   obtain rfl:(qdc n_Z53)=p:=Option.some.inj hp
   obtain rfl:sg_Z44=sg:=Option.some.inj (sig_slices_CompactFunc_SSint64_Sint64_eq.symm.trans hsg)
   exact qeZ hE hr (qnm _) (fun _ _=>rfl) h
  rw[show Nat.beq f 273=false from Bool.eq_false_iff.2 fun h=>h273 (Nat.eq_of_beq_eq_true h),cond_false] at hp
  by_cases h285:f=285
  ·subst h285
   obtain rfl:(qlk yI)=p:=Option.some.inj hp
   obtain rfl:sg_Z54=sg:=Option.some.inj (sig_slices_Grow_Sint64_int64_eq.symm.trans hsg)
   exact qfw _ h
  rw[show Nat.beq f 285=false from Bool.eq_false_iff.2 fun h=>h285 (Nat.eq_of_beq_eq_true h),cond_false] at hp
  cases hp
 ·rw[List.getElem?_eq_none (by simpa using hf)] at hp
  cases hp
end
end VeT
open Go Go.Proofs Ve
namespace VeT
end VeT
open Go Go.Proofs Ve
namespace VeT
theorem qaZ(s:List (List Int))(c:((vK×Unit)×(Int×Unit)×Unit))(p:(List Int)→Bool)(hs:s.length≤1048576)(hp:∀ x∈s,Ret E n_Z10 [⟨yL,x⟩,⟨(.ptr yC),c.1⟩,⟨(.ptr (.cons yI .nil)),c.2.1⟩] ⟨o_Z10,(p x,())⟩) :
    Ret E n_Z55 [⟨yK,s⟩,⟨(.fn n_Z10 (.cons (.ptr yC) (.cons (.ptr (.cons yI .nil)) .nil))),c⟩] ⟨o_Z55,(qg9 p s,())⟩:=by
  obtain⟨o,h1,h2,h3⟩:=qcI 1 (L:=fun φ n k=>Z56.l0 (mkR (run E (φ 0))) (φ 0) n s c (s.length:Int) k) (len:=s.length) (fun k=>∃ h:k<s.length,p s[k]=true) (fun o=>some ⟨o_Z55,(o2i o,())⟩) (fun _ _ _ _=>rfl) (fun k hk hP=>by
      obtain⟨_,hP⟩:=hP
      simp only[Z56.l0_succ _ qaj]
      refine qaD (decide_eq_true (by omega)) (qak (qas hk) (qac (hp _ (List.getElem_mem hk)) (qaD hP qap)))) (fun k q hk hP ih=>by
      simp only[Z56.l0_succ _ qaj]
      refine qaD (decide_eq_true (by omega)) (qak (qas hk) (qac (hp _ (List.getElem_mem hk)) (qaF (Bool.eq_false_iff.2 fun h=>hP ⟨hk,h⟩) ?_)))
      rw[qao (by omega)];exact ih) (by
      simp only[Z56.l0_succ _ qaj]
      exact qaF (decide_eq_false (by omega)) qap)
  rw[qeI h1 h2] at h3
  refine qat ?_
  simp only[run_Z55,Z56.ev]
  exact Ev.start (p:=fun φ n=>Z56.l0 (mkR (run E (φ 0))) (φ 0) n s c (s.length:Int) 0=_) 1 h3 (fun _ _ _ h=>h)
theorem qbd(s:List (List Int))(c:((vK×Unit)×(vK×Unit)×((List Int)×Unit)×Unit))(p:(List Int)→Bool)(hs:s.length≤1048576)(hp:∀ x∈s,Ret E n_Z28 [⟨yL,x⟩,⟨(.ptr yC),c.1⟩,⟨(.ptr yC),c.2.1⟩,⟨(.ptr (.cons yL .nil)),c.2.2.1⟩] ⟨o_Z28,(p x,())⟩) :
    Ret E n_Z55 [⟨yK,s⟩,⟨(.fn n_Z28 (.cons (.ptr yC) (.cons (.ptr yC) (.cons (.ptr (.cons yL .nil)) .nil)))),c⟩] ⟨o_Z55,(qg9 p s,())⟩:=by
  obtain⟨o,h1,h2,h3⟩:=qcI 1 (L:=fun φ n k=>Z57.l0 (mkR (run E (φ 0))) (φ 0) n s c (s.length:Int) k) (len:=s.length) (fun k=>∃ h:k<s.length,p s[k]=true) (fun o=>some ⟨o_Z55,(o2i o,())⟩) (fun _ _ _ _=>rfl) (fun k hk hP=>by
      obtain⟨_,hP⟩:=hP
      simp only[Z57.l0_succ _ qaj]
      refine qaD (decide_eq_true (by omega)) (qak (qas hk) (qac (hp _ (List.getElem_mem hk)) (qaD hP qap)))) (fun k q hk hP ih=>by
      simp only[Z57.l0_succ _ qaj]
      refine qaD (decide_eq_true (by omega)) (qak (qas hk) (qac (hp _ (List.getElem_mem hk)) (qaF (Bool.eq_false_iff.2 fun h=>hP ⟨hk,h⟩) ?_)))
      rw[qao (by omega)];exact ih) (by
      simp only[Z57.l0_succ _ qaj]
      exact qaF (decide_eq_false (by omega)) qap)
  rw[qeI h1 h2] at h3
  refine qat ?_
  simp only[run_Z55,Z57.ev]
  exact Ev.start (p:=fun φ n=>Z57.l0 (mkR (run E (φ 0))) (φ 0) n s c (s.length:Int) 0=_) 1 h3 (fun _ _ _ h=>h)
theorem qa1(s:List Int)(p:Int→Bool)(hs:s.length≤1048576)(hp:∀ x∈s,Ret E n_Z13 [⟨yI,x⟩] ⟨o_Z13,(p x,())⟩) :
    Ret E n_Z58 [⟨yL,s⟩,⟨(.fn n_Z13 .nil),()⟩] ⟨o_Z58,(qg9 p s,())⟩:=by
  obtain⟨o,h1,h2,h3⟩:=qcI 1 (L:=fun φ n k=>Z59.l0 (mkR (run E (φ 0))) (φ 0) n s (s.length:Int) k) (len:=s.length) (fun k=>∃ h:k<s.length,p s[k]=true) (fun o=>some ⟨o_Z58,(o2i o,())⟩) (fun _ _ _ _=>rfl) (fun k hk hP=>by
      obtain⟨_,hP⟩:=hP
      simp only[Z59.l0_succ _ qaj]
      refine qaD (decide_eq_true (by omega)) (qak (qas hk) (qac (hp _ (List.getElem_mem hk)) (qaD hP qap)))) (fun k q hk hP ih=>by
      simp only[Z59.l0_succ _ qaj]
      refine qaD (decide_eq_true (by omega)) (qak (qas hk) (qac (hp _ (List.getElem_mem hk)) (qaF (Bool.eq_false_iff.2 fun h=>hP ⟨hk,h⟩) ?_)))
      rw[qao (by omega)];exact ih) (by
      simp only[Z59.l0_succ _ qaj]
      exact qaF (decide_eq_false (by omega)) qap)
  rw[qeI h1 h2] at h3
  refine qat ?_
  simp only[run_Z58,Z59.ev]
  exact Ev.start (p:=fun φ n=>Z59.l0 (mkR (run E (φ 0))) (φ 0) n s (s.length:Int) 0=_) 1 h3 (fun _ _ _ h=>h)
theorem qaS(s:List (List Int))(c:((vK×Unit)×(Int×Unit)×Unit))(p:(List Int)→Bool)(hs:s.length≤1048576)(hp:∀ x∈s,Ret E n_Z10 [⟨yL,x⟩,⟨(.ptr yC),c.1⟩,⟨(.ptr (.cons yI .nil)),c.2.1⟩] ⟨o_Z10,(p x,())⟩) :
  Ret E n_Z48 [⟨yK,s⟩,⟨(.fn n_Z10 (.cons (.ptr yC) (.cons (.ptr (.cons yI .nil)) .nil))),c⟩] ⟨o_Z48,(pb (∃ x∈s,p x=true),())⟩:=by
 refine qat ?_
 simp only[run_Z48,Z49.ev]
 refine qac (qaZ s c p hs hp) (qan ?_)
 simp only[ge_iff_le,qem,qaN qcP]
theorem qa6(s:List (List Int))(c:((vK×Unit)×(vK×Unit)×((List Int)×Unit)×Unit))(p:(List Int)→Bool)(hs:s.length≤1048576)(hp:∀ x∈s,Ret E n_Z28 [⟨yL,x⟩,⟨(.ptr yC),c.1⟩,⟨(.ptr yC),c.2.1⟩,⟨(.ptr (.cons yL .nil)),c.2.2.1⟩] ⟨o_Z28,(p x,())⟩) :
  Ret E n_Z48 [⟨yK,s⟩,⟨(.fn n_Z28 (.cons (.ptr yC) (.cons (.ptr yC) (.cons (.ptr (.cons yL .nil)) .nil)))),c⟩] ⟨o_Z48,(pb (∃ x∈s,p x=true),())⟩:=by
 refine qat ?_
 simp only[run_Z48,Z50.ev]
 refine qac (qbd s c p hs hp) (qan ?_)
 simp only[ge_iff_le,qem,qaN qcP]
theorem qaX(s:List Int)(p:Int→Bool)(hs:s.length≤1048576)(hp:∀ x∈s,Ret E n_Z13 [⟨yI,x⟩] ⟨o_Z13,(p x,())⟩) :
  Ret E n_Z51 [⟨yL,s⟩,⟨(.fn n_Z13 .nil),()⟩] ⟨o_Z51,(pb (∃ x∈s,p x=true),())⟩:=by
 refine qat ?_
 simp only[run_Z51,Z52.ev]
 refine qac (qa1 s p hs hp) (qan ?_)
 simp only[ge_iff_le,qem,qaN qcP]
theorem qc9(p:Int)(R C:Nat)(f:Nat→Nat→Int)(hR:R≤1048576)(hC:C≤1048576)(hRC:R*C≤1048576)(hf:∀ i j:Nat,i<R→j<C→Ret E n_Z38 [⟨yI,(i:Int)⟩,⟨yI,(j:Int)⟩] ⟨o_Z38,(f i j,())⟩) :
  Ret E n_Z20 [⟨yI,p⟩,⟨yI,(R:Int)⟩,⟨yI,(C:Int)⟩,⟨(.fn n_Z38 .nil),()⟩] ⟨o_Z20,(p,(R:Int),(C:Int),qaV f C R,())⟩:=by
 refine qat ?_
 simp only[run_Z20,Z21.ev]
 refine Ev.start (p:=fun φ n=>Z21.l0 (mkR (run E (φ 0))) (φ 0) n (C:Int) (R:Int) 0 0 0 0 p (R:Int) (C:Int) []=_) 1 ?_ (fun _ _ _ h=>h)
 refine qay 1 (L:=fun φ n k a=>Z21.l0 (mkR (run E (φ 0))) (φ 0) n (C:Int) (R:Int) k 0 0 0 p (R:Int) (C:Int) a) (len:=R) (fun k=>qaV f C k) (fun _ _ _ _ _=>rfl) (fun k r hk ih=>?_) ?_
 ·simp only[Z21.l0_succ _ qaj]
  refine qaD (decide_eq_true (by omega)) ?_
  refine Ev.start (p:=fun φ n=>Z21.l1 (mkR (run E (φ 0))) (φ 0) (φ 1) n (C:Int) (k:Int) (R:Int) (k:Int) (C:Int) 0 0 0 0 p (R:Int) (C:Int) (qaV f C k)=_) 2 ?_ (fun _ _ _ h=>h)
  have hle:(k+1)*C≤R*C:=Nat.mul_le_mul_right _ hk
  rw[Nat.add_mul] at hle
  have:=qay 2 (L:=fun φ n j a=>Z21.l1 (mkR (run E (φ 0))) (φ 0) (φ 1) n (C:Int) (k:Int) (R:Int) (k:Int) (C:Int) j 0 0 0 p (R:Int) (C:Int) a) (len:=C) (fun j=>qaV f C k++(List.range j).map (f k)) (r:=r) (fun _ _ _ _ _=>rfl) (fun j r hj ih=>?_) ?_
  ·simpa using this
  ·simp only[Z21.l1_succ _ qaj]
   rw[List.range_succ,List.map_append,← List.append_assoc] at ih
   refine qaD (decide_eq_true (by omega)) (qac (hf k j hk hj) (qaG (by simp[qaK];omega) ?_))
   rw[qao (by omega)];exact ih
  ·simp only[Z21.l1_succ _ qaj]
   refine qaF (decide_eq_false (by omega)) ?_
   rw[qao (by omega)];exact ih
 ·simp only[Z21.l0_succ _ qaj]
  exact qaF (decide_eq_false (by omega)) qap
end VeT
open Go Go.Proofs Ve
namespace VeT
abbrev cM:Ty:=.cons yI (.cons yI (.cons yI (.cons yL .nil)))
abbrev cC:Ty:=.cons yK .nil
abbrev cS:Ty:=.cons yK (.cons yI (.cons yL (.cons (.sl (.st cM)) .nil)))
abbrev Mat:=Int×Int×Int×List Int×Unit
abbrev Cpx:=List (List Int)×Unit
abbrev Shf:=List (List Int)×Int×List Int×List Mat×Unit
abbrev Sim:=List Int
abbrev dI(x:Int):Dv:=⟨.int .i64,x⟩
abbrev dL(x:List Int):Dv:=⟨.sl yI,x⟩
abbrev dLL(x:List (List Int)):Dv:=⟨.sl yL,x⟩
abbrev dC(x:Cpx):Dv:=⟨.ptr cC,x⟩
abbrev dM(x:Mat):Dv:=⟨.ptr cM,x⟩
abbrev dS(x:Shf):Dv:=⟨.ptr cS,x⟩
abbrev dMs(x:List Mat):Dv:=⟨.sl (.st cM),x⟩
theorem qdG(n lo hi:Int):Ret E n_Z36 [dI n,dI lo,dI hi] ⟨o_Z36,(pb (lo≤n∧n≤hi),())⟩:=by
 refine qat ?_
 simp only[run_Z36,Z36.ev]
 refine qd9 (fun h=>qan ?_) fun h=>qan ?_
 ·rw[qem,qaN (show n≤hi↔lo≤n∧n≤hi by omega)]
 ·rw[qau (by omega)]
theorem qbj(n lo hi:Int):Ret E n_Z72 [dI n,dI lo,dI hi] ⟨o_Z72,(pb (lo≤n∧n≤hi),())⟩:=by
 refine qat ?_
 simp only[run_Z72,Z72.ev]
 refine qd9 (fun h=>qan ?_) fun h=>qan ?_
 ·rw[qem,qaN (show n≤hi↔lo≤n∧n≤hi by omega)]
 ·rw[qau (by omega)]
theorem qiV(n:Int):Ret E n_Z30 [dI n] ⟨o_Z30,(pb (0≤n∧n≤9),())⟩:=by
 refine qat ?_
 simp only[run_Z30,Z30.ev]
 exact qac (qdG _ _ _) qap
theorem qer(n:Int):Ret E n_Z13 [dI n] ⟨o_Z13,(!pb (0≤n∧n≤9),())⟩:=by
 refine qat ?_
 simp only[run_Z13,Z13.ev]
 exact qac (qiV _) qap
def qi5(s:Sim):Prop:=∀ j,1≤j→j<s.length→s.getD (j-1) 0<s.getD j 0
theorem qiq(s:Sim)(hs:Sm yL s):Ret E n_Z29 [dL s] ⟨o_Z29,(pb (qi5 s),())⟩:=by
 have hs1:s.length≤1048576:=hs.1
 refine qat ?_
 simp only[run_Z29,Z29.ev]
 by_cases h0:s.length=0
 ·refine Ev.start (p:=fun φ n=>Z29.l0 (mkR (run E (φ 0))) (φ 0) n s 1=_) 1 ?_ (fun _ _ _ h=>h)
  refine qeU 1 (σ:=Unit) (L:=fun φ n _=>Z29.l0 (mkR (run E (φ 0))) (φ 0) n s 1) (fun _ _ _ _=>rfl) (fun _=>True) (fun _=>_) (fun _=>0) (fun _ _ _=>?_) () trivial
  simp only[Z29.l0_succ _ qaj]
  refine qaF (decide_eq_false (by omega)) (qan ?_)
  rw[qax]
  intro j h1 h2;omega
 ·refine Ev.start (p:=fun φ n=>Z29.l0 (mkR (run E (φ 0))) (φ 0) n s 1=_) 1 ?_ (fun _ _ _ h=>h)
  refine qdR 1 (L:=fun φ n k=>Z29.l0 (mkR (run E (φ 0))) (φ 0) n s k) (len:=s.length) 1 (by omega) (fun j=>s.getD (j-1) 0<s.getD j 0) (fun b=>some ⟨o_Z29,(b,())⟩) (fun _ _ _ _=>rfl) (fun k h1 h2 hP _=>?_) (fun k r h1 h2 hP _ ih=>?_) (fun _=>?_)
  ·simp only[Z29.l0_succ _ qaj]
   refine qaD (decide_eq_true (by omega)) ?_
   rw[qam (by omega) (by omega),show((k:Int)-1)=((k-1:Nat):Int) by omega]
   refine qak (qas (by omega)) (qak (qas h2) (qaD (decide_eq_true ?_) qap))
   simpa [List.getD_eq_getElem?_getD,h2,show k-1<s.length by omega] using hP
  ·simp only[Z29.l0_succ _ qaj]
   refine qaD (decide_eq_true (by omega)) ?_
   rw[qam (by omega) (by omega),show((k:Int)-1)=((k-1:Nat):Int) by omega]
   refine qak (qas (by omega)) (qak (qas h2) (qaF (decide_eq_false ?_) ?_))
   ·simpa [List.getD_eq_getElem?_getD,h2,show k-1<s.length by omega] using hP
   ·rw[qao (by omega)];exact ih
  ·simp only[Z29.l0_succ _ qaj]
   exact qaF (decide_eq_false (by omega)) qap
end VeT
open Go Go.Proofs Ve
namespace VeT
def Vx(s:Sim):Prop:=1≤s.length∧s.length≤4∧qi5 s∧∀ x∈s,0≤x∧x≤9
theorem qc6(s:Sim)(hs:Sm yL s):Ret E n_Z12 [dL s] ⟨o_Z12,(pb (Vx s),())⟩:=by
 refine qat ?_
 simp only[run_Z12,Z12.ev]
 refine qd9 (fun h1=>qd9 (fun h2=>qac (qiq s hs) (qdC (fun h3=>qac (qaX s _ hs.1 fun x _=>qer x) (qan ?_)) fun h3=>qan ?_)) fun h2=>qan ?_) fun h1=>qan ?_
 ·have h3:=qaM.1 h3
  have:(!pb (∃ x∈s,(!pb (0≤x∧x≤9))=true))=pb (Vx s):=qlz (by
   simp only[Bool.not_eq_true',qcf]
   exact⟨fun h=>⟨by omega,by omega,h3,fun x hx=>Classical.byContradiction fun hn=>h ⟨x,hx,hn⟩⟩,fun h ⟨x,hx,hn⟩=>hn (h.2.2.2 x hx)⟩)
  rw[this]
 ·rw[qau fun h=>qcf.1 h3 h.2.2.1]
 ·rw[qau fun h=>h2 (by have:=h.2.1;omega)]
 ·rw[qau fun h=>h1 (by have:=h.1;omega)]
theorem qiC(s:Sim)(lo hi:Int)(hs:Sm yL s):Ret E n_Z75 [dL s,dI lo,dI hi] ⟨o_Z75,(pb (qi5 s∧∀ x∈s,lo≤x∧x≤hi),())⟩:=by
 have hs1:s.length≤1048576:=hs.1
 refine qat ?_
 simp only[run_Z75,Z75.ev]
 refine Ev.start (p:=fun φ n=>Z75.l0 (mkR (run E (φ 0))) (φ 0) n s lo hi 0=_) 1 ?_ (fun _ _ _ h=>h)
 refine(qdR 1 (L:=fun φ n k=>Z75.l0 (mkR (run E (φ 0))) (φ 0) n s lo hi k) (len:=s.length) 0 (by omega) (fun j=>(lo≤s.getD j 0∧s.getD j 0≤hi)∧(1≤j→s.getD (j-1) 0<s.getD j 0)) (fun b=>some ⟨o_Z75,(b,())⟩) (fun _ _ _ _=>rfl) (fun k h1 h2 hP _=>?_) (fun k r h1 h2 hP _ ih=>?_) (fun _=>?_)).to ?_
 ·simp only[Z75.l0_succ _ qaj]
  refine qaD (decide_eq_true (by omega)) (qak (qas h2) (qac (qbj _ _ _) ?_))
  have e:s.getD k 0=s[k]:=by simp[List.getD_eq_getElem?_getD,h2]
  rw[e] at hP
  refine qdC (fun _=>?_) (fun hin=>?_)
  ·simp only[Z75.j1_eq _ qaj,cond_true];(first | exact qap | exact Ev.of fun _=>trivial)
  ·have hin:lo≤s[k]∧s[k]≤hi:=qaM.1 (by simpa using hin)
   have hk:1≤k:=Classical.byContradiction fun h=>hP ⟨hin,fun h'=>absurd h' h⟩
   refine qaD (decide_eq_true (by omega)) ?_
   rw[qam (by omega) (by omega),show((k:Int)-1)=((k-1:Nat):Int) by omega]
   refine qak (qas (by omega)) (qak (qas h2) ?_)
   have e':s.getD (k-1) 0=s[k-1]:=by simp[List.getD_eq_getElem?_getD,show k-1<s.length by omega]
   rw[e'] at hP
   have:decide (s[k-1]≥s[k])=true:=decide_eq_true (Classical.byContradiction fun h=>hP ⟨hin,fun _=>by omega⟩)
   simp only[this,Z75.j1_eq _ qaj,cond_true];(first | exact qap | exact Ev.of fun _=>trivial)
 ·simp only[Z75.l0_succ _ qaj]
  refine qaD (decide_eq_true (by omega)) (qak (qas h2) (qac (qbj _ _ _) ?_))
  have e:s.getD k 0=s[k]:=by simp[List.getD_eq_getElem?_getD,h2]
  rw[e] at hP
  refine qaF (by rw[qax hP.1];rfl) ?_
  refine qd9 (fun hk=>?_) fun hk=>?_
  ·rw[qam (by omega) (by omega),show((k:Int)-1)=((k-1:Nat):Int) by omega]
   refine qak (qas (by omega)) (qak (qas h2) ?_)
   have e':s.getD (k-1) 0=s[k-1]:=by simp[List.getD_eq_getElem?_getD,show k-1<s.length by omega]
   rw[e'] at hP
   have:decide (s[k-1]≥s[k])=false:=decide_eq_false (by have:=hP.2 (by omega);omega)
   simp only[this,Z75.j1_eq _ qaj,cond_false]
   rw[qao (by omega)];exact ih
  ·simp only[Z75.j1_eq _ qaj,cond_false]
   rw[qao (by omega)];exact ih
 ·simp only[Z75.l0_succ _ qaj]
  exact qaF (decide_eq_false (by omega)) qap
 ·refine congrArg (fun b:Bool=>some (⟨o_Z75,(b,())⟩:Dv)) (qaN ⟨fun h=>⟨fun j h1 h2=>(h j (by omega) h2).2 h1,fun x hx=>?_⟩,fun⟨h1,h2⟩ j _ hj=>⟨?_,fun h3=>h1 j h3 hj⟩⟩)
  ·obtain⟨j,hj,rfl⟩:=List.mem_iff_getElem.1 hx
   simpa [List.getD_eq_getElem?_getD,hj] using (h j (by omega) hj).1
  ·simpa [List.getD_eq_getElem?_getD,hj] using h2 _ (List.getElem_mem hj)
theorem qcx(s:Sim)(hs:Sm yL s):Ret E n_Z100 [dL s] ⟨o_Z100,(pb (Vx s),())⟩:=by
 refine qat ?_
 simp only[run_Z100,Z100.ev]
 refine qac (qbj _ _ _) (qdC (fun h1=>qac (qiC s _ _ hs) (qan ?_)) fun h1=>qan ?_)
 ·have h1:=qaM.1 h1
  exact congrArg (fun b:Bool=>some (⟨o_Z100,(b,())⟩:Dv)) (qaN ⟨fun h=>⟨by omega,by omega,h.1,h.2⟩,fun h=>⟨h.2.2.1,h.2.2.2⟩⟩)
 ·rw[qau fun h=>qcf.1 h1 ⟨by have:=h.1;omega,by have:=h.2.1;omega⟩]
def qg3(a b:Int):Int:=if a<b then -1 else if b<a then 1 else 0
def qdb:Sim→Sim→Int
 | [],[]=>0
 | [],_::_=>-1
 | _::_,[]=>1
 | x::xs,y::ys=>if x<y then -1 else if y<x then 1 else qdb xs ys
def qcy(a b:Sim):Int:=if qg3 a.length b.length≠0 then qg3 a.length b.length else qdb a b
theorem qdu{a b:Int}:qg3 a b=0↔a=b:=by unfold qg3;split<;>(try split)<;>omega
theorem qm4{a b:Int}:qg3 b a=- qg3 a b:=by unfold qg3;split<;>split<;>(try split)<;>omega
theorem qmb{a b:Int}:qg3 a b<0↔a<b:=by unfold qg3;split<;>(try split)<;>omega
theorem qlO:∀ {a b:Sim},qdb a b=0↔a=b
 | [],[]=>by simp[qdb]
 | [],_::_=>by simp[qdb]
 | _::_,[]=>by simp[qdb]
 | x::xs,y::ys=>by
  have:=@qlO xs ys
  simp only[qdb,List.cons.injEq]
  split
  ·constructor
   ·intro h;omega
   ·rintro⟨rfl,_⟩;omega
  ·split
   ·constructor
    ·intro h;omega
    ·rintro⟨rfl,_⟩;omega
   ·rw[this];constructor
    ·intro h;exact⟨by omega,h⟩
    ·exact fun h=>h.2
theorem qkN:∀ {a b:Sim},qdb b a=- qdb a b
 | [],[]=>by simp[qdb]
 | [],_::_=>by simp[qdb]
 | _::_,[]=>by simp[qdb]
 | x::xs,y::ys=>by
  have:=@qkN xs ys
  simp only[qdb]
  split<;>split<;>(try split)<;>omega
theorem qg7:∀ {a b c:Sim},qdb a b<0→qdb b c<0→qdb a c<0
 | [],[],c,h,_=>by simp[qdb] at h
 | [],_::_,[],_,h=>by simp[qdb] at h
 | [],_::_,_::_,_,_=>by simp[qdb]
 | _::_,[],_,h,_=>by simp[qdb] at h
 | _::_,_::_,[],_,h=>by simp[qdb] at h
 | x::xs,y::ys,z::zs,h1,h2=>by
  have:=@qg7 xs ys zs
  simp only[qdb] at h1 h2 ⊢
  split at h1<;>split at h2<;>(try split at h1)<;>(try split at h2)<;>(try split)<;>(try split)<;>first | omega | (exact this h1 h2)
theorem qcc{a b:Sim}:qcy a b=0↔a=b:=by
 unfold qcy
 split
 ·rename_i h
  exact⟨fun h'=>absurd h' h,fun h'=>absurd (qdu.2 (by rw[h'])) h⟩
 ·exact qlO
theorem qkB{a b:Sim}:qcy b a=- qcy a b:=by
 unfold qcy
 rw[@qm4 a.length b.length]
 split<;>split<;>first | omega | exact qkN
theorem qfZ{a b:Sim}:qcy a b<0↔a.length<b.length∨a.length=b.length∧qdb a b<0:=by
 unfold qcy
 split
 ·rename_i h
  rw[qmb]
  rw[Ne,qdu] at h
  omega
 ·rename_i h
  rw[Classical.not_not,qdu] at h
  omega
theorem qdE{a b c:Sim}(h1:qcy a b<0)(h2:qcy b c<0):qcy a c<0:=by
 rw[qfZ] at *
 rcases h1 with h1 | ⟨h1,h1'⟩<;>rcases h2 with h2 | ⟨h2,h2'⟩
 ·left;omega
 ·left;omega
 ·left;omega
 ·right;exact⟨by omega,qg7 h1' h2'⟩
theorem qhD(a:Int):Ret E n_Z3 [dI a] ⟨o_Z3,(false,())⟩:=by
 refine qat ?_
 simp only[run_Z3,Z3.ev]
 exact qan (by simp)
theorem qi3(a:Int):Ret E n_Z4 [dI a] ⟨o_Z4,(false,())⟩:=by
 refine qat ?_
 simp only[run_Z4,Z4.ev]
 exact qan (by simp)
theorem qiL(a b:Int):Ret E n_Z0 [dI a,dI b] ⟨o_Z0,(qg3 a b,())⟩:=by
 refine qat ?_
 simp only[run_Z0,Z0.ev]
 refine qac (qhD _) (qac (qhD _) (qaF rfl (qaF rfl (qd9 (fun h=>qan ?_) fun h=>qd9 (fun h2=>qan ?_) fun h2=>qan ?_))))
 ·rw[qg3,if_pos h]
 ·rw[qg3,if_neg h,if_pos h2]
 ·rw[qg3,if_neg h,if_neg h2]
theorem qjV(a b:Int):Ret E n_Z1 [dI a,dI b] ⟨o_Z1,(qg3 a b,())⟩:=by
 refine qat ?_
 simp only[run_Z1,Z1.ev]
 refine qac (qi3 _) (qac (qi3 _) (qaF rfl (qaF rfl (qd9 (fun h=>qan ?_) fun h=>qd9 (fun h2=>qan ?_) fun h2=>qan ?_))))
 ·rw[qg3,if_pos h]
 ·rw[qg3,if_neg h,if_pos h2]
 ·rw[qg3,if_neg h,if_neg h2]
theorem qgI{a b:Sim}{k:Nat}(h:k<a.length)(h':k<b.length):qdb (a.drop k) (b.drop k)=if qg3 a[k] b[k]≠0 then qg3 a[k] b[k] else qdb (a.drop (k+1)) (b.drop (k+1)):=by
 rw[List.drop_eq_getElem_cons h,List.drop_eq_getElem_cons h',qdb]
 unfold qg3
 split
 ·simp
 ·split
  ·simp
  ·simp
theorem qfC(a b:Sim)(ha:Sm yL a):Ret E n_Z46 [dL a,dL b] ⟨o_Z46,(qdb a b,())⟩:=by
 have ha1:a.length≤1048576:=ha.1
 refine qat ?_
 simp only[run_Z46,Z46.ev]
 refine Ev.start (p:=fun φ n=>Z46.l0 (mkR (run E (φ 0))) (φ 0) n a b a (a.length:Int) 0=_) 1 ?_ (fun _ _ _ h=>h)
 refine qeU 1 (σ:=Nat) (L:=fun φ n k=>Z46.l0 (mkR (run E (φ 0))) (φ 0) n a b a (a.length:Int) (k:Int)) (fun _ _ _ _=>rfl) (fun k=>k≤a.length∧k≤b.length) (fun k=>some ⟨o_Z46,(qdb (a.drop k) (b.drop k),())⟩) (fun k=>a.length-k) (fun k ⟨hk,hkb⟩ ih=>?_) 0 ⟨Nat.zero_le _,Nat.zero_le _⟩
 simp only[Z46.l0_succ _ qaj]
 refine qd9 (fun h=>?_) fun h=>?_
 ·have hka:k<a.length:=by omega
  refine qak (qas hka) (qd9 (fun h2=>qan ?_) fun h2=>?_)
  ·rw[List.drop_eq_getElem_cons hka,List.drop_of_length_le (l:=b) (by omega),qdb]
  ·have hkb:k<b.length:=by omega
   refine qak (qas hkb) (qac (qjV _ _) (qdC (fun h3=>qan ?_) fun h3=>?_))
   ·rw[qgI hka hkb,if_pos (by simpa using h3)]
   ·rw[qao (by omega)]
    refine(ih (k+1) ⟨by omega,by omega⟩ (by omega)).to ?_
    rw[qgI hka hkb,if_neg (by simpa using h3)]
 ·have e:k=a.length:=by omega
  subst e
  refine qd9 (fun h2=>qan ?_) fun h2=>qan ?_
  ·rw[List.drop_of_length_le (l:=a) (by omega),List.drop_eq_getElem_cons (l:=b) (by omega),qdb]
  ·rw[List.drop_of_length_le (l:=a) (by omega),List.drop_of_length_le (l:=b) (by omega),qdb]
theorem qnT(a b:Int):Ret E n_Z2 [dL [a,b]] ⟨o_Z2,(if a≠0 then a else b,())⟩:=by
 refine qat ?_
 simp only[run_Z2,Z2.ev]
 refine Ev.start (p:=fun φ n=>Z2.l0 (mkR (run E (φ 0))) (φ 0) n 0 [a,b] ([a,b].length:Int) 0=_) 1 ?_ (fun _ _ _ h=>h)
 refine Ev.round 1 (L:=fun φ n=>Z2.l0 (mkR (run E (φ 0))) (φ 0) n 0 [a,b] ([a,b].length:Int) 0) ?_ (fun _ _ _=>rfl)
 simp only[Z2.l0_succ _ qaj]
 refine qaD (by simp) (qak (x:=a) rfl (qdC (fun h=>qan ?_) fun h=>?_))
 ·rw[if_pos (by simpa using h)]
 ·rw[if_neg (by simpa using h)]
  rw[show w64 ((0:Int)+1)=1 by decide]
  refine Ev.round 1 (L:=fun φ n=>Z2.l0 (mkR (run E (φ 0))) (φ 0) n 0 [a,b] ([a,b].length:Int) 1) ?_ (fun _ _ _=>rfl)
  simp only[Z2.l0_succ _ qaj]
  refine qaD (by simp) (qak (x:=b) rfl (qdC (fun h=>qap) fun h=>?_))
  rw[show w64 ((1:Int)+1)=2 by decide]
  refine Ev.round 1 (L:=fun φ n=>Z2.l0 (mkR (run E (φ 0))) (φ 0) n 0 [a,b] ([a,b].length:Int) 2) ?_ (fun _ _ _=>rfl)
  simp only[Z2.l0_succ _ qaj]
  refine qaF (by simp) (qan ?_)
  have:b=0:=by simpa using h
  rw[this]
theorem qaP(a b:Sim)(ha:Sm yL a):Ret E n_Z17 [dL a,dL b] ⟨o_Z17,(qcy a b,())⟩:=by
 refine qat ?_
 simp only[run_Z17,Z17.ev]
 exact qac (qiL _ _) (qac (qfC a b ha) (qac (qnT _ _) qap))
theorem qb1(a b:Sim)(ha:Sm yL a):Ret E n_Z88 [dL a,dL b] ⟨o_Z88,(pb (qcy a b<0),())⟩:=by
  have ha1:a.length≤1048576:=ha.1
  refine qat ?_
  simp only[run_Z88,Z88.ev]
  refine qdC (fun h=>qan ?_) fun h=>?_
  · have h:(a.length:Int)≠b.length:=by simpa using h
    rw[qem,qaN (show(a.length:Int)<b.length↔qcy a b<0 by rw[qfZ];omega)]
  · have h : a.length = b.length := by have : (a.length : Int) = b.length := by simpa using h
                                       omega
    refine Ev.start (p:=fun φ n=>Z88.l0 (mkR (run E (φ 0))) (φ 0) n a b 0=_) 1 ?_ (fun _ _ _ h=>h)
    refine(qeU 1 (σ:=Nat) (L:=fun φ n k=>Z88.l0 (mkR (run E (φ 0))) (φ 0) n a b (k:Int)) (fun _ _ _ _=>rfl) (fun k=>k≤a.length) (fun k=>some ⟨o_Z88,(pb (qdb (a.drop k) (b.drop k)<0),())⟩) (fun k=>a.length-k) (fun k hk ih=>?_) 0 (Nat.zero_le _)).to ?_
    · simp only[Z88.l0_succ _ qaj]
      refine qd9 (fun h1=>?_) fun h1=>?_
      · have hka:k<a.length:=by omega
        have hkb:k<b.length:=by omega
        have e:=qgI hka hkb
        refine qak (qas hka) (qak (qas hkb) (qdC (fun h3=>?_) fun h3=>?_))
        · refine qak (qas hka) (qak (qas hkb) (qan ?_))
          have h3:a[k]≠b[k]:=by simpa using h3
          rw[if_pos (by rw[Ne,qdu];exact h3)] at e
          rw[e,qem,qaN qmb]
        · have h3:a[k]=b[k]:=by simpa using h3
          rw[if_neg (by rw[Classical.not_not,qdu];exact h3)] at e
          rw[qao (by omega),e]
          exact ih (k+1) (by show k+1≤_;omega) (by show a.length-(k+1)<_;omega)
      · refine qan ?_
        have hk:k≤a.length:=hk
        have e:k=a.length:=by omega
        subst e
        rw[List.drop_of_length_le (l:=a) (by omega),List.drop_of_length_le (l:=b) (by omega),qdb,qau (by omega)]
    · refine congrArg (fun b:Bool=>some (⟨o_Z88,(b,())⟩:Dv)) (qaN ?_)
      simp only[List.drop_zero];rw[qfZ];omega
end VeT
open Go Go.Proofs Ve
namespace VeT
theorem qag{α:Type}{s:List α}{k:Nat}{d:α}(h:k<s.length):s.getD k d=s[k]:=by simp[List.getD_eq_getElem?_getD,h]
theorem qba{t:Ty}{s:List t.T}(h:Sm (.sl t) s){k:Nat}(hk:k<s.length):Sm t s[k]:=h.2 _ (List.getElem_mem hk)
theorem qo2{s:Sim}(h:s.length≤1048576):Sm yL s:=⟨h,fun _ _=>trivial⟩
theorem qeV(s:Sim)(hs:s.length≤1048576):Ret E n_Z73 [dL s] ⟨o_Z73,(s,())⟩:=by
 refine qat ?_
 simp only[run_Z73,Z73.ev]
 exact qaG (by simp;omega) (qan rfl)
theorem qcN(s:Sim)(k:Nat)(hk:k<s.length)(hs:s.length≤1048576):Ret E n_Z94 [dL s,dI (k:Int)] ⟨o_Z94,(s.eraseIdx k,())⟩:=by
 refine qat ?_
 simp only[run_Z94,Z94.ev]
 rw[qao (by omega)]
 simp only[Int.toNat_natCast]
 refine qaG (by simp;omega) (qac (qeV _ (by simp;omega)) (qaG (by simp;omega) (qaG (by simp;omega) (qan ?_))))
 rw[List.eraseIdx_eq_take_drop_succ]
theorem qfg(a b:Sim)(ha:a.length≤1048576):Ret E n_Z76 [dL a,dL b] ⟨o_Z76,(pb (a=b),())⟩:=by
 refine qat ?_
 simp only[run_Z76,Z76.ev]
 refine qdC (fun h=>qan ?_) fun h=>?_
 ·have h:(a.length:Int)≠b.length:=by simpa using h
  rw[qau fun e=>h (by rw[e])]
 ·have h:(a.length:Int)=b.length:=by simpa using h
  refine Ev.start (p:=fun φ n=>Z76.l0 (mkR (run E (φ 0))) (φ 0) n a b 0=_) 1 ?_ (fun _ _ _ h=>h)
  refine(qdR 1 (L:=fun φ n k=>Z76.l0 (mkR (run E (φ 0))) (φ 0) n a b k) (len:=a.length) 0 (by omega) (fun j=>a.getD j 0=b.getD j 0) (fun b=>some ⟨o_Z76,(b,())⟩) (fun _ _ _ _=>rfl) (fun k h1 h2 hP _=>?_) (fun k r h1 h2 hP _ ih=>?_) (fun _=>?_)).to ?_
  ·simp only[Z76.l0_succ _ qaj]
   have hb:k<b.length:=by omega
   rw[qag h2,qag hb] at hP
   exact qaD (decide_eq_true (by omega)) (qak (qas h2) (qak (qas hb) (qaD (by simpa using hP) qap)))
  ·simp only[Z76.l0_succ _ qaj]
   have hb:k<b.length:=by omega
   rw[qag h2,qag hb] at hP
   refine qaD (decide_eq_true (by omega)) (qak (qas h2) (qak (qas hb) (qaF (by simpa using hP) ?_)))
   rw[qao (by omega)];exact ih
  ·simp only[Z76.l0_succ _ qaj]
   exact qaF (decide_eq_false (by omega)) qap
  ·refine congrArg (fun b:Bool=>some (⟨o_Z76,(b,())⟩:Dv)) (qaN ⟨fun hh=>List.ext_getElem (by omega) fun j h1 h2=>?_,fun hh j _ _=>by rw[hh]⟩)
   have:=hh j (by omega) h1
   rwa [qag h1,qag h2] at this
noncomputable def qbg(c:List Sim)(s:Sim):Int:=qg9 (fun x=>pb (x=s)) c
theorem qaB{c:List Sim}{s:Sim}:0≤qbg c s↔s∈c:=by
 unfold qbg
 rw[qcP]
 simp only[qaM]
 exact⟨fun⟨x,h,e⟩=>e ▸ h,fun h=>⟨s,h,rfl⟩⟩
theorem qaU(c:Cpx)(s:Sim)(hc:Sm yK c.1):Ret E n_Z96 [dC c,dL s] ⟨o_Z96,(qbg c.1 s,())⟩:=by
  have hc1:c.1.length≤1048576:=hc.1
  obtain⟨o,h1,h2,h3⟩:=qcI 1 (L:=fun φ n k=>Z96.l0 (mkR (run E (φ 0))) (φ 0) n c s k) (len:=c.1.length) (fun k=>∃ h:k<c.1.length,pb (c.1[k]=s)=true) (fun o=>some ⟨o_Z96,(o2i o,())⟩) (fun _ _ _ _=>rfl) (fun k hk hP=>by
      obtain⟨_,hP⟩:=hP
      simp only[Z96.l0_succ _ qaj]
      refine qaD (decide_eq_true (by omega)) (qak (qas hk) (qac (qfg _ _ (qba hc hk).1) (qaD hP qap)))) (fun k q hk hP ih=>by
      simp only[Z96.l0_succ _ qaj]
      refine qaD (decide_eq_true (by omega)) (qak (qas hk) (qac (qfg _ _ (qba hc hk).1) (qaF (Bool.eq_false_iff.2 fun h=>hP ⟨hk,h⟩) ?_)))
      rw[qao (by omega)];exact ih) (by
      simp only[Z96.l0_succ _ qaj]
      exact qaF (decide_eq_false (by omega)) qap)
  rw[qeI (p:=fun x=>pb (x=s)) h1 h2] at h3
  refine qat ?_
  simp only[run_Z96,Z96.ev]
  exact Ev.start (p:=fun φ n=>Z96.l0 (mkR (run E (φ 0))) (φ 0) n c s 0=_) 1 h3 (fun _ _ _ h=>h)
theorem qmO(n:Nat)(args:List Dv):run E (n+1) n_Z54 args=qlk yI (mkR (run E n)) args:=rfl
theorem qmX(s:Sim)(n:Int)(h0:0≤n)(h1:n≤1048576)(hs:s.length≤1048576):Ret E n_Z54 [dL s,dI n] ⟨o_Z54,(s,())⟩:=by
 refine qat ?_
 simp only[qmO]
 refine qan ((if_pos (show 0≤n∧((List.length s:Int)+n)*(64*(Ty.size (Ty.int IntKind.i64):Int))≤70368744177664 from⟨h0,?_⟩)).trans rfl)
 have:(Ty.size (Ty.int IntKind.i64))=1:=rfl
 rw[this];omega
theorem qlm(ll:List Sim)(hl:ll.length≤1048576)(hf:ll.flatten.length≤1048576):Ret E n_Z47 [dLL ll] ⟨o_Z47,(ll.flatten,())⟩:=by
 have hle:∀ k,(ll.take k).flatten.length≤ll.flatten.length:=fun k=>by
  have:=congrArg List.length (congrArg List.flatten (List.take_append_drop k ll))
  rw[List.flatten_append,List.length_append] at this;omega
 have hst:∀ k (h:k<ll.length),(ll.take (k+1)).flatten=(ll.take k).flatten++ll[k]:=fun k h=>by
  rw[List.take_succ_eq_append_getElem h,List.flatten_append];simp
 refine qat ?_
 simp only[run_Z47,Z47.ev]
 refine Ev.start (p:=fun φ n=>Z47.l0 (mkR (run E (φ 0))) (φ 0) n ll 0 ll (ll.length:Int) 0=_) 1 ?_ (fun _ _ _ h=>h)
 refine qay 1 (L:=fun φ n k a=>Z47.l0 (mkR (run E (φ 0))) (φ 0) n ll a ll (ll.length:Int) k) (len:=ll.length) (fun k=>(((ll.take k).flatten.length:Nat):Int)) (fun _ _ _ _ _=>rfl) (fun k r hk ih=>?_) ?_
 ·simp only[Z47.l0_succ _ qaj]
  have:=hle (k+1)
  have e:=hst k hk
  have e2:w64 (((ll.take k).flatten.length:Nat)+(List.length (ll[k]):Int))=(((ll.take (k+1)).flatten.length:Nat):Int):=by
   rw[qam (by omega) (by rw[e,List.length_append] at this;omega),e,List.length_append];omega
  refine qaD (decide_eq_true (by omega)) (qak (qas hk) ?_)
  show Ev fun φ=>(bif decide (w64 (((ll.take k).flatten.length:Nat)+(List.length (ll[k]):Int))<0) then none else Z47.l0 (mkR (run E (φ 0))) (φ 0) (φ 1) ll (w64 (((ll.take k).flatten.length:Nat)+(List.length (ll[k]):Int))) ll (ll.length:Int) (w64 ((k:Int)+1)))=r
  rw[e2,qao (by omega)]
  exact qaF (decide_eq_false (by omega)) ih
 ·simp only[Z47.l0_succ _ qaj]
  refine qaF (decide_eq_false (by omega)) (qac (qmX [] _ (by omega) (by have:=hle ll.length;omega) (by simp)) ?_)
  refine Ev.start (p:=fun φ n=>Z47.l1 (mkR (run E (φ 0))) (φ 0) n ll (ll.length:Int) 0 []=_) 2 ?_ (fun _ _ _ h=>h)
  refine qay 2 (L:=fun φ n k a=>Z47.l1 (mkR (run E (φ 0))) (φ 0) n ll (ll.length:Int) k a) (len:=ll.length) (fun k=>(ll.take k).flatten) (fun _ _ _ _ _=>rfl) (fun k r hk ih=>?_) ?_
  ·simp only[Z47.l1_succ _ qaj]
   have:=hle (k+1)
   have e:=hst k hk
   rw[e] at ih this
   rw[List.length_append] at this
   refine qaD (decide_eq_true (by omega)) (qak (qas hk) (qaG (decide_eq_true (by show(_+List.length ll[k])*8≤_;omega)) ?_))
   rw[qao (by omega)]
   exact ih
  ·simp only[Z47.l1_succ _ qaj]
   refine qaF (decide_eq_false (by omega)) (qan ?_)
   rw[List.take_of_length_le (Nat.le_refl _)]
def qcg(s:Sim):List Sim:=if 1<s.length then(List.range s.length).map (s.eraseIdx ·) else []
theorem qbQ{s f:Sim}:f∈qcg s↔1<s.length∧∃ i,i<s.length∧f=s.eraseIdx i:=by
 unfold qcg
 split
 ·rename_i h
  simp only[List.mem_map,List.mem_range,h,true_and]
  exact⟨fun⟨i,h1,h2⟩=>⟨i,h1,h2.symm⟩,fun⟨i,h1,h2⟩=>⟨i,h1,h2.symm⟩⟩
 ·rename_i h
  simp[h]
theorem qiG{s f:Sim}(h:f∈qcg s):f.length+1=s.length:=by
 obtain⟨h1,i,h2,rfl⟩:=qbQ.1 h
 rw[List.length_eraseIdx,if_pos h2];omega
theorem qiT{s:Sim}:(qcg s).length≤s.length:=by
 unfold qcg;split<;>simp
theorem qfT(s:Sim)(hs:s.length≤1048576):Ret E n_Z19 [dL s] ⟨o_Z19,(qcg s,())⟩:=by
 refine qat ?_
 simp only[run_Z19,Z19.ev]
 refine Ev.start (p:=fun φ n=>Z19.l0 (mkR (run E (φ 0))) (φ 0) n s (s.length:Int) 0 []=_) 1 ?_ (fun _ _ _ h=>h)
 by_cases h1:1<s.length
 ·refine qay 1 (L:=fun φ n k a=>Z19.l0 (mkR (run E (φ 0))) (φ 0) n s (s.length:Int) k a) (len:=s.length) (fun k=>(List.range k).map (s.eraseIdx ·)) (fun _ _ _ _ _=>rfl) (fun k r hk ih=>?_) ?_
  ·simp only[Z19.l0_succ _ qaj]
   rw[List.range_succ,List.map_append] at ih
   rw[qao (by omega)]
   simp only[Int.toNat_natCast]
   refine qaD (decide_eq_true (by omega)) (qaD (decide_eq_true (by omega)) (qaG (by simp;omega) (qaG (by simp;omega) (qac (qlm _ (by simp) (by simp;omega)) (qaG (by simp;omega) ?_)))))
   rw[show [s.take k,s.drop (k+1)].flatten=s.eraseIdx k by simp[List.eraseIdx_eq_take_drop_succ]]
   exact ih
  ·simp only[Z19.l0_succ _ qaj]
   exact qaF (decide_eq_false (by omega)) (qan (by rw[qcg,if_pos h1]))
 ·refine qay 1 (L:=fun φ n k a=>Z19.l0 (mkR (run E (φ 0))) (φ 0) n s (s.length:Int) k a) (len:=s.length) (fun k=>[]) (fun _ _ _ _ _=>rfl) (fun k r hk ih=>?_) ?_
  ·simp only[Z19.l0_succ _ qaj]
   rw[qao (by omega)]
   exact qaD (decide_eq_true (by omega)) (qaF (decide_eq_false (by omega)) ih)
  ·simp only[Z19.l0_succ _ qaj]
   exact qaF (decide_eq_false (by omega)) (qan (by rw[qcg,if_neg h1]))
def Srt(c:List Sim):Prop:=∀ i j (h:j<c.length) (hij:i<j),qcy c[i] c[j]<0
theorem qnq{c:List Sim}(h:∀ k,1≤k→k<c.length→qcy (c.getD (k-1) []) (c.getD k [])<0):Srt c:=by
 intro i j
 induction j with
 | zero=>intro _ h;omega
 | succ j ih =>
  intro hj hij
  have:=h (j+1) (by omega) hj
  rw[Nat.add_sub_cancel,qag (by omega),qag hj] at this
  by_cases e:i=j
  ·subst e;exact this
  ·exact qdE (ih (by omega) (by omega)) this
theorem Srt.take{c:List Sim}(h:Srt c)(k:Nat):Srt (c.take k):=by
 intro i j hj hij
 rw[List.getElem_take,List.getElem_take]
 exact h i j (by rw[List.length_take] at hj;omega) hij
def bs(c:List Sim)(s:Sim):Nat:=c.findIdx (fun x=>!decide (qcy x s<0))
theorem qoH{c:List Sim}{s:Sim}:bs c s≤c.length:=List.findIdx_le_length
theorem qhR{c:List Sim}{s:Sim}(hc:Srt c){t:Nat}(h:t<c.length):t<bs c s↔qcy c[t] s<0:=by
 constructor
 ·intro ht
  have:=List.not_of_lt_findIdx ht
  simpa using this
 ·intro ht
  refine Classical.byContradiction fun hn=>?_
  have hb:bs c s<c.length:=by omega
  have h1:qcy c[bs c s] s<0:=by
   by_cases e:bs c s=t
   ·simp only[e];exact ht
   ·exact qdE (hc _ _ h (by omega)) ht
  have:=List.findIdx_getElem (w:=hb)
  simp only[Bool.not_eq_true',decide_eq_false_iff_not] at this
  exact this h1
theorem ql8{c:List Sim}{s:Sim}(hc:Srt c):qbg c s=if h:bs c s<c.length∧c.getD (bs c s) []=s then(bs c s:Int) else -1:=by
 have e:c.findIdx? (fun x=>pb (x=s))=if bs c s<c.length∧c.getD (bs c s) []=s then some (bs c s) else none:=by
  split
  ·rename_i h
   obtain⟨h1,h2⟩:=h
   rw[List.findIdx?_eq_some_iff_getElem]
   rw[qag h1] at h2
   refine⟨h1,qax h2,fun j hj=>?_⟩
   rw[qaM]
   intro he
   have:=(qhR (s:=s) hc (show j<c.length by omega)).1 hj
   rw[he,qcc.2 rfl] at this
   omega
  ·rename_i h
   rw[List.findIdx?_eq_none_iff]
   intro x hx
   rw[qcf]
   rintro rfl
   obtain⟨j,hj,rfl⟩:=List.mem_iff_getElem.1 hx
   have h0:¬ j<bs c c[j]:=fun hlt=>by
    have:=(qhR hc hj).1 hlt
    rw[qcc.2 rfl] at this;omega
   by_cases hjb:bs c c[j]=j
   ·exact h ⟨by omega,by rw[hjb,qag hj]⟩
   ·have hb:bs c c[j]<c.length:=by omega
    have:=(qhR (s:=c[j]) hc hb).2 (hc _ _ hj (by omega))
    omega
 unfold qbg qg9
 rw[e]
 split<;>rfl
theorem qfv(c:List Sim)(s:Sim)(hc:Sm yK c)(hs:Srt c):Ret E n_Z41 [dLL c,dL s,⟨.fn n_Z17 .nil,()⟩] ⟨o_Z41,((bs c s:Int),pb (bs c s<c.length∧c.getD (bs c s) []=s),())⟩:=by
 have hc1:c.length≤1048576:=hc.1
 refine qat ?_
 simp only[run_Z41,Z42.ev]
 refine Ev.start (p:=fun φ n=>Z42.l0 (mkR (run E (φ 0))) (φ 0) n c s (c.length:Int) 0 (c.length:Int)=_) 1 ?_ (fun _ _ _ h=>h)
 refine qeU 1 (σ:=Nat×Nat) (L:=fun φ n st=>Z42.l0 (mkR (run E (φ 0))) (φ 0) n c s (c.length:Int) (st.1:Int) (st.2:Int)) (fun _ _ _ _=>rfl) (fun st=>st.1≤bs c s∧bs c s≤st.2∧st.2≤c.length) (fun _=>_) (fun st=>st.2-st.1) (fun st hi ih=>?_) (0,c.length) ⟨Nat.zero_le _,qoH,Nat.le_refl _⟩
 obtain⟨i,j⟩:=st
 obtain⟨h1,h2,h3⟩:=hi
 simp only at h1 h2 h3 ih
 simp only[Z42.l0_succ _ qaj]
 rw[qpj (by omega)]
 refine qd9 (fun hij=>?_) fun hij=>?_
 ·have hh:(i+j) / 2<c.length:=by omega
  refine qaG (by decide) (qak (qas hh) (qac (qaP _ _ (qba hc hh)) (qd9 (fun hlt=>?_) fun hlt=>?_)))
  ·rw[qao (by omega)]
   have:=(qhR hs hh).2 hlt
   exact ih ((i+j) / 2+1,j) ⟨this,h2,h3⟩ (by simp only;omega)
  ·have:¬ (i+j) / 2<bs c s:=fun h=>hlt ((qhR hs hh).1 h)
   exact ih (i,(i+j) / 2) ⟨h1,by simp only;omega,by simp only;omega⟩ (by simp only;omega)
 ·have e:i=bs c s:=by omega
  subst e
  refine qd9 (fun hl=>?_) fun hl=>qan ?_
  ·have hh:bs c s<c.length:=by omega
   refine qak (qas hh) (qac (qaP _ _ (qba hc hh)) (qan ?_))
   have:(qcy c[bs c s] s==0)=pb (bs c s<c.length∧c.getD (bs c s) []=s):=qlz (by
    rw[qag hh,beq_iff_eq,qcc];exact⟨fun h=>⟨hh,h⟩,fun h=>h.2⟩)
   rw[this]
  ·rw[qau fun h=>hl (by omega)]
theorem qd1(c:List Sim)(s:Sim)(hc:Sm yK c)(hs:Srt c):Ret E n_Z24 [dLL c,dL s] ⟨o_Z24,(qbg c s,())⟩:=by
 refine qat ?_
 simp only[run_Z24,Z24.ev]
 refine qac (qfv c s hc hs) (qdC (fun h=>qan ?_) fun h=>qan ?_)
 ·rw[ql8 hs,dif_neg (qcf.1 (by simpa using h))]
 ·rw[ql8 hs,dif_pos (qaM.1 (by simpa using h))]
end VeT
open Go Go.Proofs Ve
namespace VeT
def VC(c:List Sim):Prop:=c.length≤48∧(∀ k,k<c.length→Vx (c.getD k []))∧(∀ k,1≤k→k<c.length→qcy (c.getD (k-1) []) (c.getD k [])<0)∧∀ k,k<c.length→∀ f∈qcg (c.getD k []),f∈c
theorem VC.srt{c:List Sim}(h:VC c):Srt c:=qnq h.2.2.1
def qiv(c:List Sim)(k:Nat):Prop:=(Vx (c.getD k [])∧(1≤k→qcy (c.getD (k-1) []) (c.getD k [])<0))∧∀ f∈qcg (c.getD k []),f∈c.take k
theorem qnY{c:List Sim}:((∀ k,0≤k→k<c.length→qiv c k)∧c.length≤48)↔VC c:=by
 constructor
 ·rintro⟨h,hl⟩
  exact⟨hl,fun k hk=>(h k (by omega) hk).1.1,fun k h1 hk=>(h k (by omega) hk).1.2 h1,fun k hk f hf=>List.mem_of_mem_take ((h k (by omega) hk).2 f hf)⟩
 ·intro h
  have hs:=h.srt
  obtain⟨hl,h1,h2,h3⟩:=h
  refine⟨fun k _ hk=>⟨⟨h1 k hk,fun hk1=>h2 k hk1 hk⟩,fun f hf=>?_⟩,hl⟩
  have hm:=h3 k hk f hf
  have hlen:=qiG hf
  rw[qag hk] at hlen
  obtain⟨i,hi,rfl⟩:=List.mem_iff_getElem.1 hm
  have hlt:qcy c[i] c[k]<0:=qfZ.2 (.inl (by omega))
  have hik:i<k:=Classical.byContradiction fun hn=>by
   by_cases e:i=k
   ·subst e;omega
   ·have:=hs k i hi (by omega)
    rw[qkB] at this;omega
  exact List.mem_iff_getElem.2 ⟨i,by rw[List.length_take];omega,by rw[List.getElem_take]⟩
theorem qnP{t:Ty}{s:List t.T}(h:Sm (.sl t) s)(k:Nat):Sm (.sl t) (s.take k):=⟨by have h1:s.length≤1048576:=h.1;show(s.take k).length≤_;rw[List.length_take];omega,fun x hx=>h.2 x (List.mem_of_mem_take hx)⟩
theorem qev(c:List Sim)(f:Sim)(k:Nat)(hk:k≤c.length)(hc:Sm yK c)(hs:Srt (c.take k)) :
  Ret E n_Z10 [dL f,dC (c,()),⟨.ptr (.cons yI .nil),((k:Int),())⟩] ⟨o_Z10,(pb (¬ f∈c.take k),())⟩:=by
 refine qat ?_
 simp only[run_Z10,Z10.ev]
 simp only[Int.toNat_natCast]
 refine qaG (by simp;omega) (qac (qd1 _ f (qnP hc k) hs) (qan ?_))
 simp only[qem,qaN (show qbg (c.take k) f<0↔¬ f∈c.take k by rw[← qaB];omega)]
theorem qbu(c:List Sim)(hc:Sm yK c):Ret E n_Z9 [dLL c] ⟨o_Z9,(pb (VC c),())⟩:=by
  have hc1:c.length≤1048576:=hc.1
  refine qat ?_
  simp only[run_Z9,Z9.ev]
  refine Ev.start (p:=fun φ n=>Z9.l0 (mkR (run E (φ 0))) (φ 0) n c (c.length:Int) 0 c=_) 1 ?_ (fun _ _ _ h=>h)
  have key:∀(n:Nat) (k:Nat) (hk:k<c.length) (hpre:∀ j,0≤j→j<k→qiv c j),Srt (c.take k):=fun n k hk hpre=>qnq fun j h1 h2=>by
    rw[List.length_take] at h2
    have:=(hpre j (by omega) (by omega)).1.2 h1
    rw[qag (by omega),qag (by omega)] at this
    rw[qag (by rw[List.length_take];omega),qag (by rw[List.length_take];omega),List.getElem_take,List.getElem_take]
    exact this
  have hcon:∀(k:Nat) (hk:k<c.length) (hpre:∀ j,0≤j→j<k→qiv c j),Ret E n_Z48 [dLL (qcg c[k]),⟨.fn n_Z10 (.cons (.ptr yC) (.cons (.ptr (.cons yI .nil)) .nil)),((c,()),((k:Int),()),())⟩] ⟨o_Z48,(pb (∃ x∈qcg c[k],pb (¬ x∈c.take k)=true),())⟩:=fun k hk hpre =>
    qaS (qcg c[k]) ((c,()),((k:Int),()),()) _ (Nat.le_trans qiT (qba hc hk).1) fun x hx=>qev c x k (by omega) hc (key 0 k hk hpre)
  refine(qdR 1 (L:=fun φ n k=>Z9.l0 (mkR (run E (φ 0))) (φ 0) n c (c.length:Int) k c) (len:=c.length) 0 (by omega) (qiv c) (fun b=>some ⟨o_Z9,(b&&decide ((c.length:Int)≤48),())⟩) (fun _ _ _ _=>rfl) (fun k h1 h2 hP hpre=>?_) (fun k r h1 h2 hP hpre ih=>?_) (fun _=>?_)).to ?_
  · simp only[Z9.l0_succ _ qaj]
    refine qaD (decide_eq_true (by omega)) (qak (qas h2) (qac (qc6 _ (qba hc h2)) ?_))
    refine qdC (fun hv=>?_) fun hv=>?_
    · simp only[Z9.j1_eq _ qaj,cond_true];(first | exact qap | exact Ev.of fun _=>trivial)
    · have hv:Vx c[k]:=qaM.1 (by simpa using hv)
      have last:(1≤k→qcy (c.getD (k-1) []) (c.getD k [])<0)→Ev fun φ=>Z9.j1 (mkR (run E (φ 0))) (φ 0) (φ 1) c[k] c (c.length:Int) (k:Int) false c (k:Int)=some ⟨o_Z9,(false,())⟩:=fun hcm=>by
        simp only[Z9.j1_eq _ qaj,cond_false]
        refine qac (qfT _ (qba hc h2).1) (qac (hcon k h2 hpre) (qaD ?_ qap))
        refine qax (Classical.byContradiction fun hn=>hP ⟨⟨by rw[qag h2];exact hv,hcm⟩,fun f hf=>Classical.byContradiction fun hnf=>hn ⟨f,by rw[qag h2] at hf;exact hf,qax hnf⟩⟩)
      refine qd9 (fun hk=>?_) fun hk=>?_
      · rw[qam (by omega) (by omega),show((k:Int)-1)=((k-1:Nat):Int) by omega]
        have hk1:k-1<c.length:=by omega
        refine qak (qas hk1) (qac (qaP _ _ (qba hc hk1)) ?_)
        by_cases hcm:qcy c[k-1] c[k]<0
        · simp only[show decide (qcy c[k-1] c[k]≥0)=false from decide_eq_false (by omega)]
          exact last fun _=>by rw[qag hk1,qag h2];exact hcm
        · simp only[show decide (qcy c[k-1] c[k]≥0)=true from decide_eq_true (by omega),Z9.j1_eq _ qaj,cond_true]
          (first | exact qap | exact Ev.of fun _=>trivial)
      · exact last fun h=>absurd h (by omega)
  · simp only[Z9.l0_succ _ qaj]
    have hP':=hP
    obtain⟨⟨hv,hcm⟩,hfc⟩:=hP'
    rw[qag h2] at hv hfc
    refine qaD (decide_eq_true (by omega)) (qak (qas h2) (qac (qc6 _ (qba hc h2)) (qaF (by rw[qax hv];rfl) ?_)))
    have last:Ev fun φ=>Z9.j1 (mkR (run E (φ 0))) (φ 0) (φ 1) c[k] c (c.length:Int) (k:Int) false c (k:Int)=r:=by
      simp only[Z9.j1_eq _ qaj,cond_false]
      refine qac (qfT _ (qba hc h2).1) (qac (hcon k h2 hpre) (qaF ?_ ?_))
      · exact qau fun⟨x,hx,hn⟩=>qaM.1 hn (hfc x hx)
      · rw[qao (by omega)];exact ih
    refine qd9 (fun hk=>?_) fun hk=>last
    rw[qam (by omega) (by omega),show((k:Int)-1)=((k-1:Nat):Int) by omega]
    have hk1:k-1<c.length:=by omega
    have hcm:=hcm (by omega)
    rw[qag hk1,qag h2] at hcm
    refine qak (qas hk1) (qac (qaP _ _ (qba hc hk1)) ?_)
    simp only[show decide (qcy c[k-1] c[k]≥0)=false from decide_eq_false (by omega)]
    exact last
  · simp only[Z9.l0_succ _ qaj]
    exact qaF (decide_eq_false (by omega)) (qan (by rw[Bool.true_and]))
  · have:(pb (∀ j,0≤j→j<c.length→qiv c j)&&decide ((c.length:Int)≤48))=pb (VC c):=qlz (by
      rw[Bool.and_eq_true,qaM,decide_eq_true_iff,← qnY]
      exact⟨fun h=>⟨h.1,by omega⟩,fun h=>⟨h.1,by omega⟩⟩)
    rw[this]
def qnB(c:List Sim)(k:Nat):Prop:=(Vx (c.getD k [])∧(1≤k→qcy (c.getD (k-1) []) (c.getD k [])<0))∧∀ f∈qcg (c.getD k []),f∈c
theorem qdz(c:Cpx)(hc:Sm yK c.1):Ret E n_Z98 [dC c] ⟨o_Z98,(pb (VC c.1),())⟩:=by
  have hc1:c.1.length≤1048576:=hc.1
  refine qat ?_
  simp only[run_Z98,Z98.ev]
  refine qd9 (fun h=>qan ?_) fun h48=>?_
  · rw[qau fun hv=>by have:=hv.1;omega]
  refine Ev.start (p:=fun φ n=>Z98.l0 (mkR (run E (φ 0))) (φ 0) n c 0=_) 1 ?_ (fun _ _ _ h=>h)
  -- the inner loop
  have inner:∀(k:Nat) (h2:k<c.1.length) (r:Option Dv),((∀ f∈qcg c.1[k],f∈c.1)→Ev fun φ=>Z98.l0 (mkR (run E (φ 0))) (φ 0) (φ 1) c ((k+1:Nat):Int)=r)→(¬ (∀ f∈qcg c.1[k],f∈c.1)→r=some ⟨o_Z98,(false,())⟩)→Ev fun φ=>Z98.l2 (mkR (run E (φ 0))) (φ 0) (φ 1) (φ 0) c (k:Int) c.1[k] 0=r:=fun k h2 r hgo hstop=>by
    have hks:(c.1[k]).length≤1048576:=(qba hc h2).1
    refine Ev.start (p:=fun φ n=>Z98.l2 (mkR (run E (φ 0))) (φ 0) (φ 1) n c (k:Int) c.1[k] 0=_) 2 ?_ (fun _ _ _ h=>h)
    by_cases hlen:1<(c.1[k]).length
    · obtain⟨t,f⟩:=qhH 2 (L:=fun φ n i=>Z98.l2 (mkR (run E (φ 0))) (φ 0) (φ 1) n c (k:Int) c.1[k] i) (len:=(c.1[k]).length) 0 (by omega) (fun i=>(c.1[k]).eraseIdx i∈c.1) (rt:=r) (rf:=some ⟨o_Z98,(false,())⟩) (fun _ _ _ _=>rfl) (fun i _ hi hP _=>by
        simp only[Z98.l2_succ _ qaj]
        refine qaD (decide_eq_true (by omega)) ?_
        simp only[show decide (((c.1[k]).length:Int)>1)=true from decide_eq_true (by omega),Z98.j3_eq _ qaj,cond_true]
        refine qac (qcN _ i hi hks) (qac (qaU c _ hc) (qaD (decide_eq_true ?_) qap))
        have hq:=mt (qaB (c:=c.1) (s:=(c.1[k]).eraseIdx i)).1 hP;simp only;exact Int.not_le.1 hq) (fun i q _ hi hP _ ih=>by
        simp only[Z98.l2_succ _ qaj]
        refine qaD (decide_eq_true (by omega)) ?_
        simp only[show decide (((c.1[k]).length:Int)>1)=true from decide_eq_true (by omega),Z98.j3_eq _ qaj,cond_true]
        refine qac (qcN _ i hi hks) (qac (qaU c _ hc) (qaF (decide_eq_false ?_) ?_))
        · have hq:=(qaB (c:=c.1) (s:=(c.1[k]).eraseIdx i)).2 hP;simp only;exact Int.not_lt.2 hq
        · rw[qao (by omega)];exact ih) (fun hall=>by
        simp only[Z98.l2_succ _ qaj]
        refine qaF (decide_eq_false (by omega)) ?_
        simp only[Z98.j3_eq _ qaj,cond_false]
        rw[qao (by omega)]
        exact hgo fun f hf=>by
          obtain⟨_,i,hi,rfl⟩:=qbQ.1 hf
          exact hall i (by omega) hi)
      by_cases hall:∀ i,0≤i→i<(c.1[k]).length→(c.1[k]).eraseIdx i∈c.1
      · exact t hall
      · rw[hstop fun hf=>hall fun i _ hi=>hf _ (qbQ.2 ⟨hlen,i,hi,rfl⟩)]
        exact f hall
    · refine Ev.round 2 (L:=fun φ n=>Z98.l2 (mkR (run E (φ 0))) (φ 0) (φ 1) n c (k:Int) c.1[k] 0) ?_ (fun _ _ _=>rfl)
      have hgo:=hgo fun f hf=>absurd (qbQ.1 hf).1 hlen
      have hj:Ev fun φ=>Z98.j3 (mkR (run E (φ 0))) (φ 0) (φ 1) (φ 2) c (k:Int) c.1[k] 0 false=r:=by
        simp only[Z98.j3_eq _ qaj,cond_false]
        rw[qao (by omega)];exact hgo
      simp only[Z98.l2_succ _ qaj]
      refine qd9 (fun _=>?_) fun _=>hj
      simp only[show decide (((c.1[k]).length:Int)>1)=false from decide_eq_false (by omega)]
      exact hj
  refine(qdR 1 (L:=fun φ n k=>Z98.l0 (mkR (run E (φ 0))) (φ 0) n c k) (len:=c.1.length) 0 (by omega) (qnB c.1) (fun b=>some ⟨o_Z98,(b,())⟩) (fun _ _ _ _=>rfl) (fun k h1 h2 hP hpre=>?_) (fun k r h1 h2 hP hpre ih=>?_) (fun _=>?_)).to ?_
  · simp only[Z98.l0_succ _ qaj]
    refine qaD (decide_eq_true (by omega)) (qak (qas h2) (qac (qcx _ (qba hc h2)) ?_))
    refine qdC (fun hv=>?_) fun hv=>?_
    · simp only[Z98.j1_eq _ qaj,cond_true];(first | exact qap | exact Ev.of fun _=>trivial)
    · have hv:Vx c.1[k]:=qaM.1 (by simpa using hv)
      have last:(1≤k→qcy (c.1.getD (k-1) []) (c.1.getD k [])<0)→Ev fun φ=>Z98.j1 (mkR (run E (φ 0))) (φ 0) (φ 1) c (k:Int) c.1[k] false=some ⟨o_Z98,(false,())⟩:=fun hcm=>by
        simp only[Z98.j1_eq _ qaj,cond_false]
        refine inner k h2 _ (fun hf=>absurd ⟨⟨by rw[qag h2];exact hv,hcm⟩,by rw[qag h2];exact hf⟩ hP) fun _=>rfl
      refine qd9 (fun hk=>?_) fun hk=>?_
      · rw[qam (by omega) (by omega),show((k:Int)-1)=((k-1:Nat):Int) by omega]
        have hk1:k-1<c.1.length:=by omega
        refine qak (qas hk1) (qac (qb1 _ _ (qba hc hk1)) ?_)
        by_cases hcm:qcy c.1[k-1] c.1[k]<0
        · simp only[qax hcm]
          exact last fun _=>by rw[qag hk1,qag h2];exact hcm
        · simp only[qau hcm,Z98.j1_eq _ qaj,cond_true,Bool.not_false]
          (first | exact qap | exact Ev.of fun _=>trivial)
      · exact last fun h=>absurd h (by omega)
  · simp only[Z98.l0_succ _ qaj]
    obtain⟨⟨hv,hcm⟩,hfc⟩:=hP
    rw[qag h2] at hv hfc
    refine qaD (decide_eq_true (by omega)) (qak (qas h2) (qac (qcx _ (qba hc h2)) (qaF (by rw[qax hv];rfl) ?_)))
    have last:Ev fun φ=>Z98.j1 (mkR (run E (φ 0))) (φ 0) (φ 1) c (k:Int) c.1[k] false=r:=by
      simp only[Z98.j1_eq _ qaj,cond_false]
      exact inner k h2 _ (fun _=>ih) fun hn=>absurd hfc hn
    refine qd9 (fun hk=>?_) fun hk=>last
    rw[qam (by omega) (by omega),show((k:Int)-1)=((k-1:Nat):Int) by omega]
    have hk1:k-1<c.1.length:=by omega
    have hcm:=hcm (by omega)
    rw[qag hk1,qag h2] at hcm
    refine qak (qas hk1) (qac (qb1 _ _ (qba hc hk1)) ?_)
    simp only[qax hcm,Bool.not_true]
    exact last
  · simp only[Z98.l0_succ _ qaj]
    exact qaF (decide_eq_false (by omega)) qap
  · have:pb (∀ j,0≤j→j<c.1.length→qnB c.1 j)=pb (VC c.1):=qaN
      ⟨fun h=>⟨by omega,fun k hk=>(h k (by omega) hk).1.1,fun k h1 hk=>(h k (by omega) hk).1.2 h1,fun k hk=>(h k (by omega) hk).2⟩,
       fun h k _ hk=>⟨⟨h.2.1 k hk,fun h1=>h.2.2.1 k h1 hk⟩,h.2.2.2 k hk⟩⟩
    rw[this]
end VeT
open Go Go.Proofs Ve
namespace VeT
def Pr(p:Int):Prop:=2≤p∧p≤251∧∀ k:Nat,2≤k→(k:Int)*k≤p→p%k≠0
theorem qg6(p:Int):Ret E n_Z11 [dI p] ⟨o_Z11,(pb (Pr p),())⟩:=by
  refine qat ?_
  simp only[run_Z11,Z11.ev]
  refine qac (qdG _ _ _) (qdC (fun h=>qan ?_) fun h=>?_)
  · have h:¬ (2≤p∧p≤251):=qcf.1 (by simpa using h)
    rw[qau fun hp=>h ⟨hp.1,hp.2.1⟩]
  have hr:2≤p∧p≤251:=qaM.1 (by simpa using h)
  refine Ev.start (p:=fun φ n=>Z11.l0 (mkR (run E (φ 0))) (φ 0) n p 2=_) 1 ?_ (fun _ _ _ h=>h)
  refine qeU 1 (σ:=Nat) (L:=fun φ n k=>Z11.l0 (mkR (run E (φ 0))) (φ 0) n p (k:Int)) (fun _ _ _ _=>rfl) (fun k=>2≤k∧k≤17∧∀ j:Nat,2≤j→j<k→(j:Int)*j≤p→p%j≠0) (fun _=>_) (fun k=>17-k) (fun k ⟨h1,h2,h3⟩ ih=>?_) 2 ⟨by omega,by omega,fun j _ _=>by omega⟩
  simp only[Z11.l0_succ _ qaj]
  have hkk:0≤(k:Int)*k∧(k:Int)*k≤289:=⟨Int.mul_nonneg (by omega) (by omega),by have:=Nat.mul_le_mul h2 h2;omega⟩
  have e:w64 ((k:Int)*k)=(k:Int)*k:=qam (by omega) (by omega)
  simp only[e]
  refine qd9 (fun hle=>?_) fun hle=>qan ?_
  · have hk16:k<16:=Classical.byContradiction fun hn=>by
      have:=Nat.mul_le_mul (show 16≤k by omega) (show 16≤k by omega);omega
    refine qaG (by simp;omega) ?_
    rw[Int.tmod_eq_emod_of_nonneg (by omega)]
    refine qdC (fun h0=>qan ?_) fun h0=>?_
    · rw[qau fun hp=>hp.2.2 k h1 hle (by simpa using h0)]
    · rw[qao (by omega)]
      refine ih (k+1) ⟨by omega,by omega,fun j hj1 hj2 hj3=>?_⟩ (by show 17-(k+1)<17-k;omega)
      by_cases hjk:j=k
      · subst hjk;simpa using h0
      · exact h3 j hj1 (by omega) hj3
  · rw[qax]
    refine⟨hr.1,hr.2,fun j hj1 hj2=>?_⟩
    by_cases hjk:j<k
    · exact h3 j hj1 hjk hj2
    · exfalso
      have:=Nat.mul_le_mul (show k≤j by omega) (show k≤j by omega);omega
theorem qjB(p:Int):Ret E n_Z81 [dI p] ⟨o_Z81,(pb (Pr p),())⟩:=by
  refine qat ?_
  simp only[run_Z81,Z81.ev]
  refine qac (qbj _ _ _) (qdC (fun h=>qan ?_) fun h=>?_)
  · have h:¬ (2≤p∧p≤251):=qcf.1 (by simpa using h)
    rw[qau fun hp=>h ⟨hp.1,hp.2.1⟩]
  have hr:2≤p∧p≤251:=qaM.1 (by simpa using h)
  refine Ev.start (p:=fun φ n=>Z81.l0 (mkR (run E (φ 0))) (φ 0) n p 2=_) 1 ?_ (fun _ _ _ h=>h)
  refine qeU 1 (σ:=Nat) (L:=fun φ n k=>Z81.l0 (mkR (run E (φ 0))) (φ 0) n p (k:Int)) (fun _ _ _ _=>rfl) (fun k=>2≤k∧k≤17∧∀ j:Nat,2≤j→j<k→(j:Int)*j≤p→p%j≠0) (fun _=>_) (fun k=>17-k) (fun k ⟨h1,h2,h3⟩ ih=>?_) 2 ⟨by omega,by omega,fun j _ _=>by omega⟩
  simp only[Z81.l0_succ _ qaj]
  have hkk:0≤(k:Int)*k∧(k:Int)*k≤289:=⟨Int.mul_nonneg (by omega) (by omega),by have:=Nat.mul_le_mul h2 h2;omega⟩
  have e:w64 ((k:Int)*k)=(k:Int)*k:=qam (by omega) (by omega)
  simp only[e]
  refine qd9 (fun hle=>?_) fun hle=>qan ?_
  · have hk16:k<16:=Classical.byContradiction fun hn=>by
      have:=Nat.mul_le_mul (show 16≤k by omega) (show 16≤k by omega);omega
    refine qaG (by simp;omega) ?_
    rw[Int.tmod_eq_emod_of_nonneg (by omega)]
    refine qdC (fun h0=>qan ?_) fun h0=>?_
    · rw[qau fun hp=>hp.2.2 k h1 hle (by simpa using h0)]
    · rw[qao (by omega)]
      refine ih (k+1) ⟨by omega,by omega,fun j hj1 hj2 hj3=>?_⟩ (by show 17-(k+1)<17-k;omega)
      by_cases hjk:j=k
      · subst hjk;simpa using h0
      · exact h3 j hj1 (by omega) hj3
  · rw[qax]
    refine⟨hr.1,hr.2,fun j hj1 hj2=>?_⟩
    by_cases hjk:j<k
    · exact h3 j hj1 hjk hj2
    · exfalso
      have:=Nat.mul_le_mul (show k≤j by omega) (show k≤j by omega);omega
theorem qcu(p:Int):Ret E n_Z70 [dI p] ⟨o_Z70,(pb (Pr p),())⟩:=by
 refine qat ?_
 simp only[run_Z70,Z70.ev]
 exact qac (qjB p) qap
def qbp(v:Sim)(p:Int):Prop:=∀ x∈v,0≤x∧x≤p-1
theorem qhJ(v:Sim)(n p:Int)(hv:v.length≤1048576)(hp:0≤p∧p≤1048576):Ret E n_Z83 [dL v,dI n,dI p] ⟨o_Z83,(pb (qbp v p∧(v.length:Int)=n),())⟩:=by
  have e:w64 (p-1)=p-1:=qam (by omega) (by omega)
  refine qat ?_
  simp only[run_Z83,Z83.ev]
  refine Ev.start (p:=fun φ n'=>Z83.l0 (mkR (run E (φ 0))) (φ 0) n' v n p 0=_) 1 ?_ (fun _ _ _ h=>h)
  refine(qdR 1 (L:=fun φ n' k=>Z83.l0 (mkR (run E (φ 0))) (φ 0) n' v n p k) (len:=v.length) 0 (by omega) (fun j=>0≤v.getD j 0∧v.getD j 0≤p-1) (fun b=>some ⟨o_Z83,(b&&((v.length:Int)==n),())⟩) (fun _ _ _ _=>rfl) (fun k h1 h2 hP _=>?_) (fun k r h1 h2 hP _ ih=>?_) (fun _=>?_)).to ?_
  · simp only[Z83.l0_succ _ qaj,e]
    rw[qag h2] at hP
    exact qaD (decide_eq_true (by omega)) (qak (qas h2) (qac (qbj _ _ _) (qaD (by rw[qau hP];rfl) qap)))
  · simp only[Z83.l0_succ _ qaj,e]
    rw[qag h2] at hP
    refine qaD (decide_eq_true (by omega)) (qak (qas h2) (qac (qbj _ _ _) (qaF (by rw[qax hP];rfl) ?_)))
    rw[qao (by omega)];exact ih
  · simp only[Z83.l0_succ _ qaj]
    exact qaF (decide_eq_false (by omega)) (qan (by rw[Bool.true_and]))
  · have:(pb (∀ j,0≤j→j<v.length→0≤v.getD j 0∧v.getD j 0≤p-1)&&((v.length:Int)==n))=pb (qbp v p∧(v.length:Int)=n):=qlz (by
      rw[Bool.and_eq_true,qaM,beq_iff_eq]
      refine and_congr_left' ⟨fun h x hx=>?_,fun h j _ hj=>?_⟩
      · obtain⟨j,hj,rfl⟩:=List.mem_iff_getElem.1 hx
        have:=h j (by omega) hj
        rwa [qag hj] at this
      · rw[qag hj];exact h _ (List.getElem_mem hj))
    rw[this]
theorem qgq(s:Sim):Ret E n_Z34 [dL s] ⟨o_Z34,((s.length:Int),())⟩:=by
 refine qat ?_
 simp only[run_Z34,Z34.ev]
 (first | exact qap | exact Ev.of fun _=>trivial)
theorem qlC(s:List Sim):Ret E n_Z33 [dLL s] ⟨o_Z33,((s.length:Int),())⟩:=by
 refine qat ?_
 simp only[run_Z33,Z33.ev]
 (first | exact qap | exact Ev.of fun _=>trivial)
def VM(m:Mat):Prop:=Pr m.1∧(0≤m.2.1∧m.2.1≤32)∧(0≤m.2.2.1∧m.2.2.1≤32)∧(m.2.2.2.1.length:Int)=m.2.1*m.2.2.1∧qbp m.2.2.2.1 m.1
theorem qng{a b:Int}(ha:0≤a∧a≤32)(hb:0≤b∧b≤32):0≤a*b∧a*b≤1024:=by
 obtain⟨x,rfl⟩:=Int.eq_ofNat_of_zero_le ha.1
 obtain⟨y,rfl⟩:=Int.eq_ofNat_of_zero_le hb.1
 have:=Nat.mul_le_mul (show x≤32 by omega) (show y≤32 by omega)
 have e:(x:Int)*y=((x*y:Nat):Int):=by simp
 show 0≤(x:Int)*y∧(x:Int)*y≤1024
 rw[e];omega
theorem qi4(m:Mat)(hm:Sm (.st cM) m):Ret E n_Z84 [dM m] ⟨o_Z84,(pb (VM m),())⟩:=by
 have hl:m.2.2.2.1.length≤1048576:=hm.2.2.2.1.1
 refine qat ?_
 simp only[run_Z84,Z84.ev]
 refine qac (qcu _) (qdC (fun h1=>qac (qbj _ _ _) (qdC (fun h2=>qac (qbj _ _ _) (qdC (fun h3=>?_) fun h3=>qan ?_)) fun h2=>qan ?_)) fun h1=>qan ?_)
 ·have h1:=qaM.1 h1;have h2:=qaM.1 h2;have h3:=qaM.1 h3
  have:=qng h2 h3
  rw[qam (by omega) (by omega)]
  refine qac (qhJ _ _ _ hl ⟨by have:=h1.1;omega,by have:=h1.2.1;omega⟩) (qan ?_)
  exact congrArg (fun b:Bool=>some (⟨o_Z84,(b,())⟩:Dv)) (qaN ⟨fun h=>⟨h1,h2,h3,h.2,h.1⟩,fun h=>⟨h.2.2.2.2,h.2.2.2.1⟩⟩)
 ·rw[qau fun h=>qcf.1 h3 h.2.2.1]
 ·rw[qau fun h=>qcf.1 h2 h.2.1]
 ·rw[qau fun h=>qcf.1 h1 h.1]
def Bt(m:Mat)(p f t:Int):Prop:=VM m∧m.1=p∧m.2.1=t∧m.2.2.1=f
def qae(c:List Sim)(d:Int)(k:Nat):List Int:=((List.range k).filter fun i=>decide (((c.getD i []).length:Int)=d+1)).map Int.ofNat
theorem qb4(c:List Sim)(d:Int)(k:Nat):qae c d (k+1)=qae c d k++if ((c.getD k []).length:Int)=d+1 then [(k:Int)] else []:=by
 unfold qae
 rw[List.range_succ,List.filter_append,List.map_append]
 congr 1
 by_cases h:((c.getD k []).length:Int)=d+1
 ·rw[if_pos h,List.filter_cons_of_pos (by simpa using h)];rfl
 ·rw[if_neg h,List.filter_cons_of_neg (by simpa using h)];rfl
theorem qfj(c:List Sim)(d:Int)(k:Nat):(qae c d k).length≤k:=by
 unfold qae
 rw[List.length_map]
 exact Nat.le_trans (List.length_filter_le _ _) (by simp)
theorem qgr{c:List Sim}{d:Int}{k:Nat}{x:Int}(h:x∈qae c d k):∃ i:Nat,x=i∧i<k:=by
 unfold qae at h
 rw[List.mem_map] at h
 obtain⟨i,hi,rfl⟩:=h
 exact⟨i,rfl,by have:=(List.mem_filter.1 hi).1;simpa using this⟩
theorem qa3(c:List Sim)(d:Int)(hc:Sm yK c)(hd:-1≤d∧d≤1048576):Ret E n_Z32 [dLL c,dI d] ⟨o_Z32,(qae c d c.length,())⟩:=by
 have hc1:c.length≤1048576:=hc.1
 have hd1:w64 (d+1)=d+1:=qam (by omega) (by omega)
 refine qat ?_
 simp only[run_Z32,Z32.ev]
 refine Ev.start (p:=fun φ n=>Z32.l0 (mkR (run E (φ 0))) (φ 0) n d c (c.length:Int) 0 []=_) 1 ?_ (fun _ _ _ h=>h)
 refine qay 1 (L:=fun φ n k a=>Z32.l0 (mkR (run E (φ 0))) (φ 0) n d c (c.length:Int) k a) (len:=c.length) (fun k=>qae c d k) (fun _ _ _ _ _=>rfl) (fun k r hk ih=>?_) ?_
 ·simp only[Z32.l0_succ _ qaj,hd1]
  rw[qb4,qag hk] at ih
  have hlen:=qfj c d k
  refine qaD (decide_eq_true (by omega)) (qak (qas hk) (qac (qgq _) ?_))
  rw[qao (by omega)]
  refine qdC (fun he=>qaG (decide_eq_true (by simp only[List.length_cons,List.length_nil];omega)) ?_) fun he=>?_
  ·rw[if_pos (by simpa using he)] at ih;exact ih
  ·rw[if_neg (by simpa using he),List.append_nil] at ih;exact ih
 ·simp only[Z32.l0_succ _ qaj]
  exact qaF (decide_eq_false (by omega)) qap
theorem qdi(c:List Sim)(d:Int)(hc:Sm yK c)(hd:-1≤d∧d≤1048576):Ret E n_Z97 [dC (c,()),dI d] ⟨o_Z97,(qae c d c.length,())⟩:=by
 have hc1:c.length≤1048576:=hc.1
 have hd1:w64 (d+1)=d+1:=qam (by omega) (by omega)
 refine qat ?_
 simp only[run_Z97,Z97.ev]
 refine Ev.start (p:=fun φ n=>Z97.l0 (mkR (run E (φ 0))) (φ 0) n (c,()) d 0 []=_) 1 ?_ (fun _ _ _ h=>h)
 refine qay 1 (L:=fun φ n k a=>Z97.l0 (mkR (run E (φ 0))) (φ 0) n (c,()) d k a) (len:=c.length) (fun k=>qae c d k) (fun _ _ _ _ _=>rfl) (fun k r hk ih=>?_) ?_
 ·simp only[Z97.l0_succ _ qaj,hd1]
  rw[qb4,qag hk] at ih
  have hlen:=qfj c d k
  refine qaD (decide_eq_true (by omega)) (qak (qas hk) ?_)
  rw[qao (by omega)]
  refine qdC (fun he=>qaG (decide_eq_true (by simp only[List.length_cons,List.length_nil];omega)) ?_) fun he=>?_
  ·rw[if_pos (by simpa using he)] at ih;exact ih
  ·rw[if_neg (by simpa using he),List.append_nil] at ih;exact ih
 ·simp only[Z97.l0_succ _ qaj]
  exact qaF (decide_eq_false (by omega)) qap
def qpn(c:List Sim)(st:Sim)(d:Int)(k:Nat):Int:=(((qae c d c.length).take k).map fun i=>st.getD i.toNat 0).sum
end VeT
open Go Go.Proofs Ve
namespace VeT
theorem qiD(s:Sim)(v:Int)(hs:s.length≤1048576):Ret E n_Z60 [dL s,dI v] ⟨o_Z60,(qg9 (fun x=>pb (x=v)) s,())⟩:=by
  obtain⟨o,h1,h2,h3⟩:=qcI 1 (L:=fun φ n k=>Z60.l0 (mkR (run E (φ 0))) (φ 0) n s v (s.length:Int) k) (len:=s.length) (fun k=>∃ h:k<s.length,pb (s[k]=v)=true) (fun o=>some ⟨o_Z60,(o2i o,())⟩) (fun _ _ _ _=>rfl) (fun k hk hP=>by
      obtain⟨_,hP⟩:=hP
      have hP:=qaM.1 hP
      simp only[Z60.l0_succ _ qaj]
      exact qaD (decide_eq_true (by omega)) (qak (qas hk) (qaD (by simp[hP]) qap))) (fun k q hk hP ih=>by
      simp only[Z60.l0_succ _ qaj]
      refine qaD (decide_eq_true (by omega)) (qak (qas hk) (qaF (by simp only[beq_eq_false_iff_ne];exact fun e=>hP ⟨hk,qax e.symm⟩) ?_))
      rw[qao (by omega)];exact ih) (by
      simp only[Z60.l0_succ _ qaj]
      exact qaF (decide_eq_false (by omega)) qap)
  rw[qeI (p:=fun x=>pb (x=v)) h1 h2] at h3
  refine qat ?_
  simp only[run_Z60,Z60.ev]
  exact Ev.start (p:=fun φ n=>Z60.l0 (mkR (run E (φ 0))) (φ 0) n s v (s.length:Int) 0=_) 1 h3 (fun _ _ _ h=>h)
end VeT
open Go Go.Proofs Ve
namespace VeT
def SD(c:List Sim)(st:Sim)(d:Int):Int:=qpn c st d (qae c d c.length).length
def SK(c:List Sim)(st:Sim):Prop:=st.length=c.length∧(∀ x∈st,0≤x∧x≤3)∧∀ d:Nat,d<4→SD c st (d:Int)≤32
noncomputable def qbZ(c:List Sim)(k:Nat):List Int:=(qcg (c.getD k [])).map (qbg c)
theorem qmI{c:List Sim}{s:Sim}:qbg c s<c.length∧-1≤qbg c s:=by
 unfold qbg qg9
 cases h:c.findIdx? (fun x=>pb (x=s)) with
 | none=>simp only[o2i];omega
 | some k =>
  rw[List.findIdx?_eq_some_iff_getElem] at h
  obtain⟨h,_⟩:=h
  simp only[o2i];omega
theorem qbi{c:List Sim}{k:Nat}:(qbZ c k).length=if 1<(c.getD k []).length then(c.getD k []).length else 0:=by
 unfold qbZ qcg
 rw[List.length_map]
 split<;>simp
theorem qmF{c:List Sim}(h:VC c){k:Nat}(hk:k<c.length){x:Int}(hx:x∈qbZ c k):0≤x∧x<c.length:=by
 unfold qbZ at hx
 rw[List.mem_map] at hx
 obtain⟨f,hf,rfl⟩:=hx
 exact⟨qaB.2 (h.2.2.2 k hk f hf),qmI.1⟩
theorem qjr(c:List Sim)(k:Nat)(hk:k<c.length)(hc:Sm yK c):Ret E n_Z95 [dC (c,()),dI (k:Int)] ⟨o_Z95,(qbZ c k,())⟩:=by
 have hks:(c[k]).length≤1048576:=(qba hc hk).1
 refine qat ?_
 simp only[run_Z95,Z95.ev]
 refine qak (qas hk) ?_
 refine Ev.start (p:=fun φ n=>Z95.l0 (mkR (run E (φ 0))) (φ 0) n (c,()) c[k] 0 []=_) 1 ?_ (fun _ _ _ h=>h)
 by_cases hlen:1<(c[k]).length
 ·refine qay 1 (L:=fun φ n j a=>Z95.l0 (mkR (run E (φ 0))) (φ 0) n (c,()) c[k] j a) (len:=(c[k]).length) (fun j=>(List.range j).map fun i=>qbg c ((c[k]).eraseIdx i)) (fun _ _ _ _ _=>rfl) (fun j r hj ih=>?_) ?_
  ·simp only[Z95.l0_succ _ qaj]
   rw[List.range_succ,List.map_append] at ih
   refine qaD (decide_eq_true (by omega)) ?_
   simp only[show decide (((c[k]).length:Int)>1)=true from decide_eq_true (by omega),Z95.j1_eq _ qaj,cond_true]
   refine qac (qcN _ j hj hks) (qac (qaU (c,()) _ hc) (qaG (by simp;omega) ?_))
   rw[qao (by omega)];exact ih
  ·simp only[Z95.l0_succ _ qaj]
   refine qaF (decide_eq_false (by omega)) ?_
   simp only[Z95.j1_eq _ qaj,cond_false]
   refine qan ?_
   rw[qbZ,qag hk,qcg,if_pos hlen,List.map_map];rfl
 ·refine Ev.round 1 (L:=fun φ n=>Z95.l0 (mkR (run E (φ 0))) (φ 0) n (c,()) c[k] 0 []) ?_ (fun _ _ _=>rfl)
  have hj:Ev fun φ=>Z95.j1 (mkR (run E (φ 0))) (φ 0) (φ 1) (c,()) c[k] 0 false []=some ⟨o_Z95,(qbZ c k,())⟩:=by
   simp only[Z95.j1_eq _ qaj,cond_false]
   refine qan ?_
   rw[qbZ,qag hk,qcg,if_neg hlen];rfl
  simp only[Z95.l0_succ _ qaj]
  refine qd9 (fun _=>?_) fun _=>hj
  simp only[show decide (((c[k]).length:Int)>1)=false from decide_eq_false (by omega)]
  exact hj
abbrev Arw:=Int×Int×Int×Unit
noncomputable def qoQ(c:List Sim)(k i:Nat):List Arw:=(List.range i).map fun(j:Nat)=>((k:Int),(j:Int),(qbZ c k).getD j 0,())
noncomputable def qkQ(c:List Sim):Nat→List Arw
 | 0=>[]
 | k+1=>qkQ c k++qoQ c k (qbZ c k).length
noncomputable def plc(c:List Sim)(k:Nat):Nat:=(qkQ c k).length
theorem qgm{c:List Sim}{k i:Nat}:(qoQ c k i).length=i:=by simp[qoQ]
theorem qnf{c:List Sim}{k:Nat}:plc c (k+1)=plc c k+(qbZ c k).length:=by
 unfold plc;rw[qkQ,List.length_append,qgm]
theorem VC.len4{c:List Sim}(h:VC c){k:Nat}(hk:k<c.length):(c.getD k []).length≤4:=(h.2.1 k hk).2.1
theorem VC.fIdx4{c:List Sim}(h:VC c){k:Nat}(hk:k<c.length):(qbZ c k).length≤4:=by
 have:=h.len4 hk
 rw[qbi];split<;>omega
theorem VC.plc{c:List Sim}(h:VC c):∀ {k:Nat},k≤c.length→plc c k≤4*k
 | 0,_=>by simp[VeT.plc,qkQ]
 | k+1,hk=>by
  have h1:=h.plc (k:=k) (by omega)
  have h2:=h.fIdx4 (k:=k) (by omega)
  rw[qnf];omega
theorem qkC{c:List Sim}:∀ {n k i:Nat},k<n→i<(qbZ c k).length→(qkQ c n)[plc c k+i]? = some ((k:Int),(i:Int),(qbZ c k).getD i 0,())
 | 0,_,_,h,_=>by omega
 | n+1,k,i,h,hi=>by
  rw[qkQ]
  by_cases hk:k<n
  ·have:=qkC hk hi
   have hl:=(List.getElem?_eq_some_iff.1 this).1
   rw[List.getElem?_append_left hl];exact this
  ·obtain rfl:k=n:=by omega
   rw[List.getElem?_append_right (by unfold plc;omega)]
   rw[show plc c k+i-(qkQ c k).length=i by unfold plc;omega]
   simp[qoQ,hi]
theorem qly{c:List Sim}:∀ {n t:Nat},t<(qkQ c n).length→∃ k i,k<n∧i<(qbZ c k).length∧t=plc c k+i
 | 0,_,h=>by simp[qkQ] at h
 | n+1,t,h=>by
  by_cases ht:t<(qkQ c n).length
  ·obtain⟨k,i,h1,h2,h3⟩:=qly ht
   exact⟨k,i,by omega,h2,h3⟩
  ·rw[qkQ,List.length_append,qgm] at h
   exact⟨n,t-(qkQ c n).length,by omega,by omega,by unfold plc;omega⟩
end VeT
open Go Go.Proofs Ve
namespace VeT
def mz:Mat:=(0,0,0,[],())
def QB(p:Int)(st:Sim)(ms:List Mat)(t k:Nat)(f:Int):Prop:=Bt (ms.getD t mz) p (st.getD f.toNat 0) (st.getD k 0)
def VS(c:List Sim)(p:Int)(st:Sim)(ms:List Mat):Prop:=VC c∧Pr p∧SK c st∧plc c c.length=ms.length∧∀ k,k<c.length→∀ i,i<(qbZ c k).length→QB p st ms (plc c k+i) k ((qbZ c k).getD i 0)
end VeT
open Go Go.Proofs Ve
namespace VeT
theorem qgQ(n:Int):Ret E n_Z26 [dI n] ⟨o_Z26,(pb (0≤n∧n≤3),())⟩:=by
 refine qat ?_
 simp only[run_Z26,Z26.ev]
 exact qac (qdG _ _ _) qap
theorem qfF(n:Int):Ret E n_Z91 [dI n] ⟨o_Z91,(pb (0≤n∧n≤3),())⟩:=by
 refine qat ?_
 simp only[run_Z91,Z91.ev]
 exact qac (qbj _ _ _) qap
end VeT
open Go Go.Proofs Ve
namespace VeT
theorem qlM(s:Sim)(hs:s.length≤1048576):Ret E n_Z43 [dL s] ⟨o_Z43,(s,())⟩:=by
 refine qat ?_
 simp only[run_Z43,Z43.ev,Z43.j0_eq _ qaj,cond_true,cond_false]
 have h:Ev fun φ=>(Option.bind (chk (decide ((List.length ([]:List Int)+List.length s)*8≤70368744177664))) fun _=>some (⟨o_Z43,((([]:List Int)++s),())⟩:Dv))=some ⟨o_Z43,(s,())⟩ :=
  qaG (by simp;omega) (qan rfl)
 cases s with
 | nil=>exact qaD rfl (qhY qap h)
 | cons a s=>exact qaF rfl h
end VeT
open Go Go.Proofs Ve
namespace VeT
theorem qbp.get{v:Sim}{p:Int}(h:qbp v p)(hp:2≤p∧p≤251)(i:Nat):0≤v.getD i 0∧v.getD i 0≤250:=by
 by_cases hi:i<v.length
 ·rw[qag hi]
  have:=h _ (List.getElem_mem hi)
  omega
 ·rw[List.getD_eq_getElem?_getD,List.getElem?_eq_none (by omega)];simp
theorem qbp.mem{v:Sim}{p:Int}(h:qbp v p)(hp:2≤p∧p≤251):∀ x∈v,0≤x∧x≤250:=fun x hx=>by
 have:=h x hx;omega
def qjE(p:Int)(ca cb:Sim)(K C i j:Nat):Int:=qbs (fun l=>ca.getD (i*K+l) 0) (fun l=>cb.getD (l*C+j) 0) K%p
def qj0(a b:Mat):Mat:=(a.1,a.2.1,b.2.2.1,qaV (qjE a.1 a.2.2.2.1 b.2.2.2.1 a.2.2.1.toNat b.2.2.1.toNat) b.2.2.1.toNat a.2.1.toNat,())
theorem VM.nat{m:Mat}(h:VM m):∃ R K:Nat,m=(m.1,(R:Int),(K:Int),m.2.2.2.1,())∧R≤32∧K≤32∧m.2.2.2.1.length=R*K:=by
 obtain⟨p,r,k,c,⟨⟩⟩:=m
 obtain⟨_,h2,h3,h4,_⟩:=h
 simp only at h2 h3 h4
 obtain⟨R,rfl⟩:=Int.eq_ofNat_of_zero_le h2.1
 obtain⟨K,rfl⟩:=Int.eq_ofNat_of_zero_le h3.1
 refine⟨R,K,rfl,by omega,by omega,?_⟩
 rw[qcr] at h4;simp only;omega
theorem qdY(p:Int)(R C:Nat)(hR:R≤32)(hC:C≤32):Ret E n_Z87 [dI p,dI (R:Int),dI (C:Int)] ⟨o_Z87,(p,(R:Int),(C:Int),List.replicate (R*C) 0,())⟩:=by
 have h1:=qii hR hC
 have e1:w64 ((R:Int)*(C:Int))=((R*C:Nat):Int):=by rw[qcr];exact qam (by omega) (by omega)
 refine qat ?_
 simp only[run_Z87,Z87.ev,e1,Int.toNat_natCast]
 exact qaG (by simp only[Bool.and_eq_true,decide_eq_true_eq];omega) qap
theorem qit(a b:Mat)(ha:VM a)(hb:VM b)(hab:a.2.2.1=b.2.1):Ret E n_Z86 [dM a,dM b] ⟨o_Z86,qj0 a b⟩:=by
  obtain⟨R,K,ea,hR,hK,hla⟩:=ha.nat
  obtain⟨K',C,eb,hK',hC,hlb⟩:=hb.nat
  have pa:2≤a.1∧a.1≤251:=⟨ha.1.1,ha.1.2.1⟩
  have pb':2≤b.1∧b.1≤251:=⟨hb.1.1,hb.1.2.1⟩
  have ela:=ha.2.2.2.2
  have elb:=hb.2.2.2.2
  rw[ea,eb] at hab
  obtain rfl : K = K' := by have hab : (K : Int) = (K' : Int) := hab
                            omega
  obtain⟨p,r,k,ca,⟨⟩⟩:=a
  obtain⟨q,k',c,cb,⟨⟩⟩:=b
  simp only[Prod.mk.injEq,true_and,and_true] at ea eb pa pb' ela elb hla hlb
  obtain⟨rfl,rfl⟩:=ea
  obtain⟨rfl,rfl⟩:=eb
  have hRC:=qii hR hC
  have hRK:=qii hR hK
  have hKC:=qii hK hC
  have hM:qj0 (p,(R:Int),(K:Int),ca,()) (q,(K:Int),(C:Int),cb,())=(p,(R:Int),(C:Int),qaV (qjE p ca cb K C) C R,()):=by simp[qj0]
  rw[hM]
  refine qat ?_
  simp only[run_Z86,Z86.ev,Z86.j0_eq _ qaj]
  suffices h:Ev fun φ=>Z86.l1 (mkR (run E (φ 0))) (φ 0) (φ 0) (p,(R:Int),(K:Int),ca,()) (q,(K:Int),(C:Int),cb,()) 0 0 0 0 p (R:Int) (C:Int) (List.replicate (R*C) 0)=some ⟨o_Z86,(p,(R:Int),(C:Int),qaV (qjE p ca cb K C) C R,())⟩ by
    exact qhY (qac (qdY p R C hR hC) h) (qac (qdY p R C hR hC) h)
  refine Ev.start (p:=fun φ n=>Z86.l1 (mkR (run E (φ 0))) (φ 0) n (p,(R:Int),(K:Int),ca,()) (q,(K:Int),(C:Int),cb,()) 0 0 0 0 p (R:Int) (C:Int) (List.replicate (R*C) 0)=_) 1 ?_ (fun _ _ _ h=>h)
  have:=qay 1 (L:=fun φ n i o=>Z86.l1 (mkR (run E (φ 0))) (φ 0) n (p,(R:Int),(K:Int),ca,()) (q,(K:Int),(C:Int),cb,()) i 0 0 0 p (R:Int) (C:Int) o) (len:=R) (fun i=>qaV (qjE p ca cb K C) C i++List.replicate ((R-i)*C) 0) (r:=some ⟨o_Z86,(p,(R:Int),(C:Int),qaV (qjE p ca cb K C) C R,())⟩) (fun _ _ _ _ _=>rfl) (fun i r hi ih=>?_) ?_
  · simpa [qaV] using this
  · simp only[Z86.l1_succ _ qaj]
    refine qaD (decide_eq_true (by omega)) ?_
    refine Ev.start (p:=fun φ n=>Z86.l2 (mkR (run E (φ 0))) (φ 0) (φ 1) n (p,(R:Int),(K:Int),ca,()) (q,(K:Int),(C:Int),cb,()) (i:Int) 0 0 0 0 p (R:Int) (C:Int) (qaV (qjE p ca cb K C) C i++List.replicate ((R-i)*C) 0)=_) 2 ?_ (fun _ _ _ h=>h)
    have hRi:(R-i)*C=(R-(i+1))*C+C:=by
      rw[show R-i=(R-(i+1))+1 by omega,Nat.add_mul];omega
    have hiC:(i+1)*C≤R*C:=Nat.mul_le_mul_right _ hi
    have hiK:(i+1)*K≤R*K:=Nat.mul_le_mul_right _ hi
    rw[Nat.add_mul] at hiC hiK
    have:=qay 2 (L:=fun φ n j o=>Z86.l2 (mkR (run E (φ 0))) (φ 0) (φ 1) n (p,(R:Int),(K:Int),ca,()) (q,(K:Int),(C:Int),cb,()) (i:Int) j 0 0 0 p (R:Int) (C:Int) o) (len:=C) (fun j=>(qaV (qjE p ca cb K C) C i++(List.range j).map (qjE p ca cb K C i))++List.replicate ((R-i)*C-j) 0) (r:=r) (fun _ _ _ _ _=>rfl) (fun j r hj ih=>?_) ?_
    · simpa using this
    · simp only[Z86.l2_succ _ qaj]
      refine qaD (decide_eq_true (by omega)) ?_
      have hpl:(qaV (qjE p ca cb K C) C i++(List.range j).map (qjE p ca cb K C i)).length=i*C+j:=by simp[qaK]
      have hsp:(R-i)*C-j=((R-i)*C-(j+1))+1:=by omega
      generalize hO:(qaV (qjE p ca cb K C) C i++(List.range j).map (qjE p ca cb K C i))++List.replicate ((R-i)*C-j) 0=O
      have hOl:O.length=R*C:=by
        rw[← hO,List.length_append,hpl,List.length_replicate,hRi]
        have:R*C=(R-(i+1))*C+(i*C+C):=by
          have e:R=(R-(i+1))+(i+1):=by omega
          have:=congrArg (·*C) e
          simp only[Nat.add_mul,Nat.one_mul] at this ⊢;omega
        omega
      refine Ev.start (p:=fun φ n=>Z86.l3 (mkR (run E (φ 0))) (φ 0) (φ 1) (φ 2) n (p,(R:Int),(K:Int),ca,()) (q,(K:Int),(C:Int),cb,()) (i:Int) (j:Int) 0 0 0 0 0 p (R:Int) (C:Int) O=_) 3 ?_ (fun _ _ _ h=>h)
      refine qay 3 (L:=fun φ n l s=>Z86.l3 (mkR (run E (φ 0))) (φ 0) (φ 1) (φ 2) n (p,(R:Int),(K:Int),ca,()) (q,(K:Int),(C:Int),cb,()) (i:Int) (j:Int) s l 0 0 0 p (R:Int) (C:Int) O) (len:=K) (fun l=>qbs (fun l=>ca.getD (i*K+l) 0) (fun l=>cb.getD (l*C+j) 0) l) (fun _ _ _ _ _=>rfl) (fun l r hl ih=>?_) ?_
      · simp only[Z86.l3_succ _ qaj]
        have b1:=qjS (f:=fun l=>ca.getD (i*K+l) 0) (g:=fun l=>cb.getD (l*C+j) 0) (n:=l) fun l _=>⟨ela.get pa _,elb.get pb' _⟩
        have b2:=qnx (ela.get pa (i*K+l)) (elb.get pb' (l*C+j))
        have hlC:(l+1)*C≤K*C:=Nat.mul_le_mul_right _ hl
        rw[Nat.add_mul] at hlC
        have e1:w64 (w64 ((i:Int)*(K:Int))+(l:Int))=((i*K+l:Nat):Int):=by
          rw[qcr,qam (n:=((i*K:Nat):Int)) (by omega) (by omega),qam (by omega) (by omega)];omega
        have e2:w64 (w64 ((l:Int)*(C:Int))+(j:Int))=((l*C+j:Nat):Int):=by
          rw[qcr,qam (n:=((l*C:Nat):Int)) (by omega) (by omega),qam (by omega) (by omega)];omega
        simp only[e1,e2]
        have i1:i*K+l<ca.length:=by omega
        have i2:l*C+j<cb.length:=by omega
        refine qaD (decide_eq_true (by omega)) (qak (qas i1) (qak (qas i2) ?_))
        simp only[qbs] at ih
        rw[qag i1,qag i2] at ih b2
        rw[qam (n:=ca[i*K+l]*cb[l*C+j]) (by omega) (by omega),qam (by omega) (by omega),qao (by omega)]
        exact ih
      · simp only[Z86.l3_succ _ qaj]
        have b1:=qjS (f:=fun l=>ca.getD (i*K+l) 0) (g:=fun l=>cb.getD (l*C+j) 0) (n:=K) fun l _=>⟨ela.get pa _,elb.get pb' _⟩
        have e1:w64 (w64 ((i:Int)*(C:Int))+(j:Int))=((i*C+j:Nat):Int):=by
          rw[qcr,qam (n:=((i*C:Nat):Int)) (by omega) (by omega),qam (by omega) (by omega)];omega
        simp only[e1,Int.toNat_natCast]
        refine qaF (decide_eq_false (by omega)) (qaG (by simp;omega) (qaG (by simp only[Bool.and_eq_true,decide_eq_true_eq];omega) ?_))
        rw[Int.tmod_eq_emod_of_nonneg (by omega),qao (by omega),← hO,hsp,← hpl,qoa]
        rw[List.range_succ,List.map_append,← List.append_assoc] at ih
        exact ih
    · simp only[Z86.l2_succ _ qaj]
      refine qaF (decide_eq_false (by omega)) ?_
      rw[qao (by omega),hRi,Nat.add_sub_cancel]
      exact ih
  · simp only[Z86.l1_succ _ qaj]
    refine qaF (decide_eq_false (by omega)) (qan ?_)
    simp
end VeT
open Go Go.Proofs Ve
namespace VeT
theorem qg8(a b:Sim)(ha:a.length≤1048576):Ret E n_Z53 [dL a,dL b] ⟨o_Z53,(pb (a=b),())⟩:=by
 refine qat ?_
 simp only[run_Z53,Z53.ev]
 refine qdC (fun h=>qan ?_) fun h=>?_
 ·have h:(a.length:Int)≠b.length:=by simpa using h
  rw[qau fun e=>h (by rw[e])]
 ·have h:(a.length:Int)=b.length:=by simpa using h
  refine Ev.start (p:=fun φ n=>Z53.l0 (mkR (run E (φ 0))) (φ 0) n a b (a.length:Int) 0=_) 1 ?_ (fun _ _ _ h=>h)
  refine(qdR 1 (L:=fun φ n k=>Z53.l0 (mkR (run E (φ 0))) (φ 0) n a b (a.length:Int) k) (len:=a.length) 0 (by omega) (fun j=>a.getD j 0=b.getD j 0) (fun b=>some ⟨o_Z53,(b,())⟩) (fun _ _ _ _=>rfl) (fun k h1 h2 hP _=>?_) (fun k r h1 h2 hP _ ih=>?_) (fun _=>?_)).to ?_
  ·simp only[Z53.l0_succ _ qaj]
   have hb:k<b.length:=by omega
   rw[qag h2,qag hb] at hP
   exact qaD (decide_eq_true (by omega)) (qak (qas h2) (qak (qas hb) (qaD (by simpa using hP) qap)))
  ·simp only[Z53.l0_succ _ qaj]
   have hb:k<b.length:=by omega
   rw[qag h2,qag hb] at hP
   refine qaD (decide_eq_true (by omega)) (qak (qas h2) (qak (qas hb) (qaF (by simpa using hP) ?_)))
   rw[qao (by omega)];exact ih
  ·simp only[Z53.l0_succ _ qaj]
   exact qaF (decide_eq_false (by omega)) qap
  ·refine congrArg (fun b:Bool=>some (⟨o_Z53,(b,())⟩:Dv)) (qaN ⟨fun hh=>List.ext_getElem (by omega) fun j h1 h2=>?_,fun hh j _ _=>by rw[hh]⟩)
   have:=hh j (by omega) h1
   rwa [qag h1,qag h2] at this
theorem qhd{a b:Mat}:a=b↔a.1=b.1∧a.2.1=b.2.1∧a.2.2.1=b.2.2.1∧a.2.2.2.1=b.2.2.2.1:=by
 obtain⟨p,r,k,c,⟨⟩⟩:=a
 obtain⟨p',r',k',c',⟨⟩⟩:=b
 simp only[Prod.mk.injEq,and_true]
theorem qji(a b:Mat)(ha:a.2.2.2.1.length≤1048576):Ret E n_Z85 [dM a,dM b] ⟨o_Z85,(pb (a=b),())⟩:=by
 refine qat ?_
 simp only[run_Z85,Z85.ev]
 have no:a≠b→Ev fun φ=>Z85.j0 (mkR (run E (φ 0))) (φ 0) a b true=some ⟨o_Z85,(pb (a=b),())⟩:=fun h=>by
  simp only[Z85.j0_eq _ qaj,cond_true]
  rw[qau h];(first | exact qap | exact Ev.of fun _=>trivial)
 refine qdC (fun h1=>no fun h=>by simp[(qhd.1 h).1] at h1) fun h1=>qdC (fun h2=>no fun h=>by simp[(qhd.1 h).2.1] at h2) fun h2=>qdC (fun h3=>no fun h=>by simp[(qhd.1 h).2.2.1] at h3) fun h3=>?_
 have h1:a.1=b.1:=by simpa using h1
 have h2:a.2.1=b.2.1:=by simpa using h2
 have h3:a.2.2.1=b.2.2.1:=by simpa using h3
 by_cases hl:a.2.2.2.1.length=b.2.2.2.1.length
 ·simp only[show((a.2.2.2.1.length:Int) != (b.2.2.2.1.length:Int))=false by simp[hl],Z85.j0_eq _ qaj,cond_false]
  refine Ev.start (p:=fun φ n=>Z85.l1 (mkR (run E (φ 0))) (φ 0) n a b 0=_) 1 ?_ (fun _ _ _ h=>h)
  refine(qdR 1 (L:=fun φ n k=>Z85.l1 (mkR (run E (φ 0))) (φ 0) n a b k) (len:=a.2.2.2.1.length) 0 (by omega) (fun j=>a.2.2.2.1.getD j 0=b.2.2.2.1.getD j 0) (fun b=>some ⟨o_Z85,(b,())⟩) (fun _ _ _ _=>rfl) (fun k k1 k2 hP _=>?_) (fun k r k1 k2 hP _ ih=>?_) (fun _=>?_)).to ?_
  ·simp only[Z85.l1_succ _ qaj]
   have hb:k<b.2.2.2.1.length:=by omega
   rw[qag k2,qag hb] at hP
   exact qaD (decide_eq_true (by omega)) (qak (qas k2) (qak (qas hb) (qaD (by simpa using hP) qap)))
  ·simp only[Z85.l1_succ _ qaj]
   have hb:k<b.2.2.2.1.length:=by omega
   rw[qag k2,qag hb] at hP
   refine qaD (decide_eq_true (by omega)) (qak (qas k2) (qak (qas hb) (qaF (by simpa using hP) ?_)))
   rw[qao (by omega)];exact ih
  ·simp only[Z85.l1_succ _ qaj]
   exact qaF (decide_eq_false (by omega)) qap
  ·refine congrArg (fun b:Bool=>some (⟨o_Z85,(b,())⟩:Dv)) (qaN ⟨fun hh=>qhd.2 ⟨h1,h2,h3,List.ext_getElem hl fun j g1 g2=>?_⟩,fun hh j _ _=>by rw[hh]⟩)
   have:=hh j (by omega) g1
   rwa [qag g1,qag g2] at this
 ·simp only[show((a.2.2.2.1.length:Int) != (b.2.2.2.1.length:Int))=true by simp;omega]
  exact no fun h=>hl (by rw[(qhd.1 h).2.2.2])
noncomputable def mp(c:List Sim)(ms:List Mat)(k i:Nat):Mat:=ms.getD (plc c k+i) mz
noncomputable def fc(c:List Sim)(k i:Nat):Nat:=((qbZ c k).getD i 0).toNat
theorem qmj{c:List Sim}{s:Sim}(h:s∈c):c.getD (qbg c s).toNat []=s:=by
 have h0:=qaB.2 h
 unfold qbg qg9 at h0 ⊢
 cases hf:c.findIdx? (fun x=>pb (x=s)) with
 | none=>rw[hf] at h0;simp[o2i] at h0
 | some k =>
  rw[List.findIdx?_eq_some_iff_getElem] at hf
  obtain⟨hk,hp,_⟩:=hf
  simp only[o2i,Int.toNat_natCast]
  rw[qag hk];exact qaM.1 hp
theorem qiw{c:List Sim}(h:VC c){k i:Nat}(hk:k<c.length)(hi:i<(qbZ c k).length):idx? (qbZ c k) (i:Int)=some ((fc c k i:Nat):Int)∧fc c k i<c.length∧c.getD (fc c k i) []=(c.getD k []).eraseIdx i:=by
 have hm:=qmF h hk (List.getElem_mem hi)
 have hl:=qbi (c:=c) (k:=k)
 have h1:1<(c.getD k []).length:=Classical.byContradiction fun hn=>by rw[if_neg hn] at hl;omega
 rw[if_pos h1] at hl
 have hfc:(qbZ c k)[i]=qbg c ((c.getD k []).eraseIdx i):=by
  have:(qbZ c k)[i]? = some (qbg c ((c.getD k []).eraseIdx i)):=by
   unfold qbZ qcg
   rw[if_pos h1,List.map_map,List.getElem?_map,List.getElem?_range (by omega)];rfl
  rw[List.getElem?_eq_getElem hi] at this
  exact Option.some.inj this
 have hin:(c.getD k []).eraseIdx i∈c:=h.2.2.2 k hk _ (qbQ.2 ⟨h1,i,by omega,rfl⟩)
 unfold fc
 rw[qag hi]
 refine⟨?_,by omega,?_⟩
 ·rw[qas hi];congr 1;omega
 ·rw[hfc];exact qmj hin
theorem VS.map{c:List Sim}{p:Int}{st:Sim}{ms:List Mat}(h:VS c p st ms){k i:Nat}(hk:k<c.length)(hi:i<(qbZ c k).length):plc c k+i<ms.length∧Bt (mp c ms k i) p (st.getD (fc c k i) 0) (st.getD k 0):=by
 have hg:=qkC hk hi
 have hlt:=(List.getElem?_eq_some_iff.1 hg).1
 exact⟨by rw[← h.2.2.2.1];exact hlt,h.2.2.2.2 k hk i hi⟩
noncomputable def two(c:List Sim)(ms:List Mat)(k i j:Nat):Mat:=qj0 (mp c ms k i) (mp c ms (fc c k i) j)
structure Sq (c:List Sim) (p:Int) (st:Sim) (ms:List Mat) (k i j:Nat):Prop where
 kl:k<c.length
 n3:3≤(c.getD k []).length
 il:i<(c.getD k []).length
 jl:j+1<(c.getD k []).length
 v:VS c p st ms
theorem Sq.hi{c p st ms k i j}(h:Sq c p st ms k i j):i<(qbZ c k).length:=by
 have:=h.n3;have:=h.il
 rw[qbi,if_pos (by omega)];exact this
theorem Sq.fk{c p st ms k i j}(h:Sq c p st ms k i j):fc c k i<c.length:=(qiw h.v.1 h.kl h.hi).2.1
theorem Sq.hj{c p st ms k i j}(h:Sq c p st ms k i j):j<(qbZ c (fc c k i)).length:=by
 have h1:=h.n3;have h2:=h.il;have h3:=h.jl
 have e:=(qiw h.v.1 h.kl h.hi).2.2
 rw[qbi,e,List.length_eraseIdx,if_pos h2,if_pos (by omega)];omega
theorem Sq.b1{c p st ms k i j}(h:Sq c p st ms k i j):VM (mp c ms k i):=((h.v.map h.kl h.hi).2).1
theorem Sq.b2{c p st ms k i j}(h:Sq c p st ms k i j):VM (mp c ms (fc c k i) j):=((h.v.map h.fk h.hj).2).1
theorem Sq.sh{c p st ms k i j}(h:Sq c p st ms k i j):(mp c ms k i).2.2.1=(mp c ms (fc c k i) j).2.1:=by
 rw[((h.v.map h.kl h.hi).2).2.2.2,((h.v.map h.fk h.hj).2).2.2.1]
end VeT
open Go Go.Proofs Ve
namespace VeT
def qjR(i j:Nat):Int:=if i=j then 1 else 0
def qph(p:Int)(n:Nat):Mat:=(p,(n:Int),(n:Int),qaV qjR n n,())
end VeT
open Go Go.Proofs Ve
namespace VeT
theorem qi5.lt{s:Sim}(h:qi5 s):∀ {i j:Nat} (hj:j<s.length) (hij:i<j),s[i]<s[j]:=by
 intro i j
 induction j with
 | zero=>intro _ h;omega
 | succ j ih =>
  intro hj hij
  have:=h (j+1) (by omega) hj
  rw[Nat.add_sub_cancel,qag (by omega),qag hj] at this
  by_cases e:i=j
  ·subst e;exact this
  ·exact Int.lt_trans (ih (by omega) (by omega)) this
theorem qjA:∀ {a b:Sim},a.Pairwise (·<·)→b.Pairwise (·<·)→(∀ x,x∈a↔x∈b)→a=b
 | [],[],_,_,_=>rfl
 | [],y::ys,_,_,h=>absurd ((h y).2 List.mem_cons_self) (by simp)
 | x::xs,[],_,_,h=>absurd ((h x).1 List.mem_cons_self) (by simp)
 | x::xs,y::ys,ha,hb,h=>by
  rw[List.pairwise_cons] at ha hb
  have exy:x=y:=by
   have h1:=(h x).1 List.mem_cons_self
   have h2:=(h y).2 List.mem_cons_self
   rw[List.mem_cons] at h1 h2
   rcases h1 with h1 | h1
   ·exact h1
   ·rcases h2 with h2 | h2
    ·exact h2.symm
    ·have:=hb.1 x h1
     have:=ha.1 y h2
     omega
  subst exy
  congr 1
  refine qjA ha.2 hb.2 fun z=>⟨fun hz=>?_,fun hz=>?_⟩
  ·have:=(h z).1 (List.mem_cons_of_mem _ hz)
   rw[List.mem_cons] at this
   rcases this with e | e
   ·have:=ha.1 z hz;omega
   ·exact e
  ·have:=(h z).2 (List.mem_cons_of_mem _ hz)
   rw[List.mem_cons] at this
   rcases this with e | e
   ·have:=hb.1 z hz;omega
   ·exact e
end VeT
