import Derived.Test.YtjnnliedeobfgaaGreatT3
import Derived.Test.YtjnnliedeobfgaaGreatV2
import Derived.Shelf.SlicesG.CompactI
import Derived.Ground.SlgnProg
import Derived.Shelf.SortG.Plain
import Derived.Shelf.SortG.SortNone
import Derived.Test.YtjnnliedeobfgaaGreatProg
import Derived.KernelRfl
import Derived.WalkKit
import Derived.Lib.Walk
import Derived.Lib.SliceRun
import Derived.Lib.AppendZerosOnto
set_option linter.unusedVariables false
set_option linter.unusedSimpArgs false
open Go Go.Proofs Ve
set_option maxRecDepth 100000
namespace VeT
noncomputable section
abbrev q1_0(R:Run)(N:Nat):=kS R pol_Z31 11 N [1,1,1] F_Z31
abbrev q1_1(R:Run)(N:Nat):=kS R pol_Z39 12 N [1,1,1] F_Z39
abbrev q1_2(R:Run)(N:Nat):=kS R pol_Z27 22 N [1,1,1,0,1,0,0,1,1,0,0,1,1,1,1,1,1,1,1,1] F_Z27
abbrev q1_3(R:Run)(N:Nat):=kS R pol_Z27 23 N [1,1,1,0,1,0,0,1,1,1] F_Z27
abbrev q1_4(R:Run)(N:Nat):=kS R pol_Z27 24 N [1,1,1,1] F_Z27
abbrev q1_5(R:Run)(N:Nat):=kS R pol_Z85 7 N [1,1] F_Z85
abbrev q1_6(R:Run)(N:Nat):=kS R pol_Z123 5 N [1,1,0,1,0,0,1,1] F_Z123
abbrev q1_7(R:Run)(N:Nat):=kS R pol_Z123 14 N [1,1,1] F_Z123
abbrev q1_8(R:Run)(N:Nat):=kL R pol_Z27 4 N [1,1,1,0,1,0,0] F_Z27
abbrev q1_9(R:Run)(N:Nat):=kL R pol_Z123 4 N [1,1,0,1,0,0] F_Z123
abbrev q1_10(R:Run)(N:Nat):=lC R pol_Z85 2 N [1,0,1,0,0] F_Z85
abbrev q1_11(R:Run):=kB R pol_Z27 0
def Z33.l1(R:Run)(N a n:Nat)(b e f g h i j k l m o p:Int)(q:List Int):Option Dv:=R.w (some ⟨(V.dead::(V.dead::(.c (.d yI b)::(.c (.d (.fn n_Z63 .nil) ())::(zd 4 (.c (.box 8 0)::(.c (.box 9 0)::(.c (.d yI e)::(zd 5 (.c (.d yI f)::(.c (.d yI g)::(V.dead::(V.dead::(.c (.d yI h)::(.c (.d yI i)::(zd 14 [])))))))))))))))),(zo 8 (some (.box [.d yI j,.d yI k,.d yI l,.nils yI] false false)::(some (.box [.d yI m,.d yI o,.d yI p,.arr 31] false false)::(zo 21 (some (.arr yI q true false false)::(zo 8 []))))))⟩) fun st=>lC R pol_Z31 6 N [1,1,0,1,0,0,1,1,0,0,1,1,0,0] F_Z31 n st (kB R pol_Z31 2 (kB R pol_Z31 1 (kS R pol_Z31 10 N [1,1,0,1,0,0,1,1,1] F_Z31 (kL R pol_Z31 3 N [1,1,0,1,0,0] F_Z31 a (kB R pol_Z31 0 (q1_0 R N (qqA E sg_Z31 F_Z31)))))))
def Z33.l0(R:Run)(N n:Nat)(a b e f g h i j k:Int)(l:List Int):Option Dv:=R.w (some ⟨(V.dead::(V.dead::(.c (.d yI a)::(.c (.d (.fn n_Z63 .nil) ())::(zd 4 (.c (.box 8 0)::(.c (.box 9 0)::(zd 6 (.c (.d yI b)::(.c (.d yI e)::(zd 18 []))))))))))),(zo 8 (some (.box [.d yI f,.d yI g,.d yI h,.nils yI] false false)::(some (.box [.d yI i,.d yI j,.d yI k,.arr 31] false false)::(zo 21 (some (.arr yI l true false false)::(zo 8 []))))))⟩) fun st=>lC R pol_Z31 3 N [1,1,0,1,0,0] F_Z31 n st (kB R pol_Z31 0 (q1_0 R N (qqA E sg_Z31 F_Z31)))
theorem Z33.l1_succ(R:Run)(hw:R.ok)(N a n:Nat)(b c d e f g h i j k l m:Int)(o:List Int):Z33.l1 R N a (n+1) b c d e f g h i j k l m o=(bif (decide (g<f)) then((qjS R n_Z63 o_Z63 [⟨yI,c⟩,⟨yI,g⟩]).bind fun r24=>((chk (decide ((List.length o+List.length [r24.1])*8≤70368744177664))).bind fun _=>(Z33.l1 R N a n b c d e f (w64 (g+1)) h i j k l m (o++[r24.1])))) else(Z33.l0 R N a b d (w64 (e+1)) h i j k l m o)):=(hw _ _).trans (by kernel_rfl)
theorem Z33.l0_succ(R:Run)(hw:R.ok)(N n:Nat)(a b c d e f g h i:Int)(j:List Int):Z33.l0 R N (n+1) a b c d e f g h i j=(bif (decide (c<b)) then(Z33.l1 R N n N a c b c a (0:Int) d e f g h i j) else some ⟨o_Z31,(g,h,i,j,())⟩):=(hw _ _).trans (by kernel_rfl)
theorem Z33.ev(R:Run)(N:Nat)(a0 a1 a2:Int):qp8 E R sg_Z31 pol_Z31 F_Z31 N [⟨yI,a0⟩,⟨yI,a1⟩,⟨yI,a2⟩,⟨(.fn n_Z63 .nil),()⟩]=(Z33.l0 R N N a2 a1 (0:Int) (0:Int) (0:Int) (0:Int) a0 a1 a2 ([]:List Int)):=by kernel_rfl
theorem Z62.ev(R:Run)(N:Nat)(a0 a1 a2:Int):qp8 E R sg_Z62 pol_Z62 F_Z62 N [⟨yI,a0⟩,⟨yI,a1⟩,⟨yI,a2⟩]=((qjS R n_Z31 o_Z31 [⟨yI,a0⟩,⟨yI,a1⟩,⟨yI,a2⟩,⟨(.fn n_Z63 .nil),()⟩]).bind fun r1=>some ⟨o_Z62,(r1.1,r1.2.1,r1.2.2.1,r1.2.2.2.1,())⟩):=by kernel_rfl
def Z39.j2(R:Run)(N a b:Nat)(e f:List Int)(g h:Int)(i:List Int)(j k:Int)(l:List Int)(m o:Int)(p:Bool)(q:vK):Option Dv:=R.w (some ⟨(V.dead::(.c (.d yL e)::(.c (.d yL f)::(.c (.box 3 0)::(zd 3 (.c (.d yI g)::(V.dead::(.c (.d yI h)::(V.dead::(V.dead::(.c (.d yL i)::(.c (.d yI j)::(.c (.d yI k)::(zd 6 (.c (.d yL l)::(.c (.d yI m)::(.c (.d yI o)::(zd 17 (.c (.d .bool p)::(zd 5 [])))))))))))))))))))),(zo 3 (some (.box [.d yK q] false false)::(zo 46 [])))⟩) fun st=>eC R pol_Z39 N [1,1,0,1,0,0,1,1,0,0,1,1,0,0,1,1,0,0,1,1] F_Z39 st (kB R pol_Z39 3 (kS R pol_Z39 10 N [1,1,0,1,0,0,1,1,0,0,1,1,0,0,1,1,1] F_Z39 (kL R pol_Z39 6 N [1,1,0,1,0,0,1,1,0,0,1,1,0,0] F_Z39 b (kB R pol_Z39 2 (kB R pol_Z39 1 (kS R pol_Z39 11 N [1,1,0,1,0,0,1,1,1] F_Z39 (kL R pol_Z39 3 N [1,1,0,1,0,0] F_Z39 a (kB R pol_Z39 0 (q1_1 R N (qqA E sg_Z39 F_Z39))))))))))
def Z39.l1(R:Run)(N a n:Nat)(b e:List Int)(f g:Int)(h:List Int)(i j:Int)(k:List Int)(l m:Int)(o:vK):Option Dv:=R.w (some ⟨(V.dead::(.c (.d yL b)::(.c (.d yL e)::(.c (.box 3 0)::(zd 3 (.c (.d yI f)::(V.dead::(.c (.d yI g)::(V.dead::(V.dead::(.c (.d yL h)::(.c (.d yI i)::(.c (.d yI j)::(zd 6 (.c (.d yL k)::(.c (.d yI l)::(.c (.d yI m)::(zd 23 [])))))))))))))))))),(zo 3 (some (.box [.d yK o] false false)::(zo 46 [])))⟩) fun st=>lC R pol_Z39 6 N [1,1,0,1,0,0,1,1,0,0,1,1,0,0] F_Z39 n st (kB R pol_Z39 2 (kB R pol_Z39 1 (kS R pol_Z39 11 N [1,1,0,1,0,0,1,1,1] F_Z39 (kL R pol_Z39 3 N [1,1,0,1,0,0] F_Z39 a (kB R pol_Z39 0 (q1_1 R N (qqA E sg_Z39 F_Z39)))))))
def Z39.l0(R:Run)(N n:Nat)(a b:List Int)(e:Int)(f:List Int)(g h:Int)(i:vK):Option Dv:=R.w (some ⟨(V.dead::(.c (.d yL a)::(.c (.d yL b)::(.c (.box 3 0)::(zd 3 (.c (.d yI e)::(zd 4 (.c (.d yL f)::(.c (.d yI g)::(.c (.d yI h)::(zd 32 []))))))))))),(zo 3 (some (.box [.d yK i] false false)::(zo 46 [])))⟩) fun st=>lC R pol_Z39 3 N [1,1,0,1,0,0] F_Z39 n st (kB R pol_Z39 0 (q1_1 R N (qqA E sg_Z39 F_Z39)))
theorem Z39.j2_eq(R:Run)(hw:R.ok)(N a b:Nat)(c d:List Int)(e f:Int)(g:List Int)(h i:Int)(j:List Int)(k l:Int)(m:Bool)(o:vK):Z39.j2 R N a b c d e f g h i j k l m o=(bif m then(Z39.l1 R N a b c d (w64 (e+1)) f g h i j k (w64 (l+1)) o) else(Z39.l1 R N a b c d e f g h i j k (w64 (l+1)) o)):=(hw _ _).trans (by kernel_rfl)
theorem Z39.l1_succ(R:Run)(hw:R.ok)(N a n:Nat)(b c:List Int)(d e:Int)(f:List Int)(g h:Int)(i:List Int)(j k:Int)(l:vK):Z39.l1 R N a (n+1) b c d e f g h i j k l=(bif (decide (k<j)) then((idx? i k).bind fun y20=>(qox (qox ((qjS R n_Z35 o_Z35 [⟨yK,l⟩,⟨yL,b⟩,⟨yL,[e]⟩]).bind fun r21=>((idx? r21.1 (0:Int)).bind fun y22=>((qjS R n_Z35 o_Z35 [⟨yK,l⟩,⟨yL,b⟩,⟨yL,[(y20,()).1]⟩]).bind fun r23=>((idx? r23.1 (0:Int)).bind fun y24=>(Z39.j2 R N a n b c d e f g h i j k (decide ((y22,()).1<(y24,()).1)) l))))) ((qjS R n_Z35 o_Z35 [⟨yK,l⟩,⟨yL,b⟩,⟨yL,[e]⟩]).bind fun r59=>((idx? r59.1 (0:Int)).bind fun y60=>((qjS R n_Z35 o_Z35 [⟨yK,l⟩,⟨yL,b⟩,⟨yL,[(y20,()).1]⟩]).bind fun r61=>((idx? r61.1 (0:Int)).bind fun y62=>(Z39.j2 R N a n b c d e f g h i j k (decide ((y60,()).1<(y62,()).1)) l)))))) ((qjS R n_Z35 o_Z35 [⟨yK,l⟩,⟨yL,b⟩,⟨yL,[e]⟩]).bind fun r75=>((idx? r75.1 (0:Int)).bind fun y76=>((qjS R n_Z35 o_Z35 [⟨yK,l⟩,⟨yL,b⟩,⟨yL,[(y20,()).1]⟩]).bind fun r77=>((idx? r77.1 (0:Int)).bind fun y78=>(Z39.j2 R N a n b c d e f g h i j k (decide ((y76,()).1<(y78,()).1)) l))))))) else(Z39.l0 R N a b c d f g (w64 (h+1)) l)):=(hw _ _).trans (by kernel_rfl)
theorem Z39.l0_succ(R:Run)(hw:R.ok)(N n:Nat)(a b:List Int)(c:Int)(d:List Int)(e f:Int)(g:vK):Z39.l0 R N (n+1) a b c d e f g=(bif (decide (f<e)) then((idx? d f).bind fun y8=>((chk (decide (0≤f)&&decide (f≤(List.length b:Int)))).bind fun _=>(Z39.l1 R N n N a b c ((y8,()).1) d e f (List.take (Int.toNat f) b) (List.length (List.take (Int.toNat f) b):Int) (0:Int) g))) else some ⟨o_Z39,(c,())⟩):=(hw _ _).trans (by kernel_rfl)
theorem Z39.ev(R:Run)(N:Nat)(a0:vK)(a1 a2:List Int):qp8 E R sg_Z39 pol_Z39 F_Z39 N [⟨yK,a0⟩,⟨yL,a1⟩,⟨yL,a2⟩]=(Z39.l0 R N N a1 a2 (0:Int) a2 (List.length a2:Int) (0:Int) a0):=by kernel_rfl
theorem Z15.ev(R:Run)(N:Nat)(a0 a1:Int):qp8 E R sg_Z15 pol_Z15 F_Z15 N [⟨yI,a0⟩,⟨yI,a1⟩]=(bif ((Int.tmod a0 (2:Int))==(0:Int)) then some ⟨o_Z15,((1:Int),())⟩ else some ⟨o_Z15,((w64 (a1-1)),())⟩):=by kernel_rfl
def Z19.l0(R:Run)(N n:Nat)(a:List Int)(b:Int)(e f g:List Int)(h i:Int)(j k:vK)(l m o p q r:Int)(s:List Int):Option Dv:=R.w (some ⟨(V.dead::(V.dead::(.c (.d yL a)::(V.dead::(.c (.d yI b)::(.c (.box 5 0)::(.c (.box 6 0)::(zd 3 (.c (.box 10 0)::(.c (.d yL e)::(.c (.d yL f)::(.c (.box 13 0)::(zd 17 (.c (.d yL g)::(.c (.d yI h)::(.c (.d yI i)::(zd 40 []))))))))))))))))),(zo 5 (some (.box [.d yK j] false false)::(some (.box [.d yK k] false false)::(zo 3 (some (.box [.d yI l,.d yI m,.d yI o,.nils yI] false false)::(none::(none::(some (.box [.d yI p,.d yI q,.d yI r,.arr 79] false false)::(zo 65 (some (.arr yI s true false false)::[]))))))))))⟩) fun st=>lC R pol_Z19 4 N [1,1,1,0,1,0,0] F_Z19 n st (kB R pol_Z19 0 (kS R pol_Z19 12 N [1,1,1,1] F_Z19 (qqA E sg_Z19 F_Z19)))
theorem Z19.l0_succ(R:Run)(hw:R.ok)(N n:Nat)(a:List Int)(b:Int)(c d e:List Int)(f g:Int)(h i:vK)(j k l m o p:Int)(q:List Int):Z19.l0 R N (n+1) a b c d e f g h i j k l m o p q=(bif (decide (g<f)) then((idx? e g).bind fun y22=>((idx? h (y22,()).1).bind fun y23=>((qjS R n_Z35 o_Z35 [⟨yK,h⟩,⟨yL,a⟩,⟨yL,(y23,()).1⟩]).bind fun r24=>(bif ((List.length r24.1:Int)==(List.length (y23,()).1:Int)) then((qjS R n_Z37 o_Z37 [⟨yK,i⟩,⟨yL,r24.1⟩]).bind fun r25=>((qjS R n_Z89 o_Z89 [⟨yL,d⟩,⟨yI,r25.1⟩]).bind fun r26=>((qjS R n_Z39 o_Z39 [⟨yK,h⟩,⟨yL,a⟩,⟨yL,(y23,()).1⟩]).bind fun r27=>((qjS R n_Z15 o_Z15 [⟨yI,r27.1⟩,⟨yI,b⟩]).bind fun r28=>((chk (decide (0≤(w64 ((w64 (r26.1*(List.length c:Int)))+g)))&&decide ((w64 ((w64 (r26.1*(List.length c:Int)))+g))<(List.length q:Int)))).bind fun _=>(Z19.l0 R N n a b c d e f (w64 (g+1)) h i j k l m o p (List.set q (Int.toNat (w64 ((w64 (r26.1*(List.length c:Int)))+g))) r28.1))))))) else(Z19.l0 R N n a b c d e f (w64 (g+1)) h i j k l m o p q))))) else some ⟨o_Z19,(m,o,p,q,())⟩):=(hw _ _).trans (by kernel_rfl)
theorem Z19.ev(R:Run)(N:Nat)(a0 a1:vK)(a2:List Int)(a3 a4:Int):qp8 E R sg_Z19 pol_Z19 F_Z19 N [⟨yK,a0⟩,⟨yK,a1⟩,⟨yL,a2⟩,⟨yI,a3⟩,⟨yI,a4⟩]=((qjS R n_Z54 o_Z54 [⟨yK,a0⟩,⟨yI,a3⟩]).bind fun r1=>((qjS R n_Z54 o_Z54 [⟨yK,a1⟩,⟨yI,a3⟩]).bind fun r2=>((qjS R n_Z56 o_Z56 [⟨yL,r2.1⟩]).bind fun r3=>((qjS R n_Z56 o_Z56 [⟨yL,r1.1⟩]).bind fun r4=>((qjS R n_Z62 o_Z62 [⟨yI,a4⟩,⟨yI,r3.1⟩,⟨yI,r4.1⟩]).bind fun r5=>(Z19.l0 R N N a2 a4 r1.1 r2.1 r1.1 (List.length r1.1:Int) (0:Int) a0 a1 (0:Int) (0:Int) (0:Int) r5.1 r5.2.1 r5.2.2.1 r5.2.2.2.1)))))):=by kernel_rfl
def Z29.l0(R:Run)(N n:Nat)(a:vK)(b e:Int)(f:vK)(g:List Int):Option Dv:=R.w (some ⟨(V.dead::(V.dead::(.c (.box 2 0)::(V.dead::(V.dead::(.c (.arr 24)::(zd 7 (.c (.d yK a)::(.c (.d yI b)::(.c (.d yI e)::(zd 11 []))))))))))),(none::(none::(some (.box [.d yK f] false false)::(zo 21 (some (.arr yI g true false false)::(zo 4 []))))))⟩) fun st=>lC R pol_Z29 3 N [1,1,0,1,0,0] F_Z29 n st (kB R pol_Z29 0 (kS R pol_Z29 7 N [1,1,1] F_Z29 (qqA E sg_Z29 F_Z29)))
theorem Z29.l0_succ(R:Run)(hw:R.ok)(N n:Nat)(a:vK)(b c:Int)(d:vK)(e:List Int):Z29.l0 R N (n+1) a b c d e=(bif (decide (c<b)) then((idx? a c).bind fun y8=>((qjS R n_Z37 o_Z37 [⟨yK,d⟩,⟨yL,(y8,()).1⟩]).bind fun r9=>((chk (decide ((List.length e+List.length [r9.1])*8≤70368744177664))).bind fun _=>(Z29.l0 R N n a b (w64 (c+1)) d (e++[r9.1]))))) else some ⟨o_Z29,(e,())⟩):=(hw _ _).trans (by kernel_rfl)
theorem Z29.ev(R:Run)(N:Nat)(a0:vK)(a1:Int):qp8 E R sg_Z29 pol_Z29 F_Z29 N [⟨yK,a0⟩,⟨yI,a1⟩]=((idx? a0 a1).bind fun y1=>((qjS R n_Z30 o_Z30 [⟨yL,(y1,()).1⟩]).bind fun r2=>(Z29.l0 R N N r2.1 (List.length r2.1:Int) (0:Int) a0 ([]:List Int)))):=by kernel_rfl
def Z18.l1(R:Run)(N a n:Nat)(b:Int)(e f:List Int)(g:Int)(h:List Int)(i j:Int)(k:List Int)(l m:Int)(o:vK)(p q r s t u:Int)(v:List Int):Option Dv:=R.w (some ⟨(V.dead::(V.dead::(.c (.d yI b)::(.c (.box 3 0)::(V.dead::(V.dead::(.c (.box 6 0)::(.c (.d yL e)::(.c (.d yL f)::(.c (.box 9 0)::(.c (.d yI g)::(zd 17 (.c (.d yL h)::(.c (.d yI i)::(.c (.d yI j)::(zd 6 (.c (.d yL k)::(.c (.d yI l)::(.c (.d yI m)::(zd 22 [])))))))))))))))))))),(zo 3 (some (.box [.d yK o] false false)::(none::(none::(some (.box [.d yI p,.d yI q,.d yI r,.nils yI] false false)::(none::(none::(some (.box [.d yI s,.d yI t,.d yI u,.arr 65] false false)::(zo 55 (some (.arr yI v true false false)::[]))))))))))⟩) fun st=>lC R pol_Z18 7 N [1,1,1,0,1,0,0,1,1,0,0,1,1,0,0] F_Z18 n st (kB R pol_Z18 2 (kB R pol_Z18 1 (kS R pol_Z18 12 N [1,1,1,0,1,0,0,1,1,1] F_Z18 (kL R pol_Z18 4 N [1,1,1,0,1,0,0] F_Z18 a (kB R pol_Z18 0 (kS R pol_Z18 13 N [1,1,1,1] F_Z18 (qqA E sg_Z18 F_Z18)))))))
def Z18.l0(R:Run)(N n:Nat)(a:Int)(b e f:List Int)(g h:Int)(i:vK)(j k l m o p:Int)(q:List Int):Option Dv:=R.w (some ⟨(V.dead::(V.dead::(.c (.d yI a)::(.c (.box 3 0)::(V.dead::(V.dead::(.c (.box 6 0)::(.c (.d yL b)::(.c (.d yL e)::(.c (.box 9 0)::(zd 18 (.c (.d yL f)::(.c (.d yI g)::(.c (.d yI h)::(zd 31 []))))))))))))))),(zo 3 (some (.box [.d yK i] false false)::(none::(none::(some (.box [.d yI j,.d yI k,.d yI l,.nils yI] false false)::(none::(none::(some (.box [.d yI m,.d yI o,.d yI p,.arr 65] false false)::(zo 55 (some (.arr yI q true false false)::[]))))))))))⟩) fun st=>lC R pol_Z18 4 N [1,1,1,0,1,0,0] F_Z18 n st (kB R pol_Z18 0 (kS R pol_Z18 13 N [1,1,1,1] F_Z18 (qqA E sg_Z18 F_Z18)))
theorem Z18.l1_succ(R:Run)(hw:R.ok)(N a n:Nat)(b:Int)(c d:List Int)(e:Int)(f:List Int)(g h:Int)(i:List Int)(j k:Int)(l:vK)(m o p q r s:Int)(t:List Int):Z18.l1 R N a (n+1) b c d e f g h i j k l m o p q r s t=(bif (decide (k<j)) then((idx? i k).bind fun y40=>((qjS R n_Z89 o_Z89 [⟨yL,c⟩,⟨yI,(y40,()).1⟩]).bind fun r41=>((qjS R n_Z15 o_Z15 [⟨yI,k⟩,⟨yI,b⟩]).bind fun r42=>((chk (decide (0≤(w64 ((w64 (r41.1*(List.length d:Int)))+e)))&&decide ((w64 ((w64 (r41.1*(List.length d:Int)))+e))<(List.length t:Int)))).bind fun _=>(Z18.l1 R N a n b c d e f g h i j (w64 (k+1)) l m o p q r s (List.set t (Int.toNat (w64 ((w64 (r41.1*(List.length d:Int)))+e))) r42.1)))))) else(Z18.l0 R N a b c d f g (w64 (h+1)) l m o p q r s t)):=(hw _ _).trans (by kernel_rfl)
theorem Z18.l0_succ(R:Run)(hw:R.ok)(N n:Nat)(a:Int)(b c d:List Int)(e f:Int)(g:vK)(h i j k l m:Int)(o:List Int):Z18.l0 R N (n+1) a b c d e f g h i j k l m o=(bif (decide (f<e)) then((idx? d f).bind fun y20=>((qjS R n_Z29 o_Z29 [⟨yK,g⟩,⟨yI,(y20,()).1⟩]).bind fun r21=>(Z18.l1 R N n N a b c f d e f r21.1 (List.length r21.1:Int) (0:Int) g h i j k l m o))) else some ⟨o_Z18,(k,l,m,o,())⟩):=(hw _ _).trans (by kernel_rfl)
theorem Z18.ev(R:Run)(N:Nat)(a0:vK)(a1 a2:Int):qp8 E R sg_Z18 pol_Z18 F_Z18 N [⟨yK,a0⟩,⟨yI,a1⟩,⟨yI,a2⟩]=((qjS R n_Z54 o_Z54 [⟨yK,a0⟩,⟨yI,(w64 (a1-1))⟩]).bind fun r1=>((qjS R n_Z54 o_Z54 [⟨yK,a0⟩,⟨yI,a1⟩]).bind fun r2=>((qjS R n_Z56 o_Z56 [⟨yL,r1.1⟩]).bind fun r3=>((qjS R n_Z56 o_Z56 [⟨yL,r2.1⟩]).bind fun r4=>((qjS R n_Z62 o_Z62 [⟨yI,a2⟩,⟨yI,r3.1⟩,⟨yI,r4.1⟩]).bind fun r5=>(Z18.l0 R N N a2 r1.1 r2.1 r2.1 (List.length r2.1:Int) (0:Int) a0 (0:Int) (0:Int) (0:Int) r5.1 r5.2.1 r5.2.2.1 r5.2.2.2.1)))))):=by kernel_rfl
theorem Z7.ev(R:Run)(N:Nat)(a0 a1 a2:Int)(a3:List Int)(a4 a5:Int):qp8 E R sg_Z7 pol_Z7 F_Z7 N [⟨yI,a0⟩,⟨yI,a1⟩,⟨yI,a2⟩,⟨yL,a3⟩,⟨yI,a4⟩,⟨yI,a5⟩]=((idx? a3 (w64 ((w64 (a4*a2))+a5))).bind fun y1=>some ⟨o_Z7,((y1,()).1,())⟩):=by kernel_rfl
theorem Z59.ev(R:Run)(N:Nat)(a0 a1:Int)(a2:vM):qp8 E R sg_Z59 pol_Z59 F_Z59 N [⟨yI,a0⟩,⟨yI,a1⟩,⟨(.ptr yM),a2⟩]=((qjS R n_Z7 o_Z7 [⟨yI,a2.1⟩,⟨yI,a2.2.1⟩,⟨yI,a2.2.2.1⟩,⟨yL,a2.2.2.2.1⟩,⟨yI,a1⟩,⟨yI,a0⟩]).bind fun r1=>some ⟨o_Z59,(r1.1,())⟩):=by kernel_rfl
def Z32.l1(R:Run)(N a n:Nat)(b:Int)(e:(vM×Unit))(f g h i j k l m o p q:Int)(r:List Int):Option Dv:=R.w (some ⟨(V.dead::(V.dead::(.c (.d yI b)::(.c (.d (.fn n_Z59 (.cons (.ptr yM) .nil)) e)::(zd 4 (.c (.box 8 0)::(.c (.box 9 0)::(.c (.d yI f)::(zd 5 (.c (.d yI g)::(.c (.d yI h)::(V.dead::(V.dead::(.c (.d yI i)::(.c (.d yI j)::(zd 14 [])))))))))))))))),(zo 8 (some (.box [.d yI k,.d yI l,.d yI m,.nils yI] false false)::(some (.box [.d yI o,.d yI p,.d yI q,.arr 31] false false)::(zo 21 (some (.arr yI r true false false)::(zo 8 []))))))⟩) fun st=>lC R pol_Z31 6 N [1,1,0,1,0,0,1,1,0,0,1,1,0,0] F_Z31 n st (kB R pol_Z31 2 (kB R pol_Z31 1 (kS R pol_Z31 10 N [1,1,0,1,0,0,1,1,1] F_Z31 (kL R pol_Z31 3 N [1,1,0,1,0,0] F_Z31 a (kB R pol_Z31 0 (q1_0 R N (qqA E sg_Z31 F_Z31)))))))
def Z32.l0(R:Run)(N n:Nat)(a:Int)(b:(vM×Unit))(e f g h i j k l:Int)(m:List Int):Option Dv:=R.w (some ⟨(V.dead::(V.dead::(.c (.d yI a)::(.c (.d (.fn n_Z59 (.cons (.ptr yM) .nil)) b)::(zd 4 (.c (.box 8 0)::(.c (.box 9 0)::(zd 6 (.c (.d yI e)::(.c (.d yI f)::(zd 18 []))))))))))),(zo 8 (some (.box [.d yI g,.d yI h,.d yI i,.nils yI] false false)::(some (.box [.d yI j,.d yI k,.d yI l,.arr 31] false false)::(zo 21 (some (.arr yI m true false false)::(zo 8 []))))))⟩) fun st=>lC R pol_Z31 3 N [1,1,0,1,0,0] F_Z31 n st (kB R pol_Z31 0 (q1_0 R N (qqA E sg_Z31 F_Z31)))
theorem Z32.l1_succ(R:Run)(hw:R.ok)(N a n:Nat)(b:Int)(c:(vM×Unit))(d e f g h i j k l m o:Int)(p:List Int):Z32.l1 R N a (n+1) b c d e f g h i j k l m o p=(bif (decide (h<g)) then((qjS R n_Z59 o_Z59 [⟨yI,d⟩,⟨yI,h⟩,⟨(.ptr yM),c.1⟩]).bind fun r26=>((chk (decide ((List.length p+List.length [r26.1])*8≤70368744177664))).bind fun _=>(Z32.l1 R N a n b c d e f g (w64 (h+1)) i j k l m o (p++[r26.1])))) else(Z32.l0 R N a b c e (w64 (f+1)) i j k l m o p)):=(hw _ _).trans (by kernel_rfl)
theorem Z32.l0_succ(R:Run)(hw:R.ok)(N n:Nat)(a:Int)(b:(vM×Unit))(c d e f g h i j:Int)(k:List Int):Z32.l0 R N (n+1) a b c d e f g h i j k=(bif (decide (d<c)) then(Z32.l1 R N n N a b d c d a (0:Int) e f g h i j k) else some ⟨o_Z31,(h,i,j,k,())⟩):=(hw _ _).trans (by kernel_rfl)
theorem Z32.ev(R:Run)(N:Nat)(a0 a1 a2:Int)(a3:(vM×Unit)):qp8 E R sg_Z31 pol_Z31 F_Z31 N [⟨yI,a0⟩,⟨yI,a1⟩,⟨yI,a2⟩,⟨(.fn n_Z59 (.cons (.ptr yM) .nil)),a3⟩]=(Z32.l0 R N N a2 a3 a1 (0:Int) (0:Int) (0:Int) (0:Int) a0 a1 a2 ([]:List Int)):=by kernel_rfl
theorem Z58.ev(R:Run)(N:Nat)(a0 a1 a2:Int)(a3:List Int):qp8 E R sg_Z58 pol_Z58 F_Z58 N [⟨yI,a0⟩,⟨yI,a1⟩,⟨yI,a2⟩,⟨yL,a3⟩]=((qjS R n_Z31 o_Z31 [⟨yI,a0⟩,⟨yI,a2⟩,⟨yI,a1⟩,⟨(.fn n_Z59 (.cons (.ptr yM) .nil)),((a0,a1,a2,a3,()),())⟩]).bind fun r1=>some ⟨o_Z58,(r1.1,r1.2.1,r1.2.2.1,r1.2.2.2.1,())⟩):=by kernel_rfl
theorem Z8.ev(R:Run)(N:Nat)(a0 a1 a2:Int)(a3:List Int)(a4:Int):qp8 E R sg_Z8 pol_Z8 F_Z8 N [⟨yI,a0⟩,⟨yI,a1⟩,⟨yI,a2⟩,⟨yL,a3⟩,⟨yI,a4⟩]=((chk (decide (0≤(w64 (a4*a2)))&&decide ((w64 (a4*a2))≤(w64 ((w64 (a4+1))*a2)))&&decide ((w64 ((w64 (a4+1))*a2))≤(List.length a3:Int)))).bind fun _=>some ⟨o_Z8,((List.drop (Int.toNat (w64 (a4*a2))) (List.take (Int.toNat (w64 ((w64 (a4+1))*a2))) a3)),())⟩):=by kernel_rfl
def Z69.j0(R:Run)(N:Nat)(a:List Int)(b:Bool):Option Dv:=R.w (some ⟨(.c (.d yL a)::(zd 3 (.c (.d .bool b)::(zd 3 [])))),(zo 9 [])⟩) fun st=>eC R pol_Z69 N [1,0,1] F_Z69 st (kS R pol_Z69 3 N [1,1] F_Z69 (qqA E sg_Z69 F_Z69))
theorem Z69.j0_eq(R:Run)(hw:R.ok)(N:Nat)(a:List Int)(b:Bool):Z69.j0 R N a b=(bif b then some ⟨o_Z69,(([]:List Int),())⟩ else((chk (decide ((List.length ([]:List Int)+List.length a)*8≤70368744177664))).bind fun _=>some ⟨o_Z69,((([]:List Int)++a),())⟩)):=(hw _ _).trans (by kernel_rfl)
theorem Z69.ev(R:Run)(N:Nat)(a0:List Int):qp8 E R sg_Z69 pol_Z69 F_Z69 N [⟨yL,a0⟩]=(bif (List.isEmpty a0) then(qox (Z69.j0 R N a0 true) (Z69.j0 R N a0 false)) else(Z69.j0 R N a0 false)):=by kernel_rfl
def Z53.l0(R:Run)(N n:Nat)(a b e f g:Int)(h:List Int)(i:vK):Option Dv:=R.w (some ⟨(V.dead::(.c (.box 1 0)::(V.dead::(.c (.arr 16)::(V.dead::(V.dead::(.c (.d yI a)::(.c (.d yI b)::(zd 11 []))))))))),(none::(some (.box [.d yI e,.d yI f,.d yI g,.d yL h] false false)::(zo 14 (some (.arr yL i true false false)::(zo 7 [])))))⟩) fun st=>lC R pol_Z53 3 N [1,1,0,1,0,0] F_Z53 n st (kB R pol_Z53 0 (kS R pol_Z53 7 N [1,1,1] F_Z53 (qqA E sg_Z53 F_Z53)))
theorem Z53.l0_succ(R:Run)(hw:R.ok)(N n:Nat)(a b c d e:Int)(f:List Int)(g:vK):Z53.l0 R N (n+1) a b c d e f g=(bif (decide (b<a)) then((qjS R n_Z8 o_Z8 [⟨yI,c⟩,⟨yI,d⟩,⟨yI,e⟩,⟨yL,f⟩,⟨yI,b⟩]).bind fun r8=>((qjS R n_Z69 o_Z69 [⟨yL,r8.1⟩]).bind fun r9=>((chk (decide ((List.length g+List.length [r9.1])*24≤70368744177664))).bind fun _=>(Z53.l0 R N n a (w64 (b+1)) c d e f (g++[r9.1]))))) else some ⟨o_Z53,(g,())⟩):=(hw _ _).trans (by kernel_rfl)
theorem Z53.ev(R:Run)(N:Nat)(a0 a1 a2:Int)(a3:List Int):qp8 E R sg_Z53 pol_Z53 F_Z53 N [⟨yI,a0⟩,⟨yI,a1⟩,⟨yI,a2⟩,⟨yL,a3⟩]=(Z53.l0 R N N a1 (0:Int) a0 a1 a2 a3 ([]:List (List Int))):=by kernel_rfl
theorem Z21.ev(R:Run)(N:Nat)(a0 a1 a2:Int)(a3:List Int):qp8 E R sg_Z21 pol_Z21 F_Z21 N [⟨yI,a0⟩,⟨yI,a1⟩,⟨yI,a2⟩,⟨yL,a3⟩]=((qjS R n_Z58 o_Z58 [⟨yI,a0⟩,⟨yI,a1⟩,⟨yI,a2⟩,⟨yL,a3⟩]).bind fun r1=>((qjS R n_Z53 o_Z53 [⟨yI,r1.1⟩,⟨yI,r1.2.1⟩,⟨yI,r1.2.2.1⟩,⟨yL,r1.2.2.2.1⟩]).bind fun r2=>some ⟨o_Z21,(r2.1,())⟩)):=by kernel_rfl
def Z25.l0(R:Run)(N n:Nat)(a:vK)(b e:Int)(f:vK):Option Dv:=R.w (some ⟨(zd 3 (.c (.arr 16)::(V.dead::(V.dead::(.c (.d yK a)::(.c (.d yI b)::(.c (.d yI e)::(zd 10 [])))))))),(zo 16 (some (.arr yL f true false false)::(zo 4 [])))⟩) fun st=>lC R pol_Z25 3 N [1,1,0,1,0,0] F_Z25 n st (kB R pol_Z25 0 (kS R pol_Z25 7 N [1,1,1] F_Z25 (qqA E sg_Z25 F_Z25)))
theorem Z25.l0_succ(R:Run)(hw:R.ok)(N n:Nat)(a:vK)(b c:Int)(d:vK):Z25.l0 R N (n+1) a b c d=(bif (decide (c<b)) then((idx? a c).bind fun y5=>((qjS R n_Z69 o_Z69 [⟨yL,(y5,()).1⟩]).bind fun r6=>((chk (decide ((List.length d+List.length [r6.1])*24≤70368744177664))).bind fun _=>(Z25.l0 R N n a b (w64 (c+1)) (d++[r6.1]))))) else some ⟨o_Z25,(d,())⟩):=(hw _ _).trans (by kernel_rfl)
theorem Z25.ev(R:Run)(N:Nat)(a0:vK):qp8 E R sg_Z25 pol_Z25 F_Z25 N [⟨yK,a0⟩]=(Z25.l0 R N N a0 (List.length a0:Int) (0:Int) ([]:List (List Int))):=by kernel_rfl
theorem Z28.ev(R:Run)(N:Nat)(a0:List Int)(a1:(Int×Unit)):qp8 E R sg_Z28 pol_Z28 F_Z28 N [⟨yL,a0⟩,⟨(.ptr (.cons yI .nil)),a1⟩]=((idx? a0 a1.1).bind fun y1=>some ⟨o_Z28,(((y1,()).1 != (0:Int)),())⟩):=by kernel_rfl
def Z83.l0(R:Run)(N n:Nat)(a:vK)(b:((Int×Unit)×Unit))(e f:Int):Option Dv:=R.w (some ⟨(.c (.d yK a)::(.c (.d (.fn n_Z28 (.cons (.ptr (.cons yI .nil)) .nil)) b)::(zd 5 (.c (.d yI e)::(.c (.d yI f)::(zd 10 [])))))),(zo 21 [])⟩) fun st=>lC R pol_Z81 2 N [1,0,1,0,0] F_Z81 n st (kB R pol_Z81 0 (kS R pol_Z81 7 N [1,1] F_Z81 (qqA E sg_Z81 F_Z81)))
theorem Z83.l0_succ(R:Run)(hw:R.ok)(N n:Nat)(a:vK)(b:((Int×Unit)×Unit))(c d:Int):Z83.l0 R N (n+1) a b c d=(bif (decide (d<c)) then((idx? a d).bind fun y5=>((qjS R n_Z28 o_Z28 [⟨yL,(y5,()).1⟩,⟨(.ptr (.cons yI .nil)),b.1⟩]).bind fun r6=>(bif r6.1 then some ⟨o_Z81,(d,())⟩ else(Z83.l0 R N n a b c (w64 (d+1)))))) else some ⟨o_Z81,((-1:Int),())⟩):=(hw _ _).trans (by kernel_rfl)
theorem Z83.ev(R:Run)(N:Nat)(a0:vK)(a1:((Int×Unit)×Unit)):qp8 E R sg_Z81 pol_Z81 F_Z81 N [⟨yK,a0⟩,⟨(.fn n_Z28 (.cons (.ptr (.cons yI .nil)) .nil)),a1⟩]=(Z83.l0 R N N a0 a1 (List.length a0:Int) (0:Int)):=by kernel_rfl
theorem Z52.ev(R:Run)(N:Nat)(a0 a1:Int):qp8 E R sg_Z52 pol_Z52 F_Z52 N [⟨yI,a0⟩,⟨yI,a1⟩]=((chk (a1 != 0)).bind fun _=>((chk (a1 != 0)).bind fun _=>some ⟨o_Z52,((Int.tmod (w64 ((Int.tmod a0 a1)+a1)) a1),())⟩)):=by kernel_rfl
def Z51.l0(R:Run)(N n:Nat)(a b e f:Int):Option Dv:=R.w (some ⟨(.c (.d yI a)::(.c (.d yI b)::(.c (.d yI e)::(zd 4 (.c (.d yI f)::(zd 18 [])))))),(zo 29 [])⟩) fun st=>lC R pol_Z51 2 N [1,1,0,0,0] F_Z51 n st (kB R pol_Z51 0 (kS R pol_Z51 7 N [1,1,1] F_Z51 (qqA E sg_Z51 F_Z51)))
theorem Z51.l0_succ(R:Run)(hw:R.ok)(N n:Nat)(a b c d:Int):Z51.l0 R N (n+1) a b c d=(bif (decide (b>(0:Int))) then(bif ((Int.tmod b (2:Int))==(1:Int)) then((chk (c != 0)).bind fun _=>((chk (c != 0)).bind fun _=>(Z51.l0 R N n (Int.tmod (w64 (a*a)) c) (w64 (Int.tdiv b (2:Int))) c (Int.tmod (w64 (d*a)) c)))) else((chk (c != 0)).bind fun _=>(Z51.l0 R N n (Int.tmod (w64 (a*a)) c) (w64 (Int.tdiv b (2:Int))) c d))) else some ⟨o_Z51,(d,())⟩):=(hw _ _).trans (by kernel_rfl)
theorem Z51.ev(R:Run)(N:Nat)(a0 a1 a2:Int):qp8 E R sg_Z51 pol_Z51 F_Z51 N [⟨yI,a0⟩,⟨yI,a1⟩,⟨yI,a2⟩]=(Z51.l0 R N N a0 a1 a2 (1:Int)):=by kernel_rfl
theorem Z38.ev(R:Run)(N:Nat)(a0 a1:Int):qp8 E R sg_Z38 pol_Z38 F_Z38 N [⟨yI,a0⟩,⟨yI,a1⟩]=((qjS R n_Z51 o_Z51 [⟨yI,a0⟩,⟨yI,(w64 (a1-(2:Int)))⟩,⟨yI,a1⟩]).bind fun r1=>some ⟨o_Z38,(r1.1,())⟩):=by kernel_rfl
def Z14.l0(R:Run)(N n:Nat)(a b:List Int)(e f g h:Int)(i:List Int):Option Dv:=R.w (some ⟨(.c (.d yL a)::(.c (.d yL b)::(.c (.d yI e)::(.c (.d yI f)::(zd 5 (.c (.arr 31)::(V.dead::(V.dead::(.c (.d yI g)::(.c (.d yI h)::(zd 20 []))))))))))),(zo 31 (some (.arr yI i true false false)::(zo 6 [])))⟩) fun st=>lC R pol_Z14 3 N [1,1,0,1,0,0] F_Z14 n st (kB R pol_Z14 0 (kS R pol_Z14 7 N [1,1,1] F_Z14 (qqA E sg_Z14 F_Z14)))
theorem Z14.l0_succ(R:Run)(hw:R.ok)(N n:Nat)(a b:List Int)(c d e f:Int)(g:List Int):Z14.l0 R N (n+1) a b c d e f g=(bif (decide (f<e)) then((idx? a f).bind fun y8=>((idx? b f).bind fun y9=>((chk (d != 0)).bind fun _=>((chk (decide ((List.length g+List.length [(Int.tmod (w64 ((y8,()).1+(w64 (c*(y9,()).1)))) d)])*8≤70368744177664))).bind fun _=>(Z14.l0 R N n a b c d e (w64 (f+1)) (g++[(Int.tmod (w64 ((y8,()).1+(w64 (c*(y9,()).1)))) d)])))))) else some ⟨o_Z14,(g,())⟩):=(hw _ _).trans (by kernel_rfl)
theorem Z14.ev(R:Run)(N:Nat)(a0 a1:List Int)(a2 a3:Int):qp8 E R sg_Z14 pol_Z14 F_Z14 N [⟨yL,a0⟩,⟨yL,a1⟩,⟨yI,a2⟩,⟨yI,a3⟩]=(Z14.l0 R N N a0 a1 a2 a3 (List.length a0:Int) (0:Int) ([]:List Int)):=by kernel_rfl
def Z27.j4(R:Run)(N a b:Nat)(e f g h i:Int)(j:List Int)(k l m o:Int)(p:Bool)(q:Int)(r:List Int)(s:vK):Option Dv:=R.w (some ⟨(.c (.arr 120)::(.c (.d yI e)::(.c (.d yI f)::(zd 5 (.c (.arr 116)::(.c (.d yI g)::(.c (.box 10 0)::(.c (.d yI h)::(V.dead::(V.dead::(.c (.d yI i)::(.c (.d yL j)::(.c (.d yI k)::(.c (.d yI l)::(zd 61 (.c (.arr 120)::(.c (.d yI m)::(.c (.d yI o)::(zd 13 (.c (.d .bool p)::(zd 24 []))))))))))))))))))))),(zo 10 (some (.box [.d yI q] true false)::(zo 105 (some (.arr yI r true false false)::(zo 3 (some (.arr yL s false false true)::(zo 4 [])))))))⟩) fun st=>eC R pol_Z27 N [1,1,1,0,1,0,0,1,1,0,0,1,1,1,1,1,1,1,1,0,1,0,0,1,1,0,0,1,1] F_Z27 st (kB R pol_Z27 3 (kS R pol_Z27 21 N [1,1,1,0,1,0,0,1,1,0,0,1,1,1,1,1,1,1,1,0,1,0,0,1,1,1] F_Z27 (kL R pol_Z27 17 N [1,1,1,0,1,0,0,1,1,0,0,1,1,1,1,1,1,1,1,0,1,0,0] F_Z27 b (kB R pol_Z27 2 (q1_2 R N (kB R pol_Z27 1 (q1_3 R N (q1_8 R N a (q1_11 R (q1_4 R N (qqA E sg_Z27 F_Z27)))))))))))
def Z27.l3(R:Run)(N a n:Nat)(b e f g h i j k l:Int)(m:List Int)(o:vK):Option Dv:=R.w (some ⟨(.c (.arr 120)::(.c (.d yI b)::(.c (.d yI e)::(zd 5 (.c (.arr 116)::(.c (.d yI f)::(.c (.box 10 0)::(.c (.d yI g)::(zd 4 (.c (.d yI h)::(.c (.d yI i)::(zd 61 (.c (.arr 120)::(.c (.d yI j)::(.c (.d yI k)::(zd 38 [])))))))))))))))),(zo 10 (some (.box [.d yI l] true false)::(zo 105 (some (.arr yI m true false false)::(zo 3 (some (.arr yL o false false true)::(zo 4 [])))))))⟩) fun st=>lC R pol_Z27 17 N [1,1,1,0,1,0,0,1,1,0,0,1,1,1,1,1,1,1,1,0,1,0,0] F_Z27 n st (kB R pol_Z27 2 (q1_2 R N (kB R pol_Z27 1 (q1_3 R N (q1_8 R N a (q1_11 R (q1_4 R N (qqA E sg_Z27 F_Z27))))))))
def Z27.j2(R:Run)(N a:Nat)(b e f g h i j:Int)(k:List Int)(l:vK):Option Dv:=R.w (some ⟨(.c (.arr 120)::(.c (.d yI b)::(.c (.d yI e)::(zd 5 (.c (.arr 116)::(.c (.d yI f)::(.c (.box 10 0)::(.c (.d yI g)::(zd 4 (.c (.d yI h)::(.c (.d yI i)::(zd 102 [])))))))))))),(zo 10 (some (.box [.d yI j] true false)::(zo 105 (some (.arr yI k true false false)::(zo 3 (some (.arr yL l false false true)::(zo 4 [])))))))⟩) fun st=>eC R pol_Z27 N [1,1,1,0,1,0,0,1,1,0,0,1,1,1,1,1,1,1,1] F_Z27 st (kB R pol_Z27 1 (q1_3 R N (q1_8 R N a (q1_11 R (q1_4 R N (qqA E sg_Z27 F_Z27))))))
def Z27.j1(R:Run)(N a:Nat)(b e f g h i j:Int)(k:List Int)(l:vK):Option Dv:=R.w (some ⟨(.c (.arr 120)::(.c (.d yI b)::(.c (.d yI e)::(zd 5 (.c (.arr 116)::(.c (.d yI f)::(.c (.box 10 0)::(.c (.d yI g)::(zd 4 (.c (.d yI h)::(.c (.d yI i)::(zd 102 [])))))))))))),(zo 10 (some (.box [.d yI j] true false)::(zo 105 (some (.arr yI k true false false)::(zo 3 (some (.arr yL l false false true)::(zo 4 [])))))))⟩) fun st=>eC R pol_Z27 N [1,1,1,0,1,0,0,1,1,0,0,1,1,1,1,1] F_Z27 st (kB R pol_Z27 1 (q1_3 R N (q1_8 R N a (q1_11 R (q1_4 R N (qqA E sg_Z27 F_Z27))))))
def Z27.l0(R:Run)(N n:Nat)(a b e f g:Int)(h:List Int)(i:vK):Option Dv:=R.w (some ⟨(.c (.arr 120)::(.c (.d yI a)::(.c (.d yI b)::(zd 5 (.c (.arr 116)::(.c (.d yI e)::(zd 6 (.c (.d yI f)::(.c (.d yI g)::(zd 102 [])))))))))),(zo 116 (some (.arr yI h true false false)::(zo 3 (some (.arr yL i false false true)::(zo 4 [])))))⟩) fun st=>lC R pol_Z27 4 N [1,1,1,0,1,0,0] F_Z27 n st (q1_11 R (q1_4 R N (qqA E sg_Z27 F_Z27)))
theorem Z27.j4_eq(R:Run)(hw:R.ok)(N a b:Nat)(c d e f g:Int)(h:List Int)(i j k l:Int)(m:Bool)(o:Int)(p:List Int)(q:vK):Z27.j4 R N a b c d e f g h i j k l m o p q=(bif m then((chk (decide (0≤f)&&decide (f<(List.length q:Int)))).bind fun _=>(Option.bind (q)[(Int.toNat f)]? fun y69=>((idx? h o).bind fun y70=>((qjS R n_Z14 o_Z14 [⟨yL,h⟩,⟨yL,y69⟩,⟨yI,(w64 (d-(y70,()).1))⟩,⟨yI,d⟩]).bind fun r71=>((chk (decide (0≤g)&&decide (g<(List.length q:Int)))).bind fun _=>(Z27.l3 R N a b c d e f i j k (w64 (l+1)) o p (List.set q (Int.toNat g) r71.1))))))) else(Z27.l3 R N a b c d e f i j k (w64 (l+1)) o p q)):=(hw _ _).trans (by kernel_rfl)
theorem Z27.l3_succ(R:Run)(hw:R.ok)(N a n:Nat)(b c d e f g h i j:Int)(k:List Int)(l:vK):Z27.l3 R N a (n+1) b c d e f g h i j k l=(bif (decide (i<h)) then((chk (decide (0≤i)&&decide (i<(List.length l:Int)))).bind fun _=>(Option.bind (l)[(Int.toNat i)]? fun y53=>(bif (i != e) then((idx? y53 j).bind fun y54=>(Z27.j4 R N a n b c d e i y53 f g h i ((y54,()).1 != (0:Int)) j k l)) else(Z27.j4 R N a n b c d e i y53 f g h i false j k l)))) else((chk (decide ((List.length k+List.length [j])*8≤70368744177664))).bind fun _=>(Z27.l0 R N a b c d f (w64 (g+1)) (k++[j]) l))):=(hw _ _).trans (by kernel_rfl)
theorem Z27.j2_eq(R:Run)(hw:R.ok)(N a:Nat)(b c d e f g h:Int)(i:List Int)(j:vK):Z27.j2 R N a b c d e f g h i j=(Z27.l3 R N a N b c d e f g (List.length j:Int) (0:Int) h i j):=(hw _ _).trans (by kernel_rfl)
theorem Z27.j1_eq(R:Run)(hw:R.ok)(N a:Nat)(b c d e f g h:Int)(i:List Int)(j:vK):Z27.j1 R N a b c d e f g h i j=((chk (decide (0≤e)&&decide (e<(List.length j:Int)))).bind fun _=>(Option.bind (j)[(Int.toNat e)]? fun y28=>((idx? y28 h).bind fun y29=>((chk (c != 0)).bind fun _=>((chk (decide (0≤e)&&decide (e<(List.length j:Int)))).bind fun _=>(Option.bind (j)[(Int.toNat e)]? fun y30=>(qox ((chk (decide (0≤b)&&decide (b*8≤70368744177664))).bind fun _=>((qjS R n_Z38 o_Z38 [⟨yI,(y29,()).1⟩,⟨yI,c⟩]).bind fun r31=>((qjS R n_Z14 o_Z14 [⟨yL,(List.replicate (Int.toNat b) (0:Int))⟩,⟨yL,y30⟩,⟨yI,r31.1⟩,⟨yI,c⟩]).bind fun r32=>((chk (decide (0≤e)&&decide (e<(List.length j:Int)))).bind fun _=>(Z27.j2 R N a b c (Int.tmod (w64 (d*(y29,()).1)) c) e f g h i (List.set j (Int.toNat e) r32.1)))))) ((qjS R n_Z38 o_Z38 [⟨yI,(y29,()).1⟩,⟨yI,c⟩]).bind fun r115=>((chk (decide (0≤b)&&decide (b*8≤70368744177664))).bind fun _=>((qjS R n_Z14 o_Z14 [⟨yL,(List.replicate (Int.toNat b) (0:Int))⟩,⟨yL,y30⟩,⟨yI,r115.1⟩,⟨yI,c⟩]).bind fun r116=>((chk (decide (0≤e)&&decide (e<(List.length j:Int)))).bind fun _=>(Z27.j2 R N a b c (Int.tmod (w64 (d*(y29,()).1)) c) e f g h i (List.set j (Int.toNat e) r116.1))))))))))))):=(hw _ _).trans (by kernel_rfl)
theorem Z27.l0_succ(R:Run)(hw:R.ok)(N n:Nat)(a b c d e:Int)(f:List Int)(g:vK):Z27.l0 R N (n+1) a b c d e f g=(bif (decide (e<d)) then((chk (decide (0≤(List.length f:Int))&&decide ((List.length f:Int)≤(List.length g:Int)))).bind fun _=>((qjS R n_Z81 o_Z81 [⟨yK,(List.drop (Int.toNat (List.length f:Int)) (List.take (List.length g) g))⟩,⟨(.fn n_Z28 (.cons (.ptr (.cons yI .nil)) .nil)),((e,()),())⟩]).bind fun r8=>(bif (decide (r8.1<(0:Int))) then(Z27.l0 R N n a b (0:Int) d (w64 (e+1)) f g) else(bif (decide (r8.1>(0:Int))) then((chk (decide (0≤(w64 ((List.length f:Int)+r8.1)))&&decide ((w64 ((List.length f:Int)+r8.1))<(List.length g:Int)))).bind fun _=>(Option.bind (g)[(Int.toNat (w64 ((List.length f:Int)+r8.1)))]? fun y16=>((chk (decide (0≤(List.length f:Int))&&decide ((List.length f:Int)<(List.length g:Int)))).bind fun _=>(Option.bind (g)[(Int.toNat (List.length f:Int))]? fun y17=>((chk (decide (0≤(List.length f:Int))&&decide ((List.length f:Int)<(List.length g:Int)))).bind fun _=>((chk (decide (0≤(w64 ((List.length f:Int)+r8.1)))&&decide ((w64 ((List.length f:Int)+r8.1))<(List.length (List.set g (Int.toNat (List.length f:Int)) y16):Int)))).bind fun _=>((qjS R n_Z52 o_Z52 [⟨yI,(w64 (0-c))⟩,⟨yI,b⟩]).bind fun r18=>(Z27.j1 R N n a b r18.1 (List.length f:Int) d e e f (List.set (List.set g (Int.toNat (List.length f:Int)) y16) (Int.toNat (w64 ((List.length f:Int)+r8.1))) y17))))))))) else(Z27.j1 R N n a b c (List.length f:Int) d e e f g))))) else some ⟨o_Z27,(f,c,g,())⟩):=(hw _ _).trans (by kernel_rfl)
theorem Z27.ev(R:Run)(N:Nat)(a0:vK)(a1 a2:Int):qp8 E R sg_Z27 pol_Z27 F_Z27 N [⟨yK,a0⟩,⟨yI,a1⟩,⟨yI,a2⟩]=(Z27.l0 R N N a1 a2 (1:Int) a1 (0:Int) ([]:List Int) a0):=by kernel_rfl
theorem Z57.ev(R:Run)(N:Nat)(a0 a1:Int)(a2:vK):qp8 E R sg_Z57 pol_Z57 F_Z57 N [⟨yI,a0⟩,⟨yI,a1⟩,⟨yK,a2⟩]=((qjS R n_Z25 o_Z25 [⟨yK,a2⟩]).bind fun r1=>((qjS R n_Z27 o_Z27 [⟨yK,r1.1⟩,⟨yI,a1⟩,⟨yI,a0⟩]).bind fun r2=>((chk (decide (0≤(List.length r2.1:Int))&&decide ((List.length r2.1:Int)≤(List.length r2.2.2.1:Int)))).bind fun _=>((qjS R n_Z25 o_Z25 [⟨yK,(List.drop 0 (List.take (Int.toNat (List.length r2.1:Int)) r2.2.2.1))⟩]).bind fun r3=>some ⟨o_Z57,(a0,a1,r3.1,())⟩)))):=by kernel_rfl
theorem Z17.ev(R:Run)(N:Nat)(a0:vK)(a1 a2:Int):qp8 E R sg_Z17 pol_Z17 F_Z17 N [⟨yK,a0⟩,⟨yI,a1⟩,⟨yI,a2⟩]=((qjS R n_Z18 o_Z18 [⟨yK,a0⟩,⟨yI,(w64 (a1+1))⟩,⟨yI,a2⟩]).bind fun r1=>((qjS R n_Z21 o_Z21 [⟨yI,r1.1⟩,⟨yI,r1.2.1⟩,⟨yI,r1.2.2.1⟩,⟨yL,r1.2.2.2.1⟩]).bind fun r2=>((qjS R n_Z57 o_Z57 [⟨yI,a2⟩,⟨yI,r1.2.1⟩,⟨yK,r2.1⟩]).bind fun r3=>some ⟨o_Z17,(r3.1,r3.2.1,r3.2.2.1,())⟩))):=by kernel_rfl
theorem Z79.ev(R:Run)(N:Nat)(a0:List Int)(a1:Int):qp8 E R sg_Z79 pol_Z79 F_Z79 N [⟨yL,a0⟩,⟨yI,a1⟩]=((qjS R n_Z89 o_Z89 [⟨yL,a0⟩,⟨yI,a1⟩]).bind fun r1=>some ⟨o_Z79,((decide (r1.1≥(0:Int))),())⟩):=by kernel_rfl
def Z47.l1(R:Run)(N a n:Nat)(b:List Int)(e f g:Int)(h:List Int)(i j k l m:Int)(o p:List Int)(q r:vK):Option Dv:=R.w (some ⟨(V.dead::(.c (.box 1 0)::(V.dead::(.c (.arr 68)::(.c (.d yL b)::(V.dead::(.c (.arr 61)::(.c (.d yI e)::(.c (.arr 32)::(zd 14 (.c (.d yI f)::(.c (.d yI g)::(zd 11 (.c (.d yL h)::(.c (.d yI i)::(.c (.d yI j)::(zd 25 []))))))))))))))))),(none::(some (.box [.d yI k,.d yI l,.d yI m,.d yL o] false false)::(zo 30 (some (.arr yI p true false false)::(zo 28 (some (.arr yL q true false false)::(zo 6 (some (.arr yL r false false false)::[]))))))))⟩) fun st=>lC R pol_Z47 11 N [1,1,1,1,0,1,0,0,1,1,0,0,1,1,1,1,0,1,0,0] F_Z47 n st (kB R pol_Z47 2 (kS R pol_Z47 15 N [1,1,1,1,0,1,0,0,1,1,0,0,1,1,1,1,1] F_Z47 (kB R pol_Z47 1 (kS R pol_Z47 16 N [1,1,1,1,0,1,0,0,1,1,1] F_Z47 (kL R pol_Z47 5 N [1,1,1,1,0,1,0,0] F_Z47 a (kB R pol_Z47 0 (kS R pol_Z47 17 N [1,1,1,1,1] F_Z47 (qqA E sg_Z47 F_Z47))))))))
def Z47.l0(R:Run)(N n:Nat)(a:List Int)(b e f g h:Int)(i:List Int)(j k:vK):Option Dv:=R.w (some ⟨(V.dead::(.c (.box 1 0)::(V.dead::(.c (.arr 68)::(.c (.d yL a)::(V.dead::(.c (.arr 61)::(zd 16 (.c (.d yI b)::(.c (.d yI e)::(zd 39 []))))))))))),(none::(some (.box [.d yI f,.d yI g,.d yI h,.d yL i] false false)::(zo 59 (some (.arr yL j true false false)::(zo 6 (some (.arr yL k false false false)::[]))))))⟩) fun st=>lC R pol_Z47 5 N [1,1,1,1,0,1,0,0] F_Z47 n st (kB R pol_Z47 0 (kS R pol_Z47 17 N [1,1,1,1,1] F_Z47 (qqA E sg_Z47 F_Z47)))
theorem Z47.l1_succ(R:Run)(hw:R.ok)(N a n:Nat)(b:List Int)(c d e:Int)(f:List Int)(g h i j k:Int)(l m:List Int)(o p:vK):Z47.l1 R N a (n+1) b c d e f g h i j k l m o p=(bif (decide (h<g)) then((idx? f h).bind fun y36=>((chk (decide (0≤h)&&decide (h<(List.length p:Int)))).bind fun _=>(Option.bind (p)[(Int.toNat h)]? fun y37=>((idx? y37 c).bind fun y38=>((qjS R n_Z52 o_Z52 [⟨yI,(w64 (0-(y38,()).1))⟩,⟨yI,i⟩]).bind fun r39=>((chk (decide (0≤(y36,()).1)&&decide ((y36,()).1<(List.length m:Int)))).bind fun _=>(Z47.l1 R N a n b c d e f g (w64 (h+1)) i j k l (List.set m (Int.toNat (y36,()).1) r39.1) o p))))))) else((chk (decide ((List.length o+List.length [m])*24≤70368744177664))).bind fun _=>(Z47.l0 R N a b d (w64 (e+1)) i j k l (o++[m]) p))):=(hw _ _).trans (by kernel_rfl)
theorem Z47.l0_succ(R:Run)(hw:R.ok)(N n:Nat)(a:List Int)(b c d e f:Int)(g:List Int)(h i:vK):Z47.l0 R N (n+1) a b c d e f g h i=(bif (decide (c<b)) then((qjS R n_Z79 o_Z79 [⟨yL,a⟩,⟨yI,c⟩]).bind fun r12=>(bif r12.1 then(Z47.l0 R N n a b (w64 (c+1)) d e f g h i) else((chk (decide (0≤f)&&decide (f*8≤70368744177664))).bind fun _=>((chk (decide (0≤c)&&decide (c<(List.length (List.replicate (Int.toNat f) (0:Int)):Int)))).bind fun _=>(Z47.l1 R N n N a c b c a (List.length a:Int) (0:Int) d e f g (List.set (List.replicate (Int.toNat f) (0:Int)) (Int.toNat c) (1:Int)) h i))))) else some ⟨o_Z47,(h,())⟩):=(hw _ _).trans (by kernel_rfl)
theorem Z47.ev(R:Run)(N:Nat)(a0 a1 a2:Int)(a3:List Int):qp8 E R sg_Z47 pol_Z47 F_Z47 N [⟨yI,a0⟩,⟨yI,a1⟩,⟨yI,a2⟩,⟨yL,a3⟩]=((qjS R n_Z53 o_Z53 [⟨yI,a0⟩,⟨yI,a1⟩,⟨yI,a2⟩,⟨yL,a3⟩]).bind fun r1=>((qjS R n_Z27 o_Z27 [⟨yK,r1.1⟩,⟨yI,a2⟩,⟨yI,a0⟩]).bind fun r2=>(Z47.l0 R N N r2.1 a2 (0:Int) a0 a1 a2 a3 ([]:List (List Int)) r2.2.2.1))):=by kernel_rfl
theorem Z50.ev(R:Run)(N:Nat)(a0:Int):qp8 E R sg_Z50 pol_Z50 F_Z50 N [⟨yI,a0⟩]=some ⟨o_Z50,((a0 != (0:Int)),())⟩:=by kernel_rfl
def Z88.l0(R:Run)(N n:Nat)(a:List Int)(b e:Int):Option Dv:=R.w (some ⟨(.c (.d yL a)::(.c (.d (.fn n_Z50 .nil) ())::(zd 5 (.c (.d yI b)::(.c (.d yI e)::(zd 10 [])))))),(zo 21 [])⟩) fun st=>q1_10 R N n st (kB R pol_Z85 0 (q1_5 R N (qqA E sg_Z85 F_Z85)))
theorem Z88.l0_succ(R:Run)(hw:R.ok)(N n:Nat)(a:List Int)(b c:Int):Z88.l0 R N (n+1) a b c=(bif (decide (c<b)) then((idx? a c).bind fun y4=>((qjS R n_Z50 o_Z50 [⟨yI,(y4,()).1⟩]).bind fun r5=>(bif r5.1 then some ⟨o_Z85,(c,())⟩ else(Z88.l0 R N n a b (w64 (c+1)))))) else some ⟨o_Z85,((-1:Int),())⟩):=(hw _ _).trans (by kernel_rfl)
theorem Z88.ev(R:Run)(N:Nat)(a0:List Int):qp8 E R sg_Z85 pol_Z85 F_Z85 N [⟨yL,a0⟩,⟨(.fn n_Z50 .nil),()⟩]=(Z88.l0 R N N a0 (List.length a0:Int) (0:Int)):=by kernel_rfl
def Z49.l0(R:Run)(N n:Nat)(a:vK)(b e:Int)(f:List Int):Option Dv:=R.w (some ⟨(zd 3 (.c (.arr 17)::(zd 3 (.c (.d yK a)::(.c (.d yI b)::(.c (.d yI e)::(zd 10 []))))))),(zo 17 (some (.arr yI f true false false)::(zo 5 [])))⟩) fun st=>lC R pol_Z49 3 N [1,1,0,1,0,0] F_Z49 n st (kB R pol_Z49 0 (kS R pol_Z49 7 N [1,1,1] F_Z49 (qqA E sg_Z49 F_Z49)))
theorem Z49.l0_succ(R:Run)(hw:R.ok)(N n:Nat)(a:vK)(b c:Int)(d:List Int):Z49.l0 R N (n+1) a b c d=(bif (decide (c<b)) then((idx? a c).bind fun y5=>((qjS R n_Z85 o_Z85 [⟨yL,(y5,()).1⟩,⟨(.fn n_Z50 .nil),()⟩]).bind fun r6=>((chk (decide ((List.length d+List.length [r6.1])*8≤70368744177664))).bind fun _=>(Z49.l0 R N n a b (w64 (c+1)) (d++[r6.1]))))) else some ⟨o_Z49,(d,())⟩):=(hw _ _).trans (by kernel_rfl)
theorem Z49.ev(R:Run)(N:Nat)(a0 a1:Int)(a2:vK):qp8 E R sg_Z49 pol_Z49 F_Z49 N [⟨yI,a0⟩,⟨yI,a1⟩,⟨yK,a2⟩]=(Z49.l0 R N N a2 (List.length a2:Int) (0:Int) ([]:List Int)):=by kernel_rfl
theorem Z46.ev(R:Run)(N:Nat)(a0:Int):qp8 E R sg_Z46 pol_Z46 F_Z46 N [⟨yI,a0⟩]=some ⟨o_Z46,((a0 != (0:Int)),())⟩:=by kernel_rfl
def Z87.l0(R:Run)(N n:Nat)(a:List Int)(b e:Int):Option Dv:=R.w (some ⟨(.c (.d yL a)::(.c (.d (.fn n_Z46 .nil) ())::(zd 5 (.c (.d yI b)::(.c (.d yI e)::(zd 10 [])))))),(zo 21 [])⟩) fun st=>q1_10 R N n st (kB R pol_Z85 0 (q1_5 R N (qqA E sg_Z85 F_Z85)))
theorem Z87.l0_succ(R:Run)(hw:R.ok)(N n:Nat)(a:List Int)(b c:Int):Z87.l0 R N (n+1) a b c=(bif (decide (c<b)) then((idx? a c).bind fun y4=>((qjS R n_Z46 o_Z46 [⟨yI,(y4,()).1⟩]).bind fun r5=>(bif r5.1 then some ⟨o_Z85,(c,())⟩ else(Z87.l0 R N n a b (w64 (c+1)))))) else some ⟨o_Z85,((-1:Int),())⟩):=(hw _ _).trans (by kernel_rfl)
theorem Z87.ev(R:Run)(N:Nat)(a0:List Int):qp8 E R sg_Z85 pol_Z85 F_Z85 N [⟨yL,a0⟩,⟨(.fn n_Z46 .nil),()⟩]=(Z87.l0 R N N a0 (List.length a0:Int) (0:Int)):=by kernel_rfl
theorem Z78.ev(R:Run)(N:Nat)(a0:List Int):qp8 E R sg_Z76 pol_Z76 F_Z76 N [⟨yL,a0⟩,⟨(.fn n_Z46 .nil),()⟩]=((qjS R n_Z85 o_Z85 [⟨yL,a0⟩,⟨(.fn n_Z46 .nil),()⟩]).bind fun r1=>some ⟨o_Z76,((decide (r1.1≥(0:Int))),())⟩):=by kernel_rfl
theorem Z45.ev(R:Run)(N:Nat)(a0:List Int):qp8 E R sg_Z45 pol_Z45 F_Z45 N [⟨yL,a0⟩]=((qjS R n_Z76 o_Z76 [⟨yL,a0⟩,⟨(.fn n_Z46 .nil),()⟩]).bind fun r1=>some ⟨o_Z45,((!r1.1),())⟩):=by kernel_rfl
def Z24.l0(R:Run)(N n:Nat)(a b e:List Int)(f g h i:Int)(j:vK)(k:List Int):Option Dv:=R.w (some ⟨(V.dead::(.c (.d yL a)::(.c (.box 2 0)::(zd 3 (.c (.arr 25)::(.c (.d yL b)::(zd 4 (.c (.d yL e)::(.c (.d yI f)::(.c (.d yI g)::(zd 34 []))))))))))),(none::(none::(some (.box [.d yI h,.d yI i,.d yK j] false false)::(zo 22 (some (.arr yI k true false false)::(zo 27 []))))))⟩) fun st=>lC R pol_Z24 4 N [1,1,1,0,1,0,0] F_Z24 n st (kB R pol_Z24 0 (kS R pol_Z24 9 N [1,1,1,1] F_Z24 (qqA E sg_Z24 F_Z24)))
theorem Z24.l0_succ(R:Run)(hw:R.ok)(N n:Nat)(a b c:List Int)(d e f g:Int)(h:vK)(i:List Int):Z24.l0 R N (n+1) a b c d e f g h i=(bif (decide (e<d)) then((idx? c e).bind fun y11=>((idx? a (y11,()).1).bind fun y12=>((chk (decide ((List.length i+List.length [(y12,()).1])*8≤70368744177664))).bind fun _=>((idx? h e).bind fun y13=>((idx? a (y11,()).1).bind fun y14=>((chk (f != 0)).bind fun _=>((qjS R n_Z14 o_Z14 [⟨yL,b⟩,⟨yL,(y13,()).1⟩,⟨yI,(Int.tmod (w64 (f-(y14,()).1)) f)⟩,⟨yI,f⟩]).bind fun r15=>(Z24.l0 R N n a r15.1 c d (w64 (e+1)) f g h (i++[(y12,()).1]))))))))) else((qjS R n_Z45 o_Z45 [⟨yL,b⟩]).bind fun r25=>some ⟨o_Z24,(i,r25.1,())⟩)):=(hw _ _).trans (by kernel_rfl)
theorem Z24.ev(R:Run)(N:Nat)(a0 a1:Int)(a2:vK)(a3:List Int):qp8 E R sg_Z24 pol_Z24 F_Z24 N [⟨yI,a0⟩,⟨yI,a1⟩,⟨yK,a2⟩,⟨yL,a3⟩]=((qjS R n_Z49 o_Z49 [⟨yI,a0⟩,⟨yI,a1⟩,⟨yK,a2⟩]).bind fun r1=>(Z24.l0 R N N a3 a3 r1.1 (List.length r1.1:Int) (0:Int) a0 a1 a2 ([]:List Int))):=by kernel_rfl
theorem Z23.ev(R:Run)(N:Nat)(a0 a1:Int)(a2:vK)(a3:List Int):qp8 E R sg_Z23 pol_Z23 F_Z23 N [⟨yI,a0⟩,⟨yI,a1⟩,⟨yK,a2⟩,⟨yL,a3⟩]=((qjS R n_Z24 o_Z24 [⟨yI,a0⟩,⟨yI,a1⟩,⟨yK,a2⟩,⟨yL,a3⟩]).bind fun r1=>some ⟨o_Z23,(r1.2.1,())⟩):=by kernel_rfl
def Z36.l0(R:Run)(N n:Nat)(a:vK)(b e f g:Int)(h i:vK):Option Dv:=R.w (some ⟨(V.dead::(V.dead::(.c (.box 2 0)::(V.dead::(V.dead::(.c (.arr 21)::(V.dead::(V.dead::(.c (.d yK a)::(.c (.d yI b)::(.c (.d yI e)::(zd 24 [])))))))))))),(none::(none::(some (.box [.d yI f,.d yI g,.d yK h] false false)::(zo 18 (some (.arr yL i false false false)::(zo 18 []))))))⟩) fun st=>lC R pol_Z36 3 N [1,1,0,1,0,0] F_Z36 n st (kB R pol_Z36 0 (kS R pol_Z36 9 N [1,1,1] F_Z36 (qqA E sg_Z36 F_Z36)))
theorem Z36.l0_succ(R:Run)(hw:R.ok)(N n:Nat)(a:vK)(b c d e:Int)(f g:vK):Z36.l0 R N (n+1) a b c d e f g=(bif (decide (c<b)) then((idx? a c).bind fun y8=>((qjS R n_Z23 o_Z23 [⟨yI,d⟩,⟨yI,e⟩,⟨yK,f⟩,⟨yL,(y8,()).1⟩]).bind fun r9=>(bif (!r9.1) then((chk (decide ((List.length g+List.length [(y8,()).1])*24≤70368744177664))).bind fun _=>(qox ((qjS R n_Z25 o_Z25 [⟨yK,f⟩]).bind fun r10=>((chk (decide ((List.length r10.1+List.length [(y8,()).1])*24≤70368744177664))).bind fun _=>((qjS R n_Z57 o_Z57 [⟨yI,d⟩,⟨yI,e⟩,⟨yK,(r10.1++[(y8,()).1])⟩]).bind fun r11=>(Z36.l0 R N n a b (w64 (c+1)) r11.1 r11.2.1 r11.2.2.1 (g++[(y8,()).1]))))) ((qjS R n_Z25 o_Z25 [⟨yK,f⟩]).bind fun r19=>((chk (decide ((List.length r19.1+List.length [(y8,()).1])*24≤70368744177664))).bind fun _=>((qjS R n_Z57 o_Z57 [⟨yI,d⟩,⟨yI,e⟩,⟨yK,(r19.1++[(y8,()).1])⟩]).bind fun r20=>(Z36.l0 R N n a b (w64 (c+1)) r20.1 r20.2.1 r20.2.2.1 (g++[(y8,()).1]))))))) else(Z36.l0 R N n a b (w64 (c+1)) d e f g)))) else some ⟨o_Z36,(g,())⟩):=(hw _ _).trans (by kernel_rfl)
theorem Z36.ev(R:Run)(N:Nat)(a0 a1:Int)(a2 a3:vK):qp8 E R sg_Z36 pol_Z36 F_Z36 N [⟨yI,a0⟩,⟨yI,a1⟩,⟨yK,a2⟩,⟨yK,a3⟩]=(Z36.l0 R N N a3 (List.length a3:Int) (0:Int) a0 a1 a2 ([]:List (List Int))):=by kernel_rfl
theorem Z34.ev(R:Run)(N:Nat)(a0:vK)(a1 a2:Int):qp8 E R sg_Z34 pol_Z34 F_Z34 N [⟨yK,a0⟩,⟨yI,a1⟩,⟨yI,a2⟩]=((qjS R n_Z17 o_Z17 [⟨yK,a0⟩,⟨yI,a1⟩,⟨yI,a2⟩]).bind fun r1=>((qjS R n_Z18 o_Z18 [⟨yK,a0⟩,⟨yI,a1⟩,⟨yI,a2⟩]).bind fun r2=>((qjS R n_Z47 o_Z47 [⟨yI,r2.1⟩,⟨yI,r2.2.1⟩,⟨yI,r2.2.2.1⟩,⟨yL,r2.2.2.2.1⟩]).bind fun r3=>((qjS R n_Z36 o_Z36 [⟨yI,r1.1⟩,⟨yI,r1.2.1⟩,⟨yK,r1.2.2.1⟩,⟨yK,r3.1⟩]).bind fun r4=>some ⟨o_Z34,(r4.1,())⟩)))):=by kernel_rfl
def Z26.l0(R:Run)(N n:Nat)(a b:List Int)(e f g h:Int):Option Dv:=R.w (some ⟨(.c (.d yL a)::(.c (.d yL b)::(.c (.d yI e)::(zd 4 (.c (.d yI f)::(V.dead::(V.dead::(.c (.d yI g)::(.c (.d yI h)::(zd 17 [])))))))))),(zo 32 [])⟩) fun st=>lC R pol_Z26 3 N [1,1,0,1,0,0] F_Z26 n st (kB R pol_Z26 0 (kS R pol_Z26 7 N [1,1,1] F_Z26 (qqA E sg_Z26 F_Z26)))
theorem Z26.l0_succ(R:Run)(hw:R.ok)(N n:Nat)(a b:List Int)(c d e f:Int):Z26.l0 R N (n+1) a b c d e f=(bif (decide (f<e)) then((idx? a f).bind fun y7=>((idx? b f).bind fun y8=>((chk (c != 0)).bind fun _=>(Z26.l0 R N n a b c (Int.tmod (w64 (d+(w64 ((y7,()).1*(y8,()).1)))) c) e (w64 (f+1)))))) else some ⟨o_Z26,(d,())⟩):=(hw _ _).trans (by kernel_rfl)
theorem Z26.ev(R:Run)(N:Nat)(a0 a1:List Int)(a2:Int):qp8 E R sg_Z26 pol_Z26 F_Z26 N [⟨yL,a0⟩,⟨yL,a1⟩,⟨yI,a2⟩]=(Z26.l0 R N N a0 a1 a2 (0:Int) (List.length a0:Int) (0:Int)):=by kernel_rfl
def Z16.l0(R:Run)(N n:Nat)(a:List Int)(b e f g h:Int)(i j:List Int):Option Dv:=R.w (some ⟨(V.dead::(.c (.d yL a)::(.c (.box 2 0)::(V.dead::(V.dead::(.c (.arr 21)::(V.dead::(V.dead::(.c (.d yI b)::(.c (.d yI e)::(zd 14 []))))))))))),(none::(none::(some (.box [.d yI f,.d yI g,.d yI h,.d yL i] false false)::(zo 18 (some (.arr yI j true false false)::(zo 7 []))))))⟩) fun st=>lC R pol_Z16 3 N [1,1,0,1,0,0] F_Z16 n st (kB R pol_Z16 0 (kS R pol_Z16 7 N [1,1,1] F_Z16 (qqA E sg_Z16 F_Z16)))
theorem Z16.l0_succ(R:Run)(hw:R.ok)(N n:Nat)(a:List Int)(b c d e f:Int)(g h:List Int):Z16.l0 R N (n+1) a b c d e f g h=(bif (decide (c<b)) then((qjS R n_Z8 o_Z8 [⟨yI,d⟩,⟨yI,e⟩,⟨yI,f⟩,⟨yL,g⟩,⟨yI,c⟩]).bind fun r9=>((qjS R n_Z26 o_Z26 [⟨yL,r9.1⟩,⟨yL,a⟩,⟨yI,d⟩]).bind fun r10=>((chk (decide ((List.length h+List.length [r10.1])*8≤70368744177664))).bind fun _=>(Z16.l0 R N n a b (w64 (c+1)) d e f g (h++[r10.1]))))) else some ⟨o_Z16,(h,())⟩):=(hw _ _).trans (by kernel_rfl)
theorem Z16.ev(R:Run)(N:Nat)(a0 a1 a2:Int)(a3 a4:List Int):qp8 E R sg_Z16 pol_Z16 F_Z16 N [⟨yI,a0⟩,⟨yI,a1⟩,⟨yI,a2⟩,⟨yL,a3⟩,⟨yL,a4⟩]=(Z16.l0 R N N a4 a1 (0:Int) a0 a1 a2 a3 ([]:List Int)):=by kernel_rfl
theorem Z55.ev(R:Run)(N:Nat)(a0:vK):qp8 E R sg_Z55 pol_Z55 F_Z55 N [⟨yK,a0⟩]=some ⟨o_Z55,((List.length a0:Int),())⟩:=by kernel_rfl
def Z6.l0(R:Run)(N n:Nat)(a b:Int)(e:vK)(f g:Int)(h:vK)(i j k:Int)(l:List Int)(m:vK):Option Dv:=R.w (some ⟨(zd 3 (.c (.d yI a)::(.c (.d yI b)::(V.dead::(.c (.box 6 0)::(zd 6 (.c (.box 13 0)::(.c (.arr 46)::(zd 20 (.c (.d yK e)::(.c (.d yI f)::(.c (.d yI g)::(zd 17 []))))))))))))),(zo 6 (some (.box [.d yK h] false false)::(zo 6 (some (.box [.d yI i,.d yI j,.d yI k,.d yL l] false false)::(zo 32 (some (.arr yL m true false false)::(zo 14 [])))))))⟩) fun st=>lC R pol_Z6 7 N [1,1,1,1,0,1,0,0] F_Z6 n st (kB R pol_Z6 0 (kS R pol_Z6 11 N [1,1,1,1,1] F_Z6 (qqA E sg_Z6 F_Z6)))
theorem Z6.l0_succ(R:Run)(hw:R.ok)(N n:Nat)(a b:Int)(c:vK)(d e:Int)(f:vK)(g h i:Int)(j:List Int)(k:vK):Z6.l0 R N (n+1) a b c d e f g h i j k=(bif (decide (e<d)) then((idx? c e).bind fun y15=>((qjS R n_Z16 o_Z16 [⟨yI,g⟩,⟨yI,h⟩,⟨yI,i⟩,⟨yL,j⟩,⟨yL,(y15,()).1⟩]).bind fun r16=>((chk (decide ((List.length k+List.length [r16.1])*24≤70368744177664))).bind fun _=>(Z6.l0 R N n a b c d (w64 (e+1)) f g h i j (k++[r16.1]))))) else((qjS R n_Z17 o_Z17 [⟨yK,f⟩,⟨yI,a⟩,⟨yI,b⟩]).bind fun r28=>((qjS R n_Z36 o_Z36 [⟨yI,r28.1⟩,⟨yI,r28.2.1⟩,⟨yK,r28.2.2.1⟩,⟨yK,k⟩]).bind fun r29=>((qjS R n_Z55 o_Z55 [⟨yK,r29.1⟩]).bind fun r30=>some ⟨o_Z6,(r30.1,(0:Int),())⟩)))):=(hw _ _).trans (by kernel_rfl)
theorem Z6.ev(R:Run)(N:Nat)(a0 a1:vK)(a2:List Int)(a3 a4:Int):qp8 E R sg_Z6 pol_Z6 F_Z6 N [⟨yK,a0⟩,⟨yK,a1⟩,⟨yL,a2⟩,⟨yI,a3⟩,⟨yI,a4⟩]=((qjS R n_Z20 o_Z20 [⟨yK,a0⟩,⟨yK,a1⟩,⟨yL,a2⟩,⟨yI,a3⟩,⟨yI,a4⟩,⟨yI,(1:Int)⟩]).bind fun r1=>(bif (r1.1 != (0:Int)) then some ⟨o_Z6,((0:Int),r1.1,())⟩ else((qjS R n_Z19 o_Z19 [⟨yK,a0⟩,⟨yK,a1⟩,⟨yL,a2⟩,⟨yI,a3⟩,⟨yI,a4⟩]).bind fun r2=>((qjS R n_Z34 o_Z34 [⟨yK,a0⟩,⟨yI,a3⟩,⟨yI,a4⟩]).bind fun r3=>(Z6.l0 R N N a3 a4 r3.1 (List.length r3.1:Int) (0:Int) a1 r2.1 r2.2.1 r2.2.2.1 r2.2.2.2.1 ([]:List (List Int))))))):=by kernel_rfl
theorem Z96.ev(R:Run)(N:Nat)(a0 a1 a2:Int):qp8 E R sg_Z96 pol_Z96 F_Z96 N [⟨yI,a0⟩,⟨yI,a1⟩,⟨yI,a2⟩]=(bif (decide (a0≥a1)) then some ⟨o_Z96,((decide (a0≤a2)),())⟩ else some ⟨o_Z96,(false,())⟩):=by kernel_rfl
def Z99.j1(R:Run)(N a:Nat)(b:List Int)(e f g:Int)(h:Bool):Option Dv:=R.w (some ⟨(.c (.d yL b)::(.c (.d yI e)::(.c (.d yI f)::(zd 4 (.c (.d yI g)::(zd 29 (.c (.d .bool h)::[]))))))),(zo 41 [])⟩) fun st=>eC R pol_Z99 N [1,0,1,0,0,1,0,0,1] F_Z99 st (kB R pol_Z99 1 (kS R pol_Z99 3 N [1,0,1,0,0,1,1] F_Z99 (kL R pol_Z99 2 N [1,0,1,0,0] F_Z99 a (kB R pol_Z99 0 (kS R pol_Z99 6 N [1,1] F_Z99 (qqA E sg_Z99 F_Z99))))))
def Z99.l0(R:Run)(N n:Nat)(a:List Int)(b e f:Int):Option Dv:=R.w (some ⟨(.c (.d yL a)::(.c (.d yI b)::(.c (.d yI e)::(zd 4 (.c (.d yI f)::(zd 30 [])))))),(zo 41 [])⟩) fun st=>lC R pol_Z99 2 N [1,0,1,0,0] F_Z99 n st (kB R pol_Z99 0 (kS R pol_Z99 6 N [1,1] F_Z99 (qqA E sg_Z99 F_Z99)))
theorem Z99.j1_eq(R:Run)(hw:R.ok)(N a:Nat)(b:List Int)(c d e:Int)(f:Bool):Z99.j1 R N a b c d e f=(bif f then some ⟨o_Z99,(false,())⟩ else(Z99.l0 R N a b c d (w64 (e+1)))):=(hw _ _).trans (by kernel_rfl)
theorem Z99.l0_succ(R:Run)(hw:R.ok)(N n:Nat)(a:List Int)(b c d:Int):Z99.l0 R N (n+1) a b c d=(bif (decide (d<(List.length a:Int))) then((idx? a d).bind fun y5=>((qjS R n_Z96 o_Z96 [⟨yI,(y5,()).1⟩,⟨yI,b⟩,⟨yI,c⟩]).bind fun r6=>(bif (!r6.1) then(Z99.j1 R N n a b c d true) else(bif (decide (d>(0:Int))) then((idx? a (w64 (d-1))).bind fun y16=>((idx? a d).bind fun y17=>(Z99.j1 R N n a b c d (decide ((y16,()).1≥(y17,()).1))))) else(Z99.j1 R N n a b c d false))))) else some ⟨o_Z99,(true,())⟩):=(hw _ _).trans (by kernel_rfl)
theorem Z99.ev(R:Run)(N:Nat)(a0:List Int)(a1 a2:Int):qp8 E R sg_Z99 pol_Z99 F_Z99 N [⟨yL,a0⟩,⟨yI,a1⟩,⟨yI,a2⟩]=(Z99.l0 R N N a0 a1 a2 (0:Int)):=by kernel_rfl
theorem Z125.ev(R:Run)(N:Nat)(a0:List Int):qp8 E R sg_Z125 pol_Z125 F_Z125 N [⟨yL,a0⟩]=((qjS R n_Z96 o_Z96 [⟨yI,(List.length a0:Int)⟩,⟨yI,(1:Int)⟩,⟨yI,(4:Int)⟩]).bind fun r1=>(bif r1.1 then((qjS R n_Z99 o_Z99 [⟨yL,a0⟩,⟨yI,(0:Int)⟩,⟨yI,(9:Int)⟩]).bind fun r2=>some ⟨o_Z125,(r2.1,())⟩) else some ⟨o_Z125,(false,())⟩)):=by kernel_rfl
def Z123.j3(R:Run)(N a b:Nat)(e:(vK×Unit))(f:Int)(g:List Int)(h:Int)(i:Bool):Option Dv:=R.w (some ⟨(.c (.ip yC e 0)::(V.dead::(V.dead::(.c (.d yI f)::(.c (.d yL g)::(.c (.d yI h)::(zd 50 (.c (.d .bool i)::(zd 8 []))))))))),(zo 66 [])⟩) fun st=>eC R pol_Z123 N [1,1,0,1,0,0,1,0,0,1,1,1,0,0,0,1] F_Z123 st (kS R pol_Z123 12 N [1,1,0,1,0,0,1,0,0,1,1,1,0,0,1] F_Z123 (kL R pol_Z123 10 N [1,1,0,1,0,0,1,0,0,1,1,1,0,0] F_Z123 b (kB R pol_Z123 2 (kB R pol_Z123 1 (q1_6 R N (q1_9 R N a (kB R pol_Z123 0 (q1_7 R N (qqA E sg_Z123 F_Z123)))))))))
def Z123.l2(R:Run)(N a n:Nat)(b:(vK×Unit))(e:Int)(f:List Int)(g:Int):Option Dv:=R.w (some ⟨(.c (.ip yC b 0)::(V.dead::(V.dead::(.c (.d yI e)::(.c (.d yL f)::(.c (.d yI g)::(zd 59 []))))))),(zo 66 [])⟩) fun st=>lC R pol_Z123 10 N [1,1,0,1,0,0,1,0,0,1,1,1,0,0] F_Z123 n st (kB R pol_Z123 2 (kB R pol_Z123 1 (q1_6 R N (q1_9 R N a (kB R pol_Z123 0 (q1_7 R N (qqA E sg_Z123 F_Z123)))))))
def Z123.j1(R:Run)(N a:Nat)(b:(vK×Unit))(e:Int)(f:List Int)(g:Bool):Option Dv:=R.w (some ⟨(.c (.ip yC b 0)::(V.dead::(V.dead::(.c (.d yI e)::(.c (.d yL f)::(zd 42 (.c (.d .bool g)::(zd 17 [])))))))),(zo 66 [])⟩) fun st=>eC R pol_Z123 N [1,1,0,1,0,0,1,0,0,1,0,1] F_Z123 st (kS R pol_Z123 9 N [1,1,0,1,0,0,1,0,0,1,1] F_Z123 (kB R pol_Z123 1 (q1_6 R N (q1_9 R N a (kB R pol_Z123 0 (q1_7 R N (qqA E sg_Z123 F_Z123)))))))
def Z123.l0(R:Run)(N n:Nat)(a:(vK×Unit))(b:Int):Option Dv:=R.w (some ⟨(.c (.ip yC a 0)::(V.dead::(V.dead::(.c (.d yI b)::(zd 61 []))))),(zo 66 [])⟩) fun st=>lC R pol_Z123 4 N [1,1,0,1,0,0] F_Z123 n st (kB R pol_Z123 0 (q1_7 R N (qqA E sg_Z123 F_Z123)))
theorem Z123.j3_eq(R:Run)(hw:R.ok)(N a b:Nat)(c:(vK×Unit))(d:Int)(e:List Int)(f:Int)(g:Bool):Z123.j3 R N a b c d e f g=(bif g then((qjS R n_Z119 o_Z119 [⟨yL,e⟩,⟨yI,f⟩]).bind fun r18=>((qjS R n_Z121 o_Z121 [⟨(.ptr yC),c⟩,⟨yL,r18.1⟩]).bind fun r19=>(bif (decide (r19.1<(0:Int))) then some ⟨o_Z123,(false,())⟩ else(Z123.l2 R N a b c d e (w64 (f+1)))))) else(Z123.l0 R N a c (w64 (d+1)))):=(hw _ _).trans (by kernel_rfl)
theorem Z123.l2_succ(R:Run)(hw:R.ok)(N a n:Nat)(b:(vK×Unit))(c:Int)(d:List Int)(e:Int):Z123.l2 R N a (n+1) b c d e=(bif (decide (e<(List.length d:Int))) then(Z123.j3 R N a n b c d e (decide ((List.length d:Int)>(1:Int)))) else(Z123.j3 R N a n b c d e false)):=(hw _ _).trans (by kernel_rfl)
theorem Z123.j1_eq(R:Run)(hw:R.ok)(N a:Nat)(b:(vK×Unit))(c:Int)(d:List Int)(e:Bool):Z123.j1 R N a b c d e=(bif e then some ⟨o_Z123,(false,())⟩ else(Z123.l2 R N a N b c d (0:Int))):=(hw _ _).trans (by kernel_rfl)
theorem Z123.l0_succ(R:Run)(hw:R.ok)(N n:Nat)(a:(vK×Unit))(b:Int):Z123.l0 R N (n+1) a b=(bif (decide (b<(List.length a.1:Int))) then((idx? a.1 b).bind fun y3=>((qjS R n_Z125 o_Z125 [⟨yL,(y3,()).1⟩]).bind fun r4=>(bif (!r4.1) then(Z123.j1 R N n a b ((y3,()).1) true) else(bif (decide (b>(0:Int))) then((idx? a.1 (w64 (b-1))).bind fun y31=>((qjS R n_Z113 o_Z113 [⟨yL,(y31,()).1⟩,⟨yL,(y3,()).1⟩]).bind fun r32=>(Z123.j1 R N n a b ((y3,()).1) (!r32.1)))) else(Z123.j1 R N n a b ((y3,()).1) false))))) else some ⟨o_Z123,(true,())⟩):=(hw _ _).trans (by kernel_rfl)
theorem Z123.ev(R:Run)(N:Nat)(a0:(vK×Unit)):qp8 E R sg_Z123 pol_Z123 F_Z123 N [⟨(.ptr yC),a0⟩]=(bif (decide ((List.length a0.1:Int)>(48:Int))) then some ⟨o_Z123,(false,())⟩ else(Z123.l0 R N N a0 (0:Int))):=by kernel_rfl
def Z105.l0(R:Run)(N n:Nat)(a b:Int):Option Dv:=R.w (some ⟨(.c (.d yI a)::(V.dead::(V.dead::(.c (.d yI b)::(zd 14 []))))),(zo 19 [])⟩) fun st=>lC R pol_Z105 4 N [1,1,0,1,0,0] F_Z105 n st (kB R pol_Z105 0 (kS R pol_Z105 8 N [1,1,1] F_Z105 (qqA E sg_Z105 F_Z105)))
theorem Z105.l0_succ(R:Run)(hw:R.ok)(N n:Nat)(a b:Int):Z105.l0 R N (n+1) a b=(bif (decide ((w64 (b*b))≤a)) then((chk (b != 0)).bind fun _=>(bif ((Int.tmod a b)==(0:Int)) then some ⟨o_Z105,(false,())⟩ else(Z105.l0 R N n a (w64 (b+1))))) else some ⟨o_Z105,(true,())⟩):=(hw _ _).trans (by kernel_rfl)
theorem Z105.ev(R:Run)(N:Nat)(a0:Int):qp8 E R sg_Z105 pol_Z105 F_Z105 N [⟨yI,a0⟩]=((qjS R n_Z96 o_Z96 [⟨yI,a0⟩,⟨yI,(2:Int)⟩,⟨yI,(251:Int)⟩]).bind fun r1=>(bif (!r1.1) then some ⟨o_Z105,(false,())⟩ else(Z105.l0 R N N a0 (2:Int)))):=by kernel_rfl
theorem Z93.ev(R:Run)(N:Nat)(a0:Int):qp8 E R sg_Z93 pol_Z93 F_Z93 N [⟨yI,a0⟩]=((qjS R n_Z105 o_Z105 [⟨yI,a0⟩]).bind fun r1=>some ⟨o_Z93,(r1.1,())⟩):=by kernel_rfl
theorem Z116.ev(R:Run)(N:Nat)(a0:Int):qp8 E R sg_Z116 pol_Z116 F_Z116 N [⟨yI,a0⟩]=((qjS R n_Z96 o_Z96 [⟨yI,a0⟩,⟨yI,(0:Int)⟩,⟨yI,(3:Int)⟩]).bind fun r1=>some ⟨o_Z116,(r1.1,())⟩):=by kernel_rfl
def Z122.l0(R:Run)(N n:Nat)(a:(vK×Unit))(b e:Int)(f:List Int):Option Dv:=R.w (some ⟨(.c (.ip yC a 0)::(.c (.d yI b)::(zd 3 (.c (.arr 7)::(.c (.d yI e)::(zd 26 [])))))),(zo 7 (some (.arr yI f true false false)::(zo 27 [])))⟩) fun st=>lC R pol_Z122 3 N [1,1,0,1,0,0] F_Z122 n st (kB R pol_Z122 0 (kS R pol_Z122 7 N [1,1,1] F_Z122 (qqA E sg_Z122 F_Z122)))
theorem Z122.l0_succ(R:Run)(hw:R.ok)(N n:Nat)(a:(vK×Unit))(b c:Int)(d:List Int):Z122.l0 R N (n+1) a b c d=(bif (decide (c<(List.length a.1:Int))) then((idx? a.1 c).bind fun y5=>(bif ((List.length (y5,()).1:Int)==(w64 (b+1))) then((chk (decide ((List.length d+List.length [c])*8≤70368744177664))).bind fun _=>(Z122.l0 R N n a b (w64 (c+1)) (d++[c]))) else(Z122.l0 R N n a b (w64 (c+1)) d))) else some ⟨o_Z122,(d,())⟩):=(hw _ _).trans (by kernel_rfl)
theorem Z122.ev(R:Run)(N:Nat)(a0:(vK×Unit))(a1:Int):qp8 E R sg_Z122 pol_Z122 F_Z122 N [⟨(.ptr yC),a0⟩,⟨yI,a1⟩]=(Z122.l0 R N N a0 a1 (0:Int) ([]:List Int)):=by kernel_rfl
def Z126.j1(R:Run)(N:Nat)(a:Bool):Option Dv:=R.w (some ⟨(zd 38 (.c (.d .bool a)::[])),(zo 42 [])⟩) fun st=>eC R pol_Z126 N [1,1,1,0,1] F_Z126 st (kS R pol_Z126 7 N [1,1,1,1] F_Z126 (qqA E sg_Z126 F_Z126))
def Z126.j0(R:Run)(N:Nat)(a:(vK×Unit))(b:Int)(e:Bool):Option Dv:=R.w (some ⟨(.c (.ip yC a 0)::(.c (.d yI b)::(zd 12 (.c (.d .bool e)::(zd 24 []))))),(zo 42 [])⟩) fun st=>eC R pol_Z126 N [1,0,1] F_Z126 st (kS R pol_Z126 3 N [1,1] F_Z126 (qqA E sg_Z126 F_Z126))
theorem Z126.j1_eq(R:Run)(hw:R.ok)(N:Nat)(a:Bool):Z126.j1 R N a=(bif a then some ⟨o_Z126,((5:Int),())⟩ else some ⟨o_Z126,((0:Int),())⟩):=(hw _ _).trans (by kernel_rfl)
theorem Z126.j0_eq(R:Run)(hw:R.ok)(N:Nat)(a:(vK×Unit))(b:Int)(c:Bool):Z126.j0 R N a b c=(bif c then some ⟨o_Z126,((1:Int),())⟩ else((qjS R n_Z116 o_Z116 [⟨yI,b⟩]).bind fun r5=>(bif (!r5.1) then some ⟨o_Z126,((2:Int),())⟩ else((qjS R n_Z122 o_Z122 [⟨(.ptr yC),a⟩,⟨yI,b⟩]).bind fun r6=>(bif (decide ((List.length r6.1:Int)>(32:Int))) then(Z126.j1 R N true) else((qjS R n_Z122 o_Z122 [⟨(.ptr yC),a⟩,⟨yI,(w64 (b-1))⟩]).bind fun r8=>(bif (decide ((List.length r8.1:Int)>(32:Int))) then(Z126.j1 R N true) else((qjS R n_Z122 o_Z122 [⟨(.ptr yC),a⟩,⟨yI,(w64 (b+1))⟩]).bind fun r10=>(Z126.j1 R N (decide ((List.length r10.1:Int)>(32:Int)))))))))))):=(hw _ _).trans (by kernel_rfl)
theorem Z126.ev(R:Run)(N:Nat)(a0:(vK×Unit))(a1 a2:Int):qp8 E R sg_Z126 pol_Z126 F_Z126 N [⟨(.ptr yC),a0⟩,⟨yI,a1⟩,⟨yI,a2⟩]=((qjS R n_Z123 o_Z123 [⟨(.ptr yC),a0⟩]).bind fun r1=>(bif (!r1.1) then(Z126.j0 R N a0 a1 true) else((qjS R n_Z93 o_Z93 [⟨yI,a2⟩]).bind fun r12=>(Z126.j0 R N a0 a1 (!r12.1))))):=by kernel_rfl
theorem Z112.ev(R:Run)(N:Nat)(a0 a1 a2:Int):qp8 E R sg_Z112 pol_Z112 F_Z112 N [⟨yI,a0⟩,⟨yI,a1⟩,⟨yI,a2⟩]=((chk (decide (0≤(w64 (a1*a2)))&&decide ((w64 (a1*a2))*8≤70368744177664))).bind fun _=>some ⟨o_Z112,(a0,a1,a2,(List.replicate (Int.toNat (w64 (a1*a2))) (0:Int)),())⟩):=by kernel_rfl
def Z120.j1(R:Run)(N a:Nat)(b:(vK×Unit))(e:List Int)(f:Int)(g:Bool)(h:List Int):Option Dv:=R.w (some ⟨(.c (.ip yC b 0)::(zd 4 (.c (.d yL e)::(.c (.arr 15)::(.c (.d yI f)::(zd 16 (.c (.d .bool g)::(zd 11 [])))))))),(zo 15 (some (.arr yI h true false false)::(zo 22 [])))⟩) fun st=>eC R pol_Z120 N [1,1,1,0,1,0,0,0,1] F_Z120 st (kS R pol_Z120 6 N [1,1,1,0,1,0,0,1] F_Z120 (kL R pol_Z120 4 N [1,1,1,0,1,0,0] F_Z120 a (kB R pol_Z120 0 (kS R pol_Z120 7 N [1,1,1,1] F_Z120 (qqA E sg_Z120 F_Z120)))))
def Z120.l0(R:Run)(N n:Nat)(a:(vK×Unit))(b:List Int)(e:Int)(f:List Int):Option Dv:=R.w (some ⟨(.c (.ip yC a 0)::(zd 4 (.c (.d yL b)::(.c (.arr 15)::(.c (.d yI e)::(zd 28 [])))))),(zo 15 (some (.arr yI f true false false)::(zo 22 [])))⟩) fun st=>lC R pol_Z120 4 N [1,1,1,0,1,0,0] F_Z120 n st (kB R pol_Z120 0 (kS R pol_Z120 7 N [1,1,1,1] F_Z120 (qqA E sg_Z120 F_Z120)))
theorem Z120.j1_eq(R:Run)(hw:R.ok)(N a:Nat)(b:(vK×Unit))(c:List Int)(d:Int)(e:Bool)(f:List Int):Z120.j1 R N a b c d e f=(bif e then((qjS R n_Z119 o_Z119 [⟨yL,c⟩,⟨yI,d⟩]).bind fun r11=>((qjS R n_Z121 o_Z121 [⟨(.ptr yC),b⟩,⟨yL,r11.1⟩]).bind fun r12=>((chk (decide ((List.length f+List.length [r12.1])*8≤70368744177664))).bind fun _=>(Z120.l0 R N a b c (w64 (d+1)) (f++[r12.1]))))) else some ⟨o_Z120,(f,())⟩):=(hw _ _).trans (by kernel_rfl)
theorem Z120.l0_succ(R:Run)(hw:R.ok)(N n:Nat)(a:(vK×Unit))(b:List Int)(c:Int)(d:List Int):Z120.l0 R N (n+1) a b c d=(bif (decide (c<(List.length b:Int))) then(Z120.j1 R N n a b c (decide ((List.length b:Int)>(1:Int))) d) else(Z120.j1 R N n a b c false d)):=(hw _ _).trans (by kernel_rfl)
theorem Z120.ev(R:Run)(N:Nat)(a0:(vK×Unit))(a1:Int):qp8 E R sg_Z120 pol_Z120 F_Z120 N [⟨(.ptr yC),a0⟩,⟨yI,a1⟩]=((idx? a0.1 a1).bind fun y1=>(Z120.l0 R N N a0 ((y1,()).1) (0:Int) ([]:List Int))):=by kernel_rfl
theorem Z131.ev(R:Run)(N:Nat)(a0 a1:Int):qp8 E R sg_Z131 pol_Z131 F_Z131 N [⟨yI,a0⟩,⟨yI,a1⟩]=(bif ((Int.tmod a0 (2:Int))==(0:Int)) then((chk (a1 != 0)).bind fun _=>some ⟨o_Z131,((Int.tmod (1:Int) a1),())⟩) else some ⟨o_Z131,((w64 (a1-1)),())⟩):=by kernel_rfl
end
end VeT

open Go Go.Proofs Ve
set_option maxRecDepth 100000
namespace VeT
noncomputable section
abbrev q2_0(R:Run)(N:Nat):=kS R pol_Z128 12 N [1,1,1,1,1] F_Z128
abbrev q2_1(R:Run)(N:Nat):=kS R pol_Z110 31 N [1,1,1,1,1,1,1,0,1,0,0,1,0,0,1,1,1,1,1,1,1,1,0,1,0,0,1,1] F_Z110
abbrev q2_2(R:Run)(N:Nat):=kS R pol_Z110 38 N [1,1,1,1,1,1,1,0,1,0,0,1,0,0,1,1,1,1,1,1,1,1,1] F_Z110
abbrev q2_3(R:Run)(N:Nat):=kS R pol_Z110 9 N [1,1,1,1,1,1,1,0,1,0,0,1,1] F_Z110
abbrev q2_4(R:Run)(N:Nat):=kS R pol_Z110 40 N [1,1,1,1,1,1,1,1] F_Z110
abbrev q2_5(R:Run)(N:Nat):=kS R pol_Z110 13 N [1,1,1,1,1,1,1,0,1,0,0,1,0,0,1,1] F_Z110
abbrev q2_6(R:Run)(N:Nat):=kL R pol_Z110 30 N [1,1,1,1,1,1,1,0,1,0,0,1,0,0,1,1,1,1,1,1,1,1,0,1,0,0] F_Z110
abbrev q2_7(R:Run)(N:Nat):=kL R pol_Z110 8 N [1,1,1,1,1,1,1,0,1,0,0] F_Z110
abbrev q2_8(R:Run):=kB R pol_Z110 1
abbrev q2_9(R:Run):=kB R pol_Z110 0
def Z128.l2(R:Run)(N a n:Nat)(b:(vK×Unit))(e f:Int)(g h:List Int)(i:Int)(j:List Int)(k l m o p q r:Int)(s:List Int):Option Dv:=R.w (some ⟨(.c (.ip yC b 0)::(.c (.d yI e)::(.c (.d yI f)::(zd 3 (.c (.box 6 0)::(.c (.d yL g)::(.c (.d yL h)::(.c (.box 9 0)::(.c (.d yI i)::(.c (.d yL j)::(.c (.d yI k)::(zd 55 [])))))))))))),(zo 6 (some (.box [.d yI l,.d yI m,.d yI o,.nils yI] false false)::(none::(none::(some (.box [.d yI p,.d yI q,.d yI r,.arr 71] false false)::(zo 61 (some (.arr yI s true false false)::[])))))))⟩) fun st=>lC R pol_Z128 9 N [1,1,1,1,0,1,0,0,1,0,0,1,1,0,0] F_Z128 n st (kB R pol_Z128 2 (kB R pol_Z128 1 (kS R pol_Z128 6 N [1,1,1,1,0,1,0,0,1,1] F_Z128 (kL R pol_Z128 5 N [1,1,1,1,0,1,0,0] F_Z128 a (kB R pol_Z128 0 (q2_0 R N (qqA E sg_Z128 F_Z128)))))))
def Z128.j1(R:Run)(N a:Nat)(b:(vK×Unit))(e f:Int)(g h:List Int)(i:Int)(j:Bool)(k l m o p q:Int)(r:List Int):Option Dv:=R.w (some ⟨(.c (.ip yC b 0)::(.c (.d yI e)::(.c (.d yI f)::(zd 3 (.c (.box 6 0)::(.c (.d yL g)::(.c (.d yL h)::(.c (.box 9 0)::(.c (.d yI i)::(zd 22 (.c (.d .bool j)::(zd 34 [])))))))))))),(zo 6 (some (.box [.d yI k,.d yI l,.d yI m,.nils yI] false false)::(none::(none::(some (.box [.d yI o,.d yI p,.d yI q,.arr 71] false false)::(zo 61 (some (.arr yI r true false false)::[])))))))⟩) fun st=>eC R pol_Z128 N [1,1,1,1,0,1,0,0,0,1] F_Z128 st (kS R pol_Z128 7 N [1,1,1,1,0,1,0,0,1] F_Z128 (kL R pol_Z128 5 N [1,1,1,1,0,1,0,0] F_Z128 a (kB R pol_Z128 0 (q2_0 R N (qqA E sg_Z128 F_Z128)))))
def Z128.l0(R:Run)(N n:Nat)(a:(vK×Unit))(b e:Int)(f g:List Int)(h i j k l m o:Int)(p:List Int):Option Dv:=R.w (some ⟨(.c (.ip yC a 0)::(.c (.d yI b)::(.c (.d yI e)::(zd 3 (.c (.box 6 0)::(.c (.d yL f)::(.c (.d yL g)::(.c (.box 9 0)::(.c (.d yI h)::(zd 57 [])))))))))),(zo 6 (some (.box [.d yI i,.d yI j,.d yI k,.nils yI] false false)::(none::(none::(some (.box [.d yI l,.d yI m,.d yI o,.arr 71] false false)::(zo 61 (some (.arr yI p true false false)::[])))))))⟩) fun st=>lC R pol_Z128 5 N [1,1,1,1,0,1,0,0] F_Z128 n st (kB R pol_Z128 0 (q2_0 R N (qqA E sg_Z128 F_Z128)))
theorem Z128.l2_succ(R:Run)(hw:R.ok)(N a n:Nat)(b:(vK×Unit))(c d:Int)(e f:List Int)(g:Int)(h:List Int)(i j k l m o p:Int)(q:List Int):Z128.l2 R N a (n+1) b c d e f g h i j k l m o p q=(bif (decide (i<(List.length h:Int))) then((idx? h i).bind fun y48=>((idx? f (0:Int)).bind fun y49=>((qjS R n_Z131 o_Z131 [⟨yI,i⟩,⟨yI,d⟩]).bind fun r50=>((chk (decide (0≤(w64 ((w64 ((w64 ((y48,()).1-(y49,()).1))*p))+g)))&&decide ((w64 ((w64 ((w64 ((y48,()).1-(y49,()).1))*p))+g))<(List.length q:Int)))).bind fun _=>(Z128.l2 R N a n b c d e f g h (w64 (i+1)) j k l m o p (List.set q (Int.toNat (w64 ((w64 ((w64 ((y48,()).1-(y49,()).1))*p))+g))) r50.1)))))) else(Z128.l0 R N a b c d e f (w64 (g+1)) j k l m o p q)):=(hw _ _).trans (by kernel_rfl)
theorem Z128.j1_eq(R:Run)(hw:R.ok)(N a:Nat)(b:(vK×Unit))(c d:Int)(e f:List Int)(g:Int)(h:Bool)(i j k l m o:Int)(p:List Int):Z128.j1 R N a b c d e f g h i j k l m o p=(bif h then((idx? e g).bind fun y31=>((qjS R n_Z120 o_Z120 [⟨(.ptr yC),b⟩,⟨yI,(y31,()).1⟩]).bind fun r32=>(Z128.l2 R N a N b c d e f g r32.1 (0:Int) i j k l m o p))) else some ⟨o_Z128,(l,m,o,p,())⟩):=(hw _ _).trans (by kernel_rfl)
theorem Z128.l0_succ(R:Run)(hw:R.ok)(N n:Nat)(a:(vK×Unit))(b c:Int)(d e:List Int)(f g h i j k l:Int)(m:List Int):Z128.l0 R N (n+1) a b c d e f g h i j k l m=(bif (decide (f<(List.length d:Int))) then(Z128.j1 R N n a b c d e f (decide (b>(0:Int))) g h i j k l m) else(Z128.j1 R N n a b c d e f false g h i j k l m)):=(hw _ _).trans (by kernel_rfl)
theorem Z128.ev(R:Run)(N:Nat)(a0:(vK×Unit))(a1 a2:Int):qp8 E R sg_Z128 pol_Z128 F_Z128 N [⟨(.ptr yC),a0⟩,⟨yI,a1⟩,⟨yI,a2⟩]=((qjS R n_Z122 o_Z122 [⟨(.ptr yC),a0⟩,⟨yI,a1⟩]).bind fun r1=>((qjS R n_Z122 o_Z122 [⟨(.ptr yC),a0⟩,⟨yI,(w64 (a1-1))⟩]).bind fun r2=>((qjS R n_Z112 o_Z112 [⟨yI,a2⟩,⟨yI,(List.length r2.1:Int)⟩,⟨yI,(List.length r1.1:Int)⟩]).bind fun r3=>(Z128.l0 R N N a0 a1 a2 r1.1 r2.1 (0:Int) (0:Int) (0:Int) (0:Int) r3.1 r3.2.1 r3.2.2.1 r3.2.2.2.1)))):=by kernel_rfl
def Z106.l0(R:Run)(N n:Nat)(a b e f:Int):Option Dv:=R.w (some ⟨(.c (.d yI a)::(.c (.d yI b)::(zd 3 (.c (.d yI e)::(.c (.d yI f)::(zd 12 [])))))),(zo 21 [])⟩) fun st=>lC R pol_Z106 3 N [1,1,0,1,0,0] F_Z106 n st (kB R pol_Z106 0 (kS R pol_Z106 6 N [1,1,1] F_Z106 (qqA E sg_Z106 F_Z106)))
theorem Z106.l0_succ(R:Run)(hw:R.ok)(N n:Nat)(a b c d:Int):Z106.l0 R N (n+1) a b c d=(bif (decide (d>(0:Int))) then((chk (b != 0)).bind fun _=>(Z106.l0 R N n a b (Int.tmod (w64 (c*a)) b) (w64 (d-1)))) else some ⟨o_Z106,(c,())⟩):=(hw _ _).trans (by kernel_rfl)
theorem Z106.ev(R:Run)(N:Nat)(a0 a1:Int):qp8 E R sg_Z106 pol_Z106 F_Z106 N [⟨yI,a0⟩,⟨yI,a1⟩]=(Z106.l0 R N N a0 a1 (1:Int) (w64 (a1-(2:Int)))):=by kernel_rfl
theorem Z109.ev(R:Run)(N:Nat)(a0 a1:Int):qp8 E R sg_Z109 pol_Z109 F_Z109 N [⟨yI,a0⟩,⟨yI,a1⟩]=((chk (a1 != 0)).bind fun _=>((chk (a1 != 0)).bind fun _=>some ⟨o_Z109,((Int.tmod (w64 ((Int.tmod a0 a1)+a1)) a1),())⟩)):=by kernel_rfl
def Z110.l10(R:Run)(N a b n:Nat)(e:vM)(f g h i j k l m o p q r s t:Int)(u v:List Int):Option Dv:=R.w (some ⟨(.c (.ip yM e 0)::(V.dead::(.c (.box 2 0)::(V.dead::(V.dead::(.c (.box 5 0)::(.c (.d yI f)::(.c (.d yI g)::(.c (.arr 47)::(.c (.d yI h)::(.c (.d yI i)::(.c (.d yI j)::(zd 6 (.c (.d yI k)::(.c (.d yI l)::(.c (.d yI m)::(zd 225 []))))))))))))))))),(none::(none::(some (.box [.d yI o,.d yI p,.d yI q,.nils yI] false false)::(none::(none::(some (.box [.d yI r,.d yI s,.d yI t,.arr 247] false false)::(zo 41 (some (.arr yI u true false false)::(zo 199 (some (.arr yI v true false false)::[]))))))))))⟩) fun st=>lC R pol_Z110 35 N [1,1,1,1,1,1,1,0,1,0,0,1,0,0,1,1,1,1,1,1,1,1,0,1,0,0,1,0,0,1,1,1,0,0] F_Z110 n st (kB R pol_Z110 10 (kB R pol_Z110 9 (q2_1 R N (q2_6 R N b (kB R pol_Z110 8 (q2_2 R N (q2_8 R (q2_3 R N (q2_7 R N a (q2_9 R (q2_4 R N (qqA E sg_Z110 F_Z110))))))))))))
def Z110.j9(R:Run)(N a b:Nat)(e:vM)(f g h i j k l:Int)(m:Bool)(o p q r s t:Int)(u v:List Int):Option Dv:=R.w (some ⟨(.c (.ip yM e 0)::(V.dead::(.c (.box 2 0)::(V.dead::(V.dead::(.c (.box 5 0)::(.c (.d yI f)::(.c (.d yI g)::(.c (.arr 47)::(.c (.d yI h)::(.c (.d yI i)::(.c (.d yI j)::(zd 6 (.c (.d yI k)::(.c (.d yI l)::(zd 180 (.c (.d .bool m)::(zd 45 [])))))))))))))))))),(none::(none::(some (.box [.d yI o,.d yI p,.d yI q,.nils yI] false false)::(none::(none::(some (.box [.d yI r,.d yI s,.d yI t,.arr 247] false false)::(zo 41 (some (.arr yI u true false false)::(zo 199 (some (.arr yI v true false false)::[]))))))))))⟩) fun st=>eC R pol_Z110 N [1,1,1,1,1,1,1,0,1,0,0,1,0,0,1,1,1,1,1,1,1,1,0,1,0,0,1,0,0,1,0,1] F_Z110 st (kS R pol_Z110 34 N [1,1,1,1,1,1,1,0,1,0,0,1,0,0,1,1,1,1,1,1,1,1,0,1,0,0,1,0,0,1,1] F_Z110 (kB R pol_Z110 9 (q2_1 R N (q2_6 R N b (kB R pol_Z110 8 (q2_2 R N (q2_8 R (q2_3 R N (q2_7 R N a (q2_9 R (q2_4 R N (qqA E sg_Z110 F_Z110))))))))))))
def Z110.l8(R:Run)(N a n:Nat)(b:vM)(e f g h i j k l m o p q:Int)(r s:List Int):Option Dv:=R.w (some ⟨(.c (.ip yM b 0)::(V.dead::(.c (.box 2 0)::(V.dead::(V.dead::(.c (.box 5 0)::(.c (.d yI e)::(.c (.d yI f)::(.c (.arr 47)::(.c (.d yI g)::(.c (.d yI h)::(.c (.d yI i)::(zd 6 (.c (.d yI j)::(zd 227 []))))))))))))))),(none::(none::(some (.box [.d yI k,.d yI l,.d yI m,.nils yI] false false)::(none::(none::(some (.box [.d yI o,.d yI p,.d yI q,.arr 247] false false)::(zo 41 (some (.arr yI r true false false)::(zo 199 (some (.arr yI s true false false)::[]))))))))))⟩) fun st=>lC R pol_Z110 30 N [1,1,1,1,1,1,1,0,1,0,0,1,0,0,1,1,1,1,1,1,1,1,0,1,0,0] F_Z110 n st (kB R pol_Z110 8 (q2_2 R N (q2_8 R (q2_3 R N (q2_7 R N a (q2_9 R (q2_4 R N (qqA E sg_Z110 F_Z110))))))))
def Z110.l7(R:Run)(N a n:Nat)(b:vM)(e f g h i j k l m o p q r:Int)(s t:List Int):Option Dv:=R.w (some ⟨(.c (.ip yM b 0)::(V.dead::(.c (.box 2 0)::(V.dead::(V.dead::(.c (.box 5 0)::(.c (.d yI e)::(.c (.d yI f)::(.c (.arr 47)::(.c (.d yI g)::(.c (.d yI h)::(.c (.d yI i)::(zd 4 (.c (.d yI j)::(.c (.d yI k)::(zd 228 [])))))))))))))))),(none::(none::(some (.box [.d yI l,.d yI m,.d yI o,.nils yI] false false)::(none::(none::(some (.box [.d yI p,.d yI q,.d yI r,.arr 247] false false)::(zo 41 (some (.arr yI s true false false)::(zo 199 (some (.arr yI t true false false)::[]))))))))))⟩) fun st=>lC R pol_Z110 26 N [1,1,1,1,1,1,1,0,1,0,0,1,0,0,1,1,1,1,1,1,1,0,1,0,0] F_Z110 n st (kB R pol_Z110 6 (kS R pol_Z110 29 N [1,1,1,1,1,1,1,0,1,0,0,1,0,0,1,1,1,1,1,1,1,1] F_Z110 (q2_8 R (q2_3 R N (q2_7 R N a (q2_9 R (q2_4 R N (qqA E sg_Z110 F_Z110))))))))
def Z110.j6(R:Run)(N a:Nat)(b:vM)(e f g h i j k l m o p:Int)(q r:List Int):Option Dv:=R.w (some ⟨(.c (.ip yM b 0)::(V.dead::(.c (.box 2 0)::(V.dead::(V.dead::(.c (.box 5 0)::(.c (.d yI e)::(.c (.d yI f)::(.c (.arr 47)::(.c (.d yI g)::(.c (.d yI h)::(.c (.d yI i)::(zd 234 []))))))))))))),(none::(none::(some (.box [.d yI j,.d yI k,.d yI l,.nils yI] false false)::(none::(none::(some (.box [.d yI m,.d yI o,.d yI p,.arr 247] false false)::(zo 41 (some (.arr yI q true false false)::(zo 199 (some (.arr yI r true false false)::[]))))))))))⟩) fun st=>eC R pol_Z110 N [1,1,1,1,1,1,1,0,1,0,0,1,0,0,1,1,1,1] F_Z110 st (q2_8 R (q2_3 R N (q2_7 R N a (q2_9 R (q2_4 R N (qqA E sg_Z110 F_Z110))))))
def Z110.l5(R:Run)(N a n:Nat)(b:vM)(e f g h i j k l m o p q r:Int)(s t:List Int):Option Dv:=R.w (some ⟨(.c (.ip yM b 0)::(V.dead::(.c (.box 2 0)::(V.dead::(V.dead::(.c (.box 5 0)::(.c (.d yI e)::(.c (.d yI f)::(.c (.arr 47)::(.c (.d yI g)::(.c (.d yI h)::(.c (.d yI i)::(.c (.d yI j)::(.c (.d yI k)::(zd 232 []))))))))))))))),(none::(none::(some (.box [.d yI l,.d yI m,.d yI o,.nils yI] false false)::(none::(none::(some (.box [.d yI p,.d yI q,.d yI r,.arr 247] false false)::(zo 41 (some (.arr yI s true false false)::(zo 199 (some (.arr yI t true false false)::[]))))))))))⟩) fun st=>lC R pol_Z110 17 N [1,1,1,1,1,1,1,0,1,0,0,1,0,0,1,1,1,0,1,0,1,1,0,0] F_Z110 n st (kB R pol_Z110 4 (kS R pol_Z110 22 N [1,1,1,1,1,1,1,0,1,0,0,1,0,0,1,1,1,1] F_Z110 (q2_8 R (q2_3 R N (q2_7 R N a (q2_9 R (q2_4 R N (qqA E sg_Z110 F_Z110))))))))
def Z110.j4(R:Run)(N a b:Nat)(e:vM)(f g h i j k:Int)(l:Bool)(m o p q r s:Int)(t u:List Int):Option Dv:=R.w (some ⟨(.c (.ip yM e 0)::(V.dead::(.c (.box 2 0)::(V.dead::(V.dead::(.c (.box 5 0)::(.c (.d yI f)::(.c (.d yI g)::(.c (.arr 47)::(.c (.d yI h)::(.c (.d yI i)::(.c (.d yI j)::(.c (.d yI k)::(zd 66 (.c (.d .bool l)::(zd 166 [])))))))))))))))),(none::(none::(some (.box [.d yI m,.d yI o,.d yI p,.nils yI] false false)::(none::(none::(some (.box [.d yI q,.d yI r,.d yI s,.arr 247] false false)::(zo 41 (some (.arr yI t true false false)::(zo 199 (some (.arr yI u true false false)::[]))))))))))⟩) fun st=>eC R pol_Z110 N [1,1,1,1,1,1,1,0,1,0,0,1,0,0,1,0,0,0,0,1] F_Z110 st (kS R pol_Z110 12 N [1,1,1,1,1,1,1,0,1,0,0,1,0,0,1,0,0,0,1] F_Z110 (kL R pol_Z110 11 N [1,1,1,1,1,1,1,0,1,0,0,1,0,0,1,0,0,0] F_Z110 b (kB R pol_Z110 2 (q2_5 R N (q2_8 R (q2_3 R N (q2_7 R N a (q2_9 R (q2_4 R N (qqA E sg_Z110 F_Z110))))))))))
def Z110.l3(R:Run)(N a n:Nat)(b:vM)(e f g h i j k l m o p q:Int)(r s:List Int):Option Dv:=R.w (some ⟨(.c (.ip yM b 0)::(V.dead::(.c (.box 2 0)::(V.dead::(V.dead::(.c (.box 5 0)::(.c (.d yI e)::(.c (.d yI f)::(.c (.arr 47)::(.c (.d yI g)::(.c (.d yI h)::(.c (.d yI i)::(.c (.d yI j)::(zd 233 [])))))))))))))),(none::(none::(some (.box [.d yI k,.d yI l,.d yI m,.nils yI] false false)::(none::(none::(some (.box [.d yI o,.d yI p,.d yI q,.arr 247] false false)::(zo 41 (some (.arr yI r true false false)::(zo 199 (some (.arr yI s true false false)::[]))))))))))⟩) fun st=>lC R pol_Z110 11 N [1,1,1,1,1,1,1,0,1,0,0,1,0,0,1,0,0,0] F_Z110 n st (kB R pol_Z110 2 (q2_5 R N (q2_8 R (q2_3 R N (q2_7 R N a (q2_9 R (q2_4 R N (qqA E sg_Z110 F_Z110))))))))
def Z110.j2(R:Run)(N a:Nat)(b:vM)(e f g h i:Int)(j:Bool)(k l m o p q:Int)(r s:List Int):Option Dv:=R.w (some ⟨(.c (.ip yM b 0)::(V.dead::(.c (.box 2 0)::(V.dead::(V.dead::(.c (.box 5 0)::(.c (.d yI e)::(.c (.d yI f)::(.c (.arr 47)::(.c (.d yI g)::(.c (.d yI h)::(.c (.d yI i)::(zd 46 (.c (.d .bool j)::(zd 187 []))))))))))))))),(none::(none::(some (.box [.d yI k,.d yI l,.d yI m,.nils yI] false false)::(none::(none::(some (.box [.d yI o,.d yI p,.d yI q,.arr 247] false false)::(zo 41 (some (.arr yI r true false false)::(zo 199 (some (.arr yI s true false false)::[]))))))))))⟩) fun st=>eC R pol_Z110 N [1,1,1,1,1,1,1,0,1,0,0,0,1] F_Z110 st (kS R pol_Z110 10 N [1,1,1,1,1,1,1,0,1,0,0,1] F_Z110 (q2_7 R N a (q2_9 R (q2_4 R N (qqA E sg_Z110 F_Z110)))))
def Z110.l1(R:Run)(N n:Nat)(a:vM)(b e f g h i j k l m o:Int)(p q:List Int):Option Dv:=R.w (some ⟨(.c (.ip yM a 0)::(V.dead::(.c (.box 2 0)::(V.dead::(V.dead::(.c (.box 5 0)::(.c (.d yI b)::(.c (.d yI e)::(.c (.arr 47)::(.c (.d yI f)::(.c (.d yI g)::(.c (.d yI h)::(zd 234 []))))))))))))),(none::(none::(some (.box [.d yI i,.d yI j,.d yI k,.nils yI] false false)::(none::(none::(some (.box [.d yI l,.d yI m,.d yI o,.arr 247] false false)::(zo 41 (some (.arr yI p true false false)::(zo 199 (some (.arr yI q true false false)::[]))))))))))⟩) fun st=>lC R pol_Z110 8 N [1,1,1,1,1,1,1,0,1,0,0] F_Z110 n st (q2_9 R (q2_4 R N (qqA E sg_Z110 F_Z110)))
def Z110.j0(R:Run)(N:Nat)(a:vM)(b e f g h i:Int)(j:List Int):Option Dv:=R.w (some ⟨(.c (.ip yM a 0)::(V.dead::(.c (.box 2 0)::(V.dead::(V.dead::(.c (.box 5 0)::(zd 240 []))))))),(none::(none::(some (.box [.d yI b,.d yI e,.d yI f,.nils yI] false false)::(none::(none::(some (.box [.d yI g,.d yI h,.d yI i,.arr 247] false false)::(zo 241 (some (.arr yI j true false false)::[]))))))))⟩) fun st=>eC R pol_Z110 N [1,1] F_Z110 st (qqA E sg_Z110 F_Z110)
theorem Z110.l10_succ(R:Run)(hw:R.ok)(N a b n:Nat)(c:vM)(d e f g h i j k l m o p q r:Int)(s t:List Int):Z110.l10 R N a b (n+1) c d e f g h i j k l m o p q r s t=(bif (decide (k<e)) then((chk (decide (0≤(w64 ((w64 (i*e))+k)))&&decide ((w64 ((w64 (i*e))+k))<(List.length t:Int)))).bind fun _=>(Option.bind (t)[(Int.toNat (w64 ((w64 (i*e))+k)))]? fun y248=>((chk (decide (0≤(w64 ((w64 (g*e))+k)))&&decide ((w64 ((w64 (g*e))+k))<(List.length t:Int)))).bind fun _=>(Option.bind (t)[(Int.toNat (w64 ((w64 (g*e))+k)))]? fun y249=>((qjS R n_Z109 o_Z109 [⟨yI,(w64 (y248-(w64 (j*y249))))⟩,⟨yI,d⟩]).bind fun r250=>((chk (decide (0≤(w64 ((w64 (i*e))+k)))&&decide ((w64 ((w64 (i*e))+k))<(List.length t:Int)))).bind fun _=>(Z110.l10 R N a b n c d e f g h i j (w64 (k+1)) l m o p q r s (List.set t (Int.toNat (w64 ((w64 (i*e))+k))) r250.1)))))))) else(Z110.l8 R N a b c d e f g h (w64 (i+1)) l m o p q r s t)):=(hw _ _).trans (by kernel_rfl)
theorem Z110.j9_eq(R:Run)(hw:R.ok)(N a b:Nat)(c:vM)(d e f g h i j:Int)(k:Bool)(l m o p q r:Int)(s t:List Int):Z110.j9 R N a b c d e f g h i j k l m o p q r s t=(bif k then(Z110.l8 R N a b c d e f g h (w64 (i+1)) l m o p q r s t) else(Z110.l10 R N a b N c d e f g h i j (0:Int) l m o p q r s t)):=(hw _ _).trans (by kernel_rfl)
theorem Z110.l8_succ(R:Run)(hw:R.ok)(N a n:Nat)(b:vM)(c d e f g h i j k l m o:Int)(p q:List Int):Z110.l8 R N a (n+1) b c d e f g h i j k l m o p q=(bif (decide (h<b.2.1)) then((chk (decide (0≤(w64 ((w64 (h*d))+g)))&&decide ((w64 ((w64 (h*d))+g))<(List.length q:Int)))).bind fun _=>(Option.bind (q)[(Int.toNat (w64 ((w64 (h*d))+g)))]? fun y198=>(bif (h==f) then(Z110.j9 R N a n b c d e f g h y198 true i j k l m o p q) else(Z110.j9 R N a n b c d e f g h y198 (y198==(0:Int)) i j k l m o p q)))) else((chk (decide ((List.length p+List.length [g])*8≤70368744177664))).bind fun _=>(Z110.l1 R N a b c d e (w64 (f+1)) (w64 (g+1)) i j k l m o (p++[g]) q))):=(hw _ _).trans (by kernel_rfl)
theorem Z110.l7_succ(R:Run)(hw:R.ok)(N a n:Nat)(b:vM)(c d e f g h i j k l m o p:Int)(q r:List Int):Z110.l7 R N a (n+1) b c d e f g h i j k l m o p q r=(bif (decide (i<d)) then((chk (decide (0≤(w64 ((w64 (f*d))+i)))&&decide ((w64 ((w64 (f*d))+i))<(List.length r:Int)))).bind fun _=>(Option.bind (r)[(Int.toNat (w64 ((w64 (f*d))+i)))]? fun y166=>((chk (c != 0)).bind fun _=>((chk (decide (0≤(w64 ((w64 (f*d))+i)))&&decide ((w64 ((w64 (f*d))+i))<(List.length r:Int)))).bind fun _=>(Z110.l7 R N a n b c d e f g h (w64 (i+1)) j k l m o p q (List.set r (Int.toNat (w64 ((w64 (f*d))+i))) (Int.tmod (w64 (y166*h)) c))))))) else(Z110.l8 R N a N b c d e f g (0:Int) j k l m o p q r)):=(hw _ _).trans (by kernel_rfl)
theorem Z110.j6_eq(R:Run)(hw:R.ok)(N a:Nat)(b:vM)(c d e f g h i j k l m:Int)(o p:List Int):Z110.j6 R N a b c d e f g h i j k l m o p=((chk (decide (0≤(w64 ((w64 (f*d))+g)))&&decide ((w64 ((w64 (f*d))+g))<(List.length p:Int)))).bind fun _=>(Option.bind (p)[(Int.toNat (w64 ((w64 (f*d))+g)))]? fun y148=>((chk (c != 0)).bind fun _=>((qjS R n_Z106 o_Z106 [⟨yI,y148⟩,⟨yI,c⟩]).bind fun r149=>(Z110.l7 R N a N b c d (Int.tmod (w64 (e*y148)) c) f g r149.1 (0:Int) h i j k l m o p))))):=(hw _ _).trans (by kernel_rfl)
theorem Z110.l5_succ(R:Run)(hw:R.ok)(N a n:Nat)(b:vM)(c d e f g h i j k l m o p:Int)(q r:List Int):Z110.l5 R N a (n+1) b c d e f g h i j k l m o p q r=(bif (decide (i<d)) then((chk (decide (0≤(w64 ((w64 (h*d))+i)))&&decide ((w64 ((w64 (h*d))+i))<(List.length r:Int)))).bind fun _=>(Option.bind (r)[(Int.toNat (w64 ((w64 (h*d))+i)))]? fun y116=>((chk (decide (0≤(w64 ((w64 (f*d))+i)))&&decide ((w64 ((w64 (f*d))+i))<(List.length r:Int)))).bind fun _=>(Option.bind (r)[(Int.toNat (w64 ((w64 (f*d))+i)))]? fun y117=>((chk (decide (0≤(w64 ((w64 (h*d))+i)))&&decide ((w64 ((w64 (h*d))+i))<(List.length r:Int)))).bind fun _=>((chk (decide (0≤(w64 ((w64 (f*d))+i)))&&decide ((w64 ((w64 (f*d))+i))<(List.length (List.set r (Int.toNat (w64 ((w64 (h*d))+i))) y117):Int)))).bind fun _=>(Z110.l5 R N a n b c d e f g h (w64 (i+1)) j k l m o p q (List.set (List.set r (Int.toNat (w64 ((w64 (h*d))+i))) y117) (Int.toNat (w64 ((w64 (f*d))+i))) y116)))))))) else(Z110.j6 R N a b c d e f g j k l m o p q r)):=(hw _ _).trans (by kernel_rfl)
theorem Z110.j4_eq(R:Run)(hw:R.ok)(N a b:Nat)(c:vM)(d e f g h i:Int)(j:Bool)(k l m o p q:Int)(r s:List Int):Z110.j4 R N a b c d e f g h i j k l m o p q r s=(bif j then(Z110.l3 R N a b c d e f g h (w64 (i+1)) k l m o p q r s) else(bif (i==c.2.1) then(Z110.l1 R N a c d e f g (w64 (h+1)) k l m o p q r s) else(bif (i != g) then(Z110.l5 R N a N c d e (w64 (d-f)) g h i (0:Int) k l m o p q r s) else(Z110.j6 R N a c d e f g h k l m o p q r s)))):=(hw _ _).trans (by kernel_rfl)
theorem Z110.l3_succ(R:Run)(hw:R.ok)(N a n:Nat)(b:vM)(c d e f g h i j k l m o:Int)(p q:List Int):Z110.l3 R N a (n+1) b c d e f g h i j k l m o p q=(bif (decide (h<b.2.1)) then((chk (decide (0≤(w64 ((w64 (h*d))+g)))&&decide ((w64 ((w64 (h*d))+g))<(List.length q:Int)))).bind fun _=>(Option.bind (q)[(Int.toNat (w64 ((w64 (h*d))+g)))]? fun y54=>(Z110.j4 R N a n b c d e f g h (y54==(0:Int)) i j k l m o p q))) else(Z110.j4 R N a n b c d e f g h false i j k l m o p q)):=(hw _ _).trans (by kernel_rfl)
theorem Z110.j2_eq(R:Run)(hw:R.ok)(N a:Nat)(b:vM)(c d e f g:Int)(h:Bool)(i j k l m o:Int)(p q:List Int):Z110.j2 R N a b c d e f g h i j k l m o p q=(bif h then(Z110.l3 R N a N b c d e f g f i j k l m o p q) else some ⟨o_Z110,(l,m,o,q,p,e,())⟩):=(hw _ _).trans (by kernel_rfl)
theorem Z110.l1_succ(R:Run)(hw:R.ok)(N n:Nat)(a:vM)(b c d e f g h i j k l:Int)(m o:List Int):Z110.l1 R N (n+1) a b c d e f g h i j k l m o=(bif (decide (f<c)) then(Z110.j2 R N n a b c d e f (decide (e<a.2.1)) g h i j k l m o) else(Z110.j2 R N n a b c d e f false g h i j k l m o)):=(hw _ _).trans (by kernel_rfl)
theorem Z110.j0_eq(R:Run)(hw:R.ok)(N:Nat)(a:vM)(b c d e f g:Int)(h:List Int):Z110.j0 R N a b c d e f g h=(Z110.l1 R N N a a.1 a.2.2.1 (1:Int) (0:Int) (0:Int) b c d e f g ([]:List Int) h):=(hw _ _).trans (by kernel_rfl)
theorem Z110.ev(R:Run)(N:Nat)(a0:vM):qp8 E R sg_Z110 pol_Z110 F_Z110 N [⟨(.ptr yM),a0⟩]=(qox ((qjS R n_Z97 o_Z97 [⟨yL,a0.2.2.2.1⟩]).bind fun r1=>(Z110.j0 R N a0 (0:Int) (0:Int) (0:Int) a0.1 a0.2.1 a0.2.2.1 r1.1)) ((qjS R n_Z97 o_Z97 [⟨yL,a0.2.2.2.1⟩]).bind fun r359=>(Z110.j0 R N a0 (0:Int) (0:Int) (0:Int) a0.1 a0.2.1 a0.2.2.1 r359.1))):=by kernel_rfl
def Z95.l0(R:Run)(N n:Nat)(a:List Int)(b e:Int):Option Dv:=R.w (some ⟨(.c (.d yL a)::(.c (.d yI b)::(zd 3 (.c (.d yI e)::(zd 12 []))))),(zo 20 [])⟩) fun st=>lC R pol_Z95 2 N [1,0,1,0,0] F_Z95 n st (kB R pol_Z95 0 (kS R pol_Z95 6 N [1,1] F_Z95 (qqA E sg_Z95 F_Z95)))
theorem Z95.l0_succ(R:Run)(hw:R.ok)(N n:Nat)(a:List Int)(b c:Int):Z95.l0 R N (n+1) a b c=(bif (decide (c<(List.length a:Int))) then((idx? a c).bind fun y4=>(bif ((y4,()).1==b) then some ⟨o_Z95,(true,())⟩ else(Z95.l0 R N n a b (w64 (c+1))))) else some ⟨o_Z95,(false,())⟩):=(hw _ _).trans (by kernel_rfl)
theorem Z95.ev(R:Run)(N:Nat)(a0:List Int)(a1:Int):qp8 E R sg_Z95 pol_Z95 F_Z95 N [⟨yL,a0⟩,⟨yI,a1⟩]=(Z95.l0 R N N a0 a1 (0:Int)):=by kernel_rfl
def Z108.l1(R:Run)(N a n:Nat)(b:vM)(e:List Int)(f g h i j:Int)(k:List Int)(l:vK)(m:List Int):Option Dv:=R.w (some ⟨(.c (.ip yM b 0)::(V.dead::(V.dead::(.c (.box 3 0)::(.c (.d yL e)::(V.dead::(.c (.arr 16)::(.c (.d yI f)::(.c (.arr 32)::(.c (.d yI g)::(zd 61 []))))))))))),(zo 3 (some (.box [.d yI h,.d yI i,.d yI j,.d yL k] false false)::(zo 12 (some (.arr yL l true false false)::(zo 15 (some (.arr yI m true false false)::(zo 39 [])))))))⟩) fun st=>lC R pol_Z108 10 N [1,1,1,0,1,0,0,1,0,0,1,1,1,0,1,0,0] F_Z108 n st (kB R pol_Z108 2 (kS R pol_Z108 13 N [1,1,1,0,1,0,0,1,0,0,1,1,1,1] F_Z108 (kB R pol_Z108 1 (kS R pol_Z108 5 N [1,1,1,0,1,0,0,1,1] F_Z108 (kL R pol_Z108 4 N [1,1,1,0,1,0,0] F_Z108 a (kB R pol_Z108 0 (kS R pol_Z108 14 N [1,1,1,1] F_Z108 (qqA E sg_Z108 F_Z108))))))))
def Z108.l0(R:Run)(N n:Nat)(a:vM)(b:List Int)(e f g h:Int)(i:List Int)(j:vK):Option Dv:=R.w (some ⟨(.c (.ip yM a 0)::(V.dead::(V.dead::(.c (.box 3 0)::(.c (.d yL b)::(V.dead::(.c (.arr 16)::(.c (.d yI e)::(zd 63 []))))))))),(zo 3 (some (.box [.d yI f,.d yI g,.d yI h,.d yL i] false false)::(zo 12 (some (.arr yL j true false false)::(zo 55 [])))))⟩) fun st=>lC R pol_Z108 4 N [1,1,1,0,1,0,0] F_Z108 n st (kB R pol_Z108 0 (kS R pol_Z108 14 N [1,1,1,1] F_Z108 (qqA E sg_Z108 F_Z108)))
theorem Z108.l1_succ(R:Run)(hw:R.ok)(N a n:Nat)(b:vM)(c:List Int)(d e f g h:Int)(i:List Int)(j:vK)(k:List Int):Z108.l1 R N a (n+1) b c d e f g h i j k=(bif (decide (e<(List.length c:Int))) then((idx? c e).bind fun y29=>((idx? i (w64 ((w64 (e*b.2.2.1))+d))).bind fun y30=>((qjS R n_Z109 o_Z109 [⟨yI,(w64 (0-(y30,()).1))⟩,⟨yI,b.1⟩]).bind fun r31=>((chk (decide (0≤(y29,()).1)&&decide ((y29,()).1<(List.length k:Int)))).bind fun _=>(Z108.l1 R N a n b c d (w64 (e+1)) f g h i j (List.set k (Int.toNat (y29,()).1) r31.1)))))) else((chk (decide ((List.length j+List.length [k])*24≤70368744177664))).bind fun _=>(Z108.l0 R N a b c (w64 (d+1)) f g h i (j++[k])))):=(hw _ _).trans (by kernel_rfl)
theorem Z108.l0_succ(R:Run)(hw:R.ok)(N n:Nat)(a:vM)(b:List Int)(c d e f:Int)(g:List Int)(h:vK):Z108.l0 R N (n+1) a b c d e f g h=(bif (decide (c<a.2.2.1)) then((qjS R n_Z95 o_Z95 [⟨yL,b⟩,⟨yI,c⟩]).bind fun r10=>(bif r10.1 then(Z108.l0 R N n a b (w64 (c+1)) d e f g h) else((chk (decide (0≤a.2.2.1)&&decide (a.2.2.1*8≤70368744177664))).bind fun _=>((chk (decide (0≤c)&&decide (c<(List.length (List.replicate (Int.toNat a.2.2.1) (0:Int)):Int)))).bind fun _=>(Z108.l1 R N n N a b c (0:Int) d e f g h (List.set (List.replicate (Int.toNat a.2.2.1) (0:Int)) (Int.toNat c) (1:Int))))))) else some ⟨o_Z108,(h,())⟩):=(hw _ _).trans (by kernel_rfl)
theorem Z108.ev(R:Run)(N:Nat)(a0:vM):qp8 E R sg_Z108 pol_Z108 F_Z108 N [⟨(.ptr yM),a0⟩]=((qjS R n_Z110 o_Z110 [⟨(.ptr yM),a0⟩]).bind fun r1=>(Z108.l0 R N N a0 r1.2.2.2.2.1 (0:Int) r1.1 r1.2.1 r1.2.2.1 r1.2.2.2.1 ([]:List (List Int)))):=by kernel_rfl
def Z107.l1(R:Run)(N n:Nat)(a b:vM)(e f g h i j k:Int)(l:List Int):Option Dv:=R.w (some ⟨(.c (.ip yM a 0)::(.c (.ip yM b 0)::(V.dead::(V.dead::(.c (.box 4 0)::(.c (.box 5 0)::(.c (.d yI e)::(zd 72 [])))))))),(zo 4 (some (.box [.d yI f,.d yI g,.d yI h,.nils yI] false false)::(some (.box [.d yI i,.d yI j,.d yI k,.arr 24] false false)::(zo 18 (some (.arr yI l true false false)::(zo 56 []))))))⟩) fun st=>lC R pol_Z107 3 N [1,1,0,1,0,0] F_Z107 n st (kB R pol_Z107 0 (kS R pol_Z107 7 N [1,1,1] F_Z107 (qqA E sg_Z107 F_Z107)))
def Z107.j0(R:Run)(N:Nat)(a b:vM)(e f g h i j:Int)(k:List Int):Option Dv:=R.w (some ⟨(.c (.ip yM a 0)::(.c (.ip yM b 0)::(V.dead::(V.dead::(.c (.box 4 0)::(.c (.box 5 0)::(zd 73 []))))))),(zo 4 (some (.box [.d yI e,.d yI f,.d yI g,.nils yI] false false)::(some (.box [.d yI h,.d yI i,.d yI j,.arr 24] false false)::(zo 18 (some (.arr yI k true false false)::(zo 56 []))))))⟩) fun st=>eC R pol_Z107 N [1,1] F_Z107 st (qqA E sg_Z107 F_Z107)
theorem Z107.l1_succ(R:Run)(hw:R.ok)(N n:Nat)(a b:vM)(c d e f g h i:Int)(j:List Int):Z107.l1 R N (n+1) a b c d e f g h i j=(bif (decide (c<a.2.1)) then((chk (decide (0≤(w64 (c*a.2.2.1)))&&decide ((w64 (c*a.2.2.1))≤(w64 ((w64 (c+1))*a.2.2.1)))&&decide ((w64 ((w64 (c+1))*a.2.2.1))≤(List.length a.2.2.2.1:Int)))).bind fun _=>((chk (decide ((List.length j+List.length (List.drop (Int.toNat (w64 (c*a.2.2.1))) (List.take (Int.toNat (w64 ((w64 (c+1))*a.2.2.1))) a.2.2.2.1)))*8≤70368744177664))).bind fun _=>((chk (decide (0≤(w64 (c*b.2.2.1)))&&decide ((w64 (c*b.2.2.1))≤(w64 ((w64 (c+1))*b.2.2.1)))&&decide ((w64 ((w64 (c+1))*b.2.2.1))≤(List.length b.2.2.2.1:Int)))).bind fun _=>((chk (decide ((List.length (j++(List.drop (Int.toNat (w64 (c*a.2.2.1))) (List.take (Int.toNat (w64 ((w64 (c+1))*a.2.2.1))) a.2.2.2.1)))+List.length (List.drop (Int.toNat (w64 (c*b.2.2.1))) (List.take (Int.toNat (w64 ((w64 (c+1))*b.2.2.1))) b.2.2.2.1)))*8≤70368744177664))).bind fun _=>(Z107.l1 R N n a b (w64 (c+1)) d e f g h i ((j++(List.drop (Int.toNat (w64 (c*a.2.2.1))) (List.take (Int.toNat (w64 ((w64 (c+1))*a.2.2.1))) a.2.2.2.1)))++(List.drop (Int.toNat (w64 (c*b.2.2.1))) (List.take (Int.toNat (w64 ((w64 (c+1))*b.2.2.1))) b.2.2.2.1)))))))) else some ⟨o_Z107,(g,h,i,j,())⟩):=(hw _ _).trans (by kernel_rfl)
theorem Z107.j0_eq(R:Run)(hw:R.ok)(N:Nat)(a b:vM)(c d e f g h:Int)(i:List Int):Z107.j0 R N a b c d e f g h i=(Z107.l1 R N N a b (0:Int) c d e f g h i):=(hw _ _).trans (by kernel_rfl)
theorem Z107.ev(R:Run)(N:Nat)(a0 a1:vM):qp8 E R sg_Z107 pol_Z107 F_Z107 N [⟨(.ptr yM),a0⟩,⟨(.ptr yM),a1⟩]=(qox (Z107.j0 R N a0 a1 (0:Int) (0:Int) (0:Int) a0.1 a0.2.1 (w64 (a0.2.2.1+a1.2.2.1)) ([]:List Int)) (Z107.j0 R N a0 a1 (0:Int) (0:Int) (0:Int) a0.1 a0.2.1 (w64 (a0.2.2.1+a1.2.2.1)) ([]:List Int))):=by kernel_rfl
def Z111.l0(R:Run)(N n:Nat)(a:vM)(b:List Int)(e f g h:Int)(i:List Int)(j k l:Int)(m o:List Int):Option Dv:=R.w (some ⟨(.c (.ip yM a 0)::(zd 6 (.c (.box 7 0)::(.c (.box 8 0)::(.c (.d yL b)::(V.dead::(.c (.arr 34)::(.c (.d yI e)::(zd 57 []))))))))),(zo 7 (some (.box [.d yI f,.d yI g,.d yI h,.d yL i] false false)::(some (.box [.d yI j,.d yI k,.d yI l,.d yL m] false false)::(zo 25 (some (.arr yI o true false false)::(zo 37 []))))))⟩) fun st=>lC R pol_Z111 6 N [1,1,1,1,1,0,1,0,0] F_Z111 n st (kB R pol_Z111 0 (kS R pol_Z111 11 N [1,1,1,1,1,1] F_Z111 (qqA E sg_Z111 F_Z111)))
theorem Z111.l0_succ(R:Run)(hw:R.ok)(N n:Nat)(a:vM)(b:List Int)(c d e f:Int)(g:List Int)(h i j:Int)(k l:List Int):Z111.l0 R N (n+1) a b c d e f g h i j k l=(bif (decide (c<(List.length b:Int))) then((idx? b c).bind fun y15=>(bif ((y15,()).1==a.2.2.1) then some ⟨o_Z111,(([]:List Int),false,())⟩ else((idx? b c).bind fun y16=>((idx? k (w64 ((w64 (c*f))+a.2.2.1))).bind fun y17=>((chk (decide (0≤(y16,()).1)&&decide ((y16,()).1<(List.length l:Int)))).bind fun _=>(Z111.l0 R N n a b (w64 (c+1)) d e f g h i j k (List.set l (Int.toNat (y16,()).1) (y17,()).1))))))) else some ⟨o_Z111,(l,true,())⟩):=(hw _ _).trans (by kernel_rfl)
theorem Z111.ev(R:Run)(N:Nat)(a0:vM)(a1:List Int):qp8 E R sg_Z111 pol_Z111 F_Z111 N [⟨(.ptr yM),a0⟩,⟨yL,a1⟩]=((qjS R n_Z107 o_Z107 [⟨(.ptr yM),a0⟩,⟨(.ptr yM),(a0.1,a0.2.1,(1:Int),a1,())⟩]).bind fun r1=>((qjS R n_Z110 o_Z110 [⟨(.ptr yM),(r1.1,r1.2.1,r1.2.2.1,r1.2.2.2.1,())⟩]).bind fun r2=>((chk (decide (0≤a0.2.2.1)&&decide (a0.2.2.1*8≤70368744177664))).bind fun _=>(Z111.l0 R N N a0 r2.2.2.2.2.1 (0:Int) r1.1 r1.2.1 r1.2.2.1 r1.2.2.2.1 r2.1 r2.2.1 r2.2.2.1 r2.2.2.2.1 (List.replicate (Int.toNat a0.2.2.1) (0:Int)))))):=by kernel_rfl
theorem Z132.ev(R:Run)(N:Nat)(a0:vM)(a1:List Int):qp8 E R sg_Z132 pol_Z132 F_Z132 N [⟨(.ptr yM),a0⟩,⟨yL,a1⟩]=((qjS R n_Z111 o_Z111 [⟨(.ptr yM),a0⟩,⟨yL,a1⟩]).bind fun r1=>some ⟨o_Z132,(r1.2.1,())⟩):=by kernel_rfl
theorem Z133.ev(R:Run)(N:Nat)(a0:vM)(a1:List Int):qp8 E R sg_Z133 pol_Z133 F_Z133 N [⟨(.ptr yM),a0⟩,⟨yL,a1⟩]=((qjS R n_Z107 o_Z107 [⟨(.ptr yM),a0⟩,⟨(.ptr yM),(a0.1,a0.2.1,(1:Int),a1,())⟩]).bind fun r1=>some ⟨o_Z133,(r1.1,r1.2.1,r1.2.2.1,r1.2.2.2.1,())⟩):=by kernel_rfl
def Z129.l0(R:Run)(N n:Nat)(a:vK)(b e f g:Int)(h:List Int)(i:vK):Option Dv:=R.w (some ⟨(V.dead::(.c (.d yK a)::(.c (.box 2 0)::(V.dead::(V.dead::(.c (.arr 7)::(.c (.d yI b)::(zd 27 [])))))))),(none::(none::(some (.box [.d yI e,.d yI f,.d yI g,.d yL h] false false)::(zo 4 (some (.arr yL i true false false)::(zo 32 []))))))⟩) fun st=>lC R pol_Z129 3 N [1,1,0,1,0,0] F_Z129 n st (kB R pol_Z129 0 (kS R pol_Z129 8 N [1,1,1] F_Z129 (qqA E sg_Z129 F_Z129)))
theorem Z129.l0_succ(R:Run)(hw:R.ok)(N n:Nat)(a:vK)(b c d e:Int)(f:List Int)(g:vK):Z129.l0 R N (n+1) a b c d e f g=(bif (decide (b<(List.length a:Int))) then((idx? a b).bind fun y8=>((qjS R n_Z132 o_Z132 [⟨(.ptr yM),(c,d,e,f,())⟩,⟨yL,(y8,()).1⟩]).bind fun r9=>(bif (!r9.1) then((idx? a b).bind fun y10=>((qjS R n_Z97 o_Z97 [⟨yL,(y10,()).1⟩]).bind fun r11=>((chk (decide ((List.length g+List.length [r11.1])*24≤70368744177664))).bind fun _=>((idx? a b).bind fun y12=>((qjS R n_Z133 o_Z133 [⟨(.ptr yM),(c,d,e,f,())⟩,⟨yL,(y12,()).1⟩]).bind fun r13=>(Z129.l0 R N n a (w64 (b+1)) r13.1 r13.2.1 r13.2.2.1 r13.2.2.2.1 (g++[r11.1]))))))) else(Z129.l0 R N n a (w64 (b+1)) c d e f g)))) else some ⟨o_Z129,(g,())⟩):=(hw _ _).trans (by kernel_rfl)
theorem Z129.ev(R:Run)(N:Nat)(a0 a1 a2:Int)(a3:List Int)(a4:vK):qp8 E R sg_Z129 pol_Z129 F_Z129 N [⟨yI,a0⟩,⟨yI,a1⟩,⟨yI,a2⟩,⟨yL,a3⟩,⟨yK,a4⟩]=(Z129.l0 R N N a4 (0:Int) a0 a1 a2 a3 ([]:List (List Int))):=by kernel_rfl
theorem Z127.ev(R:Run)(N:Nat)(a0:(vK×Unit))(a1 a2:Int):qp8 E R sg_Z127 pol_Z127 F_Z127 N [⟨(.ptr yC),a0⟩,⟨yI,a1⟩,⟨yI,a2⟩]=((qjS R n_Z128 o_Z128 [⟨(.ptr yC),a0⟩,⟨yI,a1⟩,⟨yI,a2⟩]).bind fun r1=>((qjS R n_Z128 o_Z128 [⟨(.ptr yC),a0⟩,⟨yI,(w64 (a1+1))⟩,⟨yI,a2⟩]).bind fun r2=>((qjS R n_Z108 o_Z108 [⟨(.ptr yM),(r1.1,r1.2.1,r1.2.2.1,r1.2.2.2.1,())⟩]).bind fun r3=>((qjS R n_Z129 o_Z129 [⟨yI,r2.1⟩,⟨yI,r2.2.1⟩,⟨yI,r2.2.2.1⟩,⟨yL,r2.2.2.2.1⟩,⟨yK,r3.1⟩]).bind fun r4=>some ⟨o_Z127,(r4.1,())⟩)))):=by kernel_rfl
theorem Z92.ev(R:Run)(N:Nat)(a0:vK)(a1 a2:Int):qp8 E R sg_Z92 pol_Z92 F_Z92 N [⟨yK,a0⟩,⟨yI,a1⟩,⟨yI,a2⟩]=((qjS R n_Z126 o_Z126 [⟨(.ptr yC),(a0,())⟩,⟨yI,a1⟩,⟨yI,a2⟩]).bind fun r1=>(bif (r1.1 != (0:Int)) then some ⟨o_Z92,(([]:List (List Int)),r1.1,())⟩ else((qjS R n_Z127 o_Z127 [⟨(.ptr yC),(a0,())⟩,⟨yI,a1⟩,⟨yI,a2⟩]).bind fun r2=>some ⟨o_Z92,(r2.1,(0:Int),())⟩))):=by kernel_rfl
def Z5.l2(R:Run)(N n:Nat)(a b:List Int)(e f:Int)(g:vK)(h:List Int):Option Dv:=R.w (some ⟨(zd 4 (.c (.d yL a)::(V.dead::(.c (.box 6 0)::(zd 5 (.c (.arr 55)::(zd 27 (.c (.d yL b)::(.c (.d yI e)::(.c (.d yI f)::(zd 15 []))))))))))),(zo 6 (some (.box [.d yK g] false false)::(zo 48 (some (.arr yI h true false false)::(zo 7 [])))))⟩) fun st=>lC R pol_Z5 7 N [1,1,1,1,0,1,0,0] F_Z5 n st (kB R pol_Z5 0 (kS R pol_Z5 11 N [1,1,1,1,1] F_Z5 (qqA E sg_Z5 F_Z5)))
def Z5.j1(R:Run)(N:Nat)(a b:List Int)(e:Bool)(f:vK):Option Dv:=R.w (some ⟨(zd 3 (.c (.d yL a)::(.c (.d yL b)::(V.dead::(.c (.box 6 0)::(zd 32 (.c (.d .bool e)::(zd 18 [])))))))),(zo 6 (some (.box [.d yK f] false false)::(zo 56 [])))⟩) fun st=>eC R pol_Z5 N [1,1,0,1] F_Z5 st (kS R pol_Z5 5 N [1,1,1] F_Z5 (qqA E sg_Z5 F_Z5))
def Z5.j0(R:Run)(N:Nat)(a b:List Int)(e:Bool)(f g h:vK):Option Dv:=R.w (some ⟨(zd 3 (.c (.d yL a)::(.c (.d yL b)::(.c (.box 5 0)::(.c (.box 6 0)::(.c (.box 7 0)::(zd 19 (.c (.d .bool e)::(zd 30 []))))))))),(zo 5 (some (.box [.d yK f] false false)::(some (.box [.d yK g] false false)::(some (.box [.d yK h] false false)::(zo 55 [])))))⟩) fun st=>eC R pol_Z5 N [1,0,1] F_Z5 st (kS R pol_Z5 3 N [1,1] F_Z5 (qqA E sg_Z5 F_Z5))
theorem Z5.l2_succ(R:Run)(hw:R.ok)(N n:Nat)(a b:List Int)(c d:Int)(e:vK)(f:List Int):Z5.l2 R N (n+1) a b c d e f=(bif (decide (d<c)) then((idx? b d).bind fun y19=>((qjS R n_Z35 o_Z35 [⟨yK,e⟩,⟨yL,a⟩,⟨yL,[(y19,()).1]⟩]).bind fun r20=>((idx? r20.1 (0:Int)).bind fun y21=>((chk (decide ((List.length f+List.length [(y21,()).1])*8≤70368744177664))).bind fun _=>(Z5.l2 R N n a b c (w64 (d+1)) e (f++[(y21,()).1])))))) else some ⟨o_Z5,(f,(0:Int),())⟩):=(hw _ _).trans (by kernel_rfl)
theorem Z5.j1_eq(R:Run)(hw:R.ok)(N:Nat)(a b:List Int)(c:Bool)(d:vK):Z5.j1 R N a b c d=(bif c then some ⟨o_Z5,(([]:List Int),(7:Int),())⟩ else(Z5.l2 R N N b a (List.length a:Int) (0:Int) d ([]:List Int))):=(hw _ _).trans (by kernel_rfl)
theorem Z5.j0_eq(R:Run)(hw:R.ok)(N:Nat)(a b:List Int)(c:Bool)(d e f:vK):Z5.j0 R N a b c d e f=(bif c then some ⟨o_Z5,(([]:List Int),(1:Int),())⟩ else((qjS R n_Z41 o_Z41 [⟨yK,d⟩,⟨yK,e⟩,⟨yL,a⟩]).bind fun r8=>(bif (!r8.1) then(Z5.j1 R N a b true e) else((qjS R n_Z41 o_Z41 [⟨yK,e⟩,⟨yK,f⟩,⟨yL,b⟩]).bind fun r28=>(Z5.j1 R N a b (!r28.1) e))))):=(hw _ _).trans (by kernel_rfl)
theorem Z5.ev(R:Run)(N:Nat)(a0 a1 a2:vK)(a3 a4:List Int):qp8 E R sg_Z5 pol_Z5 F_Z5 N [⟨yK,a0⟩,⟨yK,a1⟩,⟨yK,a2⟩,⟨yL,a3⟩,⟨yL,a4⟩]=((qjS R n_Z9 o_Z9 [⟨yK,a0⟩]).bind fun r1=>(bif (!r1.1) then(Z5.j0 R N a3 a4 true a0 a1 a2) else((qjS R n_Z9 o_Z9 [⟨yK,a1⟩]).bind fun r33=>(bif (!r33.1) then(Z5.j0 R N a3 a4 true a0 a1 a2) else((qjS R n_Z9 o_Z9 [⟨yK,a2⟩]).bind fun r40=>(Z5.j0 R N a3 a4 (!r40.1) a0 a1 a2)))))):=by kernel_rfl
def Z66.l0(R:Run)(N n:Nat)(a b:List Int)(e:Int):Option Dv:=R.w (some ⟨(.c (.d yL a)::(.c (.d yL b)::(zd 3 (.c (.d yI e)::(zd 20 []))))),(zo 28 [])⟩) fun st=>lC R pol_Z66 4 N [1,1,0,1,0,0] F_Z66 n st (kB R pol_Z66 0 (kS R pol_Z66 8 N [1,1,1] F_Z66 (qqA E sg_Z66 F_Z66)))
theorem Z66.l0_succ(R:Run)(hw:R.ok)(N n:Nat)(a b:List Int)(c:Int):Z66.l0 R N (n+1) a b c=(bif (decide (c<(List.length a:Int))) then((idx? a c).bind fun y4=>((idx? b c).bind fun y5=>(bif ((y4,()).1 != (y5,()).1) then some ⟨o_Z66,(false,())⟩ else(Z66.l0 R N n a b (w64 (c+1)))))) else some ⟨o_Z66,(true,())⟩):=(hw _ _).trans (by kernel_rfl)
theorem Z66.ev(R:Run)(N:Nat)(a0 a1:List Int):qp8 E R sg_Z66 pol_Z66 F_Z66 N [⟨yL,a0⟩,⟨yL,a1⟩]=(bif ((List.length a0:Int) != (List.length a1:Int)) then some ⟨o_Z66,(false,())⟩ else(Z66.l0 R N N a0 a1 (0:Int))):=by kernel_rfl
def Z64.l1(R:Run)(N n:Nat)(a:List Int)(b e:Int)(f:vK)(g:Int)(h i:vK)(j:List Int):Option Dv:=R.w (some ⟨(zd 3 (.c (.box 3 0)::(.c (.box 4 0)::(.c (.d yL a)::(.c (.d yI b)::(.c (.d yI e)::(V.dead::(V.dead::(.c (.d yK f)::(zd 3 (.c (.arr 79)::(.c (.d yI g)::(zd 123 []))))))))))))),(zo 3 (some (.box [.d yK h] false false)::(some (.box [.d yK i] false false)::(zo 74 (some (.arr yI j true false false)::(zo 60 []))))))⟩) fun st=>lC R pol_Z64 13 N [1,1,1,1,1,1,1,1,1,0,1,0,0] F_Z64 n st (kB R pol_Z64 0 (kS R pol_Z64 17 N [1,1,1,1,1,1,1,1,1,1] F_Z64 (qqA E sg_Z64 F_Z64)))
def Z64.j0(R:Run)(N:Nat)(a:List Int)(b e:Int)(f:vK)(g:Bool)(h i:vK):Option Dv:=R.w (some ⟨(zd 3 (.c (.box 3 0)::(.c (.box 4 0)::(.c (.d yL a)::(.c (.d yI b)::(.c (.d yI e)::(V.dead::(V.dead::(.c (.d yK f)::(zd 67 (.c (.d .bool g)::(zd 60 [])))))))))))),(zo 3 (some (.box [.d yK h] false false)::(some (.box [.d yK i] false false)::(zo 135 []))))⟩) fun st=>eC R pol_Z64 N [1,1,1,1,1,1,1,0,1] F_Z64 st (kS R pol_Z64 11 N [1,1,1,1,1,1,1,1] F_Z64 (qqA E sg_Z64 F_Z64))
theorem Z64.l1_succ(R:Run)(hw:R.ok)(N n:Nat)(a:List Int)(b c:Int)(d:vK)(e:Int)(f g:vK)(h:List Int):Z64.l1 R N (n+1) a b c d e f g h=(bif (decide (e<(List.length f:Int))) then((idx? f e).bind fun y21=>(bif ((List.length (y21,()).1:Int)==(1:Int)) then((idx? f e).bind fun y22=>((idx? (y22,()).1 (0:Int)).bind fun y23=>((chk (decide ((List.length h+List.length [(y23,()).1])*8≤70368744177664))).bind fun _=>(Z64.l1 R N n a b c d (w64 (e+1)) f g (h++[(y23,()).1]))))) else(Z64.l1 R N n a b c d (w64 (e+1)) f g h))) else((qjS R n_Z6 o_Z6 [⟨yK,f⟩,⟨yK,f⟩,⟨yL,h⟩,⟨yI,b⟩,⟨yI,c⟩]).bind fun r40=>((qjS R n_Z5 o_Z5 [⟨yK,f⟩,⟨yK,f⟩,⟨yK,g⟩,⟨yL,h⟩,⟨yL,a⟩]).bind fun r41=>(bif (r40.2.1==(0:Int)) then(bif (r40.1==(List.length d:Int)) then(bif (r41.2.1==(0:Int)) then((qjS R n_Z66 o_Z66 [⟨yL,r41.1⟩,⟨yL,a⟩]).bind fun r42=>some ⟨o_Z64,(r42.1,())⟩) else some ⟨o_Z64,(false,())⟩) else some ⟨o_Z64,(false,())⟩) else some ⟨o_Z64,(false,())⟩)))):=(hw _ _).trans (by kernel_rfl)
theorem Z64.j0_eq(R:Run)(hw:R.ok)(N:Nat)(a:List Int)(b c:Int)(d:vK)(e:Bool)(f g:vK):Z64.j0 R N a b c d e f g=(bif e then some ⟨o_Z64,(false,())⟩ else(Z64.l1 R N N a b c d (0:Int) f g ([]:List Int))):=(hw _ _).trans (by kernel_rfl)
theorem Z64.ev(R:Run)(N:Nat)(a0:List Int):qp8 E R sg_Z64 pol_Z64 F_Z64 N [⟨(.sl (.int .u8)),a0⟩]=((qjS R n_Z65 o_Z65 [⟨(.sl (.int .u8)),a0⟩]).bind fun r1=>(bif r1.1 then some ⟨o_Z64,(true,())⟩ else((qjS R n_Z91 o_Z91 [⟨(.sl (.int .u8)),a0⟩]).bind fun r2=>((qjS R n_Z6 o_Z6 [⟨yK,r2.1⟩,⟨yK,r2.2.1⟩,⟨yL,r2.2.2.1⟩,⟨yI,r2.2.2.2.1⟩,⟨yI,r2.2.2.2.2.1⟩]).bind fun r3=>(bif (r3.2.1 != (0:Int)) then some ⟨o_Z64,((r3.1==(0:Int)),())⟩ else((qjS R n_Z92 o_Z92 [⟨yK,r2.1⟩,⟨yI,r2.2.2.2.1⟩,⟨yI,r2.2.2.2.2.1⟩]).bind fun r4=>((qjS R n_Z92 o_Z92 [⟨yK,r2.2.1⟩,⟨yI,r2.2.2.2.1⟩,⟨yI,r2.2.2.2.2.1⟩]).bind fun r5=>(bif (r4.2.1 != (0:Int)) then(Z64.j0 R N r2.2.2.1 r2.2.2.2.1 r2.2.2.2.2.1 r4.1 true r2.1 r2.2.1) else(bif (r5.2.1 != (0:Int)) then(Z64.j0 R N r2.2.2.1 r2.2.2.2.1 r2.2.2.2.2.1 r4.1 true r2.1 r2.2.1) else(bif (decide (r3.1<(0:Int))) then(Z64.j0 R N r2.2.2.1 r2.2.2.2.1 r2.2.2.2.2.1 r4.1 true r2.1 r2.2.1) else(bif (decide (r3.1>(List.length r4.1:Int))) then(Z64.j0 R N r2.2.2.1 r2.2.2.2.1 r2.2.2.2.2.1 r4.1 true r2.1 r2.2.1) else(Z64.j0 R N r2.2.2.1 r2.2.2.2.1 r2.2.2.2.2.1 r4.1 (decide (r3.1>(List.length r5.1:Int))) r2.1 r2.2.1)))))))))))):=by kernel_rfl
end
end VeT


namespace Go.Proofs
open Go.Shelf
def Tryz.sort235_ren:Go.Shelf.Ren:=⟨fun | 53=>235 | 64=>309 | 63=>308 | 78=>338 | 79=>339 | 70=>329 | 71=>330 | 72=>331 | 73=>332 | 74=>333 | 75=>334 | 59=>335 | 76=>336 | 77=>337 | 88=>352 | 89=>353 | 90=>354 | 91=>355 | 92=>356 | 68=>351 | 96=>360 | n=>n,fun | 22=>27 | 23=>2 | 3=>3 | 51=>246 | 0=>0 | 67=>279 | 69=>185 | 4=>4 | 61=>273 | 60=>272 | 44=>227 | 5=>5 | 9=>9 | 75=>286 | 79=>290 | 83=>294 | 84=>153 | n=>n,fun | n=>n⟩
theorem Tryz.sort235:Go.Proofs.SlLaysN.n53 Tryz.prog Tryz.sort235_ren:={
 mixed:=by kernel_rfl
 f53:=⟨Tryz.f235.name,by decide,Tryz.func235.trans (congrArg some (by kernel_rfl))⟩
 f59:=⟨Tryz.f335.name,by decide,Tryz.func335.trans (congrArg some (by kernel_rfl))⟩
 f63:=⟨Tryz.f308.name,by decide,Tryz.func308.trans (congrArg some (by kernel_rfl))⟩
 f64:=Tryz.func309.trans (congrArg some (by kernel_rfl))
 f68:=⟨Tryz.f351.name,by decide,Tryz.func351.trans (congrArg some (by kernel_rfl))⟩
 f70:=⟨Tryz.f329.name,by decide,Tryz.func329.trans (congrArg some (by kernel_rfl))⟩
 f71:=⟨Tryz.f330.name,by decide,Tryz.func330.trans (congrArg some (by kernel_rfl))⟩
 f72:=⟨Tryz.f331.name,by decide,Tryz.func331.trans (congrArg some (by kernel_rfl))⟩
 f73:=⟨Tryz.f332.name,by decide,Tryz.func332.trans (congrArg some (by kernel_rfl))⟩
 f74:=⟨Tryz.f333.name,by decide,Tryz.func333.trans (congrArg some (by kernel_rfl))⟩
 f75:=⟨Tryz.f334.name,by decide,Tryz.func334.trans (congrArg some (by kernel_rfl))⟩
 f76:=⟨Tryz.f336.name,by decide,Tryz.func336.trans (congrArg some (by kernel_rfl))⟩
 f77:=⟨Tryz.f337.name,by decide,Tryz.func337.trans (congrArg some (by kernel_rfl))⟩
 f78:=Tryz.func338.trans (congrArg some (by kernel_rfl))
 f79:=Tryz.func339.trans (congrArg some (by kernel_rfl))
 f88:=⟨Tryz.f352.name,by decide,Tryz.func352.trans (congrArg some (by kernel_rfl))⟩
 f89:=Tryz.func353.trans (congrArg some (by kernel_rfl))
 f90:=Tryz.func354.trans (congrArg some (by kernel_rfl))
 f91:=⟨Tryz.f355.name,by decide,Tryz.func355.trans (congrArg some (by kernel_rfl))⟩
 f92:=⟨Tryz.f356.name,by decide,Tryz.func356.trans (congrArg some (by kernel_rfl))⟩
 f96:=⟨Tryz.f360.name,by decide,Tryz.func360.trans (congrArg some (by kernel_rfl))⟩
 t0:=Tryz.underlying0
 a0:=Tryz.isAgg0
 z0:=Tryz.sizeOf0
 v0:=Tryz.zeroValue0
 t3:=Tryz.underlying3
 a3:=Tryz.isAgg3
 z3:=Tryz.sizeOf3
 v3:=Tryz.zeroValue3
 t4:=Tryz.underlying4
 a4:=Tryz.isAgg4
 z4:=Tryz.sizeOf4
 v4:=Tryz.zeroValue4
 t5:=Tryz.underlying5
 a5:=Tryz.isAgg5
 z5:=Tryz.sizeOf5
 v5:=Tryz.zeroValue5
 t9:=Tryz.underlying9
 a9:=Tryz.isAgg9
 z9:=Tryz.sizeOf9
 v9:=Tryz.zeroValue9
 t22:=Tryz.underlying27
 a22:=Tryz.isAgg27
 z22:=Tryz.sizeOf27
 v22:=Tryz.zeroValue27
 t23:=Tryz.underlying2
 a23:=Tryz.isAgg2
 z23:=Tryz.sizeOf2
 v23:=Tryz.zeroValue2
 t44:=Tryz.underlying227
 a44:=Tryz.isAgg227
 z44:=Tryz.sizeOf227
 v44:=Tryz.zeroValue227
 t51:=Tryz.underlying246
 a51:=Tryz.isAgg246
 z51:=Tryz.sizeOf246
 v51:=Tryz.zeroValue246
 t60:=Tryz.underlying272
 a60:=Tryz.isAgg272
 z60:=Tryz.sizeOf272
 v60:=Tryz.zeroValue272
 t61:=Tryz.underlying273
 a61:=Tryz.isAgg273
 z61:=Tryz.sizeOf273
 v61:=Tryz.zeroValue273
 t67:=Tryz.underlying279
 a67:=Tryz.isAgg279
 z67:=Tryz.sizeOf279
 v67:=Tryz.zeroValue279
 t69:=Tryz.underlying185
 a69:=Tryz.isAgg185
 z69:=Tryz.sizeOf185
 v69:=Tryz.zeroValue185
 t75:=Tryz.underlying286
 a75:=Tryz.isAgg286
 z75:=Tryz.sizeOf286
 v75:=Tryz.zeroValue286
 t79:=Tryz.underlying290
 a79:=Tryz.isAgg290
 z79:=Tryz.sizeOf290
 v79:=Tryz.zeroValue290
 t83:=Tryz.underlying294
 a83:=Tryz.isAgg294
 z83:=Tryz.sizeOf294
 v83:=Tryz.zeroValue294
 t84:=Tryz.underlying153
 a84:=Tryz.isAgg153
 z84:=Tryz.sizeOf153
 v84:=Tryz.zeroValue153 }
def Tryz.comp236_ren:Go.Shelf.Ren:=⟨fun | 43=>236 | n=>n,fun | 22=>27 | 23=>2 | 3=>3 | 4=>4 | 0=>0 | n=>n,fun | n=>n⟩
theorem Tryz.comp236:Go.Proofs.SlLaysN.n43 Tryz.prog Tryz.comp236_ren:={
 mixed:=by kernel_rfl
 f43:=⟨Tryz.f236.name,by decide,Tryz.func236.trans (congrArg some (by kernel_rfl))⟩
 t0:=Tryz.underlying0
 a0:=Tryz.isAgg0
 z0:=Tryz.sizeOf0
 v0:=Tryz.zeroValue0
 t3:=Tryz.underlying3
 a3:=Tryz.isAgg3
 z3:=Tryz.sizeOf3
 v3:=Tryz.zeroValue3
 t4:=Tryz.underlying4
 a4:=Tryz.isAgg4
 z4:=Tryz.sizeOf4
 v4:=Tryz.zeroValue4
 t22:=Tryz.underlying27
 a22:=Tryz.isAgg27
 z22:=Tryz.sizeOf27
 v22:=Tryz.zeroValue27
 t23:=Tryz.underlying2
 a23:=Tryz.isAgg2
 z23:=Tryz.sizeOf2
 v23:=Tryz.zeroValue2
 i23:=by kernel_rfl }
end Go.Proofs
namespace VeT
section
open Go Go.Proofs Go.RowKit Go.Lib
open Ve in
theorem qgb(R:Run){args:List Dv}{dv:Dv}(h:qh0 R args=some dv):qbx Tryz.prog ⟨[(false,1)],[.io true],.cons tL .nil,[],[],[]⟩ 235 args dv :=
 qhL (fun blk cap zs w a b c=>AnyG.slices_Sort_int Tryz.sort235 blk 0 cap zs w a b c)
  (fun A cap w=>(AnyG.slices_Sort_int_none Tryz.sort235 A cap w).mono fun e w' ⟨h,hw⟩=>⟨h,by rw[hw],by rw[hw];exact Kin.refl _⟩) h
open Ve in
theorem qgc(R:Run){args:List Dv}{dv:Dv}(h:qip R args=some dv):qbx Tryz.prog ⟨[(false,1)],[.take true],.cons tL .nil,[(false,1)],[.deep],[]⟩ 236 args dv :=
 qhJ (fun blk cap zs w a b c=>AnyG.slices_Compact_int Tryz.comp236 blk 0 cap zs w a b c)
  (fun A cap w=>AnyG.slices_Compact_int_empty Tryz.comp236 A cap w) h
set_option maxHeartbeats 2000000 in
set_option maxRecDepth 100000 in
theorem qjd(base:Option Addr)(l c n:Nat)(w:World)(hlc:l≤c)(hc63:c≤9223372036854775807)(hn63:n≤9223372036854775807)(hroom:l+n≤c) :
  Calls Tryz.prog 285 #[.slice base l c,.int .i64 n] w fun e w'=>e=.returned (.slice base l c)∧w'=w:=by
 have h1:¬ ((n:Int)<0):=by omega
 have h2:wrap64 ((c:Int)-(l:Int))=(c:Int)-(l:Int):=by unfold wrap64;omega
 have h3:wrap64 ((n:Int)-((c:Int)-(l:Int)))=(n:Int)-((c:Int)-(l:Int)):=by unfold wrap64;omega
 have h4:¬ ((n:Int)-((c:Int)-(l:Int))>0):=by omega
 go_enter Tryz.func285,Tryz.ntmps285
 go_wp2
 go_ret
 exact⟨rfl,rfl⟩
set_option maxHeartbeats 4000000 in
set_option maxRecDepth 100000 in
theorem qjK(i0:TypeInfo)(z:Value)(hi0:Tryz.prog.info? 2=some i0)(hz0:i0.zero=some z)(hs0:0<i0.size)
    (base:Option Addr) (l c n:Nat) (cs:List Value) (w:World) (hlc:l≤c) (hroom:c<l+n) (hbig:(l+n)*i0.bytes≤140737488355328) (h63:l+n≤4611686018427387904)
    (hcl:cs.length=c*i0.size) (hnil:base=none→c=0) (hcs:∀ a,base=some a→∀(j:Nat) v,cs[j]? = some v→w.cell? (a.add j)=some v) :
    Calls Tryz.prog 285 #[.slice base l c,.int .i64 n] w fun e w' =>
      e=.returned (.slice (some ⟨w.heap.size,0,none⟩) l (grownCap w (l+n) c 2)) ∧
      w'=w.drew.alloc (.cells (cs.toArray++Builtin.zeroCells z.cells (l+n-c)++Builtin.zeroCells z.cells (grownCap w (l+n) c 2-(l+n))) 2):=by
  have h1:¬ ((n:Int)<0):=by omega
  have h2:wrap64 ((c:Int)-(l:Int))=(c:Int)-(l:Int):=by unfold wrap64;omega
  have h3:wrap64 ((n:Int)-((c:Int)-(l:Int)))=(n:Int)-((c:Int)-(l:Int)):=by unfold wrap64;omega
  have h4:(n:Int)-((c:Int)-(l:Int))>0:=by omega
  have z25:∀ w,(Go.sizeOf 2).run Tryz.prog w=.ok i0.size w:=fun w=>by simp[Go.sizeOf,typeInfo,hi0]
  have hck:c+(l+n-c)=l+n:=by omega
  have hold:(Builtin.firstCells i0.size c (.slice base c c)).run Tryz.prog w.drew=.ok cs.toArray w.drew:=by
    cases base with
    | none =>
      have h0:=hnil rfl
      subst h0
      have hc0:cs=[]:=List.length_eq_zero_iff.1 (by simpa using hcl)
      rw[hc0]
      exact run_firstCells_none w.drew i0.size 0 0 0
    | some a=>exact run_firstCells_some w.drew i0.size c a c c cs hcl (fun j v hj=>hcs a rfl j v hj)
  have hrz:∀ ty,(Builtin.append_ #[27,3] ty #[.slice base c c,.int .i64 ((n:Int)-((c:Int)-(l:Int)))]).run Tryz.prog w =
      .ok (.slice (some ⟨w.heap.size,0,none⟩) (l+n) (grownCap w (l+n) c 2)) (w.drew.alloc (.cells (cs.toArray++Builtin.zeroCells z.cells (l+n-c)++Builtin.zeroCells z.cells (grownCap w (l+n) c 2-(l+n))) 2)):=fun ty=>by
    have h:=Lib.run_append_grow_zeros w 27 3 ty 2 i0 z .i64 .i64 Tryz.underlying27 Tryz.underlying3 hi0 hz0 base c c cs hold (l+n-c) (by omega) hs0 (by omega) (by omega)
      (by have:(l+n-c)*i0.bytes≤(l+n)*i0.bytes:=Nat.mul_le_mul_right _ (by omega)
          omega)
      (by rw[hck];exact growslice_fits hroom hbig)
    rw[hck] at h
    rw[show(n:Int)-((c:Int)-(l:Int))=((l+n-c:Nat):Int) by omega]
    exact h
  have hGn:l+n≤grownCap w (l+n) c 2:=grownCap_ge w _ _ _
  obtain⟨G,hG⟩:∃ G,G=grownCap w (l+n) c 2:=⟨_,rfl⟩
  rw[← hG] at hrz hGn ⊢
  have hG63:G≤9223372036854775807:=by
    have:=grownCap_le_maxLen w (l+n) c 2 (by unfold maxLen;omega)
    rw[← hG] at this
    unfold maxLen at this
    omega
  clear hold hck hG hcs hcl
  go_enter Tryz.func285,Tryz.ntmps285
  cases base with
  | none =>
    have h0:=hnil rfl
    subst h0
    obtain rfl:l=0:=by omega
    go_wp2_with (at_builtin;refine Lib.wpList_append_run _ rfl _ _ _ _ rfl _ _ rfl rfl _ _ (hrz _) ?_)
    all_goals (go_ret;exact⟨rfl,rfl⟩)
  | some a =>
    obtain⟨ab,ao,asp⟩:=a
    go_wp2_with (at_builtin;refine Lib.wpList_append_run _ rfl _ _ _ _ rfl _ _ rfl rfl _ _ (hrz _) ?_)
    all_goals (go_ret;exact⟨rfl,rfl⟩)
theorem qjY:(Tryz.prog.info? 2).any (fun i=>i.size==Ve.Ty.size yI&&i.zero.any (fun z=>z.cells.size==Ve.Ty.size yI)&&decide (i.bytes≤64*Ve.Ty.size yI)&&decide (0<i.bytes)&&decide (0<Ve.Ty.size yI))=true:=by kernel_rfl
open Ve in
theorem qge(R:Run){args:List Dv}{dv:Dv}(h:qmk yI R args=some dv) :
  qbx Tryz.prog ⟨[(false,1),(false,1)],[.take true,.imm],.cons yL .nil,[(false,1)],[.deep],[]⟩ 285 args dv:=by
 have hi:=qjY
 cases hi0:Tryz.prog.info? 2 with
 | none=>rw[hi0] at hi;cases hi
 | some i0 =>
  rw[hi0] at hi
  simp only[Option.any_some,Bool.and_eq_true,decide_eq_true_eq,beq_iff_eq] at hi
  obtain⟨⟨⟨⟨h1,h2⟩,h3⟩,h4⟩,h5⟩:=hi
  cases hz:i0.zero with
  | none=>rw[hz] at h2;cases h2
  | some z =>
   rw[hz] at h2
   exact qiB h1 (by simpa using h2) h5 h3 h4 qjd (fun base l c n cs w a1 a2 a3 a4 a5 a6 a7=>qjK i0 z hi0 hz (by rw[h1];exact h5) base l c n cs w a1 a2 a3 a4 a5 a6 a7) R h
end
section
open Go Ve
theorem qnX:primL=(List.range 378).map fun i=>bif Nat.beq i 235 then some qh0 else bif Nat.beq i 236 then some qip else bif Nat.beq i 285 then some (qmk yI) else none:=by kernel_rfl
theorem qqa:∀ f p,E.prim f=some p→∀ r,qhz E (mkR r)→∀ args dv sg,E.sig f=some sg→p (mkR r) args=some dv→qbx E.P sg f args dv:=by
 intro f p hp r hr args dv sg hsg h
 have hp:primL.getD f none=some p:=hp
 rw[qnX,List.getD_eq_getElem?_getD,List.getElem?_map] at hp
 by_cases hf:f<378
 ·rw[List.getElem?_range hf] at hp
  simp only[Option.map_some,Option.getD_some] at hp
  by_cases h235:f=235
  ·subst h235
   obtain rfl:qh0=p:=Option.some.inj hp
   obtain rfl:sg_Z90=sg:=Option.some.inj (sig_slices_Sort_Sint64_int64_eq.symm.trans hsg)
   exact qgb _ h
  rw[show Nat.beq f 235=false from Bool.eq_false_iff.2 fun h=>h235 (Nat.eq_of_beq_eq_true h),cond_false] at hp
  by_cases h236:f=236
  ·subst h236
   obtain rfl:qip=p:=Option.some.inj hp
   obtain rfl:sg_Z70=sg:=Option.some.inj (sig_slices_Compact_Sint64_int64_eq.symm.trans hsg)
   exact qgc _ h
  rw[show Nat.beq f 236=false from Bool.eq_false_iff.2 fun h=>h236 (Nat.eq_of_beq_eq_true h),cond_false] at hp
  by_cases h285:f=285
  ·subst h285
   obtain rfl:(qmk yI)=p:=Option.some.inj hp
   obtain rfl:sg_Z80=sg:=Option.some.inj (sig_slices_Grow_Sint64_int64_eq.symm.trans hsg)
   exact qge _ h
  rw[show Nat.beq f 285=false from Bool.eq_false_iff.2 fun h=>h285 (Nat.eq_of_beq_eq_true h),cond_false] at hp
  cases hp
 ·rw[List.getElem?_eq_none (by simpa using hf)] at hp
  cases hp
end
end VeT
open Go Go.Proofs Ve
namespace VeT
end VeT
open Go Go.Proofs Ve
namespace VeT
theorem qaY(s:List (List Int))(c:((vK×Unit)×(Int×Unit)×Unit))(p:(List Int)→Bool)(hs:s.length≤1048576)(hp:∀ x∈s,Ret E n_Z10 [⟨yL,x⟩,⟨(.ptr yC),c.1⟩,⟨(.ptr (.cons yI .nil)),c.2.1⟩] ⟨o_Z10,(p x,())⟩) :
    Ret E n_Z81 [⟨yK,s⟩,⟨(.fn n_Z10 (.cons (.ptr yC) (.cons (.ptr (.cons yI .nil)) .nil))),c⟩] ⟨o_Z81,(qfU p s,())⟩:=by
  obtain⟨o,h1,h2,h3⟩:=qb1 1 (L:=fun φ n k=>Z82.l0 (mkR (run E (φ 0))) (φ 0) n s c (s.length:Int) k) (len:=s.length) (fun k=>∃ h:k<s.length,p s[k]=true) (fun o=>some ⟨o_Z81,(o2i o,())⟩) (fun _ _ _ _=>rfl) (fun k hk hP=>by
      obtain⟨_,hP⟩:=hP
      simp only[Z82.l0_succ _ qaf]
      refine qaC (decide_eq_true (by omega)) (qae (qaq hk) (qaa (hp _ (List.getElem_mem hk)) (qaC hP qam)))) (fun k q hk hP ih=>by
      simp only[Z82.l0_succ _ qaf]
      refine qaC (decide_eq_true (by omega)) (qae (qaq hk) (qaa (hp _ (List.getElem_mem hk)) (qaE (Bool.eq_false_iff.2 fun h=>hP ⟨hk,h⟩) ?_)))
      rw[qah (by omega)];exact ih) (by
      simp only[Z82.l0_succ _ qaf]
      exact qaE (decide_eq_false (by omega)) qam)
  rw[qc1 h1 h2] at h3
  refine qal ?_
  simp only[run_Z81,Z82.ev]
  exact Ev.start (p:=fun φ n=>Z82.l0 (mkR (run E (φ 0))) (φ 0) n s c (s.length:Int) 0=_) 1 h3 (fun _ _ _ h=>h)
theorem qa8(s:List (List Int))(c:((Int×Unit)×Unit))(p:(List Int)→Bool)(hs:s.length≤1048576)(hp:∀ x∈s,Ret E n_Z28 [⟨yL,x⟩,⟨(.ptr (.cons yI .nil)),c.1⟩] ⟨o_Z28,(p x,())⟩) :
    Ret E n_Z81 [⟨yK,s⟩,⟨(.fn n_Z28 (.cons (.ptr (.cons yI .nil)) .nil)),c⟩] ⟨o_Z81,(qfU p s,())⟩:=by
  obtain⟨o,h1,h2,h3⟩:=qb1 1 (L:=fun φ n k=>Z83.l0 (mkR (run E (φ 0))) (φ 0) n s c (s.length:Int) k) (len:=s.length) (fun k=>∃ h:k<s.length,p s[k]=true) (fun o=>some ⟨o_Z81,(o2i o,())⟩) (fun _ _ _ _=>rfl) (fun k hk hP=>by
      obtain⟨_,hP⟩:=hP
      simp only[Z83.l0_succ _ qaf]
      refine qaC (decide_eq_true (by omega)) (qae (qaq hk) (qaa (hp _ (List.getElem_mem hk)) (qaC hP qam)))) (fun k q hk hP ih=>by
      simp only[Z83.l0_succ _ qaf]
      refine qaC (decide_eq_true (by omega)) (qae (qaq hk) (qaa (hp _ (List.getElem_mem hk)) (qaE (Bool.eq_false_iff.2 fun h=>hP ⟨hk,h⟩) ?_)))
      rw[qah (by omega)];exact ih) (by
      simp only[Z83.l0_succ _ qaf]
      exact qaE (decide_eq_false (by omega)) qam)
  rw[qc1 h1 h2] at h3
  refine qal ?_
  simp only[run_Z81,Z83.ev]
  exact Ev.start (p:=fun φ n=>Z83.l0 (mkR (run E (φ 0))) (φ 0) n s c (s.length:Int) 0=_) 1 h3 (fun _ _ _ h=>h)
theorem qbo(s:List (List Int))(c:((vK×Unit)×(vK×Unit)×((List Int)×Unit)×Unit))(p:(List Int)→Bool)(hs:s.length≤1048576)(hp:∀ x∈s,Ret E n_Z42 [⟨yL,x⟩,⟨(.ptr yC),c.1⟩,⟨(.ptr yC),c.2.1⟩,⟨(.ptr (.cons yL .nil)),c.2.2.1⟩] ⟨o_Z42,(p x,())⟩) :
    Ret E n_Z81 [⟨yK,s⟩,⟨(.fn n_Z42 (.cons (.ptr yC) (.cons (.ptr yC) (.cons (.ptr (.cons yL .nil)) .nil)))),c⟩] ⟨o_Z81,(qfU p s,())⟩:=by
  obtain⟨o,h1,h2,h3⟩:=qb1 1 (L:=fun φ n k=>Z84.l0 (mkR (run E (φ 0))) (φ 0) n s c (s.length:Int) k) (len:=s.length) (fun k=>∃ h:k<s.length,p s[k]=true) (fun o=>some ⟨o_Z81,(o2i o,())⟩) (fun _ _ _ _=>rfl) (fun k hk hP=>by
      obtain⟨_,hP⟩:=hP
      simp only[Z84.l0_succ _ qaf]
      refine qaC (decide_eq_true (by omega)) (qae (qaq hk) (qaa (hp _ (List.getElem_mem hk)) (qaC hP qam)))) (fun k q hk hP ih=>by
      simp only[Z84.l0_succ _ qaf]
      refine qaC (decide_eq_true (by omega)) (qae (qaq hk) (qaa (hp _ (List.getElem_mem hk)) (qaE (Bool.eq_false_iff.2 fun h=>hP ⟨hk,h⟩) ?_)))
      rw[qah (by omega)];exact ih) (by
      simp only[Z84.l0_succ _ qaf]
      exact qaE (decide_eq_false (by omega)) qam)
  rw[qc1 h1 h2] at h3
  refine qal ?_
  simp only[run_Z81,Z84.ev]
  exact Ev.start (p:=fun φ n=>Z84.l0 (mkR (run E (φ 0))) (φ 0) n s c (s.length:Int) 0=_) 1 h3 (fun _ _ _ h=>h)
theorem qa4(s:List Int)(p:Int→Bool)(hs:s.length≤1048576)(hp:∀ x∈s,Ret E n_Z13 [⟨yI,x⟩] ⟨o_Z13,(p x,())⟩) :
    Ret E n_Z85 [⟨yL,s⟩,⟨(.fn n_Z13 .nil),()⟩] ⟨o_Z85,(qfU p s,())⟩:=by
  obtain⟨o,h1,h2,h3⟩:=qb1 1 (L:=fun φ n k=>Z86.l0 (mkR (run E (φ 0))) (φ 0) n s (s.length:Int) k) (len:=s.length) (fun k=>∃ h:k<s.length,p s[k]=true) (fun o=>some ⟨o_Z85,(o2i o,())⟩) (fun _ _ _ _=>rfl) (fun k hk hP=>by
      obtain⟨_,hP⟩:=hP
      simp only[Z86.l0_succ _ qaf]
      refine qaC (decide_eq_true (by omega)) (qae (qaq hk) (qaa (hp _ (List.getElem_mem hk)) (qaC hP qam)))) (fun k q hk hP ih=>by
      simp only[Z86.l0_succ _ qaf]
      refine qaC (decide_eq_true (by omega)) (qae (qaq hk) (qaa (hp _ (List.getElem_mem hk)) (qaE (Bool.eq_false_iff.2 fun h=>hP ⟨hk,h⟩) ?_)))
      rw[qah (by omega)];exact ih) (by
      simp only[Z86.l0_succ _ qaf]
      exact qaE (decide_eq_false (by omega)) qam)
  rw[qc1 h1 h2] at h3
  refine qal ?_
  simp only[run_Z85,Z86.ev]
  exact Ev.start (p:=fun φ n=>Z86.l0 (mkR (run E (φ 0))) (φ 0) n s (s.length:Int) 0=_) 1 h3 (fun _ _ _ h=>h)
theorem qbq(s:List Int)(p:Int→Bool)(hs:s.length≤1048576)(hp:∀ x∈s,Ret E n_Z46 [⟨yI,x⟩] ⟨o_Z46,(p x,())⟩) :
    Ret E n_Z85 [⟨yL,s⟩,⟨(.fn n_Z46 .nil),()⟩] ⟨o_Z85,(qfU p s,())⟩:=by
  obtain⟨o,h1,h2,h3⟩:=qb1 1 (L:=fun φ n k=>Z87.l0 (mkR (run E (φ 0))) (φ 0) n s (s.length:Int) k) (len:=s.length) (fun k=>∃ h:k<s.length,p s[k]=true) (fun o=>some ⟨o_Z85,(o2i o,())⟩) (fun _ _ _ _=>rfl) (fun k hk hP=>by
      obtain⟨_,hP⟩:=hP
      simp only[Z87.l0_succ _ qaf]
      refine qaC (decide_eq_true (by omega)) (qae (qaq hk) (qaa (hp _ (List.getElem_mem hk)) (qaC hP qam)))) (fun k q hk hP ih=>by
      simp only[Z87.l0_succ _ qaf]
      refine qaC (decide_eq_true (by omega)) (qae (qaq hk) (qaa (hp _ (List.getElem_mem hk)) (qaE (Bool.eq_false_iff.2 fun h=>hP ⟨hk,h⟩) ?_)))
      rw[qah (by omega)];exact ih) (by
      simp only[Z87.l0_succ _ qaf]
      exact qaE (decide_eq_false (by omega)) qam)
  rw[qc1 h1 h2] at h3
  refine qal ?_
  simp only[run_Z85,Z87.ev]
  exact Ev.start (p:=fun φ n=>Z87.l0 (mkR (run E (φ 0))) (φ 0) n s (s.length:Int) 0=_) 1 h3 (fun _ _ _ h=>h)
theorem qbg(s:List Int)(p:Int→Bool)(hs:s.length≤1048576)(hp:∀ x∈s,Ret E n_Z50 [⟨yI,x⟩] ⟨o_Z50,(p x,())⟩) :
    Ret E n_Z85 [⟨yL,s⟩,⟨(.fn n_Z50 .nil),()⟩] ⟨o_Z85,(qfU p s,())⟩:=by
  obtain⟨o,h1,h2,h3⟩:=qb1 1 (L:=fun φ n k=>Z88.l0 (mkR (run E (φ 0))) (φ 0) n s (s.length:Int) k) (len:=s.length) (fun k=>∃ h:k<s.length,p s[k]=true) (fun o=>some ⟨o_Z85,(o2i o,())⟩) (fun _ _ _ _=>rfl) (fun k hk hP=>by
      obtain⟨_,hP⟩:=hP
      simp only[Z88.l0_succ _ qaf]
      refine qaC (decide_eq_true (by omega)) (qae (qaq hk) (qaa (hp _ (List.getElem_mem hk)) (qaC hP qam)))) (fun k q hk hP ih=>by
      simp only[Z88.l0_succ _ qaf]
      refine qaC (decide_eq_true (by omega)) (qae (qaq hk) (qaa (hp _ (List.getElem_mem hk)) (qaE (Bool.eq_false_iff.2 fun h=>hP ⟨hk,h⟩) ?_)))
      rw[qah (by omega)];exact ih) (by
      simp only[Z88.l0_succ _ qaf]
      exact qaE (decide_eq_false (by omega)) qam)
  rw[qc1 h1 h2] at h3
  refine qal ?_
  simp only[run_Z85,Z88.ev]
  exact Ev.start (p:=fun φ n=>Z88.l0 (mkR (run E (φ 0))) (φ 0) n s (s.length:Int) 0=_) 1 h3 (fun _ _ _ h=>h)
theorem qaV(s:List (List Int))(c:((vK×Unit)×(Int×Unit)×Unit))(p:(List Int)→Bool)(hs:s.length≤1048576)(hp:∀ x∈s,Ret E n_Z10 [⟨yL,x⟩,⟨(.ptr yC),c.1⟩,⟨(.ptr (.cons yI .nil)),c.2.1⟩] ⟨o_Z10,(p x,())⟩) :
  Ret E n_Z73 [⟨yK,s⟩,⟨(.fn n_Z10 (.cons (.ptr yC) (.cons (.ptr (.cons yI .nil)) .nil))),c⟩] ⟨o_Z73,(pb (∃ x∈s,p x=true),())⟩:=by
 refine qal ?_
 simp only[run_Z73,Z74.ev]
 refine qaa (qaY s c p hs hp) (qap ?_)
 simp only[ge_iff_le,qeu,qa0 qb8]
theorem qba(s:List (List Int))(c:((vK×Unit)×(vK×Unit)×((List Int)×Unit)×Unit))(p:(List Int)→Bool)(hs:s.length≤1048576)(hp:∀ x∈s,Ret E n_Z42 [⟨yL,x⟩,⟨(.ptr yC),c.1⟩,⟨(.ptr yC),c.2.1⟩,⟨(.ptr (.cons yL .nil)),c.2.2.1⟩] ⟨o_Z42,(p x,())⟩) :
  Ret E n_Z73 [⟨yK,s⟩,⟨(.fn n_Z42 (.cons (.ptr yC) (.cons (.ptr yC) (.cons (.ptr (.cons yL .nil)) .nil)))),c⟩] ⟨o_Z73,(pb (∃ x∈s,p x=true),())⟩:=by
 refine qal ?_
 simp only[run_Z73,Z75.ev]
 refine qaa (qbo s c p hs hp) (qap ?_)
 simp only[ge_iff_le,qeu,qa0 qb8]
theorem qaX(s:List Int)(p:Int→Bool)(hs:s.length≤1048576)(hp:∀ x∈s,Ret E n_Z13 [⟨yI,x⟩] ⟨o_Z13,(p x,())⟩) :
  Ret E n_Z76 [⟨yL,s⟩,⟨(.fn n_Z13 .nil),()⟩] ⟨o_Z76,(pb (∃ x∈s,p x=true),())⟩:=by
 refine qal ?_
 simp only[run_Z76,Z77.ev]
 refine qaa (qa4 s p hs hp) (qap ?_)
 simp only[ge_iff_le,qeu,qa0 qb8]
theorem qbe(s:List Int)(p:Int→Bool)(hs:s.length≤1048576)(hp:∀ x∈s,Ret E n_Z46 [⟨yI,x⟩] ⟨o_Z46,(p x,())⟩) :
  Ret E n_Z76 [⟨yL,s⟩,⟨(.fn n_Z46 .nil),()⟩] ⟨o_Z76,(pb (∃ x∈s,p x=true),())⟩:=by
 refine qal ?_
 simp only[run_Z76,Z78.ev]
 refine qaa (qbq s p hs hp) (qap ?_)
 simp only[ge_iff_le,qeu,qa0 qb8]
theorem qdJ(p:Int)(R C:Nat)(f:Nat→Nat→Int)(hR:R≤1048576)(hC:C≤1048576)(hRC:R*C≤1048576)(hf:∀ i j:Nat,i<R→j<C→Ret E n_Z63 [⟨yI,(i:Int)⟩,⟨yI,(j:Int)⟩] ⟨o_Z63,(f i j,())⟩) :
  Ret E n_Z31 [⟨yI,p⟩,⟨yI,(R:Int)⟩,⟨yI,(C:Int)⟩,⟨(.fn n_Z63 .nil),()⟩] ⟨o_Z31,(p,(R:Int),(C:Int),qat f C R,())⟩:=by
 refine qal ?_
 simp only[run_Z31,Z33.ev]
 refine Ev.start (p:=fun φ n=>Z33.l0 (mkR (run E (φ 0))) (φ 0) n (C:Int) (R:Int) 0 0 0 0 p (R:Int) (C:Int) []=_) 1 ?_ (fun _ _ _ h=>h)
 refine qas 1 (L:=fun φ n k a=>Z33.l0 (mkR (run E (φ 0))) (φ 0) n (C:Int) (R:Int) k 0 0 0 p (R:Int) (C:Int) a) (len:=R) (fun k=>qat f C k) (fun _ _ _ _ _=>rfl) (fun k r hk ih=>?_) ?_
 ·simp only[Z33.l0_succ _ qaf]
  refine qaC (decide_eq_true (by omega)) ?_
  refine Ev.start (p:=fun φ n=>Z33.l1 (mkR (run E (φ 0))) (φ 0) (φ 1) n (C:Int) (k:Int) (R:Int) (k:Int) (C:Int) 0 0 0 0 p (R:Int) (C:Int) (qat f C k)=_) 2 ?_ (fun _ _ _ h=>h)
  have hle:(k+1)*C≤R*C:=Nat.mul_le_mul_right _ hk
  rw[Nat.add_mul] at hle
  have:=qas 2 (L:=fun φ n j a=>Z33.l1 (mkR (run E (φ 0))) (φ 0) (φ 1) n (C:Int) (k:Int) (R:Int) (k:Int) (C:Int) j 0 0 0 p (R:Int) (C:Int) a) (len:=C) (fun j=>qat f C k++(List.range j).map (f k)) (r:=r) (fun _ _ _ _ _=>rfl) (fun j r hj ih=>?_) ?_
  ·simpa using this
  ·simp only[Z33.l1_succ _ qaf]
   rw[List.range_succ,List.map_append,← List.append_assoc] at ih
   refine qaC (decide_eq_true (by omega)) (qaa (hf k j hk hj) (qan (by simp[qaz];omega) ?_))
   rw[qah (by omega)];exact ih
  ·simp only[Z33.l1_succ _ qaf]
   refine qaE (decide_eq_false (by omega)) ?_
   rw[qah (by omega)];exact ih
 ·simp only[Z33.l0_succ _ qaf]
  exact qaE (decide_eq_false (by omega)) qam
theorem qcH(p:Int)(R C:Nat)(c:(vM×Unit))(f:Nat→Nat→Int)(hR:R≤1048576)(hC:C≤1048576)(hRC:R*C≤1048576)(hf:∀ i j:Nat,i<R→j<C→Ret E n_Z59 [⟨yI,(i:Int)⟩,⟨yI,(j:Int)⟩,⟨(.ptr yM),c.1⟩] ⟨o_Z59,(f i j,())⟩) :
  Ret E n_Z31 [⟨yI,p⟩,⟨yI,(R:Int)⟩,⟨yI,(C:Int)⟩,⟨(.fn n_Z59 (.cons (.ptr yM) .nil)),c⟩] ⟨o_Z31,(p,(R:Int),(C:Int),qat f C R,())⟩:=by
 refine qal ?_
 simp only[run_Z31,Z32.ev]
 refine Ev.start (p:=fun φ n=>Z32.l0 (mkR (run E (φ 0))) (φ 0) n (C:Int) c (R:Int) 0 0 0 0 p (R:Int) (C:Int) []=_) 1 ?_ (fun _ _ _ h=>h)
 refine qas 1 (L:=fun φ n k a=>Z32.l0 (mkR (run E (φ 0))) (φ 0) n (C:Int) c (R:Int) k 0 0 0 p (R:Int) (C:Int) a) (len:=R) (fun k=>qat f C k) (fun _ _ _ _ _=>rfl) (fun k r hk ih=>?_) ?_
 ·simp only[Z32.l0_succ _ qaf]
  refine qaC (decide_eq_true (by omega)) ?_
  refine Ev.start (p:=fun φ n=>Z32.l1 (mkR (run E (φ 0))) (φ 0) (φ 1) n (C:Int) c (k:Int) (R:Int) (k:Int) (C:Int) 0 0 0 0 p (R:Int) (C:Int) (qat f C k)=_) 2 ?_ (fun _ _ _ h=>h)
  have hle:(k+1)*C≤R*C:=Nat.mul_le_mul_right _ hk
  rw[Nat.add_mul] at hle
  have:=qas 2 (L:=fun φ n j a=>Z32.l1 (mkR (run E (φ 0))) (φ 0) (φ 1) n (C:Int) c (k:Int) (R:Int) (k:Int) (C:Int) j 0 0 0 p (R:Int) (C:Int) a) (len:=C) (fun j=>qat f C k++(List.range j).map (f k)) (r:=r) (fun _ _ _ _ _=>rfl) (fun j r hj ih=>?_) ?_
  ·simpa using this
  ·simp only[Z32.l1_succ _ qaf]
   rw[List.range_succ,List.map_append,← List.append_assoc] at ih
   refine qaC (decide_eq_true (by omega)) (qaa (hf k j hk hj) (qan (by simp[qaz];omega) ?_))
   rw[qah (by omega)];exact ih
  ·simp only[Z32.l1_succ _ qaf]
   refine qaE (decide_eq_false (by omega)) ?_
   rw[qah (by omega)];exact ih
 ·simp only[Z32.l0_succ _ qaf]
  exact qaE (decide_eq_false (by omega)) qam
end VeT
open Go Go.Proofs Ve
namespace VeT
abbrev cM:Ty:=.cons yI (.cons yI (.cons yI (.cons yL .nil)))
abbrev cC:Ty:=.cons yK .nil
abbrev cS:Ty:=.cons yK (.cons yI (.cons yL (.cons (.sl (.st cM)) .nil)))
abbrev Mat:=Int×Int×Int×List Int×Unit
abbrev Cpx:=List (List Int)×Unit
abbrev Shf:=List (List Int)×Int×List Int×List Mat×Unit
abbrev Sim:=List Int
abbrev dI(x:Int):Dv:=⟨.int .i64,x⟩
abbrev dL(x:List Int):Dv:=⟨.sl yI,x⟩
abbrev dLL(x:List (List Int)):Dv:=⟨.sl yL,x⟩
abbrev dC(x:Cpx):Dv:=⟨.ptr cC,x⟩
abbrev dM(x:Mat):Dv:=⟨.ptr cM,x⟩
abbrev dS(x:Shf):Dv:=⟨.ptr cS,x⟩
abbrev dMs(x:List Mat):Dv:=⟨.sl (.st cM),x⟩
theorem qfC(n lo hi:Int):Ret E n_Z61 [dI n,dI lo,dI hi] ⟨o_Z61,(pb (lo≤n∧n≤hi),())⟩:=by
 refine qal ?_
 simp only[run_Z61,Z61.ev]
 refine qei (fun h=>qap ?_) fun h=>qap ?_
 ·rw[qeu,qa0 (show n≤hi↔lo≤n∧n≤hi by omega)]
 ·rw[qav (by omega)]
theorem qdZ(n lo hi:Int):Ret E n_Z96 [dI n,dI lo,dI hi] ⟨o_Z96,(pb (lo≤n∧n≤hi),())⟩:=by
 refine qal ?_
 simp only[run_Z96,Z96.ev]
 refine qei (fun h=>qap ?_) fun h=>qap ?_
 ·rw[qeu,qa0 (show n≤hi↔lo≤n∧n≤hi by omega)]
 ·rw[qav (by omega)]
theorem qjn(n:Int):Ret E n_Z44 [dI n] ⟨o_Z44,(pb (0≤n∧n≤9),())⟩:=by
 refine qal ?_
 simp only[run_Z44,Z44.ev]
 exact qaa (qfC _ _ _) qam
theorem qfb(n:Int):Ret E n_Z13 [dI n] ⟨o_Z13,(!pb (0≤n∧n≤9),())⟩:=by
 refine qal ?_
 simp only[run_Z13,Z13.ev]
 exact qaa (qjn _) qam
def qhU(s:Sim):Prop:=∀ j,1≤j→j<s.length→s.getD (j-1) 0<s.getD j 0
theorem qj6(s:Sim)(hs:Sm yL s):Ret E n_Z43 [dL s] ⟨o_Z43,(pb (qhU s),())⟩:=by
 have hs1:s.length≤1048576:=hs.1
 refine qal ?_
 simp only[run_Z43,Z43.ev]
 by_cases h0:s.length=0
 ·refine Ev.start (p:=fun φ n=>Z43.l0 (mkR (run E (φ 0))) (φ 0) n s 1=_) 1 ?_ (fun _ _ _ h=>h)
  refine qez 1 (σ:=Unit) (L:=fun φ n _=>Z43.l0 (mkR (run E (φ 0))) (φ 0) n s 1) (fun _ _ _ _=>rfl) (fun _=>True) (fun _=>_) (fun _=>0) (fun _ _ _=>?_) () trivial
  simp only[Z43.l0_succ _ qaf]
  refine qaE (decide_eq_false (by omega)) (qap ?_)
  rw[qaB]
  intro j h1 h2;omega
 ·refine Ev.start (p:=fun φ n=>Z43.l0 (mkR (run E (φ 0))) (φ 0) n s 1=_) 1 ?_ (fun _ _ _ h=>h)
  refine qg7 1 (L:=fun φ n k=>Z43.l0 (mkR (run E (φ 0))) (φ 0) n s k) (len:=s.length) 1 (by omega) (fun j=>s.getD (j-1) 0<s.getD j 0) (fun b=>some ⟨o_Z43,(b,())⟩) (fun _ _ _ _=>rfl) (fun k h1 h2 hP _=>?_) (fun k r h1 h2 hP _ ih=>?_) (fun _=>?_)
  ·simp only[Z43.l0_succ _ qaf]
   refine qaC (decide_eq_true (by omega)) ?_
   rw[qaj (by omega) (by omega),show((k:Int)-1)=((k-1:Nat):Int) by omega]
   refine qae (qaq (by omega)) (qae (qaq h2) (qaC (decide_eq_true ?_) qam))
   simpa [List.getD_eq_getElem?_getD,h2,show k-1<s.length by omega] using hP
  ·simp only[Z43.l0_succ _ qaf]
   refine qaC (decide_eq_true (by omega)) ?_
   rw[qaj (by omega) (by omega),show((k:Int)-1)=((k-1:Nat):Int) by omega]
   refine qae (qaq (by omega)) (qae (qaq h2) (qaE (decide_eq_false ?_) ?_))
   ·simpa [List.getD_eq_getElem?_getD,h2,show k-1<s.length by omega] using hP
   ·rw[qah (by omega)];exact ih
  ·simp only[Z43.l0_succ _ qaf]
   exact qaE (decide_eq_false (by omega)) qam
end VeT
open Go Go.Proofs Ve
namespace VeT
def Vx(s:Sim):Prop:=1≤s.length∧s.length≤4∧qhU s∧∀ x∈s,0≤x∧x≤9
theorem qdH(s:Sim)(hs:Sm yL s):Ret E n_Z12 [dL s] ⟨o_Z12,(pb (Vx s),())⟩:=by
 refine qal ?_
 simp only[run_Z12,Z12.ev]
 refine qei (fun h1=>qei (fun h2=>qaa (qj6 s hs) (qfs (fun h3=>qaa (qaX s _ hs.1 fun x _=>qfb x) (qap ?_)) fun h3=>qap ?_)) fun h2=>qap ?_) fun h1=>qap ?_
 ·have h3:=qa2.1 h3
  have:(!pb (∃ x∈s,(!pb (0≤x∧x≤9))=true))=pb (Vx s):=qkF (by
   simp only[Bool.not_eq_true',qc6]
   exact⟨fun h=>⟨by omega,by omega,h3,fun x hx=>Classical.byContradiction fun hn=>h ⟨x,hx,hn⟩⟩,fun h ⟨x,hx,hn⟩=>hn (h.2.2.2 x hx)⟩)
  rw[this]
 ·rw[qav fun h=>qc6.1 h3 h.2.2.1]
 ·rw[qav fun h=>h2 (by have:=h.2.1;omega)]
 ·rw[qav fun h=>h1 (by have:=h.1;omega)]
theorem qjM(s:Sim)(lo hi:Int)(hs:Sm yL s):Ret E n_Z99 [dL s,dI lo,dI hi] ⟨o_Z99,(pb (qhU s∧∀ x∈s,lo≤x∧x≤hi),())⟩:=by
 have hs1:s.length≤1048576:=hs.1
 refine qal ?_
 simp only[run_Z99,Z99.ev]
 refine Ev.start (p:=fun φ n=>Z99.l0 (mkR (run E (φ 0))) (φ 0) n s lo hi 0=_) 1 ?_ (fun _ _ _ h=>h)
 refine(qg7 1 (L:=fun φ n k=>Z99.l0 (mkR (run E (φ 0))) (φ 0) n s lo hi k) (len:=s.length) 0 (by omega) (fun j=>(lo≤s.getD j 0∧s.getD j 0≤hi)∧(1≤j→s.getD (j-1) 0<s.getD j 0)) (fun b=>some ⟨o_Z99,(b,())⟩) (fun _ _ _ _=>rfl) (fun k h1 h2 hP _=>?_) (fun k r h1 h2 hP _ ih=>?_) (fun _=>?_)).to ?_
 ·simp only[Z99.l0_succ _ qaf]
  refine qaC (decide_eq_true (by omega)) (qae (qaq h2) (qaa (qdZ _ _ _) ?_))
  have e:s.getD k 0=s[k]:=by simp[List.getD_eq_getElem?_getD,h2]
  rw[e] at hP
  refine qfs (fun _=>?_) (fun hin=>?_)
  ·simp only[Z99.j1_eq _ qaf,cond_true];(first | exact qam | exact Ev.of fun _=>trivial)
  ·have hin:lo≤s[k]∧s[k]≤hi:=qa2.1 (by simpa using hin)
   have hk:1≤k:=Classical.byContradiction fun h=>hP ⟨hin,fun h'=>absurd h' h⟩
   refine qaC (decide_eq_true (by omega)) ?_
   rw[qaj (by omega) (by omega),show((k:Int)-1)=((k-1:Nat):Int) by omega]
   refine qae (qaq (by omega)) (qae (qaq h2) ?_)
   have e':s.getD (k-1) 0=s[k-1]:=by simp[List.getD_eq_getElem?_getD,show k-1<s.length by omega]
   rw[e'] at hP
   have:decide (s[k-1]≥s[k])=true:=decide_eq_true (Classical.byContradiction fun h=>hP ⟨hin,fun _=>by omega⟩)
   simp only[this,Z99.j1_eq _ qaf,cond_true];(first | exact qam | exact Ev.of fun _=>trivial)
 ·simp only[Z99.l0_succ _ qaf]
  refine qaC (decide_eq_true (by omega)) (qae (qaq h2) (qaa (qdZ _ _ _) ?_))
  have e:s.getD k 0=s[k]:=by simp[List.getD_eq_getElem?_getD,h2]
  rw[e] at hP
  refine qaE (by rw[qaB hP.1];rfl) ?_
  refine qei (fun hk=>?_) fun hk=>?_
  ·rw[qaj (by omega) (by omega),show((k:Int)-1)=((k-1:Nat):Int) by omega]
   refine qae (qaq (by omega)) (qae (qaq h2) ?_)
   have e':s.getD (k-1) 0=s[k-1]:=by simp[List.getD_eq_getElem?_getD,show k-1<s.length by omega]
   rw[e'] at hP
   have:decide (s[k-1]≥s[k])=false:=decide_eq_false (by have:=hP.2 (by omega);omega)
   simp only[this,Z99.j1_eq _ qaf,cond_false]
   rw[qah (by omega)];exact ih
  ·simp only[Z99.j1_eq _ qaf,cond_false]
   rw[qah (by omega)];exact ih
 ·simp only[Z99.l0_succ _ qaf]
  exact qaE (decide_eq_false (by omega)) qam
 ·refine congrArg (fun b:Bool=>some (⟨o_Z99,(b,())⟩:Dv)) (qa0 ⟨fun h=>⟨fun j h1 h2=>(h j (by omega) h2).2 h1,fun x hx=>?_⟩,fun⟨h1,h2⟩ j _ hj=>⟨?_,fun h3=>h1 j h3 hj⟩⟩)
  ·obtain⟨j,hj,rfl⟩:=List.mem_iff_getElem.1 hx
   simpa [List.getD_eq_getElem?_getD,hj] using (h j (by omega) hj).1
  ·simpa [List.getD_eq_getElem?_getD,hj] using h2 _ (List.getElem_mem hj)
theorem qeq(s:Sim)(hs:Sm yL s):Ret E n_Z125 [dL s] ⟨o_Z125,(pb (Vx s),())⟩:=by
 refine qal ?_
 simp only[run_Z125,Z125.ev]
 refine qaa (qdZ _ _ _) (qfs (fun h1=>qaa (qjM s _ _ hs) (qap ?_)) fun h1=>qap ?_)
 ·have h1:=qa2.1 h1
  exact congrArg (fun b:Bool=>some (⟨o_Z125,(b,())⟩:Dv)) (qa0 ⟨fun h=>⟨by omega,by omega,h.1,h.2⟩,fun h=>⟨h.2.2.1,h.2.2.2⟩⟩)
 ·rw[qav fun h=>qc6.1 h1 ⟨by have:=h.1;omega,by have:=h.2.1;omega⟩]
def qhR(a b:Int):Int:=if a<b then -1 else if b<a then 1 else 0
def qef:Sim→Sim→Int
 | [],[]=>0
 | [],_::_=>-1
 | _::_,[]=>1
 | x::xs,y::ys=>if x<y then -1 else if y<x then 1 else qef xs ys
def qdi(a b:Sim):Int:=if qhR a.length b.length≠0 then qhR a.length b.length else qef a b
theorem qdL{a b:Int}:qhR a b=0↔a=b:=by unfold qhR;split<;>(try split)<;>omega
theorem qoa{a b:Int}:qhR b a=- qhR a b:=by unfold qhR;split<;>split<;>(try split)<;>omega
theorem qnj{a b:Int}:qhR a b<0↔a<b:=by unfold qhR;split<;>(try split)<;>omega
theorem qnA:∀ {a b:Sim},qef a b=0↔a=b
 | [],[]=>by simp[qef]
 | [],_::_=>by simp[qef]
 | _::_,[]=>by simp[qef]
 | x::xs,y::ys=>by
  have:=@qnA xs ys
  simp only[qef,List.cons.injEq]
  split
  ·constructor
   ·intro h;omega
   ·rintro⟨rfl,_⟩;omega
  ·split
   ·constructor
    ·intro h;omega
    ·rintro⟨rfl,_⟩;omega
   ·rw[this];constructor
    ·intro h;exact⟨by omega,h⟩
    ·exact fun h=>h.2
theorem qlL:∀ {a b:Sim},qef b a=- qef a b
 | [],[]=>by simp[qef]
 | [],_::_=>by simp[qef]
 | _::_,[]=>by simp[qef]
 | x::xs,y::ys=>by
  have:=@qlL xs ys
  simp only[qef]
  split<;>split<;>(try split)<;>omega
theorem qh2:∀ {a b c:Sim},qef a b<0→qef b c<0→qef a c<0
 | [],[],c,h,_=>by simp[qef] at h
 | [],_::_,[],_,h=>by simp[qef] at h
 | [],_::_,_::_,_,_=>by simp[qef]
 | _::_,[],_,h,_=>by simp[qef] at h
 | _::_,_::_,[],_,h=>by simp[qef] at h
 | x::xs,y::ys,z::zs,h1,h2=>by
  have:=@qh2 xs ys zs
  simp only[qef] at h1 h2 ⊢
  split at h1<;>split at h2<;>(try split at h1)<;>(try split at h2)<;>(try split)<;>(try split)<;>first | omega | (exact this h1 h2)
theorem qcE{a b:Sim}:qdi a b=0↔a=b:=by
 unfold qdi
 split
 ·rename_i h
  exact⟨fun h'=>absurd h' h,fun h'=>absurd (qdL.2 (by rw[h'])) h⟩
 ·exact qnA
theorem qlf{a b:Sim}:qdi b a=- qdi a b:=by
 unfold qdi
 rw[@qoa a.length b.length]
 split<;>split<;>first | omega | exact qlL
theorem qgD{a b:Sim}:qdi a b<0↔a.length<b.length∨a.length=b.length∧qef a b<0:=by
 unfold qdi
 split
 ·rename_i h
  rw[qnj]
  rw[Ne,qdL] at h
  omega
 ·rename_i h
  rw[Classical.not_not,qdL] at h
  omega
theorem qfM{a b c:Sim}(h1:qdi a b<0)(h2:qdi b c<0):qdi a c<0:=by
 rw[qgD] at *
 rcases h1 with h1 | ⟨h1,h1'⟩<;>rcases h2 with h2 | ⟨h2,h2'⟩
 ·left;omega
 ·left;omega
 ·left;omega
 ·right;exact⟨by omega,qh2 h1' h2'⟩
theorem qh1(a:Int):Ret E n_Z3 [dI a] ⟨o_Z3,(false,())⟩:=by
 refine qal ?_
 simp only[run_Z3,Z3.ev]
 exact qap (by simp)
theorem qjP(a:Int):Ret E n_Z4 [dI a] ⟨o_Z4,(false,())⟩:=by
 refine qal ?_
 simp only[run_Z4,Z4.ev]
 exact qap (by simp)
theorem qjb(a b:Int):Ret E n_Z0 [dI a,dI b] ⟨o_Z0,(qhR a b,())⟩:=by
 refine qal ?_
 simp only[run_Z0,Z0.ev]
 refine qaa (qh1 _) (qaa (qh1 _) (qaE rfl (qaE rfl (qei (fun h=>qap ?_) fun h=>qei (fun h2=>qap ?_) fun h2=>qap ?_))))
 ·rw[qhR,if_pos h]
 ·rw[qhR,if_neg h,if_pos h2]
 ·rw[qhR,if_neg h,if_neg h2]
theorem qkS(a b:Int):Ret E n_Z1 [dI a,dI b] ⟨o_Z1,(qhR a b,())⟩:=by
 refine qal ?_
 simp only[run_Z1,Z1.ev]
 refine qaa (qjP _) (qaa (qjP _) (qaE rfl (qaE rfl (qei (fun h=>qap ?_) fun h=>qei (fun h2=>qap ?_) fun h2=>qap ?_))))
 ·rw[qhR,if_pos h]
 ·rw[qhR,if_neg h,if_pos h2]
 ·rw[qhR,if_neg h,if_neg h2]
theorem qgU{a b:Sim}{k:Nat}(h:k<a.length)(h':k<b.length):qef (a.drop k) (b.drop k)=if qhR a[k] b[k]≠0 then qhR a[k] b[k] else qef (a.drop (k+1)) (b.drop (k+1)):=by
 rw[List.drop_eq_getElem_cons h,List.drop_eq_getElem_cons h',qef]
 unfold qhR
 split
 ·simp
 ·split
  ·simp
  ·simp
theorem qgk(a b:Sim)(ha:Sm yL a):Ret E n_Z71 [dL a,dL b] ⟨o_Z71,(qef a b,())⟩:=by
 have ha1:a.length≤1048576:=ha.1
 refine qal ?_
 simp only[run_Z71,Z71.ev]
 refine Ev.start (p:=fun φ n=>Z71.l0 (mkR (run E (φ 0))) (φ 0) n a b a (a.length:Int) 0=_) 1 ?_ (fun _ _ _ h=>h)
 refine qez 1 (σ:=Nat) (L:=fun φ n k=>Z71.l0 (mkR (run E (φ 0))) (φ 0) n a b a (a.length:Int) (k:Int)) (fun _ _ _ _=>rfl) (fun k=>k≤a.length∧k≤b.length) (fun k=>some ⟨o_Z71,(qef (a.drop k) (b.drop k),())⟩) (fun k=>a.length-k) (fun k ⟨hk,hkb⟩ ih=>?_) 0 ⟨Nat.zero_le _,Nat.zero_le _⟩
 simp only[Z71.l0_succ _ qaf]
 refine qei (fun h=>?_) fun h=>?_
 ·have hka:k<a.length:=by omega
  refine qae (qaq hka) (qei (fun h2=>qap ?_) fun h2=>?_)
  ·rw[List.drop_eq_getElem_cons hka,List.drop_of_length_le (l:=b) (by omega),qef]
  ·have hkb:k<b.length:=by omega
   refine qae (qaq hkb) (qaa (qkS _ _) (qfs (fun h3=>qap ?_) fun h3=>?_))
   ·rw[qgU hka hkb,if_pos (by simpa using h3)]
   ·rw[qah (by omega)]
    refine(ih (k+1) ⟨by omega,by omega⟩ (by omega)).to ?_
    rw[qgU hka hkb,if_neg (by simpa using h3)]
 ·have e:k=a.length:=by omega
  subst e
  refine qei (fun h2=>qap ?_) fun h2=>qap ?_
  ·rw[List.drop_of_length_le (l:=a) (by omega),List.drop_eq_getElem_cons (l:=b) (by omega),qef]
  ·rw[List.drop_of_length_le (l:=a) (by omega),List.drop_of_length_le (l:=b) (by omega),qef]
theorem qpi(a b:Int):Ret E n_Z2 [dL [a,b]] ⟨o_Z2,(if a≠0 then a else b,())⟩:=by
 refine qal ?_
 simp only[run_Z2,Z2.ev]
 refine Ev.start (p:=fun φ n=>Z2.l0 (mkR (run E (φ 0))) (φ 0) n 0 [a,b] ([a,b].length:Int) 0=_) 1 ?_ (fun _ _ _ h=>h)
 refine Ev.round 1 (L:=fun φ n=>Z2.l0 (mkR (run E (φ 0))) (φ 0) n 0 [a,b] ([a,b].length:Int) 0) ?_ (fun _ _ _=>rfl)
 simp only[Z2.l0_succ _ qaf]
 refine qaC (by simp) (qae (x:=a) rfl (qfs (fun h=>qap ?_) fun h=>?_))
 ·rw[if_pos (by simpa using h)]
 ·rw[if_neg (by simpa using h)]
  rw[show w64 ((0:Int)+1)=1 by decide]
  refine Ev.round 1 (L:=fun φ n=>Z2.l0 (mkR (run E (φ 0))) (φ 0) n 0 [a,b] ([a,b].length:Int) 1) ?_ (fun _ _ _=>rfl)
  simp only[Z2.l0_succ _ qaf]
  refine qaC (by simp) (qae (x:=b) rfl (qfs (fun h=>qam) fun h=>?_))
  rw[show w64 ((1:Int)+1)=2 by decide]
  refine Ev.round 1 (L:=fun φ n=>Z2.l0 (mkR (run E (φ 0))) (φ 0) n 0 [a,b] ([a,b].length:Int) 2) ?_ (fun _ _ _=>rfl)
  simp only[Z2.l0_succ _ qaf]
  refine qaE (by simp) (qap ?_)
  have:b=0:=by simpa using h
  rw[this]
theorem qa5(a b:Sim)(ha:Sm yL a):Ret E n_Z22 [dL a,dL b] ⟨o_Z22,(qdi a b,())⟩:=by
 refine qal ?_
 simp only[run_Z22,Z22.ev]
 exact qaa (qjb _ _) (qaa (qgk a b ha) (qaa (qpi _ _) qam))
theorem qcp(a b:Sim)(ha:Sm yL a):Ret E n_Z113 [dL a,dL b] ⟨o_Z113,(pb (qdi a b<0),())⟩:=by
  have ha1:a.length≤1048576:=ha.1
  refine qal ?_
  simp only[run_Z113,Z113.ev]
  refine qfs (fun h=>qap ?_) fun h=>?_
  · have h:(a.length:Int)≠b.length:=by simpa using h
    rw[qeu,qa0 (show(a.length:Int)<b.length↔qdi a b<0 by rw[qgD];omega)]
  · have h : a.length = b.length := by have : (a.length : Int) = b.length := by simpa using h
                                       omega
    refine Ev.start (p:=fun φ n=>Z113.l0 (mkR (run E (φ 0))) (φ 0) n a b 0=_) 1 ?_ (fun _ _ _ h=>h)
    refine(qez 1 (σ:=Nat) (L:=fun φ n k=>Z113.l0 (mkR (run E (φ 0))) (φ 0) n a b (k:Int)) (fun _ _ _ _=>rfl) (fun k=>k≤a.length) (fun k=>some ⟨o_Z113,(pb (qef (a.drop k) (b.drop k)<0),())⟩) (fun k=>a.length-k) (fun k hk ih=>?_) 0 (Nat.zero_le _)).to ?_
    · simp only[Z113.l0_succ _ qaf]
      refine qei (fun h1=>?_) fun h1=>?_
      · have hka:k<a.length:=by omega
        have hkb:k<b.length:=by omega
        have e:=qgU hka hkb
        refine qae (qaq hka) (qae (qaq hkb) (qfs (fun h3=>?_) fun h3=>?_))
        · refine qae (qaq hka) (qae (qaq hkb) (qap ?_))
          have h3:a[k]≠b[k]:=by simpa using h3
          rw[if_pos (by rw[Ne,qdL];exact h3)] at e
          rw[e,qeu,qa0 qnj]
        · have h3:a[k]=b[k]:=by simpa using h3
          rw[if_neg (by rw[Classical.not_not,qdL];exact h3)] at e
          rw[qah (by omega),e]
          exact ih (k+1) (by show k+1≤_;omega) (by show a.length-(k+1)<_;omega)
      · refine qap ?_
        have hk:k≤a.length:=hk
        have e:k=a.length:=by omega
        subst e
        rw[List.drop_of_length_le (l:=a) (by omega),List.drop_of_length_le (l:=b) (by omega),qef,qav (by omega)]
    · refine congrArg (fun b:Bool=>some (⟨o_Z113,(b,())⟩:Dv)) (qa0 ?_)
      simp only[List.drop_zero];rw[qgD];omega
end VeT
