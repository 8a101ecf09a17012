import Derived.Test.YtjnnliedeobfgaaGreatT3
import Derived.Test.YtjnnliedeobfgaaGreatV2
import Derived.Test.YtjnnliedeobfgaaGreatT4
import Derived.Test.YtjnnliedeobfgaaGreatT5
import Derived.Test.YtjnnliedeobfgaaGreatProg
import Derived.KernelRfl
import Derived.WalkKit
import Derived.Lib.Walk
import Derived.Lib.SliceRun
import Derived.Lib.AppendZerosOnto
set_option linter.unusedVariables false
set_option linter.unusedSimpArgs false
open Go Go.Proofs Ve
set_option maxRecDepth 100000
namespace VeT
noncomputable section
abbrev q4_0(R:Run)(N:Nat):=kS R pol_Z113 7 N [1,1] F_Z113
abbrev q4_1(R:Run)(N:Nat):=kS R pol_Z33 14 N [1,1,1,1] F_Z33
abbrev q4_2(R:Run)(N:Nat):=kS R pol_Z88 30 N [1,1,1,1,1,1,1,1,1,1,1,1,1,1,1] F_Z88
abbrev q4_3(R:Run)(N:Nat):=lC R pol_Z113 2 N [1,0,1,0,0] F_Z113
abbrev q4_4(R:Run):=kB R pol_Z113 0
def Z150.l1(R:Run)(N a n:Nat)(b:vM)(e:List Int)(f g h i j:Int)(k:List Int)(l:vK)(m:List Int):Option Dv:=R.w (some ⟨(.c (.ip yM b 0)::(V.dead::(V.dead::(.c (.box 3 0)::(.c (.d yL e)::(V.dead::(.c (.arr 16)::(.c (.d yI f)::(.c (.arr 32)::(.c (.d yI g)::(zd 61 []))))))))))),(zo 3 (some (.box [.d yI h,.d yI i,.d yI j,.d yL k] false false)::(zo 12 (some (.arr yL l true false false)::(zo 15 (some (.arr yI m true false false)::(zo 39 [])))))))⟩) fun st=>lC R pol_Z150 10 N [1,1,1,0,1,0,0,1,0,0,1,1,1,0,1,0,0] F_Z150 n st (kB R pol_Z150 2 (kS R pol_Z150 13 N [1,1,1,0,1,0,0,1,0,0,1,1,1,1] F_Z150 (kB R pol_Z150 1 (kS R pol_Z150 5 N [1,1,1,0,1,0,0,1,1] F_Z150 (kL R pol_Z150 4 N [1,1,1,0,1,0,0] F_Z150 a (kB R pol_Z150 0 (kS R pol_Z150 14 N [1,1,1,1] F_Z150 (qs2 E sg_Z150 F_Z150))))))))
def Z150.l0(R:Run)(N n:Nat)(a:vM)(b:List Int)(e f g h:Int)(i:List Int)(j:vK):Option Dv:=R.w (some ⟨(.c (.ip yM a 0)::(V.dead::(V.dead::(.c (.box 3 0)::(.c (.d yL b)::(V.dead::(.c (.arr 16)::(.c (.d yI e)::(zd 63 []))))))))),(zo 3 (some (.box [.d yI f,.d yI g,.d yI h,.d yL i] false false)::(zo 12 (some (.arr yL j true false false)::(zo 55 [])))))⟩) fun st=>lC R pol_Z150 4 N [1,1,1,0,1,0,0] F_Z150 n st (kB R pol_Z150 0 (kS R pol_Z150 14 N [1,1,1,1] F_Z150 (qs2 E sg_Z150 F_Z150)))
theorem Z150.l1_succ(R:Run)(hw:R.ok)(N a n:Nat)(b:vM)(c:List Int)(d e f g h:Int)(i:List Int)(j:vK)(k:List Int):Z150.l1 R N a (n+1) b c d e f g h i j k=(bif (decide (e<(List.length c:Int))) then((idx? c e).bind fun y29=>((idx? i (w64 ((w64 (e*b.2.2.1))+d))).bind fun y30=>((qlI R n_Z151 o_Z151 [⟨yI,(w64 (0-(y30,()).1))⟩,⟨yI,b.1⟩]).bind fun r31=>((chk (decide (0≤(y29,()).1)&&decide ((y29,()).1<(List.length k:Int)))).bind fun _=>(Z150.l1 R N a n b c d (w64 (e+1)) f g h i j (List.set k (Int.toNat (y29,()).1) r31.1)))))) else((chk (decide ((List.length j+List.length [k])*24≤70368744177664))).bind fun _=>(Z150.l0 R N a b c (w64 (d+1)) f g h i (j++[k])))):=(hw _ _).trans (by kernel_rfl)
theorem Z150.l0_succ(R:Run)(hw:R.ok)(N n:Nat)(a:vM)(b:List Int)(c d e f:Int)(g:List Int)(h:vK):Z150.l0 R N (n+1) a b c d e f g h=(bif (decide (c<a.2.2.1)) then((qlI R n_Z129 o_Z129 [⟨yL,b⟩,⟨yI,c⟩]).bind fun r10=>(bif r10.1 then(Z150.l0 R N n a b (w64 (c+1)) d e f g h) else((chk (decide (0≤a.2.2.1)&&decide (a.2.2.1*8≤70368744177664))).bind fun _=>((chk (decide (0≤c)&&decide (c<(List.length (List.replicate (Int.toNat a.2.2.1) (0:Int)):Int)))).bind fun _=>(Z150.l1 R N n N a b c (0:Int) d e f g h (List.set (List.replicate (Int.toNat a.2.2.1) (0:Int)) (Int.toNat c) (1:Int))))))) else some ⟨o_Z150,(h,())⟩):=(hw _ _).trans (by kernel_rfl)
theorem Z150.ev(R:Run)(N:Nat)(a0:vM):qsy E R sg_Z150 pol_Z150 F_Z150 N [⟨(.ptr yM),a0⟩]=((qlI R n_Z154 o_Z154 [⟨(.ptr yM),a0⟩]).bind fun r1=>(Z150.l0 R N N a0 r1.2.2.2.2.1 (0:Int) r1.1 r1.2.1 r1.2.2.1 r1.2.2.2.1 ([]:List (List Int)))):=by kernel_rfl
theorem Z197.ev(R:Run)(N:Nat)(a0 a1:Int)(a2:vK):qsy E R sg_Z197 pol_Z197 F_Z197 N [⟨yI,a0⟩,⟨yI,a1⟩,⟨yK,a2⟩]=((qlI R n_Z159 o_Z159 [⟨yI,a0⟩,⟨yI,a1⟩,⟨yK,a2⟩]).bind fun r1=>((qlI R n_Z150 o_Z150 [⟨(.ptr yM),(r1.1,r1.2.1,r1.2.2.1,r1.2.2.2.1,())⟩]).bind fun r2=>some ⟨o_Z197,(r2.1,())⟩)):=by kernel_rfl
def Z195.j1(R:Run)(N:Nat)(a:Int)(b:vK)(e:Int)(f:List Int)(g:vN)(h i:List Int)(j k:Int):Option Dv:=R.w (some ⟨(V.dead::(V.dead::(.c (.box 2 0)::(V.dead::(.c (.box 4 0)::(V.dead::(.c (.arr 25)::(zd 54 [])))))))),(none::(none::(some (.box [.nils yL,.d yI a,.nils yI,.nils (.st yM)] false false)::(none::(some (.box [.d yK b,.d yI e,.d yL f,.d yN g] false false)::(zo 20 (some (.arr yI h true false false)::(zo 35 (some (.box [.d (.sl (.int .u8)) i,.d yI j,.d (.int .u64) k] false true)::(none::[]))))))))))⟩) fun st=>eC R pol_Z195 N [1,1,1,1,1,1,1,1,1] F_Z195 st (qs2 E sg_Z195 F_Z195)
def Z195.l0(R:Run)(N n:Nat)(a:vK)(b e:Int)(f:vK)(g:Int)(h:List Int)(i:vN)(j k:List Int)(l m:Int):Option Dv:=R.w (some ⟨(.c (.box 61 0)::(V.dead::(.c (.box 2 0)::(V.dead::(.c (.box 4 0)::(V.dead::(.c (.arr 25)::(.c (.d yK a)::(.c (.d yI b)::(zd 52 [])))))))))),(none::(none::(some (.box [.nils yL,.d yI e,.nils yI,.nils (.st yM)] false false)::(none::(some (.box [.d yK f,.d yI g,.d yL h,.d yN i] false false)::(zo 20 (some (.arr yI j true false false)::(zo 35 (some (.box [.d (.sl (.int .u8)) k,.d yI l,.d (.int .u64) m] false true)::(none::[]))))))))))⟩) fun st=>lC R pol_Z195 10 N [1,1,1,1,1,1,1,0,1,0,0] F_Z195 n st (kB R pol_Z195 0 (kS R pol_Z195 13 N [1,1,1,1,1,1,1,1] F_Z195 (qs2 E sg_Z195 F_Z195)))
theorem Z195.j1_eq(R:Run)(hw:R.ok)(N:Nat)(a:Int)(b:vK)(c:Int)(d:List Int)(e:vN)(f g:List Int)(h i:Int):Z195.j1 R N a b c d e f g h i=some ⟨o_Z195,(b,c,d,e,f,(g,h,i,()),())⟩:=(hw _ _).trans (by kernel_rfl)
theorem Z195.l0_succ(R:Run)(hw:R.ok)(N n:Nat)(a:vK)(b c:Int)(d:vK)(e:Int)(f:List Int)(g:vN)(h i:List Int)(j k:Int):Z195.l0 R N (n+1) a b c d e f g h i j k=(bif (decide (b<(List.length a:Int))) then((idx? a b).bind fun y19=>((qlI R n_Z139 o_Z139 [⟨(.ptr yR),(i,j,k,())⟩,⟨yI,e⟩]).bind fun r20=>((qlI R n_Z140 o_Z140 [⟨yL,h⟩,⟨yL,(y19,()).1⟩,⟨yI,r20.1⟩,⟨yI,e⟩]).bind fun r21=>(Z195.l0 R N n a (w64 (b+1)) c d e f g r21.1 r20.2.1.1 r20.2.1.2.1 r20.2.1.2.2.1)))) else((qlI R n_Z138 o_Z138 [⟨(.ptr yR),(i,j,k,())⟩,⟨yI,(12:Int)⟩]).bind fun r33=>(bif r33.1 then((qlI R n_Z136 o_Z136 [⟨(.ptr yR),(r33.2.1.1,r33.2.1.2.1,r33.2.1.2.2.1,())⟩,⟨yL,[(0:Int),e]⟩]).bind fun r34=>((chk (decide ((List.length h+List.length [r34.1])*8≤70368744177664))).bind fun _=>(Z195.j1 R N c d e f g (h++[r34.1]) r34.2.1.1 r34.2.1.2.1 r34.2.1.2.2.1))) else(Z195.j1 R N c d e f g h r33.2.1.1 r33.2.1.2.1 r33.2.1.2.2.1)))):=(hw _ _).trans (by kernel_rfl)
theorem Z195.ev(R:Run)(N:Nat)(a0:((List Int)×Int×Int×Unit)):qsy E R sg_Z195 pol_Z195 F_Z195 N [⟨(.ptr yR),a0⟩]=((qlI R n_Z175 o_Z175 [⟨(.ptr yR),(a0.1,a0.2.1,a0.2.2.1,())⟩]).bind fun r1=>((qlI R n_Z183 o_Z183 [⟨(.ptr yS),(r1.1,r1.2.1,r1.2.2.1,r1.2.2.2.1,())⟩]).bind fun r2=>(bif (!r2.1) then some ⟨o_Z195,(r1.1,r1.2.1,r1.2.2.1,r1.2.2.2.1,[(0:Int)],(r1.2.2.2.2.1.1,r1.2.2.2.2.1.2.1,r1.2.2.2.2.1.2.2.1,()),())⟩ else((qlI R n_Z192 o_Z192 [⟨(.ptr yS),(r1.1,r1.2.1,r1.2.2.1,r1.2.2.2.1,())⟩]).bind fun r3=>((qlI R n_Z138 o_Z138 [⟨(.ptr yR),(r1.2.2.2.2.1.1,r1.2.2.2.2.1.2.1,r1.2.2.2.2.1.2.2.1,())⟩,⟨yI,(4:Int)⟩]).bind fun r4=>(bif r4.1 then((qlI R n_Z142 o_Z142 [⟨(.ptr yR),(r4.2.1.1,r4.2.1.2.1,r4.2.1.2.2.1,())⟩,⟨yI,r3.1⟩,⟨yI,r1.2.1⟩]).bind fun r5=>some ⟨o_Z195,(r1.1,r1.2.1,r1.2.2.1,r1.2.2.2.1,r5.1,(r5.2.1.1,r5.2.1.2.1,r5.2.1.2.2.1,()),())⟩) else((chk (decide (0≤r3.1)&&decide (r3.1*8≤70368744177664))).bind fun _=>((qlI R n_Z193 o_Z193 [⟨(.ptr yS),(r1.1,r1.2.1,r1.2.2.1,r1.2.2.2.1,())⟩]).bind fun r6=>((qlI R n_Z197 o_Z197 [⟨yI,r1.2.1⟩,⟨yI,r3.1⟩,⟨yK,r6.1⟩]).bind fun r7=>(Z195.l0 R N N r7.1 (0:Int) (0:Int) r1.1 r1.2.1 r1.2.2.1 r1.2.2.2.1 (List.replicate (Int.toNat r3.1) (0:Int)) r4.2.1.1 r4.2.1.2.1 r4.2.1.2.2.1)))))))))):=by kernel_rfl
def Z194.l0(R:Run)(N n:Nat)(a:vS)(b e:Int)(f g:List Int)(h i:Int):Option Dv:=R.w (some ⟨(.c (.box 38 0)::(.c (.ip yS a 0)::(zd 3 (.c (.arr 8)::(.c (.d yI b)::(.c (.d yI e)::(zd 30 []))))))),(zo 8 (some (.arr yI f true false false)::(zo 29 (some (.box [.d (.sl (.int .u8)) g,.d yI h,.d (.int .u64) i] false true)::(none::[])))))⟩) fun st=>lC R pol_Z194 4 N [1,1,1,0,1,0,0] F_Z194 n st (kB R pol_Z194 0 (kS R pol_Z194 8 N [1,1,1,1] F_Z194 (qs2 E sg_Z194 F_Z194)))
theorem Z194.l0_succ(R:Run)(hw:R.ok)(N n:Nat)(a:vS)(b c:Int)(d e:List Int)(f g:Int):Z194.l0 R N (n+1) a b c d e f g=(bif (decide (c<(List.length a.1:Int))) then((qlI R n_Z138 o_Z138 [⟨(.ptr yR),(e,f,g,())⟩,⟨yI,b⟩]).bind fun r9=>(bif r9.1 then((chk (decide ((List.length d+List.length [c])*8≤70368744177664))).bind fun _=>(Z194.l0 R N n a b (w64 (c+1)) (d++[c]) r9.2.1.1 r9.2.1.2.1 r9.2.1.2.2.1)) else(Z194.l0 R N n a b (w64 (c+1)) d r9.2.1.1 r9.2.1.2.1 r9.2.1.2.2.1))) else((qlI R n_Z138 o_Z138 [⟨(.ptr yR),(e,f,g,())⟩,⟨yI,(14:Int)⟩]).bind fun r24=>(bif r24.1 then((qlI R n_Z136 o_Z136 [⟨(.ptr yR),(r24.2.1.1,r24.2.1.2.1,r24.2.1.2.2.1,())⟩,⟨yL,[(-1:Int),(0:Int),(60:Int)]⟩]).bind fun r25=>((chk (decide ((List.length d+List.length [r25.1])*8≤70368744177664))).bind fun _=>some ⟨o_Z194,((d++[r25.1]),(r25.2.1.1,r25.2.1.2.1,r25.2.1.2.2.1,()),())⟩)) else some ⟨o_Z194,(d,(r24.2.1.1,r24.2.1.2.1,r24.2.1.2.2.1,()),())⟩))):=(hw _ _).trans (by kernel_rfl)
theorem Z194.ev(R:Run)(N:Nat)(a0:((List Int)×Int×Int×Unit))(a1:vS):qsy E R sg_Z194 pol_Z194 F_Z194 N [⟨(.ptr yR),a0⟩,⟨(.ptr yS),a1⟩]=((qlI R n_Z136 o_Z136 [⟨(.ptr yR),(a0.1,a0.2.1,a0.2.2.1,())⟩,⟨yL,[(2:Int),(3:Int),(4:Int)]⟩]).bind fun r1=>(Z194.l0 R N N a1 r1.1 (0:Int) ([]:List Int) r1.2.1.1 r1.2.1.2.1 r1.2.1.2.2.1)):=by kernel_rfl
theorem Z123.ev(R:Run)(N:Nat)(a0:List Int):qsy E R sg_Z123 pol_Z123 F_Z123 N [⟨(.sl (.int .u8)),a0⟩]=((qlI R n_Z128 o_Z128 [⟨(.sl (.int .u8)),a0⟩]).bind fun r1=>((qlI R n_Z195 o_Z195 [⟨(.ptr yR),(r1.1.1,r1.1.2.1,r1.1.2.2.1,())⟩]).bind fun r2=>((qlI R n_Z194 o_Z194 [⟨(.ptr yR),(r2.2.2.2.2.2.1.1,r2.2.2.2.2.2.1.2.1,r2.2.2.2.2.2.1.2.2.1,())⟩,⟨(.ptr yS),(r2.1,r2.2.1,r2.2.2.1,r2.2.2.2.1,())⟩]).bind fun r3=>some ⟨o_Z123,(r2.1,r2.2.1,r2.2.2.1,r2.2.2.2.1,r2.2.2.2.2.1,r3.1,())⟩))):=by kernel_rfl
theorem Z26.ev(R:Run)(N:Nat)(a0:vK)(a1:Int)(a2:List Int)(a3:vN)(a4:List Int):qsy E R sg_Z26 pol_Z26 F_Z26 N [⟨yK,a0⟩,⟨yI,a1⟩,⟨yL,a2⟩,⟨yN,a3⟩,⟨yL,a4⟩]=((qlI R n_Z55 o_Z55 [⟨yL,a4⟩]).bind fun r1=>(bif r1.1 then((qlI R n_Z76 o_Z76 [⟨yK,a0⟩]).bind fun r2=>((qlI R n_Z24 o_Z24 [⟨yL,a4⟩,⟨yI,r2.1⟩]).bind fun r3=>some ⟨o_Z26,(r3.1,())⟩)) else some ⟨o_Z26,(false,())⟩)):=by kernel_rfl
theorem Z66.ev(R:Run)(N:Nat)(a0:vK)(a1:Int)(a2:List Int)(a3:vN)(a4:List Int):qsy E R sg_Z66 pol_Z66 F_Z66 N [⟨yK,a0⟩,⟨yI,a1⟩,⟨yL,a2⟩,⟨yN,a3⟩,⟨yL,a4⟩]=((qlI R n_Z7 o_Z7 [⟨yK,a0⟩,⟨yI,a1⟩,⟨yL,a2⟩,⟨yN,a3⟩]).bind fun r1=>(bif (!r1.1) then some ⟨o_Z66,((1:Int),())⟩ else((qlI R n_Z26 o_Z26 [⟨yK,a0⟩,⟨yI,a1⟩,⟨yL,a2⟩,⟨yN,a3⟩,⟨yL,a4⟩]).bind fun r2=>(bif (!r2.1) then some ⟨o_Z66,((2:Int),())⟩ else some ⟨o_Z66,((0:Int),())⟩)))):=by kernel_rfl
theorem Z58.ev(R:Run)(N:Nat)(a0:List Int)(a1 a2:Int):qsy E R sg_Z58 pol_Z58 F_Z58 N [⟨yL,a0⟩,⟨yI,a1⟩,⟨yI,a2⟩]=((qlI R n_Z77 o_Z77 [⟨yL,a0⟩]).bind fun r1=>(bif (r1.1==a1) then((qlI R n_Z24 o_Z24 [⟨yL,a0⟩,⟨yI,a2⟩]).bind fun r2=>some ⟨o_Z58,(r2.1,())⟩) else some ⟨o_Z58,(false,())⟩)):=by kernel_rfl
def Z23.l0(R:Run)(N n:Nat)(a:List Int)(b e f g h:Int)(i j:List Int):Option Dv:=R.w (some ⟨(V.dead::(.c (.d yL a)::(.c (.box 2 0)::(V.dead::(V.dead::(.c (.arr 21)::(V.dead::(V.dead::(.c (.d yI b)::(.c (.d yI e)::(zd 14 []))))))))))),(none::(none::(some (.box [.d yI f,.d yI g,.d yI h,.d yL i] false false)::(zo 18 (some (.arr yI j true false false)::(zo 7 []))))))⟩) fun st=>lC R pol_Z23 3 N [1,1,0,1,0,0] F_Z23 n st (kB R pol_Z23 0 (kS R pol_Z23 7 N [1,1,1] F_Z23 (qs2 E sg_Z23 F_Z23)))
theorem Z23.l0_succ(R:Run)(hw:R.ok)(N n:Nat)(a:List Int)(b c d e f:Int)(g h:List Int):Z23.l0 R N (n+1) a b c d e f g h=(bif (decide (c<b)) then((qlI R n_Z9 o_Z9 [⟨yI,d⟩,⟨yI,e⟩,⟨yI,f⟩,⟨yL,g⟩,⟨yI,c⟩]).bind fun r9=>((qlI R n_Z36 o_Z36 [⟨yL,r9.1⟩,⟨yL,a⟩,⟨yI,d⟩]).bind fun r10=>((chk (decide ((List.length h+List.length [r10.1])*8≤70368744177664))).bind fun _=>(Z23.l0 R N n a b (w64 (c+1)) d e f g (h++[r10.1]))))) else some ⟨o_Z23,(h,())⟩):=(hw _ _).trans (by kernel_rfl)
theorem Z23.ev(R:Run)(N:Nat)(a0 a1 a2:Int)(a3 a4:List Int):qsy E R sg_Z23 pol_Z23 F_Z23 N [⟨yI,a0⟩,⟨yI,a1⟩,⟨yI,a2⟩,⟨yL,a3⟩,⟨yL,a4⟩]=(Z23.l0 R N N a4 a1 (0:Int) a0 a1 a2 a3 ([]:List Int)):=by kernel_rfl
theorem Z61.ev(R:Run)(N:Nat)(a0:Int):qsy E R sg_Z61 pol_Z61 F_Z61 N [⟨yI,a0⟩]=some ⟨o_Z61,((a0 != (0:Int)),())⟩:=by kernel_rfl
def Z118.l0(R:Run)(N n:Nat)(a:List Int)(b e:Int):Option Dv:=R.w (some ⟨(.c (.d yL a)::(.c (.d (.fn n_Z61 .nil) ())::(zd 5 (.c (.d yI b)::(.c (.d yI e)::(zd 10 [])))))),(zo 21 [])⟩) fun st=>q4_3 R N n st (q4_4 R (q4_0 R N (qs2 E sg_Z113 F_Z113)))
theorem Z118.l0_succ(R:Run)(hw:R.ok)(N n:Nat)(a:List Int)(b c:Int):Z118.l0 R N (n+1) a b c=(bif (decide (c<b)) then((idx? a c).bind fun y4=>((qlI R n_Z61 o_Z61 [⟨yI,(y4,()).1⟩]).bind fun r5=>(bif r5.1 then some ⟨o_Z113,(c,())⟩ else(Z118.l0 R N n a b (w64 (c+1)))))) else some ⟨o_Z113,((-1:Int),())⟩):=(hw _ _).trans (by kernel_rfl)
theorem Z118.ev(R:Run)(N:Nat)(a0:List Int):qsy E R sg_Z113 pol_Z113 F_Z113 N [⟨yL,a0⟩,⟨(.fn n_Z61 .nil),()⟩]=(Z118.l0 R N N a0 (List.length a0:Int) (0:Int)):=by kernel_rfl
theorem Z106.ev(R:Run)(N:Nat)(a0:List Int):qsy E R sg_Z101 pol_Z101 F_Z101 N [⟨yL,a0⟩,⟨(.fn n_Z61 .nil),()⟩]=((qlI R n_Z113 o_Z113 [⟨yL,a0⟩,⟨(.fn n_Z61 .nil),()⟩]).bind fun r1=>some ⟨o_Z101,((decide (r1.1≥(0:Int))),())⟩):=by kernel_rfl
theorem Z60.ev(R:Run)(N:Nat)(a0:List Int):qsy E R sg_Z60 pol_Z60 F_Z60 N [⟨yL,a0⟩]=((qlI R n_Z101 o_Z101 [⟨yL,a0⟩,⟨(.fn n_Z61 .nil),()⟩]).bind fun r1=>some ⟨o_Z60,((!r1.1),())⟩):=by kernel_rfl
theorem Z56.ev(R:Run)(N:Nat)(a0:vK)(a1:Int)(a2:List Int)(a3:vN)(a4:List Int):qsy E R sg_Z56 pol_Z56 F_Z56 N [⟨yK,a0⟩,⟨yI,a1⟩,⟨yL,a2⟩,⟨yN,a3⟩,⟨yL,a4⟩]=((qlI R n_Z78 o_Z78 [⟨yK,a0⟩,⟨yI,a1⟩,⟨yL,a2⟩,⟨yN,a3⟩,⟨yI,(0:Int)⟩]).bind fun r1=>((qlI R n_Z58 o_Z58 [⟨yL,a4⟩,⟨yI,r1.1⟩,⟨yI,a1⟩]).bind fun r2=>(bif r2.1 then((qlI R n_Z30 o_Z30 [⟨yK,a0⟩,⟨yI,a1⟩,⟨yL,a2⟩,⟨yN,a3⟩,⟨yI,(0:Int)⟩]).bind fun r3=>((qlI R n_Z23 o_Z23 [⟨yI,r3.1⟩,⟨yI,r3.2.1⟩,⟨yI,r3.2.2.1⟩,⟨yL,r3.2.2.2.1⟩,⟨yL,a4⟩]).bind fun r4=>((qlI R n_Z60 o_Z60 [⟨yL,r4.1⟩]).bind fun r5=>some ⟨o_Z56,(r5.1,())⟩))) else some ⟨o_Z56,(false,())⟩))):=by kernel_rfl
theorem Z48.ev(R:Run)(N:Nat)(a0:vK)(a1:Int)(a2:List Int)(a3:vN)(a4:Int):qsy E R sg_Z48 pol_Z48 F_Z48 N [⟨yK,a0⟩,⟨yI,a1⟩,⟨yL,a2⟩,⟨yN,a3⟩,⟨yI,a4⟩]=((idx? a0 a4).bind fun y1=>((chk (decide (0≤(1:Int))&&decide ((1:Int)≤(List.length (y1,()).1:Int)))).bind fun _=>((qlI R n_Z49 o_Z49 [⟨yK,a0⟩,⟨yL,(List.take (Int.toNat (1:Int)) (y1,()).1)⟩]).bind fun r2=>some ⟨o_Z48,(r2.1,())⟩))):=by kernel_rfl
theorem Z82.ev(R:Run)(N:Nat)(a0 a1:Int):qsy E R sg_Z82 pol_Z82 F_Z82 N [⟨yI,a0⟩,⟨yI,a1⟩]=(bif (a0==a1) then some ⟨o_Z82,((1:Int),())⟩ else some ⟨o_Z82,((0:Int),())⟩):=by kernel_rfl
def Z44.l1(R:Run)(N a n:Nat)(b e f g h i j k l m o p:Int)(q:List Int):Option Dv:=R.w (some ⟨(V.dead::(V.dead::(.c (.d yI b)::(.c (.d (.fn n_Z82 .nil) ())::(zd 4 (.c (.box 8 0)::(.c (.box 9 0)::(.c (.d yI e)::(zd 5 (.c (.d yI f)::(.c (.d yI g)::(V.dead::(V.dead::(.c (.d yI h)::(.c (.d yI i)::(zd 14 [])))))))))))))))),(zo 8 (some (.box [.d yI j,.d yI k,.d yI l,.nils yI] false false)::(some (.box [.d yI m,.d yI o,.d yI p,.arr 31] false false)::(zo 21 (some (.arr yI q true false false)::(zo 8 []))))))⟩) fun st=>lC R pol_Z41 6 N [1,1,0,1,0,0,1,1,0,0,1,1,0,0] F_Z41 n st (kB R pol_Z41 2 (kB R pol_Z41 1 (kS R pol_Z41 10 N [1,1,0,1,0,0,1,1,1] F_Z41 (kL R pol_Z41 3 N [1,1,0,1,0,0] F_Z41 a (kB R pol_Z41 0 (kS R pol_Z41 11 N [1,1,1] F_Z41 (qs2 E sg_Z41 F_Z41)))))))
def Z44.l0(R:Run)(N n:Nat)(a b e f g h i j k:Int)(l:List Int):Option Dv:=R.w (some ⟨(V.dead::(V.dead::(.c (.d yI a)::(.c (.d (.fn n_Z82 .nil) ())::(zd 4 (.c (.box 8 0)::(.c (.box 9 0)::(zd 6 (.c (.d yI b)::(.c (.d yI e)::(zd 18 []))))))))))),(zo 8 (some (.box [.d yI f,.d yI g,.d yI h,.nils yI] false false)::(some (.box [.d yI i,.d yI j,.d yI k,.arr 31] false false)::(zo 21 (some (.arr yI l true false false)::(zo 8 []))))))⟩) fun st=>lC R pol_Z41 3 N [1,1,0,1,0,0] F_Z41 n st (kB R pol_Z41 0 (kS R pol_Z41 11 N [1,1,1] F_Z41 (qs2 E sg_Z41 F_Z41)))
theorem Z44.l1_succ(R:Run)(hw:R.ok)(N a n:Nat)(b c d e f g h i j k l m:Int)(o:List Int):Z44.l1 R N a (n+1) b c d e f g h i j k l m o=(bif (decide (g<f)) then((qlI R n_Z82 o_Z82 [⟨yI,c⟩,⟨yI,g⟩]).bind fun r24=>((chk (decide ((List.length o+List.length [r24.1])*8≤70368744177664))).bind fun _=>(Z44.l1 R N a n b c d e f (w64 (g+1)) h i j k l m (o++[r24.1])))) else(Z44.l0 R N a b d (w64 (e+1)) h i j k l m o)):=(hw _ _).trans (by kernel_rfl)
theorem Z44.l0_succ(R:Run)(hw:R.ok)(N n:Nat)(a b c d e f g h i:Int)(j:List Int):Z44.l0 R N (n+1) a b c d e f g h i j=(bif (decide (c<b)) then(Z44.l1 R N n N a c b c a (0:Int) d e f g h i j) else some ⟨o_Z41,(g,h,i,j,())⟩):=(hw _ _).trans (by kernel_rfl)
theorem Z44.ev(R:Run)(N:Nat)(a0 a1 a2:Int):qsy E R sg_Z41 pol_Z41 F_Z41 N [⟨yI,a0⟩,⟨yI,a1⟩,⟨yI,a2⟩,⟨(.fn n_Z82 .nil),()⟩]=(Z44.l0 R N N a2 a1 (0:Int) (0:Int) (0:Int) (0:Int) a0 a1 a2 ([]:List Int)):=by kernel_rfl
theorem Z81.ev(R:Run)(N:Nat)(a0 a1:Int):qsy E R sg_Z81 pol_Z81 F_Z81 N [⟨yI,a0⟩,⟨yI,a1⟩]=((qlI R n_Z41 o_Z41 [⟨yI,a0⟩,⟨yI,a1⟩,⟨yI,a1⟩,⟨(.fn n_Z82 .nil),()⟩]).bind fun r1=>some ⟨o_Z81,(r1.1,r1.2.1,r1.2.2.1,r1.2.2.2.1,())⟩):=by kernel_rfl
theorem Z72.ev(R:Run)(N:Nat)(a0:Int)(a1:((List Int)×Unit)):qsy E R sg_Z72 pol_Z72 F_Z72 N [⟨yI,a0⟩,⟨(.ptr (.cons yL .nil)),a1⟩]=((qlI R n_Z107 o_Z107 [⟨yL,a1.1⟩,⟨yI,a0⟩]).bind fun r1=>some ⟨o_Z72,((!r1.1),())⟩):=by kernel_rfl
def Z119.l0(R:Run)(N n:Nat)(a:List Int)(b:(((List Int)×Unit)×Unit))(e f:Int):Option Dv:=R.w (some ⟨(.c (.d yL a)::(.c (.d (.fn n_Z72 (.cons (.ptr (.cons yL .nil)) .nil)) b)::(zd 5 (.c (.d yI e)::(.c (.d yI f)::(zd 10 [])))))),(zo 21 [])⟩) fun st=>q4_3 R N n st (q4_4 R (q4_0 R N (qs2 E sg_Z113 F_Z113)))
theorem Z119.l0_succ(R:Run)(hw:R.ok)(N n:Nat)(a:List Int)(b:(((List Int)×Unit)×Unit))(c d:Int):Z119.l0 R N (n+1) a b c d=(bif (decide (d<c)) then((idx? a d).bind fun y5=>((qlI R n_Z72 o_Z72 [⟨yI,(y5,()).1⟩,⟨(.ptr (.cons yL .nil)),b.1⟩]).bind fun r6=>(bif r6.1 then some ⟨o_Z113,(d,())⟩ else(Z119.l0 R N n a b c (w64 (d+1)))))) else some ⟨o_Z113,((-1:Int),())⟩):=(hw _ _).trans (by kernel_rfl)
theorem Z119.ev(R:Run)(N:Nat)(a0:List Int)(a1:(((List Int)×Unit)×Unit)):qsy E R sg_Z113 pol_Z113 F_Z113 N [⟨yL,a0⟩,⟨(.fn n_Z72 (.cons (.ptr (.cons yL .nil)) .nil)),a1⟩]=(Z119.l0 R N N a0 a1 (List.length a0:Int) (0:Int)):=by kernel_rfl
theorem Z71.ev(R:Run)(N:Nat)(a0:vK)(a1:Int)(a2:List Int)(a3:vN)(a4 a5:Int):qsy E R sg_Z71 pol_Z71 F_Z71 N [⟨yK,a0⟩,⟨yI,a1⟩,⟨yL,a2⟩,⟨yN,a3⟩,⟨yI,a4⟩,⟨yI,a5⟩]=(bif (a4==a5) then((idx? a2 a4).bind fun y1=>((qlI R n_Z81 o_Z81 [⟨yI,a1⟩,⟨yI,(y1,()).1⟩]).bind fun r2=>some ⟨o_Z71,(r2.1,r2.2.1,r2.2.2.1,r2.2.2.2.1,())⟩)) else((idx? a0 a4).bind fun y3=>((idx? a0 a5).bind fun y4=>((qlI R n_Z113 o_Z113 [⟨yL,(y4,()).1⟩,⟨(.fn n_Z72 (.cons (.ptr (.cons yL .nil)) .nil)),(((y3,()).1,()),())⟩]).bind fun r5=>((qlI R n_Z39 o_Z39 [⟨yK,a0⟩,⟨yI,a5⟩]).bind fun r6=>((idx? r6.1 r5.1).bind fun y7=>((qlI R n_Z35 o_Z35 [⟨yK,a0⟩,⟨yI,a1⟩,⟨yL,a2⟩,⟨yN,a3⟩,⟨yI,a5⟩,⟨yI,r5.1⟩]).bind fun r8=>((qlI R n_Z71 o_Z71 [⟨yK,a0⟩,⟨yI,a1⟩,⟨yL,a2⟩,⟨yN,a3⟩,⟨yI,a4⟩,⟨yI,(y7,()).1⟩]).bind fun r9=>((qlI R n_Z68 o_Z68 [⟨yI,r8.1⟩,⟨yI,r8.2.1⟩,⟨yI,r8.2.2.1⟩,⟨yL,r8.2.2.2.1⟩,⟨yI,r9.1⟩,⟨yI,r9.2.1⟩,⟨yI,r9.2.2.1⟩,⟨yL,r9.2.2.2.1⟩]).bind fun r10=>some ⟨o_Z71,(r10.1,r10.2.1,r10.2.2.1,r10.2.2.2.1,())⟩))))))))):=by kernel_rfl
theorem Z65.ev(R:Run)(N:Nat)(a0:vK)(a1:Int)(a2:List Int)(a3:vN)(a4:List Int)(a5:Int):qsy E R sg_Z65 pol_Z65 F_Z65 N [⟨yK,a0⟩,⟨yI,a1⟩,⟨yL,a2⟩,⟨yN,a3⟩,⟨yL,a4⟩,⟨yI,a5⟩]=((qlI R n_Z46 o_Z46 [⟨yK,a0⟩,⟨yI,a1⟩,⟨yL,a2⟩,⟨yN,a3⟩,⟨yI,a5⟩]).bind fun r1=>((idx? a2 a5).bind fun y2=>((chk (decide (0≤r1.1)&&decide (r1.1≤(w64 (r1.1+(y2,()).1)))&&decide ((w64 (r1.1+(y2,()).1))≤(List.length a4:Int)))).bind fun _=>((qlI R n_Z96 o_Z96 [⟨yL,(List.drop (Int.toNat r1.1) (List.take (Int.toNat (w64 (r1.1+(y2,()).1))) a4))⟩]).bind fun r3=>some ⟨o_Z65,(r3.1,())⟩)))):=by kernel_rfl
theorem Z74.ev(R:Run)(N:Nat)(a0:vK)(a1:Int)(a2:List Int)(a3:vN)(a4:List Int)(a5:Int):qsy E R sg_Z74 pol_Z74 F_Z74 N [⟨yK,a0⟩,⟨yI,a1⟩,⟨yL,a2⟩,⟨yN,a3⟩,⟨yL,a4⟩,⟨yI,a5⟩]=((qlI R n_Z48 o_Z48 [⟨yK,a0⟩,⟨yI,a1⟩,⟨yL,a2⟩,⟨yN,a3⟩,⟨yI,a5⟩]).bind fun r1=>((qlI R n_Z71 o_Z71 [⟨yK,a0⟩,⟨yI,a1⟩,⟨yL,a2⟩,⟨yN,a3⟩,⟨yI,r1.1⟩,⟨yI,a5⟩]).bind fun r2=>((qlI R n_Z65 o_Z65 [⟨yK,a0⟩,⟨yI,a1⟩,⟨yL,a2⟩,⟨yN,a3⟩,⟨yL,a4⟩,⟨yI,r1.1⟩]).bind fun r3=>((qlI R n_Z23 o_Z23 [⟨yI,r2.1⟩,⟨yI,r2.2.1⟩,⟨yI,r2.2.2.1⟩,⟨yL,r2.2.2.2.1⟩,⟨yL,r3.1⟩]).bind fun r4=>some ⟨o_Z74,(r4.1,())⟩)))):=by kernel_rfl
def Z83.l0(R:Run)(N n:Nat)(a b:List Int)(e f:Int)(g:vK)(h:Int)(i:List Int)(j:vN)(k:List Int):Option Dv:=R.w (some ⟨(V.dead::(.c (.d yL a)::(V.dead::(.c (.box 3 0)::(zd 3 (.c (.arr 21)::(V.dead::(V.dead::(.c (.d yL b)::(.c (.d yI e)::(.c (.d yI f)::(zd 11 [])))))))))))),(zo 3 (some (.box [.d yK g,.d yI h,.d yL i,.d yN j] false false)::(zo 17 (some (.arr yI k true false false)::(zo 8 [])))))⟩) fun st=>lC R pol_Z83 3 N [1,1,0,1,0,0] F_Z83 n st (kB R pol_Z83 0 (kS R pol_Z83 7 N [1,1,1] F_Z83 (qs2 E sg_Z83 F_Z83)))
theorem Z83.l0_succ(R:Run)(hw:R.ok)(N n:Nat)(a b:List Int)(c d:Int)(e:vK)(f:Int)(g:List Int)(h:vN)(i:List Int):Z83.l0 R N (n+1) a b c d e f g h i=(bif (decide (d<c)) then((idx? b d).bind fun y10=>((qlI R n_Z74 o_Z74 [⟨yK,e⟩,⟨yI,f⟩,⟨yL,g⟩,⟨yN,h⟩,⟨yL,a⟩,⟨yI,(y10,()).1⟩]).bind fun r11=>((chk (decide ((List.length i+List.length r11.1)*8≤70368744177664))).bind fun _=>(Z83.l0 R N n a b c (w64 (d+1)) e f g h (i++r11.1))))) else some ⟨o_Z83,(i,())⟩):=(hw _ _).trans (by kernel_rfl)
theorem Z83.ev(R:Run)(N:Nat)(a0:vK)(a1:Int)(a2:List Int)(a3:vN)(a4 a5:List Int):qsy E R sg_Z83 pol_Z83 F_Z83 N [⟨yK,a0⟩,⟨yI,a1⟩,⟨yL,a2⟩,⟨yN,a3⟩,⟨yL,a4⟩,⟨yL,a5⟩]=(Z83.l0 R N N a4 a5 (List.length a5:Int) (0:Int) a0 a1 a2 a3 ([]:List Int)):=by kernel_rfl
theorem Z20.ev(R:Run)(N:Nat)(a0:vK)(a1:Int)(a2:List Int)(a3:vN)(a4 a5:List Int):qsy E R sg_Z20 pol_Z20 F_Z20 N [⟨yK,a0⟩,⟨yI,a1⟩,⟨yL,a2⟩,⟨yN,a3⟩,⟨yL,a4⟩,⟨yL,a5⟩]=((qlI R n_Z66 o_Z66 [⟨yK,a0⟩,⟨yI,a1⟩,⟨yL,a2⟩,⟨yN,a3⟩,⟨yL,a5⟩]).bind fun r1=>(bif (r1.1 != (0:Int)) then some ⟨o_Z20,(([]:List Int),r1.1,())⟩ else((qlI R n_Z56 o_Z56 [⟨yK,a0⟩,⟨yI,a1⟩,⟨yL,a2⟩,⟨yN,a3⟩,⟨yL,a4⟩]).bind fun r2=>(bif (!r2.1) then some ⟨o_Z20,(([]:List Int),(6:Int),())⟩ else((qlI R n_Z83 o_Z83 [⟨yK,a0⟩,⟨yI,a1⟩,⟨yL,a2⟩,⟨yN,a3⟩,⟨yL,a4⟩,⟨yL,a5⟩]).bind fun r3=>some ⟨o_Z20,(r3.1,(0:Int),())⟩))))):=by kernel_rfl
def Z12.l0(R:Run)(N n:Nat)(a:List Int)(b e:Int)(f:vK)(g:Int)(h:List Int)(i:vN)(j:List Int):Option Dv:=R.w (some ⟨(V.dead::(.c (.d yL a)::(.c (.box 2 0)::(zd 3 (.c (.arr 31)::(zd 11 (.c (.d yI b)::(.c (.d yI e)::(zd 14 []))))))))),(none::(none::(some (.box [.d yK f,.d yI g,.d yL h,.d yN i] false false)::(zo 28 (some (.arr yI j true false false)::(zo 7 []))))))⟩) fun st=>lC R pol_Z12 7 N [1,1,1,1,0,1,0,0] F_Z12 n st (kB R pol_Z12 0 (kS R pol_Z12 12 N [1,1,1,1,1] F_Z12 (qs2 E sg_Z12 F_Z12)))
theorem Z12.l0_succ(R:Run)(hw:R.ok)(N n:Nat)(a:List Int)(b c:Int)(d:vK)(e:Int)(f:List Int)(g:vN)(h:List Int):Z12.l0 R N (n+1) a b c d e f g h=(bif (decide (c<b)) then((qlI R n_Z74 o_Z74 [⟨yK,d⟩,⟨yI,e⟩,⟨yL,f⟩,⟨yN,g⟩,⟨yL,a⟩,⟨yI,c⟩]).bind fun r12=>((qlI R n_Z60 o_Z60 [⟨yL,r12.1⟩]).bind fun r13=>(bif (!r13.1) then((chk (decide ((List.length h+List.length [c])*8≤70368744177664))).bind fun _=>(Z12.l0 R N n a b (w64 (c+1)) d e f g (h++[c]))) else(Z12.l0 R N n a b (w64 (c+1)) d e f g h)))) else some ⟨o_Z12,(h,(0:Int),())⟩):=(hw _ _).trans (by kernel_rfl)
theorem Z12.ev(R:Run)(N:Nat)(a0:vK)(a1:Int)(a2:List Int)(a3:vN)(a4:List Int):qsy E R sg_Z12 pol_Z12 F_Z12 N [⟨yK,a0⟩,⟨yI,a1⟩,⟨yL,a2⟩,⟨yN,a3⟩,⟨yL,a4⟩]=((qlI R n_Z7 o_Z7 [⟨yK,a0⟩,⟨yI,a1⟩,⟨yL,a2⟩,⟨yN,a3⟩]).bind fun r1=>(bif (!r1.1) then some ⟨o_Z12,(([]:List Int),(1:Int),())⟩ else((qlI R n_Z56 o_Z56 [⟨yK,a0⟩,⟨yI,a1⟩,⟨yL,a2⟩,⟨yN,a3⟩,⟨yL,a4⟩]).bind fun r2=>(bif (!r2.1) then some ⟨o_Z12,(([]:List Int),(6:Int),())⟩ else((qlI R n_Z76 o_Z76 [⟨yK,a0⟩]).bind fun r3=>(Z12.l0 R N N a4 r3.1 (0:Int) a0 a1 a2 a3 ([]:List Int))))))):=by kernel_rfl
def Z64.l0(R:Run)(N n:Nat)(a:Int)(b:List Int)(e f:Int)(g:vK)(h:Int)(i:List Int)(j:vN)(k:List Int):Option Dv:=R.w (some ⟨(V.dead::(V.dead::(.c (.box 2 0)::(zd 3 (.c (.arr 19)::(.c (.d yI a)::(V.dead::(V.dead::(.c (.d yL b)::(.c (.d yI e)::(.c (.d yI f)::(zd 17 [])))))))))))),(none::(none::(some (.box [.d yK g,.d yI h,.d yL i,.d yN j] false false)::(zo 16 (some (.arr yI k true false false)::(zo 15 []))))))⟩) fun st=>lC R pol_Z64 4 N [1,1,1,0,1,0,0] F_Z64 n st (kB R pol_Z64 0 (kS R pol_Z64 9 N [1,1,1,1] F_Z64 (qs2 E sg_Z64 F_Z64)))
theorem Z64.l0_succ(R:Run)(hw:R.ok)(N n:Nat)(a:Int)(b:List Int)(c d:Int)(e:vK)(f:Int)(g:List Int)(h:vN)(i:List Int):Z64.l0 R N (n+1) a b c d e f g h i=(bif (decide (d<c)) then((idx? b d).bind fun y10=>((chk (decide ((List.length i+List.length [a])*8≤70368744177664))).bind fun _=>((idx? g (y10,()).1).bind fun y11=>(Z64.l0 R N n (w64 (a+(y11,()).1)) b c (w64 (d+1)) e f g h (i++[a]))))) else some ⟨o_Z64,(i,a,())⟩):=(hw _ _).trans (by kernel_rfl)
theorem Z64.ev(R:Run)(N:Nat)(a0:vK)(a1:Int)(a2:List Int)(a3:vN)(a4:List Int):qsy E R sg_Z64 pol_Z64 F_Z64 N [⟨yK,a0⟩,⟨yI,a1⟩,⟨yL,a2⟩,⟨yN,a3⟩,⟨yL,a4⟩]=(Z64.l0 R N N (0:Int) a4 (List.length a4:Int) (0:Int) a0 a1 a2 a3 ([]:List Int)):=by kernel_rfl
theorem Z63.ev(R:Run)(N:Nat)(a0:vK)(a1:Int)(a2:List Int)(a3:vN)(a4 a5:List Int):qsy E R sg_Z63 pol_Z63 F_Z63 N [⟨yK,a0⟩,⟨yI,a1⟩,⟨yL,a2⟩,⟨yN,a3⟩,⟨yL,a4⟩,⟨yL,a5⟩]=((qlI R n_Z66 o_Z66 [⟨yK,a0⟩,⟨yI,a1⟩,⟨yL,a2⟩,⟨yN,a3⟩,⟨yL,a4⟩]).bind fun r1=>(bif (r1.1 != (0:Int)) then some ⟨o_Z63,(r1.1,())⟩ else((qlI R n_Z64 o_Z64 [⟨yK,a0⟩,⟨yI,a1⟩,⟨yL,a2⟩,⟨yN,a3⟩,⟨yL,a4⟩]).bind fun r2=>((qlI R n_Z58 o_Z58 [⟨yL,a5⟩,⟨yI,r2.2.1⟩,⟨yI,a1⟩]).bind fun r3=>(bif (!r3.1) then some ⟨o_Z63,((7:Int),())⟩ else some ⟨o_Z63,((0:Int),())⟩))))):=by kernel_rfl
theorem Z54.ev(R:Run)(N:Nat)(a0:Int)(a1:((List Int)×Unit)):qsy E R sg_Z54 pol_Z54 F_Z54 N [⟨yI,a0⟩,⟨(.ptr (.cons yL .nil)),a1⟩]=((qlI R n_Z107 o_Z107 [⟨yL,a1.1⟩,⟨yI,a0⟩]).bind fun r1=>some ⟨o_Z54,((!r1.1),())⟩):=by kernel_rfl
def Z117.l0(R:Run)(N n:Nat)(a:List Int)(b:(((List Int)×Unit)×Unit))(e f:Int):Option Dv:=R.w (some ⟨(.c (.d yL a)::(.c (.d (.fn n_Z54 (.cons (.ptr (.cons yL .nil)) .nil)) b)::(zd 5 (.c (.d yI e)::(.c (.d yI f)::(zd 10 [])))))),(zo 21 [])⟩) fun st=>q4_3 R N n st (q4_4 R (q4_0 R N (qs2 E sg_Z113 F_Z113)))
theorem Z117.l0_succ(R:Run)(hw:R.ok)(N n:Nat)(a:List Int)(b:(((List Int)×Unit)×Unit))(c d:Int):Z117.l0 R N (n+1) a b c d=(bif (decide (d<c)) then((idx? a d).bind fun y5=>((qlI R n_Z54 o_Z54 [⟨yI,(y5,()).1⟩,⟨(.ptr (.cons yL .nil)),b.1⟩]).bind fun r6=>(bif r6.1 then some ⟨o_Z113,(d,())⟩ else(Z117.l0 R N n a b c (w64 (d+1)))))) else some ⟨o_Z113,((-1:Int),())⟩):=(hw _ _).trans (by kernel_rfl)
theorem Z117.ev(R:Run)(N:Nat)(a0:List Int)(a1:(((List Int)×Unit)×Unit)):qsy E R sg_Z113 pol_Z113 F_Z113 N [⟨yL,a0⟩,⟨(.fn n_Z54 (.cons (.ptr (.cons yL .nil)) .nil)),a1⟩]=(Z117.l0 R N N a0 a1 (List.length a0:Int) (0:Int)):=by kernel_rfl
theorem Z105.ev(R:Run)(N:Nat)(a0:List Int)(a1:(((List Int)×Unit)×Unit)):qsy E R sg_Z101 pol_Z101 F_Z101 N [⟨yL,a0⟩,⟨(.fn n_Z54 (.cons (.ptr (.cons yL .nil)) .nil)),a1⟩]=((qlI R n_Z113 o_Z113 [⟨yL,a0⟩,⟨(.fn n_Z54 (.cons (.ptr (.cons yL .nil)) .nil)),a1⟩]).bind fun r1=>some ⟨o_Z101,((decide (r1.1≥(0:Int))),())⟩):=by kernel_rfl
theorem Z53.ev(R:Run)(N:Nat)(a0 a1:List Int):qsy E R sg_Z53 pol_Z53 F_Z53 N [⟨yL,a0⟩,⟨yL,a1⟩]=((qlI R n_Z101 o_Z101 [⟨yL,a0⟩,⟨(.fn n_Z54 (.cons (.ptr (.cons yL .nil)) .nil)),((a1,()),())⟩]).bind fun r1=>some ⟨o_Z53,((!r1.1),())⟩):=by kernel_rfl
theorem Z34.ev(R:Run)(N:Nat)(a0:Int)(a1 a2:((List Int)×Unit))(a3:vS)(a4:((List Int)×Unit)):qsy E R sg_Z34 pol_Z34 F_Z34 N [⟨yI,a0⟩,⟨(.ptr (.cons yL .nil)),a1⟩,⟨(.ptr (.cons yL .nil)),a2⟩,⟨(.ptr yS),a3⟩,⟨(.ptr (.cons yL .nil)),a4⟩]=((idx? a2.1 a0).bind fun y1=>((idx? a2.1 a0).bind fun y2=>((idx? a4.1 a0).bind fun y3=>((idx? a3.2.2.1 (y3,()).1).bind fun y4=>((chk (decide (0≤(y1,()).1)&&decide ((y1,()).1≤(w64 ((y2,()).1+(y4,()).1)))&&decide ((w64 ((y2,()).1+(y4,()).1))≤(List.length a1.1:Int)))).bind fun _=>some ⟨o_Z34,((List.drop (Int.toNat (y1,()).1) (List.take (Int.toNat (w64 ((y2,()).1+(y4,()).1))) a1.1)),())⟩))))):=by kernel_rfl
def Z33.j2(R:Run)(N a b:Nat)(e:(((List Int)×Unit)×((List Int)×Unit)×vS×((List Int)×Unit)×Unit))(f g h i:Int)(j:List Int)(k l:Int)(m:List Int)(o p:Int)(q:Bool)(r:vK)(s:Int)(t:List Int)(u:vN)(v:List Int):Option Dv:=R.w (some ⟨(zd 3 (.c (.box 3 0)::(.c (.box 4 0)::(zd 6 (.c (.d (.fn n_Z34 (.cons (.ptr (.cons yL .nil)) (.cons (.ptr (.cons yL .nil)) (.cons (.ptr yS) (.cons (.ptr (.cons yL .nil)) .nil))))) e)::(.c (.d yI f)::(.c (.d yI g)::(.c (.d yI h)::(.c (.d yI i)::(zd 7 (.c (.d yL j)::(.c (.d yI k)::(.c (.d yI l)::(zd 4 (.c (.d yL m)::(.c (.d yI o)::(.c (.d yI p)::(zd 22 (.c (.d .bool q)::(zd 17 [])))))))))))))))))))),(zo 3 (some (.box [.d yK r,.d yI s,.d yL t,.d yN u] true false)::(some (.box [.d yL v] true false)::(zo 74 []))))⟩) fun st=>eC R pol_Z33 N [1,1,1,0,1,0,0,1,1,0,0,1,1,0,0,1,1,0,0,1,0,1] F_Z33 st (kS R pol_Z33 10 N [1,1,1,0,1,0,0,1,1,0,0,1,1,0,0,1,1,0,0,1,1] F_Z33 (kB R pol_Z33 3 (kS R pol_Z33 12 N [1,1,1,0,1,0,0,1,1,0,0,1,1,0,0,1,1,1] F_Z33 (kL R pol_Z33 7 N [1,1,1,0,1,0,0,1,1,0,0,1,1,0,0] F_Z33 b (kB R pol_Z33 2 (kB R pol_Z33 1 (kS R pol_Z33 13 N [1,1,1,0,1,0,0,1,1,1] F_Z33 (kL R pol_Z33 4 N [1,1,1,0,1,0,0] F_Z33 a (kB R pol_Z33 0 (q4_1 R N (qs2 E sg_Z33 F_Z33)))))))))))
def Z33.l1(R:Run)(N a n:Nat)(b:(((List Int)×Unit)×((List Int)×Unit)×vS×((List Int)×Unit)×Unit))(e f:Int)(g:List Int)(h i:Int)(j:List Int)(k l:Int)(m:vK)(o:Int)(p:List Int)(q:vN)(r:List Int):Option Dv:=R.w (some ⟨(zd 3 (.c (.box 3 0)::(.c (.box 4 0)::(zd 6 (.c (.d (.fn n_Z34 (.cons (.ptr (.cons yL .nil)) (.cons (.ptr (.cons yL .nil)) (.cons (.ptr yS) (.cons (.ptr (.cons yL .nil)) .nil))))) b)::(.c (.d yI e)::(.c (.d yI f)::(zd 9 (.c (.d yL g)::(.c (.d yI h)::(.c (.d yI i)::(zd 4 (.c (.d yL j)::(.c (.d yI k)::(.c (.d yI l)::(zd 40 [])))))))))))))))),(zo 3 (some (.box [.d yK m,.d yI o,.d yL p,.d yN q] true false)::(some (.box [.d yL r] true false)::(zo 74 []))))⟩) fun st=>lC R pol_Z33 7 N [1,1,1,0,1,0,0,1,1,0,0,1,1,0,0] F_Z33 n st (kB R pol_Z33 2 (kB R pol_Z33 1 (kS R pol_Z33 13 N [1,1,1,0,1,0,0,1,1,1] F_Z33 (kL R pol_Z33 4 N [1,1,1,0,1,0,0] F_Z33 a (kB R pol_Z33 0 (q4_1 R N (qs2 E sg_Z33 F_Z33)))))))
def Z33.l0(R:Run)(N n:Nat)(a:(((List Int)×Unit)×((List Int)×Unit)×vS×((List Int)×Unit)×Unit))(b:List Int)(e f:Int)(g:vK)(h:Int)(i:List Int)(j:vN)(k:List Int):Option Dv:=R.w (some ⟨(zd 3 (.c (.box 3 0)::(.c (.box 4 0)::(zd 6 (.c (.d (.fn n_Z34 (.cons (.ptr (.cons yL .nil)) (.cons (.ptr (.cons yL .nil)) (.cons (.ptr yS) (.cons (.ptr (.cons yL .nil)) .nil))))) a)::(zd 11 (.c (.d yL b)::(.c (.d yI e)::(.c (.d yI f)::(zd 47 [])))))))))),(zo 3 (some (.box [.d yK g,.d yI h,.d yL i,.d yN j] true false)::(some (.box [.d yL k] true false)::(zo 74 []))))⟩) fun st=>lC R pol_Z33 4 N [1,1,1,0,1,0,0] F_Z33 n st (kB R pol_Z33 0 (q4_1 R N (qs2 E sg_Z33 F_Z33)))
theorem Z33.j2_eq(R:Run)(hw:R.ok)(N a b:Nat)(c:(((List Int)×Unit)×((List Int)×Unit)×vS×((List Int)×Unit)×Unit))(d e f g:Int)(h:List Int)(i j:Int)(k:List Int)(l m:Int)(o:Bool)(p:vK)(q:Int)(r:List Int)(s:vN)(t:List Int):Z33.j2 R N a b c d e f g h i j k l m o p q r s t=(bif o then(Z33.l1 R N a b c d e h i j k l (w64 (m+1)) p q r s t) else((qlI R n_Z71 o_Z71 [⟨yK,p⟩,⟨yI,q⟩,⟨yL,r⟩,⟨yN,s⟩,⟨yI,g⟩,⟨yI,e⟩]).bind fun r58=>((qlI R n_Z34 o_Z34 [⟨yI,f⟩,⟨(.ptr (.cons yL .nil)),c.1⟩,⟨(.ptr (.cons yL .nil)),c.2.1⟩,⟨(.ptr yS),c.2.2.1⟩,⟨(.ptr (.cons yL .nil)),c.2.2.2.1⟩]).bind fun r59=>((qlI R n_Z23 o_Z23 [⟨yI,r58.1⟩,⟨yI,r58.2.1⟩,⟨yI,r58.2.2.1⟩,⟨yL,r58.2.2.2.1⟩,⟨yL,r59.1⟩]).bind fun r60=>((qlI R n_Z34 o_Z34 [⟨yI,d⟩,⟨(.ptr (.cons yL .nil)),c.1⟩,⟨(.ptr (.cons yL .nil)),c.2.1⟩,⟨(.ptr yS),c.2.2.1⟩,⟨(.ptr (.cons yL .nil)),c.2.2.2.1⟩]).bind fun r61=>((qlI R n_Z108 o_Z108 [⟨yL,r60.1⟩,⟨yL,r61.1⟩]).bind fun r62=>(bif (!r62.1) then some ⟨o_Z33,(g,e,true,())⟩ else(Z33.l1 R N a b c d e h i j k l (w64 (m+1)) p q r s t)))))))):=(hw _ _).trans (by kernel_rfl)
theorem Z33.l1_succ(R:Run)(hw:R.ok)(N a n:Nat)(b:(((List Int)×Unit)×((List Int)×Unit)×vS×((List Int)×Unit)×Unit))(c d:Int)(e:List Int)(f g:Int)(h:List Int)(i j:Int)(k:vK)(l:Int)(m:List Int)(o:vN)(p:List Int):Z33.l1 R N a (n+1) b c d e f g h i j k l m o p=(bif (decide (j<i)) then((idx? h j).bind fun y26=>(bif ((y26,()).1==d) then(Z33.j2 R N a n b c d j ((y26,()).1) e f g h i j true k l m o p) else((idx? k (y26,()).1).bind fun y77=>((idx? k d).bind fun y78=>((qlI R n_Z53 o_Z53 [⟨yL,(y77,()).1⟩,⟨yL,(y78,()).1⟩]).bind fun r79=>(Z33.j2 R N a n b c d j ((y26,()).1) e f g h i j (!r79.1) k l m o p)))))) else(Z33.l0 R N a b e f (w64 (g+1)) k l m o p)):=(hw _ _).trans (by kernel_rfl)
theorem Z33.l0_succ(R:Run)(hw:R.ok)(N n:Nat)(a:(((List Int)×Unit)×((List Int)×Unit)×vS×((List Int)×Unit)×Unit))(b:List Int)(c d:Int)(e:vK)(f:Int)(g:List Int)(h:vN)(i:List Int):Z33.l0 R N (n+1) a b c d e f g h i=(bif (decide (d<c)) then((idx? b d).bind fun y11=>(Z33.l1 R N n N a d ((y11,()).1) b c d i (List.length i:Int) (0:Int) e f g h i)) else some ⟨o_Z33,((0:Int),(0:Int),false,())⟩):=(hw _ _).trans (by kernel_rfl)
theorem Z33.ev(R:Run)(N:Nat)(a0:vK)(a1:Int)(a2:List Int)(a3:vN)(a4 a5:List Int):qsy E R sg_Z33 pol_Z33 F_Z33 N [⟨yK,a0⟩,⟨yI,a1⟩,⟨yL,a2⟩,⟨yN,a3⟩,⟨yL,a4⟩,⟨yL,a5⟩]=((qlI R n_Z64 o_Z64 [⟨yK,a0⟩,⟨yI,a1⟩,⟨yL,a2⟩,⟨yN,a3⟩,⟨yL,a4⟩]).bind fun r1=>(Z33.l0 R N N ((a5,()),(r1.1,()),(a0,a1,a2,a3,()),(a4,()),()) a4 (List.length a4:Int) (0:Int) a0 a1 a2 a3 a4)):=by kernel_rfl
theorem Z6.ev(R:Run)(N:Nat)(a0:vK)(a1:Int)(a2:List Int)(a3:vN)(a4 a5:List Int):qsy E R sg_Z6 pol_Z6 F_Z6 N [⟨yK,a0⟩,⟨yI,a1⟩,⟨yL,a2⟩,⟨yN,a3⟩,⟨yL,a4⟩,⟨yL,a5⟩]=((qlI R n_Z63 o_Z63 [⟨yK,a0⟩,⟨yI,a1⟩,⟨yL,a2⟩,⟨yN,a3⟩,⟨yL,a4⟩,⟨yL,a5⟩]).bind fun r1=>(bif (r1.1 != (0:Int)) then some ⟨o_Z6,(false,())⟩ else((qlI R n_Z33 o_Z33 [⟨yK,a0⟩,⟨yI,a1⟩,⟨yL,a2⟩,⟨yN,a3⟩,⟨yL,a4⟩,⟨yL,a5⟩]).bind fun r2=>some ⟨o_Z6,((!r2.2.2.1),())⟩))):=by kernel_rfl
theorem Z11.ev(R:Run)(N:Nat)(a0:vK)(a1:Int)(a2:List Int)(a3:vN)(a4:List Int)(a5:Int):qsy E R sg_Z11 pol_Z11 F_Z11 N [⟨yK,a0⟩,⟨yI,a1⟩,⟨yL,a2⟩,⟨yN,a3⟩,⟨yL,a4⟩,⟨yI,a5⟩]=((qlI R n_Z20 o_Z20 [⟨yK,a0⟩,⟨yI,a1⟩,⟨yL,a2⟩,⟨yN,a3⟩,⟨yL,a4⟩,⟨yL,[a5]⟩]).bind fun r1=>some ⟨o_Z11,(r1.1,r1.2.1,())⟩):=by kernel_rfl
def Z91.l0(R:Run)(N n:Nat)(a b:List Int)(e:Int):Option Dv:=R.w (some ⟨(.c (.d yL a)::(.c (.d yL b)::(zd 3 (.c (.d yI e)::(zd 20 []))))),(zo 28 [])⟩) fun st=>lC R pol_Z91 4 N [1,1,0,1,0,0] F_Z91 n st (kB R pol_Z91 0 (kS R pol_Z91 8 N [1,1,1] F_Z91 (qs2 E sg_Z91 F_Z91)))
theorem Z91.l0_succ(R:Run)(hw:R.ok)(N n:Nat)(a b:List Int)(c:Int):Z91.l0 R N (n+1) a b c=(bif (decide (c<(List.length a:Int))) then((idx? a c).bind fun y4=>((idx? b c).bind fun y5=>(bif ((y4,()).1 != (y5,()).1) then some ⟨o_Z91,(false,())⟩ else(Z91.l0 R N n a b (w64 (c+1)))))) else some ⟨o_Z91,(true,())⟩):=(hw _ _).trans (by kernel_rfl)
theorem Z91.ev(R:Run)(N:Nat)(a0 a1:List Int):qsy E R sg_Z91 pol_Z91 F_Z91 N [⟨yL,a0⟩,⟨yL,a1⟩]=(bif ((List.length a0:Int) != (List.length a1:Int)) then some ⟨o_Z91,(false,())⟩ else(Z91.l0 R N N a0 a1 (0:Int))):=by kernel_rfl
def Z89.l0(R:Run)(N n:Nat)(a:List Int)(b e:Int):Option Dv:=R.w (some ⟨(.c (.d yL a)::(.c (.d yI b)::(zd 3 (.c (.d yI e)::(zd 12 []))))),(zo 20 [])⟩) fun st=>lC R pol_Z89 2 N [1,0,1,0,0] F_Z89 n st (kB R pol_Z89 0 (kS R pol_Z89 6 N [1,1] F_Z89 (qs2 E sg_Z89 F_Z89)))
theorem Z89.l0_succ(R:Run)(hw:R.ok)(N n:Nat)(a:List Int)(b c:Int):Z89.l0 R N (n+1) a b c=(bif (decide (c<(List.length a:Int))) then((idx? a c).bind fun y4=>(bif ((y4,()).1==b) then some ⟨o_Z89,(true,())⟩ else(Z89.l0 R N n a b (w64 (c+1))))) else some ⟨o_Z89,(false,())⟩):=(hw _ _).trans (by kernel_rfl)
theorem Z89.ev(R:Run)(N:Nat)(a0:List Int)(a1:Int):qsy E R sg_Z89 pol_Z89 F_Z89 N [⟨yL,a0⟩,⟨yI,a1⟩]=(Z89.l0 R N N a0 a1 (0:Int)):=by kernel_rfl
def Z92.j1(R:Run)(N a:Nat)(b:List Int)(e f:Int)(g:Bool):Option Dv:=R.w (some ⟨(.c (.d yL b)::(.c (.d yI e)::(zd 3 (.c (.d yI f)::(zd 34 (.c (.d .bool g)::[])))))),(zo 43 [])⟩) fun st=>eC R pol_Z92 N [1,0,1,0,0,1,0,0,1] F_Z92 st (kB R pol_Z92 1 (kS R pol_Z92 3 N [1,0,1,0,0,1,1] F_Z92 (kL R pol_Z92 2 N [1,0,1,0,0] F_Z92 a (kB R pol_Z92 0 (kS R pol_Z92 6 N [1,1] F_Z92 (qs2 E sg_Z92 F_Z92))))))
def Z92.l0(R:Run)(N n:Nat)(a:List Int)(b e:Int):Option Dv:=R.w (some ⟨(.c (.d yL a)::(.c (.d yI b)::(zd 3 (.c (.d yI e)::(zd 35 []))))),(zo 43 [])⟩) fun st=>lC R pol_Z92 2 N [1,0,1,0,0] F_Z92 n st (kB R pol_Z92 0 (kS R pol_Z92 6 N [1,1] F_Z92 (qs2 E sg_Z92 F_Z92)))
theorem Z92.j1_eq(R:Run)(hw:R.ok)(N a:Nat)(b:List Int)(c d:Int)(e:Bool):Z92.j1 R N a b c d e=(bif e then some ⟨o_Z92,(false,())⟩ else(Z92.l0 R N a b c (w64 (d+1)))):=(hw _ _).trans (by kernel_rfl)
theorem Z92.l0_succ(R:Run)(hw:R.ok)(N n:Nat)(a:List Int)(b c:Int):Z92.l0 R N (n+1) a b c=(bif (decide (c<(List.length a:Int))) then((idx? a c).bind fun y4=>(bif (decide ((y4,()).1<(0:Int))) then(Z92.j1 R N n a b c true) else((idx? a c).bind fun y12=>(bif (decide ((y12,()).1≥b)) then(Z92.j1 R N n a b c true) else(bif (decide (c>(0:Int))) then((idx? a (w64 (c-1))).bind fun y17=>((idx? a c).bind fun y18=>(Z92.j1 R N n a b c (decide ((y17,()).1≥(y18,()).1))))) else(Z92.j1 R N n a b c false)))))) else some ⟨o_Z92,(true,())⟩):=(hw _ _).trans (by kernel_rfl)
theorem Z92.ev(R:Run)(N:Nat)(a0:List Int)(a1:Int):qsy E R sg_Z92 pol_Z92 F_Z92 N [⟨yL,a0⟩,⟨yI,a1⟩]=(Z92.l0 R N N a0 a1 (0:Int)):=by kernel_rfl
def Z88.j3(R:Run)(N a:Nat)(b:List Int)(e:vK)(f:Int)(g:Bool)(h:vK)(i:Int)(j:List Int)(k:vN):Option Dv:=R.w (some ⟨(V.dead::(.c (.d (.sl (.int .u8)) b)::(zd 3 (.c (.box 5 0)::(.c (.d yK e)::(zd 3 (.c (.d yI f)::(zd 77 (.c (.d .bool g)::(zd 100 [])))))))))),(zo 5 (some (.box [.d yK h,.d yI i,.d yL j,.d yN k] false false)::(zo 185 [])))⟩) fun st=>eC R pol_Z88 N [1,1,1,1,1,1,1,0,1,0,0,1,0,0,1] F_Z88 st (kB R pol_Z88 1 (kS R pol_Z88 12 N [1,1,1,1,1,1,1,0,1,0,0,1,1] F_Z88 (kL R pol_Z88 11 N [1,1,1,1,1,1,1,0,1,0,0] F_Z88 a (kB R pol_Z88 0 (kS R pol_Z88 15 N [1,1,1,1,1,1,1,1] F_Z88 (qs2 E sg_Z88 F_Z88))))))
def Z88.j6(R:Run)(N a:Nat)(b e f g:List Int)(h i:Int)(j:List Int)(k:Bool)(l:vK)(m:Int)(o:List Int)(p:vN):Option Dv:=R.w (some ⟨(zd 11 (.c (.box 11 0)::(.c (.d yL b)::(.c (.d yL e)::(.c (.d yL f)::(V.dead::(.c (.d yL g)::(V.dead::(.c (.d yI h)::(.c (.d yI i)::(.c (.d yL j)::(zd 159 (.c (.d .bool k)::(zd 8 [])))))))))))))),(zo 11 (some (.box [.d yK l,.d yI m,.d yL o,.d yN p] false false)::(zo 179 [])))⟩) fun st=>eC R pol_Z88 N [1,1,1,1,1,1,1,1,1,1,1,1,1,1,0,1,0,0,1,0,0,1,0,1] F_Z88 st (kS R pol_Z88 29 N [1,1,1,1,1,1,1,1,1,1,1,1,1,1,0,1,0,0,1,0,0,1,1] F_Z88 (kB R pol_Z88 3 (kS R pol_Z88 25 N [1,1,1,1,1,1,1,1,1,1,1,1,1,1,0,1,0,0,1,1] F_Z88 (kL R pol_Z88 24 N [1,1,1,1,1,1,1,1,1,1,1,1,1,1,0,1,0,0] F_Z88 a (kB R pol_Z88 2 (q4_2 R N (qs2 E sg_Z88 F_Z88)))))))
def Z88.l5(R:Run)(N n:Nat)(a b e f:List Int)(g h:Int)(i:vK)(j:Int)(k:List Int)(l:vN):Option Dv:=R.w (some ⟨(zd 11 (.c (.box 11 0)::(.c (.d yL a)::(.c (.d yL b)::(.c (.d yL e)::(V.dead::(.c (.d yL f)::(V.dead::(.c (.d yI g)::(.c (.d yI h)::(zd 169 []))))))))))),(zo 11 (some (.box [.d yK i,.d yI j,.d yL k,.d yN l] false false)::(zo 179 [])))⟩) fun st=>lC R pol_Z88 24 N [1,1,1,1,1,1,1,1,1,1,1,1,1,1,0,1,0,0] F_Z88 n st (kB R pol_Z88 2 (q4_2 R N (qs2 E sg_Z88 F_Z88)))
def Z88.j4(R:Run)(N:Nat)(a b e f:List Int)(g:Bool)(h:vK)(i:Int)(j:List Int)(k:vN):Option Dv:=R.w (some ⟨(zd 11 (.c (.box 11 0)::(.c (.d yL a)::(.c (.d yL b)::(.c (.d yL e)::(V.dead::(.c (.d yL f)::(zd 113 (.c (.d .bool g)::(zd 58 [])))))))))),(zo 11 (some (.box [.d yK h,.d yI i,.d yL j,.d yN k] false false)::(zo 179 [])))⟩) fun st=>eC R pol_Z88 N [1,1,1,1,1,1,1,1,1,1,1,1,0,1] F_Z88 st (kS R pol_Z88 22 N [1,1,1,1,1,1,1,1,1,1,1,1,1] F_Z88 (qs2 E sg_Z88 F_Z88))
def Z88.l2(R:Run)(N n:Nat)(a:List Int)(b:vK)(e:Int)(f:vK)(g:Int)(h:List Int)(i:vN):Option Dv:=R.w (some ⟨(V.dead::(.c (.d (.sl (.int .u8)) a)::(zd 3 (.c (.box 5 0)::(.c (.d yK b)::(zd 3 (.c (.d yI e)::(zd 178 [])))))))),(zo 5 (some (.box [.d yK f,.d yI g,.d yL h,.d yN i] false false)::(zo 185 [])))⟩) fun st=>lC R pol_Z88 11 N [1,1,1,1,1,1,1,0,1,0,0] F_Z88 n st (kB R pol_Z88 0 (kS R pol_Z88 15 N [1,1,1,1,1,1,1,1] F_Z88 (qs2 E sg_Z88 F_Z88)))
def Z88.j1(R:Run)(N:Nat)(a:List Int)(b:vK)(e:Bool)(f:vK)(g:Int)(h:List Int)(i:vN):Option Dv:=R.w (some ⟨(V.dead::(.c (.d (.sl (.int .u8)) a)::(zd 3 (.c (.box 5 0)::(.c (.d yK b)::(zd 52 (.c (.d .bool e)::(zd 129 [])))))))),(zo 5 (some (.box [.d yK f,.d yI g,.d yL h,.d yN i] false false)::(zo 185 [])))⟩) fun st=>eC R pol_Z88 N [1,1,1,1,1,1,0,1] F_Z88 st (kS R pol_Z88 10 N [1,1,1,1,1,1,1] F_Z88 (qs2 E sg_Z88 F_Z88))
def Z88.j0(R:Run)(N:Nat)(a b:List Int)(e:Bool):Option Dv:=R.w (some ⟨(.c (.d (.sl (.int .u8)) a)::(.c (.d (.sl (.int .u8)) b)::(zd 25 (.c (.d .bool e)::(zd 161 []))))),(zo 191 [])⟩) fun st=>eC R pol_Z88 N [1,0,1] F_Z88 st (kS R pol_Z88 3 N [1,1] F_Z88 (qs2 E sg_Z88 F_Z88))
theorem Z88.j3_eq(R:Run)(hw:R.ok)(N a:Nat)(b:List Int)(c:vK)(d:Int)(e:Bool)(f:vK)(g:Int)(h:List Int)(i:vN):Z88.j3 R N a b c d e f g h i=(bif e then some ⟨o_Z88,(false,())⟩ else(Z88.l2 R N a b c (w64 (d+1)) f g h i)):=(hw _ _).trans (by kernel_rfl)
theorem Z88.j6_eq(R:Run)(hw:R.ok)(N a:Nat)(b c d e:List Int)(f g:Int)(h:List Int)(i:Bool)(j:vK)(k:Int)(l:List Int)(m:vN):Z88.j6 R N a b c d e f g h i j k l m=(bif i then some ⟨o_Z88,(false,())⟩ else(Z88.l5 R N a b c d e (w64 (f+(List.length h:Int))) (w64 (g+1)) j k l m)):=(hw _ _).trans (by kernel_rfl)
theorem Z88.l5_succ(R:Run)(hw:R.ok)(N n:Nat)(a b c d:List Int)(e f:Int)(g:vK)(h:Int)(i:List Int)(j:vN):Z88.l5 R N (n+1) a b c d e f g h i j=(bif (decide (f<(List.length b:Int))) then((idx? b f).bind fun y82=>((qlI R n_Z11 o_Z11 [⟨yK,g⟩,⟨yI,h⟩,⟨yL,i⟩,⟨yN,j⟩,⟨yL,a⟩,⟨yI,(y82,()).1⟩]).bind fun r83=>(bif (r83.2.1 != (0:Int)) then(Z88.j6 R N n a b c d e f r83.1 true g h i j) else(bif (decide ((w64 (e+(List.length r83.1:Int)))>(List.length c:Int))) then(Z88.j6 R N n a b c d e f r83.1 true g h i j) else((chk (decide (0≤e)&&decide (e≤(w64 (e+(List.length r83.1:Int))))&&decide ((w64 (e+(List.length r83.1:Int)))≤(List.length c:Int)))).bind fun _=>((qlI R n_Z91 o_Z91 [⟨yL,r83.1⟩,⟨yL,(List.drop (Int.toNat e) (List.take (Int.toNat (w64 (e+(List.length r83.1:Int)))) c))⟩]).bind fun r118=>(bif (!r118.1) then(Z88.j6 R N n a b c d e f r83.1 true g h i j) else((idx? b f).bind fun y131=>((qlI R n_Z93 o_Z93 [⟨yL,r83.1⟩]).bind fun r132=>((qlI R n_Z89 o_Z89 [⟨yL,d⟩,⟨yI,(y131,()).1⟩]).bind fun r133=>(Z88.j6 R N n a b c d e f r83.1 (r132.1==r133.1) g h i j))))))))))) else some ⟨o_Z88,((e==(List.length c:Int)),())⟩):=(hw _ _).trans (by kernel_rfl)
theorem Z88.j4_eq(R:Run)(hw:R.ok)(N:Nat)(a b c d:List Int)(e:Bool)(f:vK)(g:Int)(h:List Int)(i:vN):Z88.j4 R N a b c d e f g h i=(bif e then some ⟨o_Z88,(false,())⟩ else(Z88.l5 R N N a b c d (0:Int) (0:Int) f g h i)):=(hw _ _).trans (by kernel_rfl)
theorem Z88.l2_succ(R:Run)(hw:R.ok)(N n:Nat)(a:List Int)(b:vK)(c:Int)(d:vK)(e:Int)(f:List Int)(g:vN):Z88.l2 R N (n+1) a b c d e f g=(bif (decide (c<(List.length b:Int))) then((idx? b c).bind fun y22=>((qlI R n_Z126 o_Z126 [⟨yK,d⟩,⟨yI,e⟩,⟨yL,f⟩,⟨yN,g⟩,⟨yL,(y22,()).1⟩]).bind fun r23=>(bif (!r23.1) then(Z88.j3 R N n a b c true d e f g) else((idx? b c).bind fun y39=>((qlI R n_Z125 o_Z125 [⟨yK,d⟩,⟨yI,e⟩,⟨yL,f⟩,⟨yN,g⟩,⟨yI,(0:Int)⟩,⟨yL,(y39,()).1⟩]).bind fun r40=>(bif (!r40.1) then(Z88.j3 R N n a b c true d e f g) else((idx? b c).bind fun y49=>((qlI R n_Z93 o_Z93 [⟨yL,(y49,()).1⟩]).bind fun r50=>(Z88.j3 R N n a b c r50.1 d e f g))))))))) else((qlI R n_Z123 o_Z123 [⟨(.sl (.int .u8)),a⟩]).bind fun r59=>((qlI R n_Z20 o_Z20 [⟨yK,r59.1⟩,⟨yI,r59.2.1⟩,⟨yL,r59.2.2.1⟩,⟨yN,r59.2.2.2.1⟩,⟨yL,r59.2.2.2.2.1⟩,⟨yL,r59.2.2.2.2.2.1⟩]).bind fun r60=>(bif (r60.2.1 != (0:Int)) then some ⟨o_Z88,(((List.length r60.1:Int)==(0:Int)),())⟩ else((qlI R n_Z12 o_Z12 [⟨yK,r59.1⟩,⟨yI,r59.2.1⟩,⟨yL,r59.2.2.1⟩,⟨yN,r59.2.2.2.1⟩,⟨yL,r59.2.2.2.2.1⟩]).bind fun r61=>((qlI R n_Z6 o_Z6 [⟨yK,r59.1⟩,⟨yI,r59.2.1⟩,⟨yL,r59.2.2.1⟩,⟨yN,r59.2.2.2.1⟩,⟨yL,r59.2.2.2.2.2.1⟩,⟨yL,r60.1⟩]).bind fun r62=>(bif (!r62.1) then(Z88.j4 R N r59.2.2.2.2.1 r59.2.2.2.2.2.1 r60.1 r61.1 true r59.1 r59.2.1 r59.2.2.1 r59.2.2.2.1) else(bif (r61.2.1 != (0:Int)) then(Z88.j4 R N r59.2.2.2.2.1 r59.2.2.2.2.2.1 r60.1 r61.1 true r59.1 r59.2.1 r59.2.2.1 r59.2.2.2.1) else((qlI R n_Z92 o_Z92 [⟨yL,r61.1⟩,⟨yI,(List.length r59.1:Int)⟩]).bind fun r155=>(Z88.j4 R N r59.2.2.2.2.1 r59.2.2.2.2.2.1 r60.1 r61.1 (!r155.1) r59.1 r59.2.1 r59.2.2.1 r59.2.2.2.1)))))))))):=(hw _ _).trans (by kernel_rfl)
theorem Z88.j1_eq(R:Run)(hw:R.ok)(N:Nat)(a:List Int)(b:vK)(c:Bool)(d:vK)(e:Int)(f:List Int)(g:vN):Z88.j1 R N a b c d e f g=(bif c then some ⟨o_Z88,(false,())⟩ else(Z88.l2 R N N a b (0:Int) d e f g)):=(hw _ _).trans (by kernel_rfl)
theorem Z88.j0_eq(R:Run)(hw:R.ok)(N:Nat)(a b:List Int)(c:Bool):Z88.j0 R N a b c=(bif c then some ⟨o_Z88,(true,())⟩ else((qlI R n_Z122 o_Z122 [⟨(.sl (.int .u8)),a⟩]).bind fun r5=>((qlI R n_Z5 o_Z5 [⟨yK,r5.1⟩,⟨yI,r5.2.1⟩,⟨yL,r5.2.2.1⟩,⟨yN,r5.2.2.2.1⟩]).bind fun r6=>(bif (r6.2.1 != (0:Int)) then some ⟨o_Z88,(((List.length r6.1:Int)==(0:Int)),())⟩ else((qlI R n_Z121 o_Z121 [⟨yK,r5.1⟩,⟨yI,r5.2.1⟩,⟨yL,r5.2.2.1⟩,⟨yN,r5.2.2.2.1⟩]).bind fun r7=>(bif (r7.2.1 != (0:Int)) then(Z88.j1 R N b r6.1 true r5.1 r5.2.1 r5.2.2.1 r5.2.2.2.1) else(bif (decide ((List.length r7.1:Int)<(1:Int))) then(Z88.j1 R N b r6.1 true r5.1 r5.2.1 r5.2.2.1 r5.2.2.2.1) else((idx? r7.1 (0:Int)).bind fun y172=>(Z88.j1 R N b r6.1 ((List.length r6.1:Int) != (y172,()).1) r5.1 r5.2.1 r5.2.2.1 r5.2.2.2.1))))))))):=(hw _ _).trans (by kernel_rfl)
theorem Z88.ev(R:Run)(N:Nat)(a0 a1:List Int):qsy E R sg_Z88 pol_Z88 F_Z88 N [⟨(.sl (.int .u8)),a0⟩,⟨(.sl (.int .u8)),a1⟩]=((qlI R n_Z90 o_Z90 [⟨(.sl (.int .u8)),a0⟩]).bind fun r1=>(bif r1.1 then(Z88.j0 R N a0 a1 true) else((qlI R n_Z90 o_Z90 [⟨(.sl (.int .u8)),a1⟩]).bind fun r180=>(Z88.j0 R N a0 a1 r180.1)))):=by kernel_rfl
end
end VeT


namespace VeT
section
open Go Go.Proofs Go.RowKit Go.Lib
set_option maxHeartbeats 2000000 in
set_option maxRecDepth 100000 in
theorem qlv(base:Option Addr)(l c n:Nat)(w:World)(hlc:l≤c)(hc63:c≤9223372036854775807)(hn63:n≤9223372036854775807)(hroom:l+n≤c) :
  Calls Tryz.prog 285 #[.slice base l c,.int .i64 n] w fun e w'=>e=.returned (.slice base l c)∧w'=w:=by
 have h1:¬ ((n:Int)<0):=by omega
 have h2:wrap64 ((c:Int)-(l:Int))=(c:Int)-(l:Int):=by unfold wrap64;omega
 have h3:wrap64 ((n:Int)-((c:Int)-(l:Int)))=(n:Int)-((c:Int)-(l:Int)):=by unfold wrap64;omega
 have h4:¬ ((n:Int)-((c:Int)-(l:Int))>0):=by omega
 go_enter Tryz.func285,Tryz.ntmps285
 go_wp2
 go_ret
 exact⟨rfl,rfl⟩
set_option maxHeartbeats 4000000 in
set_option maxRecDepth 100000 in
theorem qlx(i0:TypeInfo)(z:Value)(hi0:Tryz.prog.info? 2=some i0)(hz0:i0.zero=some z)(hs0:0<i0.size)
    (base:Option Addr) (l c n:Nat) (cs:List Value) (w:World) (hlc:l≤c) (hroom:c<l+n) (hbig:(l+n)*i0.bytes≤140737488355328) (h63:l+n≤4611686018427387904)
    (hcl:cs.length=c*i0.size) (hnil:base=none→c=0) (hcs:∀ a,base=some a→∀(j:Nat) v,cs[j]? = some v→w.cell? (a.add j)=some v) :
    Calls Tryz.prog 285 #[.slice base l c,.int .i64 n] w fun e w' =>
      e=.returned (.slice (some ⟨w.heap.size,0,none⟩) l (grownCap w (l+n) c 2)) ∧
      w'=w.drew.alloc (.cells (cs.toArray++Builtin.zeroCells z.cells (l+n-c)++Builtin.zeroCells z.cells (grownCap w (l+n) c 2-(l+n))) 2):=by
  have h1:¬ ((n:Int)<0):=by omega
  have h2:wrap64 ((c:Int)-(l:Int))=(c:Int)-(l:Int):=by unfold wrap64;omega
  have h3:wrap64 ((n:Int)-((c:Int)-(l:Int)))=(n:Int)-((c:Int)-(l:Int)):=by unfold wrap64;omega
  have h4:(n:Int)-((c:Int)-(l:Int))>0:=by omega
  have z25:∀ w,(Go.sizeOf 2).run Tryz.prog w=.ok i0.size w:=fun w=>by simp[Go.sizeOf,typeInfo,hi0]
  have hck:c+(l+n-c)=l+n:=by omega
  have hold:(Builtin.firstCells i0.size c (.slice base c c)).run Tryz.prog w.drew=.ok cs.toArray w.drew:=by
    cases base with
    | none =>
      have h0:=hnil rfl
      subst h0
      have hc0:cs=[]:=List.length_eq_zero_iff.1 (by simpa using hcl)
      rw[hc0]
      exact run_firstCells_none w.drew i0.size 0 0 0
    | some a=>exact run_firstCells_some w.drew i0.size c a c c cs hcl (fun j v hj=>hcs a rfl j v hj)
  have hrz:∀ ty,(Builtin.append_ #[27,3] ty #[.slice base c c,.int .i64 ((n:Int)-((c:Int)-(l:Int)))]).run Tryz.prog w =
      .ok (.slice (some ⟨w.heap.size,0,none⟩) (l+n) (grownCap w (l+n) c 2)) (w.drew.alloc (.cells (cs.toArray++Builtin.zeroCells z.cells (l+n-c)++Builtin.zeroCells z.cells (grownCap w (l+n) c 2-(l+n))) 2)):=fun ty=>by
    have h:=Lib.run_append_grow_zeros w 27 3 ty 2 i0 z .i64 .i64 Tryz.underlying27 Tryz.underlying3 hi0 hz0 base c c cs hold (l+n-c) (by omega) hs0 (by omega) (by omega)
      (by have:(l+n-c)*i0.bytes≤(l+n)*i0.bytes:=Nat.mul_le_mul_right _ (by omega)
          omega)
      (by rw[hck];exact growslice_fits hroom hbig)
    rw[hck] at h
    rw[show(n:Int)-((c:Int)-(l:Int))=((l+n-c:Nat):Int) by omega]
    exact h
  have hGn:l+n≤grownCap w (l+n) c 2:=grownCap_ge w _ _ _
  obtain⟨G,hG⟩:∃ G,G=grownCap w (l+n) c 2:=⟨_,rfl⟩
  rw[← hG] at hrz hGn ⊢
  have hG63:G≤9223372036854775807:=by
    have:=grownCap_le_maxLen w (l+n) c 2 (by unfold maxLen;omega)
    rw[← hG] at this
    unfold maxLen at this
    omega
  clear hold hck hG hcs hcl
  go_enter Tryz.func285,Tryz.ntmps285
  cases base with
  | none =>
    have h0:=hnil rfl
    subst h0
    obtain rfl:l=0:=by omega
    go_wp2_with (at_builtin;refine Lib.wpList_append_run _ rfl _ _ _ _ rfl _ _ rfl rfl _ _ (hrz _) ?_)
    all_goals (go_ret;exact⟨rfl,rfl⟩)
  | some a =>
    obtain⟨ab,ao,asp⟩:=a
    go_wp2_with (at_builtin;refine Lib.wpList_append_run _ rfl _ _ _ _ rfl _ _ rfl rfl _ _ (hrz _) ?_)
    all_goals (go_ret;exact⟨rfl,rfl⟩)
theorem qlL:(Tryz.prog.info? 2).any (fun i=>i.size==Ve.Ty.size yI&&i.zero.any (fun z=>z.cells.size==Ve.Ty.size yI)&&decide (i.bytes≤64*Ve.Ty.size yI)&&decide (0<i.bytes)&&decide (0<Ve.Ty.size yI))=true:=by kernel_rfl
open Ve in
theorem qhE(R:Run){args:List Dv}{dv:Dv}(h:qoa yI R args=some dv) :
  qdz Tryz.prog ⟨[(false,1),(false,1)],[.take true,.imm],.cons yL .nil,[(false,1)],[.deep],[]⟩ 285 args dv:=by
 have hi:=qlL
 cases hi0:Tryz.prog.info? 2 with
 | none=>rw[hi0] at hi;cases hi
 | some i0 =>
  rw[hi0] at hi
  simp only[Option.any_some,Bool.and_eq_true,decide_eq_true_eq,beq_iff_eq] at hi
  obtain⟨⟨⟨⟨h1,h2⟩,h3⟩,h4⟩,h5⟩:=hi
  cases hz:i0.zero with
  | none=>rw[hz] at h2;cases h2
  | some z =>
   rw[hz] at h2
   exact qkY h1 (by simpa using h2) h5 h3 h4 qlv (fun base l c n cs w a1 a2 a3 a4 a5 a6 a7=>qlx i0 z hi0 hz (by rw[h1];exact h5) base l c n cs w a1 a2 a3 a4 a5 a6 a7) R h
end
section
open Go Ve
theorem qqD:primL=(List.range 378).map fun i=>bif Nat.beq i 285 then some (qoa yI) else none:=by kernel_rfl
theorem qsz:∀ f p,E.prim f=some p→∀ r,qh7 E (mkR r)→∀ args dv sg,E.sig f=some sg→p (mkR r) args=some dv→qdz E.P sg f args dv:=by
 intro f p hp r hr args dv sg hsg h
 have hp:primL.getD f none=some p:=hp
 rw[qqD,List.getD_eq_getElem?_getD,List.getElem?_map] at hp
 by_cases hf:f<378
 ·rw[List.getElem?_range hf] at hp
  simp only[Option.map_some,Option.getD_some] at hp
  by_cases h285:f=285
  ·subst h285
   obtain rfl:(qoa yI)=p:=Option.some.inj hp
   obtain rfl:sg_Z109=sg:=Option.some.inj (sig_slices_Grow_Sint64_int64_eq.symm.trans hsg)
   exact qhE _ h
  rw[show Nat.beq f 285=false from Bool.eq_false_iff.2 fun h=>h285 (Nat.eq_of_beq_eq_true h),cond_false] at hp
  cases hp
 ·rw[List.getElem?_eq_none (by simpa using hf)] at hp
  cases hp
end
end VeT
open Go Go.Proofs Ve
namespace VeT
end VeT
open Go Go.Proofs Ve
namespace VeT
theorem qbd(s:List (List Int))(c:((vK×Unit)×(Int×Unit)×Unit))(p:(List Int)→Bool)(hs:s.length≤1048576)(hp:∀ x∈s,Ret E n_Z14 [⟨yL,x⟩,⟨(.ptr yC),c.1⟩,⟨(.ptr (.cons yI .nil)),c.2.1⟩] ⟨o_Z14,(p x,())⟩) :
    Ret E n_Z110 [⟨yK,s⟩,⟨(.fn n_Z14 (.cons (.ptr yC) (.cons (.ptr (.cons yI .nil)) .nil))),c⟩] ⟨o_Z110,(qjl p s,())⟩:=by
  obtain⟨o,h1,h2,h3⟩:=qbT 1 (L:=fun φ n k=>Z111.l0 (mkR (run E (φ 0))) (φ 0) n s c (s.length:Int) k) (len:=s.length) (fun k=>∃ h:k<s.length,p s[k]=true) (fun o=>some ⟨o_Z110,(o2i o,())⟩) (fun _ _ _ _=>rfl) (fun k hk hP=>by
      obtain⟨_,hP⟩:=hP
      simp only[Z111.l0_succ _ qae]
      refine qax (decide_eq_true (by omega)) (qab (qaj hk) (qaa (hp _ (List.getElem_mem hk)) (qax hP qal)))) (fun k q hk hP ih=>by
      simp only[Z111.l0_succ _ qae]
      refine qax (decide_eq_true (by omega)) (qab (qaj hk) (qaa (hp _ (List.getElem_mem hk)) (qaC (Bool.eq_false_iff.2 fun h=>hP ⟨hk,h⟩) ?_)))
      rw[qad (by omega)];exact ih) (by
      simp only[Z111.l0_succ _ qae]
      exact qaC (decide_eq_false (by omega)) qal)
  rw[qdd h1 h2] at h3
  refine qai ?_
  simp only[run_Z110,Z111.ev]
  exact Ev.start (p:=fun φ n=>Z111.l0 (mkR (run E (φ 0))) (φ 0) n s c (s.length:Int) 0=_) 1 h3 (fun _ _ _ h=>h)
theorem qbs(s:List (List Int))(c:((Int×Unit)×Unit))(p:(List Int)→Bool)(hs:s.length≤1048576)(hp:∀ x∈s,Ret E n_Z38 [⟨yL,x⟩,⟨(.ptr (.cons yI .nil)),c.1⟩] ⟨o_Z38,(p x,())⟩) :
    Ret E n_Z110 [⟨yK,s⟩,⟨(.fn n_Z38 (.cons (.ptr (.cons yI .nil)) .nil)),c⟩] ⟨o_Z110,(qjl p s,())⟩:=by
  obtain⟨o,h1,h2,h3⟩:=qbT 1 (L:=fun φ n k=>Z112.l0 (mkR (run E (φ 0))) (φ 0) n s c (s.length:Int) k) (len:=s.length) (fun k=>∃ h:k<s.length,p s[k]=true) (fun o=>some ⟨o_Z110,(o2i o,())⟩) (fun _ _ _ _=>rfl) (fun k hk hP=>by
      obtain⟨_,hP⟩:=hP
      simp only[Z112.l0_succ _ qae]
      refine qax (decide_eq_true (by omega)) (qab (qaj hk) (qaa (hp _ (List.getElem_mem hk)) (qax hP qal)))) (fun k q hk hP ih=>by
      simp only[Z112.l0_succ _ qae]
      refine qax (decide_eq_true (by omega)) (qab (qaj hk) (qaa (hp _ (List.getElem_mem hk)) (qaC (Bool.eq_false_iff.2 fun h=>hP ⟨hk,h⟩) ?_)))
      rw[qad (by omega)];exact ih) (by
      simp only[Z112.l0_succ _ qae]
      exact qaC (decide_eq_false (by omega)) qal)
  rw[qdd h1 h2] at h3
  refine qai ?_
  simp only[run_Z110,Z112.ev]
  exact Ev.start (p:=fun φ n=>Z112.l0 (mkR (run E (φ 0))) (φ 0) n s c (s.length:Int) 0=_) 1 h3 (fun _ _ _ h=>h)
theorem qbk(s:List Int)(p:Int→Bool)(hs:s.length≤1048576)(hp:∀ x∈s,Ret E n_Z19 [⟨yI,x⟩] ⟨o_Z19,(p x,())⟩) :
    Ret E n_Z113 [⟨yL,s⟩,⟨(.fn n_Z19 .nil),()⟩] ⟨o_Z113,(qjl p s,())⟩:=by
  obtain⟨o,h1,h2,h3⟩:=qbT 1 (L:=fun φ n k=>Z114.l0 (mkR (run E (φ 0))) (φ 0) n s (s.length:Int) k) (len:=s.length) (fun k=>∃ h:k<s.length,p s[k]=true) (fun o=>some ⟨o_Z113,(o2i o,())⟩) (fun _ _ _ _=>rfl) (fun k hk hP=>by
      obtain⟨_,hP⟩:=hP
      simp only[Z114.l0_succ _ qae]
      refine qax (decide_eq_true (by omega)) (qab (qaj hk) (qaa (hp _ (List.getElem_mem hk)) (qax hP qal)))) (fun k q hk hP ih=>by
      simp only[Z114.l0_succ _ qae]
      refine qax (decide_eq_true (by omega)) (qab (qaj hk) (qaa (hp _ (List.getElem_mem hk)) (qaC (Bool.eq_false_iff.2 fun h=>hP ⟨hk,h⟩) ?_)))
      rw[qad (by omega)];exact ih) (by
      simp only[Z114.l0_succ _ qae]
      exact qaC (decide_eq_false (by omega)) qal)
  rw[qdd h1 h2] at h3
  refine qai ?_
  simp only[run_Z113,Z114.ev]
  exact Ev.start (p:=fun φ n=>Z114.l0 (mkR (run E (φ 0))) (φ 0) n s (s.length:Int) 0=_) 1 h3 (fun _ _ _ h=>h)
theorem qbn(s:List Int)(c:((Int×Unit)×Unit))(p:Int→Bool)(hs:s.length≤1048576)(hp:∀ x∈s,Ret E n_Z25 [⟨yI,x⟩,⟨(.ptr (.cons yI .nil)),c.1⟩] ⟨o_Z25,(p x,())⟩) :
    Ret E n_Z113 [⟨yL,s⟩,⟨(.fn n_Z25 (.cons (.ptr (.cons yI .nil)) .nil)),c⟩] ⟨o_Z113,(qjl p s,())⟩:=by
  obtain⟨o,h1,h2,h3⟩:=qbT 1 (L:=fun φ n k=>Z115.l0 (mkR (run E (φ 0))) (φ 0) n s c (s.length:Int) k) (len:=s.length) (fun k=>∃ h:k<s.length,p s[k]=true) (fun o=>some ⟨o_Z113,(o2i o,())⟩) (fun _ _ _ _=>rfl) (fun k hk hP=>by
      obtain⟨_,hP⟩:=hP
      simp only[Z115.l0_succ _ qae]
      refine qax (decide_eq_true (by omega)) (qab (qaj hk) (qaa (hp _ (List.getElem_mem hk)) (qax hP qal)))) (fun k q hk hP ih=>by
      simp only[Z115.l0_succ _ qae]
      refine qax (decide_eq_true (by omega)) (qab (qaj hk) (qaa (hp _ (List.getElem_mem hk)) (qaC (Bool.eq_false_iff.2 fun h=>hP ⟨hk,h⟩) ?_)))
      rw[qad (by omega)];exact ih) (by
      simp only[Z115.l0_succ _ qae]
      exact qaC (decide_eq_false (by omega)) qal)
  rw[qdd h1 h2] at h3
  refine qai ?_
  simp only[run_Z113,Z115.ev]
  exact Ev.start (p:=fun φ n=>Z115.l0 (mkR (run E (φ 0))) (φ 0) n s c (s.length:Int) 0=_) 1 h3 (fun _ _ _ h=>h)
theorem qbv(s:List Int)(p:Int→Bool)(hs:s.length≤1048576)(hp:∀ x∈s,Ret E n_Z28 [⟨yI,x⟩] ⟨o_Z28,(p x,())⟩) :
    Ret E n_Z113 [⟨yL,s⟩,⟨(.fn n_Z28 .nil),()⟩] ⟨o_Z113,(qjl p s,())⟩:=by
  obtain⟨o,h1,h2,h3⟩:=qbT 1 (L:=fun φ n k=>Z116.l0 (mkR (run E (φ 0))) (φ 0) n s (s.length:Int) k) (len:=s.length) (fun k=>∃ h:k<s.length,p s[k]=true) (fun o=>some ⟨o_Z113,(o2i o,())⟩) (fun _ _ _ _=>rfl) (fun k hk hP=>by
      obtain⟨_,hP⟩:=hP
      simp only[Z116.l0_succ _ qae]
      refine qax (decide_eq_true (by omega)) (qab (qaj hk) (qaa (hp _ (List.getElem_mem hk)) (qax hP qal)))) (fun k q hk hP ih=>by
      simp only[Z116.l0_succ _ qae]
      refine qax (decide_eq_true (by omega)) (qab (qaj hk) (qaa (hp _ (List.getElem_mem hk)) (qaC (Bool.eq_false_iff.2 fun h=>hP ⟨hk,h⟩) ?_)))
      rw[qad (by omega)];exact ih) (by
      simp only[Z116.l0_succ _ qae]
      exact qaC (decide_eq_false (by omega)) qal)
  rw[qdd h1 h2] at h3
  refine qai ?_
  simp only[run_Z113,Z116.ev]
  exact Ev.start (p:=fun φ n=>Z116.l0 (mkR (run E (φ 0))) (φ 0) n s (s.length:Int) 0=_) 1 h3 (fun _ _ _ h=>h)
theorem qbK(s:List Int)(c:(((List Int)×Unit)×Unit))(p:Int→Bool)(hs:s.length≤1048576)(hp:∀ x∈s,Ret E n_Z54 [⟨yI,x⟩,⟨(.ptr (.cons yL .nil)),c.1⟩] ⟨o_Z54,(p x,())⟩) :
    Ret E n_Z113 [⟨yL,s⟩,⟨(.fn n_Z54 (.cons (.ptr (.cons yL .nil)) .nil)),c⟩] ⟨o_Z113,(qjl p s,())⟩:=by
  obtain⟨o,h1,h2,h3⟩:=qbT 1 (L:=fun φ n k=>Z117.l0 (mkR (run E (φ 0))) (φ 0) n s c (s.length:Int) k) (len:=s.length) (fun k=>∃ h:k<s.length,p s[k]=true) (fun o=>some ⟨o_Z113,(o2i o,())⟩) (fun _ _ _ _=>rfl) (fun k hk hP=>by
      obtain⟨_,hP⟩:=hP
      simp only[Z117.l0_succ _ qae]
      refine qax (decide_eq_true (by omega)) (qab (qaj hk) (qaa (hp _ (List.getElem_mem hk)) (qax hP qal)))) (fun k q hk hP ih=>by
      simp only[Z117.l0_succ _ qae]
      refine qax (decide_eq_true (by omega)) (qab (qaj hk) (qaa (hp _ (List.getElem_mem hk)) (qaC (Bool.eq_false_iff.2 fun h=>hP ⟨hk,h⟩) ?_)))
      rw[qad (by omega)];exact ih) (by
      simp only[Z117.l0_succ _ qae]
      exact qaC (decide_eq_false (by omega)) qal)
  rw[qdd h1 h2] at h3
  refine qai ?_
  simp only[run_Z113,Z117.ev]
  exact Ev.start (p:=fun φ n=>Z117.l0 (mkR (run E (φ 0))) (φ 0) n s c (s.length:Int) 0=_) 1 h3 (fun _ _ _ h=>h)
theorem qbJ(s:List Int)(p:Int→Bool)(hs:s.length≤1048576)(hp:∀ x∈s,Ret E n_Z61 [⟨yI,x⟩] ⟨o_Z61,(p x,())⟩) :
    Ret E n_Z113 [⟨yL,s⟩,⟨(.fn n_Z61 .nil),()⟩] ⟨o_Z113,(qjl p s,())⟩:=by
  obtain⟨o,h1,h2,h3⟩:=qbT 1 (L:=fun φ n k=>Z118.l0 (mkR (run E (φ 0))) (φ 0) n s (s.length:Int) k) (len:=s.length) (fun k=>∃ h:k<s.length,p s[k]=true) (fun o=>some ⟨o_Z113,(o2i o,())⟩) (fun _ _ _ _=>rfl) (fun k hk hP=>by
      obtain⟨_,hP⟩:=hP
      simp only[Z118.l0_succ _ qae]
      refine qax (decide_eq_true (by omega)) (qab (qaj hk) (qaa (hp _ (List.getElem_mem hk)) (qax hP qal)))) (fun k q hk hP ih=>by
      simp only[Z118.l0_succ _ qae]
      refine qax (decide_eq_true (by omega)) (qab (qaj hk) (qaa (hp _ (List.getElem_mem hk)) (qaC (Bool.eq_false_iff.2 fun h=>hP ⟨hk,h⟩) ?_)))
      rw[qad (by omega)];exact ih) (by
      simp only[Z118.l0_succ _ qae]
      exact qaC (decide_eq_false (by omega)) qal)
  rw[qdd h1 h2] at h3
  refine qai ?_
  simp only[run_Z113,Z118.ev]
  exact Ev.start (p:=fun φ n=>Z118.l0 (mkR (run E (φ 0))) (φ 0) n s (s.length:Int) 0=_) 1 h3 (fun _ _ _ h=>h)
theorem qbr(s:List Int)(c:(((List Int)×Unit)×Unit))(p:Int→Bool)(hs:s.length≤1048576)(hp:∀ x∈s,Ret E n_Z72 [⟨yI,x⟩,⟨(.ptr (.cons yL .nil)),c.1⟩] ⟨o_Z72,(p x,())⟩) :
    Ret E n_Z113 [⟨yL,s⟩,⟨(.fn n_Z72 (.cons (.ptr (.cons yL .nil)) .nil)),c⟩] ⟨o_Z113,(qjl p s,())⟩:=by
  obtain⟨o,h1,h2,h3⟩:=qbT 1 (L:=fun φ n k=>Z119.l0 (mkR (run E (φ 0))) (φ 0) n s c (s.length:Int) k) (len:=s.length) (fun k=>∃ h:k<s.length,p s[k]=true) (fun o=>some ⟨o_Z113,(o2i o,())⟩) (fun _ _ _ _=>rfl) (fun k hk hP=>by
      obtain⟨_,hP⟩:=hP
      simp only[Z119.l0_succ _ qae]
      refine qax (decide_eq_true (by omega)) (qab (qaj hk) (qaa (hp _ (List.getElem_mem hk)) (qax hP qal)))) (fun k q hk hP ih=>by
      simp only[Z119.l0_succ _ qae]
      refine qax (decide_eq_true (by omega)) (qab (qaj hk) (qaa (hp _ (List.getElem_mem hk)) (qaC (Bool.eq_false_iff.2 fun h=>hP ⟨hk,h⟩) ?_)))
      rw[qad (by omega)];exact ih) (by
      simp only[Z119.l0_succ _ qae]
      exact qaC (decide_eq_false (by omega)) qal)
  rw[qdd h1 h2] at h3
  refine qai ?_
  simp only[run_Z113,Z119.ev]
  exact Ev.start (p:=fun φ n=>Z119.l0 (mkR (run E (φ 0))) (φ 0) n s c (s.length:Int) 0=_) 1 h3 (fun _ _ _ h=>h)
theorem qa6(s:List (List Int))(c:((vK×Unit)×(Int×Unit)×Unit))(p:(List Int)→Bool)(hs:s.length≤1048576)(hp:∀ x∈s,Ret E n_Z14 [⟨yL,x⟩,⟨(.ptr yC),c.1⟩,⟨(.ptr (.cons yI .nil)),c.2.1⟩] ⟨o_Z14,(p x,())⟩) :
  Ret E n_Z99 [⟨yK,s⟩,⟨(.fn n_Z14 (.cons (.ptr yC) (.cons (.ptr (.cons yI .nil)) .nil))),c⟩] ⟨o_Z99,(pb (∃ x∈s,p x=true),())⟩:=by
 refine qai ?_
 simp only[run_Z99,Z100.ev]
 refine qaa (qbd s c p hs hp) (qah ?_)
 simp only[ge_iff_le,qeZ,qaG qbN]
theorem qbb(s:List Int)(p:Int→Bool)(hs:s.length≤1048576)(hp:∀ x∈s,Ret E n_Z19 [⟨yI,x⟩] ⟨o_Z19,(p x,())⟩) :
  Ret E n_Z101 [⟨yL,s⟩,⟨(.fn n_Z19 .nil),()⟩] ⟨o_Z101,(pb (∃ x∈s,p x=true),())⟩:=by
 refine qai ?_
 simp only[run_Z101,Z102.ev]
 refine qaa (qbk s p hs hp) (qah ?_)
 simp only[ge_iff_le,qeZ,qaG qbN]
theorem qbg(s:List Int)(c:((Int×Unit)×Unit))(p:Int→Bool)(hs:s.length≤1048576)(hp:∀ x∈s,Ret E n_Z25 [⟨yI,x⟩,⟨(.ptr (.cons yI .nil)),c.1⟩] ⟨o_Z25,(p x,())⟩) :
  Ret E n_Z101 [⟨yL,s⟩,⟨(.fn n_Z25 (.cons (.ptr (.cons yI .nil)) .nil)),c⟩] ⟨o_Z101,(pb (∃ x∈s,p x=true),())⟩:=by
 refine qai ?_
 simp only[run_Z101,Z103.ev]
 refine qaa (qbn s c p hs hp) (qah ?_)
 simp only[ge_iff_le,qeZ,qaG qbN]
theorem qbj(s:List Int)(p:Int→Bool)(hs:s.length≤1048576)(hp:∀ x∈s,Ret E n_Z28 [⟨yI,x⟩] ⟨o_Z28,(p x,())⟩) :
  Ret E n_Z101 [⟨yL,s⟩,⟨(.fn n_Z28 .nil),()⟩] ⟨o_Z101,(pb (∃ x∈s,p x=true),())⟩:=by
 refine qai ?_
 simp only[run_Z101,Z104.ev]
 refine qaa (qbv s p hs hp) (qah ?_)
 simp only[ge_iff_le,qeZ,qaG qbN]
theorem qbx(s:List Int)(c:(((List Int)×Unit)×Unit))(p:Int→Bool)(hs:s.length≤1048576)(hp:∀ x∈s,Ret E n_Z54 [⟨yI,x⟩,⟨(.ptr (.cons yL .nil)),c.1⟩] ⟨o_Z54,(p x,())⟩) :
  Ret E n_Z101 [⟨yL,s⟩,⟨(.fn n_Z54 (.cons (.ptr (.cons yL .nil)) .nil)),c⟩] ⟨o_Z101,(pb (∃ x∈s,p x=true),())⟩:=by
 refine qai ?_
 simp only[run_Z101,Z105.ev]
 refine qaa (qbK s c p hs hp) (qah ?_)
 simp only[ge_iff_le,qeZ,qaG qbN]
theorem qbw(s:List Int)(p:Int→Bool)(hs:s.length≤1048576)(hp:∀ x∈s,Ret E n_Z61 [⟨yI,x⟩] ⟨o_Z61,(p x,())⟩) :
  Ret E n_Z101 [⟨yL,s⟩,⟨(.fn n_Z61 .nil),()⟩] ⟨o_Z101,(pb (∃ x∈s,p x=true),())⟩:=by
 refine qai ?_
 simp only[run_Z101,Z106.ev]
 refine qaa (qbJ s p hs hp) (qah ?_)
 simp only[ge_iff_le,qeZ,qaG qbN]
theorem qc8(p:Int)(R C:Nat)(c:(vM×Unit))(f:Nat→Nat→Int)(hR:R≤1048576)(hC:C≤1048576)(hRC:R*C≤1048576)(hf:∀ i j:Nat,i<R→j<C→Ret E n_Z80 [⟨yI,(i:Int)⟩,⟨yI,(j:Int)⟩,⟨(.ptr yM),c.1⟩] ⟨o_Z80,(f i j,())⟩) :
  Ret E n_Z41 [⟨yI,p⟩,⟨yI,(R:Int)⟩,⟨yI,(C:Int)⟩,⟨(.fn n_Z80 (.cons (.ptr yM) .nil)),c⟩] ⟨o_Z41,(p,(R:Int),(C:Int),qas f C R,())⟩:=by
 refine qai ?_
 simp only[run_Z41,Z43.ev]
 refine Ev.start (p:=fun φ n=>Z43.l0 (mkR (run E (φ 0))) (φ 0) n (C:Int) c (R:Int) 0 0 0 0 p (R:Int) (C:Int) []=_) 1 ?_ (fun _ _ _ h=>h)
 refine qam 1 (L:=fun φ n k a=>Z43.l0 (mkR (run E (φ 0))) (φ 0) n (C:Int) c (R:Int) k 0 0 0 p (R:Int) (C:Int) a) (len:=R) (fun k=>qas f C k) (fun _ _ _ _ _=>rfl) (fun k r hk ih=>?_) ?_
 ·simp only[Z43.l0_succ _ qae]
  refine qax (decide_eq_true (by omega)) ?_
  refine Ev.start (p:=fun φ n=>Z43.l1 (mkR (run E (φ 0))) (φ 0) (φ 1) n (C:Int) c (k:Int) (R:Int) (k:Int) (C:Int) 0 0 0 0 p (R:Int) (C:Int) (qas f C k)=_) 2 ?_ (fun _ _ _ h=>h)
  have hle:(k+1)*C≤R*C:=Nat.mul_le_mul_right _ hk
  rw[Nat.add_mul] at hle
  have:=qam 2 (L:=fun φ n j a=>Z43.l1 (mkR (run E (φ 0))) (φ 0) (φ 1) n (C:Int) c (k:Int) (R:Int) (k:Int) (C:Int) j 0 0 0 p (R:Int) (C:Int) a) (len:=C) (fun j=>qas f C k++(List.range j).map (f k)) (r:=r) (fun _ _ _ _ _=>rfl) (fun j r hj ih=>?_) ?_
  ·simpa using this
  ·simp only[Z43.l1_succ _ qae]
   rw[List.range_succ,List.map_append,← List.append_assoc] at ih
   refine qax (decide_eq_true (by omega)) (qaa (hf k j hk hj) (qao (by simp[qar];omega) ?_))
   rw[qad (by omega)];exact ih
  ·simp only[Z43.l1_succ _ qae]
   refine qaC (decide_eq_false (by omega)) ?_
   rw[qad (by omega)];exact ih
 ·simp only[Z43.l0_succ _ qae]
  exact qaC (decide_eq_false (by omega)) qal
theorem qdF(p:Int)(R C:Nat)(c:(vM×(vK×Unit)×Unit))(f:Nat→Nat→Int)(hR:R≤1048576)(hC:C≤1048576)(hRC:R*C≤1048576)(hf:∀ i j:Nat,i<R→j<C→Ret E n_Z69 [⟨yI,(i:Int)⟩,⟨yI,(j:Int)⟩,⟨(.ptr yM),c.1⟩,⟨(.ptr yC),c.2.1⟩] ⟨o_Z69,(f i j,())⟩) :
  Ret E n_Z41 [⟨yI,p⟩,⟨yI,(R:Int)⟩,⟨yI,(C:Int)⟩,⟨(.fn n_Z69 (.cons (.ptr yM) (.cons (.ptr yC) .nil))),c⟩] ⟨o_Z41,(p,(R:Int),(C:Int),qas f C R,())⟩:=by
 refine qai ?_
 simp only[run_Z41,Z42.ev]
 refine Ev.start (p:=fun φ n=>Z42.l0 (mkR (run E (φ 0))) (φ 0) n (C:Int) c (R:Int) 0 0 0 0 p (R:Int) (C:Int) []=_) 1 ?_ (fun _ _ _ h=>h)
 refine qam 1 (L:=fun φ n k a=>Z42.l0 (mkR (run E (φ 0))) (φ 0) n (C:Int) c (R:Int) k 0 0 0 p (R:Int) (C:Int) a) (len:=R) (fun k=>qas f C k) (fun _ _ _ _ _=>rfl) (fun k r hk ih=>?_) ?_
 ·simp only[Z42.l0_succ _ qae]
  refine qax (decide_eq_true (by omega)) ?_
  refine Ev.start (p:=fun φ n=>Z42.l1 (mkR (run E (φ 0))) (φ 0) (φ 1) n (C:Int) c (k:Int) (R:Int) (k:Int) (C:Int) 0 0 0 0 p (R:Int) (C:Int) (qas f C k)=_) 2 ?_ (fun _ _ _ h=>h)
  have hle:(k+1)*C≤R*C:=Nat.mul_le_mul_right _ hk
  rw[Nat.add_mul] at hle
  have:=qam 2 (L:=fun φ n j a=>Z42.l1 (mkR (run E (φ 0))) (φ 0) (φ 1) n (C:Int) c (k:Int) (R:Int) (k:Int) (C:Int) j 0 0 0 p (R:Int) (C:Int) a) (len:=C) (fun j=>qas f C k++(List.range j).map (f k)) (r:=r) (fun _ _ _ _ _=>rfl) (fun j r hj ih=>?_) ?_
  ·simpa using this
  ·simp only[Z42.l1_succ _ qae]
   rw[List.range_succ,List.map_append,← List.append_assoc] at ih
   refine qax (decide_eq_true (by omega)) (qaa (hf k j hk hj) (qao (by simp[qar];omega) ?_))
   rw[qad (by omega)];exact ih
  ·simp only[Z42.l1_succ _ qae]
   refine qaC (decide_eq_false (by omega)) ?_
   rw[qad (by omega)];exact ih
 ·simp only[Z42.l0_succ _ qae]
  exact qaC (decide_eq_false (by omega)) qal
theorem qey(p:Int)(R C:Nat)(f:Nat→Nat→Int)(hR:R≤1048576)(hC:C≤1048576)(hRC:R*C≤1048576)(hf:∀ i j:Nat,i<R→j<C→Ret E n_Z87 [⟨yI,(i:Int)⟩,⟨yI,(j:Int)⟩] ⟨o_Z87,(f i j,())⟩) :
  Ret E n_Z41 [⟨yI,p⟩,⟨yI,(R:Int)⟩,⟨yI,(C:Int)⟩,⟨(.fn n_Z87 .nil),()⟩] ⟨o_Z41,(p,(R:Int),(C:Int),qas f C R,())⟩:=by
 refine qai ?_
 simp only[run_Z41,Z45.ev]
 refine Ev.start (p:=fun φ n=>Z45.l0 (mkR (run E (φ 0))) (φ 0) n (C:Int) (R:Int) 0 0 0 0 p (R:Int) (C:Int) []=_) 1 ?_ (fun _ _ _ h=>h)
 refine qam 1 (L:=fun φ n k a=>Z45.l0 (mkR (run E (φ 0))) (φ 0) n (C:Int) (R:Int) k 0 0 0 p (R:Int) (C:Int) a) (len:=R) (fun k=>qas f C k) (fun _ _ _ _ _=>rfl) (fun k r hk ih=>?_) ?_
 ·simp only[Z45.l0_succ _ qae]
  refine qax (decide_eq_true (by omega)) ?_
  refine Ev.start (p:=fun φ n=>Z45.l1 (mkR (run E (φ 0))) (φ 0) (φ 1) n (C:Int) (k:Int) (R:Int) (k:Int) (C:Int) 0 0 0 0 p (R:Int) (C:Int) (qas f C k)=_) 2 ?_ (fun _ _ _ h=>h)
  have hle:(k+1)*C≤R*C:=Nat.mul_le_mul_right _ hk
  rw[Nat.add_mul] at hle
  have:=qam 2 (L:=fun φ n j a=>Z45.l1 (mkR (run E (φ 0))) (φ 0) (φ 1) n (C:Int) (k:Int) (R:Int) (k:Int) (C:Int) j 0 0 0 p (R:Int) (C:Int) a) (len:=C) (fun j=>qas f C k++(List.range j).map (f k)) (r:=r) (fun _ _ _ _ _=>rfl) (fun j r hj ih=>?_) ?_
  ·simpa using this
  ·simp only[Z45.l1_succ _ qae]
   rw[List.range_succ,List.map_append,← List.append_assoc] at ih
   refine qax (decide_eq_true (by omega)) (qaa (hf k j hk hj) (qao (by simp[qar];omega) ?_))
   rw[qad (by omega)];exact ih
  ·simp only[Z45.l1_succ _ qae]
   refine qaC (decide_eq_false (by omega)) ?_
   rw[qad (by omega)];exact ih
 ·simp only[Z45.l0_succ _ qae]
  exact qaC (decide_eq_false (by omega)) qal
theorem qez(p:Int)(R C:Nat)(f:Nat→Nat→Int)(hR:R≤1048576)(hC:C≤1048576)(hRC:R*C≤1048576)(hf:∀ i j:Nat,i<R→j<C→Ret E n_Z82 [⟨yI,(i:Int)⟩,⟨yI,(j:Int)⟩] ⟨o_Z82,(f i j,())⟩) :
  Ret E n_Z41 [⟨yI,p⟩,⟨yI,(R:Int)⟩,⟨yI,(C:Int)⟩,⟨(.fn n_Z82 .nil),()⟩] ⟨o_Z41,(p,(R:Int),(C:Int),qas f C R,())⟩:=by
 refine qai ?_
 simp only[run_Z41,Z44.ev]
 refine Ev.start (p:=fun φ n=>Z44.l0 (mkR (run E (φ 0))) (φ 0) n (C:Int) (R:Int) 0 0 0 0 p (R:Int) (C:Int) []=_) 1 ?_ (fun _ _ _ h=>h)
 refine qam 1 (L:=fun φ n k a=>Z44.l0 (mkR (run E (φ 0))) (φ 0) n (C:Int) (R:Int) k 0 0 0 p (R:Int) (C:Int) a) (len:=R) (fun k=>qas f C k) (fun _ _ _ _ _=>rfl) (fun k r hk ih=>?_) ?_
 ·simp only[Z44.l0_succ _ qae]
  refine qax (decide_eq_true (by omega)) ?_
  refine Ev.start (p:=fun φ n=>Z44.l1 (mkR (run E (φ 0))) (φ 0) (φ 1) n (C:Int) (k:Int) (R:Int) (k:Int) (C:Int) 0 0 0 0 p (R:Int) (C:Int) (qas f C k)=_) 2 ?_ (fun _ _ _ h=>h)
  have hle:(k+1)*C≤R*C:=Nat.mul_le_mul_right _ hk
  rw[Nat.add_mul] at hle
  have:=qam 2 (L:=fun φ n j a=>Z44.l1 (mkR (run E (φ 0))) (φ 0) (φ 1) n (C:Int) (k:Int) (R:Int) (k:Int) (C:Int) j 0 0 0 p (R:Int) (C:Int) a) (len:=C) (fun j=>qas f C k++(List.range j).map (f k)) (r:=r) (fun _ _ _ _ _=>rfl) (fun j r hj ih=>?_) ?_
  ·simpa using this
  ·simp only[Z44.l1_succ _ qae]
   rw[List.range_succ,List.map_append,← List.append_assoc] at ih
   refine qax (decide_eq_true (by omega)) (qaa (hf k j hk hj) (qao (by simp[qar];omega) ?_))
   rw[qad (by omega)];exact ih
  ·simp only[Z44.l1_succ _ qae]
   refine qaC (decide_eq_false (by omega)) ?_
   rw[qad (by omega)];exact ih
 ·simp only[Z44.l0_succ _ qae]
  exact qaC (decide_eq_false (by omega)) qal
end VeT
open Go Go.Proofs Ve
namespace VeT
abbrev cM:Ty:=.cons yI (.cons yI (.cons yI (.cons yL .nil)))
abbrev cC:Ty:=.cons yK .nil
abbrev cS:Ty:=.cons yK (.cons yI (.cons yL (.cons (.sl (.st cM)) .nil)))
abbrev Mat:=Int×Int×Int×List Int×Unit
abbrev Cpx:=List (List Int)×Unit
abbrev Shf:=List (List Int)×Int×List Int×List Mat×Unit
abbrev Sim:=List Int
abbrev dI(x:Int):Dv:=⟨.int .i64,x⟩
abbrev dL(x:List Int):Dv:=⟨.sl yI,x⟩
abbrev dLL(x:List (List Int)):Dv:=⟨.sl yL,x⟩
abbrev dC(x:Cpx):Dv:=⟨.ptr cC,x⟩
abbrev dM(x:Mat):Dv:=⟨.ptr cM,x⟩
abbrev dS(x:Shf):Dv:=⟨.ptr cS,x⟩
abbrev dMs(x:List Mat):Dv:=⟨.sl (.st cM),x⟩
theorem qdQ(n lo hi:Int):Ret E n_Z84 [dI n,dI lo,dI hi] ⟨o_Z84,(pb (lo≤n∧n≤hi),())⟩:=by
 refine qai ?_
 simp only[run_Z84,Z84.ev]
 refine qdG (fun h=>qah ?_) fun h=>qah ?_
 ·rw[qeZ,qaG (show n≤hi↔lo≤n∧n≤hi by omega)]
 ·rw[qap (by omega)]
theorem qbM(n lo hi:Int):Ret E n_Z130 [dI n,dI lo,dI hi] ⟨o_Z130,(pb (lo≤n∧n≤hi),())⟩:=by
 refine qai ?_
 simp only[run_Z130,Z130.ev]
 refine qdG (fun h=>qah ?_) fun h=>qah ?_
 ·rw[qeZ,qaG (show n≤hi↔lo≤n∧n≤hi by omega)]
 ·rw[qap (by omega)]
theorem qlj(n:Int):Ret E n_Z59 [dI n] ⟨o_Z59,(pb (0≤n∧n≤9),())⟩:=by
 refine qai ?_
 simp only[run_Z59,Z59.ev]
 exact qaa (qdQ _ _ _) qal
theorem qge(n:Int):Ret E n_Z19 [dI n] ⟨o_Z19,(!pb (0≤n∧n≤9),())⟩:=by
 refine qai ?_
 simp only[run_Z19,Z19.ev]
 exact qaa (qlj _) qal
def qdS(s:Sim):Prop:=∀ j,1≤j→j<s.length→s.getD (j-1) 0<s.getD j 0
theorem qhn(s:Sim)(hs:Sm yL s):Ret E n_Z55 [dL s] ⟨o_Z55,(pb (qdS s),())⟩:=by
 have hs1:s.length≤1048576:=hs.1
 refine qai ?_
 simp only[run_Z55,Z55.ev]
 by_cases h0:s.length=0
 ·refine Ev.start (p:=fun φ n=>Z55.l0 (mkR (run E (φ 0))) (φ 0) n s 1=_) 1 ?_ (fun _ _ _ h=>h)
  refine qfd 1 (σ:=Unit) (L:=fun φ n _=>Z55.l0 (mkR (run E (φ 0))) (φ 0) n s 1) (fun _ _ _ _=>rfl) (fun _=>True) (fun _=>_) (fun _=>0) (fun _ _ _=>?_) () trivial
  simp only[Z55.l0_succ _ qae]
  refine qaC (decide_eq_false (by omega)) (qah ?_)
  rw[qaF]
  intro j h1 h2;omega
 ·refine Ev.start (p:=fun φ n=>Z55.l0 (mkR (run E (φ 0))) (φ 0) n s 1=_) 1 ?_ (fun _ _ _ h=>h)
  refine qcj 1 (L:=fun φ n k=>Z55.l0 (mkR (run E (φ 0))) (φ 0) n s k) (len:=s.length) 1 (by omega) (fun j=>s.getD (j-1) 0<s.getD j 0) (fun b=>some ⟨o_Z55,(b,())⟩) (fun _ _ _ _=>rfl) (fun k h1 h2 hP _=>?_) (fun k r h1 h2 hP _ ih=>?_) (fun _=>?_)
  ·simp only[Z55.l0_succ _ qae]
   refine qax (decide_eq_true (by omega)) ?_
   rw[qag (by omega) (by omega),show((k:Int)-1)=((k-1:Nat):Int) by omega]
   refine qab (qaj (by omega)) (qab (qaj h2) (qax (decide_eq_true ?_) qal))
   simpa [List.getD_eq_getElem?_getD,h2,show k-1<s.length by omega] using hP
  ·simp only[Z55.l0_succ _ qae]
   refine qax (decide_eq_true (by omega)) ?_
   rw[qag (by omega) (by omega),show((k:Int)-1)=((k-1:Nat):Int) by omega]
   refine qab (qaj (by omega)) (qab (qaj h2) (qaC (decide_eq_false ?_) ?_))
   ·simpa [List.getD_eq_getElem?_getD,h2,show k-1<s.length by omega] using hP
   ·rw[qad (by omega)];exact ih
  ·simp only[Z55.l0_succ _ qae]
   exact qaC (decide_eq_false (by omega)) qal
end VeT
open Go Go.Proofs Ve
namespace VeT
def Vx(s:Sim):Prop:=1≤s.length∧s.length≤4∧qdS s∧∀ x∈s,0≤x∧x≤9
theorem qep(s:Sim)(hs:Sm yL s):Ret E n_Z18 [dL s] ⟨o_Z18,(pb (Vx s),())⟩:=by
 refine qai ?_
 simp only[run_Z18,Z18.ev]
 refine qdG (fun h1=>qdG (fun h2=>qaa (qhn s hs) (qbB (fun h3=>qaa (qbb s _ hs.1 fun x _=>qge x) (qah ?_)) fun h3=>qah ?_)) fun h2=>qah ?_) fun h1=>qah ?_
 ·have h3:=qaA.1 h3
  have:(!pb (∃ x∈s,(!pb (0≤x∧x≤9))=true))=pb (Vx s):=qfE (by
   simp only[Bool.not_eq_true',qaN]
   exact⟨fun h=>⟨by omega,by omega,h3,fun x hx=>Classical.byContradiction fun hn=>h ⟨x,hx,hn⟩⟩,fun h ⟨x,hx,hn⟩=>hn (h.2.2.2 x hx)⟩)
  rw[this]
 ·rw[qap fun h=>qaN.1 h3 h.2.2.1]
 ·rw[qap fun h=>h2 (by have:=h.2.1;omega)]
 ·rw[qap fun h=>h1 (by have:=h.1;omega)]
theorem qlf(s:Sim)(lo hi:Int)(hs:Sm yL s):Ret E n_Z134 [dL s,dI lo,dI hi] ⟨o_Z134,(pb (qdS s∧∀ x∈s,lo≤x∧x≤hi),())⟩:=by
 have hs1:s.length≤1048576:=hs.1
 refine qai ?_
 simp only[run_Z134,Z134.ev]
 refine Ev.start (p:=fun φ n=>Z134.l0 (mkR (run E (φ 0))) (φ 0) n s lo hi 0=_) 1 ?_ (fun _ _ _ h=>h)
 refine(qcj 1 (L:=fun φ n k=>Z134.l0 (mkR (run E (φ 0))) (φ 0) n s lo hi k) (len:=s.length) 0 (by omega) (fun j=>(lo≤s.getD j 0∧s.getD j 0≤hi)∧(1≤j→s.getD (j-1) 0<s.getD j 0)) (fun b=>some ⟨o_Z134,(b,())⟩) (fun _ _ _ _=>rfl) (fun k h1 h2 hP _=>?_) (fun k r h1 h2 hP _ ih=>?_) (fun _=>?_)).to ?_
 ·simp only[Z134.l0_succ _ qae]
  refine qax (decide_eq_true (by omega)) (qab (qaj h2) (qaa (qbM _ _ _) ?_))
  have e:s.getD k 0=s[k]:=by simp[List.getD_eq_getElem?_getD,h2]
  rw[e] at hP
  refine qbB (fun _=>?_) (fun hin=>?_)
  ·simp only[Z134.j1_eq _ qae,cond_true];(first | exact qal | exact Ev.of fun _=>trivial)
  ·have hin:lo≤s[k]∧s[k]≤hi:=qaA.1 (by simpa using hin)
   have hk:1≤k:=Classical.byContradiction fun h=>hP ⟨hin,fun h'=>absurd h' h⟩
   refine qax (decide_eq_true (by omega)) ?_
   rw[qag (by omega) (by omega),show((k:Int)-1)=((k-1:Nat):Int) by omega]
   refine qab (qaj (by omega)) (qab (qaj h2) ?_)
   have e':s.getD (k-1) 0=s[k-1]:=by simp[List.getD_eq_getElem?_getD,show k-1<s.length by omega]
   rw[e'] at hP
   have:decide (s[k-1]≥s[k])=true:=decide_eq_true (Classical.byContradiction fun h=>hP ⟨hin,fun _=>by omega⟩)
   simp only[this,Z134.j1_eq _ qae,cond_true];(first | exact qal | exact Ev.of fun _=>trivial)
 ·simp only[Z134.l0_succ _ qae]
  refine qax (decide_eq_true (by omega)) (qab (qaj h2) (qaa (qbM _ _ _) ?_))
  have e:s.getD k 0=s[k]:=by simp[List.getD_eq_getElem?_getD,h2]
  rw[e] at hP
  refine qaC (by rw[qaF hP.1];rfl) ?_
  refine qdG (fun hk=>?_) fun hk=>?_
  ·rw[qag (by omega) (by omega),show((k:Int)-1)=((k-1:Nat):Int) by omega]
   refine qab (qaj (by omega)) (qab (qaj h2) ?_)
   have e':s.getD (k-1) 0=s[k-1]:=by simp[List.getD_eq_getElem?_getD,show k-1<s.length by omega]
   rw[e'] at hP
   have:decide (s[k-1]≥s[k])=false:=decide_eq_false (by have:=hP.2 (by omega);omega)
   simp only[this,Z134.j1_eq _ qae,cond_false]
   rw[qad (by omega)];exact ih
  ·simp only[Z134.j1_eq _ qae,cond_false]
   rw[qad (by omega)];exact ih
 ·simp only[Z134.l0_succ _ qae]
  exact qaC (decide_eq_false (by omega)) qal
 ·refine congrArg (fun b:Bool=>some (⟨o_Z134,(b,())⟩:Dv)) (qaG ⟨fun h=>⟨fun j h1 h2=>(h j (by omega) h2).2 h1,fun x hx=>?_⟩,fun⟨h1,h2⟩ j _ hj=>⟨?_,fun h3=>h1 j h3 hj⟩⟩)
  ·obtain⟨j,hj,rfl⟩:=List.mem_iff_getElem.1 hx
   simpa [List.getD_eq_getElem?_getD,hj] using (h j (by omega) hj).1
  ·simpa [List.getD_eq_getElem?_getD,hj] using h2 _ (List.getElem_mem hj)
theorem qff(s:Sim)(hs:Sm yL s):Ret E n_Z171 [dL s] ⟨o_Z171,(pb (Vx s),())⟩:=by
 refine qai ?_
 simp only[run_Z171,Z171.ev]
 refine qaa (qbM _ _ _) (qbB (fun h1=>qaa (qlf s _ _ hs) (qah ?_)) fun h1=>qah ?_)
 ·have h1:=qaA.1 h1
  exact congrArg (fun b:Bool=>some (⟨o_Z171,(b,())⟩:Dv)) (qaG ⟨fun h=>⟨by omega,by omega,h.1,h.2⟩,fun h=>⟨h.2.2.1,h.2.2.2⟩⟩)
 ·rw[qap fun h=>qaN.1 h1 ⟨by have:=h.1;omega,by have:=h.2.1;omega⟩]
def qjF(a b:Int):Int:=if a<b then -1 else if b<a then 1 else 0
def qfb:Sim→Sim→Int
 | [],[]=>0
 | [],_::_=>-1
 | _::_,[]=>1
 | x::xs,y::ys=>if x<y then -1 else if y<x then 1 else qfb xs ys
def qec(a b:Sim):Int:=if qjF a.length b.length≠0 then qjF a.length b.length else qfb a b
theorem qeU{a b:Int}:qjF a b=0↔a=b:=by unfold qjF;split<;>(try split)<;>omega
theorem qqb{a b:Int}:qjF b a=- qjF a b:=by unfold qjF;split<;>split<;>(try split)<;>omega
theorem qp1{a b:Int}:qjF a b<0↔a<b:=by unfold qjF;split<;>(try split)<;>omega
theorem qpz:∀ {a b:Sim},qfb a b=0↔a=b
 | [],[]=>by simp[qfb]
 | [],_::_=>by simp[qfb]
 | _::_,[]=>by simp[qfb]
 | x::xs,y::ys=>by
  have:=@qpz xs ys
  simp only[qfb,List.cons.injEq]
  split
  ·constructor
   ·intro h;omega
   ·rintro⟨rfl,_⟩;omega
  ·split
   ·constructor
    ·intro h;omega
    ·rintro⟨rfl,_⟩;omega
   ·rw[this];constructor
    ·intro h;exact⟨by omega,h⟩
    ·exact fun h=>h.2
theorem qnB:∀ {a b:Sim},qfb b a=- qfb a b
 | [],[]=>by simp[qfb]
 | [],_::_=>by simp[qfb]
 | _::_,[]=>by simp[qfb]
 | x::xs,y::ys=>by
  have:=@qnB xs ys
  simp only[qfb]
  split<;>split<;>(try split)<;>omega
theorem qjx:∀ {a b c:Sim},qfb a b<0→qfb b c<0→qfb a c<0
 | [],[],c,h,_=>by simp[qfb] at h
 | [],_::_,[],_,h=>by simp[qfb] at h
 | [],_::_,_::_,_,_=>by simp[qfb]
 | _::_,[],_,h,_=>by simp[qfb] at h
 | _::_,_::_,[],_,h=>by simp[qfb] at h
 | x::xs,y::ys,z::zs,h1,h2=>by
  have:=@qjx xs ys zs
  simp only[qfb] at h1 h2 ⊢
  split at h1<;>split at h2<;>(try split at h1)<;>(try split at h2)<;>(try split)<;>(try split)<;>first | omega | (exact this h1 h2)
theorem qco{a b:Sim}:qec a b=0↔a=b:=by
 unfold qec
 split
 ·rename_i h
  exact⟨fun h'=>absurd h' h,fun h'=>absurd (qeU.2 (by rw[h'])) h⟩
 ·exact qpz
theorem qnQ{a b:Sim}:qec b a=- qec a b:=by
 unfold qec
 rw[@qqb a.length b.length]
 split<;>split<;>first | omega | exact qnB
theorem qg5{a b:Sim}:qec a b<0↔a.length<b.length∨a.length=b.length∧qfb a b<0:=by
 unfold qec
 split
 ·rename_i h
  rw[qp1]
  rw[Ne,qeU] at h
  omega
 ·rename_i h
  rw[Classical.not_not,qeU] at h
  omega
theorem qgJ{a b c:Sim}(h1:qec a b<0)(h2:qec b c<0):qec a c<0:=by
 rw[qg5] at *
 rcases h1 with h1 | ⟨h1,h1'⟩<;>rcases h2 with h2 | ⟨h2,h2'⟩
 ·left;omega
 ·left;omega
 ·left;omega
 ·right;exact⟨by omega,qjx h1' h2'⟩
theorem qjK(a:Int):Ret E n_Z3 [dI a] ⟨o_Z3,(false,())⟩:=by
 refine qai ?_
 simp only[run_Z3,Z3.ev]
 exact qah (by simp)
theorem qmg(a:Int):Ret E n_Z4 [dI a] ⟨o_Z4,(false,())⟩:=by
 refine qai ?_
 simp only[run_Z4,Z4.ev]
 exact qah (by simp)
theorem qlr(a b:Int):Ret E n_Z0 [dI a,dI b] ⟨o_Z0,(qjF a b,())⟩:=by
 refine qai ?_
 simp only[run_Z0,Z0.ev]
 refine qaa (qjK _) (qaa (qjK _) (qaC rfl (qaC rfl (qdG (fun h=>qah ?_) fun h=>qdG (fun h2=>qah ?_) fun h2=>qah ?_))))
 ·rw[qjF,if_pos h]
 ·rw[qjF,if_neg h,if_pos h2]
 ·rw[qjF,if_neg h,if_neg h2]
theorem qmx(a b:Int):Ret E n_Z1 [dI a,dI b] ⟨o_Z1,(qjF a b,())⟩:=by
 refine qai ?_
 simp only[run_Z1,Z1.ev]
 refine qaa (qmg _) (qaa (qmg _) (qaC rfl (qaC rfl (qdG (fun h=>qah ?_) fun h=>qdG (fun h2=>qah ?_) fun h2=>qah ?_))))
 ·rw[qjF,if_pos h]
 ·rw[qjF,if_neg h,if_pos h2]
 ·rw[qjF,if_neg h,if_neg h2]
theorem qir{a b:Sim}{k:Nat}(h:k<a.length)(h':k<b.length):qfb (a.drop k) (b.drop k)=if qjF a[k] b[k]≠0 then qjF a[k] b[k] else qfb (a.drop (k+1)) (b.drop (k+1)):=by
 rw[List.drop_eq_getElem_cons h,List.drop_eq_getElem_cons h',qfb]
 unfold qjF
 split
 ·simp
 ·split
  ·simp
  ·simp
theorem qhC(a b:Sim)(ha:Sm yL a):Ret E n_Z97 [dL a,dL b] ⟨o_Z97,(qfb a b,())⟩:=by
 have ha1:a.length≤1048576:=ha.1
 refine qai ?_
 simp only[run_Z97,Z97.ev]
 refine Ev.start (p:=fun φ n=>Z97.l0 (mkR (run E (φ 0))) (φ 0) n a b a (a.length:Int) 0=_) 1 ?_ (fun _ _ _ h=>h)
 refine qfd 1 (σ:=Nat) (L:=fun φ n k=>Z97.l0 (mkR (run E (φ 0))) (φ 0) n a b a (a.length:Int) (k:Int)) (fun _ _ _ _=>rfl) (fun k=>k≤a.length∧k≤b.length) (fun k=>some ⟨o_Z97,(qfb (a.drop k) (b.drop k),())⟩) (fun k=>a.length-k) (fun k ⟨hk,hkb⟩ ih=>?_) 0 ⟨Nat.zero_le _,Nat.zero_le _⟩
 simp only[Z97.l0_succ _ qae]
 refine qdG (fun h=>?_) fun h=>?_
 ·have hka:k<a.length:=by omega
  refine qab (qaj hka) (qdG (fun h2=>qah ?_) fun h2=>?_)
  ·rw[List.drop_eq_getElem_cons hka,List.drop_of_length_le (l:=b) (by omega),qfb]
  ·have hkb:k<b.length:=by omega
   refine qab (qaj hkb) (qaa (qmx _ _) (qbB (fun h3=>qah ?_) fun h3=>?_))
   ·rw[qir hka hkb,if_pos (by simpa using h3)]
   ·rw[qad (by omega)]
    refine(ih (k+1) ⟨by omega,by omega⟩ (by omega)).to ?_
    rw[qir hka hkb,if_neg (by simpa using h3)]
 ·have e:k=a.length:=by omega
  subst e
  refine qdG (fun h2=>qah ?_) fun h2=>qah ?_
  ·rw[List.drop_of_length_le (l:=a) (by omega),List.drop_eq_getElem_cons (l:=b) (by omega),qfb]
  ·rw[List.drop_of_length_le (l:=a) (by omega),List.drop_of_length_le (l:=b) (by omega),qfb]
theorem qrX(a b:Int):Ret E n_Z2 [dL [a,b]] ⟨o_Z2,(if a≠0 then a else b,())⟩:=by
 refine qai ?_
 simp only[run_Z2,Z2.ev]
 refine Ev.start (p:=fun φ n=>Z2.l0 (mkR (run E (φ 0))) (φ 0) n 0 [a,b] ([a,b].length:Int) 0=_) 1 ?_ (fun _ _ _ h=>h)
 refine Ev.round 1 (L:=fun φ n=>Z2.l0 (mkR (run E (φ 0))) (φ 0) n 0 [a,b] ([a,b].length:Int) 0) ?_ (fun _ _ _=>rfl)
 simp only[Z2.l0_succ _ qae]
 refine qax (by simp) (qab (x:=a) rfl (qbB (fun h=>qah ?_) fun h=>?_))
 ·rw[if_pos (by simpa using h)]
 ·rw[if_neg (by simpa using h)]
  rw[show w64 ((0:Int)+1)=1 by decide]
  refine Ev.round 1 (L:=fun φ n=>Z2.l0 (mkR (run E (φ 0))) (φ 0) n 0 [a,b] ([a,b].length:Int) 1) ?_ (fun _ _ _=>rfl)
  simp only[Z2.l0_succ _ qae]
  refine qax (by simp) (qab (x:=b) rfl (qbB (fun h=>qal) fun h=>?_))
  rw[show w64 ((1:Int)+1)=2 by decide]
  refine Ev.round 1 (L:=fun φ n=>Z2.l0 (mkR (run E (φ 0))) (φ 0) n 0 [a,b] ([a,b].length:Int) 2) ?_ (fun _ _ _=>rfl)
  simp only[Z2.l0_succ _ qae]
  refine qaC (by simp) (qah ?_)
  have:b=0:=by simpa using h
  rw[this]
theorem qbl(a b:Sim)(ha:Sm yL a):Ret E n_Z32 [dL a,dL b] ⟨o_Z32,(qec a b,())⟩:=by
 refine qai ?_
 simp only[run_Z32,Z32.ev]
 exact qaa (qlr _ _) (qaa (qhC a b ha) (qaa (qrX _ _) qal))
theorem qcU(a b:Sim)(ha:Sm yL a):Ret E n_Z161 [dL a,dL b] ⟨o_Z161,(pb (qec a b<0),())⟩:=by
  have ha1:a.length≤1048576:=ha.1
  refine qai ?_
  simp only[run_Z161,Z161.ev]
  refine qbB (fun h=>qah ?_) fun h=>?_
  · have h:(a.length:Int)≠b.length:=by simpa using h
    rw[qeZ,qaG (show(a.length:Int)<b.length↔qec a b<0 by rw[qg5];omega)]
  · have h : a.length = b.length := by have : (a.length : Int) = b.length := by simpa using h
                                       omega
    refine Ev.start (p:=fun φ n=>Z161.l0 (mkR (run E (φ 0))) (φ 0) n a b 0=_) 1 ?_ (fun _ _ _ h=>h)
    refine(qfd 1 (σ:=Nat) (L:=fun φ n k=>Z161.l0 (mkR (run E (φ 0))) (φ 0) n a b (k:Int)) (fun _ _ _ _=>rfl) (fun k=>k≤a.length) (fun k=>some ⟨o_Z161,(pb (qfb (a.drop k) (b.drop k)<0),())⟩) (fun k=>a.length-k) (fun k hk ih=>?_) 0 (Nat.zero_le _)).to ?_
    · simp only[Z161.l0_succ _ qae]
      refine qdG (fun h1=>?_) fun h1=>?_
      · have hka:k<a.length:=by omega
        have hkb:k<b.length:=by omega
        have e:=qir hka hkb
        refine qab (qaj hka) (qab (qaj hkb) (qbB (fun h3=>?_) fun h3=>?_))
        · refine qab (qaj hka) (qab (qaj hkb) (qah ?_))
          have h3:a[k]≠b[k]:=by simpa using h3
          rw[if_pos (by rw[Ne,qeU];exact h3)] at e
          rw[e,qeZ,qaG qp1]
        · have h3:a[k]=b[k]:=by simpa using h3
          rw[if_neg (by rw[Classical.not_not,qeU];exact h3)] at e
          rw[qad (by omega),e]
          exact ih (k+1) (by show k+1≤_;omega) (by show a.length-(k+1)<_;omega)
      · refine qah ?_
        have hk:k≤a.length:=hk
        have e:k=a.length:=by omega
        subst e
        rw[List.drop_of_length_le (l:=a) (by omega),List.drop_of_length_le (l:=b) (by omega),qfb,qap (by omega)]
    · refine congrArg (fun b:Bool=>some (⟨o_Z161,(b,())⟩:Dv)) (qaG ?_)
      simp only[List.drop_zero];rw[qg5];omega
end VeT
open Go Go.Proofs Ve
namespace VeT
theorem qac{α:Type}{s:List α}{k:Nat}{d:α}(h:k<s.length):s.getD k d=s[k]:=by simp[List.getD_eq_getElem?_getD,h]
theorem qbo{t:Ty}{s:List t.T}(h:Sm (.sl t) s){k:Nat}(hk:k<s.length):Sm t s[k]:=h.2 _ (List.getElem_mem hk)
theorem qrT{s:Sim}(h:s.length≤1048576):Sm yL s:=⟨h,fun _ _=>trivial⟩
theorem qcW(s:Sim)(hs:s.length≤1048576):Ret E n_Z132 [dL s] ⟨o_Z132,(s,())⟩:=by
 refine qai ?_
 simp only[run_Z132,Z132.ev]
 exact qao (by simp;omega) (qah rfl)
theorem qej(s:Sim)(k:Nat)(hk:k<s.length)(hs:s.length≤1048576):Ret E n_Z165 [dL s,dI (k:Int)] ⟨o_Z165,(s.eraseIdx k,())⟩:=by
 refine qai ?_
 simp only[run_Z165,Z165.ev]
 rw[qad (by omega)]
 simp only[Int.toNat_natCast]
 refine qao (by simp;omega) (qaa (qcW _ (by simp;omega)) (qao (by simp;omega) (qao (by simp;omega) (qah ?_))))
 rw[List.eraseIdx_eq_take_drop_succ]
theorem qhc(a b:Sim)(ha:a.length≤1048576):Ret E n_Z135 [dL a,dL b] ⟨o_Z135,(pb (a=b),())⟩:=by
 refine qai ?_
 simp only[run_Z135,Z135.ev]
 refine qbB (fun h=>qah ?_) fun h=>?_
 ·have h:(a.length:Int)≠b.length:=by simpa using h
  rw[qap fun e=>h (by rw[e])]
 ·have h:(a.length:Int)=b.length:=by simpa using h
  refine Ev.start (p:=fun φ n=>Z135.l0 (mkR (run E (φ 0))) (φ 0) n a b 0=_) 1 ?_ (fun _ _ _ h=>h)
  refine(qcj 1 (L:=fun φ n k=>Z135.l0 (mkR (run E (φ 0))) (φ 0) n a b k) (len:=a.length) 0 (by omega) (fun j=>a.getD j 0=b.getD j 0) (fun b=>some ⟨o_Z135,(b,())⟩) (fun _ _ _ _=>rfl) (fun k h1 h2 hP _=>?_) (fun k r h1 h2 hP _ ih=>?_) (fun _=>?_)).to ?_
  ·simp only[Z135.l0_succ _ qae]
   have hb:k<b.length:=by omega
   rw[qac h2,qac hb] at hP
   exact qax (decide_eq_true (by omega)) (qab (qaj h2) (qab (qaj hb) (qax (by simpa using hP) qal)))
  ·simp only[Z135.l0_succ _ qae]
   have hb:k<b.length:=by omega
   rw[qac h2,qac hb] at hP
   refine qax (decide_eq_true (by omega)) (qab (qaj h2) (qab (qaj hb) (qaC (by simpa using hP) ?_)))
   rw[qad (by omega)];exact ih
  ·simp only[Z135.l0_succ _ qae]
   exact qaC (decide_eq_false (by omega)) qal
  ·refine congrArg (fun b:Bool=>some (⟨o_Z135,(b,())⟩:Dv)) (qaG ⟨fun hh=>List.ext_getElem (by omega) fun j h1 h2=>?_,fun hh j _ _=>by rw[hh]⟩)
   have:=hh j (by omega) h1
   rwa [qac h1,qac h2] at this
noncomputable def qdI(c:List Sim)(s:Sim):Int:=qjl (fun x=>pb (x=s)) c
theorem qa4{c:List Sim}{s:Sim}:0≤qdI c s↔s∈c:=by
 unfold qdI
 rw[qbN]
 simp only[qaA]
 exact⟨fun⟨x,h,e⟩=>e ▸ h,fun h=>⟨s,h,rfl⟩⟩
theorem qb6(c:Cpx)(s:Sim)(hc:Sm yK c.1):Ret E n_Z167 [dC c,dL s] ⟨o_Z167,(qdI c.1 s,())⟩:=by
  have hc1:c.1.length≤1048576:=hc.1
  obtain⟨o,h1,h2,h3⟩:=qbT 1 (L:=fun φ n k=>Z167.l0 (mkR (run E (φ 0))) (φ 0) n c s k) (len:=c.1.length) (fun k=>∃ h:k<c.1.length,pb (c.1[k]=s)=true) (fun o=>some ⟨o_Z167,(o2i o,())⟩) (fun _ _ _ _=>rfl) (fun k hk hP=>by
      obtain⟨_,hP⟩:=hP
      simp only[Z167.l0_succ _ qae]
      refine qax (decide_eq_true (by omega)) (qab (qaj hk) (qaa (qhc _ _ (qbo hc hk).1) (qax hP qal)))) (fun k q hk hP ih=>by
      simp only[Z167.l0_succ _ qae]
      refine qax (decide_eq_true (by omega)) (qab (qaj hk) (qaa (qhc _ _ (qbo hc hk).1) (qaC (Bool.eq_false_iff.2 fun h=>hP ⟨hk,h⟩) ?_)))
      rw[qad (by omega)];exact ih) (by
      simp only[Z167.l0_succ _ qae]
      exact qaC (decide_eq_false (by omega)) qal)
  rw[qdd (p:=fun x=>pb (x=s)) h1 h2] at h3
  refine qai ?_
  simp only[run_Z167,Z167.ev]
  exact Ev.start (p:=fun φ n=>Z167.l0 (mkR (run E (φ 0))) (φ 0) n c s 0=_) 1 h3 (fun _ _ _ h=>h)
theorem qqr(n:Nat)(args:List Dv):run E (n+1) n_Z109 args=qoa yI (mkR (run E n)) args:=rfl
theorem qqs(s:Sim)(n:Int)(h0:0≤n)(h1:n≤1048576)(hs:s.length≤1048576):Ret E n_Z109 [dL s,dI n] ⟨o_Z109,(s,())⟩:=by
 refine qai ?_
 simp only[qqr]
 refine qah ((if_pos (show 0≤n∧((List.length s:Int)+n)*(64*(Ty.size (Ty.int IntKind.i64):Int))≤70368744177664 from⟨h0,?_⟩)).trans rfl)
 have:(Ty.size (Ty.int IntKind.i64))=1:=rfl
 rw[this];omega
theorem qoo(ll:List Sim)(hl:ll.length≤1048576)(hf:ll.flatten.length≤1048576):Ret E n_Z98 [dLL ll] ⟨o_Z98,(ll.flatten,())⟩:=by
 have hle:∀ k,(ll.take k).flatten.length≤ll.flatten.length:=fun k=>by
  have:=congrArg List.length (congrArg List.flatten (List.take_append_drop k ll))
  rw[List.flatten_append,List.length_append] at this;omega
 have hst:∀ k (h:k<ll.length),(ll.take (k+1)).flatten=(ll.take k).flatten++ll[k]:=fun k h=>by
  rw[List.take_succ_eq_append_getElem h,List.flatten_append];simp
 refine qai ?_
 simp only[run_Z98,Z98.ev]
 refine Ev.start (p:=fun φ n=>Z98.l0 (mkR (run E (φ 0))) (φ 0) n ll 0 ll (ll.length:Int) 0=_) 1 ?_ (fun _ _ _ h=>h)
 refine qam 1 (L:=fun φ n k a=>Z98.l0 (mkR (run E (φ 0))) (φ 0) n ll a ll (ll.length:Int) k) (len:=ll.length) (fun k=>(((ll.take k).flatten.length:Nat):Int)) (fun _ _ _ _ _=>rfl) (fun k r hk ih=>?_) ?_
 ·simp only[Z98.l0_succ _ qae]
  have:=hle (k+1)
  have e:=hst k hk
  have e2:w64 (((ll.take k).flatten.length:Nat)+(List.length (ll[k]):Int))=(((ll.take (k+1)).flatten.length:Nat):Int):=by
   rw[qag (by omega) (by rw[e,List.length_append] at this;omega),e,List.length_append];omega
  refine qax (decide_eq_true (by omega)) (qab (qaj hk) ?_)
  show Ev fun φ=>(bif decide (w64 (((ll.take k).flatten.length:Nat)+(List.length (ll[k]):Int))<0) then none else Z98.l0 (mkR (run E (φ 0))) (φ 0) (φ 1) ll (w64 (((ll.take k).flatten.length:Nat)+(List.length (ll[k]):Int))) ll (ll.length:Int) (w64 ((k:Int)+1)))=r
  rw[e2,qad (by omega)]
  exact qaC (decide_eq_false (by omega)) ih
 ·simp only[Z98.l0_succ _ qae]
  refine qaC (decide_eq_false (by omega)) (qaa (qqs [] _ (by omega) (by have:=hle ll.length;omega) (by simp)) ?_)
  refine Ev.start (p:=fun φ n=>Z98.l1 (mkR (run E (φ 0))) (φ 0) n ll (ll.length:Int) 0 []=_) 2 ?_ (fun _ _ _ h=>h)
  refine qam 2 (L:=fun φ n k a=>Z98.l1 (mkR (run E (φ 0))) (φ 0) n ll (ll.length:Int) k a) (len:=ll.length) (fun k=>(ll.take k).flatten) (fun _ _ _ _ _=>rfl) (fun k r hk ih=>?_) ?_
  ·simp only[Z98.l1_succ _ qae]
   have:=hle (k+1)
   have e:=hst k hk
   rw[e] at ih this
   rw[List.length_append] at this
   refine qax (decide_eq_true (by omega)) (qab (qaj hk) (qao (decide_eq_true (by show(_+List.length ll[k])*8≤_;omega)) ?_))
   rw[qad (by omega)]
   exact ih
  ·simp only[Z98.l1_succ _ qae]
   refine qaC (decide_eq_false (by omega)) (qah ?_)
   rw[List.take_of_length_le (Nat.le_refl _)]
def qcu(s:Sim):List Sim:=if 1<s.length then(List.range s.length).map (s.eraseIdx ·) else []
theorem qcK{s f:Sim}:f∈qcu s↔1<s.length∧∃ i,i<s.length∧f=s.eraseIdx i:=by
 unfold qcu
 split
 ·rename_i h
  simp only[List.mem_map,List.mem_range,h,true_and]
  exact⟨fun⟨i,h1,h2⟩=>⟨i,h1,h2.symm⟩,fun⟨i,h1,h2⟩=>⟨i,h1,h2.symm⟩⟩
 ·rename_i h
  simp[h]
theorem qoW{s f:Sim}(h:f∈qcu s):f.length+1=s.length:=by
 obtain⟨h1,i,h2,rfl⟩:=qcK.1 h
 rw[List.length_eraseIdx,if_pos h2];omega
theorem qhl{s:Sim}:(qcu s).length≤s.length:=by
 unfold qcu;split<;>simp
theorem qfD(s:Sim)(hs:s.length≤1048576):Ret E n_Z40 [dL s] ⟨o_Z40,(qcu s,())⟩:=by
 refine qai ?_
 simp only[run_Z40,Z40.ev]
 refine Ev.start (p:=fun φ n=>Z40.l0 (mkR (run E (φ 0))) (φ 0) n s (s.length:Int) 0 []=_) 1 ?_ (fun _ _ _ h=>h)
 by_cases h1:1<s.length
 ·refine qam 1 (L:=fun φ n k a=>Z40.l0 (mkR (run E (φ 0))) (φ 0) n s (s.length:Int) k a) (len:=s.length) (fun k=>(List.range k).map (s.eraseIdx ·)) (fun _ _ _ _ _=>rfl) (fun k r hk ih=>?_) ?_
  ·simp only[Z40.l0_succ _ qae]
   rw[List.range_succ,List.map_append] at ih
   rw[qad (by omega)]
   simp only[Int.toNat_natCast]
   refine qax (decide_eq_true (by omega)) (qax (decide_eq_true (by omega)) (qao (by simp;omega) (qao (by simp;omega) (qaa (qoo _ (by simp) (by simp;omega)) (qao (by simp;omega) ?_)))))
   rw[show [s.take k,s.drop (k+1)].flatten=s.eraseIdx k by simp[List.eraseIdx_eq_take_drop_succ]]
   exact ih
  ·simp only[Z40.l0_succ _ qae]
   exact qaC (decide_eq_false (by omega)) (qah (by rw[qcu,if_pos h1]))
 ·refine qam 1 (L:=fun φ n k a=>Z40.l0 (mkR (run E (φ 0))) (φ 0) n s (s.length:Int) k a) (len:=s.length) (fun k=>[]) (fun _ _ _ _ _=>rfl) (fun k r hk ih=>?_) ?_
  ·simp only[Z40.l0_succ _ qae]
   rw[qad (by omega)]
   exact qax (decide_eq_true (by omega)) (qaC (decide_eq_false (by omega)) ih)
  ·simp only[Z40.l0_succ _ qae]
   exact qaC (decide_eq_false (by omega)) (qah (by rw[qcu,if_neg h1]))
def Srt(c:List Sim):Prop:=∀ i j (h:j<c.length) (hij:i<j),qec c[i] c[j]<0
theorem qrd{c:List Sim}(h:∀ k,1≤k→k<c.length→qec (c.getD (k-1) []) (c.getD k [])<0):Srt c:=by
 intro i j
 induction j with
 | zero=>intro _ h;omega
 | succ j ih =>
  intro hj hij
  have:=h (j+1) (by omega) hj
  rw[Nat.add_sub_cancel,qac (by omega),qac hj] at this
  by_cases e:i=j
  ·subst e;exact this
  ·exact qgJ (ih (by omega) (by omega)) this
theorem Srt.take{c:List Sim}(h:Srt c)(k:Nat):Srt (c.take k):=by
 intro i j hj hij
 rw[List.getElem_take,List.getElem_take]
 exact h i j (by rw[List.length_take] at hj;omega) hij
def bs(c:List Sim)(s:Sim):Nat:=c.findIdx (fun x=>!decide (qec x s<0))
theorem qsf{c:List Sim}{s:Sim}:bs c s≤c.length:=List.findIdx_le_length
theorem qkw{c:List Sim}{s:Sim}(hc:Srt c){t:Nat}(h:t<c.length):t<bs c s↔qec c[t] s<0:=by
 constructor
 ·intro ht
  have:=List.not_of_lt_findIdx ht
  simpa using this
 ·intro ht
  refine Classical.byContradiction fun hn=>?_
  have hb:bs c s<c.length:=by omega
  have h1:qec c[bs c s] s<0:=by
   by_cases e:bs c s=t
   ·simp only[e];exact ht
   ·exact qgJ (hc _ _ h (by omega)) ht
  have:=List.findIdx_getElem (w:=hb)
  simp only[Bool.not_eq_true',decide_eq_false_iff_not] at this
  exact this h1
theorem qo0{c:List Sim}{s:Sim}(hc:Srt c):qdI c s=if h:bs c s<c.length∧c.getD (bs c s) []=s then(bs c s:Int) else -1:=by
 have e:c.findIdx? (fun x=>pb (x=s))=if bs c s<c.length∧c.getD (bs c s) []=s then some (bs c s) else none:=by
  split
  ·rename_i h
   obtain⟨h1,h2⟩:=h
   rw[List.findIdx?_eq_some_iff_getElem]
   rw[qac h1] at h2
   refine⟨h1,qaF h2,fun j hj=>?_⟩
   rw[qaA]
   intro he
   have:=(qkw (s:=s) hc (show j<c.length by omega)).1 hj
   rw[he,qco.2 rfl] at this
   omega
  ·rename_i h
   rw[List.findIdx?_eq_none_iff]
   intro x hx
   rw[qaN]
   rintro rfl
   obtain⟨j,hj,rfl⟩:=List.mem_iff_getElem.1 hx
   have h0:¬ j<bs c c[j]:=fun hlt=>by
    have:=(qkw hc hj).1 hlt
    rw[qco.2 rfl] at this;omega
   by_cases hjb:bs c c[j]=j
   ·exact h ⟨by omega,by rw[hjb,qac hj]⟩
   ·have hb:bs c c[j]<c.length:=by omega
    have:=(qkw (s:=c[j]) hc hb).2 (hc _ _ hj (by omega))
    omega
 unfold qdI qjl
 rw[e]
 split<;>rfl
theorem qhA(c:List Sim)(s:Sim)(hc:Sm yK c)(hs:Srt c):Ret E n_Z94 [dLL c,dL s,⟨.fn n_Z32 .nil,()⟩] ⟨o_Z94,((bs c s:Int),pb (bs c s<c.length∧c.getD (bs c s) []=s),())⟩:=by
 have hc1:c.length≤1048576:=hc.1
 refine qai ?_
 simp only[run_Z94,Z95.ev]
 refine Ev.start (p:=fun φ n=>Z95.l0 (mkR (run E (φ 0))) (φ 0) n c s (c.length:Int) 0 (c.length:Int)=_) 1 ?_ (fun _ _ _ h=>h)
 refine qfd 1 (σ:=Nat×Nat) (L:=fun φ n st=>Z95.l0 (mkR (run E (φ 0))) (φ 0) n c s (c.length:Int) (st.1:Int) (st.2:Int)) (fun _ _ _ _=>rfl) (fun st=>st.1≤bs c s∧bs c s≤st.2∧st.2≤c.length) (fun _=>_) (fun st=>st.2-st.1) (fun st hi ih=>?_) (0,c.length) ⟨Nat.zero_le _,qsf,Nat.le_refl _⟩
 obtain⟨i,j⟩:=st
 obtain⟨h1,h2,h3⟩:=hi
 simp only at h1 h2 h3 ih
 simp only[Z95.l0_succ _ qae]
 rw[qsZ (by omega)]
 refine qdG (fun hij=>?_) fun hij=>?_
 ·have hh:(i+j) / 2<c.length:=by omega
  refine qao (by decide) (qab (qaj hh) (qaa (qbl _ _ (qbo hc hh)) (qdG (fun hlt=>?_) fun hlt=>?_)))
  ·rw[qad (by omega)]
   have:=(qkw hs hh).2 hlt
   exact ih ((i+j) / 2+1,j) ⟨this,h2,h3⟩ (by simp only;omega)
  ·have:¬ (i+j) / 2<bs c s:=fun h=>hlt ((qkw hs hh).1 h)
   exact ih (i,(i+j) / 2) ⟨h1,by simp only;omega,by simp only;omega⟩ (by simp only;omega)
 ·have e:i=bs c s:=by omega
  subst e
  refine qdG (fun hl=>?_) fun hl=>qah ?_
  ·have hh:bs c s<c.length:=by omega
   refine qab (qaj hh) (qaa (qbl _ _ (qbo hc hh)) (qah ?_))
   have:(qec c[bs c s] s==0)=pb (bs c s<c.length∧c.getD (bs c s) []=s):=qfE (by
    rw[qac hh,beq_iff_eq,qco];exact⟨fun h=>⟨hh,h⟩,fun h=>h.2⟩)
   rw[this]
  ·rw[qap fun h=>hl (by omega)]
theorem qfz(c:List Sim)(s:Sim)(hc:Sm yK c)(hs:Srt c):Ret E n_Z49 [dLL c,dL s] ⟨o_Z49,(qdI c s,())⟩:=by
 refine qai ?_
 simp only[run_Z49,Z49.ev]
 refine qaa (qhA c s hc hs) (qbB (fun h=>qah ?_) fun h=>qah ?_)
 ·rw[qo0 hs,dif_neg (qaN.1 (by simpa using h))]
 ·rw[qo0 hs,dif_pos (qaA.1 (by simpa using h))]
end VeT
open Go Go.Proofs Ve
namespace VeT
def VC(c:List Sim):Prop:=c.length≤48∧(∀ k,k<c.length→Vx (c.getD k []))∧(∀ k,1≤k→k<c.length→qec (c.getD (k-1) []) (c.getD k [])<0)∧∀ k,k<c.length→∀ f∈qcu (c.getD k []),f∈c
theorem VC.srt{c:List Sim}(h:VC c):Srt c:=qrd h.2.2.1
def qmk(c:List Sim)(k:Nat):Prop:=(Vx (c.getD k [])∧(1≤k→qec (c.getD (k-1) []) (c.getD k [])<0))∧∀ f∈qcu (c.getD k []),f∈c.take k
theorem qrt{c:List Sim}:((∀ k,0≤k→k<c.length→qmk c k)∧c.length≤48)↔VC c:=by
 constructor
 ·rintro⟨h,hl⟩
  exact⟨hl,fun k hk=>(h k (by omega) hk).1.1,fun k h1 hk=>(h k (by omega) hk).1.2 h1,fun k hk f hf=>List.mem_of_mem_take ((h k (by omega) hk).2 f hf)⟩
 ·intro h
  have hs:=h.srt
  obtain⟨hl,h1,h2,h3⟩:=h
  refine⟨fun k _ hk=>⟨⟨h1 k hk,fun hk1=>h2 k hk1 hk⟩,fun f hf=>?_⟩,hl⟩
  have hm:=h3 k hk f hf
  have hlen:=qoW hf
  rw[qac hk] at hlen
  obtain⟨i,hi,rfl⟩:=List.mem_iff_getElem.1 hm
  have hlt:qec c[i] c[k]<0:=qg5.2 (.inl (by omega))
  have hik:i<k:=Classical.byContradiction fun hn=>by
   by_cases e:i=k
   ·subst e;omega
   ·have:=hs k i hi (by omega)
    rw[qnQ] at this;omega
  exact List.mem_iff_getElem.2 ⟨i,by rw[List.length_take];omega,by rw[List.getElem_take]⟩
theorem qrL{t:Ty}{s:List t.T}(h:Sm (.sl t) s)(k:Nat):Sm (.sl t) (s.take k):=⟨by have h1:s.length≤1048576:=h.1;show(s.take k).length≤_;rw[List.length_take];omega,fun x hx=>h.2 x (List.mem_of_mem_take hx)⟩
theorem qgl(c:List Sim)(f:Sim)(k:Nat)(hk:k≤c.length)(hc:Sm yK c)(hs:Srt (c.take k)) :
  Ret E n_Z14 [dL f,dC (c,()),⟨.ptr (.cons yI .nil),((k:Int),())⟩] ⟨o_Z14,(pb (¬ f∈c.take k),())⟩:=by
 refine qai ?_
 simp only[run_Z14,Z14.ev]
 simp only[Int.toNat_natCast]
 refine qao (by simp;omega) (qaa (qfz _ f (qrL hc k) hs) (qah ?_))
 simp only[qeZ,qaG (show qdI (c.take k) f<0↔¬ f∈c.take k by rw[← qa4];omega)]
theorem qhy(c:List Sim)(hc:Sm yK c):Ret E n_Z13 [dLL c] ⟨o_Z13,(pb (VC c),())⟩:=by
  have hc1:c.length≤1048576:=hc.1
  refine qai ?_
  simp only[run_Z13,Z13.ev]
  refine Ev.start (p:=fun φ n=>Z13.l0 (mkR (run E (φ 0))) (φ 0) n c (c.length:Int) 0 c=_) 1 ?_ (fun _ _ _ h=>h)
  have key:∀(n:Nat) (k:Nat) (hk:k<c.length) (hpre:∀ j,0≤j→j<k→qmk c j),Srt (c.take k):=fun n k hk hpre=>qrd fun j h1 h2=>by
    rw[List.length_take] at h2
    have:=(hpre j (by omega) (by omega)).1.2 h1
    rw[qac (by omega),qac (by omega)] at this
    rw[qac (by rw[List.length_take];omega),qac (by rw[List.length_take];omega),List.getElem_take,List.getElem_take]
    exact this
  have hcon:∀(k:Nat) (hk:k<c.length) (hpre:∀ j,0≤j→j<k→qmk c j),Ret E n_Z99 [dLL (qcu c[k]),⟨.fn n_Z14 (.cons (.ptr yC) (.cons (.ptr (.cons yI .nil)) .nil)),((c,()),((k:Int),()),())⟩] ⟨o_Z99,(pb (∃ x∈qcu c[k],pb (¬ x∈c.take k)=true),())⟩:=fun k hk hpre =>
    qa6 (qcu c[k]) ((c,()),((k:Int),()),()) _ (Nat.le_trans qhl (qbo hc hk).1) fun x hx=>qgl c x k (by omega) hc (key 0 k hk hpre)
  refine(qcj 1 (L:=fun φ n k=>Z13.l0 (mkR (run E (φ 0))) (φ 0) n c (c.length:Int) k c) (len:=c.length) 0 (by omega) (qmk c) (fun b=>some ⟨o_Z13,(b&&decide ((c.length:Int)≤48),())⟩) (fun _ _ _ _=>rfl) (fun k h1 h2 hP hpre=>?_) (fun k r h1 h2 hP hpre ih=>?_) (fun _=>?_)).to ?_
  · simp only[Z13.l0_succ _ qae]
    refine qax (decide_eq_true (by omega)) (qab (qaj h2) (qaa (qep _ (qbo hc h2)) ?_))
    refine qbB (fun hv=>?_) fun hv=>?_
    · simp only[Z13.j1_eq _ qae,cond_true];(first | exact qal | exact Ev.of fun _=>trivial)
    · have hv:Vx c[k]:=qaA.1 (by simpa using hv)
      have last:(1≤k→qec (c.getD (k-1) []) (c.getD k [])<0)→Ev fun φ=>Z13.j1 (mkR (run E (φ 0))) (φ 0) (φ 1) c[k] c (c.length:Int) (k:Int) false c (k:Int)=some ⟨o_Z13,(false,())⟩:=fun hcm=>by
        simp only[Z13.j1_eq _ qae,cond_false]
        refine qaa (qfD _ (qbo hc h2).1) (qaa (hcon k h2 hpre) (qax ?_ qal))
        refine qaF (Classical.byContradiction fun hn=>hP ⟨⟨by rw[qac h2];exact hv,hcm⟩,fun f hf=>Classical.byContradiction fun hnf=>hn ⟨f,by rw[qac h2] at hf;exact hf,qaF hnf⟩⟩)
      refine qdG (fun hk=>?_) fun hk=>?_
      · rw[qag (by omega) (by omega),show((k:Int)-1)=((k-1:Nat):Int) by omega]
        have hk1:k-1<c.length:=by omega
        refine qab (qaj hk1) (qaa (qbl _ _ (qbo hc hk1)) ?_)
        by_cases hcm:qec c[k-1] c[k]<0
        · simp only[show decide (qec c[k-1] c[k]≥0)=false from decide_eq_false (by omega)]
          exact last fun _=>by rw[qac hk1,qac h2];exact hcm
        · simp only[show decide (qec c[k-1] c[k]≥0)=true from decide_eq_true (by omega),Z13.j1_eq _ qae,cond_true]
          (first | exact qal | exact Ev.of fun _=>trivial)
      · exact last fun h=>absurd h (by omega)
  · simp only[Z13.l0_succ _ qae]
    have hP':=hP
    obtain⟨⟨hv,hcm⟩,hfc⟩:=hP'
    rw[qac h2] at hv hfc
    refine qax (decide_eq_true (by omega)) (qab (qaj h2) (qaa (qep _ (qbo hc h2)) (qaC (by rw[qaF hv];rfl) ?_)))
    have last:Ev fun φ=>Z13.j1 (mkR (run E (φ 0))) (φ 0) (φ 1) c[k] c (c.length:Int) (k:Int) false c (k:Int)=r:=by
      simp only[Z13.j1_eq _ qae,cond_false]
      refine qaa (qfD _ (qbo hc h2).1) (qaa (hcon k h2 hpre) (qaC ?_ ?_))
      · exact qap fun⟨x,hx,hn⟩=>qaA.1 hn (hfc x hx)
      · rw[qad (by omega)];exact ih
    refine qdG (fun hk=>?_) fun hk=>last
    rw[qag (by omega) (by omega),show((k:Int)-1)=((k-1:Nat):Int) by omega]
    have hk1:k-1<c.length:=by omega
    have hcm:=hcm (by omega)
    rw[qac hk1,qac h2] at hcm
    refine qab (qaj hk1) (qaa (qbl _ _ (qbo hc hk1)) ?_)
    simp only[show decide (qec c[k-1] c[k]≥0)=false from decide_eq_false (by omega)]
    exact last
  · simp only[Z13.l0_succ _ qae]
    exact qaC (decide_eq_false (by omega)) (qah (by rw[Bool.true_and]))
  · have:(pb (∀ j,0≤j→j<c.length→qmk c j)&&decide ((c.length:Int)≤48))=pb (VC c):=qfE (by
      rw[Bool.and_eq_true,qaA,decide_eq_true_iff,← qrt]
      exact⟨fun h=>⟨h.1,by omega⟩,fun h=>⟨h.1,by omega⟩⟩)
    rw[this]
def qra(c:List Sim)(k:Nat):Prop:=(Vx (c.getD k [])∧(1≤k→qec (c.getD (k-1) []) (c.getD k [])<0))∧∀ f∈qcu (c.getD k []),f∈c
theorem qoP(c:Cpx)(hc:Sm yK c.1):Ret E n_Z169 [dC c] ⟨o_Z169,(pb (VC c.1),())⟩:=by
  have hc1:c.1.length≤1048576:=hc.1
  refine qai ?_
  simp only[run_Z169,Z169.ev]
  refine qdG (fun h=>qah ?_) fun h48=>?_
  · rw[qap fun hv=>by have:=hv.1;omega]
  refine Ev.start (p:=fun φ n=>Z169.l0 (mkR (run E (φ 0))) (φ 0) n c 0=_) 1 ?_ (fun _ _ _ h=>h)
  -- the inner loop
  have inner:∀(k:Nat) (h2:k<c.1.length) (r:Option Dv),((∀ f∈qcu c.1[k],f∈c.1)→Ev fun φ=>Z169.l0 (mkR (run E (φ 0))) (φ 0) (φ 1) c ((k+1:Nat):Int)=r)→(¬ (∀ f∈qcu c.1[k],f∈c.1)→r=some ⟨o_Z169,(false,())⟩)→Ev fun φ=>Z169.l2 (mkR (run E (φ 0))) (φ 0) (φ 1) (φ 0) c (k:Int) c.1[k] 0=r:=fun k h2 r hgo hstop=>by
    have hks:(c.1[k]).length≤1048576:=(qbo hc h2).1
    refine Ev.start (p:=fun φ n=>Z169.l2 (mkR (run E (φ 0))) (φ 0) (φ 1) n c (k:Int) c.1[k] 0=_) 2 ?_ (fun _ _ _ h=>h)
    by_cases hlen:1<(c.1[k]).length
    · obtain⟨t,f⟩:=qkx 2 (L:=fun φ n i=>Z169.l2 (mkR (run E (φ 0))) (φ 0) (φ 1) n c (k:Int) c.1[k] i) (len:=(c.1[k]).length) 0 (by omega) (fun i=>(c.1[k]).eraseIdx i∈c.1) (rt:=r) (rf:=some ⟨o_Z169,(false,())⟩) (fun _ _ _ _=>rfl) (fun i _ hi hP _=>by
        simp only[Z169.l2_succ _ qae]
        refine qax (decide_eq_true (by omega)) ?_
        simp only[show decide (((c.1[k]).length:Int)>1)=true from decide_eq_true (by omega),Z169.j3_eq _ qae,cond_true]
        refine qaa (qej _ i hi hks) (qaa (qb6 c _ hc) (qax (decide_eq_true ?_) qal))
        have hq:=mt (qa4 (c:=c.1) (s:=(c.1[k]).eraseIdx i)).1 hP;simp only;exact Int.not_le.1 hq) (fun i q _ hi hP _ ih=>by
        simp only[Z169.l2_succ _ qae]
        refine qax (decide_eq_true (by omega)) ?_
        simp only[show decide (((c.1[k]).length:Int)>1)=true from decide_eq_true (by omega),Z169.j3_eq _ qae,cond_true]
        refine qaa (qej _ i hi hks) (qaa (qb6 c _ hc) (qaC (decide_eq_false ?_) ?_))
        · have hq:=(qa4 (c:=c.1) (s:=(c.1[k]).eraseIdx i)).2 hP;simp only;exact Int.not_lt.2 hq
        · rw[qad (by omega)];exact ih) (fun hall=>by
        simp only[Z169.l2_succ _ qae]
        refine qaC (decide_eq_false (by omega)) ?_
        simp only[Z169.j3_eq _ qae,cond_false]
        rw[qad (by omega)]
        exact hgo fun f hf=>by
          obtain⟨_,i,hi,rfl⟩:=qcK.1 hf
          exact hall i (by omega) hi)
      by_cases hall:∀ i,0≤i→i<(c.1[k]).length→(c.1[k]).eraseIdx i∈c.1
      · exact t hall
      · rw[hstop fun hf=>hall fun i _ hi=>hf _ (qcK.2 ⟨hlen,i,hi,rfl⟩)]
        exact f hall
    · refine Ev.round 2 (L:=fun φ n=>Z169.l2 (mkR (run E (φ 0))) (φ 0) (φ 1) n c (k:Int) c.1[k] 0) ?_ (fun _ _ _=>rfl)
      have hgo:=hgo fun f hf=>absurd (qcK.1 hf).1 hlen
      have hj:Ev fun φ=>Z169.j3 (mkR (run E (φ 0))) (φ 0) (φ 1) (φ 2) c (k:Int) c.1[k] 0 false=r:=by
        simp only[Z169.j3_eq _ qae,cond_false]
        rw[qad (by omega)];exact hgo
      simp only[Z169.l2_succ _ qae]
      refine qdG (fun _=>?_) fun _=>hj
      simp only[show decide (((c.1[k]).length:Int)>1)=false from decide_eq_false (by omega)]
      exact hj
  refine(qcj 1 (L:=fun φ n k=>Z169.l0 (mkR (run E (φ 0))) (φ 0) n c k) (len:=c.1.length) 0 (by omega) (qra c.1) (fun b=>some ⟨o_Z169,(b,())⟩) (fun _ _ _ _=>rfl) (fun k h1 h2 hP hpre=>?_) (fun k r h1 h2 hP hpre ih=>?_) (fun _=>?_)).to ?_
  · simp only[Z169.l0_succ _ qae]
    refine qax (decide_eq_true (by omega)) (qab (qaj h2) (qaa (qff _ (qbo hc h2)) ?_))
    refine qbB (fun hv=>?_) fun hv=>?_
    · simp only[Z169.j1_eq _ qae,cond_true];(first | exact qal | exact Ev.of fun _=>trivial)
    · have hv:Vx c.1[k]:=qaA.1 (by simpa using hv)
      have last:(1≤k→qec (c.1.getD (k-1) []) (c.1.getD k [])<0)→Ev fun φ=>Z169.j1 (mkR (run E (φ 0))) (φ 0) (φ 1) c (k:Int) c.1[k] false=some ⟨o_Z169,(false,())⟩:=fun hcm=>by
        simp only[Z169.j1_eq _ qae,cond_false]
        refine inner k h2 _ (fun hf=>absurd ⟨⟨by rw[qac h2];exact hv,hcm⟩,by rw[qac h2];exact hf⟩ hP) fun _=>rfl
      refine qdG (fun hk=>?_) fun hk=>?_
      · rw[qag (by omega) (by omega),show((k:Int)-1)=((k-1:Nat):Int) by omega]
        have hk1:k-1<c.1.length:=by omega
        refine qab (qaj hk1) (qaa (qcU _ _ (qbo hc hk1)) ?_)
        by_cases hcm:qec c.1[k-1] c.1[k]<0
        · simp only[qaF hcm]
          exact last fun _=>by rw[qac hk1,qac h2];exact hcm
        · simp only[qap hcm,Z169.j1_eq _ qae,cond_true,Bool.not_false]
          (first | exact qal | exact Ev.of fun _=>trivial)
      · exact last fun h=>absurd h (by omega)
  · simp only[Z169.l0_succ _ qae]
    obtain⟨⟨hv,hcm⟩,hfc⟩:=hP
    rw[qac h2] at hv hfc
    refine qax (decide_eq_true (by omega)) (qab (qaj h2) (qaa (qff _ (qbo hc h2)) (qaC (by rw[qaF hv];rfl) ?_)))
    have last:Ev fun φ=>Z169.j1 (mkR (run E (φ 0))) (φ 0) (φ 1) c (k:Int) c.1[k] false=r:=by
      simp only[Z169.j1_eq _ qae,cond_false]
      exact inner k h2 _ (fun _=>ih) fun hn=>absurd hfc hn
    refine qdG (fun hk=>?_) fun hk=>last
    rw[qag (by omega) (by omega),show((k:Int)-1)=((k-1:Nat):Int) by omega]
    have hk1:k-1<c.1.length:=by omega
    have hcm:=hcm (by omega)
    rw[qac hk1,qac h2] at hcm
    refine qab (qaj hk1) (qaa (qcU _ _ (qbo hc hk1)) ?_)
    simp only[qaF hcm,Bool.not_true]
    exact last
  · simp only[Z169.l0_succ _ qae]
    exact qaC (decide_eq_false (by omega)) qal
  · have:pb (∀ j,0≤j→j<c.1.length→qra c.1 j)=pb (VC c.1):=qaG
      ⟨fun h=>⟨by omega,fun k hk=>(h k (by omega) hk).1.1,fun k h1 hk=>(h k (by omega) hk).1.2 h1,fun k hk=>(h k (by omega) hk).2⟩,
       fun h k _ hk=>⟨⟨h.2.1 k hk,fun h1=>h.2.2.1 k h1 hk⟩,h.2.2.2 k hk⟩⟩
    rw[this]
end VeT
open Go Go.Proofs Ve
namespace VeT
def Pr(p:Int):Prop:=2≤p∧p≤251∧∀ k:Nat,2≤k→(k:Int)*k≤p→p%k≠0
theorem qfm(p:Int):Ret E n_Z16 [dI p] ⟨o_Z16,(pb (Pr p),())⟩:=by
  refine qai ?_
  simp only[run_Z16,Z16.ev]
  refine qaa (qdQ _ _ _) (qbB (fun h=>qah ?_) fun h=>?_)
  · have h:¬ (2≤p∧p≤251):=qaN.1 (by simpa using h)
    rw[qap fun hp=>h ⟨hp.1,hp.2.1⟩]
  have hr:2≤p∧p≤251:=qaA.1 (by simpa using h)
  refine Ev.start (p:=fun φ n=>Z16.l0 (mkR (run E (φ 0))) (φ 0) n p 2=_) 1 ?_ (fun _ _ _ h=>h)
  refine qfd 1 (σ:=Nat) (L:=fun φ n k=>Z16.l0 (mkR (run E (φ 0))) (φ 0) n p (k:Int)) (fun _ _ _ _=>rfl) (fun k=>2≤k∧k≤17∧∀ j:Nat,2≤j→j<k→(j:Int)*j≤p→p%j≠0) (fun _=>_) (fun k=>17-k) (fun k ⟨h1,h2,h3⟩ ih=>?_) 2 ⟨by omega,by omega,fun j _ _=>by omega⟩
  simp only[Z16.l0_succ _ qae]
  have hkk:0≤(k:Int)*k∧(k:Int)*k≤289:=⟨Int.mul_nonneg (by omega) (by omega),by have:=Nat.mul_le_mul h2 h2;omega⟩
  have e:w64 ((k:Int)*k)=(k:Int)*k:=qag (by omega) (by omega)
  simp only[e]
  refine qdG (fun hle=>?_) fun hle=>qah ?_
  · have hk16:k<16:=Classical.byContradiction fun hn=>by
      have:=Nat.mul_le_mul (show 16≤k by omega) (show 16≤k by omega);omega
    refine qao (by simp;omega) ?_
    rw[Int.tmod_eq_emod_of_nonneg (by omega)]
    refine qbB (fun h0=>qah ?_) fun h0=>?_
    · rw[qap fun hp=>hp.2.2 k h1 hle (by simpa using h0)]
    · rw[qad (by omega)]
      refine ih (k+1) ⟨by omega,by omega,fun j hj1 hj2 hj3=>?_⟩ (by show 17-(k+1)<17-k;omega)
      by_cases hjk:j=k
      · subst hjk;simpa using h0
      · exact h3 j hj1 (by omega) hj3
  · rw[qaF]
    refine⟨hr.1,hr.2,fun j hj1 hj2=>?_⟩
    by_cases hjk:j<k
    · exact h3 j hj1 hjk hj2
    · exfalso
      have:=Nat.mul_le_mul (show k≤j by omega) (show k≤j by omega);omega
theorem qmh(p:Int):Ret E n_Z144 [dI p] ⟨o_Z144,(pb (Pr p),())⟩:=by
  refine qai ?_
  simp only[run_Z144,Z144.ev]
  refine qaa (qbM _ _ _) (qbB (fun h=>qah ?_) fun h=>?_)
  · have h:¬ (2≤p∧p≤251):=qaN.1 (by simpa using h)
    rw[qap fun hp=>h ⟨hp.1,hp.2.1⟩]
  have hr:2≤p∧p≤251:=qaA.1 (by simpa using h)
  refine Ev.start (p:=fun φ n=>Z144.l0 (mkR (run E (φ 0))) (φ 0) n p 2=_) 1 ?_ (fun _ _ _ h=>h)
  refine qfd 1 (σ:=Nat) (L:=fun φ n k=>Z144.l0 (mkR (run E (φ 0))) (φ 0) n p (k:Int)) (fun _ _ _ _=>rfl) (fun k=>2≤k∧k≤17∧∀ j:Nat,2≤j→j<k→(j:Int)*j≤p→p%j≠0) (fun _=>_) (fun k=>17-k) (fun k ⟨h1,h2,h3⟩ ih=>?_) 2 ⟨by omega,by omega,fun j _ _=>by omega⟩
  simp only[Z144.l0_succ _ qae]
  have hkk:0≤(k:Int)*k∧(k:Int)*k≤289:=⟨Int.mul_nonneg (by omega) (by omega),by have:=Nat.mul_le_mul h2 h2;omega⟩
  have e:w64 ((k:Int)*k)=(k:Int)*k:=qag (by omega) (by omega)
  simp only[e]
  refine qdG (fun hle=>?_) fun hle=>qah ?_
  · have hk16:k<16:=Classical.byContradiction fun hn=>by
      have:=Nat.mul_le_mul (show 16≤k by omega) (show 16≤k by omega);omega
    refine qao (by simp;omega) ?_
    rw[Int.tmod_eq_emod_of_nonneg (by omega)]
    refine qbB (fun h0=>qah ?_) fun h0=>?_
    · rw[qap fun hp=>hp.2.2 k h1 hle (by simpa using h0)]
    · rw[qad (by omega)]
      refine ih (k+1) ⟨by omega,by omega,fun j hj1 hj2 hj3=>?_⟩ (by show 17-(k+1)<17-k;omega)
      by_cases hjk:j=k
      · subst hjk;simpa using h0
      · exact h3 j hj1 (by omega) hj3
  · rw[qaF]
    refine⟨hr.1,hr.2,fun j hj1 hj2=>?_⟩
    by_cases hjk:j<k
    · exact h3 j hj1 hjk hj2
    · exfalso
      have:=Nat.mul_le_mul (show k≤j by omega) (show k≤j by omega);omega
theorem qdt(p:Int):Ret E n_Z127 [dI p] ⟨o_Z127,(pb (Pr p),())⟩:=by
 refine qai ?_
 simp only[run_Z127,Z127.ev]
 exact qaa (qmh p) qal
def qaD(v:Sim)(p:Int):Prop:=∀ x∈v,0≤x∧x≤p-1
theorem qkv(a p:Int)(hp:0≤p∧p≤1048576):Ret E n_Z52 [dI a,dI p] ⟨o_Z52,(pb (0≤a∧a≤p-1),())⟩:=by
 refine qai ?_
 simp only[run_Z52,Z52.ev]
 rw[qag (by omega) (by omega)]
 exact qaa (qdQ _ _ _) qal
theorem qgZ(a p:Int)(hp:0≤p∧p≤1048576):Ret E n_Z25 [dI a,⟨.ptr (.cons yI .nil),(p,())⟩] ⟨o_Z25,(!pb (0≤a∧a≤p-1),())⟩:=by
 refine qai ?_
 simp only[run_Z25,Z25.ev]
 exact qaa (qkv _ _ hp) qal
theorem qhO{α:Type}{s:List α}{P:α→Prop}:(!pb (∃ x∈s,(!pb (P x))=true))=pb (∀ x∈s,P x):=qfE (by
 simp only[Bool.not_eq_true',qaN]
 exact⟨fun h x hx=>Classical.byContradiction fun hn=>h ⟨x,hx,hn⟩,fun h ⟨x,hx,hn⟩=>hn (h x hx)⟩)
theorem qdk(v:Sim)(p:Int)(hv:v.length≤1048576)(hp:0≤p∧p≤1048576):Ret E n_Z24 [dL v,dI p] ⟨o_Z24,(pb (qaD v p),())⟩:=by
 refine qai ?_
 simp only[run_Z24,Z24.ev]
 refine qaa (qbg v ((p,()),()) _ hv fun x _=>qgZ x p hp) (qah ?_)
 simp only[qhO];rfl
theorem qee(v:Sim)(n p:Int)(hv:v.length≤1048576)(hp:0≤p∧p≤1048576):Ret E n_Z146 [dL v,dI n,dI p] ⟨o_Z146,(pb (qaD v p∧(v.length:Int)=n),())⟩:=by
  have e:w64 (p-1)=p-1:=qag (by omega) (by omega)
  refine qai ?_
  simp only[run_Z146,Z146.ev]
  refine Ev.start (p:=fun φ n'=>Z146.l0 (mkR (run E (φ 0))) (φ 0) n' v n p 0=_) 1 ?_ (fun _ _ _ h=>h)
  refine(qcj 1 (L:=fun φ n' k=>Z146.l0 (mkR (run E (φ 0))) (φ 0) n' v n p k) (len:=v.length) 0 (by omega) (fun j=>0≤v.getD j 0∧v.getD j 0≤p-1) (fun b=>some ⟨o_Z146,(b&&((v.length:Int)==n),())⟩) (fun _ _ _ _=>rfl) (fun k h1 h2 hP _=>?_) (fun k r h1 h2 hP _ ih=>?_) (fun _=>?_)).to ?_
  · simp only[Z146.l0_succ _ qae,e]
    rw[qac h2] at hP
    exact qax (decide_eq_true (by omega)) (qab (qaj h2) (qaa (qbM _ _ _) (qax (by rw[qap hP];rfl) qal)))
  · simp only[Z146.l0_succ _ qae,e]
    rw[qac h2] at hP
    refine qax (decide_eq_true (by omega)) (qab (qaj h2) (qaa (qbM _ _ _) (qaC (by rw[qaF hP];rfl) ?_)))
    rw[qad (by omega)];exact ih
  · simp only[Z146.l0_succ _ qae]
    exact qaC (decide_eq_false (by omega)) (qah (by rw[Bool.true_and]))
  · have:(pb (∀ j,0≤j→j<v.length→0≤v.getD j 0∧v.getD j 0≤p-1)&&((v.length:Int)==n))=pb (qaD v p∧(v.length:Int)=n):=qfE (by
      rw[Bool.and_eq_true,qaA,beq_iff_eq]
      refine and_congr_left' ⟨fun h x hx=>?_,fun h j _ hj=>?_⟩
      · obtain⟨j,hj,rfl⟩:=List.mem_iff_getElem.1 hx
        have:=h j (by omega) hj
        rwa [qac hj] at this
      · rw[qac hj];exact h _ (List.getElem_mem hj))
    rw[this]
theorem qj2(n:Int):Ret E n_Z57 [dI n] ⟨o_Z57,(pb (0≤n∧n≤32),())⟩:=by
 refine qai ?_
 simp only[run_Z57,Z57.ev]
 exact qaa (qdQ _ _ _) qal
theorem qeM(s:Sim):Ret E n_Z77 [dL s] ⟨o_Z77,((s.length:Int),())⟩:=by
 refine qai ?_
 simp only[run_Z77,Z77.ev]
 (first | exact qal | exact Ev.of fun _=>trivial)
theorem qh9(s:List Sim):Ret E n_Z76 [dLL s] ⟨o_Z76,((s.length:Int),())⟩:=by
 refine qai ?_
 simp only[run_Z76,Z76.ev]
 (first | exact qal | exact Ev.of fun _=>trivial)
def VM(m:Mat):Prop:=Pr m.1∧(0≤m.2.1∧m.2.1≤32)∧(0≤m.2.2.1∧m.2.2.1≤32)∧(m.2.2.2.1.length:Int)=m.2.1*m.2.2.1∧qaD m.2.2.2.1 m.1
theorem qkO{a b:Int}(ha:0≤a∧a≤32)(hb:0≤b∧b≤32):0≤a*b∧a*b≤1024:=by
 obtain⟨x,rfl⟩:=Int.eq_ofNat_of_zero_le ha.1
 obtain⟨y,rfl⟩:=Int.eq_ofNat_of_zero_le hb.1
 have:=Nat.mul_le_mul (show x≤32 by omega) (show y≤32 by omega)
 have e:(x:Int)*y=((x*y:Nat):Int):=by simp
 show 0≤(x:Int)*y∧(x:Int)*y≤1024
 rw[e];omega
theorem qiq(m:Mat)(hm:Sm (.st cM) m):Ret E n_Z15 [dI m.1,dI m.2.1,dI m.2.2.1,dL m.2.2.2.1] ⟨o_Z15,(pb (VM m),())⟩:=by
 have hl:m.2.2.2.1.length≤1048576:=hm.2.2.2.1.1
 refine qai ?_
 simp only[run_Z15,Z15.ev]
 refine qaa (qfm _) (qbB (fun h1=>qaa (qj2 _) (qbB (fun h2=>qaa (qj2 _) (qbB (fun h3=>qaa (qeM _) (qbB (fun h4=>?_) fun h4=>qah ?_)) fun h3=>qah ?_)) fun h2=>qah ?_)) fun h1=>qah ?_)
 ·have h1:=qaA.1 h1;have h2:=qaA.1 h2;have h3:=qaA.1 h3
  have:=qkO h2 h3
  rw[qag (by omega) (by omega)] at h4
  refine qaa (qdk _ _ hl ⟨by have:=h1.1;omega,by have:=h1.2.1;omega⟩) (qah ?_)
  exact congrArg (fun b:Bool=>some (⟨o_Z15,(b,())⟩:Dv)) (qaG ⟨fun h=>⟨h1,h2,h3,by simpa using h4,h⟩,fun h=>h.2.2.2.2⟩)
 ·have h2:=qaA.1 h2;have h3:=qaA.1 h3
  have:=qkO h2 h3
  rw[qag (by omega) (by omega)] at h4
  rw[qap fun h=>by have:=h.2.2.2.1;simp[this] at h4]
 ·rw[qap fun h=>qaN.1 h3 h.2.2.1]
 ·rw[qap fun h=>qaN.1 h2 h.2.1]
 ·rw[qap fun h=>qaN.1 h1 h.1]
theorem qlz(m:Mat)(hm:Sm (.st cM) m):Ret E n_Z152 [dM m] ⟨o_Z152,(pb (VM m),())⟩:=by
 have hl:m.2.2.2.1.length≤1048576:=hm.2.2.2.1.1
 refine qai ?_
 simp only[run_Z152,Z152.ev]
 refine qaa (qdt _) (qbB (fun h1=>qaa (qbM _ _ _) (qbB (fun h2=>qaa (qbM _ _ _) (qbB (fun h3=>?_) fun h3=>qah ?_)) fun h2=>qah ?_)) fun h1=>qah ?_)
 ·have h1:=qaA.1 h1;have h2:=qaA.1 h2;have h3:=qaA.1 h3
  have:=qkO h2 h3
  rw[qag (by omega) (by omega)]
  refine qaa (qee _ _ _ hl ⟨by have:=h1.1;omega,by have:=h1.2.1;omega⟩) (qah ?_)
  exact congrArg (fun b:Bool=>some (⟨o_Z152,(b,())⟩:Dv)) (qaG ⟨fun h=>⟨h1,h2,h3,h.2,h.1⟩,fun h=>⟨h.2.2.2.2,h.2.2.2.1⟩⟩)
 ·rw[qap fun h=>qaN.1 h3 h.2.2.1]
 ·rw[qap fun h=>qaN.1 h2 h.2.1]
 ·rw[qap fun h=>qaN.1 h1 h.1]
def Bt(m:Mat)(p f t:Int):Prop:=VM m∧m.1=p∧m.2.1=t∧m.2.2.1=f
theorem qgj(m:Mat)(p f t:Int)(hm:Sm (.st cM) m):Ret E n_Z51 [dI m.1,dI m.2.1,dI m.2.2.1,dL m.2.2.2.1,dI p,dI f,dI t] ⟨o_Z51,(pb (Bt m p f t),())⟩:=by
 refine qai ?_
 simp only[run_Z51,Z51.ev]
 refine qaa (qiq m hm) (qbB (fun h1=>qbB (fun h2=>qbB (fun h3=>qah ?_) fun h3=>qah ?_) fun h2=>qah ?_) fun h1=>qah ?_)
 ·have h1:=qaA.1 h1
  have:(m.2.2.1==f)=pb (Bt m p f t):=qfE (by
   rw[beq_iff_eq];exact⟨fun h=>⟨h1,by simpa using h2,by simpa using h3,h⟩,fun h=>h.2.2.2⟩)
  rw[this]
 ·rw[qap fun h=>by have:=h.2.2.1;simp[this] at h3]
 ·rw[qap fun h=>by have:=h.2.1;simp[this] at h2]
 ·rw[qap fun h=>qaN.1 h1 h.1]
def qav(c:List Sim)(d:Int)(k:Nat):List Int:=((List.range k).filter fun i=>decide (((c.getD i []).length:Int)=d+1)).map Int.ofNat
theorem qcA(c:List Sim)(d:Int)(k:Nat):qav c d (k+1)=qav c d k++if ((c.getD k []).length:Int)=d+1 then [(k:Int)] else []:=by
 unfold qav
 rw[List.range_succ,List.filter_append,List.map_append]
 congr 1
 by_cases h:((c.getD k []).length:Int)=d+1
 ·rw[if_pos h,List.filter_cons_of_pos (by simpa using h)];rfl
 ·rw[if_neg h,List.filter_cons_of_neg (by simpa using h)];rfl
theorem qbu(c:List Sim)(d:Int)(k:Nat):(qav c d k).length≤k:=by
 unfold qav
 rw[List.length_map]
 exact Nat.le_trans (List.length_filter_le _ _) (by simp)
theorem qeF{c:List Sim}{d:Int}{k:Nat}{x:Int}(h:x∈qav c d k):∃ i:Nat,x=i∧i<k:=by
 unfold qav at h
 rw[List.mem_map] at h
 obtain⟨i,hi,rfl⟩:=h
 exact⟨i,rfl,by have:=(List.mem_filter.1 hi).1;simpa using this⟩
theorem qdj(c:List Sim)(d:Int)(hc:Sm yK c)(hd:-1≤d∧d≤1048576):Ret E n_Z75 [dLL c,dI d] ⟨o_Z75,(qav c d c.length,())⟩:=by
 have hc1:c.length≤1048576:=hc.1
 have hd1:w64 (d+1)=d+1:=qag (by omega) (by omega)
 refine qai ?_
 simp only[run_Z75,Z75.ev]
 refine Ev.start (p:=fun φ n=>Z75.l0 (mkR (run E (φ 0))) (φ 0) n d c (c.length:Int) 0 []=_) 1 ?_ (fun _ _ _ h=>h)
 refine qam 1 (L:=fun φ n k a=>Z75.l0 (mkR (run E (φ 0))) (φ 0) n d c (c.length:Int) k a) (len:=c.length) (fun k=>qav c d k) (fun _ _ _ _ _=>rfl) (fun k r hk ih=>?_) ?_
 ·simp only[Z75.l0_succ _ qae,hd1]
  rw[qcA,qac hk] at ih
  have hlen:=qbu c d k
  refine qax (decide_eq_true (by omega)) (qab (qaj hk) (qaa (qeM _) ?_))
  rw[qad (by omega)]
  refine qbB (fun he=>qao (decide_eq_true (by simp only[List.length_cons,List.length_nil];omega)) ?_) fun he=>?_
  ·rw[if_pos (by simpa using he)] at ih;exact ih
  ·rw[if_neg (by simpa using he),List.append_nil] at ih;exact ih
 ·simp only[Z75.l0_succ _ qae]
  exact qaC (decide_eq_false (by omega)) qal
theorem qiH(c:List Sim)(d:Int)(hc:Sm yK c)(hd:-1≤d∧d≤1048576):Ret E n_Z168 [dC (c,()),dI d] ⟨o_Z168,(qav c d c.length,())⟩:=by
 have hc1:c.length≤1048576:=hc.1
 have hd1:w64 (d+1)=d+1:=qag (by omega) (by omega)
 refine qai ?_
 simp only[run_Z168,Z168.ev]
 refine Ev.start (p:=fun φ n=>Z168.l0 (mkR (run E (φ 0))) (φ 0) n (c,()) d 0 []=_) 1 ?_ (fun _ _ _ h=>h)
 refine qam 1 (L:=fun φ n k a=>Z168.l0 (mkR (run E (φ 0))) (φ 0) n (c,()) d k a) (len:=c.length) (fun k=>qav c d k) (fun _ _ _ _ _=>rfl) (fun k r hk ih=>?_) ?_
 ·simp only[Z168.l0_succ _ qae,hd1]
  rw[qcA,qac hk] at ih
  have hlen:=qbu c d k
  refine qax (decide_eq_true (by omega)) (qab (qaj hk) ?_)
  rw[qad (by omega)]
  refine qbB (fun he=>qao (decide_eq_true (by simp only[List.length_cons,List.length_nil];omega)) ?_) fun he=>?_
  ·rw[if_pos (by simpa using he)] at ih;exact ih
  ·rw[if_neg (by simpa using he),List.append_nil] at ih;exact ih
 ·simp only[Z168.l0_succ _ qae]
  exact qaC (decide_eq_false (by omega)) qal
def qf3(c:List Sim)(st:Sim)(d:Int)(k:Nat):Int:=(((qav c d c.length).take k).map fun i=>st.getD i.toNat 0).sum
theorem qeQ(c:List Sim)(st:Sim)(d:Int)(k:Nat)(h:k<(qav c d c.length).length):qf3 c st d (k+1)=qf3 c st d k+st.getD ((qav c d c.length)[k]).toNat 0:=by
 unfold qf3
 rw[List.take_succ_eq_append_getElem h,List.map_append,List.sum_append]
 simp
theorem qhZ{c:List Sim}{st:Sim}(hst:∀ x∈st,0≤x∧x≤3)(d:Int)(k:Nat):0≤qf3 c st d k∧qf3 c st d k≤3*k:=by
  induction k with
  | zero=>simp[qf3]
  | succ k ih =>
    by_cases h:k<(qav c d c.length).length
    · rw[qeQ _ _ _ _ h]
      have:0≤st.getD ((qav c d c.length)[k]).toNat 0∧st.getD ((qav c d c.length)[k]).toNat 0≤3:=by
        by_cases hl:((qav c d c.length)[k]).toNat<st.length
        · rw[qac hl];exact hst _ (List.getElem_mem hl)
        · rw[List.getD_eq_getElem?_getD,List.getElem?_eq_none (by omega)];simp
      omega
    · have:qf3 c st d (k+1)=qf3 c st d k:=by
        unfold qf3
        rw[List.take_of_length_le (by omega),List.take_of_length_le (by omega)]
      omega
theorem qcO(c:List Sim)(st:Sim)(d:Int)(p:Int)(ms:List Mat)(hc:Sm yK c)(hl:st.length=c.length)(hst:∀ x∈st,0≤x∧x≤3)(hd:-1≤d∧d≤1048576) :
  Ret E n_Z78 [dLL c,dI p,dL st,dMs ms,dI d] ⟨o_Z78,(qf3 c st d (qav c d c.length).length,())⟩:=by
 have hc1:c.length≤1048576:=hc.1
 have hol:=qbu c d c.length
 refine qai ?_
 simp only[run_Z78,Z78.ev]
 refine qaa (qdj c d hc hd) ?_
 refine Ev.start (p:=fun φ n=>Z78.l0 (mkR (run E (φ 0))) (φ 0) n 0 (qav c d c.length) ((qav c d c.length).length:Int) 0 c p st ms=_) 1 ?_ (fun _ _ _ h=>h)
 refine qam 1 (L:=fun φ n k a=>Z78.l0 (mkR (run E (φ 0))) (φ 0) n a (qav c d c.length) ((qav c d c.length).length:Int) k c p st ms) (len:=(qav c d c.length).length) (fun k=>qf3 c st d k) (fun _ _ _ _ _=>rfl) (fun k r hk ih=>?_) ?_
 ·simp only[Z78.l0_succ _ qae]
  obtain⟨i,hi,hik⟩:=qeF (List.getElem_mem hk)
  rw[qeQ _ _ _ _ hk,hi,Int.toNat_natCast,qac (by omega)] at ih
  have hb:=qhZ hst d k (c:=c)
  have hb2:=hst _ (List.getElem_mem (show i<st.length by omega))
  refine qax (decide_eq_true (by omega)) (qab (qaj hk) ?_)
  simp only[hi]
  refine qab (qaj (by omega)) ?_
  rw[qad (by omega),qag (by omega) (by omega)]
  exact ih
 ·simp only[Z78.l0_succ _ qae]
  exact qaC (decide_eq_false (by omega)) qal
theorem qcX(c:List Sim)(st:Sim)(d:Int)(hc:Sm yK c)(hl:st.length=c.length)(hst:∀ x∈st,0≤x∧x≤3)(hd:-1≤d∧d≤1048576) :
  Ret E n_Z189 [dC (c,()),dL st,dI d] ⟨o_Z189,(qf3 c st d (qav c d c.length).length,())⟩:=by
 have hc1:c.length≤1048576:=hc.1
 have hol:=qbu c d c.length
 refine qai ?_
 simp only[run_Z189,Z189.ev]
 refine qaa (qiH c d hc hd) ?_
 refine Ev.start (p:=fun φ n=>Z189.l0 (mkR (run E (φ 0))) (φ 0) n st (qav c d c.length) 0 0=_) 1 ?_ (fun _ _ _ h=>h)
 refine qam 1 (L:=fun φ n k a=>Z189.l0 (mkR (run E (φ 0))) (φ 0) n st (qav c d c.length) a k) (len:=(qav c d c.length).length) (fun k=>qf3 c st d k) (fun _ _ _ _ _=>rfl) (fun k r hk ih=>?_) ?_
 ·simp only[Z189.l0_succ _ qae]
  obtain⟨i,hi,hik⟩:=qeF (List.getElem_mem hk)
  rw[qeQ _ _ _ _ hk,hi,Int.toNat_natCast,qac (by omega)] at ih
  have hb:=qhZ hst d k (c:=c)
  have hb2:=hst _ (List.getElem_mem (show i<st.length by omega))
  refine qax (decide_eq_true (by omega)) (qab (qaj hk) ?_)
  simp only[hi]
  refine qab (qaj (by omega)) ?_
  rw[qad (by omega),qag (by omega) (by omega)]
  exact ih
 ·simp only[Z189.l0_succ _ qae]
  exact qaC (decide_eq_false (by omega)) qal
end VeT
open Go Go.Proofs Ve
namespace VeT
theorem qn5{c:List Sim}{st:Sim}(hst:∀ x∈st,0≤x∧x≤3)(d:Int):0≤qf3 c st d (qav c d c.length).length:=(qhZ hst d _).1
def SD(c:List Sim)(st:Sim)(d:Int):Int:=qf3 c st d (qav c d c.length).length
def SK(c:List Sim)(st:Sim):Prop:=st.length=c.length∧(∀ x∈st,0≤x∧x≤3)∧∀ d:Nat,d<4→SD c st (d:Int)≤32
theorem qiI(n:Int):Ret E n_Z28 [dI n] ⟨o_Z28,(!pb (0≤n∧n≤3),())⟩:=by
 refine qai ?_
 simp only[run_Z28,Z28.ev]
 exact qaa (qdQ _ _ _) qal
theorem qkF(c:List Sim)(st:Sim)(hc:Sm yK c)(hs:st.length≤1048576):Ret E n_Z27 [dLL c,dL st] ⟨o_Z27,(pb (SK c st),())⟩:=by
  refine qai ?_
  simp only[run_Z27,Z27.ev]
  refine qbB (fun h=>?_) fun h=>?_
  · simp only[Z27.j0_eq _ qae,cond_true]
    have h:¬ (st.length:Int)=c.length:=by simpa using h
    rw[qap fun hk=>h (by rw[hk.1])];(first | exact qal | exact Ev.of fun _=>trivial)
  have hl : st.length = c.length := by have : (st.length : Int) = c.length := by simpa using h
                                       omega
  refine qaa (qbj st _ hs fun x _=>qiI x) ?_
  simp only[Z27.j0_eq _ qae]
  have e:=qhO (s:=st) (P:=fun x=>0≤x∧x≤3)
  refine qbB (fun h=>?_) fun h=>?_
  · simp only[h] at e
    rw[qap fun hk=>qaN.1 e.symm hk.2.1];(first | exact qal | exact Ev.of fun _=>trivial)
  · simp only[h] at e
    have hst:∀ x∈st,0≤x∧x≤3:=qaA.1 e.symm
    refine Ev.start (p:=fun φ n=>Z27.l1 (mkR (run E (φ 0))) (φ 0) n st 0 c=_) 1 ?_ (fun _ _ _ h=>h)
    refine(qcj 1 (L:=fun φ n k=>Z27.l1 (mkR (run E (φ 0))) (φ 0) n st k c) (len:=4) 0 (by omega) (fun d=>SD c st (d:Int)≤32) (fun b=>some ⟨o_Z27,(b,())⟩) (fun _ _ _ _=>rfl) (fun k h1 h2 hP _=>?_) (fun k r h1 h2 hP _ ih=>?_) (fun _=>?_)).to ?_
    · simp only[Z27.l1_succ _ qae]
      exact qax (decide_eq_true (by omega)) (qaa (qcO c st _ _ _ hc hl hst (by omega)) (qax (decide_eq_true (Int.not_le.1 hP)) qal))
    · simp only[Z27.l1_succ _ qae]
      refine qax (decide_eq_true (by omega)) (qaa (qcO c st _ _ _ hc hl hst (by omega)) (qaC (decide_eq_false (Int.not_lt.2 hP)) ?_))
      rw[qad (by omega)];exact ih
    · simp only[Z27.l1_succ _ qae]
      exact qaC (decide_eq_false (by omega)) qal
    · exact congrArg (fun b:Bool=>some (⟨o_Z27,(b,())⟩:Dv)) (qaG ⟨fun h=>⟨hl,hst,fun d hd=>h d (by omega) hd⟩,fun h d _ hd=>h.2.2 d hd⟩)
theorem qkH(c:List Sim)(st:Sim)(hc:Sm yK c)(hs:st.length≤1048576):Ret E n_Z188 [dC (c,()),dL st] ⟨o_Z188,(pb (SK c st),())⟩:=by
 refine qai ?_
 simp only[run_Z188,Z188.ev]
 refine qaa (qee st _ _ hs (by omega)) (qbB (fun h=>?_) fun h=>?_)
 ·have h:=qaN.1 (show pb (qaD st 4∧(st.length:Int)=c.length)=false by simpa using h)
  rw[qap fun hk=>h ⟨hk.2.1,by rw[hk.1]⟩];(first | exact qal | exact Ev.of fun _=>trivial)
 ·have h:=qaA.1 (show pb (qaD st 4∧(st.length:Int)=c.length)=true by simpa using h)
  have hl:st.length=c.length:=by have:=h.2;omega
  have hst:∀ x∈st,0≤x∧x≤3:=h.1
  refine Ev.start (p:=fun φ n=>Z188.l0 (mkR (run E (φ 0))) (φ 0) n (c,()) st 0=_) 1 ?_ (fun _ _ _ h=>h)
  refine(qcj 1 (L:=fun φ n k=>Z188.l0 (mkR (run E (φ 0))) (φ 0) n (c,()) st k) (len:=4) 0 (by omega) (fun d=>SD c st (d:Int)≤32) (fun b=>some ⟨o_Z188,(b,())⟩) (fun _ _ _ _=>rfl) (fun k h1 h2 hP _=>?_) (fun k r h1 h2 hP _ ih=>?_) (fun _=>?_)).to ?_
  ·simp only[Z188.l0_succ _ qae]
   exact qax (decide_eq_true (by omega)) (qaa (qcX c st _ hc hl hst (by omega)) (qax (decide_eq_true (Int.not_le.1 hP)) qal))
  ·simp only[Z188.l0_succ _ qae]
   refine qax (decide_eq_true (by omega)) (qaa (qcX c st _ hc hl hst (by omega)) (qaC (decide_eq_false (Int.not_lt.2 hP)) ?_))
   rw[qad (by omega)];exact ih
  ·simp only[Z188.l0_succ _ qae]
   exact qaC (decide_eq_false (by omega)) qal
  ·exact congrArg (fun b:Bool=>some (⟨o_Z188,(b,())⟩:Dv)) (qaG ⟨fun h=>⟨hl,hst,fun d hd=>h d (by omega) hd⟩,fun h d _ hd=>h.2.2 d hd⟩)
noncomputable def qaH(c:List Sim)(k:Nat):List Int:=(qcu (c.getD k [])).map (qdI c)
theorem qnq{c:List Sim}{s:Sim}:qdI c s<c.length∧-1≤qdI c s:=by
 unfold qdI qjl
 cases h:c.findIdx? (fun x=>pb (x=s)) with
 | none=>simp only[o2i];omega
 | some k =>
  rw[List.findIdx?_eq_some_iff_getElem] at h
  obtain⟨h,_⟩:=h
  simp only[o2i];omega
theorem qaz{c:List Sim}{k:Nat}:(qaH c k).length=if 1<(c.getD k []).length then(c.getD k []).length else 0:=by
 unfold qaH qcu
 rw[List.length_map]
 split<;>simp
theorem qkV{c:List Sim}(h:VC c){k:Nat}(hk:k<c.length){x:Int}(hx:x∈qaH c k):0≤x∧x<c.length:=by
 unfold qaH at hx
 rw[List.mem_map] at hx
 obtain⟨f,hf,rfl⟩:=hx
 exact⟨qa4.2 (h.2.2.2 k hk f hf),qnq.1⟩
theorem qcl(c:List Sim)(k:Nat)(hk:k<c.length)(hc:Sm yK c)(hs:Srt c):Ret E n_Z39 [dLL c,dI (k:Int)] ⟨o_Z39,(qaH c k,())⟩:=by
 have hks:(c[k]).length≤1048576:=(qbo hc hk).1
 have hfl:=qhl (s:=c[k])
 refine qai ?_
 simp only[run_Z39,Z39.ev]
 refine qab (qaj hk) (qaa (qfD _ hks) ?_)
 refine Ev.start (p:=fun φ n=>Z39.l0 (mkR (run E (φ 0))) (φ 0) n (qcu c[k]) ((qcu c[k]).length:Int) 0 c []=_) 1 ?_ (fun _ _ _ h=>h)
 refine qam 1 (L:=fun φ n j a=>Z39.l0 (mkR (run E (φ 0))) (φ 0) n (qcu c[k]) ((qcu c[k]).length:Int) j c a) (len:=(qcu c[k]).length) (fun j=>((qcu c[k]).take j).map (qdI c)) (fun _ _ _ _ _=>rfl) (fun j r hj ih=>?_) ?_
 ·simp only[Z39.l0_succ _ qae]
  rw[List.take_succ_eq_append_getElem hj,List.map_append] at ih
  refine qax (decide_eq_true (by omega)) (qab (qaj hj) (qaa (qfz c _ hc hs) (qao (by simp;omega) ?_)))
  rw[qad (by omega)];exact ih
 ·simp only[Z39.l0_succ _ qae]
  refine qaC (decide_eq_false (by omega)) (qah ?_)
  rw[List.take_of_length_le (Nat.le_refl _),qaH,qac hk]
theorem qca(c:List Sim)(k:Nat)(hk:k<c.length)(hc:Sm yK c):Ret E n_Z166 [dC (c,()),dI (k:Int)] ⟨o_Z166,(qaH c k,())⟩:=by
 have hks:(c[k]).length≤1048576:=(qbo hc hk).1
 refine qai ?_
 simp only[run_Z166,Z166.ev]
 refine qab (qaj hk) ?_
 refine Ev.start (p:=fun φ n=>Z166.l0 (mkR (run E (φ 0))) (φ 0) n (c,()) c[k] 0 []=_) 1 ?_ (fun _ _ _ h=>h)
 by_cases hlen:1<(c[k]).length
 ·refine qam 1 (L:=fun φ n j a=>Z166.l0 (mkR (run E (φ 0))) (φ 0) n (c,()) c[k] j a) (len:=(c[k]).length) (fun j=>(List.range j).map fun i=>qdI c ((c[k]).eraseIdx i)) (fun _ _ _ _ _=>rfl) (fun j r hj ih=>?_) ?_
  ·simp only[Z166.l0_succ _ qae]
   rw[List.range_succ,List.map_append] at ih
   refine qax (decide_eq_true (by omega)) ?_
   simp only[show decide (((c[k]).length:Int)>1)=true from decide_eq_true (by omega),Z166.j1_eq _ qae,cond_true]
   refine qaa (qej _ j hj hks) (qaa (qb6 (c,()) _ hc) (qao (by simp;omega) ?_))
   rw[qad (by omega)];exact ih
  ·simp only[Z166.l0_succ _ qae]
   refine qaC (decide_eq_false (by omega)) ?_
   simp only[Z166.j1_eq _ qae,cond_false]
   refine qah ?_
   rw[qaH,qac hk,qcu,if_pos hlen,List.map_map];rfl
 ·refine Ev.round 1 (L:=fun φ n=>Z166.l0 (mkR (run E (φ 0))) (φ 0) n (c,()) c[k] 0 []) ?_ (fun _ _ _=>rfl)
  have hj:Ev fun φ=>Z166.j1 (mkR (run E (φ 0))) (φ 0) (φ 1) (c,()) c[k] 0 false []=some ⟨o_Z166,(qaH c k,())⟩:=by
   simp only[Z166.j1_eq _ qae,cond_false]
   refine qah ?_
   rw[qaH,qac hk,qcu,if_neg hlen];rfl
  simp only[Z166.l0_succ _ qae]
  refine qdG (fun _=>?_) fun _=>hj
  simp only[show decide (((c[k]).length:Int)>1)=false from decide_eq_false (by omega)]
  exact hj
abbrev Arw:=Int×Int×Int×Unit
noncomputable def qmV(c:List Sim)(k i:Nat):List Arw:=(List.range i).map fun(j:Nat)=>((k:Int),(j:Int),(qaH c k).getD j 0,())
noncomputable def qb1(c:List Sim):Nat→List Arw
 | 0=>[]
 | k+1=>qb1 c k++qmV c k (qaH c k).length
noncomputable def plc(c:List Sim)(k:Nat):Nat:=(qb1 c k).length
theorem qem{c:List Sim}{k i:Nat}:(qmV c k i).length=i:=by simp[qmV]
theorem qe4{c:List Sim}{k:Nat}:plc c (k+1)=plc c k+(qaH c k).length:=by
 unfold plc;rw[qb1,List.length_append,qem]
theorem VC.len4{c:List Sim}(h:VC c){k:Nat}(hk:k<c.length):(c.getD k []).length≤4:=(h.2.1 k hk).2.1
theorem VC.fIdx4{c:List Sim}(h:VC c){k:Nat}(hk:k<c.length):(qaH c k).length≤4:=by
 have:=h.len4 hk
 rw[qaz];split<;>omega
theorem VC.plc{c:List Sim}(h:VC c):∀ {k:Nat},k≤c.length→plc c k≤4*k
 | 0,_=>by simp[VeT.plc,qb1]
 | k+1,hk=>by
  have h1:=h.plc (k:=k) (by omega)
  have h2:=h.fIdx4 (k:=k) (by omega)
  rw[qe4];omega
theorem qcI{c:List Sim}:∀ {n k i:Nat},k<n→i<(qaH c k).length→(qb1 c n)[plc c k+i]? = some ((k:Int),(i:Int),(qaH c k).getD i 0,())
 | 0,_,_,h,_=>by omega
 | n+1,k,i,h,hi=>by
  rw[qb1]
  by_cases hk:k<n
  ·have:=qcI hk hi
   have hl:=(List.getElem?_eq_some_iff.1 this).1
   rw[List.getElem?_append_left hl];exact this
  ·obtain rfl:k=n:=by omega
   rw[List.getElem?_append_right (by unfold plc;omega)]
   rw[show plc c k+i-(qb1 c k).length=i by unfold plc;omega]
   simp[qmV,hi]
theorem qiM{c:List Sim}:∀ {n t:Nat},t<(qb1 c n).length→∃ k i,k<n∧i<(qaH c k).length∧t=plc c k+i
 | 0,_,h=>by simp[qb1] at h
 | n+1,t,h=>by
  by_cases ht:t<(qb1 c n).length
  ·obtain⟨k,i,h1,h2,h3⟩:=qiM ht
   exact⟨k,i,by omega,h2,h3⟩
  ·rw[qb1,List.length_append,qem] at h
   exact⟨n,t-(qb1 c n).length,by omega,by omega,by unfold plc;omega⟩
theorem qon(c:List Sim)(hc:Sm yK c)(hv:VC c):Ret E n_Z29 [dLL c] ⟨o_Z29,(qb1 c c.length,())⟩:=by
 have hs:=hv.srt
 have h48:=hv.1
 refine qai ?_
 simp only[run_Z29,Z29.ev]
 refine qaa (qh9 _) ?_
 refine Ev.start (p:=fun φ n=>Z29.l0 (mkR (run E (φ 0))) (φ 0) n (c.length:Int) 0 c []=_) 1 ?_ (fun _ _ _ h=>h)
 refine qam 1 (L:=fun φ n k a=>Z29.l0 (mkR (run E (φ 0))) (φ 0) n (c.length:Int) k c a) (len:=c.length) (fun k=>qb1 c k) (fun _ _ _ _ _=>rfl) (fun k r hk ih=>?_) ?_
 ·simp only[Z29.l0_succ _ qae]
  have hpl:=hv.plc (k:=k) (by omega)
  have hf4:=hv.fIdx4 hk
  refine qax (decide_eq_true (by omega)) (qaa (qcl c k hk hc hs) ?_)
  refine Ev.start (p:=fun φ n=>Z29.l1 (mkR (run E (φ 0))) (φ 0) (φ 1) n (k:Int) (c.length:Int) (k:Int) (qaH c k) ((qaH c k).length:Int) 0 c (qb1 c k)=_) 2 ?_ (fun _ _ _ h=>h)
  have:=qam 2 (L:=fun φ n j a=>Z29.l1 (mkR (run E (φ 0))) (φ 0) (φ 1) n (k:Int) (c.length:Int) (k:Int) (qaH c k) ((qaH c k).length:Int) j c a) (len:=(qaH c k).length) (fun j=>qb1 c k++qmV c k j) (r:=r) (fun _ _ _ _ _=>rfl) (fun j r hj ih=>?_) ?_
  ·simpa [qmV] using this
  ·simp only[Z29.l1_succ _ qae]
   refine qax (decide_eq_true (by omega)) (qab (qaj hj) (qao (decide_eq_true ?_) ?_))
   ·rw[List.length_append,qem];show(_+_+1)*24≤_
    have:(qb1 c k).length=plc c k:=rfl
    omega
   ·rw[qad (by omega)]
    have e:qmV c k (j+1)=qmV c k j++[((k:Int),(j:Int),(qaH c k)[j],())]:=by
     unfold qmV;rw[List.range_succ,List.map_append];simp[List.getD_eq_getElem?_getD,hj]
    rw[e,← List.append_assoc] at ih
    exact ih
  ·simp only[Z29.l1_succ _ qae]
   refine qaC (decide_eq_false (by omega)) ?_
   rw[qad (by omega)];exact ih
 ·simp only[Z29.l0_succ _ qae]
  exact qaC (decide_eq_false (by omega)) qal
theorem qdr(c:List Sim)(k i:Nat)(hk:k≤c.length)(hi:i≤1048576)(hv:VC c):Ret E n_Z187 [dC (c,()),dI (k:Int),dI (i:Int)] ⟨o_Z187,(((plc c k+i:Nat):Int),())⟩:=by
 have h48:=hv.1
 refine qai ?_
 simp only[run_Z187,Z187.ev]
 refine Ev.start (p:=fun φ n=>Z187.l0 (mkR (run E (φ 0))) (φ 0) n (c,()) (k:Int) (i:Int) 0 0=_) 1 ?_ (fun _ _ _ h=>h)
 have:=qam 1 (L:=fun φ n j a=>Z187.l0 (mkR (run E (φ 0))) (φ 0) n (c,()) (k:Int) (i:Int) a j) (len:=k) (fun j=>((plc c j:Nat):Int)) (r:=some ⟨o_Z187,(((plc c k+i:Nat):Int),())⟩) (fun _ _ _ _ _=>rfl) (fun j r hj ih=>?_) ?_
 ·exact this
 ·simp only[Z187.l0_succ _ qae]
  have hjc:j<c.length:=by omega
  have hpl:=hv.plc (k:=j) (by omega)
  have h4:=hv.len4 hjc
  have e:=qe4 (c:=c) (k:=j)
  rw[qaz] at e
  rw[qac hjc] at e h4
  refine qax (decide_eq_true (by omega)) (qab (qaj hjc) (qdG (fun hl=>qab (qaj hjc) ?_) fun hl=>?_))
  ·rw[if_pos (by omega)] at e
   rw[qad (by omega),qag (by omega) (by omega)]
   rw[e] at ih
   simpa using ih
  ·rw[if_neg (by omega)] at e
   rw[qad (by omega)]
   rw[e] at ih;exact ih
 ·simp only[Z187.l0_succ _ qae]
  have hpl:=hv.plc hk
  refine qaC (decide_eq_false (by omega)) (qah ?_)
  rw[qag (by omega) (by omega)]
  simp
theorem ql8(c:List Sim)(hv:VC c):Ret E n_Z178 [dC (c,())] ⟨o_Z178,(((plc c c.length:Nat):Int),())⟩:=by
 refine qai ?_
 simp only[run_Z178,Z178.ev]
 exact qaa (qdr c c.length 0 (Nat.le_refl _) (by omega) hv) qal
end VeT
open Go Go.Proofs Ve
namespace VeT
def mz:Mat:=(0,0,0,[],())
def QB(p:Int)(st:Sim)(ms:List Mat)(t k:Nat)(f:Int):Prop:=Bt (ms.getD t mz) p (st.getD f.toNat 0) (st.getD k 0)
def VS(c:List Sim)(p:Int)(st:Sim)(ms:List Mat):Prop:=VC c∧Pr p∧SK c st∧plc c c.length=ms.length∧∀ k,k<c.length→∀ i,i<(qaH c k).length→QB p st ms (plc c k+i) k ((qaH c k).getD i 0)
def az:Arw:=(0,0,0,())
def QA(p:Int)(st:Sim)(ms:List Mat)(t:Nat)(a:Arw):Prop:=t<ms.length∧Bt (ms.getD t mz) p (st.getD a.2.2.1.toNat 0) (st.getD a.1.toNat 0)
theorem qoQ{c:List Sim}{p:Int}{st:Sim}{ms:List Mat}(hl:plc c c.length=ms.length) :
  (∀ t,0≤t→t<plc c c.length→QA p st ms t ((qb1 c c.length).getD t az))↔∀ k,k<c.length→∀ i,i<(qaH c k).length→QB p st ms (plc c k+i) k ((qaH c k).getD i 0):=by
 constructor
 ·intro h k hk i hi
  have hg:=qcI hk hi
  have hlt:=(List.getElem?_eq_some_iff.1 hg).1
  have:=h (plc c k+i) (by omega) hlt
  rw[List.getD_eq_getElem?_getD,hg] at this
  exact this.2
 ·intro h t _ ht
  obtain⟨k,i,hk,hi,rfl⟩:=qiM ht
  have hg:=qcI hk hi
  have:=h k hk i hi
  rw[List.getD_eq_getElem?_getD,hg]
  exact⟨by omega,this⟩
theorem qpe{ms:List Mat}(h:Sm (.sl (.st cM)) ms){t:Nat}(ht:t<ms.length):Sm (.st cM) ms[t]:=h.2 _ (List.getElem_mem ht)
theorem qf0(c:List Sim)(p:Int)(st:Sim)(ms:List Mat)(hc:Sm yK c)(hst:st.length≤1048576)(hm:Sm (.sl (.st cM)) ms) :
    Ret E n_Z17 [dLL c,dI p,dL st,dMs ms] ⟨o_Z17,(pb (VS c p st ms),())⟩:=by
  have hm1:ms.length≤1048576:=hm.1
  refine qai ?_
  simp only[run_Z17,Z17.ev]
  have no:¬ VS c p st ms→Ev fun φ=>Z17.j0 (mkR (run E (φ 0))) (φ 0) true c p st ms=some ⟨o_Z17,(pb (VS c p st ms),())⟩:=fun h=>by
    simp only[Z17.j0_eq _ qae,cond_true]
    rw[qap h];(first | exact qal | exact Ev.of fun _=>trivial)
  refine qaa (qhy c hc) (qbB (fun h=>no fun hv=>qaN.1 (show pb (VC c)=false by simpa using h) hv.1) fun h=>?_)
  have hv:VC c:=qaA.1 (by simpa using h)
  refine qaa (qfm p) (qbB (fun h=>no fun hv=>qaN.1 (show pb (Pr p)=false by simpa using h) hv.2.1) fun h=>?_)
  have hp:Pr p:=qaA.1 (by simpa using h)
  refine qaa (qkF c st hc hst) ?_
  by_cases hk:SK c st
  · simp only[qaF hk,Bool.not_true,Z17.j0_eq _ qae,cond_false]
    refine qaa (qon c hc hv) ?_
    have hpl:=hv.plc (Nat.le_refl _)
    have h48:=hv.1
    refine Ev.start (p:=fun φ n=>Z17.l1 (mkR (run E (φ 0))) (φ 0) n (qb1 c c.length) (qb1 c c.length) ((qb1 c c.length).length:Int) 0 c p st ms=_) 1 ?_ (fun _ _ _ h=>h)
    have get:∀ t (ht:t<plc c c.length),∃ k i,k<c.length∧i<(qaH c k).length∧(qb1 c c.length)[t]? = some ((k:Int),(i:Int),(qaH c k).getD i 0,())∧((qaH c k).getD i 0).toNat<st.length∧0≤(qaH c k).getD i 0:=fun t ht=>by
      obtain⟨k,i,hk',hi,rfl⟩:=qiM ht
      have hb:=qkV hv hk' (List.getElem_mem hi)
      exact⟨k,i,hk',hi,qcI hk' hi,by rw[qac hi,hk.1];omega,by rw[qac hi];omega⟩
    refine(qcj 1 (L:=fun φ n t=>Z17.l1 (mkR (run E (φ 0))) (φ 0) n (qb1 c c.length) (qb1 c c.length) ((qb1 c c.length).length:Int) t c p st ms) (len:=plc c c.length) 0 (by omega) (fun t=>QA p st ms t ((qb1 c c.length).getD t az)) (fun b=>some ⟨o_Z17,(b&&((plc c c.length:Int)==(ms.length:Int)),())⟩) (fun _ _ _ _=>rfl) (fun t h1 h2 hP _=>?_) (fun t r h1 h2 hP _ ih=>?_) (fun _=>?_)).to ?_
    · simp only[Z17.l1_succ _ qae]
      obtain⟨k,i,hkc,hi,hg,hf,hf0⟩:=get t h2
      have hlt:t<(qb1 c c.length).length:=h2
      have hgt:(qb1 c c.length)[t]=((k:Int),(i:Int),(qaH c k).getD i 0,()):=by
        rw[List.getElem?_eq_getElem hlt] at hg;exact Option.some.inj hg
      refine qax (decide_eq_true (by omega)) (qab (qaj hlt) ?_)
      rw[qac hlt] at hP
      rw[hgt] at hP ⊢
      refine qdG (fun hge=>?_) fun hge=>?_
      · simp only[Z17.j2_eq _ qae,cond_true];(first | exact qal | exact Ev.of fun _=>trivial)
      · have htm:t<ms.length:=by omega
        refine qab (qaj htm) ?_
        simp only
        rw[show(qaH c k).getD i 0=((((qaH c k).getD i 0).toNat:Nat):Int) by omega]
        refine qab (qaj hf) (qab (qaj (show k<st.length by rw[hk.1];exact hkc)) (qaa (qgj _ _ _ _ (qpe hm htm)) ?_))
        have:¬ Bt ms[t] p st[((qaH c k).getD i 0).toNat] (st[k]'(by rw[hk.1];exact hkc)):=fun hb=>hP ⟨htm,by
          simp only[Int.toNat_natCast]
          rw[qac htm,qac hf,qac (s:=st) (k:=k) (by rw[hk.1];exact hkc)];exact hb⟩
        simp only[qap this,Bool.not_false,Z17.j2_eq _ qae,cond_true];(first | exact qal | exact Ev.of fun _=>trivial)
    · simp only[Z17.l1_succ _ qae]
      obtain⟨k,i,hkc,hi,hg,hf,hf0⟩:=get t h2
      have hlt:t<(qb1 c c.length).length:=h2
      have hgt:(qb1 c c.length)[t]=((k:Int),(i:Int),(qaH c k).getD i 0,()):=by
        rw[List.getElem?_eq_getElem hlt] at hg;exact Option.some.inj hg
      refine qax (decide_eq_true (by omega)) (qab (qaj hlt) ?_)
      rw[qac hlt] at hP
      rw[hgt] at hP ⊢
      obtain⟨htm,hb⟩:=hP
      refine qaC (decide_eq_false (by omega)) (qab (qaj htm) ?_)
      simp only
      rw[show(qaH c k).getD i 0=((((qaH c k).getD i 0).toNat:Nat):Int) by omega]
      refine qab (qaj hf) (qab (qaj (show k<st.length by rw[hk.1];exact hkc)) (qaa (qgj _ _ _ _ (qpe hm htm)) ?_))
      simp only[Int.toNat_natCast] at hb
      rw[qac htm,qac hf,qac (s:=st) (k:=k) (by rw[hk.1];exact hkc)] at hb
      simp only[qaF hb,Bool.not_true,Z17.j2_eq _ qae,cond_false]
      rw[qad (by omega)];exact ih
    · simp only[Z17.l1_succ _ qae]
      exact qaC (decide_eq_false (by show ¬ ((plc c c.length:Nat):Int)<((plc c c.length:Nat):Int);omega)) (qah (by rw[Bool.true_and];rfl))
    · have:(pb (∀ t,0≤t→t<plc c c.length→QA p st ms t ((qb1 c c.length).getD t az))&&((plc c c.length:Int)==(ms.length:Int)))=pb (VS c p st ms):=qfE (by
        rw[Bool.and_eq_true,qaA,beq_iff_eq]
        constructor
        · rintro⟨h1,h2⟩
          have h2:plc c c.length=ms.length:=by omega
          exact⟨hv,hp,hk,h2,(qoQ h2).1 h1⟩
        · rintro⟨_,_,_,h2,h1⟩
          exact⟨(qoQ h2).2 h1,by omega⟩)
      rw[this]
  · simp only[qap hk,Bool.not_false]
    exact no fun hv=>hk hv.2.2.1
theorem qok(x:Shf)(k i:Nat)(m:Mat)(hv:VC x.1)(hk:SK x.1 x.2.2.1)(hkc:k<x.1.length)(hi:i<(qaH x.1 k).length)(hc:Sm yK x.1)(hm:Sm (.st cM) m) :
  Ret E n_Z184 [dS x,dI (k:Int),dI (i:Int),dM m] ⟨o_Z184,(pb (Bt m x.2.1 (x.2.2.1.getD ((qaH x.1 k).getD i 0).toNat 0) (x.2.2.1.getD k 0)),())⟩:=by
 have hb:=qkV hv hkc (List.getElem_mem hi)
 have hks:k<x.2.2.1.length:=by rw[hk.1];exact hkc
 have hfs:((qaH x.1 k)[i]).toNat<x.2.2.1.length:=by rw[hk.1];omega
 rw[qac hi,qac hks,qac hfs]
 refine qai ?_
 simp only[run_Z184,Z184.ev]
 refine qaa (qca x.1 k hkc hc) (qab (qaj hi) (qaa (qlz m hm) (qbB (fun h1=>qbB (fun h2=>qab (qaj hks) (qbB (fun h3=>?_) fun h3=>qah ?_)) fun h2=>qah ?_) fun h1=>qah ?_)))
 ·have e:(qaH x.1 k)[i]=((((qaH x.1 k)[i]).toNat:Nat):Int):=by omega
  refine qab ((congrArg (idx? x.2.2.1) e).trans (qaj hfs)) (qah ?_)
  have:(m.2.2.1==x.2.2.1[((qaH x.1 k)[i]).toNat])=pb (Bt m x.2.1 x.2.2.1[((qaH x.1 k)[i]).toNat] x.2.2.1[k]):=qfE (by
   rw[beq_iff_eq];exact⟨fun h=>⟨qaA.1 h1,by simpa using h2,by simpa using h3,h⟩,fun h=>h.2.2.2⟩)
  simp only[this]
 ·rw[qap fun h=>by have:=h.2.2.1;simp[this] at h3]
 ·rw[qap fun h=>by have:=h.2.1;simp[this] at h2]
 ·rw[qap fun h=>qaN.1 h1 h.1]
theorem qpU(x:Shf)(hx:Sm (.st cS) x):Ret E n_Z186 [dS x] ⟨o_Z186,(pb (VS x.1 x.2.1 x.2.2.1 x.2.2.2.1),())⟩:=by
 have hc:Sm yK x.1:=hx.1
 have hm:Sm (.sl (.st cM)) x.2.2.2.1:=hx.2.2.2.1
 have hst:x.2.2.1.length≤1048576:=hx.2.2.1.1
 refine qai ?_
 simp only[run_Z186,Z186.ev]
 have no:¬ VS x.1 x.2.1 x.2.2.1 x.2.2.2.1→Ev fun φ=>Z186.j0 (mkR (run E (φ 0))) (φ 0) x true=some ⟨o_Z186,(pb (VS x.1 x.2.1 x.2.2.1 x.2.2.2.1),())⟩:=fun h=>by
  simp only[Z186.j0_eq _ qae,cond_true]
  rw[qap h];(first | exact qal | exact Ev.of fun _=>trivial)
 refine qaa (qoP (x.1,()) hc) (qbB (fun h=>no fun hv=>qaN.1 (show pb (VC x.1)=false by simpa using h) hv.1) fun h=>?_)
 have hv:VC x.1:=qaA.1 (show pb (VC x.1)=true by simpa using h)
 refine qaa (qdt _) (qbB (fun h=>no fun hv=>qaN.1 (show pb (Pr x.2.1)=false by simpa using h) hv.2.1) fun h=>?_)
 have hp:Pr x.2.1:=qaA.1 (by simpa using h)
 refine qaa (qkH x.1 x.2.2.1 hc hst) (qbB (fun h=>no fun hv=>qaN.1 (show pb (SK x.1 x.2.2.1)=false by simpa using h) hv.2.2.1) fun h=>?_)
 have hk:SK x.1 x.2.2.1:=qaA.1 (by simpa using h)
 refine qaa (ql8 x.1 hv) ?_
 by_cases hl:plc x.1 x.1.length=x.2.2.2.1.length
 ·have h48:=hv.1
  simp only[show((x.2.2.2.1.length:Int) != ((plc x.1 x.1.length:Nat):Int))=false by simp[hl],Z186.j0_eq _ qae,cond_false]
  refine Ev.start (p:=fun φ n=>Z186.l1 (mkR (run E (φ 0))) (φ 0) n x 0=_) 1 ?_ (fun _ _ _ h=>h)
  let P:Nat→Prop:=fun k=>∀ i,i<(qaH x.1 k).length→QB x.2.1 x.2.2.1 x.2.2.2.1 (plc x.1 k+i) k ((qaH x.1 k).getD i 0)
  have inner:∀(k:Nat) (h2:k<x.1.length) (r:Option Dv),(P k→Ev fun φ=>Z186.l1 (mkR (run E (φ 0))) (φ 0) (φ 1) x ((k+1:Nat):Int)=r)→(¬ P k→r=some ⟨o_Z186,(false,())⟩)→Ev fun φ=>Z186.l2 (mkR (run E (φ 0))) (φ 0) (φ 1) (φ 0) x (k:Int) 0=r:=fun k h2 r hgo hstop=>by
   have h4:=hv.len4 h2
   have hfl:=qaz (c:=x.1) (k:=k)
   rw[qac h2] at h4 hfl
   refine Ev.start (p:=fun φ n=>Z186.l2 (mkR (run E (φ 0))) (φ 0) (φ 1) n x (k:Int) 0=_) 2 ?_ (fun _ _ _ h=>h)
   by_cases hlen:1<(x.1[k]).length
   ·rw[if_pos hlen] at hfl
    have mapAt:∀ i (hi:i<(qaH x.1 k).length),∃ ht:plc x.1 k+i<x.2.2.2.1.length,∀ R,(Ev fun φ=>(bif (!pb (Bt x.2.2.2.1[plc x.1 k+i] x.2.1 (x.2.2.1.getD ((qaH x.1 k).getD i 0).toNat 0) (x.2.2.1.getD k 0))) then some ⟨o_Z186,(false,())⟩ else Z186.l2 (mkR (run E (φ 0))) (φ 0) (φ 1) (φ 2) x (k:Int) (w64 ((i:Int)+1)))=R)→Ev fun φ=>Z186.j3 (mkR (run E (φ 0))) (φ 0) (φ 1) (φ 2) x (k:Int) (i:Int) true=R:=fun i hi=>by
     have hg:=qcI h2 hi
     have hlt:=(List.getElem?_eq_some_iff.1 hg).1
     have ht:plc x.1 k+i<x.2.2.2.1.length:=by rw[← hl];exact hlt
     refine⟨ht,fun R hR=>?_⟩
     simp only[Z186.j3_eq _ qae,cond_true]
     refine qaa (qdr x.1 k i (by omega) (by omega) hv) (qab (qaj ht) (qaa (qok x k i _ hv hk h2 hi hc (qpe hm ht)) hR))
    obtain⟨t,f⟩:=qkx 2 (L:=fun φ n i=>Z186.l2 (mkR (run E (φ 0))) (φ 0) (φ 1) n x (k:Int) i) (len:=(x.1[k]).length) 0 (by omega) (fun i=>QB x.2.1 x.2.2.1 x.2.2.2.1 (plc x.1 k+i) k ((qaH x.1 k).getD i 0)) (rt:=r) (rf:=some ⟨o_Z186,(false,())⟩) (fun _ _ _ _=>rfl) (fun i _ hi hP _=>by
     obtain⟨ht,hm'⟩:=mapAt i (by omega)
     simp only[Z186.l2_succ _ qae]
     refine qab (qaj h2) (qax (decide_eq_true (by omega)) (qab (qaj h2) ?_))
     simp only[show decide (((x.1[k]).length:Int)>1)=true from decide_eq_true (by omega)]
     refine hm' _ (qax ?_ qal)
     rw[qap];· rfl
     intro hb;refine hP ?_
     show Bt _ _ _ _
     rw[qac ht];exact hb) (fun i q _ hi hP _ ih=>by
     obtain⟨ht,hm'⟩:=mapAt i (by omega)
     simp only[Z186.l2_succ _ qae]
     refine qab (qaj h2) (qax (decide_eq_true (by omega)) (qab (qaj h2) ?_))
     simp only[show decide (((x.1[k]).length:Int)>1)=true from decide_eq_true (by omega)]
     refine hm' _ (qaC ?_ ?_)
     ·have hP:Bt (x.2.2.2.1.getD (plc x.1 k+i) mz) _ _ _:=hP
      rw[qac ht] at hP
      rw[qaF hP];rfl
     ·rw[qad (by omega)];exact ih) (fun hall=>by
     simp only[Z186.l2_succ _ qae]
     refine qab (qaj h2) (qaC (decide_eq_false (by omega)) ?_)
     simp only[Z186.j3_eq _ qae,cond_false]
     rw[qad (by omega)]
     exact hgo fun i hi=>hall i (by omega) (by omega))
    by_cases hall:∀ i,0≤i→i<(x.1[k]).length→QB x.2.1 x.2.2.1 x.2.2.2.1 (plc x.1 k+i) k ((qaH x.1 k).getD i 0)
    ·exact t hall
    ·rw[hstop fun hf=>hall fun i _ hi=>hf i (by omega)]
     exact f hall
   ·rw[if_neg hlen] at hfl
    refine Ev.round 2 (L:=fun φ n=>Z186.l2 (mkR (run E (φ 0))) (φ 0) (φ 1) n x (k:Int) 0) ?_ (fun _ _ _=>rfl)
    have hgo:=hgo fun i hi=>by omega
    have hj:Ev fun φ=>Z186.j3 (mkR (run E (φ 0))) (φ 0) (φ 1) (φ 2) x (k:Int) 0 false=r:=by
     simp only[Z186.j3_eq _ qae,cond_false]
     rw[qad (by omega)];exact hgo
    simp only[Z186.l2_succ _ qae]
    refine qab (qaj h2) (qdG (fun _=>qab (qaj h2) ?_) fun _=>hj)
    simp only[show decide (((x.1[k]).length:Int)>1)=false from decide_eq_false (by omega)]
    exact hj
  refine(qcj 1 (L:=fun φ n k=>Z186.l1 (mkR (run E (φ 0))) (φ 0) n x k) (len:=x.1.length) 0 (by omega) P (fun b=>some ⟨o_Z186,(b,())⟩) (fun _ _ _ _=>rfl) (fun k h1 h2 hP hpre=>?_) (fun k r h1 h2 hP hpre ih=>?_) (fun _=>?_)).to ?_
  ·simp only[Z186.l1_succ _ qae]
   exact qax (decide_eq_true (by omega)) (inner k h2 _ (fun h=>absurd h hP) fun _=>rfl)
  ·simp only[Z186.l1_succ _ qae]
   exact qax (decide_eq_true (by omega)) (inner k h2 _ (fun _=>ih) fun h=>absurd hP h)
  ·simp only[Z186.l1_succ _ qae]
   exact qaC (decide_eq_false (by omega)) qal
  ·exact congrArg (fun b:Bool=>some (⟨o_Z186,(b,())⟩:Dv)) (qaG ⟨fun h=>⟨hv,hp,hk,hl,fun k hk'=>h k (by omega) hk'⟩,fun h k _ hk'=>h.2.2.2.2 k hk'⟩)
 ·simp only[show((x.2.2.2.1.length:Int) != ((plc x.1 x.1.length:Nat):Int))=true by simp;omega]
  exact no fun h=>hl h.2.2.2.1
end VeT
open Go Go.Proofs Ve
namespace VeT
theorem qky(x:Shf)(hx:Sm (.st cS) x):Ret E n_Z17 [dLL x.1,dI x.2.1,dL x.2.2.1,dMs x.2.2.2.1] ⟨o_Z17,(pb (VS x.1 x.2.1 x.2.2.1 x.2.2.2.1),())⟩ :=
 qf0 x.1 x.2.1 x.2.2.1 x.2.2.2.1 hx.1 hx.2.2.1.1 hx.2.2.2.1
theorem qhF(n:Int):Ret E n_Z163 [dI n] ⟨o_Z163,(pb (0≤n∧n≤3),())⟩:=by
 refine qai ?_
 simp only[run_Z163,Z163.ev]
 exact qaa (qbM _ _ _) qal
end VeT
open Go Go.Proofs Ve
namespace VeT
theorem qjZ(p r:Int)(C:Nat)(cells:Sim)(i j:Nat)(h:i*C+j<cells.length)(hl:cells.length≤1048576):Ret E n_Z8 [dI p,dI r,dI (C:Int),dL cells,dI (i:Int),dI (j:Int)] ⟨o_Z8,(cells[i*C+j],())⟩:=by
 refine qai ?_
 simp only[run_Z8,Z8.ev]
 rw[qaY,qag (n:=((i*C:Nat):Int)) (by omega) (by omega),qag (by omega) (by omega),show((i*C:Nat):Int)+(j:Int)=((i*C+j:Nat):Int) by omega]
 exact qab (qaj h) qal
theorem qd9(p r:Int)(C:Nat)(cells:Sim)(i:Nat)(h:(i+1)*C≤cells.length)(hi:i≤1048576)(hl:cells.length≤1048576):Ret E n_Z9 [dI p,dI r,dI (C:Int),dL cells,dI (i:Int)] ⟨o_Z9,((cells.take ((i+1)*C)).drop (i*C),())⟩:=by
 refine qai ?_
 simp only[run_Z9,Z9.ev]
 have h1:i*C≤(i+1)*C:=Nat.mul_le_mul_right _ (by omega)
 have e1:w64 ((i:Int)*(C:Int))=((i*C:Nat):Int):=by rw[qaY];exact qag (by omega) (by omega)
 have e2:w64 ((i:Int)+1)=((i+1:Nat):Int):=qad (by omega)
 have e3:w64 (((i+1:Nat):Int)*(C:Int))=(((i+1)*C:Nat):Int):=by rw[qaY];exact qag (by omega) (by omega)
 simp only[e1,e2,e3,Int.toNat_natCast]
 exact qao (by simp only[Bool.and_eq_true,decide_eq_true_eq];omega) qal
theorem qjb(s:Sim)(hs:s.length≤1048576):Ret E n_Z96 [dL s] ⟨o_Z96,(s,())⟩:=by
 refine qai ?_
 simp only[run_Z96,Z96.ev,Z96.j0_eq _ qae,cond_true,cond_false]
 have h:Ev fun φ=>(Option.bind (chk (decide ((List.length ([]:List Int)+List.length s)*8≤70368744177664))) fun _=>some (⟨o_Z96,((([]:List Int)++s),())⟩:Dv))=some ⟨o_Z96,(s,())⟩ :=
  qao (by simp;omega) (qah rfl)
 cases s with
 | nil=>exact qax rfl (qbL qal h)
 | cons a s=>exact qaC rfl h
theorem qiP(m:Mat)(C:Nat)(i j:Nat)(hC:m.2.2.1=(C:Int))(h:j*C+i<m.2.2.2.1.length)(hl:m.2.2.2.1.length≤1048576):Ret E n_Z80 [dI (i:Int),dI (j:Int),dM m] ⟨o_Z80,(m.2.2.2.1.getD (j*C+i) 0,())⟩:=by
 rw[qac h]
 refine qai ?_
 simp only[run_Z80,Z80.ev]
 rw[hC]
 exact qaa (qjZ _ _ C _ j i h hl) qal
theorem qoG(a b:Sim)(p:Int)(hp:2≤p∧p≤251)(ha:a.length≤32)(hb:a.length≤b.length)(ea:∀ x∈a,0≤x∧x≤250)(eb:∀ x∈b,0≤x∧x≤250) :
  Ret E n_Z36 [dL a,dL b,dI p] ⟨o_Z36,(qaI (fun l=>a.getD l 0) (fun l=>b.getD l 0) a.length%p,())⟩:=by
 refine qai ?_
 simp only[run_Z36,Z36.ev]
 refine Ev.start (p:=fun φ n=>Z36.l0 (mkR (run E (φ 0))) (φ 0) n a b p 0 (a.length:Int) 0=_) 1 ?_ (fun _ _ _ h=>h)
 have:=qam 1 (L:=fun φ n k s=>Z36.l0 (mkR (run E (φ 0))) (φ 0) n a b p s (a.length:Int) k) (len:=a.length) (fun k=>qaI (fun l=>a.getD l 0) (fun l=>b.getD l 0) k%p) (r:=some ⟨o_Z36,(qaI (fun l=>a.getD l 0) (fun l=>b.getD l 0) a.length%p,())⟩) (fun _ _ _ _ _=>rfl) (fun k r hk ih=>?_) ?_
 ·simpa [qaI] using this
 ·simp only[Z36.l0_succ _ qae]
  have hkb:k<b.length:=by omega
  have hm:=qeq (ea _ (List.getElem_mem hk)) (eb _ (List.getElem_mem hkb))
  have h0:=Int.emod_nonneg (qaI (fun l=>a.getD l 0) (fun l=>b.getD l 0) k) (show p≠0 by omega)
  have h1:=Int.emod_lt_of_pos (qaI (fun l=>a.getD l 0) (fun l=>b.getD l 0) k) (show 0<p by omega)
  refine qax (decide_eq_true (by omega)) (qab (qaj hk) (qab (qaj hkb) (qao (by simp;omega) ?_)))
  rw[qag (n:=a[k]*b[k]) (by omega) (by omega),qag (by omega) (by omega),Int.tmod_eq_emod_of_nonneg (by omega),Int.emod_add_emod,qad (by omega)]
  simp only[qaI] at ih
  rw[qac hk,qac hkb] at ih
  exact ih
 ·simp only[Z36.l0_succ _ qae]
  exact qaC (decide_eq_false (by omega)) qal
theorem qnT(p:Int)(R C:Nat)(cells:Sim)(hl:cells.length=R*C)(hR:R≤32)(hC:C≤32):Ret E n_Z73 [dI p,dI (R:Int),dI (C:Int),dL cells] ⟨o_Z73,((List.range R).map fun i=>(cells.take ((i+1)*C)).drop (i*C),())⟩:=by
 have h1024:=qcs hR hC
 refine qai ?_
 simp only[run_Z73,Z73.ev]
 refine Ev.start (p:=fun φ n=>Z73.l0 (mkR (run E (φ 0))) (φ 0) n (R:Int) 0 p (R:Int) (C:Int) cells []=_) 1 ?_ (fun _ _ _ h=>h)
 refine qam 1 (L:=fun φ n k a=>Z73.l0 (mkR (run E (φ 0))) (φ 0) n (R:Int) k p (R:Int) (C:Int) cells a) (len:=R) (fun k=>(List.range k).map fun i=>(cells.take ((i+1)*C)).drop (i*C)) (fun _ _ _ _ _=>rfl) (fun k r hk ih=>?_) ?_
 ·simp only[Z73.l0_succ _ qae]
  have hle:(k+1)*C≤R*C:=Nat.mul_le_mul_right _ hk
  rw[List.range_succ,List.map_append] at ih
  refine qax (decide_eq_true (by omega)) (qaa (qd9 p _ C cells k (by omega) (by omega) (by omega)) (qaa (qjb _ (by simp;omega)) (qao (by simp;omega) ?_)))
  rw[qad (by omega)];exact ih
 ·simp only[Z73.l0_succ _ qae]
  exact qaC (decide_eq_false (by omega)) qal
end VeT
open Go Go.Proofs Ve
namespace VeT
theorem qaD.get{v:Sim}{p:Int}(h:qaD v p)(hp:2≤p∧p≤251)(i:Nat):0≤v.getD i 0∧v.getD i 0≤250:=by
 by_cases hi:i<v.length
 ·rw[qac hi]
  have:=h _ (List.getElem_mem hi)
  omega
 ·rw[List.getD_eq_getElem?_getD,List.getElem?_eq_none (by omega)];simp
theorem qaD.mem{v:Sim}{p:Int}(h:qaD v p)(hp:2≤p∧p≤251):∀ x∈v,0≤x∧x≤250:=fun x hx=>by
 have:=h x hx;omega
def qiF(p:Int)(ca cb:Sim)(K C i j:Nat):Int:=qaI (fun l=>ca.getD (i*K+l) 0) (fun l=>cb.getD (l*C+j) 0) K%p
def qdH(a b:Mat):Mat:=(a.1,a.2.1,b.2.2.1,qas (qiF a.1 a.2.2.2.1 b.2.2.2.1 a.2.2.1.toNat b.2.2.1.toNat) b.2.2.1.toNat a.2.1.toNat,())
def qct(K C:Nat)(cb:Sim):List Sim:=(List.range C).map fun i=>(List.range K).map fun j=>cb.getD (j*C+i) 0
theorem qkD(q:Int)(K C:Nat)(cb:Sim)(hl:cb.length=K*C)(hK:K≤32)(hC:C≤32):Ret E n_Z79 [dI q,dI (K:Int),dI (C:Int),dL cb] ⟨o_Z79,(q,(C:Int),(K:Int),qas (fun i j=>cb.getD (j*C+i) 0) K C,())⟩:=by
 have h1:=qcs hK hC
 have h2:=qcs hC hK
 refine qai ?_
 simp only[run_Z79,Z79.ev]
 refine qaa (qc8 q C K ((q,(K:Int),(C:Int),cb,()),()) (fun i j=>cb.getD (j*C+i) 0) (by omega) (by omega) (by omega) fun i j hi hj=>?_) qal
 exact qiP (q,(K:Int),(C:Int),cb,()) C i j rfl (by show _<cb.length;rw[hl];exact qeY hj hi) (by show cb.length≤_;omega)
theorem qkf(q:Int)(K C:Nat)(cb:Sim)(hl:cb.length=K*C)(hK:K≤32)(hC:C≤32):Ret E n_Z31 [dI q,dI (K:Int),dI (C:Int),dL cb] ⟨o_Z31,(qct K C cb,())⟩:=by
 refine qai ?_
 simp only[run_Z31,Z31.ev]
 refine qaa (qkD q K C cb hl hK hC) (qaa (qnT q C K _ qar hC hK) (qah ?_))
 have:((List.range C).map fun i=>((qas (fun i j=>cb.getD (j*C+i) 0) K C).take ((i+1)*K)).drop (i*K))=qct K C cb :=
  List.map_congr_left fun i hi=>qle (List.mem_range.1 hi)
 rw[this]
theorem qoR{K C:Nat}{cb:Sim}{q:Int}(hb:qaD cb q)(hq:2≤q∧q≤251){j:Nat}(hj:j<(qct K C cb).length):∀ x∈(qct K C cb)[j],0≤x∧x≤250:=by
 intro x hx
 have hm:=List.getElem_mem hj
 generalize (qct K C cb)[j]=y at hm hx
 unfold qct at hm
 rw[List.mem_map] at hm
 obtain⟨i,_,rfl⟩:=hm
 rw[List.mem_map] at hx
 obtain⟨l,_,rfl⟩:=hx
 exact hb.get hq _
theorem qkK(p:Int)(R K C:Nat)(ca cb:Sim)(i j:Nat)(hi:i<R)(hj:j<C)(hp:2≤p∧p≤251)(hla:ca.length=R*K)(hR:R≤32)(hK:K≤32)(ea:qaD ca p){q:Int}(hq:2≤q∧q≤251)(eb:qaD cb q) :
  Ret E n_Z69 [dI (i:Int),dI (j:Int),dM (p,(R:Int),(K:Int),ca,()),⟨.ptr yC,(qct K C cb,())⟩] ⟨o_Z69,(qiF p ca cb K C i j,())⟩:=by
 have h1:=qcs hR hK
 have hle:(i+1)*K≤R*K:=Nat.mul_le_mul_right _ hi
 have hjl:j<(qct K C cb).length:=by simp[qct,hj]
 have hcl:((qct K C cb)[j]).length=K:=by simp[qct]
 have hrl:((ca.take ((i+1)*K)).drop (i*K)).length=K:=by
  rw[List.length_drop,List.length_take,Nat.min_eq_left (by omega),Nat.add_mul];omega
 refine qai ?_
 simp only[run_Z69,Z69.ev]
 refine qab (qaj hjl) (qaa (qd9 p _ K ca i (by omega) (by omega) (by omega)) (qaa (qoG ((ca.take ((i+1)*K)).drop (i*K)) ((qct K C cb)[j]) p hp (by omega) (by omega) (fun x hx=>ea.mem hp x (List.mem_of_mem_take (List.mem_of_mem_drop hx))) (qoR eb hq hjl)) (qah ?_)))
 rw[hrl]
 have:qaI (fun l=>((ca.take ((i+1)*K)).drop (i*K)).getD l 0) (fun l=>((qct K C cb)[j]).getD l 0) K=qaI (fun l=>ca.getD (i*K+l) 0) (fun l=>cb.getD (l*C+j) 0) K:=qaE fun l hl=>⟨by
  rw[List.getD_eq_getElem?_getD,List.getD_eq_getElem?_getD,List.getElem?_drop,List.getElem?_take_of_lt (by rw[Nat.add_mul];omega)],by
  simp[qct,List.getD_eq_getElem?_getD,hl]⟩
 rw[this];rfl
theorem VM.nat{m:Mat}(h:VM m):∃ R K:Nat,m=(m.1,(R:Int),(K:Int),m.2.2.2.1,())∧R≤32∧K≤32∧m.2.2.2.1.length=R*K:=by
 obtain⟨p,r,k,c,⟨⟩⟩:=m
 obtain⟨_,h2,h3,h4,_⟩:=h
 simp only at h2 h3 h4
 obtain⟨R,rfl⟩:=Int.eq_ofNat_of_zero_le h2.1
 obtain⟨K,rfl⟩:=Int.eq_ofNat_of_zero_le h3.1
 refine⟨R,K,rfl,by omega,by omega,?_⟩
 rw[qaY] at h4;simp only;omega
theorem qiC(a b:Mat)(ha:VM a)(hb:VM b)(hab:a.2.2.1=b.2.1):Ret E n_Z68 [dI a.1,dI a.2.1,dI a.2.2.1,dL a.2.2.2.1,dI b.1,dI b.2.1,dI b.2.2.1,dL b.2.2.2.1] ⟨o_Z68,qdH a b⟩:=by
  obtain⟨R,K,ea,hR,hK,hla⟩:=ha.nat
  obtain⟨K',C,eb,hK',hC,hlb⟩:=hb.nat
  have pa:2≤a.1∧a.1≤251:=⟨ha.1.1,ha.1.2.1⟩
  have pb':2≤b.1∧b.1≤251:=⟨hb.1.1,hb.1.2.1⟩
  have ela:=ha.2.2.2.2
  have elb:=hb.2.2.2.2
  rw[ea,eb] at hab
  obtain rfl : K = K' := by have hab : (K : Int) = (K' : Int) := hab
                            omega
  rw[ea,eb]
  simp only
  refine qai ?_
  simp only[run_Z68,Z68.ev]
  have hRC:=qcs hR hC
  refine qaa (qkf _ K C _ hlb hK hC) (qaa (qdF a.1 R C ((a.1,(R:Int),(K:Int),a.2.2.2.1,()),(qct K C b.2.2.2.1,()),()) (qiF a.1 a.2.2.2.1 b.2.2.2.1 K C) (by omega) (by omega) (by omega) fun i j hi hj=>?_) (qah ?_))
  · exact qkK a.1 R K C _ _ i j hi hj pa hla hR hK ela pb' elb
  · simp only[qdH,Int.toNat_natCast]
theorem qb5(p:Int)(R C:Nat)(hR:R≤32)(hC:C≤32):Ret E n_Z158 [dI p,dI (R:Int),dI (C:Int)] ⟨o_Z158,(p,(R:Int),(C:Int),List.replicate (R*C) 0,())⟩:=by
 have h1:=qcs hR hC
 have e1:w64 ((R:Int)*(C:Int))=((R*C:Nat):Int):=by rw[qaY];exact qag (by omega) (by omega)
 refine qai ?_
 simp only[run_Z158,Z158.ev,e1,Int.toNat_natCast]
 exact qao (by simp only[Bool.and_eq_true,decide_eq_true_eq];omega) qal
theorem qhh(a b:Mat)(ha:VM a)(hb:VM b)(hab:a.2.2.1=b.2.1):Ret E n_Z156 [dM a,dM b] ⟨o_Z156,qdH a b⟩:=by
  obtain⟨R,K,ea,hR,hK,hla⟩:=ha.nat
  obtain⟨K',C,eb,hK',hC,hlb⟩:=hb.nat
  have pa:2≤a.1∧a.1≤251:=⟨ha.1.1,ha.1.2.1⟩
  have pb':2≤b.1∧b.1≤251:=⟨hb.1.1,hb.1.2.1⟩
  have ela:=ha.2.2.2.2
  have elb:=hb.2.2.2.2
  rw[ea,eb] at hab
  obtain rfl : K = K' := by have hab : (K : Int) = (K' : Int) := hab
                            omega
  obtain⟨p,r,k,ca,⟨⟩⟩:=a
  obtain⟨q,k',c,cb,⟨⟩⟩:=b
  simp only[Prod.mk.injEq,true_and,and_true] at ea eb pa pb' ela elb hla hlb
  obtain⟨rfl,rfl⟩:=ea
  obtain⟨rfl,rfl⟩:=eb
  have hRC:=qcs hR hC
  have hRK:=qcs hR hK
  have hKC:=qcs hK hC
  have hM:qdH (p,(R:Int),(K:Int),ca,()) (q,(K:Int),(C:Int),cb,())=(p,(R:Int),(C:Int),qas (qiF p ca cb K C) C R,()):=by simp[qdH]
  rw[hM]
  refine qai ?_
  simp only[run_Z156,Z156.ev,Z156.j0_eq _ qae]
  suffices h:Ev fun φ=>Z156.l1 (mkR (run E (φ 0))) (φ 0) (φ 0) (p,(R:Int),(K:Int),ca,()) (q,(K:Int),(C:Int),cb,()) 0 0 0 0 p (R:Int) (C:Int) (List.replicate (R*C) 0)=some ⟨o_Z156,(p,(R:Int),(C:Int),qas (qiF p ca cb K C) C R,())⟩ by
    exact qbL (qaa (qb5 p R C hR hC) h) (qaa (qb5 p R C hR hC) h)
  refine Ev.start (p:=fun φ n=>Z156.l1 (mkR (run E (φ 0))) (φ 0) n (p,(R:Int),(K:Int),ca,()) (q,(K:Int),(C:Int),cb,()) 0 0 0 0 p (R:Int) (C:Int) (List.replicate (R*C) 0)=_) 1 ?_ (fun _ _ _ h=>h)
  have:=qam 1 (L:=fun φ n i o=>Z156.l1 (mkR (run E (φ 0))) (φ 0) n (p,(R:Int),(K:Int),ca,()) (q,(K:Int),(C:Int),cb,()) i 0 0 0 p (R:Int) (C:Int) o) (len:=R) (fun i=>qas (qiF p ca cb K C) C i++List.replicate ((R-i)*C) 0) (r:=some ⟨o_Z156,(p,(R:Int),(C:Int),qas (qiF p ca cb K C) C R,())⟩) (fun _ _ _ _ _=>rfl) (fun i r hi ih=>?_) ?_
  · simpa [qas] using this
  · simp only[Z156.l1_succ _ qae]
    refine qax (decide_eq_true (by omega)) ?_
    refine Ev.start (p:=fun φ n=>Z156.l2 (mkR (run E (φ 0))) (φ 0) (φ 1) n (p,(R:Int),(K:Int),ca,()) (q,(K:Int),(C:Int),cb,()) (i:Int) 0 0 0 0 p (R:Int) (C:Int) (qas (qiF p ca cb K C) C i++List.replicate ((R-i)*C) 0)=_) 2 ?_ (fun _ _ _ h=>h)
    have hRi:(R-i)*C=(R-(i+1))*C+C:=by
      rw[show R-i=(R-(i+1))+1 by omega,Nat.add_mul];omega
    have hiC:(i+1)*C≤R*C:=Nat.mul_le_mul_right _ hi
    have hiK:(i+1)*K≤R*K:=Nat.mul_le_mul_right _ hi
    rw[Nat.add_mul] at hiC hiK
    have:=qam 2 (L:=fun φ n j o=>Z156.l2 (mkR (run E (φ 0))) (φ 0) (φ 1) n (p,(R:Int),(K:Int),ca,()) (q,(K:Int),(C:Int),cb,()) (i:Int) j 0 0 0 p (R:Int) (C:Int) o) (len:=C) (fun j=>(qas (qiF p ca cb K C) C i++(List.range j).map (qiF p ca cb K C i))++List.replicate ((R-i)*C-j) 0) (r:=r) (fun _ _ _ _ _=>rfl) (fun j r hj ih=>?_) ?_
    · simpa using this
    · simp only[Z156.l2_succ _ qae]
      refine qax (decide_eq_true (by omega)) ?_
      have hpl:(qas (qiF p ca cb K C) C i++(List.range j).map (qiF p ca cb K C i)).length=i*C+j:=by simp[qar]
      have hsp:(R-i)*C-j=((R-i)*C-(j+1))+1:=by omega
      generalize hO:(qas (qiF p ca cb K C) C i++(List.range j).map (qiF p ca cb K C i))++List.replicate ((R-i)*C-j) 0=O
      have hOl:O.length=R*C:=by
        rw[← hO,List.length_append,hpl,List.length_replicate,hRi]
        have:R*C=(R-(i+1))*C+(i*C+C):=by
          have e:R=(R-(i+1))+(i+1):=by omega
          have:=congrArg (·*C) e
          simp only[Nat.add_mul,Nat.one_mul] at this ⊢;omega
        omega
      refine Ev.start (p:=fun φ n=>Z156.l3 (mkR (run E (φ 0))) (φ 0) (φ 1) (φ 2) n (p,(R:Int),(K:Int),ca,()) (q,(K:Int),(C:Int),cb,()) (i:Int) (j:Int) 0 0 0 0 0 p (R:Int) (C:Int) O=_) 3 ?_ (fun _ _ _ h=>h)
      refine qam 3 (L:=fun φ n l s=>Z156.l3 (mkR (run E (φ 0))) (φ 0) (φ 1) (φ 2) n (p,(R:Int),(K:Int),ca,()) (q,(K:Int),(C:Int),cb,()) (i:Int) (j:Int) s l 0 0 0 p (R:Int) (C:Int) O) (len:=K) (fun l=>qaI (fun l=>ca.getD (i*K+l) 0) (fun l=>cb.getD (l*C+j) 0) l) (fun _ _ _ _ _=>rfl) (fun l r hl ih=>?_) ?_
      · simp only[Z156.l3_succ _ qae]
        have b1:=qiW (f:=fun l=>ca.getD (i*K+l) 0) (g:=fun l=>cb.getD (l*C+j) 0) (n:=l) fun l _=>⟨ela.get pa _,elb.get pb' _⟩
        have b2:=qeq (ela.get pa (i*K+l)) (elb.get pb' (l*C+j))
        have hlC:(l+1)*C≤K*C:=Nat.mul_le_mul_right _ hl
        rw[Nat.add_mul] at hlC
        have e1:w64 (w64 ((i:Int)*(K:Int))+(l:Int))=((i*K+l:Nat):Int):=by
          rw[qaY,qag (n:=((i*K:Nat):Int)) (by omega) (by omega),qag (by omega) (by omega)];omega
        have e2:w64 (w64 ((l:Int)*(C:Int))+(j:Int))=((l*C+j:Nat):Int):=by
          rw[qaY,qag (n:=((l*C:Nat):Int)) (by omega) (by omega),qag (by omega) (by omega)];omega
        simp only[e1,e2]
        have i1:i*K+l<ca.length:=by omega
        have i2:l*C+j<cb.length:=by omega
        refine qax (decide_eq_true (by omega)) (qab (qaj i1) (qab (qaj i2) ?_))
        simp only[qaI] at ih
        rw[qac i1,qac i2] at ih b2
        rw[qag (n:=ca[i*K+l]*cb[l*C+j]) (by omega) (by omega),qag (by omega) (by omega),qad (by omega)]
        exact ih
      · simp only[Z156.l3_succ _ qae]
        have b1:=qiW (f:=fun l=>ca.getD (i*K+l) 0) (g:=fun l=>cb.getD (l*C+j) 0) (n:=K) fun l _=>⟨ela.get pa _,elb.get pb' _⟩
        have e1:w64 (w64 ((i:Int)*(C:Int))+(j:Int))=((i*C+j:Nat):Int):=by
          rw[qaY,qag (n:=((i*C:Nat):Int)) (by omega) (by omega),qag (by omega) (by omega)];omega
        simp only[e1,Int.toNat_natCast]
        refine qaC (decide_eq_false (by omega)) (qao (by simp;omega) (qao (by simp only[Bool.and_eq_true,decide_eq_true_eq];omega) ?_))
        rw[Int.tmod_eq_emod_of_nonneg (by omega),qad (by omega),← hO,hsp,← hpl,qrK]
        rw[List.range_succ,List.map_append,← List.append_assoc] at ih
        exact ih
    · simp only[Z156.l2_succ _ qae]
      refine qaC (decide_eq_false (by omega)) ?_
      rw[qad (by omega),hRi,Nat.add_sub_cancel]
      exact ih
  · simp only[Z156.l1_succ _ qae]
    refine qaC (decide_eq_false (by omega)) (qah ?_)
    simp
end VeT
