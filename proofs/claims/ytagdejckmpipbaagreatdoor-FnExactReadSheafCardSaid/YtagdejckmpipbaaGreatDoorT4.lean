import Derived.Test.YtagdejckmpipbaaGreatDoorT3
import Derived.Test.YtagdejckmpipbaaGreatDoorV2
import Derived.Shelf.Strings.OnBuilder
import Derived.Shelf.Strconv.Itoa4
import Derived.Ground.NamesProg
import Derived.WideLaws
import Derived.Shelf.Strconv.ErrVarParseInt
import Derived.Shelf.Strings.Prefix
import Derived.Lib.ParseIntBTie
import Derived.Shelf.Strings.SplitShaped
import Derived.Lib.SplitLaws
import Derived.Lib.LaidTab
import Derived.Shelf.SlSortCmp.Whole1
import Derived.Shelf.SlSortCmp.NoneTotal
import Derived.Ground.SlsfProg
import Derived.Test.YtagdejckmpipbaaGreatDoorProg
import Derived.KernelRfl
import Derived.WalkKit
import Derived.Lib.Walk
import Derived.Lib.SliceRun
import Derived.Lib.AppendZerosOnto
set_option linter.unusedVariables false
set_option linter.unusedSimpArgs false
open Go Go.Proofs Ve
set_option maxRecDepth 100000
namespace VeT
noncomputable section
abbrev q1_0(R:Run)(N:Nat):=kS R pol_Z88 7 N [1,1] F_Z88
abbrev q1_1(R:Run)(N:Nat):=lC R pol_Z88 2 N [1,0,1,0,0] F_Z88
abbrev q1_2(R:Run):=kB R pol_Z88 0
theorem Z29.ev(R:Run)(N:Nat)(a0 a1:List Int):qpj E R sg_Z29 pol_Z29 F_Z29 N [⟨yL,a0⟩,⟨yL,a1⟩]=((qdy R n_Z0 o_Z0 [⟨yI,(List.length a0:Int)⟩,⟨yI,(List.length a1:Int)⟩]).bind fun r1=>((qdy R n_Z71 o_Z71 [⟨yL,a0⟩,⟨yL,a1⟩]).bind fun r2=>((qdy R n_Z2 o_Z2 [⟨yL,[r1.1,r2.1]⟩]).bind fun r3=>some ⟨o_Z29,(r3.1,())⟩))):=by kernel_rfl
def Z83.l0(R:Run)(N n:Nat)(a b:List Int)(e f:Int):Option Dv:=R.w (some ⟨(.c (.d yL a)::(.c (.d yL b)::(zd 10 (.c (.d yI e)::(.c (.d yI f)::(zd 12 [])))))),(zo 28 [])⟩) fun st=>lC R pol_Z83 4 N [1,1,0,1,0,0] F_Z83 n st (kB R pol_Z83 0 (kS R pol_Z83 9 N [1,1,1] F_Z83 (qpH E sg_Z83 F_Z83)))
theorem Z83.l0_succ(R:Run)(hw:R.ok)(N n:Nat)(a b:List Int)(c d:Int):Z83.l0 R N (n+1) a b c d=(bif (decide (d<c)) then((idx? a d).bind fun y5=>((idx? b d).bind fun y6=>(bif ((y5,()).1 != (y6,()).1) then some ⟨o_Z83,(false,())⟩ else(Z83.l0 R N n a b c (w64 (d+1)))))) else some ⟨o_Z83,(true,())⟩):=(hw _ _).trans (by kernel_rfl)
theorem Z83.ev(R:Run)(N:Nat)(a0 a1:List Int):qpj E R sg_Z83 pol_Z83 F_Z83 N [⟨yL,a0⟩,⟨yL,a1⟩]=(bif ((List.length a0:Int) != (List.length a1:Int)) then some ⟨o_Z83,(false,())⟩ else(Z83.l0 R N N a0 a1 (List.length a0:Int) (0:Int))):=by kernel_rfl
theorem Z34.ev(R:Run)(N:Nat)(a0:vK):qpj E R sg_Z34 pol_Z34 F_Z34 N [⟨yK,a0⟩]=((qdy R n_Z30 o_Z30 [⟨yK,a0⟩]).bind fun r1=>((qdy R n_Z95 o_Z95 [⟨yK,r1.1⟩,⟨(.fn n_Z29 .nil),()⟩]).bind fun r2=>((qdy R n_Z70 o_Z70 [⟨yK,r2.1⟩,⟨(.fn n_Z83 .nil),()⟩]).bind fun r3=>some ⟨o_Z34,(r3.1,())⟩))):=by kernel_rfl
def Z28.l0(R:Run)(N n:Nat)(a:Int)(b:vK):Option Dv:=R.w (some ⟨(V.dead::(V.dead::(.c (.box 2 0)::(.c (.arr 24)::(.c (.d yI a)::(zd 17 [])))))),(none::(none::(some (.box [.nils yL] false false)::(zo 21 (some (.arr yL b false false false)::(none::[]))))))⟩) fun st=>lC R pol_Z28 3 N [1,1,0,1,0,0] F_Z28 n st (kB R pol_Z28 0 (kS R pol_Z28 6 N [1,1,1] F_Z28 (qpH E sg_Z28 F_Z28)))
theorem Z28.l0_succ(R:Run)(hw:R.ok)(N n:Nat)(a:Int)(b:vK):Z28.l0 R N (n+1) a b=(bif (decide (a<(List.length b:Int))) then((chk (decide (0≤a)&&decide (a<(List.length b:Int)))).bind fun _=>(Option.bind (b)[(Int.toNat a)]? fun y4=>((qdy R n_Z32 o_Z32 [⟨yL,y4⟩]).bind fun r5=>((chk (decide ((List.length b+List.length r5.1)*24≤70368744177664))).bind fun _=>(Z28.l0 R N n (w64 (a+1)) (b++r5.1)))))) else((qdy R n_Z34 o_Z34 [⟨yK,b⟩]).bind fun r8=>some ⟨o_Z28,(r8.1,())⟩)):=(hw _ _).trans (by kernel_rfl)
theorem Z28.ev(R:Run)(N:Nat)(a0:vK):qpj E R sg_Z28 pol_Z28 F_Z28 N [⟨yK,a0⟩]=((qdy R n_Z30 o_Z30 [⟨yK,a0⟩]).bind fun r1=>(Z28.l0 R N N (0:Int) r1.1)):=by kernel_rfl
theorem Z5.ev(R:Run)(N:Nat)(a0:vK):qpj E R sg_Z5 pol_Z5 F_Z5 N [⟨yK,a0⟩]=((qdy R n_Z73 o_Z73 [⟨yK,a0⟩,⟨(.fn n_Z6 .nil),()⟩]).bind fun r1=>(bif r1.1 then some ⟨o_Z5,(([]:List (List Int)),(1:Int),())⟩ else(bif (decide ((List.length a0:Int)>(48:Int))) then some ⟨o_Z5,(([]:List (List Int)),(5:Int),())⟩ else((qdy R n_Z28 o_Z28 [⟨yK,a0⟩]).bind fun r2=>(bif (decide ((List.length r2.1:Int)>(48:Int))) then some ⟨o_Z5,(([]:List (List Int)),(5:Int),())⟩ else some ⟨o_Z5,(r2.1,(0:Int),())⟩))))):=by kernel_rfl
def Z68.l0(R:Run)(N n:Nat)(a:vK)(b:List Int)(e f g:Int):Option Dv:=R.w (some ⟨(.c (.d yK a)::(.c (.d yL b)::(.c (.d (.fn n_Z29 .nil) ())::(zd 5 (.c (.d yI e)::(.c (.d yI f)::(.c (.d yI g)::(zd 38 [])))))))),(zo 52 [])⟩) fun st=>lC R pol_Z67 3 N [1,1,1,0,0,0] F_Z67 n st (kB R pol_Z67 0 (kS R pol_Z67 8 N [1,1,1,1] F_Z67 (qpH E sg_Z67 F_Z67)))
theorem Z68.l0_succ(R:Run)(hw:R.ok)(N n:Nat)(a:vK)(b:List Int)(c d e:Int):Z68.l0 R N (n+1) a b c d e=(bif (decide (d<e)) then((chk (decide (0≤(1:Int)))).bind fun _=>((idx? a (w64 ((Int.fdiv (IntKind.wrap .u64 ((w64 (d+e)))) (2 ^ (min (Int.toNat (1:Int)) (IntKind.bits .u64))))))).bind fun y6=>((qdy R n_Z29 o_Z29 [⟨yL,(y6,()).1⟩,⟨yL,b⟩]).bind fun r7=>(bif (decide (r7.1<(0:Int))) then(Z68.l0 R N n a b c (w64 ((w64 ((Int.fdiv (IntKind.wrap .u64 ((w64 (d+e)))) (2 ^ (min (Int.toNat (1:Int)) (IntKind.bits .u64))))))+(1:Int))) e) else(Z68.l0 R N n a b c d (w64 ((Int.fdiv (IntKind.wrap .u64 ((w64 (d+e)))) (2 ^ (min (Int.toNat (1:Int)) (IntKind.bits .u64))))))))))) else(bif (decide (d<c)) then((idx? a d).bind fun y18=>((qdy R n_Z29 o_Z29 [⟨yL,(y18,()).1⟩,⟨yL,b⟩]).bind fun r19=>some ⟨o_Z67,(d,(r19.1==(0:Int)),())⟩)) else some ⟨o_Z67,(d,false,())⟩)):=(hw _ _).trans (by kernel_rfl)
theorem Z68.ev(R:Run)(N:Nat)(a0:vK)(a1:List Int):qpj E R sg_Z67 pol_Z67 F_Z67 N [⟨yK,a0⟩,⟨yL,a1⟩,⟨(.fn n_Z29 .nil),()⟩]=(Z68.l0 R N N a0 a1 (List.length a0:Int) (0:Int) (List.length a0:Int)):=by kernel_rfl
theorem Z35.ev(R:Run)(N:Nat)(a0:vK)(a1:List Int):qpj E R sg_Z35 pol_Z35 F_Z35 N [⟨yK,a0⟩,⟨yL,a1⟩]=((qdy R n_Z67 o_Z67 [⟨yK,a0⟩,⟨yL,a1⟩,⟨(.fn n_Z29 .nil),()⟩]).bind fun r1=>(bif (!r1.2.1) then some ⟨o_Z35,((-1:Int),())⟩ else some ⟨o_Z35,(r1.1,())⟩)):=by kernel_rfl
theorem Z17.ev(R:Run)(N:Nat)(a0:List Int)(a1:(vK×Unit))(a2:(Int×Unit)):qpj E R sg_Z17 pol_Z17 F_Z17 N [⟨yL,a0⟩,⟨(.ptr yC),a1⟩,⟨(.ptr (.cons yI .nil)),a2⟩]=((chk (decide (0≤a2.1)&&decide (a2.1≤(List.length a1.1:Int)))).bind fun _=>((qdy R n_Z35 o_Z35 [⟨yK,(List.take (Int.toNat a2.1) a1.1)⟩,⟨yL,a0⟩]).bind fun r1=>some ⟨o_Z17,((decide (r1.1<(0:Int))),())⟩)):=by kernel_rfl
def Z87.l0(R:Run)(N n:Nat)(a:vK)(b:((vK×Unit)×(Int×Unit)×Unit))(e f:Int):Option Dv:=R.w (some ⟨(.c (.d yK a)::(.c (.d (.fn n_Z17 (.cons (.ptr yC) (.cons (.ptr (.cons yI .nil)) .nil))) b)::(zd 5 (.c (.d yI e)::(.c (.d yI f)::(zd 10 [])))))),(zo 21 [])⟩) fun st=>lC R pol_Z85 2 N [1,0,1,0,0] F_Z85 n st (kB R pol_Z85 0 (kS R pol_Z85 7 N [1,1] F_Z85 (qpH E sg_Z85 F_Z85)))
theorem Z87.l0_succ(R:Run)(hw:R.ok)(N n:Nat)(a:vK)(b:((vK×Unit)×(Int×Unit)×Unit))(c d:Int):Z87.l0 R N (n+1) a b c d=(bif (decide (d<c)) then((idx? a d).bind fun y5=>((qdy R n_Z17 o_Z17 [⟨yL,(y5,()).1⟩,⟨(.ptr yC),b.1⟩,⟨(.ptr (.cons yI .nil)),b.2.1⟩]).bind fun r6=>(bif r6.1 then some ⟨o_Z85,(d,())⟩ else(Z87.l0 R N n a b c (w64 (d+1)))))) else some ⟨o_Z85,((-1:Int),())⟩):=(hw _ _).trans (by kernel_rfl)
theorem Z87.ev(R:Run)(N:Nat)(a0:vK)(a1:((vK×Unit)×(Int×Unit)×Unit)):qpj E R sg_Z85 pol_Z85 F_Z85 N [⟨yK,a0⟩,⟨(.fn n_Z17 (.cons (.ptr yC) (.cons (.ptr (.cons yI .nil)) .nil))),a1⟩]=(Z87.l0 R N N a0 a1 (List.length a0:Int) (0:Int)):=by kernel_rfl
theorem Z75.ev(R:Run)(N:Nat)(a0:vK)(a1:((vK×Unit)×(Int×Unit)×Unit)):qpj E R sg_Z73 pol_Z73 F_Z73 N [⟨yK,a0⟩,⟨(.fn n_Z17 (.cons (.ptr yC) (.cons (.ptr (.cons yI .nil)) .nil))),a1⟩]=((qdy R n_Z85 o_Z85 [⟨yK,a0⟩,⟨(.fn n_Z17 (.cons (.ptr yC) (.cons (.ptr (.cons yI .nil)) .nil))),a1⟩]).bind fun r1=>some ⟨o_Z73,((decide (r1.1≥(0:Int))),())⟩):=by kernel_rfl
def Z16.j1(R:Run)(N a:Nat)(b:List Int)(e:vK)(f g:Int)(h:Bool)(i:vK)(j:Int):Option Dv:=R.w (some ⟨(V.dead::(.c (.box 1 0)::(V.dead::(.c (.box 3 0)::(.c (.d yL b)::(V.dead::(.c (.d yK e)::(.c (.d yI f)::(.c (.d yI g)::(zd 21 (.c (.d .bool h)::(zd 9 [])))))))))))),(none::(some (.box [.d yK i] true false)::(none::(some (.box [.d yI j] false false)::(zo 37 [])))))⟩) fun st=>eC R pol_Z16 N [1,0,1,0,0,1,1,0,0,1,0,1] F_Z16 st (kS R pol_Z16 6 N [1,0,1,0,0,1,1,0,0,1,1] F_Z16 (kB R pol_Z16 1 (kS R pol_Z16 8 N [1,0,1,0,0,1,1,1] F_Z16 (kL R pol_Z16 2 N [1,0,1,0,0] F_Z16 a (kB R pol_Z16 0 (kS R pol_Z16 9 N [1,1] F_Z16 (qpH E sg_Z16 F_Z16)))))))
def Z16.l0(R:Run)(N n:Nat)(a:vK)(b e:Int)(f:vK):Option Dv:=R.w (some ⟨(V.dead::(.c (.box 1 0)::(zd 4 (.c (.d yK a)::(.c (.d yI b)::(.c (.d yI e)::(zd 31 []))))))),(none::(some (.box [.d yK f] true false)::(zo 39 [])))⟩) fun st=>lC R pol_Z16 2 N [1,0,1,0,0] F_Z16 n st (kB R pol_Z16 0 (kS R pol_Z16 9 N [1,1] F_Z16 (qpH E sg_Z16 F_Z16)))
theorem Z16.j1_eq(R:Run)(hw:R.ok)(N a:Nat)(b:List Int)(c:vK)(d e:Int)(f:Bool)(g:vK)(h:Int):Z16.j1 R N a b c d e f g h=(bif f then some ⟨o_Z16,(false,())⟩ else((qdy R n_Z32 o_Z32 [⟨yL,b⟩]).bind fun r14=>((qdy R n_Z73 o_Z73 [⟨yK,r14.1⟩,⟨(.fn n_Z17 (.cons (.ptr yC) (.cons (.ptr (.cons yI .nil)) .nil))),((g,()),(h,()),())⟩]).bind fun r15=>(bif r15.1 then some ⟨o_Z16,(false,())⟩ else(Z16.l0 R N a c d (w64 (e+1)) g))))):=(hw _ _).trans (by kernel_rfl)
theorem Z16.l0_succ(R:Run)(hw:R.ok)(N n:Nat)(a:vK)(b c:Int)(d:vK):Z16.l0 R N (n+1) a b c d=(bif (decide (c<b)) then((idx? a c).bind fun y5=>((qdy R n_Z21 o_Z21 [⟨yL,(y5,()).1⟩]).bind fun r6=>(bif (!r6.1) then(Z16.j1 R N n ((y5,()).1) a b c true d c) else(bif (decide (c>(0:Int))) then((idx? d (w64 (c-1))).bind fun y20=>((qdy R n_Z29 o_Z29 [⟨yL,(y20,()).1⟩,⟨yL,(y5,()).1⟩]).bind fun r21=>(Z16.j1 R N n ((y5,()).1) a b c (decide (r21.1≥(0:Int))) d c))) else(Z16.j1 R N n ((y5,()).1) a b c false d c))))) else some ⟨o_Z16,((decide ((List.length d:Int)≤(48:Int))),())⟩):=(hw _ _).trans (by kernel_rfl)
theorem Z16.ev(R:Run)(N:Nat)(a0:vK):qpj E R sg_Z16 pol_Z16 F_Z16 N [⟨yK,a0⟩]=(Z16.l0 R N N a0 (List.length a0:Int) (0:Int) a0):=by kernel_rfl
theorem Z45.ev(R:Run)(N:Nat)(a0:vK):qpj E R sg_Z45 pol_Z45 F_Z45 N [⟨yK,a0⟩]=some ⟨o_Z45,((List.length a0:Int),())⟩:=by kernel_rfl
def Z94.l0(R:Run)(N n:Nat)(a:List Int)(b e f:Int):Option Dv:=R.w (some ⟨(.c (.d yL a)::(.c (.d yI b)::(zd 5 (.c (.d yI e)::(.c (.d yI f)::(zd 10 [])))))),(zo 21 [])⟩) fun st=>lC R pol_Z94 2 N [1,0,1,0,0] F_Z94 n st (kB R pol_Z94 0 (kS R pol_Z94 7 N [1,1] F_Z94 (qpH E sg_Z94 F_Z94)))
theorem Z94.l0_succ(R:Run)(hw:R.ok)(N n:Nat)(a:List Int)(b c d:Int):Z94.l0 R N (n+1) a b c d=(bif (decide (d<c)) then((idx? a d).bind fun y5=>(bif (b==(y5,()).1) then some ⟨o_Z94,(d,())⟩ else(Z94.l0 R N n a b c (w64 (d+1))))) else some ⟨o_Z94,((-1:Int),())⟩):=(hw _ _).trans (by kernel_rfl)
theorem Z94.ev(R:Run)(N:Nat)(a0:List Int)(a1:Int):qpj E R sg_Z94 pol_Z94 F_Z94 N [⟨yL,a0⟩,⟨yI,a1⟩]=(Z94.l0 R N N a0 a1 (List.length a0:Int) (0:Int)):=by kernel_rfl
theorem Z82.ev(R:Run)(N:Nat)(a0:List Int)(a1:Int):qpj E R sg_Z82 pol_Z82 F_Z82 N [⟨yL,a0⟩,⟨yI,a1⟩]=((qdy R n_Z94 o_Z94 [⟨yL,a0⟩,⟨yI,a1⟩]).bind fun r1=>some ⟨o_Z82,((decide (r1.1≥(0:Int))),())⟩):=by kernel_rfl
theorem Z39.ev(R:Run)(N:Nat)(a0:Int)(a1:((List Int)×Unit)):qpj E R sg_Z39 pol_Z39 F_Z39 N [⟨yI,a0⟩,⟨(.ptr (.cons yL .nil)),a1⟩]=((qdy R n_Z82 o_Z82 [⟨yL,a1.1⟩,⟨yI,a0⟩]).bind fun r1=>some ⟨o_Z39,((!r1.1),())⟩):=by kernel_rfl
def Z93.l0(R:Run)(N n:Nat)(a:List Int)(b:(((List Int)×Unit)×Unit))(e f:Int):Option Dv:=R.w (some ⟨(.c (.d yL a)::(.c (.d (.fn n_Z39 (.cons (.ptr (.cons yL .nil)) .nil)) b)::(zd 5 (.c (.d yI e)::(.c (.d yI f)::(zd 10 [])))))),(zo 21 [])⟩) fun st=>q1_1 R N n st (q1_2 R (q1_0 R N (qpH E sg_Z88 F_Z88)))
theorem Z93.l0_succ(R:Run)(hw:R.ok)(N n:Nat)(a:List Int)(b:(((List Int)×Unit)×Unit))(c d:Int):Z93.l0 R N (n+1) a b c d=(bif (decide (d<c)) then((idx? a d).bind fun y5=>((qdy R n_Z39 o_Z39 [⟨yI,(y5,()).1⟩,⟨(.ptr (.cons yL .nil)),b.1⟩]).bind fun r6=>(bif r6.1 then some ⟨o_Z88,(d,())⟩ else(Z93.l0 R N n a b c (w64 (d+1)))))) else some ⟨o_Z88,((-1:Int),())⟩):=(hw _ _).trans (by kernel_rfl)
theorem Z93.ev(R:Run)(N:Nat)(a0:List Int)(a1:(((List Int)×Unit)×Unit)):qpj E R sg_Z88 pol_Z88 F_Z88 N [⟨yL,a0⟩,⟨(.fn n_Z39 (.cons (.ptr (.cons yL .nil)) .nil)),a1⟩]=(Z93.l0 R N N a0 a1 (List.length a0:Int) (0:Int)):=by kernel_rfl
theorem Z81.ev(R:Run)(N:Nat)(a0:List Int)(a1:(((List Int)×Unit)×Unit)):qpj E R sg_Z76 pol_Z76 F_Z76 N [⟨yL,a0⟩,⟨(.fn n_Z39 (.cons (.ptr (.cons yL .nil)) .nil)),a1⟩]=((qdy R n_Z88 o_Z88 [⟨yL,a0⟩,⟨(.fn n_Z39 (.cons (.ptr (.cons yL .nil)) .nil)),a1⟩]).bind fun r1=>some ⟨o_Z76,((decide (r1.1≥(0:Int))),())⟩):=by kernel_rfl
theorem Z38.ev(R:Run)(N:Nat)(a0 a1:List Int):qpj E R sg_Z38 pol_Z38 F_Z38 N [⟨yL,a0⟩,⟨yL,a1⟩]=((qdy R n_Z76 o_Z76 [⟨yL,a0⟩,⟨(.fn n_Z39 (.cons (.ptr (.cons yL .nil)) .nil)),((a1,()),())⟩]).bind fun r1=>some ⟨o_Z38,((!r1.1),())⟩):=by kernel_rfl
def Z48.l0(R:Run)(N n:Nat)(a:Int)(b:vK)(e f:Int)(g:vK)(h:List Int):Option Dv:=R.w (some ⟨(V.dead::(.c (.d yI a)::(.c (.box 2 0)::(V.dead::(V.dead::(.c (.arr 26)::(zd 3 (.c (.d yK b)::(.c (.d yI e)::(.c (.d yI f)::(zd 17 []))))))))))),(none::(none::(some (.box [.d yK g] false false)::(zo 23 (some (.arr yI h true false false)::(zo 4 []))))))⟩) fun st=>lC R pol_Z48 3 N [1,1,0,1,0,0] F_Z48 n st (kB R pol_Z48 0 (kS R pol_Z48 8 N [1,1,1] F_Z48 (qpH E sg_Z48 F_Z48)))
theorem Z48.l0_succ(R:Run)(hw:R.ok)(N n:Nat)(a:Int)(b:vK)(c d:Int)(e:vK)(f:List Int):Z48.l0 R N (n+1) a b c d e f=(bif (decide (d<c)) then((idx? b d).bind fun y7=>((idx? e a).bind fun y8=>((qdy R n_Z38 o_Z38 [⟨yL,(y8,()).1⟩,⟨yL,(y7,()).1⟩]).bind fun r9=>(bif r9.1 then((chk (decide ((List.length f+List.length [d])*8≤70368744177664))).bind fun _=>(Z48.l0 R N n a b c (w64 (d+1)) e (f++[d]))) else(Z48.l0 R N n a b c (w64 (d+1)) e f))))) else some ⟨o_Z48,(f,())⟩):=(hw _ _).trans (by kernel_rfl)
theorem Z48.ev(R:Run)(N:Nat)(a0:vK)(a1:Int):qpj E R sg_Z48 pol_Z48 F_Z48 N [⟨yK,a0⟩,⟨yI,a1⟩]=(Z48.l0 R N N a1 a0 (List.length a0:Int) (0:Int) a0 ([]:List Int)):=by kernel_rfl
def Z33.l0(R:Run)(N n:Nat)(a b:Int)(e:vK)(f:List Int):Option Dv:=R.w (some ⟨(V.dead::(.c (.box 1 0)::(V.dead::(.c (.arr 19)::(zd 3 (.c (.d yI a)::(.c (.d yI b)::(zd 13 [])))))))),(none::(some (.box [.d yK e] false false)::(zo 17 (some (.arr yI f true false false)::(zo 3 [])))))⟩) fun st=>lC R pol_Z33 3 N [1,1,0,1,0,0] F_Z33 n st (kB R pol_Z33 0 (kS R pol_Z33 8 N [1,1,1] F_Z33 (qpH E sg_Z33 F_Z33)))
theorem Z33.l0_succ(R:Run)(hw:R.ok)(N n:Nat)(a b:Int)(c:vK)(d:List Int):Z33.l0 R N (n+1) a b c d=(bif (decide (b<a)) then((qdy R n_Z48 o_Z48 [⟨yK,c⟩,⟨yI,b⟩]).bind fun r6=>(bif ((List.length r6.1:Int)==(1:Int)) then((chk (decide ((List.length d+List.length [b])*8≤70368744177664))).bind fun _=>(Z33.l0 R N n a (w64 (b+1)) c (d++[b]))) else(Z33.l0 R N n a (w64 (b+1)) c d))) else some ⟨o_Z33,(d,())⟩):=(hw _ _).trans (by kernel_rfl)
theorem Z33.ev(R:Run)(N:Nat)(a0:vK):qpj E R sg_Z33 pol_Z33 F_Z33 N [⟨yK,a0⟩]=((qdy R n_Z45 o_Z45 [⟨yK,a0⟩]).bind fun r1=>(Z33.l0 R N N r1.1 (0:Int) a0 ([]:List Int))):=by kernel_rfl
def Z7.l0(R:Run)(N n:Nat)(a:List Int)(b e:Int)(f:vK)(g:(List ByteArray)):Option Dv:=R.w (some ⟨(V.dead::(.c (.box 1 0)::(V.dead::(.c (.arr 24)::(zd 6 (.c (.d yL a)::(.c (.d yI b)::(.c (.d yI e)::(zd 18 []))))))))),(none::(some (.box [.d yK f] false false)::(zo 22 (some (.arr .str g true false false)::(zo 7 [])))))⟩) fun st=>lC R pol_Z7 5 N [1,1,1,0,1,0,0] F_Z7 n st (kB R pol_Z7 0 (kS R pol_Z7 9 N [1,1,1,1] F_Z7 (qpH E sg_Z7 F_Z7)))
theorem Z7.l0_succ(R:Run)(hw:R.ok)(N n:Nat)(a:List Int)(b c:Int)(d:vK)(e:(List ByteArray)):Z7.l0 R N (n+1) a b c d e=(bif (decide (c<b)) then((idx? a c).bind fun y8=>((idx? d (y8,()).1).bind fun y9=>((qdy R n_Z9 o_Z9 [⟨yL,(y9,()).1⟩]).bind fun r10=>((chk (decide ((List.length e+List.length [r10.1])*16≤70368744177664))).bind fun _=>(Z7.l0 R N n a b (w64 (c+1)) d (e++[r10.1])))))) else(bif ((List.length e:Int)==(0:Int)) then some ⟨o_Z7,((ByteArray.mk #[45]),())⟩ else((qdy R n_Z134 o_Z134 [⟨(.sl .str),e⟩,⟨.str,(ByteArray.mk #[47])⟩]).bind fun r16=>some ⟨o_Z7,(r16.1,())⟩))):=(hw _ _).trans (by kernel_rfl)
theorem Z7.ev(R:Run)(N:Nat)(a0:vK):qpj E R sg_Z7 pol_Z7 F_Z7 N [⟨yK,a0⟩]=((qdy R n_Z16 o_Z16 [⟨yK,a0⟩]).bind fun r1=>(bif (!r1.1) then some ⟨o_Z7,((ByteArray.mk #[]),())⟩ else((qdy R n_Z33 o_Z33 [⟨yK,a0⟩]).bind fun r2=>(Z7.l0 R N N r2.1 (List.length r2.1:Int) (0:Int) a0 ([]:List ByteArray))))):=by kernel_rfl
def Z11.j2(R:Run)(N:Nat)(a:Bool)(b:vK):Option Dv:=R.w (some ⟨(V.dead::(V.dead::(.c (.box 2 0)::(zd 6 (.c (.box 9 0)::(zd 32 (.c (.d .bool a)::(V.dead::(V.dead::[]))))))))),(none::(none::(some (.box [.nils yL] false false)::(zo 6 (some (.box [.arr 47] false false)::(zo 37 (some (.arr yL b true false false)::[])))))))⟩) fun st=>eC R pol_Z11 N [1,1,1,1,0,1] F_Z11 st (kS R pol_Z11 12 N [1,1,1,1,1] F_Z11 (qpH E sg_Z11 F_Z11))
def Z11.j1(R:Run)(N:Nat)(a:ByteArray)(b:vK):Option Dv:=R.w (some ⟨(.c (.d .str a)::(V.dead::(.c (.box 2 0)::(V.dead::(.c (.arr 28)::(zd 40 [])))))),(none::(none::(some (.box [.nils yL] false false)::(zo 25 (some (.arr yL b true false false)::(zo 19 []))))))⟩) fun st=>eC R pol_Z11 N [1,1,1] F_Z11 st (qpH E sg_Z11 F_Z11)
def Z11.l0(R:Run)(N n:Nat)(a:ByteArray)(b:(List ByteArray))(e f:Int)(g:vK):Option Dv:=R.w (some ⟨(.c (.d .str a)::(V.dead::(.c (.box 2 0)::(V.dead::(.c (.arr 28)::(zd 9 (.c (.d (.sl .str) b)::(.c (.d yI e)::(.c (.d yI f)::(zd 28 [])))))))))),(none::(none::(some (.box [.nils yL] false false)::(zo 25 (some (.arr yL g true false false)::(zo 19 []))))))⟩) fun st=>lC R pol_Z11 4 N [1,1,0,1,0,1,0,0] F_Z11 n st (kB R pol_Z11 0 (kS R pol_Z11 9 N [1,1,1] F_Z11 (qpH E sg_Z11 F_Z11)))
theorem Z11.j2_eq(R:Run)(hw:R.ok)(N:Nat)(a:Bool)(b:vK):Z11.j2 R N a b=(bif a then some ⟨o_Z11,(([]:List (List Int)),false,())⟩ else some ⟨o_Z11,(b,true,())⟩):=(hw _ _).trans (by kernel_rfl)
theorem Z11.j1_eq(R:Run)(hw:R.ok)(N:Nat)(a:ByteArray)(b:vK):Z11.j1 R N a b=((qdy R n_Z5 o_Z5 [⟨yK,b⟩]).bind fun r16=>(bif (r16.2.1 != (0:Int)) then(Z11.j2 R N true r16.1) else((qdy R n_Z7 o_Z7 [⟨yK,r16.1⟩]).bind fun r19=>(Z11.j2 R N (!(ByteArray.toList r19.1==ByteArray.toList a)) r16.1)))):=(hw _ _).trans (by kernel_rfl)
theorem Z11.l0_succ(R:Run)(hw:R.ok)(N n:Nat)(a:ByteArray)(b:(List ByteArray))(c d:Int)(e:vK):Z11.l0 R N (n+1) a b c d e=(bif (decide (d<c)) then((idx? b d).bind fun y7=>((qdy R n_Z13 o_Z13 [⟨.str,(y7,()).1⟩]).bind fun r8=>((chk (decide ((List.length e+List.length [r8.1])*24≤70368744177664))).bind fun _=>(Z11.l0 R N n a b c (w64 (d+1)) (e++[r8.1]))))) else(Z11.j1 R N a e)):=(hw _ _).trans (by kernel_rfl)
theorem Z11.ev(R:Run)(N:Nat)(a0:ByteArray):qpj E R sg_Z11 pol_Z11 F_Z11 N [⟨.str,a0⟩]=(bif (!(ByteArray.toList a0==ByteArray.toList (ByteArray.mk #[45]))) then((qdy R n_Z135 o_Z135 [⟨.str,a0⟩,⟨.str,(ByteArray.mk #[47])⟩]).bind fun r1=>(Z11.l0 R N N a0 r1.1 (List.length r1.1:Int) (0:Int) ([]:List (List Int)))) else(Z11.j1 R N a0 ([]:List (List Int)))):=by kernel_rfl
def Z31.l0(R:Run)(N n:Nat)(a:vK)(b e:Int)(f:vK)(g:List Int):Option Dv:=R.w (some ⟨(V.dead::(V.dead::(.c (.box 2 0)::(V.dead::(V.dead::(.c (.arr 24)::(zd 7 (.c (.d yK a)::(.c (.d yI b)::(.c (.d yI e)::(zd 11 []))))))))))),(none::(none::(some (.box [.d yK f] false false)::(zo 21 (some (.arr yI g true false false)::(zo 4 []))))))⟩) fun st=>lC R pol_Z31 3 N [1,1,0,1,0,0] F_Z31 n st (kB R pol_Z31 0 (kS R pol_Z31 7 N [1,1,1] F_Z31 (qpH E sg_Z31 F_Z31)))
theorem Z31.l0_succ(R:Run)(hw:R.ok)(N n:Nat)(a:vK)(b c:Int)(d:vK)(e:List Int):Z31.l0 R N (n+1) a b c d e=(bif (decide (c<b)) then((idx? a c).bind fun y8=>((qdy R n_Z35 o_Z35 [⟨yK,d⟩,⟨yL,(y8,()).1⟩]).bind fun r9=>((chk (decide ((List.length e+List.length [r9.1])*8≤70368744177664))).bind fun _=>(Z31.l0 R N n a b (w64 (c+1)) d (e++[r9.1]))))) else some ⟨o_Z31,(e,())⟩):=(hw _ _).trans (by kernel_rfl)
theorem Z31.ev(R:Run)(N:Nat)(a0:vK)(a1:Int):qpj E R sg_Z31 pol_Z31 F_Z31 N [⟨yK,a0⟩,⟨yI,a1⟩]=((idx? a0 a1).bind fun y1=>((qdy R n_Z32 o_Z32 [⟨yL,(y1,()).1⟩]).bind fun r2=>(Z31.l0 R N N r2.1 (List.length r2.1:Int) (0:Int) a0 ([]:List Int)))):=by kernel_rfl
def Z27.l1(R:Run)(N a n:Nat)(b e f:Int)(g:List Int)(h i:Int)(j:vK)(k:(List (Int×Int×Int×Unit))):Option Dv:=R.w (some ⟨(V.dead::(.c (.box 1 0)::(V.dead::(.c (.arr 28)::(.c (.d yI b)::(zd 4 (.c (.d yI e)::(.c (.d yI f)::(zd 4 (.c (.d yL g)::(.c (.d yI h)::(.c (.d yI i)::(zd 14 []))))))))))))),(none::(some (.box [.d yK j] false false)::(zo 26 (some (.arr (.st (.cons yI (.cons yI (.cons yI .nil)))) k true false false)::(zo 4 [])))))⟩) fun st=>lC R pol_Z27 6 N [1,1,0,1,0,0,1,1,0,0,1,1,0,0] F_Z27 n st (kB R pol_Z27 2 (kB R pol_Z27 1 (kS R pol_Z27 10 N [1,1,0,1,0,0,1,1,1] F_Z27 (kL R pol_Z27 3 N [1,1,0,1,0,0] F_Z27 a (kB R pol_Z27 0 (kS R pol_Z27 11 N [1,1,1] F_Z27 (qpH E sg_Z27 F_Z27)))))))
def Z27.l0(R:Run)(N n:Nat)(a b:Int)(e:vK)(f:(List (Int×Int×Int×Unit))):Option Dv:=R.w (some ⟨(V.dead::(.c (.box 1 0)::(V.dead::(.c (.arr 28)::(zd 5 (.c (.d yI a)::(.c (.d yI b)::(zd 21 [])))))))),(none::(some (.box [.d yK e] false false)::(zo 26 (some (.arr (.st (.cons yI (.cons yI (.cons yI .nil)))) f true false false)::(zo 4 [])))))⟩) fun st=>lC R pol_Z27 3 N [1,1,0,1,0,0] F_Z27 n st (kB R pol_Z27 0 (kS R pol_Z27 11 N [1,1,1] F_Z27 (qpH E sg_Z27 F_Z27)))
theorem Z27.l1_succ(R:Run)(hw:R.ok)(N a n:Nat)(b c d:Int)(e:List Int)(f g:Int)(h:vK)(i:(List (Int×Int×Int×Unit))):Z27.l1 R N a (n+1) b c d e f g h i=(bif (decide (g<f)) then((idx? e g).bind fun y15=>((chk (decide ((List.length i+List.length [(b,g,(y15,()).1,())])*24≤70368744177664))).bind fun _=>(Z27.l1 R N a n b c d e f (w64 (g+1)) h (i++[(b,g,(y15,()).1,())])))) else(Z27.l0 R N a c (w64 (d+1)) h i)):=(hw _ _).trans (by kernel_rfl)
theorem Z27.l0_succ(R:Run)(hw:R.ok)(N n:Nat)(a b:Int)(c:vK)(d:(List (Int×Int×Int×Unit))):Z27.l0 R N (n+1) a b c d=(bif (decide (b<a)) then((qdy R n_Z31 o_Z31 [⟨yK,c⟩,⟨yI,b⟩]).bind fun r6=>(Z27.l1 R N n N b a b r6.1 (List.length r6.1:Int) (0:Int) c d)) else some ⟨o_Z27,(d,())⟩):=(hw _ _).trans (by kernel_rfl)
theorem Z27.ev(R:Run)(N:Nat)(a0:vK):qpj E R sg_Z27 pol_Z27 F_Z27 N [⟨yK,a0⟩]=((qdy R n_Z45 o_Z45 [⟨yK,a0⟩]).bind fun r1=>(Z27.l0 R N N r1.1 (0:Int) a0 ([]:List (Int×Int×Int×Unit)))):=by kernel_rfl
def Z19.l0(R:Run)(N n:Nat)(a b:Int):Option Dv:=R.w (some ⟨(.c (.d yI a)::(V.dead::(V.dead::(.c (.d yI b)::(zd 14 []))))),(zo 19 [])⟩) fun st=>lC R pol_Z19 4 N [1,1,0,1,0,0] F_Z19 n st (kB R pol_Z19 0 (kS R pol_Z19 8 N [1,1,1] F_Z19 (qpH E sg_Z19 F_Z19)))
theorem Z19.l0_succ(R:Run)(hw:R.ok)(N n:Nat)(a b:Int):Z19.l0 R N (n+1) a b=(bif (decide ((w64 (b*b))≤a)) then((chk (b != 0)).bind fun _=>(bif ((Int.tmod a b)==(0:Int)) then some ⟨o_Z19,(false,())⟩ else(Z19.l0 R N n a (w64 (b+1))))) else some ⟨o_Z19,(true,())⟩):=(hw _ _).trans (by kernel_rfl)
theorem Z19.ev(R:Run)(N:Nat)(a0:Int):qpj E R sg_Z19 pol_Z19 F_Z19 N [⟨yI,a0⟩]=((qdy R n_Z49 o_Z49 [⟨yI,a0⟩,⟨yI,(2:Int)⟩,⟨yI,(251:Int)⟩]).bind fun r1=>(bif (!r1.1) then some ⟨o_Z19,(false,())⟩ else(Z19.l0 R N N a0 (2:Int)))):=by kernel_rfl
theorem Z41.ev(R:Run)(N:Nat)(a0:Int):qpj E R sg_Z41 pol_Z41 F_Z41 N [⟨yI,a0⟩]=((qdy R n_Z49 o_Z49 [⟨yI,a0⟩,⟨yI,(0:Int)⟩,⟨yI,(32:Int)⟩]).bind fun r1=>some ⟨o_Z41,(r1.1,())⟩):=by kernel_rfl
theorem Z46.ev(R:Run)(N:Nat)(a0:List Int):qpj E R sg_Z46 pol_Z46 F_Z46 N [⟨yL,a0⟩]=some ⟨o_Z46,((List.length a0:Int),())⟩:=by kernel_rfl
theorem Z37.ev(R:Run)(N:Nat)(a0 a1:Int):qpj E R sg_Z37 pol_Z37 F_Z37 N [⟨yI,a0⟩,⟨yI,a1⟩]=((qdy R n_Z49 o_Z49 [⟨yI,a0⟩,⟨yI,(0:Int)⟩,⟨yI,(w64 (a1-1))⟩]).bind fun r1=>some ⟨o_Z37,(r1.1,())⟩):=by kernel_rfl
theorem Z24.ev(R:Run)(N:Nat)(a0:Int)(a1:(Int×Unit)):qpj E R sg_Z24 pol_Z24 F_Z24 N [⟨yI,a0⟩,⟨(.ptr (.cons yI .nil)),a1⟩]=((qdy R n_Z37 o_Z37 [⟨yI,a0⟩,⟨yI,a1.1⟩]).bind fun r1=>some ⟨o_Z24,((!r1.1),())⟩):=by kernel_rfl
def Z91.l0(R:Run)(N n:Nat)(a:List Int)(b:((Int×Unit)×Unit))(e f:Int):Option Dv:=R.w (some ⟨(.c (.d yL a)::(.c (.d (.fn n_Z24 (.cons (.ptr (.cons yI .nil)) .nil)) b)::(zd 5 (.c (.d yI e)::(.c (.d yI f)::(zd 10 [])))))),(zo 21 [])⟩) fun st=>q1_1 R N n st (q1_2 R (q1_0 R N (qpH E sg_Z88 F_Z88)))
theorem Z91.l0_succ(R:Run)(hw:R.ok)(N n:Nat)(a:List Int)(b:((Int×Unit)×Unit))(c d:Int):Z91.l0 R N (n+1) a b c d=(bif (decide (d<c)) then((idx? a d).bind fun y5=>((qdy R n_Z24 o_Z24 [⟨yI,(y5,()).1⟩,⟨(.ptr (.cons yI .nil)),b.1⟩]).bind fun r6=>(bif r6.1 then some ⟨o_Z88,(d,())⟩ else(Z91.l0 R N n a b c (w64 (d+1)))))) else some ⟨o_Z88,((-1:Int),())⟩):=(hw _ _).trans (by kernel_rfl)
theorem Z91.ev(R:Run)(N:Nat)(a0:List Int)(a1:((Int×Unit)×Unit)):qpj E R sg_Z88 pol_Z88 F_Z88 N [⟨yL,a0⟩,⟨(.fn n_Z24 (.cons (.ptr (.cons yI .nil)) .nil)),a1⟩]=(Z91.l0 R N N a0 a1 (List.length a0:Int) (0:Int)):=by kernel_rfl
theorem Z79.ev(R:Run)(N:Nat)(a0:List Int)(a1:((Int×Unit)×Unit)):qpj E R sg_Z76 pol_Z76 F_Z76 N [⟨yL,a0⟩,⟨(.fn n_Z24 (.cons (.ptr (.cons yI .nil)) .nil)),a1⟩]=((qdy R n_Z88 o_Z88 [⟨yL,a0⟩,⟨(.fn n_Z24 (.cons (.ptr (.cons yI .nil)) .nil)),a1⟩]).bind fun r1=>some ⟨o_Z76,((decide (r1.1≥(0:Int))),())⟩):=by kernel_rfl
theorem Z23.ev(R:Run)(N:Nat)(a0:List Int)(a1:Int):qpj E R sg_Z23 pol_Z23 F_Z23 N [⟨yL,a0⟩,⟨yI,a1⟩]=((qdy R n_Z76 o_Z76 [⟨yL,a0⟩,⟨(.fn n_Z24 (.cons (.ptr (.cons yI .nil)) .nil)),((a1,()),())⟩]).bind fun r1=>some ⟨o_Z23,((!r1.1),())⟩):=by kernel_rfl
theorem Z18.ev(R:Run)(N:Nat)(a0 a1 a2:Int)(a3:List Int):qpj E R sg_Z18 pol_Z18 F_Z18 N [⟨yI,a0⟩,⟨yI,a1⟩,⟨yI,a2⟩,⟨yL,a3⟩]=((qdy R n_Z19 o_Z19 [⟨yI,a0⟩]).bind fun r1=>(bif r1.1 then((qdy R n_Z41 o_Z41 [⟨yI,a1⟩]).bind fun r2=>(bif r2.1 then((qdy R n_Z41 o_Z41 [⟨yI,a2⟩]).bind fun r3=>(bif r3.1 then((qdy R n_Z46 o_Z46 [⟨yL,a3⟩]).bind fun r4=>(bif (r4.1==(w64 (a1*a2))) then((qdy R n_Z23 o_Z23 [⟨yL,a3⟩,⟨yI,a0⟩]).bind fun r5=>some ⟨o_Z18,(r5.1,())⟩) else some ⟨o_Z18,(false,())⟩)) else some ⟨o_Z18,(false,())⟩)) else some ⟨o_Z18,(false,())⟩)) else some ⟨o_Z18,(false,())⟩)):=by kernel_rfl
theorem Z36.ev(R:Run)(N:Nat)(a0 a1 a2:Int)(a3:List Int)(a4 a5 a6:Int):qpj E R sg_Z36 pol_Z36 F_Z36 N [⟨yI,a0⟩,⟨yI,a1⟩,⟨yI,a2⟩,⟨yL,a3⟩,⟨yI,a4⟩,⟨yI,a5⟩,⟨yI,a6⟩]=((qdy R n_Z18 o_Z18 [⟨yI,a0⟩,⟨yI,a1⟩,⟨yI,a2⟩,⟨yL,a3⟩]).bind fun r1=>(bif r1.1 then(bif (a0==a4) then(bif (a1==a6) then some ⟨o_Z36,((a2==a5),())⟩ else some ⟨o_Z36,(false,())⟩) else some ⟨o_Z36,(false,())⟩) else some ⟨o_Z36,(false,())⟩)):=by kernel_rfl
theorem Z26.ev(R:Run)(N:Nat)(a0:Int):qpj E R sg_Z26 pol_Z26 F_Z26 N [⟨yI,a0⟩]=((qdy R n_Z49 o_Z49 [⟨yI,a0⟩,⟨yI,(0:Int)⟩,⟨yI,(3:Int)⟩]).bind fun r1=>some ⟨o_Z26,((!r1.1),())⟩):=by kernel_rfl
def Z92.l0(R:Run)(N n:Nat)(a:List Int)(b e:Int):Option Dv:=R.w (some ⟨(.c (.d yL a)::(.c (.d (.fn n_Z26 .nil) ())::(zd 5 (.c (.d yI b)::(.c (.d yI e)::(zd 10 [])))))),(zo 21 [])⟩) fun st=>q1_1 R N n st (q1_2 R (q1_0 R N (qpH E sg_Z88 F_Z88)))
theorem Z92.l0_succ(R:Run)(hw:R.ok)(N n:Nat)(a:List Int)(b c:Int):Z92.l0 R N (n+1) a b c=(bif (decide (c<b)) then((idx? a c).bind fun y4=>((qdy R n_Z26 o_Z26 [⟨yI,(y4,()).1⟩]).bind fun r5=>(bif r5.1 then some ⟨o_Z88,(c,())⟩ else(Z92.l0 R N n a b (w64 (c+1)))))) else some ⟨o_Z88,((-1:Int),())⟩):=(hw _ _).trans (by kernel_rfl)
theorem Z92.ev(R:Run)(N:Nat)(a0:List Int):qpj E R sg_Z88 pol_Z88 F_Z88 N [⟨yL,a0⟩,⟨(.fn n_Z26 .nil),()⟩]=(Z92.l0 R N N a0 (List.length a0:Int) (0:Int)):=by kernel_rfl
theorem Z80.ev(R:Run)(N:Nat)(a0:List Int):qpj E R sg_Z76 pol_Z76 F_Z76 N [⟨yL,a0⟩,⟨(.fn n_Z26 .nil),()⟩]=((qdy R n_Z88 o_Z88 [⟨yL,a0⟩,⟨(.fn n_Z26 .nil),()⟩]).bind fun r1=>some ⟨o_Z76,((decide (r1.1≥(0:Int))),())⟩):=by kernel_rfl
def Z44.l0(R:Run)(N n:Nat)(a:Int)(b:vK)(e f:Int)(g:List Int):Option Dv:=R.w (some ⟨(V.dead::(.c (.d yI a)::(zd 3 (.c (.arr 24)::(zd 3 (.c (.d yK b)::(.c (.d yI e)::(.c (.d yI f)::(zd 15 []))))))))),(zo 24 (some (.arr yI g true false false)::(zo 4 [])))⟩) fun st=>lC R pol_Z44 3 N [1,1,0,1,0,0] F_Z44 n st (kB R pol_Z44 0 (kS R pol_Z44 8 N [1,1,1] F_Z44 (qpH E sg_Z44 F_Z44)))
theorem Z44.l0_succ(R:Run)(hw:R.ok)(N n:Nat)(a:Int)(b:vK)(c d:Int)(e:List Int):Z44.l0 R N (n+1) a b c d e=(bif (decide (d<c)) then((idx? b d).bind fun y6=>((qdy R n_Z46 o_Z46 [⟨yL,(y6,()).1⟩]).bind fun r7=>(bif (r7.1==(w64 (a+1))) then((chk (decide ((List.length e+List.length [d])*8≤70368744177664))).bind fun _=>(Z44.l0 R N n a b c (w64 (d+1)) (e++[d]))) else(Z44.l0 R N n a b c (w64 (d+1)) e)))) else some ⟨o_Z44,(e,())⟩):=(hw _ _).trans (by kernel_rfl)
theorem Z44.ev(R:Run)(N:Nat)(a0:vK)(a1:Int):qpj E R sg_Z44 pol_Z44 F_Z44 N [⟨yK,a0⟩,⟨yI,a1⟩]=(Z44.l0 R N N a1 a0 (List.length a0:Int) (0:Int) ([]:List Int)):=by kernel_rfl
def Z47.l0(R:Run)(N n:Nat)(a:Int)(b:List Int)(e f:Int)(g:vK)(h:Int)(i:List Int)(j:vN):Option Dv:=R.w (some ⟨(V.dead::(V.dead::(.c (.box 2 0)::(V.dead::(V.dead::(.c (.d yI a)::(zd 5 (.c (.d yL b)::(.c (.d yI e)::(.c (.d yI f)::(zd 12 []))))))))))),(none::(none::(some (.box [.d yK g,.d yI h,.d yL i,.d yN j] false false)::(zo 28 []))))⟩) fun st=>lC R pol_Z47 3 N [1,1,0,1,0,0] F_Z47 n st (kB R pol_Z47 0 (kS R pol_Z47 7 N [1,1,1] F_Z47 (qpH E sg_Z47 F_Z47)))
theorem Z47.l0_succ(R:Run)(hw:R.ok)(N n:Nat)(a:Int)(b:List Int)(c d:Int)(e:vK)(f:Int)(g:List Int)(h:vN):Z47.l0 R N (n+1) a b c d e f g h=(bif (decide (d<c)) then((idx? b d).bind fun y10=>((idx? g (y10,()).1).bind fun y11=>(Z47.l0 R N n (w64 (a+(y11,()).1)) b c (w64 (d+1)) e f g h))) else some ⟨o_Z47,(a,())⟩):=(hw _ _).trans (by kernel_rfl)
theorem Z47.ev(R:Run)(N:Nat)(a0:vK)(a1:Int)(a2:List Int)(a3:vN)(a4:Int):qpj E R sg_Z47 pol_Z47 F_Z47 N [⟨yK,a0⟩,⟨yI,a1⟩,⟨yL,a2⟩,⟨yN,a3⟩,⟨yI,a4⟩]=((qdy R n_Z44 o_Z44 [⟨yK,a0⟩,⟨yI,a4⟩]).bind fun r1=>(Z47.l0 R N N (0:Int) r1.1 (List.length r1.1:Int) (0:Int) a0 a1 a2 a3)):=by kernel_rfl
def Z25.l1(R:Run)(N n:Nat)(a:List Int)(b:Int)(e:vK):Option Dv:=R.w (some ⟨(V.dead::(.c (.d yL a)::(.c (.box 2 0)::(zd 13 (.c (.d yI b)::(zd 9 [])))))),(none::(none::(some (.box [.d yK e] false false)::(zo 25 []))))⟩) fun st=>lC R pol_Z25 4 N [1,1,0,1,0,0] F_Z25 n st (kB R pol_Z25 0 (kS R pol_Z25 9 N [1,1,1] F_Z25 (qpH E sg_Z25 F_Z25)))
def Z25.j0(R:Run)(N:Nat)(a:List Int)(b:Bool)(e:vK):Option Dv:=R.w (some ⟨(V.dead::(.c (.d yL a)::(.c (.box 2 0)::(zd 12 (.c (.d .bool b)::(zd 10 [])))))),(none::(none::(some (.box [.d yK e] false false)::(zo 25 []))))⟩) fun st=>eC R pol_Z25 N [1,0,1] F_Z25 st (kS R pol_Z25 3 N [1,1] F_Z25 (qpH E sg_Z25 F_Z25))
theorem Z25.l1_succ(R:Run)(hw:R.ok)(N n:Nat)(a:List Int)(b:Int)(c:vK):Z25.l1 R N (n+1) a b c=(bif (decide (b<(4:Int))) then((qdy R n_Z47 o_Z47 [⟨yK,c⟩,⟨yI,(0:Int)⟩,⟨yL,a⟩,⟨yN,([]:List vM)⟩,⟨yI,b⟩]).bind fun r7=>(bif (decide (r7.1>(32:Int))) then some ⟨o_Z25,(false,())⟩ else(Z25.l1 R N n a (w64 (b+1)) c))) else some ⟨o_Z25,(true,())⟩):=(hw _ _).trans (by kernel_rfl)
theorem Z25.j0_eq(R:Run)(hw:R.ok)(N:Nat)(a:List Int)(b:Bool)(c:vK):Z25.j0 R N a b c=(bif b then some ⟨o_Z25,(false,())⟩ else(Z25.l1 R N N a (0:Int) c)):=(hw _ _).trans (by kernel_rfl)
theorem Z25.ev(R:Run)(N:Nat)(a0:vK)(a1:List Int):qpj E R sg_Z25 pol_Z25 F_Z25 N [⟨yK,a0⟩,⟨yL,a1⟩]=(bif ((List.length a1:Int) != (List.length a0:Int)) then(Z25.j0 R N a1 true a0) else((qdy R n_Z76 o_Z76 [⟨yL,a1⟩,⟨(.fn n_Z26 .nil),()⟩]).bind fun r11=>(Z25.j0 R N a1 r11.1 a0))):=by kernel_rfl
def Z20.j2(R:Run)(N a:Nat)(b e:(List (Int×Int×Int×Unit)))(f g:Int)(h:Bool)(i:vK)(j:Int)(k:List Int)(l:vN):Option Dv:=R.w (some ⟨(V.dead::(.c (.box 1 0)::(V.dead::(.c (.d (.sl (.st (.cons yI (.cons yI (.cons yI .nil))))) b)::(zd 23 (.c (.d (.sl (.st (.cons yI (.cons yI (.cons yI .nil))))) e)::(.c (.d yI f)::(.c (.d yI g)::(zd 31 (.c (.d .bool h)::(zd 7 []))))))))))),(none::(some (.box [.d yK i,.d yI j,.d yL k,.d yN l] false false)::(zo 71 [])))⟩) fun st=>eC R pol_Z20 N [1,1,1,0,1,0,0,1,1,0,0,1,1] F_Z20 st (kB R pol_Z20 1 (kS R pol_Z20 9 N [1,1,1,0,1,0,0,1,1,1] F_Z20 (kL R pol_Z20 5 N [1,1,1,0,1,0,0] F_Z20 a (kB R pol_Z20 0 (kS R pol_Z20 10 N [1,1,1,1] F_Z20 (qpH E sg_Z20 F_Z20))))))
def Z20.l1(R:Run)(N n:Nat)(a b:(List (Int×Int×Int×Unit)))(e f:Int)(g:vK)(h:Int)(i:List Int)(j:vN):Option Dv:=R.w (some ⟨(V.dead::(.c (.box 1 0)::(V.dead::(.c (.d (.sl (.st (.cons yI (.cons yI (.cons yI .nil))))) a)::(zd 23 (.c (.d (.sl (.st (.cons yI (.cons yI (.cons yI .nil))))) b)::(.c (.d yI e)::(.c (.d yI f)::(zd 39 []))))))))),(none::(some (.box [.d yK g,.d yI h,.d yL i,.d yN j] false false)::(zo 71 [])))⟩) fun st=>lC R pol_Z20 5 N [1,1,1,0,1,0,0] F_Z20 n st (kB R pol_Z20 0 (kS R pol_Z20 10 N [1,1,1,1] F_Z20 (qpH E sg_Z20 F_Z20)))
def Z20.j0(R:Run)(N:Nat)(a:Bool)(b:vK)(e:Int)(f:List Int)(g:vN):Option Dv:=R.w (some ⟨(V.dead::(.c (.box 1 0)::(zd 21 (.c (.d .bool a)::(zd 45 []))))),(none::(some (.box [.d yK b,.d yI e,.d yL f,.d yN g] false false)::(zo 71 [])))⟩) fun st=>eC R pol_Z20 N [1,0,1] F_Z20 st (kS R pol_Z20 3 N [1,1] F_Z20 (qpH E sg_Z20 F_Z20))
theorem Z20.j2_eq(R:Run)(hw:R.ok)(N a:Nat)(b c:(List (Int×Int×Int×Unit)))(d e:Int)(f:Bool)(g:vK)(h:Int)(i:List Int)(j:vN):Z20.j2 R N a b c d e f g h i j=(bif f then some ⟨o_Z20,(false,())⟩ else(Z20.l1 R N a b c d (w64 (e+1)) g h i j)):=(hw _ _).trans (by kernel_rfl)
theorem Z20.l1_succ(R:Run)(hw:R.ok)(N n:Nat)(a b:(List (Int×Int×Int×Unit)))(c d:Int)(e:vK)(f:Int)(g:List Int)(h:vN):Z20.l1 R N (n+1) a b c d e f g h=(bif (decide (d<c)) then((idx? b d).bind fun y16=>(bif (decide (d≥(List.length h:Int))) then(Z20.j2 R N n a b c d true e f g h) else((idx? h d).bind fun y34=>((idx? g y16.2.2.1).bind fun y35=>((idx? g y16.1).bind fun y36=>((qdy R n_Z36 o_Z36 [⟨yI,y34.1⟩,⟨yI,y34.2.1⟩,⟨yI,y34.2.2.1⟩,⟨yL,y34.2.2.2.1⟩,⟨yI,f⟩,⟨yI,(y35,()).1⟩,⟨yI,(y36,()).1⟩]).bind fun r37=>(Z20.j2 R N n a b c d (!r37.1) e f g h))))))) else some ⟨o_Z20,(((List.length a:Int)==(List.length h:Int)),())⟩):=(hw _ _).trans (by kernel_rfl)
theorem Z20.j0_eq(R:Run)(hw:R.ok)(N:Nat)(a:Bool)(b:vK)(c:Int)(d:List Int)(e:vN):Z20.j0 R N a b c d e=(bif a then some ⟨o_Z20,(false,())⟩ else((qdy R n_Z27 o_Z27 [⟨yK,b⟩]).bind fun r7=>(Z20.l1 R N N r7.1 r7.1 (List.length r7.1:Int) (0:Int) b c d e))):=(hw _ _).trans (by kernel_rfl)
theorem Z20.ev(R:Run)(N:Nat)(a0:vK)(a1:Int)(a2:List Int)(a3:vN):qpj E R sg_Z20 pol_Z20 F_Z20 N [⟨yK,a0⟩,⟨yI,a1⟩,⟨yL,a2⟩,⟨yN,a3⟩]=((qdy R n_Z16 o_Z16 [⟨yK,a0⟩]).bind fun r1=>(bif (!r1.1) then(Z20.j0 R N true a0 a1 a2 a3) else((qdy R n_Z19 o_Z19 [⟨yI,a1⟩]).bind fun r47=>(bif (!r47.1) then(Z20.j0 R N true a0 a1 a2 a3) else((qdy R n_Z25 o_Z25 [⟨yK,a0⟩,⟨yL,a2⟩]).bind fun r53=>(Z20.j0 R N (!r53.1) a0 a1 a2 a3)))))):=by kernel_rfl
def Z15.l0(R:Run)(N n:Nat)(a:vN)(b e:Int)(f:(List ByteArray)):Option Dv:=R.w (some ⟨(zd 3 (.c (.arr 18)::(zd 16 (.c (.d yN a)::(.c (.d yI b)::(.c (.d yI e)::(zd 12 []))))))),(zo 18 (some (.arr .str f true false false)::(zo 20 [])))⟩) fun st=>lC R pol_Z15 5 N [1,1,1,0,1,0,0] F_Z15 n st (kB R pol_Z15 0 (kS R pol_Z15 9 N [1,1,1,1] F_Z15 (qpH E sg_Z15 F_Z15)))
theorem Z15.l0_succ(R:Run)(hw:R.ok)(N n:Nat)(a:vN)(b c:Int)(d:(List ByteArray)):Z15.l0 R N (n+1) a b c d=(bif (decide (c<b)) then((idx? a c).bind fun y9=>((qdy R n_Z9 o_Z9 [⟨yL,y9.2.2.2.1⟩]).bind fun r10=>((chk (decide ((List.length d+List.length [r10.1])*16≤70368744177664))).bind fun _=>(Z15.l0 R N n a b (w64 (c+1)) (d++[r10.1]))))) else((qdy R n_Z134 o_Z134 [⟨(.sl .str),d⟩,⟨.str,(ByteArray.mk #[59])⟩]).bind fun r15=>some ⟨o_Z15,(r15.1,())⟩)):=(hw _ _).trans (by kernel_rfl)
theorem Z15.ev(R:Run)(N:Nat)(a0:vK)(a1:Int)(a2:List Int)(a3:vN):qpj E R sg_Z15 pol_Z15 F_Z15 N [⟨yK,a0⟩,⟨yI,a1⟩,⟨yL,a2⟩,⟨yN,a3⟩]=((qdy R n_Z20 o_Z20 [⟨yK,a0⟩,⟨yI,a1⟩,⟨yL,a2⟩,⟨yN,a3⟩]).bind fun r1=>(bif (!r1.1) then some ⟨o_Z15,((ByteArray.mk #[]),())⟩ else((qdy R n_Z7 o_Z7 [⟨yK,a0⟩]).bind fun r2=>((qdy R n_Z8 o_Z8 [⟨yI,a1⟩]).bind fun r3=>((qdy R n_Z9 o_Z9 [⟨yL,a2⟩]).bind fun r4=>(Z15.l0 R N N a3 (List.length a3:Int) (0:Int) [r2.1,r3.1,r4.1])))))):=by kernel_rfl
def Z14.j2(R:Run)(N:Nat)(a:Bool)(b e:Int)(f:vN)(g:vK)(h:List Int):Option Dv:=R.w (some ⟨(V.dead::(V.dead::(.c (.box 2 0)::(zd 4 (.c (.box 7 0)::(zd 104 (.c (.d .bool a)::(V.dead::(V.dead::[]))))))))),(none::(none::(some (.box [.nils yL,.d yI b,.nils yI,.nils (.st yM)] false false)::(zo 4 (some (.box [.arr 117,.d yI e,.arr 118,.arr 101] false false)::(zo 93 (some (.arr (.st yM) f true false false)::(zo 15 (some (.arr yL g true false false)::(some (.arr yI h true false false)::[]))))))))))⟩) fun st=>eC R pol_Z14 N [1,1,1,1,1,1,1,1,1,1,0,1] F_Z14 st (kS R pol_Z14 19 N [1,1,1,1,1,1,1,1,1,1,1] F_Z14 (qpH E sg_Z14 F_Z14))
def Z14.l1(R:Run)(N n:Nat)(a:ByteArray)(b:(List ByteArray))(e:(List (Int×Int×Int×Unit)))(f g h i:Int)(j:vN)(k:vK)(l:List Int):Option Dv:=R.w (some ⟨(.c (.d .str a)::(V.dead::(.c (.box 2 0)::(V.dead::(.c (.d (.sl .str) b)::(V.dead::(V.dead::(.c (.box 7 0)::(zd 58 (.c (.d (.sl (.st (.cons yI (.cons yI (.cons yI .nil))))) e)::(.c (.d yI f)::(.c (.d yI g)::(zd 46 []))))))))))))),(none::(none::(some (.box [.nils yL,.d yI h,.nils yI,.nils (.st yM)] false false)::(zo 4 (some (.box [.arr 117,.d yI i,.arr 118,.arr 101] false false)::(zo 93 (some (.arr (.st yM) j true false false)::(zo 15 (some (.arr yL k true false false)::(some (.arr yI l true false false)::[]))))))))))⟩) fun st=>lC R pol_Z14 12 N [1,1,1,1,1,1,1,1,1,0,1,0,0] F_Z14 n st (kB R pol_Z14 0 (kS R pol_Z14 17 N [1,1,1,1,1,1,1,1,1,1] F_Z14 (qpH E sg_Z14 F_Z14)))
def Z14.j0(R:Run)(N:Nat)(a:ByteArray)(b:(List ByteArray))(e:(List (Int×Int×Int×Unit)))(f:Bool)(g h:Int)(i:vK)(j:List Int):Option Dv:=R.w (some ⟨(.c (.d .str a)::(V.dead::(.c (.box 2 0)::(V.dead::(.c (.d (.sl .str) b)::(V.dead::(V.dead::(.c (.box 7 0)::(.c (.d (.sl (.st (.cons yI (.cons yI (.cons yI .nil))))) e)::(zd 55 (.c (.d .bool f)::(zd 50 [])))))))))))),(none::(none::(some (.box [.nils yL,.d yI g,.nils yI,.nils (.st yM)] false false)::(zo 4 (some (.box [.arr 117,.d yI h,.arr 118,.nils (.st yM)] false false)::(zo 109 (some (.arr yL i true false false)::(some (.arr yI j true false false)::[]))))))))⟩) fun st=>eC R pol_Z14 N [1,1,1,1,1,1,1,1,0,1] F_Z14 st (kS R pol_Z14 11 N [1,1,1,1,1,1,1,1,1] F_Z14 (qpH E sg_Z14 F_Z14))
theorem Z14.j2_eq(R:Run)(hw:R.ok)(N:Nat)(a:Bool)(b c:Int)(d:vN)(e:vK)(f:List Int):Z14.j2 R N a b c d e f=(bif a then some ⟨o_Z14,(([]:List (List Int)),(0:Int),([]:List Int),([]:List vM),false,())⟩ else some ⟨o_Z14,(e,c,f,d,true,())⟩):=(hw _ _).trans (by kernel_rfl)
theorem Z14.l1_succ(R:Run)(hw:R.ok)(N n:Nat)(a:ByteArray)(b:(List ByteArray))(c:(List (Int×Int×Int×Unit)))(d e f g:Int)(h:vN)(i:vK)(j:List Int):Z14.l1 R N (n+1) a b c d e f g h i j=(bif (decide (e<d)) then((idx? c e).bind fun y27=>((idx? b (w64 (e+(3:Int)))).bind fun y28=>((qdy R n_Z13 o_Z13 [⟨.str,(y28,()).1⟩]).bind fun r29=>((chk (decide (0≤y27.1)&&decide (y27.1<(List.length j:Int)))).bind fun _=>(Option.bind (j)[(Int.toNat y27.1)]? fun y30=>((chk (decide (0≤y27.2.2.1)&&decide (y27.2.2.1<(List.length j:Int)))).bind fun _=>(Option.bind (j)[(Int.toNat y27.2.2.1)]? fun y31=>((chk (decide ((List.length h+List.length [(g,y30,y31,r29.1,())])*48≤70368744177664))).bind fun _=>(Z14.l1 R N n a b c d (w64 (e+1)) f g (h++[(g,y30,y31,r29.1,())]) i j))))))))) else((qdy R n_Z20 o_Z20 [⟨yK,i⟩,⟨yI,g⟩,⟨yL,j⟩,⟨yN,h⟩]).bind fun r42=>(bif (!r42.1) then(Z14.j2 R N true f g h i j) else((qdy R n_Z15 o_Z15 [⟨yK,i⟩,⟨yI,g⟩,⟨yL,j⟩,⟨yN,h⟩]).bind fun r49=>(Z14.j2 R N (!(ByteArray.toList r49.1==ByteArray.toList a)) f g h i j))))):=(hw _ _).trans (by kernel_rfl)
theorem Z14.j0_eq(R:Run)(hw:R.ok)(N:Nat)(a:ByteArray)(b:(List ByteArray))(c:(List (Int×Int×Int×Unit)))(d:Bool)(e f:Int)(g:vK)(h:List Int):Z14.j0 R N a b c d e f g h=(bif d then some ⟨o_Z14,(([]:List (List Int)),(0:Int),([]:List Int),([]:List vM),false,())⟩ else(Z14.l1 R N N a b c (List.length c:Int) (0:Int) e f ([]:List vM) g h)):=(hw _ _).trans (by kernel_rfl)
theorem Z14.ev(R:Run)(N:Nat)(a0:ByteArray):qpj E R sg_Z14 pol_Z14 F_Z14 N [⟨.str,a0⟩]=((qdy R n_Z135 o_Z135 [⟨.str,a0⟩,⟨.str,(ByteArray.mk #[59])⟩]).bind fun r1=>(bif (decide ((List.length r1.1:Int)<(3:Int))) then some ⟨o_Z14,(([]:List (List Int)),(0:Int),([]:List Int),([]:List vM),false,())⟩ else((idx? r1.1 (0:Int)).bind fun y2=>((qdy R n_Z11 o_Z11 [⟨.str,(y2,()).1⟩]).bind fun r3=>((idx? r1.1 (1:Int)).bind fun y4=>((qdy R n_Z12 o_Z12 [⟨.str,(y4,()).1⟩]).bind fun r5=>((idx? r1.1 (2:Int)).bind fun y6=>((qdy R n_Z13 o_Z13 [⟨.str,(y6,()).1⟩]).bind fun r7=>((qdy R n_Z27 o_Z27 [⟨yK,r3.1⟩]).bind fun r8=>(bif (!r3.2.1) then(Z14.j0 R N a0 r1.1 r8.1 true (0:Int) r5.1 r3.1 r7.1) else(bif ((w64 ((List.length r1.1:Int)-(3:Int))) != (List.length r8.1:Int)) then(Z14.j0 R N a0 r1.1 r8.1 true (0:Int) r5.1 r3.1 r7.1) else(Z14.j0 R N a0 r1.1 r8.1 ((List.length r7.1:Int) != (List.length r3.1:Int)) (0:Int) r5.1 r3.1 r7.1)))))))))))):=by kernel_rfl
def Z52.l0(R:Run)(N n:Nat)(a b:List Int)(e:Int):Option Dv:=R.w (some ⟨(.c (.d yL a)::(.c (.d yL b)::(zd 3 (.c (.d yI e)::(zd 20 []))))),(zo 28 [])⟩) fun st=>lC R pol_Z52 4 N [1,1,0,1,0,0] F_Z52 n st (kB R pol_Z52 0 (kS R pol_Z52 8 N [1,1,1] F_Z52 (qpH E sg_Z52 F_Z52)))
theorem Z52.l0_succ(R:Run)(hw:R.ok)(N n:Nat)(a b:List Int)(c:Int):Z52.l0 R N (n+1) a b c=(bif (decide (c<(List.length a:Int))) then((idx? a c).bind fun y4=>((idx? b c).bind fun y5=>(bif ((y4,()).1 != (y5,()).1) then some ⟨o_Z52,(false,())⟩ else(Z52.l0 R N n a b (w64 (c+1)))))) else some ⟨o_Z52,(true,())⟩):=(hw _ _).trans (by kernel_rfl)
theorem Z52.ev(R:Run)(N:Nat)(a0 a1:List Int):qpj E R sg_Z52 pol_Z52 F_Z52 N [⟨yL,a0⟩,⟨yL,a1⟩]=(bif ((List.length a0:Int) != (List.length a1:Int)) then some ⟨o_Z52,(false,())⟩ else(Z52.l0 R N N a0 a1 (0:Int))):=by kernel_rfl
def Z53.l0(R:Run)(N n:Nat)(a b:vK)(e:Int):Option Dv:=R.w (some ⟨(.c (.d yK a)::(.c (.d yK b)::(zd 3 (.c (.d yI e)::(zd 21 []))))),(zo 29 [])⟩) fun st=>lC R pol_Z53 4 N [1,1,0,1,0,0] F_Z53 n st (kB R pol_Z53 0 (kS R pol_Z53 8 N [1,1,1] F_Z53 (qpH E sg_Z53 F_Z53)))
theorem Z53.l0_succ(R:Run)(hw:R.ok)(N n:Nat)(a b:vK)(c:Int):Z53.l0 R N (n+1) a b c=(bif (decide (c<(List.length a:Int))) then((idx? a c).bind fun y4=>((idx? b c).bind fun y5=>((qdy R n_Z52 o_Z52 [⟨yL,(y4,()).1⟩,⟨yL,(y5,()).1⟩]).bind fun r6=>(bif (!r6.1) then some ⟨o_Z53,(false,())⟩ else(Z53.l0 R N n a b (w64 (c+1))))))) else some ⟨o_Z53,(true,())⟩):=(hw _ _).trans (by kernel_rfl)
theorem Z53.ev(R:Run)(N:Nat)(a0 a1:vK):qpj E R sg_Z53 pol_Z53 F_Z53 N [⟨yK,a0⟩,⟨yK,a1⟩]=(bif ((List.length a0:Int) != (List.length a1:Int)) then some ⟨o_Z53,(false,())⟩ else(Z53.l0 R N N a0 a1 (0:Int))):=by kernel_rfl
theorem Z51.ev(R:Run)(N:Nat)(a0 a1:vK):qpj E R sg_Z51 pol_Z51 F_Z51 N [⟨yK,a0⟩,⟨yK,a1⟩]=((qdy R n_Z53 o_Z53 [⟨yK,a0⟩,⟨yK,a1⟩]).bind fun r1=>(bif (!r1.1) then some ⟨o_Z51,(false,())⟩ else some ⟨o_Z51,(true,())⟩)):=by kernel_rfl
theorem Z54.ev(R:Run)(N:Nat)(a0 a1 a2:Int)(a3:List Int)(a4 a5 a6:Int)(a7:List Int):qpj E R sg_Z54 pol_Z54 F_Z54 N [⟨yI,a0⟩,⟨yI,a1⟩,⟨yI,a2⟩,⟨yL,a3⟩,⟨yI,a4⟩,⟨yI,a5⟩,⟨yI,a6⟩,⟨yL,a7⟩]=(bif (a0 != a4) then some ⟨o_Z54,(false,())⟩ else(bif (a1 != a5) then some ⟨o_Z54,(false,())⟩ else(bif (a2 != a6) then some ⟨o_Z54,(false,())⟩ else((qdy R n_Z52 o_Z52 [⟨yL,a3⟩,⟨yL,a7⟩]).bind fun r1=>(bif (!r1.1) then some ⟨o_Z54,(false,())⟩ else some ⟨o_Z54,(true,())⟩))))):=by kernel_rfl
def Z55.l0(R:Run)(N n:Nat)(a b:vN)(e:Int):Option Dv:=R.w (some ⟨(.c (.d yN a)::(.c (.d yN b)::(zd 3 (.c (.d yI e)::(zd 21 []))))),(zo 29 [])⟩) fun st=>lC R pol_Z55 4 N [1,1,0,1,0,0] F_Z55 n st (kB R pol_Z55 0 (kS R pol_Z55 8 N [1,1,1] F_Z55 (qpH E sg_Z55 F_Z55)))
theorem Z55.l0_succ(R:Run)(hw:R.ok)(N n:Nat)(a b:vN)(c:Int):Z55.l0 R N (n+1) a b c=(bif (decide (c<(List.length a:Int))) then((idx? a c).bind fun y4=>((idx? b c).bind fun y5=>((qdy R n_Z54 o_Z54 [⟨yI,y4.1⟩,⟨yI,y4.2.1⟩,⟨yI,y4.2.2.1⟩,⟨yL,y4.2.2.2.1⟩,⟨yI,y5.1⟩,⟨yI,y5.2.1⟩,⟨yI,y5.2.2.1⟩,⟨yL,y5.2.2.2.1⟩]).bind fun r6=>(bif (!r6.1) then some ⟨o_Z55,(false,())⟩ else(Z55.l0 R N n a b (w64 (c+1))))))) else some ⟨o_Z55,(true,())⟩):=(hw _ _).trans (by kernel_rfl)
theorem Z55.ev(R:Run)(N:Nat)(a0 a1:vN):qpj E R sg_Z55 pol_Z55 F_Z55 N [⟨yN,a0⟩,⟨yN,a1⟩]=(bif ((List.length a0:Int) != (List.length a1:Int)) then some ⟨o_Z55,(false,())⟩ else(Z55.l0 R N N a0 a1 (0:Int))):=by kernel_rfl
theorem Z56.ev(R:Run)(N:Nat)(a0:vK)(a1:Int)(a2:List Int)(a3:vN)(a4:vK)(a5:Int)(a6:List Int)(a7:vN):qpj E R sg_Z56 pol_Z56 F_Z56 N [⟨yK,a0⟩,⟨yI,a1⟩,⟨yL,a2⟩,⟨yN,a3⟩,⟨yK,a4⟩,⟨yI,a5⟩,⟨yL,a6⟩,⟨yN,a7⟩]=((qdy R n_Z51 o_Z51 [⟨yK,a0⟩,⟨yK,a4⟩]).bind fun r1=>(bif (!r1.1) then some ⟨o_Z56,(false,())⟩ else(bif (a1 != a5) then some ⟨o_Z56,(false,())⟩ else((qdy R n_Z52 o_Z52 [⟨yL,a2⟩,⟨yL,a6⟩]).bind fun r2=>(bif (!r2.1) then some ⟨o_Z56,(false,())⟩ else((qdy R n_Z55 o_Z55 [⟨yN,a3⟩,⟨yN,a7⟩]).bind fun r3=>(bif (!r3.1) then some ⟨o_Z56,(false,())⟩ else some ⟨o_Z56,(true,())⟩))))))):=by kernel_rfl
def Z63.l0(R:Run)(N n:Nat)(a b:Int)(e:List Int):Option Dv:=R.w (some ⟨(.c (.arr 19)::(.c (.d yI a)::(zd 3 (.c (.d yI b)::(zd 13 []))))),(zo 19 (some (.arr yI e true false true)::(none::[])))⟩) fun st=>lC R pol_Z63 2 N [1,0,1,0,0] F_Z63 n st (kB R pol_Z63 0 (kS R pol_Z63 6 N [1,1] F_Z63 (qpH E sg_Z63 F_Z63)))
theorem Z63.l0_succ(R:Run)(hw:R.ok)(N n:Nat)(a b:Int)(c:List Int):Z63.l0 R N (n+1) a b c=(bif (decide (b<(List.length c:Int))) then((chk (decide (0≤b)&&decide (b<(List.length c:Int)))).bind fun _=>(Z63.l0 R N n (w64 (a+1)) (w64 (b+1)) (List.set c (Int.toNat b) a))) else some ⟨o_Z63,(a,c,())⟩):=(hw _ _).trans (by kernel_rfl)
theorem Z63.ev(R:Run)(N:Nat)(a0:List Int)(a1:Int):qpj E R sg_Z63 pol_Z63 F_Z63 N [⟨yL,a0⟩,⟨yI,a1⟩]=(Z63.l0 R N N a1 (0:Int) a0):=by kernel_rfl
theorem Z62.ev(R:Run)(N:Nat)(a0:vK)(a1:Int):qpj E R sg_Z62 pol_Z62 F_Z62 N [⟨yK,a0⟩,⟨yI,a1⟩]=((qdy R n_Z64 o_Z64 [⟨yK,a0⟩,⟨yI,a1⟩]).bind fun r1=>some ⟨o_Z62,(r1.1,r1.2.1,())⟩):=by kernel_rfl
theorem Z66.ev(R:Run)(N:Nat)(a0:vK)(a1:Int)(a2:List Int)(a3:vN)(a4:Int):qpj E R sg_Z66 pol_Z66 F_Z66 N [⟨yK,a0⟩,⟨yI,a1⟩,⟨yL,a2⟩,⟨yN,a3⟩,⟨yI,a4⟩]=((qdy R n_Z62 o_Z62 [⟨yK,a0⟩,⟨yI,a4⟩]).bind fun r1=>((qdy R n_Z63 o_Z63 [⟨yL,a2⟩,⟨yI,r1.1⟩]).bind fun r2=>((qdy R n_Z65 o_Z65 [⟨yN,a3⟩,⟨yI,r2.1⟩]).bind fun r3=>some ⟨o_Z66,(r3.1,r1.2.1,r2.2.1,r3.2.1,())⟩))):=by kernel_rfl
def Z58.l0(R:Run)(N n:Nat)(a:List Int)(b e:Int):Option Dv:=R.w (some ⟨(.c (.d yL a)::(.c (.d yI b)::(zd 3 (.c (.d yI e)::(zd 15 []))))),(zo 23 [])⟩) fun st=>lC R pol_Z58 2 N [1,0,1,0,0] F_Z58 n st (kB R pol_Z58 0 (kS R pol_Z58 7 N [1,1] F_Z58 (qpH E sg_Z58 F_Z58)))
theorem Z58.l0_succ(R:Run)(hw:R.ok)(N n:Nat)(a:List Int)(b c:Int):Z58.l0 R N (n+1) a b c=(bif (decide (c<(List.length a:Int))) then((idx? a c).bind fun y4=>(bif ((y4,()).1 != b) then some ⟨o_Z58,((-1:Int),())⟩ else(Z58.l0 R N n a (w64 (b+1)) (w64 (c+1))))) else some ⟨o_Z58,(b,())⟩):=(hw _ _).trans (by kernel_rfl)
theorem Z58.ev(R:Run)(N:Nat)(a0:List Int)(a1:Int):qpj E R sg_Z58 pol_Z58 F_Z58 N [⟨yL,a0⟩,⟨yI,a1⟩]=(Z58.l0 R N N a0 a1 (0:Int)):=by kernel_rfl
def Z59.l0(R:Run)(N n:Nat)(a:vK)(b e:Int):Option Dv:=R.w (some ⟨(.c (.d yK a)::(.c (.d yI b)::(zd 3 (.c (.d yI e)::(zd 15 []))))),(zo 23 [])⟩) fun st=>lC R pol_Z59 2 N [1,0,1,0,0] F_Z59 n st (kB R pol_Z59 0 (kS R pol_Z59 7 N [1,1] F_Z59 (qpH E sg_Z59 F_Z59)))
theorem Z59.l0_succ(R:Run)(hw:R.ok)(N n:Nat)(a:vK)(b c:Int):Z59.l0 R N (n+1) a b c=(bif (decide (c<(List.length a:Int))) then((idx? a c).bind fun y4=>((qdy R n_Z58 o_Z58 [⟨yL,(y4,()).1⟩,⟨yI,b⟩]).bind fun r5=>(bif (decide (r5.1<(0:Int))) then some ⟨o_Z59,((-1:Int),())⟩ else(Z59.l0 R N n a r5.1 (w64 (c+1)))))) else some ⟨o_Z59,(b,())⟩):=(hw _ _).trans (by kernel_rfl)
theorem Z59.ev(R:Run)(N:Nat)(a0:vK)(a1:Int):qpj E R sg_Z59 pol_Z59 F_Z59 N [⟨yK,a0⟩,⟨yI,a1⟩]=(Z59.l0 R N N a0 a1 (0:Int)):=by kernel_rfl
theorem Z57.ev(R:Run)(N:Nat)(a0:vK)(a1:Int):qpj E R sg_Z57 pol_Z57 F_Z57 N [⟨yK,a0⟩,⟨yI,a1⟩]=((qdy R n_Z59 o_Z59 [⟨yK,a0⟩,⟨yI,a1⟩]).bind fun r1=>(bif (decide (r1.1<(0:Int))) then some ⟨o_Z57,((-1:Int),())⟩ else some ⟨o_Z57,(r1.1,())⟩)):=by kernel_rfl
def Z60.l0(R:Run)(N n:Nat)(a:vN)(b e:Int):Option Dv:=R.w (some ⟨(.c (.d yN a)::(.c (.d yI b)::(zd 3 (.c (.d yI e)::(zd 43 []))))),(zo 51 [])⟩) fun st=>lC R pol_Z60 2 N [1,0,1,0,0] F_Z60 n st (kB R pol_Z60 0 (kS R pol_Z60 16 N [1,1] F_Z60 (qpH E sg_Z60 F_Z60)))
theorem Z60.l0_succ(R:Run)(hw:R.ok)(N n:Nat)(a:vN)(b c:Int):Z60.l0 R N (n+1) a b c=(bif (decide (c<(List.length a:Int))) then((idx? a c).bind fun y4=>(bif (y4.1 != b) then some ⟨o_Z60,((-1:Int),())⟩ else((idx? a c).bind fun y5=>(bif (y5.2.1 != (w64 (b+1))) then some ⟨o_Z60,((-1:Int),())⟩ else((idx? a c).bind fun y6=>(bif (y6.2.2.1 != (w64 ((w64 (b+1))+(1:Int)))) then some ⟨o_Z60,((-1:Int),())⟩ else((idx? a c).bind fun y7=>((qdy R n_Z58 o_Z58 [⟨yL,y7.2.2.2.1⟩,⟨yI,(w64 ((w64 ((w64 (b+1))+(1:Int)))+(1:Int)))⟩]).bind fun r8=>(bif (decide (r8.1<(0:Int))) then some ⟨o_Z60,((-1:Int),())⟩ else(Z60.l0 R N n a r8.1 (w64 (c+1)))))))))))) else some ⟨o_Z60,(b,())⟩):=(hw _ _).trans (by kernel_rfl)
theorem Z60.ev(R:Run)(N:Nat)(a0:vN)(a1:Int):qpj E R sg_Z60 pol_Z60 F_Z60 N [⟨yN,a0⟩,⟨yI,a1⟩]=(Z60.l0 R N N a0 a1 (0:Int)):=by kernel_rfl
theorem Z61.ev(R:Run)(N:Nat)(a0:vK)(a1:Int)(a2:List Int)(a3:vN)(a4:Int):qpj E R sg_Z61 pol_Z61 F_Z61 N [⟨yK,a0⟩,⟨yI,a1⟩,⟨yL,a2⟩,⟨yN,a3⟩,⟨yI,a4⟩]=((qdy R n_Z57 o_Z57 [⟨yK,a0⟩,⟨yI,a4⟩]).bind fun r1=>(bif (decide (r1.1<(0:Int))) then some ⟨o_Z61,((-1:Int),())⟩ else((qdy R n_Z58 o_Z58 [⟨yL,a2⟩,⟨yI,r1.1⟩]).bind fun r2=>(bif (decide (r2.1<(0:Int))) then some ⟨o_Z61,((-1:Int),())⟩ else((qdy R n_Z60 o_Z60 [⟨yN,a3⟩,⟨yI,r2.1⟩]).bind fun r3=>(bif (decide (r3.1<(0:Int))) then some ⟨o_Z61,((-1:Int),())⟩ else some ⟨o_Z61,(r3.1,())⟩)))))):=by kernel_rfl
def Z50.j1(R:Run)(N:Nat)(a:Int)(b:Bool)(e:Int)(f:vK)(g:List Int)(h:vN):Option Dv:=R.w (some ⟨(zd 5 (.c (.box 5 0)::(V.dead::(.c (.d yI a)::(zd 49 (.c (.d .bool b)::(zd 8 []))))))),(zo 5 (some (.box [.arr 67,.d yI e,.arr 68,.arr 69] false false)::(zo 61 (some (.arr yL f true false false)::(some (.arr yI g true false false)::(some (.arr (.st yM) h true false false)::[]))))))⟩) fun st=>eC R pol_Z50 N [1,1,1,1,1,1,1,1,1,1,1,1,0,1] F_Z50 st (kS R pol_Z50 18 N [1,1,1,1,1,1,1,1,1,1,1,1,1] F_Z50 (qpH E sg_Z50 F_Z50))
def Z50.j0(R:Run)(N:Nat)(a:ByteArray)(b e:Bool)(f:vK)(g:Int)(h:List Int)(i:vN)(j:Int)(k:vK)(l:List Int)(m:vN):Option Dv:=R.w (some ⟨(.c (.d .str a)::(V.dead::(V.dead::(.c (.box 3 0)::(.c (.d .bool b)::(.c (.box 5 0)::(zd 26 (.c (.d .bool e)::(zd 33 []))))))))),(zo 3 (some (.box [.d yK f,.d yI g,.d yL h,.d yN i] false false)::(none::(some (.box [.arr 67,.d yI j,.arr 68,.arr 69] false false)::(zo 61 (some (.arr yL k true false false)::(some (.arr yI l true false false)::(some (.arr (.st yM) m true false false)::[]))))))))⟩) fun st=>eC R pol_Z50 N [1,1,1,1,0,1] F_Z50 st (kS R pol_Z50 7 N [1,1,1,1,1] F_Z50 (qpH E sg_Z50 F_Z50))
theorem Z50.j1_eq(R:Run)(hw:R.ok)(N:Nat)(a:Int)(b:Bool)(c:Int)(d:vK)(e:List Int)(f:vN):Z50.j1 R N a b c d e f=(bif b then some ⟨o_Z50,(false,())⟩ else((qdy R n_Z61 o_Z61 [⟨yK,d⟩,⟨yI,c⟩,⟨yL,e⟩,⟨yN,f⟩,⟨yI,(1:Int)⟩]).bind fun r25=>(bif (decide (r25.1<(0:Int))) then some ⟨o_Z50,(false,())⟩ else(bif (r25.1 != a) then some ⟨o_Z50,(false,())⟩ else some ⟨o_Z50,(true,())⟩)))):=(hw _ _).trans (by kernel_rfl)
theorem Z50.j0_eq(R:Run)(hw:R.ok)(N:Nat)(a:ByteArray)(b c:Bool)(d:vK)(e:Int)(f:List Int)(g:vN)(h:Int)(i:vK)(j:List Int)(k:vN):Z50.j0 R N a b c d e f g h i j k=(bif c then some ⟨o_Z50,(false,())⟩ else((qdy R n_Z66 o_Z66 [⟨yK,i⟩,⟨yI,h⟩,⟨yL,j⟩,⟨yN,k⟩,⟨yI,(1:Int)⟩]).bind fun r15=>((qdy R n_Z61 o_Z61 [⟨yK,r15.2.1⟩,⟨yI,h⟩,⟨yL,r15.2.2.1⟩,⟨yN,r15.2.2.2.1⟩,⟨yI,(1:Int)⟩]).bind fun r16=>(bif (decide (r16.1<(0:Int))) then some ⟨o_Z50,(false,())⟩ else(bif (r16.1 != r15.1) then some ⟨o_Z50,(false,())⟩ else((qdy R n_Z14 o_Z14 [⟨.str,a⟩]).bind fun r17=>((qdy R n_Z56 o_Z56 [⟨yK,r17.1⟩,⟨yI,r17.2.1⟩,⟨yL,r17.2.2.1⟩,⟨yN,r17.2.2.2.1⟩,⟨yK,d⟩,⟨yI,e⟩,⟨yL,f⟩,⟨yN,g⟩]).bind fun r18=>(bif (!r18.1) then(Z50.j1 R N r15.1 true h r15.2.1 r15.2.2.1 r15.2.2.2.1) else(Z50.j1 R N r15.1 (r17.2.2.2.2.1 != b) h r15.2.1 r15.2.2.1 r15.2.2.2.1))))))))):=(hw _ _).trans (by kernel_rfl)
theorem Z50.ev(R:Run)(N:Nat)(a0:ByteArray):qpj E R sg_Z50 pol_Z50 F_Z50 N [⟨.str,a0⟩]=(bif (decide ((ByteArray.size a0:Int)>(1048576:Int))) then some ⟨o_Z50,(true,())⟩ else((qdy R n_Z98 o_Z98 [⟨.str,a0⟩]).bind fun r1=>((qdy R n_Z14 o_Z14 [⟨.str,a0⟩]).bind fun r2=>((qdy R n_Z56 o_Z56 [⟨yK,r2.1⟩,⟨yI,r2.2.1⟩,⟨yL,r2.2.2.1⟩,⟨yN,r2.2.2.2.1⟩,⟨yK,r1.1⟩,⟨yI,r1.2.1⟩,⟨yL,r1.2.2.1⟩,⟨yN,r1.2.2.2.1⟩]).bind fun r3=>(bif (!r3.1) then(Z50.j0 R N a0 r1.2.2.2.2.1 true r1.1 r1.2.1 r1.2.2.1 r1.2.2.2.1 r2.2.1 r2.1 r2.2.2.1 r2.2.2.2.1) else(Z50.j0 R N a0 r1.2.2.2.2.1 (r2.2.2.2.2.1 != r1.2.2.2.2.1) r1.1 r1.2.1 r1.2.2.1 r1.2.2.2.1 r2.2.1 r2.1 r2.2.2.1 r2.2.2.2.1)))))):=by kernel_rfl
end
end VeT


open Go Go.Proofs Ve
set_option maxRecDepth 100000
namespace VeT
@[reducible] noncomputable def qaj:Func:=Tryz.f197
@[reducible] def qaq:Ty:=(.cons (.sl (.lab yL)) .nil)
noncomputable def qaD:Sig:=⟨[(false,1),(false,1)],[.take false,.imm],qaq,[(false,1)],[.own],[]⟩
noncomputable def qac:Pol:=⟨68,[],[(4,⟨[0,1,5],[66],[],[],[],[],[]⟩),(9,⟨[0,1,5,6,7],[66],[],[],[],[],[]⟩)],[],[],[]⟩
noncomputable def slices_CompactFunc_SSint64_Sint64_L.l1(R:Run)(N:Nat)(n110100:Nat)(n:Nat)(t5__6:Int)(t6__7:Nat)(t6__8:Nat)(t7__9:Int)(o66_10:(List (Value×(List Int)))):Option Dv:=R.w (some ⟨(.c (.arr 66)::(.c (.d (.fn n_Z83 .nil) ())::(zd 3 (.c (.d yI t5__6)::(.c (.sub 66 t6__7 t6__8 1)::(.c (.d yI t7__9)::(zd 58 []))))))),(zo 66 (some (.arr (.lab yL) o66_10 false false false)::(none::[])))⟩) fun st=>qkM (qa4 E R qac N (sub [1,1,0,1,0,0,1,0,0,1,0,1,0,1,0,0] (bodyOf qaj))) (qbD R qac.loopM 9) n st (qpr (qbD R qac.blkM 2) 2 (qpn (qbD R qac.seqM 14) (qa4 E R qac N (sub [1,1,0,1,0,0,1,0,0,1,0,1,1] (bodyOf qaj))) (qpr (qbD R qac.blkM 1) 1 (qpn (qbD R qac.seqM 5) (qa4 E R qac N (sub [1,1,0,1,0,0,1,1] (bodyOf qaj))) (qpN (qa4 E R qac N (sub [1,1,0,1,0,0] (bodyOf qaj))) (qbD R qac.loopM 4) n110100 (qpr (qbD R qac.blkM 0) 0 (qpn (qbD R qac.seqM 16) (qa4 E R qac N (sub [1,1,1] (bodyOf qaj))) (qpH E qaD qaj))))))))
noncomputable def slices_CompactFunc_SSint64_Sint64_L.l0(R:Run)(N:Nat)(n:Nat)(t5__1:Int)(o66_2:(List (Value×(List Int)))):Option Dv:=R.w (some ⟨(.c (.arr 66)::(.c (.d (.fn n_Z83 .nil) ())::(zd 3 (.c (.d yI t5__1)::(zd 60 []))))),(zo 66 (some (.arr (.lab yL) o66_2 false false false)::(none::[])))⟩) fun st=>qkM (qa4 E R qac N (sub [1,1,0,1,0,0] (bodyOf qaj))) (qbD R qac.loopM 4) n st (qpr (qbD R qac.blkM 0) 0 (qpn (qbD R qac.seqM 16) (qa4 E R qac N (sub [1,1,1] (bodyOf qaj))) (qpH E qaD qaj)))
theorem slices_CompactFunc_SSint64_Sint64_L.l1_succ(R:Run)(hw:R.ok)(N:Nat)(n110100:Nat)(n:Nat)(t5__6:Int)(t6__7:Nat)(t6__8:Nat)(t7__9:Int)(o66_10:(List (Value×(List Int)))):slices_CompactFunc_SSint64_Sint64_L.l1 R N n110100 (n+1) t5__6 t6__7 t6__8 t7__9 o66_10=(Option.bind (chk (decide (t6__7≤t6__8)&&decide (t6__8≤List.length o66_10))) fun _=>(bif (decide (t7__9<((t6__8-t6__7:Nat):Int))) then(Option.bind (chk (decide (0≤t7__9)&&decide ((t6__7:Nat)+t7__9<((t6__8:Nat):Int))&&decide (t6__8≤List.length o66_10))) fun _=>(Option.bind (o66_10)[(t6__7+Int.toNat t7__9)]? fun y11=>(Option.bind (chk (decide (0≤(w64 (t7__9-(1:Int))))&&decide ((t6__7:Nat)+(w64 (t7__9-(1:Int)))<((t6__8:Nat):Int))&&decide (t6__8≤List.length o66_10))) fun _=>(Option.bind (o66_10)[(t6__7+Int.toNat (w64 (t7__9-(1:Int))))]? fun y12=>(Option.bind (qdy R n_Z83 o_Z83 [⟨yL,y11.2⟩,⟨yL,y12.2⟩]) fun r13=>(bif (!r13.1) then(Option.bind (chk (decide (0≤t7__9)&&decide ((t6__7:Nat)+t7__9<((t6__8:Nat):Int))&&decide (t6__8≤List.length o66_10))) fun _=>(Option.bind (o66_10)[(t6__7+Int.toNat t7__9)]? fun y14=>(Option.bind (chk (decide (0≤t5__6)&&decide (t5__6<(List.length o66_10:Int)))) fun _=>(slices_CompactFunc_SSint64_Sint64_L.l1 R N n110100 n (w64 (t5__6+(1:Int))) t6__7 t6__8 (w64 (t7__9+(1:Int))) (List.set o66_10 (Int.toNat t5__6) y14))))) else(slices_CompactFunc_SSint64_Sint64_L.l1 R N n110100 n t5__6 t6__7 t6__8 (w64 (t7__9+(1:Int))) o66_10))))))) else(Option.bind (chk (decide (0≤t5__6)&&decide (t5__6≤(List.length o66_10:Int)))) fun _=>(Option.bind (chk (decide ((Int.toNat t5__6)≤(List.length o66_10))&&decide ((List.length o66_10)≤List.length o66_10))) fun _=>(Option.bind (chk (decide (0≤t5__6)&&decide (t5__6≤(List.length (List.take (Int.toNat t5__6) o66_10++List.replicate ((List.length o66_10)-(Int.toNat t5__6)) (Value.slice none 0 0,([]:(List Int)))++List.drop (List.length o66_10) o66_10):Int)))) fun _=>some ⟨qaq,((List.drop 0 (List.take (Int.toNat t5__6) (List.take (Int.toNat t5__6) o66_10++List.replicate ((List.length o66_10)-(Int.toNat t5__6)) (Value.slice none 0 0,([]:(List Int)))++List.drop (List.length o66_10) o66_10))),())⟩))))):=(hw _ _).trans (by kernel_rfl)
theorem slices_CompactFunc_SSint64_Sint64_L.l0_succ(R:Run)(hw:R.ok)(N:Nat)(n:Nat)(t5__1:Int)(o66_2:(List (Value×(List Int)))):slices_CompactFunc_SSint64_Sint64_L.l0 R N (n+1) t5__1 o66_2=(bif (decide (t5__1<(List.length o66_2:Int))) then(Option.bind (chk (decide (0≤t5__1)&&decide (t5__1<(List.length o66_2:Int)))) fun _=>(Option.bind (o66_2)[(Int.toNat t5__1)]? fun y3=>(Option.bind (chk (decide (0≤(w64 (t5__1-(1:Int))))&&decide ((w64 (t5__1-(1:Int)))<(List.length o66_2:Int)))) fun _=>(Option.bind (o66_2)[(Int.toNat (w64 (t5__1-(1:Int))))]? fun y4=>(Option.bind (qdy R n_Z83 o_Z83 [⟨yL,y3.2⟩,⟨yL,y4.2⟩]) fun r5=>(bif r5.1 then(Option.bind (chk (decide (0≤t5__1)&&decide (t5__1≤(List.length o66_2:Int)))) fun _=>(slices_CompactFunc_SSint64_Sint64_L.l1 R N n N t5__1 (Int.toNat t5__1) (List.length o66_2) (1:Int) o66_2)) else(slices_CompactFunc_SSint64_Sint64_L.l0 R N n (w64 (t5__1+(1:Int))) o66_2))))))) else some ⟨qaq,(o66_2,())⟩):=(hw _ _).trans (by kernel_rfl)
theorem slices_CompactFunc_SSint64_Sint64_L.ev(R:Run)(N:Nat)(a0:(List (Value×(List Int)))):qpj E R qaD qac qaj N [⟨(.sl (.lab yL)),a0⟩,⟨(.fn n_Z83 .nil),()⟩]=(bif (decide ((List.length a0:Int)<(2:Int))) then some ⟨qaq,(a0,())⟩ else(slices_CompactFunc_SSint64_Sint64_L.l0 R N N (1:Int) a0)):=by kernel_rfl
end VeT
namespace Go.Proofs
open Go.Shelf
def Tryz.joinl40_ren:Go.Shelf.Ren:=⟨fun | 156=>40 | 165=>101 | 166=>102 | 169=>103 | 240=>162 | 241=>163 | 276=>211 | 277=>212 | n=>n,fun | 31=>73 | 9=>9 | 3=>3 | 4=>4 | 0=>0 | 20=>20 | 72=>133 | 76=>137 | 70=>131 | 37=>42 | 75=>136 | 127=>178 | 164=>208 | 5=>5 | 80=>139 | n=>n,fun | n=>n⟩
theorem Tryz.joinl40:Go.Proofs.Lays.n156 Tryz.prog Tryz.joinl40_ren:={
 mixed:=by kernel_rfl
 f156:=Tryz.func40.trans (congrArg some (by kernel_rfl))
 f165:=Tryz.func101.trans (congrArg some (by kernel_rfl))
 f166:=Tryz.func102.trans (congrArg some (by kernel_rfl))
 f169:=Tryz.func103.trans (congrArg some (by kernel_rfl))
 f240:=Tryz.func162.trans (congrArg some (by kernel_rfl))
 f241:=Tryz.func163.trans (congrArg some (by kernel_rfl))
 f276:=Tryz.func211.trans (congrArg some (by kernel_rfl))
 f277:=Tryz.func212.trans (congrArg some (by kernel_rfl))
 t0:=Tryz.underlying0
 a0:=Tryz.isAgg0
 z0:=Tryz.sizeOf0
 v0:=Tryz.zeroValue0
 t3:=Tryz.underlying3
 a3:=Tryz.isAgg3
 z3:=Tryz.sizeOf3
 v3:=Tryz.zeroValue3
 t4:=Tryz.underlying4
 a4:=Tryz.isAgg4
 z4:=Tryz.sizeOf4
 v4:=Tryz.zeroValue4
 t9:=Tryz.underlying9
 a9:=Tryz.isAgg9
 z9:=Tryz.sizeOf9
 v9:=Tryz.zeroValue9
 t20:=Tryz.underlying20
 a20:=Tryz.isAgg20
 z20:=Tryz.sizeOf20
 v20:=Tryz.zeroValue20
 t31:=Tryz.underlying73
 a31:=Tryz.isAgg73
 z31:=Tryz.sizeOf73
 v31:=Tryz.zeroValue73
 t37:=Tryz.underlying42
 a37:=Tryz.isAgg42
 z37:=Tryz.sizeOf42
 v37:=Tryz.zeroValue42
 t70:=Tryz.underlying131
 a70:=Tryz.isAgg131
 z70:=Tryz.sizeOf131
 v70:=Tryz.zeroValue131
 t72:=Tryz.underlying133
 a72:=Tryz.isAgg133
 z72:=Tryz.sizeOf133
 v72:=Tryz.zeroValue133
 t75:=Tryz.underlying136
 a75:=Tryz.isAgg136
 z75:=Tryz.sizeOf136
 v75:=Tryz.zeroValue136
 t76:=Tryz.underlying137
 a76:=Tryz.isAgg137
 z76:=Tryz.sizeOf137
 v76:=Tryz.zeroValue137
 t127:=Tryz.underlying178
 a127:=Tryz.isAgg178
 z127:=Tryz.sizeOf178
 v127:=Tryz.zeroValue178
 t164:=Tryz.underlying208
 a164:=Tryz.isAgg208
 z164:=Tryz.sizeOf208
 v164:=Tryz.zeroValue208 }
def Tryz.splitl45_ren:Go.Shelf.Ren:=⟨fun | 146=>45 | 221=>112 | 268=>167 | 138=>168 | 143=>169 | 195=>213 | 197=>214 | 218=>215 | 219=>216 | 260=>240 | 217=>241 | 225=>242 | 224=>243 | 267=>244 | 266=>266 | 314=>267 | n=>n,fun | 9=>9 | 31=>73 | 3=>3 | 4=>4 | 0=>0 | 105=>212 | 21=>21 | 5=>5 | 46=>219 | 119=>251 | 139=>254 | 138=>253 | 146=>255 | 51=>236 | n=>n,fun | 1=>1 | 3=>4 | 4=>5 | n=>n⟩
theorem Tryz.splitl45:Go.Proofs.LaysM.n146 Tryz.prog Tryz.splitl45_ren:={
 mixed:=by kernel_rfl
 f138:=Tryz.func168.trans (congrArg some (by kernel_rfl))
 f143:=Tryz.func169.trans (congrArg some (by kernel_rfl))
 f146:=Tryz.func45.trans (congrArg some (by kernel_rfl))
 f195:=Tryz.func213.trans (congrArg some (by kernel_rfl))
 f197:=Tryz.func214.trans (congrArg some (by kernel_rfl))
 f217:=Tryz.func241.trans (congrArg some (by kernel_rfl))
 f218:=Tryz.func215.trans (congrArg some (by kernel_rfl))
 f219:=Tryz.func216.trans (congrArg some (by kernel_rfl))
 f221:=Tryz.func112.trans (congrArg some (by kernel_rfl))
 f224:=Tryz.func243.trans (congrArg some (by kernel_rfl))
 f225:=Tryz.func242.trans (congrArg some (by kernel_rfl))
 f260:=Tryz.func240.trans (congrArg some (by kernel_rfl))
 f266:=Tryz.func266.trans (congrArg some (by kernel_rfl))
 f267:=Tryz.func244.trans (congrArg some (by kernel_rfl))
 f268:=Tryz.func167.trans (congrArg some (by kernel_rfl))
 f314:=Tryz.func267.trans (congrArg some (by kernel_rfl))
 t0:=Tryz.underlying0
 a0:=Tryz.isAgg0
 z0:=Tryz.sizeOf0
 v0:=Tryz.zeroValue0
 t3:=Tryz.underlying3
 a3:=Tryz.isAgg3
 z3:=Tryz.sizeOf3
 v3:=Tryz.zeroValue3
 t4:=Tryz.underlying4
 a4:=Tryz.isAgg4
 z4:=Tryz.sizeOf4
 v4:=Tryz.zeroValue4
 t5:=Tryz.underlying5
 a5:=Tryz.isAgg5
 z5:=Tryz.sizeOf5
 v5:=Tryz.zeroValue5
 t9:=Tryz.underlying9
 a9:=Tryz.isAgg9
 z9:=Tryz.sizeOf9
 v9:=Tryz.zeroValue9
 t21:=Tryz.underlying21
 a21:=Tryz.isAgg21
 z21:=Tryz.sizeOf21
 v21:=Tryz.zeroValue21
 t31:=Tryz.underlying73
 a31:=Tryz.isAgg73
 z31:=Tryz.sizeOf73
 v31:=Tryz.zeroValue73
 t46:=Tryz.underlying219
 a46:=Tryz.isAgg219
 z46:=Tryz.sizeOf219
 v46:=Tryz.zeroValue219
 t51:=Tryz.underlying236
 a51:=Tryz.isAgg236
 z51:=Tryz.sizeOf236
 v51:=Tryz.zeroValue236
 t105:=Tryz.underlying212
 a105:=Tryz.isAgg212
 z105:=Tryz.sizeOf212
 v105:=Tryz.zeroValue212
 t119:=Tryz.underlying251
 a119:=Tryz.isAgg251
 z119:=Tryz.sizeOf251
 t138:=Tryz.underlying253
 a138:=Tryz.isAgg253
 z138:=Tryz.sizeOf253
 v138:=Tryz.zeroValue253
 t139:=Tryz.underlying254
 a139:=Tryz.isAgg254
 z139:=Tryz.sizeOf254
 v139:=Tryz.zeroValue254
 t146:=Tryz.underlying255
 a146:=Tryz.isAgg255
 z146:=Tryz.sizeOf255
 v146:=Tryz.zeroValue255
 g1:=by kernel_rfl
 g3:=by kernel_rfl
 g4:=by kernel_rfl
 i0:=by kernel_rfl
 i3:=by kernel_rfl
 i4:=by kernel_rfl
 i5:=by kernel_rfl
 i9:=by kernel_rfl
 i21:=by kernel_rfl
 i31:=by kernel_rfl
 i46:=by kernel_rfl
 i51:=by kernel_rfl
 i105:=by kernel_rfl
 i138:=by kernel_rfl
 i139:=by kernel_rfl
 i146:=by kernel_rfl
 m1:=by kernel_rfl
 s1_3:=fun w h=>Go.Proofs.cell_of_shapedOpen_int (zero:=#[.int .i64 0]) (t:=3) h (of_decide_eq_true (by kernel_rfl)) (by kernel_rfl) rfl (by kernel_rfl) (by kernel_rfl) Tryz.underlying3
 m3:=by kernel_rfl
 m4:=by kernel_rfl }
def Tryz.fmtl97_ren:Go.Shelf.Ren:=⟨fun | 173=>97 | 246=>161 | 283=>207 | 284=>208 | 285=>209 | 286=>210 | 129=>236 | 317=>235 | 318=>237 | 319=>238 | 320=>239 | 337=>264 | 338=>265 | n=>n,fun | 2=>2 | 3=>3 | 9=>9 | 4=>4 | 171=>203 | 0=>0 | 53=>151 | 37=>42 | 5=>5 | 173=>206 | 212=>235 | 51=>236 | 20=>20 | 213=>237 | 46=>219 | 232=>266 | 233=>267 | n=>n,fun | 17=>0 | 18=>6 | 19=>7 | n=>n⟩
theorem Tryz.fmtl97:Go.Proofs.LaysM.n173 Tryz.prog Tryz.fmtl97_ren:={
 mixed:=by kernel_rfl
 f129:=Tryz.func236.trans (congrArg some (by kernel_rfl))
 f173:=Tryz.func97.trans (congrArg some (by kernel_rfl))
 f246:=Tryz.func161.trans (congrArg some (by kernel_rfl))
 f283:=Tryz.func207.trans (congrArg some (by kernel_rfl))
 f284:=Tryz.func208.trans (congrArg some (by kernel_rfl))
 f285:=Tryz.func209.trans (congrArg some (by kernel_rfl))
 f286:=Tryz.func210.trans (congrArg some (by kernel_rfl))
 f317:=Tryz.func235.trans (congrArg some (by kernel_rfl))
 f318:=Tryz.func237.trans (congrArg some (by kernel_rfl))
 f319:=Tryz.func238.trans (congrArg some (by kernel_rfl))
 f320:=Tryz.func239.trans (congrArg some (by kernel_rfl))
 f337:=Tryz.func264.trans (congrArg some (by kernel_rfl))
 f338:=Tryz.func265.trans (congrArg some (by kernel_rfl))
 t0:=Tryz.underlying0
 a0:=Tryz.isAgg0
 z0:=Tryz.sizeOf0
 v0:=Tryz.zeroValue0
 t2:=Tryz.underlying2
 a2:=Tryz.isAgg2
 z2:=Tryz.sizeOf2
 v2:=Tryz.zeroValue2
 t3:=Tryz.underlying3
 a3:=Tryz.isAgg3
 z3:=Tryz.sizeOf3
 v3:=Tryz.zeroValue3
 t4:=Tryz.underlying4
 a4:=Tryz.isAgg4
 z4:=Tryz.sizeOf4
 v4:=Tryz.zeroValue4
 t5:=Tryz.underlying5
 a5:=Tryz.isAgg5
 z5:=Tryz.sizeOf5
 v5:=Tryz.zeroValue5
 t9:=Tryz.underlying9
 a9:=Tryz.isAgg9
 z9:=Tryz.sizeOf9
 v9:=Tryz.zeroValue9
 t20:=Tryz.underlying20
 a20:=Tryz.isAgg20
 z20:=Tryz.sizeOf20
 v20:=Tryz.zeroValue20
 t37:=Tryz.underlying42
 a37:=Tryz.isAgg42
 z37:=Tryz.sizeOf42
 v37:=Tryz.zeroValue42
 t46:=Tryz.underlying219
 a46:=Tryz.isAgg219
 z46:=Tryz.sizeOf219
 v46:=Tryz.zeroValue219
 t51:=Tryz.underlying236
 a51:=Tryz.isAgg236
 z51:=Tryz.sizeOf236
 v51:=Tryz.zeroValue236
 t53:=Tryz.underlying151
 a53:=Tryz.isAgg151
 z53:=Tryz.sizeOf151
 v53:=Tryz.zeroValue151
 t171:=Tryz.underlying203
 a171:=Tryz.isAgg203
 z171:=Tryz.sizeOf203
 v171:=Tryz.zeroValue203
 t173:=Tryz.underlying206
 a173:=Tryz.isAgg206
 z173:=Tryz.sizeOf206
 v173:=Tryz.zeroValue206
 t212:=Tryz.underlying235
 a212:=Tryz.isAgg235
 z212:=Tryz.sizeOf235
 v212:=Tryz.zeroValue235
 t213:=Tryz.underlying237
 a213:=Tryz.isAgg237
 z213:=Tryz.sizeOf237
 t232:=Tryz.underlying266
 a232:=Tryz.isAgg266
 z232:=Tryz.sizeOf266
 v232:=Tryz.zeroValue266
 t233:=Tryz.underlying267
 a233:=Tryz.isAgg267
 z233:=Tryz.sizeOf267
 v233:=Tryz.zeroValue267
 g17:=by kernel_rfl
 g18:=by kernel_rfl
 g19:=by kernel_rfl
 i0:=by kernel_rfl
 i2:=by kernel_rfl
 i3:=by kernel_rfl
 i4:=by kernel_rfl
 i5:=by kernel_rfl
 i9:=by kernel_rfl
 i20:=by kernel_rfl
 i37:=by kernel_rfl
 i46:=by kernel_rfl
 i51:=by kernel_rfl
 i53:=by kernel_rfl
 i171:=by kernel_rfl
 i173:=by kernel_rfl
 i212:=by kernel_rfl
 i232:=by kernel_rfl
 i233:=by kernel_rfl
 m17:=by kernel_rfl
 m18:=by kernel_rfl
 m19:=by kernel_rfl }
def Tryz.sortf196_ren:Go.Shelf.Ren:=⟨fun | 6=>196 | 15=>232 | 14=>231 | 28=>262 | 29=>236 | 20=>254 | 21=>255 | 22=>256 | 23=>257 | 24=>258 | 25=>259 | 26=>260 | 27=>261 | 46=>269 | 47=>270 | 48=>271 | 49=>272 | 50=>273 | 57=>274 | n=>n,fun | 22=>22 | 24=>25 | 25=>176 | 3=>3 | 39=>219 | 0=>0 | 53=>236 | 55=>151 | 4=>4 | 46=>245 | 45=>244 | 50=>195 | 5=>5 | 9=>9 | 66=>260 | 70=>264 | 76=>268 | 77=>269 | n=>n,fun | n=>n⟩
theorem Tryz.sortf196:Go.Proofs.SlLaysF.n6 Tryz.prog Tryz.sortf196_ren:={
 mixed:=by kernel_rfl
 f6:=⟨Tryz.f196.name,by decide,Tryz.func196.trans (congrArg some (by kernel_rfl))⟩
 f14:=⟨Tryz.f231.name,by decide,Tryz.func231.trans (congrArg some (by kernel_rfl))⟩
 f15:=Tryz.func232.trans (congrArg some (by kernel_rfl))
 f20:=⟨Tryz.f254.name,by decide,Tryz.func254.trans (congrArg some (by kernel_rfl))⟩
 f21:=⟨Tryz.f255.name,by decide,Tryz.func255.trans (congrArg some (by kernel_rfl))⟩
 f22:=⟨Tryz.f256.name,by decide,Tryz.func256.trans (congrArg some (by kernel_rfl))⟩
 f23:=⟨Tryz.f257.name,by decide,Tryz.func257.trans (congrArg some (by kernel_rfl))⟩
 f24:=⟨Tryz.f258.name,by decide,Tryz.func258.trans (congrArg some (by kernel_rfl))⟩
 f25:=⟨Tryz.f259.name,by decide,Tryz.func259.trans (congrArg some (by kernel_rfl))⟩
 f26:=⟨Tryz.f260.name,by decide,Tryz.func260.trans (congrArg some (by kernel_rfl))⟩
 f27:=⟨Tryz.f261.name,by decide,Tryz.func261.trans (congrArg some (by kernel_rfl))⟩
 f28:=Tryz.func262.trans (congrArg some (by kernel_rfl))
 f29:=Tryz.func236.trans (congrArg some (by kernel_rfl))
 f46:=⟨Tryz.f269.name,by decide,Tryz.func269.trans (congrArg some (by kernel_rfl))⟩
 f47:=Tryz.func270.trans (congrArg some (by kernel_rfl))
 f48:=Tryz.func271.trans (congrArg some (by kernel_rfl))
 f49:=⟨Tryz.f272.name,by decide,Tryz.func272.trans (congrArg some (by kernel_rfl))⟩
 f50:=⟨Tryz.f273.name,by decide,Tryz.func273.trans (congrArg some (by kernel_rfl))⟩
 f57:=⟨Tryz.f274.name,by decide,Tryz.func274.trans (congrArg some (by kernel_rfl))⟩
 t0:=Tryz.underlying0
 a0:=Tryz.isAgg0
 z0:=Tryz.sizeOf0
 v0:=Tryz.zeroValue0
 t3:=Tryz.underlying3
 a3:=Tryz.isAgg3
 z3:=Tryz.sizeOf3
 v3:=Tryz.zeroValue3
 t4:=Tryz.underlying4
 a4:=Tryz.isAgg4
 z4:=Tryz.sizeOf4
 v4:=Tryz.zeroValue4
 t5:=Tryz.underlying5
 a5:=Tryz.isAgg5
 z5:=Tryz.sizeOf5
 v5:=Tryz.zeroValue5
 t9:=Tryz.underlying9
 a9:=Tryz.isAgg9
 z9:=Tryz.sizeOf9
 v9:=Tryz.zeroValue9
 t22:=Tryz.underlying22
 a22:=Tryz.isAgg22
 z22:=Tryz.sizeOf22
 v22:=Tryz.zeroValue22
 a24:=Tryz.isAgg25
 z24:=Tryz.sizeOf25
 t25:=Tryz.underlying176
 a25:=Tryz.isAgg176
 z25:=Tryz.sizeOf176
 v25:=Tryz.zeroValue176
 t39:=Tryz.underlying219
 a39:=Tryz.isAgg219
 z39:=Tryz.sizeOf219
 v39:=Tryz.zeroValue219
 t45:=Tryz.underlying244
 a45:=Tryz.isAgg244
 z45:=Tryz.sizeOf244
 v45:=Tryz.zeroValue244
 t46:=Tryz.underlying245
 a46:=Tryz.isAgg245
 z46:=Tryz.sizeOf245
 v46:=Tryz.zeroValue245
 t50:=Tryz.underlying195
 a50:=Tryz.isAgg195
 z50:=Tryz.sizeOf195
 v50:=Tryz.zeroValue195
 t53:=Tryz.underlying236
 a53:=Tryz.isAgg236
 z53:=Tryz.sizeOf236
 v53:=Tryz.zeroValue236
 t55:=Tryz.underlying151
 a55:=Tryz.isAgg151
 z55:=Tryz.sizeOf151
 v55:=Tryz.zeroValue151
 t66:=Tryz.underlying260
 a66:=Tryz.isAgg260
 z66:=Tryz.sizeOf260
 v66:=Tryz.zeroValue260
 t70:=Tryz.underlying264
 a70:=Tryz.isAgg264
 z70:=Tryz.sizeOf264
 v70:=Tryz.zeroValue264
 t76:=Tryz.underlying268
 a76:=Tryz.isAgg268
 z76:=Tryz.sizeOf268
 v76:=Tryz.zeroValue268
 t77:=Tryz.underlying269
 a77:=Tryz.isAgg269
 z77:=Tryz.sizeOf269
 v77:=Tryz.zeroValue269 }
def Tryz.parsel115_ren:Go.Shelf.Ren:=⟨fun | 174=>115 | 247=>173 | 245=>174 | 287=>218 | 279=>219 | 280=>220 | 281=>221 | 282=>222 | 321=>245 | 322=>246 | 316=>247 | 171=>249 | 205=>248 | 243=>268 | 246=>161 | 283=>207 | 284=>208 | 285=>209 | 286=>210 | 129=>236 | 317=>235 | 318=>237 | 319=>238 | 320=>239 | 337=>264 | 338=>265 | n=>n,fun | 9=>9 | 3=>3 | 2=>2 | 75=>136 | 85=>148 | 4=>4 | 167=>216 | 5=>5 | 53=>151 | 175=>217 | 46=>219 | 168=>220 | 37=>42 | 0=>0 | 210=>241 | 21=>21 | 127=>178 | 145=>259 | 143=>257 | 171=>203 | 173=>206 | 212=>235 | 51=>236 | 20=>20 | 213=>237 | 232=>266 | 233=>267 | 80=>139 | n=>n,fun | 15=>2 | 16=>3 | 17=>0 | 18=>6 | 19=>7 | n=>n⟩
theorem Tryz.parsel115:Go.Proofs.LaysC.n174 Tryz.prog Tryz.parsel115_ren:={
 mixed:=by kernel_rfl
 f129:=Tryz.func236.trans (congrArg some (by kernel_rfl))
 f171:=Tryz.func249.trans (congrArg some (by kernel_rfl))
 f174:=Tryz.func115.trans (congrArg some (by kernel_rfl))
 f205:=Tryz.func248.trans (congrArg some (by kernel_rfl))
 f243:=Tryz.func268.trans (congrArg some (by kernel_rfl))
 f245:=Tryz.func174.trans (congrArg some (by kernel_rfl))
 f246:=Tryz.func161.trans (congrArg some (by kernel_rfl))
 f247:=Tryz.func173.trans (congrArg some (by kernel_rfl))
 f279:=Tryz.func219.trans (congrArg some (by kernel_rfl))
 f280:=Tryz.func220.trans (congrArg some (by kernel_rfl))
 f281:=Tryz.func221.trans (congrArg some (by kernel_rfl))
 f282:=Tryz.func222.trans (congrArg some (by kernel_rfl))
 f283:=Tryz.func207.trans (congrArg some (by kernel_rfl))
 f284:=Tryz.func208.trans (congrArg some (by kernel_rfl))
 f285:=Tryz.func209.trans (congrArg some (by kernel_rfl))
 f286:=Tryz.func210.trans (congrArg some (by kernel_rfl))
 f287:=Tryz.func218.trans (congrArg some (by kernel_rfl))
 f316:=Tryz.func247.trans (congrArg some (by kernel_rfl))
 f317:=Tryz.func235.trans (congrArg some (by kernel_rfl))
 f318:=Tryz.func237.trans (congrArg some (by kernel_rfl))
 f319:=Tryz.func238.trans (congrArg some (by kernel_rfl))
 f320:=Tryz.func239.trans (congrArg some (by kernel_rfl))
 f321:=Tryz.func245.trans (congrArg some (by kernel_rfl))
 f322:=Tryz.func246.trans (congrArg some (by kernel_rfl))
 f337:=Tryz.func264.trans (congrArg some (by kernel_rfl))
 f338:=Tryz.func265.trans (congrArg some (by kernel_rfl))
 t0:=Tryz.underlying0
 a0:=Tryz.isAgg0
 z0:=Tryz.sizeOf0
 v0:=Tryz.zeroValue0
 t2:=Tryz.underlying2
 a2:=Tryz.isAgg2
 z2:=Tryz.sizeOf2
 v2:=Tryz.zeroValue2
 t3:=Tryz.underlying3
 a3:=Tryz.isAgg3
 z3:=Tryz.sizeOf3
 v3:=Tryz.zeroValue3
 t4:=Tryz.underlying4
 a4:=Tryz.isAgg4
 z4:=Tryz.sizeOf4
 v4:=Tryz.zeroValue4
 t5:=Tryz.underlying5
 a5:=Tryz.isAgg5
 z5:=Tryz.sizeOf5
 v5:=Tryz.zeroValue5
 t9:=Tryz.underlying9
 a9:=Tryz.isAgg9
 z9:=Tryz.sizeOf9
 v9:=Tryz.zeroValue9
 t20:=Tryz.underlying20
 a20:=Tryz.isAgg20
 z20:=Tryz.sizeOf20
 v20:=Tryz.zeroValue20
 t21:=Tryz.underlying21
 a21:=Tryz.isAgg21
 z21:=Tryz.sizeOf21
 v21:=Tryz.zeroValue21
 t37:=Tryz.underlying42
 a37:=Tryz.isAgg42
 z37:=Tryz.sizeOf42
 v37:=Tryz.zeroValue42
 t46:=Tryz.underlying219
 a46:=Tryz.isAgg219
 z46:=Tryz.sizeOf219
 v46:=Tryz.zeroValue219
 t51:=Tryz.underlying236
 a51:=Tryz.isAgg236
 z51:=Tryz.sizeOf236
 v51:=Tryz.zeroValue236
 t53:=Tryz.underlying151
 a53:=Tryz.isAgg151
 z53:=Tryz.sizeOf151
 v53:=Tryz.zeroValue151
 t75:=Tryz.underlying136
 a75:=Tryz.isAgg136
 z75:=Tryz.sizeOf136
 v75:=Tryz.zeroValue136
 t85:=Tryz.underlying148
 a85:=Tryz.isAgg148
 z85:=Tryz.sizeOf148
 v85:=Tryz.zeroValue148
 t127:=Tryz.underlying178
 a127:=Tryz.isAgg178
 z127:=Tryz.sizeOf178
 v127:=Tryz.zeroValue178
 t143:=Tryz.underlying257
 a143:=Tryz.isAgg257
 z143:=Tryz.sizeOf257
 v143:=Tryz.zeroValue257
 t145:=Tryz.underlying259
 a145:=Tryz.isAgg259
 z145:=Tryz.sizeOf259
 v145:=Tryz.zeroValue259
 t167:=Tryz.underlying216
 a167:=Tryz.isAgg216
 z167:=Tryz.sizeOf216
 v167:=Tryz.zeroValue216
 t168:=Tryz.underlying220
 a168:=Tryz.isAgg220
 z168:=Tryz.sizeOf220
 v168:=Tryz.zeroValue220
 t171:=Tryz.underlying203
 a171:=Tryz.isAgg203
 z171:=Tryz.sizeOf203
 v171:=Tryz.zeroValue203
 t173:=Tryz.underlying206
 a173:=Tryz.isAgg206
 z173:=Tryz.sizeOf206
 v173:=Tryz.zeroValue206
 t175:=Tryz.underlying217
 a175:=Tryz.isAgg217
 z175:=Tryz.sizeOf217
 v175:=Tryz.zeroValue217
 t210:=Tryz.underlying241
 a210:=Tryz.isAgg241
 z210:=Tryz.sizeOf241
 v210:=Tryz.zeroValue241
 t212:=Tryz.underlying235
 a212:=Tryz.isAgg235
 z212:=Tryz.sizeOf235
 v212:=Tryz.zeroValue235
 t213:=Tryz.underlying237
 a213:=Tryz.isAgg237
 z213:=Tryz.sizeOf237
 t232:=Tryz.underlying266
 a232:=Tryz.isAgg266
 z232:=Tryz.sizeOf266
 v232:=Tryz.zeroValue266
 t233:=Tryz.underlying267
 a233:=Tryz.isAgg267
 z233:=Tryz.sizeOf267
 v233:=Tryz.zeroValue267
 g15:=by kernel_rfl
 g16:=by kernel_rfl
 g17:=by kernel_rfl
 g18:=by kernel_rfl
 g19:=by kernel_rfl
 t80:=Tryz.underlying139
 a80:=Tryz.isAgg139
 z80:=Tryz.sizeOf139
 v80:=Tryz.zeroValue139
 i0:=by kernel_rfl
 i2:=by kernel_rfl
 i3:=by kernel_rfl
 i4:=by kernel_rfl
 i5:=by kernel_rfl
 i9:=by kernel_rfl
 i20:=by kernel_rfl
 i21:=by kernel_rfl
 i37:=by kernel_rfl
 i46:=by kernel_rfl
 i51:=by kernel_rfl
 i53:=by kernel_rfl
 i75:=by kernel_rfl
 i80:=by kernel_rfl
 i85:=by kernel_rfl
 i127:=by kernel_rfl
 i143:=by kernel_rfl
 i145:=by kernel_rfl
 i167:=by kernel_rfl
 i168:=by kernel_rfl
 i171:=by kernel_rfl
 i173:=by kernel_rfl
 i175:=by kernel_rfl
 i210:=by kernel_rfl
 i212:=by kernel_rfl
 i232:=by kernel_rfl
 i233:=by kernel_rfl
 m15:=by kernel_rfl
 m16:=by kernel_rfl
 m17:=by kernel_rfl
 m18:=by kernel_rfl
 m19:=by kernel_rfl
 c0:=by kernel_rfl
 c2:=by kernel_rfl
 c3:=by kernel_rfl
 c4:=by kernel_rfl
 c5:=by kernel_rfl
 c9:=by kernel_rfl
 c20:=by kernel_rfl
 c21:=by kernel_rfl
 c37:=by kernel_rfl
 c46:=by kernel_rfl
 c51:=by kernel_rfl
 c53:=by kernel_rfl
 c75:=by kernel_rfl
 c80:=by kernel_rfl
 c85:=by kernel_rfl
 c127:=by kernel_rfl
 c143:=by kernel_rfl
 c145:=by kernel_rfl
 c167:=by kernel_rfl
 c168:=by kernel_rfl
 c171:=by kernel_rfl
 c173:=by kernel_rfl
 c175:=by kernel_rfl
 c210:=by kernel_rfl
 c212:=by kernel_rfl
 c213:=by kernel_rfl
 c232:=by kernel_rfl
 c233:=by kernel_rfl }
def Tryz.triml114_ren:Go.Shelf.Ren:=⟨fun | 101=>114 | 208=>172 | 206=>217 | n=>n,fun | 9=>9 | 4=>4 | 3=>3 | n=>n,fun | n=>n⟩
theorem Tryz.triml114:Go.Proofs.Lays.n101 Tryz.prog Tryz.triml114_ren:={
 mixed:=by kernel_rfl
 f101:=Tryz.func114.trans (congrArg some (by kernel_rfl))
 f206:=Tryz.func217.trans (congrArg some (by kernel_rfl))
 f208:=Tryz.func172.trans (congrArg some (by kernel_rfl))
 t3:=Tryz.underlying3
 a3:=Tryz.isAgg3
 z3:=Tryz.sizeOf3
 v3:=Tryz.zeroValue3
 t4:=Tryz.underlying4
 a4:=Tryz.isAgg4
 z4:=Tryz.sizeOf4
 v4:=Tryz.zeroValue4
 t9:=Tryz.underlying9
 a9:=Tryz.isAgg9
 z9:=Tryz.sizeOf9
 v9:=Tryz.zeroValue9 }
end Go.Proofs
namespace VeT
section
open Go Go.Proofs Go.RowKit Go.Lib
open Ve in
theorem qkg {w : World} {S : qaa} (h : Gl E.gs w S) : Lib.TabIs Tryz.prog w "internal/strconv.uint64pow10" .u64 Lib.pow10Tab := by
 obtain⟨_,cs,e,fz,h1,h2⟩:=h _ (.head _)
 have h2:cs=_:=h2
 subst h2
 unfold Lib.TabIs World.var?
 rw [show Tryz.prog.globalNamed "internal/strconv.uint64pow10" = some (gv "internal/strconv.uint64pow10") by kernel_rfl]
 simp only[Option.bind_some]
 rw[h1]
theorem qfF:Builder.Extra Tryz.prog Tryz.joinl40_ren:={
 sizeBuilder:=by kernel_rfl
 liesBuilder:=by kernel_rfl
 t5:=Tryz.fmtl97.t5
 a5:=Tryz.fmtl97.a5
 z5:=Tryz.fmtl97.z5
 v5:=Tryz.fmtl97.v5
 infoByte:=by kernel_rfl
 cellsByte:=by kernel_rfl
 sizeByte:=by kernel_rfl
 neB5:=by decide }
open Ve in
theorem qgH{R:Run}{args:List Dv}{dv:Dv}(h:ql7 R args=some dv):qaA E.gs Tryz.prog ⟨[(false,1),(false,1)],[],.cons .str .nil,[(false,1)],[],[.str]⟩ 40 args dv :=
 Ve.qiZ (fun a c sep w=>Any.strings_Join_none Tryz.joinl40 qfF a c sep w)
  (fun bk o c xs sep w h1 h2 h3 h4 h5=>Any.strings_Join Tryz.joinl40 qfF bk o c xs sep w h1 h2 h3 h4 h5) h
open Ve in
theorem qo3{w:World}{S:qaa}(h:Gl E.gs w S):∃ m,w.cell? ⟨Tryz.splitl45_ren.g 1,0,none⟩=some (.int .i64 m):=by
 obtain⟨_,cs,e,fz,h1,m,h2⟩:=h _ (.tail _ (.tail _ (.tail _ (.head _))))
 refine⟨m,?_⟩
 have hg : Tryz.splitl45_ren.g 1 = gv "internal/bytealg.MaxLen" := by kernel_rfl
 rw[hg]
 have h1 : w.heap[gv "internal/bytealg.MaxLen"]? = some (.cells cs e fz) := h1
 simp only[World.cell?,h1]
 exact h2
open Ve in
theorem qfM{R:Run}{args:List Dv}{dv:Dv}(h:qhN R args=some dv):qaA E.gs Tryz.prog ⟨[(false,1),(false,1)],[],.cons (.sl .str) .nil,[(false,1)],[.deep],[]⟩ 45 args dv :=
 Ve.qhG (Tab:=fun w=>∃ m,w.cell? ⟨Tryz.splitl45_ren.g 1,0,none⟩=some (.int .i64 m)) (fun w S h=>qo3 h)
  (fun s sep w hs h1 ⟨m,hm⟩=>(Any.strings_Split { Tryz.splitl45 with } Tryz.splitl45.i9 s sep m w hs hm h1).mono fun e w' ⟨he,hw⟩=>by
   have hlen:(qd0 s sep).length=Lib.countB s sep+1:=Lib.splitB_all sep h1 0 _ s rfl
   have hle:=Lib.countB_le sep h1 s.size s (Nat.le_refl _)
   refine⟨_,?_,by omega,hw⟩
   rw[he,hlen]) h
theorem qlZ(w:World)(k:Nat)(os:Array Go.Obj):Below w.heap.size w (Go.Sort.grow (w.drewN k) os):=by
 refine⟨rfl,rfl,rfl,?_,fun b hb=>?_⟩
 ·show w.heap.size≤(w.heap++os).size
  simp
 ·show(w.heap++os)[b]? = _
  rw[Array.getElem?_append_left hb]
theorem qm5{P:Program}{w w':World}(h:Below w.heap.size w w'){n:String}{cs:Array Value}(hv:w.var? P n=some cs):w'.var? P n=some cs:=by
 unfold World.var? at hv ⊢
 cases hg:P.globalNamed n with
 | none=>rw[hg] at hv;cases hv
 | some g =>
  rw[hg] at hv
  simp only[Option.bind_some] at hv ⊢
  cases hh:w.heap[g]? with
  | none=>rw[hh] at hv;cases hv
  | some o =>
   rw[h.block g (Array.getElem?_eq_some_iff.1 hh).1]
   exact hv
theorem qnh{P:Program}{w w':World}(h:Below w.heap.size w w'){n:String}{k:IntKind}{zs:List Int}(ht:Lib.TabIs P w n k zs):Lib.TabIs P w' n k zs:=qm5 h ht
set_option maxRecDepth 100000 in
theorem qn5 (n : Int) (w : World) (h1 : -9223372036854775808 ≤ n) (h2 : n ≤ 9223372036854775807) (ht : Lib.TabIs Tryz.prog w "internal/strconv.uint64pow10" .u64 Lib.pow10Tab) :
  Calls Tryz.prog 38 #[.int .i64 n] w fun e w'=>e=.returned (.string (Ve.qo1 n))∧Below w.heap.size w w':=by
 go_enter Tryz.func38,Tryz.ntmps38
 go_wp2_with (go_at_call 97;refine(Any.strconv_FormatInt_10 Tryz.fmtl97 n h1 h2 w ht).mono ?_;rintro e w' ⟨rfl,k,os,rfl⟩)
 go_ret
 exact⟨rfl,qlZ _ _ _⟩
def qmv(l:List UInt8)(n:Int)(er:Value):Prop:=match Lib.parseIntB 64 l with
 | .ok v=>n=v∧er=.nilIface
 | _=>∃ a b,er=.iface a b
theorem qnX (s : ByteArray) (w : World) (hs : s.size ≤ 281474976710656) (hsy : ∃ tp p, w.var? Tryz.prog "strconv.ErrSyntax" = some #[.iface tp p]) (hra : ∃ tp p, w.var? Tryz.prog "strconv.ErrRange" = some #[.iface tp p]) :
  Calls Tryz.prog 115 #[.string s,.int .i64 10,.int .i64 64] w fun e w'=>∃ n er,e=.returned (.tuple #[.int .i64 n,er])∧qmv s.data.toList n er∧Below w.heap.size w w':=by
 rcases hp:Lib.parseIntB 64 s.data.toList with v | _ | _
 ·skip
  refine(Any.strconv_ParseInt_10_at64_ok Tryz.parsel115 s (by omega) v hp w).mono ?_
  rintro e w' ⟨rfl,hw⟩
  refine⟨v,.nilIface,rfl,by unfold qmv;rw[hp];exact⟨rfl,rfl⟩,?_⟩
  rcases hw with rfl | ⟨t,rfl⟩
  ·exact Below.refl _ _
  ·exact Lib.bytesWorld_below _ _ _
 ·skip
  obtain⟨tp,p,hv⟩:=hsy
  refine(Any.strconv_ParseInt_10_at64_syntax_var Tryz.parsel115 s hs hp tp p w hv).mono ?_
  rintro e w' ⟨N,rfl,_,_,hb⟩
  exact⟨_,_,rfl,by unfold qmv;rw[hp];exact⟨_,_,rfl⟩,hb⟩
 ·skip
  obtain⟨tp,p,hv⟩:=hra
  refine(Any.strconv_ParseInt_10_at64_range_var Tryz.parsel115 s hs hp tp p w hv).mono ?_
  rintro e w' ⟨N,rfl,_,_,hb⟩
  exact⟨_,_,rfl,by unfold qmv;rw[hp];exact⟨_,_,rfl⟩,hb⟩
theorem qjJ{l:List UInt8}(h:(Go.Lib.trimPrefix l [45]).length<1∨18<(Go.Lib.trimPrefix l [45]).length):Ve.rdT l=(0,false):=if_pos h
theorem qog{l:List UInt8}{v:Int}(h:¬ ((Go.Lib.trimPrefix l [45]).length<1∨18<(Go.Lib.trimPrefix l [45]).length))(hp:Lib.parseIntB 64 l=.ok v):Ve.rdT l=if Lib.itoa v=l then(v,true) else(0,false):=by
 unfold Ve.rdT
 rw[if_neg h,hp]
theorem qmW{l:List UInt8}(h:∀ v,Lib.parseIntB 64 l≠.ok v):Ve.rdT l=(0,false):=by
 unfold Ve.rdT
 split
 ·rfl
 ·split
  ·rename_i v hv
   exact absurd hv (h v)
  ·rfl
theorem qmx(n:Int)(s:ByteArray):((Ve.qo1 n).toList==s.toList)=(Lib.itoa n==s.data.toList):=by
 rw[ByteArray.toList_eq,ByteArray.toList_eq]
 unfold Ve.qo1
 simp
theorem qhk{w w1 w2:World}(h1:Below w.heap.size w w1)(h2:Below w1.heap.size w1 w2):Below w.heap.size w w2 :=
 ⟨h2.os.trans h1.os,h2.tape.trans h1.tape,h2.output.trans h1.output,Nat.le_trans h1.size h2.size,fun b h=>(h2.block b (Nat.lt_of_lt_of_le h h1.size)).trans (h1.block b h)⟩
set_option maxRecDepth 100000 in
theorem qo5 (s : ByteArray) (w : World) (hs : s.size ≤ 281474976710656) (ht : Lib.TabIs Tryz.prog w "internal/strconv.uint64pow10" .u64 Lib.pow10Tab) (hsy : ∃ tp p, w.var? Tryz.prog "strconv.ErrSyntax" = some #[.iface tp p]) (hra : ∃ tp p, w.var? Tryz.prog "strconv.ErrRange" = some #[.iface tp p]) :
  Calls Tryz.prog 47 #[.string s] w fun e w'=>e=.returned (.tuple #[.int .i64 (Ve.rdT s.data.toList).1,.bool (Ve.rdT s.data.toList).2])∧Below w.heap.size w w':=by
 have cT:=Any.strings_TrimPrefix Tryz.triml114 s ⟨#[45]⟩ w
 have cP:=qnX s w hs hsy hra
 go_enter Tryz.func47,Tryz.ntmps47
 go_wp2_with (first | (go_at_call 114;refine cT.mono ?_;rintro e w' ⟨rfl,rfl⟩) | (go_at_call 115;refine cP.mono ?_;rintro e w' ⟨n,er,rfl,her,hb⟩))
 ·go_ret2
  exact⟨by rw[qjJ (by omega)];rfl,RowKit.Below.refl _ _⟩
 ·unfold qmv at her
  rcases hp:Lib.parseIntB 64 s.data.toList with v | _ | _
  ·skip
   rw[hp] at her
   obtain⟨rfl,rfl⟩:=her
   have hbd:=Lib.parseIntB_bounds hp
   have cD:=qn5 n _ (by omega) (by omega) (qnh hb ht)
   have hu:Tryz.prog.underlying 136=some (.interface (Tryz.prog.methodsAt 136)):=by kernel_rfl
   go_wp2_with (go_at_call 38;refine cD.mono ?_;rintro e w' ⟨rfl,hb2⟩)
   rw[eqGuard_nil_constR]
   simp only[run_neq_nil_nil _ _ hu,show ∀(P:Program) (w:World),Sem.run P (pure ()) w=Result.ok () w from fun _ _=>rfl,Result.andThen]
   go_wp2_with (go_at_call 38;refine cD.mono ?_;rintro e w' ⟨rfl,hb2⟩)
   ·go_ret2
    refine⟨?_,qhk hb hb2⟩
    rename_i he
    have hne:¬ Lib.itoa n=s.data.toList:=fun e=>by
     rw[qmx,e] at he
     simp at he
    rw[qog (by omega) hp,if_neg hne];rfl
   ·go_ret2
    refine⟨?_,qhk hb hb2⟩
    rename_i he
    have hne:Lib.itoa n=s.data.toList:=by
     rw[qmx] at he
     simpa using he
    rw[qog (by omega) hp,if_pos hne];rfl
  ·skip
   rw[hp] at her
   obtain⟨a,b,rfl⟩:=her
   have hu:Tryz.prog.underlying 136=some (.interface (Tryz.prog.methodsAt 136)):=by kernel_rfl
   go_wp2
   simp only[show ∀ x y,eqGuard BinOp.neq 136 x y (Value.iface a b) Value.nilIface=pure () from fun _ _=>rfl,run_neq_held_nil _ _ _ _ hu,show ∀(P:Program) (w:World),Sem.run P (pure ()) w=Result.ok () w from fun _ _=>rfl,Result.andThen]
   go_wp2
   go_ret2
   exact⟨by rw[qmW (fun v e=>by rw[hp] at e;cases e)];rfl,hb⟩
  ·skip
   rw[hp] at her
   obtain⟨a,b,rfl⟩:=her
   have hu:Tryz.prog.underlying 136=some (.interface (Tryz.prog.methodsAt 136)):=by kernel_rfl
   go_wp2
   simp only[show ∀ x y,eqGuard BinOp.neq 136 x y (Value.iface a b) Value.nilIface=pure () from fun _ _=>rfl,run_neq_held_nil _ _ _ _ hu,show ∀(P:Program) (w:World),Sem.run P (pure ()) w=Result.ok () w from fun _ _=>rfl,Result.andThen]
   go_wp2
   go_ret2
   exact⟨by rw[qmW (fun v e=>by rw[hp] at e;cases e)];rfl,hb⟩
 ·go_ret2
  exact⟨by rw[qjJ (by omega)];rfl,RowKit.Below.refl _ _⟩
theorem qjW{P:Program}{w:World}{n:String}{g:Nat}{cs:Array Value}{e:TypeId}{fz:Nat×Nat}(hg:P.globalNamed n=some g)(h:w.heap[g]? = some (.cells cs e fz)):w.var? P n=some cs:=by
 unfold World.var?
 rw[hg]
 simp only[Option.bind_some]
 rw[h]
open Ve in
theorem qoO {w : World} {S : qaa} (h : Gl E.gs w S) : ∃ tp p, w.var? Tryz.prog "strconv.ErrSyntax" = some #[.iface tp p] := by
 obtain⟨_,cs,e,fz,h1,tp,p,h2⟩:=h _ (.tail _ (.head _))
 refine⟨tp,p,?_⟩
 rw [qjW (show Tryz.prog.globalNamed "strconv.ErrSyntax" = some (gv "strconv.ErrSyntax") by kernel_rfl) h1, h2]
open Ve in
theorem qoD {w : World} {S : qaa} (h : Gl E.gs w S) : ∃ tp p, w.var? Tryz.prog "strconv.ErrRange" = some #[.iface tp p] := by
 obtain⟨_,cs,e,fz,h1,tp,p,h2⟩:=h _ (.tail _ (.tail _ (.head _)))
 refine⟨tp,p,?_⟩
 rw [qjW (show Tryz.prog.globalNamed "strconv.ErrRange" = some (gv "strconv.ErrRange") by kernel_rfl) h1, h2]
open Ve in
theorem qeI{R:Run}{args:List Dv}{dv:Dv}(h:qdL R args=some dv):qaA E.gs Tryz.prog ⟨[(false,1)],[],.cons tI (.cons .bool .nil),[(false,1),(false,1)],[],[.str]⟩ 47 args dv :=
 Ve.qfL (Tab := fun w => Lib.TabIs Tryz.prog w "internal/strconv.uint64pow10" .u64 Lib.pow10Tab ∧ (∃ tp p, w.var? Tryz.prog "strconv.ErrSyntax" = some #[.iface tp p]) ∧ (∃ tp p, w.var? Tryz.prog "strconv.ErrRange" = some #[.iface tp p])) (fun w S h => ⟨qkg h, qoO h, qoD h⟩)
  (fun s w hs ht=>qo5 s w hs ht.1 ht.2.1 ht.2.2) h
set_option maxHeartbeats 4000000 in
set_option maxRecDepth 100000 in
theorem qkP(b n c:Nat)(A:Option Addr)(hA:0<n→A=some ⟨b,0,none⟩)(hnc:n≤c)(hn:n≤9223372036854775807)(Inv:Nat→Int→World→Prop)(k:Int)(w:World)(h0:Inv 0 k w)
  (hk:∀ i k' wr,i<n→Inv i k' wr→0≤k'∧k'≤4611686018427387904)
  (step:∀ i k' wr,i<n→Inv i k' wr→∃ v0 v1 v2 u,wr.cell? ⟨b,i*4,none⟩=some v0∧wr.cell? ⟨b,i*4+1,none⟩=some v1∧wr.cell? ⟨b,i*4+2,none⟩=some v2∧wr.cell? ⟨b,i*4+3,none⟩=some u ∧
   wr.frozen? ⟨b,i*4,none⟩=false∧wr.frozen? ⟨b,i*4+1,none⟩=false∧wr.frozen? ⟨b,i*4+2,none⟩=false ∧
   Calls Tryz.prog 51 #[u,.int .i64 (k'+1+1+1)] (((wr.setCell ⟨b,i*4,none⟩ (.int .i64 k')).setCell ⟨b,i*4+1,none⟩ (.int .i64 (k'+1))).setCell ⟨b,i*4+2,none⟩ (.int .i64 (k'+1+1))) fun e w'=>∃ k2,e=.returned (.int .i64 k2)∧Inv (i+1) k2 w') :
  Calls Tryz.prog 52 #[.slice A n c,.int .i64 k] w fun e w'=>∃ k2,e=.returned (.int .i64 k2)∧Inv n k2 w':=by
 go_enter Tryz.func52,Tryz.ntmps52
 go_wp2
 go_loopw [1,5] (fun kv iv wr=>∃ i:Nat,∃ k':Int,i≤n∧iv=.int .i64 i∧kv=.int .i64 k'∧Inv i k' wr) (fun _ iv _=>n-(RowKit.intOf iv).toNat)
 case atStart=>exact⟨0,k,Nat.zero_le _,rfl,rfl,h0⟩
 case round =>
  obtain⟨i,k',hi,rfl,rfl,hInv⟩:=hrel
  by_cases hlt:i<n
  ·obtain rfl:=hA (by omega)
   obtain⟨v0,v1,v2,u,c0,c1,c2,c3,f0,f1,f2,hcall⟩:=step i k' _ hlt hInv
   have hkb:=hk i k' _ hlt hInv
   have w1:wrap64 (k'+1)=k'+1:=by unfold wrap64;omega
   have w2:wrap64 (k'+1+1)=k'+1+1:=by unfold wrap64;omega
   have w3:wrap64 (k'+1+1+1)=k'+1+1+1:=by unfold wrap64;omega
   go_wp2_with (go_at_call 51;refine hcall.mono ?_;rintro e w' ⟨k2,rfl,hI2⟩)
   go_roundw
   case rel=>exact⟨i+1,k2,by omega,by simp,rfl,hI2⟩
   case measure=>simp[RowKit.intOf];omega
  ·obtain rfl:i=n:=by omega
   go_wp2
   go_ret
   exact⟨k',rfl,hInv⟩
open Ve in
theorem qgd{R:Run}(hR:∀ args dv,R.r 51 args=some dv→qaA E.gs Tryz.prog ⟨[(false,1),(false,1)],[.io true,.imm],oM,[(false,1)],[],[]⟩ 51 args dv){args:List Dv}{dv:Dv}(h:qfk 51 R args=some dv) :
  qaA E.gs Tryz.prog ⟨[(false,1),(false,1)],[.io true,.imm],.cons tI (.cons (.sl tM) .nil),[(false,1)],[],[]⟩ 52 args dv :=
 qhA qkP hR h
open Ve in
theorem qhH{R:Run}{args:List Dv}{dv:Dv}(h:qpb R args=some dv):qaA E.gs Tryz.prog ⟨[(false,1),(false,1)],[],.cons .str .nil,[(false,1)],[],[]⟩ 97 args dv :=
 Ve.qjo (Tab := fun w => Lib.TabIs Tryz.prog w "internal/strconv.uint64pow10" .u64 Lib.pow10Tab) (fun w S h => qkg h)
  (fun n w h1 h2 ht=>(Any.strconv_FormatInt_10 Tryz.fmtl97 n h1 h2 w ht).mono fun e w' ⟨he,k,os,hw⟩=>by
   subst hw
   refine⟨he,⟨rfl,rfl,rfl,Nat.le_add_right _ _⟩,?_,fun b hb=>?_⟩
   ·show w.heap.size≤(w.heap++os).size
    simp
   ·show(w.heap++os)[b]? = _
    rw[Array.getElem?_append_left hb]) h
set_option maxHeartbeats 2000000 in
set_option maxRecDepth 100000 in
theorem qjr(b n c:Nat)(A:Option Addr)(hA:0<n→A=some ⟨b,0,none⟩)(hnc:n≤c)(hn:n≤9223372036854775807)(Inv:Nat→Int→World→Prop)(k:Int)(w:World)(h0:Inv 0 k w)
  (step:∀ i k' wr,i<n→Inv i k' wr→∃ u,wr.cell? ⟨b,i,none⟩=some u∧Calls Tryz.prog 51 #[u,.int .i64 k'] wr fun e w'=>∃ k2,e=.returned (.int .i64 k2)∧Inv (i+1) k2 w') :
  Calls Tryz.prog 117 #[.slice A n c,.int .i64 k] w fun e w'=>∃ k2,e=.returned (.int .i64 k2)∧Inv n k2 w':=by
 go_enter Tryz.func117,Tryz.ntmps117
 go_wp2
 go_loopw [1,5] (fun kv iv wr=>∃ i:Nat,∃ k':Int,i≤n∧iv=.int .i64 i∧kv=.int .i64 k'∧Inv i k' wr) (fun _ iv _=>n-(RowKit.intOf iv).toNat)
 case atStart=>exact⟨0,k,Nat.zero_le _,rfl,rfl,h0⟩
 case round =>
  obtain⟨i,k',hi,rfl,rfl,hInv⟩:=hrel
  by_cases hlt:i<n
  ·obtain rfl:=hA (by omega)
   obtain⟨u,hu,hcall⟩:=step i k' _ hlt hInv
   go_wp2_with (go_at_call 51;refine hcall.mono ?_;rintro e w' ⟨k2,rfl,hI2⟩)
   go_roundw
   case rel=>exact⟨i+1,k2,by omega,by simp,rfl,hI2⟩
   case measure=>simp[RowKit.intOf];omega
  ·obtain rfl:i=n:=by omega
   go_wp2
   go_ret
   exact⟨k',rfl,hInv⟩
open Ve in
theorem qfW{R:Run}(hR:∀ args dv,R.r 51 args=some dv→qaA E.gs Tryz.prog ⟨[(false,1),(false,1)],[.io true,.imm],oM,[(false,1)],[],[]⟩ 51 args dv){args:List Dv}{dv:Dv}(h:qfa 51 R args=some dv) :
  qaA E.gs Tryz.prog ⟨[(false,1),(false,1)],[.io true,.imm],.cons tI (.cons (.sl tL) .nil),[(false,1)],[],[]⟩ 117 args dv :=
 qiS qjr hR h
open Ve in
theorem qfi{R:Run}(hR:∀ args dv,R.r 156 args=some dv→qaA E.gs Tryz.prog ⟨[(false,1),(false,1)],[],.cons tI .nil,[(false,1)],[],[]⟩ 156 args dv){args:List Dv}{dv:Dv}(h:qfs 156 R args=some dv) :
  qaA E.gs Tryz.prog ⟨[(false,1),(false,1)],[.io true,.imm],.cons tLL .nil,[],[],[]⟩ 196 args dv :=
 qhC (fun enc h1c cf hO blk cap d w a b c e=>Any.slices_SortFunc Tryz.sortf196 enc h1c cf hO 156 #[] blk 0 cap d w (enters_of Tryz.func156 (by kernel_rfl) rfl) a b c e)
  (fun A cap fv w=>(AnyF.slices_SortFunc_none { Tryz.sortf196 with } A cap fv w).mono fun e w' ⟨h,hw⟩=>⟨h,by rw[hw],by rw[hw];exact Kin.refl _⟩) hR h
section
open Go Ve
theorem qkx(R:Run)(hw:R.ok)(N n0:Nat)(l:List (Value×List Int))(hl:l.length≤1048576)
  (heq:∀(i:Nat) (h:i+1<l.length),R.r n_Z83 [⟨tL,l[i+1].2⟩,⟨tL,l[i].2⟩]=some ⟨.cons .bool .nil,(l[i+1].2==l[i].2,())⟩) (k0:Nat) (hk0:k0<l.length) :
  ∀(d k2 kw n:Nat) (o:List (Value×List Int)),k0+k2+d=l.length→1≤k2→kw+1≤k0+k2→o.length=l.length→o.take kw=sel (mC (l.map Prod.snd) (k0+k2)) l→(∀ i,k0+k2≤i+1→o[i]? = l[i]?) →
  slices_CompactFunc_SSint64_Sint64_L.l1 R N n0 (d+1+n) (kw:Int) k0 l.length (k2:Int) o=some ⟨qaq,(sel (mC (l.map Prod.snd) l.length) l,())⟩:=by
 intro d
 induction d with
 | zero =>
  intro k2 kw n o hd h1 hkw hol ht hsame
  have e:k0+k2=l.length:=by omega
  rw[show 0+1+n=n+1 by omega,slices_CompactFunc_SSint64_Sint64_L.l1_succ R hw]
  have c1:chk (decide (k0≤l.length)&&decide (l.length≤o.length))=some ():=by unfold chk;rw[decide_eq_true (by omega),decide_eq_true (by omega)];rfl
  have c2:decide ((k2:Int)<((l.length-k0:Nat):Int))=false:=decide_eq_false (by omega)
  have c3:chk (decide ((0:Int)≤(kw:Int))&&decide ((kw:Int)≤(o.length:Int)))=some ():=by unfold chk;rw[decide_eq_true (by omega),decide_eq_true (by omega)];rfl
  have c4:chk (decide (kw≤o.length)&&decide (o.length≤o.length))=some ():=by unfold chk;rw[decide_eq_true (by omega),decide_eq_true (by omega)];rfl
  rw[c1,Option.bind_some,c2,cond_false,c3,Option.bind_some]
  simp only[Int.toNat_natCast]
  rw[c4,Option.bind_some]
  have hlen:(List.take kw o++List.replicate (o.length-kw) ((Value.slice none 0 0,[]):Value×List Int)++List.drop o.length o).length=o.length:=by simp;omega
  have c6:chk (decide ((0:Int)≤(kw:Int))&&decide ((kw:Int)≤((List.take kw o++List.replicate (o.length-kw) ((Value.slice none 0 0,[]):Value×List Int)++List.drop o.length o).length:Int)))=some ():=by unfold chk;rw[decide_eq_true (by omega),decide_eq_true (by omega)];rfl
  rw[c6,Option.bind_some,List.drop_zero,List.append_assoc,List.take_append_of_le_length (by simp;omega),List.take_take,Nat.min_self,ht,e]
 | succ d ih =>
  intro k2 kw n o hd h1 hkw hol ht hsame
  obtain⟨m,hm⟩:∃ m,m+1=k0+k2:=⟨k0+k2-1,by omega⟩
  have hml:m+1<l.length:=by omega
  rw[show d+1+1+n=(d+1+n)+1 by omega,slices_CompactFunc_SSint64_Sint64_L.l1_succ R hw]
  have c1:chk (decide (k0≤l.length)&&decide (l.length≤o.length))=some ():=by unfold chk;rw[decide_eq_true (by omega),decide_eq_true (by omega)];rfl
  have c2:decide ((k2:Int)<((l.length-k0:Nat):Int))=true:=decide_eq_true (by omega)
  have c3:chk (decide ((0:Int)≤(k2:Int))&&decide ((k0:Int)+(k2:Int)<((l.length:Nat):Int))&&decide (l.length≤o.length))=some ():=by unfold chk;rw[decide_eq_true (by omega),decide_eq_true (by omega),decide_eq_true (by omega)];rfl
  have ew:w64 ((k2:Int)-1)=((k2-1:Nat):Int):=by rw[qat (by omega) (by omega)];omega
  have c4:chk (decide ((0:Int)≤((k2-1:Nat):Int))&&decide ((k0:Int)+((k2-1:Nat):Int)<((l.length:Nat):Int))&&decide (l.length≤o.length))=some ():=by unfold chk;rw[decide_eq_true (by omega),decide_eq_true (by omega),decide_eq_true (by omega)];rfl
  have g1:o[k0+k2]? = some l[m+1]:=by rw[hsame _ (by omega),← hm,List.getElem?_eq_getElem hml]
  have g2:o[k0+(k2-1)]? = some l[m]:=by rw[hsame _ (by omega),show k0+(k2-1)=m by omega,List.getElem?_eq_getElem (by omega)]
  have hr:qdy R n_Z83 o_Z83 [⟨yL,l[m+1].2⟩,⟨yL,l[m].2⟩]=some (l[m+1].2==l[m].2,()):=by
   unfold qdy
   exact(congrArg (Option.bind · _) (heq m hml)).trans rfl
  rw[c1,Option.bind_some,c2,cond_true,c3,Option.bind_some]
  simp only[Int.toNat_natCast,ew]
  rw[g1,Option.bind_some,c4,Option.bind_some,g2,Option.bind_some]
  refine(congrArg (Option.bind · _) hr).trans ?_
  rw[Option.bind_some]
  have e2:w64 ((k2:Int)+1)=((k2+1:Nat):Int):=qai (by omega)
  have hx1:(l.map Prod.snd)[k0+k2]? = some l[m+1].2:=by rw[← hm,List.getElem?_map,List.getElem?_eq_getElem hml];rfl
  have hx2:(l.map Prod.snd)[k0+k2-1]? = some l[m].2:=by rw[show k0+k2-1=m by omega,List.getElem?_map,List.getElem?_eq_getElem (by omega)];rfl
  have hms:mC (l.map Prod.snd) (k0+(k2+1))=mC (l.map Prod.snd) (k0+k2)++[!(l[m+1].2==l[m].2)]:=by
   show mC (l.map Prod.snd) (k0+k2)++[k0+k2==0 || !((l.map Prod.snd)[k0+k2]? == (l.map Prod.snd)[k0+k2-1]?)]=_
   rw[hx1,hx2,show(k0+k2==0)=false from beq_false_of_ne (by omega),Bool.false_or]
   rfl
  have hsel:sel (mC (l.map Prod.snd) (k0+(k2+1))) l=sel (mC (l.map Prod.snd) (k0+k2)) l++(bif !(l[m+1].2==l[m].2) then [l[m+1]] else []):=by
   rw[hms,qev (by rw[qfx];omega)]
   congr 2
   congr 1
   have:(mC (l.map Prod.snd) (k0+k2)).length=m+1:=by rw[qfx,hm]
   simp only[this]
  cases hb:(l[m+1].2==l[m].2) with
  | true =>
   rw[hb] at hsel
   simp only[Bool.not_true,cond_false,List.append_nil] at hsel ⊢
   rw[e2]
   exact ih (k2+1) kw n o (by omega) (by omega) (by omega) hol (by rw[hsel];exact ht) fun i hi=>hsame i (by omega)
  | false =>
   rw[hb] at hsel
   have c5:chk (decide ((0:Int)≤(kw:Int))&&decide ((kw:Int)<(o.length:Int)))=some ():=by unfold chk;rw[decide_eq_true (by omega),decide_eq_true (by omega)];rfl
   simp only[Bool.not_false,cond_true] at hsel ⊢
   rw[Option.bind_some,Option.bind_some,c5,Option.bind_some,e2,show w64 ((kw:Int)+1)=((kw+1:Nat):Int) from qai (by omega)]
   refine ih (k2+1) (kw+1) n (o.set kw l[m+1]) (by omega) (by omega) (by omega) (by rw[List.length_set];exact hol) ?_ fun i hi=>?_
   ·rw[hsel,← ht,List.take_succ_eq_append_getElem (by rw[List.length_set];omega),List.getElem_set_self,List.take_set_of_le (Nat.le_refl _)]
   ·rw[List.getElem?_set_ne (by omega)];exact hsame i (by omega)
theorem qkj(R:Run)(hw:R.ok)(N:Nat)(l:List (Value×List Int))(hl:l.length≤1048576)(hN:l.length+1≤N)
  (heq:∀(i:Nat) (h:i+1<l.length),R.r n_Z83 [⟨tL,l[i+1].2⟩,⟨tL,l[i].2⟩]=some ⟨.cons .bool .nil,(l[i+1].2==l[i].2,())⟩) :
  ∀(d k n:Nat),k+d=l.length→1≤k→sel (mC (l.map Prod.snd) k) l=l.take k →
  slices_CompactFunc_SSint64_Sint64_L.l0 R N (d+1+n) (k:Int) l=some ⟨qaq,(sel (mC (l.map Prod.snd) l.length) l,())⟩:=by
 intro d
 induction d with
 | zero =>
  intro k n hd h1 ht
  rw[show 0+1+n=n+1 by omega,slices_CompactFunc_SSint64_Sint64_L.l0_succ R hw]
  have c2:decide ((k:Int)<(l.length:Int))=false:=decide_eq_false (by omega)
  rw[c2,cond_false,← show k=l.length by omega,ht,show k=l.length by omega,List.take_length]
 | succ d ih =>
  intro k n hd h1 ht
  obtain⟨m,rfl⟩:∃ m,k=m+1:=⟨k-1,by omega⟩
  have hml:m+1<l.length:=by omega
  rw[show d+1+1+n=(d+1+n)+1 by omega,slices_CompactFunc_SSint64_Sint64_L.l0_succ R hw]
  have c2:decide (((m+1:Nat):Int)<(l.length:Int))=true:=decide_eq_true (by omega)
  have c3:chk (decide ((0:Int)≤((m+1:Nat):Int))&&decide (((m+1:Nat):Int)<(l.length:Int)))=some ():=by unfold chk;rw[decide_eq_true (by omega),decide_eq_true (by omega)];rfl
  have ew:w64 (((m+1:Nat):Int)-1)=(m:Int):=by rw[qat (by omega) (by omega)];omega
  have c4:chk (decide ((0:Int)≤(m:Int))&&decide ((m:Int)<(l.length:Int)))=some ():=by unfold chk;rw[decide_eq_true (by omega),decide_eq_true (by omega)];rfl
  have g1:l[m+1]? = some l[m+1]:=List.getElem?_eq_getElem hml
  have g2:l[m]? = some l[m]:=List.getElem?_eq_getElem (by omega)
  have hr:qdy R n_Z83 o_Z83 [⟨yL,l[m+1].2⟩,⟨yL,l[m].2⟩]=some (l[m+1].2==l[m].2,()):=by
   unfold qdy
   exact(congrArg (Option.bind · _) (heq m hml)).trans rfl
  refine Eq.trans (b:=(chk (decide ((0:Int)≤((m+1:Nat):Int))&&decide (((m+1:Nat):Int)<(l.length:Int)))).bind _) (by rw[c2,cond_true]) ?_
  rw[c3,Option.bind_some]
  simp only[Int.toNat_natCast,ew]
  rw[g1,Option.bind_some,c4,Option.bind_some,g2,Option.bind_some]
  refine(congrArg (Option.bind · _) hr).trans ?_
  rw[Option.bind_some]
  have hx1:(l.map Prod.snd)[m+1]? = some l[m+1].2:=by rw[List.getElem?_map,g1];rfl
  have hx2:(l.map Prod.snd)[m+1-1]? = some l[m].2:=by rw[Nat.add_sub_cancel,List.getElem?_map,g2];rfl
  have hms:mC (l.map Prod.snd) (m+1+1)=mC (l.map Prod.snd) (m+1)++[!(l[m+1].2==l[m].2)]:=by
   show mC (l.map Prod.snd) (m+1)++[m+1==0 || !((l.map Prod.snd)[m+1]? == (l.map Prod.snd)[m+1-1]?)]=_
   rw[hx1,hx2,show(m+1==0)=false from rfl,Bool.false_or]
   rfl
  have hsel:sel (mC (l.map Prod.snd) (m+1+1)) l=sel (mC (l.map Prod.snd) (m+1)) l++(bif !(l[m+1].2==l[m].2) then [l[m+1]] else []):=by
   rw[hms,qev (by rw[qfx];omega)]
   congr 2
   congr 1
   simp only[qfx]
  cases hb:(l[m+1].2==l[m].2) with
  | true =>
   rw[hb] at hsel
   simp only[Bool.not_true,cond_false,List.append_nil] at hsel
   have c5:chk (decide ((0:Int)≤((m+1:Nat):Int))&&decide (((m+1:Nat):Int)≤(l.length:Int)))=some ():=by unfold chk;rw[decide_eq_true (by omega),decide_eq_true (by omega)];rfl
   simp only[cond_true]
   rw[c5,Option.bind_some]
   have:=qkx R hw N (d+1+n) l hl heq (m+1) hml (l.length-(m+2)) 1 (m+1) (N-(l.length-(m+2)+1)) l (by omega) (Nat.le_refl _) (by omega) rfl (by rw[hsel];exact ht.symm) fun _ _=>rfl
   rw[show l.length-(m+2)+1+(N-(l.length-(m+2)+1))=N by omega] at this
   exact this
  | false =>
   rw[hb] at hsel
   simp only[Bool.not_false,cond_true] at hsel
   simp only[cond_false]
   rw[qai (by omega)]
   exact ih (m+1+1) n (by omega) (by omega) (by rw[hsel,ht,List.take_succ_eq_append_getElem hml])
theorem qki(R:Run)(hw:R.ok)(N:Nat)(l:List (Value×List Int))(hl:l.length≤1048576)(hN:l.length+1≤N)
  (heq:∀(i:Nat) (h:i+1<l.length),R.r n_Z83 [⟨tL,l[i+1].2⟩,⟨tL,l[i].2⟩]=some ⟨.cons .bool .nil,(l[i+1].2==l[i].2,())⟩) :
  (bif (decide ((List.length l:Int)<(2:Int))) then some ⟨qaq,(l,())⟩ else slices_CompactFunc_SSint64_Sint64_L.l0 R N N (1:Int) l)=some ⟨qaq,(sel (mC (l.map Prod.snd) l.length) l,())⟩:=by
 by_cases h2:l.length<2
 ·have c:decide ((l.length:Int)<2)=true:=decide_eq_true (by omega)
  rw[c,cond_true]
  match l,h2 with
  | [],_=>rfl
  | [y],_=>rfl
 ·have c:decide ((l.length:Int)<2)=false:=decide_eq_false (by omega)
  rw[c,cond_false]
  have:=qkj R hw N l hl hN heq (l.length-1) 1 (N-l.length) (by omega) (Nat.le_refl _) (by
   match l,h2 with
   | y::z::l,_=>rfl)
  rw[show l.length-1+1+(N-l.length)=N by omega] at this
  exact this
theorem qfj(hE:EnvOk E){R:Run}(hR:qfS E R)(hw:R.ok)(hRw:∀ o f,R.w o f=o.bind f){args:List Dv}{dv:Dv}(h:qbS n_Z83 R args=some dv) :
  qaA E.gs E.P ⟨[(false,1),(false,1)],[.take true,.imm],.cons tLL .nil,[(false,1)],[.deep],[]⟩ 197 args dv:=by
 match args,h with
 | [d0,d1],h =>
  simp only[qbS,Option.bind_eq_some_iff] at h
  obtain⟨xs,h0,h⟩:=h
  obtain rfl:=to_some h0
  split at h
  ·rename_i hc
   obtain⟨hx,rfl,heq⟩:=hc
   obtain rfl:=Option.some.inj h
   refine qiJ fun vs hv=>?_
   have hz:(vs.zip xs).map Prod.snd=xs:=qiQ hv
   have hl:(vs.zip xs).length=xs.length:=by rw[List.length_zip,hv,Nat.min_self]
   have hq:∀(i:Nat) (h:i+1<(vs.zip xs).length),R.r n_Z83 [⟨tL,(vs.zip xs)[i+1].2⟩,⟨tL,(vs.zip xs)[i].2⟩]=some ⟨.cons .bool .nil,((vs.zip xs)[i+1].2==(vs.zip xs)[i].2,())⟩:=fun i h=>by
    have e1:(vs.zip xs)[i+1].2=xs[i+1]'(by omega):=by rw[List.getElem_zip]
    have e2:(vs.zip xs)[i].2=xs[i]'(by omega):=by rw[List.getElem_zip]
    rw[e1,e2];exact heq i (by omega)
   refine qlN hE hR hRw (pol:=qac) (fn:=qaj) (N:=xs.length+1) (by kernel_rfl) ?_
   refine(slices_CompactFunc_SSint64_Sint64_L.ev R _ (vs.zip xs)).trans ?_
   refine(qki R hw (xs.length+1) (vs.zip xs) (by omega) (by omega) hq).trans ?_
   rw[hz,hl]
  ·cases h
end
set_option maxHeartbeats 2000000 in
set_option maxRecDepth 100000 in
theorem qjv(base:Option Addr)(l c n:Nat)(w:World)(hlc:l≤c)(hc63:c≤9223372036854775807)(hn63:n≤9223372036854775807)(hroom:l+n≤c) :
  Calls Tryz.prog 230 #[.slice base l c,.int .i64 n] w fun e w'=>e=.returned (.slice base l c)∧w'=w:=by
 have h1:¬ ((n:Int)<0):=by omega
 have h2:wrap64 ((c:Int)-(l:Int))=(c:Int)-(l:Int):=by unfold wrap64;omega
 have h3:wrap64 ((n:Int)-((c:Int)-(l:Int)))=(n:Int)-((c:Int)-(l:Int)):=by unfold wrap64;omega
 have h4:¬ ((n:Int)-((c:Int)-(l:Int))>0):=by omega
 go_enter Tryz.func230,Tryz.ntmps230
 go_wp2
 go_ret
 exact⟨rfl,rfl⟩
set_option maxHeartbeats 4000000 in
set_option maxRecDepth 100000 in
theorem qjM(i0:TypeInfo)(z:Value)(hi0:Tryz.prog.info? 2=some i0)(hz0:i0.zero=some z)(hs0:0<i0.size)
    (base:Option Addr) (l c n:Nat) (cs:List Value) (w:World) (hlc:l≤c) (hroom:c<l+n) (hbig:(l+n)*i0.bytes≤140737488355328) (h63:l+n≤4611686018427387904)
    (hcl:cs.length=c*i0.size) (hnil:base=none→c=0) (hcs:∀ a,base=some a→∀(j:Nat) v,cs[j]? = some v→w.cell? (a.add j)=some v) :
    Calls Tryz.prog 230 #[.slice base l c,.int .i64 n] w fun e w' =>
      e=.returned (.slice (some ⟨w.heap.size,0,none⟩) l (grownCap w (l+n) c 2)) ∧
      w'=w.drew.alloc (.cells (cs.toArray++Builtin.zeroCells z.cells (l+n-c)++Builtin.zeroCells z.cells (grownCap w (l+n) c 2-(l+n))) 2):=by
  have h1:¬ ((n:Int)<0):=by omega
  have h2:wrap64 ((c:Int)-(l:Int))=(c:Int)-(l:Int):=by unfold wrap64;omega
  have h3:wrap64 ((n:Int)-((c:Int)-(l:Int)))=(n:Int)-((c:Int)-(l:Int)):=by unfold wrap64;omega
  have h4:(n:Int)-((c:Int)-(l:Int))>0:=by omega
  have z25:∀ w,(Go.sizeOf 2).run Tryz.prog w=.ok i0.size w:=fun w=>by simp[Go.sizeOf,typeInfo,hi0]
  have hck:c+(l+n-c)=l+n:=by omega
  have hold:(Builtin.firstCells i0.size c (.slice base c c)).run Tryz.prog w.drew=.ok cs.toArray w.drew:=by
    cases base with
    | none =>
      have h0:=hnil rfl
      subst h0
      have hc0:cs=[]:=List.length_eq_zero_iff.1 (by simpa using hcl)
      rw[hc0]
      exact run_firstCells_none w.drew i0.size 0 0 0
    | some a=>exact run_firstCells_some w.drew i0.size c a c c cs hcl (fun j v hj=>hcs a rfl j v hj)
  have hrz:∀ ty,(Builtin.append_ #[25,3] ty #[.slice base c c,.int .i64 ((n:Int)-((c:Int)-(l:Int)))]).run Tryz.prog w =
      .ok (.slice (some ⟨w.heap.size,0,none⟩) (l+n) (grownCap w (l+n) c 2)) (w.drew.alloc (.cells (cs.toArray++Builtin.zeroCells z.cells (l+n-c)++Builtin.zeroCells z.cells (grownCap w (l+n) c 2-(l+n))) 2)):=fun ty=>by
    have h:=Lib.run_append_grow_zeros w 25 3 ty 2 i0 z .i64 .i64 Tryz.underlying25 Tryz.underlying3 hi0 hz0 base c c cs hold (l+n-c) (by omega) hs0 (by omega) (by omega)
      (by have:(l+n-c)*i0.bytes≤(l+n)*i0.bytes:=Nat.mul_le_mul_right _ (by omega)
          omega)
      (by rw[hck];exact growslice_fits hroom hbig)
    rw[hck] at h
    rw[show(n:Int)-((c:Int)-(l:Int))=((l+n-c:Nat):Int) by omega]
    exact h
  have hGn:l+n≤grownCap w (l+n) c 2:=grownCap_ge w _ _ _
  obtain⟨G,hG⟩:∃ G,G=grownCap w (l+n) c 2:=⟨_,rfl⟩
  rw[← hG] at hrz hGn ⊢
  have hG63:G≤9223372036854775807:=by
    have:=grownCap_le_maxLen w (l+n) c 2 (by unfold maxLen;omega)
    rw[← hG] at this
    unfold maxLen at this
    omega
  clear hold hck hG hcs hcl
  go_enter Tryz.func230,Tryz.ntmps230
  cases base with
  | none =>
    have h0:=hnil rfl
    subst h0
    obtain rfl:l=0:=by omega
    go_wp2_with (at_builtin;refine Lib.wpList_append_run _ rfl _ _ _ _ rfl _ _ rfl rfl _ _ (hrz _) ?_)
    all_goals (go_ret;exact⟨rfl,rfl⟩)
  | some a =>
    obtain⟨ab,ao,asp⟩:=a
    go_wp2_with (at_builtin;refine Lib.wpList_append_run _ rfl _ _ _ _ rfl _ _ rfl rfl _ _ (hrz _) ?_)
    all_goals (go_ret;exact⟨rfl,rfl⟩)
theorem qjs:(Tryz.prog.info? 2).any (fun i=>i.size==Ve.Ty.size yI&&i.zero.any (fun z=>z.cells.size==Ve.Ty.size yI)&&decide (i.bytes≤64*Ve.Ty.size yI)&&decide (0<i.bytes)&&decide (0<Ve.Ty.size yI))=true:=by kernel_rfl
open Ve in
theorem qfV(R:Run){args:List Dv}{dv:Dv}(h:qlU yI R args=some dv) :
  qaA E.gs Tryz.prog ⟨[(false,1),(false,1)],[.take true,.imm],.cons yL .nil,[(false,1)],[.deep],[]⟩ 230 args dv:=by
 have hi:=qjs
 cases hi0:Tryz.prog.info? 2 with
 | none=>rw[hi0] at hi;cases hi
 | some i0 =>
  rw[hi0] at hi
  simp only[Option.any_some,Bool.and_eq_true,decide_eq_true_eq,beq_iff_eq] at hi
  obtain⟨⟨⟨⟨h1,h2⟩,h3⟩,h4⟩,h5⟩:=hi
  cases hz:i0.zero with
  | none=>rw[hz] at h2;cases h2
  | some z =>
   rw[hz] at h2
   exact qi1 h1 (by simpa using h2) h5 h3 h4 qjv (fun base l c n cs w a1 a2 a3 a4 a5 a6 a7=>qjM i0 z hi0 hz (by rw[h1];exact h5) base l c n cs w a1 a2 a3 a4 a5 a6 a7) R h
end
section
open Go Ve
theorem qnZ:primL=(List.range 305).map fun i=>bif Nat.beq i 40 then some ql7 else bif Nat.beq i 45 then some qhN else bif Nat.beq i 47 then some qdL else bif Nat.beq i 52 then some (qfk n_Z63) else bif Nat.beq i 97 then some qpb else bif Nat.beq i 117 then some (qfa n_Z63) else bif Nat.beq i 196 then some (qfs n_Z29) else bif Nat.beq i 197 then some (qbS n_Z83) else bif Nat.beq i 230 then some (qlU yI) else none:=by kernel_rfl
theorem qpD(hE:EnvOk E):∀ f p,E.prim f=some p→∀ r,qfS E (mkR r)→∀ args dv sg,E.sig f=some sg→p (mkR r) args=some dv→qaA E.gs E.P sg f args dv:=by
 intro f p hp r hr args dv sg hsg h
 have hp:primL.getD f none=some p:=hp
 rw[qnZ,List.getD_eq_getElem?_getD,List.getElem?_map] at hp
 by_cases hf:f<305
 ·rw[List.getElem?_range hf] at hp
  simp only[Option.map_some,Option.getD_some] at hp
  by_cases h40:f=40
  ·subst h40
   obtain rfl:ql7=p:=Option.some.inj hp
   obtain rfl:sg_Z134=sg:=Option.some.inj (sig_strings_Join_eq.symm.trans hsg)
   exact qgH h
  rw[show Nat.beq f 40=false from Bool.eq_false_iff.2 fun h=>h40 (Nat.eq_of_beq_eq_true h),cond_false] at hp
  by_cases h45:f=45
  ·subst h45
   obtain rfl:qhN=p:=Option.some.inj hp
   obtain rfl:sg_Z135=sg:=Option.some.inj (sig_strings_Split_eq.symm.trans hsg)
   exact qfM h
  rw[show Nat.beq f 45=false from Bool.eq_false_iff.2 fun h=>h45 (Nat.eq_of_beq_eq_true h),cond_false] at hp
  by_cases h47:f=47
  ·subst h47
   obtain rfl:qdL=p:=Option.some.inj hp
   obtain rfl:sg_Z12=sg:=Option.some.inj (sig_impl_ReadDecimal_eq.symm.trans hsg)
   exact qeI h
  rw[show Nat.beq f 47=false from Bool.eq_false_iff.2 fun h=>h47 (Nat.eq_of_beq_eq_true h),cond_false] at hp
  by_cases h52:f=52
  ·subst h52
   obtain rfl:(qfk n_Z63)=p:=Option.some.inj hp
   obtain rfl:sg_Z65=sg:=Option.some.inj (sig_laws_markMatrixS_eq.symm.trans hsg)
   exact qgd (fun args dv h=>hr _ args dv _ sig_laws_markInt64S_eq h) h
  rw[show Nat.beq f 52=false from Bool.eq_false_iff.2 fun h=>h52 (Nat.eq_of_beq_eq_true h),cond_false] at hp
  by_cases h97:f=97
  ·subst h97
   obtain rfl:qpb=p:=Option.some.inj hp
   obtain rfl:sg_Z133=sg:=Option.some.inj (sig_strconv_FormatInt_eq.symm.trans hsg)
   exact qhH h
  rw[show Nat.beq f 97=false from Bool.eq_false_iff.2 fun h=>h97 (Nat.eq_of_beq_eq_true h),cond_false] at hp
  by_cases h117:f=117
  ·subst h117
   obtain rfl:(qfa n_Z63)=p:=Option.some.inj hp
   obtain rfl:sg_Z64=sg:=Option.some.inj (sig_laws_markInt64SS_eq.symm.trans hsg)
   exact qfW (fun args dv h=>hr _ args dv _ sig_laws_markInt64S_eq h) h
  rw[show Nat.beq f 117=false from Bool.eq_false_iff.2 fun h=>h117 (Nat.eq_of_beq_eq_true h),cond_false] at hp
  by_cases h196:f=196
  ·subst h196
   obtain rfl:(qfs n_Z29)=p:=Option.some.inj hp
   obtain rfl:sg_Z95=sg:=Option.some.inj (sig_slices_SortFunc_SSint64_Sint64_eq.symm.trans hsg)
   exact qfi (fun args dv h=>hr _ args dv _ sig_impl_compareSimplices_eq h) h
  rw[show Nat.beq f 196=false from Bool.eq_false_iff.2 fun h=>h196 (Nat.eq_of_beq_eq_true h),cond_false] at hp
  by_cases h197:f=197
  ·subst h197
   obtain rfl:(qbS n_Z83)=p:=Option.some.inj hp
   obtain rfl:sg_Z70=sg:=Option.some.inj (sig_slices_CompactFunc_SSint64_Sint64_eq.symm.trans hsg)
   exact qfj hE hr (qoo _) (fun _ _=>rfl) h
  rw[show Nat.beq f 197=false from Bool.eq_false_iff.2 fun h=>h197 (Nat.eq_of_beq_eq_true h),cond_false] at hp
  by_cases h230:f=230
  ·subst h230
   obtain rfl:(qlU yI)=p:=Option.some.inj hp
   obtain rfl:sg_Z84=sg:=Option.some.inj (sig_slices_Grow_Sint64_int64_eq.symm.trans hsg)
   exact qfV _ h
  rw[show Nat.beq f 230=false from Bool.eq_false_iff.2 fun h=>h230 (Nat.eq_of_beq_eq_true h),cond_false] at hp
  cases hp
 ·rw[List.getElem?_eq_none (by simpa using hf)] at hp
  cases hp
end
end VeT
open Go Go.Proofs Ve
namespace VeT
theorem qcq(x y:(List Int))(hx:Sm yL x):∃ b:Bool,Ret E n_Z52 [⟨yL,x⟩,⟨yL,y⟩] ⟨o_Z52,(b,())⟩∧(b=true↔x=y):=by
 have hx1:x.length≤1048576:=hx.1
 by_cases hl:x.length=y.length
 ·have hd:((x.length:Int) != (y.length:Int))=false:=by simp[hl]
  obtain⟨h1,h2⟩:=qgN (a:=x) (b:=y) (L:=fun m n i (_:Unit)=>Z52.l0 (mkR (run E m)) m n x y i) (fun u v=>u=v) (rt:=some ⟨o_Z52,(true,())⟩) (rf:=some ⟨o_Z52,(false,())⟩) hl.symm
   (fun k h h' hne=>Evt.of fun m n=>by
   show Z52.l0 _ _ _ _ _ _=_
   rw[Z52.l0_succ _ qah,decide_eq_true (show(k:Int)<x.length by omega),cond_true,qam h,qam h']
   have:(x[k] != y[k])=true:=by simpa using hne
   simp only[Option.bind_some,this,cond_true])
   (fun k h h' he=>Evt.of fun m n=>by
   show Z52.l0 _ _ _ _ _ _=_
   rw[Z52.l0_succ _ qah,decide_eq_true (show(k:Int)<x.length by omega),cond_true,qam h,qam h']
   have:(x[k] != y[k])=false:=by simpa using he
   simp only[Option.bind_some,this,cond_false]
   rw[qai (by omega)])
   (Evt.of fun m n=>by
   show Z52.l0 _ _ _ _ _ _=_
   rw[Z52.l0_succ _ qah,decide_eq_false (by omega),cond_false])
  by_cases he:x=y
  ·refine⟨true,Evt.succ ((h1 (by subst he;intros;rfl)).mono fun n h=>?_),by simp[he]⟩
   rw[run_Z52,Z52.ev,hd,cond_false]
   exact h
  ·refine⟨false,Evt.succ ((h2 fun hh=>he (List.ext_getElem hl hh)).mono fun n h=>?_),by simp[he]⟩
   rw[run_Z52,Z52.ev,hd,cond_false]
   exact h
 ·have hd:((x.length:Int) != (y.length:Int))=true:=by simp;omega
  refine⟨false,Evt.succ (Evt.of fun n=>?_),⟨fun h=>(nomatch h),fun h=>absurd (congrArg List.length h) hl⟩⟩
  rw[run_Z52,Z52.ev,hd,cond_true]
theorem qiH(x y:vK)(hx:Sm yK x):∃ b:Bool,Ret E n_Z53 [⟨yK,x⟩,⟨yK,y⟩] ⟨o_Z53,(b,())⟩∧(b=true↔x=y):=by
 have hx1:x.length≤1048576:=hx.1
 by_cases hl:x.length=y.length
 ·have hd:((x.length:Int) != (y.length:Int))=false:=by simp[hl]
  obtain⟨h1,h2⟩:=qgN (a:=x) (b:=y) (L:=fun m n i (_:Unit)=>Z53.l0 (mkR (run E m)) m n x y i) (fun u v=>u=v) (rt:=some ⟨o_Z53,(true,())⟩) (rf:=some ⟨o_Z53,(false,())⟩) hl.symm
   (fun k h h' hne=>by
   obtain⟨b,hb,hbe⟩:=qcq x[k] y[k] (hx.2 _ (List.getElem_mem h))
   have hb0:b=false:=by cases b<;>simp_all
   subst hb0
   refine hb.mono fun m hm n=>?_
   show Z53.l0 _ _ _ _ _ _=_
   rw[Z53.l0_succ _ qah,decide_eq_true (show(k:Int)<x.length by omega),cond_true,qam h,qam h']
   simp only[Option.bind_some,qbt hm,Bool.not_false,Bool.not_true,cond_true,cond_false])
   (fun k h h' he=>by
   obtain⟨b,hb,hbe⟩:=qcq x[k] y[k] (hx.2 _ (List.getElem_mem h))
   have hb0:b=true:=by cases b<;>simp_all
   subst hb0
   refine hb.mono fun m hm n=>?_
   show Z53.l0 _ _ _ _ _ _=_
   rw[Z53.l0_succ _ qah,decide_eq_true (show(k:Int)<x.length by omega),cond_true,qam h,qam h']
   simp only[Option.bind_some,qbt hm,Bool.not_false,Bool.not_true,cond_true,cond_false]
   rw[qai (by omega)])
   (Evt.of fun m n=>by
   show Z53.l0 _ _ _ _ _ _=_
   rw[Z53.l0_succ _ qah,decide_eq_false (by omega),cond_false])
  by_cases he:x=y
  ·refine⟨true,Evt.succ ((h1 (by subst he;intros;rfl)).mono fun n h=>?_),by simp[he]⟩
   rw[run_Z53,Z53.ev,hd,cond_false]
   exact h
  ·refine⟨false,Evt.succ ((h2 fun hh=>he (List.ext_getElem hl hh)).mono fun n h=>?_),by simp[he]⟩
   rw[run_Z53,Z53.ev,hd,cond_false]
   exact h
 ·have hd:((x.length:Int) != (y.length:Int))=true:=by simp;omega
  refine⟨false,Evt.succ (Evt.of fun n=>?_),⟨fun h=>(nomatch h),fun h=>absurd (congrArg List.length h) hl⟩⟩
  rw[run_Z53,Z53.ev,hd,cond_true]
theorem qi2(x y:(vK×Unit))(hx:Sm (.st yC) x):∃ b:Bool,Ret E n_Z51 [⟨yK,x.1⟩,⟨yK,y.1⟩] ⟨o_Z51,(b,())⟩∧(b=true↔x=y):=by
 obtain⟨b0,hr0,hb0⟩:=qiH x.1 y.1 hx.1
 refine⟨b0,Evt.succ (hr0.mono fun n e0=>?_),?_⟩
 ·skip
  rw[run_Z51,Z51.ev]
  simp only[Option.bind_some,qbt e0]
  clear hx hr0 e0 hb0
  cases b0<;>rfl
 ·obtain⟨x0,_⟩:=x
  obtain⟨y0,_⟩:=y
  simp only[Bool.and_eq_true,decide_eq_true_eq,hb0,Prod.mk.injEq,and_true]
  try simp only[and_assoc]
theorem qfv(x y:vM)(hx:Sm (.st yM) x):∃ b:Bool,Ret E n_Z54 [⟨yI,x.1⟩,⟨yI,x.2.1⟩,⟨yI,x.2.2.1⟩,⟨yL,x.2.2.2.1⟩,⟨yI,y.1⟩,⟨yI,y.2.1⟩,⟨yI,y.2.2.1⟩,⟨yL,y.2.2.2.1⟩] ⟨o_Z54,(b,())⟩∧(b=true↔x=y):=by
 obtain⟨b0,hr0,hb0⟩:=qcq x.2.2.2.1 y.2.2.2.1 hx.2.2.2.1
 refine⟨decide (x.1=y.1)&&decide (x.2.1=y.2.1)&&decide (x.2.2.1=y.2.2.1)&&b0,Evt.succ (hr0.mono fun n e0=>?_),?_⟩
 ·skip
  rw[run_Z54,Z54.ev]
  simp only[Option.bind_some,qbt e0]
  simp only[show(x.1 != y.1)=!decide (x.1=y.1) from rfl]
  generalize decide (x.1=y.1)=d0
  simp only[show(x.2.1 != y.2.1)=!decide (x.2.1=y.2.1) from rfl]
  generalize decide (x.2.1=y.2.1)=d1
  simp only[show(x.2.2.1 != y.2.2.1)=!decide (x.2.2.1=y.2.2.1) from rfl]
  generalize decide (x.2.2.1=y.2.2.1)=d2
  clear hx hr0 e0 hb0
  cases d0<;>cases d1<;>cases d2<;>cases b0<;>rfl
 ·obtain⟨x0,x1,x2,x3,_⟩:=x
  obtain⟨y0,y1,y2,y3,_⟩:=y
  simp only[Bool.and_eq_true,decide_eq_true_eq,hb0,Prod.mk.injEq,and_true]
  try simp only[and_assoc]
theorem qip(x y:vN)(hx:Sm yN x):∃ b:Bool,Ret E n_Z55 [⟨yN,x⟩,⟨yN,y⟩] ⟨o_Z55,(b,())⟩∧(b=true↔x=y):=by
 have hx1:x.length≤1048576:=hx.1
 by_cases hl:x.length=y.length
 ·have hd:((x.length:Int) != (y.length:Int))=false:=by simp[hl]
  obtain⟨h1,h2⟩:=qgN (a:=x) (b:=y) (L:=fun m n i (_:Unit)=>Z55.l0 (mkR (run E m)) m n x y i) (fun u v=>u=v) (rt:=some ⟨o_Z55,(true,())⟩) (rf:=some ⟨o_Z55,(false,())⟩) hl.symm
   (fun k h h' hne=>by
   obtain⟨b,hb,hbe⟩:=qfv x[k] y[k] (hx.2 _ (List.getElem_mem h))
   have hb0:b=false:=by cases b<;>simp_all
   subst hb0
   refine hb.mono fun m hm n=>?_
   show Z55.l0 _ _ _ _ _ _=_
   rw[Z55.l0_succ _ qah,decide_eq_true (show(k:Int)<x.length by omega),cond_true,qam h,qam h']
   simp only[Option.bind_some,qbt hm,Bool.not_false,Bool.not_true,cond_true,cond_false])
   (fun k h h' he=>by
   obtain⟨b,hb,hbe⟩:=qfv x[k] y[k] (hx.2 _ (List.getElem_mem h))
   have hb0:b=true:=by cases b<;>simp_all
   subst hb0
   refine hb.mono fun m hm n=>?_
   show Z55.l0 _ _ _ _ _ _=_
   rw[Z55.l0_succ _ qah,decide_eq_true (show(k:Int)<x.length by omega),cond_true,qam h,qam h']
   simp only[Option.bind_some,qbt hm,Bool.not_false,Bool.not_true,cond_true,cond_false]
   rw[qai (by omega)])
   (Evt.of fun m n=>by
   show Z55.l0 _ _ _ _ _ _=_
   rw[Z55.l0_succ _ qah,decide_eq_false (by omega),cond_false])
  by_cases he:x=y
  ·refine⟨true,Evt.succ ((h1 (by subst he;intros;rfl)).mono fun n h=>?_),by simp[he]⟩
   rw[run_Z55,Z55.ev,hd,cond_false]
   exact h
  ·refine⟨false,Evt.succ ((h2 fun hh=>he (List.ext_getElem hl hh)).mono fun n h=>?_),by simp[he]⟩
   rw[run_Z55,Z55.ev,hd,cond_false]
   exact h
 ·have hd:((x.length:Int) != (y.length:Int))=true:=by simp;omega
  refine⟨false,Evt.succ (Evt.of fun n=>?_),⟨fun h=>(nomatch h),fun h=>absurd (congrArg List.length h) hl⟩⟩
  rw[run_Z55,Z55.ev,hd,cond_true]
theorem qky(x y:vS)(hx:Sm (.st yS) x):∃ b:Bool,Ret E n_Z56 [⟨yK,x.1⟩,⟨yI,x.2.1⟩,⟨yL,x.2.2.1⟩,⟨yN,x.2.2.2.1⟩,⟨yK,y.1⟩,⟨yI,y.2.1⟩,⟨yL,y.2.2.1⟩,⟨yN,y.2.2.2.1⟩] ⟨o_Z56,(b,())⟩∧(b=true↔x=y):=by
 obtain⟨b0,hr0,hb0⟩:=qi2 (x.1,()) (y.1,()) ⟨hx.1,trivial⟩
 obtain⟨b1,hr1,hb1⟩:=qcq x.2.2.1 y.2.2.1 hx.2.2.1
 obtain⟨b2,hr2,hb2⟩:=qip x.2.2.2.1 y.2.2.2.1 hx.2.2.2.1
 refine⟨b0&&decide (x.2.1=y.2.1)&&b1&&b2,Evt.succ (((hr0.and hr1).and hr2).mono fun n hh=>?_),?_⟩
 ·obtain⟨⟨e0,e1⟩,e2⟩:=hh
  rw[run_Z56,Z56.ev]
  simp only[Option.bind_some,qbt e0,qbt e1,qbt e2]
  simp only[show(x.2.1 != y.2.1)=!decide (x.2.1=y.2.1) from rfl]
  generalize decide (x.2.1=y.2.1)=d1
  clear hx hr0 e0 hb0 hr1 e1 hb1 hr2 e2 hb2
  cases b0<;>cases d1<;>cases b1<;>cases b2<;>rfl
 ·obtain⟨x0,x1,x2,x3,_⟩:=x
  obtain⟨y0,y1,y2,y3,_⟩:=y
  simp only[Bool.and_eq_true,decide_eq_true_eq,hb0,hb1,hb2,Prod.mk.injEq,and_true]
  try simp only[and_assoc]
end VeT
open Go Go.Proofs Ve
namespace VeT
theorem qa2(s:List (List Int))(p:(List Int)→Bool)(hs:s.length≤1048576)(hp:∀ x∈s,Ret E n_Z6 [⟨yL,x⟩] ⟨o_Z6,(p x,())⟩) :
    Ret E n_Z85 [⟨yK,s⟩,⟨(.fn n_Z6 .nil),()⟩] ⟨o_Z85,(qkn p s,())⟩:=by
  obtain⟨o,h1,h2,h3⟩:=qbs 1 (L:=fun φ n k=>Z86.l0 (mkR (run E (φ 0))) (φ 0) n s (s.length:Int) k) (len:=s.length) (fun k=>∃ h:k<s.length,p s[k]=true) (fun o=>some ⟨o_Z85,(o2i o,())⟩) (fun _ _ _ _=>rfl) (fun k hk hP=>by
      obtain⟨_,hP⟩:=hP
      simp only[Z86.l0_succ _ qah]
      refine qay (decide_eq_true (by omega)) (qae (qam hk) (qab (hp _ (List.getElem_mem hk)) (qay hP qal)))) (fun k q hk hP ih=>by
      simp only[Z86.l0_succ _ qah]
      refine qay (decide_eq_true (by omega)) (qae (qam hk) (qab (hp _ (List.getElem_mem hk)) (qaz (Bool.eq_false_iff.2 fun h=>hP ⟨hk,h⟩) ?_)))
      rw[qai (by omega)];exact ih) (by
      simp only[Z86.l0_succ _ qah]
      exact qaz (decide_eq_false (by omega)) qal)
  rw[qc4 h1 h2] at h3
  refine qan ?_
  simp only[run_Z85,Z86.ev]
  exact Ev.start (p:=fun φ n=>Z86.l0 (mkR (run E (φ 0))) (φ 0) n s (s.length:Int) 0=_) 1 h3 (fun _ _ _ h=>h)
theorem qaW(s:List (List Int))(c:((vK×Unit)×(Int×Unit)×Unit))(p:(List Int)→Bool)(hs:s.length≤1048576)(hp:∀ x∈s,Ret E n_Z17 [⟨yL,x⟩,⟨(.ptr yC),c.1⟩,⟨(.ptr (.cons yI .nil)),c.2.1⟩] ⟨o_Z17,(p x,())⟩) :
    Ret E n_Z85 [⟨yK,s⟩,⟨(.fn n_Z17 (.cons (.ptr yC) (.cons (.ptr (.cons yI .nil)) .nil))),c⟩] ⟨o_Z85,(qkn p s,())⟩:=by
  obtain⟨o,h1,h2,h3⟩:=qbs 1 (L:=fun φ n k=>Z87.l0 (mkR (run E (φ 0))) (φ 0) n s c (s.length:Int) k) (len:=s.length) (fun k=>∃ h:k<s.length,p s[k]=true) (fun o=>some ⟨o_Z85,(o2i o,())⟩) (fun _ _ _ _=>rfl) (fun k hk hP=>by
      obtain⟨_,hP⟩:=hP
      simp only[Z87.l0_succ _ qah]
      refine qay (decide_eq_true (by omega)) (qae (qam hk) (qab (hp _ (List.getElem_mem hk)) (qay hP qal)))) (fun k q hk hP ih=>by
      simp only[Z87.l0_succ _ qah]
      refine qay (decide_eq_true (by omega)) (qae (qam hk) (qab (hp _ (List.getElem_mem hk)) (qaz (Bool.eq_false_iff.2 fun h=>hP ⟨hk,h⟩) ?_)))
      rw[qai (by omega)];exact ih) (by
      simp only[Z87.l0_succ _ qah]
      exact qaz (decide_eq_false (by omega)) qal)
  rw[qc4 h1 h2] at h3
  refine qan ?_
  simp only[run_Z85,Z87.ev]
  exact Ev.start (p:=fun φ n=>Z87.l0 (mkR (run E (φ 0))) (φ 0) n s c (s.length:Int) 0=_) 1 h3 (fun _ _ _ h=>h)
theorem qbf(s:List Int)(p:Int→Bool)(hs:s.length≤1048576)(hp:∀ x∈s,Ret E n_Z10 [⟨yI,x⟩] ⟨o_Z10,(p x,())⟩) :
    Ret E n_Z88 [⟨yL,s⟩,⟨(.fn n_Z10 .nil),()⟩] ⟨o_Z88,(qkn p s,())⟩:=by
  obtain⟨o,h1,h2,h3⟩:=qbs 1 (L:=fun φ n k=>Z89.l0 (mkR (run E (φ 0))) (φ 0) n s (s.length:Int) k) (len:=s.length) (fun k=>∃ h:k<s.length,p s[k]=true) (fun o=>some ⟨o_Z88,(o2i o,())⟩) (fun _ _ _ _=>rfl) (fun k hk hP=>by
      obtain⟨_,hP⟩:=hP
      simp only[Z89.l0_succ _ qah]
      refine qay (decide_eq_true (by omega)) (qae (qam hk) (qab (hp _ (List.getElem_mem hk)) (qay hP qal)))) (fun k q hk hP ih=>by
      simp only[Z89.l0_succ _ qah]
      refine qay (decide_eq_true (by omega)) (qae (qam hk) (qab (hp _ (List.getElem_mem hk)) (qaz (Bool.eq_false_iff.2 fun h=>hP ⟨hk,h⟩) ?_)))
      rw[qai (by omega)];exact ih) (by
      simp only[Z89.l0_succ _ qah]
      exact qaz (decide_eq_false (by omega)) qal)
  rw[qc4 h1 h2] at h3
  refine qan ?_
  simp only[run_Z88,Z89.ev]
  exact Ev.start (p:=fun φ n=>Z89.l0 (mkR (run E (φ 0))) (φ 0) n s (s.length:Int) 0=_) 1 h3 (fun _ _ _ h=>h)
theorem qa0(s:List Int)(p:Int→Bool)(hs:s.length≤1048576)(hp:∀ x∈s,Ret E n_Z22 [⟨yI,x⟩] ⟨o_Z22,(p x,())⟩) :
    Ret E n_Z88 [⟨yL,s⟩,⟨(.fn n_Z22 .nil),()⟩] ⟨o_Z88,(qkn p s,())⟩:=by
  obtain⟨o,h1,h2,h3⟩:=qbs 1 (L:=fun φ n k=>Z90.l0 (mkR (run E (φ 0))) (φ 0) n s (s.length:Int) k) (len:=s.length) (fun k=>∃ h:k<s.length,p s[k]=true) (fun o=>some ⟨o_Z88,(o2i o,())⟩) (fun _ _ _ _=>rfl) (fun k hk hP=>by
      obtain⟨_,hP⟩:=hP
      simp only[Z90.l0_succ _ qah]
      refine qay (decide_eq_true (by omega)) (qae (qam hk) (qab (hp _ (List.getElem_mem hk)) (qay hP qal)))) (fun k q hk hP ih=>by
      simp only[Z90.l0_succ _ qah]
      refine qay (decide_eq_true (by omega)) (qae (qam hk) (qab (hp _ (List.getElem_mem hk)) (qaz (Bool.eq_false_iff.2 fun h=>hP ⟨hk,h⟩) ?_)))
      rw[qai (by omega)];exact ih) (by
      simp only[Z90.l0_succ _ qah]
      exact qaz (decide_eq_false (by omega)) qal)
  rw[qc4 h1 h2] at h3
  refine qan ?_
  simp only[run_Z88,Z90.ev]
  exact Ev.start (p:=fun φ n=>Z90.l0 (mkR (run E (φ 0))) (φ 0) n s (s.length:Int) 0=_) 1 h3 (fun _ _ _ h=>h)
theorem qa8(s:List Int)(c:((Int×Unit)×Unit))(p:Int→Bool)(hs:s.length≤1048576)(hp:∀ x∈s,Ret E n_Z24 [⟨yI,x⟩,⟨(.ptr (.cons yI .nil)),c.1⟩] ⟨o_Z24,(p x,())⟩) :
    Ret E n_Z88 [⟨yL,s⟩,⟨(.fn n_Z24 (.cons (.ptr (.cons yI .nil)) .nil)),c⟩] ⟨o_Z88,(qkn p s,())⟩:=by
  obtain⟨o,h1,h2,h3⟩:=qbs 1 (L:=fun φ n k=>Z91.l0 (mkR (run E (φ 0))) (φ 0) n s c (s.length:Int) k) (len:=s.length) (fun k=>∃ h:k<s.length,p s[k]=true) (fun o=>some ⟨o_Z88,(o2i o,())⟩) (fun _ _ _ _=>rfl) (fun k hk hP=>by
      obtain⟨_,hP⟩:=hP
      simp only[Z91.l0_succ _ qah]
      refine qay (decide_eq_true (by omega)) (qae (qam hk) (qab (hp _ (List.getElem_mem hk)) (qay hP qal)))) (fun k q hk hP ih=>by
      simp only[Z91.l0_succ _ qah]
      refine qay (decide_eq_true (by omega)) (qae (qam hk) (qab (hp _ (List.getElem_mem hk)) (qaz (Bool.eq_false_iff.2 fun h=>hP ⟨hk,h⟩) ?_)))
      rw[qai (by omega)];exact ih) (by
      simp only[Z91.l0_succ _ qah]
      exact qaz (decide_eq_false (by omega)) qal)
  rw[qc4 h1 h2] at h3
  refine qan ?_
  simp only[run_Z88,Z91.ev]
  exact Ev.start (p:=fun φ n=>Z91.l0 (mkR (run E (φ 0))) (φ 0) n s c (s.length:Int) 0=_) 1 h3 (fun _ _ _ h=>h)
theorem qbc(s:List Int)(p:Int→Bool)(hs:s.length≤1048576)(hp:∀ x∈s,Ret E n_Z26 [⟨yI,x⟩] ⟨o_Z26,(p x,())⟩) :
    Ret E n_Z88 [⟨yL,s⟩,⟨(.fn n_Z26 .nil),()⟩] ⟨o_Z88,(qkn p s,())⟩:=by
  obtain⟨o,h1,h2,h3⟩:=qbs 1 (L:=fun φ n k=>Z92.l0 (mkR (run E (φ 0))) (φ 0) n s (s.length:Int) k) (len:=s.length) (fun k=>∃ h:k<s.length,p s[k]=true) (fun o=>some ⟨o_Z88,(o2i o,())⟩) (fun _ _ _ _=>rfl) (fun k hk hP=>by
      obtain⟨_,hP⟩:=hP
      simp only[Z92.l0_succ _ qah]
      refine qay (decide_eq_true (by omega)) (qae (qam hk) (qab (hp _ (List.getElem_mem hk)) (qay hP qal)))) (fun k q hk hP ih=>by
      simp only[Z92.l0_succ _ qah]
      refine qay (decide_eq_true (by omega)) (qae (qam hk) (qab (hp _ (List.getElem_mem hk)) (qaz (Bool.eq_false_iff.2 fun h=>hP ⟨hk,h⟩) ?_)))
      rw[qai (by omega)];exact ih) (by
      simp only[Z92.l0_succ _ qah]
      exact qaz (decide_eq_false (by omega)) qal)
  rw[qc4 h1 h2] at h3
  refine qan ?_
  simp only[run_Z88,Z92.ev]
  exact Ev.start (p:=fun φ n=>Z92.l0 (mkR (run E (φ 0))) (φ 0) n s (s.length:Int) 0=_) 1 h3 (fun _ _ _ h=>h)
theorem qbi(s:List Int)(c:(((List Int)×Unit)×Unit))(p:Int→Bool)(hs:s.length≤1048576)(hp:∀ x∈s,Ret E n_Z39 [⟨yI,x⟩,⟨(.ptr (.cons yL .nil)),c.1⟩] ⟨o_Z39,(p x,())⟩) :
    Ret E n_Z88 [⟨yL,s⟩,⟨(.fn n_Z39 (.cons (.ptr (.cons yL .nil)) .nil)),c⟩] ⟨o_Z88,(qkn p s,())⟩:=by
  obtain⟨o,h1,h2,h3⟩:=qbs 1 (L:=fun φ n k=>Z93.l0 (mkR (run E (φ 0))) (φ 0) n s c (s.length:Int) k) (len:=s.length) (fun k=>∃ h:k<s.length,p s[k]=true) (fun o=>some ⟨o_Z88,(o2i o,())⟩) (fun _ _ _ _=>rfl) (fun k hk hP=>by
      obtain⟨_,hP⟩:=hP
      simp only[Z93.l0_succ _ qah]
      refine qay (decide_eq_true (by omega)) (qae (qam hk) (qab (hp _ (List.getElem_mem hk)) (qay hP qal)))) (fun k q hk hP ih=>by
      simp only[Z93.l0_succ _ qah]
      refine qay (decide_eq_true (by omega)) (qae (qam hk) (qab (hp _ (List.getElem_mem hk)) (qaz (Bool.eq_false_iff.2 fun h=>hP ⟨hk,h⟩) ?_)))
      rw[qai (by omega)];exact ih) (by
      simp only[Z93.l0_succ _ qah]
      exact qaz (decide_eq_false (by omega)) qal)
  rw[qc4 h1 h2] at h3
  refine qan ?_
  simp only[run_Z88,Z93.ev]
  exact Ev.start (p:=fun φ n=>Z93.l0 (mkR (run E (φ 0))) (φ 0) n s c (s.length:Int) 0=_) 1 h3 (fun _ _ _ h=>h)
theorem qaU(s:List (List Int))(p:(List Int)→Bool)(hs:s.length≤1048576)(hp:∀ x∈s,Ret E n_Z6 [⟨yL,x⟩] ⟨o_Z6,(p x,())⟩) :
  Ret E n_Z73 [⟨yK,s⟩,⟨(.fn n_Z6 .nil),()⟩] ⟨o_Z73,(pb (∃ x∈s,p x=true),())⟩:=by
 refine qan ?_
 simp only[run_Z73,Z74.ev]
 refine qab (qa2 s p hs hp) (qap ?_)
 simp only[ge_iff_le,qdb,qaK qba]
theorem qaQ(s:List (List Int))(c:((vK×Unit)×(Int×Unit)×Unit))(p:(List Int)→Bool)(hs:s.length≤1048576)(hp:∀ x∈s,Ret E n_Z17 [⟨yL,x⟩,⟨(.ptr yC),c.1⟩,⟨(.ptr (.cons yI .nil)),c.2.1⟩] ⟨o_Z17,(p x,())⟩) :
  Ret E n_Z73 [⟨yK,s⟩,⟨(.fn n_Z17 (.cons (.ptr yC) (.cons (.ptr (.cons yI .nil)) .nil))),c⟩] ⟨o_Z73,(pb (∃ x∈s,p x=true),())⟩:=by
 refine qan ?_
 simp only[run_Z73,Z75.ev]
 refine qab (qaW s c p hs hp) (qap ?_)
 simp only[ge_iff_le,qdb,qaK qba]
theorem qa5(s:List Int)(p:Int→Bool)(hs:s.length≤1048576)(hp:∀ x∈s,Ret E n_Z10 [⟨yI,x⟩] ⟨o_Z10,(p x,())⟩) :
  Ret E n_Z76 [⟨yL,s⟩,⟨(.fn n_Z10 .nil),()⟩] ⟨o_Z76,(pb (∃ x∈s,p x=true),())⟩:=by
 refine qan ?_
 simp only[run_Z76,Z77.ev]
 refine qab (qbf s p hs hp) (qap ?_)
 simp only[ge_iff_le,qdb,qaK qba]
theorem qaS(s:List Int)(p:Int→Bool)(hs:s.length≤1048576)(hp:∀ x∈s,Ret E n_Z22 [⟨yI,x⟩] ⟨o_Z22,(p x,())⟩) :
  Ret E n_Z76 [⟨yL,s⟩,⟨(.fn n_Z22 .nil),()⟩] ⟨o_Z76,(pb (∃ x∈s,p x=true),())⟩:=by
 refine qan ?_
 simp only[run_Z76,Z78.ev]
 refine qab (qa0 s p hs hp) (qap ?_)
 simp only[ge_iff_le,qdb,qaK qba]
theorem qaV(s:List Int)(c:((Int×Unit)×Unit))(p:Int→Bool)(hs:s.length≤1048576)(hp:∀ x∈s,Ret E n_Z24 [⟨yI,x⟩,⟨(.ptr (.cons yI .nil)),c.1⟩] ⟨o_Z24,(p x,())⟩) :
  Ret E n_Z76 [⟨yL,s⟩,⟨(.fn n_Z24 (.cons (.ptr (.cons yI .nil)) .nil)),c⟩] ⟨o_Z76,(pb (∃ x∈s,p x=true),())⟩:=by
 refine qan ?_
 simp only[run_Z76,Z79.ev]
 refine qab (qa8 s c p hs hp) (qap ?_)
 simp only[ge_iff_le,qdb,qaK qba]
theorem qaZ(s:List Int)(p:Int→Bool)(hs:s.length≤1048576)(hp:∀ x∈s,Ret E n_Z26 [⟨yI,x⟩] ⟨o_Z26,(p x,())⟩) :
  Ret E n_Z76 [⟨yL,s⟩,⟨(.fn n_Z26 .nil),()⟩] ⟨o_Z76,(pb (∃ x∈s,p x=true),())⟩:=by
 refine qan ?_
 simp only[run_Z76,Z80.ev]
 refine qab (qbc s p hs hp) (qap ?_)
 simp only[ge_iff_le,qdb,qaK qba]
theorem qbd(s:List Int)(c:(((List Int)×Unit)×Unit))(p:Int→Bool)(hs:s.length≤1048576)(hp:∀ x∈s,Ret E n_Z39 [⟨yI,x⟩,⟨(.ptr (.cons yL .nil)),c.1⟩] ⟨o_Z39,(p x,())⟩) :
  Ret E n_Z76 [⟨yL,s⟩,⟨(.fn n_Z39 (.cons (.ptr (.cons yL .nil)) .nil)),c⟩] ⟨o_Z76,(pb (∃ x∈s,p x=true),())⟩:=by
 refine qan ?_
 simp only[run_Z76,Z81.ev]
 refine qab (qbi s c p hs hp) (qap ?_)
 simp only[ge_iff_le,qdb,qaK qba]
end VeT
open Go Go.Proofs Ve
namespace VeT
abbrev cM:Ty:=.cons yI (.cons yI (.cons yI (.cons yL .nil)))
abbrev cC:Ty:=.cons yK .nil
abbrev cS:Ty:=.cons yK (.cons yI (.cons yL (.cons (.sl (.st cM)) .nil)))
abbrev Mat:=Int×Int×Int×List Int×Unit
abbrev Cpx:=List (List Int)×Unit
abbrev Shf:=List (List Int)×Int×List Int×List Mat×Unit
abbrev Sim:=List Int
abbrev dI(x:Int):Dv:=⟨.int .i64,x⟩
abbrev dL(x:List Int):Dv:=⟨.sl yI,x⟩
abbrev dLL(x:List (List Int)):Dv:=⟨.sl yL,x⟩
abbrev dC(x:Cpx):Dv:=⟨.ptr cC,x⟩
abbrev dM(x:Mat):Dv:=⟨.ptr cM,x⟩
abbrev dS(x:Shf):Dv:=⟨.ptr cS,x⟩
abbrev dMs(x:List Mat):Dv:=⟨.sl (.st cM),x⟩
theorem qb5(n lo hi:Int):Ret E n_Z49 [dI n,dI lo,dI hi] ⟨o_Z49,(pb (lo≤n∧n≤hi),())⟩:=by
 refine qan ?_
 simp only[run_Z49,Z49.ev]
 refine qew (fun h=>qap ?_) fun h=>qap ?_
 ·rw[qdb,qaK (show n≤hi↔lo≤n∧n≤hi by omega)]
 ·rw[qas (by omega)]
theorem qb9(n lo hi:Int):Ret E n_Z101 [dI n,dI lo,dI hi] ⟨o_Z101,(pb (lo≤n∧n≤hi),())⟩:=by
 refine qan ?_
 simp only[run_Z101,Z101.ev]
 refine qew (fun h=>qap ?_) fun h=>qap ?_
 ·rw[qdb,qaK (show n≤hi↔lo≤n∧n≤hi by omega)]
 ·rw[qas (by omega)]
theorem qjE(n:Int):Ret E n_Z43 [dI n] ⟨o_Z43,(pb (0≤n∧n≤9),())⟩:=by
 refine qan ?_
 simp only[run_Z43,Z43.ev]
 exact qab (qb5 _ _ _) qal
theorem qeQ(n:Int):Ret E n_Z22 [dI n] ⟨o_Z22,(!pb (0≤n∧n≤9),())⟩:=by
 refine qan ?_
 simp only[run_Z22,Z22.ev]
 exact qab (qjE _) qal
def qjh(s:Sim):Prop:=∀ j,1≤j→j<s.length→s.getD (j-1) 0<s.getD j 0
theorem qjU(s:Sim)(hs:Sm yL s):Ret E n_Z40 [dL s] ⟨o_Z40,(pb (qjh s),())⟩:=by
 have hs1:s.length≤1048576:=hs.1
 refine qan ?_
 simp only[run_Z40,Z40.ev]
 by_cases h0:s.length=0
 ·refine Ev.start (p:=fun φ n=>Z40.l0 (mkR (run E (φ 0))) (φ 0) n s 1=_) 1 ?_ (fun _ _ _ h=>h)
  refine qeA 1 (σ:=Unit) (L:=fun φ n _=>Z40.l0 (mkR (run E (φ 0))) (φ 0) n s 1) (fun _ _ _ _=>rfl) (fun _=>True) (fun _=>_) (fun _=>0) (fun _ _ _=>?_) () trivial
  simp only[Z40.l0_succ _ qah]
  refine qaz (decide_eq_false (by omega)) (qap ?_)
  rw[qaB]
  intro j h1 h2;omega
 ·refine Ev.start (p:=fun φ n=>Z40.l0 (mkR (run E (φ 0))) (φ 0) n s 1=_) 1 ?_ (fun _ _ _ h=>h)
  refine qd2 1 (L:=fun φ n k=>Z40.l0 (mkR (run E (φ 0))) (φ 0) n s k) (len:=s.length) 1 (by omega) (fun j=>s.getD (j-1) 0<s.getD j 0) (fun b=>some ⟨o_Z40,(b,())⟩) (fun _ _ _ _=>rfl) (fun k h1 h2 hP _=>?_) (fun k r h1 h2 hP _ ih=>?_) (fun _=>?_)
  ·simp only[Z40.l0_succ _ qah]
   refine qay (decide_eq_true (by omega)) ?_
   rw[qat (by omega) (by omega),show((k:Int)-1)=((k-1:Nat):Int) by omega]
   refine qae (qam (by omega)) (qae (qam h2) (qay (decide_eq_true ?_) qal))
   simpa [List.getD_eq_getElem?_getD,h2,show k-1<s.length by omega] using hP
  ·simp only[Z40.l0_succ _ qah]
   refine qay (decide_eq_true (by omega)) ?_
   rw[qat (by omega) (by omega),show((k:Int)-1)=((k-1:Nat):Int) by omega]
   refine qae (qam (by omega)) (qae (qam h2) (qaz (decide_eq_false ?_) ?_))
   ·simpa [List.getD_eq_getElem?_getD,h2,show k-1<s.length by omega] using hP
   ·rw[qai (by omega)];exact ih
  ·simp only[Z40.l0_succ _ qah]
   exact qaz (decide_eq_false (by omega)) qal
end VeT
open Go Go.Proofs Ve
namespace VeT
def Vx(s:Sim):Prop:=1≤s.length∧s.length≤4∧qjh s∧∀ x∈s,0≤x∧x≤9
theorem qbV(s:Sim)(hs:Sm yL s):Ret E n_Z21 [dL s] ⟨o_Z21,(pb (Vx s),())⟩:=by
 refine qan ?_
 simp only[run_Z21,Z21.ev]
 refine qew (fun h1=>qew (fun h2=>qab (qjU s hs) (qdT (fun h3=>qab (qaS s _ hs.1 fun x _=>qeQ x) (qap ?_)) fun h3=>qap ?_)) fun h2=>qap ?_) fun h1=>qap ?_
 ·have h3:=qaL.1 h3
  have:(!pb (∃ x∈s,(!pb (0≤x∧x≤9))=true))=pb (Vx s):=qiA (by
   simp only[Bool.not_eq_true',qbK]
   exact⟨fun h=>⟨by omega,by omega,h3,fun x hx=>Classical.byContradiction fun hn=>h ⟨x,hx,hn⟩⟩,fun h ⟨x,hx,hn⟩=>hn (h.2.2.2 x hx)⟩)
  rw[this]
 ·rw[qas fun h=>qbK.1 h3 h.2.2.1]
 ·rw[qas fun h=>h2 (by have:=h.2.1;omega)]
 ·rw[qas fun h=>h1 (by have:=h.1;omega)]
theorem qjx(s:Sim)(lo hi:Int)(hs:Sm yL s):Ret E n_Z103 [dL s,dI lo,dI hi] ⟨o_Z103,(pb (qjh s∧∀ x∈s,lo≤x∧x≤hi),())⟩:=by
 have hs1:s.length≤1048576:=hs.1
 refine qan ?_
 simp only[run_Z103,Z103.ev]
 refine Ev.start (p:=fun φ n=>Z103.l0 (mkR (run E (φ 0))) (φ 0) n s lo hi 0=_) 1 ?_ (fun _ _ _ h=>h)
 refine(qd2 1 (L:=fun φ n k=>Z103.l0 (mkR (run E (φ 0))) (φ 0) n s lo hi k) (len:=s.length) 0 (by omega) (fun j=>(lo≤s.getD j 0∧s.getD j 0≤hi)∧(1≤j→s.getD (j-1) 0<s.getD j 0)) (fun b=>some ⟨o_Z103,(b,())⟩) (fun _ _ _ _=>rfl) (fun k h1 h2 hP _=>?_) (fun k r h1 h2 hP _ ih=>?_) (fun _=>?_)).to ?_
 ·simp only[Z103.l0_succ _ qah]
  refine qay (decide_eq_true (by omega)) (qae (qam h2) (qab (qb9 _ _ _) ?_))
  have e:s.getD k 0=s[k]:=by simp[List.getD_eq_getElem?_getD,h2]
  rw[e] at hP
  refine qdT (fun _=>?_) (fun hin=>?_)
  ·simp only[Z103.j1_eq _ qah,cond_true];(first | exact qal | exact Ev.of fun _=>trivial)
  ·have hin:lo≤s[k]∧s[k]≤hi:=qaL.1 (by simpa using hin)
   have hk:1≤k:=Classical.byContradiction fun h=>hP ⟨hin,fun h'=>absurd h' h⟩
   refine qay (decide_eq_true (by omega)) ?_
   rw[qat (by omega) (by omega),show((k:Int)-1)=((k-1:Nat):Int) by omega]
   refine qae (qam (by omega)) (qae (qam h2) ?_)
   have e':s.getD (k-1) 0=s[k-1]:=by simp[List.getD_eq_getElem?_getD,show k-1<s.length by omega]
   rw[e'] at hP
   have:decide (s[k-1]≥s[k])=true:=decide_eq_true (Classical.byContradiction fun h=>hP ⟨hin,fun _=>by omega⟩)
   simp only[this,Z103.j1_eq _ qah,cond_true];(first | exact qal | exact Ev.of fun _=>trivial)
 ·simp only[Z103.l0_succ _ qah]
  refine qay (decide_eq_true (by omega)) (qae (qam h2) (qab (qb9 _ _ _) ?_))
  have e:s.getD k 0=s[k]:=by simp[List.getD_eq_getElem?_getD,h2]
  rw[e] at hP
  refine qaz (by rw[qaB hP.1];rfl) ?_
  refine qew (fun hk=>?_) fun hk=>?_
  ·rw[qat (by omega) (by omega),show((k:Int)-1)=((k-1:Nat):Int) by omega]
   refine qae (qam (by omega)) (qae (qam h2) ?_)
   have e':s.getD (k-1) 0=s[k-1]:=by simp[List.getD_eq_getElem?_getD,show k-1<s.length by omega]
   rw[e'] at hP
   have:decide (s[k-1]≥s[k])=false:=decide_eq_false (by have:=hP.2 (by omega);omega)
   simp only[this,Z103.j1_eq _ qah,cond_false]
   rw[qai (by omega)];exact ih
  ·simp only[Z103.j1_eq _ qah,cond_false]
   rw[qai (by omega)];exact ih
 ·simp only[Z103.l0_succ _ qah]
  exact qaz (decide_eq_false (by omega)) qal
 ·refine congrArg (fun b:Bool=>some (⟨o_Z103,(b,())⟩:Dv)) (qaK ⟨fun h=>⟨fun j h1 h2=>(h j (by omega) h2).2 h1,fun x hx=>?_⟩,fun⟨h1,h2⟩ j _ hj=>⟨?_,fun h3=>h1 j h3 hj⟩⟩)
  ·obtain⟨j,hj,rfl⟩:=List.mem_iff_getElem.1 hx
   simpa [List.getD_eq_getElem?_getD,hj] using (h j (by omega) hj).1
  ·simpa [List.getD_eq_getElem?_getD,hj] using h2 _ (List.getElem_mem hj)
theorem qhy(s:Sim)(hs:Sm yL s):Ret E n_Z123 [dL s] ⟨o_Z123,(pb (Vx s),())⟩:=by
 refine qan ?_
 simp only[run_Z123,Z123.ev]
 refine qab (qb9 _ _ _) (qdT (fun h1=>qab (qjx s _ _ hs) (qap ?_)) fun h1=>qap ?_)
 ·have h1:=qaL.1 h1
  exact congrArg (fun b:Bool=>some (⟨o_Z123,(b,())⟩:Dv)) (qaK ⟨fun h=>⟨by omega,by omega,h.1,h.2⟩,fun h=>⟨h.2.2.1,h.2.2.2⟩⟩)
 ·rw[qas fun h=>qbK.1 h1 ⟨by have:=h.1;omega,by have:=h.2.1;omega⟩]
def qhX(a b:Int):Int:=if a<b then -1 else if b<a then 1 else 0
def qdz:Sim→Sim→Int
 | [],[]=>0
 | [],_::_=>-1
 | _::_,[]=>1
 | x::xs,y::ys=>if x<y then -1 else if y<x then 1 else qdz xs ys
def qcI(a b:Sim):Int:=if qhX a.length b.length≠0 then qhX a.length b.length else qdz a b
theorem qdB{a b:Int}:qhX a b=0↔a=b:=by unfold qhX;split<;>(try split)<;>omega
theorem qn7{a b:Int}:qhX b a=- qhX a b:=by unfold qhX;split<;>split<;>(try split)<;>omega
theorem qmB{a b:Int}:qhX a b<0↔a<b:=by unfold qhX;split<;>(try split)<;>omega
theorem qmL:∀ {a b:Sim},qdz a b=0↔a=b
 | [],[]=>by simp[qdz]
 | [],_::_=>by simp[qdz]
 | _::_,[]=>by simp[qdz]
 | x::xs,y::ys=>by
  have:=@qmL xs ys
  simp only[qdz,List.cons.injEq]
  split
  ·constructor
   ·intro h;omega
   ·rintro⟨rfl,_⟩;omega
  ·split
   ·constructor
    ·intro h;omega
    ·rintro⟨rfl,_⟩;omega
   ·rw[this];constructor
    ·intro h;exact⟨by omega,h⟩
    ·exact fun h=>h.2
theorem qlz:∀ {a b:Sim},qdz b a=- qdz a b
 | [],[]=>by simp[qdz]
 | [],_::_=>by simp[qdz]
 | _::_,[]=>by simp[qdz]
 | x::xs,y::ys=>by
  have:=@qlz xs ys
  simp only[qdz]
  split<;>split<;>(try split)<;>omega
theorem qid:∀ {a b c:Sim},qdz a b<0→qdz b c<0→qdz a c<0
 | [],[],c,h,_=>by simp[qdz] at h
 | [],_::_,[],_,h=>by simp[qdz] at h
 | [],_::_,_::_,_,_=>by simp[qdz]
 | _::_,[],_,h,_=>by simp[qdz] at h
 | _::_,_::_,[],_,h=>by simp[qdz] at h
 | x::xs,y::ys,z::zs,h1,h2=>by
  have:=@qid xs ys zs
  simp only[qdz] at h1 h2 ⊢
  split at h1<;>split at h2<;>(try split at h1)<;>(try split at h2)<;>(try split)<;>(try split)<;>first | omega | (exact this h1 h2)
theorem qdC{a b:Sim}:qcI a b=0↔a=b:=by
 unfold qcI
 split
 ·rename_i h
  exact⟨fun h'=>absurd h' h,fun h'=>absurd (qdB.2 (by rw[h'])) h⟩
 ·exact qmL
theorem qiL{a b:Sim}:qcI b a=- qcI a b:=by
 unfold qcI
 rw[@qn7 a.length b.length]
 split<;>split<;>first | omega | exact qlz
theorem qgx{a b:Sim}:qcI a b<0↔a.length<b.length∨a.length=b.length∧qdz a b<0:=by
 unfold qcI
 split
 ·rename_i h
  rw[qmB]
  rw[Ne,qdB] at h
  omega
 ·rename_i h
  rw[Classical.not_not,qdB] at h
  omega
theorem qdM{a b c:Sim}(h1:qcI a b<0)(h2:qcI b c<0):qcI a c<0:=by
 rw[qgx] at *
 rcases h1 with h1 | ⟨h1,h1'⟩<;>rcases h2 with h2 | ⟨h2,h2'⟩
 ·left;omega
 ·left;omega
 ·left;omega
 ·right;exact⟨by omega,qid h1' h2'⟩
theorem qil(a:Int):Ret E n_Z3 [dI a] ⟨o_Z3,(false,())⟩:=by
 refine qan ?_
 simp only[run_Z3,Z3.ev]
 exact qap (by simp)
theorem qj2(a:Int):Ret E n_Z4 [dI a] ⟨o_Z4,(false,())⟩:=by
 refine qan ?_
 simp only[run_Z4,Z4.ev]
 exact qap (by simp)
theorem qjw(a b:Int):Ret E n_Z0 [dI a,dI b] ⟨o_Z0,(qhX a b,())⟩:=by
 refine qan ?_
 simp only[run_Z0,Z0.ev]
 refine qab (qil _) (qab (qil _) (qaz rfl (qaz rfl (qew (fun h=>qap ?_) fun h=>qew (fun h2=>qap ?_) fun h2=>qap ?_))))
 ·rw[qhX,if_pos h]
 ·rw[qhX,if_neg h,if_pos h2]
 ·rw[qhX,if_neg h,if_neg h2]
theorem qle(a b:Int):Ret E n_Z1 [dI a,dI b] ⟨o_Z1,(qhX a b,())⟩:=by
 refine qan ?_
 simp only[run_Z1,Z1.ev]
 refine qab (qj2 _) (qab (qj2 _) (qaz rfl (qaz rfl (qew (fun h=>qap ?_) fun h=>qew (fun h2=>qap ?_) fun h2=>qap ?_))))
 ·rw[qhX,if_pos h]
 ·rw[qhX,if_neg h,if_pos h2]
 ·rw[qhX,if_neg h,if_neg h2]
theorem qg3{a b:Sim}{k:Nat}(h:k<a.length)(h':k<b.length):qdz (a.drop k) (b.drop k)=if qhX a[k] b[k]≠0 then qhX a[k] b[k] else qdz (a.drop (k+1)) (b.drop (k+1)):=by
 rw[List.drop_eq_getElem_cons h,List.drop_eq_getElem_cons h',qdz]
 unfold qhX
 split
 ·simp
 ·split
  ·simp
  ·simp
theorem qfK(a b:Sim)(ha:Sm yL a):Ret E n_Z71 [dL a,dL b] ⟨o_Z71,(qdz a b,())⟩:=by
 have ha1:a.length≤1048576:=ha.1
 refine qan ?_
 simp only[run_Z71,Z71.ev]
 refine Ev.start (p:=fun φ n=>Z71.l0 (mkR (run E (φ 0))) (φ 0) n a b a (a.length:Int) 0=_) 1 ?_ (fun _ _ _ h=>h)
 refine qeA 1 (σ:=Nat) (L:=fun φ n k=>Z71.l0 (mkR (run E (φ 0))) (φ 0) n a b a (a.length:Int) (k:Int)) (fun _ _ _ _=>rfl) (fun k=>k≤a.length∧k≤b.length) (fun k=>some ⟨o_Z71,(qdz (a.drop k) (b.drop k),())⟩) (fun k=>a.length-k) (fun k ⟨hk,hkb⟩ ih=>?_) 0 ⟨Nat.zero_le _,Nat.zero_le _⟩
 simp only[Z71.l0_succ _ qah]
 refine qew (fun h=>?_) fun h=>?_
 ·have hka:k<a.length:=by omega
  refine qae (qam hka) (qew (fun h2=>qap ?_) fun h2=>?_)
  ·rw[List.drop_eq_getElem_cons hka,List.drop_of_length_le (l:=b) (by omega),qdz]
  ·have hkb:k<b.length:=by omega
   refine qae (qam hkb) (qab (qle _ _) (qdT (fun h3=>qap ?_) fun h3=>?_))
   ·rw[qg3 hka hkb,if_pos (by simpa using h3)]
   ·rw[qai (by omega)]
    refine(ih (k+1) ⟨by omega,by omega⟩ (by omega)).to ?_
    rw[qg3 hka hkb,if_neg (by simpa using h3)]
 ·have e:k=a.length:=by omega
  subst e
  refine qew (fun h2=>qap ?_) fun h2=>qap ?_
  ·rw[List.drop_of_length_le (l:=a) (by omega),List.drop_eq_getElem_cons (l:=b) (by omega),qdz]
  ·rw[List.drop_of_length_le (l:=a) (by omega),List.drop_of_length_le (l:=b) (by omega),qdz]
theorem qoV(a b:Int):Ret E n_Z2 [dL [a,b]] ⟨o_Z2,(if a≠0 then a else b,())⟩:=by
 refine qan ?_
 simp only[run_Z2,Z2.ev]
 refine Ev.start (p:=fun φ n=>Z2.l0 (mkR (run E (φ 0))) (φ 0) n 0 [a,b] ([a,b].length:Int) 0=_) 1 ?_ (fun _ _ _ h=>h)
 refine Ev.round 1 (L:=fun φ n=>Z2.l0 (mkR (run E (φ 0))) (φ 0) n 0 [a,b] ([a,b].length:Int) 0) ?_ (fun _ _ _=>rfl)
 simp only[Z2.l0_succ _ qah]
 refine qay (by simp) (qae (x:=a) rfl (qdT (fun h=>qap ?_) fun h=>?_))
 ·rw[if_pos (by simpa using h)]
 ·rw[if_neg (by simpa using h)]
  rw[show w64 ((0:Int)+1)=1 by decide]
  refine Ev.round 1 (L:=fun φ n=>Z2.l0 (mkR (run E (φ 0))) (φ 0) n 0 [a,b] ([a,b].length:Int) 1) ?_ (fun _ _ _=>rfl)
  simp only[Z2.l0_succ _ qah]
  refine qay (by simp) (qae (x:=b) rfl (qdT (fun h=>qal) fun h=>?_))
  rw[show w64 ((1:Int)+1)=2 by decide]
  refine Ev.round 1 (L:=fun φ n=>Z2.l0 (mkR (run E (φ 0))) (φ 0) n 0 [a,b] ([a,b].length:Int) 2) ?_ (fun _ _ _=>rfl)
  simp only[Z2.l0_succ _ qah]
  refine qaz (by simp) (qap ?_)
  have:b=0:=by simpa using h
  rw[this]
theorem qaN(a b:Sim)(ha:Sm yL a):Ret E n_Z29 [dL a,dL b] ⟨o_Z29,(qcI a b,())⟩:=by
 refine qan ?_
 simp only[run_Z29,Z29.ev]
 exact qab (qjw _ _) (qab (qfK a b ha) (qab (qoV _ _) qal))
theorem qeD(a b:Sim)(ha:Sm yL a):Ret E n_Z113 [dL a,dL b] ⟨o_Z113,(pb (qcI a b<0),())⟩:=by
  have ha1:a.length≤1048576:=ha.1
  refine qan ?_
  simp only[run_Z113,Z113.ev]
  refine qdT (fun h=>qap ?_) fun h=>?_
  · have h:(a.length:Int)≠b.length:=by simpa using h
    rw[qdb,qaK (show(a.length:Int)<b.length↔qcI a b<0 by rw[qgx];omega)]
  · have h : a.length = b.length := by have : (a.length : Int) = b.length := by simpa using h
                                       omega
    refine Ev.start (p:=fun φ n=>Z113.l0 (mkR (run E (φ 0))) (φ 0) n a b 0=_) 1 ?_ (fun _ _ _ h=>h)
    refine(qeA 1 (σ:=Nat) (L:=fun φ n k=>Z113.l0 (mkR (run E (φ 0))) (φ 0) n a b (k:Int)) (fun _ _ _ _=>rfl) (fun k=>k≤a.length) (fun k=>some ⟨o_Z113,(pb (qdz (a.drop k) (b.drop k)<0),())⟩) (fun k=>a.length-k) (fun k hk ih=>?_) 0 (Nat.zero_le _)).to ?_
    · simp only[Z113.l0_succ _ qah]
      refine qew (fun h1=>?_) fun h1=>?_
      · have hka:k<a.length:=by omega
        have hkb:k<b.length:=by omega
        have e:=qg3 hka hkb
        refine qae (qam hka) (qae (qam hkb) (qdT (fun h3=>?_) fun h3=>?_))
        · refine qae (qam hka) (qae (qam hkb) (qap ?_))
          have h3:a[k]≠b[k]:=by simpa using h3
          rw[if_pos (by rw[Ne,qdB];exact h3)] at e
          rw[e,qdb,qaK qmB]
        · have h3:a[k]=b[k]:=by simpa using h3
          rw[if_neg (by rw[Classical.not_not,qdB];exact h3)] at e
          rw[qai (by omega),e]
          exact ih (k+1) (by show k+1≤_;omega) (by show a.length-(k+1)<_;omega)
      · refine qap ?_
        have hk:k≤a.length:=hk
        have e:k=a.length:=by omega
        subst e
        rw[List.drop_of_length_le (l:=a) (by omega),List.drop_of_length_le (l:=b) (by omega),qdz,qas (by omega)]
    · refine congrArg (fun b:Bool=>some (⟨o_Z113,(b,())⟩:Dv)) (qaK ?_)
      simp only[List.drop_zero];rw[qgx];omega
end VeT
open Go Go.Proofs Ve
namespace VeT
theorem qao{α:Type}{s:List α}{k:Nat}{d:α}(h:k<s.length):s.getD k d=s[k]:=by simp[List.getD_eq_getElem?_getD,h]
theorem qbq{t:Ty}{s:List t.T}(h:Sm (.sl t) s){k:Nat}(hk:k<s.length):Sm t s[k]:=h.2 _ (List.getElem_mem hk)
theorem qpM{s:Sim}(h:s.length≤1048576):Sm yL s:=⟨h,fun _ _=>trivial⟩
theorem qdK(s:Sim)(hs:s.length≤1048576):Ret E n_Z102 [dL s] ⟨o_Z102,(s,())⟩:=by
 refine qan ?_
 simp only[run_Z102,Z102.ev]
 exact qaw (by simp;omega) (qap rfl)
theorem qgf(s:Sim)(k:Nat)(hk:k<s.length)(hs:s.length≤1048576):Ret E n_Z115 [dL s,dI (k:Int)] ⟨o_Z115,(s.eraseIdx k,())⟩:=by
 refine qan ?_
 simp only[run_Z115,Z115.ev]
 rw[qai (by omega)]
 simp only[Int.toNat_natCast]
 refine qaw (by simp;omega) (qab (qdK _ (by simp;omega)) (qaw (by simp;omega) (qaw (by simp;omega) (qap ?_))))
 rw[List.eraseIdx_eq_take_drop_succ]
theorem qfp(a b:Sim)(ha:a.length≤1048576):Ret E n_Z104 [dL a,dL b] ⟨o_Z104,(pb (a=b),())⟩:=by
 refine qan ?_
 simp only[run_Z104,Z104.ev]
 refine qdT (fun h=>qap ?_) fun h=>?_
 ·have h:(a.length:Int)≠b.length:=by simpa using h
  rw[qas fun e=>h (by rw[e])]
 ·have h:(a.length:Int)=b.length:=by simpa using h
  refine Ev.start (p:=fun φ n=>Z104.l0 (mkR (run E (φ 0))) (φ 0) n a b 0=_) 1 ?_ (fun _ _ _ h=>h)
  refine(qd2 1 (L:=fun φ n k=>Z104.l0 (mkR (run E (φ 0))) (φ 0) n a b k) (len:=a.length) 0 (by omega) (fun j=>a.getD j 0=b.getD j 0) (fun b=>some ⟨o_Z104,(b,())⟩) (fun _ _ _ _=>rfl) (fun k h1 h2 hP _=>?_) (fun k r h1 h2 hP _ ih=>?_) (fun _=>?_)).to ?_
  ·simp only[Z104.l0_succ _ qah]
   have hb:k<b.length:=by omega
   rw[qao h2,qao hb] at hP
   exact qay (decide_eq_true (by omega)) (qae (qam h2) (qae (qam hb) (qay (by simpa using hP) qal)))
  ·simp only[Z104.l0_succ _ qah]
   have hb:k<b.length:=by omega
   rw[qao h2,qao hb] at hP
   refine qay (decide_eq_true (by omega)) (qae (qam h2) (qae (qam hb) (qaz (by simpa using hP) ?_)))
   rw[qai (by omega)];exact ih
  ·simp only[Z104.l0_succ _ qah]
   exact qaz (decide_eq_false (by omega)) qal
  ·refine congrArg (fun b:Bool=>some (⟨o_Z104,(b,())⟩:Dv)) (qaK ⟨fun hh=>List.ext_getElem (by omega) fun j h1 h2=>?_,fun hh j _ _=>by rw[hh]⟩)
   have:=hh j (by omega) h1
   rwa [qao h1,qao h2] at this
noncomputable def qdH(c:List Sim)(s:Sim):Int:=qkn (fun x=>pb (x=s)) c
theorem qbj{c:List Sim}{s:Sim}:0≤qdH c s↔s∈c:=by
 unfold qdH
 rw[qba]
 simp only[qaL]
 exact⟨fun⟨x,h,e⟩=>e ▸ h,fun h=>⟨s,h,rfl⟩⟩
theorem qce(c:Cpx)(s:Sim)(hc:Sm yK c.1):Ret E n_Z118 [dC c,dL s] ⟨o_Z118,(qdH c.1 s,())⟩:=by
  have hc1:c.1.length≤1048576:=hc.1
  obtain⟨o,h1,h2,h3⟩:=qbs 1 (L:=fun φ n k=>Z118.l0 (mkR (run E (φ 0))) (φ 0) n c s k) (len:=c.1.length) (fun k=>∃ h:k<c.1.length,pb (c.1[k]=s)=true) (fun o=>some ⟨o_Z118,(o2i o,())⟩) (fun _ _ _ _=>rfl) (fun k hk hP=>by
      obtain⟨_,hP⟩:=hP
      simp only[Z118.l0_succ _ qah]
      refine qay (decide_eq_true (by omega)) (qae (qam hk) (qab (qfp _ _ (qbq hc hk).1) (qay hP qal)))) (fun k q hk hP ih=>by
      simp only[Z118.l0_succ _ qah]
      refine qay (decide_eq_true (by omega)) (qae (qam hk) (qab (qfp _ _ (qbq hc hk).1) (qaz (Bool.eq_false_iff.2 fun h=>hP ⟨hk,h⟩) ?_)))
      rw[qai (by omega)];exact ih) (by
      simp only[Z118.l0_succ _ qah]
      exact qaz (decide_eq_false (by omega)) qal)
  rw[qc4 (p:=fun x=>pb (x=s)) h1 h2] at h3
  refine qan ?_
  simp only[run_Z118,Z118.ev]
  exact Ev.start (p:=fun φ n=>Z118.l0 (mkR (run E (φ 0))) (φ 0) n c s 0=_) 1 h3 (fun _ _ _ h=>h)
theorem qoc(n:Nat)(args:List Dv):run E (n+1) n_Z84 args=qlU yI (mkR (run E n)) args:=rfl
theorem qnW(s:Sim)(n:Int)(h0:0≤n)(h1:n≤1048576)(hs:s.length≤1048576):Ret E n_Z84 [dL s,dI n] ⟨o_Z84,(s,())⟩:=by
 refine qan ?_
 simp only[qoc]
 refine qap ((if_pos (show 0≤n∧((List.length s:Int)+n)*(64*(Ty.size (Ty.int IntKind.i64):Int))≤70368744177664 from⟨h0,?_⟩)).trans rfl)
 have:(Ty.size (Ty.int IntKind.i64))=1:=rfl
 rw[this];omega
theorem qmj(ll:List Sim)(hl:ll.length≤1048576)(hf:ll.flatten.length≤1048576):Ret E n_Z72 [dLL ll] ⟨o_Z72,(ll.flatten,())⟩:=by
 have hle:∀ k,(ll.take k).flatten.length≤ll.flatten.length:=fun k=>by
  have:=congrArg List.length (congrArg List.flatten (List.take_append_drop k ll))
  rw[List.flatten_append,List.length_append] at this;omega
 have hst:∀ k (h:k<ll.length),(ll.take (k+1)).flatten=(ll.take k).flatten++ll[k]:=fun k h=>by
  rw[List.take_succ_eq_append_getElem h,List.flatten_append];simp
 refine qan ?_
 simp only[run_Z72,Z72.ev]
 refine Ev.start (p:=fun φ n=>Z72.l0 (mkR (run E (φ 0))) (φ 0) n ll 0 ll (ll.length:Int) 0=_) 1 ?_ (fun _ _ _ h=>h)
 refine qav 1 (L:=fun φ n k a=>Z72.l0 (mkR (run E (φ 0))) (φ 0) n ll a ll (ll.length:Int) k) (len:=ll.length) (fun k=>(((ll.take k).flatten.length:Nat):Int)) (fun _ _ _ _ _=>rfl) (fun k r hk ih=>?_) ?_
 ·simp only[Z72.l0_succ _ qah]
  have:=hle (k+1)
  have e:=hst k hk
  have e2:w64 (((ll.take k).flatten.length:Nat)+(List.length (ll[k]):Int))=(((ll.take (k+1)).flatten.length:Nat):Int):=by
   rw[qat (by omega) (by rw[e,List.length_append] at this;omega),e,List.length_append];omega
  refine qay (decide_eq_true (by omega)) (qae (qam hk) ?_)
  show Ev fun φ=>(bif decide (w64 (((ll.take k).flatten.length:Nat)+(List.length (ll[k]):Int))<0) then none else Z72.l0 (mkR (run E (φ 0))) (φ 0) (φ 1) ll (w64 (((ll.take k).flatten.length:Nat)+(List.length (ll[k]):Int))) ll (ll.length:Int) (w64 ((k:Int)+1)))=r
  rw[e2,qai (by omega)]
  exact qaz (decide_eq_false (by omega)) ih
 ·simp only[Z72.l0_succ _ qah]
  refine qaz (decide_eq_false (by omega)) (qab (qnW [] _ (by omega) (by have:=hle ll.length;omega) (by simp)) ?_)
  refine Ev.start (p:=fun φ n=>Z72.l1 (mkR (run E (φ 0))) (φ 0) n ll (ll.length:Int) 0 []=_) 2 ?_ (fun _ _ _ h=>h)
  refine qav 2 (L:=fun φ n k a=>Z72.l1 (mkR (run E (φ 0))) (φ 0) n ll (ll.length:Int) k a) (len:=ll.length) (fun k=>(ll.take k).flatten) (fun _ _ _ _ _=>rfl) (fun k r hk ih=>?_) ?_
  ·simp only[Z72.l1_succ _ qah]
   have:=hle (k+1)
   have e:=hst k hk
   rw[e] at ih this
   rw[List.length_append] at this
   refine qay (decide_eq_true (by omega)) (qae (qam hk) (qaw (decide_eq_true (by show(_+List.length ll[k])*8≤_;omega)) ?_))
   rw[qai (by omega)]
   exact ih
  ·simp only[Z72.l1_succ _ qah]
   refine qaz (decide_eq_false (by omega)) (qap ?_)
   rw[List.take_of_length_le (Nat.le_refl _)]
def qa9(s:Sim):List Sim:=if 1<s.length then(List.range s.length).map (s.eraseIdx ·) else []
theorem qdh{s f:Sim}:f∈qa9 s↔1<s.length∧∃ i,i<s.length∧f=s.eraseIdx i:=by
 unfold qa9
 split
 ·rename_i h
  simp only[List.mem_map,List.mem_range,h,true_and]
  exact⟨fun⟨i,h1,h2⟩=>⟨i,h1,h2.symm⟩,fun⟨i,h1,h2⟩=>⟨i,h1,h2.symm⟩⟩
 ·rename_i h
  simp[h]
theorem qgU{s f:Sim}(h:f∈qa9 s):f.length+1=s.length:=by
 obtain⟨h1,i,h2,rfl⟩:=qdh.1 h
 rw[List.length_eraseIdx,if_pos h2];omega
theorem qcr{s:Sim}:(qa9 s).length≤s.length:=by
 unfold qa9;split<;>simp
theorem qc3(s:Sim)(hs:s.length≤1048576):Ret E n_Z32 [dL s] ⟨o_Z32,(qa9 s,())⟩:=by
 refine qan ?_
 simp only[run_Z32,Z32.ev]
 refine Ev.start (p:=fun φ n=>Z32.l0 (mkR (run E (φ 0))) (φ 0) n s (s.length:Int) 0 []=_) 1 ?_ (fun _ _ _ h=>h)
 by_cases h1:1<s.length
 ·refine qav 1 (L:=fun φ n k a=>Z32.l0 (mkR (run E (φ 0))) (φ 0) n s (s.length:Int) k a) (len:=s.length) (fun k=>(List.range k).map (s.eraseIdx ·)) (fun _ _ _ _ _=>rfl) (fun k r hk ih=>?_) ?_
  ·simp only[Z32.l0_succ _ qah]
   rw[List.range_succ,List.map_append] at ih
   rw[qai (by omega)]
   simp only[Int.toNat_natCast]
   refine qay (decide_eq_true (by omega)) (qay (decide_eq_true (by omega)) (qaw (by simp;omega) (qaw (by simp;omega) (qab (qmj _ (by simp) (by simp;omega)) (qaw (by simp;omega) ?_)))))
   rw[show [s.take k,s.drop (k+1)].flatten=s.eraseIdx k by simp[List.eraseIdx_eq_take_drop_succ]]
   exact ih
  ·simp only[Z32.l0_succ _ qah]
   exact qaz (decide_eq_false (by omega)) (qap (by rw[qa9,if_pos h1]))
 ·refine qav 1 (L:=fun φ n k a=>Z32.l0 (mkR (run E (φ 0))) (φ 0) n s (s.length:Int) k a) (len:=s.length) (fun k=>[]) (fun _ _ _ _ _=>rfl) (fun k r hk ih=>?_) ?_
  ·simp only[Z32.l0_succ _ qah]
   rw[qai (by omega)]
   exact qay (decide_eq_true (by omega)) (qaz (decide_eq_false (by omega)) ih)
  ·simp only[Z32.l0_succ _ qah]
   exact qaz (decide_eq_false (by omega)) (qap (by rw[qa9,if_neg h1]))
def Srt(c:List Sim):Prop:=∀ i j (h:j<c.length) (hij:i<j),qcI c[i] c[j]<0
theorem qor{c:List Sim}(h:∀ k,1≤k→k<c.length→qcI (c.getD (k-1) []) (c.getD k [])<0):Srt c:=by
 intro i j
 induction j with
 | zero=>intro _ h;omega
 | succ j ih =>
  intro hj hij
  have:=h (j+1) (by omega) hj
  rw[Nat.add_sub_cancel,qao (by omega),qao hj] at this
  by_cases e:i=j
  ·subst e;exact this
  ·exact qdM (ih (by omega) (by omega)) this
theorem Srt.take{c:List Sim}(h:Srt c)(k:Nat):Srt (c.take k):=by
 intro i j hj hij
 rw[List.getElem_take,List.getElem_take]
 exact h i j (by rw[List.length_take] at hj;omega) hij
def bs(c:List Sim)(s:Sim):Nat:=c.findIdx (fun x=>!decide (qcI x s<0))
theorem qpt{c:List Sim}{s:Sim}:bs c s≤c.length:=List.findIdx_le_length
theorem qjd{c:List Sim}{s:Sim}(hc:Srt c){t:Nat}(h:t<c.length):t<bs c s↔qcI c[t] s<0:=by
 constructor
 ·intro ht
  have:=List.not_of_lt_findIdx ht
  simpa using this
 ·intro ht
  refine Classical.byContradiction fun hn=>?_
  have hb:bs c s<c.length:=by omega
  have h1:qcI c[bs c s] s<0:=by
   by_cases e:bs c s=t
   ·simp only[e];exact ht
   ·exact qdM (hc _ _ h (by omega)) ht
  have:=List.findIdx_getElem (w:=hb)
  simp only[Bool.not_eq_true',decide_eq_false_iff_not] at this
  exact this h1
theorem qns{c:List Sim}{s:Sim}(hc:Srt c):qdH c s=if h:bs c s<c.length∧c.getD (bs c s) []=s then(bs c s:Int) else -1:=by
 have e:c.findIdx? (fun x=>pb (x=s))=if bs c s<c.length∧c.getD (bs c s) []=s then some (bs c s) else none:=by
  split
  ·rename_i h
   obtain⟨h1,h2⟩:=h
   rw[List.findIdx?_eq_some_iff_getElem]
   rw[qao h1] at h2
   refine⟨h1,qaB h2,fun j hj=>?_⟩
   rw[qaL]
   intro he
   have:=(qjd (s:=s) hc (show j<c.length by omega)).1 hj
   rw[he,qdC.2 rfl] at this
   omega
  ·rename_i h
   rw[List.findIdx?_eq_none_iff]
   intro x hx
   rw[qbK]
   rintro rfl
   obtain⟨j,hj,rfl⟩:=List.mem_iff_getElem.1 hx
   have h0:¬ j<bs c c[j]:=fun hlt=>by
    have:=(qjd hc hj).1 hlt
    rw[qdC.2 rfl] at this;omega
   by_cases hjb:bs c c[j]=j
   ·exact h ⟨by omega,by rw[hjb,qao hj]⟩
   ·have hb:bs c c[j]<c.length:=by omega
    have:=(qjd (s:=c[j]) hc hb).2 (hc _ _ hj (by omega))
    omega
 unfold qdH qkn
 rw[e]
 split<;>rfl
theorem qfR(c:List Sim)(s:Sim)(hc:Sm yK c)(hs:Srt c):Ret E n_Z67 [dLL c,dL s,⟨.fn n_Z29 .nil,()⟩] ⟨o_Z67,((bs c s:Int),pb (bs c s<c.length∧c.getD (bs c s) []=s),())⟩:=by
 have hc1:c.length≤1048576:=hc.1
 refine qan ?_
 simp only[run_Z67,Z68.ev]
 refine Ev.start (p:=fun φ n=>Z68.l0 (mkR (run E (φ 0))) (φ 0) n c s (c.length:Int) 0 (c.length:Int)=_) 1 ?_ (fun _ _ _ h=>h)
 refine qeA 1 (σ:=Nat×Nat) (L:=fun φ n st=>Z68.l0 (mkR (run E (φ 0))) (φ 0) n c s (c.length:Int) (st.1:Int) (st.2:Int)) (fun _ _ _ _=>rfl) (fun st=>st.1≤bs c s∧bs c s≤st.2∧st.2≤c.length) (fun _=>_) (fun st=>st.2-st.1) (fun st hi ih=>?_) (0,c.length) ⟨Nat.zero_le _,qpt,Nat.le_refl _⟩
 obtain⟨i,j⟩:=st
 obtain⟨h1,h2,h3⟩:=hi
 simp only at h1 h2 h3 ih
 simp only[Z68.l0_succ _ qah]
 rw[qp3 (by omega)]
 refine qew (fun hij=>?_) fun hij=>?_
 ·have hh:(i+j) / 2<c.length:=by omega
  refine qaw (by decide) (qae (qam hh) (qab (qaN _ _ (qbq hc hh)) (qew (fun hlt=>?_) fun hlt=>?_)))
  ·rw[qai (by omega)]
   have:=(qjd hs hh).2 hlt
   exact ih ((i+j) / 2+1,j) ⟨this,h2,h3⟩ (by simp only;omega)
  ·have:¬ (i+j) / 2<bs c s:=fun h=>hlt ((qjd hs hh).1 h)
   exact ih (i,(i+j) / 2) ⟨h1,by simp only;omega,by simp only;omega⟩ (by simp only;omega)
 ·have e:i=bs c s:=by omega
  subst e
  refine qew (fun hl=>?_) fun hl=>qap ?_
  ·have hh:bs c s<c.length:=by omega
   refine qae (qam hh) (qab (qaN _ _ (qbq hc hh)) (qap ?_))
   have:(qcI c[bs c s] s==0)=pb (bs c s<c.length∧c.getD (bs c s) []=s):=qiA (by
    rw[qao hh,beq_iff_eq,qdC];exact⟨fun h=>⟨hh,h⟩,fun h=>h.2⟩)
   rw[this]
  ·rw[qas fun h=>hl (by omega)]
theorem qhi(c:List Sim)(s:Sim)(hc:Sm yK c)(hs:Srt c):Ret E n_Z35 [dLL c,dL s] ⟨o_Z35,(qdH c s,())⟩:=by
 refine qan ?_
 simp only[run_Z35,Z35.ev]
 refine qab (qfR c s hc hs) (qdT (fun h=>qap ?_) fun h=>qap ?_)
 ·rw[qns hs,dif_neg (qbK.1 (by simpa using h))]
 ·rw[qns hs,dif_pos (qaL.1 (by simpa using h))]
end VeT
open Go Go.Proofs Ve
namespace VeT
def VC(c:List Sim):Prop:=c.length≤48∧(∀ k,k<c.length→Vx (c.getD k []))∧(∀ k,1≤k→k<c.length→qcI (c.getD (k-1) []) (c.getD k [])<0)∧∀ k,k<c.length→∀ f∈qa9 (c.getD k []),f∈c
theorem VC.srt{c:List Sim}(h:VC c):Srt c:=qor h.2.2.1
def qke(c:List Sim)(k:Nat):Prop:=(Vx (c.getD k [])∧(1≤k→qcI (c.getD (k-1) []) (c.getD k [])<0))∧∀ f∈qa9 (c.getD k []),f∈c.take k
theorem qoW{c:List Sim}:((∀ k,0≤k→k<c.length→qke c k)∧c.length≤48)↔VC c:=by
 constructor
 ·rintro⟨h,hl⟩
  exact⟨hl,fun k hk=>(h k (by omega) hk).1.1,fun k h1 hk=>(h k (by omega) hk).1.2 h1,fun k hk f hf=>List.mem_of_mem_take ((h k (by omega) hk).2 f hf)⟩
 ·intro h
  have hs:=h.srt
  obtain⟨hl,h1,h2,h3⟩:=h
  refine⟨fun k _ hk=>⟨⟨h1 k hk,fun hk1=>h2 k hk1 hk⟩,fun f hf=>?_⟩,hl⟩
  have hm:=h3 k hk f hf
  have hlen:=qgU hf
  rw[qao hk] at hlen
  obtain⟨i,hi,rfl⟩:=List.mem_iff_getElem.1 hm
  have hlt:qcI c[i] c[k]<0:=qgx.2 (.inl (by omega))
  have hik:i<k:=Classical.byContradiction fun hn=>by
   by_cases e:i=k
   ·subst e;omega
   ·have:=hs k i hi (by omega)
    rw[qiL] at this;omega
  exact List.mem_iff_getElem.2 ⟨i,by rw[List.length_take];omega,by rw[List.getElem_take]⟩
theorem qoX{t:Ty}{s:List t.T}(h:Sm (.sl t) s)(k:Nat):Sm (.sl t) (s.take k):=⟨by have h1:s.length≤1048576:=h.1;show(s.take k).length≤_;rw[List.length_take];omega,fun x hx=>h.2 x (List.mem_of_mem_take hx)⟩
theorem qeo(c:List Sim)(f:Sim)(k:Nat)(hk:k≤c.length)(hc:Sm yK c)(hs:Srt (c.take k)) :
  Ret E n_Z17 [dL f,dC (c,()),⟨.ptr (.cons yI .nil),((k:Int),())⟩] ⟨o_Z17,(pb (¬ f∈c.take k),())⟩:=by
 refine qan ?_
 simp only[run_Z17,Z17.ev]
 simp only[Int.toNat_natCast]
 refine qaw (by simp;omega) (qab (qhi _ f (qoX hc k) hs) (qap ?_))
 simp only[qdb,qaK (show qdH (c.take k) f<0↔¬ f∈c.take k by rw[← qbj];omega)]
theorem qdc(c:List Sim)(hc:Sm yK c):Ret E n_Z16 [dLL c] ⟨o_Z16,(pb (VC c),())⟩:=by
  have hc1:c.length≤1048576:=hc.1
  refine qan ?_
  simp only[run_Z16,Z16.ev]
  refine Ev.start (p:=fun φ n=>Z16.l0 (mkR (run E (φ 0))) (φ 0) n c (c.length:Int) 0 c=_) 1 ?_ (fun _ _ _ h=>h)
  have key:∀(n:Nat) (k:Nat) (hk:k<c.length) (hpre:∀ j,0≤j→j<k→qke c j),Srt (c.take k):=fun n k hk hpre=>qor fun j h1 h2=>by
    rw[List.length_take] at h2
    have:=(hpre j (by omega) (by omega)).1.2 h1
    rw[qao (by omega),qao (by omega)] at this
    rw[qao (by rw[List.length_take];omega),qao (by rw[List.length_take];omega),List.getElem_take,List.getElem_take]
    exact this
  have hcon:∀(k:Nat) (hk:k<c.length) (hpre:∀ j,0≤j→j<k→qke c j),Ret E n_Z73 [dLL (qa9 c[k]),⟨.fn n_Z17 (.cons (.ptr yC) (.cons (.ptr (.cons yI .nil)) .nil)),((c,()),((k:Int),()),())⟩] ⟨o_Z73,(pb (∃ x∈qa9 c[k],pb (¬ x∈c.take k)=true),())⟩:=fun k hk hpre =>
    qaQ (qa9 c[k]) ((c,()),((k:Int),()),()) _ (Nat.le_trans qcr (qbq hc hk).1) fun x hx=>qeo c x k (by omega) hc (key 0 k hk hpre)
  refine(qd2 1 (L:=fun φ n k=>Z16.l0 (mkR (run E (φ 0))) (φ 0) n c (c.length:Int) k c) (len:=c.length) 0 (by omega) (qke c) (fun b=>some ⟨o_Z16,(b&&decide ((c.length:Int)≤48),())⟩) (fun _ _ _ _=>rfl) (fun k h1 h2 hP hpre=>?_) (fun k r h1 h2 hP hpre ih=>?_) (fun _=>?_)).to ?_
  · simp only[Z16.l0_succ _ qah]
    refine qay (decide_eq_true (by omega)) (qae (qam h2) (qab (qbV _ (qbq hc h2)) ?_))
    refine qdT (fun hv=>?_) fun hv=>?_
    · simp only[Z16.j1_eq _ qah,cond_true];(first | exact qal | exact Ev.of fun _=>trivial)
    · have hv:Vx c[k]:=qaL.1 (by simpa using hv)
      have last:(1≤k→qcI (c.getD (k-1) []) (c.getD k [])<0)→Ev fun φ=>Z16.j1 (mkR (run E (φ 0))) (φ 0) (φ 1) c[k] c (c.length:Int) (k:Int) false c (k:Int)=some ⟨o_Z16,(false,())⟩:=fun hcm=>by
        simp only[Z16.j1_eq _ qah,cond_false]
        refine qab (qc3 _ (qbq hc h2).1) (qab (hcon k h2 hpre) (qay ?_ qal))
        refine qaB (Classical.byContradiction fun hn=>hP ⟨⟨by rw[qao h2];exact hv,hcm⟩,fun f hf=>Classical.byContradiction fun hnf=>hn ⟨f,by rw[qao h2] at hf;exact hf,qaB hnf⟩⟩)
      refine qew (fun hk=>?_) fun hk=>?_
      · rw[qat (by omega) (by omega),show((k:Int)-1)=((k-1:Nat):Int) by omega]
        have hk1:k-1<c.length:=by omega
        refine qae (qam hk1) (qab (qaN _ _ (qbq hc hk1)) ?_)
        by_cases hcm:qcI c[k-1] c[k]<0
        · simp only[show decide (qcI c[k-1] c[k]≥0)=false from decide_eq_false (by omega)]
          exact last fun _=>by rw[qao hk1,qao h2];exact hcm
        · simp only[show decide (qcI c[k-1] c[k]≥0)=true from decide_eq_true (by omega),Z16.j1_eq _ qah,cond_true]
          (first | exact qal | exact Ev.of fun _=>trivial)
      · exact last fun h=>absurd h (by omega)
  · simp only[Z16.l0_succ _ qah]
    have hP':=hP
    obtain⟨⟨hv,hcm⟩,hfc⟩:=hP'
    rw[qao h2] at hv hfc
    refine qay (decide_eq_true (by omega)) (qae (qam h2) (qab (qbV _ (qbq hc h2)) (qaz (by rw[qaB hv];rfl) ?_)))
    have last:Ev fun φ=>Z16.j1 (mkR (run E (φ 0))) (φ 0) (φ 1) c[k] c (c.length:Int) (k:Int) false c (k:Int)=r:=by
      simp only[Z16.j1_eq _ qah,cond_false]
      refine qab (qc3 _ (qbq hc h2).1) (qab (hcon k h2 hpre) (qaz ?_ ?_))
      · exact qas fun⟨x,hx,hn⟩=>qaL.1 hn (hfc x hx)
      · rw[qai (by omega)];exact ih
    refine qew (fun hk=>?_) fun hk=>last
    rw[qat (by omega) (by omega),show((k:Int)-1)=((k-1:Nat):Int) by omega]
    have hk1:k-1<c.length:=by omega
    have hcm:=hcm (by omega)
    rw[qao hk1,qao h2] at hcm
    refine qae (qam hk1) (qab (qaN _ _ (qbq hc hk1)) ?_)
    simp only[show decide (qcI c[k-1] c[k]≥0)=false from decide_eq_false (by omega)]
    exact last
  · simp only[Z16.l0_succ _ qah]
    exact qaz (decide_eq_false (by omega)) (qap (by rw[Bool.true_and]))
  · have:(pb (∀ j,0≤j→j<c.length→qke c j)&&decide ((c.length:Int)≤48))=pb (VC c):=qiA (by
      rw[Bool.and_eq_true,qaL,decide_eq_true_iff,← qoW]
      exact⟨fun h=>⟨h.1,by omega⟩,fun h=>⟨h.1,by omega⟩⟩)
    rw[this]
end VeT
