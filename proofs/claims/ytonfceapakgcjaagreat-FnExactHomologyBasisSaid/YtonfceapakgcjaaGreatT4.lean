import Derived.Test.YtonfceapakgcjaaGreatT3
import Derived.Test.YtonfceapakgcjaaGreatV2
import Derived.Test.YtonfceapakgcjaaGreatProg
import Derived.KernelRfl
import Derived.WalkKit
import Derived.Lib.Walk
import Derived.Lib.SliceRun
import Derived.Lib.AppendZerosOnto
set_option linter.unusedVariables false
set_option linter.unusedSimpArgs false
open Go Go.Proofs Ve
set_option linter.unusedVariables false
set_option maxRecDepth 100000
namespace VeT
@[reducible] noncomputable def q1_0 (R:Run) (N:Nat):=kS R pol_Z80 7 N [1,1] F_Z80
@[reducible] noncomputable def q1_1 (R:Run) (N:Nat):=kS R pol_Z27 11 N [1,1,1] F_Z27
@[reducible] noncomputable def q1_2 (R:Run) (N:Nat):=kS R pol_Z23 22 N [1,1,1,0,1,0,0,1,1,0,0,1,1,1,1,1,1,1,1,1] F_Z23
@[reducible] noncomputable def q1_3 (R:Run) (N:Nat):=kS R pol_Z23 23 N [1,1,1,0,1,0,0,1,1,1] F_Z23
@[reducible] noncomputable def q1_4 (R:Run) (N:Nat):=kS R pol_Z23 24 N [1,1,1,1] F_Z23
@[reducible] noncomputable def q1_5 (R:Run) (N:Nat):=kS R pol_Z83 7 N [1,1] F_Z83
@[reducible] noncomputable def q1_6 (R:Run) (N:Nat):=kL R pol_Z23 4 N [1,1,1,0,1,0,0] F_Z23
@[reducible] noncomputable def q1_7 (R:Run) (N:Nat):=lC R pol_Z80 2 N [1,0,1,0,0] F_Z80
@[reducible] noncomputable def q1_8 (R:Run) (N:Nat):=lC R pol_Z83 2 N [1,0,1,0,0] F_Z83
@[reducible] noncomputable def q1_9 (R:Run):=kB R pol_Z23 0
noncomputable def Z72.l1 (R:Run) (N n:Nat) (a:vK) (b e:Int) (f:(List Int)):Option Dv := R.w (some ⟨(zd 6 (.c (.arr 37)::(zd 18 (.c (.d yK a)::(.c (.d yI b)::(.c (.d yI e)::(zd 8 []))))))),(zo 37 (some (.arr yI f true false false)::[]))⟩) fun st => lC R pol_Z72 11 N [1,1,1,1,0,1,0,0] F_Z72 n st (kB R pol_Z72 2 (kS R pol_Z72 15 N [1,1,1,1,1] F_Z72 (kTop E sg_Z72 F_Z72)))
noncomputable def Z72.l0 (R:Run) (N n:Nat) (a:vK) (b:Int) (e:vK) (f g:Int):Option Dv := R.w (some ⟨(.c (.d yK a)::(V.dead::(V.dead::(.c (.d yI b)::(zd 5 (.c (.d yK e)::(.c (.d yI f)::(.c (.d yI g)::(zd 24 []))))))))),(zo 38 [])⟩) fun st => lC R pol_Z72 3 N [1,1,0,1,0,0] F_Z72 n st (kB R pol_Z72 0 (kS R pol_Z72 9 N [1,1,1] F_Z72 (kTop E sg_Z72 F_Z72)))
theorem Z72.l1_succ (R:Run) (hw:R.ok) (N n:Nat) (a:vK) (b c:Int) (d:(List Int)):Z72.l1 R N (n + 1) a b c d = (bif (decide (c < b)) then ((idx? a c).bind fun y17 => ((chk (decide ((List.length d + List.length (y17,()).1) * 8 ≤ 70368744177664))).bind fun _ => (Z72.l1 R N n a b (w64 (c + (1:Int))) (d ++ (y17,()).1)))) else some ⟨o_Z72,(d,())⟩) := (hw _ _).trans (by kernel_rfl)
theorem Z72.l0_succ (R:Run) (hw:R.ok) (N n:Nat) (a:vK) (b:Int) (c:vK) (d e:Int):Z72.l0 R N (n + 1) a b c d e = (bif (decide (e < d)) then ((idx? c e).bind fun y6 => (bif (decide ((w64 (b + (List.length (y6,()).1:Int))) < (0:Int))) then none else (Z72.l0 R N n a (w64 (b + (List.length (y6,()).1:Int))) c d (w64 (e + (1:Int)))))) else ((callT R n_Z79 o_Z79 [⟨yL,([]:List Int)⟩,⟨yI,b⟩]).bind fun r12 => (Z72.l1 R N N a (List.length a:Int) (0:Int) r12.1))) := (hw _ _).trans (by kernel_rfl)
theorem Z72.ev (R:Run) (N:Nat) (a0:vK):evFn E R sg_Z72 pol_Z72 F_Z72 N [⟨yK,a0⟩] = (Z72.l0 R N N a0 (0:Int) a0 (List.length a0:Int) (0:Int)) := by kernel_rfl
noncomputable def Z26.l0 (R:Run) (N n:Nat) (a:(List Int)) (b e:Int) (f:vK):Option Dv := R.w (some ⟨(.c (.d yL a)::(V.dead::(V.dead::(.c (.arr 24)::(V.dead::(V.dead::(.c (.d yI b)::(.c (.d yI e)::(zd 19 []))))))))),(zo 24 (some (.arr yL f true false false)::(zo 4 [])))⟩) fun st => lC R pol_Z26 3 N [1,1,0,1,0,0] F_Z26 n st (kB R pol_Z26 0 (kS R pol_Z26 8 N [1,1,1] F_Z26 (kTop E sg_Z26 F_Z26)))
theorem Z26.l0_succ (R:Run) (hw:R.ok) (N n:Nat) (a:(List Int)) (b c:Int) (d:vK):Z26.l0 R N (n + 1) a b c d = (bif (decide (c < b)) then (bif (decide ((List.length a:Int) > (1:Int))) then ((chk (decide (0 ≤ c) && decide (c ≤ (List.length a:Int)))).bind fun _ => ((chk (decide (0 ≤ (w64 (c + (1:Int)))) && decide ((w64 (c + (1:Int))) ≤ (List.length a:Int)))).bind fun _ => ((callT R n_Z72 o_Z72 [⟨yK,[(List.take (Int.toNat c) a),(List.drop (Int.toNat (w64 (c + (1:Int)))) a)]⟩]).bind fun r5 => ((chk (decide ((List.length d + List.length [r5.1]) * 24 ≤ 70368744177664))).bind fun _ => (Z26.l0 R N n a b (w64 (c + (1:Int))) (d ++ [r5.1])))))) else (Z26.l0 R N n a b (w64 (c + (1:Int))) d)) else some ⟨o_Z26,(d,())⟩) := (hw _ _).trans (by kernel_rfl)
theorem Z26.ev (R:Run) (N:Nat) (a0:(List Int)):evFn E R sg_Z26 pol_Z26 F_Z26 N [⟨yL,a0⟩] = (Z26.l0 R N N a0 (List.length a0:Int) (0:Int) ([]:List (List Int))) := by kernel_rfl
noncomputable def Z69.l0 (R:Run) (N n:Nat) (a:vK) (b:(List Int)) (e f g:Int):Option Dv := R.w (some ⟨(.c (.d yK a)::(.c (.d yL b)::(.c (.d (.fn n_Z19 .nil) ())::(zd 5 (.c (.d yI e)::(.c (.d yI f)::(.c (.d yI g)::(zd 38 [])))))))),(zo 52 [])⟩) fun st => lC R pol_Z68 3 N [1,1,1,0,0,0] F_Z68 n st (kB R pol_Z68 0 (kS R pol_Z68 8 N [1,1,1,1] F_Z68 (kTop E sg_Z68 F_Z68)))
theorem Z69.l0_succ (R:Run) (hw:R.ok) (N n:Nat) (a:vK) (b:(List Int)) (c d e:Int):Z69.l0 R N (n + 1) a b c d e = (bif (decide (d < e)) then ((chk (decide (0 ≤ (1:Int)))).bind fun _ => ((idx? a (w64 ((Int.fdiv (IntKind.wrap .u64 ((w64 (d + e)))) (2 ^ (min (Int.toNat (1:Int)) (IntKind.bits .u64))))))).bind fun y6 => ((callT R n_Z19 o_Z19 [⟨yL,(y6,()).1⟩,⟨yL,b⟩]).bind fun r7 => (bif (decide (r7.1 < (0:Int))) then (Z69.l0 R N n a b c (w64 ((w64 ((Int.fdiv (IntKind.wrap .u64 ((w64 (d + e)))) (2 ^ (min (Int.toNat (1:Int)) (IntKind.bits .u64)))))) + (1:Int))) e) else (Z69.l0 R N n a b c d (w64 ((Int.fdiv (IntKind.wrap .u64 ((w64 (d + e)))) (2 ^ (min (Int.toNat (1:Int)) (IntKind.bits .u64))))))))))) else (bif (decide (d < c)) then ((idx? a d).bind fun y18 => ((callT R n_Z19 o_Z19 [⟨yL,(y18,()).1⟩,⟨yL,b⟩]).bind fun r19 => some ⟨o_Z68,(d,(r19.1 == (0:Int)),())⟩)) else some ⟨o_Z68,(d,false,())⟩)) := (hw _ _).trans (by kernel_rfl)
theorem Z69.ev (R:Run) (N:Nat) (a0:vK) (a1:(List Int)):evFn E R sg_Z68 pol_Z68 F_Z68 N [⟨yK,a0⟩,⟨yL,a1⟩,⟨(.fn n_Z19 .nil),()⟩] = (Z69.l0 R N N a0 a1 (List.length a0:Int) (0:Int) (List.length a0:Int)) := by kernel_rfl
theorem Z32.ev (R:Run) (N:Nat) (a0:vK) (a1:(List Int)):evFn E R sg_Z32 pol_Z32 F_Z32 N [⟨yK,a0⟩,⟨yL,a1⟩] = ((callT R n_Z68 o_Z68 [⟨yK,a0⟩,⟨yL,a1⟩,⟨(.fn n_Z19 .nil),()⟩]).bind fun r1 => (bif (!r1.2.1) then some ⟨o_Z32,((-1:Int),())⟩ else some ⟨o_Z32,(r1.1,())⟩)) := by kernel_rfl
theorem Z9.ev (R:Run) (N:Nat) (a0:(List Int)) (a1:(vK × Unit)) (a2:(Int × Unit)):evFn E R sg_Z9 pol_Z9 F_Z9 N [⟨yL,a0⟩,⟨(.ptr (.cons yK .nil)),a1⟩,⟨(.ptr (.cons yI .nil)),a2⟩] = ((chk (decide (0 ≤ a2.1) && decide (a2.1 ≤ (List.length a1.1:Int)))).bind fun _ => ((callT R n_Z32 o_Z32 [⟨yK,(List.take (Int.toNat a2.1) a1.1)⟩,⟨yL,a0⟩]).bind fun r1 => some ⟨o_Z9,((decide (r1.1 < (0:Int))),())⟩)) := by kernel_rfl
noncomputable def Z81.l0 (R:Run) (N n:Nat) (a:vK) (b:((vK × Unit) × (Int × Unit) × Unit)) (e f:Int):Option Dv := R.w (some ⟨(.c (.d yK a)::(.c (.d (.fn n_Z9 (.cons (.ptr (.cons yK .nil)) (.cons (.ptr (.cons yI .nil)) .nil))) b)::(zd 5 (.c (.d yI e)::(.c (.d yI f)::(zd 10 [])))))),(zo 21 [])⟩) fun st => q1_7 R N n st (kB R pol_Z80 0 (q1_0 R N (kTop E sg_Z80 F_Z80)))
theorem Z81.l0_succ (R:Run) (hw:R.ok) (N n:Nat) (a:vK) (b:((vK × Unit) × (Int × Unit) × Unit)) (c d:Int):Z81.l0 R N (n + 1) a b c d = (bif (decide (d < c)) then ((idx? a d).bind fun y5 => ((callT R n_Z9 o_Z9 [⟨yL,(y5,()).1⟩,⟨(.ptr (.cons yK .nil)),b.1⟩,⟨(.ptr (.cons yI .nil)),b.2.1⟩]).bind fun r6 => (bif r6.1 then some ⟨o_Z80,(d,())⟩ else (Z81.l0 R N n a b c (w64 (d + (1:Int))))))) else some ⟨o_Z80,((-1:Int),())⟩) := (hw _ _).trans (by kernel_rfl)
theorem Z81.ev (R:Run) (N:Nat) (a0:vK) (a1:((vK × Unit) × (Int × Unit) × Unit)):evFn E R sg_Z80 pol_Z80 F_Z80 N [⟨yK,a0⟩,⟨(.fn n_Z9 (.cons (.ptr (.cons yK .nil)) (.cons (.ptr (.cons yI .nil)) .nil))),a1⟩] = (Z81.l0 R N N a0 a1 (List.length a0:Int) (0:Int)) := by kernel_rfl
theorem Z74.ev (R:Run) (N:Nat) (a0:vK) (a1:((vK × Unit) × (Int × Unit) × Unit)):evFn E R sg_Z73 pol_Z73 F_Z73 N [⟨yK,a0⟩,⟨(.fn n_Z9 (.cons (.ptr (.cons yK .nil)) (.cons (.ptr (.cons yI .nil)) .nil))),a1⟩] = ((callT R n_Z80 o_Z80 [⟨yK,a0⟩,⟨(.fn n_Z9 (.cons (.ptr (.cons yK .nil)) (.cons (.ptr (.cons yI .nil)) .nil))),a1⟩]).bind fun r1 => some ⟨o_Z73,((decide (r1.1 ≥ (0:Int))),())⟩) := by kernel_rfl
noncomputable def Z8.j1 (R:Run) (N a:Nat) (b:(List Int)) (e:vK) (f g:Int) (h:Bool) (i:vK) (j:Int):Option Dv := R.w (some ⟨(V.dead::(.c (.box 1 0)::(V.dead::(.c (.box 3 0)::(.c (.d yL b)::(V.dead::(.c (.d yK e)::(.c (.d yI f)::(.c (.d yI g)::(zd 21 (.c (.d .bool h)::(zd 9 [])))))))))))),(none::(some (.box [.d yK i] true false)::(none::(some (.box [.d yI j] false false)::(zo 37 [])))))⟩) fun st => eC R pol_Z8 N [1,0,1,0,0,1,1,0,0,1,0,1] F_Z8 st (kS R pol_Z8 6 N [1,0,1,0,0,1,1,0,0,1,1] F_Z8 (kB R pol_Z8 1 (kS R pol_Z8 8 N [1,0,1,0,0,1,1,1] F_Z8 (kL R pol_Z8 2 N [1,0,1,0,0] F_Z8 a (kB R pol_Z8 0 (kS R pol_Z8 9 N [1,1] F_Z8 (kTop E sg_Z8 F_Z8)))))))
noncomputable def Z8.l0 (R:Run) (N n:Nat) (a:vK) (b e:Int) (f:vK):Option Dv := R.w (some ⟨(V.dead::(.c (.box 1 0)::(zd 4 (.c (.d yK a)::(.c (.d yI b)::(.c (.d yI e)::(zd 31 []))))))),(none::(some (.box [.d yK f] true false)::(zo 39 [])))⟩) fun st => lC R pol_Z8 2 N [1,0,1,0,0] F_Z8 n st (kB R pol_Z8 0 (kS R pol_Z8 9 N [1,1] F_Z8 (kTop E sg_Z8 F_Z8)))
theorem Z8.j1_eq (R:Run) (hw:R.ok) (N a:Nat) (b:(List Int)) (c:vK) (d e:Int) (f:Bool) (g:vK) (h:Int):Z8.j1 R N a b c d e f g h = (bif f then some ⟨o_Z8,(false,())⟩ else ((callT R n_Z26 o_Z26 [⟨yL,b⟩]).bind fun r14 => ((callT R n_Z73 o_Z73 [⟨yK,r14.1⟩,⟨(.fn n_Z9 (.cons (.ptr (.cons yK .nil)) (.cons (.ptr (.cons yI .nil)) .nil))),((g,()),(h,()),())⟩]).bind fun r15 => (bif r15.1 then some ⟨o_Z8,(false,())⟩ else (Z8.l0 R N a c d (w64 (e + (1:Int))) g))))) := (hw _ _).trans (by kernel_rfl)
theorem Z8.l0_succ (R:Run) (hw:R.ok) (N n:Nat) (a:vK) (b c:Int) (d:vK):Z8.l0 R N (n + 1) a b c d = (bif (decide (c < b)) then ((idx? a c).bind fun y5 => ((callT R n_Z11 o_Z11 [⟨yL,(y5,()).1⟩]).bind fun r6 => (bif (!r6.1) then (Z8.j1 R N n ((y5,()).1) a b c true d c) else (bif (decide (c > (0:Int))) then ((idx? d (w64 (c - (1:Int)))).bind fun y20 => ((callT R n_Z19 o_Z19 [⟨yL,(y20,()).1⟩,⟨yL,(y5,()).1⟩]).bind fun r21 => (Z8.j1 R N n ((y5,()).1) a b c (decide (r21.1 ≥ (0:Int))) d c))) else (Z8.j1 R N n ((y5,()).1) a b c false d c))))) else some ⟨o_Z8,((decide ((List.length d:Int) ≤ (48:Int))),())⟩) := (hw _ _).trans (by kernel_rfl)
theorem Z8.ev (R:Run) (N:Nat) (a0:vK):evFn E R sg_Z8 pol_Z8 F_Z8 N [⟨yK,a0⟩] = (Z8.l0 R N N a0 (List.length a0:Int) (0:Int) a0) := by kernel_rfl
noncomputable def Z10.l0 (R:Run) (N n:Nat) (a b:Int):Option Dv := R.w (some ⟨(.c (.d yI a)::(V.dead::(V.dead::(.c (.d yI b)::(zd 14 []))))),(zo 19 [])⟩) fun st => lC R pol_Z10 4 N [1,1,0,1,0,0] F_Z10 n st (kB R pol_Z10 0 (kS R pol_Z10 8 N [1,1,1] F_Z10 (kTop E sg_Z10 F_Z10)))
theorem Z10.l0_succ (R:Run) (hw:R.ok) (N n:Nat) (a b:Int):Z10.l0 R N (n + 1) a b = (bif (decide ((w64 (b * b)) ≤ a)) then ((chk (b != 0)).bind fun _ => (bif ((Int.tmod a b) == (0:Int)) then some ⟨o_Z10,(false,())⟩ else (Z10.l0 R N n a (w64 (b + (1:Int)))))) else some ⟨o_Z10,(true,())⟩) := (hw _ _).trans (by kernel_rfl)
theorem Z10.ev (R:Run) (N:Nat) (a0:Int):evFn E R sg_Z10 pol_Z10 F_Z10 N [⟨yI,a0⟩] = ((callT R n_Z50 o_Z50 [⟨yI,a0⟩,⟨yI,(2:Int)⟩,⟨yI,(251:Int)⟩]).bind fun r1 => (bif (!r1.1) then some ⟨o_Z10,(false,())⟩ else (Z10.l0 R N N a0 (2:Int)))) := by kernel_rfl
theorem Z34.ev (R:Run) (N:Nat) (a0:Int):evFn E R sg_Z34 pol_Z34 F_Z34 N [⟨yI,a0⟩] = ((callT R n_Z50 o_Z50 [⟨yI,a0⟩,⟨yI,(0:Int)⟩,⟨yI,(3:Int)⟩]).bind fun r1 => some ⟨o_Z34,(r1.1,())⟩) := by kernel_rfl
theorem Z46.ev (R:Run) (N:Nat) (a0:(List Int)):evFn E R sg_Z46 pol_Z46 F_Z46 N [⟨yL,a0⟩] = some ⟨o_Z46,((List.length a0:Int),())⟩ := by kernel_rfl
noncomputable def Z45.l0 (R:Run) (N n:Nat) (a:Int) (b:vK) (e f:Int) (g:(List Int)):Option Dv := R.w (some ⟨(V.dead::(.c (.d yI a)::(zd 3 (.c (.arr 24)::(zd 3 (.c (.d yK b)::(.c (.d yI e)::(.c (.d yI f)::(zd 15 []))))))))),(zo 24 (some (.arr yI g true false false)::(zo 4 [])))⟩) fun st => lC R pol_Z45 3 N [1,1,0,1,0,0] F_Z45 n st (kB R pol_Z45 0 (kS R pol_Z45 8 N [1,1,1] F_Z45 (kTop E sg_Z45 F_Z45)))
theorem Z45.l0_succ (R:Run) (hw:R.ok) (N n:Nat) (a:Int) (b:vK) (c d:Int) (e:(List Int)):Z45.l0 R N (n + 1) a b c d e = (bif (decide (d < c)) then ((idx? b d).bind fun y6 => ((callT R n_Z46 o_Z46 [⟨yL,(y6,()).1⟩]).bind fun r7 => (bif (r7.1 == (w64 (a + (1:Int)))) then ((chk (decide ((List.length e + List.length [d]) * 8 ≤ 70368744177664))).bind fun _ => (Z45.l0 R N n a b c (w64 (d + (1:Int))) (e ++ [d]))) else (Z45.l0 R N n a b c (w64 (d + (1:Int))) e)))) else some ⟨o_Z45,(e,())⟩) := (hw _ _).trans (by kernel_rfl)
theorem Z45.ev (R:Run) (N:Nat) (a0:vK) (a1:Int):evFn E R sg_Z45 pol_Z45 F_Z45 N [⟨yK,a0⟩,⟨yI,a1⟩] = (Z45.l0 R N N a1 a0 (List.length a0:Int) (0:Int) ([]:List Int)) := by kernel_rfl
noncomputable def Z17.l1 (R:Run) (N n:Nat) (a b:Int) (e:vK):Option Dv := R.w (some ⟨(V.dead::(.c (.d yI a)::(V.dead::(.c (.box 3 0)::(zd 3 (.c (.d yI b)::(zd 26 []))))))),(zo 3 (some (.box [.d yK e] false false)::(zo 33 [])))⟩) fun st => lC R pol_Z17 6 N [1,1,0,1,0,0] F_Z17 n st (kB R pol_Z17 1 (kS R pol_Z17 10 N [1,1,1] F_Z17 (kTop E sg_Z17 F_Z17)))
noncomputable def Z17.j0 (R:Run) (N:Nat) (a:Int) (b:Bool) (e:vK):Option Dv := R.w (some ⟨(V.dead::(.c (.d yI a)::(V.dead::(.c (.box 3 0)::(zd 4 (.c (.d .bool b)::(zd 25 []))))))),(zo 3 (some (.box [.d yK e] false false)::(zo 33 [])))⟩) fun st => eC R pol_Z17 N [1,0,0,1] F_Z17 st (kB R pol_Z17 0 (kS R pol_Z17 5 N [1,1] F_Z17 (kTop E sg_Z17 F_Z17)))
theorem Z17.l1_succ (R:Run) (hw:R.ok) (N n:Nat) (a b:Int) (c:vK):Z17.l1 R N (n + 1) a b c = (bif (decide (b ≤ (w64 (a + (1:Int))))) then ((callT R n_Z45 o_Z45 [⟨yK,c⟩,⟨yI,b⟩]).bind fun r9 => (bif (decide ((List.length r9.1:Int) > (32:Int))) then some ⟨o_Z17,((5:Int),())⟩ else (Z17.l1 R N n a (w64 (b + (1:Int))) c))) else some ⟨o_Z17,((0:Int),())⟩) := (hw _ _).trans (by kernel_rfl)
theorem Z17.j0_eq (R:Run) (hw:R.ok) (N:Nat) (a:Int) (b:Bool) (c:vK):Z17.j0 R N a b c = (bif b then some ⟨o_Z17,((1:Int),())⟩ else ((callT R n_Z34 o_Z34 [⟨yI,a⟩]).bind fun r5 => (bif (!r5.1) then some ⟨o_Z17,((2:Int),())⟩ else (Z17.l1 R N N a (w64 (a - (1:Int))) c)))) := (hw _ _).trans (by kernel_rfl)
theorem Z17.ev (R:Run) (N:Nat) (a0:vK) (a1 a2:Int):evFn E R sg_Z17 pol_Z17 F_Z17 N [⟨yK,a0⟩,⟨yI,a1⟩,⟨yI,a2⟩] = ((callT R n_Z8 o_Z8 [⟨yK,a0⟩]).bind fun r1 => (bif (!r1.1) then (Z17.j0 R N a1 true a0) else ((callT R n_Z10 o_Z10 [⟨yI,a2⟩]).bind fun r13 => (Z17.j0 R N a1 (!r13.1) a0)))) := by kernel_rfl
theorem Z52.ev (R:Run) (N:Nat) (a0 a1:Int):evFn E R sg_Z52 pol_Z52 F_Z52 N [⟨yI,a0⟩,⟨yI,a1⟩] = some ⟨o_Z52,((0:Int),())⟩ := by kernel_rfl
noncomputable def Z29.l1 (R:Run) (N a n:Nat) (b e f g h i j k l m o p:Int) (q:(List Int)):Option Dv := R.w (some ⟨(V.dead::(V.dead::(.c (.d yI b)::(.c (.d (.fn n_Z52 .nil) ())::(zd 4 (.c (.box 8 0)::(.c (.box 9 0)::(.c (.d yI e)::(zd 5 (.c (.d yI f)::(.c (.d yI g)::(V.dead::(V.dead::(.c (.d yI h)::(.c (.d yI i)::(zd 14 [])))))))))))))))),(zo 8 (some (.box [.d yI j,.d yI k,.d yI l,.nils yI] false false)::(some (.box [.d yI m,.d yI o,.d yI p,.arr 31] false false)::(zo 21 (some (.arr yI q true false false)::(zo 8 []))))))⟩) fun st => lC R pol_Z27 6 N [1,1,0,1,0,0,1,1,0,0,1,1,0,0] F_Z27 n st (kB R pol_Z27 2 (kB R pol_Z27 1 (kS R pol_Z27 10 N [1,1,0,1,0,0,1,1,1] F_Z27 (kL R pol_Z27 3 N [1,1,0,1,0,0] F_Z27 a (kB R pol_Z27 0 (q1_1 R N (kTop E sg_Z27 F_Z27)))))))
noncomputable def Z29.l0 (R:Run) (N n:Nat) (a b e f g h i j k:Int) (l:(List Int)):Option Dv := R.w (some ⟨(V.dead::(V.dead::(.c (.d yI a)::(.c (.d (.fn n_Z52 .nil) ())::(zd 4 (.c (.box 8 0)::(.c (.box 9 0)::(zd 6 (.c (.d yI b)::(.c (.d yI e)::(zd 18 []))))))))))),(zo 8 (some (.box [.d yI f,.d yI g,.d yI h,.nils yI] false false)::(some (.box [.d yI i,.d yI j,.d yI k,.arr 31] false false)::(zo 21 (some (.arr yI l true false false)::(zo 8 []))))))⟩) fun st => lC R pol_Z27 3 N [1,1,0,1,0,0] F_Z27 n st (kB R pol_Z27 0 (q1_1 R N (kTop E sg_Z27 F_Z27)))
theorem Z29.l1_succ (R:Run) (hw:R.ok) (N a n:Nat) (b c d e f g h i j k l m:Int) (o:(List Int)):Z29.l1 R N a (n + 1) b c d e f g h i j k l m o = (bif (decide (g < f)) then ((callT R n_Z52 o_Z52 [⟨yI,c⟩,⟨yI,g⟩]).bind fun r24 => ((chk (decide ((List.length o + List.length [r24.1]) * 8 ≤ 70368744177664))).bind fun _ => (Z29.l1 R N a n b c d e f (w64 (g + (1:Int))) h i j k l m (o ++ [r24.1])))) else (Z29.l0 R N a b d (w64 (e + (1:Int))) h i j k l m o)) := (hw _ _).trans (by kernel_rfl)
theorem Z29.l0_succ (R:Run) (hw:R.ok) (N n:Nat) (a b c d e f g h i:Int) (j:(List Int)):Z29.l0 R N (n + 1) a b c d e f g h i j = (bif (decide (c < b)) then (Z29.l1 R N n N a c b c a (0:Int) d e f g h i j) else some ⟨o_Z27,(g,h,i,j,())⟩) := (hw _ _).trans (by kernel_rfl)
theorem Z29.ev (R:Run) (N:Nat) (a0 a1 a2:Int):evFn E R sg_Z27 pol_Z27 F_Z27 N [⟨yI,a0⟩,⟨yI,a1⟩,⟨yI,a2⟩,⟨(.fn n_Z52 .nil),()⟩] = (Z29.l0 R N N a2 a1 (0:Int) (0:Int) (0:Int) (0:Int) a0 a1 a2 ([]:List Int)) := by kernel_rfl
theorem Z51.ev (R:Run) (N:Nat) (a0 a1 a2:Int):evFn E R sg_Z51 pol_Z51 F_Z51 N [⟨yI,a0⟩,⟨yI,a1⟩,⟨yI,a2⟩] = ((callT R n_Z27 o_Z27 [⟨yI,a0⟩,⟨yI,a1⟩,⟨yI,a2⟩,⟨(.fn n_Z52 .nil),()⟩]).bind fun r1 => some ⟨o_Z51,(r1.1,r1.2.1,r1.2.2.1,r1.2.2.2.1,())⟩) := by kernel_rfl
noncomputable def Z25.l0 (R:Run) (N n:Nat) (a:vK) (b e:Int) (f:vK) (g:(List Int)):Option Dv := R.w (some ⟨(V.dead::(V.dead::(.c (.box 2 0)::(V.dead::(V.dead::(.c (.arr 24)::(zd 7 (.c (.d yK a)::(.c (.d yI b)::(.c (.d yI e)::(zd 11 []))))))))))),(none::(none::(some (.box [.d yK f] false false)::(zo 21 (some (.arr yI g true false false)::(zo 4 []))))))⟩) fun st => lC R pol_Z25 3 N [1,1,0,1,0,0] F_Z25 n st (kB R pol_Z25 0 (kS R pol_Z25 7 N [1,1,1] F_Z25 (kTop E sg_Z25 F_Z25)))
theorem Z25.l0_succ (R:Run) (hw:R.ok) (N n:Nat) (a:vK) (b c:Int) (d:vK) (e:(List Int)):Z25.l0 R N (n + 1) a b c d e = (bif (decide (c < b)) then ((idx? a c).bind fun y8 => ((callT R n_Z32 o_Z32 [⟨yK,d⟩,⟨yL,(y8,()).1⟩]).bind fun r9 => ((chk (decide ((List.length e + List.length [r9.1]) * 8 ≤ 70368744177664))).bind fun _ => (Z25.l0 R N n a b (w64 (c + (1:Int))) d (e ++ [r9.1]))))) else some ⟨o_Z25,(e,())⟩) := (hw _ _).trans (by kernel_rfl)
theorem Z25.ev (R:Run) (N:Nat) (a0:vK) (a1:Int):evFn E R sg_Z25 pol_Z25 F_Z25 N [⟨yK,a0⟩,⟨yI,a1⟩] = ((idx? a0 a1).bind fun y1 => ((callT R n_Z26 o_Z26 [⟨yL,(y1,()).1⟩]).bind fun r2 => (Z25.l0 R N N r2.1 (List.length r2.1:Int) (0:Int) a0 ([]:List Int)))) := by kernel_rfl
noncomputable def Z87.l0 (R:Run) (N n:Nat) (a:(List Int)) (b e f:Int):Option Dv := R.w (some ⟨(.c (.d yL a)::(.c (.d yI b)::(zd 5 (.c (.d yI e)::(.c (.d yI f)::(zd 10 [])))))),(zo 21 [])⟩) fun st => lC R pol_Z87 2 N [1,0,1,0,0] F_Z87 n st (kB R pol_Z87 0 (kS R pol_Z87 7 N [1,1] F_Z87 (kTop E sg_Z87 F_Z87)))
theorem Z87.l0_succ (R:Run) (hw:R.ok) (N n:Nat) (a:(List Int)) (b c d:Int):Z87.l0 R N (n + 1) a b c d = (bif (decide (d < c)) then ((idx? a d).bind fun y5 => (bif (b == (y5,()).1) then some ⟨o_Z87,(d,())⟩ else (Z87.l0 R N n a b c (w64 (d + (1:Int)))))) else some ⟨o_Z87,((-1:Int),())⟩) := (hw _ _).trans (by kernel_rfl)
theorem Z87.ev (R:Run) (N:Nat) (a0:(List Int)) (a1:Int):evFn E R sg_Z87 pol_Z87 F_Z87 N [⟨yL,a0⟩,⟨yI,a1⟩] = (Z87.l0 R N N a0 a1 (List.length a0:Int) (0:Int)) := by kernel_rfl
theorem Z14.ev (R:Run) (N:Nat) (a0 a1:Int):evFn E R sg_Z14 pol_Z14 F_Z14 N [⟨yI,a0⟩,⟨yI,a1⟩] = (bif ((Int.tmod a0 (2:Int)) == (0:Int)) then some ⟨o_Z14,((1:Int),())⟩ else some ⟨o_Z14,((w64 (a1 - (1:Int))),())⟩) := by kernel_rfl
noncomputable def Z16.l1 (R:Run) (N a n:Nat) (b:Int) (e f:(List Int)) (g:Int) (h:(List Int)) (i j:Int) (k:(List Int)) (l m:Int) (o:vK) (p q r s t u:Int) (v:(List Int)):Option Dv := R.w (some ⟨(V.dead::(V.dead::(.c (.d yI b)::(.c (.box 3 0)::(V.dead::(V.dead::(.c (.box 6 0)::(.c (.d yL e)::(.c (.d yL f)::(.c (.box 9 0)::(.c (.d yI g)::(zd 17 (.c (.d yL h)::(.c (.d yI i)::(.c (.d yI j)::(zd 6 (.c (.d yL k)::(.c (.d yI l)::(.c (.d yI m)::(zd 22 [])))))))))))))))))))),(zo 3 (some (.box [.d yK o] false false)::(none::(none::(some (.box [.d yI p,.d yI q,.d yI r,.nils yI] false false)::(none::(none::(some (.box [.d yI s,.d yI t,.d yI u,.arr 65] false false)::(zo 55 (some (.arr yI v true false false)::[]))))))))))⟩) fun st => lC R pol_Z16 7 N [1,1,1,0,1,0,0,1,1,0,0,1,1,0,0] F_Z16 n st (kB R pol_Z16 2 (kB R pol_Z16 1 (kS R pol_Z16 12 N [1,1,1,0,1,0,0,1,1,1] F_Z16 (kL R pol_Z16 4 N [1,1,1,0,1,0,0] F_Z16 a (kB R pol_Z16 0 (kS R pol_Z16 13 N [1,1,1,1] F_Z16 (kTop E sg_Z16 F_Z16)))))))
noncomputable def Z16.l0 (R:Run) (N n:Nat) (a:Int) (b e f:(List Int)) (g h:Int) (i:vK) (j k l m o p:Int) (q:(List Int)):Option Dv := R.w (some ⟨(V.dead::(V.dead::(.c (.d yI a)::(.c (.box 3 0)::(V.dead::(V.dead::(.c (.box 6 0)::(.c (.d yL b)::(.c (.d yL e)::(.c (.box 9 0)::(zd 18 (.c (.d yL f)::(.c (.d yI g)::(.c (.d yI h)::(zd 31 []))))))))))))))),(zo 3 (some (.box [.d yK i] false false)::(none::(none::(some (.box [.d yI j,.d yI k,.d yI l,.nils yI] false false)::(none::(none::(some (.box [.d yI m,.d yI o,.d yI p,.arr 65] false false)::(zo 55 (some (.arr yI q true false false)::[]))))))))))⟩) fun st => lC R pol_Z16 4 N [1,1,1,0,1,0,0] F_Z16 n st (kB R pol_Z16 0 (kS R pol_Z16 13 N [1,1,1,1] F_Z16 (kTop E sg_Z16 F_Z16)))
theorem Z16.l1_succ (R:Run) (hw:R.ok) (N a n:Nat) (b:Int) (c d:(List Int)) (e:Int) (f:(List Int)) (g h:Int) (i:(List Int)) (j k:Int) (l:vK) (m o p q r s:Int) (t:(List Int)):Z16.l1 R N a (n + 1) b c d e f g h i j k l m o p q r s t = (bif (decide (k < j)) then ((idx? i k).bind fun y40 => ((callT R n_Z87 o_Z87 [⟨yL,c⟩,⟨yI,(y40,()).1⟩]).bind fun r41 => ((callT R n_Z14 o_Z14 [⟨yI,k⟩,⟨yI,b⟩]).bind fun r42 => ((chk (decide (0 ≤ (w64 ((w64 (r41.1 * (List.length d:Int))) + e))) && decide ((w64 ((w64 (r41.1 * (List.length d:Int))) + e)) < (List.length t:Int)))).bind fun _ => (Z16.l1 R N a n b c d e f g h i j (w64 (k + (1:Int))) l m o p q r s (List.set t (Int.toNat (w64 ((w64 (r41.1 * (List.length d:Int))) + e))) r42.1)))))) else (Z16.l0 R N a b c d f g (w64 (h + (1:Int))) l m o p q r s t)) := (hw _ _).trans (by kernel_rfl)
theorem Z16.l0_succ (R:Run) (hw:R.ok) (N n:Nat) (a:Int) (b c d:(List Int)) (e f:Int) (g:vK) (h i j k l m:Int) (o:(List Int)):Z16.l0 R N (n + 1) a b c d e f g h i j k l m o = (bif (decide (f < e)) then ((idx? d f).bind fun y20 => ((callT R n_Z25 o_Z25 [⟨yK,g⟩,⟨yI,(y20,()).1⟩]).bind fun r21 => (Z16.l1 R N n N a b c f d e f r21.1 (List.length r21.1:Int) (0:Int) g h i j k l m o))) else some ⟨o_Z16,(k,l,m,o,())⟩) := (hw _ _).trans (by kernel_rfl)
theorem Z16.ev (R:Run) (N:Nat) (a0:vK) (a1 a2:Int):evFn E R sg_Z16 pol_Z16 F_Z16 N [⟨yK,a0⟩,⟨yI,a1⟩,⟨yI,a2⟩] = ((callT R n_Z45 o_Z45 [⟨yK,a0⟩,⟨yI,(w64 (a1 - (1:Int)))⟩]).bind fun r1 => ((callT R n_Z45 o_Z45 [⟨yK,a0⟩,⟨yI,a1⟩]).bind fun r2 => ((callT R n_Z46 o_Z46 [⟨yL,r1.1⟩]).bind fun r3 => ((callT R n_Z46 o_Z46 [⟨yL,r2.1⟩]).bind fun r4 => ((callT R n_Z51 o_Z51 [⟨yI,a2⟩,⟨yI,r3.1⟩,⟨yI,r4.1⟩]).bind fun r5 => (Z16.l0 R N N a2 r1.1 r2.1 r2.1 (List.length r2.1:Int) (0:Int) a0 (0:Int) (0:Int) (0:Int) r5.1 r5.2.1 r5.2.2.1 r5.2.2.2.1)))))) := by kernel_rfl
theorem Z6.ev (R:Run) (N:Nat) (a0 a1 a2:Int) (a3:(List Int)) (a4 a5:Int):evFn E R sg_Z6 pol_Z6 F_Z6 N [⟨yI,a0⟩,⟨yI,a1⟩,⟨yI,a2⟩,⟨yL,a3⟩,⟨yI,a4⟩,⟨yI,a5⟩] = ((idx? a3 (w64 ((w64 (a4 * a2)) + a5))).bind fun y1 => some ⟨o_Z6,((y1,()).1,())⟩) := by kernel_rfl
theorem Z49.ev (R:Run) (N:Nat) (a0 a1:Int) (a2:vM):evFn E R sg_Z49 pol_Z49 F_Z49 N [⟨yI,a0⟩,⟨yI,a1⟩,⟨(.ptr yM),a2⟩] = ((callT R n_Z6 o_Z6 [⟨yI,a2.1⟩,⟨yI,a2.2.1⟩,⟨yI,a2.2.2.1⟩,⟨yL,a2.2.2.2.1⟩,⟨yI,a1⟩,⟨yI,a0⟩]).bind fun r1 => some ⟨o_Z49,(r1.1,())⟩) := by kernel_rfl
noncomputable def Z28.l1 (R:Run) (N a n:Nat) (b:Int) (e:(vM × Unit)) (f g h i j k l m o p q:Int) (r:(List Int)):Option Dv := R.w (some ⟨(V.dead::(V.dead::(.c (.d yI b)::(.c (.d (.fn n_Z49 (.cons (.ptr yM) .nil)) e)::(zd 4 (.c (.box 8 0)::(.c (.box 9 0)::(.c (.d yI f)::(zd 5 (.c (.d yI g)::(.c (.d yI h)::(V.dead::(V.dead::(.c (.d yI i)::(.c (.d yI j)::(zd 14 [])))))))))))))))),(zo 8 (some (.box [.d yI k,.d yI l,.d yI m,.nils yI] false false)::(some (.box [.d yI o,.d yI p,.d yI q,.arr 31] false false)::(zo 21 (some (.arr yI r true false false)::(zo 8 []))))))⟩) fun st => lC R pol_Z27 6 N [1,1,0,1,0,0,1,1,0,0,1,1,0,0] F_Z27 n st (kB R pol_Z27 2 (kB R pol_Z27 1 (kS R pol_Z27 10 N [1,1,0,1,0,0,1,1,1] F_Z27 (kL R pol_Z27 3 N [1,1,0,1,0,0] F_Z27 a (kB R pol_Z27 0 (q1_1 R N (kTop E sg_Z27 F_Z27)))))))
noncomputable def Z28.l0 (R:Run) (N n:Nat) (a:Int) (b:(vM × Unit)) (e f g h i j k l:Int) (m:(List Int)):Option Dv := R.w (some ⟨(V.dead::(V.dead::(.c (.d yI a)::(.c (.d (.fn n_Z49 (.cons (.ptr yM) .nil)) b)::(zd 4 (.c (.box 8 0)::(.c (.box 9 0)::(zd 6 (.c (.d yI e)::(.c (.d yI f)::(zd 18 []))))))))))),(zo 8 (some (.box [.d yI g,.d yI h,.d yI i,.nils yI] false false)::(some (.box [.d yI j,.d yI k,.d yI l,.arr 31] false false)::(zo 21 (some (.arr yI m true false false)::(zo 8 []))))))⟩) fun st => lC R pol_Z27 3 N [1,1,0,1,0,0] F_Z27 n st (kB R pol_Z27 0 (q1_1 R N (kTop E sg_Z27 F_Z27)))
theorem Z28.l1_succ (R:Run) (hw:R.ok) (N a n:Nat) (b:Int) (c:(vM × Unit)) (d e f g h i j k l m o:Int) (p:(List Int)):Z28.l1 R N a (n + 1) b c d e f g h i j k l m o p = (bif (decide (h < g)) then ((callT R n_Z49 o_Z49 [⟨yI,d⟩,⟨yI,h⟩,⟨(.ptr yM),c.1⟩]).bind fun r26 => ((chk (decide ((List.length p + List.length [r26.1]) * 8 ≤ 70368744177664))).bind fun _ => (Z28.l1 R N a n b c d e f g (w64 (h + (1:Int))) i j k l m o (p ++ [r26.1])))) else (Z28.l0 R N a b c e (w64 (f + (1:Int))) i j k l m o p)) := (hw _ _).trans (by kernel_rfl)
theorem Z28.l0_succ (R:Run) (hw:R.ok) (N n:Nat) (a:Int) (b:(vM × Unit)) (c d e f g h i j:Int) (k:(List Int)):Z28.l0 R N (n + 1) a b c d e f g h i j k = (bif (decide (d < c)) then (Z28.l1 R N n N a b d c d a (0:Int) e f g h i j k) else some ⟨o_Z27,(h,i,j,k,())⟩) := (hw _ _).trans (by kernel_rfl)
theorem Z28.ev (R:Run) (N:Nat) (a0 a1 a2:Int) (a3:(vM × Unit)):evFn E R sg_Z27 pol_Z27 F_Z27 N [⟨yI,a0⟩,⟨yI,a1⟩,⟨yI,a2⟩,⟨(.fn n_Z49 (.cons (.ptr yM) .nil)),a3⟩] = (Z28.l0 R N N a2 a3 a1 (0:Int) (0:Int) (0:Int) (0:Int) a0 a1 a2 ([]:List Int)) := by kernel_rfl
theorem Z48.ev (R:Run) (N:Nat) (a0 a1 a2:Int) (a3:(List Int)):evFn E R sg_Z48 pol_Z48 F_Z48 N [⟨yI,a0⟩,⟨yI,a1⟩,⟨yI,a2⟩,⟨yL,a3⟩] = ((callT R n_Z27 o_Z27 [⟨yI,a0⟩,⟨yI,a2⟩,⟨yI,a1⟩,⟨(.fn n_Z49 (.cons (.ptr yM) .nil)),((a0,a1,a2,a3,()),())⟩]).bind fun r1 => some ⟨o_Z48,(r1.1,r1.2.1,r1.2.2.1,r1.2.2.2.1,())⟩) := by kernel_rfl
theorem Z7.ev (R:Run) (N:Nat) (a0 a1 a2:Int) (a3:(List Int)) (a4:Int):evFn E R sg_Z7 pol_Z7 F_Z7 N [⟨yI,a0⟩,⟨yI,a1⟩,⟨yI,a2⟩,⟨yL,a3⟩,⟨yI,a4⟩] = ((chk (decide (0 ≤ (w64 (a4 * a2))) && decide ((w64 (a4 * a2)) ≤ (w64 ((w64 (a4 + (1:Int))) * a2))) && decide ((w64 ((w64 (a4 + (1:Int))) * a2)) ≤ (List.length a3:Int)))).bind fun _ => some ⟨o_Z7,((List.drop (Int.toNat (w64 (a4 * a2))) (List.take (Int.toNat (w64 ((w64 (a4 + (1:Int))) * a2))) a3)),())⟩) := by kernel_rfl
noncomputable def Z70.j0 (R:Run) (N:Nat) (a:(List Int)) (b:Bool):Option Dv := R.w (some ⟨(.c (.d yL a)::(zd 3 (.c (.d .bool b)::(zd 3 [])))),(zo 9 [])⟩) fun st => eC R pol_Z70 N [1,0,1] F_Z70 st (kS R pol_Z70 3 N [1,1] F_Z70 (kTop E sg_Z70 F_Z70))
theorem Z70.j0_eq (R:Run) (hw:R.ok) (N:Nat) (a:(List Int)) (b:Bool):Z70.j0 R N a b = (bif b then some ⟨o_Z70,(([]:List Int),())⟩ else ((chk (decide ((List.length ([]:List Int) + List.length a) * 8 ≤ 70368744177664))).bind fun _ => some ⟨o_Z70,((([]:List Int) ++ a),())⟩)) := (hw _ _).trans (by kernel_rfl)
theorem Z70.ev (R:Run) (N:Nat) (a0:(List Int)):evFn E R sg_Z70 pol_Z70 F_Z70 N [⟨yL,a0⟩] = (bif (List.isEmpty a0) then (both (Z70.j0 R N a0 true) (Z70.j0 R N a0 false)) else (Z70.j0 R N a0 false)) := by kernel_rfl
noncomputable def Z44.l0 (R:Run) (N n:Nat) (a b e f g:Int) (h:(List Int)) (i:vK):Option Dv := R.w (some ⟨(V.dead::(.c (.box 1 0)::(V.dead::(.c (.arr 16)::(V.dead::(V.dead::(.c (.d yI a)::(.c (.d yI b)::(zd 11 []))))))))),(none::(some (.box [.d yI e,.d yI f,.d yI g,.d yL h] false false)::(zo 14 (some (.arr yL i true false false)::(zo 7 [])))))⟩) fun st => lC R pol_Z44 3 N [1,1,0,1,0,0] F_Z44 n st (kB R pol_Z44 0 (kS R pol_Z44 7 N [1,1,1] F_Z44 (kTop E sg_Z44 F_Z44)))
theorem Z44.l0_succ (R:Run) (hw:R.ok) (N n:Nat) (a b c d e:Int) (f:(List Int)) (g:vK):Z44.l0 R N (n + 1) a b c d e f g = (bif (decide (b < a)) then ((callT R n_Z7 o_Z7 [⟨yI,c⟩,⟨yI,d⟩,⟨yI,e⟩,⟨yL,f⟩,⟨yI,b⟩]).bind fun r8 => ((callT R n_Z70 o_Z70 [⟨yL,r8.1⟩]).bind fun r9 => ((chk (decide ((List.length g + List.length [r9.1]) * 24 ≤ 70368744177664))).bind fun _ => (Z44.l0 R N n a (w64 (b + (1:Int))) c d e f (g ++ [r9.1]))))) else some ⟨o_Z44,(g,())⟩) := (hw _ _).trans (by kernel_rfl)
theorem Z44.ev (R:Run) (N:Nat) (a0 a1 a2:Int) (a3:(List Int)):evFn E R sg_Z44 pol_Z44 F_Z44 N [⟨yI,a0⟩,⟨yI,a1⟩,⟨yI,a2⟩,⟨yL,a3⟩] = (Z44.l0 R N N a1 (0:Int) a0 a1 a2 a3 ([]:List (List Int))) := by kernel_rfl
theorem Z18.ev (R:Run) (N:Nat) (a0 a1 a2:Int) (a3:(List Int)):evFn E R sg_Z18 pol_Z18 F_Z18 N [⟨yI,a0⟩,⟨yI,a1⟩,⟨yI,a2⟩,⟨yL,a3⟩] = ((callT R n_Z48 o_Z48 [⟨yI,a0⟩,⟨yI,a1⟩,⟨yI,a2⟩,⟨yL,a3⟩]).bind fun r1 => ((callT R n_Z44 o_Z44 [⟨yI,r1.1⟩,⟨yI,r1.2.1⟩,⟨yI,r1.2.2.1⟩,⟨yL,r1.2.2.2.1⟩]).bind fun r2 => some ⟨o_Z18,(r2.1,())⟩)) := by kernel_rfl
noncomputable def Z22.l0 (R:Run) (N n:Nat) (a:vK) (b e:Int) (f:vK):Option Dv := R.w (some ⟨(zd 3 (.c (.arr 16)::(V.dead::(V.dead::(.c (.d yK a)::(.c (.d yI b)::(.c (.d yI e)::(zd 10 [])))))))),(zo 16 (some (.arr yL f true false false)::(zo 4 [])))⟩) fun st => lC R pol_Z22 3 N [1,1,0,1,0,0] F_Z22 n st (kB R pol_Z22 0 (kS R pol_Z22 7 N [1,1,1] F_Z22 (kTop E sg_Z22 F_Z22)))
theorem Z22.l0_succ (R:Run) (hw:R.ok) (N n:Nat) (a:vK) (b c:Int) (d:vK):Z22.l0 R N (n + 1) a b c d = (bif (decide (c < b)) then ((idx? a c).bind fun y5 => ((callT R n_Z70 o_Z70 [⟨yL,(y5,()).1⟩]).bind fun r6 => ((chk (decide ((List.length d + List.length [r6.1]) * 24 ≤ 70368744177664))).bind fun _ => (Z22.l0 R N n a b (w64 (c + (1:Int))) (d ++ [r6.1]))))) else some ⟨o_Z22,(d,())⟩) := (hw _ _).trans (by kernel_rfl)
theorem Z22.ev (R:Run) (N:Nat) (a0:vK):evFn E R sg_Z22 pol_Z22 F_Z22 N [⟨yK,a0⟩] = (Z22.l0 R N N a0 (List.length a0:Int) (0:Int) ([]:List (List Int))) := by kernel_rfl
theorem Z24.ev (R:Run) (N:Nat) (a0:(List Int)) (a1:(Int × Unit)):evFn E R sg_Z24 pol_Z24 F_Z24 N [⟨yL,a0⟩,⟨(.ptr (.cons yI .nil)),a1⟩] = ((idx? a0 a1.1).bind fun y1 => some ⟨o_Z24,(((y1,()).1 != (0:Int)),())⟩) := by kernel_rfl
noncomputable def Z82.l0 (R:Run) (N n:Nat) (a:vK) (b:((Int × Unit) × Unit)) (e f:Int):Option Dv := R.w (some ⟨(.c (.d yK a)::(.c (.d (.fn n_Z24 (.cons (.ptr (.cons yI .nil)) .nil)) b)::(zd 5 (.c (.d yI e)::(.c (.d yI f)::(zd 10 [])))))),(zo 21 [])⟩) fun st => q1_7 R N n st (kB R pol_Z80 0 (q1_0 R N (kTop E sg_Z80 F_Z80)))
theorem Z82.l0_succ (R:Run) (hw:R.ok) (N n:Nat) (a:vK) (b:((Int × Unit) × Unit)) (c d:Int):Z82.l0 R N (n + 1) a b c d = (bif (decide (d < c)) then ((idx? a d).bind fun y5 => ((callT R n_Z24 o_Z24 [⟨yL,(y5,()).1⟩,⟨(.ptr (.cons yI .nil)),b.1⟩]).bind fun r6 => (bif r6.1 then some ⟨o_Z80,(d,())⟩ else (Z82.l0 R N n a b c (w64 (d + (1:Int))))))) else some ⟨o_Z80,((-1:Int),())⟩) := (hw _ _).trans (by kernel_rfl)
theorem Z82.ev (R:Run) (N:Nat) (a0:vK) (a1:((Int × Unit) × Unit)):evFn E R sg_Z80 pol_Z80 F_Z80 N [⟨yK,a0⟩,⟨(.fn n_Z24 (.cons (.ptr (.cons yI .nil)) .nil)),a1⟩] = (Z82.l0 R N N a0 a1 (List.length a0:Int) (0:Int)) := by kernel_rfl
theorem Z43.ev (R:Run) (N:Nat) (a0 a1:Int):evFn E R sg_Z43 pol_Z43 F_Z43 N [⟨yI,a0⟩,⟨yI,a1⟩] = ((chk (a1 != 0)).bind fun _ => ((chk (a1 != 0)).bind fun _ => some ⟨o_Z43,((Int.tmod (w64 ((Int.tmod a0 a1) + a1)) a1),())⟩)) := by kernel_rfl
noncomputable def Z42.l0 (R:Run) (N n:Nat) (a b e f:Int):Option Dv := R.w (some ⟨(.c (.d yI a)::(.c (.d yI b)::(.c (.d yI e)::(zd 4 (.c (.d yI f)::(zd 18 [])))))),(zo 29 [])⟩) fun st => lC R pol_Z42 2 N [1,1,0,0,0] F_Z42 n st (kB R pol_Z42 0 (kS R pol_Z42 7 N [1,1,1] F_Z42 (kTop E sg_Z42 F_Z42)))
theorem Z42.l0_succ (R:Run) (hw:R.ok) (N n:Nat) (a b c d:Int):Z42.l0 R N (n + 1) a b c d = (bif (decide (b > (0:Int))) then (bif ((Int.tmod b (2:Int)) == (1:Int)) then ((chk (c != 0)).bind fun _ => ((chk (c != 0)).bind fun _ => (Z42.l0 R N n (Int.tmod (w64 (a * a)) c) (w64 (Int.tdiv b (2:Int))) c (Int.tmod (w64 (d * a)) c)))) else ((chk (c != 0)).bind fun _ => (Z42.l0 R N n (Int.tmod (w64 (a * a)) c) (w64 (Int.tdiv b (2:Int))) c d))) else some ⟨o_Z42,(d,())⟩) := (hw _ _).trans (by kernel_rfl)
theorem Z42.ev (R:Run) (N:Nat) (a0 a1 a2:Int):evFn E R sg_Z42 pol_Z42 F_Z42 N [⟨yI,a0⟩,⟨yI,a1⟩,⟨yI,a2⟩] = (Z42.l0 R N N a0 a1 a2 (1:Int)) := by kernel_rfl
theorem Z33.ev (R:Run) (N:Nat) (a0 a1:Int):evFn E R sg_Z33 pol_Z33 F_Z33 N [⟨yI,a0⟩,⟨yI,a1⟩] = ((callT R n_Z42 o_Z42 [⟨yI,a0⟩,⟨yI,(w64 (a1 - (2:Int)))⟩,⟨yI,a1⟩]).bind fun r1 => some ⟨o_Z33,(r1.1,())⟩) := by kernel_rfl
noncomputable def Z13.l0 (R:Run) (N n:Nat) (a b:(List Int)) (e f g h:Int) (i:(List Int)):Option Dv := R.w (some ⟨(.c (.d yL a)::(.c (.d yL b)::(.c (.d yI e)::(.c (.d yI f)::(zd 5 (.c (.arr 31)::(V.dead::(V.dead::(.c (.d yI g)::(.c (.d yI h)::(zd 20 []))))))))))),(zo 31 (some (.arr yI i true false false)::(zo 6 [])))⟩) fun st => lC R pol_Z13 3 N [1,1,0,1,0,0] F_Z13 n st (kB R pol_Z13 0 (kS R pol_Z13 7 N [1,1,1] F_Z13 (kTop E sg_Z13 F_Z13)))
theorem Z13.l0_succ (R:Run) (hw:R.ok) (N n:Nat) (a b:(List Int)) (c d e f:Int) (g:(List Int)):Z13.l0 R N (n + 1) a b c d e f g = (bif (decide (f < e)) then ((idx? a f).bind fun y8 => ((idx? b f).bind fun y9 => ((chk (d != 0)).bind fun _ => ((chk (decide ((List.length g + List.length [(Int.tmod (w64 ((y8,()).1 + (w64 (c * (y9,()).1)))) d)]) * 8 ≤ 70368744177664))).bind fun _ => (Z13.l0 R N n a b c d e (w64 (f + (1:Int))) (g ++ [(Int.tmod (w64 ((y8,()).1 + (w64 (c * (y9,()).1)))) d)])))))) else some ⟨o_Z13,(g,())⟩) := (hw _ _).trans (by kernel_rfl)
theorem Z13.ev (R:Run) (N:Nat) (a0 a1:(List Int)) (a2 a3:Int):evFn E R sg_Z13 pol_Z13 F_Z13 N [⟨yL,a0⟩,⟨yL,a1⟩,⟨yI,a2⟩,⟨yI,a3⟩] = (Z13.l0 R N N a0 a1 a2 a3 (List.length a0:Int) (0:Int) ([]:List Int)) := by kernel_rfl
noncomputable def Z23.j4 (R:Run) (N a b:Nat) (e f g h i:Int) (j:(List Int)) (k l m o:Int) (p:Bool) (q:Int) (r:(List Int)) (s:vK):Option Dv := R.w (some ⟨(.c (.arr 120)::(.c (.d yI e)::(.c (.d yI f)::(zd 5 (.c (.arr 116)::(.c (.d yI g)::(.c (.box 10 0)::(.c (.d yI h)::(V.dead::(V.dead::(.c (.d yI i)::(.c (.d yL j)::(.c (.d yI k)::(.c (.d yI l)::(zd 61 (.c (.arr 120)::(.c (.d yI m)::(.c (.d yI o)::(zd 13 (.c (.d .bool p)::(zd 24 []))))))))))))))))))))),(zo 10 (some (.box [.d yI q] true false)::(zo 105 (some (.arr yI r true false false)::(zo 3 (some (.arr yL s false false true)::(zo 4 [])))))))⟩) fun st => eC R pol_Z23 N [1,1,1,0,1,0,0,1,1,0,0,1,1,1,1,1,1,1,1,0,1,0,0,1,1,0,0,1,1] F_Z23 st (kB R pol_Z23 3 (kS R pol_Z23 21 N [1,1,1,0,1,0,0,1,1,0,0,1,1,1,1,1,1,1,1,0,1,0,0,1,1,1] F_Z23 (kL R pol_Z23 17 N [1,1,1,0,1,0,0,1,1,0,0,1,1,1,1,1,1,1,1,0,1,0,0] F_Z23 b (kB R pol_Z23 2 (q1_2 R N (kB R pol_Z23 1 (q1_3 R N (q1_6 R N a (q1_9 R (q1_4 R N (kTop E sg_Z23 F_Z23)))))))))))
noncomputable def Z23.l3 (R:Run) (N a n:Nat) (b e f g h i j k l:Int) (m:(List Int)) (o:vK):Option Dv := R.w (some ⟨(.c (.arr 120)::(.c (.d yI b)::(.c (.d yI e)::(zd 5 (.c (.arr 116)::(.c (.d yI f)::(.c (.box 10 0)::(.c (.d yI g)::(zd 4 (.c (.d yI h)::(.c (.d yI i)::(zd 61 (.c (.arr 120)::(.c (.d yI j)::(.c (.d yI k)::(zd 38 [])))))))))))))))),(zo 10 (some (.box [.d yI l] true false)::(zo 105 (some (.arr yI m true false false)::(zo 3 (some (.arr yL o false false true)::(zo 4 [])))))))⟩) fun st => lC R pol_Z23 17 N [1,1,1,0,1,0,0,1,1,0,0,1,1,1,1,1,1,1,1,0,1,0,0] F_Z23 n st (kB R pol_Z23 2 (q1_2 R N (kB R pol_Z23 1 (q1_3 R N (q1_6 R N a (q1_9 R (q1_4 R N (kTop E sg_Z23 F_Z23))))))))
noncomputable def Z23.j2 (R:Run) (N a:Nat) (b e f g h i j:Int) (k:(List Int)) (l:vK):Option Dv := R.w (some ⟨(.c (.arr 120)::(.c (.d yI b)::(.c (.d yI e)::(zd 5 (.c (.arr 116)::(.c (.d yI f)::(.c (.box 10 0)::(.c (.d yI g)::(zd 4 (.c (.d yI h)::(.c (.d yI i)::(zd 102 [])))))))))))),(zo 10 (some (.box [.d yI j] true false)::(zo 105 (some (.arr yI k true false false)::(zo 3 (some (.arr yL l false false true)::(zo 4 [])))))))⟩) fun st => eC R pol_Z23 N [1,1,1,0,1,0,0,1,1,0,0,1,1,1,1,1,1,1,1] F_Z23 st (kB R pol_Z23 1 (q1_3 R N (q1_6 R N a (q1_9 R (q1_4 R N (kTop E sg_Z23 F_Z23))))))
noncomputable def Z23.j1 (R:Run) (N a:Nat) (b e f g h i j:Int) (k:(List Int)) (l:vK):Option Dv := R.w (some ⟨(.c (.arr 120)::(.c (.d yI b)::(.c (.d yI e)::(zd 5 (.c (.arr 116)::(.c (.d yI f)::(.c (.box 10 0)::(.c (.d yI g)::(zd 4 (.c (.d yI h)::(.c (.d yI i)::(zd 102 [])))))))))))),(zo 10 (some (.box [.d yI j] true false)::(zo 105 (some (.arr yI k true false false)::(zo 3 (some (.arr yL l false false true)::(zo 4 [])))))))⟩) fun st => eC R pol_Z23 N [1,1,1,0,1,0,0,1,1,0,0,1,1,1,1,1] F_Z23 st (kB R pol_Z23 1 (q1_3 R N (q1_6 R N a (q1_9 R (q1_4 R N (kTop E sg_Z23 F_Z23))))))
noncomputable def Z23.l0 (R:Run) (N n:Nat) (a b e f g:Int) (h:(List Int)) (i:vK):Option Dv := R.w (some ⟨(.c (.arr 120)::(.c (.d yI a)::(.c (.d yI b)::(zd 5 (.c (.arr 116)::(.c (.d yI e)::(zd 6 (.c (.d yI f)::(.c (.d yI g)::(zd 102 [])))))))))),(zo 116 (some (.arr yI h true false false)::(zo 3 (some (.arr yL i false false true)::(zo 4 [])))))⟩) fun st => lC R pol_Z23 4 N [1,1,1,0,1,0,0] F_Z23 n st (q1_9 R (q1_4 R N (kTop E sg_Z23 F_Z23)))
theorem Z23.j4_eq (R:Run) (hw:R.ok) (N a b:Nat) (c d e f g:Int) (h:(List Int)) (i j k l:Int) (m:Bool) (o:Int) (p:(List Int)) (q:vK):Z23.j4 R N a b c d e f g h i j k l m o p q = (bif m then ((chk (decide (0 ≤ f) && decide (f < (List.length q:Int)))).bind fun _ => (Option.bind (q)[(Int.toNat f)]? fun y69 => ((idx? h o).bind fun y70 => ((callT R n_Z13 o_Z13 [⟨yL,h⟩,⟨yL,y69⟩,⟨yI,(w64 (d - (y70,()).1))⟩,⟨yI,d⟩]).bind fun r71 => ((chk (decide (0 ≤ g) && decide (g < (List.length q:Int)))).bind fun _ => (Z23.l3 R N a b c d e f i j k (w64 (l + (1:Int))) o p (List.set q (Int.toNat g) r71.1))))))) else (Z23.l3 R N a b c d e f i j k (w64 (l + (1:Int))) o p q)) := (hw _ _).trans (by kernel_rfl)
theorem Z23.l3_succ (R:Run) (hw:R.ok) (N a n:Nat) (b c d e f g h i j:Int) (k:(List Int)) (l:vK):Z23.l3 R N a (n + 1) b c d e f g h i j k l = (bif (decide (i < h)) then ((chk (decide (0 ≤ i) && decide (i < (List.length l:Int)))).bind fun _ => (Option.bind (l)[(Int.toNat i)]? fun y53 => (bif (i != e) then ((idx? y53 j).bind fun y54 => (Z23.j4 R N a n b c d e i y53 f g h i ((y54,()).1 != (0:Int)) j k l)) else (Z23.j4 R N a n b c d e i y53 f g h i false j k l)))) else ((chk (decide ((List.length k + List.length [j]) * 8 ≤ 70368744177664))).bind fun _ => (Z23.l0 R N a b c d f (w64 (g + (1:Int))) (k ++ [j]) l))) := (hw _ _).trans (by kernel_rfl)
theorem Z23.j2_eq (R:Run) (hw:R.ok) (N a:Nat) (b c d e f g h:Int) (i:(List Int)) (j:vK):Z23.j2 R N a b c d e f g h i j = (Z23.l3 R N a N b c d e f g (List.length j:Int) (0:Int) h i j) := (hw _ _).trans (by kernel_rfl)
theorem Z23.j1_eq (R:Run) (hw:R.ok) (N a:Nat) (b c d e f g h:Int) (i:(List Int)) (j:vK):Z23.j1 R N a b c d e f g h i j = ((chk (decide (0 ≤ e) && decide (e < (List.length j:Int)))).bind fun _ => (Option.bind (j)[(Int.toNat e)]? fun y28 => ((idx? y28 h).bind fun y29 => ((chk (c != 0)).bind fun _ => ((chk (decide (0 ≤ e) && decide (e < (List.length j:Int)))).bind fun _ => (Option.bind (j)[(Int.toNat e)]? fun y30 => (both ((chk (decide (0 ≤ b) && decide (b * 8 ≤ 70368744177664))).bind fun _ => ((callT R n_Z33 o_Z33 [⟨yI,(y29,()).1⟩,⟨yI,c⟩]).bind fun r31 => ((callT R n_Z13 o_Z13 [⟨yL,(List.replicate (Int.toNat b) (0:Int))⟩,⟨yL,y30⟩,⟨yI,r31.1⟩,⟨yI,c⟩]).bind fun r32 => ((chk (decide (0 ≤ e) && decide (e < (List.length j:Int)))).bind fun _ => (Z23.j2 R N a b c (Int.tmod (w64 (d * (y29,()).1)) c) e f g h i (List.set j (Int.toNat e) r32.1)))))) ((callT R n_Z33 o_Z33 [⟨yI,(y29,()).1⟩,⟨yI,c⟩]).bind fun r115 => ((chk (decide (0 ≤ b) && decide (b * 8 ≤ 70368744177664))).bind fun _ => ((callT R n_Z13 o_Z13 [⟨yL,(List.replicate (Int.toNat b) (0:Int))⟩,⟨yL,y30⟩,⟨yI,r115.1⟩,⟨yI,c⟩]).bind fun r116 => ((chk (decide (0 ≤ e) && decide (e < (List.length j:Int)))).bind fun _ => (Z23.j2 R N a b c (Int.tmod (w64 (d * (y29,()).1)) c) e f g h i (List.set j (Int.toNat e) r116.1))))))))))))) := (hw _ _).trans (by kernel_rfl)
theorem Z23.l0_succ (R:Run) (hw:R.ok) (N n:Nat) (a b c d e:Int) (f:(List Int)) (g:vK):Z23.l0 R N (n + 1) a b c d e f g = (bif (decide (e < d)) then ((chk (decide (0 ≤ (List.length f:Int)) && decide ((List.length f:Int) ≤ (List.length g:Int)))).bind fun _ => ((callT R n_Z80 o_Z80 [⟨yK,(List.drop (Int.toNat (List.length f:Int)) (List.take (List.length g) g))⟩,⟨(.fn n_Z24 (.cons (.ptr (.cons yI .nil)) .nil)),((e,()),())⟩]).bind fun r8 => (bif (decide (r8.1 < (0:Int))) then (Z23.l0 R N n a b (0:Int) d (w64 (e + (1:Int))) f g) else (bif (decide (r8.1 > (0:Int))) then ((chk (decide (0 ≤ (w64 ((List.length f:Int) + r8.1))) && decide ((w64 ((List.length f:Int) + r8.1)) < (List.length g:Int)))).bind fun _ => (Option.bind (g)[(Int.toNat (w64 ((List.length f:Int) + r8.1)))]? fun y16 => ((chk (decide (0 ≤ (List.length f:Int)) && decide ((List.length f:Int) < (List.length g:Int)))).bind fun _ => (Option.bind (g)[(Int.toNat (List.length f:Int))]? fun y17 => ((chk (decide (0 ≤ (List.length f:Int)) && decide ((List.length f:Int) < (List.length g:Int)))).bind fun _ => ((chk (decide (0 ≤ (w64 ((List.length f:Int) + r8.1))) && decide ((w64 ((List.length f:Int) + r8.1)) < (List.length (List.set g (Int.toNat (List.length f:Int)) y16):Int)))).bind fun _ => ((callT R n_Z43 o_Z43 [⟨yI,(w64 (0 - c))⟩,⟨yI,b⟩]).bind fun r18 => (Z23.j1 R N n a b r18.1 (List.length f:Int) d e e f (List.set (List.set g (Int.toNat (List.length f:Int)) y16) (Int.toNat (w64 ((List.length f:Int) + r8.1))) y17))))))))) else (Z23.j1 R N n a b c (List.length f:Int) d e e f g))))) else some ⟨o_Z23,(f,c,g,())⟩) := (hw _ _).trans (by kernel_rfl)
theorem Z23.ev (R:Run) (N:Nat) (a0:vK) (a1 a2:Int):evFn E R sg_Z23 pol_Z23 F_Z23 N [⟨yK,a0⟩,⟨yI,a1⟩,⟨yI,a2⟩] = (Z23.l0 R N N a1 a2 (1:Int) a1 (0:Int) ([]:List Int) a0) := by kernel_rfl
theorem Z47.ev (R:Run) (N:Nat) (a0 a1:Int) (a2:vK):evFn E R sg_Z47 pol_Z47 F_Z47 N [⟨yI,a0⟩,⟨yI,a1⟩,⟨yK,a2⟩] = ((callT R n_Z22 o_Z22 [⟨yK,a2⟩]).bind fun r1 => ((callT R n_Z23 o_Z23 [⟨yK,r1.1⟩,⟨yI,a1⟩,⟨yI,a0⟩]).bind fun r2 => ((chk (decide (0 ≤ (List.length r2.1:Int)) && decide ((List.length r2.1:Int) ≤ (List.length r2.2.2.1:Int)))).bind fun _ => ((callT R n_Z22 o_Z22 [⟨yK,(List.drop 0 (List.take (Int.toNat (List.length r2.1:Int)) r2.2.2.1))⟩]).bind fun r3 => some ⟨o_Z47,(a0,a1,r3.1,())⟩)))) := by kernel_rfl
theorem Z15.ev (R:Run) (N:Nat) (a0:vK) (a1 a2:Int):evFn E R sg_Z15 pol_Z15 F_Z15 N [⟨yK,a0⟩,⟨yI,a1⟩,⟨yI,a2⟩] = ((callT R n_Z16 o_Z16 [⟨yK,a0⟩,⟨yI,(w64 (a1 + (1:Int)))⟩,⟨yI,a2⟩]).bind fun r1 => ((callT R n_Z18 o_Z18 [⟨yI,r1.1⟩,⟨yI,r1.2.1⟩,⟨yI,r1.2.2.1⟩,⟨yL,r1.2.2.2.1⟩]).bind fun r2 => ((callT R n_Z47 o_Z47 [⟨yI,a2⟩,⟨yI,r1.2.1⟩,⟨yK,r2.1⟩]).bind fun r3 => some ⟨o_Z15,(r3.1,r3.2.1,r3.2.2.1,())⟩))) := by kernel_rfl
theorem Z78.ev (R:Run) (N:Nat) (a0:(List Int)) (a1:Int):evFn E R sg_Z78 pol_Z78 F_Z78 N [⟨yL,a0⟩,⟨yI,a1⟩] = ((callT R n_Z87 o_Z87 [⟨yL,a0⟩,⟨yI,a1⟩]).bind fun r1 => some ⟨o_Z78,((decide (r1.1 ≥ (0:Int))),())⟩) := by kernel_rfl
noncomputable def Z39.l1 (R:Run) (N a n:Nat) (b:(List Int)) (e f g:Int) (h:(List Int)) (i j k l m:Int) (o p:(List Int)) (q r:vK):Option Dv := R.w (some ⟨(V.dead::(.c (.box 1 0)::(V.dead::(.c (.arr 68)::(.c (.d yL b)::(V.dead::(.c (.arr 61)::(.c (.d yI e)::(.c (.arr 32)::(zd 14 (.c (.d yI f)::(.c (.d yI g)::(zd 11 (.c (.d yL h)::(.c (.d yI i)::(.c (.d yI j)::(zd 25 []))))))))))))))))),(none::(some (.box [.d yI k,.d yI l,.d yI m,.d yL o] false false)::(zo 30 (some (.arr yI p true false false)::(zo 28 (some (.arr yL q true false false)::(zo 6 (some (.arr yL r false false false)::[]))))))))⟩) fun st => lC R pol_Z39 11 N [1,1,1,1,0,1,0,0,1,1,0,0,1,1,1,1,0,1,0,0] F_Z39 n st (kB R pol_Z39 2 (kS R pol_Z39 15 N [1,1,1,1,0,1,0,0,1,1,0,0,1,1,1,1,1] F_Z39 (kB R pol_Z39 1 (kS R pol_Z39 16 N [1,1,1,1,0,1,0,0,1,1,1] F_Z39 (kL R pol_Z39 5 N [1,1,1,1,0,1,0,0] F_Z39 a (kB R pol_Z39 0 (kS R pol_Z39 17 N [1,1,1,1,1] F_Z39 (kTop E sg_Z39 F_Z39))))))))
noncomputable def Z39.l0 (R:Run) (N n:Nat) (a:(List Int)) (b e f g h:Int) (i:(List Int)) (j k:vK):Option Dv := R.w (some ⟨(V.dead::(.c (.box 1 0)::(V.dead::(.c (.arr 68)::(.c (.d yL a)::(V.dead::(.c (.arr 61)::(zd 16 (.c (.d yI b)::(.c (.d yI e)::(zd 39 []))))))))))),(none::(some (.box [.d yI f,.d yI g,.d yI h,.d yL i] false false)::(zo 59 (some (.arr yL j true false false)::(zo 6 (some (.arr yL k false false false)::[]))))))⟩) fun st => lC R pol_Z39 5 N [1,1,1,1,0,1,0,0] F_Z39 n st (kB R pol_Z39 0 (kS R pol_Z39 17 N [1,1,1,1,1] F_Z39 (kTop E sg_Z39 F_Z39)))
theorem Z39.l1_succ (R:Run) (hw:R.ok) (N a n:Nat) (b:(List Int)) (c d e:Int) (f:(List Int)) (g h i j k:Int) (l m:(List Int)) (o p:vK):Z39.l1 R N a (n + 1) b c d e f g h i j k l m o p = (bif (decide (h < g)) then ((idx? f h).bind fun y36 => ((chk (decide (0 ≤ h) && decide (h < (List.length p:Int)))).bind fun _ => (Option.bind (p)[(Int.toNat h)]? fun y37 => ((idx? y37 c).bind fun y38 => ((callT R n_Z43 o_Z43 [⟨yI,(w64 (0 - (y38,()).1))⟩,⟨yI,i⟩]).bind fun r39 => ((chk (decide (0 ≤ (y36,()).1) && decide ((y36,()).1 < (List.length m:Int)))).bind fun _ => (Z39.l1 R N a n b c d e f g (w64 (h + (1:Int))) i j k l (List.set m (Int.toNat (y36,()).1) r39.1) o p))))))) else ((chk (decide ((List.length o + List.length [m]) * 24 ≤ 70368744177664))).bind fun _ => (Z39.l0 R N a b d (w64 (e + (1:Int))) i j k l (o ++ [m]) p))) := (hw _ _).trans (by kernel_rfl)
theorem Z39.l0_succ (R:Run) (hw:R.ok) (N n:Nat) (a:(List Int)) (b c d e f:Int) (g:(List Int)) (h i:vK):Z39.l0 R N (n + 1) a b c d e f g h i = (bif (decide (c < b)) then ((callT R n_Z78 o_Z78 [⟨yL,a⟩,⟨yI,c⟩]).bind fun r12 => (bif r12.1 then (Z39.l0 R N n a b (w64 (c + (1:Int))) d e f g h i) else ((chk (decide (0 ≤ f) && decide (f * 8 ≤ 70368744177664))).bind fun _ => ((chk (decide (0 ≤ c) && decide (c < (List.length (List.replicate (Int.toNat f) (0:Int)):Int)))).bind fun _ => (Z39.l1 R N n N a c b c a (List.length a:Int) (0:Int) d e f g (List.set (List.replicate (Int.toNat f) (0:Int)) (Int.toNat c) (1:Int)) h i))))) else some ⟨o_Z39,(h,())⟩) := (hw _ _).trans (by kernel_rfl)
theorem Z39.ev (R:Run) (N:Nat) (a0 a1 a2:Int) (a3:(List Int)):evFn E R sg_Z39 pol_Z39 F_Z39 N [⟨yI,a0⟩,⟨yI,a1⟩,⟨yI,a2⟩,⟨yL,a3⟩] = ((callT R n_Z44 o_Z44 [⟨yI,a0⟩,⟨yI,a1⟩,⟨yI,a2⟩,⟨yL,a3⟩]).bind fun r1 => ((callT R n_Z23 o_Z23 [⟨yK,r1.1⟩,⟨yI,a2⟩,⟨yI,a0⟩]).bind fun r2 => (Z39.l0 R N N r2.1 a2 (0:Int) a0 a1 a2 a3 ([]:List (List Int)) r2.2.2.1))) := by kernel_rfl
theorem Z41.ev (R:Run) (N:Nat) (a0:Int):evFn E R sg_Z41 pol_Z41 F_Z41 N [⟨yI,a0⟩] = some ⟨o_Z41,((a0 != (0:Int)),())⟩ := by kernel_rfl
noncomputable def Z86.l0 (R:Run) (N n:Nat) (a:(List Int)) (b e:Int):Option Dv := R.w (some ⟨(.c (.d yL a)::(.c (.d (.fn n_Z41 .nil) ())::(zd 5 (.c (.d yI b)::(.c (.d yI e)::(zd 10 [])))))),(zo 21 [])⟩) fun st => q1_8 R N n st (kB R pol_Z83 0 (q1_5 R N (kTop E sg_Z83 F_Z83)))
theorem Z86.l0_succ (R:Run) (hw:R.ok) (N n:Nat) (a:(List Int)) (b c:Int):Z86.l0 R N (n + 1) a b c = (bif (decide (c < b)) then ((idx? a c).bind fun y4 => ((callT R n_Z41 o_Z41 [⟨yI,(y4,()).1⟩]).bind fun r5 => (bif r5.1 then some ⟨o_Z83,(c,())⟩ else (Z86.l0 R N n a b (w64 (c + (1:Int))))))) else some ⟨o_Z83,((-1:Int),())⟩) := (hw _ _).trans (by kernel_rfl)
theorem Z86.ev (R:Run) (N:Nat) (a0:(List Int)):evFn E R sg_Z83 pol_Z83 F_Z83 N [⟨yL,a0⟩,⟨(.fn n_Z41 .nil),()⟩] = (Z86.l0 R N N a0 (List.length a0:Int) (0:Int)) := by kernel_rfl
noncomputable def Z40.l0 (R:Run) (N n:Nat) (a:vK) (b e:Int) (f:(List Int)):Option Dv := R.w (some ⟨(zd 3 (.c (.arr 17)::(zd 3 (.c (.d yK a)::(.c (.d yI b)::(.c (.d yI e)::(zd 10 []))))))),(zo 17 (some (.arr yI f true false false)::(zo 5 [])))⟩) fun st => lC R pol_Z40 3 N [1,1,0,1,0,0] F_Z40 n st (kB R pol_Z40 0 (kS R pol_Z40 7 N [1,1,1] F_Z40 (kTop E sg_Z40 F_Z40)))
theorem Z40.l0_succ (R:Run) (hw:R.ok) (N n:Nat) (a:vK) (b c:Int) (d:(List Int)):Z40.l0 R N (n + 1) a b c d = (bif (decide (c < b)) then ((idx? a c).bind fun y5 => ((callT R n_Z83 o_Z83 [⟨yL,(y5,()).1⟩,⟨(.fn n_Z41 .nil),()⟩]).bind fun r6 => ((chk (decide ((List.length d + List.length [r6.1]) * 8 ≤ 70368744177664))).bind fun _ => (Z40.l0 R N n a b (w64 (c + (1:Int))) (d ++ [r6.1]))))) else some ⟨o_Z40,(d,())⟩) := (hw _ _).trans (by kernel_rfl)
theorem Z40.ev (R:Run) (N:Nat) (a0 a1:Int) (a2:vK):evFn E R sg_Z40 pol_Z40 F_Z40 N [⟨yI,a0⟩,⟨yI,a1⟩,⟨yK,a2⟩] = (Z40.l0 R N N a2 (List.length a2:Int) (0:Int) ([]:List Int)) := by kernel_rfl
theorem Z38.ev (R:Run) (N:Nat) (a0:Int):evFn E R sg_Z38 pol_Z38 F_Z38 N [⟨yI,a0⟩] = some ⟨o_Z38,((a0 != (0:Int)),())⟩ := by kernel_rfl
noncomputable def Z85.l0 (R:Run) (N n:Nat) (a:(List Int)) (b e:Int):Option Dv := R.w (some ⟨(.c (.d yL a)::(.c (.d (.fn n_Z38 .nil) ())::(zd 5 (.c (.d yI b)::(.c (.d yI e)::(zd 10 [])))))),(zo 21 [])⟩) fun st => q1_8 R N n st (kB R pol_Z83 0 (q1_5 R N (kTop E sg_Z83 F_Z83)))
theorem Z85.l0_succ (R:Run) (hw:R.ok) (N n:Nat) (a:(List Int)) (b c:Int):Z85.l0 R N (n + 1) a b c = (bif (decide (c < b)) then ((idx? a c).bind fun y4 => ((callT R n_Z38 o_Z38 [⟨yI,(y4,()).1⟩]).bind fun r5 => (bif r5.1 then some ⟨o_Z83,(c,())⟩ else (Z85.l0 R N n a b (w64 (c + (1:Int))))))) else some ⟨o_Z83,((-1:Int),())⟩) := (hw _ _).trans (by kernel_rfl)
theorem Z85.ev (R:Run) (N:Nat) (a0:(List Int)):evFn E R sg_Z83 pol_Z83 F_Z83 N [⟨yL,a0⟩,⟨(.fn n_Z38 .nil),()⟩] = (Z85.l0 R N N a0 (List.length a0:Int) (0:Int)) := by kernel_rfl
theorem Z77.ev (R:Run) (N:Nat) (a0:(List Int)):evFn E R sg_Z75 pol_Z75 F_Z75 N [⟨yL,a0⟩,⟨(.fn n_Z38 .nil),()⟩] = ((callT R n_Z83 o_Z83 [⟨yL,a0⟩,⟨(.fn n_Z38 .nil),()⟩]).bind fun r1 => some ⟨o_Z75,((decide (r1.1 ≥ (0:Int))),())⟩) := by kernel_rfl
theorem Z37.ev (R:Run) (N:Nat) (a0:(List Int)):evFn E R sg_Z37 pol_Z37 F_Z37 N [⟨yL,a0⟩] = ((callT R n_Z75 o_Z75 [⟨yL,a0⟩,⟨(.fn n_Z38 .nil),()⟩]).bind fun r1 => some ⟨o_Z37,((!r1.1),())⟩) := by kernel_rfl
noncomputable def Z21.l0 (R:Run) (N n:Nat) (a b e:(List Int)) (f g h i:Int) (j:vK) (k:(List Int)):Option Dv := R.w (some ⟨(V.dead::(.c (.d yL a)::(.c (.box 2 0)::(zd 3 (.c (.arr 25)::(.c (.d yL b)::(zd 4 (.c (.d yL e)::(.c (.d yI f)::(.c (.d yI g)::(zd 34 []))))))))))),(none::(none::(some (.box [.d yI h,.d yI i,.d yK j] false false)::(zo 22 (some (.arr yI k true false false)::(zo 27 []))))))⟩) fun st => lC R pol_Z21 4 N [1,1,1,0,1,0,0] F_Z21 n st (kB R pol_Z21 0 (kS R pol_Z21 9 N [1,1,1,1] F_Z21 (kTop E sg_Z21 F_Z21)))
theorem Z21.l0_succ (R:Run) (hw:R.ok) (N n:Nat) (a b c:(List Int)) (d e f g:Int) (h:vK) (i:(List Int)):Z21.l0 R N (n + 1) a b c d e f g h i = (bif (decide (e < d)) then ((idx? c e).bind fun y11 => ((idx? a (y11,()).1).bind fun y12 => ((chk (decide ((List.length i + List.length [(y12,()).1]) * 8 ≤ 70368744177664))).bind fun _ => ((idx? h e).bind fun y13 => ((idx? a (y11,()).1).bind fun y14 => ((chk (f != 0)).bind fun _ => ((callT R n_Z13 o_Z13 [⟨yL,b⟩,⟨yL,(y13,()).1⟩,⟨yI,(Int.tmod (w64 (f - (y14,()).1)) f)⟩,⟨yI,f⟩]).bind fun r15 => (Z21.l0 R N n a r15.1 c d (w64 (e + (1:Int))) f g h (i ++ [(y12,()).1]))))))))) else ((callT R n_Z37 o_Z37 [⟨yL,b⟩]).bind fun r25 => some ⟨o_Z21,(i,r25.1,())⟩)) := (hw _ _).trans (by kernel_rfl)
theorem Z21.ev (R:Run) (N:Nat) (a0 a1:Int) (a2:vK) (a3:(List Int)):evFn E R sg_Z21 pol_Z21 F_Z21 N [⟨yI,a0⟩,⟨yI,a1⟩,⟨yK,a2⟩,⟨yL,a3⟩] = ((callT R n_Z40 o_Z40 [⟨yI,a0⟩,⟨yI,a1⟩,⟨yK,a2⟩]).bind fun r1 => (Z21.l0 R N N a3 a3 r1.1 (List.length r1.1:Int) (0:Int) a0 a1 a2 ([]:List Int))) := by kernel_rfl
theorem Z20.ev (R:Run) (N:Nat) (a0 a1:Int) (a2:vK) (a3:(List Int)):evFn E R sg_Z20 pol_Z20 F_Z20 N [⟨yI,a0⟩,⟨yI,a1⟩,⟨yK,a2⟩,⟨yL,a3⟩] = ((callT R n_Z21 o_Z21 [⟨yI,a0⟩,⟨yI,a1⟩,⟨yK,a2⟩,⟨yL,a3⟩]).bind fun r1 => some ⟨o_Z20,(r1.2.1,())⟩) := by kernel_rfl
theorem Z30.ev (R:Run) (N:Nat) (a0:vK) (a1 a2:Int):evFn E R sg_Z30 pol_Z30 F_Z30 N [⟨yK,a0⟩,⟨yI,a1⟩,⟨yI,a2⟩] = ((callT R n_Z15 o_Z15 [⟨yK,a0⟩,⟨yI,a1⟩,⟨yI,a2⟩]).bind fun r1 => ((callT R n_Z16 o_Z16 [⟨yK,a0⟩,⟨yI,a1⟩,⟨yI,a2⟩]).bind fun r2 => ((callT R n_Z39 o_Z39 [⟨yI,r2.1⟩,⟨yI,r2.2.1⟩,⟨yI,r2.2.2.1⟩,⟨yL,r2.2.2.2.1⟩]).bind fun r3 => ((callT R n_Z31 o_Z31 [⟨yI,r1.1⟩,⟨yI,r1.2.1⟩,⟨yK,r1.2.2.1⟩,⟨yK,r3.1⟩]).bind fun r4 => some ⟨o_Z30,(r4.1,())⟩)))) := by kernel_rfl
theorem Z5.ev (R:Run) (N:Nat) (a0:vK) (a1 a2:Int):evFn E R sg_Z5 pol_Z5 F_Z5 N [⟨yK,a0⟩,⟨yI,a1⟩,⟨yI,a2⟩] = ((callT R n_Z17 o_Z17 [⟨yK,a0⟩,⟨yI,a1⟩,⟨yI,a2⟩]).bind fun r1 => (bif (r1.1 != (0:Int)) then some ⟨o_Z5,(([]:List (List Int)),r1.1,())⟩ else ((callT R n_Z30 o_Z30 [⟨yK,a0⟩,⟨yI,a1⟩,⟨yI,a2⟩]).bind fun r2 => some ⟨o_Z5,(r2.1,(0:Int),())⟩))) := by kernel_rfl
noncomputable def Z55.l0 (R:Run) (N n:Nat) (a b:(List Int)) (e:Int):Option Dv := R.w (some ⟨(.c (.d yL a)::(.c (.d yL b)::(zd 3 (.c (.d yI e)::(zd 20 []))))),(zo 28 [])⟩) fun st => lC R pol_Z55 4 N [1,1,0,1,0,0] F_Z55 n st (kB R pol_Z55 0 (kS R pol_Z55 8 N [1,1,1] F_Z55 (kTop E sg_Z55 F_Z55)))
theorem Z55.l0_succ (R:Run) (hw:R.ok) (N n:Nat) (a b:(List Int)) (c:Int):Z55.l0 R N (n + 1) a b c = (bif (decide (c < (List.length a:Int))) then ((idx? a c).bind fun y4 => ((idx? b c).bind fun y5 => (bif ((y4,()).1 != (y5,()).1) then some ⟨o_Z55,(false,())⟩ else (Z55.l0 R N n a b (w64 (c + (1:Int))))))) else some ⟨o_Z55,(true,())⟩) := (hw _ _).trans (by kernel_rfl)
theorem Z55.ev (R:Run) (N:Nat) (a0 a1:(List Int)):evFn E R sg_Z55 pol_Z55 F_Z55 N [⟨yL,a0⟩,⟨yL,a1⟩] = (bif ((List.length a0:Int) != (List.length a1:Int)) then some ⟨o_Z55,(false,())⟩ else (Z55.l0 R N N a0 a1 (0:Int))) := by kernel_rfl
noncomputable def Z56.l0 (R:Run) (N n:Nat) (a b:vK) (e:Int):Option Dv := R.w (some ⟨(.c (.d yK a)::(.c (.d yK b)::(zd 3 (.c (.d yI e)::(zd 21 []))))),(zo 29 [])⟩) fun st => lC R pol_Z56 4 N [1,1,0,1,0,0] F_Z56 n st (kB R pol_Z56 0 (kS R pol_Z56 8 N [1,1,1] F_Z56 (kTop E sg_Z56 F_Z56)))
theorem Z56.l0_succ (R:Run) (hw:R.ok) (N n:Nat) (a b:vK) (c:Int):Z56.l0 R N (n + 1) a b c = (bif (decide (c < (List.length a:Int))) then ((idx? a c).bind fun y4 => ((idx? b c).bind fun y5 => ((callT R n_Z55 o_Z55 [⟨yL,(y4,()).1⟩,⟨yL,(y5,()).1⟩]).bind fun r6 => (bif (!r6.1) then some ⟨o_Z56,(false,())⟩ else (Z56.l0 R N n a b (w64 (c + (1:Int)))))))) else some ⟨o_Z56,(true,())⟩) := (hw _ _).trans (by kernel_rfl)
theorem Z56.ev (R:Run) (N:Nat) (a0 a1:vK):evFn E R sg_Z56 pol_Z56 F_Z56 N [⟨yK,a0⟩,⟨yK,a1⟩] = (bif ((List.length a0:Int) != (List.length a1:Int)) then some ⟨o_Z56,(false,())⟩ else (Z56.l0 R N N a0 a1 (0:Int))) := by kernel_rfl
theorem Z54.ev (R:Run) (N:Nat) (a0 a1:vK):evFn E R sg_Z54 pol_Z54 F_Z54 N [⟨yK,a0⟩,⟨yK,a1⟩] = ((callT R n_Z56 o_Z56 [⟨yK,a0⟩,⟨yK,a1⟩]).bind fun r1 => (bif (!r1.1) then some ⟨o_Z54,(false,())⟩ else some ⟨o_Z54,(true,())⟩)) := by kernel_rfl
noncomputable def Z60.l0 (R:Run) (N n:Nat) (a b:Int) (e:(List Int)):Option Dv := R.w (some ⟨(.c (.arr 19)::(.c (.d yI a)::(zd 3 (.c (.d yI b)::(zd 13 []))))),(zo 19 (some (.arr yI e true false true)::(none::[])))⟩) fun st => lC R pol_Z60 2 N [1,0,1,0,0] F_Z60 n st (kB R pol_Z60 0 (kS R pol_Z60 6 N [1,1] F_Z60 (kTop E sg_Z60 F_Z60)))
theorem Z60.l0_succ (R:Run) (hw:R.ok) (N n:Nat) (a b:Int) (c:(List Int)):Z60.l0 R N (n + 1) a b c = (bif (decide (b < (List.length c:Int))) then ((chk (decide (0 ≤ b) && decide (b < (List.length c:Int)))).bind fun _ => (Z60.l0 R N n (w64 (a + (1:Int))) (w64 (b + (1:Int))) (List.set c (Int.toNat b) a))) else some ⟨o_Z60,(a,c,())⟩) := (hw _ _).trans (by kernel_rfl)
theorem Z60.ev (R:Run) (N:Nat) (a0:(List Int)) (a1:Int):evFn E R sg_Z60 pol_Z60 F_Z60 N [⟨yL,a0⟩,⟨yI,a1⟩] = (Z60.l0 R N N a1 (0:Int) a0) := by kernel_rfl
theorem Z59.ev (R:Run) (N:Nat) (a0:vK) (a1:Int):evFn E R sg_Z59 pol_Z59 F_Z59 N [⟨yK,a0⟩,⟨yI,a1⟩] = ((callT R n_Z61 o_Z61 [⟨yK,a0⟩,⟨yI,a1⟩]).bind fun r1 => some ⟨o_Z59,(r1.1,r1.2.1,())⟩) := by kernel_rfl
noncomputable def Z57.l0 (R:Run) (N n:Nat) (a:(List Int)) (b e:Int):Option Dv := R.w (some ⟨(.c (.d yL a)::(.c (.d yI b)::(zd 3 (.c (.d yI e)::(zd 15 []))))),(zo 23 [])⟩) fun st => lC R pol_Z57 2 N [1,0,1,0,0] F_Z57 n st (kB R pol_Z57 0 (kS R pol_Z57 7 N [1,1] F_Z57 (kTop E sg_Z57 F_Z57)))
theorem Z57.l0_succ (R:Run) (hw:R.ok) (N n:Nat) (a:(List Int)) (b c:Int):Z57.l0 R N (n + 1) a b c = (bif (decide (c < (List.length a:Int))) then ((idx? a c).bind fun y4 => (bif ((y4,()).1 != b) then some ⟨o_Z57,((-1:Int),())⟩ else (Z57.l0 R N n a (w64 (b + (1:Int))) (w64 (c + (1:Int)))))) else some ⟨o_Z57,(b,())⟩) := (hw _ _).trans (by kernel_rfl)
theorem Z57.ev (R:Run) (N:Nat) (a0:(List Int)) (a1:Int):evFn E R sg_Z57 pol_Z57 F_Z57 N [⟨yL,a0⟩,⟨yI,a1⟩] = (Z57.l0 R N N a0 a1 (0:Int)) := by kernel_rfl
noncomputable def Z58.l0 (R:Run) (N n:Nat) (a:vK) (b e:Int):Option Dv := R.w (some ⟨(.c (.d yK a)::(.c (.d yI b)::(zd 3 (.c (.d yI e)::(zd 15 []))))),(zo 23 [])⟩) fun st => lC R pol_Z58 2 N [1,0,1,0,0] F_Z58 n st (kB R pol_Z58 0 (kS R pol_Z58 7 N [1,1] F_Z58 (kTop E sg_Z58 F_Z58)))
theorem Z58.l0_succ (R:Run) (hw:R.ok) (N n:Nat) (a:vK) (b c:Int):Z58.l0 R N (n + 1) a b c = (bif (decide (c < (List.length a:Int))) then ((idx? a c).bind fun y4 => ((callT R n_Z57 o_Z57 [⟨yL,(y4,()).1⟩,⟨yI,b⟩]).bind fun r5 => (bif (decide (r5.1 < (0:Int))) then some ⟨o_Z58,((-1:Int),())⟩ else (Z58.l0 R N n a r5.1 (w64 (c + (1:Int))))))) else some ⟨o_Z58,(b,())⟩) := (hw _ _).trans (by kernel_rfl)
theorem Z58.ev (R:Run) (N:Nat) (a0:vK) (a1:Int):evFn E R sg_Z58 pol_Z58 F_Z58 N [⟨yK,a0⟩,⟨yI,a1⟩] = (Z58.l0 R N N a0 a1 (0:Int)) := by kernel_rfl
noncomputable def Z53.j2 (R:Run) (N:Nat) (a:Int) (b:Bool) (e:vK):Option Dv := R.w (some ⟨(zd 11 (.c (.arr 110)::(V.dead::(V.dead::(.c (.d yI a)::(zd 82 (.c (.d .bool b)::(zd 8 [])))))))),(zo 110 (some (.arr yL e true false false)::[]))⟩) fun st => eC R pol_Z53 N [1,1,1,1,1,1,1,1,1,1,1,1,1,1,1,1,1,1,1,0,1] F_Z53 st (kS R pol_Z53 27 N [1,1,1,1,1,1,1,1,1,1,1,1,1,1,1,1,1,1,1,1] F_Z53 (kTop E sg_Z53 F_Z53))
noncomputable def Z53.j1 (R:Run) (N:Nat) (a b:Int) (e:vK) (f:Int) (g:Bool) (h i:vK):Option Dv := R.w (some ⟨(V.dead::(.c (.d yI a)::(.c (.d yI b)::(.c (.box 3 0)::(zd 4 (.c (.d yK e)::(.c (.d yI f)::(V.dead::(.c (.arr 110)::(zd 57 (.c (.d .bool g)::(zd 36 [])))))))))))),(zo 3 (some (.box [.d yK h] false false)::(zo 106 (some (.arr yL i true false false)::[]))))⟩) fun st => eC R pol_Z53 N [1,1,1,1,1,1,1,1,1,1,1,0,1] F_Z53 st (kS R pol_Z53 16 N [1,1,1,1,1,1,1,1,1,1,1,1] F_Z53 (kTop E sg_Z53 F_Z53))
noncomputable def Z53.j0 (R:Run) (N:Nat) (a b:Int) (e:vK) (f g:Int) (h:Bool) (i j k:vK):Option Dv := R.w (some ⟨(V.dead::(.c (.d yI a)::(.c (.d yI b)::(.c (.box 3 0)::(zd 4 (.c (.d yK e)::(.c (.d yI f)::(.c (.box 10 0)::(.c (.arr 110)::(.c (.d yI g)::(zd 35 (.c (.d .bool h)::(zd 57 []))))))))))))),(zo 3 (some (.box [.d yK i] false false)::(zo 6 (some (.box [.arr 109] false false)::(zo 98 (some (.arr yL j true false false)::(some (.arr yL k true false false)::[])))))))⟩) fun st => eC R pol_Z53 N [1,1,1,1,1,1,1,0,1] F_Z53 st (kS R pol_Z53 10 N [1,1,1,1,1,1,1,1] F_Z53 (kTop E sg_Z53 F_Z53))
theorem Z53.j2_eq (R:Run) (hw:R.ok) (N:Nat) (a:Int) (b:Bool) (c:vK):Z53.j2 R N a b c = (bif b then some ⟨o_Z53,(false,())⟩ else ((callT R n_Z58 o_Z58 [⟨yK,c⟩,⟨yI,(1:Int)⟩]).bind fun r34 => (bif (decide (r34.1 < (0:Int))) then some ⟨o_Z53,(false,())⟩ else (bif (r34.1 != a) then some ⟨o_Z53,(false,())⟩ else some ⟨o_Z53,(true,())⟩)))) := (hw _ _).trans (by kernel_rfl)
theorem Z53.j1_eq (R:Run) (hw:R.ok) (N:Nat) (a b:Int) (c:vK) (d:Int) (e:Bool) (f g:vK):Z53.j1 R N a b c d e f g = (bif e then some ⟨o_Z53,(false,())⟩ else ((callT R n_Z61 o_Z61 [⟨yK,g⟩,⟨yI,(1:Int)⟩]).bind fun r26 => ((callT R n_Z58 o_Z58 [⟨yK,r26.2.1⟩,⟨yI,(1:Int)⟩]).bind fun r27 => (bif (decide (r27.1 < (0:Int))) then some ⟨o_Z53,(false,())⟩ else (bif (r27.1 != r26.1) then some ⟨o_Z53,(false,())⟩ else ((callT R n_Z65 o_Z65 [⟨yK,f⟩]).bind fun r28 => ((callT R n_Z5 o_Z5 [⟨yK,r28.1⟩,⟨yI,a⟩,⟨yI,b⟩]).bind fun r29 => ((callT R n_Z56 o_Z56 [⟨yK,r29.1⟩,⟨yK,c⟩]).bind fun r30 => (bif (!r30.1) then (Z53.j2 R N r26.1 true r26.2.1) else (Z53.j2 R N r26.1 (r29.2.1 != d) r26.2.1)))))))))) := (hw _ _).trans (by kernel_rfl)
theorem Z53.j0_eq (R:Run) (hw:R.ok) (N:Nat) (a b:Int) (c:vK) (d e:Int) (f:Bool) (g h i:vK):Z53.j0 R N a b c d e f g h i = (bif f then some ⟨o_Z53,(false,())⟩ else ((callT R n_Z65 o_Z65 [⟨yK,g⟩]).bind fun r16 => ((callT R n_Z54 o_Z54 [⟨yK,h⟩,⟨yK,r16.1⟩]).bind fun r17 => (bif (!r17.1) then some ⟨o_Z53,(false,())⟩ else ((callT R n_Z59 o_Z59 [⟨yK,h⟩,⟨yI,(1:Int)⟩]).bind fun r18 => (bif (decide (r18.1 < (0:Int))) then (Z53.j1 R N a b c d true g i) else ((callT R n_Z56 o_Z56 [⟨yK,i⟩,⟨yK,c⟩]).bind fun r38 => (bif (!r38.1) then (Z53.j1 R N a b c d true g i) else (Z53.j1 R N a b c d (e != d) g i))))))))) := (hw _ _).trans (by kernel_rfl)
theorem Z53.ev (R:Run) (N:Nat) (a0:vK) (a1 a2:Int):evFn E R sg_Z53 pol_Z53 F_Z53 N [⟨yK,a0⟩,⟨yI,a1⟩,⟨yI,a2⟩] = ((callT R n_Z62 o_Z62 [⟨yK,a0⟩,⟨yI,(1048576:Int)⟩]).bind fun r1 => (bif (decide (r1.1 < (0:Int))) then some ⟨o_Z53,(true,())⟩ else ((callT R n_Z65 o_Z65 [⟨yK,a0⟩]).bind fun r2 => ((callT R n_Z88 o_Z88 [⟨yK,r2.1⟩,⟨yI,a1⟩,⟨yI,a2⟩]).bind fun r3 => ((callT R n_Z65 o_Z65 [⟨yK,a0⟩]).bind fun r4 => ((callT R n_Z5 o_Z5 [⟨yK,r4.1⟩,⟨yI,a1⟩,⟨yI,a2⟩]).bind fun r5 => ((callT R n_Z56 o_Z56 [⟨yK,r5.1⟩,⟨yK,r3.1⟩]).bind fun r6 => (bif (!r6.1) then (Z53.j0 R N a1 a2 r3.1 r3.2.1 r5.2.1 true a0 r4.1 r5.1) else (Z53.j0 R N a1 a2 r3.1 r3.2.1 r5.2.1 (r5.2.1 != r3.2.1) a0 r4.1 r5.1))))))))) := by kernel_rfl
end VeT


open Go Go.Proofs Ve
set_option linter.unusedVariables false
set_option maxRecDepth 100000
namespace VeT
@[reducible] noncomputable def F_impl_independent_L : Func := Tryz.f96
@[reducible] def o_impl_independent_L : Ty := (.cons (.sl (.lab yL)) .nil)
noncomputable def sg_impl_independent_L : Sig := ⟨[(true, 3), (false, 1)], [], o_impl_independent_L, [(false, 1)], [.own], []⟩
noncomputable def pol_impl_independent_L : Pol := ⟨40, [(20, [some 20]), (28, [some 39])], [(3, ⟨[2, 5, 8, 9, 10], [2, 21], [(5, 21, (.lab yL), true)], [], [], [21], []⟩)], [], [], []⟩
/-! loop.example/g01005/impl.independent -/
noncomputable def impl_independent_L.l0 (R : Run) (N : Nat) (n : Nat) (t8__1 : (List (Value × (List Int)))) (t9__2 : Int) (t10__3 : Int) (v_4 : Int) (v_5 : Int) (v_6 : vK) (o21_7 : (List (Value × (List Int)))) : Option Dv := R.w (some ⟨(V.dead :: (V.dead :: (.c (.box 2 0) :: (V.dead :: (V.dead :: (.c (.arr 21) :: (V.dead :: (V.dead :: (.c (.d (.sl (.lab yL)) t8__1) :: (.c (.d yI t9__2) :: (.c (.d yI t10__3) :: (zd 24 [])))))))))))), (none :: (none :: (some (.box [.d yI v_4, .d yI v_5, .d yK v_6] false false) :: (zo 18 (some (.arr (.lab yL) o21_7 false false false) :: (zo 18 []))))))⟩) fun st => loopC (evCode E R pol_impl_independent_L N (sub [1, 1, 0, 1, 0, 0] (bodyOf F_impl_independent_L))) (maskAt R pol_impl_independent_L.loopM 3) n st (kBlk (maskAt R pol_impl_independent_L.blkM 0) 0 (kSeq (maskAt R pol_impl_independent_L.seqM 9) (evCode E R pol_impl_independent_L N (sub [1, 1, 1] (bodyOf F_impl_independent_L))) (kTop E sg_impl_independent_L F_impl_independent_L)))
theorem impl_independent_L.l0_succ (R : Run) (hw : R.ok) (N : Nat) (n : Nat) (t8__1 : (List (Value × (List Int)))) (t9__2 : Int) (t10__3 : Int) (v_4 : Int) (v_5 : Int) (v_6 : vK) (o21_7 : (List (Value × (List Int)))) : impl_independent_L.l0 R N (n + 1) t8__1 t9__2 t10__3 v_4 v_5 v_6 o21_7 = (bif (decide (t10__3 < t9__2)) then (Option.bind (idx? t8__1 t10__3) fun y8 => (Option.bind (callT R n_Z20 o_Z20 [⟨yI, v_4⟩, ⟨yI, v_5⟩, ⟨yK, v_6⟩, ⟨yL, (y8, ()).1.2⟩]) fun r9 => (bif (!r9.1) then (Option.bind (chk (decide ((List.length o21_7 + List.length [(y8, ()).1]) * 24 ≤ 70368744177664))) fun _ => (both (Option.bind (callT R n_Z22 o_Z22 [⟨yK, v_6⟩]) fun r10 => (Option.bind (chk (decide ((List.length r10.1 + List.length [(y8, ()).1.2]) * 24 ≤ 70368744177664))) fun _ => (Option.bind (callT R n_Z47 o_Z47 [⟨yI, v_4⟩, ⟨yI, v_5⟩, ⟨yK, (r10.1 ++ [(y8, ()).1.2])⟩]) fun r11 => (impl_independent_L.l0 R N n t8__1 t9__2 (w64 (t10__3 + (1 : Int))) r11.1 r11.2.1 r11.2.2.1 (o21_7 ++ [(y8, ()).1]))))) (Option.bind (callT R n_Z22 o_Z22 [⟨yK, v_6⟩]) fun r19 => (Option.bind (chk (decide ((List.length r19.1 + List.length [(y8, ()).1.2]) * 24 ≤ 70368744177664))) fun _ => (Option.bind (callT R n_Z47 o_Z47 [⟨yI, v_4⟩, ⟨yI, v_5⟩, ⟨yK, (r19.1 ++ [(y8, ()).1.2])⟩]) fun r20 => (impl_independent_L.l0 R N n t8__1 t9__2 (w64 (t10__3 + (1 : Int))) r20.1 r20.2.1 r20.2.2.1 (o21_7 ++ [(y8, ()).1]))))))) else (impl_independent_L.l0 R N n t8__1 t9__2 (w64 (t10__3 + (1 : Int))) v_4 v_5 v_6 o21_7)))) else some ⟨o_impl_independent_L, (o21_7, ())⟩) := (hw _ _).trans (by kernel_rfl)
theorem impl_independent_L.ev (R : Run) (N : Nat) (a0 : Int) (a1 : Int) (a2 : vK) (a3 : (List (Value × (List Int)))) : evFn E R sg_impl_independent_L pol_impl_independent_L F_impl_independent_L N [⟨yI, a0⟩, ⟨yI, a1⟩, ⟨yK, a2⟩, ⟨(.sl (.lab yL)), a3⟩] = (impl_independent_L.l0 R N N a3 (List.length a3 : Int) (0 : Int) a0 a1 a2 ([] : List (Value × (List Int)))) := by kernel_rfl
end VeT

set_option linter.unusedVariables false
set_option linter.unusedSimpArgs false

namespace VeT
section
open Go Go.Proofs Go.RowKit Go.Lib
set_option maxHeartbeats 2000000 in
set_option maxRecDepth 100000 in
theorem mark18_walk (b n c : Nat) (A : Option Addr) (hA : 0 < n → A = some ⟨b, 0, none⟩) (hnc : n ≤ c) (hn : n ≤ 9223372036854775807) (Inv : Nat → Int → World → Prop) (k : Int) (w : World) (h0 : Inv 0 k w)
    (step : ∀ i k' wr, i < n → Inv i k' wr → ∃ u, wr.cell? ⟨b, i, none⟩ = some u ∧ Calls Tryz.prog 24 #[u, .int .i64 k'] wr fun e w' => ∃ k2, e = .returned (.int .i64 k2) ∧ Inv (i + 1) k2 w') :
    Calls Tryz.prog 18 #[.slice A n c, .int .i64 k] w fun e w' => ∃ k2, e = .returned (.int .i64 k2) ∧ Inv n k2 w' := by
  go_enter Tryz.func18, Tryz.ntmps18
  go_wp2
  go_loopw [1, 5] (fun kv iv wr => ∃ i : Nat, ∃ k' : Int, i ≤ n ∧ iv = .int .i64 i ∧ kv = .int .i64 k' ∧ Inv i k' wr) (fun _ iv _ => n - (RowKit.intOf iv).toNat)
  case atStart => exact ⟨0, k, Nat.zero_le _, rfl, rfl, h0⟩
  case round =>
    obtain ⟨i, k', hi, rfl, rfl, hInv⟩ := hrel
    by_cases hlt : i < n
    · obtain rfl := hA (by omega)
      obtain ⟨u, hu, hcall⟩ := step i k' _ hlt hInv
      go_wp2_with (go_at_call 24; refine hcall.mono ?_; rintro e w' ⟨k2, rfl, hI2⟩)
      go_roundw
      case rel => exact ⟨i + 1, k2, by omega, by simp, rfl, hI2⟩
      case measure => simp [RowKit.intOf]; omega
    · obtain rfl : i = n := by omega
      go_wp2
      go_ret
      exact ⟨k', rfl, hInv⟩
open Ve in
theorem mark18_contract {R : Run} (hR : ∀ args dv, R.r 24 args = some dv → Contract Tryz.prog ⟨[(false, 1), (false, 1)], [.io true, .imm], oM, [(false, 1)], [], []⟩ 24 args dv) {args : List Dv} {dv : Dv} (h : pMarkSS 24 R args = some dv) :
    Contract Tryz.prog ⟨[(false, 1), (false, 1)], [.io true, .imm], .cons tI (.cons (.sl tL) .nil), [(false, 1)], [], []⟩ 18 args dv :=
  mark_contract mark18_walk hR h

section
open Go Ve
theorem bothI_self {ρ : Type} {a : Option ρ} : Ve.both a a = a := by unfold Ve.both; split <;> first | rfl | (rename_i h; exact absurd rfl h)
theorem indep96_walk (R : Run) (hw : R.ok) (N : Nat) (l : List (Value × List Int)) (hl : l.length ≤ 1048576) : ∀ (suf pre : List (Value × List Int)) (n : Nat) (p W : Int) (B : List (List Int)) (ms : List Bool) (acc : List (Value × List Int)),
    l = pre ++ suf → acc.length ≤ pre.length → indV n_Z20 n_Z22 n_Z47 R p W B (suf.map Prod.snd) = some ms →
    impl_independent_L.l0 R N (suf.length + 1 + n) l (l.length : Int) (pre.length : Int) p W B acc = some ⟨o_impl_independent_L, (acc ++ sel ms suf, ())⟩ := by
  intro suf
  induction suf with
  | nil =>
    intro pre n p W B ms acc hlp hacc h
    obtain rfl := Option.some.inj h
    rw [show ([] : List (Value × List Int)).length + 1 + n = n + 1 by simp; omega, impl_independent_L.l0_succ R hw]
    have : decide ((pre.length : Int) < (l.length : Int)) = false := decide_eq_false (by rw [hlp]; simp)
    rw [this]
    simp [sel]
  | cons y suf ih =>
    intro pre n p W B ms acc hlp hacc h
    obtain ⟨v, x⟩ := y
    have hlen : pre.length < l.length := by rw [hlp]; simp
    rw [show ((v, x) :: suf).length + 1 + n = (suf.length + 1 + n) + 1 by simp; omega, impl_independent_L.l0_succ R hw]
    have h1 : decide ((pre.length : Int) < (l.length : Int)) = true := decide_eq_true (by omega)
    have h2 : idx? l (pre.length : Int) = some (v, x) := by
      unfold idx?
      rw [decide_eq_true (by omega : (0 : Int) ≤ (pre.length : Int)), cond_true, Int.toNat_natCast, hlp]; simp
    have hc : ∀ {k : Nat}, k ≤ 1048576 → chk (decide ((k + 1) * 24 ≤ 70368744177664)) = some () := fun {k} hk => by
      unfold chk; rw [decide_eq_true (by omega)]; rfl
    rw [h1, cond_true, h2, Option.bind_some]
    simp only [List.map_cons, indV] at h
    obtain ⟨r, hr, h⟩ := Option.bind_eq_some_iff.1 h
    have hr' : callT R n_Z20 o_Z20 [⟨yI, p⟩, ⟨yI, W⟩, ⟨yK, B⟩, ⟨yL, x⟩] = some r := hr
    show Option.bind (callT R n_Z20 o_Z20 [⟨yI, p⟩, ⟨yI, W⟩, ⟨yK, B⟩, ⟨yL, x⟩]) _ = _
    rw [hr', Option.bind_some]
    obtain ⟨r, ⟨⟩⟩ := r
    have hpre : (pre ++ [(v, x)]).length = pre.length + 1 := by simp
    have hw1 : w64 ((pre.length : Int) + 1) = ((pre ++ [(v, x)]).length : Int) := by rw [hpre, w64_succ (by omega)]
    rw [hw1]
    cases r with
    | true =>
      obtain ⟨ms', hm, rfl⟩ := Option.map_eq_some_iff.1 h
      have := ih (pre ++ [(v, x)]) n p W B ms' acc (by rw [hlp]; simp) (by omega) hm
      exact this
    | false =>
      have h : (callT R n_Z22 o_Z22 [⟨yK, B⟩]).bind (fun b => (chk (decide ((b.1.length + 1) * 24 ≤ 70368744177664))).bind fun _ =>
        (callT R n_Z47 o_Z47 [⟨.int .i64, p⟩, ⟨.int .i64, W⟩, ⟨yK, b.1 ++ [x]⟩]).bind fun s => (indV n_Z20 n_Z22 n_Z47 R s.1 s.2.1 s.2.2.1 (suf.map Prod.snd)).map (true :: ·)) = some ms := h
      obtain ⟨b, hb, h⟩ := Option.bind_eq_some_iff.1 h
      obtain ⟨u, hu, h⟩ := Option.bind_eq_some_iff.1 h
      obtain ⟨s, hs, h⟩ := Option.bind_eq_some_iff.1 h
      obtain ⟨ms', hm, rfl⟩ := Option.map_eq_some_iff.1 h
      have := ih (pre ++ [(v, x)]) n s.1 s.2.1 s.2.2.1 ms' (acc ++ [(v, x)]) (by rw [hlp]; simp) (by simp; omega) hm
      have hca := hc (k := acc.length) (by omega)
      show Option.bind (chk (decide ((List.length acc + 1) * 24 ≤ 70368744177664))) _ = _
      rw [hca, Option.bind_some]
      refine bothI_self.trans ?_
      rw [hb, Option.bind_some]
      show Option.bind (chk (decide ((List.length b.1 + 1) * 24 ≤ 70368744177664))) _ = _
      rw [hu, Option.bind_some]
      show Option.bind (callT R n_Z47 o_Z47 [⟨.int .i64, p⟩, ⟨.int .i64, W⟩, ⟨yK, b.1 ++ [x]⟩]) _ = _
      rw [hs, Option.bind_some]
      refine this.trans ?_
      simp [sel, List.append_assoc]

theorem indep96_contract (hE : EnvOk E) {R : Run} (hR : RunOk E R) (hw : R.ok) (hRw : ∀ o f, R.w o f = o.bind f) {args : List Dv} {dv : Dv} (h : pIndep n_Z20 n_Z22 n_Z47 R args = some dv) :
    Contract E.P ⟨[(true, 3), (false, 1)], [.imm, .imm, .imm, .take true], .cons tLL .nil, [(false, 1)], [.deep], []⟩ 96 args dv := by
  match args, h with
  | [d0, d1, d2, d3], h =>
    simp only [pIndep, Option.bind_eq_some_iff] at h
    obtain ⟨p, h0, W, h1, B, h2, xs, h3, h⟩ := h
    obtain rfl := to_some h0
    obtain rfl := to_some h1
    obtain rfl := to_some h2
    obtain rfl := to_some h3
    split at h
    · rename_i hx
      obtain ⟨ms, hm, rfl⟩ := Option.map_eq_some_iff.1 h
      refine lab_contract fun vs hv => ?_
      have hz : (vs.zip xs).map Prod.snd = xs := zip_snd hv
      have hl : (vs.zip xs).length = xs.length := by rw [List.length_zip, hv, Nat.min_self]
      refine fn_sound hE hR hRw (pol := pol_impl_independent_L) (fn := F_impl_independent_L) (N := xs.length + 1) (by kernel_rfl) ?_
      refine (impl_independent_L.ev R _ p W B (vs.zip xs)).trans ?_
      have := indep96_walk R hw (xs.length + 1) (vs.zip xs) (by omega) (vs.zip xs) [] 0 p W B ms [] rfl (Nat.le_refl _) (by rw [hz]; exact hm)
      rw [hl] at this ⊢
      exact this
    · cases h
end

set_option maxHeartbeats 2000000 in
set_option maxRecDepth 100000 in
theorem grow225_room (base : Option Addr) (l c n : Nat) (w : World) (hlc : l ≤ c) (hc63 : c ≤ 9223372036854775807) (hn63 : n ≤ 9223372036854775807) (hroom : l + n ≤ c) :
    Calls Tryz.prog 225 #[.slice base l c, .int .i64 n] w fun e w' => e = .returned (.slice base l c) ∧ w' = w := by
  have h1 : ¬ ((n : Int) < 0) := by omega
  have h2 : wrap64 ((c : Int) - (l : Int)) = (c : Int) - (l : Int) := by unfold wrap64; omega
  have h3 : wrap64 ((n : Int) - ((c : Int) - (l : Int))) = (n : Int) - ((c : Int) - (l : Int)) := by unfold wrap64; omega
  have h4 : ¬ ((n : Int) - ((c : Int) - (l : Int)) > 0) := by omega
  go_enter Tryz.func225, Tryz.ntmps225
  go_wp2
  go_ret
  exact ⟨rfl, rfl⟩

set_option maxHeartbeats 4000000 in
set_option maxRecDepth 100000 in
theorem grow225_grow (i0 : TypeInfo) (z : Value) (hi0 : Tryz.prog.info? 2 = some i0) (hz0 : i0.zero = some z) (hs0 : 0 < i0.size)
    (base : Option Addr) (l c n : Nat) (cs : List Value) (w : World) (hlc : l ≤ c) (hroom : c < l + n) (hbig : (l + n) * i0.bytes ≤ 140737488355328) (h63 : l + n ≤ 4611686018427387904)
    (hcl : cs.length = c * i0.size) (hnil : base = none → c = 0) (hcs : ∀ a, base = some a → ∀ (j : Nat) v, cs[j]? = some v → w.cell? (a.add j) = some v) :
    Calls Tryz.prog 225 #[.slice base l c, .int .i64 n] w fun e w' =>
      e = .returned (.slice (some ⟨w.heap.size, 0, none⟩) l (grownCap w (l + n) c 2)) ∧
      w' = w.drew.alloc (.cells (cs.toArray ++ Builtin.zeroCells z.cells (l + n - c) ++ Builtin.zeroCells z.cells (grownCap w (l + n) c 2 - (l + n))) 2) := by
  have h1 : ¬ ((n : Int) < 0) := by omega
  have h2 : wrap64 ((c : Int) - (l : Int)) = (c : Int) - (l : Int) := by unfold wrap64; omega
  have h3 : wrap64 ((n : Int) - ((c : Int) - (l : Int))) = (n : Int) - ((c : Int) - (l : Int)) := by unfold wrap64; omega
  have h4 : (n : Int) - ((c : Int) - (l : Int)) > 0 := by omega
  have z25 : ∀ w, (Go.sizeOf 2).run Tryz.prog w = .ok i0.size w := fun w => by simp [Go.sizeOf, typeInfo, hi0]
  have hck : c + (l + n - c) = l + n := by omega
  have hold : (Builtin.firstCells i0.size c (.slice base c c)).run Tryz.prog w.drew = .ok cs.toArray w.drew := by
    cases base with
    | none =>
      have h0 := hnil rfl
      subst h0
      have hc0 : cs = [] := List.length_eq_zero_iff.1 (by simpa using hcl)
      rw [hc0]
      exact run_firstCells_none w.drew i0.size 0 0 0
    | some a => exact run_firstCells_some w.drew i0.size c a c c cs hcl (fun j v hj => hcs a rfl j v hj)
  have hrz : ∀ ty, (Builtin.append_ #[35, 3] ty #[.slice base c c, .int .i64 ((n : Int) - ((c : Int) - (l : Int)))]).run Tryz.prog w =
      .ok (.slice (some ⟨w.heap.size, 0, none⟩) (l + n) (grownCap w (l + n) c 2)) (w.drew.alloc (.cells (cs.toArray ++ Builtin.zeroCells z.cells (l + n - c) ++ Builtin.zeroCells z.cells (grownCap w (l + n) c 2 - (l + n))) 2)) := fun ty => by
    have h := Lib.run_append_grow_zeros w 35 3 ty 2 i0 z .i64 .i64 Tryz.underlying35 Tryz.underlying3 hi0 hz0 base c c cs hold (l + n - c) (by omega) hs0 (by omega) (by omega)
      (by have : (l + n - c) * i0.bytes ≤ (l + n) * i0.bytes := Nat.mul_le_mul_right _ (by omega)
          omega)
      (by rw [hck]; exact growslice_fits hroom hbig)
    rw [hck] at h
    rw [show (n : Int) - ((c : Int) - (l : Int)) = ((l + n - c : Nat) : Int) by omega]
    exact h
  have hGn : l + n ≤ grownCap w (l + n) c 2 := grownCap_ge w _ _ _
  obtain ⟨G, hG⟩ : ∃ G, G = grownCap w (l + n) c 2 := ⟨_, rfl⟩
  rw [← hG] at hrz hGn ⊢
  have hG63 : G ≤ 9223372036854775807 := by
    have := grownCap_le_maxLen w (l + n) c 2 (by unfold maxLen; omega)
    rw [← hG] at this
    unfold maxLen at this
    omega
  clear hold hck hG hcs hcl
  go_enter Tryz.func225, Tryz.ntmps225
  cases base with
  | none =>
    have h0 := hnil rfl
    subst h0
    obtain rfl : l = 0 := by omega
    go_wp2_with (at_builtin; refine Lib.wpList_append_run _ rfl _ _ _ _ rfl _ _ rfl rfl _ _ (hrz _) ?_)
    all_goals (go_ret; exact ⟨rfl, rfl⟩)
  | some a =>
    obtain ⟨ab, ao, asp⟩ := a
    go_wp2_with (at_builtin; refine Lib.wpList_append_run _ rfl _ _ _ _ rfl _ _ rfl rfl _ _ (hrz _) ?_)
    all_goals (go_ret; exact ⟨rfl, rfl⟩)
theorem grow225_info : (Tryz.prog.info? 2).any (fun i => i.size == Ve.Ty.size yI && i.zero.any (fun z => z.cells.size == Ve.Ty.size yI) && decide (i.bytes ≤ 64 * Ve.Ty.size yI) && decide (0 < i.bytes) && decide (0 < Ve.Ty.size yI)) = true := by kernel_rfl
open Ve in
theorem grow225_contract (R : Run) {args : List Dv} {dv : Dv} (h : pGrow yI R args = some dv) :
    Contract Tryz.prog ⟨[(false, 1), (false, 1)], [.take true, .imm], .cons yL .nil, [(false, 1)], [.deep], []⟩ 225 args dv := by
  have hi := grow225_info
  cases hi0 : Tryz.prog.info? 2 with
  | none => rw [hi0] at hi; cases hi
  | some i0 =>
    rw [hi0] at hi
    simp only [Option.any_some, Bool.and_eq_true, decide_eq_true_eq, beq_iff_eq] at hi
    obtain ⟨⟨⟨⟨h1, h2⟩, h3⟩, h4⟩, h5⟩ := hi
    cases hz : i0.zero with
    | none => rw [hz] at h2; cases h2
    | some z =>
      rw [hz] at h2
      exact grow_contract h1 (by simpa using h2) h5 h3 h4 grow225_room (fun base l c n cs w a1 a2 a3 a4 a5 a6 a7 => grow225_grow i0 z hi0 hz (by rw [h1]; exact h5) base l c n cs w a1 a2 a3 a4 a5 a6 a7) R h

end
section
open Go Ve
theorem primL_eq : primL = (List.range 286).map fun i => bif Nat.beq i 18 then some (pMarkSS n_Z60) else bif Nat.beq i 96 then some (pIndep n_Z20 n_Z22 n_Z47) else bif Nat.beq i 225 then some (pGrow yI) else none := by kernel_rfl
theorem prims_ok (hE : EnvOk E) : ∀ f p, E.prim f = some p → ∀ r, RunOk E (mkR r) → ∀ args dv sg, E.sig f = some sg → p (mkR r) args = some dv → Contract E.P sg f args dv := by
  intro f p hp r hr args dv sg hsg h
  have hp : primL.getD f none = some p := hp
  rw [primL_eq, List.getD_eq_getElem?_getD, List.getElem?_map] at hp
  by_cases hf : f < 286
  · rw [List.getElem?_range hf] at hp
    simp only [Option.map_some, Option.getD_some] at hp
    by_cases h18 : f = 18
    · subst h18
      obtain rfl : (pMarkSS n_Z60) = p := Option.some.inj hp
      obtain rfl : sg_Z61 = sg := Option.some.inj (sig_laws_markInt64SS_eq.symm.trans hsg)
      exact mark18_contract (fun args dv h => hr _ args dv _ sig_laws_markInt64S_eq h) h
    rw [show Nat.beq f 18 = false from Bool.eq_false_iff.2 fun h => h18 (Nat.eq_of_beq_eq_true h), cond_false] at hp
    by_cases h96 : f = 96
    · subst h96
      obtain rfl : (pIndep n_Z20 n_Z22 n_Z47) = p := Option.some.inj hp
      obtain rfl : sg_Z31 = sg := Option.some.inj (sig_impl_independent_eq.symm.trans hsg)
      exact indep96_contract hE hr (mkR_ok _) (fun _ _ => rfl) h
    rw [show Nat.beq f 96 = false from Bool.eq_false_iff.2 fun h => h96 (Nat.eq_of_beq_eq_true h), cond_false] at hp
    by_cases h225 : f = 225
    · subst h225
      obtain rfl : (pGrow yI) = p := Option.some.inj hp
      obtain rfl : sg_Z79 = sg := Option.some.inj (sig_slices_Grow_Sint64_int64_eq.symm.trans hsg)
      exact grow225_contract _ h
    rw [show Nat.beq f 225 = false from Bool.eq_false_iff.2 fun h => h225 (Nat.eq_of_beq_eq_true h), cond_false] at hp
    cases hp
  · rw [List.getElem?_eq_none (by simpa using hf)] at hp
    cases hp
end
end VeT

open Go Go.Proofs Ve
set_option linter.unusedVariables false
set_option linter.unusedSimpArgs false
namespace VeT

theorem szInt64S_ret (x : (List Int)) (l : Int) (hx : Wf yL x) (h0 : 0 ≤ l) (h1 : l ≤ 1048576) :
    ∃ r : Int, Ret E n_Z63 [⟨yL, x⟩, ⟨.int .i64, l⟩] ⟨o_Z63, (r, ())⟩ ∧ (0 ≤ r → r ≤ l ∧ Sm yL x) := by
  have hx1 : x.length ≤ maxLen := hx.1
  rw [maxLen_eq] at hx1
  have hw : w64 (l - x.length) = l - x.length := w64_small (by omega) (by omega)
  by_cases hc : l - (x.length : Int) < 0
  · refine ⟨-1, Evt.succ (Evt.of fun n => ?_), fun h => by omega⟩
    rw [run_Z63, Z63.ev, hw, decide_eq_true hc]; rfl
  · refine ⟨l - x.length, Evt.succ (Evt.of fun n => ?_), fun h => ⟨by omega, by omega, fun x _ => trivial⟩⟩
    rw [run_Z63, Z63.ev, hw, decide_eq_false hc]; rfl

theorem toInt64S_ret (x : (List Int)) (hx : Sm yL x) : Ret E n_Z66 [⟨yL, x⟩] ⟨o_Z66, (x, ())⟩ := by
  have hx1 : x.length ≤ 1048576 := hx.1
  have hl := fill_loop (a := x) (L := fun m n i o => Z66.l0 (mkR (run E m)) m n x i o) (z := List.replicate (Int.toNat (List.length x : Int)) (0 : Int)) (r := some ⟨o_Z66, (x, ())⟩) (by simp) (fun k o hk ho => by
      refine Evt.of fun m n => ?_
      show Z66.l0 _ _ _ _ _ _ = _
      rw [Z66.l0_succ _ mk_ok, decide_eq_true (show (k : Int) < x.length by omega), cond_true, idx_lt hk]
      simp only [Option.bind_some]
      rw [chk_true (by simp; omega), w64_succ (by omega), Int.toNat_natCast]) (Evt.of fun m n => by
      show Z66.l0 _ _ _ _ _ _ = _
      rw [Z66.l0_succ _ mk_ok, decide_eq_false (by omega), cond_false])
  refine Evt.succ (hl.mono fun n h => ?_)
  rw [run_Z66, Z66.ev, chk_true (by simp; omega)]
  exact h

theorem eqInt64S_ret (x y : (List Int)) (hx : Sm yL x) : ∃ b : Bool, Ret E n_Z55 [⟨yL, x⟩, ⟨yL, y⟩] ⟨o_Z55, (b, ())⟩ ∧ (b = true ↔ x = y) := by
  have hx1 : x.length ≤ 1048576 := hx.1
  by_cases hl : x.length = y.length
  · have hd : ((x.length : Int) != (y.length : Int)) = false := by simp [hl]
    obtain ⟨h1, h2⟩ := same_loop (a := x) (b := y) (L := fun m n i (_ : Unit) => Z55.l0 (mkR (run E m)) m n x y i) (fun u v => u = v) (rt := some ⟨o_Z55, (true, ())⟩) (rf := some ⟨o_Z55, (false, ())⟩) hl.symm
      (fun k h h' hne => Evt.of fun m n => by
      show Z55.l0 _ _ _ _ _ _ = _
      rw [Z55.l0_succ _ mk_ok, decide_eq_true (show (k : Int) < x.length by omega), cond_true, idx_lt h, idx_lt h']
      have : (x[k] != y[k]) = true := by simpa using hne
      simp only [Option.bind_some, this, cond_true])
      (fun k h h' he => Evt.of fun m n => by
      show Z55.l0 _ _ _ _ _ _ = _
      rw [Z55.l0_succ _ mk_ok, decide_eq_true (show (k : Int) < x.length by omega), cond_true, idx_lt h, idx_lt h']
      have : (x[k] != y[k]) = false := by simpa using he
      simp only [Option.bind_some, this, cond_false]
      rw [w64_succ (by omega)])
      (Evt.of fun m n => by
      show Z55.l0 _ _ _ _ _ _ = _
      rw [Z55.l0_succ _ mk_ok, decide_eq_false (by omega), cond_false])
    by_cases he : x = y
    · refine ⟨true, Evt.succ ((h1 (by subst he; intros; rfl)).mono fun n h => ?_), by simp [he]⟩
      rw [run_Z55, Z55.ev, hd, cond_false]
      exact h
    · refine ⟨false, Evt.succ ((h2 fun hh => he (List.ext_getElem hl hh)).mono fun n h => ?_), by simp [he]⟩
      rw [run_Z55, Z55.ev, hd, cond_false]
      exact h
  · have hd : ((x.length : Int) != (y.length : Int)) = true := by simp; omega
    refine ⟨false, Evt.succ (Evt.of fun n => ?_), ⟨fun h => (nomatch h), fun h => absurd (congrArg List.length h) hl⟩⟩
    rw [run_Z55, Z55.ev, hd, cond_true]

theorem szInt64SS_ret (x : vK) (l : Int) (hx : Wf yK x) (h0 : 0 ≤ l) (h1 : l ≤ 1048576) :
    ∃ r : Int, Ret E n_Z64 [⟨yK, x⟩, ⟨.int .i64, l⟩] ⟨o_Z64, (r, ())⟩ ∧ (0 ≤ r → r ≤ l ∧ Sm yK x) := by
  have hx1 : x.length ≤ maxLen := hx.1
  rw [maxLen_eq] at hx1
  have hw : w64 (l - x.length) = l - x.length := w64_small (by omega) (by omega)
  by_cases hc : l - (x.length : Int) < 0
  · refine ⟨-1, Evt.succ (Evt.of fun n => ?_), fun h => by omega⟩
    rw [run_Z64, Z64.ev, hw, decide_eq_true hc]; rfl
  · obtain ⟨r, hr, hs⟩ := sz_loop (xs := x) (L := fun m n i left => Z64.l0 (mkR (run E m)) m n x left i) (ret := fun r => some ⟨o_Z64, (r, ())⟩) (fun x => Sm yL x) (fun k left hk hl0 hl1 => by
      obtain ⟨r, hr, hs⟩ := szInt64S_ret x[k] left (hx.2 _ (List.getElem_mem hk)) hl0 hl1
      refine ⟨r, hs, hr.mono fun m h n => ?_⟩
      show Z64.l0 _ _ _ _ _ _ = _
      rw [Z64.l0_succ _ mk_ok, decide_eq_true (show (k : Int) < x.length by omega), cond_true, idx_lt hk]
      simp only [Option.bind_some, callT_of h]
      rw [w64_succ (by omega)]) (fun left => Evt.of fun m n => by
      show Z64.l0 _ _ _ _ _ _ = _
      rw [Z64.l0_succ _ mk_ok, decide_eq_false (by omega), cond_false]) (l - x.length) (by omega) (by omega)
    refine ⟨r, Evt.succ (hr.mono fun n h => ?_), fun h => ⟨by have := (hs h).1; omega, by omega, (hs h).2⟩⟩
    rw [run_Z64, Z64.ev, hw, decide_eq_false hc]
    exact h

theorem toInt64SS_ret (x : vK) (hx : Sm yK x) : Ret E n_Z67 [⟨yK, x⟩] ⟨o_Z67, (x, ())⟩ := by
  have hx1 : x.length ≤ 1048576 := hx.1
  have hl := fill_loop (a := x) (L := fun m n i o => Z67.l0 (mkR (run E m)) m n x i o) (z := List.replicate (Int.toNat (List.length x : Int)) ([] : List Int)) (r := some ⟨o_Z67, (x, ())⟩) (by simp) (fun k o hk ho => by
      have hr := toInt64S_ret x[k] (hx.2 _ (List.getElem_mem hk))
      refine hr.mono fun m h n => ?_
      show Z67.l0 _ _ _ _ _ _ = _
      rw [Z67.l0_succ _ mk_ok, decide_eq_true (show (k : Int) < x.length by omega), cond_true, idx_lt hk]
      simp only [Option.bind_some, callT_of h]
      rw [chk_true (by simp; omega), w64_succ (by omega), Int.toNat_natCast]) (Evt.of fun m n => by
      show Z67.l0 _ _ _ _ _ _ = _
      rw [Z67.l0_succ _ mk_ok, decide_eq_false (by omega), cond_false])
  refine Evt.succ (hl.mono fun n h => ?_)
  rw [run_Z67, Z67.ev, chk_true (by simp; omega)]
  exact h

theorem eqInt64SS_ret (x y : vK) (hx : Sm yK x) : ∃ b : Bool, Ret E n_Z56 [⟨yK, x⟩, ⟨yK, y⟩] ⟨o_Z56, (b, ())⟩ ∧ (b = true ↔ x = y) := by
  have hx1 : x.length ≤ 1048576 := hx.1
  by_cases hl : x.length = y.length
  · have hd : ((x.length : Int) != (y.length : Int)) = false := by simp [hl]
    obtain ⟨h1, h2⟩ := same_loop (a := x) (b := y) (L := fun m n i (_ : Unit) => Z56.l0 (mkR (run E m)) m n x y i) (fun u v => u = v) (rt := some ⟨o_Z56, (true, ())⟩) (rf := some ⟨o_Z56, (false, ())⟩) hl.symm
      (fun k h h' hne => by
      obtain ⟨b, hb, hbe⟩ := eqInt64S_ret x[k] y[k] (hx.2 _ (List.getElem_mem h))
      have hb0 : b = false := by cases b <;> simp_all
      subst hb0
      refine hb.mono fun m hm n => ?_
      show Z56.l0 _ _ _ _ _ _ = _
      rw [Z56.l0_succ _ mk_ok, decide_eq_true (show (k : Int) < x.length by omega), cond_true, idx_lt h, idx_lt h']
      simp only [Option.bind_some, callT_of hm, Bool.not_false, Bool.not_true, cond_true, cond_false])
      (fun k h h' he => by
      obtain ⟨b, hb, hbe⟩ := eqInt64S_ret x[k] y[k] (hx.2 _ (List.getElem_mem h))
      have hb0 : b = true := by cases b <;> simp_all
      subst hb0
      refine hb.mono fun m hm n => ?_
      show Z56.l0 _ _ _ _ _ _ = _
      rw [Z56.l0_succ _ mk_ok, decide_eq_true (show (k : Int) < x.length by omega), cond_true, idx_lt h, idx_lt h']
      simp only [Option.bind_some, callT_of hm, Bool.not_false, Bool.not_true, cond_true, cond_false]
      rw [w64_succ (by omega)])
      (Evt.of fun m n => by
      show Z56.l0 _ _ _ _ _ _ = _
      rw [Z56.l0_succ _ mk_ok, decide_eq_false (by omega), cond_false])
    by_cases he : x = y
    · refine ⟨true, Evt.succ ((h1 (by subst he; intros; rfl)).mono fun n h => ?_), by simp [he]⟩
      rw [run_Z56, Z56.ev, hd, cond_false]
      exact h
    · refine ⟨false, Evt.succ ((h2 fun hh => he (List.ext_getElem hl hh)).mono fun n h => ?_), by simp [he]⟩
      rw [run_Z56, Z56.ev, hd, cond_false]
      exact h
  · have hd : ((x.length : Int) != (y.length : Int)) = true := by simp; omega
    refine ⟨false, Evt.succ (Evt.of fun n => ?_), ⟨fun h => (nomatch h), fun h => absurd (congrArg List.length h) hl⟩⟩
    rw [run_Z56, Z56.ev, hd, cond_true]

theorem szComplex_ret (x : (vK × Unit)) (l : Int) (hx : Wf (.st (.cons yK .nil)) x) (h0 : 0 ≤ l) (h1 : l ≤ 1048576) :
    ∃ r : Int, Ret E n_Z62 [⟨yK, x.1⟩, ⟨.int .i64, l⟩] ⟨o_Z62, (r, ())⟩ ∧ (0 ≤ r → r ≤ l ∧ Sm (.st (.cons yK .nil)) x) := by
  obtain ⟨r0, hr0, hs0⟩ := szInt64SS_ret x.1 l hx.1 (by omega) (by omega)
  by_cases hc0 : r0 < 0
  · refine ⟨-1, Evt.succ (hr0.mono fun n e0 => ?_), fun h => by omega⟩
    rw [run_Z62, Z62.ev]
    simp only [Option.bind_some, cond_true, cond_false, callT_of e0, decide_eq_true hc0]
  have hb0 := hs0 (by omega)
  refine ⟨r0, Evt.succ (hr0.mono fun n e0 => ?_), fun h => ⟨by omega, ?_⟩⟩
  · skip
    rw [run_Z62, Z62.ev]
    simp only [Option.bind_some, cond_true, cond_false, callT_of e0, decide_eq_false hc0]
  · exact ⟨hb0.2, trivial⟩

theorem toComplex_ret (x : (vK × Unit)) (hx : Sm (.st (.cons yK .nil)) x) : Ret E n_Z65 [⟨yK, x.1⟩] ⟨o_Z65, x⟩ := by
  have hr0 := toInt64SS_ret x.1 hx.1
  refine Evt.succ (hr0.mono fun n e0 => ?_)
  rw [run_Z65, Z65.ev]
  simp only [Option.bind_some, callT_of e0]

theorem eqComplex_ret (x y : (vK × Unit)) (hx : Sm (.st (.cons yK .nil)) x) : ∃ b : Bool, Ret E n_Z54 [⟨yK, x.1⟩, ⟨yK, y.1⟩] ⟨o_Z54, (b, ())⟩ ∧ (b = true ↔ x = y) := by
  obtain ⟨b0, hr0, hb0⟩ := eqInt64SS_ret x.1 y.1 hx.1
  refine ⟨b0, Evt.succ (hr0.mono fun n e0 => ?_), ?_⟩
  · skip
    rw [run_Z54, Z54.ev]
    simp only [Option.bind_some, callT_of e0]
    clear hx hr0 e0 hb0
    cases b0 <;> rfl
  · obtain ⟨x0, _⟩ := x
    obtain ⟨y0, _⟩ := y
    simp only [Bool.and_eq_true, decide_eq_true_eq, hb0, Prod.mk.injEq, and_true]
    try simp only [and_assoc]

end VeT

open Go Go.Proofs Ve
set_option linter.unusedVariables false
set_option linter.unusedSimpArgs false
namespace VeT

theorem IndexFunc_SSint64_Sint64_impl_ValidComplex_1_ret (s : List (List Int)) (c : ((vK × Unit) × (Int × Unit) × Unit)) (p : (List Int) → Bool) (hs : s.length ≤ 1048576) (hp : ∀ x ∈ s, Ret E n_Z9 [⟨yL, x⟩, ⟨(.ptr (.cons yK .nil)), c.1⟩, ⟨(.ptr (.cons yI .nil)), c.2.1⟩] ⟨o_Z9, (p x, ())⟩) :
    Ret E n_Z80 [⟨yK, s⟩, ⟨(.fn n_Z9 (.cons (.ptr (.cons yK .nil)) (.cons (.ptr (.cons yI .nil)) .nil))), c⟩] ⟨o_Z80, (idxf p s, ())⟩ := by
  obtain ⟨o, h1, h2, h3⟩ := find_loop 1 (L := fun φ n k => Z81.l0 (mkR (run E (φ 0))) (φ 0) n s c (s.length : Int) k) (len := s.length) (fun k => ∃ h : k < s.length, p s[k] = true) (fun o => some ⟨o_Z80, (o2i o, ())⟩) (fun _ _ _ _ => rfl) (fun k hk hP => by
      obtain ⟨_, hP⟩ := hP
      simp only [Z81.l0_succ _ mk_ok]
      refine ev_t (decide_eq_true (by omega)) (ev_bind (idx_lt hk) (ev_call (hp _ (List.getElem_mem hk)) (ev_t hP ev_rfl)))) (fun k q hk hP ih => by
      simp only [Z81.l0_succ _ mk_ok]
      refine ev_t (decide_eq_true (by omega)) (ev_bind (idx_lt hk) (ev_call (hp _ (List.getElem_mem hk)) (ev_f (Bool.eq_false_iff.2 fun h => hP ⟨hk, h⟩) ?_)))
      rw [w64_succ (by omega)]; exact ih) (by
      simp only [Z81.l0_succ _ mk_ok]
      exact ev_f (decide_eq_false (by omega)) ev_rfl)
  rw [idxf_of h1 h2] at h3
  refine ret_of ?_
  simp only [run_Z80, Z81.ev]
  exact Ev.start (p := fun φ n => Z81.l0 (mkR (run E (φ 0))) (φ 0) n s c (s.length : Int) 0 = _) 1 h3 (fun _ _ _ h => h)

theorem IndexFunc_SSint64_Sint64_impl_eliminate_1_ret (s : List (List Int)) (c : ((Int × Unit) × Unit)) (p : (List Int) → Bool) (hs : s.length ≤ 1048576) (hp : ∀ x ∈ s, Ret E n_Z24 [⟨yL, x⟩, ⟨(.ptr (.cons yI .nil)), c.1⟩] ⟨o_Z24, (p x, ())⟩) :
    Ret E n_Z80 [⟨yK, s⟩, ⟨(.fn n_Z24 (.cons (.ptr (.cons yI .nil)) .nil)), c⟩] ⟨o_Z80, (idxf p s, ())⟩ := by
  obtain ⟨o, h1, h2, h3⟩ := find_loop 1 (L := fun φ n k => Z82.l0 (mkR (run E (φ 0))) (φ 0) n s c (s.length : Int) k) (len := s.length) (fun k => ∃ h : k < s.length, p s[k] = true) (fun o => some ⟨o_Z80, (o2i o, ())⟩) (fun _ _ _ _ => rfl) (fun k hk hP => by
      obtain ⟨_, hP⟩ := hP
      simp only [Z82.l0_succ _ mk_ok]
      refine ev_t (decide_eq_true (by omega)) (ev_bind (idx_lt hk) (ev_call (hp _ (List.getElem_mem hk)) (ev_t hP ev_rfl)))) (fun k q hk hP ih => by
      simp only [Z82.l0_succ _ mk_ok]
      refine ev_t (decide_eq_true (by omega)) (ev_bind (idx_lt hk) (ev_call (hp _ (List.getElem_mem hk)) (ev_f (Bool.eq_false_iff.2 fun h => hP ⟨hk, h⟩) ?_)))
      rw [w64_succ (by omega)]; exact ih) (by
      simp only [Z82.l0_succ _ mk_ok]
      exact ev_f (decide_eq_false (by omega)) ev_rfl)
  rw [idxf_of h1 h2] at h3
  refine ret_of ?_
  simp only [run_Z80, Z82.ev]
  exact Ev.start (p := fun φ n => Z82.l0 (mkR (run E (φ 0))) (φ 0) n s c (s.length : Int) 0 = _) 1 h3 (fun _ _ _ h => h)

theorem IndexFunc_Sint64_int64_impl_ValidSimplex_1_ret (s : List Int) (p : Int → Bool) (hs : s.length ≤ 1048576) (hp : ∀ x ∈ s, Ret E n_Z12 [⟨yI, x⟩] ⟨o_Z12, (p x, ())⟩) :
    Ret E n_Z83 [⟨yL, s⟩, ⟨(.fn n_Z12 .nil), ()⟩] ⟨o_Z83, (idxf p s, ())⟩ := by
  obtain ⟨o, h1, h2, h3⟩ := find_loop 1 (L := fun φ n k => Z84.l0 (mkR (run E (φ 0))) (φ 0) n s (s.length : Int) k) (len := s.length) (fun k => ∃ h : k < s.length, p s[k] = true) (fun o => some ⟨o_Z83, (o2i o, ())⟩) (fun _ _ _ _ => rfl) (fun k hk hP => by
      obtain ⟨_, hP⟩ := hP
      simp only [Z84.l0_succ _ mk_ok]
      refine ev_t (decide_eq_true (by omega)) (ev_bind (idx_lt hk) (ev_call (hp _ (List.getElem_mem hk)) (ev_t hP ev_rfl)))) (fun k q hk hP ih => by
      simp only [Z84.l0_succ _ mk_ok]
      refine ev_t (decide_eq_true (by omega)) (ev_bind (idx_lt hk) (ev_call (hp _ (List.getElem_mem hk)) (ev_f (Bool.eq_false_iff.2 fun h => hP ⟨hk, h⟩) ?_)))
      rw [w64_succ (by omega)]; exact ih) (by
      simp only [Z84.l0_succ _ mk_ok]
      exact ev_f (decide_eq_false (by omega)) ev_rfl)
  rw [idxf_of h1 h2] at h3
  refine ret_of ?_
  simp only [run_Z83, Z84.ev]
  exact Ev.start (p := fun φ n => Z84.l0 (mkR (run E (φ 0))) (φ 0) n s (s.length : Int) 0 = _) 1 h3 (fun _ _ _ h => h)

theorem IndexFunc_Sint64_int64_impl_isZero_1_ret (s : List Int) (p : Int → Bool) (hs : s.length ≤ 1048576) (hp : ∀ x ∈ s, Ret E n_Z38 [⟨yI, x⟩] ⟨o_Z38, (p x, ())⟩) :
    Ret E n_Z83 [⟨yL, s⟩, ⟨(.fn n_Z38 .nil), ()⟩] ⟨o_Z83, (idxf p s, ())⟩ := by
  obtain ⟨o, h1, h2, h3⟩ := find_loop 1 (L := fun φ n k => Z85.l0 (mkR (run E (φ 0))) (φ 0) n s (s.length : Int) k) (len := s.length) (fun k => ∃ h : k < s.length, p s[k] = true) (fun o => some ⟨o_Z83, (o2i o, ())⟩) (fun _ _ _ _ => rfl) (fun k hk hP => by
      obtain ⟨_, hP⟩ := hP
      simp only [Z85.l0_succ _ mk_ok]
      refine ev_t (decide_eq_true (by omega)) (ev_bind (idx_lt hk) (ev_call (hp _ (List.getElem_mem hk)) (ev_t hP ev_rfl)))) (fun k q hk hP ih => by
      simp only [Z85.l0_succ _ mk_ok]
      refine ev_t (decide_eq_true (by omega)) (ev_bind (idx_lt hk) (ev_call (hp _ (List.getElem_mem hk)) (ev_f (Bool.eq_false_iff.2 fun h => hP ⟨hk, h⟩) ?_)))
      rw [w64_succ (by omega)]; exact ih) (by
      simp only [Z85.l0_succ _ mk_ok]
      exact ev_f (decide_eq_false (by omega)) ev_rfl)
  rw [idxf_of h1 h2] at h3
  refine ret_of ?_
  simp only [run_Z83, Z85.ev]
  exact Ev.start (p := fun φ n => Z85.l0 (mkR (run E (φ 0))) (φ 0) n s (s.length : Int) 0 = _) 1 h3 (fun _ _ _ h => h)

theorem IndexFunc_Sint64_int64_impl_placesOf_1_ret (s : List Int) (p : Int → Bool) (hs : s.length ≤ 1048576) (hp : ∀ x ∈ s, Ret E n_Z41 [⟨yI, x⟩] ⟨o_Z41, (p x, ())⟩) :
    Ret E n_Z83 [⟨yL, s⟩, ⟨(.fn n_Z41 .nil), ()⟩] ⟨o_Z83, (idxf p s, ())⟩ := by
  obtain ⟨o, h1, h2, h3⟩ := find_loop 1 (L := fun φ n k => Z86.l0 (mkR (run E (φ 0))) (φ 0) n s (s.length : Int) k) (len := s.length) (fun k => ∃ h : k < s.length, p s[k] = true) (fun o => some ⟨o_Z83, (o2i o, ())⟩) (fun _ _ _ _ => rfl) (fun k hk hP => by
      obtain ⟨_, hP⟩ := hP
      simp only [Z86.l0_succ _ mk_ok]
      refine ev_t (decide_eq_true (by omega)) (ev_bind (idx_lt hk) (ev_call (hp _ (List.getElem_mem hk)) (ev_t hP ev_rfl)))) (fun k q hk hP ih => by
      simp only [Z86.l0_succ _ mk_ok]
      refine ev_t (decide_eq_true (by omega)) (ev_bind (idx_lt hk) (ev_call (hp _ (List.getElem_mem hk)) (ev_f (Bool.eq_false_iff.2 fun h => hP ⟨hk, h⟩) ?_)))
      rw [w64_succ (by omega)]; exact ih) (by
      simp only [Z86.l0_succ _ mk_ok]
      exact ev_f (decide_eq_false (by omega)) ev_rfl)
  rw [idxf_of h1 h2] at h3
  refine ret_of ?_
  simp only [run_Z83, Z86.ev]
  exact Ev.start (p := fun φ n => Z86.l0 (mkR (run E (φ 0))) (φ 0) n s (s.length : Int) 0 = _) 1 h3 (fun _ _ _ h => h)

theorem ContainsFunc_SSint64_Sint64_impl_ValidComplex_1_ret (s : List (List Int)) (c : ((vK × Unit) × (Int × Unit) × Unit)) (p : (List Int) → Bool) (hs : s.length ≤ 1048576) (hp : ∀ x ∈ s, Ret E n_Z9 [⟨yL, x⟩, ⟨(.ptr (.cons yK .nil)), c.1⟩, ⟨(.ptr (.cons yI .nil)), c.2.1⟩] ⟨o_Z9, (p x, ())⟩) :
    Ret E n_Z73 [⟨yK, s⟩, ⟨(.fn n_Z9 (.cons (.ptr (.cons yK .nil)) (.cons (.ptr (.cons yI .nil)) .nil))), c⟩] ⟨o_Z73, (pb (∃ x ∈ s, p x = true), ())⟩ := by
  refine ret_of ?_
  simp only [run_Z73, Z74.ev]
  refine ev_call (IndexFunc_SSint64_Sint64_impl_ValidComplex_1_ret s c p hs hp) (ev_some ?_)
  simp only [ge_iff_le, pb_dec, pb_congr idxf_nonneg]

theorem ContainsFunc_Sint64_int64_impl_ValidSimplex_1_ret (s : List Int) (p : Int → Bool) (hs : s.length ≤ 1048576) (hp : ∀ x ∈ s, Ret E n_Z12 [⟨yI, x⟩] ⟨o_Z12, (p x, ())⟩) :
    Ret E n_Z75 [⟨yL, s⟩, ⟨(.fn n_Z12 .nil), ()⟩] ⟨o_Z75, (pb (∃ x ∈ s, p x = true), ())⟩ := by
  refine ret_of ?_
  simp only [run_Z75, Z76.ev]
  refine ev_call (IndexFunc_Sint64_int64_impl_ValidSimplex_1_ret s p hs hp) (ev_some ?_)
  simp only [ge_iff_le, pb_dec, pb_congr idxf_nonneg]

theorem ContainsFunc_Sint64_int64_impl_isZero_1_ret (s : List Int) (p : Int → Bool) (hs : s.length ≤ 1048576) (hp : ∀ x ∈ s, Ret E n_Z38 [⟨yI, x⟩] ⟨o_Z38, (p x, ())⟩) :
    Ret E n_Z75 [⟨yL, s⟩, ⟨(.fn n_Z38 .nil), ()⟩] ⟨o_Z75, (pb (∃ x ∈ s, p x = true), ())⟩ := by
  refine ret_of ?_
  simp only [run_Z75, Z77.ev]
  refine ev_call (IndexFunc_Sint64_int64_impl_isZero_1_ret s p hs hp) (ev_some ?_)
  simp only [ge_iff_le, pb_dec, pb_congr idxf_nonneg]

theorem filled_impl_zero_1_ret (p : Int) (R C : Nat) (f : Nat → Nat → Int) (hR : R ≤ 1048576) (hC : C ≤ 1048576) (hRC : R * C ≤ 1048576) (hf : ∀ i j : Nat, i < R → j < C → Ret E n_Z52 [⟨yI, (i : Int)⟩, ⟨yI, (j : Int)⟩] ⟨o_Z52, (f i j, ())⟩) :
    Ret E n_Z27 [⟨yI, p⟩, ⟨yI, (R : Int)⟩, ⟨yI, (C : Int)⟩, ⟨(.fn n_Z52 .nil), ()⟩] ⟨o_Z27, (p, (R : Int), (C : Int), flatF f C R, ())⟩ := by
  refine ret_of ?_
  simp only [run_Z27, Z29.ev]
  refine Ev.start (p := fun φ n => Z29.l0 (mkR (run E (φ 0))) (φ 0) n (C : Int) (R : Int) 0 0 0 0 p (R : Int) (C : Int) [] = _) 1 ?_ (fun _ _ _ h => h)
  refine fold_loop 1 (L := fun φ n k a => Z29.l0 (mkR (run E (φ 0))) (φ 0) n (C : Int) (R : Int) k 0 0 0 p (R : Int) (C : Int) a) (len := R) (fun k => flatF f C k) (fun _ _ _ _ _ => rfl) (fun k r hk ih => ?_) ?_
  · simp only [Z29.l0_succ _ mk_ok]
    refine ev_t (decide_eq_true (by omega)) ?_
    refine Ev.start (p := fun φ n => Z29.l1 (mkR (run E (φ 0))) (φ 0) (φ 1) n (C : Int) (k : Int) (R : Int) (k : Int) (C : Int) 0 0 0 0 p (R : Int) (C : Int) (flatF f C k) = _) 2 ?_ (fun _ _ _ h => h)
    have hle : (k + 1) * C ≤ R * C := Nat.mul_le_mul_right _ hk
    rw [Nat.add_mul] at hle
    have := fold_loop 2 (L := fun φ n j a => Z29.l1 (mkR (run E (φ 0))) (φ 0) (φ 1) n (C : Int) (k : Int) (R : Int) (k : Int) (C : Int) j 0 0 0 p (R : Int) (C : Int) a) (len := C) (fun j => flatF f C k ++ (List.range j).map (f k)) (r := r) (fun _ _ _ _ _ => rfl) (fun j r hj ih => ?_) ?_
    · simpa using this
    · simp only [Z29.l1_succ _ mk_ok]
      rw [List.range_succ, List.map_append, ← List.append_assoc] at ih
      refine ev_t (decide_eq_true (by omega)) (ev_call (hf k j hk hj) (ev_chk (by simp [flatF_length]; omega) ?_))
      rw [w64_succ (by omega)]; exact ih
    · simp only [Z29.l1_succ _ mk_ok]
      refine ev_f (decide_eq_false (by omega)) ?_
      rw [w64_succ (by omega)]; exact ih
  · simp only [Z29.l0_succ _ mk_ok]
    exact ev_f (decide_eq_false (by omega)) ev_rfl

theorem filled_impl_transpose_1_ret (p : Int) (R C : Nat) (c : (vM × Unit)) (f : Nat → Nat → Int) (hR : R ≤ 1048576) (hC : C ≤ 1048576) (hRC : R * C ≤ 1048576) (hf : ∀ i j : Nat, i < R → j < C → Ret E n_Z49 [⟨yI, (i : Int)⟩, ⟨yI, (j : Int)⟩, ⟨(.ptr yM), c.1⟩] ⟨o_Z49, (f i j, ())⟩) :
    Ret E n_Z27 [⟨yI, p⟩, ⟨yI, (R : Int)⟩, ⟨yI, (C : Int)⟩, ⟨(.fn n_Z49 (.cons (.ptr yM) .nil)), c⟩] ⟨o_Z27, (p, (R : Int), (C : Int), flatF f C R, ())⟩ := by
  refine ret_of ?_
  simp only [run_Z27, Z28.ev]
  refine Ev.start (p := fun φ n => Z28.l0 (mkR (run E (φ 0))) (φ 0) n (C : Int) c (R : Int) 0 0 0 0 p (R : Int) (C : Int) [] = _) 1 ?_ (fun _ _ _ h => h)
  refine fold_loop 1 (L := fun φ n k a => Z28.l0 (mkR (run E (φ 0))) (φ 0) n (C : Int) c (R : Int) k 0 0 0 p (R : Int) (C : Int) a) (len := R) (fun k => flatF f C k) (fun _ _ _ _ _ => rfl) (fun k r hk ih => ?_) ?_
  · simp only [Z28.l0_succ _ mk_ok]
    refine ev_t (decide_eq_true (by omega)) ?_
    refine Ev.start (p := fun φ n => Z28.l1 (mkR (run E (φ 0))) (φ 0) (φ 1) n (C : Int) c (k : Int) (R : Int) (k : Int) (C : Int) 0 0 0 0 p (R : Int) (C : Int) (flatF f C k) = _) 2 ?_ (fun _ _ _ h => h)
    have hle : (k + 1) * C ≤ R * C := Nat.mul_le_mul_right _ hk
    rw [Nat.add_mul] at hle
    have := fold_loop 2 (L := fun φ n j a => Z28.l1 (mkR (run E (φ 0))) (φ 0) (φ 1) n (C : Int) c (k : Int) (R : Int) (k : Int) (C : Int) j 0 0 0 p (R : Int) (C : Int) a) (len := C) (fun j => flatF f C k ++ (List.range j).map (f k)) (r := r) (fun _ _ _ _ _ => rfl) (fun j r hj ih => ?_) ?_
    · simpa using this
    · simp only [Z28.l1_succ _ mk_ok]
      rw [List.range_succ, List.map_append, ← List.append_assoc] at ih
      refine ev_t (decide_eq_true (by omega)) (ev_call (hf k j hk hj) (ev_chk (by simp [flatF_length]; omega) ?_))
      rw [w64_succ (by omega)]; exact ih
    · simp only [Z28.l1_succ _ mk_ok]
      refine ev_f (decide_eq_false (by omega)) ?_
      rw [w64_succ (by omega)]; exact ih
  · simp only [Z28.l0_succ _ mk_ok]
    exact ev_f (decide_eq_false (by omega)) ev_rfl

end VeT

open Go Go.Proofs Ve
set_option linter.unusedVariables false
set_option linter.unusedSimpArgs false
namespace VeT

abbrev cM : Ty := .cons yI (.cons yI (.cons yI (.cons yL .nil)))
abbrev cC : Ty := .cons yK .nil
abbrev cS : Ty := .cons yK (.cons yI (.cons yL (.cons (.sl (.st cM)) .nil)))
abbrev Mat := Int × Int × Int × List Int × Unit
abbrev Cpx := List (List Int) × Unit
abbrev Shf := List (List Int) × Int × List Int × List Mat × Unit
abbrev Sim := List Int
abbrev dI (x : Int) : Dv := ⟨.int .i64,x⟩
abbrev dL (x : List Int) : Dv := ⟨.sl yI,x⟩
abbrev dLL (x : List (List Int)) : Dv := ⟨.sl yL,x⟩
abbrev dC (x : Cpx) : Dv := ⟨.ptr cC,x⟩
abbrev dM (x : Mat) : Dv := ⟨.ptr cM,x⟩
abbrev dS (x : Shf) : Dv := ⟨.ptr cS,x⟩
abbrev dMs (x : List Mat) : Dv := ⟨.sl (.st cM),x⟩

theorem within_ret (n lo hi : Int) : Ret E n_Z50 [dI n,dI lo,dI hi] ⟨o_Z50,(pb (lo ≤ n ∧ n ≤ hi),())⟩ := by
  refine ret_of ?_
  simp only [run_Z50,Z50.ev]
  refine ev_d (fun h => ev_some ?_) fun h => ev_some ?_
  · rw [pb_dec,pb_congr (show n ≤ hi ↔ lo ≤ n ∧ n ≤ hi by omega)]
  · rw [pb_false (by omega)]

theorem l00In_ret (n lo hi : Int) : Ret E n_Z91 [dI n,dI lo,dI hi] ⟨o_Z91,(pb (lo ≤ n ∧ n ≤ hi),())⟩ := by
  refine ret_of ?_
  simp only [run_Z91,Z91.ev]
  refine ev_d (fun h => ev_some ?_) fun h => ev_some ?_
  · rw [pb_dec,pb_congr (show n ≤ hi ↔ lo ≤ n ∧ n ≤ hi by omega)]
  · rw [pb_false (by omega)]

theorem isVertex_ret (n : Int) : Ret E n_Z36 [dI n] ⟨o_Z36,(pb (0 ≤ n ∧ n ≤ 9),())⟩ := by
  refine ret_of ?_
  simp only [run_Z36,Z36.ev]
  exact ev_call (within_ret _ _ _) ev_rfl

theorem ValidSimplex_1_ret (n : Int) : Ret E n_Z12 [dI n] ⟨o_Z12,(!pb (0 ≤ n ∧ n ≤ 9),())⟩ := by
  refine ret_of ?_
  simp only [run_Z12,Z12.ev]
  exact ev_call (isVertex_ret _) ev_rfl

/-- the list rises -/
def Rises (s : Sim) : Prop := ∀ j,1 ≤ j → j < s.length → s.getD (j - 1) 0 < s.getD j 0

theorem isRising_ret (s : Sim) (hs : Sm yL s) : Ret E n_Z35 [dL s] ⟨o_Z35,(pb (Rises s),())⟩ := by
  have hs1 : s.length ≤ 1048576 := hs.1
  refine ret_of ?_
  simp only [run_Z35,Z35.ev]
  by_cases h0 : s.length = 0
  · refine Ev.start (p := fun φ n => Z35.l0 (mkR (run E (φ 0))) (φ 0) n s 1 = _) 1 ?_ (fun _ _ _ h => h)
    refine loopR 1 (σ := Unit) (L := fun φ n _ => Z35.l0 (mkR (run E (φ 0))) (φ 0) n s 1) (fun _ _ _ _ => rfl) (fun _ => True) (fun _ => _) (fun _ => 0) (fun _ _ _ => ?_) () trivial
    simp only [Z35.l0_succ _ mk_ok]
    refine ev_f (decide_eq_false (by omega)) (ev_some ?_)
    rw [pb_true]
    intro j h1 h2; omega
  · refine Ev.start (p := fun φ n => Z35.l0 (mkR (run E (φ 0))) (φ 0) n s 1 = _) 1 ?_ (fun _ _ _ h => h)
    refine all_pb 1 (L := fun φ n k => Z35.l0 (mkR (run E (φ 0))) (φ 0) n s k) (len := s.length) 1 (by omega) (fun j => s.getD (j - 1) 0 < s.getD j 0) (fun b => some ⟨o_Z35,(b,())⟩) (fun _ _ _ _ => rfl) (fun k h1 h2 hP _ => ?_) (fun k r h1 h2 hP _ ih => ?_) (fun _ => ?_)
    · simp only [Z35.l0_succ _ mk_ok]
      refine ev_t (decide_eq_true (by omega)) ?_
      rw [w64_small (by omega) (by omega),show ((k : Int) - 1) = ((k - 1 : Nat) : Int) by omega]
      refine ev_bind (idx_lt (by omega)) (ev_bind (idx_lt h2) (ev_t (decide_eq_true ?_) ev_rfl))
      simpa [List.getD_eq_getElem?_getD,h2,show k - 1 < s.length by omega] using hP
    · simp only [Z35.l0_succ _ mk_ok]
      refine ev_t (decide_eq_true (by omega)) ?_
      rw [w64_small (by omega) (by omega),show ((k : Int) - 1) = ((k - 1 : Nat) : Int) by omega]
      refine ev_bind (idx_lt (by omega)) (ev_bind (idx_lt h2) (ev_f (decide_eq_false ?_) ?_))
      · simpa [List.getD_eq_getElem?_getD,h2,show k - 1 < s.length by omega] using hP
      · rw [w64_succ (by omega)]; exact ih
    · simp only [Z35.l0_succ _ mk_ok]
      exact ev_f (decide_eq_false (by omega)) ev_rfl

end VeT

open Go Go.Proofs Ve
set_option linter.unusedVariables false
set_option linter.unusedSimpArgs false
namespace VeT

def Vx (s : Sim) : Prop := 1 ≤ s.length ∧ s.length ≤ 4 ∧ Rises s ∧ ∀ x ∈ s,0 ≤ x ∧ x ≤ 9

theorem ValidSimplex_ret (s : Sim) (hs : Sm yL s) : Ret E n_Z11 [dL s] ⟨o_Z11,(pb (Vx s),())⟩ := by
  refine ret_of ?_
  simp only [run_Z11,Z11.ev]
  refine ev_d (fun h1 => ev_d (fun h2 => ev_call (isRising_ret s hs) (ev_b (fun h3 => ev_call (ContainsFunc_Sint64_int64_impl_ValidSimplex_1_ret s _ hs.1 fun x _ => ValidSimplex_1_ret x) (ev_some ?_)) fun h3 => ev_some ?_)) fun h2 => ev_some ?_) fun h1 => ev_some ?_
  · have h3 := pb_iff.1 h3
    have : (!pb (∃ x ∈ s,(!pb (0 ≤ x ∧ x ≤ 9)) = true)) = pb (Vx s) := eq_pb (by
      simp only [Bool.not_eq_true',pb_not]
      exact ⟨fun h => ⟨by omega,by omega,h3,fun x hx => Classical.byContradiction fun hn => h ⟨x,hx,hn⟩⟩,fun h ⟨x,hx,hn⟩ => hn (h.2.2.2 x hx)⟩)
    rw [this]
  · rw [pb_false fun h => pb_not.1 h3 h.2.2.1]
  · rw [pb_false fun h => h2 (by have := h.2.1; omega)]
  · rw [pb_false fun h => h1 (by have := h.1; omega)]

theorem l00Rises_ret (s : Sim) (lo hi : Int) (hs : Sm yL s) : Ret E n_Z93 [dL s,dI lo,dI hi] ⟨o_Z93,(pb (Rises s ∧ ∀ x ∈ s,lo ≤ x ∧ x ≤ hi),())⟩ := by
  have hs1 : s.length ≤ 1048576 := hs.1
  refine ret_of ?_
  simp only [run_Z93,Z93.ev]
  refine Ev.start (p := fun φ n => Z93.l0 (mkR (run E (φ 0))) (φ 0) n s lo hi 0 = _) 1 ?_ (fun _ _ _ h => h)
  refine (all_pb 1 (L := fun φ n k => Z93.l0 (mkR (run E (φ 0))) (φ 0) n s lo hi k) (len := s.length) 0 (by omega) (fun j => (lo ≤ s.getD j 0 ∧ s.getD j 0 ≤ hi) ∧ (1 ≤ j → s.getD (j - 1) 0 < s.getD j 0)) (fun b => some ⟨o_Z93,(b,())⟩) (fun _ _ _ _ => rfl) (fun k h1 h2 hP _ => ?_) (fun k r h1 h2 hP _ ih => ?_) (fun _ => ?_)).to ?_
  · simp only [Z93.l0_succ _ mk_ok]
    refine ev_t (decide_eq_true (by omega)) (ev_bind (idx_lt h2) (ev_call (l00In_ret _ _ _) ?_))
    have e : s.getD k 0 = s[k] := by simp [List.getD_eq_getElem?_getD,h2]
    rw [e] at hP
    refine ev_b (fun _ => ?_) (fun hin => ?_)
    · simp only [Z93.j1_eq _ mk_ok,cond_true]; (first | exact ev_rfl | exact Ev.of fun _ => trivial)
    · have hin : lo ≤ s[k] ∧ s[k] ≤ hi := pb_iff.1 (by simpa using hin)
      have hk : 1 ≤ k := Classical.byContradiction fun h => hP ⟨hin,fun h' => absurd h' h⟩
      refine ev_t (decide_eq_true (by omega)) ?_
      rw [w64_small (by omega) (by omega),show ((k : Int) - 1) = ((k - 1 : Nat) : Int) by omega]
      refine ev_bind (idx_lt (by omega)) (ev_bind (idx_lt h2) ?_)
      have e' : s.getD (k - 1) 0 = s[k - 1] := by simp [List.getD_eq_getElem?_getD,show k - 1 < s.length by omega]
      rw [e'] at hP
      have : decide (s[k-1] ≥ s[k]) = true := decide_eq_true (Classical.byContradiction fun h => hP ⟨hin,fun _ => by omega⟩)
      simp only [this,Z93.j1_eq _ mk_ok,cond_true]; (first | exact ev_rfl | exact Ev.of fun _ => trivial)
  · simp only [Z93.l0_succ _ mk_ok]
    refine ev_t (decide_eq_true (by omega)) (ev_bind (idx_lt h2) (ev_call (l00In_ret _ _ _) ?_))
    have e : s.getD k 0 = s[k] := by simp [List.getD_eq_getElem?_getD,h2]
    rw [e] at hP
    refine ev_f (by rw [pb_true hP.1]; rfl) ?_
    refine ev_d (fun hk => ?_) fun hk => ?_
    · rw [w64_small (by omega) (by omega),show ((k : Int) - 1) = ((k - 1 : Nat) : Int) by omega]
      refine ev_bind (idx_lt (by omega)) (ev_bind (idx_lt h2) ?_)
      have e' : s.getD (k - 1) 0 = s[k - 1] := by simp [List.getD_eq_getElem?_getD,show k - 1 < s.length by omega]
      rw [e'] at hP
      have : decide (s[k-1] ≥ s[k]) = false := decide_eq_false (by have := hP.2 (by omega); omega)
      simp only [this,Z93.j1_eq _ mk_ok,cond_false]
      rw [w64_succ (by omega)]; exact ih
    · simp only [Z93.j1_eq _ mk_ok,cond_false]
      rw [w64_succ (by omega)]; exact ih
  · simp only [Z93.l0_succ _ mk_ok]
    exact ev_f (decide_eq_false (by omega)) ev_rfl
  · refine congrArg (fun b : Bool => some (⟨o_Z93,(b,())⟩ : Dv)) (pb_congr ⟨fun h => ⟨fun j h1 h2 => (h j (by omega) h2).2 h1,fun x hx => ?_⟩,fun ⟨h1,h2⟩ j _ hj => ⟨?_,fun h3 => h1 j h3 hj⟩⟩)
    · obtain ⟨j,hj,rfl⟩ := List.mem_iff_getElem.1 hx
      simpa [List.getD_eq_getElem?_getD,hj] using (h j (by omega) hj).1
    · simpa [List.getD_eq_getElem?_getD,hj] using h2 _ (List.getElem_mem hj)

theorem l05Simplex_ret (s : Sim) (hs : Sm yL s) : Ret E n_Z110 [dL s] ⟨o_Z110,(pb (Vx s),())⟩ := by
  refine ret_of ?_
  simp only [run_Z110,Z110.ev]
  refine ev_call (l00In_ret _ _ _) (ev_b (fun h1 => ev_call (l00Rises_ret s _ _ hs) (ev_some ?_)) fun h1 => ev_some ?_)
  · have h1 := pb_iff.1 h1
    exact congrArg (fun b : Bool => some (⟨o_Z110,(b,())⟩ : Dv)) (pb_congr ⟨fun h => ⟨by omega,by omega,h.1,h.2⟩,fun h => ⟨h.2.2.1,h.2.2.2⟩⟩)
  · rw [pb_false fun h => pb_not.1 h1 ⟨by have := h.1; omega,by have := h.2.1; omega⟩]

/-! comparing -/
def cmp3 (a b : Int) : Int := if a < b then -1 else if b < a then 1 else 0
def lexc : Sim → Sim → Int
  | [],[] => 0
  | [],_ :: _ => -1
  | _ :: _,[] => 1
  | x :: xs,y :: ys => if x < y then -1 else if y < x then 1 else lexc xs ys
def cmpS (a b : Sim) : Int := if cmp3 a.length b.length ≠ 0 then cmp3 a.length b.length else lexc a b

theorem cmp3_zero {a b : Int} : cmp3 a b = 0 ↔ a = b := by unfold cmp3; split <;> (try split) <;> omega
theorem cmp3_neg {a b : Int} : cmp3 b a = - cmp3 a b := by unfold cmp3; split <;> split <;> (try split) <;> omega
theorem cmp3_lt {a b : Int} : cmp3 a b < 0 ↔ a < b := by unfold cmp3; split <;> (try split) <;> omega
theorem lexc_eq : ∀ {a b : Sim},lexc a b = 0 ↔ a = b
  | [],[] => by simp [lexc]
  | [],_ :: _ => by simp [lexc]
  | _ :: _,[] => by simp [lexc]
  | x :: xs,y :: ys => by
    have := @lexc_eq xs ys
    simp only [lexc,List.cons.injEq]
    split
    · constructor
      · intro h; omega
      · rintro ⟨rfl,_⟩; omega
    · split
      · constructor
        · intro h; omega
        · rintro ⟨rfl,_⟩; omega
      · rw [this]; constructor
        · intro h; exact ⟨by omega,h⟩
        · exact fun h => h.2
theorem lexc_neg : ∀ {a b : Sim},lexc b a = - lexc a b
  | [],[] => by simp [lexc]
  | [],_ :: _ => by simp [lexc]
  | _ :: _,[] => by simp [lexc]
  | x :: xs,y :: ys => by
    have := @lexc_neg xs ys
    simp only [lexc]
    split <;> split <;> (try split) <;> omega
theorem lexc_trans : ∀ {a b c : Sim},lexc a b < 0 → lexc b c < 0 → lexc a c < 0
  | [],[],c,h,_ => by simp [lexc] at h
  | [],_ :: _,[],_,h => by simp [lexc] at h
  | [],_ :: _,_ :: _,_,_ => by simp [lexc]
  | _ :: _,[],_,h,_ => by simp [lexc] at h
  | _ :: _,_ :: _,[],_,h => by simp [lexc] at h
  | x :: xs,y :: ys,z :: zs,h1,h2 => by
    have := @lexc_trans xs ys zs
    simp only [lexc] at h1 h2 ⊢
    split at h1 <;> split at h2 <;> (try split at h1) <;> (try split at h2) <;> (try split) <;> (try split) <;> first | omega | (exact this h1 h2)
theorem cmpS_zero {a b : Sim} : cmpS a b = 0 ↔ a = b := by
  unfold cmpS
  split
  · rename_i h
    exact ⟨fun h' => absurd h' h,fun h' => absurd (cmp3_zero.2 (by rw [h'])) h⟩
  · exact lexc_eq
theorem cmpS_neg {a b : Sim} : cmpS b a = - cmpS a b := by
  unfold cmpS
  rw [@cmp3_neg a.length b.length]
  split <;> split <;> first | omega | exact lexc_neg
theorem cmpS_lt {a b : Sim} : cmpS a b < 0 ↔ a.length < b.length ∨ a.length = b.length ∧ lexc a b < 0 := by
  unfold cmpS
  split
  · rename_i h
    rw [cmp3_lt]
    rw [Ne,cmp3_zero] at h
    omega
  · rename_i h
    rw [Classical.not_not,cmp3_zero] at h
    omega
theorem cmpS_trans {a b c : Sim} (h1 : cmpS a b < 0) (h2 : cmpS b c < 0) : cmpS a c < 0 := by
  rw [cmpS_lt] at *
  rcases h1 with h1 | ⟨h1,h1'⟩ <;> rcases h2 with h2 | ⟨h2,h2'⟩
  · left; omega
  · left; omega
  · left; omega
  · right; exact ⟨by omega,lexc_trans h1' h2'⟩

theorem isNaNi_ret (a : Int) : Ret E n_Z3 [dI a] ⟨o_Z3,(false,())⟩ := by
  refine ret_of ?_
  simp only [run_Z3,Z3.ev]
  exact ev_some (by simp)
theorem isNaN_ret (a : Int) : Ret E n_Z4 [dI a] ⟨o_Z4,(false,())⟩ := by
  refine ret_of ?_
  simp only [run_Z4,Z4.ev]
  exact ev_some (by simp)

theorem Comparei_ret (a b : Int) : Ret E n_Z0 [dI a,dI b] ⟨o_Z0,(cmp3 a b,())⟩ := by
  refine ret_of ?_
  simp only [run_Z0,Z0.ev]
  refine ev_call (isNaNi_ret _) (ev_call (isNaNi_ret _) (ev_f rfl (ev_f rfl (ev_d (fun h => ev_some ?_) fun h => ev_d (fun h2 => ev_some ?_) fun h2 => ev_some ?_))))
  · rw [cmp3,if_pos h]
  · rw [cmp3,if_neg h,if_pos h2]
  · rw [cmp3,if_neg h,if_neg h2]
theorem Compare_ret (a b : Int) : Ret E n_Z1 [dI a,dI b] ⟨o_Z1,(cmp3 a b,())⟩ := by
  refine ret_of ?_
  simp only [run_Z1,Z1.ev]
  refine ev_call (isNaN_ret _) (ev_call (isNaN_ret _) (ev_f rfl (ev_f rfl (ev_d (fun h => ev_some ?_) fun h => ev_d (fun h2 => ev_some ?_) fun h2 => ev_some ?_))))
  · rw [cmp3,if_pos h]
  · rw [cmp3,if_neg h,if_pos h2]
  · rw [cmp3,if_neg h,if_neg h2]

theorem lexc_step {a b : Sim} {k : Nat} (h : k < a.length) (h' : k < b.length) : lexc (a.drop k) (b.drop k) = if cmp3 a[k] b[k] ≠ 0 then cmp3 a[k] b[k] else lexc (a.drop (k + 1)) (b.drop (k + 1)) := by
  rw [List.drop_eq_getElem_cons h,List.drop_eq_getElem_cons h',lexc]
  unfold cmp3
  split
  · simp
  · split
    · simp
    · simp

theorem SliceCompare_ret (a b : Sim) (ha : Sm yL a) : Ret E n_Z71 [dL a,dL b] ⟨o_Z71,(lexc a b,())⟩ := by
  have ha1 : a.length ≤ 1048576 := ha.1
  refine ret_of ?_
  simp only [run_Z71,Z71.ev]
  refine Ev.start (p := fun φ n => Z71.l0 (mkR (run E (φ 0))) (φ 0) n a b a (a.length : Int) 0 = _) 1 ?_ (fun _ _ _ h => h)
  refine loopR 1 (σ := Nat) (L := fun φ n k => Z71.l0 (mkR (run E (φ 0))) (φ 0) n a b a (a.length : Int) (k : Int)) (fun _ _ _ _ => rfl) (fun k => k ≤ a.length ∧ k ≤ b.length) (fun k => some ⟨o_Z71,(lexc (a.drop k) (b.drop k),())⟩) (fun k => a.length - k) (fun k ⟨hk,hkb⟩ ih => ?_) 0 ⟨Nat.zero_le _,Nat.zero_le _⟩
  simp only [Z71.l0_succ _ mk_ok]
  refine ev_d (fun h => ?_) fun h => ?_
  · have hka : k < a.length := by omega
    refine ev_bind (idx_lt hka) (ev_d (fun h2 => ev_some ?_) fun h2 => ?_)
    · rw [List.drop_eq_getElem_cons hka,List.drop_of_length_le (l := b) (by omega),lexc]
    · have hkb : k < b.length := by omega
      refine ev_bind (idx_lt hkb) (ev_call (Compare_ret _ _) (ev_b (fun h3 => ev_some ?_) fun h3 => ?_))
      · rw [lexc_step hka hkb,if_pos (by simpa using h3)]
      · rw [w64_succ (by omega)]
        refine (ih (k + 1) ⟨by omega,by omega⟩ (by omega)).to ?_
        rw [lexc_step hka hkb,if_neg (by simpa using h3)]
  · have e : k = a.length := by omega
    subst e
    refine ev_d (fun h2 => ev_some ?_) fun h2 => ev_some ?_
    · rw [List.drop_of_length_le (l := a) (by omega),List.drop_eq_getElem_cons (l := b) (by omega),lexc]
    · rw [List.drop_of_length_le (l := a) (by omega),List.drop_of_length_le (l := b) (by omega),lexc]

theorem Or2_ret (a b : Int) : Ret E n_Z2 [dL [a,b]] ⟨o_Z2,(if a ≠ 0 then a else b,())⟩ := by
  refine ret_of ?_
  simp only [run_Z2,Z2.ev]
  refine Ev.start (p := fun φ n => Z2.l0 (mkR (run E (φ 0))) (φ 0) n 0 [a,b] ([a,b].length : Int) 0 = _) 1 ?_ (fun _ _ _ h => h)
  refine Ev.round 1 (L := fun φ n => Z2.l0 (mkR (run E (φ 0))) (φ 0) n 0 [a,b] ([a,b].length : Int) 0) ?_ (fun _ _ _ => rfl)
  simp only [Z2.l0_succ _ mk_ok]
  refine ev_t (by simp) (ev_bind (x := a) rfl (ev_b (fun h => ev_some ?_) fun h => ?_))
  · rw [if_pos (by simpa using h)]
  · rw [if_neg (by simpa using h)]
    rw [show w64 ((0 : Int) + 1) = 1 by decide]
    refine Ev.round 1 (L := fun φ n => Z2.l0 (mkR (run E (φ 0))) (φ 0) n 0 [a,b] ([a,b].length : Int) 1) ?_ (fun _ _ _ => rfl)
    simp only [Z2.l0_succ _ mk_ok]
    refine ev_t (by simp) (ev_bind (x := b) rfl (ev_b (fun h => ev_rfl) fun h => ?_))
    rw [show w64 ((1 : Int) + 1) = 2 by decide]
    refine Ev.round 1 (L := fun φ n => Z2.l0 (mkR (run E (φ 0))) (φ 0) n 0 [a,b] ([a,b].length : Int) 2) ?_ (fun _ _ _ => rfl)
    simp only [Z2.l0_succ _ mk_ok]
    refine ev_f (by simp) (ev_some ?_)
    have : b = 0 := by simpa using h
    rw [this]

theorem compareSimplices_ret (a b : Sim) (ha : Sm yL a) : Ret E n_Z19 [dL a,dL b] ⟨o_Z19,(cmpS a b,())⟩ := by
  refine ret_of ?_
  simp only [run_Z19,Z19.ev]
  exact ev_call (Comparei_ret _ _) (ev_call (SliceCompare_ret a b ha) (ev_call (Or2_ret _ _) ev_rfl))

theorem l05Before_ret (a b : Sim) (ha : Sm yL a) : Ret E n_Z103 [dL a,dL b] ⟨o_Z103,(pb (cmpS a b < 0),())⟩ := by
  have ha1 : a.length ≤ 1048576 := ha.1
  refine ret_of ?_
  simp only [run_Z103,Z103.ev]
  refine ev_b (fun h => ev_some ?_) fun h => ?_
  · have h : (a.length : Int) ≠ b.length := by simpa using h
    rw [pb_dec,pb_congr (show (a.length : Int) < b.length ↔ cmpS a b < 0 by rw [cmpS_lt]; omega)]
  · have h : a.length = b.length := by have : (a.length : Int) = b.length := by simpa using h
                                       omega
    refine Ev.start (p := fun φ n => Z103.l0 (mkR (run E (φ 0))) (φ 0) n a b 0 = _) 1 ?_ (fun _ _ _ h => h)
    refine (loopR 1 (σ := Nat) (L := fun φ n k => Z103.l0 (mkR (run E (φ 0))) (φ 0) n a b (k : Int)) (fun _ _ _ _ => rfl) (fun k => k ≤ a.length) (fun k => some ⟨o_Z103,(pb (lexc (a.drop k) (b.drop k) < 0),())⟩) (fun k => a.length - k) (fun k hk ih => ?_) 0 (Nat.zero_le _)).to ?_
    · simp only [Z103.l0_succ _ mk_ok]
      refine ev_d (fun h1 => ?_) fun h1 => ?_
      · have hka : k < a.length := by omega
        have hkb : k < b.length := by omega
        have e := lexc_step hka hkb
        refine ev_bind (idx_lt hka) (ev_bind (idx_lt hkb) (ev_b (fun h3 => ?_) fun h3 => ?_))
        · refine ev_bind (idx_lt hka) (ev_bind (idx_lt hkb) (ev_some ?_))
          have h3 : a[k] ≠ b[k] := by simpa using h3
          rw [if_pos (by rw [Ne,cmp3_zero]; exact h3)] at e
          rw [e,pb_dec,pb_congr cmp3_lt]
        · have h3 : a[k] = b[k] := by simpa using h3
          rw [if_neg (by rw [Classical.not_not,cmp3_zero]; exact h3)] at e
          rw [w64_succ (by omega),e]
          exact ih (k + 1) (by show k + 1 ≤ _; omega) (by show a.length - (k + 1) < _; omega)
      · refine ev_some ?_
        have hk : k ≤ a.length := hk
        have e : k = a.length := by omega
        subst e
        rw [List.drop_of_length_le (l := a) (by omega),List.drop_of_length_le (l := b) (by omega),lexc,pb_false (by omega)]
    · refine congrArg (fun b : Bool => some (⟨o_Z103,(b,())⟩ : Dv)) (pb_congr ?_)
      simp only [List.drop_zero]; rw [cmpS_lt]; omega

end VeT

open Go Go.Proofs Ve
set_option linter.unusedVariables false
set_option linter.unusedSimpArgs false
namespace VeT

theorem getD_lt {α : Type} {s : List α} {k : Nat} {d : α} (h : k < s.length) : s.getD k d = s[k] := by simp [List.getD_eq_getElem?_getD,h]
theorem sm_get {t : Ty} {s : List t.T} (h : Sm (.sl t) s) {k : Nat} (hk : k < s.length) : Sm t s[k] := h.2 _ (List.getElem_mem hk)
theorem sm_ints {s : Sim} (h : s.length ≤ 1048576) : Sm yL s := ⟨h,fun _ _ => trivial⟩

theorem l00Own_ret (s : Sim) (hs : s.length ≤ 1048576) : Ret E n_Z92 [dL s] ⟨o_Z92,(s,())⟩ := by
  refine ret_of ?_
  simp only [run_Z92,Z92.ev]
  exact ev_chk (by simp; omega) (ev_some rfl)

theorem l05Drop_ret (s : Sim) (k : Nat) (hk : k < s.length) (hs : s.length ≤ 1048576) : Ret E n_Z105 [dL s,dI (k : Int)] ⟨o_Z105,(s.eraseIdx k,())⟩ := by
  refine ret_of ?_
  simp only [run_Z105,Z105.ev]
  rw [w64_succ (by omega)]
  simp only [Int.toNat_natCast]
  refine ev_chk (by simp; omega) (ev_call (l00Own_ret _ (by simp; omega)) (ev_chk (by simp; omega) (ev_chk (by simp; omega) (ev_some ?_))))
  rw [List.eraseIdx_eq_take_drop_succ]

theorem l00SameP_ret (a b : Sim) (ha : a.length ≤ 1048576) : Ret E n_Z94 [dL a,dL b] ⟨o_Z94,(pb (a = b),())⟩ := by
  refine ret_of ?_
  simp only [run_Z94,Z94.ev]
  refine ev_b (fun h => ev_some ?_) fun h => ?_
  · have h : (a.length : Int) ≠ b.length := by simpa using h
    rw [pb_false fun e => h (by rw [e])]
  · have h : (a.length : Int) = b.length := by simpa using h
    refine Ev.start (p := fun φ n => Z94.l0 (mkR (run E (φ 0))) (φ 0) n a b 0 = _) 1 ?_ (fun _ _ _ h => h)
    refine (all_pb 1 (L := fun φ n k => Z94.l0 (mkR (run E (φ 0))) (φ 0) n a b k) (len := a.length) 0 (by omega) (fun j => a.getD j 0 = b.getD j 0) (fun b => some ⟨o_Z94,(b,())⟩) (fun _ _ _ _ => rfl) (fun k h1 h2 hP _ => ?_) (fun k r h1 h2 hP _ ih => ?_) (fun _ => ?_)).to ?_
    · simp only [Z94.l0_succ _ mk_ok]
      have hb : k < b.length := by omega
      rw [getD_lt h2,getD_lt hb] at hP
      exact ev_t (decide_eq_true (by omega)) (ev_bind (idx_lt h2) (ev_bind (idx_lt hb) (ev_t (by simpa using hP) ev_rfl)))
    · simp only [Z94.l0_succ _ mk_ok]
      have hb : k < b.length := by omega
      rw [getD_lt h2,getD_lt hb] at hP
      refine ev_t (decide_eq_true (by omega)) (ev_bind (idx_lt h2) (ev_bind (idx_lt hb) (ev_f (by simpa using hP) ?_)))
      rw [w64_succ (by omega)]; exact ih
    · simp only [Z94.l0_succ _ mk_ok]
      exact ev_f (decide_eq_false (by omega)) ev_rfl
    · refine congrArg (fun b : Bool => some (⟨o_Z94,(b,())⟩ : Dv)) (pb_congr ⟨fun hh => List.ext_getElem (by omega) fun j h1 h2 => ?_,fun hh j _ _ => by rw [hh]⟩)
      have := hh j (by omega) h1
      rwa [getD_lt h1,getD_lt h2] at this

noncomputable def findI (c : List Sim) (s : Sim) : Int := idxf (fun x => pb (x = s)) c
theorem findI_nonneg {c : List Sim} {s : Sim} : 0 ≤ findI c s ↔ s ∈ c := by
  unfold findI
  rw [idxf_nonneg]
  simp only [pb_iff]
  exact ⟨fun ⟨x,h,e⟩ => e ▸ h,fun h => ⟨s,h,rfl⟩⟩

theorem l05Find_ret (c : Cpx) (s : Sim) (hc : Sm yK c.1) : Ret E n_Z107 [dC c,dL s] ⟨o_Z107,(findI c.1 s,())⟩ := by
  have hc1 : c.1.length ≤ 1048576 := hc.1
  obtain ⟨o,h1,h2,h3⟩ := find_loop 1 (L := fun φ n k => Z107.l0 (mkR (run E (φ 0))) (φ 0) n c s k) (len := c.1.length) (fun k => ∃ h : k < c.1.length,pb (c.1[k] = s) = true) (fun o => some ⟨o_Z107,(o2i o,())⟩) (fun _ _ _ _ => rfl) (fun k hk hP => by
      obtain ⟨_,hP⟩ := hP
      simp only [Z107.l0_succ _ mk_ok]
      refine ev_t (decide_eq_true (by omega)) (ev_bind (idx_lt hk) (ev_call (l00SameP_ret _ _ (sm_get hc hk).1) (ev_t hP ev_rfl)))) (fun k q hk hP ih => by
      simp only [Z107.l0_succ _ mk_ok]
      refine ev_t (decide_eq_true (by omega)) (ev_bind (idx_lt hk) (ev_call (l00SameP_ret _ _ (sm_get hc hk).1) (ev_f (Bool.eq_false_iff.2 fun h => hP ⟨hk,h⟩) ?_)))
      rw [w64_succ (by omega)]; exact ih) (by
      simp only [Z107.l0_succ _ mk_ok]
      exact ev_f (decide_eq_false (by omega)) ev_rfl)
  rw [idxf_of (p := fun x => pb (x = s)) h1 h2] at h3
  refine ret_of ?_
  simp only [run_Z107,Z107.ev]
  exact Ev.start (p := fun φ n => Z107.l0 (mkR (run E (φ 0))) (φ 0) n c s 0 = _) 1 h3 (fun _ _ _ h => h)

/-! joining,faces -/
theorem run_Grow (n : Nat) (args : List Dv) : run E (n + 1) n_Z79 args = pGrow yI (mkR (run E n)) args := rfl

theorem Grow_ret (s : Sim) (n : Int) (h0 : 0 ≤ n) (h1 : n ≤ 1048576) (hs : s.length ≤ 1048576) : Ret E n_Z79 [dL s,dI n] ⟨o_Z79,(s,())⟩ := by
  refine ret_of ?_
  simp only [run_Grow]
  refine ev_some ((if_pos (show 0 ≤ n ∧ ((List.length s : Int) + n) * (64 * (Ty.size (Ty.int IntKind.i64) : Int)) ≤ 70368744177664 from ⟨h0,?_⟩)).trans rfl)
  have : (Ty.size (Ty.int IntKind.i64)) = 1 := rfl
  rw [this]; omega

theorem Concat_ret (ll : List Sim) (hl : ll.length ≤ 1048576) (hf : ll.flatten.length ≤ 1048576) : Ret E n_Z72 [dLL ll] ⟨o_Z72,(ll.flatten,())⟩ := by
  have hle : ∀ k,(ll.take k).flatten.length ≤ ll.flatten.length := fun k => by
    have := congrArg List.length (congrArg List.flatten (List.take_append_drop k ll))
    rw [List.flatten_append,List.length_append] at this; omega
  have hst : ∀ k (h : k < ll.length),(ll.take (k + 1)).flatten = (ll.take k).flatten ++ ll[k] := fun k h => by
    rw [List.take_succ_eq_append_getElem h,List.flatten_append]; simp
  refine ret_of ?_
  simp only [run_Z72,Z72.ev]
  refine Ev.start (p := fun φ n => Z72.l0 (mkR (run E (φ 0))) (φ 0) n ll 0 ll (ll.length : Int) 0 = _) 1 ?_ (fun _ _ _ h => h)
  refine fold_loop 1 (L := fun φ n k a => Z72.l0 (mkR (run E (φ 0))) (φ 0) n ll a ll (ll.length : Int) k) (len := ll.length) (fun k => (((ll.take k).flatten.length : Nat) : Int)) (fun _ _ _ _ _ => rfl) (fun k r hk ih => ?_) ?_
  · simp only [Z72.l0_succ _ mk_ok]
    have := hle (k + 1)
    have e := hst k hk
    have e2 : w64 (((ll.take k).flatten.length : Nat) + (List.length (ll[k]) : Int)) = (((ll.take (k + 1)).flatten.length : Nat) : Int) := by
      rw [w64_small (by omega) (by rw [e,List.length_append] at this; omega),e,List.length_append]; omega
    refine ev_t (decide_eq_true (by omega)) (ev_bind (idx_lt hk) ?_)
    show Ev fun φ => (bif decide (w64 (((ll.take k).flatten.length : Nat) + (List.length (ll[k]) : Int)) < 0) then none else Z72.l0 (mkR (run E (φ 0))) (φ 0) (φ 1) ll (w64 (((ll.take k).flatten.length : Nat) + (List.length (ll[k]) : Int))) ll (ll.length : Int) (w64 ((k : Int) + 1))) = r
    rw [e2,w64_succ (by omega)]
    exact ev_f (decide_eq_false (by omega)) ih
  · simp only [Z72.l0_succ _ mk_ok]
    refine ev_f (decide_eq_false (by omega)) (ev_call (Grow_ret [] _ (by omega) (by have := hle ll.length; omega) (by simp)) ?_)
    refine Ev.start (p := fun φ n => Z72.l1 (mkR (run E (φ 0))) (φ 0) n ll (ll.length : Int) 0 [] = _) 2 ?_ (fun _ _ _ h => h)
    refine fold_loop 2 (L := fun φ n k a => Z72.l1 (mkR (run E (φ 0))) (φ 0) n ll (ll.length : Int) k a) (len := ll.length) (fun k => (ll.take k).flatten) (fun _ _ _ _ _ => rfl) (fun k r hk ih => ?_) ?_
    · simp only [Z72.l1_succ _ mk_ok]
      have := hle (k + 1)
      have e := hst k hk
      rw [e] at ih this
      rw [List.length_append] at this
      refine ev_t (decide_eq_true (by omega)) (ev_bind (idx_lt hk) (ev_chk (decide_eq_true (by show (_ + List.length ll[k]) * 8 ≤ _; omega)) ?_))
      rw [w64_succ (by omega)]
      exact ih
    · simp only [Z72.l1_succ _ mk_ok]
      refine ev_f (decide_eq_false (by omega)) (ev_some ?_)
      rw [List.take_of_length_le (Nat.le_refl _)]

def faces (s : Sim) : List Sim := if 1 < s.length then (List.range s.length).map (s.eraseIdx ·) else []

theorem faces_mem {s f : Sim} : f ∈ faces s ↔ 1 < s.length ∧ ∃ i,i < s.length ∧ f = s.eraseIdx i := by
  unfold faces
  split
  · rename_i h
    simp only [List.mem_map,List.mem_range,h,true_and]
    exact ⟨fun ⟨i,h1,h2⟩ => ⟨i,h1,h2.symm⟩,fun ⟨i,h1,h2⟩ => ⟨i,h1,h2.symm⟩⟩
  · rename_i h
    simp [h]

theorem faces_len {s f : Sim} (h : f ∈ faces s) : f.length + 1 = s.length := by
  obtain ⟨h1,i,h2,rfl⟩ := faces_mem.1 h
  rw [List.length_eraseIdx,if_pos h2]; omega

theorem faces_length {s : Sim} : (faces s).length ≤ s.length := by
  unfold faces; split <;> simp

theorem facesOf_ret (s : Sim) (hs : s.length ≤ 1048576) : Ret E n_Z26 [dL s] ⟨o_Z26,(faces s,())⟩ := by
  refine ret_of ?_
  simp only [run_Z26,Z26.ev]
  refine Ev.start (p := fun φ n => Z26.l0 (mkR (run E (φ 0))) (φ 0) n s (s.length : Int) 0 [] = _) 1 ?_ (fun _ _ _ h => h)
  by_cases h1 : 1 < s.length
  · refine fold_loop 1 (L := fun φ n k a => Z26.l0 (mkR (run E (φ 0))) (φ 0) n s (s.length : Int) k a) (len := s.length) (fun k => (List.range k).map (s.eraseIdx ·)) (fun _ _ _ _ _ => rfl) (fun k r hk ih => ?_) ?_
    · simp only [Z26.l0_succ _ mk_ok]
      rw [List.range_succ,List.map_append] at ih
      rw [w64_succ (by omega)]
      simp only [Int.toNat_natCast]
      refine ev_t (decide_eq_true (by omega)) (ev_t (decide_eq_true (by omega)) (ev_chk (by simp; omega) (ev_chk (by simp; omega) (ev_call (Concat_ret _ (by simp) (by simp; omega)) (ev_chk (by simp; omega) ?_)))))
      rw [show [s.take k,s.drop (k + 1)].flatten = s.eraseIdx k by simp [List.eraseIdx_eq_take_drop_succ]]
      exact ih
    · simp only [Z26.l0_succ _ mk_ok]
      exact ev_f (decide_eq_false (by omega)) (ev_some (by rw [faces,if_pos h1]))
  · refine fold_loop 1 (L := fun φ n k a => Z26.l0 (mkR (run E (φ 0))) (φ 0) n s (s.length : Int) k a) (len := s.length) (fun k => []) (fun _ _ _ _ _ => rfl) (fun k r hk ih => ?_) ?_
    · simp only [Z26.l0_succ _ mk_ok]
      rw [w64_succ (by omega)]
      exact ev_t (decide_eq_true (by omega)) (ev_f (decide_eq_false (by omega)) ih)
    · simp only [Z26.l0_succ _ mk_ok]
      exact ev_f (decide_eq_false (by omega)) (ev_some (by rw [faces,if_neg h1]))

/-! searching -/
def Srt (c : List Sim) : Prop := ∀ i j (h : j < c.length) (hij : i < j),cmpS c[i] c[j] < 0

theorem srt_of {c : List Sim} (h : ∀ k,1 ≤ k → k < c.length → cmpS (c.getD (k - 1) []) (c.getD k []) < 0) : Srt c := by
  intro i j
  induction j with
  | zero => intro _ h; omega
  | succ j ih =>
    intro hj hij
    have := h (j + 1) (by omega) hj
    rw [Nat.add_sub_cancel,getD_lt (by omega),getD_lt hj] at this
    by_cases e : i = j
    · subst e; exact this
    · exact cmpS_trans (ih (by omega) (by omega)) this

theorem Srt.take {c : List Sim} (h : Srt c) (k : Nat) : Srt (c.take k) := by
  intro i j hj hij
  rw [List.getElem_take,List.getElem_take]
  exact h i j (by rw [List.length_take] at hj; omega) hij

def bs (c : List Sim) (s : Sim) : Nat := c.findIdx (fun x => !decide (cmpS x s < 0))

theorem bs_le {c : List Sim} {s : Sim} : bs c s ≤ c.length := List.findIdx_le_length
theorem bs_lt {c : List Sim} {s : Sim} (hc : Srt c) {t : Nat} (h : t < c.length) : t < bs c s ↔ cmpS c[t] s < 0 := by
  constructor
  · intro ht
    have := List.not_of_lt_findIdx ht
    simpa using this
  · intro ht
    refine Classical.byContradiction fun hn => ?_
    have hb : bs c s < c.length := by omega
    have h1 : cmpS c[bs c s] s < 0 := by
      by_cases e : bs c s = t
      · simp only [e]; exact ht
      · exact cmpS_trans (hc _ _ h (by omega)) ht
    have := List.findIdx_getElem (w := hb)
    simp only [Bool.not_eq_true',decide_eq_false_iff_not] at this
    exact this h1

theorem bs_find {c : List Sim} {s : Sim} (hc : Srt c) : findI c s = if h : bs c s < c.length ∧ c.getD (bs c s) [] = s then (bs c s : Int) else -1 := by
  have e : c.findIdx? (fun x => pb (x = s)) = if bs c s < c.length ∧ c.getD (bs c s) [] = s then some (bs c s) else none := by
    split
    · rename_i h
      obtain ⟨h1,h2⟩ := h
      rw [List.findIdx?_eq_some_iff_getElem]
      rw [getD_lt h1] at h2
      refine ⟨h1,pb_true h2,fun j hj => ?_⟩
      rw [pb_iff]
      intro he
      have := (bs_lt (s := s) hc (show j < c.length by omega)).1 hj
      rw [he,cmpS_zero.2 rfl] at this
      omega
    · rename_i h
      rw [List.findIdx?_eq_none_iff]
      intro x hx
      rw [pb_not]
      rintro rfl
      obtain ⟨j,hj,rfl⟩ := List.mem_iff_getElem.1 hx
      have h0 : ¬ j < bs c c[j] := fun hlt => by
        have := (bs_lt hc hj).1 hlt
        rw [cmpS_zero.2 rfl] at this; omega
      by_cases hjb : bs c c[j] = j
      · exact h ⟨by omega,by rw [hjb,getD_lt hj]⟩
      · have hb : bs c c[j] < c.length := by omega
        have := (bs_lt (s := c[j]) hc hb).2 (hc _ _ hj (by omega))
        omega
  unfold findI idxf
  rw [e]
  split <;> rfl

theorem BinarySearch_ret (c : List Sim) (s : Sim) (hc : Sm yK c) (hs : Srt c) : Ret E n_Z68 [dLL c,dL s,⟨.fn n_Z19 .nil,()⟩] ⟨o_Z68,((bs c s : Int),pb (bs c s < c.length ∧ c.getD (bs c s) [] = s),())⟩ := by
  have hc1 : c.length ≤ 1048576 := hc.1
  refine ret_of ?_
  simp only [run_Z68,Z69.ev]
  refine Ev.start (p := fun φ n => Z69.l0 (mkR (run E (φ 0))) (φ 0) n c s (c.length : Int) 0 (c.length : Int) = _) 1 ?_ (fun _ _ _ h => h)
  refine loopR 1 (σ := Nat × Nat) (L := fun φ n st => Z69.l0 (mkR (run E (φ 0))) (φ 0) n c s (c.length : Int) (st.1 : Int) (st.2 : Int)) (fun _ _ _ _ => rfl) (fun st => st.1 ≤ bs c s ∧ bs c s ≤ st.2 ∧ st.2 ≤ c.length) (fun _ => _) (fun st => st.2 - st.1) (fun st hi ih => ?_) (0,c.length) ⟨Nat.zero_le _,bs_le,Nat.le_refl _⟩
  obtain ⟨i,j⟩ := st
  obtain ⟨h1,h2,h3⟩ := hi
  simp only at h1 h2 h3 ih
  simp only [Z69.l0_succ _ mk_ok]
  rw [half (by omega)]
  refine ev_d (fun hij => ?_) fun hij => ?_
  · have hh : (i + j) / 2 < c.length := by omega
    refine ev_chk (by decide) (ev_bind (idx_lt hh) (ev_call (compareSimplices_ret _ _ (sm_get hc hh)) (ev_d (fun hlt => ?_) fun hlt => ?_)))
    · rw [w64_succ (by omega)]
      have := (bs_lt hs hh).2 hlt
      exact ih ((i + j) / 2 + 1,j) ⟨this,h2,h3⟩ (by simp only; omega)
    · have : ¬ (i + j) / 2 < bs c s := fun h => hlt ((bs_lt hs hh).1 h)
      exact ih (i,(i + j) / 2) ⟨h1,by simp only; omega,by simp only; omega⟩ (by simp only; omega)
  · have e : i = bs c s := by omega
    subst e
    refine ev_d (fun hl => ?_) fun hl => ev_some ?_
    · have hh : bs c s < c.length := by omega
      refine ev_bind (idx_lt hh) (ev_call (compareSimplices_ret _ _ (sm_get hc hh)) (ev_some ?_))
      have : (cmpS c[bs c s] s == 0) = pb (bs c s < c.length ∧ c.getD (bs c s) [] = s) := eq_pb (by
        rw [getD_lt hh,beq_iff_eq,cmpS_zero]; exact ⟨fun h => ⟨hh,h⟩,fun h => h.2⟩)
      rw [this]
    · rw [pb_false fun h => hl (by omega)]

theorem indexOf_ret (c : List Sim) (s : Sim) (hc : Sm yK c) (hs : Srt c) : Ret E n_Z32 [dLL c,dL s] ⟨o_Z32,(findI c s,())⟩ := by
  refine ret_of ?_
  simp only [run_Z32,Z32.ev]
  refine ev_call (BinarySearch_ret c s hc hs) (ev_b (fun h => ev_some ?_) fun h => ev_some ?_)
  · rw [bs_find hs,dif_neg (pb_not.1 (by simpa using h))]
  · rw [bs_find hs,dif_pos (pb_iff.1 (by simpa using h))]

end VeT

open Go Go.Proofs Ve
set_option linter.unusedVariables false
set_option linter.unusedSimpArgs false
namespace VeT

/-- valid complexes -/
def VC (c : List Sim) : Prop := c.length ≤ 48 ∧ (∀ k,k < c.length → Vx (c.getD k [])) ∧ (∀ k,1 ≤ k → k < c.length → cmpS (c.getD (k - 1) []) (c.getD k []) < 0) ∧ ∀ k,k < c.length → ∀ f ∈ faces (c.getD k []),f ∈ c

theorem VC.srt {c : List Sim} (h : VC c) : Srt c := srt_of h.2.2.1

def VCimpl (c : List Sim) (k : Nat) : Prop := (Vx (c.getD k []) ∧ (1 ≤ k → cmpS (c.getD (k - 1) []) (c.getD k []) < 0)) ∧ ∀ f ∈ faces (c.getD k []),f ∈ c.take k

theorem VC_impl {c : List Sim} : ((∀ k,0 ≤ k → k < c.length → VCimpl c k) ∧ c.length ≤ 48) ↔ VC c := by
  constructor
  · rintro ⟨h,hl⟩
    exact ⟨hl,fun k hk => (h k (by omega) hk).1.1,fun k h1 hk => (h k (by omega) hk).1.2 h1,fun k hk f hf => List.mem_of_mem_take ((h k (by omega) hk).2 f hf)⟩
  · intro h
    have hs := h.srt
    obtain ⟨hl,h1,h2,h3⟩ := h
    refine ⟨fun k _ hk => ⟨⟨h1 k hk,fun hk1 => h2 k hk1 hk⟩,fun f hf => ?_⟩,hl⟩
    have hm := h3 k hk f hf
    have hlen := faces_len hf
    rw [getD_lt hk] at hlen
    obtain ⟨i,hi,rfl⟩ := List.mem_iff_getElem.1 hm
    have hlt : cmpS c[i] c[k] < 0 := cmpS_lt.2 (.inl (by omega))
    have hik : i < k := Classical.byContradiction fun hn => by
      by_cases e : i = k
      · subst e; omega
      · have := hs k i hi (by omega)
        rw [cmpS_neg] at this; omega
    exact List.mem_iff_getElem.2 ⟨i,by rw [List.length_take]; omega,by rw [List.getElem_take]⟩

theorem sm_take {t : Ty} {s : List t.T} (h : Sm (.sl t) s) (k : Nat) : Sm (.sl t) (s.take k) := ⟨by have h1 : s.length ≤ 1048576 := h.1; show (s.take k).length ≤ _; rw [List.length_take]; omega,fun x hx => h.2 x (List.mem_of_mem_take hx)⟩

theorem ValidComplex_1_ret (c : List Sim) (f : Sim) (k : Nat) (hk : k ≤ c.length) (hc : Sm yK c) (hs : Srt (c.take k)) :
    Ret E n_Z9 [dL f,dC (c,()),⟨.ptr (.cons yI .nil),((k : Int),())⟩] ⟨o_Z9,(pb (¬ f ∈ c.take k),())⟩ := by
  refine ret_of ?_
  simp only [run_Z9,Z9.ev]
  simp only [Int.toNat_natCast]
  refine ev_chk (by simp; omega) (ev_call (indexOf_ret _ f (sm_take hc k) hs) (ev_some ?_))
  simp only [pb_dec,pb_congr (show findI (c.take k) f < 0 ↔ ¬ f ∈ c.take k by rw [← findI_nonneg]; omega)]

theorem ValidComplex_ret (c : List Sim) (hc : Sm yK c) : Ret E n_Z8 [dLL c] ⟨o_Z8,(pb (VC c),())⟩ := by
  have hc1 : c.length ≤ 1048576 := hc.1
  refine ret_of ?_
  simp only [run_Z8,Z8.ev]
  refine Ev.start (p := fun φ n => Z8.l0 (mkR (run E (φ 0))) (φ 0) n c (c.length : Int) 0 c = _) 1 ?_ (fun _ _ _ h => h)
  have key : ∀ (n : Nat) (k : Nat) (hk : k < c.length) (hpre : ∀ j,0 ≤ j → j < k → VCimpl c j),Srt (c.take k) := fun n k hk hpre => srt_of fun j h1 h2 => by
    rw [List.length_take] at h2
    have := (hpre j (by omega) (by omega)).1.2 h1
    rw [getD_lt (by omega),getD_lt (by omega)] at this
    rw [getD_lt (by rw [List.length_take]; omega),getD_lt (by rw [List.length_take]; omega),List.getElem_take,List.getElem_take]
    exact this
  have hcon : ∀ (k : Nat) (hk : k < c.length) (hpre : ∀ j,0 ≤ j → j < k → VCimpl c j),Ret E n_Z73 [dLL (faces c[k]),⟨.fn n_Z9 (.cons (.ptr (.cons yK .nil)) (.cons (.ptr (.cons yI .nil)) .nil)),((c,()),((k : Int),()),())⟩] ⟨o_Z73,(pb (∃ x ∈ faces c[k],pb (¬ x ∈ c.take k) = true),())⟩ := fun k hk hpre =>
    ContainsFunc_SSint64_Sint64_impl_ValidComplex_1_ret (faces c[k]) ((c,()),((k : Int),()),()) _ (Nat.le_trans faces_length (sm_get hc hk).1) fun x hx => ValidComplex_1_ret c x k (by omega) hc (key 0 k hk hpre)
  refine (all_pb 1 (L := fun φ n k => Z8.l0 (mkR (run E (φ 0))) (φ 0) n c (c.length : Int) k c) (len := c.length) 0 (by omega) (VCimpl c) (fun b => some ⟨o_Z8,(b && decide ((c.length : Int) ≤ 48),())⟩) (fun _ _ _ _ => rfl) (fun k h1 h2 hP hpre => ?_) (fun k r h1 h2 hP hpre ih => ?_) (fun _ => ?_)).to ?_
  · simp only [Z8.l0_succ _ mk_ok]
    refine ev_t (decide_eq_true (by omega)) (ev_bind (idx_lt h2) (ev_call (ValidSimplex_ret _ (sm_get hc h2)) ?_))
    refine ev_b (fun hv => ?_) fun hv => ?_
    · simp only [Z8.j1_eq _ mk_ok,cond_true]; (first | exact ev_rfl | exact Ev.of fun _ => trivial)
    · have hv : Vx c[k] := pb_iff.1 (by simpa using hv)
      have last : (1 ≤ k → cmpS (c.getD (k - 1) []) (c.getD k []) < 0) → Ev fun φ => Z8.j1 (mkR (run E (φ 0))) (φ 0) (φ 1) c[k] c (c.length : Int) (k : Int) false c (k : Int) = some ⟨o_Z8,(false,())⟩ := fun hcm => by
        simp only [Z8.j1_eq _ mk_ok,cond_false]
        refine ev_call (facesOf_ret _ (sm_get hc h2).1) (ev_call (hcon k h2 hpre) (ev_t ?_ ev_rfl))
        refine pb_true (Classical.byContradiction fun hn => hP ⟨⟨by rw [getD_lt h2]; exact hv,hcm⟩,fun f hf => Classical.byContradiction fun hnf => hn ⟨f,by rw [getD_lt h2] at hf; exact hf,pb_true hnf⟩⟩)
      refine ev_d (fun hk => ?_) fun hk => ?_
      · rw [w64_small (by omega) (by omega),show ((k : Int) - 1) = ((k - 1 : Nat) : Int) by omega]
        have hk1 : k - 1 < c.length := by omega
        refine ev_bind (idx_lt hk1) (ev_call (compareSimplices_ret _ _ (sm_get hc hk1)) ?_)
        by_cases hcm : cmpS c[k - 1] c[k] < 0
        · simp only [show decide (cmpS c[k - 1] c[k] ≥ 0) = false from decide_eq_false (by omega)]
          exact last fun _ => by rw [getD_lt hk1,getD_lt h2]; exact hcm
        · simp only [show decide (cmpS c[k - 1] c[k] ≥ 0) = true from decide_eq_true (by omega),Z8.j1_eq _ mk_ok,cond_true]
          (first | exact ev_rfl | exact Ev.of fun _ => trivial)
      · exact last fun h => absurd h (by omega)
  · simp only [Z8.l0_succ _ mk_ok]
    have hP' := hP
    obtain ⟨⟨hv,hcm⟩,hfc⟩ := hP'
    rw [getD_lt h2] at hv hfc
    refine ev_t (decide_eq_true (by omega)) (ev_bind (idx_lt h2) (ev_call (ValidSimplex_ret _ (sm_get hc h2)) (ev_f (by rw [pb_true hv]; rfl) ?_)))
    have last : Ev fun φ => Z8.j1 (mkR (run E (φ 0))) (φ 0) (φ 1) c[k] c (c.length : Int) (k : Int) false c (k : Int) = r := by
      simp only [Z8.j1_eq _ mk_ok,cond_false]
      refine ev_call (facesOf_ret _ (sm_get hc h2).1) (ev_call (hcon k h2 hpre) (ev_f ?_ ?_))
      · exact pb_false fun ⟨x,hx,hn⟩ => pb_iff.1 hn (hfc x hx)
      · rw [w64_succ (by omega)]; exact ih
    refine ev_d (fun hk => ?_) fun hk => last
    rw [w64_small (by omega) (by omega),show ((k : Int) - 1) = ((k - 1 : Nat) : Int) by omega]
    have hk1 : k - 1 < c.length := by omega
    have hcm := hcm (by omega)
    rw [getD_lt hk1,getD_lt h2] at hcm
    refine ev_bind (idx_lt hk1) (ev_call (compareSimplices_ret _ _ (sm_get hc hk1)) ?_)
    simp only [show decide (cmpS c[k - 1] c[k] ≥ 0) = false from decide_eq_false (by omega)]
    exact last
  · simp only [Z8.l0_succ _ mk_ok]
    exact ev_f (decide_eq_false (by omega)) (ev_some (by rw [Bool.true_and]))
  · have : (pb (∀ j,0 ≤ j → j < c.length → VCimpl c j) && decide ((c.length : Int) ≤ 48)) = pb (VC c) := eq_pb (by
      rw [Bool.and_eq_true,pb_iff,decide_eq_true_iff,← VC_impl]
      exact ⟨fun h => ⟨h.1,by omega⟩,fun h => ⟨h.1,by omega⟩⟩)
    rw [this]

def VCspec (c : List Sim) (k : Nat) : Prop := (Vx (c.getD k []) ∧ (1 ≤ k → cmpS (c.getD (k - 1) []) (c.getD k []) < 0)) ∧ ∀ f ∈ faces (c.getD k []),f ∈ c

theorem l05Ok_ret (c : Cpx) (hc : Sm yK c.1) : Ret E n_Z109 [dC c] ⟨o_Z109,(pb (VC c.1),())⟩ := by
  have hc1 : c.1.length ≤ 1048576 := hc.1
  refine ret_of ?_
  simp only [run_Z109,Z109.ev]
  refine ev_d (fun h => ev_some ?_) fun h48 => ?_
  · rw [pb_false fun hv => by have := hv.1; omega]
  refine Ev.start (p := fun φ n => Z109.l0 (mkR (run E (φ 0))) (φ 0) n c 0 = _) 1 ?_ (fun _ _ _ h => h)
  -- the inner loop
  have inner : ∀ (k : Nat) (h2 : k < c.1.length) (r : Option Dv),((∀ f ∈ faces c.1[k],f ∈ c.1) → Ev fun φ => Z109.l0 (mkR (run E (φ 0))) (φ 0) (φ 1) c ((k + 1 : Nat) : Int) = r) → (¬ (∀ f ∈ faces c.1[k],f ∈ c.1) → r = some ⟨o_Z109,(false,())⟩) → Ev fun φ => Z109.l2 (mkR (run E (φ 0))) (φ 0) (φ 1) (φ 0) c (k : Int) c.1[k] 0 = r := fun k h2 r hgo hstop => by
    have hks : (c.1[k]).length ≤ 1048576 := (sm_get hc h2).1
    refine Ev.start (p := fun φ n => Z109.l2 (mkR (run E (φ 0))) (φ 0) (φ 1) n c (k : Int) c.1[k] 0 = _) 2 ?_ (fun _ _ _ h => h)
    by_cases hlen : 1 < (c.1[k]).length
    · obtain ⟨t,f⟩ := all_loop 2 (L := fun φ n i => Z109.l2 (mkR (run E (φ 0))) (φ 0) (φ 1) n c (k : Int) c.1[k] i) (len := (c.1[k]).length) 0 (by omega) (fun i => (c.1[k]).eraseIdx i ∈ c.1) (rt := r) (rf := some ⟨o_Z109,(false,())⟩) (fun _ _ _ _ => rfl) (fun i _ hi hP _ => by
        simp only [Z109.l2_succ _ mk_ok]
        refine ev_t (decide_eq_true (by omega)) ?_
        simp only [show decide (((c.1[k]).length : Int) > 1) = true from decide_eq_true (by omega),Z109.j3_eq _ mk_ok,cond_true]
        refine ev_call (l05Drop_ret _ i hi hks) (ev_call (l05Find_ret c _ hc) (ev_t (decide_eq_true ?_) ev_rfl))
        have hq := mt (findI_nonneg (c := c.1) (s := (c.1[k]).eraseIdx i)).1 hP; simp only; exact Int.not_le.1 hq) (fun i q _ hi hP _ ih => by
        simp only [Z109.l2_succ _ mk_ok]
        refine ev_t (decide_eq_true (by omega)) ?_
        simp only [show decide (((c.1[k]).length : Int) > 1) = true from decide_eq_true (by omega),Z109.j3_eq _ mk_ok,cond_true]
        refine ev_call (l05Drop_ret _ i hi hks) (ev_call (l05Find_ret c _ hc) (ev_f (decide_eq_false ?_) ?_))
        · have hq := (findI_nonneg (c := c.1) (s := (c.1[k]).eraseIdx i)).2 hP; simp only; exact Int.not_lt.2 hq
        · rw [w64_succ (by omega)]; exact ih) (fun hall => by
        simp only [Z109.l2_succ _ mk_ok]
        refine ev_f (decide_eq_false (by omega)) ?_
        simp only [Z109.j3_eq _ mk_ok,cond_false]
        rw [w64_succ (by omega)]
        exact hgo fun f hf => by
          obtain ⟨_,i,hi,rfl⟩ := faces_mem.1 hf
          exact hall i (by omega) hi)
      by_cases hall : ∀ i,0 ≤ i → i < (c.1[k]).length → (c.1[k]).eraseIdx i ∈ c.1
      · exact t hall
      · rw [hstop fun hf => hall fun i _ hi => hf _ (faces_mem.2 ⟨hlen,i,hi,rfl⟩)]
        exact f hall
    · refine Ev.round 2 (L := fun φ n => Z109.l2 (mkR (run E (φ 0))) (φ 0) (φ 1) n c (k : Int) c.1[k] 0) ?_ (fun _ _ _ => rfl)
      have hgo := hgo fun f hf => absurd (faces_mem.1 hf).1 hlen
      have hj : Ev fun φ => Z109.j3 (mkR (run E (φ 0))) (φ 0) (φ 1) (φ 2) c (k : Int) c.1[k] 0 false = r := by
        simp only [Z109.j3_eq _ mk_ok,cond_false]
        rw [w64_succ (by omega)]; exact hgo
      simp only [Z109.l2_succ _ mk_ok]
      refine ev_d (fun _ => ?_) fun _ => hj
      simp only [show decide (((c.1[k]).length : Int) > 1) = false from decide_eq_false (by omega)]
      exact hj
  refine (all_pb 1 (L := fun φ n k => Z109.l0 (mkR (run E (φ 0))) (φ 0) n c k) (len := c.1.length) 0 (by omega) (VCspec c.1) (fun b => some ⟨o_Z109,(b,())⟩) (fun _ _ _ _ => rfl) (fun k h1 h2 hP hpre => ?_) (fun k r h1 h2 hP hpre ih => ?_) (fun _ => ?_)).to ?_
  · simp only [Z109.l0_succ _ mk_ok]
    refine ev_t (decide_eq_true (by omega)) (ev_bind (idx_lt h2) (ev_call (l05Simplex_ret _ (sm_get hc h2)) ?_))
    refine ev_b (fun hv => ?_) fun hv => ?_
    · simp only [Z109.j1_eq _ mk_ok,cond_true]; (first | exact ev_rfl | exact Ev.of fun _ => trivial)
    · have hv : Vx c.1[k] := pb_iff.1 (by simpa using hv)
      have last : (1 ≤ k → cmpS (c.1.getD (k - 1) []) (c.1.getD k []) < 0) → Ev fun φ => Z109.j1 (mkR (run E (φ 0))) (φ 0) (φ 1) c (k : Int) c.1[k] false = some ⟨o_Z109,(false,())⟩ := fun hcm => by
        simp only [Z109.j1_eq _ mk_ok,cond_false]
        refine inner k h2 _ (fun hf => absurd ⟨⟨by rw [getD_lt h2]; exact hv,hcm⟩,by rw [getD_lt h2]; exact hf⟩ hP) fun _ => rfl
      refine ev_d (fun hk => ?_) fun hk => ?_
      · rw [w64_small (by omega) (by omega),show ((k : Int) - 1) = ((k - 1 : Nat) : Int) by omega]
        have hk1 : k - 1 < c.1.length := by omega
        refine ev_bind (idx_lt hk1) (ev_call (l05Before_ret _ _ (sm_get hc hk1)) ?_)
        by_cases hcm : cmpS c.1[k - 1] c.1[k] < 0
        · simp only [pb_true hcm]
          exact last fun _ => by rw [getD_lt hk1,getD_lt h2]; exact hcm
        · simp only [pb_false hcm,Z109.j1_eq _ mk_ok,cond_true,Bool.not_false]
          (first | exact ev_rfl | exact Ev.of fun _ => trivial)
      · exact last fun h => absurd h (by omega)
  · simp only [Z109.l0_succ _ mk_ok]
    obtain ⟨⟨hv,hcm⟩,hfc⟩ := hP
    rw [getD_lt h2] at hv hfc
    refine ev_t (decide_eq_true (by omega)) (ev_bind (idx_lt h2) (ev_call (l05Simplex_ret _ (sm_get hc h2)) (ev_f (by rw [pb_true hv]; rfl) ?_)))
    have last : Ev fun φ => Z109.j1 (mkR (run E (φ 0))) (φ 0) (φ 1) c (k : Int) c.1[k] false = r := by
      simp only [Z109.j1_eq _ mk_ok,cond_false]
      exact inner k h2 _ (fun _ => ih) fun hn => absurd hfc hn
    refine ev_d (fun hk => ?_) fun hk => last
    rw [w64_small (by omega) (by omega),show ((k : Int) - 1) = ((k - 1 : Nat) : Int) by omega]
    have hk1 : k - 1 < c.1.length := by omega
    have hcm := hcm (by omega)
    rw [getD_lt hk1,getD_lt h2] at hcm
    refine ev_bind (idx_lt hk1) (ev_call (l05Before_ret _ _ (sm_get hc hk1)) ?_)
    simp only [pb_true hcm,Bool.not_true]
    exact last
  · simp only [Z109.l0_succ _ mk_ok]
    exact ev_f (decide_eq_false (by omega)) ev_rfl
  · have : pb (∀ j,0 ≤ j → j < c.1.length → VCspec c.1 j) = pb (VC c.1) := pb_congr
      ⟨fun h => ⟨by omega,fun k hk => (h k (by omega) hk).1.1,fun k h1 hk => (h k (by omega) hk).1.2 h1,fun k hk => (h k (by omega) hk).2⟩,
       fun h k _ hk => ⟨⟨h.2.1 k hk,fun h1 => h.2.2.1 k h1 hk⟩,h.2.2.2 k hk⟩⟩
    rw [this]

end VeT

open Go Go.Proofs Ve
set_option linter.unusedVariables false
set_option linter.unusedSimpArgs false
namespace VeT

/-- primes up to 251 -/
def Pr (p : Int) : Prop := 2 ≤ p ∧ p ≤ 251 ∧ ∀ k : Nat,2 ≤ k → (k : Int) * k ≤ p → p % k ≠ 0

theorem ValidPrime_ret (p : Int) : Ret E n_Z10 [dI p] ⟨o_Z10,(pb (Pr p),())⟩ := by
  refine ret_of ?_
  simp only [run_Z10,Z10.ev]
  refine ev_call (within_ret _ _ _) (ev_b (fun h => ev_some ?_) fun h => ?_)
  · have h : ¬ (2 ≤ p ∧ p ≤ 251) := pb_not.1 (by simpa using h)
    rw [pb_false fun hp => h ⟨hp.1,hp.2.1⟩]
  have hr : 2 ≤ p ∧ p ≤ 251 := pb_iff.1 (by simpa using h)
  refine Ev.start (p := fun φ n => Z10.l0 (mkR (run E (φ 0))) (φ 0) n p 2 = _) 1 ?_ (fun _ _ _ h => h)
  refine loopR 1 (σ := Nat) (L := fun φ n k => Z10.l0 (mkR (run E (φ 0))) (φ 0) n p (k : Int)) (fun _ _ _ _ => rfl) (fun k => 2 ≤ k ∧ k ≤ 17 ∧ ∀ j : Nat,2 ≤ j → j < k → (j : Int) * j ≤ p → p % j ≠ 0) (fun _ => _) (fun k => 17 - k) (fun k ⟨h1,h2,h3⟩ ih => ?_) 2 ⟨by omega,by omega,fun j _ _ => by omega⟩
  simp only [Z10.l0_succ _ mk_ok]
  have hkk : 0 ≤ (k : Int) * k ∧ (k : Int) * k ≤ 289 := ⟨Int.mul_nonneg (by omega) (by omega),by have := Nat.mul_le_mul h2 h2; omega⟩
  have e : w64 ((k : Int) * k) = (k : Int) * k := w64_small (by omega) (by omega)
  simp only [e]
  refine ev_d (fun hle => ?_) fun hle => ev_some ?_
  · have hk16 : k < 16 := Classical.byContradiction fun hn => by
      have := Nat.mul_le_mul (show 16 ≤ k by omega) (show 16 ≤ k by omega); omega
    refine ev_chk (by simp; omega) ?_
    rw [Int.tmod_eq_emod_of_nonneg (by omega)]
    refine ev_b (fun h0 => ev_some ?_) fun h0 => ?_
    · rw [pb_false fun hp => hp.2.2 k h1 hle (by simpa using h0)]
    · rw [w64_succ (by omega)]
      refine ih (k + 1) ⟨by omega,by omega,fun j hj1 hj2 hj3 => ?_⟩ (by show 17 - (k + 1) < 17 - k; omega)
      by_cases hjk : j = k
      · subst hjk; simpa using h0
      · exact h3 j hj1 (by omega) hj3
  · rw [pb_true]
    refine ⟨hr.1,hr.2,fun j hj1 hj2 => ?_⟩
    by_cases hjk : j < k
    · exact h3 j hj1 hjk hj2
    · exfalso
      have := Nat.mul_le_mul (show k ≤ j by omega) (show k ≤ j by omega); omega

theorem l02Prime_ret (p : Int) : Ret E n_Z95 [dI p] ⟨o_Z95,(pb (Pr p),())⟩ := by
  refine ret_of ?_
  simp only [run_Z95,Z95.ev]
  refine ev_call (l00In_ret _ _ _) (ev_b (fun h => ev_some ?_) fun h => ?_)
  · have h : ¬ (2 ≤ p ∧ p ≤ 251) := pb_not.1 (by simpa using h)
    rw [pb_false fun hp => h ⟨hp.1,hp.2.1⟩]
  have hr : 2 ≤ p ∧ p ≤ 251 := pb_iff.1 (by simpa using h)
  refine Ev.start (p := fun φ n => Z95.l0 (mkR (run E (φ 0))) (φ 0) n p 2 = _) 1 ?_ (fun _ _ _ h => h)
  refine loopR 1 (σ := Nat) (L := fun φ n k => Z95.l0 (mkR (run E (φ 0))) (φ 0) n p (k : Int)) (fun _ _ _ _ => rfl) (fun k => 2 ≤ k ∧ k ≤ 17 ∧ ∀ j : Nat,2 ≤ j → j < k → (j : Int) * j ≤ p → p % j ≠ 0) (fun _ => _) (fun k => 17 - k) (fun k ⟨h1,h2,h3⟩ ih => ?_) 2 ⟨by omega,by omega,fun j _ _ => by omega⟩
  simp only [Z95.l0_succ _ mk_ok]
  have hkk : 0 ≤ (k : Int) * k ∧ (k : Int) * k ≤ 289 := ⟨Int.mul_nonneg (by omega) (by omega),by have := Nat.mul_le_mul h2 h2; omega⟩
  have e : w64 ((k : Int) * k) = (k : Int) * k := w64_small (by omega) (by omega)
  simp only [e]
  refine ev_d (fun hle => ?_) fun hle => ev_some ?_
  · have hk16 : k < 16 := Classical.byContradiction fun hn => by
      have := Nat.mul_le_mul (show 16 ≤ k by omega) (show 16 ≤ k by omega); omega
    refine ev_chk (by simp; omega) ?_
    rw [Int.tmod_eq_emod_of_nonneg (by omega)]
    refine ev_b (fun h0 => ev_some ?_) fun h0 => ?_
    · rw [pb_false fun hp => hp.2.2 k h1 hle (by simpa using h0)]
    · rw [w64_succ (by omega)]
      refine ih (k + 1) ⟨by omega,by omega,fun j hj1 hj2 hj3 => ?_⟩ (by show 17 - (k + 1) < 17 - k; omega)
      by_cases hjk : j = k
      · subst hjk; simpa using h0
      · exact h3 j hj1 (by omega) hj3
  · rw [pb_true]
    refine ⟨hr.1,hr.2,fun j hj1 hj2 => ?_⟩
    by_cases hjk : j < k
    · exact h3 j hj1 hjk hj2
    · exfalso
      have := Nat.mul_le_mul (show k ≤ j by omega) (show k ≤ j by omega); omega

theorem specValidPrime_ret (p : Int) : Ret E n_Z89 [dI p] ⟨o_Z89,(pb (Pr p),())⟩ := by
  refine ret_of ?_
  simp only [run_Z89,Z89.ev]
  exact ev_call (l02Prime_ret p) ev_rfl

/-! matrices -/
def Elems (v : Sim) (p : Int) : Prop := ∀ x ∈ v,0 ≤ x ∧ x ≤ p - 1

theorem none_bad {α : Type} {s : List α} {P : α → Prop} : (!pb (∃ x ∈ s,(!pb (P x)) = true)) = pb (∀ x ∈ s,P x) := eq_pb (by
  simp only [Bool.not_eq_true',pb_not]
  exact ⟨fun h x hx => Classical.byContradiction fun hn => h ⟨x,hx,hn⟩,fun h ⟨x,hx,hn⟩ => hn (h x hx)⟩)

theorem sizeI_ret (s : Sim) : Ret E n_Z46 [dL s] ⟨o_Z46,((s.length : Int),())⟩ := by
  refine ret_of ?_
  simp only [run_Z46,Z46.ev]
  (first | exact ev_rfl | exact Ev.of fun _ => trivial)

/-- valid matrices -/
def VM (m : Mat) : Prop := Pr m.1 ∧ (0 ≤ m.2.1 ∧ m.2.1 ≤ 32) ∧ (0 ≤ m.2.2.1 ∧ m.2.2.1 ≤ 32) ∧ (m.2.2.2.1.length : Int) = m.2.1 * m.2.2.1 ∧ Elems m.2.2.2.1 m.1

def Bt (m : Mat) (p f t : Int) : Prop := VM m ∧ m.1 = p ∧ m.2.1 = t ∧ m.2.2.1 = f

/-! stalks -/
def ofDim (c : List Sim) (d : Int) (k : Nat) : List Int := ((List.range k).filter fun i => decide (((c.getD i []).length : Int) = d + 1)).map Int.ofNat

theorem ofDim_succ (c : List Sim) (d : Int) (k : Nat) : ofDim c d (k + 1) = ofDim c d k ++ if ((c.getD k []).length : Int) = d + 1 then [(k : Int)] else [] := by
  unfold ofDim
  rw [List.range_succ,List.filter_append,List.map_append]
  congr 1
  by_cases h : ((c.getD k []).length : Int) = d + 1
  · rw [if_pos h,List.filter_cons_of_pos (by simpa using h)]; rfl
  · rw [if_neg h,List.filter_cons_of_neg (by simpa using h)]; rfl

theorem ofDim_length (c : List Sim) (d : Int) (k : Nat) : (ofDim c d k).length ≤ k := by
  unfold ofDim
  rw [List.length_map]
  exact Nat.le_trans (List.length_filter_le _ _) (by simp)

theorem ofDim_mem {c : List Sim} {d : Int} {k : Nat} {x : Int} (h : x ∈ ofDim c d k) : ∃ i : Nat,x = i ∧ i < k := by
  unfold ofDim at h
  rw [List.mem_map] at h
  obtain ⟨i,hi,rfl⟩ := h
  exact ⟨i,rfl,by have := (List.mem_filter.1 hi).1; simpa using this⟩

theorem simplicesOf_ret (c : List Sim) (d : Int) (hc : Sm yK c) (hd : -1 ≤ d ∧ d ≤ 1048576) : Ret E n_Z45 [dLL c,dI d] ⟨o_Z45,(ofDim c d c.length,())⟩ := by
  have hc1 : c.length ≤ 1048576 := hc.1
  have hd1 : w64 (d + 1) = d + 1 := w64_small (by omega) (by omega)
  refine ret_of ?_
  simp only [run_Z45,Z45.ev]
  refine Ev.start (p := fun φ n => Z45.l0 (mkR (run E (φ 0))) (φ 0) n d c (c.length : Int) 0 [] = _) 1 ?_ (fun _ _ _ h => h)
  refine fold_loop 1 (L := fun φ n k a => Z45.l0 (mkR (run E (φ 0))) (φ 0) n d c (c.length : Int) k a) (len := c.length) (fun k => ofDim c d k) (fun _ _ _ _ _ => rfl) (fun k r hk ih => ?_) ?_
  · simp only [Z45.l0_succ _ mk_ok,hd1]
    rw [ofDim_succ,getD_lt hk] at ih
    have hlen := ofDim_length c d k
    refine ev_t (decide_eq_true (by omega)) (ev_bind (idx_lt hk) (ev_call (sizeI_ret _) ?_))
    rw [w64_succ (by omega)]
    refine ev_b (fun he => ev_chk (decide_eq_true (by simp only [List.length_cons,List.length_nil]; omega)) ?_) fun he => ?_
    · rw [if_pos (by simpa using he)] at ih; exact ih
    · rw [if_neg (by simpa using he),List.append_nil] at ih; exact ih
  · simp only [Z45.l0_succ _ mk_ok]
    exact ev_f (decide_eq_false (by omega)) ev_rfl

theorem l05Of_ret (c : List Sim) (d : Int) (hc : Sm yK c) (hd : -1 ≤ d ∧ d ≤ 1048576) : Ret E n_Z108 [dC (c,()),dI d] ⟨o_Z108,(ofDim c d c.length,())⟩ := by
  have hc1 : c.length ≤ 1048576 := hc.1
  have hd1 : w64 (d + 1) = d + 1 := w64_small (by omega) (by omega)
  refine ret_of ?_
  simp only [run_Z108,Z108.ev]
  refine Ev.start (p := fun φ n => Z108.l0 (mkR (run E (φ 0))) (φ 0) n (c,()) d 0 [] = _) 1 ?_ (fun _ _ _ h => h)
  refine fold_loop 1 (L := fun φ n k a => Z108.l0 (mkR (run E (φ 0))) (φ 0) n (c,()) d k a) (len := c.length) (fun k => ofDim c d k) (fun _ _ _ _ _ => rfl) (fun k r hk ih => ?_) ?_
  · simp only [Z108.l0_succ _ mk_ok,hd1]
    rw [ofDim_succ,getD_lt hk] at ih
    have hlen := ofDim_length c d k
    refine ev_t (decide_eq_true (by omega)) (ev_bind (idx_lt hk) ?_)
    rw [w64_succ (by omega)]
    refine ev_b (fun he => ev_chk (decide_eq_true (by simp only [List.length_cons,List.length_nil]; omega)) ?_) fun he => ?_
    · rw [if_pos (by simpa using he)] at ih; exact ih
    · rw [if_neg (by simpa using he),List.append_nil] at ih; exact ih
  · simp only [Z108.l0_succ _ mk_ok]
    exact ev_f (decide_eq_false (by omega)) ev_rfl

/-- the sum of the stalks of a dimension -/
def sumD (c : List Sim) (st : Sim) (d : Int) (k : Nat) : Int := (((ofDim c d c.length).take k).map fun i => st.getD i.toNat 0).sum

end VeT

open Go Go.Proofs Ve
set_option linter.unusedVariables false
set_option linter.unusedSimpArgs false
namespace VeT

/-- the sum of a dimension's stalks -/
def SD (c : List Sim) (st : Sim) (d : Int) : Int := sumD c st d (ofDim c d c.length).length

/-- stalks -/
def SK (c : List Sim) (st : Sim) : Prop := st.length = c.length ∧ (∀ x ∈ st,0 ≤ x ∧ x ≤ 3) ∧ ∀ d : Nat,d < 4 → SD c st (d : Int) ≤ 32

/-! faces' indices -/
noncomputable def fIdx (c : List Sim) (k : Nat) : List Int := (faces (c.getD k [])).map (findI c)

theorem findI_lt {c : List Sim} {s : Sim} : findI c s < c.length ∧ -1 ≤ findI c s := by
  unfold findI idxf
  cases h : c.findIdx? (fun x => pb (x = s)) with
  | none => simp only [o2i]; omega
  | some k =>
    rw [List.findIdx?_eq_some_iff_getElem] at h
    obtain ⟨h,_⟩ := h
    simp only [o2i]; omega

theorem fIdx_length {c : List Sim} {k : Nat} : (fIdx c k).length = if 1 < (c.getD k []).length then (c.getD k []).length else 0 := by
  unfold fIdx faces
  rw [List.length_map]
  split <;> simp

theorem fIdx_mem {c : List Sim} (h : VC c) {k : Nat} (hk : k < c.length) {x : Int} (hx : x ∈ fIdx c k) : 0 ≤ x ∧ x < c.length := by
  unfold fIdx at hx
  rw [List.mem_map] at hx
  obtain ⟨f,hf,rfl⟩ := hx
  exact ⟨findI_nonneg.2 (h.2.2.2 k hk f hf),findI_lt.1⟩

theorem faceIndices_ret (c : List Sim) (k : Nat) (hk : k < c.length) (hc : Sm yK c) (hs : Srt c) : Ret E n_Z25 [dLL c,dI (k : Int)] ⟨o_Z25,(fIdx c k,())⟩ := by
  have hks : (c[k]).length ≤ 1048576 := (sm_get hc hk).1
  have hfl := faces_length (s := c[k])
  refine ret_of ?_
  simp only [run_Z25,Z25.ev]
  refine ev_bind (idx_lt hk) (ev_call (facesOf_ret _ hks) ?_)
  refine Ev.start (p := fun φ n => Z25.l0 (mkR (run E (φ 0))) (φ 0) n (faces c[k]) ((faces c[k]).length : Int) 0 c [] = _) 1 ?_ (fun _ _ _ h => h)
  refine fold_loop 1 (L := fun φ n j a => Z25.l0 (mkR (run E (φ 0))) (φ 0) n (faces c[k]) ((faces c[k]).length : Int) j c a) (len := (faces c[k]).length) (fun j => ((faces c[k]).take j).map (findI c)) (fun _ _ _ _ _ => rfl) (fun j r hj ih => ?_) ?_
  · simp only [Z25.l0_succ _ mk_ok]
    rw [List.take_succ_eq_append_getElem hj,List.map_append] at ih
    refine ev_t (decide_eq_true (by omega)) (ev_bind (idx_lt hj) (ev_call (indexOf_ret c _ hc hs) (ev_chk (by simp; omega) ?_)))
    rw [w64_succ (by omega)]; exact ih
  · simp only [Z25.l0_succ _ mk_ok]
    refine ev_f (decide_eq_false (by omega)) (ev_some ?_)
    rw [List.take_of_length_le (Nat.le_refl _),fIdx,getD_lt hk]

theorem l05Faces_ret (c : List Sim) (k : Nat) (hk : k < c.length) (hc : Sm yK c) : Ret E n_Z106 [dC (c,()),dI (k : Int)] ⟨o_Z106,(fIdx c k,())⟩ := by
  have hks : (c[k]).length ≤ 1048576 := (sm_get hc hk).1
  refine ret_of ?_
  simp only [run_Z106,Z106.ev]
  refine ev_bind (idx_lt hk) ?_
  refine Ev.start (p := fun φ n => Z106.l0 (mkR (run E (φ 0))) (φ 0) n (c,()) c[k] 0 [] = _) 1 ?_ (fun _ _ _ h => h)
  by_cases hlen : 1 < (c[k]).length
  · refine fold_loop 1 (L := fun φ n j a => Z106.l0 (mkR (run E (φ 0))) (φ 0) n (c,()) c[k] j a) (len := (c[k]).length) (fun j => (List.range j).map fun i => findI c ((c[k]).eraseIdx i)) (fun _ _ _ _ _ => rfl) (fun j r hj ih => ?_) ?_
    · simp only [Z106.l0_succ _ mk_ok]
      rw [List.range_succ,List.map_append] at ih
      refine ev_t (decide_eq_true (by omega)) ?_
      simp only [show decide (((c[k]).length : Int) > 1) = true from decide_eq_true (by omega),Z106.j1_eq _ mk_ok,cond_true]
      refine ev_call (l05Drop_ret _ j hj hks) (ev_call (l05Find_ret (c,()) _ hc) (ev_chk (by simp; omega) ?_))
      rw [w64_succ (by omega)]; exact ih
    · simp only [Z106.l0_succ _ mk_ok]
      refine ev_f (decide_eq_false (by omega)) ?_
      simp only [Z106.j1_eq _ mk_ok,cond_false]
      refine ev_some ?_
      rw [fIdx,getD_lt hk,faces,if_pos hlen,List.map_map]; rfl
  · refine Ev.round 1 (L := fun φ n => Z106.l0 (mkR (run E (φ 0))) (φ 0) n (c,()) c[k] 0 []) ?_ (fun _ _ _ => rfl)
    have hj : Ev fun φ => Z106.j1 (mkR (run E (φ 0))) (φ 0) (φ 1) (c,()) c[k] 0 false [] = some ⟨o_Z106,(fIdx c k,())⟩ := by
      simp only [Z106.j1_eq _ mk_ok,cond_false]
      refine ev_some ?_
      rw [fIdx,getD_lt hk,faces,if_neg hlen]; rfl
    simp only [Z106.l0_succ _ mk_ok]
    refine ev_d (fun _ => ?_) fun _ => hj
    simp only [show decide (((c[k]).length : Int) > 1) = false from decide_eq_false (by omega)]
    exact hj

/-! arrows -/
abbrev Arw := Int × Int × Int × Unit
noncomputable def rowA (c : List Sim) (k i : Nat) : List Arw := (List.range i).map fun (j : Nat) => ((k : Int),(j : Int),(fIdx c k).getD j 0,())
noncomputable def arrs (c : List Sim) : Nat → List Arw
  | 0 => []
  | k + 1 => arrs c k ++ rowA c k (fIdx c k).length
noncomputable def plc (c : List Sim) (k : Nat) : Nat := (arrs c k).length

theorem rowA_length {c : List Sim} {k i : Nat} : (rowA c k i).length = i := by simp [rowA]

theorem plc_succ {c : List Sim} {k : Nat} : plc c (k + 1) = plc c k + (fIdx c k).length := by
  unfold plc; rw [arrs,List.length_append,rowA_length]

theorem VC.len4 {c : List Sim} (h : VC c) {k : Nat} (hk : k < c.length) : (c.getD k []).length ≤ 4 := (h.2.1 k hk).2.1

theorem VC.fIdx4 {c : List Sim} (h : VC c) {k : Nat} (hk : k < c.length) : (fIdx c k).length ≤ 4 := by
  have := h.len4 hk
  rw [fIdx_length]; split <;> omega

theorem VC.plc {c : List Sim} (h : VC c) : ∀ {k : Nat},k ≤ c.length → plc c k ≤ 4 * k
  | 0,_ => by simp [VeT.plc,arrs]
  | k + 1,hk => by
    have h1 := h.plc (k := k) (by omega)
    have h2 := h.fIdx4 (k := k) (by omega)
    rw [plc_succ]; omega

theorem arrs_get {c : List Sim} : ∀ {n k i : Nat},k < n → i < (fIdx c k).length → (arrs c n)[plc c k + i]? = some ((k : Int),(i : Int),(fIdx c k).getD i 0,())
  | 0,_,_,h,_ => by omega
  | n + 1,k,i,h,hi => by
    rw [arrs]
    by_cases hk : k < n
    · have := arrs_get hk hi
      have hl := (List.getElem?_eq_some_iff.1 this).1
      rw [List.getElem?_append_left hl]; exact this
    · obtain rfl : k = n := by omega
      rw [List.getElem?_append_right (by unfold plc; omega)]
      rw [show plc c k + i - (arrs c k).length = i by unfold plc; omega]
      simp [rowA,hi]

end VeT

open Go Go.Proofs Ve
set_option linter.unusedVariables false
set_option linter.unusedSimpArgs false
namespace VeT

def mz : Mat := (0,0,0,[],())
/-- the map at a face -/
def QB (p : Int) (st : Sim) (ms : List Mat) (t k : Nat) (f : Int) : Prop := Bt (ms.getD t mz) p (st.getD f.toNat 0) (st.getD k 0)

/-- valid sheaves -/
def VS (c : List Sim) (p : Int) (st : Sim) (ms : List Mat) : Prop := VC c ∧ Pr p ∧ SK c st ∧ plc c c.length = ms.length ∧ ∀ k,k < c.length → ∀ i,i < (fIdx c k).length → QB p st ms (plc c k + i) k ((fIdx c k).getD i 0)

end VeT

open Go Go.Proofs Ve
set_option linter.unusedVariables false
set_option linter.unusedSimpArgs false
namespace VeT

theorem isDimension_ret (n : Int) : Ret E n_Z34 [dI n] ⟨o_Z34,(pb (0 ≤ n ∧ n ≤ 3),())⟩ := by
  refine ret_of ?_
  simp only [run_Z34,Z34.ev]
  exact ev_call (within_ret _ _ _) ev_rfl

theorem l05Dimension_ret (n : Int) : Ret E n_Z104 [dI n] ⟨o_Z104,(pb (0 ≤ n ∧ n ≤ 3),())⟩ := by
  refine ret_of ?_
  simp only [run_Z104,Z104.ev]
  exact ev_call (l00In_ret _ _ _) ev_rfl

end VeT

open Go Go.Proofs Ve
set_option linter.unusedVariables false
set_option linter.unusedSimpArgs false
namespace VeT

/-! the program's matrices -/
theorem Mat_at_ret (p r : Int) (C : Nat) (cells : Sim) (i j : Nat) (h : i * C + j < cells.length) (hl : cells.length ≤ 1048576) : Ret E n_Z6 [dI p,dI r,dI (C : Int),dL cells,dI (i : Int),dI (j : Int)] ⟨o_Z6,(cells[i * C + j],())⟩ := by
  refine ret_of ?_
  simp only [run_Z6,Z6.ev]
  rw [cast_mul,w64_small (n := ((i * C : Nat) : Int)) (by omega) (by omega),w64_small (by omega) (by omega),show ((i * C : Nat) : Int) + (j : Int) = ((i * C + j : Nat) : Int) by omega]
  exact ev_bind (idx_lt h) ev_rfl

theorem Mat_row_ret (p r : Int) (C : Nat) (cells : Sim) (i : Nat) (h : (i + 1) * C ≤ cells.length) (hi : i ≤ 1048576) (hl : cells.length ≤ 1048576) : Ret E n_Z7 [dI p,dI r,dI (C : Int),dL cells,dI (i : Int)] ⟨o_Z7,((cells.take ((i + 1) * C)).drop (i * C),())⟩ := by
  refine ret_of ?_
  simp only [run_Z7,Z7.ev]
  have h1 : i * C ≤ (i + 1) * C := Nat.mul_le_mul_right _ (by omega)
  have e1 : w64 ((i : Int) * (C : Int)) = ((i * C : Nat) : Int) := by rw [cast_mul]; exact w64_small (by omega) (by omega)
  have e2 : w64 ((i : Int) + 1) = ((i + 1 : Nat) : Int) := w64_succ (by omega)
  have e3 : w64 (((i + 1 : Nat) : Int) * (C : Int)) = (((i + 1) * C : Nat) : Int) := by rw [cast_mul]; exact w64_small (by omega) (by omega)
  simp only [e1,e2,e3,Int.toNat_natCast]
  exact ev_chk (by simp only [Bool.and_eq_true,decide_eq_true_eq]; omega) ev_rfl

theorem Clone_ret (s : Sim) (hs : s.length ≤ 1048576) : Ret E n_Z70 [dL s] ⟨o_Z70,(s,())⟩ := by
  refine ret_of ?_
  simp only [run_Z70,Z70.ev,Z70.j0_eq _ mk_ok,cond_true,cond_false]
  have h : Ev fun φ => (Option.bind (chk (decide ((List.length ([] : List Int) + List.length s) * 8 ≤ 70368744177664))) fun _ => some (⟨o_Z70,((([] : List Int) ++ s),())⟩ : Dv)) = some ⟨o_Z70,(s,())⟩ :=
    ev_chk (by simp; omega) (ev_some rfl)
  cases s with
  | nil => exact ev_t rfl (ev_both ev_rfl h)
  | cons a s => exact ev_f rfl h

theorem transpose_1_ret (m : Mat) (C : Nat) (i j : Nat) (hC : m.2.2.1 = (C : Int)) (h : j * C + i < m.2.2.2.1.length) (hl : m.2.2.2.1.length ≤ 1048576) : Ret E n_Z49 [dI (i : Int),dI (j : Int),dM m] ⟨o_Z49,(m.2.2.2.1.getD (j * C + i) 0,())⟩ := by
  rw [getD_lt h]
  refine ret_of ?_
  simp only [run_Z49,Z49.ev]
  rw [hC]
  exact ev_call (Mat_at_ret _ _ C _ j i h hl) ev_rfl

theorem rowsOf_ret (p : Int) (R C : Nat) (cells : Sim) (hl : cells.length = R * C) (hR : R ≤ 32) (hC : C ≤ 32) : Ret E n_Z44 [dI p,dI (R : Int),dI (C : Int),dL cells] ⟨o_Z44,((List.range R).map fun i => (cells.take ((i + 1) * C)).drop (i * C),())⟩ := by
  have h1024 := rc_le hR hC
  refine ret_of ?_
  simp only [run_Z44,Z44.ev]
  refine Ev.start (p := fun φ n => Z44.l0 (mkR (run E (φ 0))) (φ 0) n (R : Int) 0 p (R : Int) (C : Int) cells [] = _) 1 ?_ (fun _ _ _ h => h)
  refine fold_loop 1 (L := fun φ n k a => Z44.l0 (mkR (run E (φ 0))) (φ 0) n (R : Int) k p (R : Int) (C : Int) cells a) (len := R) (fun k => (List.range k).map fun i => (cells.take ((i + 1) * C)).drop (i * C)) (fun _ _ _ _ _ => rfl) (fun k r hk ih => ?_) ?_
  · simp only [Z44.l0_succ _ mk_ok]
    have hle : (k + 1) * C ≤ R * C := Nat.mul_le_mul_right _ hk
    rw [List.range_succ,List.map_append] at ih
    refine ev_t (decide_eq_true (by omega)) (ev_call (Mat_row_ret p _ C cells k (by omega) (by omega) (by omega)) (ev_call (Clone_ret _ (by simp; omega)) (ev_chk (by simp; omega) ?_)))
    rw [w64_succ (by omega)]; exact ih
  · simp only [Z44.l0_succ _ mk_ok]
    exact ev_f (decide_eq_false (by omega)) ev_rfl

end VeT

open Go Go.Proofs Ve
set_option linter.unusedVariables false
set_option linter.unusedSimpArgs false
namespace VeT

theorem Elems.mem {v : Sim} {p : Int} (h : Elems v p) (hp : 2 ≤ p ∧ p ≤ 251) : ∀ x ∈ v,0 ≤ x ∧ x ≤ 250 := fun x hx => by
  have := h x hx; omega

def colsL (K C : Nat) (cb : Sim) : List Sim := (List.range C).map fun i => (List.range K).map fun j => cb.getD (j * C + i) 0

theorem transpose_ret (q : Int) (K C : Nat) (cb : Sim) (hl : cb.length = K * C) (hK : K ≤ 32) (hC : C ≤ 32) : Ret E n_Z48 [dI q,dI (K : Int),dI (C : Int),dL cb] ⟨o_Z48,(q,(C : Int),(K : Int),flatF (fun i j => cb.getD (j * C + i) 0) K C,())⟩ := by
  have h1 := rc_le hK hC
  have h2 := rc_le hC hK
  refine ret_of ?_
  simp only [run_Z48,Z48.ev]
  refine ev_call (filled_impl_transpose_1_ret q C K ((q,(K : Int),(C : Int),cb,()),()) (fun i j => cb.getD (j * C + i) 0) (by omega) (by omega) (by omega) fun i j hi hj => ?_) ev_rfl
  exact transpose_1_ret (q,(K : Int),(C : Int),cb,()) C i j rfl (by show _ < cb.length; rw [hl]; exact lt_rc hj hi) (by show cb.length ≤ _; omega)

theorem columnsOf_ret (q : Int) (K C : Nat) (cb : Sim) (hl : cb.length = K * C) (hK : K ≤ 32) (hC : C ≤ 32) : Ret E n_Z18 [dI q,dI (K : Int),dI (C : Int),dL cb] ⟨o_Z18,(colsL K C cb,())⟩ := by
  refine ret_of ?_
  simp only [run_Z18,Z18.ev]
  refine ev_call (transpose_ret q K C cb hl hK hC) (ev_call (rowsOf_ret q C K _ flatF_length hC hK) (ev_some ?_))
  have : ((List.range C).map fun i => ((flatF (fun i j => cb.getD (j * C + i) 0) K C).take ((i + 1) * K)).drop (i * K)) = colsL K C cb :=
    List.map_congr_left fun i hi => flatF_row (List.mem_range.1 hi)
  rw [this]

theorem VM.nat {m : Mat} (h : VM m) : ∃ R K : Nat,m = (m.1,(R : Int),(K : Int),m.2.2.2.1,()) ∧ R ≤ 32 ∧ K ≤ 32 ∧ m.2.2.2.1.length = R * K := by
  obtain ⟨p,r,k,c,⟨⟩⟩ := m
  obtain ⟨_,h2,h3,h4,_⟩ := h
  simp only at h2 h3 h4
  obtain ⟨R,rfl⟩ := Int.eq_ofNat_of_zero_le h2.1
  obtain ⟨K,rfl⟩ := Int.eq_ofNat_of_zero_le h3.1
  refine ⟨R,K,rfl,by omega,by omega,?_⟩
  rw [cast_mul] at h4; simp only; omega

theorem l03Zero_ret (p : Int) (R C : Nat) (hR : R ≤ 32) (hC : C ≤ 32) : Ret E n_Z102 [dI p,dI (R : Int),dI (C : Int)] ⟨o_Z102,(p,(R : Int),(C : Int),List.replicate (R * C) 0,())⟩ := by
  have h1 := rc_le hR hC
  have e1 : w64 ((R : Int) * (C : Int)) = ((R * C : Nat) : Int) := by rw [cast_mul]; exact w64_small (by omega) (by omega)
  refine ret_of ?_
  simp only [run_Z102,Z102.ev,e1,Int.toNat_natCast]
  exact ev_chk (by simp only [Bool.and_eq_true,decide_eq_true_eq]; omega) ev_rfl

end VeT

open Go Go.Proofs Ve
set_option linter.unusedVariables false
set_option linter.unusedSimpArgs false
namespace VeT

/-! the maps of a sheaf -/
noncomputable def mp (c : List Sim) (ms : List Mat) (k i : Nat) : Mat := ms.getD (plc c k + i) mz

noncomputable def fc (c : List Sim) (k i : Nat) : Nat := ((fIdx c k).getD i 0).toNat

theorem findI_get {c : List Sim} {s : Sim} (h : s ∈ c) : c.getD (findI c s).toNat [] = s := by
  have h0 := findI_nonneg.2 h
  unfold findI idxf at h0 ⊢
  cases hf : c.findIdx? (fun x => pb (x = s)) with
  | none => rw [hf] at h0; simp [o2i] at h0
  | some k =>
    rw [List.findIdx?_eq_some_iff_getElem] at hf
    obtain ⟨hk,hp,_⟩ := hf
    simp only [o2i,Int.toNat_natCast]
    rw [getD_lt hk]; exact pb_iff.1 hp

theorem fc_get {c : List Sim} (h : VC c) {k i : Nat} (hk : k < c.length) (hi : i < (fIdx c k).length) : idx? (fIdx c k) (i : Int) = some ((fc c k i : Nat) : Int) ∧ fc c k i < c.length ∧ c.getD (fc c k i) [] = (c.getD k []).eraseIdx i := by
  have hm := fIdx_mem h hk (List.getElem_mem hi)
  have hl := fIdx_length (c := c) (k := k)
  have h1 : 1 < (c.getD k []).length := Classical.byContradiction fun hn => by rw [if_neg hn] at hl; omega
  rw [if_pos h1] at hl
  have hfc : (fIdx c k)[i] = findI c ((c.getD k []).eraseIdx i) := by
    have : (fIdx c k)[i]? = some (findI c ((c.getD k []).eraseIdx i)) := by
      unfold fIdx faces
      rw [if_pos h1,List.map_map,List.getElem?_map,List.getElem?_range (by omega)]; rfl
    rw [List.getElem?_eq_getElem hi] at this
    exact Option.some.inj this
  have hin : (c.getD k []).eraseIdx i ∈ c := h.2.2.2 k hk _ (faces_mem.2 ⟨h1,i,by omega,rfl⟩)
  unfold fc
  rw [getD_lt hi]
  refine ⟨?_,by omega,?_⟩
  · rw [idx_lt hi]; congr 1; omega
  · rw [hfc]; exact findI_get hin

theorem VS.map {c : List Sim} {p : Int} {st : Sim} {ms : List Mat} (h : VS c p st ms) {k i : Nat} (hk : k < c.length) (hi : i < (fIdx c k).length) : plc c k + i < ms.length ∧ Bt (mp c ms k i) p (st.getD (fc c k i) 0) (st.getD k 0) := by
  have hg := arrs_get hk hi
  have hlt := (List.getElem?_eq_some_iff.1 hg).1
  exact ⟨by rw [← h.2.2.2.1]; exact hlt,h.2.2.2.2 k hk i hi⟩

structure Sq (c : List Sim) (p : Int) (st : Sim) (ms : List Mat) (k i j : Nat) : Prop where
  kl : k < c.length
  n3 : 3 ≤ (c.getD k []).length
  il : i < (c.getD k []).length
  jl : j + 1 < (c.getD k []).length
  v : VS c p st ms

theorem Sq.hi {c p st ms k i j} (h : Sq c p st ms k i j) : i < (fIdx c k).length := by
  have := h.n3; have := h.il
  rw [fIdx_length,if_pos (by omega)]; exact this

theorem Sq.fk {c p st ms k i j} (h : Sq c p st ms k i j) : fc c k i < c.length := (fc_get h.v.1 h.kl h.hi).2.1

theorem Sq.hj {c p st ms k i j} (h : Sq c p st ms k i j) : j < (fIdx c (fc c k i)).length := by
  have h1 := h.n3; have h2 := h.il; have h3 := h.jl
  have e := (fc_get h.v.1 h.kl h.hi).2.2
  rw [fIdx_length,e,List.length_eraseIdx,if_pos h2,if_pos (by omega)]; omega

theorem Sq.b1 {c p st ms k i j} (h : Sq c p st ms k i j) : VM (mp c ms k i) := ((h.v.map h.kl h.hi).2).1
theorem Sq.b2 {c p st ms k i j} (h : Sq c p st ms k i j) : VM (mp c ms (fc c k i) j) := ((h.v.map h.fk h.hj).2).1
theorem Sq.sh {c p st ms k i j} (h : Sq c p st ms k i j) : (mp c ms k i).2.2.1 = (mp c ms (fc c k i) j).2.1 := by
  rw [((h.v.map h.kl h.hi).2).2.2.2,((h.v.map h.fk h.hj).2).2.2.1]

end VeT

open Go Go.Proofs Ve
set_option linter.unusedVariables false
set_option linter.unusedSimpArgs false
namespace VeT

end VeT

open Go Go.Proofs Ve
set_option linter.unusedVariables false
set_option linter.unusedSimpArgs false
namespace VeT

end VeT

open Go Go.Proofs Ve
set_option linter.unusedVariables false
set_option linter.unusedSimpArgs false
namespace VeT

theorem ofDim_pre {c : List Sim} {d : Int} {s n : Nat} (hs : s < n) (hd : ((c.getD s []).length : Int) = d + 1) : ∃ tl,ofDim c d n = ofDim c d s ++ (s : Int) :: tl := by
  induction n with
  | zero => omega
  | succ n ih =>
    rw [ofDim_succ]
    by_cases h : s = n
    · subst h; exact ⟨[],by rw [if_pos hd]⟩
    · obtain ⟨tl,e⟩ := ih (by omega)
      exact ⟨tl ++ _,by rw [e,List.append_assoc]; rfl⟩

theorem ofDim_iff {c : List Sim} {d : Int} {k : Nat} {x : Int} : x ∈ ofDim c d k ↔ ∃ i : Nat,x = i ∧ i < k ∧ ((c.getD i []).length : Int) = d + 1 := by
  unfold ofDim
  rw [List.mem_map]
  constructor
  · rintro ⟨i,hi,rfl⟩
    have := List.mem_filter.1 hi
    exact ⟨i,rfl,by simpa using this.1,by simpa using this.2⟩
  · rintro ⟨i,rfl,h1,h2⟩
    exact ⟨i,List.mem_filter.2 ⟨by simpa using h1,by simpa using h2⟩,rfl⟩

/-! stores -/
abbrev St := List (Nat × Int)
def upds (S : St) (cs : Sim) : Sim := S.foldl (fun cs q => cs.set q.1 q.2) cs

theorem upds_append {S T : St} {cs : Sim} : upds (S ++ T) cs = upds T (upds S cs) := by simp [upds]
theorem upds_one {q : Nat} {v : Int} {cs : Sim} : upds [(q,v)] cs = cs.set q v := rfl
theorem upds_length {S : St} : ∀ {cs : Sim},(upds S cs).length = cs.length := by
  induction S with
  | nil => intro cs; rfl
  | cons q S ih => intro cs; show (upds S (cs.set q.1 q.2)).length = _; rw [ih,List.length_set]

theorem upds_elems {p : Int} {S : St} : ∀ {cs : Sim},Elems cs p → (∀ q ∈ S,0 ≤ q.2 ∧ q.2 ≤ p - 1) → Elems (upds S cs) p := by
  induction S with
  | nil => intro cs h _; exact h
  | cons q S ih =>
    intro cs h hS
    refine ih (cs := cs.set q.1 q.2) (fun x hx => ?_) fun y hy => hS y (List.mem_cons_of_mem _ hy)
    rcases List.mem_or_eq_of_mem_set hx with hx | rfl
    · exact h x hx
    · exact hS q List.mem_cons_self

def sgn (p : Int) (a : Nat) : Int := if a % 2 = 0 then 1 else p - 1

theorem sgn_in {p : Int} (hp : 2 ≤ p ∧ p ≤ 251) (a : Nat) : 0 ≤ sgn p a ∧ sgn p a ≤ p - 1 := by
  unfold sgn; split <;> omega

theorem rep_elems {n : Nat} {p : Int} (hp : 2 ≤ p) : Elems (List.replicate n 0) p := fun x hx => by
  rw [List.mem_replicate] at hx; omega

end VeT

open Go Go.Proofs Ve
set_option linter.unusedVariables false
set_option linter.unusedSimpArgs false
namespace VeT

theorem Index_ret (s : Sim) (v : Int) (hs : s.length ≤ 1048576) : Ret E n_Z87 [dL s,dI v] ⟨o_Z87,(idxf (fun x => pb (x = v)) s,())⟩ := by
  obtain ⟨o,h1,h2,h3⟩ := find_loop 1 (L := fun φ n k => Z87.l0 (mkR (run E (φ 0))) (φ 0) n s v (s.length : Int) k) (len := s.length) (fun k => ∃ h : k < s.length,pb (s[k] = v) = true) (fun o => some ⟨o_Z87,(o2i o,())⟩) (fun _ _ _ _ => rfl) (fun k hk hP => by
      obtain ⟨_,hP⟩ := hP
      have hP := pb_iff.1 hP
      simp only [Z87.l0_succ _ mk_ok]
      exact ev_t (decide_eq_true (by omega)) (ev_bind (idx_lt hk) (ev_t (by simp [hP]) ev_rfl))) (fun k q hk hP ih => by
      simp only [Z87.l0_succ _ mk_ok]
      refine ev_t (decide_eq_true (by omega)) (ev_bind (idx_lt hk) (ev_f (by simp only [beq_eq_false_iff_ne]; exact fun e => hP ⟨hk,pb_true e.symm⟩) ?_))
      rw [w64_succ (by omega)]; exact ih) (by
      simp only [Z87.l0_succ _ mk_ok]
      exact ev_f (decide_eq_false (by omega)) ev_rfl)
  rw [idxf_of (p := fun x => pb (x = v)) h1 h2] at h3
  refine ret_of ?_
  simp only [run_Z87,Z87.ev]
  exact Ev.start (p := fun φ n => Z87.l0 (mkR (run E (φ 0))) (φ 0) n s v (s.length : Int) 0 = _) 1 h3 (fun _ _ _ h => h)

theorem Contains_ret (s : Sim) (v : Int) (hs : s.length ≤ 1048576) : Ret E n_Z78 [dL s,dI v] ⟨o_Z78,(pb (v ∈ s),())⟩ := by
  refine ret_of ?_
  simp only [run_Z78,Z78.ev]
  refine ev_call (Index_ret s v hs) (ev_some ?_)
  have : decide (idxf (fun x => pb (x = v)) s ≥ 0) = pb (v ∈ s) := eq_pb (by
    rw [decide_eq_true_iff,ge_iff_le,idxf_nonneg]
    exact ⟨fun ⟨x,h,e⟩ => pb_iff.1 e ▸ h,fun h => ⟨v,h,pb_true rfl⟩⟩)
  simp only [this]

theorem l00Has_ret (s : Sim) (v : Int) (hs : s.length ≤ 1048576) : Ret E n_Z90 [dL s,dI v] ⟨o_Z90,(pb (v ∈ s),())⟩ := by
  obtain ⟨o,h1,h2,h3⟩ := find_loop 1 (L := fun φ n k => Z90.l0 (mkR (run E (φ 0))) (φ 0) n s v k) (len := s.length) (fun k => ∃ h : k < s.length,s[k] = v) (fun o => some ⟨o_Z90,(o.isSome,())⟩) (fun _ _ _ _ => rfl) (fun k hk hP => by
      obtain ⟨_,hP⟩ := hP
      simp only [Z90.l0_succ _ mk_ok]
      exact ev_t (decide_eq_true (by omega)) (ev_bind (idx_lt hk) (ev_t (by simp [hP]) ev_rfl))) (fun k q hk hP ih => by
      simp only [Z90.l0_succ _ mk_ok]
      refine ev_t (decide_eq_true (by omega)) (ev_bind (idx_lt hk) (ev_f (by simp only [beq_eq_false_iff_ne]; exact fun e => hP ⟨hk,e⟩) ?_))
      rw [w64_succ (by omega)]; exact ih) (by
      simp only [Z90.l0_succ _ mk_ok]
      exact ev_f (decide_eq_false (by omega)) ev_rfl)
  have : o.isSome = pb (v ∈ s) := eq_pb (by
    cases o with
    | none =>
      simp only [Option.isSome_none,Bool.false_eq_true,false_iff]
      intro hm
      obtain ⟨j,hj,e⟩ := List.mem_iff_getElem.1 hm
      exact h2 rfl j hj ⟨hj,e⟩
    | some k =>
      obtain ⟨_,⟨hk,e⟩,_⟩ := h1 k rfl
      simp only [Option.isSome_some,true_iff]
      exact e ▸ List.getElem_mem hk)
  rw [this] at h3
  refine ret_of ?_
  simp only [run_Z90,Z90.ev]
  exact Ev.start (p := fun φ n => Z90.l0 (mkR (run E (φ 0))) (φ 0) n s v 0 = _) 1 h3 (fun _ _ _ h => h)

end VeT

open Go Go.Proofs Ve
set_option linter.unusedVariables false
set_option linter.unusedSimpArgs false
namespace VeT

theorem zero_1_ret (i j : Nat) : Ret E n_Z52 [dI (i : Int),dI (j : Int)] ⟨o_Z52,((0 : Int),())⟩ := by
  refine ret_of ?_
  simp only [run_Z52,Z52.ev]
  (first | exact ev_rfl | exact Ev.of fun _ => trivial)

theorem flatF_zero {C : Nat} : ∀ {n : Nat},flatF (fun _ _ => 0) C n = List.replicate (n * C) 0
  | 0 => by simp [flatF]
  | n + 1 => by
    rw [flatF,flatF_zero,Nat.add_mul,Nat.one_mul,← List.replicate_append_replicate]
    congr 1
    rw [List.map_const',List.length_range]

theorem zero_ret (p : Int) (R C : Nat) (hR : R ≤ 32) (hC : C ≤ 32) : Ret E n_Z51 [dI p,dI (R : Int),dI (C : Int)] ⟨o_Z51,(p,(R : Int),(C : Int),List.replicate (R * C) 0,())⟩ := by
  have h1 := rc_le hR hC
  refine ret_of ?_
  simp only [run_Z51,Z51.ev]
  rw [← flatF_zero]
  exact ev_call (filled_impl_zero_1_ret p R C (fun _ _ => 0) (by omega) (by omega) (by omega) fun i j _ _ => zero_1_ret i j) ev_rfl

theorem alternating_ret (p : Int) (i : Nat) (hp : 2 ≤ p ∧ p ≤ 251) : Ret E n_Z14 [dI (i : Int),dI p] ⟨o_Z14,(sgn p i,())⟩ := by
  refine ret_of ?_
  simp only [run_Z14,Z14.ev]
  rw [Int.tmod_eq_emod_of_nonneg (by omega),w64_small (by omega) (by omega)]
  refine ev_b (fun h => ev_some ?_) fun h => ev_some ?_
  · have h : (i : Int) % 2 = 0 := by simpa using h
    rw [sgn,if_pos (by omega)]
  · have h : ¬ (i : Int) % 2 = 0 := by simpa using h
    rw [sgn,if_neg (by omega)]

theorem l07Sign_ret (p : Int) (i : Nat) (hp : 2 ≤ p ∧ p ≤ 251) : Ret E n_Z115 [dI (i : Int),dI p] ⟨o_Z115,(sgn p i,())⟩ := by
  refine ret_of ?_
  simp only [run_Z115,Z115.ev]
  rw [Int.tmod_eq_emod_of_nonneg (by omega),w64_small (by omega) (by omega)]
  refine ev_b (fun h => ev_chk (by simp; omega) (ev_some ?_)) fun h => ev_some ?_
  · have h : (i : Int) % 2 = 0 := by simpa using h
    rw [sgn,if_pos (by omega),Int.tmod_eq_emod_of_nonneg (by omega),Int.emod_eq_of_lt (by omega) (by omega)]
  · have h : ¬ (i : Int) % 2 = 0 := by simpa using h
    rw [sgn,if_neg (by omega)]

end VeT

open Go Go.Proofs Ve
set_option linter.unusedVariables false
set_option linter.unusedSimpArgs false
namespace VeT

theorem val_eq {x y p : Int} (hx : 0 ≤ x ∧ x ≤ 250) (hy : 0 ≤ y ∧ y ≤ 250) (hp : 2 ≤ p ∧ p ≤ 251) : Int.tmod (w64 (x * y)) p = x * y % p := by
  have := mul_in hx hy
  rw [w64_small (by omega) (by omega),Int.tmod_eq_emod_of_nonneg (by omega)]

end VeT

open Go Go.Proofs Ve
set_option linter.unusedVariables false
set_option linter.unusedSimpArgs false
namespace VeT

/-! zero lists -/
def Zs (v : Sim) : Prop := ∀ x ∈ v,x = 0

theorem isZero_1_ret (x : Int) : Ret E n_Z38 [dI x] ⟨o_Z38,(!pb (x = 0),())⟩ := by
  refine ret_of ?_
  simp only [run_Z38,Z38.ev]
  refine ev_some ?_
  have : (x != 0) = !pb (x = 0) := by
    by_cases h : x = 0
    · rw [pb_true h]; simp [h]
    · rw [pb_false h]; simp [h]
  rw [this]

theorem isZero_ret (v : Sim) (hv : v.length ≤ 1048576) : Ret E n_Z37 [dL v] ⟨o_Z37,(pb (Zs v),())⟩ := by
  refine ret_of ?_
  simp only [run_Z37,Z37.ev]
  refine ev_call (ContainsFunc_Sint64_int64_impl_isZero_1_ret v _ hv fun x _ => isZero_1_ret x) (ev_some ?_)
  simp only [none_bad]; rfl

end VeT

open Go Go.Proofs Ve
set_option linter.unusedVariables false
set_option linter.unusedSimpArgs false
namespace VeT

/-! powers -/
theorem mul_congr {p x x' y y' : Int} (h1 : x % p = x' % p) (h2 : y % p = y' % p) : x * y % p = x' * y' % p := by
  rw [Int.mul_emod x,h1,h2,← Int.mul_emod]

theorem pow_congr {p x x' : Int} (h : x % p = x' % p) : ∀ n : Nat,x ^ n % p = x' ^ n % p
  | 0 => by rw [Int.pow_zero,Int.pow_zero]
  | n + 1 => by rw [Int.pow_succ,Int.pow_succ]; exact mul_congr (pow_congr h n) h

/-- the inverse of a number -/
def invF (a p : Int) : Int := a ^ (p - 2).toNat % p

theorem invF_in {a p : Int} (hp : 2 ≤ p) : 0 ≤ invF a p ∧ invF a p ≤ p - 1 := by
  have h0 := Int.emod_nonneg (a ^ (p - 2).toNat) (show p ≠ 0 by omega)
  have h1 := Int.emod_lt_of_pos (a ^ (p - 2).toNat) (show 0 < p by omega)
  unfold invF; omega

/-! elimination -/
abbrev Ent := Nat → Nat → Int

def elSw (top q : Nat) (A : Ent) : Ent := fun i => if i = top then A q else if i = q then A top else A i
def elN (p : Int) (c top : Nat) (B : Ent) : Nat → Int := fun j => B top j * invF (B top c) p % p
def elM (p : Int) (c top : Nat) (B : Ent) : Ent := fun i j => if i = top then elN p c top B j else B i j
def elF (p : Int) (c top : Nat) (B : Ent) : Ent := fun i j => if i = top then elN p c top B j else if B i c ≠ 0 then (B i j + (p - B i c) * elN p c top B j) % p else B i j

noncomputable def elP (p : Int) (R c : Nat) (S : Ent × List Nat) : Ent × List Nat :=
  match firstN (fun i => S.1 i c ≠ 0) S.2.length (R - S.2.length) with
  | none => S
  | some q => (elF p c S.2.length (elSw S.2.length q S.1),S.2 ++ [c])

noncomputable def elS (p : Int) (R : Nat) (A : Ent) : Nat → Ent × List Nat
  | 0 => (A,[])
  | c + 1 => elP p R c (elS p R A c)

def EIn (p : Int) (R W : Nat) (A : Ent) : Prop := ∀ i j,i < R → j < W → 0 ≤ A i j ∧ A i j ≤ p - 1

theorem EIn.sw {p : Int} {R W top q : Nat} {A : Ent} (h : EIn p R W A) (ht : top < R) (hq : q < R) : EIn p R W (elSw top q A) := fun i j hi hj => by
  unfold elSw; split
  · exact h q j hq hj
  · split
    · exact h top j ht hj
    · exact h i j hi hj

theorem emod_in {p x : Int} (hp : 2 ≤ p) : 0 ≤ x % p ∧ x % p ≤ p - 1 := by
  have h0 := Int.emod_nonneg x (show p ≠ 0 by omega)
  have h1 := Int.emod_lt_of_pos x (show 0 < p by omega)
  omega

theorem EIn.f {p : Int} {R W c top : Nat} {B : Ent} (h : EIn p R W B) (hp : 2 ≤ p) : EIn p R W (elF p c top B) := fun i j hi hj => by
  unfold elF; split
  · exact emod_in hp
  · split
    · exact emod_in hp
    · exact h i j hi hj

theorem elS_in {p : Int} {R W : Nat} {A : Ent} (hp : 2 ≤ p) (h : EIn p R W A) : ∀ c,EIn p R W (elS p R A c).1 ∧ (elS p R A c).2.length ≤ R ∧ (elS p R A c).2.length ≤ c ∧ ∀ x ∈ (elS p R A c).2,x < c
  | 0 => ⟨h,Nat.zero_le _,Nat.zero_le _,fun x hx => by simp [elS] at hx⟩
  | c + 1 => by
    obtain ⟨h1,h2,h3,h4⟩ := elS_in hp h c
    rw [elS,elP]
    cases hf : firstN (fun i => (elS p R A c).1 i c ≠ 0) (elS p R A c).2.length (R - (elS p R A c).2.length) with
    | none => exact ⟨h1,h2,by show (elS p R A c).2.length ≤ c + 1; omega,fun x hx => by have := h4 x hx; omega⟩
    | some q =>
      have hq := firstN_some hf
      refine ⟨(h1.sw (by omega) (by omega)).f hp,?_,?_,fun x hx => ?_⟩
      · simp only [List.length_append,List.length_singleton]; omega
      · simp only [List.length_append,List.length_singleton]; omega
      · rcases List.mem_append.1 hx with hx | hx
        · have := h4 x hx; omega
        · rw [List.mem_singleton] at hx; omega

/-! rows -/
def rowsE (A : Ent) (R W : Nat) : List Sim := (List.range R).map fun i => (List.range W).map (A i)

theorem rowsE_length {A : Ent} {R W : Nat} : (rowsE A R W).length = R := by simp [rowsE]

theorem rowsE_get {A : Ent} {R W i : Nat} (hi : i < R) : (rowsE A R W)[i]? = some ((List.range W).map (A i)) := by
  unfold rowsE; rw [List.getElem?_map,List.getElem?_range hi]; rfl

theorem rowsE_congr {A B : Ent} {R W : Nat} (h : ∀ i j,i < R → j < W → A i j = B i j) : rowsE A R W = rowsE B R W :=
  List.map_congr_left fun i hi => List.map_congr_left fun j hj => h i j (List.mem_range.1 hi) (List.mem_range.1 hj)

theorem rowsE_set {A : Ent} {R W i : Nat} {f : Nat → Int} : (rowsE A R W).set i ((List.range W).map f) = rowsE (fun k j => if k = i then f j else A k j) R W := by
  apply List.ext_getElem?
  intro k
  by_cases hk : k < R
  · rw [rowsE_get hk]
    by_cases hik : k = i
    · subst hik
      rw [List.getElem?_set_self (by rw [rowsE_length]; exact hk)]
      simp
    · rw [List.getElem?_set_ne (Ne.symm hik),rowsE_get hk]
      simp [hik]
  · rw [List.getElem?_eq_none (by rw [List.length_set,rowsE_length]; omega),List.getElem?_eq_none (by rw [rowsE_length]; omega)]

theorem row_get {f : Nat → Int} {W j : Nat} (hj : j < W) : ((List.range W).map f)[j]? = some (f j) := by
  rw [List.getElem?_map,List.getElem?_range hj]; rfl

theorem flatF_set {A : Ent} {R W i j : Nat} {v : Int} (hi : i < R) (hj : j < W) : (flatF A W R).set (i * W + j) v = flatF (fun k l => if k = i ∧ l = j then v else A k l) W R := by
  apply List.ext_getElem?
  intro n
  by_cases hn : n < R * W
  · have hW : 0 < W := by omega
    have e : n = n / W * W + n % W := by have := Nat.div_add_mod n W; rw [Nat.mul_comm] at this; omega
    have h1 : n / W < R := Nat.div_lt_of_lt_mul (by rw [Nat.mul_comm]; exact hn)
    have h2 : n % W < W := Nat.mod_lt _ hW
    generalize n / W = a at e h1
    generalize n % W = b at e h2
    subst e
    rw [flatF_getD h1 h2]
    by_cases hab : a = i ∧ b = j
    · obtain ⟨rfl,rfl⟩ := hab
      rw [List.getElem?_set_self (by rw [flatF_length]; exact hn)]
      simp
    · rw [List.getElem?_set_ne,flatF_getD h1 h2,if_neg hab]
      intro e
      have hbW : b < W := h2
      have : a = i ∧ b = j := by
        have h3 : (i * W + j) / W = i := by rw [Nat.mul_comm,Nat.mul_add_div (by omega),Nat.div_eq_of_lt hj,Nat.add_zero]
        have h4 : (a * W + b) / W = a := by rw [Nat.mul_comm,Nat.mul_add_div (by omega),Nat.div_eq_of_lt hbW,Nat.add_zero]
        have : a = i := by rw [← h3,← h4,e]
        subst this
        exact ⟨rfl,by omega⟩
      exact hab this
  · rw [List.getElem?_eq_none (by rw [List.length_set,flatF_length]; omega),List.getElem?_eq_none (by rw [flatF_length]; omega)]

theorem flatF_flatten {A : Ent} {W : Nat} : ∀ {R : Nat},(rowsE A R W).flatten = flatF A W R
  | 0 => by simp [rowsE,flatF]
  | R + 1 => by
    have := flatF_flatten (A := A) (W := W) (R := R)
    unfold rowsE at this ⊢
    rw [List.range_succ,List.map_append,List.flatten_append,this,flatF]
    simp

/-- a matrix' entries -/
def entM (cells : Sim) (W : Nat) : Ent := fun i j => cells.getD (i * W + j) 0

theorem entM_flat {cells : Sim} {R W : Nat} (h : cells.length = R * W) : flatF (entM cells W) W R = cells := by
  refine List.ext_getElem (by rw [flatF_length,h]) fun n h1 h2 => ?_
  rw [flatF_length] at h1
  have hW : 0 < W := by
    cases W with
    | zero => simp at h1
    | succ W => omega
  have e : n = n / W * W + n % W := by have := Nat.div_add_mod n W; rw [Nat.mul_comm] at this; omega
  have h3 : n / W < R := Nat.div_lt_of_lt_mul (by rw [Nat.mul_comm]; exact h1)
  have h4 : n % W < W := Nat.mod_lt _ hW
  have hg := flatF_getD (f := entM cells W) h3 h4
  rw [← e,List.getElem?_eq_getElem (by rw [flatF_length]; exact h1)] at hg
  rw [Option.some.inj hg]
  unfold entM
  rw [← e,getD_lt h2]

theorem entM_in {p : Int} {cells : Sim} {R W : Nat} (h : Elems cells p) (hl : cells.length = R * W) : EIn p R W (entM cells W) := fun i j hi hj => by
  unfold entM
  have := lt_rc hi hj
  rw [getD_lt (by omega)]
  exact h _ (List.getElem_mem _)

end VeT
