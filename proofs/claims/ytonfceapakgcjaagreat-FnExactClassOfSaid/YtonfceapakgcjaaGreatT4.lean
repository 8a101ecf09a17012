import Derived.Test.YtonfceapakgcjaaGreatT3
import Derived.Test.YtonfceapakgcjaaGreatV2
import Derived.Test.YtonfceapakgcjaaGreatProg
import Derived.KernelRfl
import Derived.WalkKit
import Derived.Lib.Walk
import Derived.Lib.SliceRun
import Derived.Lib.AppendZerosOnto
set_option linter.unusedVariables false
set_option linter.unusedSimpArgs false
open Go Go.Proofs Ve
set_option linter.unusedVariables false
set_option maxRecDepth 100000
namespace VeT
@[reducible] noncomputable def q1_0 (R:Run) (N:Nat):=kS R pol_Z98 7 N [1,1] F_Z98
@[reducible] noncomputable def q1_1 (R:Run) (N:Nat):=kS R pol_Z95 7 N [1,1] F_Z95
@[reducible] noncomputable def q1_2 (R:Run) (N:Nat):=kS R pol_Z32 11 N [1,1,1] F_Z32
@[reducible] noncomputable def q1_3 (R:Run) (N:Nat):=kS R pol_Z28 22 N [1,1,1,0,1,0,0,1,1,0,0,1,1,1,1,1,1,1,1,1] F_Z28
@[reducible] noncomputable def q1_4 (R:Run) (N:Nat):=kS R pol_Z28 23 N [1,1,1,0,1,0,0,1,1,1] F_Z28
@[reducible] noncomputable def q1_5 (R:Run) (N:Nat):=kS R pol_Z28 24 N [1,1,1,1] F_Z28
@[reducible] noncomputable def q1_6 (R:Run) (N:Nat):=kL R pol_Z28 4 N [1,1,1,0,1,0,0] F_Z28
@[reducible] noncomputable def q1_7 (R:Run) (N:Nat):=lC R pol_Z98 2 N [1,0,1,0,0] F_Z98
@[reducible] noncomputable def q1_8 (R:Run) (N:Nat):=lC R pol_Z95 2 N [1,0,1,0,0] F_Z95
@[reducible] noncomputable def q1_9 (R:Run):=kB R pol_Z98 0
@[reducible] noncomputable def q1_10 (R:Run):=kB R pol_Z28 0
theorem Z63.ev (R:Run) (N:Nat) (a0 a1 a2:Int):evFn E R sg_Z63 pol_Z63 F_Z63 N [⟨yI,a0⟩,⟨yI,a1⟩,⟨yI,a2⟩] = (bif (decide (a0 ≥ a1)) then some ⟨o_Z63,((decide (a0 ≤ a2)),())⟩ else some ⟨o_Z63,(false,())⟩) := by kernel_rfl
theorem Z45.ev (R:Run) (N:Nat) (a0:Int):evFn E R sg_Z45 pol_Z45 F_Z45 N [⟨yI,a0⟩] = ((callT R n_Z63 o_Z63 [⟨yI,a0⟩,⟨yI,(0:Int)⟩,⟨yI,(9:Int)⟩]).bind fun r1 => some ⟨o_Z45,(r1.1,())⟩) := by kernel_rfl
theorem Z12.ev (R:Run) (N:Nat) (a0:Int):evFn E R sg_Z12 pol_Z12 F_Z12 N [⟨yI,a0⟩] = ((callT R n_Z45 o_Z45 [⟨yI,a0⟩]).bind fun r1 => some ⟨o_Z12,((!r1.1),())⟩) := by kernel_rfl
noncomputable def Z99.l0 (R:Run) (N n:Nat) (a:(List Int)) (b e:Int):Option Dv := R.w (some ⟨(.c (.d yL a)::(.c (.d (.fn n_Z12 .nil) ())::(zd 5 (.c (.d yI b)::(.c (.d yI e)::(zd 10 [])))))),(zo 21 [])⟩) fun st => q1_7 R N n st (q1_9 R (q1_0 R N (kTop E sg_Z98 F_Z98)))
theorem Z99.l0_succ (R:Run) (hw:R.ok) (N n:Nat) (a:(List Int)) (b c:Int):Z99.l0 R N (n + 1) a b c = (bif (decide (c < b)) then ((idx? a c).bind fun y4 => ((callT R n_Z12 o_Z12 [⟨yI,(y4,()).1⟩]).bind fun r5 => (bif r5.1 then some ⟨o_Z98,(c,())⟩ else (Z99.l0 R N n a b (w64 (c + (1:Int))))))) else some ⟨o_Z98,((-1:Int),())⟩) := (hw _ _).trans (by kernel_rfl)
theorem Z99.ev (R:Run) (N:Nat) (a0:(List Int)):evFn E R sg_Z98 pol_Z98 F_Z98 N [⟨yL,a0⟩,⟨(.fn n_Z12 .nil),()⟩] = (Z99.l0 R N N a0 (List.length a0:Int) (0:Int)) := by kernel_rfl
theorem Z89.ev (R:Run) (N:Nat) (a0:(List Int)):evFn E R sg_Z88 pol_Z88 F_Z88 N [⟨yL,a0⟩,⟨(.fn n_Z12 .nil),()⟩] = ((callT R n_Z98 o_Z98 [⟨yL,a0⟩,⟨(.fn n_Z12 .nil),()⟩]).bind fun r1 => some ⟨o_Z88,((decide (r1.1 ≥ (0:Int))),())⟩) := by kernel_rfl
theorem Z11.ev (R:Run) (N:Nat) (a0:(List Int)):evFn E R sg_Z11 pol_Z11 F_Z11 N [⟨yL,a0⟩] = (bif (decide ((List.length a0:Int) ≥ (1:Int))) then (bif (decide ((List.length a0:Int) ≤ (4:Int))) then ((callT R n_Z43 o_Z43 [⟨yL,a0⟩]).bind fun r1 => (bif r1.1 then ((callT R n_Z88 o_Z88 [⟨yL,a0⟩,⟨(.fn n_Z12 .nil),()⟩]).bind fun r2 => some ⟨o_Z11,((!r2.1),())⟩) else some ⟨o_Z11,(false,())⟩)) else some ⟨o_Z11,(false,())⟩) else some ⟨o_Z11,(false,())⟩) := by kernel_rfl
theorem Z3.ev (R:Run) (N:Nat) (a0:Int):evFn E R sg_Z3 pol_Z3 F_Z3 N [⟨yI,a0⟩] = some ⟨o_Z3,((a0 != a0),())⟩ := by kernel_rfl
theorem Z0.ev (R:Run) (N:Nat) (a0 a1:Int):evFn E R sg_Z0 pol_Z0 F_Z0 N [⟨yI,a0⟩,⟨yI,a1⟩] = ((callT R n_Z3 o_Z3 [⟨yI,a0⟩]).bind fun r1 => ((callT R n_Z3 o_Z3 [⟨yI,a1⟩]).bind fun r2 => (bif r1.1 then (bif r2.1 then some ⟨o_Z0,((0:Int),())⟩ else some ⟨o_Z0,((-1:Int),())⟩) else (bif r2.1 then some ⟨o_Z0,((1:Int),())⟩ else (bif (decide (a0 < a1)) then some ⟨o_Z0,((-1:Int),())⟩ else (bif (decide (a0 > a1)) then some ⟨o_Z0,((1:Int),())⟩ else some ⟨o_Z0,((0:Int),())⟩)))))) := by kernel_rfl
theorem Z4.ev (R:Run) (N:Nat) (a0:Int):evFn E R sg_Z4 pol_Z4 F_Z4 N [⟨yI,a0⟩] = some ⟨o_Z4,((a0 != a0),())⟩ := by kernel_rfl
theorem Z1.ev (R:Run) (N:Nat) (a0 a1:Int):evFn E R sg_Z1 pol_Z1 F_Z1 N [⟨yI,a0⟩,⟨yI,a1⟩] = ((callT R n_Z4 o_Z4 [⟨yI,a0⟩]).bind fun r1 => ((callT R n_Z4 o_Z4 [⟨yI,a1⟩]).bind fun r2 => (bif r1.1 then (bif r2.1 then some ⟨o_Z1,((0:Int),())⟩ else some ⟨o_Z1,((-1:Int),())⟩) else (bif r2.1 then some ⟨o_Z1,((1:Int),())⟩ else (bif (decide (a0 < a1)) then some ⟨o_Z1,((-1:Int),())⟩ else (bif (decide (a0 > a1)) then some ⟨o_Z1,((1:Int),())⟩ else some ⟨o_Z1,((0:Int),())⟩)))))) := by kernel_rfl
noncomputable def Z83.l0 (R:Run) (N n:Nat) (a b e:(List Int)) (f g:Int):Option Dv := R.w (some ⟨(.c (.d yL a)::(.c (.d yL b)::(zd 7 (.c (.d yL e)::(.c (.d yI f)::(.c (.d yI g)::(zd 24 []))))))),(zo 38 [])⟩) fun st => lC R pol_Z83 2 N [1,0,1,0,0] F_Z83 n st (kB R pol_Z83 0 (kS R pol_Z83 11 N [1,1] F_Z83 (kTop E sg_Z83 F_Z83)))
theorem Z83.l0_succ (R:Run) (hw:R.ok) (N n:Nat) (a b c:(List Int)) (d e:Int):Z83.l0 R N (n + 1) a b c d e = (bif (decide (e < d)) then ((idx? c e).bind fun y6 => (bif (decide (e ≥ (List.length b:Int))) then some ⟨o_Z83,((1:Int),())⟩ else ((idx? b e).bind fun y7 => ((callT R n_Z1 o_Z1 [⟨yI,(y6,()).1⟩,⟨yI,(y7,()).1⟩]).bind fun r8 => (bif (r8.1 != (0:Int)) then some ⟨o_Z83,(r8.1,())⟩ else (Z83.l0 R N n a b c d (w64 (e + (1:Int))))))))) else (bif (decide ((List.length a:Int) < (List.length b:Int))) then some ⟨o_Z83,((-1:Int),())⟩ else some ⟨o_Z83,((0:Int),())⟩)) := (hw _ _).trans (by kernel_rfl)
theorem Z83.ev (R:Run) (N:Nat) (a0 a1:(List Int)):evFn E R sg_Z83 pol_Z83 F_Z83 N [⟨yL,a0⟩,⟨yL,a1⟩] = (Z83.l0 R N N a0 a1 a0 (List.length a0:Int) (0:Int)) := by kernel_rfl
noncomputable def Z2.l0 (R:Run) (N n:Nat) (a:Int) (b:(List Int)) (e f:Int):Option Dv := R.w (some ⟨(zd 3 (.c (.d yI a)::(V.dead::(V.dead::(.c (.d yL b)::(.c (.d yI e)::(.c (.d yI f)::(zd 9 [])))))))),(zo 19 [])⟩) fun st => lC R pol_Z2 3 N [1,1,0,1,0,0] F_Z2 n st (kB R pol_Z2 0 (kS R pol_Z2 8 N [1,1,1] F_Z2 (kTop E sg_Z2 F_Z2)))
theorem Z2.l0_succ (R:Run) (hw:R.ok) (N n:Nat) (a:Int) (b:(List Int)) (c d:Int):Z2.l0 R N (n + 1) a b c d = (bif (decide (d < c)) then ((idx? b d).bind fun y5 => (bif ((y5,()).1 != a) then some ⟨o_Z2,((y5,()).1,())⟩ else (Z2.l0 R N n a b c (w64 (d + (1:Int)))))) else some ⟨o_Z2,(a,())⟩) := (hw _ _).trans (by kernel_rfl)
theorem Z2.ev (R:Run) (N:Nat) (a0:(List Int)):evFn E R sg_Z2 pol_Z2 F_Z2 N [⟨yL,a0⟩] = (Z2.l0 R N N (0:Int) a0 (List.length a0:Int) (0:Int)) := by kernel_rfl
theorem Z23.ev (R:Run) (N:Nat) (a0 a1:(List Int)):evFn E R sg_Z23 pol_Z23 F_Z23 N [⟨yL,a0⟩,⟨yL,a1⟩] = ((callT R n_Z0 o_Z0 [⟨yI,(List.length a0:Int)⟩,⟨yI,(List.length a1:Int)⟩]).bind fun r1 => ((callT R n_Z83 o_Z83 [⟨yL,a0⟩,⟨yL,a1⟩]).bind fun r2 => ((callT R n_Z2 o_Z2 [⟨yL,[r1.1,r2.1]⟩]).bind fun r3 => some ⟨o_Z23,(r3.1,())⟩))) := by kernel_rfl
noncomputable def Z85.l1 (R:Run) (N n:Nat) (a:vK) (b e:Int) (f:(List Int)):Option Dv := R.w (some ⟨(zd 6 (.c (.arr 37)::(zd 18 (.c (.d yK a)::(.c (.d yI b)::(.c (.d yI e)::(zd 8 []))))))),(zo 37 (some (.arr yI f true false false)::[]))⟩) fun st => lC R pol_Z85 11 N [1,1,1,1,0,1,0,0] F_Z85 n st (kB R pol_Z85 2 (kS R pol_Z85 15 N [1,1,1,1,1] F_Z85 (kTop E sg_Z85 F_Z85)))
noncomputable def Z85.l0 (R:Run) (N n:Nat) (a:vK) (b:Int) (e:vK) (f g:Int):Option Dv := R.w (some ⟨(.c (.d yK a)::(V.dead::(V.dead::(.c (.d yI b)::(zd 5 (.c (.d yK e)::(.c (.d yI f)::(.c (.d yI g)::(zd 24 []))))))))),(zo 38 [])⟩) fun st => lC R pol_Z85 3 N [1,1,0,1,0,0] F_Z85 n st (kB R pol_Z85 0 (kS R pol_Z85 9 N [1,1,1] F_Z85 (kTop E sg_Z85 F_Z85)))
theorem Z85.l1_succ (R:Run) (hw:R.ok) (N n:Nat) (a:vK) (b c:Int) (d:(List Int)):Z85.l1 R N (n + 1) a b c d = (bif (decide (c < b)) then ((idx? a c).bind fun y17 => ((chk (decide ((List.length d + List.length (y17,()).1) * 8 ≤ 70368744177664))).bind fun _ => (Z85.l1 R N n a b (w64 (c + (1:Int))) (d ++ (y17,()).1)))) else some ⟨o_Z85,(d,())⟩) := (hw _ _).trans (by kernel_rfl)
theorem Z85.l0_succ (R:Run) (hw:R.ok) (N n:Nat) (a:vK) (b:Int) (c:vK) (d e:Int):Z85.l0 R N (n + 1) a b c d e = (bif (decide (e < d)) then ((idx? c e).bind fun y6 => (bif (decide ((w64 (b + (List.length (y6,()).1:Int))) < (0:Int))) then none else (Z85.l0 R N n a (w64 (b + (List.length (y6,()).1:Int))) c d (w64 (e + (1:Int)))))) else ((callT R n_Z94 o_Z94 [⟨yL,([]:List Int)⟩,⟨yI,b⟩]).bind fun r12 => (Z85.l1 R N N a (List.length a:Int) (0:Int) r12.1))) := (hw _ _).trans (by kernel_rfl)
theorem Z85.ev (R:Run) (N:Nat) (a0:vK):evFn E R sg_Z85 pol_Z85 F_Z85 N [⟨yK,a0⟩] = (Z85.l0 R N N a0 (0:Int) a0 (List.length a0:Int) (0:Int)) := by kernel_rfl
noncomputable def Z31.l0 (R:Run) (N n:Nat) (a:(List Int)) (b e:Int) (f:vK):Option Dv := R.w (some ⟨(.c (.d yL a)::(V.dead::(V.dead::(.c (.arr 24)::(V.dead::(V.dead::(.c (.d yI b)::(.c (.d yI e)::(zd 19 []))))))))),(zo 24 (some (.arr yL f true false false)::(zo 4 [])))⟩) fun st => lC R pol_Z31 3 N [1,1,0,1,0,0] F_Z31 n st (kB R pol_Z31 0 (kS R pol_Z31 8 N [1,1,1] F_Z31 (kTop E sg_Z31 F_Z31)))
theorem Z31.l0_succ (R:Run) (hw:R.ok) (N n:Nat) (a:(List Int)) (b c:Int) (d:vK):Z31.l0 R N (n + 1) a b c d = (bif (decide (c < b)) then (bif (decide ((List.length a:Int) > (1:Int))) then ((chk (decide (0 ≤ c) && decide (c ≤ (List.length a:Int)))).bind fun _ => ((chk (decide (0 ≤ (w64 (c + (1:Int)))) && decide ((w64 (c + (1:Int))) ≤ (List.length a:Int)))).bind fun _ => ((callT R n_Z85 o_Z85 [⟨yK,[(List.take (Int.toNat c) a),(List.drop (Int.toNat (w64 (c + (1:Int)))) a)]⟩]).bind fun r5 => ((chk (decide ((List.length d + List.length [r5.1]) * 24 ≤ 70368744177664))).bind fun _ => (Z31.l0 R N n a b (w64 (c + (1:Int))) (d ++ [r5.1])))))) else (Z31.l0 R N n a b (w64 (c + (1:Int))) d)) else some ⟨o_Z31,(d,())⟩) := (hw _ _).trans (by kernel_rfl)
theorem Z31.ev (R:Run) (N:Nat) (a0:(List Int)):evFn E R sg_Z31 pol_Z31 F_Z31 N [⟨yL,a0⟩] = (Z31.l0 R N N a0 (List.length a0:Int) (0:Int) ([]:List (List Int))) := by kernel_rfl
noncomputable def Z81.l0 (R:Run) (N n:Nat) (a:vK) (b:(List Int)) (e f g:Int):Option Dv := R.w (some ⟨(.c (.d yK a)::(.c (.d yL b)::(.c (.d (.fn n_Z23 .nil) ())::(zd 5 (.c (.d yI e)::(.c (.d yI f)::(.c (.d yI g)::(zd 38 [])))))))),(zo 52 [])⟩) fun st => lC R pol_Z80 3 N [1,1,1,0,0,0] F_Z80 n st (kB R pol_Z80 0 (kS R pol_Z80 8 N [1,1,1,1] F_Z80 (kTop E sg_Z80 F_Z80)))
theorem Z81.l0_succ (R:Run) (hw:R.ok) (N n:Nat) (a:vK) (b:(List Int)) (c d e:Int):Z81.l0 R N (n + 1) a b c d e = (bif (decide (d < e)) then ((chk (decide (0 ≤ (1:Int)))).bind fun _ => ((idx? a (w64 ((Int.fdiv (IntKind.wrap .u64 ((w64 (d + e)))) (2 ^ (min (Int.toNat (1:Int)) (IntKind.bits .u64))))))).bind fun y6 => ((callT R n_Z23 o_Z23 [⟨yL,(y6,()).1⟩,⟨yL,b⟩]).bind fun r7 => (bif (decide (r7.1 < (0:Int))) then (Z81.l0 R N n a b c (w64 ((w64 ((Int.fdiv (IntKind.wrap .u64 ((w64 (d + e)))) (2 ^ (min (Int.toNat (1:Int)) (IntKind.bits .u64)))))) + (1:Int))) e) else (Z81.l0 R N n a b c d (w64 ((Int.fdiv (IntKind.wrap .u64 ((w64 (d + e)))) (2 ^ (min (Int.toNat (1:Int)) (IntKind.bits .u64))))))))))) else (bif (decide (d < c)) then ((idx? a d).bind fun y18 => ((callT R n_Z23 o_Z23 [⟨yL,(y18,()).1⟩,⟨yL,b⟩]).bind fun r19 => some ⟨o_Z80,(d,(r19.1 == (0:Int)),())⟩)) else some ⟨o_Z80,(d,false,())⟩)) := (hw _ _).trans (by kernel_rfl)
theorem Z81.ev (R:Run) (N:Nat) (a0:vK) (a1:(List Int)):evFn E R sg_Z80 pol_Z80 F_Z80 N [⟨yK,a0⟩,⟨yL,a1⟩,⟨(.fn n_Z23 .nil),()⟩] = (Z81.l0 R N N a0 a1 (List.length a0:Int) (0:Int) (List.length a0:Int)) := by kernel_rfl
theorem Z37.ev (R:Run) (N:Nat) (a0:vK) (a1:(List Int)):evFn E R sg_Z37 pol_Z37 F_Z37 N [⟨yK,a0⟩,⟨yL,a1⟩] = ((callT R n_Z80 o_Z80 [⟨yK,a0⟩,⟨yL,a1⟩,⟨(.fn n_Z23 .nil),()⟩]).bind fun r1 => (bif (!r1.2.1) then some ⟨o_Z37,((-1:Int),())⟩ else some ⟨o_Z37,(r1.1,())⟩)) := by kernel_rfl
theorem Z9.ev (R:Run) (N:Nat) (a0:(List Int)) (a1:(vK × Unit)) (a2:(Int × Unit)):evFn E R sg_Z9 pol_Z9 F_Z9 N [⟨yL,a0⟩,⟨(.ptr (.cons yK .nil)),a1⟩,⟨(.ptr (.cons yI .nil)),a2⟩] = ((chk (decide (0 ≤ a2.1) && decide (a2.1 ≤ (List.length a1.1:Int)))).bind fun _ => ((callT R n_Z37 o_Z37 [⟨yK,(List.take (Int.toNat a2.1) a1.1)⟩,⟨yL,a0⟩]).bind fun r1 => some ⟨o_Z9,((decide (r1.1 < (0:Int))),())⟩)) := by kernel_rfl
noncomputable def Z96.l0 (R:Run) (N n:Nat) (a:vK) (b:((vK × Unit) × (Int × Unit) × Unit)) (e f:Int):Option Dv := R.w (some ⟨(.c (.d yK a)::(.c (.d (.fn n_Z9 (.cons (.ptr (.cons yK .nil)) (.cons (.ptr (.cons yI .nil)) .nil))) b)::(zd 5 (.c (.d yI e)::(.c (.d yI f)::(zd 10 [])))))),(zo 21 [])⟩) fun st => q1_8 R N n st (kB R pol_Z95 0 (q1_1 R N (kTop E sg_Z95 F_Z95)))
theorem Z96.l0_succ (R:Run) (hw:R.ok) (N n:Nat) (a:vK) (b:((vK × Unit) × (Int × Unit) × Unit)) (c d:Int):Z96.l0 R N (n + 1) a b c d = (bif (decide (d < c)) then ((idx? a d).bind fun y5 => ((callT R n_Z9 o_Z9 [⟨yL,(y5,()).1⟩,⟨(.ptr (.cons yK .nil)),b.1⟩,⟨(.ptr (.cons yI .nil)),b.2.1⟩]).bind fun r6 => (bif r6.1 then some ⟨o_Z95,(d,())⟩ else (Z96.l0 R N n a b c (w64 (d + (1:Int))))))) else some ⟨o_Z95,((-1:Int),())⟩) := (hw _ _).trans (by kernel_rfl)
theorem Z96.ev (R:Run) (N:Nat) (a0:vK) (a1:((vK × Unit) × (Int × Unit) × Unit)):evFn E R sg_Z95 pol_Z95 F_Z95 N [⟨yK,a0⟩,⟨(.fn n_Z9 (.cons (.ptr (.cons yK .nil)) (.cons (.ptr (.cons yI .nil)) .nil))),a1⟩] = (Z96.l0 R N N a0 a1 (List.length a0:Int) (0:Int)) := by kernel_rfl
theorem Z87.ev (R:Run) (N:Nat) (a0:vK) (a1:((vK × Unit) × (Int × Unit) × Unit)):evFn E R sg_Z86 pol_Z86 F_Z86 N [⟨yK,a0⟩,⟨(.fn n_Z9 (.cons (.ptr (.cons yK .nil)) (.cons (.ptr (.cons yI .nil)) .nil))),a1⟩] = ((callT R n_Z95 o_Z95 [⟨yK,a0⟩,⟨(.fn n_Z9 (.cons (.ptr (.cons yK .nil)) (.cons (.ptr (.cons yI .nil)) .nil))),a1⟩]).bind fun r1 => some ⟨o_Z86,((decide (r1.1 ≥ (0:Int))),())⟩) := by kernel_rfl
noncomputable def Z8.j1 (R:Run) (N a:Nat) (b:(List Int)) (e:vK) (f g:Int) (h:Bool) (i:vK) (j:Int):Option Dv := R.w (some ⟨(V.dead::(.c (.box 1 0)::(V.dead::(.c (.box 3 0)::(.c (.d yL b)::(V.dead::(.c (.d yK e)::(.c (.d yI f)::(.c (.d yI g)::(zd 21 (.c (.d .bool h)::(zd 9 [])))))))))))),(none::(some (.box [.d yK i] true false)::(none::(some (.box [.d yI j] false false)::(zo 37 [])))))⟩) fun st => eC R pol_Z8 N [1,0,1,0,0,1,1,0,0,1,0,1] F_Z8 st (kS R pol_Z8 6 N [1,0,1,0,0,1,1,0,0,1,1] F_Z8 (kB R pol_Z8 1 (kS R pol_Z8 8 N [1,0,1,0,0,1,1,1] F_Z8 (kL R pol_Z8 2 N [1,0,1,0,0] F_Z8 a (kB R pol_Z8 0 (kS R pol_Z8 9 N [1,1] F_Z8 (kTop E sg_Z8 F_Z8)))))))
noncomputable def Z8.l0 (R:Run) (N n:Nat) (a:vK) (b e:Int) (f:vK):Option Dv := R.w (some ⟨(V.dead::(.c (.box 1 0)::(zd 4 (.c (.d yK a)::(.c (.d yI b)::(.c (.d yI e)::(zd 31 []))))))),(none::(some (.box [.d yK f] true false)::(zo 39 [])))⟩) fun st => lC R pol_Z8 2 N [1,0,1,0,0] F_Z8 n st (kB R pol_Z8 0 (kS R pol_Z8 9 N [1,1] F_Z8 (kTop E sg_Z8 F_Z8)))
theorem Z8.j1_eq (R:Run) (hw:R.ok) (N a:Nat) (b:(List Int)) (c:vK) (d e:Int) (f:Bool) (g:vK) (h:Int):Z8.j1 R N a b c d e f g h = (bif f then some ⟨o_Z8,(false,())⟩ else ((callT R n_Z31 o_Z31 [⟨yL,b⟩]).bind fun r14 => ((callT R n_Z86 o_Z86 [⟨yK,r14.1⟩,⟨(.fn n_Z9 (.cons (.ptr (.cons yK .nil)) (.cons (.ptr (.cons yI .nil)) .nil))),((g,()),(h,()),())⟩]).bind fun r15 => (bif r15.1 then some ⟨o_Z8,(false,())⟩ else (Z8.l0 R N a c d (w64 (e + (1:Int))) g))))) := (hw _ _).trans (by kernel_rfl)
theorem Z8.l0_succ (R:Run) (hw:R.ok) (N n:Nat) (a:vK) (b c:Int) (d:vK):Z8.l0 R N (n + 1) a b c d = (bif (decide (c < b)) then ((idx? a c).bind fun y5 => ((callT R n_Z11 o_Z11 [⟨yL,(y5,()).1⟩]).bind fun r6 => (bif (!r6.1) then (Z8.j1 R N n ((y5,()).1) a b c true d c) else (bif (decide (c > (0:Int))) then ((idx? d (w64 (c - (1:Int)))).bind fun y20 => ((callT R n_Z23 o_Z23 [⟨yL,(y20,()).1⟩,⟨yL,(y5,()).1⟩]).bind fun r21 => (Z8.j1 R N n ((y5,()).1) a b c (decide (r21.1 ≥ (0:Int))) d c))) else (Z8.j1 R N n ((y5,()).1) a b c false d c))))) else some ⟨o_Z8,((decide ((List.length d:Int) ≤ (48:Int))),())⟩) := (hw _ _).trans (by kernel_rfl)
theorem Z8.ev (R:Run) (N:Nat) (a0:vK):evFn E R sg_Z8 pol_Z8 F_Z8 N [⟨yK,a0⟩] = (Z8.l0 R N N a0 (List.length a0:Int) (0:Int) a0) := by kernel_rfl
noncomputable def Z10.l0 (R:Run) (N n:Nat) (a b:Int):Option Dv := R.w (some ⟨(.c (.d yI a)::(V.dead::(V.dead::(.c (.d yI b)::(zd 14 []))))),(zo 19 [])⟩) fun st => lC R pol_Z10 4 N [1,1,0,1,0,0] F_Z10 n st (kB R pol_Z10 0 (kS R pol_Z10 8 N [1,1,1] F_Z10 (kTop E sg_Z10 F_Z10)))
theorem Z10.l0_succ (R:Run) (hw:R.ok) (N n:Nat) (a b:Int):Z10.l0 R N (n + 1) a b = (bif (decide ((w64 (b * b)) ≤ a)) then ((chk (b != 0)).bind fun _ => (bif ((Int.tmod a b) == (0:Int)) then some ⟨o_Z10,(false,())⟩ else (Z10.l0 R N n a (w64 (b + (1:Int)))))) else some ⟨o_Z10,(true,())⟩) := (hw _ _).trans (by kernel_rfl)
theorem Z10.ev (R:Run) (N:Nat) (a0:Int):evFn E R sg_Z10 pol_Z10 F_Z10 N [⟨yI,a0⟩] = ((callT R n_Z63 o_Z63 [⟨yI,a0⟩,⟨yI,(2:Int)⟩,⟨yI,(251:Int)⟩]).bind fun r1 => (bif (!r1.1) then some ⟨o_Z10,(false,())⟩ else (Z10.l0 R N N a0 (2:Int)))) := by kernel_rfl
theorem Z41.ev (R:Run) (N:Nat) (a0:Int):evFn E R sg_Z41 pol_Z41 F_Z41 N [⟨yI,a0⟩] = ((callT R n_Z63 o_Z63 [⟨yI,a0⟩,⟨yI,(0:Int)⟩,⟨yI,(3:Int)⟩]).bind fun r1 => some ⟨o_Z41,(r1.1,())⟩) := by kernel_rfl
theorem Z57.ev (R:Run) (N:Nat) (a0:(List Int)):evFn E R sg_Z57 pol_Z57 F_Z57 N [⟨yL,a0⟩] = some ⟨o_Z57,((List.length a0:Int),())⟩ := by kernel_rfl
noncomputable def Z55.l0 (R:Run) (N n:Nat) (a:Int) (b:vK) (e f:Int) (g:(List Int)):Option Dv := R.w (some ⟨(V.dead::(.c (.d yI a)::(zd 3 (.c (.arr 24)::(zd 3 (.c (.d yK b)::(.c (.d yI e)::(.c (.d yI f)::(zd 15 []))))))))),(zo 24 (some (.arr yI g true false false)::(zo 4 [])))⟩) fun st => lC R pol_Z55 3 N [1,1,0,1,0,0] F_Z55 n st (kB R pol_Z55 0 (kS R pol_Z55 8 N [1,1,1] F_Z55 (kTop E sg_Z55 F_Z55)))
theorem Z55.l0_succ (R:Run) (hw:R.ok) (N n:Nat) (a:Int) (b:vK) (c d:Int) (e:(List Int)):Z55.l0 R N (n + 1) a b c d e = (bif (decide (d < c)) then ((idx? b d).bind fun y6 => ((callT R n_Z57 o_Z57 [⟨yL,(y6,()).1⟩]).bind fun r7 => (bif (r7.1 == (w64 (a + (1:Int)))) then ((chk (decide ((List.length e + List.length [d]) * 8 ≤ 70368744177664))).bind fun _ => (Z55.l0 R N n a b c (w64 (d + (1:Int))) (e ++ [d]))) else (Z55.l0 R N n a b c (w64 (d + (1:Int))) e)))) else some ⟨o_Z55,(e,())⟩) := (hw _ _).trans (by kernel_rfl)
theorem Z55.ev (R:Run) (N:Nat) (a0:vK) (a1:Int):evFn E R sg_Z55 pol_Z55 F_Z55 N [⟨yK,a0⟩,⟨yI,a1⟩] = (Z55.l0 R N N a1 a0 (List.length a0:Int) (0:Int) ([]:List Int)) := by kernel_rfl
noncomputable def Z20.l1 (R:Run) (N n:Nat) (a b:Int) (e:vK):Option Dv := R.w (some ⟨(V.dead::(.c (.d yI a)::(V.dead::(.c (.box 3 0)::(zd 3 (.c (.d yI b)::(zd 26 []))))))),(zo 3 (some (.box [.d yK e] false false)::(zo 33 [])))⟩) fun st => lC R pol_Z20 6 N [1,1,0,1,0,0] F_Z20 n st (kB R pol_Z20 1 (kS R pol_Z20 10 N [1,1,1] F_Z20 (kTop E sg_Z20 F_Z20)))
noncomputable def Z20.j0 (R:Run) (N:Nat) (a:Int) (b:Bool) (e:vK):Option Dv := R.w (some ⟨(V.dead::(.c (.d yI a)::(V.dead::(.c (.box 3 0)::(zd 4 (.c (.d .bool b)::(zd 25 []))))))),(zo 3 (some (.box [.d yK e] false false)::(zo 33 [])))⟩) fun st => eC R pol_Z20 N [1,0,0,1] F_Z20 st (kB R pol_Z20 0 (kS R pol_Z20 5 N [1,1] F_Z20 (kTop E sg_Z20 F_Z20)))
theorem Z20.l1_succ (R:Run) (hw:R.ok) (N n:Nat) (a b:Int) (c:vK):Z20.l1 R N (n + 1) a b c = (bif (decide (b ≤ (w64 (a + (1:Int))))) then ((callT R n_Z55 o_Z55 [⟨yK,c⟩,⟨yI,b⟩]).bind fun r9 => (bif (decide ((List.length r9.1:Int) > (32:Int))) then some ⟨o_Z20,((5:Int),())⟩ else (Z20.l1 R N n a (w64 (b + (1:Int))) c))) else some ⟨o_Z20,((0:Int),())⟩) := (hw _ _).trans (by kernel_rfl)
theorem Z20.j0_eq (R:Run) (hw:R.ok) (N:Nat) (a:Int) (b:Bool) (c:vK):Z20.j0 R N a b c = (bif b then some ⟨o_Z20,((1:Int),())⟩ else ((callT R n_Z41 o_Z41 [⟨yI,a⟩]).bind fun r5 => (bif (!r5.1) then some ⟨o_Z20,((2:Int),())⟩ else (Z20.l1 R N N a (w64 (a - (1:Int))) c)))) := (hw _ _).trans (by kernel_rfl)
theorem Z20.ev (R:Run) (N:Nat) (a0:vK) (a1 a2:Int):evFn E R sg_Z20 pol_Z20 F_Z20 N [⟨yK,a0⟩,⟨yI,a1⟩,⟨yI,a2⟩] = ((callT R n_Z8 o_Z8 [⟨yK,a0⟩]).bind fun r1 => (bif (!r1.1) then (Z20.j0 R N a1 true a0) else ((callT R n_Z10 o_Z10 [⟨yI,a2⟩]).bind fun r13 => (Z20.j0 R N a1 (!r13.1) a0)))) := by kernel_rfl
theorem Z42.ev (R:Run) (N:Nat) (a0 a1:Int):evFn E R sg_Z42 pol_Z42 F_Z42 N [⟨yI,a0⟩,⟨yI,a1⟩] = ((callT R n_Z63 o_Z63 [⟨yI,a0⟩,⟨yI,(0:Int)⟩,⟨yI,(w64 (a1 - (1:Int)))⟩]).bind fun r1 => some ⟨o_Z42,(r1.1,())⟩) := by kernel_rfl
theorem Z17.ev (R:Run) (N:Nat) (a0:Int) (a1:(Int × Unit)):evFn E R sg_Z17 pol_Z17 F_Z17 N [⟨yI,a0⟩,⟨(.ptr (.cons yI .nil)),a1⟩] = ((callT R n_Z42 o_Z42 [⟨yI,a0⟩,⟨yI,a1.1⟩]).bind fun r1 => some ⟨o_Z17,((!r1.1),())⟩) := by kernel_rfl
noncomputable def Z100.l0 (R:Run) (N n:Nat) (a:(List Int)) (b:((Int × Unit) × Unit)) (e f:Int):Option Dv := R.w (some ⟨(.c (.d yL a)::(.c (.d (.fn n_Z17 (.cons (.ptr (.cons yI .nil)) .nil)) b)::(zd 5 (.c (.d yI e)::(.c (.d yI f)::(zd 10 [])))))),(zo 21 [])⟩) fun st => q1_7 R N n st (q1_9 R (q1_0 R N (kTop E sg_Z98 F_Z98)))
theorem Z100.l0_succ (R:Run) (hw:R.ok) (N n:Nat) (a:(List Int)) (b:((Int × Unit) × Unit)) (c d:Int):Z100.l0 R N (n + 1) a b c d = (bif (decide (d < c)) then ((idx? a d).bind fun y5 => ((callT R n_Z17 o_Z17 [⟨yI,(y5,()).1⟩,⟨(.ptr (.cons yI .nil)),b.1⟩]).bind fun r6 => (bif r6.1 then some ⟨o_Z98,(d,())⟩ else (Z100.l0 R N n a b c (w64 (d + (1:Int))))))) else some ⟨o_Z98,((-1:Int),())⟩) := (hw _ _).trans (by kernel_rfl)
theorem Z100.ev (R:Run) (N:Nat) (a0:(List Int)) (a1:((Int × Unit) × Unit)):evFn E R sg_Z98 pol_Z98 F_Z98 N [⟨yL,a0⟩,⟨(.fn n_Z17 (.cons (.ptr (.cons yI .nil)) .nil)),a1⟩] = (Z100.l0 R N N a0 a1 (List.length a0:Int) (0:Int)) := by kernel_rfl
theorem Z90.ev (R:Run) (N:Nat) (a0:(List Int)) (a1:((Int × Unit) × Unit)):evFn E R sg_Z88 pol_Z88 F_Z88 N [⟨yL,a0⟩,⟨(.fn n_Z17 (.cons (.ptr (.cons yI .nil)) .nil)),a1⟩] = ((callT R n_Z98 o_Z98 [⟨yL,a0⟩,⟨(.fn n_Z17 (.cons (.ptr (.cons yI .nil)) .nil)),a1⟩]).bind fun r1 => some ⟨o_Z88,((decide (r1.1 ≥ (0:Int))),())⟩) := by kernel_rfl
theorem Z16.ev (R:Run) (N:Nat) (a0:(List Int)) (a1:Int):evFn E R sg_Z16 pol_Z16 F_Z16 N [⟨yL,a0⟩,⟨yI,a1⟩] = ((callT R n_Z88 o_Z88 [⟨yL,a0⟩,⟨(.fn n_Z17 (.cons (.ptr (.cons yI .nil)) .nil)),((a1,()),())⟩]).bind fun r1 => some ⟨o_Z16,((!r1.1),())⟩) := by kernel_rfl
theorem Z44.ev (R:Run) (N:Nat) (a0:(List Int)) (a1 a2:Int):evFn E R sg_Z44 pol_Z44 F_Z44 N [⟨yL,a0⟩,⟨yI,a1⟩,⟨yI,a2⟩] = ((callT R n_Z57 o_Z57 [⟨yL,a0⟩]).bind fun r1 => (bif (r1.1 == a1) then ((callT R n_Z16 o_Z16 [⟨yL,a0⟩,⟨yI,a2⟩]).bind fun r2 => some ⟨o_Z44,(r2.1,())⟩) else some ⟨o_Z44,(false,())⟩)) := by kernel_rfl
theorem Z39.ev (R:Run) (N:Nat) (a0:vK) (a1 a2:Int) (a3:(List Int)):evFn E R sg_Z39 pol_Z39 F_Z39 N [⟨yK,a0⟩,⟨yI,a1⟩,⟨yI,a2⟩,⟨yL,a3⟩] = ((callT R n_Z55 o_Z55 [⟨yK,a0⟩,⟨yI,a1⟩]).bind fun r1 => ((callT R n_Z57 o_Z57 [⟨yL,r1.1⟩]).bind fun r2 => ((callT R n_Z44 o_Z44 [⟨yL,a3⟩,⟨yI,r2.1⟩,⟨yI,a2⟩]).bind fun r3 => some ⟨o_Z39,(r3.1,())⟩))) := by kernel_rfl
theorem Z62.ev (R:Run) (N:Nat) (a0:vK) (a1 a2:Int) (a3:(List Int)):evFn E R sg_Z62 pol_Z62 F_Z62 N [⟨yK,a0⟩,⟨yI,a1⟩,⟨yI,a2⟩,⟨yL,a3⟩] = ((callT R n_Z20 o_Z20 [⟨yK,a0⟩,⟨yI,a1⟩,⟨yI,a2⟩]).bind fun r1 => (bif (r1.1 != (0:Int)) then some ⟨o_Z62,(r1.1,())⟩ else ((callT R n_Z39 o_Z39 [⟨yK,a0⟩,⟨yI,a1⟩,⟨yI,a2⟩,⟨yL,a3⟩]).bind fun r2 => (bif (!r2.1) then some ⟨o_Z62,((7:Int),())⟩ else some ⟨o_Z62,((0:Int),())⟩)))) := by kernel_rfl
theorem Z65.ev (R:Run) (N:Nat) (a0 a1:Int):evFn E R sg_Z65 pol_Z65 F_Z65 N [⟨yI,a0⟩,⟨yI,a1⟩] = some ⟨o_Z65,((0:Int),())⟩ := by kernel_rfl
noncomputable def Z34.l1 (R:Run) (N a n:Nat) (b e f g h i j k l m o p:Int) (q:(List Int)):Option Dv := R.w (some ⟨(V.dead::(V.dead::(.c (.d yI b)::(.c (.d (.fn n_Z65 .nil) ())::(zd 4 (.c (.box 8 0)::(.c (.box 9 0)::(.c (.d yI e)::(zd 5 (.c (.d yI f)::(.c (.d yI g)::(V.dead::(V.dead::(.c (.d yI h)::(.c (.d yI i)::(zd 14 [])))))))))))))))),(zo 8 (some (.box [.d yI j,.d yI k,.d yI l,.nils yI] false false)::(some (.box [.d yI m,.d yI o,.d yI p,.arr 31] false false)::(zo 21 (some (.arr yI q true false false)::(zo 8 []))))))⟩) fun st => lC R pol_Z32 6 N [1,1,0,1,0,0,1,1,0,0,1,1,0,0] F_Z32 n st (kB R pol_Z32 2 (kB R pol_Z32 1 (kS R pol_Z32 10 N [1,1,0,1,0,0,1,1,1] F_Z32 (kL R pol_Z32 3 N [1,1,0,1,0,0] F_Z32 a (kB R pol_Z32 0 (q1_2 R N (kTop E sg_Z32 F_Z32)))))))
noncomputable def Z34.l0 (R:Run) (N n:Nat) (a b e f g h i j k:Int) (l:(List Int)):Option Dv := R.w (some ⟨(V.dead::(V.dead::(.c (.d yI a)::(.c (.d (.fn n_Z65 .nil) ())::(zd 4 (.c (.box 8 0)::(.c (.box 9 0)::(zd 6 (.c (.d yI b)::(.c (.d yI e)::(zd 18 []))))))))))),(zo 8 (some (.box [.d yI f,.d yI g,.d yI h,.nils yI] false false)::(some (.box [.d yI i,.d yI j,.d yI k,.arr 31] false false)::(zo 21 (some (.arr yI l true false false)::(zo 8 []))))))⟩) fun st => lC R pol_Z32 3 N [1,1,0,1,0,0] F_Z32 n st (kB R pol_Z32 0 (q1_2 R N (kTop E sg_Z32 F_Z32)))
theorem Z34.l1_succ (R:Run) (hw:R.ok) (N a n:Nat) (b c d e f g h i j k l m:Int) (o:(List Int)):Z34.l1 R N a (n + 1) b c d e f g h i j k l m o = (bif (decide (g < f)) then ((callT R n_Z65 o_Z65 [⟨yI,c⟩,⟨yI,g⟩]).bind fun r24 => ((chk (decide ((List.length o + List.length [r24.1]) * 8 ≤ 70368744177664))).bind fun _ => (Z34.l1 R N a n b c d e f (w64 (g + (1:Int))) h i j k l m (o ++ [r24.1])))) else (Z34.l0 R N a b d (w64 (e + (1:Int))) h i j k l m o)) := (hw _ _).trans (by kernel_rfl)
theorem Z34.l0_succ (R:Run) (hw:R.ok) (N n:Nat) (a b c d e f g h i:Int) (j:(List Int)):Z34.l0 R N (n + 1) a b c d e f g h i j = (bif (decide (c < b)) then (Z34.l1 R N n N a c b c a (0:Int) d e f g h i j) else some ⟨o_Z32,(g,h,i,j,())⟩) := (hw _ _).trans (by kernel_rfl)
theorem Z34.ev (R:Run) (N:Nat) (a0 a1 a2:Int):evFn E R sg_Z32 pol_Z32 F_Z32 N [⟨yI,a0⟩,⟨yI,a1⟩,⟨yI,a2⟩,⟨(.fn n_Z65 .nil),()⟩] = (Z34.l0 R N N a2 a1 (0:Int) (0:Int) (0:Int) (0:Int) a0 a1 a2 ([]:List Int)) := by kernel_rfl
theorem Z64.ev (R:Run) (N:Nat) (a0 a1 a2:Int):evFn E R sg_Z64 pol_Z64 F_Z64 N [⟨yI,a0⟩,⟨yI,a1⟩,⟨yI,a2⟩] = ((callT R n_Z32 o_Z32 [⟨yI,a0⟩,⟨yI,a1⟩,⟨yI,a2⟩,⟨(.fn n_Z65 .nil),()⟩]).bind fun r1 => some ⟨o_Z64,(r1.1,r1.2.1,r1.2.2.1,r1.2.2.2.1,())⟩) := by kernel_rfl
noncomputable def Z30.l0 (R:Run) (N n:Nat) (a:vK) (b e:Int) (f:vK) (g:(List Int)):Option Dv := R.w (some ⟨(V.dead::(V.dead::(.c (.box 2 0)::(V.dead::(V.dead::(.c (.arr 24)::(zd 7 (.c (.d yK a)::(.c (.d yI b)::(.c (.d yI e)::(zd 11 []))))))))))),(none::(none::(some (.box [.d yK f] false false)::(zo 21 (some (.arr yI g true false false)::(zo 4 []))))))⟩) fun st => lC R pol_Z30 3 N [1,1,0,1,0,0] F_Z30 n st (kB R pol_Z30 0 (kS R pol_Z30 7 N [1,1,1] F_Z30 (kTop E sg_Z30 F_Z30)))
theorem Z30.l0_succ (R:Run) (hw:R.ok) (N n:Nat) (a:vK) (b c:Int) (d:vK) (e:(List Int)):Z30.l0 R N (n + 1) a b c d e = (bif (decide (c < b)) then ((idx? a c).bind fun y8 => ((callT R n_Z37 o_Z37 [⟨yK,d⟩,⟨yL,(y8,()).1⟩]).bind fun r9 => ((chk (decide ((List.length e + List.length [r9.1]) * 8 ≤ 70368744177664))).bind fun _ => (Z30.l0 R N n a b (w64 (c + (1:Int))) d (e ++ [r9.1]))))) else some ⟨o_Z30,(e,())⟩) := (hw _ _).trans (by kernel_rfl)
theorem Z30.ev (R:Run) (N:Nat) (a0:vK) (a1:Int):evFn E R sg_Z30 pol_Z30 F_Z30 N [⟨yK,a0⟩,⟨yI,a1⟩] = ((idx? a0 a1).bind fun y1 => ((callT R n_Z31 o_Z31 [⟨yL,(y1,()).1⟩]).bind fun r2 => (Z30.l0 R N N r2.1 (List.length r2.1:Int) (0:Int) a0 ([]:List Int)))) := by kernel_rfl
noncomputable def Z103.l0 (R:Run) (N n:Nat) (a:(List Int)) (b e f:Int):Option Dv := R.w (some ⟨(.c (.d yL a)::(.c (.d yI b)::(zd 5 (.c (.d yI e)::(.c (.d yI f)::(zd 10 [])))))),(zo 21 [])⟩) fun st => lC R pol_Z103 2 N [1,0,1,0,0] F_Z103 n st (kB R pol_Z103 0 (kS R pol_Z103 7 N [1,1] F_Z103 (kTop E sg_Z103 F_Z103)))
theorem Z103.l0_succ (R:Run) (hw:R.ok) (N n:Nat) (a:(List Int)) (b c d:Int):Z103.l0 R N (n + 1) a b c d = (bif (decide (d < c)) then ((idx? a d).bind fun y5 => (bif (b == (y5,()).1) then some ⟨o_Z103,(d,())⟩ else (Z103.l0 R N n a b c (w64 (d + (1:Int)))))) else some ⟨o_Z103,((-1:Int),())⟩) := (hw _ _).trans (by kernel_rfl)
theorem Z103.ev (R:Run) (N:Nat) (a0:(List Int)) (a1:Int):evFn E R sg_Z103 pol_Z103 F_Z103 N [⟨yL,a0⟩,⟨yI,a1⟩] = (Z103.l0 R N N a0 a1 (List.length a0:Int) (0:Int)) := by kernel_rfl
theorem Z14.ev (R:Run) (N:Nat) (a0 a1:Int):evFn E R sg_Z14 pol_Z14 F_Z14 N [⟨yI,a0⟩,⟨yI,a1⟩] = (bif ((Int.tmod a0 (2:Int)) == (0:Int)) then some ⟨o_Z14,((1:Int),())⟩ else some ⟨o_Z14,((w64 (a1 - (1:Int))),())⟩) := by kernel_rfl
noncomputable def Z19.l1 (R:Run) (N a n:Nat) (b:Int) (e f:(List Int)) (g:Int) (h:(List Int)) (i j:Int) (k:(List Int)) (l m:Int) (o:vK) (p q r s t u:Int) (v:(List Int)):Option Dv := R.w (some ⟨(V.dead::(V.dead::(.c (.d yI b)::(.c (.box 3 0)::(V.dead::(V.dead::(.c (.box 6 0)::(.c (.d yL e)::(.c (.d yL f)::(.c (.box 9 0)::(.c (.d yI g)::(zd 17 (.c (.d yL h)::(.c (.d yI i)::(.c (.d yI j)::(zd 6 (.c (.d yL k)::(.c (.d yI l)::(.c (.d yI m)::(zd 22 [])))))))))))))))))))),(zo 3 (some (.box [.d yK o] false false)::(none::(none::(some (.box [.d yI p,.d yI q,.d yI r,.nils yI] false false)::(none::(none::(some (.box [.d yI s,.d yI t,.d yI u,.arr 65] false false)::(zo 55 (some (.arr yI v true false false)::[]))))))))))⟩) fun st => lC R pol_Z19 7 N [1,1,1,0,1,0,0,1,1,0,0,1,1,0,0] F_Z19 n st (kB R pol_Z19 2 (kB R pol_Z19 1 (kS R pol_Z19 12 N [1,1,1,0,1,0,0,1,1,1] F_Z19 (kL R pol_Z19 4 N [1,1,1,0,1,0,0] F_Z19 a (kB R pol_Z19 0 (kS R pol_Z19 13 N [1,1,1,1] F_Z19 (kTop E sg_Z19 F_Z19)))))))
noncomputable def Z19.l0 (R:Run) (N n:Nat) (a:Int) (b e f:(List Int)) (g h:Int) (i:vK) (j k l m o p:Int) (q:(List Int)):Option Dv := R.w (some ⟨(V.dead::(V.dead::(.c (.d yI a)::(.c (.box 3 0)::(V.dead::(V.dead::(.c (.box 6 0)::(.c (.d yL b)::(.c (.d yL e)::(.c (.box 9 0)::(zd 18 (.c (.d yL f)::(.c (.d yI g)::(.c (.d yI h)::(zd 31 []))))))))))))))),(zo 3 (some (.box [.d yK i] false false)::(none::(none::(some (.box [.d yI j,.d yI k,.d yI l,.nils yI] false false)::(none::(none::(some (.box [.d yI m,.d yI o,.d yI p,.arr 65] false false)::(zo 55 (some (.arr yI q true false false)::[]))))))))))⟩) fun st => lC R pol_Z19 4 N [1,1,1,0,1,0,0] F_Z19 n st (kB R pol_Z19 0 (kS R pol_Z19 13 N [1,1,1,1] F_Z19 (kTop E sg_Z19 F_Z19)))
theorem Z19.l1_succ (R:Run) (hw:R.ok) (N a n:Nat) (b:Int) (c d:(List Int)) (e:Int) (f:(List Int)) (g h:Int) (i:(List Int)) (j k:Int) (l:vK) (m o p q r s:Int) (t:(List Int)):Z19.l1 R N a (n + 1) b c d e f g h i j k l m o p q r s t = (bif (decide (k < j)) then ((idx? i k).bind fun y40 => ((callT R n_Z103 o_Z103 [⟨yL,c⟩,⟨yI,(y40,()).1⟩]).bind fun r41 => ((callT R n_Z14 o_Z14 [⟨yI,k⟩,⟨yI,b⟩]).bind fun r42 => ((chk (decide (0 ≤ (w64 ((w64 (r41.1 * (List.length d:Int))) + e))) && decide ((w64 ((w64 (r41.1 * (List.length d:Int))) + e)) < (List.length t:Int)))).bind fun _ => (Z19.l1 R N a n b c d e f g h i j (w64 (k + (1:Int))) l m o p q r s (List.set t (Int.toNat (w64 ((w64 (r41.1 * (List.length d:Int))) + e))) r42.1)))))) else (Z19.l0 R N a b c d f g (w64 (h + (1:Int))) l m o p q r s t)) := (hw _ _).trans (by kernel_rfl)
theorem Z19.l0_succ (R:Run) (hw:R.ok) (N n:Nat) (a:Int) (b c d:(List Int)) (e f:Int) (g:vK) (h i j k l m:Int) (o:(List Int)):Z19.l0 R N (n + 1) a b c d e f g h i j k l m o = (bif (decide (f < e)) then ((idx? d f).bind fun y20 => ((callT R n_Z30 o_Z30 [⟨yK,g⟩,⟨yI,(y20,()).1⟩]).bind fun r21 => (Z19.l1 R N n N a b c f d e f r21.1 (List.length r21.1:Int) (0:Int) g h i j k l m o))) else some ⟨o_Z19,(k,l,m,o,())⟩) := (hw _ _).trans (by kernel_rfl)
theorem Z19.ev (R:Run) (N:Nat) (a0:vK) (a1 a2:Int):evFn E R sg_Z19 pol_Z19 F_Z19 N [⟨yK,a0⟩,⟨yI,a1⟩,⟨yI,a2⟩] = ((callT R n_Z55 o_Z55 [⟨yK,a0⟩,⟨yI,(w64 (a1 - (1:Int)))⟩]).bind fun r1 => ((callT R n_Z55 o_Z55 [⟨yK,a0⟩,⟨yI,a1⟩]).bind fun r2 => ((callT R n_Z57 o_Z57 [⟨yL,r1.1⟩]).bind fun r3 => ((callT R n_Z57 o_Z57 [⟨yL,r2.1⟩]).bind fun r4 => ((callT R n_Z64 o_Z64 [⟨yI,a2⟩,⟨yI,r3.1⟩,⟨yI,r4.1⟩]).bind fun r5 => (Z19.l0 R N N a2 r1.1 r2.1 r2.1 (List.length r2.1:Int) (0:Int) a0 (0:Int) (0:Int) (0:Int) r5.1 r5.2.1 r5.2.2.1 r5.2.2.2.1)))))) := by kernel_rfl
theorem Z7.ev (R:Run) (N:Nat) (a0 a1 a2:Int) (a3:(List Int)) (a4:Int):evFn E R sg_Z7 pol_Z7 F_Z7 N [⟨yI,a0⟩,⟨yI,a1⟩,⟨yI,a2⟩,⟨yL,a3⟩,⟨yI,a4⟩] = ((chk (decide (0 ≤ (w64 (a4 * a2))) && decide ((w64 (a4 * a2)) ≤ (w64 ((w64 (a4 + (1:Int))) * a2))) && decide ((w64 ((w64 (a4 + (1:Int))) * a2)) ≤ (List.length a3:Int)))).bind fun _ => some ⟨o_Z7,((List.drop (Int.toNat (w64 (a4 * a2))) (List.take (Int.toNat (w64 ((w64 (a4 + (1:Int))) * a2))) a3)),())⟩) := by kernel_rfl
noncomputable def Z27.l0 (R:Run) (N n:Nat) (a b:(List Int)) (e f g h:Int):Option Dv := R.w (some ⟨(.c (.d yL a)::(.c (.d yL b)::(.c (.d yI e)::(zd 4 (.c (.d yI f)::(V.dead::(V.dead::(.c (.d yI g)::(.c (.d yI h)::(zd 17 [])))))))))),(zo 32 [])⟩) fun st => lC R pol_Z27 3 N [1,1,0,1,0,0] F_Z27 n st (kB R pol_Z27 0 (kS R pol_Z27 7 N [1,1,1] F_Z27 (kTop E sg_Z27 F_Z27)))
theorem Z27.l0_succ (R:Run) (hw:R.ok) (N n:Nat) (a b:(List Int)) (c d e f:Int):Z27.l0 R N (n + 1) a b c d e f = (bif (decide (f < e)) then ((idx? a f).bind fun y7 => ((idx? b f).bind fun y8 => ((chk (c != 0)).bind fun _ => (Z27.l0 R N n a b c (Int.tmod (w64 (d + (w64 ((y7,()).1 * (y8,()).1)))) c) e (w64 (f + (1:Int))))))) else some ⟨o_Z27,(d,())⟩) := (hw _ _).trans (by kernel_rfl)
theorem Z27.ev (R:Run) (N:Nat) (a0 a1:(List Int)) (a2:Int):evFn E R sg_Z27 pol_Z27 F_Z27 N [⟨yL,a0⟩,⟨yL,a1⟩,⟨yI,a2⟩] = (Z27.l0 R N N a0 a1 a2 (0:Int) (List.length a0:Int) (0:Int)) := by kernel_rfl
noncomputable def Z15.l0 (R:Run) (N n:Nat) (a:(List Int)) (b e f g h:Int) (i j:(List Int)):Option Dv := R.w (some ⟨(V.dead::(.c (.d yL a)::(.c (.box 2 0)::(V.dead::(V.dead::(.c (.arr 21)::(V.dead::(V.dead::(.c (.d yI b)::(.c (.d yI e)::(zd 14 []))))))))))),(none::(none::(some (.box [.d yI f,.d yI g,.d yI h,.d yL i] false false)::(zo 18 (some (.arr yI j true false false)::(zo 7 []))))))⟩) fun st => lC R pol_Z15 3 N [1,1,0,1,0,0] F_Z15 n st (kB R pol_Z15 0 (kS R pol_Z15 7 N [1,1,1] F_Z15 (kTop E sg_Z15 F_Z15)))
theorem Z15.l0_succ (R:Run) (hw:R.ok) (N n:Nat) (a:(List Int)) (b c d e f:Int) (g h:(List Int)):Z15.l0 R N (n + 1) a b c d e f g h = (bif (decide (c < b)) then ((callT R n_Z7 o_Z7 [⟨yI,d⟩,⟨yI,e⟩,⟨yI,f⟩,⟨yL,g⟩,⟨yI,c⟩]).bind fun r9 => ((callT R n_Z27 o_Z27 [⟨yL,r9.1⟩,⟨yL,a⟩,⟨yI,d⟩]).bind fun r10 => ((chk (decide ((List.length h + List.length [r10.1]) * 8 ≤ 70368744177664))).bind fun _ => (Z15.l0 R N n a b (w64 (c + (1:Int))) d e f g (h ++ [r10.1]))))) else some ⟨o_Z15,(h,())⟩) := (hw _ _).trans (by kernel_rfl)
theorem Z15.ev (R:Run) (N:Nat) (a0 a1 a2:Int) (a3 a4:(List Int)):evFn E R sg_Z15 pol_Z15 F_Z15 N [⟨yI,a0⟩,⟨yI,a1⟩,⟨yI,a2⟩,⟨yL,a3⟩,⟨yL,a4⟩] = (Z15.l0 R N N a4 a1 (0:Int) a0 a1 a2 a3 ([]:List Int)) := by kernel_rfl
theorem Z47.ev (R:Run) (N:Nat) (a0:Int):evFn E R sg_Z47 pol_Z47 F_Z47 N [⟨yI,a0⟩] = some ⟨o_Z47,((a0 != (0:Int)),())⟩ := by kernel_rfl
noncomputable def Z101.l0 (R:Run) (N n:Nat) (a:(List Int)) (b e:Int):Option Dv := R.w (some ⟨(.c (.d yL a)::(.c (.d (.fn n_Z47 .nil) ())::(zd 5 (.c (.d yI b)::(.c (.d yI e)::(zd 10 [])))))),(zo 21 [])⟩) fun st => q1_7 R N n st (q1_9 R (q1_0 R N (kTop E sg_Z98 F_Z98)))
theorem Z101.l0_succ (R:Run) (hw:R.ok) (N n:Nat) (a:(List Int)) (b c:Int):Z101.l0 R N (n + 1) a b c = (bif (decide (c < b)) then ((idx? a c).bind fun y4 => ((callT R n_Z47 o_Z47 [⟨yI,(y4,()).1⟩]).bind fun r5 => (bif r5.1 then some ⟨o_Z98,(c,())⟩ else (Z101.l0 R N n a b (w64 (c + (1:Int))))))) else some ⟨o_Z98,((-1:Int),())⟩) := (hw _ _).trans (by kernel_rfl)
theorem Z101.ev (R:Run) (N:Nat) (a0:(List Int)):evFn E R sg_Z98 pol_Z98 F_Z98 N [⟨yL,a0⟩,⟨(.fn n_Z47 .nil),()⟩] = (Z101.l0 R N N a0 (List.length a0:Int) (0:Int)) := by kernel_rfl
theorem Z91.ev (R:Run) (N:Nat) (a0:(List Int)):evFn E R sg_Z88 pol_Z88 F_Z88 N [⟨yL,a0⟩,⟨(.fn n_Z47 .nil),()⟩] = ((callT R n_Z98 o_Z98 [⟨yL,a0⟩,⟨(.fn n_Z47 .nil),()⟩]).bind fun r1 => some ⟨o_Z88,((decide (r1.1 ≥ (0:Int))),())⟩) := by kernel_rfl
theorem Z46.ev (R:Run) (N:Nat) (a0:(List Int)):evFn E R sg_Z46 pol_Z46 F_Z46 N [⟨yL,a0⟩] = ((callT R n_Z88 o_Z88 [⟨yL,a0⟩,⟨(.fn n_Z47 .nil),()⟩]).bind fun r1 => some ⟨o_Z46,((!r1.1),())⟩) := by kernel_rfl
theorem Z40.ev (R:Run) (N:Nat) (a0:vK) (a1 a2:Int) (a3:(List Int)):evFn E R sg_Z40 pol_Z40 F_Z40 N [⟨yK,a0⟩,⟨yI,a1⟩,⟨yI,a2⟩,⟨yL,a3⟩] = ((callT R n_Z19 o_Z19 [⟨yK,a0⟩,⟨yI,a1⟩,⟨yI,a2⟩]).bind fun r1 => ((callT R n_Z15 o_Z15 [⟨yI,r1.1⟩,⟨yI,r1.2.1⟩,⟨yI,r1.2.2.1⟩,⟨yL,r1.2.2.2.1⟩,⟨yL,a3⟩]).bind fun r2 => ((callT R n_Z46 o_Z46 [⟨yL,r2.1⟩]).bind fun r3 => some ⟨o_Z40,(r3.1,())⟩))) := by kernel_rfl
theorem Z6.ev (R:Run) (N:Nat) (a0 a1 a2:Int) (a3:(List Int)) (a4 a5:Int):evFn E R sg_Z6 pol_Z6 F_Z6 N [⟨yI,a0⟩,⟨yI,a1⟩,⟨yI,a2⟩,⟨yL,a3⟩,⟨yI,a4⟩,⟨yI,a5⟩] = ((idx? a3 (w64 ((w64 (a4 * a2)) + a5))).bind fun y1 => some ⟨o_Z6,((y1,()).1,())⟩) := by kernel_rfl
theorem Z61.ev (R:Run) (N:Nat) (a0 a1:Int) (a2:vM):evFn E R sg_Z61 pol_Z61 F_Z61 N [⟨yI,a0⟩,⟨yI,a1⟩,⟨(.ptr yM),a2⟩] = ((callT R n_Z6 o_Z6 [⟨yI,a2.1⟩,⟨yI,a2.2.1⟩,⟨yI,a2.2.2.1⟩,⟨yL,a2.2.2.2.1⟩,⟨yI,a1⟩,⟨yI,a0⟩]).bind fun r1 => some ⟨o_Z61,(r1.1,())⟩) := by kernel_rfl
noncomputable def Z33.l1 (R:Run) (N a n:Nat) (b:Int) (e:(vM × Unit)) (f g h i j k l m o p q:Int) (r:(List Int)):Option Dv := R.w (some ⟨(V.dead::(V.dead::(.c (.d yI b)::(.c (.d (.fn n_Z61 (.cons (.ptr yM) .nil)) e)::(zd 4 (.c (.box 8 0)::(.c (.box 9 0)::(.c (.d yI f)::(zd 5 (.c (.d yI g)::(.c (.d yI h)::(V.dead::(V.dead::(.c (.d yI i)::(.c (.d yI j)::(zd 14 [])))))))))))))))),(zo 8 (some (.box [.d yI k,.d yI l,.d yI m,.nils yI] false false)::(some (.box [.d yI o,.d yI p,.d yI q,.arr 31] false false)::(zo 21 (some (.arr yI r true false false)::(zo 8 []))))))⟩) fun st => lC R pol_Z32 6 N [1,1,0,1,0,0,1,1,0,0,1,1,0,0] F_Z32 n st (kB R pol_Z32 2 (kB R pol_Z32 1 (kS R pol_Z32 10 N [1,1,0,1,0,0,1,1,1] F_Z32 (kL R pol_Z32 3 N [1,1,0,1,0,0] F_Z32 a (kB R pol_Z32 0 (q1_2 R N (kTop E sg_Z32 F_Z32)))))))
noncomputable def Z33.l0 (R:Run) (N n:Nat) (a:Int) (b:(vM × Unit)) (e f g h i j k l:Int) (m:(List Int)):Option Dv := R.w (some ⟨(V.dead::(V.dead::(.c (.d yI a)::(.c (.d (.fn n_Z61 (.cons (.ptr yM) .nil)) b)::(zd 4 (.c (.box 8 0)::(.c (.box 9 0)::(zd 6 (.c (.d yI e)::(.c (.d yI f)::(zd 18 []))))))))))),(zo 8 (some (.box [.d yI g,.d yI h,.d yI i,.nils yI] false false)::(some (.box [.d yI j,.d yI k,.d yI l,.arr 31] false false)::(zo 21 (some (.arr yI m true false false)::(zo 8 []))))))⟩) fun st => lC R pol_Z32 3 N [1,1,0,1,0,0] F_Z32 n st (kB R pol_Z32 0 (q1_2 R N (kTop E sg_Z32 F_Z32)))
theorem Z33.l1_succ (R:Run) (hw:R.ok) (N a n:Nat) (b:Int) (c:(vM × Unit)) (d e f g h i j k l m o:Int) (p:(List Int)):Z33.l1 R N a (n + 1) b c d e f g h i j k l m o p = (bif (decide (h < g)) then ((callT R n_Z61 o_Z61 [⟨yI,d⟩,⟨yI,h⟩,⟨(.ptr yM),c.1⟩]).bind fun r26 => ((chk (decide ((List.length p + List.length [r26.1]) * 8 ≤ 70368744177664))).bind fun _ => (Z33.l1 R N a n b c d e f g (w64 (h + (1:Int))) i j k l m o (p ++ [r26.1])))) else (Z33.l0 R N a b c e (w64 (f + (1:Int))) i j k l m o p)) := (hw _ _).trans (by kernel_rfl)
theorem Z33.l0_succ (R:Run) (hw:R.ok) (N n:Nat) (a:Int) (b:(vM × Unit)) (c d e f g h i j:Int) (k:(List Int)):Z33.l0 R N (n + 1) a b c d e f g h i j k = (bif (decide (d < c)) then (Z33.l1 R N n N a b d c d a (0:Int) e f g h i j k) else some ⟨o_Z32,(h,i,j,k,())⟩) := (hw _ _).trans (by kernel_rfl)
theorem Z33.ev (R:Run) (N:Nat) (a0 a1 a2:Int) (a3:(vM × Unit)):evFn E R sg_Z32 pol_Z32 F_Z32 N [⟨yI,a0⟩,⟨yI,a1⟩,⟨yI,a2⟩,⟨(.fn n_Z61 (.cons (.ptr yM) .nil)),a3⟩] = (Z33.l0 R N N a2 a3 a1 (0:Int) (0:Int) (0:Int) (0:Int) a0 a1 a2 ([]:List Int)) := by kernel_rfl
theorem Z60.ev (R:Run) (N:Nat) (a0 a1 a2:Int) (a3:(List Int)):evFn E R sg_Z60 pol_Z60 F_Z60 N [⟨yI,a0⟩,⟨yI,a1⟩,⟨yI,a2⟩,⟨yL,a3⟩] = ((callT R n_Z32 o_Z32 [⟨yI,a0⟩,⟨yI,a2⟩,⟨yI,a1⟩,⟨(.fn n_Z61 (.cons (.ptr yM) .nil)),((a0,a1,a2,a3,()),())⟩]).bind fun r1 => some ⟨o_Z60,(r1.1,r1.2.1,r1.2.2.1,r1.2.2.2.1,())⟩) := by kernel_rfl
noncomputable def Z82.j0 (R:Run) (N:Nat) (a:(List Int)) (b:Bool):Option Dv := R.w (some ⟨(.c (.d yL a)::(zd 3 (.c (.d .bool b)::(zd 3 [])))),(zo 9 [])⟩) fun st => eC R pol_Z82 N [1,0,1] F_Z82 st (kS R pol_Z82 3 N [1,1] F_Z82 (kTop E sg_Z82 F_Z82))
theorem Z82.j0_eq (R:Run) (hw:R.ok) (N:Nat) (a:(List Int)) (b:Bool):Z82.j0 R N a b = (bif b then some ⟨o_Z82,(([]:List Int),())⟩ else ((chk (decide ((List.length ([]:List Int) + List.length a) * 8 ≤ 70368744177664))).bind fun _ => some ⟨o_Z82,((([]:List Int) ++ a),())⟩)) := (hw _ _).trans (by kernel_rfl)
theorem Z82.ev (R:Run) (N:Nat) (a0:(List Int)):evFn E R sg_Z82 pol_Z82 F_Z82 N [⟨yL,a0⟩] = (bif (List.isEmpty a0) then (both (Z82.j0 R N a0 true) (Z82.j0 R N a0 false)) else (Z82.j0 R N a0 false)) := by kernel_rfl
noncomputable def Z54.l0 (R:Run) (N n:Nat) (a b e f g:Int) (h:(List Int)) (i:vK):Option Dv := R.w (some ⟨(V.dead::(.c (.box 1 0)::(V.dead::(.c (.arr 16)::(V.dead::(V.dead::(.c (.d yI a)::(.c (.d yI b)::(zd 11 []))))))))),(none::(some (.box [.d yI e,.d yI f,.d yI g,.d yL h] false false)::(zo 14 (some (.arr yL i true false false)::(zo 7 [])))))⟩) fun st => lC R pol_Z54 3 N [1,1,0,1,0,0] F_Z54 n st (kB R pol_Z54 0 (kS R pol_Z54 7 N [1,1,1] F_Z54 (kTop E sg_Z54 F_Z54)))
theorem Z54.l0_succ (R:Run) (hw:R.ok) (N n:Nat) (a b c d e:Int) (f:(List Int)) (g:vK):Z54.l0 R N (n + 1) a b c d e f g = (bif (decide (b < a)) then ((callT R n_Z7 o_Z7 [⟨yI,c⟩,⟨yI,d⟩,⟨yI,e⟩,⟨yL,f⟩,⟨yI,b⟩]).bind fun r8 => ((callT R n_Z82 o_Z82 [⟨yL,r8.1⟩]).bind fun r9 => ((chk (decide ((List.length g + List.length [r9.1]) * 24 ≤ 70368744177664))).bind fun _ => (Z54.l0 R N n a (w64 (b + (1:Int))) c d e f (g ++ [r9.1]))))) else some ⟨o_Z54,(g,())⟩) := (hw _ _).trans (by kernel_rfl)
theorem Z54.ev (R:Run) (N:Nat) (a0 a1 a2:Int) (a3:(List Int)):evFn E R sg_Z54 pol_Z54 F_Z54 N [⟨yI,a0⟩,⟨yI,a1⟩,⟨yI,a2⟩,⟨yL,a3⟩] = (Z54.l0 R N N a1 (0:Int) a0 a1 a2 a3 ([]:List (List Int))) := by kernel_rfl
theorem Z21.ev (R:Run) (N:Nat) (a0 a1 a2:Int) (a3:(List Int)):evFn E R sg_Z21 pol_Z21 F_Z21 N [⟨yI,a0⟩,⟨yI,a1⟩,⟨yI,a2⟩,⟨yL,a3⟩] = ((callT R n_Z60 o_Z60 [⟨yI,a0⟩,⟨yI,a1⟩,⟨yI,a2⟩,⟨yL,a3⟩]).bind fun r1 => ((callT R n_Z54 o_Z54 [⟨yI,r1.1⟩,⟨yI,r1.2.1⟩,⟨yI,r1.2.2.1⟩,⟨yL,r1.2.2.2.1⟩]).bind fun r2 => some ⟨o_Z21,(r2.1,())⟩)) := by kernel_rfl
noncomputable def Z26.l0 (R:Run) (N n:Nat) (a:vK) (b e:Int) (f:vK):Option Dv := R.w (some ⟨(zd 3 (.c (.arr 16)::(V.dead::(V.dead::(.c (.d yK a)::(.c (.d yI b)::(.c (.d yI e)::(zd 10 [])))))))),(zo 16 (some (.arr yL f true false false)::(zo 4 [])))⟩) fun st => lC R pol_Z26 3 N [1,1,0,1,0,0] F_Z26 n st (kB R pol_Z26 0 (kS R pol_Z26 7 N [1,1,1] F_Z26 (kTop E sg_Z26 F_Z26)))
theorem Z26.l0_succ (R:Run) (hw:R.ok) (N n:Nat) (a:vK) (b c:Int) (d:vK):Z26.l0 R N (n + 1) a b c d = (bif (decide (c < b)) then ((idx? a c).bind fun y5 => ((callT R n_Z82 o_Z82 [⟨yL,(y5,()).1⟩]).bind fun r6 => ((chk (decide ((List.length d + List.length [r6.1]) * 24 ≤ 70368744177664))).bind fun _ => (Z26.l0 R N n a b (w64 (c + (1:Int))) (d ++ [r6.1]))))) else some ⟨o_Z26,(d,())⟩) := (hw _ _).trans (by kernel_rfl)
theorem Z26.ev (R:Run) (N:Nat) (a0:vK):evFn E R sg_Z26 pol_Z26 F_Z26 N [⟨yK,a0⟩] = (Z26.l0 R N N a0 (List.length a0:Int) (0:Int) ([]:List (List Int))) := by kernel_rfl
theorem Z29.ev (R:Run) (N:Nat) (a0:(List Int)) (a1:(Int × Unit)):evFn E R sg_Z29 pol_Z29 F_Z29 N [⟨yL,a0⟩,⟨(.ptr (.cons yI .nil)),a1⟩] = ((idx? a0 a1.1).bind fun y1 => some ⟨o_Z29,(((y1,()).1 != (0:Int)),())⟩) := by kernel_rfl
noncomputable def Z97.l0 (R:Run) (N n:Nat) (a:vK) (b:((Int × Unit) × Unit)) (e f:Int):Option Dv := R.w (some ⟨(.c (.d yK a)::(.c (.d (.fn n_Z29 (.cons (.ptr (.cons yI .nil)) .nil)) b)::(zd 5 (.c (.d yI e)::(.c (.d yI f)::(zd 10 [])))))),(zo 21 [])⟩) fun st => q1_8 R N n st (kB R pol_Z95 0 (q1_1 R N (kTop E sg_Z95 F_Z95)))
theorem Z97.l0_succ (R:Run) (hw:R.ok) (N n:Nat) (a:vK) (b:((Int × Unit) × Unit)) (c d:Int):Z97.l0 R N (n + 1) a b c d = (bif (decide (d < c)) then ((idx? a d).bind fun y5 => ((callT R n_Z29 o_Z29 [⟨yL,(y5,()).1⟩,⟨(.ptr (.cons yI .nil)),b.1⟩]).bind fun r6 => (bif r6.1 then some ⟨o_Z95,(d,())⟩ else (Z97.l0 R N n a b c (w64 (d + (1:Int))))))) else some ⟨o_Z95,((-1:Int),())⟩) := (hw _ _).trans (by kernel_rfl)
theorem Z97.ev (R:Run) (N:Nat) (a0:vK) (a1:((Int × Unit) × Unit)):evFn E R sg_Z95 pol_Z95 F_Z95 N [⟨yK,a0⟩,⟨(.fn n_Z29 (.cons (.ptr (.cons yI .nil)) .nil)),a1⟩] = (Z97.l0 R N N a0 a1 (List.length a0:Int) (0:Int)) := by kernel_rfl
theorem Z53.ev (R:Run) (N:Nat) (a0 a1:Int):evFn E R sg_Z53 pol_Z53 F_Z53 N [⟨yI,a0⟩,⟨yI,a1⟩] = ((chk (a1 != 0)).bind fun _ => ((chk (a1 != 0)).bind fun _ => some ⟨o_Z53,((Int.tmod (w64 ((Int.tmod a0 a1) + a1)) a1),())⟩)) := by kernel_rfl
noncomputable def Z52.l0 (R:Run) (N n:Nat) (a b e f:Int):Option Dv := R.w (some ⟨(.c (.d yI a)::(.c (.d yI b)::(.c (.d yI e)::(zd 4 (.c (.d yI f)::(zd 18 [])))))),(zo 29 [])⟩) fun st => lC R pol_Z52 2 N [1,1,0,0,0] F_Z52 n st (kB R pol_Z52 0 (kS R pol_Z52 7 N [1,1,1] F_Z52 (kTop E sg_Z52 F_Z52)))
theorem Z52.l0_succ (R:Run) (hw:R.ok) (N n:Nat) (a b c d:Int):Z52.l0 R N (n + 1) a b c d = (bif (decide (b > (0:Int))) then (bif ((Int.tmod b (2:Int)) == (1:Int)) then ((chk (c != 0)).bind fun _ => ((chk (c != 0)).bind fun _ => (Z52.l0 R N n (Int.tmod (w64 (a * a)) c) (w64 (Int.tdiv b (2:Int))) c (Int.tmod (w64 (d * a)) c)))) else ((chk (c != 0)).bind fun _ => (Z52.l0 R N n (Int.tmod (w64 (a * a)) c) (w64 (Int.tdiv b (2:Int))) c d))) else some ⟨o_Z52,(d,())⟩) := (hw _ _).trans (by kernel_rfl)
theorem Z52.ev (R:Run) (N:Nat) (a0 a1 a2:Int):evFn E R sg_Z52 pol_Z52 F_Z52 N [⟨yI,a0⟩,⟨yI,a1⟩,⟨yI,a2⟩] = (Z52.l0 R N N a0 a1 a2 (1:Int)) := by kernel_rfl
theorem Z38.ev (R:Run) (N:Nat) (a0 a1:Int):evFn E R sg_Z38 pol_Z38 F_Z38 N [⟨yI,a0⟩,⟨yI,a1⟩] = ((callT R n_Z52 o_Z52 [⟨yI,a0⟩,⟨yI,(w64 (a1 - (2:Int)))⟩,⟨yI,a1⟩]).bind fun r1 => some ⟨o_Z38,(r1.1,())⟩) := by kernel_rfl
noncomputable def Z13.l0 (R:Run) (N n:Nat) (a b:(List Int)) (e f g h:Int) (i:(List Int)):Option Dv := R.w (some ⟨(.c (.d yL a)::(.c (.d yL b)::(.c (.d yI e)::(.c (.d yI f)::(zd 5 (.c (.arr 31)::(V.dead::(V.dead::(.c (.d yI g)::(.c (.d yI h)::(zd 20 []))))))))))),(zo 31 (some (.arr yI i true false false)::(zo 6 [])))⟩) fun st => lC R pol_Z13 3 N [1,1,0,1,0,0] F_Z13 n st (kB R pol_Z13 0 (kS R pol_Z13 7 N [1,1,1] F_Z13 (kTop E sg_Z13 F_Z13)))
theorem Z13.l0_succ (R:Run) (hw:R.ok) (N n:Nat) (a b:(List Int)) (c d e f:Int) (g:(List Int)):Z13.l0 R N (n + 1) a b c d e f g = (bif (decide (f < e)) then ((idx? a f).bind fun y8 => ((idx? b f).bind fun y9 => ((chk (d != 0)).bind fun _ => ((chk (decide ((List.length g + List.length [(Int.tmod (w64 ((y8,()).1 + (w64 (c * (y9,()).1)))) d)]) * 8 ≤ 70368744177664))).bind fun _ => (Z13.l0 R N n a b c d e (w64 (f + (1:Int))) (g ++ [(Int.tmod (w64 ((y8,()).1 + (w64 (c * (y9,()).1)))) d)])))))) else some ⟨o_Z13,(g,())⟩) := (hw _ _).trans (by kernel_rfl)
theorem Z13.ev (R:Run) (N:Nat) (a0 a1:(List Int)) (a2 a3:Int):evFn E R sg_Z13 pol_Z13 F_Z13 N [⟨yL,a0⟩,⟨yL,a1⟩,⟨yI,a2⟩,⟨yI,a3⟩] = (Z13.l0 R N N a0 a1 a2 a3 (List.length a0:Int) (0:Int) ([]:List Int)) := by kernel_rfl
noncomputable def Z28.j4 (R:Run) (N a b:Nat) (e f g h i:Int) (j:(List Int)) (k l m o:Int) (p:Bool) (q:Int) (r:(List Int)) (s:vK):Option Dv := R.w (some ⟨(.c (.arr 120)::(.c (.d yI e)::(.c (.d yI f)::(zd 5 (.c (.arr 116)::(.c (.d yI g)::(.c (.box 10 0)::(.c (.d yI h)::(V.dead::(V.dead::(.c (.d yI i)::(.c (.d yL j)::(.c (.d yI k)::(.c (.d yI l)::(zd 61 (.c (.arr 120)::(.c (.d yI m)::(.c (.d yI o)::(zd 13 (.c (.d .bool p)::(zd 24 []))))))))))))))))))))),(zo 10 (some (.box [.d yI q] true false)::(zo 105 (some (.arr yI r true false false)::(zo 3 (some (.arr yL s false false true)::(zo 4 [])))))))⟩) fun st => eC R pol_Z28 N [1,1,1,0,1,0,0,1,1,0,0,1,1,1,1,1,1,1,1,0,1,0,0,1,1,0,0,1,1] F_Z28 st (kB R pol_Z28 3 (kS R pol_Z28 21 N [1,1,1,0,1,0,0,1,1,0,0,1,1,1,1,1,1,1,1,0,1,0,0,1,1,1] F_Z28 (kL R pol_Z28 17 N [1,1,1,0,1,0,0,1,1,0,0,1,1,1,1,1,1,1,1,0,1,0,0] F_Z28 b (kB R pol_Z28 2 (q1_3 R N (kB R pol_Z28 1 (q1_4 R N (q1_6 R N a (q1_10 R (q1_5 R N (kTop E sg_Z28 F_Z28)))))))))))
noncomputable def Z28.l3 (R:Run) (N a n:Nat) (b e f g h i j k l:Int) (m:(List Int)) (o:vK):Option Dv := R.w (some ⟨(.c (.arr 120)::(.c (.d yI b)::(.c (.d yI e)::(zd 5 (.c (.arr 116)::(.c (.d yI f)::(.c (.box 10 0)::(.c (.d yI g)::(zd 4 (.c (.d yI h)::(.c (.d yI i)::(zd 61 (.c (.arr 120)::(.c (.d yI j)::(.c (.d yI k)::(zd 38 [])))))))))))))))),(zo 10 (some (.box [.d yI l] true false)::(zo 105 (some (.arr yI m true false false)::(zo 3 (some (.arr yL o false false true)::(zo 4 [])))))))⟩) fun st => lC R pol_Z28 17 N [1,1,1,0,1,0,0,1,1,0,0,1,1,1,1,1,1,1,1,0,1,0,0] F_Z28 n st (kB R pol_Z28 2 (q1_3 R N (kB R pol_Z28 1 (q1_4 R N (q1_6 R N a (q1_10 R (q1_5 R N (kTop E sg_Z28 F_Z28))))))))
noncomputable def Z28.j2 (R:Run) (N a:Nat) (b e f g h i j:Int) (k:(List Int)) (l:vK):Option Dv := R.w (some ⟨(.c (.arr 120)::(.c (.d yI b)::(.c (.d yI e)::(zd 5 (.c (.arr 116)::(.c (.d yI f)::(.c (.box 10 0)::(.c (.d yI g)::(zd 4 (.c (.d yI h)::(.c (.d yI i)::(zd 102 [])))))))))))),(zo 10 (some (.box [.d yI j] true false)::(zo 105 (some (.arr yI k true false false)::(zo 3 (some (.arr yL l false false true)::(zo 4 [])))))))⟩) fun st => eC R pol_Z28 N [1,1,1,0,1,0,0,1,1,0,0,1,1,1,1,1,1,1,1] F_Z28 st (kB R pol_Z28 1 (q1_4 R N (q1_6 R N a (q1_10 R (q1_5 R N (kTop E sg_Z28 F_Z28))))))
noncomputable def Z28.j1 (R:Run) (N a:Nat) (b e f g h i j:Int) (k:(List Int)) (l:vK):Option Dv := R.w (some ⟨(.c (.arr 120)::(.c (.d yI b)::(.c (.d yI e)::(zd 5 (.c (.arr 116)::(.c (.d yI f)::(.c (.box 10 0)::(.c (.d yI g)::(zd 4 (.c (.d yI h)::(.c (.d yI i)::(zd 102 [])))))))))))),(zo 10 (some (.box [.d yI j] true false)::(zo 105 (some (.arr yI k true false false)::(zo 3 (some (.arr yL l false false true)::(zo 4 [])))))))⟩) fun st => eC R pol_Z28 N [1,1,1,0,1,0,0,1,1,0,0,1,1,1,1,1] F_Z28 st (kB R pol_Z28 1 (q1_4 R N (q1_6 R N a (q1_10 R (q1_5 R N (kTop E sg_Z28 F_Z28))))))
noncomputable def Z28.l0 (R:Run) (N n:Nat) (a b e f g:Int) (h:(List Int)) (i:vK):Option Dv := R.w (some ⟨(.c (.arr 120)::(.c (.d yI a)::(.c (.d yI b)::(zd 5 (.c (.arr 116)::(.c (.d yI e)::(zd 6 (.c (.d yI f)::(.c (.d yI g)::(zd 102 [])))))))))),(zo 116 (some (.arr yI h true false false)::(zo 3 (some (.arr yL i false false true)::(zo 4 [])))))⟩) fun st => lC R pol_Z28 4 N [1,1,1,0,1,0,0] F_Z28 n st (q1_10 R (q1_5 R N (kTop E sg_Z28 F_Z28)))
theorem Z28.j4_eq (R:Run) (hw:R.ok) (N a b:Nat) (c d e f g:Int) (h:(List Int)) (i j k l:Int) (m:Bool) (o:Int) (p:(List Int)) (q:vK):Z28.j4 R N a b c d e f g h i j k l m o p q = (bif m then ((chk (decide (0 ≤ f) && decide (f < (List.length q:Int)))).bind fun _ => (Option.bind (q)[(Int.toNat f)]? fun y69 => ((idx? h o).bind fun y70 => ((callT R n_Z13 o_Z13 [⟨yL,h⟩,⟨yL,y69⟩,⟨yI,(w64 (d - (y70,()).1))⟩,⟨yI,d⟩]).bind fun r71 => ((chk (decide (0 ≤ g) && decide (g < (List.length q:Int)))).bind fun _ => (Z28.l3 R N a b c d e f i j k (w64 (l + (1:Int))) o p (List.set q (Int.toNat g) r71.1))))))) else (Z28.l3 R N a b c d e f i j k (w64 (l + (1:Int))) o p q)) := (hw _ _).trans (by kernel_rfl)
theorem Z28.l3_succ (R:Run) (hw:R.ok) (N a n:Nat) (b c d e f g h i j:Int) (k:(List Int)) (l:vK):Z28.l3 R N a (n + 1) b c d e f g h i j k l = (bif (decide (i < h)) then ((chk (decide (0 ≤ i) && decide (i < (List.length l:Int)))).bind fun _ => (Option.bind (l)[(Int.toNat i)]? fun y53 => (bif (i != e) then ((idx? y53 j).bind fun y54 => (Z28.j4 R N a n b c d e i y53 f g h i ((y54,()).1 != (0:Int)) j k l)) else (Z28.j4 R N a n b c d e i y53 f g h i false j k l)))) else ((chk (decide ((List.length k + List.length [j]) * 8 ≤ 70368744177664))).bind fun _ => (Z28.l0 R N a b c d f (w64 (g + (1:Int))) (k ++ [j]) l))) := (hw _ _).trans (by kernel_rfl)
theorem Z28.j2_eq (R:Run) (hw:R.ok) (N a:Nat) (b c d e f g h:Int) (i:(List Int)) (j:vK):Z28.j2 R N a b c d e f g h i j = (Z28.l3 R N a N b c d e f g (List.length j:Int) (0:Int) h i j) := (hw _ _).trans (by kernel_rfl)
theorem Z28.j1_eq (R:Run) (hw:R.ok) (N a:Nat) (b c d e f g h:Int) (i:(List Int)) (j:vK):Z28.j1 R N a b c d e f g h i j = ((chk (decide (0 ≤ e) && decide (e < (List.length j:Int)))).bind fun _ => (Option.bind (j)[(Int.toNat e)]? fun y28 => ((idx? y28 h).bind fun y29 => ((chk (c != 0)).bind fun _ => ((chk (decide (0 ≤ e) && decide (e < (List.length j:Int)))).bind fun _ => (Option.bind (j)[(Int.toNat e)]? fun y30 => (both ((chk (decide (0 ≤ b) && decide (b * 8 ≤ 70368744177664))).bind fun _ => ((callT R n_Z38 o_Z38 [⟨yI,(y29,()).1⟩,⟨yI,c⟩]).bind fun r31 => ((callT R n_Z13 o_Z13 [⟨yL,(List.replicate (Int.toNat b) (0:Int))⟩,⟨yL,y30⟩,⟨yI,r31.1⟩,⟨yI,c⟩]).bind fun r32 => ((chk (decide (0 ≤ e) && decide (e < (List.length j:Int)))).bind fun _ => (Z28.j2 R N a b c (Int.tmod (w64 (d * (y29,()).1)) c) e f g h i (List.set j (Int.toNat e) r32.1)))))) ((callT R n_Z38 o_Z38 [⟨yI,(y29,()).1⟩,⟨yI,c⟩]).bind fun r115 => ((chk (decide (0 ≤ b) && decide (b * 8 ≤ 70368744177664))).bind fun _ => ((callT R n_Z13 o_Z13 [⟨yL,(List.replicate (Int.toNat b) (0:Int))⟩,⟨yL,y30⟩,⟨yI,r115.1⟩,⟨yI,c⟩]).bind fun r116 => ((chk (decide (0 ≤ e) && decide (e < (List.length j:Int)))).bind fun _ => (Z28.j2 R N a b c (Int.tmod (w64 (d * (y29,()).1)) c) e f g h i (List.set j (Int.toNat e) r116.1))))))))))))) := (hw _ _).trans (by kernel_rfl)
theorem Z28.l0_succ (R:Run) (hw:R.ok) (N n:Nat) (a b c d e:Int) (f:(List Int)) (g:vK):Z28.l0 R N (n + 1) a b c d e f g = (bif (decide (e < d)) then ((chk (decide (0 ≤ (List.length f:Int)) && decide ((List.length f:Int) ≤ (List.length g:Int)))).bind fun _ => ((callT R n_Z95 o_Z95 [⟨yK,(List.drop (Int.toNat (List.length f:Int)) (List.take (List.length g) g))⟩,⟨(.fn n_Z29 (.cons (.ptr (.cons yI .nil)) .nil)),((e,()),())⟩]).bind fun r8 => (bif (decide (r8.1 < (0:Int))) then (Z28.l0 R N n a b (0:Int) d (w64 (e + (1:Int))) f g) else (bif (decide (r8.1 > (0:Int))) then ((chk (decide (0 ≤ (w64 ((List.length f:Int) + r8.1))) && decide ((w64 ((List.length f:Int) + r8.1)) < (List.length g:Int)))).bind fun _ => (Option.bind (g)[(Int.toNat (w64 ((List.length f:Int) + r8.1)))]? fun y16 => ((chk (decide (0 ≤ (List.length f:Int)) && decide ((List.length f:Int) < (List.length g:Int)))).bind fun _ => (Option.bind (g)[(Int.toNat (List.length f:Int))]? fun y17 => ((chk (decide (0 ≤ (List.length f:Int)) && decide ((List.length f:Int) < (List.length g:Int)))).bind fun _ => ((chk (decide (0 ≤ (w64 ((List.length f:Int) + r8.1))) && decide ((w64 ((List.length f:Int) + r8.1)) < (List.length (List.set g (Int.toNat (List.length f:Int)) y16):Int)))).bind fun _ => ((callT R n_Z53 o_Z53 [⟨yI,(w64 (0 - c))⟩,⟨yI,b⟩]).bind fun r18 => (Z28.j1 R N n a b r18.1 (List.length f:Int) d e e f (List.set (List.set g (Int.toNat (List.length f:Int)) y16) (Int.toNat (w64 ((List.length f:Int) + r8.1))) y17))))))))) else (Z28.j1 R N n a b c (List.length f:Int) d e e f g))))) else some ⟨o_Z28,(f,c,g,())⟩) := (hw _ _).trans (by kernel_rfl)
theorem Z28.ev (R:Run) (N:Nat) (a0:vK) (a1 a2:Int):evFn E R sg_Z28 pol_Z28 F_Z28 N [⟨yK,a0⟩,⟨yI,a1⟩,⟨yI,a2⟩] = (Z28.l0 R N N a1 a2 (1:Int) a1 (0:Int) ([]:List Int) a0) := by kernel_rfl
theorem Z59.ev (R:Run) (N:Nat) (a0 a1:Int) (a2:vK):evFn E R sg_Z59 pol_Z59 F_Z59 N [⟨yI,a0⟩,⟨yI,a1⟩,⟨yK,a2⟩] = ((callT R n_Z26 o_Z26 [⟨yK,a2⟩]).bind fun r1 => ((callT R n_Z28 o_Z28 [⟨yK,r1.1⟩,⟨yI,a1⟩,⟨yI,a0⟩]).bind fun r2 => ((chk (decide (0 ≤ (List.length r2.1:Int)) && decide ((List.length r2.1:Int) ≤ (List.length r2.2.2.1:Int)))).bind fun _ => ((callT R n_Z26 o_Z26 [⟨yK,(List.drop 0 (List.take (Int.toNat (List.length r2.1:Int)) r2.2.2.1))⟩]).bind fun r3 => some ⟨o_Z59,(a0,a1,r3.1,())⟩)))) := by kernel_rfl
theorem Z18.ev (R:Run) (N:Nat) (a0:vK) (a1 a2:Int):evFn E R sg_Z18 pol_Z18 F_Z18 N [⟨yK,a0⟩,⟨yI,a1⟩,⟨yI,a2⟩] = ((callT R n_Z19 o_Z19 [⟨yK,a0⟩,⟨yI,(w64 (a1 + (1:Int)))⟩,⟨yI,a2⟩]).bind fun r1 => ((callT R n_Z21 o_Z21 [⟨yI,r1.1⟩,⟨yI,r1.2.1⟩,⟨yI,r1.2.2.1⟩,⟨yL,r1.2.2.2.1⟩]).bind fun r2 => ((callT R n_Z59 o_Z59 [⟨yI,a2⟩,⟨yI,r1.2.1⟩,⟨yK,r2.1⟩]).bind fun r3 => some ⟨o_Z18,(r3.1,r3.2.1,r3.2.2.1,())⟩))) := by kernel_rfl
theorem Z92.ev (R:Run) (N:Nat) (a0:(List Int)) (a1:Int):evFn E R sg_Z92 pol_Z92 F_Z92 N [⟨yL,a0⟩,⟨yI,a1⟩] = ((callT R n_Z103 o_Z103 [⟨yL,a0⟩,⟨yI,a1⟩]).bind fun r1 => some ⟨o_Z92,((decide (r1.1 ≥ (0:Int))),())⟩) := by kernel_rfl
noncomputable def Z48.l1 (R:Run) (N a n:Nat) (b:(List Int)) (e f g:Int) (h:(List Int)) (i j k l m:Int) (o p:(List Int)) (q r:vK):Option Dv := R.w (some ⟨(V.dead::(.c (.box 1 0)::(V.dead::(.c (.arr 68)::(.c (.d yL b)::(V.dead::(.c (.arr 61)::(.c (.d yI e)::(.c (.arr 32)::(zd 14 (.c (.d yI f)::(.c (.d yI g)::(zd 11 (.c (.d yL h)::(.c (.d yI i)::(.c (.d yI j)::(zd 25 []))))))))))))))))),(none::(some (.box [.d yI k,.d yI l,.d yI m,.d yL o] false false)::(zo 30 (some (.arr yI p true false false)::(zo 28 (some (.arr yL q true false false)::(zo 6 (some (.arr yL r false false false)::[]))))))))⟩) fun st => lC R pol_Z48 11 N [1,1,1,1,0,1,0,0,1,1,0,0,1,1,1,1,0,1,0,0] F_Z48 n st (kB R pol_Z48 2 (kS R pol_Z48 15 N [1,1,1,1,0,1,0,0,1,1,0,0,1,1,1,1,1] F_Z48 (kB R pol_Z48 1 (kS R pol_Z48 16 N [1,1,1,1,0,1,0,0,1,1,1] F_Z48 (kL R pol_Z48 5 N [1,1,1,1,0,1,0,0] F_Z48 a (kB R pol_Z48 0 (kS R pol_Z48 17 N [1,1,1,1,1] F_Z48 (kTop E sg_Z48 F_Z48))))))))
noncomputable def Z48.l0 (R:Run) (N n:Nat) (a:(List Int)) (b e f g h:Int) (i:(List Int)) (j k:vK):Option Dv := R.w (some ⟨(V.dead::(.c (.box 1 0)::(V.dead::(.c (.arr 68)::(.c (.d yL a)::(V.dead::(.c (.arr 61)::(zd 16 (.c (.d yI b)::(.c (.d yI e)::(zd 39 []))))))))))),(none::(some (.box [.d yI f,.d yI g,.d yI h,.d yL i] false false)::(zo 59 (some (.arr yL j true false false)::(zo 6 (some (.arr yL k false false false)::[]))))))⟩) fun st => lC R pol_Z48 5 N [1,1,1,1,0,1,0,0] F_Z48 n st (kB R pol_Z48 0 (kS R pol_Z48 17 N [1,1,1,1,1] F_Z48 (kTop E sg_Z48 F_Z48)))
theorem Z48.l1_succ (R:Run) (hw:R.ok) (N a n:Nat) (b:(List Int)) (c d e:Int) (f:(List Int)) (g h i j k:Int) (l m:(List Int)) (o p:vK):Z48.l1 R N a (n + 1) b c d e f g h i j k l m o p = (bif (decide (h < g)) then ((idx? f h).bind fun y36 => ((chk (decide (0 ≤ h) && decide (h < (List.length p:Int)))).bind fun _ => (Option.bind (p)[(Int.toNat h)]? fun y37 => ((idx? y37 c).bind fun y38 => ((callT R n_Z53 o_Z53 [⟨yI,(w64 (0 - (y38,()).1))⟩,⟨yI,i⟩]).bind fun r39 => ((chk (decide (0 ≤ (y36,()).1) && decide ((y36,()).1 < (List.length m:Int)))).bind fun _ => (Z48.l1 R N a n b c d e f g (w64 (h + (1:Int))) i j k l (List.set m (Int.toNat (y36,()).1) r39.1) o p))))))) else ((chk (decide ((List.length o + List.length [m]) * 24 ≤ 70368744177664))).bind fun _ => (Z48.l0 R N a b d (w64 (e + (1:Int))) i j k l (o ++ [m]) p))) := (hw _ _).trans (by kernel_rfl)
theorem Z48.l0_succ (R:Run) (hw:R.ok) (N n:Nat) (a:(List Int)) (b c d e f:Int) (g:(List Int)) (h i:vK):Z48.l0 R N (n + 1) a b c d e f g h i = (bif (decide (c < b)) then ((callT R n_Z92 o_Z92 [⟨yL,a⟩,⟨yI,c⟩]).bind fun r12 => (bif r12.1 then (Z48.l0 R N n a b (w64 (c + (1:Int))) d e f g h i) else ((chk (decide (0 ≤ f) && decide (f * 8 ≤ 70368744177664))).bind fun _ => ((chk (decide (0 ≤ c) && decide (c < (List.length (List.replicate (Int.toNat f) (0:Int)):Int)))).bind fun _ => (Z48.l1 R N n N a c b c a (List.length a:Int) (0:Int) d e f g (List.set (List.replicate (Int.toNat f) (0:Int)) (Int.toNat c) (1:Int)) h i))))) else some ⟨o_Z48,(h,())⟩) := (hw _ _).trans (by kernel_rfl)
theorem Z48.ev (R:Run) (N:Nat) (a0 a1 a2:Int) (a3:(List Int)):evFn E R sg_Z48 pol_Z48 F_Z48 N [⟨yI,a0⟩,⟨yI,a1⟩,⟨yI,a2⟩,⟨yL,a3⟩] = ((callT R n_Z54 o_Z54 [⟨yI,a0⟩,⟨yI,a1⟩,⟨yI,a2⟩,⟨yL,a3⟩]).bind fun r1 => ((callT R n_Z28 o_Z28 [⟨yK,r1.1⟩,⟨yI,a2⟩,⟨yI,a0⟩]).bind fun r2 => (Z48.l0 R N N r2.1 a2 (0:Int) a0 a1 a2 a3 ([]:List (List Int)) r2.2.2.1))) := by kernel_rfl
theorem Z51.ev (R:Run) (N:Nat) (a0:Int):evFn E R sg_Z51 pol_Z51 F_Z51 N [⟨yI,a0⟩] = some ⟨o_Z51,((a0 != (0:Int)),())⟩ := by kernel_rfl
noncomputable def Z102.l0 (R:Run) (N n:Nat) (a:(List Int)) (b e:Int):Option Dv := R.w (some ⟨(.c (.d yL a)::(.c (.d (.fn n_Z51 .nil) ())::(zd 5 (.c (.d yI b)::(.c (.d yI e)::(zd 10 [])))))),(zo 21 [])⟩) fun st => q1_7 R N n st (q1_9 R (q1_0 R N (kTop E sg_Z98 F_Z98)))
theorem Z102.l0_succ (R:Run) (hw:R.ok) (N n:Nat) (a:(List Int)) (b c:Int):Z102.l0 R N (n + 1) a b c = (bif (decide (c < b)) then ((idx? a c).bind fun y4 => ((callT R n_Z51 o_Z51 [⟨yI,(y4,()).1⟩]).bind fun r5 => (bif r5.1 then some ⟨o_Z98,(c,())⟩ else (Z102.l0 R N n a b (w64 (c + (1:Int))))))) else some ⟨o_Z98,((-1:Int),())⟩) := (hw _ _).trans (by kernel_rfl)
theorem Z102.ev (R:Run) (N:Nat) (a0:(List Int)):evFn E R sg_Z98 pol_Z98 F_Z98 N [⟨yL,a0⟩,⟨(.fn n_Z51 .nil),()⟩] = (Z102.l0 R N N a0 (List.length a0:Int) (0:Int)) := by kernel_rfl
noncomputable def Z50.l0 (R:Run) (N n:Nat) (a:vK) (b e:Int) (f:(List Int)):Option Dv := R.w (some ⟨(zd 3 (.c (.arr 17)::(zd 3 (.c (.d yK a)::(.c (.d yI b)::(.c (.d yI e)::(zd 10 []))))))),(zo 17 (some (.arr yI f true false false)::(zo 5 [])))⟩) fun st => lC R pol_Z50 3 N [1,1,0,1,0,0] F_Z50 n st (kB R pol_Z50 0 (kS R pol_Z50 7 N [1,1,1] F_Z50 (kTop E sg_Z50 F_Z50)))
theorem Z50.l0_succ (R:Run) (hw:R.ok) (N n:Nat) (a:vK) (b c:Int) (d:(List Int)):Z50.l0 R N (n + 1) a b c d = (bif (decide (c < b)) then ((idx? a c).bind fun y5 => ((callT R n_Z98 o_Z98 [⟨yL,(y5,()).1⟩,⟨(.fn n_Z51 .nil),()⟩]).bind fun r6 => ((chk (decide ((List.length d + List.length [r6.1]) * 8 ≤ 70368744177664))).bind fun _ => (Z50.l0 R N n a b (w64 (c + (1:Int))) (d ++ [r6.1]))))) else some ⟨o_Z50,(d,())⟩) := (hw _ _).trans (by kernel_rfl)
theorem Z50.ev (R:Run) (N:Nat) (a0 a1:Int) (a2:vK):evFn E R sg_Z50 pol_Z50 F_Z50 N [⟨yI,a0⟩,⟨yI,a1⟩,⟨yK,a2⟩] = (Z50.l0 R N N a2 (List.length a2:Int) (0:Int) ([]:List Int)) := by kernel_rfl
noncomputable def Z25.l0 (R:Run) (N n:Nat) (a b e:(List Int)) (f g h i:Int) (j:vK) (k:(List Int)):Option Dv := R.w (some ⟨(V.dead::(.c (.d yL a)::(.c (.box 2 0)::(zd 3 (.c (.arr 25)::(.c (.d yL b)::(zd 4 (.c (.d yL e)::(.c (.d yI f)::(.c (.d yI g)::(zd 34 []))))))))))),(none::(none::(some (.box [.d yI h,.d yI i,.d yK j] false false)::(zo 22 (some (.arr yI k true false false)::(zo 27 []))))))⟩) fun st => lC R pol_Z25 4 N [1,1,1,0,1,0,0] F_Z25 n st (kB R pol_Z25 0 (kS R pol_Z25 9 N [1,1,1,1] F_Z25 (kTop E sg_Z25 F_Z25)))
theorem Z25.l0_succ (R:Run) (hw:R.ok) (N n:Nat) (a b c:(List Int)) (d e f g:Int) (h:vK) (i:(List Int)):Z25.l0 R N (n + 1) a b c d e f g h i = (bif (decide (e < d)) then ((idx? c e).bind fun y11 => ((idx? a (y11,()).1).bind fun y12 => ((chk (decide ((List.length i + List.length [(y12,()).1]) * 8 ≤ 70368744177664))).bind fun _ => ((idx? h e).bind fun y13 => ((idx? a (y11,()).1).bind fun y14 => ((chk (f != 0)).bind fun _ => ((callT R n_Z13 o_Z13 [⟨yL,b⟩,⟨yL,(y13,()).1⟩,⟨yI,(Int.tmod (w64 (f - (y14,()).1)) f)⟩,⟨yI,f⟩]).bind fun r15 => (Z25.l0 R N n a r15.1 c d (w64 (e + (1:Int))) f g h (i ++ [(y12,()).1]))))))))) else ((callT R n_Z46 o_Z46 [⟨yL,b⟩]).bind fun r25 => some ⟨o_Z25,(i,r25.1,())⟩)) := (hw _ _).trans (by kernel_rfl)
theorem Z25.ev (R:Run) (N:Nat) (a0 a1:Int) (a2:vK) (a3:(List Int)):evFn E R sg_Z25 pol_Z25 F_Z25 N [⟨yI,a0⟩,⟨yI,a1⟩,⟨yK,a2⟩,⟨yL,a3⟩] = ((callT R n_Z50 o_Z50 [⟨yI,a0⟩,⟨yI,a1⟩,⟨yK,a2⟩]).bind fun r1 => (Z25.l0 R N N a3 a3 r1.1 (List.length r1.1:Int) (0:Int) a0 a1 a2 ([]:List Int))) := by kernel_rfl
end VeT

open Go Go.Proofs Ve
set_option linter.unusedVariables false
set_option maxRecDepth 100000
namespace VeT
theorem Z24.ev (R:Run) (N:Nat) (a0 a1:Int) (a2:vK) (a3:(List Int)):evFn E R sg_Z24 pol_Z24 F_Z24 N [⟨yI,a0⟩,⟨yI,a1⟩,⟨yK,a2⟩,⟨yL,a3⟩] = ((callT R n_Z25 o_Z25 [⟨yI,a0⟩,⟨yI,a1⟩,⟨yK,a2⟩,⟨yL,a3⟩]).bind fun r1 => some ⟨o_Z24,(r1.2.1,())⟩) := by kernel_rfl
noncomputable def Z36.l0 (R:Run) (N n:Nat) (a:vK) (b e f g:Int) (h i:vK):Option Dv := R.w (some ⟨(V.dead::(V.dead::(.c (.box 2 0)::(V.dead::(V.dead::(.c (.arr 21)::(V.dead::(V.dead::(.c (.d yK a)::(.c (.d yI b)::(.c (.d yI e)::(zd 24 [])))))))))))),(none::(none::(some (.box [.d yI f,.d yI g,.d yK h] false false)::(zo 18 (some (.arr yL i false false false)::(zo 18 []))))))⟩) fun st => lC R pol_Z36 3 N [1,1,0,1,0,0] F_Z36 n st (kB R pol_Z36 0 (kS R pol_Z36 9 N [1,1,1] F_Z36 (kTop E sg_Z36 F_Z36)))
theorem Z36.l0_succ (R:Run) (hw:R.ok) (N n:Nat) (a:vK) (b c d e:Int) (f g:vK):Z36.l0 R N (n + 1) a b c d e f g = (bif (decide (c < b)) then ((idx? a c).bind fun y8 => ((callT R n_Z24 o_Z24 [⟨yI,d⟩,⟨yI,e⟩,⟨yK,f⟩,⟨yL,(y8,()).1⟩]).bind fun r9 => (bif (!r9.1) then ((chk (decide ((List.length g + List.length [(y8,()).1]) * 24 ≤ 70368744177664))).bind fun _ => (both ((callT R n_Z26 o_Z26 [⟨yK,f⟩]).bind fun r10 => ((chk (decide ((List.length r10.1 + List.length [(y8,()).1]) * 24 ≤ 70368744177664))).bind fun _ => ((callT R n_Z59 o_Z59 [⟨yI,d⟩,⟨yI,e⟩,⟨yK,(r10.1 ++ [(y8,()).1])⟩]).bind fun r11 => (Z36.l0 R N n a b (w64 (c + (1:Int))) r11.1 r11.2.1 r11.2.2.1 (g ++ [(y8,()).1]))))) ((callT R n_Z26 o_Z26 [⟨yK,f⟩]).bind fun r19 => ((chk (decide ((List.length r19.1 + List.length [(y8,()).1]) * 24 ≤ 70368744177664))).bind fun _ => ((callT R n_Z59 o_Z59 [⟨yI,d⟩,⟨yI,e⟩,⟨yK,(r19.1 ++ [(y8,()).1])⟩]).bind fun r20 => (Z36.l0 R N n a b (w64 (c + (1:Int))) r20.1 r20.2.1 r20.2.2.1 (g ++ [(y8,()).1]))))))) else (Z36.l0 R N n a b (w64 (c + (1:Int))) d e f g)))) else some ⟨o_Z36,(g,())⟩) := (hw _ _).trans (by kernel_rfl)
theorem Z36.ev (R:Run) (N:Nat) (a0 a1:Int) (a2 a3:vK):evFn E R sg_Z36 pol_Z36 F_Z36 N [⟨yI,a0⟩,⟨yI,a1⟩,⟨yK,a2⟩,⟨yK,a3⟩] = (Z36.l0 R N N a3 (List.length a3:Int) (0:Int) a0 a1 a2 ([]:List (List Int))) := by kernel_rfl
theorem Z35.ev (R:Run) (N:Nat) (a0:vK) (a1 a2:Int):evFn E R sg_Z35 pol_Z35 F_Z35 N [⟨yK,a0⟩,⟨yI,a1⟩,⟨yI,a2⟩] = ((callT R n_Z18 o_Z18 [⟨yK,a0⟩,⟨yI,a1⟩,⟨yI,a2⟩]).bind fun r1 => ((callT R n_Z19 o_Z19 [⟨yK,a0⟩,⟨yI,a1⟩,⟨yI,a2⟩]).bind fun r2 => ((callT R n_Z48 o_Z48 [⟨yI,r2.1⟩,⟨yI,r2.2.1⟩,⟨yI,r2.2.2.1⟩,⟨yL,r2.2.2.2.1⟩]).bind fun r3 => ((callT R n_Z36 o_Z36 [⟨yI,r1.1⟩,⟨yI,r1.2.1⟩,⟨yK,r1.2.2.1⟩,⟨yK,r3.1⟩]).bind fun r4 => some ⟨o_Z35,(r4.1,())⟩)))) := by kernel_rfl
noncomputable def Z84.l1 (R:Run) (N n:Nat) (a:(List vK)) (b e:Int) (f:vK):Option Dv := R.w (some ⟨(zd 6 (.c (.arr 37)::(zd 18 (.c (.d (.sl yK) a)::(.c (.d yI b)::(.c (.d yI e)::(zd 8 []))))))),(zo 37 (some (.arr yL f false false false)::[]))⟩) fun st => lC R pol_Z84 11 N [1,1,1,1,0,1,0,0] F_Z84 n st (kB R pol_Z84 2 (kS R pol_Z84 15 N [1,1,1,1,1] F_Z84 (kTop E sg_Z84 F_Z84)))
noncomputable def Z84.l0 (R:Run) (N n:Nat) (a:(List vK)) (b:Int) (e:(List vK)) (f g:Int):Option Dv := R.w (some ⟨(.c (.d (.sl yK) a)::(V.dead::(V.dead::(.c (.d yI b)::(zd 5 (.c (.d (.sl yK) e)::(.c (.d yI f)::(.c (.d yI g)::(zd 24 []))))))))),(zo 38 [])⟩) fun st => lC R pol_Z84 3 N [1,1,0,1,0,0] F_Z84 n st (kB R pol_Z84 0 (kS R pol_Z84 9 N [1,1,1] F_Z84 (kTop E sg_Z84 F_Z84)))
theorem Z84.l1_succ (R:Run) (hw:R.ok) (N n:Nat) (a:(List vK)) (b c:Int) (d:vK):Z84.l1 R N (n + 1) a b c d = (bif (decide (c < b)) then ((idx? a c).bind fun y17 => ((chk (decide ((List.length d + List.length (y17,()).1) * 24 ≤ 70368744177664))).bind fun _ => (Z84.l1 R N n a b (w64 (c + (1:Int))) (d ++ (y17,()).1)))) else some ⟨o_Z84,(d,())⟩) := (hw _ _).trans (by kernel_rfl)
theorem Z84.l0_succ (R:Run) (hw:R.ok) (N n:Nat) (a:(List vK)) (b:Int) (c:(List vK)) (d e:Int):Z84.l0 R N (n + 1) a b c d e = (bif (decide (e < d)) then ((idx? c e).bind fun y6 => (bif (decide ((w64 (b + (List.length (y6,()).1:Int))) < (0:Int))) then none else (Z84.l0 R N n a (w64 (b + (List.length (y6,()).1:Int))) c d (w64 (e + (1:Int)))))) else ((callT R n_Z93 o_Z93 [⟨yK,([]:List (List Int))⟩,⟨yI,b⟩]).bind fun r12 => (Z84.l1 R N N a (List.length a:Int) (0:Int) r12.1))) := (hw _ _).trans (by kernel_rfl)
theorem Z84.ev (R:Run) (N:Nat) (a0:(List vK)):evFn E R sg_Z84 pol_Z84 F_Z84 N [⟨(.sl yK),a0⟩] = (Z84.l0 R N N a0 (0:Int) a0 (List.length a0:Int) (0:Int)) := by kernel_rfl
theorem Z56.ev (R:Run) (N:Nat) (a0:vK):evFn E R sg_Z56 pol_Z56 F_Z56 N [⟨yK,a0⟩] = some ⟨o_Z56,((List.length a0:Int),())⟩ := by kernel_rfl
theorem Z49.ev (R:Run) (N:Nat) (a0 a1:Int) (a2:vK):evFn E R sg_Z49 pol_Z49 F_Z49 N [⟨yI,a0⟩,⟨yI,a1⟩,⟨yK,a2⟩] = ((callT R n_Z56 o_Z56 [⟨yK,a2⟩]).bind fun r1 => ((callT R n_Z85 o_Z85 [⟨yK,a2⟩]).bind fun r2 => some ⟨o_Z49,(a0,r1.1,a1,r2.1,())⟩)) := by kernel_rfl
noncomputable def Z58.l1 (R:Run) (N n:Nat) (a:(List Int)) (b e f g h:Int) (i j:(List Int)) (k:vK):Option Dv := R.w (some ⟨(V.dead::(V.dead::(.c (.box 2 0)::(zd 3 (.c (.arr 76)::(zd 3 (.c (.arr 46)::(zd 36 (.c (.d yL a)::(.c (.d yI b)::(.c (.d yI e)::(zd 21 [])))))))))))),(none::(none::(some (.box [.d yI f,.d yI g,.d yI h,.d yL i] false false)::(zo 43 (some (.arr yI j true false false)::(zo 29 (some (.arr yL k false false false)::(none::[]))))))))⟩) fun st => lC R pol_Z58 10 N [1,1,1,1,1,0,1,0,0] F_Z58 n st (kB R pol_Z58 2 (kS R pol_Z58 16 N [1,1,1,1,1,1] F_Z58 (kTop E sg_Z58 F_Z58)))
noncomputable def Z58.l0 (R:Run) (N n:Nat) (a:(List Int)) (b e f g h:Int) (i:(List Int)) (j:vK):Option Dv := R.w (some ⟨(V.dead::(.c (.d yL a)::(.c (.box 2 0)::(zd 3 (.c (.arr 76)::(zd 9 (.c (.d yI b)::(.c (.d yI e)::(zd 53 []))))))))),(none::(none::(some (.box [.d yI f,.d yI g,.d yI h,.d yL i] false false)::(zo 73 (some (.arr yL j true false false)::(none::[]))))))⟩) fun st => lC R pol_Z58 3 N [1,1,0,1,0,0] F_Z58 n st (kB R pol_Z58 0 (kS R pol_Z58 7 N [1,1,1] F_Z58 (kTop E sg_Z58 F_Z58)))
theorem Z58.l1_succ (R:Run) (hw:R.ok) (N n:Nat) (a:(List Int)) (b c d e f:Int) (g h:(List Int)) (i:vK):Z58.l1 R N (n + 1) a b c d e f g h i = (bif (decide (c < b)) then ((idx? a c).bind fun y39 => (bif ((y39,()).1 == f) then some ⟨o_Z58,(([]:List Int),false,())⟩ else ((chk (decide (0 ≤ c) && decide (c < (List.length i:Int)))).bind fun _ => (Option.bind (i)[(Int.toNat c)]? fun y40 => ((idx? y40 f).bind fun y41 => ((chk (decide (0 ≤ (y39,()).1) && decide ((y39,()).1 < (List.length h:Int)))).bind fun _ => (Z58.l1 R N n a b (w64 (c + (1:Int))) d e f g (List.set h (Int.toNat (y39,()).1) (y41,()).1) i))))))) else some ⟨o_Z58,(h,true,())⟩) := (hw _ _).trans (by kernel_rfl)
theorem Z58.l0_succ (R:Run) (hw:R.ok) (N n:Nat) (a:(List Int)) (b c d e f:Int) (g:(List Int)) (h:vK):Z58.l0 R N (n + 1) a b c d e f g h = (bif (decide (c < b)) then ((chk (decide (0 ≤ c) && decide (c < (List.length h:Int)))).bind fun _ => ((idx? a c).bind fun y10 => (both (Option.bind (h)[(Int.toNat c)]? fun y11 => ((chk (decide ((List.length y11 + List.length [(y10,()).1]) * 8 ≤ 70368744177664))).bind fun _ => ((chk (decide (0 ≤ c) && decide (c < (List.length h:Int)))).bind fun _ => ((chk (decide ((Int.toNat c) = (Int.toNat c)))).bind fun _ => (Z58.l0 R N n a b (w64 (c + (1:Int))) d e f g (List.set h (Int.toNat c) (y11 ++ [(y10,()).1]))))))) (Option.bind (h)[(Int.toNat c)]? fun y20 => ((chk (decide ((List.length y20 + List.length [(y10,()).1]) * 8 ≤ 70368744177664))).bind fun _ => ((chk (decide (0 ≤ c) && decide (c < (List.length h:Int)))).bind fun _ => ((chk (decide ((Int.toNat c) = (Int.toNat c)))).bind fun _ => (Z58.l0 R N n a b (w64 (c + (1:Int))) d e f g (List.set h (Int.toNat c) (y20 ++ [(y10,()).1])))))))))) else ((callT R n_Z28 o_Z28 [⟨yK,h⟩,⟨yI,(w64 (f + (1:Int)))⟩,⟨yI,d⟩]).bind fun r29 => ((chk (decide (0 ≤ f) && decide (f * 8 ≤ 70368744177664))).bind fun _ => (Z58.l1 R N N r29.1 (List.length r29.1:Int) (0:Int) d e f g (List.replicate (Int.toNat f) (0:Int)) r29.2.2.1)))) := (hw _ _).trans (by kernel_rfl)
theorem Z58.ev (R:Run) (N:Nat) (a0 a1 a2:Int) (a3 a4:(List Int)):evFn E R sg_Z58 pol_Z58 F_Z58 N [⟨yI,a0⟩,⟨yI,a1⟩,⟨yI,a2⟩,⟨yL,a3⟩,⟨yL,a4⟩] = ((callT R n_Z54 o_Z54 [⟨yI,a0⟩,⟨yI,a1⟩,⟨yI,a2⟩,⟨yL,a3⟩]).bind fun r1 => (Z58.l0 R N N a4 (List.length r1.1:Int) (0:Int) a0 a1 a2 a3 r1.1)) := by kernel_rfl
theorem Z22.ev (R:Run) (N:Nat) (a0:vK) (a1 a2:Int) (a3:vK) (a4:(List Int)):evFn E R sg_Z22 pol_Z22 F_Z22 N [⟨yK,a0⟩,⟨yI,a1⟩,⟨yI,a2⟩,⟨yK,a3⟩,⟨yL,a4⟩] = ((callT R n_Z84 o_Z84 [⟨(.sl yK),[a0,a3]⟩]).bind fun r1 => ((callT R n_Z49 o_Z49 [⟨yI,a1⟩,⟨yI,a2⟩,⟨yK,r1.1⟩]).bind fun r2 => ((callT R n_Z60 o_Z60 [⟨yI,r2.1⟩,⟨yI,r2.2.1⟩,⟨yI,r2.2.2.1⟩,⟨yL,r2.2.2.2.1⟩]).bind fun r3 => ((callT R n_Z58 o_Z58 [⟨yI,r3.1⟩,⟨yI,r3.2.1⟩,⟨yI,r3.2.2.1⟩,⟨yL,r3.2.2.2.1⟩,⟨yL,a4⟩]).bind fun r4 => ((chk (decide (0 ≤ (List.length a0:Int)) && decide ((List.length a0:Int) ≤ (List.length r4.1:Int)))).bind fun _ => some ⟨o_Z22,((List.drop 0 (List.take (Int.toNat (List.length a0:Int)) r4.1)),())⟩))))) := by kernel_rfl
theorem Z5.ev (R:Run) (N:Nat) (a0:vK) (a1 a2:Int) (a3:(List Int)):evFn E R sg_Z5 pol_Z5 F_Z5 N [⟨yK,a0⟩,⟨yI,a1⟩,⟨yI,a2⟩,⟨yL,a3⟩] = ((callT R n_Z62 o_Z62 [⟨yK,a0⟩,⟨yI,a1⟩,⟨yI,a2⟩,⟨yL,a3⟩]).bind fun r1 => (bif (r1.1 != (0:Int)) then some ⟨o_Z5,(([]:List Int),r1.1,())⟩ else ((callT R n_Z40 o_Z40 [⟨yK,a0⟩,⟨yI,a1⟩,⟨yI,a2⟩,⟨yL,a3⟩]).bind fun r2 => (bif (!r2.1) then some ⟨o_Z5,(([]:List Int),(6:Int),())⟩ else ((callT R n_Z35 o_Z35 [⟨yK,a0⟩,⟨yI,a1⟩,⟨yI,a2⟩]).bind fun r3 => ((callT R n_Z18 o_Z18 [⟨yK,a0⟩,⟨yI,a1⟩,⟨yI,a2⟩]).bind fun r4 => ((callT R n_Z22 o_Z22 [⟨yK,r3.1⟩,⟨yI,r4.1⟩,⟨yI,r4.2.1⟩,⟨yK,r4.2.2.1⟩,⟨yL,a3⟩]).bind fun r5 => some ⟨o_Z5,(r5.1,(0:Int),())⟩))))))) := by kernel_rfl
noncomputable def Z68.l0 (R:Run) (N n:Nat) (a b:(List Int)) (e:Int):Option Dv := R.w (some ⟨(.c (.d yL a)::(.c (.d yL b)::(zd 3 (.c (.d yI e)::(zd 20 []))))),(zo 28 [])⟩) fun st => lC R pol_Z68 4 N [1,1,0,1,0,0] F_Z68 n st (kB R pol_Z68 0 (kS R pol_Z68 8 N [1,1,1] F_Z68 (kTop E sg_Z68 F_Z68)))
theorem Z68.l0_succ (R:Run) (hw:R.ok) (N n:Nat) (a b:(List Int)) (c:Int):Z68.l0 R N (n + 1) a b c = (bif (decide (c < (List.length a:Int))) then ((idx? a c).bind fun y4 => ((idx? b c).bind fun y5 => (bif ((y4,()).1 != (y5,()).1) then some ⟨o_Z68,(false,())⟩ else (Z68.l0 R N n a b (w64 (c + (1:Int))))))) else some ⟨o_Z68,(true,())⟩) := (hw _ _).trans (by kernel_rfl)
theorem Z68.ev (R:Run) (N:Nat) (a0 a1:(List Int)):evFn E R sg_Z68 pol_Z68 F_Z68 N [⟨yL,a0⟩,⟨yL,a1⟩] = (bif ((List.length a0:Int) != (List.length a1:Int)) then some ⟨o_Z68,(false,())⟩ else (Z68.l0 R N N a0 a1 (0:Int))) := by kernel_rfl
noncomputable def Z69.l0 (R:Run) (N n:Nat) (a b:vK) (e:Int):Option Dv := R.w (some ⟨(.c (.d yK a)::(.c (.d yK b)::(zd 3 (.c (.d yI e)::(zd 21 []))))),(zo 29 [])⟩) fun st => lC R pol_Z69 4 N [1,1,0,1,0,0] F_Z69 n st (kB R pol_Z69 0 (kS R pol_Z69 8 N [1,1,1] F_Z69 (kTop E sg_Z69 F_Z69)))
theorem Z69.l0_succ (R:Run) (hw:R.ok) (N n:Nat) (a b:vK) (c:Int):Z69.l0 R N (n + 1) a b c = (bif (decide (c < (List.length a:Int))) then ((idx? a c).bind fun y4 => ((idx? b c).bind fun y5 => ((callT R n_Z68 o_Z68 [⟨yL,(y4,()).1⟩,⟨yL,(y5,()).1⟩]).bind fun r6 => (bif (!r6.1) then some ⟨o_Z69,(false,())⟩ else (Z69.l0 R N n a b (w64 (c + (1:Int)))))))) else some ⟨o_Z69,(true,())⟩) := (hw _ _).trans (by kernel_rfl)
theorem Z69.ev (R:Run) (N:Nat) (a0 a1:vK):evFn E R sg_Z69 pol_Z69 F_Z69 N [⟨yK,a0⟩,⟨yK,a1⟩] = (bif ((List.length a0:Int) != (List.length a1:Int)) then some ⟨o_Z69,(false,())⟩ else (Z69.l0 R N N a0 a1 (0:Int))) := by kernel_rfl
theorem Z67.ev (R:Run) (N:Nat) (a0 a1:vK):evFn E R sg_Z67 pol_Z67 F_Z67 N [⟨yK,a0⟩,⟨yK,a1⟩] = ((callT R n_Z69 o_Z69 [⟨yK,a0⟩,⟨yK,a1⟩]).bind fun r1 => (bif (!r1.1) then some ⟨o_Z67,(false,())⟩ else some ⟨o_Z67,(true,())⟩)) := by kernel_rfl
noncomputable def Z72.l0 (R:Run) (N n:Nat) (a b:Int) (e:(List Int)):Option Dv := R.w (some ⟨(.c (.arr 19)::(.c (.d yI a)::(zd 3 (.c (.d yI b)::(zd 13 []))))),(zo 19 (some (.arr yI e true false true)::(none::[])))⟩) fun st => lC R pol_Z72 2 N [1,0,1,0,0] F_Z72 n st (kB R pol_Z72 0 (kS R pol_Z72 6 N [1,1] F_Z72 (kTop E sg_Z72 F_Z72)))
theorem Z72.l0_succ (R:Run) (hw:R.ok) (N n:Nat) (a b:Int) (c:(List Int)):Z72.l0 R N (n + 1) a b c = (bif (decide (b < (List.length c:Int))) then ((chk (decide (0 ≤ b) && decide (b < (List.length c:Int)))).bind fun _ => (Z72.l0 R N n (w64 (a + (1:Int))) (w64 (b + (1:Int))) (List.set c (Int.toNat b) a))) else some ⟨o_Z72,(a,c,())⟩) := (hw _ _).trans (by kernel_rfl)
theorem Z72.ev (R:Run) (N:Nat) (a0:(List Int)) (a1:Int):evFn E R sg_Z72 pol_Z72 F_Z72 N [⟨yL,a0⟩,⟨yI,a1⟩] = (Z72.l0 R N N a1 (0:Int) a0) := by kernel_rfl
theorem Z71.ev (R:Run) (N:Nat) (a0:vK) (a1:Int):evFn E R sg_Z71 pol_Z71 F_Z71 N [⟨yK,a0⟩,⟨yI,a1⟩] = ((callT R n_Z73 o_Z73 [⟨yK,a0⟩,⟨yI,a1⟩]).bind fun r1 => some ⟨o_Z71,(r1.1,r1.2.1,())⟩) := by kernel_rfl
noncomputable def Z70.l0 (R:Run) (N n:Nat) (a:(List Int)) (b e:Int):Option Dv := R.w (some ⟨(.c (.d yL a)::(.c (.d yI b)::(zd 3 (.c (.d yI e)::(zd 15 []))))),(zo 23 [])⟩) fun st => lC R pol_Z70 2 N [1,0,1,0,0] F_Z70 n st (kB R pol_Z70 0 (kS R pol_Z70 7 N [1,1] F_Z70 (kTop E sg_Z70 F_Z70)))
theorem Z70.l0_succ (R:Run) (hw:R.ok) (N n:Nat) (a:(List Int)) (b c:Int):Z70.l0 R N (n + 1) a b c = (bif (decide (c < (List.length a:Int))) then ((idx? a c).bind fun y4 => (bif ((y4,()).1 != b) then some ⟨o_Z70,((-1:Int),())⟩ else (Z70.l0 R N n a (w64 (b + (1:Int))) (w64 (c + (1:Int)))))) else some ⟨o_Z70,(b,())⟩) := (hw _ _).trans (by kernel_rfl)
theorem Z70.ev (R:Run) (N:Nat) (a0:(List Int)) (a1:Int):evFn E R sg_Z70 pol_Z70 F_Z70 N [⟨yL,a0⟩,⟨yI,a1⟩] = (Z70.l0 R N N a0 a1 (0:Int)) := by kernel_rfl
noncomputable def Z66.j2 (R:Run) (N:Nat) (a:Int) (b:Bool) (e:(List Int)):Option Dv := R.w (some ⟨(zd 14 (.c (.arr 133)::(V.dead::(V.dead::(.c (.d yI a)::(zd 100 (.c (.d .bool b)::(zd 8 [])))))))),(zo 133 (some (.arr yI e true false false)::[]))⟩) fun st => eC R pol_Z66 N [1,1,1,1,1,1,1,1,1,1,1,1,1,1,1,1,1,1,1,1,1,1,1,0,1] F_Z66 st (kS R pol_Z66 33 N [1,1,1,1,1,1,1,1,1,1,1,1,1,1,1,1,1,1,1,1,1,1,1,1] F_Z66 (kTop E sg_Z66 F_Z66))
noncomputable def Z66.j1 (R:Run) (N:Nat) (a b:Int) (e f:(List Int)) (g:Int) (h:Bool) (i:vK) (j:(List Int)):Option Dv := R.w (some ⟨(V.dead::(.c (.d yI a)::(.c (.d yI b)::(.c (.d yL e)::(.c (.box 4 0)::(zd 5 (.c (.d yL f)::(.c (.d yI g)::(V.dead::(V.dead::(.c (.arr 133)::(zd 73 (.c (.d .bool h)::(zd 38 [])))))))))))))),(zo 4 (some (.box [.d yK i] false false)::(zo 128 (some (.arr yI j true false false)::[]))))⟩) fun st => eC R pol_Z66 N [1,1,1,1,1,1,1,1,1,1,1,1,1,1,1,0,1] F_Z66 st (kS R pol_Z66 22 N [1,1,1,1,1,1,1,1,1,1,1,1,1,1,1,1] F_Z66 (kTop E sg_Z66 F_Z66))
noncomputable def Z66.j0 (R:Run) (N:Nat) (a b:Int) (e f:(List Int)) (g h:Int) (i:Bool) (j k:vK) (l m:(List Int)):Option Dv := R.w (some ⟨(V.dead::(.c (.d yI a)::(.c (.d yI b)::(.c (.d yL e)::(.c (.box 4 0)::(zd 5 (.c (.d yL f)::(.c (.d yI g)::(.c (.box 12 0)::(.c (.arr 132)::(.c (.arr 133)::(.c (.d yI h)::(zd 43 (.c (.d .bool i)::(zd 67 []))))))))))))))),(zo 4 (some (.box [.d yK j] false false)::(zo 7 (some (.box [.arr 131] false false)::(zo 118 (some (.arr yL k true false false)::(some (.arr yI l true false false)::(some (.arr yI m true false false)::[]))))))))⟩) fun st => eC R pol_Z66 N [1,1,1,1,1,1,1,1,1,0,1] F_Z66 st (kS R pol_Z66 13 N [1,1,1,1,1,1,1,1,1,1] F_Z66 (kTop E sg_Z66 F_Z66))
theorem Z66.j2_eq (R:Run) (hw:R.ok) (N:Nat) (a:Int) (b:Bool) (c:(List Int)):Z66.j2 R N a b c = (bif b then some ⟨o_Z66,(false,())⟩ else ((callT R n_Z70 o_Z70 [⟨yL,c⟩,⟨yI,(1:Int)⟩]).bind fun r43 => (bif (decide (r43.1 < (0:Int))) then some ⟨o_Z66,(false,())⟩ else (bif (r43.1 != a) then some ⟨o_Z66,(false,())⟩ else some ⟨o_Z66,(true,())⟩)))) := (hw _ _).trans (by kernel_rfl)
theorem Z66.j1_eq (R:Run) (hw:R.ok) (N:Nat) (a b:Int) (c d:(List Int)) (e:Int) (f:Bool) (g:vK) (h:(List Int)):Z66.j1 R N a b c d e f g h = (bif f then some ⟨o_Z66,(false,())⟩ else ((callT R n_Z72 o_Z72 [⟨yL,h⟩,⟨yI,(1:Int)⟩]).bind fun r34 => ((callT R n_Z70 o_Z70 [⟨yL,r34.2.1⟩,⟨yI,(1:Int)⟩]).bind fun r35 => (bif (decide (r35.1 < (0:Int))) then some ⟨o_Z66,(false,())⟩ else (bif (r35.1 != r34.1) then some ⟨o_Z66,(false,())⟩ else ((callT R n_Z77 o_Z77 [⟨yK,g⟩]).bind fun r36 => ((callT R n_Z78 o_Z78 [⟨yL,c⟩]).bind fun r37 => ((callT R n_Z5 o_Z5 [⟨yK,r36.1⟩,⟨yI,a⟩,⟨yI,b⟩,⟨yL,r37.1⟩]).bind fun r38 => ((callT R n_Z68 o_Z68 [⟨yL,r38.1⟩,⟨yL,d⟩]).bind fun r39 => (bif (!r39.1) then (Z66.j2 R N r34.1 true r34.2.1) else (Z66.j2 R N r34.1 (r38.2.1 != e) r34.2.1))))))))))) := (hw _ _).trans (by kernel_rfl)
theorem Z66.j0_eq (R:Run) (hw:R.ok) (N:Nat) (a b:Int) (c d:(List Int)) (e f:Int) (g:Bool) (h i:vK) (j k:(List Int)):Z66.j0 R N a b c d e f g h i j k = (bif g then some ⟨o_Z66,(false,())⟩ else ((callT R n_Z77 o_Z77 [⟨yK,h⟩]).bind fun r20 => ((callT R n_Z67 o_Z67 [⟨yK,i⟩,⟨yK,r20.1⟩]).bind fun r21 => (bif (!r21.1) then some ⟨o_Z66,(false,())⟩ else ((callT R n_Z78 o_Z78 [⟨yL,c⟩]).bind fun r22 => ((callT R n_Z68 o_Z68 [⟨yL,j⟩,⟨yL,r22.1⟩]).bind fun r23 => (bif (!r23.1) then some ⟨o_Z66,(false,())⟩ else ((callT R n_Z71 o_Z71 [⟨yK,i⟩,⟨yI,(1:Int)⟩]).bind fun r24 => ((callT R n_Z72 o_Z72 [⟨yL,j⟩,⟨yI,r24.1⟩]).bind fun r25 => (bif (decide (r25.1 < (0:Int))) then (Z66.j1 R N a b c d e true h k) else ((callT R n_Z68 o_Z68 [⟨yL,k⟩,⟨yL,d⟩]).bind fun r47 => (bif (!r47.1) then (Z66.j1 R N a b c d e true h k) else (Z66.j1 R N a b c d e (f != e) h k))))))))))))) := (hw _ _).trans (by kernel_rfl)
theorem Z66.ev (R:Run) (N:Nat) (a0:vK) (a1 a2:Int) (a3:(List Int)):evFn E R sg_Z66 pol_Z66 F_Z66 N [⟨yK,a0⟩,⟨yI,a1⟩,⟨yI,a2⟩,⟨yL,a3⟩] = (bif (decide ((List.length a3:Int) > (1048576:Int))) then some ⟨o_Z66,(true,())⟩ else ((callT R n_Z74 o_Z74 [⟨yK,a0⟩,⟨yI,(1048576:Int)⟩]).bind fun r1 => (bif (decide (r1.1 < (0:Int))) then some ⟨o_Z66,(true,())⟩ else ((callT R n_Z77 o_Z77 [⟨yK,a0⟩]).bind fun r2 => ((callT R n_Z78 o_Z78 [⟨yL,a3⟩]).bind fun r3 => ((callT R n_Z104 o_Z104 [⟨yK,r2.1⟩,⟨yI,a1⟩,⟨yI,a2⟩,⟨yL,r3.1⟩]).bind fun r4 => ((callT R n_Z77 o_Z77 [⟨yK,a0⟩]).bind fun r5 => ((callT R n_Z78 o_Z78 [⟨yL,a3⟩]).bind fun r6 => ((callT R n_Z5 o_Z5 [⟨yK,r5.1⟩,⟨yI,a1⟩,⟨yI,a2⟩,⟨yL,r6.1⟩]).bind fun r7 => ((callT R n_Z68 o_Z68 [⟨yL,r7.1⟩,⟨yL,r4.1⟩]).bind fun r8 => (bif (!r8.1) then (Z66.j0 R N a1 a2 a3 r4.1 r4.2.1 r7.2.1 true a0 r5.1 r6.1 r7.1) else (Z66.j0 R N a1 a2 a3 r4.1 r4.2.1 r7.2.1 (r7.2.1 != r4.2.1) a0 r5.1 r6.1 r7.1)))))))))))) := by kernel_rfl
end VeT


set_option linter.unusedVariables false
set_option linter.unusedSimpArgs false

namespace VeT
section
open Go Go.Proofs Go.RowKit Go.Lib
set_option maxHeartbeats 2000000 in
set_option maxRecDepth 100000 in
theorem mark18_walk (b n c : Nat) (A : Option Addr) (hA : 0 < n → A = some ⟨b, 0, none⟩) (hnc : n ≤ c) (hn : n ≤ 9223372036854775807) (Inv : Nat → Int → World → Prop) (k : Int) (w : World) (h0 : Inv 0 k w)
    (step : ∀ i k' wr, i < n → Inv i k' wr → ∃ u, wr.cell? ⟨b, i, none⟩ = some u ∧ Calls Tryz.prog 24 #[u, .int .i64 k'] wr fun e w' => ∃ k2, e = .returned (.int .i64 k2) ∧ Inv (i + 1) k2 w') :
    Calls Tryz.prog 18 #[.slice A n c, .int .i64 k] w fun e w' => ∃ k2, e = .returned (.int .i64 k2) ∧ Inv n k2 w' := by
  go_enter Tryz.func18, Tryz.ntmps18
  go_wp2
  go_loopw [1, 5] (fun kv iv wr => ∃ i : Nat, ∃ k' : Int, i ≤ n ∧ iv = .int .i64 i ∧ kv = .int .i64 k' ∧ Inv i k' wr) (fun _ iv _ => n - (RowKit.intOf iv).toNat)
  case atStart => exact ⟨0, k, Nat.zero_le _, rfl, rfl, h0⟩
  case round =>
    obtain ⟨i, k', hi, rfl, rfl, hInv⟩ := hrel
    by_cases hlt : i < n
    · obtain rfl := hA (by omega)
      obtain ⟨u, hu, hcall⟩ := step i k' _ hlt hInv
      go_wp2_with (go_at_call 24; refine hcall.mono ?_; rintro e w' ⟨k2, rfl, hI2⟩)
      go_roundw
      case rel => exact ⟨i + 1, k2, by omega, by simp, rfl, hI2⟩
      case measure => simp [RowKit.intOf]; omega
    · obtain rfl : i = n := by omega
      go_wp2
      go_ret
      exact ⟨k', rfl, hInv⟩
open Ve in
theorem mark18_contract {R : Run} (hR : ∀ args dv, R.r 24 args = some dv → Contract Tryz.prog ⟨[(false, 1), (false, 1)], [.io true, .imm], oM, [(false, 1)], [], []⟩ 24 args dv) {args : List Dv} {dv : Dv} (h : pMarkSS 24 R args = some dv) :
    Contract Tryz.prog ⟨[(false, 1), (false, 1)], [.io true, .imm], .cons tI (.cons (.sl tL) .nil), [(false, 1)], [], []⟩ 18 args dv :=
  mark_contract mark18_walk hR h

set_option maxHeartbeats 2000000 in
set_option maxRecDepth 100000 in
theorem grow181_room (base : Option Addr) (l c n : Nat) (w : World) (hlc : l ≤ c) (hc63 : c ≤ 9223372036854775807) (hn63 : n ≤ 9223372036854775807) (hroom : l + n ≤ c) :
    Calls Tryz.prog 181 #[.slice base l c, .int .i64 n] w fun e w' => e = .returned (.slice base l c) ∧ w' = w := by
  have h1 : ¬ ((n : Int) < 0) := by omega
  have h2 : wrap64 ((c : Int) - (l : Int)) = (c : Int) - (l : Int) := by unfold wrap64; omega
  have h3 : wrap64 ((n : Int) - ((c : Int) - (l : Int))) = (n : Int) - ((c : Int) - (l : Int)) := by unfold wrap64; omega
  have h4 : ¬ ((n : Int) - ((c : Int) - (l : Int)) > 0) := by omega
  go_enter Tryz.func181, Tryz.ntmps181
  go_wp2
  go_ret
  exact ⟨rfl, rfl⟩

set_option maxHeartbeats 4000000 in
set_option maxRecDepth 100000 in
theorem grow181_grow (i0 : TypeInfo) (z : Value) (hi0 : Tryz.prog.info? 35 = some i0) (hz0 : i0.zero = some z) (hs0 : 0 < i0.size)
    (base : Option Addr) (l c n : Nat) (cs : List Value) (w : World) (hlc : l ≤ c) (hroom : c < l + n) (hbig : (l + n) * i0.bytes ≤ 140737488355328) (h63 : l + n ≤ 4611686018427387904)
    (hcl : cs.length = c * i0.size) (hnil : base = none → c = 0) (hcs : ∀ a, base = some a → ∀ (j : Nat) v, cs[j]? = some v → w.cell? (a.add j) = some v) :
    Calls Tryz.prog 181 #[.slice base l c, .int .i64 n] w fun e w' =>
      e = .returned (.slice (some ⟨w.heap.size, 0, none⟩) l (grownCap w (l + n) c 35)) ∧
      w' = w.drew.alloc (.cells (cs.toArray ++ Builtin.zeroCells z.cells (l + n - c) ++ Builtin.zeroCells z.cells (grownCap w (l + n) c 35 - (l + n))) 35) := by
  have h1 : ¬ ((n : Int) < 0) := by omega
  have h2 : wrap64 ((c : Int) - (l : Int)) = (c : Int) - (l : Int) := by unfold wrap64; omega
  have h3 : wrap64 ((n : Int) - ((c : Int) - (l : Int))) = (n : Int) - ((c : Int) - (l : Int)) := by unfold wrap64; omega
  have h4 : (n : Int) - ((c : Int) - (l : Int)) > 0 := by omega
  have z25 : ∀ w, (Go.sizeOf 35).run Tryz.prog w = .ok i0.size w := fun w => by simp [Go.sizeOf, typeInfo, hi0]
  have hck : c + (l + n - c) = l + n := by omega
  have hold : (Builtin.firstCells i0.size c (.slice base c c)).run Tryz.prog w.drew = .ok cs.toArray w.drew := by
    cases base with
    | none =>
      have h0 := hnil rfl
      subst h0
      have hc0 : cs = [] := List.length_eq_zero_iff.1 (by simpa using hcl)
      rw [hc0]
      exact run_firstCells_none w.drew i0.size 0 0 0
    | some a => exact run_firstCells_some w.drew i0.size c a c c cs hcl (fun j v hj => hcs a rfl j v hj)
  have hrz : ∀ ty, (Builtin.append_ #[22, 3] ty #[.slice base c c, .int .i64 ((n : Int) - ((c : Int) - (l : Int)))]).run Tryz.prog w =
      .ok (.slice (some ⟨w.heap.size, 0, none⟩) (l + n) (grownCap w (l + n) c 35)) (w.drew.alloc (.cells (cs.toArray ++ Builtin.zeroCells z.cells (l + n - c) ++ Builtin.zeroCells z.cells (grownCap w (l + n) c 35 - (l + n))) 35)) := fun ty => by
    have h := Lib.run_append_grow_zeros w 22 3 ty 35 i0 z .i64 .i64 Tryz.underlying22 Tryz.underlying3 hi0 hz0 base c c cs hold (l + n - c) (by omega) hs0 (by omega) (by omega)
      (by have : (l + n - c) * i0.bytes ≤ (l + n) * i0.bytes := Nat.mul_le_mul_right _ (by omega)
          omega)
      (by rw [hck]; exact growslice_fits hroom hbig)
    rw [hck] at h
    rw [show (n : Int) - ((c : Int) - (l : Int)) = ((l + n - c : Nat) : Int) by omega]
    exact h
  have hGn : l + n ≤ grownCap w (l + n) c 35 := grownCap_ge w _ _ _
  obtain ⟨G, hG⟩ : ∃ G, G = grownCap w (l + n) c 35 := ⟨_, rfl⟩
  rw [← hG] at hrz hGn ⊢
  have hG63 : G ≤ 9223372036854775807 := by
    have := grownCap_le_maxLen w (l + n) c 35 (by unfold maxLen; omega)
    rw [← hG] at this
    unfold maxLen at this
    omega
  clear hold hck hG hcs hcl
  go_enter Tryz.func181, Tryz.ntmps181
  cases base with
  | none =>
    have h0 := hnil rfl
    subst h0
    obtain rfl : l = 0 := by omega
    go_wp2_with (at_builtin; refine Lib.wpList_append_run _ rfl _ _ _ _ rfl _ _ rfl rfl _ _ (hrz _) ?_)
    all_goals (go_ret; exact ⟨rfl, rfl⟩)
  | some a =>
    obtain ⟨ab, ao, asp⟩ := a
    go_wp2_with (at_builtin; refine Lib.wpList_append_run _ rfl _ _ _ _ rfl _ _ rfl rfl _ _ (hrz _) ?_)
    all_goals (go_ret; exact ⟨rfl, rfl⟩)
theorem grow181_info : (Tryz.prog.info? 35).any (fun i => i.size == Ve.Ty.size yL && i.zero.any (fun z => z.cells.size == Ve.Ty.size yL) && decide (i.bytes ≤ 64 * Ve.Ty.size yL) && decide (0 < i.bytes) && decide (0 < Ve.Ty.size yL)) = true := by kernel_rfl
open Ve in
theorem grow181_contract (R : Run) {args : List Dv} {dv : Dv} (h : pGrow yL R args = some dv) :
    Contract Tryz.prog ⟨[(false, 1), (false, 1)], [.take true, .imm], .cons yK .nil, [(false, 1)], [.deep], []⟩ 181 args dv := by
  have hi := grow181_info
  cases hi0 : Tryz.prog.info? 35 with
  | none => rw [hi0] at hi; cases hi
  | some i0 =>
    rw [hi0] at hi
    simp only [Option.any_some, Bool.and_eq_true, decide_eq_true_eq, beq_iff_eq] at hi
    obtain ⟨⟨⟨⟨h1, h2⟩, h3⟩, h4⟩, h5⟩ := hi
    cases hz : i0.zero with
    | none => rw [hz] at h2; cases h2
    | some z =>
      rw [hz] at h2
      exact grow_contract h1 (by simpa using h2) h5 h3 h4 grow181_room (fun base l c n cs w a1 a2 a3 a4 a5 a6 a7 => grow181_grow i0 z hi0 hz (by rw [h1]; exact h5) base l c n cs w a1 a2 a3 a4 a5 a6 a7) R h

set_option maxHeartbeats 2000000 in
set_option maxRecDepth 100000 in
theorem grow225_room (base : Option Addr) (l c n : Nat) (w : World) (hlc : l ≤ c) (hc63 : c ≤ 9223372036854775807) (hn63 : n ≤ 9223372036854775807) (hroom : l + n ≤ c) :
    Calls Tryz.prog 225 #[.slice base l c, .int .i64 n] w fun e w' => e = .returned (.slice base l c) ∧ w' = w := by
  have h1 : ¬ ((n : Int) < 0) := by omega
  have h2 : wrap64 ((c : Int) - (l : Int)) = (c : Int) - (l : Int) := by unfold wrap64; omega
  have h3 : wrap64 ((n : Int) - ((c : Int) - (l : Int))) = (n : Int) - ((c : Int) - (l : Int)) := by unfold wrap64; omega
  have h4 : ¬ ((n : Int) - ((c : Int) - (l : Int)) > 0) := by omega
  go_enter Tryz.func225, Tryz.ntmps225
  go_wp2
  go_ret
  exact ⟨rfl, rfl⟩

set_option maxHeartbeats 4000000 in
set_option maxRecDepth 100000 in
theorem grow225_grow (i0 : TypeInfo) (z : Value) (hi0 : Tryz.prog.info? 2 = some i0) (hz0 : i0.zero = some z) (hs0 : 0 < i0.size)
    (base : Option Addr) (l c n : Nat) (cs : List Value) (w : World) (hlc : l ≤ c) (hroom : c < l + n) (hbig : (l + n) * i0.bytes ≤ 140737488355328) (h63 : l + n ≤ 4611686018427387904)
    (hcl : cs.length = c * i0.size) (hnil : base = none → c = 0) (hcs : ∀ a, base = some a → ∀ (j : Nat) v, cs[j]? = some v → w.cell? (a.add j) = some v) :
    Calls Tryz.prog 225 #[.slice base l c, .int .i64 n] w fun e w' =>
      e = .returned (.slice (some ⟨w.heap.size, 0, none⟩) l (grownCap w (l + n) c 2)) ∧
      w' = w.drew.alloc (.cells (cs.toArray ++ Builtin.zeroCells z.cells (l + n - c) ++ Builtin.zeroCells z.cells (grownCap w (l + n) c 2 - (l + n))) 2) := by
  have h1 : ¬ ((n : Int) < 0) := by omega
  have h2 : wrap64 ((c : Int) - (l : Int)) = (c : Int) - (l : Int) := by unfold wrap64; omega
  have h3 : wrap64 ((n : Int) - ((c : Int) - (l : Int))) = (n : Int) - ((c : Int) - (l : Int)) := by unfold wrap64; omega
  have h4 : (n : Int) - ((c : Int) - (l : Int)) > 0 := by omega
  have z25 : ∀ w, (Go.sizeOf 2).run Tryz.prog w = .ok i0.size w := fun w => by simp [Go.sizeOf, typeInfo, hi0]
  have hck : c + (l + n - c) = l + n := by omega
  have hold : (Builtin.firstCells i0.size c (.slice base c c)).run Tryz.prog w.drew = .ok cs.toArray w.drew := by
    cases base with
    | none =>
      have h0 := hnil rfl
      subst h0
      have hc0 : cs = [] := List.length_eq_zero_iff.1 (by simpa using hcl)
      rw [hc0]
      exact run_firstCells_none w.drew i0.size 0 0 0
    | some a => exact run_firstCells_some w.drew i0.size c a c c cs hcl (fun j v hj => hcs a rfl j v hj)
  have hrz : ∀ ty, (Builtin.append_ #[35, 3] ty #[.slice base c c, .int .i64 ((n : Int) - ((c : Int) - (l : Int)))]).run Tryz.prog w =
      .ok (.slice (some ⟨w.heap.size, 0, none⟩) (l + n) (grownCap w (l + n) c 2)) (w.drew.alloc (.cells (cs.toArray ++ Builtin.zeroCells z.cells (l + n - c) ++ Builtin.zeroCells z.cells (grownCap w (l + n) c 2 - (l + n))) 2)) := fun ty => by
    have h := Lib.run_append_grow_zeros w 35 3 ty 2 i0 z .i64 .i64 Tryz.underlying35 Tryz.underlying3 hi0 hz0 base c c cs hold (l + n - c) (by omega) hs0 (by omega) (by omega)
      (by have : (l + n - c) * i0.bytes ≤ (l + n) * i0.bytes := Nat.mul_le_mul_right _ (by omega)
          omega)
      (by rw [hck]; exact growslice_fits hroom hbig)
    rw [hck] at h
    rw [show (n : Int) - ((c : Int) - (l : Int)) = ((l + n - c : Nat) : Int) by omega]
    exact h
  have hGn : l + n ≤ grownCap w (l + n) c 2 := grownCap_ge w _ _ _
  obtain ⟨G, hG⟩ : ∃ G, G = grownCap w (l + n) c 2 := ⟨_, rfl⟩
  rw [← hG] at hrz hGn ⊢
  have hG63 : G ≤ 9223372036854775807 := by
    have := grownCap_le_maxLen w (l + n) c 2 (by unfold maxLen; omega)
    rw [← hG] at this
    unfold maxLen at this
    omega
  clear hold hck hG hcs hcl
  go_enter Tryz.func225, Tryz.ntmps225
  cases base with
  | none =>
    have h0 := hnil rfl
    subst h0
    obtain rfl : l = 0 := by omega
    go_wp2_with (at_builtin; refine Lib.wpList_append_run _ rfl _ _ _ _ rfl _ _ rfl rfl _ _ (hrz _) ?_)
    all_goals (go_ret; exact ⟨rfl, rfl⟩)
  | some a =>
    obtain ⟨ab, ao, asp⟩ := a
    go_wp2_with (at_builtin; refine Lib.wpList_append_run _ rfl _ _ _ _ rfl _ _ rfl rfl _ _ (hrz _) ?_)
    all_goals (go_ret; exact ⟨rfl, rfl⟩)
theorem grow225_info : (Tryz.prog.info? 2).any (fun i => i.size == Ve.Ty.size yI && i.zero.any (fun z => z.cells.size == Ve.Ty.size yI) && decide (i.bytes ≤ 64 * Ve.Ty.size yI) && decide (0 < i.bytes) && decide (0 < Ve.Ty.size yI)) = true := by kernel_rfl
open Ve in
theorem grow225_contract (R : Run) {args : List Dv} {dv : Dv} (h : pGrow yI R args = some dv) :
    Contract Tryz.prog ⟨[(false, 1), (false, 1)], [.take true, .imm], .cons yL .nil, [(false, 1)], [.deep], []⟩ 225 args dv := by
  have hi := grow225_info
  cases hi0 : Tryz.prog.info? 2 with
  | none => rw [hi0] at hi; cases hi
  | some i0 =>
    rw [hi0] at hi
    simp only [Option.any_some, Bool.and_eq_true, decide_eq_true_eq, beq_iff_eq] at hi
    obtain ⟨⟨⟨⟨h1, h2⟩, h3⟩, h4⟩, h5⟩ := hi
    cases hz : i0.zero with
    | none => rw [hz] at h2; cases h2
    | some z =>
      rw [hz] at h2
      exact grow_contract h1 (by simpa using h2) h5 h3 h4 grow225_room (fun base l c n cs w a1 a2 a3 a4 a5 a6 a7 => grow225_grow i0 z hi0 hz (by rw [h1]; exact h5) base l c n cs w a1 a2 a3 a4 a5 a6 a7) R h

end
section
open Go Ve
theorem primL_eq : primL = (List.range 286).map fun i => bif Nat.beq i 18 then some (pMarkSS n_Z72) else bif Nat.beq i 181 then some (pGrow yL) else bif Nat.beq i 225 then some (pGrow yI) else none := by kernel_rfl
theorem prims_ok : ∀ f p, E.prim f = some p → ∀ r, RunOk E (mkR r) → ∀ args dv sg, E.sig f = some sg → p (mkR r) args = some dv → Contract E.P sg f args dv := by
  intro f p hp r hr args dv sg hsg h
  have hp : primL.getD f none = some p := hp
  rw [primL_eq, List.getD_eq_getElem?_getD, List.getElem?_map] at hp
  by_cases hf : f < 286
  · rw [List.getElem?_range hf] at hp
    simp only [Option.map_some, Option.getD_some] at hp
    by_cases h18 : f = 18
    · subst h18
      obtain rfl : (pMarkSS n_Z72) = p := Option.some.inj hp
      obtain rfl : sg_Z73 = sg := Option.some.inj (sig_laws_markInt64SS_eq.symm.trans hsg)
      exact mark18_contract (fun args dv h => hr _ args dv _ sig_laws_markInt64S_eq h) h
    rw [show Nat.beq f 18 = false from Bool.eq_false_iff.2 fun h => h18 (Nat.eq_of_beq_eq_true h), cond_false] at hp
    by_cases h181 : f = 181
    · subst h181
      obtain rfl : (pGrow yL) = p := Option.some.inj hp
      obtain rfl : sg_Z93 = sg := Option.some.inj (sig_slices_Grow_SSint64_Sint64_eq.symm.trans hsg)
      exact grow181_contract _ h
    rw [show Nat.beq f 181 = false from Bool.eq_false_iff.2 fun h => h181 (Nat.eq_of_beq_eq_true h), cond_false] at hp
    by_cases h225 : f = 225
    · subst h225
      obtain rfl : (pGrow yI) = p := Option.some.inj hp
      obtain rfl : sg_Z94 = sg := Option.some.inj (sig_slices_Grow_Sint64_int64_eq.symm.trans hsg)
      exact grow225_contract _ h
    rw [show Nat.beq f 225 = false from Bool.eq_false_iff.2 fun h => h225 (Nat.eq_of_beq_eq_true h), cond_false] at hp
    cases hp
  · rw [List.getElem?_eq_none (by simpa using hf)] at hp
    cases hp
end
end VeT

open Go Go.Proofs Ve
set_option linter.unusedVariables false
set_option linter.unusedSimpArgs false
namespace VeT

theorem szInt64S_ret (x : (List Int)) (l : Int) (hx : Wf yL x) (h0 : 0 ≤ l) (h1 : l ≤ 1048576) :
    ∃ r : Int, Ret E n_Z75 [⟨yL, x⟩, ⟨.int .i64, l⟩] ⟨o_Z75, (r, ())⟩ ∧ (0 ≤ r → r ≤ l ∧ Sm yL x) := by
  have hx1 : x.length ≤ maxLen := hx.1
  rw [maxLen_eq] at hx1
  have hw : w64 (l - x.length) = l - x.length := w64_small (by omega) (by omega)
  by_cases hc : l - (x.length : Int) < 0
  · refine ⟨-1, Evt.succ (Evt.of fun n => ?_), fun h => by omega⟩
    rw [run_Z75, Z75.ev, hw, decide_eq_true hc]; rfl
  · refine ⟨l - x.length, Evt.succ (Evt.of fun n => ?_), fun h => ⟨by omega, by omega, fun x _ => trivial⟩⟩
    rw [run_Z75, Z75.ev, hw, decide_eq_false hc]; rfl

theorem toInt64S_ret (x : (List Int)) (hx : Sm yL x) : Ret E n_Z78 [⟨yL, x⟩] ⟨o_Z78, (x, ())⟩ := by
  have hx1 : x.length ≤ 1048576 := hx.1
  have hl := fill_loop (a := x) (L := fun m n i o => Z78.l0 (mkR (run E m)) m n x i o) (z := List.replicate (Int.toNat (List.length x : Int)) (0 : Int)) (r := some ⟨o_Z78, (x, ())⟩) (by simp) (fun k o hk ho => by
      refine Evt.of fun m n => ?_
      show Z78.l0 _ _ _ _ _ _ = _
      rw [Z78.l0_succ _ mk_ok, decide_eq_true (show (k : Int) < x.length by omega), cond_true, idx_lt hk]
      simp only [Option.bind_some]
      rw [chk_true (by simp; omega), w64_succ (by omega), Int.toNat_natCast]) (Evt.of fun m n => by
      show Z78.l0 _ _ _ _ _ _ = _
      rw [Z78.l0_succ _ mk_ok, decide_eq_false (by omega), cond_false])
  refine Evt.succ (hl.mono fun n h => ?_)
  rw [run_Z78, Z78.ev, chk_true (by simp; omega)]
  exact h

theorem eqInt64S_ret (x y : (List Int)) (hx : Sm yL x) : ∃ b : Bool, Ret E n_Z68 [⟨yL, x⟩, ⟨yL, y⟩] ⟨o_Z68, (b, ())⟩ ∧ (b = true ↔ x = y) := by
  have hx1 : x.length ≤ 1048576 := hx.1
  by_cases hl : x.length = y.length
  · have hd : ((x.length : Int) != (y.length : Int)) = false := by simp [hl]
    obtain ⟨h1, h2⟩ := same_loop (a := x) (b := y) (L := fun m n i (_ : Unit) => Z68.l0 (mkR (run E m)) m n x y i) (fun u v => u = v) (rt := some ⟨o_Z68, (true, ())⟩) (rf := some ⟨o_Z68, (false, ())⟩) hl.symm
      (fun k h h' hne => Evt.of fun m n => by
      show Z68.l0 _ _ _ _ _ _ = _
      rw [Z68.l0_succ _ mk_ok, decide_eq_true (show (k : Int) < x.length by omega), cond_true, idx_lt h, idx_lt h']
      have : (x[k] != y[k]) = true := by simpa using hne
      simp only [Option.bind_some, this, cond_true])
      (fun k h h' he => Evt.of fun m n => by
      show Z68.l0 _ _ _ _ _ _ = _
      rw [Z68.l0_succ _ mk_ok, decide_eq_true (show (k : Int) < x.length by omega), cond_true, idx_lt h, idx_lt h']
      have : (x[k] != y[k]) = false := by simpa using he
      simp only [Option.bind_some, this, cond_false]
      rw [w64_succ (by omega)])
      (Evt.of fun m n => by
      show Z68.l0 _ _ _ _ _ _ = _
      rw [Z68.l0_succ _ mk_ok, decide_eq_false (by omega), cond_false])
    by_cases he : x = y
    · refine ⟨true, Evt.succ ((h1 (by subst he; intros; rfl)).mono fun n h => ?_), by simp [he]⟩
      rw [run_Z68, Z68.ev, hd, cond_false]
      exact h
    · refine ⟨false, Evt.succ ((h2 fun hh => he (List.ext_getElem hl hh)).mono fun n h => ?_), by simp [he]⟩
      rw [run_Z68, Z68.ev, hd, cond_false]
      exact h
  · have hd : ((x.length : Int) != (y.length : Int)) = true := by simp; omega
    refine ⟨false, Evt.succ (Evt.of fun n => ?_), ⟨fun h => (nomatch h), fun h => absurd (congrArg List.length h) hl⟩⟩
    rw [run_Z68, Z68.ev, hd, cond_true]

theorem szInt64SS_ret (x : vK) (l : Int) (hx : Wf yK x) (h0 : 0 ≤ l) (h1 : l ≤ 1048576) :
    ∃ r : Int, Ret E n_Z76 [⟨yK, x⟩, ⟨.int .i64, l⟩] ⟨o_Z76, (r, ())⟩ ∧ (0 ≤ r → r ≤ l ∧ Sm yK x) := by
  have hx1 : x.length ≤ maxLen := hx.1
  rw [maxLen_eq] at hx1
  have hw : w64 (l - x.length) = l - x.length := w64_small (by omega) (by omega)
  by_cases hc : l - (x.length : Int) < 0
  · refine ⟨-1, Evt.succ (Evt.of fun n => ?_), fun h => by omega⟩
    rw [run_Z76, Z76.ev, hw, decide_eq_true hc]; rfl
  · obtain ⟨r, hr, hs⟩ := sz_loop (xs := x) (L := fun m n i left => Z76.l0 (mkR (run E m)) m n x left i) (ret := fun r => some ⟨o_Z76, (r, ())⟩) (fun x => Sm yL x) (fun k left hk hl0 hl1 => by
      obtain ⟨r, hr, hs⟩ := szInt64S_ret x[k] left (hx.2 _ (List.getElem_mem hk)) hl0 hl1
      refine ⟨r, hs, hr.mono fun m h n => ?_⟩
      show Z76.l0 _ _ _ _ _ _ = _
      rw [Z76.l0_succ _ mk_ok, decide_eq_true (show (k : Int) < x.length by omega), cond_true, idx_lt hk]
      simp only [Option.bind_some, callT_of h]
      rw [w64_succ (by omega)]) (fun left => Evt.of fun m n => by
      show Z76.l0 _ _ _ _ _ _ = _
      rw [Z76.l0_succ _ mk_ok, decide_eq_false (by omega), cond_false]) (l - x.length) (by omega) (by omega)
    refine ⟨r, Evt.succ (hr.mono fun n h => ?_), fun h => ⟨by have := (hs h).1; omega, by omega, (hs h).2⟩⟩
    rw [run_Z76, Z76.ev, hw, decide_eq_false hc]
    exact h

theorem toInt64SS_ret (x : vK) (hx : Sm yK x) : Ret E n_Z79 [⟨yK, x⟩] ⟨o_Z79, (x, ())⟩ := by
  have hx1 : x.length ≤ 1048576 := hx.1
  have hl := fill_loop (a := x) (L := fun m n i o => Z79.l0 (mkR (run E m)) m n x i o) (z := List.replicate (Int.toNat (List.length x : Int)) ([] : List Int)) (r := some ⟨o_Z79, (x, ())⟩) (by simp) (fun k o hk ho => by
      have hr := toInt64S_ret x[k] (hx.2 _ (List.getElem_mem hk))
      refine hr.mono fun m h n => ?_
      show Z79.l0 _ _ _ _ _ _ = _
      rw [Z79.l0_succ _ mk_ok, decide_eq_true (show (k : Int) < x.length by omega), cond_true, idx_lt hk]
      simp only [Option.bind_some, callT_of h]
      rw [chk_true (by simp; omega), w64_succ (by omega), Int.toNat_natCast]) (Evt.of fun m n => by
      show Z79.l0 _ _ _ _ _ _ = _
      rw [Z79.l0_succ _ mk_ok, decide_eq_false (by omega), cond_false])
  refine Evt.succ (hl.mono fun n h => ?_)
  rw [run_Z79, Z79.ev, chk_true (by simp; omega)]
  exact h

theorem eqInt64SS_ret (x y : vK) (hx : Sm yK x) : ∃ b : Bool, Ret E n_Z69 [⟨yK, x⟩, ⟨yK, y⟩] ⟨o_Z69, (b, ())⟩ ∧ (b = true ↔ x = y) := by
  have hx1 : x.length ≤ 1048576 := hx.1
  by_cases hl : x.length = y.length
  · have hd : ((x.length : Int) != (y.length : Int)) = false := by simp [hl]
    obtain ⟨h1, h2⟩ := same_loop (a := x) (b := y) (L := fun m n i (_ : Unit) => Z69.l0 (mkR (run E m)) m n x y i) (fun u v => u = v) (rt := some ⟨o_Z69, (true, ())⟩) (rf := some ⟨o_Z69, (false, ())⟩) hl.symm
      (fun k h h' hne => by
      obtain ⟨b, hb, hbe⟩ := eqInt64S_ret x[k] y[k] (hx.2 _ (List.getElem_mem h))
      have hb0 : b = false := by cases b <;> simp_all
      subst hb0
      refine hb.mono fun m hm n => ?_
      show Z69.l0 _ _ _ _ _ _ = _
      rw [Z69.l0_succ _ mk_ok, decide_eq_true (show (k : Int) < x.length by omega), cond_true, idx_lt h, idx_lt h']
      simp only [Option.bind_some, callT_of hm, Bool.not_false, Bool.not_true, cond_true, cond_false])
      (fun k h h' he => by
      obtain ⟨b, hb, hbe⟩ := eqInt64S_ret x[k] y[k] (hx.2 _ (List.getElem_mem h))
      have hb0 : b = true := by cases b <;> simp_all
      subst hb0
      refine hb.mono fun m hm n => ?_
      show Z69.l0 _ _ _ _ _ _ = _
      rw [Z69.l0_succ _ mk_ok, decide_eq_true (show (k : Int) < x.length by omega), cond_true, idx_lt h, idx_lt h']
      simp only [Option.bind_some, callT_of hm, Bool.not_false, Bool.not_true, cond_true, cond_false]
      rw [w64_succ (by omega)])
      (Evt.of fun m n => by
      show Z69.l0 _ _ _ _ _ _ = _
      rw [Z69.l0_succ _ mk_ok, decide_eq_false (by omega), cond_false])
    by_cases he : x = y
    · refine ⟨true, Evt.succ ((h1 (by subst he; intros; rfl)).mono fun n h => ?_), by simp [he]⟩
      rw [run_Z69, Z69.ev, hd, cond_false]
      exact h
    · refine ⟨false, Evt.succ ((h2 fun hh => he (List.ext_getElem hl hh)).mono fun n h => ?_), by simp [he]⟩
      rw [run_Z69, Z69.ev, hd, cond_false]
      exact h
  · have hd : ((x.length : Int) != (y.length : Int)) = true := by simp; omega
    refine ⟨false, Evt.succ (Evt.of fun n => ?_), ⟨fun h => (nomatch h), fun h => absurd (congrArg List.length h) hl⟩⟩
    rw [run_Z69, Z69.ev, hd, cond_true]

theorem szComplex_ret (x : (vK × Unit)) (l : Int) (hx : Wf (.st (.cons yK .nil)) x) (h0 : 0 ≤ l) (h1 : l ≤ 1048576) :
    ∃ r : Int, Ret E n_Z74 [⟨yK, x.1⟩, ⟨.int .i64, l⟩] ⟨o_Z74, (r, ())⟩ ∧ (0 ≤ r → r ≤ l ∧ Sm (.st (.cons yK .nil)) x) := by
  obtain ⟨r0, hr0, hs0⟩ := szInt64SS_ret x.1 l hx.1 (by omega) (by omega)
  by_cases hc0 : r0 < 0
  · refine ⟨-1, Evt.succ (hr0.mono fun n e0 => ?_), fun h => by omega⟩
    rw [run_Z74, Z74.ev]
    simp only [Option.bind_some, cond_true, cond_false, callT_of e0, decide_eq_true hc0]
  have hb0 := hs0 (by omega)
  refine ⟨r0, Evt.succ (hr0.mono fun n e0 => ?_), fun h => ⟨by omega, ?_⟩⟩
  · skip
    rw [run_Z74, Z74.ev]
    simp only [Option.bind_some, cond_true, cond_false, callT_of e0, decide_eq_false hc0]
  · exact ⟨hb0.2, trivial⟩

theorem toComplex_ret (x : (vK × Unit)) (hx : Sm (.st (.cons yK .nil)) x) : Ret E n_Z77 [⟨yK, x.1⟩] ⟨o_Z77, x⟩ := by
  have hr0 := toInt64SS_ret x.1 hx.1
  refine Evt.succ (hr0.mono fun n e0 => ?_)
  rw [run_Z77, Z77.ev]
  simp only [Option.bind_some, callT_of e0]

theorem eqComplex_ret (x y : (vK × Unit)) (hx : Sm (.st (.cons yK .nil)) x) : ∃ b : Bool, Ret E n_Z67 [⟨yK, x.1⟩, ⟨yK, y.1⟩] ⟨o_Z67, (b, ())⟩ ∧ (b = true ↔ x = y) := by
  obtain ⟨b0, hr0, hb0⟩ := eqInt64SS_ret x.1 y.1 hx.1
  refine ⟨b0, Evt.succ (hr0.mono fun n e0 => ?_), ?_⟩
  · skip
    rw [run_Z67, Z67.ev]
    simp only [Option.bind_some, callT_of e0]
    clear hx hr0 e0 hb0
    cases b0 <;> rfl
  · obtain ⟨x0, _⟩ := x
    obtain ⟨y0, _⟩ := y
    simp only [Bool.and_eq_true, decide_eq_true_eq, hb0, Prod.mk.injEq, and_true]
    try simp only [and_assoc]

end VeT

open Go Go.Proofs Ve
set_option linter.unusedVariables false
set_option linter.unusedSimpArgs false
namespace VeT

theorem IndexFunc_SSint64_Sint64_impl_ValidComplex_1_ret (s : List (List Int)) (c : ((vK × Unit) × (Int × Unit) × Unit)) (p : (List Int) → Bool) (hs : s.length ≤ 1048576) (hp : ∀ x ∈ s, Ret E n_Z9 [⟨yL, x⟩, ⟨(.ptr (.cons yK .nil)), c.1⟩, ⟨(.ptr (.cons yI .nil)), c.2.1⟩] ⟨o_Z9, (p x, ())⟩) :
    Ret E n_Z95 [⟨yK, s⟩, ⟨(.fn n_Z9 (.cons (.ptr (.cons yK .nil)) (.cons (.ptr (.cons yI .nil)) .nil))), c⟩] ⟨o_Z95, (idxf p s, ())⟩ := by
  obtain ⟨o, h1, h2, h3⟩ := find_loop 1 (L := fun φ n k => Z96.l0 (mkR (run E (φ 0))) (φ 0) n s c (s.length : Int) k) (len := s.length) (fun k => ∃ h : k < s.length, p s[k] = true) (fun o => some ⟨o_Z95, (o2i o, ())⟩) (fun _ _ _ _ => rfl) (fun k hk hP => by
      obtain ⟨_, hP⟩ := hP
      simp only [Z96.l0_succ _ mk_ok]
      refine ev_t (decide_eq_true (by omega)) (ev_bind (idx_lt hk) (ev_call (hp _ (List.getElem_mem hk)) (ev_t hP ev_rfl)))) (fun k q hk hP ih => by
      simp only [Z96.l0_succ _ mk_ok]
      refine ev_t (decide_eq_true (by omega)) (ev_bind (idx_lt hk) (ev_call (hp _ (List.getElem_mem hk)) (ev_f (Bool.eq_false_iff.2 fun h => hP ⟨hk, h⟩) ?_)))
      rw [w64_succ (by omega)]; exact ih) (by
      simp only [Z96.l0_succ _ mk_ok]
      exact ev_f (decide_eq_false (by omega)) ev_rfl)
  rw [idxf_of h1 h2] at h3
  refine ret_of ?_
  simp only [run_Z95, Z96.ev]
  exact Ev.start (p := fun φ n => Z96.l0 (mkR (run E (φ 0))) (φ 0) n s c (s.length : Int) 0 = _) 1 h3 (fun _ _ _ h => h)

theorem IndexFunc_SSint64_Sint64_impl_eliminate_1_ret (s : List (List Int)) (c : ((Int × Unit) × Unit)) (p : (List Int) → Bool) (hs : s.length ≤ 1048576) (hp : ∀ x ∈ s, Ret E n_Z29 [⟨yL, x⟩, ⟨(.ptr (.cons yI .nil)), c.1⟩] ⟨o_Z29, (p x, ())⟩) :
    Ret E n_Z95 [⟨yK, s⟩, ⟨(.fn n_Z29 (.cons (.ptr (.cons yI .nil)) .nil)), c⟩] ⟨o_Z95, (idxf p s, ())⟩ := by
  obtain ⟨o, h1, h2, h3⟩ := find_loop 1 (L := fun φ n k => Z97.l0 (mkR (run E (φ 0))) (φ 0) n s c (s.length : Int) k) (len := s.length) (fun k => ∃ h : k < s.length, p s[k] = true) (fun o => some ⟨o_Z95, (o2i o, ())⟩) (fun _ _ _ _ => rfl) (fun k hk hP => by
      obtain ⟨_, hP⟩ := hP
      simp only [Z97.l0_succ _ mk_ok]
      refine ev_t (decide_eq_true (by omega)) (ev_bind (idx_lt hk) (ev_call (hp _ (List.getElem_mem hk)) (ev_t hP ev_rfl)))) (fun k q hk hP ih => by
      simp only [Z97.l0_succ _ mk_ok]
      refine ev_t (decide_eq_true (by omega)) (ev_bind (idx_lt hk) (ev_call (hp _ (List.getElem_mem hk)) (ev_f (Bool.eq_false_iff.2 fun h => hP ⟨hk, h⟩) ?_)))
      rw [w64_succ (by omega)]; exact ih) (by
      simp only [Z97.l0_succ _ mk_ok]
      exact ev_f (decide_eq_false (by omega)) ev_rfl)
  rw [idxf_of h1 h2] at h3
  refine ret_of ?_
  simp only [run_Z95, Z97.ev]
  exact Ev.start (p := fun φ n => Z97.l0 (mkR (run E (φ 0))) (φ 0) n s c (s.length : Int) 0 = _) 1 h3 (fun _ _ _ h => h)

theorem IndexFunc_Sint64_int64_impl_ValidSimplex_1_ret (s : List Int) (p : Int → Bool) (hs : s.length ≤ 1048576) (hp : ∀ x ∈ s, Ret E n_Z12 [⟨yI, x⟩] ⟨o_Z12, (p x, ())⟩) :
    Ret E n_Z98 [⟨yL, s⟩, ⟨(.fn n_Z12 .nil), ()⟩] ⟨o_Z98, (idxf p s, ())⟩ := by
  obtain ⟨o, h1, h2, h3⟩ := find_loop 1 (L := fun φ n k => Z99.l0 (mkR (run E (φ 0))) (φ 0) n s (s.length : Int) k) (len := s.length) (fun k => ∃ h : k < s.length, p s[k] = true) (fun o => some ⟨o_Z98, (o2i o, ())⟩) (fun _ _ _ _ => rfl) (fun k hk hP => by
      obtain ⟨_, hP⟩ := hP
      simp only [Z99.l0_succ _ mk_ok]
      refine ev_t (decide_eq_true (by omega)) (ev_bind (idx_lt hk) (ev_call (hp _ (List.getElem_mem hk)) (ev_t hP ev_rfl)))) (fun k q hk hP ih => by
      simp only [Z99.l0_succ _ mk_ok]
      refine ev_t (decide_eq_true (by omega)) (ev_bind (idx_lt hk) (ev_call (hp _ (List.getElem_mem hk)) (ev_f (Bool.eq_false_iff.2 fun h => hP ⟨hk, h⟩) ?_)))
      rw [w64_succ (by omega)]; exact ih) (by
      simp only [Z99.l0_succ _ mk_ok]
      exact ev_f (decide_eq_false (by omega)) ev_rfl)
  rw [idxf_of h1 h2] at h3
  refine ret_of ?_
  simp only [run_Z98, Z99.ev]
  exact Ev.start (p := fun φ n => Z99.l0 (mkR (run E (φ 0))) (φ 0) n s (s.length : Int) 0 = _) 1 h3 (fun _ _ _ h => h)

theorem IndexFunc_Sint64_int64_impl_areElements_1_ret (s : List Int) (c : ((Int × Unit) × Unit)) (p : Int → Bool) (hs : s.length ≤ 1048576) (hp : ∀ x ∈ s, Ret E n_Z17 [⟨yI, x⟩, ⟨(.ptr (.cons yI .nil)), c.1⟩] ⟨o_Z17, (p x, ())⟩) :
    Ret E n_Z98 [⟨yL, s⟩, ⟨(.fn n_Z17 (.cons (.ptr (.cons yI .nil)) .nil)), c⟩] ⟨o_Z98, (idxf p s, ())⟩ := by
  obtain ⟨o, h1, h2, h3⟩ := find_loop 1 (L := fun φ n k => Z100.l0 (mkR (run E (φ 0))) (φ 0) n s c (s.length : Int) k) (len := s.length) (fun k => ∃ h : k < s.length, p s[k] = true) (fun o => some ⟨o_Z98, (o2i o, ())⟩) (fun _ _ _ _ => rfl) (fun k hk hP => by
      obtain ⟨_, hP⟩ := hP
      simp only [Z100.l0_succ _ mk_ok]
      refine ev_t (decide_eq_true (by omega)) (ev_bind (idx_lt hk) (ev_call (hp _ (List.getElem_mem hk)) (ev_t hP ev_rfl)))) (fun k q hk hP ih => by
      simp only [Z100.l0_succ _ mk_ok]
      refine ev_t (decide_eq_true (by omega)) (ev_bind (idx_lt hk) (ev_call (hp _ (List.getElem_mem hk)) (ev_f (Bool.eq_false_iff.2 fun h => hP ⟨hk, h⟩) ?_)))
      rw [w64_succ (by omega)]; exact ih) (by
      simp only [Z100.l0_succ _ mk_ok]
      exact ev_f (decide_eq_false (by omega)) ev_rfl)
  rw [idxf_of h1 h2] at h3
  refine ret_of ?_
  simp only [run_Z98, Z100.ev]
  exact Ev.start (p := fun φ n => Z100.l0 (mkR (run E (φ 0))) (φ 0) n s c (s.length : Int) 0 = _) 1 h3 (fun _ _ _ h => h)

theorem IndexFunc_Sint64_int64_impl_isZero_1_ret (s : List Int) (p : Int → Bool) (hs : s.length ≤ 1048576) (hp : ∀ x ∈ s, Ret E n_Z47 [⟨yI, x⟩] ⟨o_Z47, (p x, ())⟩) :
    Ret E n_Z98 [⟨yL, s⟩, ⟨(.fn n_Z47 .nil), ()⟩] ⟨o_Z98, (idxf p s, ())⟩ := by
  obtain ⟨o, h1, h2, h3⟩ := find_loop 1 (L := fun φ n k => Z101.l0 (mkR (run E (φ 0))) (φ 0) n s (s.length : Int) k) (len := s.length) (fun k => ∃ h : k < s.length, p s[k] = true) (fun o => some ⟨o_Z98, (o2i o, ())⟩) (fun _ _ _ _ => rfl) (fun k hk hP => by
      obtain ⟨_, hP⟩ := hP
      simp only [Z101.l0_succ _ mk_ok]
      refine ev_t (decide_eq_true (by omega)) (ev_bind (idx_lt hk) (ev_call (hp _ (List.getElem_mem hk)) (ev_t hP ev_rfl)))) (fun k q hk hP ih => by
      simp only [Z101.l0_succ _ mk_ok]
      refine ev_t (decide_eq_true (by omega)) (ev_bind (idx_lt hk) (ev_call (hp _ (List.getElem_mem hk)) (ev_f (Bool.eq_false_iff.2 fun h => hP ⟨hk, h⟩) ?_)))
      rw [w64_succ (by omega)]; exact ih) (by
      simp only [Z101.l0_succ _ mk_ok]
      exact ev_f (decide_eq_false (by omega)) ev_rfl)
  rw [idxf_of h1 h2] at h3
  refine ret_of ?_
  simp only [run_Z98, Z101.ev]
  exact Ev.start (p := fun φ n => Z101.l0 (mkR (run E (φ 0))) (φ 0) n s (s.length : Int) 0 = _) 1 h3 (fun _ _ _ h => h)

theorem IndexFunc_Sint64_int64_impl_placesOf_1_ret (s : List Int) (p : Int → Bool) (hs : s.length ≤ 1048576) (hp : ∀ x ∈ s, Ret E n_Z51 [⟨yI, x⟩] ⟨o_Z51, (p x, ())⟩) :
    Ret E n_Z98 [⟨yL, s⟩, ⟨(.fn n_Z51 .nil), ()⟩] ⟨o_Z98, (idxf p s, ())⟩ := by
  obtain ⟨o, h1, h2, h3⟩ := find_loop 1 (L := fun φ n k => Z102.l0 (mkR (run E (φ 0))) (φ 0) n s (s.length : Int) k) (len := s.length) (fun k => ∃ h : k < s.length, p s[k] = true) (fun o => some ⟨o_Z98, (o2i o, ())⟩) (fun _ _ _ _ => rfl) (fun k hk hP => by
      obtain ⟨_, hP⟩ := hP
      simp only [Z102.l0_succ _ mk_ok]
      refine ev_t (decide_eq_true (by omega)) (ev_bind (idx_lt hk) (ev_call (hp _ (List.getElem_mem hk)) (ev_t hP ev_rfl)))) (fun k q hk hP ih => by
      simp only [Z102.l0_succ _ mk_ok]
      refine ev_t (decide_eq_true (by omega)) (ev_bind (idx_lt hk) (ev_call (hp _ (List.getElem_mem hk)) (ev_f (Bool.eq_false_iff.2 fun h => hP ⟨hk, h⟩) ?_)))
      rw [w64_succ (by omega)]; exact ih) (by
      simp only [Z102.l0_succ _ mk_ok]
      exact ev_f (decide_eq_false (by omega)) ev_rfl)
  rw [idxf_of h1 h2] at h3
  refine ret_of ?_
  simp only [run_Z98, Z102.ev]
  exact Ev.start (p := fun φ n => Z102.l0 (mkR (run E (φ 0))) (φ 0) n s (s.length : Int) 0 = _) 1 h3 (fun _ _ _ h => h)

theorem ContainsFunc_SSint64_Sint64_impl_ValidComplex_1_ret (s : List (List Int)) (c : ((vK × Unit) × (Int × Unit) × Unit)) (p : (List Int) → Bool) (hs : s.length ≤ 1048576) (hp : ∀ x ∈ s, Ret E n_Z9 [⟨yL, x⟩, ⟨(.ptr (.cons yK .nil)), c.1⟩, ⟨(.ptr (.cons yI .nil)), c.2.1⟩] ⟨o_Z9, (p x, ())⟩) :
    Ret E n_Z86 [⟨yK, s⟩, ⟨(.fn n_Z9 (.cons (.ptr (.cons yK .nil)) (.cons (.ptr (.cons yI .nil)) .nil))), c⟩] ⟨o_Z86, (pb (∃ x ∈ s, p x = true), ())⟩ := by
  refine ret_of ?_
  simp only [run_Z86, Z87.ev]
  refine ev_call (IndexFunc_SSint64_Sint64_impl_ValidComplex_1_ret s c p hs hp) (ev_some ?_)
  simp only [ge_iff_le, pb_dec, pb_congr idxf_nonneg]

theorem ContainsFunc_Sint64_int64_impl_ValidSimplex_1_ret (s : List Int) (p : Int → Bool) (hs : s.length ≤ 1048576) (hp : ∀ x ∈ s, Ret E n_Z12 [⟨yI, x⟩] ⟨o_Z12, (p x, ())⟩) :
    Ret E n_Z88 [⟨yL, s⟩, ⟨(.fn n_Z12 .nil), ()⟩] ⟨o_Z88, (pb (∃ x ∈ s, p x = true), ())⟩ := by
  refine ret_of ?_
  simp only [run_Z88, Z89.ev]
  refine ev_call (IndexFunc_Sint64_int64_impl_ValidSimplex_1_ret s p hs hp) (ev_some ?_)
  simp only [ge_iff_le, pb_dec, pb_congr idxf_nonneg]

theorem ContainsFunc_Sint64_int64_impl_areElements_1_ret (s : List Int) (c : ((Int × Unit) × Unit)) (p : Int → Bool) (hs : s.length ≤ 1048576) (hp : ∀ x ∈ s, Ret E n_Z17 [⟨yI, x⟩, ⟨(.ptr (.cons yI .nil)), c.1⟩] ⟨o_Z17, (p x, ())⟩) :
    Ret E n_Z88 [⟨yL, s⟩, ⟨(.fn n_Z17 (.cons (.ptr (.cons yI .nil)) .nil)), c⟩] ⟨o_Z88, (pb (∃ x ∈ s, p x = true), ())⟩ := by
  refine ret_of ?_
  simp only [run_Z88, Z90.ev]
  refine ev_call (IndexFunc_Sint64_int64_impl_areElements_1_ret s c p hs hp) (ev_some ?_)
  simp only [ge_iff_le, pb_dec, pb_congr idxf_nonneg]

theorem ContainsFunc_Sint64_int64_impl_isZero_1_ret (s : List Int) (p : Int → Bool) (hs : s.length ≤ 1048576) (hp : ∀ x ∈ s, Ret E n_Z47 [⟨yI, x⟩] ⟨o_Z47, (p x, ())⟩) :
    Ret E n_Z88 [⟨yL, s⟩, ⟨(.fn n_Z47 .nil), ()⟩] ⟨o_Z88, (pb (∃ x ∈ s, p x = true), ())⟩ := by
  refine ret_of ?_
  simp only [run_Z88, Z91.ev]
  refine ev_call (IndexFunc_Sint64_int64_impl_isZero_1_ret s p hs hp) (ev_some ?_)
  simp only [ge_iff_le, pb_dec, pb_congr idxf_nonneg]

theorem filled_impl_zero_1_ret (p : Int) (R C : Nat) (f : Nat → Nat → Int) (hR : R ≤ 1048576) (hC : C ≤ 1048576) (hRC : R * C ≤ 1048576) (hf : ∀ i j : Nat, i < R → j < C → Ret E n_Z65 [⟨yI, (i : Int)⟩, ⟨yI, (j : Int)⟩] ⟨o_Z65, (f i j, ())⟩) :
    Ret E n_Z32 [⟨yI, p⟩, ⟨yI, (R : Int)⟩, ⟨yI, (C : Int)⟩, ⟨(.fn n_Z65 .nil), ()⟩] ⟨o_Z32, (p, (R : Int), (C : Int), flatF f C R, ())⟩ := by
  refine ret_of ?_
  simp only [run_Z32, Z34.ev]
  refine Ev.start (p := fun φ n => Z34.l0 (mkR (run E (φ 0))) (φ 0) n (C : Int) (R : Int) 0 0 0 0 p (R : Int) (C : Int) [] = _) 1 ?_ (fun _ _ _ h => h)
  refine fold_loop 1 (L := fun φ n k a => Z34.l0 (mkR (run E (φ 0))) (φ 0) n (C : Int) (R : Int) k 0 0 0 p (R : Int) (C : Int) a) (len := R) (fun k => flatF f C k) (fun _ _ _ _ _ => rfl) (fun k r hk ih => ?_) ?_
  · simp only [Z34.l0_succ _ mk_ok]
    refine ev_t (decide_eq_true (by omega)) ?_
    refine Ev.start (p := fun φ n => Z34.l1 (mkR (run E (φ 0))) (φ 0) (φ 1) n (C : Int) (k : Int) (R : Int) (k : Int) (C : Int) 0 0 0 0 p (R : Int) (C : Int) (flatF f C k) = _) 2 ?_ (fun _ _ _ h => h)
    have hle : (k + 1) * C ≤ R * C := Nat.mul_le_mul_right _ hk
    rw [Nat.add_mul] at hle
    have := fold_loop 2 (L := fun φ n j a => Z34.l1 (mkR (run E (φ 0))) (φ 0) (φ 1) n (C : Int) (k : Int) (R : Int) (k : Int) (C : Int) j 0 0 0 p (R : Int) (C : Int) a) (len := C) (fun j => flatF f C k ++ (List.range j).map (f k)) (r := r) (fun _ _ _ _ _ => rfl) (fun j r hj ih => ?_) ?_
    · simpa using this
    · simp only [Z34.l1_succ _ mk_ok]
      rw [List.range_succ, List.map_append, ← List.append_assoc] at ih
      refine ev_t (decide_eq_true (by omega)) (ev_call (hf k j hk hj) (ev_chk (by simp [flatF_length]; omega) ?_))
      rw [w64_succ (by omega)]; exact ih
    · simp only [Z34.l1_succ _ mk_ok]
      refine ev_f (decide_eq_false (by omega)) ?_
      rw [w64_succ (by omega)]; exact ih
  · simp only [Z34.l0_succ _ mk_ok]
    exact ev_f (decide_eq_false (by omega)) ev_rfl

theorem filled_impl_transpose_1_ret (p : Int) (R C : Nat) (c : (vM × Unit)) (f : Nat → Nat → Int) (hR : R ≤ 1048576) (hC : C ≤ 1048576) (hRC : R * C ≤ 1048576) (hf : ∀ i j : Nat, i < R → j < C → Ret E n_Z61 [⟨yI, (i : Int)⟩, ⟨yI, (j : Int)⟩, ⟨(.ptr yM), c.1⟩] ⟨o_Z61, (f i j, ())⟩) :
    Ret E n_Z32 [⟨yI, p⟩, ⟨yI, (R : Int)⟩, ⟨yI, (C : Int)⟩, ⟨(.fn n_Z61 (.cons (.ptr yM) .nil)), c⟩] ⟨o_Z32, (p, (R : Int), (C : Int), flatF f C R, ())⟩ := by
  refine ret_of ?_
  simp only [run_Z32, Z33.ev]
  refine Ev.start (p := fun φ n => Z33.l0 (mkR (run E (φ 0))) (φ 0) n (C : Int) c (R : Int) 0 0 0 0 p (R : Int) (C : Int) [] = _) 1 ?_ (fun _ _ _ h => h)
  refine fold_loop 1 (L := fun φ n k a => Z33.l0 (mkR (run E (φ 0))) (φ 0) n (C : Int) c (R : Int) k 0 0 0 p (R : Int) (C : Int) a) (len := R) (fun k => flatF f C k) (fun _ _ _ _ _ => rfl) (fun k r hk ih => ?_) ?_
  · simp only [Z33.l0_succ _ mk_ok]
    refine ev_t (decide_eq_true (by omega)) ?_
    refine Ev.start (p := fun φ n => Z33.l1 (mkR (run E (φ 0))) (φ 0) (φ 1) n (C : Int) c (k : Int) (R : Int) (k : Int) (C : Int) 0 0 0 0 p (R : Int) (C : Int) (flatF f C k) = _) 2 ?_ (fun _ _ _ h => h)
    have hle : (k + 1) * C ≤ R * C := Nat.mul_le_mul_right _ hk
    rw [Nat.add_mul] at hle
    have := fold_loop 2 (L := fun φ n j a => Z33.l1 (mkR (run E (φ 0))) (φ 0) (φ 1) n (C : Int) c (k : Int) (R : Int) (k : Int) (C : Int) j 0 0 0 p (R : Int) (C : Int) a) (len := C) (fun j => flatF f C k ++ (List.range j).map (f k)) (r := r) (fun _ _ _ _ _ => rfl) (fun j r hj ih => ?_) ?_
    · simpa using this
    · simp only [Z33.l1_succ _ mk_ok]
      rw [List.range_succ, List.map_append, ← List.append_assoc] at ih
      refine ev_t (decide_eq_true (by omega)) (ev_call (hf k j hk hj) (ev_chk (by simp [flatF_length]; omega) ?_))
      rw [w64_succ (by omega)]; exact ih
    · simp only [Z33.l1_succ _ mk_ok]
      refine ev_f (decide_eq_false (by omega)) ?_
      rw [w64_succ (by omega)]; exact ih
  · simp only [Z33.l0_succ _ mk_ok]
    exact ev_f (decide_eq_false (by omega)) ev_rfl

end VeT

open Go Go.Proofs Ve
set_option linter.unusedVariables false
set_option linter.unusedSimpArgs false
namespace VeT

abbrev cM : Ty := .cons yI (.cons yI (.cons yI (.cons yL .nil)))
abbrev cC : Ty := .cons yK .nil
abbrev cS : Ty := .cons yK (.cons yI (.cons yL (.cons (.sl (.st cM)) .nil)))
abbrev Mat := Int × Int × Int × List Int × Unit
abbrev Cpx := List (List Int) × Unit
abbrev Shf := List (List Int) × Int × List Int × List Mat × Unit
abbrev Sim := List Int
abbrev dI (x : Int) : Dv := ⟨.int .i64,x⟩
abbrev dL (x : List Int) : Dv := ⟨.sl yI,x⟩
abbrev dLL (x : List (List Int)) : Dv := ⟨.sl yL,x⟩
abbrev dC (x : Cpx) : Dv := ⟨.ptr cC,x⟩
abbrev dM (x : Mat) : Dv := ⟨.ptr cM,x⟩
abbrev dS (x : Shf) : Dv := ⟨.ptr cS,x⟩
abbrev dMs (x : List Mat) : Dv := ⟨.sl (.st cM),x⟩

theorem within_ret (n lo hi : Int) : Ret E n_Z63 [dI n,dI lo,dI hi] ⟨o_Z63,(pb (lo ≤ n ∧ n ≤ hi),())⟩ := by
  refine ret_of ?_
  simp only [run_Z63,Z63.ev]
  refine ev_d (fun h => ev_some ?_) fun h => ev_some ?_
  · rw [pb_dec,pb_congr (show n ≤ hi ↔ lo ≤ n ∧ n ≤ hi by omega)]
  · rw [pb_false (by omega)]

theorem l00In_ret (n lo hi : Int) : Ret E n_Z107 [dI n,dI lo,dI hi] ⟨o_Z107,(pb (lo ≤ n ∧ n ≤ hi),())⟩ := by
  refine ret_of ?_
  simp only [run_Z107,Z107.ev]
  refine ev_d (fun h => ev_some ?_) fun h => ev_some ?_
  · rw [pb_dec,pb_congr (show n ≤ hi ↔ lo ≤ n ∧ n ≤ hi by omega)]
  · rw [pb_false (by omega)]

theorem isVertex_ret (n : Int) : Ret E n_Z45 [dI n] ⟨o_Z45,(pb (0 ≤ n ∧ n ≤ 9),())⟩ := by
  refine ret_of ?_
  simp only [run_Z45,Z45.ev]
  exact ev_call (within_ret _ _ _) ev_rfl

theorem ValidSimplex_1_ret (n : Int) : Ret E n_Z12 [dI n] ⟨o_Z12,(!pb (0 ≤ n ∧ n ≤ 9),())⟩ := by
  refine ret_of ?_
  simp only [run_Z12,Z12.ev]
  exact ev_call (isVertex_ret _) ev_rfl

/-- the list rises -/
def Rises (s : Sim) : Prop := ∀ j,1 ≤ j → j < s.length → s.getD (j - 1) 0 < s.getD j 0

theorem isRising_ret (s : Sim) (hs : Sm yL s) : Ret E n_Z43 [dL s] ⟨o_Z43,(pb (Rises s),())⟩ := by
  have hs1 : s.length ≤ 1048576 := hs.1
  refine ret_of ?_
  simp only [run_Z43,Z43.ev]
  by_cases h0 : s.length = 0
  · refine Ev.start (p := fun φ n => Z43.l0 (mkR (run E (φ 0))) (φ 0) n s 1 = _) 1 ?_ (fun _ _ _ h => h)
    refine loopR 1 (σ := Unit) (L := fun φ n _ => Z43.l0 (mkR (run E (φ 0))) (φ 0) n s 1) (fun _ _ _ _ => rfl) (fun _ => True) (fun _ => _) (fun _ => 0) (fun _ _ _ => ?_) () trivial
    simp only [Z43.l0_succ _ mk_ok]
    refine ev_f (decide_eq_false (by omega)) (ev_some ?_)
    rw [pb_true]
    intro j h1 h2; omega
  · refine Ev.start (p := fun φ n => Z43.l0 (mkR (run E (φ 0))) (φ 0) n s 1 = _) 1 ?_ (fun _ _ _ h => h)
    refine all_pb 1 (L := fun φ n k => Z43.l0 (mkR (run E (φ 0))) (φ 0) n s k) (len := s.length) 1 (by omega) (fun j => s.getD (j - 1) 0 < s.getD j 0) (fun b => some ⟨o_Z43,(b,())⟩) (fun _ _ _ _ => rfl) (fun k h1 h2 hP _ => ?_) (fun k r h1 h2 hP _ ih => ?_) (fun _ => ?_)
    · simp only [Z43.l0_succ _ mk_ok]
      refine ev_t (decide_eq_true (by omega)) ?_
      rw [w64_small (by omega) (by omega),show ((k : Int) - 1) = ((k - 1 : Nat) : Int) by omega]
      refine ev_bind (idx_lt (by omega)) (ev_bind (idx_lt h2) (ev_t (decide_eq_true ?_) ev_rfl))
      simpa [List.getD_eq_getElem?_getD,h2,show k - 1 < s.length by omega] using hP
    · simp only [Z43.l0_succ _ mk_ok]
      refine ev_t (decide_eq_true (by omega)) ?_
      rw [w64_small (by omega) (by omega),show ((k : Int) - 1) = ((k - 1 : Nat) : Int) by omega]
      refine ev_bind (idx_lt (by omega)) (ev_bind (idx_lt h2) (ev_f (decide_eq_false ?_) ?_))
      · simpa [List.getD_eq_getElem?_getD,h2,show k - 1 < s.length by omega] using hP
      · rw [w64_succ (by omega)]; exact ih
    · simp only [Z43.l0_succ _ mk_ok]
      exact ev_f (decide_eq_false (by omega)) ev_rfl

end VeT

open Go Go.Proofs Ve
set_option linter.unusedVariables false
set_option linter.unusedSimpArgs false
namespace VeT

def Vx (s : Sim) : Prop := 1 ≤ s.length ∧ s.length ≤ 4 ∧ Rises s ∧ ∀ x ∈ s,0 ≤ x ∧ x ≤ 9

theorem ValidSimplex_ret (s : Sim) (hs : Sm yL s) : Ret E n_Z11 [dL s] ⟨o_Z11,(pb (Vx s),())⟩ := by
  refine ret_of ?_
  simp only [run_Z11,Z11.ev]
  refine ev_d (fun h1 => ev_d (fun h2 => ev_call (isRising_ret s hs) (ev_b (fun h3 => ev_call (ContainsFunc_Sint64_int64_impl_ValidSimplex_1_ret s _ hs.1 fun x _ => ValidSimplex_1_ret x) (ev_some ?_)) fun h3 => ev_some ?_)) fun h2 => ev_some ?_) fun h1 => ev_some ?_
  · have h3 := pb_iff.1 h3
    have : (!pb (∃ x ∈ s,(!pb (0 ≤ x ∧ x ≤ 9)) = true)) = pb (Vx s) := eq_pb (by
      simp only [Bool.not_eq_true',pb_not]
      exact ⟨fun h => ⟨by omega,by omega,h3,fun x hx => Classical.byContradiction fun hn => h ⟨x,hx,hn⟩⟩,fun h ⟨x,hx,hn⟩ => hn (h.2.2.2 x hx)⟩)
    rw [this]
  · rw [pb_false fun h => pb_not.1 h3 h.2.2.1]
  · rw [pb_false fun h => h2 (by have := h.2.1; omega)]
  · rw [pb_false fun h => h1 (by have := h.1; omega)]

theorem l00Rises_ret (s : Sim) (lo hi : Int) (hs : Sm yL s) : Ret E n_Z109 [dL s,dI lo,dI hi] ⟨o_Z109,(pb (Rises s ∧ ∀ x ∈ s,lo ≤ x ∧ x ≤ hi),())⟩ := by
  have hs1 : s.length ≤ 1048576 := hs.1
  refine ret_of ?_
  simp only [run_Z109,Z109.ev]
  refine Ev.start (p := fun φ n => Z109.l0 (mkR (run E (φ 0))) (φ 0) n s lo hi 0 = _) 1 ?_ (fun _ _ _ h => h)
  refine (all_pb 1 (L := fun φ n k => Z109.l0 (mkR (run E (φ 0))) (φ 0) n s lo hi k) (len := s.length) 0 (by omega) (fun j => (lo ≤ s.getD j 0 ∧ s.getD j 0 ≤ hi) ∧ (1 ≤ j → s.getD (j - 1) 0 < s.getD j 0)) (fun b => some ⟨o_Z109,(b,())⟩) (fun _ _ _ _ => rfl) (fun k h1 h2 hP _ => ?_) (fun k r h1 h2 hP _ ih => ?_) (fun _ => ?_)).to ?_
  · simp only [Z109.l0_succ _ mk_ok]
    refine ev_t (decide_eq_true (by omega)) (ev_bind (idx_lt h2) (ev_call (l00In_ret _ _ _) ?_))
    have e : s.getD k 0 = s[k] := by simp [List.getD_eq_getElem?_getD,h2]
    rw [e] at hP
    refine ev_b (fun _ => ?_) (fun hin => ?_)
    · simp only [Z109.j1_eq _ mk_ok,cond_true]; (first | exact ev_rfl | exact Ev.of fun _ => trivial)
    · have hin : lo ≤ s[k] ∧ s[k] ≤ hi := pb_iff.1 (by simpa using hin)
      have hk : 1 ≤ k := Classical.byContradiction fun h => hP ⟨hin,fun h' => absurd h' h⟩
      refine ev_t (decide_eq_true (by omega)) ?_
      rw [w64_small (by omega) (by omega),show ((k : Int) - 1) = ((k - 1 : Nat) : Int) by omega]
      refine ev_bind (idx_lt (by omega)) (ev_bind (idx_lt h2) ?_)
      have e' : s.getD (k - 1) 0 = s[k - 1] := by simp [List.getD_eq_getElem?_getD,show k - 1 < s.length by omega]
      rw [e'] at hP
      have : decide (s[k-1] ≥ s[k]) = true := decide_eq_true (Classical.byContradiction fun h => hP ⟨hin,fun _ => by omega⟩)
      simp only [this,Z109.j1_eq _ mk_ok,cond_true]; (first | exact ev_rfl | exact Ev.of fun _ => trivial)
  · simp only [Z109.l0_succ _ mk_ok]
    refine ev_t (decide_eq_true (by omega)) (ev_bind (idx_lt h2) (ev_call (l00In_ret _ _ _) ?_))
    have e : s.getD k 0 = s[k] := by simp [List.getD_eq_getElem?_getD,h2]
    rw [e] at hP
    refine ev_f (by rw [pb_true hP.1]; rfl) ?_
    refine ev_d (fun hk => ?_) fun hk => ?_
    · rw [w64_small (by omega) (by omega),show ((k : Int) - 1) = ((k - 1 : Nat) : Int) by omega]
      refine ev_bind (idx_lt (by omega)) (ev_bind (idx_lt h2) ?_)
      have e' : s.getD (k - 1) 0 = s[k - 1] := by simp [List.getD_eq_getElem?_getD,show k - 1 < s.length by omega]
      rw [e'] at hP
      have : decide (s[k-1] ≥ s[k]) = false := decide_eq_false (by have := hP.2 (by omega); omega)
      simp only [this,Z109.j1_eq _ mk_ok,cond_false]
      rw [w64_succ (by omega)]; exact ih
    · simp only [Z109.j1_eq _ mk_ok,cond_false]
      rw [w64_succ (by omega)]; exact ih
  · simp only [Z109.l0_succ _ mk_ok]
    exact ev_f (decide_eq_false (by omega)) ev_rfl
  · refine congrArg (fun b : Bool => some (⟨o_Z109,(b,())⟩ : Dv)) (pb_congr ⟨fun h => ⟨fun j h1 h2 => (h j (by omega) h2).2 h1,fun x hx => ?_⟩,fun ⟨h1,h2⟩ j _ hj => ⟨?_,fun h3 => h1 j h3 hj⟩⟩)
    · obtain ⟨j,hj,rfl⟩ := List.mem_iff_getElem.1 hx
      simpa [List.getD_eq_getElem?_getD,hj] using (h j (by omega) hj).1
    · simpa [List.getD_eq_getElem?_getD,hj] using h2 _ (List.getElem_mem hj)

theorem l05Simplex_ret (s : Sim) (hs : Sm yL s) : Ret E n_Z128 [dL s] ⟨o_Z128,(pb (Vx s),())⟩ := by
  refine ret_of ?_
  simp only [run_Z128,Z128.ev]
  refine ev_call (l00In_ret _ _ _) (ev_b (fun h1 => ev_call (l00Rises_ret s _ _ hs) (ev_some ?_)) fun h1 => ev_some ?_)
  · have h1 := pb_iff.1 h1
    exact congrArg (fun b : Bool => some (⟨o_Z128,(b,())⟩ : Dv)) (pb_congr ⟨fun h => ⟨by omega,by omega,h.1,h.2⟩,fun h => ⟨h.2.2.1,h.2.2.2⟩⟩)
  · rw [pb_false fun h => pb_not.1 h1 ⟨by have := h.1; omega,by have := h.2.1; omega⟩]

/-! comparing -/
def cmp3 (a b : Int) : Int := if a < b then -1 else if b < a then 1 else 0
def lexc : Sim → Sim → Int
  | [],[] => 0
  | [],_ :: _ => -1
  | _ :: _,[] => 1
  | x :: xs,y :: ys => if x < y then -1 else if y < x then 1 else lexc xs ys
def cmpS (a b : Sim) : Int := if cmp3 a.length b.length ≠ 0 then cmp3 a.length b.length else lexc a b

theorem cmp3_zero {a b : Int} : cmp3 a b = 0 ↔ a = b := by unfold cmp3; split <;> (try split) <;> omega
theorem cmp3_neg {a b : Int} : cmp3 b a = - cmp3 a b := by unfold cmp3; split <;> split <;> (try split) <;> omega
theorem cmp3_lt {a b : Int} : cmp3 a b < 0 ↔ a < b := by unfold cmp3; split <;> (try split) <;> omega
theorem lexc_eq : ∀ {a b : Sim},lexc a b = 0 ↔ a = b
  | [],[] => by simp [lexc]
  | [],_ :: _ => by simp [lexc]
  | _ :: _,[] => by simp [lexc]
  | x :: xs,y :: ys => by
    have := @lexc_eq xs ys
    simp only [lexc,List.cons.injEq]
    split
    · constructor
      · intro h; omega
      · rintro ⟨rfl,_⟩; omega
    · split
      · constructor
        · intro h; omega
        · rintro ⟨rfl,_⟩; omega
      · rw [this]; constructor
        · intro h; exact ⟨by omega,h⟩
        · exact fun h => h.2
theorem lexc_neg : ∀ {a b : Sim},lexc b a = - lexc a b
  | [],[] => by simp [lexc]
  | [],_ :: _ => by simp [lexc]
  | _ :: _,[] => by simp [lexc]
  | x :: xs,y :: ys => by
    have := @lexc_neg xs ys
    simp only [lexc]
    split <;> split <;> (try split) <;> omega
theorem lexc_trans : ∀ {a b c : Sim},lexc a b < 0 → lexc b c < 0 → lexc a c < 0
  | [],[],c,h,_ => by simp [lexc] at h
  | [],_ :: _,[],_,h => by simp [lexc] at h
  | [],_ :: _,_ :: _,_,_ => by simp [lexc]
  | _ :: _,[],_,h,_ => by simp [lexc] at h
  | _ :: _,_ :: _,[],_,h => by simp [lexc] at h
  | x :: xs,y :: ys,z :: zs,h1,h2 => by
    have := @lexc_trans xs ys zs
    simp only [lexc] at h1 h2 ⊢
    split at h1 <;> split at h2 <;> (try split at h1) <;> (try split at h2) <;> (try split) <;> (try split) <;> first | omega | (exact this h1 h2)
theorem cmpS_zero {a b : Sim} : cmpS a b = 0 ↔ a = b := by
  unfold cmpS
  split
  · rename_i h
    exact ⟨fun h' => absurd h' h,fun h' => absurd (cmp3_zero.2 (by rw [h'])) h⟩
  · exact lexc_eq
theorem cmpS_neg {a b : Sim} : cmpS b a = - cmpS a b := by
  unfold cmpS
  rw [@cmp3_neg a.length b.length]
  split <;> split <;> first | omega | exact lexc_neg
theorem cmpS_lt {a b : Sim} : cmpS a b < 0 ↔ a.length < b.length ∨ a.length = b.length ∧ lexc a b < 0 := by
  unfold cmpS
  split
  · rename_i h
    rw [cmp3_lt]
    rw [Ne,cmp3_zero] at h
    omega
  · rename_i h
    rw [Classical.not_not,cmp3_zero] at h
    omega
theorem cmpS_trans {a b c : Sim} (h1 : cmpS a b < 0) (h2 : cmpS b c < 0) : cmpS a c < 0 := by
  rw [cmpS_lt] at *
  rcases h1 with h1 | ⟨h1,h1'⟩ <;> rcases h2 with h2 | ⟨h2,h2'⟩
  · left; omega
  · left; omega
  · left; omega
  · right; exact ⟨by omega,lexc_trans h1' h2'⟩

theorem isNaNi_ret (a : Int) : Ret E n_Z3 [dI a] ⟨o_Z3,(false,())⟩ := by
  refine ret_of ?_
  simp only [run_Z3,Z3.ev]
  exact ev_some (by simp)
theorem isNaN_ret (a : Int) : Ret E n_Z4 [dI a] ⟨o_Z4,(false,())⟩ := by
  refine ret_of ?_
  simp only [run_Z4,Z4.ev]
  exact ev_some (by simp)

theorem Comparei_ret (a b : Int) : Ret E n_Z0 [dI a,dI b] ⟨o_Z0,(cmp3 a b,())⟩ := by
  refine ret_of ?_
  simp only [run_Z0,Z0.ev]
  refine ev_call (isNaNi_ret _) (ev_call (isNaNi_ret _) (ev_f rfl (ev_f rfl (ev_d (fun h => ev_some ?_) fun h => ev_d (fun h2 => ev_some ?_) fun h2 => ev_some ?_))))
  · rw [cmp3,if_pos h]
  · rw [cmp3,if_neg h,if_pos h2]
  · rw [cmp3,if_neg h,if_neg h2]
theorem Compare_ret (a b : Int) : Ret E n_Z1 [dI a,dI b] ⟨o_Z1,(cmp3 a b,())⟩ := by
  refine ret_of ?_
  simp only [run_Z1,Z1.ev]
  refine ev_call (isNaN_ret _) (ev_call (isNaN_ret _) (ev_f rfl (ev_f rfl (ev_d (fun h => ev_some ?_) fun h => ev_d (fun h2 => ev_some ?_) fun h2 => ev_some ?_))))
  · rw [cmp3,if_pos h]
  · rw [cmp3,if_neg h,if_pos h2]
  · rw [cmp3,if_neg h,if_neg h2]

theorem lexc_step {a b : Sim} {k : Nat} (h : k < a.length) (h' : k < b.length) : lexc (a.drop k) (b.drop k) = if cmp3 a[k] b[k] ≠ 0 then cmp3 a[k] b[k] else lexc (a.drop (k + 1)) (b.drop (k + 1)) := by
  rw [List.drop_eq_getElem_cons h,List.drop_eq_getElem_cons h',lexc]
  unfold cmp3
  split
  · simp
  · split
    · simp
    · simp

theorem SliceCompare_ret (a b : Sim) (ha : Sm yL a) : Ret E n_Z83 [dL a,dL b] ⟨o_Z83,(lexc a b,())⟩ := by
  have ha1 : a.length ≤ 1048576 := ha.1
  refine ret_of ?_
  simp only [run_Z83,Z83.ev]
  refine Ev.start (p := fun φ n => Z83.l0 (mkR (run E (φ 0))) (φ 0) n a b a (a.length : Int) 0 = _) 1 ?_ (fun _ _ _ h => h)
  refine loopR 1 (σ := Nat) (L := fun φ n k => Z83.l0 (mkR (run E (φ 0))) (φ 0) n a b a (a.length : Int) (k : Int)) (fun _ _ _ _ => rfl) (fun k => k ≤ a.length ∧ k ≤ b.length) (fun k => some ⟨o_Z83,(lexc (a.drop k) (b.drop k),())⟩) (fun k => a.length - k) (fun k ⟨hk,hkb⟩ ih => ?_) 0 ⟨Nat.zero_le _,Nat.zero_le _⟩
  simp only [Z83.l0_succ _ mk_ok]
  refine ev_d (fun h => ?_) fun h => ?_
  · have hka : k < a.length := by omega
    refine ev_bind (idx_lt hka) (ev_d (fun h2 => ev_some ?_) fun h2 => ?_)
    · rw [List.drop_eq_getElem_cons hka,List.drop_of_length_le (l := b) (by omega),lexc]
    · have hkb : k < b.length := by omega
      refine ev_bind (idx_lt hkb) (ev_call (Compare_ret _ _) (ev_b (fun h3 => ev_some ?_) fun h3 => ?_))
      · rw [lexc_step hka hkb,if_pos (by simpa using h3)]
      · rw [w64_succ (by omega)]
        refine (ih (k + 1) ⟨by omega,by omega⟩ (by omega)).to ?_
        rw [lexc_step hka hkb,if_neg (by simpa using h3)]
  · have e : k = a.length := by omega
    subst e
    refine ev_d (fun h2 => ev_some ?_) fun h2 => ev_some ?_
    · rw [List.drop_of_length_le (l := a) (by omega),List.drop_eq_getElem_cons (l := b) (by omega),lexc]
    · rw [List.drop_of_length_le (l := a) (by omega),List.drop_of_length_le (l := b) (by omega),lexc]

theorem Or2_ret (a b : Int) : Ret E n_Z2 [dL [a,b]] ⟨o_Z2,(if a ≠ 0 then a else b,())⟩ := by
  refine ret_of ?_
  simp only [run_Z2,Z2.ev]
  refine Ev.start (p := fun φ n => Z2.l0 (mkR (run E (φ 0))) (φ 0) n 0 [a,b] ([a,b].length : Int) 0 = _) 1 ?_ (fun _ _ _ h => h)
  refine Ev.round 1 (L := fun φ n => Z2.l0 (mkR (run E (φ 0))) (φ 0) n 0 [a,b] ([a,b].length : Int) 0) ?_ (fun _ _ _ => rfl)
  simp only [Z2.l0_succ _ mk_ok]
  refine ev_t (by simp) (ev_bind (x := a) rfl (ev_b (fun h => ev_some ?_) fun h => ?_))
  · rw [if_pos (by simpa using h)]
  · rw [if_neg (by simpa using h)]
    rw [show w64 ((0 : Int) + 1) = 1 by decide]
    refine Ev.round 1 (L := fun φ n => Z2.l0 (mkR (run E (φ 0))) (φ 0) n 0 [a,b] ([a,b].length : Int) 1) ?_ (fun _ _ _ => rfl)
    simp only [Z2.l0_succ _ mk_ok]
    refine ev_t (by simp) (ev_bind (x := b) rfl (ev_b (fun h => ev_rfl) fun h => ?_))
    rw [show w64 ((1 : Int) + 1) = 2 by decide]
    refine Ev.round 1 (L := fun φ n => Z2.l0 (mkR (run E (φ 0))) (φ 0) n 0 [a,b] ([a,b].length : Int) 2) ?_ (fun _ _ _ => rfl)
    simp only [Z2.l0_succ _ mk_ok]
    refine ev_f (by simp) (ev_some ?_)
    have : b = 0 := by simpa using h
    rw [this]

theorem compareSimplices_ret (a b : Sim) (ha : Sm yL a) : Ret E n_Z23 [dL a,dL b] ⟨o_Z23,(cmpS a b,())⟩ := by
  refine ret_of ?_
  simp only [run_Z23,Z23.ev]
  exact ev_call (Comparei_ret _ _) (ev_call (SliceCompare_ret a b ha) (ev_call (Or2_ret _ _) ev_rfl))

theorem l05Before_ret (a b : Sim) (ha : Sm yL a) : Ret E n_Z121 [dL a,dL b] ⟨o_Z121,(pb (cmpS a b < 0),())⟩ := by
  have ha1 : a.length ≤ 1048576 := ha.1
  refine ret_of ?_
  simp only [run_Z121,Z121.ev]
  refine ev_b (fun h => ev_some ?_) fun h => ?_
  · have h : (a.length : Int) ≠ b.length := by simpa using h
    rw [pb_dec,pb_congr (show (a.length : Int) < b.length ↔ cmpS a b < 0 by rw [cmpS_lt]; omega)]
  · have h : a.length = b.length := by have : (a.length : Int) = b.length := by simpa using h
                                       omega
    refine Ev.start (p := fun φ n => Z121.l0 (mkR (run E (φ 0))) (φ 0) n a b 0 = _) 1 ?_ (fun _ _ _ h => h)
    refine (loopR 1 (σ := Nat) (L := fun φ n k => Z121.l0 (mkR (run E (φ 0))) (φ 0) n a b (k : Int)) (fun _ _ _ _ => rfl) (fun k => k ≤ a.length) (fun k => some ⟨o_Z121,(pb (lexc (a.drop k) (b.drop k) < 0),())⟩) (fun k => a.length - k) (fun k hk ih => ?_) 0 (Nat.zero_le _)).to ?_
    · simp only [Z121.l0_succ _ mk_ok]
      refine ev_d (fun h1 => ?_) fun h1 => ?_
      · have hka : k < a.length := by omega
        have hkb : k < b.length := by omega
        have e := lexc_step hka hkb
        refine ev_bind (idx_lt hka) (ev_bind (idx_lt hkb) (ev_b (fun h3 => ?_) fun h3 => ?_))
        · refine ev_bind (idx_lt hka) (ev_bind (idx_lt hkb) (ev_some ?_))
          have h3 : a[k] ≠ b[k] := by simpa using h3
          rw [if_pos (by rw [Ne,cmp3_zero]; exact h3)] at e
          rw [e,pb_dec,pb_congr cmp3_lt]
        · have h3 : a[k] = b[k] := by simpa using h3
          rw [if_neg (by rw [Classical.not_not,cmp3_zero]; exact h3)] at e
          rw [w64_succ (by omega),e]
          exact ih (k + 1) (by show k + 1 ≤ _; omega) (by show a.length - (k + 1) < _; omega)
      · refine ev_some ?_
        have hk : k ≤ a.length := hk
        have e : k = a.length := by omega
        subst e
        rw [List.drop_of_length_le (l := a) (by omega),List.drop_of_length_le (l := b) (by omega),lexc,pb_false (by omega)]
    · refine congrArg (fun b : Bool => some (⟨o_Z121,(b,())⟩ : Dv)) (pb_congr ?_)
      simp only [List.drop_zero]; rw [cmpS_lt]; omega

end VeT

open Go Go.Proofs Ve
set_option linter.unusedVariables false
set_option linter.unusedSimpArgs false
namespace VeT

theorem getD_lt {α : Type} {s : List α} {k : Nat} {d : α} (h : k < s.length) : s.getD k d = s[k] := by simp [List.getD_eq_getElem?_getD,h]
theorem sm_get {t : Ty} {s : List t.T} (h : Sm (.sl t) s) {k : Nat} (hk : k < s.length) : Sm t s[k] := h.2 _ (List.getElem_mem hk)
theorem sm_ints {s : Sim} (h : s.length ≤ 1048576) : Sm yL s := ⟨h,fun _ _ => trivial⟩

theorem l00Own_ret (s : Sim) (hs : s.length ≤ 1048576) : Ret E n_Z108 [dL s] ⟨o_Z108,(s,())⟩ := by
  refine ret_of ?_
  simp only [run_Z108,Z108.ev]
  exact ev_chk (by simp; omega) (ev_some rfl)

theorem l05Drop_ret (s : Sim) (k : Nat) (hk : k < s.length) (hs : s.length ≤ 1048576) : Ret E n_Z123 [dL s,dI (k : Int)] ⟨o_Z123,(s.eraseIdx k,())⟩ := by
  refine ret_of ?_
  simp only [run_Z123,Z123.ev]
  rw [w64_succ (by omega)]
  simp only [Int.toNat_natCast]
  refine ev_chk (by simp; omega) (ev_call (l00Own_ret _ (by simp; omega)) (ev_chk (by simp; omega) (ev_chk (by simp; omega) (ev_some ?_))))
  rw [List.eraseIdx_eq_take_drop_succ]

theorem l00SameP_ret (a b : Sim) (ha : a.length ≤ 1048576) : Ret E n_Z110 [dL a,dL b] ⟨o_Z110,(pb (a = b),())⟩ := by
  refine ret_of ?_
  simp only [run_Z110,Z110.ev]
  refine ev_b (fun h => ev_some ?_) fun h => ?_
  · have h : (a.length : Int) ≠ b.length := by simpa using h
    rw [pb_false fun e => h (by rw [e])]
  · have h : (a.length : Int) = b.length := by simpa using h
    refine Ev.start (p := fun φ n => Z110.l0 (mkR (run E (φ 0))) (φ 0) n a b 0 = _) 1 ?_ (fun _ _ _ h => h)
    refine (all_pb 1 (L := fun φ n k => Z110.l0 (mkR (run E (φ 0))) (φ 0) n a b k) (len := a.length) 0 (by omega) (fun j => a.getD j 0 = b.getD j 0) (fun b => some ⟨o_Z110,(b,())⟩) (fun _ _ _ _ => rfl) (fun k h1 h2 hP _ => ?_) (fun k r h1 h2 hP _ ih => ?_) (fun _ => ?_)).to ?_
    · simp only [Z110.l0_succ _ mk_ok]
      have hb : k < b.length := by omega
      rw [getD_lt h2,getD_lt hb] at hP
      exact ev_t (decide_eq_true (by omega)) (ev_bind (idx_lt h2) (ev_bind (idx_lt hb) (ev_t (by simpa using hP) ev_rfl)))
    · simp only [Z110.l0_succ _ mk_ok]
      have hb : k < b.length := by omega
      rw [getD_lt h2,getD_lt hb] at hP
      refine ev_t (decide_eq_true (by omega)) (ev_bind (idx_lt h2) (ev_bind (idx_lt hb) (ev_f (by simpa using hP) ?_)))
      rw [w64_succ (by omega)]; exact ih
    · simp only [Z110.l0_succ _ mk_ok]
      exact ev_f (decide_eq_false (by omega)) ev_rfl
    · refine congrArg (fun b : Bool => some (⟨o_Z110,(b,())⟩ : Dv)) (pb_congr ⟨fun hh => List.ext_getElem (by omega) fun j h1 h2 => ?_,fun hh j _ _ => by rw [hh]⟩)
      have := hh j (by omega) h1
      rwa [getD_lt h1,getD_lt h2] at this

noncomputable def findI (c : List Sim) (s : Sim) : Int := idxf (fun x => pb (x = s)) c
theorem findI_nonneg {c : List Sim} {s : Sim} : 0 ≤ findI c s ↔ s ∈ c := by
  unfold findI
  rw [idxf_nonneg]
  simp only [pb_iff]
  exact ⟨fun ⟨x,h,e⟩ => e ▸ h,fun h => ⟨s,h,rfl⟩⟩

theorem l05Find_ret (c : Cpx) (s : Sim) (hc : Sm yK c.1) : Ret E n_Z125 [dC c,dL s] ⟨o_Z125,(findI c.1 s,())⟩ := by
  have hc1 : c.1.length ≤ 1048576 := hc.1
  obtain ⟨o,h1,h2,h3⟩ := find_loop 1 (L := fun φ n k => Z125.l0 (mkR (run E (φ 0))) (φ 0) n c s k) (len := c.1.length) (fun k => ∃ h : k < c.1.length,pb (c.1[k] = s) = true) (fun o => some ⟨o_Z125,(o2i o,())⟩) (fun _ _ _ _ => rfl) (fun k hk hP => by
      obtain ⟨_,hP⟩ := hP
      simp only [Z125.l0_succ _ mk_ok]
      refine ev_t (decide_eq_true (by omega)) (ev_bind (idx_lt hk) (ev_call (l00SameP_ret _ _ (sm_get hc hk).1) (ev_t hP ev_rfl)))) (fun k q hk hP ih => by
      simp only [Z125.l0_succ _ mk_ok]
      refine ev_t (decide_eq_true (by omega)) (ev_bind (idx_lt hk) (ev_call (l00SameP_ret _ _ (sm_get hc hk).1) (ev_f (Bool.eq_false_iff.2 fun h => hP ⟨hk,h⟩) ?_)))
      rw [w64_succ (by omega)]; exact ih) (by
      simp only [Z125.l0_succ _ mk_ok]
      exact ev_f (decide_eq_false (by omega)) ev_rfl)
  rw [idxf_of (p := fun x => pb (x = s)) h1 h2] at h3
  refine ret_of ?_
  simp only [run_Z125,Z125.ev]
  exact Ev.start (p := fun φ n => Z125.l0 (mkR (run E (φ 0))) (φ 0) n c s 0 = _) 1 h3 (fun _ _ _ h => h)

/-! joining,faces -/
theorem run_Grow (n : Nat) (args : List Dv) : run E (n + 1) n_Z94 args = pGrow yI (mkR (run E n)) args := rfl

theorem Grow_ret (s : Sim) (n : Int) (h0 : 0 ≤ n) (h1 : n ≤ 1048576) (hs : s.length ≤ 1048576) : Ret E n_Z94 [dL s,dI n] ⟨o_Z94,(s,())⟩ := by
  refine ret_of ?_
  simp only [run_Grow]
  refine ev_some ((if_pos (show 0 ≤ n ∧ ((List.length s : Int) + n) * (64 * (Ty.size (Ty.int IntKind.i64) : Int)) ≤ 70368744177664 from ⟨h0,?_⟩)).trans rfl)
  have : (Ty.size (Ty.int IntKind.i64)) = 1 := rfl
  rw [this]; omega

theorem Concat_ret (ll : List Sim) (hl : ll.length ≤ 1048576) (hf : ll.flatten.length ≤ 1048576) : Ret E n_Z85 [dLL ll] ⟨o_Z85,(ll.flatten,())⟩ := by
  have hle : ∀ k,(ll.take k).flatten.length ≤ ll.flatten.length := fun k => by
    have := congrArg List.length (congrArg List.flatten (List.take_append_drop k ll))
    rw [List.flatten_append,List.length_append] at this; omega
  have hst : ∀ k (h : k < ll.length),(ll.take (k + 1)).flatten = (ll.take k).flatten ++ ll[k] := fun k h => by
    rw [List.take_succ_eq_append_getElem h,List.flatten_append]; simp
  refine ret_of ?_
  simp only [run_Z85,Z85.ev]
  refine Ev.start (p := fun φ n => Z85.l0 (mkR (run E (φ 0))) (φ 0) n ll 0 ll (ll.length : Int) 0 = _) 1 ?_ (fun _ _ _ h => h)
  refine fold_loop 1 (L := fun φ n k a => Z85.l0 (mkR (run E (φ 0))) (φ 0) n ll a ll (ll.length : Int) k) (len := ll.length) (fun k => (((ll.take k).flatten.length : Nat) : Int)) (fun _ _ _ _ _ => rfl) (fun k r hk ih => ?_) ?_
  · simp only [Z85.l0_succ _ mk_ok]
    have := hle (k + 1)
    have e := hst k hk
    have e2 : w64 (((ll.take k).flatten.length : Nat) + (List.length (ll[k]) : Int)) = (((ll.take (k + 1)).flatten.length : Nat) : Int) := by
      rw [w64_small (by omega) (by rw [e,List.length_append] at this; omega),e,List.length_append]; omega
    refine ev_t (decide_eq_true (by omega)) (ev_bind (idx_lt hk) ?_)
    show Ev fun φ => (bif decide (w64 (((ll.take k).flatten.length : Nat) + (List.length (ll[k]) : Int)) < 0) then none else Z85.l0 (mkR (run E (φ 0))) (φ 0) (φ 1) ll (w64 (((ll.take k).flatten.length : Nat) + (List.length (ll[k]) : Int))) ll (ll.length : Int) (w64 ((k : Int) + 1))) = r
    rw [e2,w64_succ (by omega)]
    exact ev_f (decide_eq_false (by omega)) ih
  · simp only [Z85.l0_succ _ mk_ok]
    refine ev_f (decide_eq_false (by omega)) (ev_call (Grow_ret [] _ (by omega) (by have := hle ll.length; omega) (by simp)) ?_)
    refine Ev.start (p := fun φ n => Z85.l1 (mkR (run E (φ 0))) (φ 0) n ll (ll.length : Int) 0 [] = _) 2 ?_ (fun _ _ _ h => h)
    refine fold_loop 2 (L := fun φ n k a => Z85.l1 (mkR (run E (φ 0))) (φ 0) n ll (ll.length : Int) k a) (len := ll.length) (fun k => (ll.take k).flatten) (fun _ _ _ _ _ => rfl) (fun k r hk ih => ?_) ?_
    · simp only [Z85.l1_succ _ mk_ok]
      have := hle (k + 1)
      have e := hst k hk
      rw [e] at ih this
      rw [List.length_append] at this
      refine ev_t (decide_eq_true (by omega)) (ev_bind (idx_lt hk) (ev_chk (decide_eq_true (by show (_ + List.length ll[k]) * 8 ≤ _; omega)) ?_))
      rw [w64_succ (by omega)]
      exact ih
    · simp only [Z85.l1_succ _ mk_ok]
      refine ev_f (decide_eq_false (by omega)) (ev_some ?_)
      rw [List.take_of_length_le (Nat.le_refl _)]

def faces (s : Sim) : List Sim := if 1 < s.length then (List.range s.length).map (s.eraseIdx ·) else []

theorem faces_mem {s f : Sim} : f ∈ faces s ↔ 1 < s.length ∧ ∃ i,i < s.length ∧ f = s.eraseIdx i := by
  unfold faces
  split
  · rename_i h
    simp only [List.mem_map,List.mem_range,h,true_and]
    exact ⟨fun ⟨i,h1,h2⟩ => ⟨i,h1,h2.symm⟩,fun ⟨i,h1,h2⟩ => ⟨i,h1,h2.symm⟩⟩
  · rename_i h
    simp [h]

theorem faces_len {s f : Sim} (h : f ∈ faces s) : f.length + 1 = s.length := by
  obtain ⟨h1,i,h2,rfl⟩ := faces_mem.1 h
  rw [List.length_eraseIdx,if_pos h2]; omega

theorem faces_length {s : Sim} : (faces s).length ≤ s.length := by
  unfold faces; split <;> simp

theorem facesOf_ret (s : Sim) (hs : s.length ≤ 1048576) : Ret E n_Z31 [dL s] ⟨o_Z31,(faces s,())⟩ := by
  refine ret_of ?_
  simp only [run_Z31,Z31.ev]
  refine Ev.start (p := fun φ n => Z31.l0 (mkR (run E (φ 0))) (φ 0) n s (s.length : Int) 0 [] = _) 1 ?_ (fun _ _ _ h => h)
  by_cases h1 : 1 < s.length
  · refine fold_loop 1 (L := fun φ n k a => Z31.l0 (mkR (run E (φ 0))) (φ 0) n s (s.length : Int) k a) (len := s.length) (fun k => (List.range k).map (s.eraseIdx ·)) (fun _ _ _ _ _ => rfl) (fun k r hk ih => ?_) ?_
    · simp only [Z31.l0_succ _ mk_ok]
      rw [List.range_succ,List.map_append] at ih
      rw [w64_succ (by omega)]
      simp only [Int.toNat_natCast]
      refine ev_t (decide_eq_true (by omega)) (ev_t (decide_eq_true (by omega)) (ev_chk (by simp; omega) (ev_chk (by simp; omega) (ev_call (Concat_ret _ (by simp) (by simp; omega)) (ev_chk (by simp; omega) ?_)))))
      rw [show [s.take k,s.drop (k + 1)].flatten = s.eraseIdx k by simp [List.eraseIdx_eq_take_drop_succ]]
      exact ih
    · simp only [Z31.l0_succ _ mk_ok]
      exact ev_f (decide_eq_false (by omega)) (ev_some (by rw [faces,if_pos h1]))
  · refine fold_loop 1 (L := fun φ n k a => Z31.l0 (mkR (run E (φ 0))) (φ 0) n s (s.length : Int) k a) (len := s.length) (fun k => []) (fun _ _ _ _ _ => rfl) (fun k r hk ih => ?_) ?_
    · simp only [Z31.l0_succ _ mk_ok]
      rw [w64_succ (by omega)]
      exact ev_t (decide_eq_true (by omega)) (ev_f (decide_eq_false (by omega)) ih)
    · simp only [Z31.l0_succ _ mk_ok]
      exact ev_f (decide_eq_false (by omega)) (ev_some (by rw [faces,if_neg h1]))

/-! searching -/
def Srt (c : List Sim) : Prop := ∀ i j (h : j < c.length) (hij : i < j),cmpS c[i] c[j] < 0

theorem srt_of {c : List Sim} (h : ∀ k,1 ≤ k → k < c.length → cmpS (c.getD (k - 1) []) (c.getD k []) < 0) : Srt c := by
  intro i j
  induction j with
  | zero => intro _ h; omega
  | succ j ih =>
    intro hj hij
    have := h (j + 1) (by omega) hj
    rw [Nat.add_sub_cancel,getD_lt (by omega),getD_lt hj] at this
    by_cases e : i = j
    · subst e; exact this
    · exact cmpS_trans (ih (by omega) (by omega)) this

theorem Srt.take {c : List Sim} (h : Srt c) (k : Nat) : Srt (c.take k) := by
  intro i j hj hij
  rw [List.getElem_take,List.getElem_take]
  exact h i j (by rw [List.length_take] at hj; omega) hij

def bs (c : List Sim) (s : Sim) : Nat := c.findIdx (fun x => !decide (cmpS x s < 0))

theorem bs_le {c : List Sim} {s : Sim} : bs c s ≤ c.length := List.findIdx_le_length
theorem bs_lt {c : List Sim} {s : Sim} (hc : Srt c) {t : Nat} (h : t < c.length) : t < bs c s ↔ cmpS c[t] s < 0 := by
  constructor
  · intro ht
    have := List.not_of_lt_findIdx ht
    simpa using this
  · intro ht
    refine Classical.byContradiction fun hn => ?_
    have hb : bs c s < c.length := by omega
    have h1 : cmpS c[bs c s] s < 0 := by
      by_cases e : bs c s = t
      · simp only [e]; exact ht
      · exact cmpS_trans (hc _ _ h (by omega)) ht
    have := List.findIdx_getElem (w := hb)
    simp only [Bool.not_eq_true',decide_eq_false_iff_not] at this
    exact this h1

theorem bs_find {c : List Sim} {s : Sim} (hc : Srt c) : findI c s = if h : bs c s < c.length ∧ c.getD (bs c s) [] = s then (bs c s : Int) else -1 := by
  have e : c.findIdx? (fun x => pb (x = s)) = if bs c s < c.length ∧ c.getD (bs c s) [] = s then some (bs c s) else none := by
    split
    · rename_i h
      obtain ⟨h1,h2⟩ := h
      rw [List.findIdx?_eq_some_iff_getElem]
      rw [getD_lt h1] at h2
      refine ⟨h1,pb_true h2,fun j hj => ?_⟩
      rw [pb_iff]
      intro he
      have := (bs_lt (s := s) hc (show j < c.length by omega)).1 hj
      rw [he,cmpS_zero.2 rfl] at this
      omega
    · rename_i h
      rw [List.findIdx?_eq_none_iff]
      intro x hx
      rw [pb_not]
      rintro rfl
      obtain ⟨j,hj,rfl⟩ := List.mem_iff_getElem.1 hx
      have h0 : ¬ j < bs c c[j] := fun hlt => by
        have := (bs_lt hc hj).1 hlt
        rw [cmpS_zero.2 rfl] at this; omega
      by_cases hjb : bs c c[j] = j
      · exact h ⟨by omega,by rw [hjb,getD_lt hj]⟩
      · have hb : bs c c[j] < c.length := by omega
        have := (bs_lt (s := c[j]) hc hb).2 (hc _ _ hj (by omega))
        omega
  unfold findI idxf
  rw [e]
  split <;> rfl

theorem BinarySearch_ret (c : List Sim) (s : Sim) (hc : Sm yK c) (hs : Srt c) : Ret E n_Z80 [dLL c,dL s,⟨.fn n_Z23 .nil,()⟩] ⟨o_Z80,((bs c s : Int),pb (bs c s < c.length ∧ c.getD (bs c s) [] = s),())⟩ := by
  have hc1 : c.length ≤ 1048576 := hc.1
  refine ret_of ?_
  simp only [run_Z80,Z81.ev]
  refine Ev.start (p := fun φ n => Z81.l0 (mkR (run E (φ 0))) (φ 0) n c s (c.length : Int) 0 (c.length : Int) = _) 1 ?_ (fun _ _ _ h => h)
  refine loopR 1 (σ := Nat × Nat) (L := fun φ n st => Z81.l0 (mkR (run E (φ 0))) (φ 0) n c s (c.length : Int) (st.1 : Int) (st.2 : Int)) (fun _ _ _ _ => rfl) (fun st => st.1 ≤ bs c s ∧ bs c s ≤ st.2 ∧ st.2 ≤ c.length) (fun _ => _) (fun st => st.2 - st.1) (fun st hi ih => ?_) (0,c.length) ⟨Nat.zero_le _,bs_le,Nat.le_refl _⟩
  obtain ⟨i,j⟩ := st
  obtain ⟨h1,h2,h3⟩ := hi
  simp only at h1 h2 h3 ih
  simp only [Z81.l0_succ _ mk_ok]
  rw [half (by omega)]
  refine ev_d (fun hij => ?_) fun hij => ?_
  · have hh : (i + j) / 2 < c.length := by omega
    refine ev_chk (by decide) (ev_bind (idx_lt hh) (ev_call (compareSimplices_ret _ _ (sm_get hc hh)) (ev_d (fun hlt => ?_) fun hlt => ?_)))
    · rw [w64_succ (by omega)]
      have := (bs_lt hs hh).2 hlt
      exact ih ((i + j) / 2 + 1,j) ⟨this,h2,h3⟩ (by simp only; omega)
    · have : ¬ (i + j) / 2 < bs c s := fun h => hlt ((bs_lt hs hh).1 h)
      exact ih (i,(i + j) / 2) ⟨h1,by simp only; omega,by simp only; omega⟩ (by simp only; omega)
  · have e : i = bs c s := by omega
    subst e
    refine ev_d (fun hl => ?_) fun hl => ev_some ?_
    · have hh : bs c s < c.length := by omega
      refine ev_bind (idx_lt hh) (ev_call (compareSimplices_ret _ _ (sm_get hc hh)) (ev_some ?_))
      have : (cmpS c[bs c s] s == 0) = pb (bs c s < c.length ∧ c.getD (bs c s) [] = s) := eq_pb (by
        rw [getD_lt hh,beq_iff_eq,cmpS_zero]; exact ⟨fun h => ⟨hh,h⟩,fun h => h.2⟩)
      rw [this]
    · rw [pb_false fun h => hl (by omega)]

theorem indexOf_ret (c : List Sim) (s : Sim) (hc : Sm yK c) (hs : Srt c) : Ret E n_Z37 [dLL c,dL s] ⟨o_Z37,(findI c s,())⟩ := by
  refine ret_of ?_
  simp only [run_Z37,Z37.ev]
  refine ev_call (BinarySearch_ret c s hc hs) (ev_b (fun h => ev_some ?_) fun h => ev_some ?_)
  · rw [bs_find hs,dif_neg (pb_not.1 (by simpa using h))]
  · rw [bs_find hs,dif_pos (pb_iff.1 (by simpa using h))]

end VeT

open Go Go.Proofs Ve
set_option linter.unusedVariables false
set_option linter.unusedSimpArgs false
namespace VeT

/-- valid complexes -/
def VC (c : List Sim) : Prop := c.length ≤ 48 ∧ (∀ k,k < c.length → Vx (c.getD k [])) ∧ (∀ k,1 ≤ k → k < c.length → cmpS (c.getD (k - 1) []) (c.getD k []) < 0) ∧ ∀ k,k < c.length → ∀ f ∈ faces (c.getD k []),f ∈ c

theorem VC.srt {c : List Sim} (h : VC c) : Srt c := srt_of h.2.2.1

def VCimpl (c : List Sim) (k : Nat) : Prop := (Vx (c.getD k []) ∧ (1 ≤ k → cmpS (c.getD (k - 1) []) (c.getD k []) < 0)) ∧ ∀ f ∈ faces (c.getD k []),f ∈ c.take k

theorem VC_impl {c : List Sim} : ((∀ k,0 ≤ k → k < c.length → VCimpl c k) ∧ c.length ≤ 48) ↔ VC c := by
  constructor
  · rintro ⟨h,hl⟩
    exact ⟨hl,fun k hk => (h k (by omega) hk).1.1,fun k h1 hk => (h k (by omega) hk).1.2 h1,fun k hk f hf => List.mem_of_mem_take ((h k (by omega) hk).2 f hf)⟩
  · intro h
    have hs := h.srt
    obtain ⟨hl,h1,h2,h3⟩ := h
    refine ⟨fun k _ hk => ⟨⟨h1 k hk,fun hk1 => h2 k hk1 hk⟩,fun f hf => ?_⟩,hl⟩
    have hm := h3 k hk f hf
    have hlen := faces_len hf
    rw [getD_lt hk] at hlen
    obtain ⟨i,hi,rfl⟩ := List.mem_iff_getElem.1 hm
    have hlt : cmpS c[i] c[k] < 0 := cmpS_lt.2 (.inl (by omega))
    have hik : i < k := Classical.byContradiction fun hn => by
      by_cases e : i = k
      · subst e; omega
      · have := hs k i hi (by omega)
        rw [cmpS_neg] at this; omega
    exact List.mem_iff_getElem.2 ⟨i,by rw [List.length_take]; omega,by rw [List.getElem_take]⟩

theorem sm_take {t : Ty} {s : List t.T} (h : Sm (.sl t) s) (k : Nat) : Sm (.sl t) (s.take k) := ⟨by have h1 : s.length ≤ 1048576 := h.1; show (s.take k).length ≤ _; rw [List.length_take]; omega,fun x hx => h.2 x (List.mem_of_mem_take hx)⟩

theorem ValidComplex_1_ret (c : List Sim) (f : Sim) (k : Nat) (hk : k ≤ c.length) (hc : Sm yK c) (hs : Srt (c.take k)) :
    Ret E n_Z9 [dL f,dC (c,()),⟨.ptr (.cons yI .nil),((k : Int),())⟩] ⟨o_Z9,(pb (¬ f ∈ c.take k),())⟩ := by
  refine ret_of ?_
  simp only [run_Z9,Z9.ev]
  simp only [Int.toNat_natCast]
  refine ev_chk (by simp; omega) (ev_call (indexOf_ret _ f (sm_take hc k) hs) (ev_some ?_))
  simp only [pb_dec,pb_congr (show findI (c.take k) f < 0 ↔ ¬ f ∈ c.take k by rw [← findI_nonneg]; omega)]

theorem ValidComplex_ret (c : List Sim) (hc : Sm yK c) : Ret E n_Z8 [dLL c] ⟨o_Z8,(pb (VC c),())⟩ := by
  have hc1 : c.length ≤ 1048576 := hc.1
  refine ret_of ?_
  simp only [run_Z8,Z8.ev]
  refine Ev.start (p := fun φ n => Z8.l0 (mkR (run E (φ 0))) (φ 0) n c (c.length : Int) 0 c = _) 1 ?_ (fun _ _ _ h => h)
  have key : ∀ (n : Nat) (k : Nat) (hk : k < c.length) (hpre : ∀ j,0 ≤ j → j < k → VCimpl c j),Srt (c.take k) := fun n k hk hpre => srt_of fun j h1 h2 => by
    rw [List.length_take] at h2
    have := (hpre j (by omega) (by omega)).1.2 h1
    rw [getD_lt (by omega),getD_lt (by omega)] at this
    rw [getD_lt (by rw [List.length_take]; omega),getD_lt (by rw [List.length_take]; omega),List.getElem_take,List.getElem_take]
    exact this
  have hcon : ∀ (k : Nat) (hk : k < c.length) (hpre : ∀ j,0 ≤ j → j < k → VCimpl c j),Ret E n_Z86 [dLL (faces c[k]),⟨.fn n_Z9 (.cons (.ptr (.cons yK .nil)) (.cons (.ptr (.cons yI .nil)) .nil)),((c,()),((k : Int),()),())⟩] ⟨o_Z86,(pb (∃ x ∈ faces c[k],pb (¬ x ∈ c.take k) = true),())⟩ := fun k hk hpre =>
    ContainsFunc_SSint64_Sint64_impl_ValidComplex_1_ret (faces c[k]) ((c,()),((k : Int),()),()) _ (Nat.le_trans faces_length (sm_get hc hk).1) fun x hx => ValidComplex_1_ret c x k (by omega) hc (key 0 k hk hpre)
  refine (all_pb 1 (L := fun φ n k => Z8.l0 (mkR (run E (φ 0))) (φ 0) n c (c.length : Int) k c) (len := c.length) 0 (by omega) (VCimpl c) (fun b => some ⟨o_Z8,(b && decide ((c.length : Int) ≤ 48),())⟩) (fun _ _ _ _ => rfl) (fun k h1 h2 hP hpre => ?_) (fun k r h1 h2 hP hpre ih => ?_) (fun _ => ?_)).to ?_
  · simp only [Z8.l0_succ _ mk_ok]
    refine ev_t (decide_eq_true (by omega)) (ev_bind (idx_lt h2) (ev_call (ValidSimplex_ret _ (sm_get hc h2)) ?_))
    refine ev_b (fun hv => ?_) fun hv => ?_
    · simp only [Z8.j1_eq _ mk_ok,cond_true]; (first | exact ev_rfl | exact Ev.of fun _ => trivial)
    · have hv : Vx c[k] := pb_iff.1 (by simpa using hv)
      have last : (1 ≤ k → cmpS (c.getD (k - 1) []) (c.getD k []) < 0) → Ev fun φ => Z8.j1 (mkR (run E (φ 0))) (φ 0) (φ 1) c[k] c (c.length : Int) (k : Int) false c (k : Int) = some ⟨o_Z8,(false,())⟩ := fun hcm => by
        simp only [Z8.j1_eq _ mk_ok,cond_false]
        refine ev_call (facesOf_ret _ (sm_get hc h2).1) (ev_call (hcon k h2 hpre) (ev_t ?_ ev_rfl))
        refine pb_true (Classical.byContradiction fun hn => hP ⟨⟨by rw [getD_lt h2]; exact hv,hcm⟩,fun f hf => Classical.byContradiction fun hnf => hn ⟨f,by rw [getD_lt h2] at hf; exact hf,pb_true hnf⟩⟩)
      refine ev_d (fun hk => ?_) fun hk => ?_
      · rw [w64_small (by omega) (by omega),show ((k : Int) - 1) = ((k - 1 : Nat) : Int) by omega]
        have hk1 : k - 1 < c.length := by omega
        refine ev_bind (idx_lt hk1) (ev_call (compareSimplices_ret _ _ (sm_get hc hk1)) ?_)
        by_cases hcm : cmpS c[k - 1] c[k] < 0
        · simp only [show decide (cmpS c[k - 1] c[k] ≥ 0) = false from decide_eq_false (by omega)]
          exact last fun _ => by rw [getD_lt hk1,getD_lt h2]; exact hcm
        · simp only [show decide (cmpS c[k - 1] c[k] ≥ 0) = true from decide_eq_true (by omega),Z8.j1_eq _ mk_ok,cond_true]
          (first | exact ev_rfl | exact Ev.of fun _ => trivial)
      · exact last fun h => absurd h (by omega)
  · simp only [Z8.l0_succ _ mk_ok]
    have hP' := hP
    obtain ⟨⟨hv,hcm⟩,hfc⟩ := hP'
    rw [getD_lt h2] at hv hfc
    refine ev_t (decide_eq_true (by omega)) (ev_bind (idx_lt h2) (ev_call (ValidSimplex_ret _ (sm_get hc h2)) (ev_f (by rw [pb_true hv]; rfl) ?_)))
    have last : Ev fun φ => Z8.j1 (mkR (run E (φ 0))) (φ 0) (φ 1) c[k] c (c.length : Int) (k : Int) false c (k : Int) = r := by
      simp only [Z8.j1_eq _ mk_ok,cond_false]
      refine ev_call (facesOf_ret _ (sm_get hc h2).1) (ev_call (hcon k h2 hpre) (ev_f ?_ ?_))
      · exact pb_false fun ⟨x,hx,hn⟩ => pb_iff.1 hn (hfc x hx)
      · rw [w64_succ (by omega)]; exact ih
    refine ev_d (fun hk => ?_) fun hk => last
    rw [w64_small (by omega) (by omega),show ((k : Int) - 1) = ((k - 1 : Nat) : Int) by omega]
    have hk1 : k - 1 < c.length := by omega
    have hcm := hcm (by omega)
    rw [getD_lt hk1,getD_lt h2] at hcm
    refine ev_bind (idx_lt hk1) (ev_call (compareSimplices_ret _ _ (sm_get hc hk1)) ?_)
    simp only [show decide (cmpS c[k - 1] c[k] ≥ 0) = false from decide_eq_false (by omega)]
    exact last
  · simp only [Z8.l0_succ _ mk_ok]
    exact ev_f (decide_eq_false (by omega)) (ev_some (by rw [Bool.true_and]))
  · have : (pb (∀ j,0 ≤ j → j < c.length → VCimpl c j) && decide ((c.length : Int) ≤ 48)) = pb (VC c) := eq_pb (by
      rw [Bool.and_eq_true,pb_iff,decide_eq_true_iff,← VC_impl]
      exact ⟨fun h => ⟨h.1,by omega⟩,fun h => ⟨h.1,by omega⟩⟩)
    rw [this]

def VCspec (c : List Sim) (k : Nat) : Prop := (Vx (c.getD k []) ∧ (1 ≤ k → cmpS (c.getD (k - 1) []) (c.getD k []) < 0)) ∧ ∀ f ∈ faces (c.getD k []),f ∈ c

theorem l05Ok_ret (c : Cpx) (hc : Sm yK c.1) : Ret E n_Z127 [dC c] ⟨o_Z127,(pb (VC c.1),())⟩ := by
  have hc1 : c.1.length ≤ 1048576 := hc.1
  refine ret_of ?_
  simp only [run_Z127,Z127.ev]
  refine ev_d (fun h => ev_some ?_) fun h48 => ?_
  · rw [pb_false fun hv => by have := hv.1; omega]
  refine Ev.start (p := fun φ n => Z127.l0 (mkR (run E (φ 0))) (φ 0) n c 0 = _) 1 ?_ (fun _ _ _ h => h)
  -- the inner loop
  have inner : ∀ (k : Nat) (h2 : k < c.1.length) (r : Option Dv),((∀ f ∈ faces c.1[k],f ∈ c.1) → Ev fun φ => Z127.l0 (mkR (run E (φ 0))) (φ 0) (φ 1) c ((k + 1 : Nat) : Int) = r) → (¬ (∀ f ∈ faces c.1[k],f ∈ c.1) → r = some ⟨o_Z127,(false,())⟩) → Ev fun φ => Z127.l2 (mkR (run E (φ 0))) (φ 0) (φ 1) (φ 0) c (k : Int) c.1[k] 0 = r := fun k h2 r hgo hstop => by
    have hks : (c.1[k]).length ≤ 1048576 := (sm_get hc h2).1
    refine Ev.start (p := fun φ n => Z127.l2 (mkR (run E (φ 0))) (φ 0) (φ 1) n c (k : Int) c.1[k] 0 = _) 2 ?_ (fun _ _ _ h => h)
    by_cases hlen : 1 < (c.1[k]).length
    · obtain ⟨t,f⟩ := all_loop 2 (L := fun φ n i => Z127.l2 (mkR (run E (φ 0))) (φ 0) (φ 1) n c (k : Int) c.1[k] i) (len := (c.1[k]).length) 0 (by omega) (fun i => (c.1[k]).eraseIdx i ∈ c.1) (rt := r) (rf := some ⟨o_Z127,(false,())⟩) (fun _ _ _ _ => rfl) (fun i _ hi hP _ => by
        simp only [Z127.l2_succ _ mk_ok]
        refine ev_t (decide_eq_true (by omega)) ?_
        simp only [show decide (((c.1[k]).length : Int) > 1) = true from decide_eq_true (by omega),Z127.j3_eq _ mk_ok,cond_true]
        refine ev_call (l05Drop_ret _ i hi hks) (ev_call (l05Find_ret c _ hc) (ev_t (decide_eq_true ?_) ev_rfl))
        have hq := mt (findI_nonneg (c := c.1) (s := (c.1[k]).eraseIdx i)).1 hP; simp only; exact Int.not_le.1 hq) (fun i q _ hi hP _ ih => by
        simp only [Z127.l2_succ _ mk_ok]
        refine ev_t (decide_eq_true (by omega)) ?_
        simp only [show decide (((c.1[k]).length : Int) > 1) = true from decide_eq_true (by omega),Z127.j3_eq _ mk_ok,cond_true]
        refine ev_call (l05Drop_ret _ i hi hks) (ev_call (l05Find_ret c _ hc) (ev_f (decide_eq_false ?_) ?_))
        · have hq := (findI_nonneg (c := c.1) (s := (c.1[k]).eraseIdx i)).2 hP; simp only; exact Int.not_lt.2 hq
        · rw [w64_succ (by omega)]; exact ih) (fun hall => by
        simp only [Z127.l2_succ _ mk_ok]
        refine ev_f (decide_eq_false (by omega)) ?_
        simp only [Z127.j3_eq _ mk_ok,cond_false]
        rw [w64_succ (by omega)]
        exact hgo fun f hf => by
          obtain ⟨_,i,hi,rfl⟩ := faces_mem.1 hf
          exact hall i (by omega) hi)
      by_cases hall : ∀ i,0 ≤ i → i < (c.1[k]).length → (c.1[k]).eraseIdx i ∈ c.1
      · exact t hall
      · rw [hstop fun hf => hall fun i _ hi => hf _ (faces_mem.2 ⟨hlen,i,hi,rfl⟩)]
        exact f hall
    · refine Ev.round 2 (L := fun φ n => Z127.l2 (mkR (run E (φ 0))) (φ 0) (φ 1) n c (k : Int) c.1[k] 0) ?_ (fun _ _ _ => rfl)
      have hgo := hgo fun f hf => absurd (faces_mem.1 hf).1 hlen
      have hj : Ev fun φ => Z127.j3 (mkR (run E (φ 0))) (φ 0) (φ 1) (φ 2) c (k : Int) c.1[k] 0 false = r := by
        simp only [Z127.j3_eq _ mk_ok,cond_false]
        rw [w64_succ (by omega)]; exact hgo
      simp only [Z127.l2_succ _ mk_ok]
      refine ev_d (fun _ => ?_) fun _ => hj
      simp only [show decide (((c.1[k]).length : Int) > 1) = false from decide_eq_false (by omega)]
      exact hj
  refine (all_pb 1 (L := fun φ n k => Z127.l0 (mkR (run E (φ 0))) (φ 0) n c k) (len := c.1.length) 0 (by omega) (VCspec c.1) (fun b => some ⟨o_Z127,(b,())⟩) (fun _ _ _ _ => rfl) (fun k h1 h2 hP hpre => ?_) (fun k r h1 h2 hP hpre ih => ?_) (fun _ => ?_)).to ?_
  · simp only [Z127.l0_succ _ mk_ok]
    refine ev_t (decide_eq_true (by omega)) (ev_bind (idx_lt h2) (ev_call (l05Simplex_ret _ (sm_get hc h2)) ?_))
    refine ev_b (fun hv => ?_) fun hv => ?_
    · simp only [Z127.j1_eq _ mk_ok,cond_true]; (first | exact ev_rfl | exact Ev.of fun _ => trivial)
    · have hv : Vx c.1[k] := pb_iff.1 (by simpa using hv)
      have last : (1 ≤ k → cmpS (c.1.getD (k - 1) []) (c.1.getD k []) < 0) → Ev fun φ => Z127.j1 (mkR (run E (φ 0))) (φ 0) (φ 1) c (k : Int) c.1[k] false = some ⟨o_Z127,(false,())⟩ := fun hcm => by
        simp only [Z127.j1_eq _ mk_ok,cond_false]
        refine inner k h2 _ (fun hf => absurd ⟨⟨by rw [getD_lt h2]; exact hv,hcm⟩,by rw [getD_lt h2]; exact hf⟩ hP) fun _ => rfl
      refine ev_d (fun hk => ?_) fun hk => ?_
      · rw [w64_small (by omega) (by omega),show ((k : Int) - 1) = ((k - 1 : Nat) : Int) by omega]
        have hk1 : k - 1 < c.1.length := by omega
        refine ev_bind (idx_lt hk1) (ev_call (l05Before_ret _ _ (sm_get hc hk1)) ?_)
        by_cases hcm : cmpS c.1[k - 1] c.1[k] < 0
        · simp only [pb_true hcm]
          exact last fun _ => by rw [getD_lt hk1,getD_lt h2]; exact hcm
        · simp only [pb_false hcm,Z127.j1_eq _ mk_ok,cond_true,Bool.not_false]
          (first | exact ev_rfl | exact Ev.of fun _ => trivial)
      · exact last fun h => absurd h (by omega)
  · simp only [Z127.l0_succ _ mk_ok]
    obtain ⟨⟨hv,hcm⟩,hfc⟩ := hP
    rw [getD_lt h2] at hv hfc
    refine ev_t (decide_eq_true (by omega)) (ev_bind (idx_lt h2) (ev_call (l05Simplex_ret _ (sm_get hc h2)) (ev_f (by rw [pb_true hv]; rfl) ?_)))
    have last : Ev fun φ => Z127.j1 (mkR (run E (φ 0))) (φ 0) (φ 1) c (k : Int) c.1[k] false = r := by
      simp only [Z127.j1_eq _ mk_ok,cond_false]
      exact inner k h2 _ (fun _ => ih) fun hn => absurd hfc hn
    refine ev_d (fun hk => ?_) fun hk => last
    rw [w64_small (by omega) (by omega),show ((k : Int) - 1) = ((k - 1 : Nat) : Int) by omega]
    have hk1 : k - 1 < c.1.length := by omega
    have hcm := hcm (by omega)
    rw [getD_lt hk1,getD_lt h2] at hcm
    refine ev_bind (idx_lt hk1) (ev_call (l05Before_ret _ _ (sm_get hc hk1)) ?_)
    simp only [pb_true hcm,Bool.not_true]
    exact last
  · simp only [Z127.l0_succ _ mk_ok]
    exact ev_f (decide_eq_false (by omega)) ev_rfl
  · have : pb (∀ j,0 ≤ j → j < c.1.length → VCspec c.1 j) = pb (VC c.1) := pb_congr
      ⟨fun h => ⟨by omega,fun k hk => (h k (by omega) hk).1.1,fun k h1 hk => (h k (by omega) hk).1.2 h1,fun k hk => (h k (by omega) hk).2⟩,
       fun h k _ hk => ⟨⟨h.2.1 k hk,fun h1 => h.2.2.1 k h1 hk⟩,h.2.2.2 k hk⟩⟩
    rw [this]

end VeT

open Go Go.Proofs Ve
set_option linter.unusedVariables false
set_option linter.unusedSimpArgs false
namespace VeT

/-- primes up to 251 -/
def Pr (p : Int) : Prop := 2 ≤ p ∧ p ≤ 251 ∧ ∀ k : Nat,2 ≤ k → (k : Int) * k ≤ p → p % k ≠ 0

theorem ValidPrime_ret (p : Int) : Ret E n_Z10 [dI p] ⟨o_Z10,(pb (Pr p),())⟩ := by
  refine ret_of ?_
  simp only [run_Z10,Z10.ev]
  refine ev_call (within_ret _ _ _) (ev_b (fun h => ev_some ?_) fun h => ?_)
  · have h : ¬ (2 ≤ p ∧ p ≤ 251) := pb_not.1 (by simpa using h)
    rw [pb_false fun hp => h ⟨hp.1,hp.2.1⟩]
  have hr : 2 ≤ p ∧ p ≤ 251 := pb_iff.1 (by simpa using h)
  refine Ev.start (p := fun φ n => Z10.l0 (mkR (run E (φ 0))) (φ 0) n p 2 = _) 1 ?_ (fun _ _ _ h => h)
  refine loopR 1 (σ := Nat) (L := fun φ n k => Z10.l0 (mkR (run E (φ 0))) (φ 0) n p (k : Int)) (fun _ _ _ _ => rfl) (fun k => 2 ≤ k ∧ k ≤ 17 ∧ ∀ j : Nat,2 ≤ j → j < k → (j : Int) * j ≤ p → p % j ≠ 0) (fun _ => _) (fun k => 17 - k) (fun k ⟨h1,h2,h3⟩ ih => ?_) 2 ⟨by omega,by omega,fun j _ _ => by omega⟩
  simp only [Z10.l0_succ _ mk_ok]
  have hkk : 0 ≤ (k : Int) * k ∧ (k : Int) * k ≤ 289 := ⟨Int.mul_nonneg (by omega) (by omega),by have := Nat.mul_le_mul h2 h2; omega⟩
  have e : w64 ((k : Int) * k) = (k : Int) * k := w64_small (by omega) (by omega)
  simp only [e]
  refine ev_d (fun hle => ?_) fun hle => ev_some ?_
  · have hk16 : k < 16 := Classical.byContradiction fun hn => by
      have := Nat.mul_le_mul (show 16 ≤ k by omega) (show 16 ≤ k by omega); omega
    refine ev_chk (by simp; omega) ?_
    rw [Int.tmod_eq_emod_of_nonneg (by omega)]
    refine ev_b (fun h0 => ev_some ?_) fun h0 => ?_
    · rw [pb_false fun hp => hp.2.2 k h1 hle (by simpa using h0)]
    · rw [w64_succ (by omega)]
      refine ih (k + 1) ⟨by omega,by omega,fun j hj1 hj2 hj3 => ?_⟩ (by show 17 - (k + 1) < 17 - k; omega)
      by_cases hjk : j = k
      · subst hjk; simpa using h0
      · exact h3 j hj1 (by omega) hj3
  · rw [pb_true]
    refine ⟨hr.1,hr.2,fun j hj1 hj2 => ?_⟩
    by_cases hjk : j < k
    · exact h3 j hj1 hjk hj2
    · exfalso
      have := Nat.mul_le_mul (show k ≤ j by omega) (show k ≤ j by omega); omega

theorem l02Prime_ret (p : Int) : Ret E n_Z111 [dI p] ⟨o_Z111,(pb (Pr p),())⟩ := by
  refine ret_of ?_
  simp only [run_Z111,Z111.ev]
  refine ev_call (l00In_ret _ _ _) (ev_b (fun h => ev_some ?_) fun h => ?_)
  · have h : ¬ (2 ≤ p ∧ p ≤ 251) := pb_not.1 (by simpa using h)
    rw [pb_false fun hp => h ⟨hp.1,hp.2.1⟩]
  have hr : 2 ≤ p ∧ p ≤ 251 := pb_iff.1 (by simpa using h)
  refine Ev.start (p := fun φ n => Z111.l0 (mkR (run E (φ 0))) (φ 0) n p 2 = _) 1 ?_ (fun _ _ _ h => h)
  refine loopR 1 (σ := Nat) (L := fun φ n k => Z111.l0 (mkR (run E (φ 0))) (φ 0) n p (k : Int)) (fun _ _ _ _ => rfl) (fun k => 2 ≤ k ∧ k ≤ 17 ∧ ∀ j : Nat,2 ≤ j → j < k → (j : Int) * j ≤ p → p % j ≠ 0) (fun _ => _) (fun k => 17 - k) (fun k ⟨h1,h2,h3⟩ ih => ?_) 2 ⟨by omega,by omega,fun j _ _ => by omega⟩
  simp only [Z111.l0_succ _ mk_ok]
  have hkk : 0 ≤ (k : Int) * k ∧ (k : Int) * k ≤ 289 := ⟨Int.mul_nonneg (by omega) (by omega),by have := Nat.mul_le_mul h2 h2; omega⟩
  have e : w64 ((k : Int) * k) = (k : Int) * k := w64_small (by omega) (by omega)
  simp only [e]
  refine ev_d (fun hle => ?_) fun hle => ev_some ?_
  · have hk16 : k < 16 := Classical.byContradiction fun hn => by
      have := Nat.mul_le_mul (show 16 ≤ k by omega) (show 16 ≤ k by omega); omega
    refine ev_chk (by simp; omega) ?_
    rw [Int.tmod_eq_emod_of_nonneg (by omega)]
    refine ev_b (fun h0 => ev_some ?_) fun h0 => ?_
    · rw [pb_false fun hp => hp.2.2 k h1 hle (by simpa using h0)]
    · rw [w64_succ (by omega)]
      refine ih (k + 1) ⟨by omega,by omega,fun j hj1 hj2 hj3 => ?_⟩ (by show 17 - (k + 1) < 17 - k; omega)
      by_cases hjk : j = k
      · subst hjk; simpa using h0
      · exact h3 j hj1 (by omega) hj3
  · rw [pb_true]
    refine ⟨hr.1,hr.2,fun j hj1 hj2 => ?_⟩
    by_cases hjk : j < k
    · exact h3 j hj1 hjk hj2
    · exfalso
      have := Nat.mul_le_mul (show k ≤ j by omega) (show k ≤ j by omega); omega

theorem specValidPrime_ret (p : Int) : Ret E n_Z105 [dI p] ⟨o_Z105,(pb (Pr p),())⟩ := by
  refine ret_of ?_
  simp only [run_Z105,Z105.ev]
  exact ev_call (l02Prime_ret p) ev_rfl

/-! matrices -/
def Elems (v : Sim) (p : Int) : Prop := ∀ x ∈ v,0 ≤ x ∧ x ≤ p - 1

theorem isElement_ret (a p : Int) (hp : 0 ≤ p ∧ p ≤ 1048576) : Ret E n_Z42 [dI a,dI p] ⟨o_Z42,(pb (0 ≤ a ∧ a ≤ p - 1),())⟩ := by
  refine ret_of ?_
  simp only [run_Z42,Z42.ev]
  rw [w64_small (by omega) (by omega)]
  exact ev_call (within_ret _ _ _) ev_rfl

theorem areElements_1_ret (a p : Int) (hp : 0 ≤ p ∧ p ≤ 1048576) : Ret E n_Z17 [dI a,⟨.ptr (.cons yI .nil),(p,())⟩] ⟨o_Z17,(!pb (0 ≤ a ∧ a ≤ p - 1),())⟩ := by
  refine ret_of ?_
  simp only [run_Z17,Z17.ev]
  exact ev_call (isElement_ret _ _ hp) ev_rfl

theorem none_bad {α : Type} {s : List α} {P : α → Prop} : (!pb (∃ x ∈ s,(!pb (P x)) = true)) = pb (∀ x ∈ s,P x) := eq_pb (by
  simp only [Bool.not_eq_true',pb_not]
  exact ⟨fun h x hx => Classical.byContradiction fun hn => h ⟨x,hx,hn⟩,fun h ⟨x,hx,hn⟩ => hn (h x hx)⟩)

theorem areElements_ret (v : Sim) (p : Int) (hv : v.length ≤ 1048576) (hp : 0 ≤ p ∧ p ≤ 1048576) : Ret E n_Z16 [dL v,dI p] ⟨o_Z16,(pb (Elems v p),())⟩ := by
  refine ret_of ?_
  simp only [run_Z16,Z16.ev]
  refine ev_call (ContainsFunc_Sint64_int64_impl_areElements_1_ret v ((p,()),()) _ hv fun x _ => areElements_1_ret x p hp) (ev_some ?_)
  simp only [none_bad]; rfl

theorem l03Column_ret (v : Sim) (n p : Int) (hv : v.length ≤ 1048576) (hp : 0 ≤ p ∧ p ≤ 1048576) : Ret E n_Z113 [dL v,dI n,dI p] ⟨o_Z113,(pb (Elems v p ∧ (v.length : Int) = n),())⟩ := by
  have e : w64 (p - 1) = p - 1 := w64_small (by omega) (by omega)
  refine ret_of ?_
  simp only [run_Z113,Z113.ev]
  refine Ev.start (p := fun φ n' => Z113.l0 (mkR (run E (φ 0))) (φ 0) n' v n p 0 = _) 1 ?_ (fun _ _ _ h => h)
  refine (all_pb 1 (L := fun φ n' k => Z113.l0 (mkR (run E (φ 0))) (φ 0) n' v n p k) (len := v.length) 0 (by omega) (fun j => 0 ≤ v.getD j 0 ∧ v.getD j 0 ≤ p - 1) (fun b => some ⟨o_Z113,(b && ((v.length : Int) == n),())⟩) (fun _ _ _ _ => rfl) (fun k h1 h2 hP _ => ?_) (fun k r h1 h2 hP _ ih => ?_) (fun _ => ?_)).to ?_
  · simp only [Z113.l0_succ _ mk_ok,e]
    rw [getD_lt h2] at hP
    exact ev_t (decide_eq_true (by omega)) (ev_bind (idx_lt h2) (ev_call (l00In_ret _ _ _) (ev_t (by rw [pb_false hP]; rfl) ev_rfl)))
  · simp only [Z113.l0_succ _ mk_ok,e]
    rw [getD_lt h2] at hP
    refine ev_t (decide_eq_true (by omega)) (ev_bind (idx_lt h2) (ev_call (l00In_ret _ _ _) (ev_f (by rw [pb_true hP]; rfl) ?_)))
    rw [w64_succ (by omega)]; exact ih
  · simp only [Z113.l0_succ _ mk_ok]
    exact ev_f (decide_eq_false (by omega)) (ev_some (by rw [Bool.true_and]))
  · have : (pb (∀ j,0 ≤ j → j < v.length → 0 ≤ v.getD j 0 ∧ v.getD j 0 ≤ p - 1) && ((v.length : Int) == n)) = pb (Elems v p ∧ (v.length : Int) = n) := eq_pb (by
      rw [Bool.and_eq_true,pb_iff,beq_iff_eq]
      refine and_congr_left' ⟨fun h x hx => ?_,fun h j _ hj => ?_⟩
      · obtain ⟨j,hj,rfl⟩ := List.mem_iff_getElem.1 hx
        have := h j (by omega) hj
        rwa [getD_lt hj] at this
      · rw [getD_lt hj]; exact h _ (List.getElem_mem hj))
    rw [this]

theorem sizeI_ret (s : Sim) : Ret E n_Z57 [dL s] ⟨o_Z57,((s.length : Int),())⟩ := by
  refine ret_of ?_
  simp only [run_Z57,Z57.ev]
  (first | exact ev_rfl | exact Ev.of fun _ => trivial)

theorem sizeL_ret (s : List Sim) : Ret E n_Z56 [dLL s] ⟨o_Z56,((s.length : Int),())⟩ := by
  refine ret_of ?_
  simp only [run_Z56,Z56.ev]
  (first | exact ev_rfl | exact Ev.of fun _ => trivial)

/-- valid matrices -/
def VM (m : Mat) : Prop := Pr m.1 ∧ (0 ≤ m.2.1 ∧ m.2.1 ≤ 32) ∧ (0 ≤ m.2.2.1 ∧ m.2.2.1 ≤ 32) ∧ (m.2.2.2.1.length : Int) = m.2.1 * m.2.2.1 ∧ Elems m.2.2.2.1 m.1

def Bt (m : Mat) (p f t : Int) : Prop := VM m ∧ m.1 = p ∧ m.2.1 = t ∧ m.2.2.1 = f

/-! stalks -/
def ofDim (c : List Sim) (d : Int) (k : Nat) : List Int := ((List.range k).filter fun i => decide (((c.getD i []).length : Int) = d + 1)).map Int.ofNat

theorem ofDim_succ (c : List Sim) (d : Int) (k : Nat) : ofDim c d (k + 1) = ofDim c d k ++ if ((c.getD k []).length : Int) = d + 1 then [(k : Int)] else [] := by
  unfold ofDim
  rw [List.range_succ,List.filter_append,List.map_append]
  congr 1
  by_cases h : ((c.getD k []).length : Int) = d + 1
  · rw [if_pos h,List.filter_cons_of_pos (by simpa using h)]; rfl
  · rw [if_neg h,List.filter_cons_of_neg (by simpa using h)]; rfl

theorem ofDim_length (c : List Sim) (d : Int) (k : Nat) : (ofDim c d k).length ≤ k := by
  unfold ofDim
  rw [List.length_map]
  exact Nat.le_trans (List.length_filter_le _ _) (by simp)

theorem ofDim_mem {c : List Sim} {d : Int} {k : Nat} {x : Int} (h : x ∈ ofDim c d k) : ∃ i : Nat,x = i ∧ i < k := by
  unfold ofDim at h
  rw [List.mem_map] at h
  obtain ⟨i,hi,rfl⟩ := h
  exact ⟨i,rfl,by have := (List.mem_filter.1 hi).1; simpa using this⟩

theorem simplicesOf_ret (c : List Sim) (d : Int) (hc : Sm yK c) (hd : -1 ≤ d ∧ d ≤ 1048576) : Ret E n_Z55 [dLL c,dI d] ⟨o_Z55,(ofDim c d c.length,())⟩ := by
  have hc1 : c.length ≤ 1048576 := hc.1
  have hd1 : w64 (d + 1) = d + 1 := w64_small (by omega) (by omega)
  refine ret_of ?_
  simp only [run_Z55,Z55.ev]
  refine Ev.start (p := fun φ n => Z55.l0 (mkR (run E (φ 0))) (φ 0) n d c (c.length : Int) 0 [] = _) 1 ?_ (fun _ _ _ h => h)
  refine fold_loop 1 (L := fun φ n k a => Z55.l0 (mkR (run E (φ 0))) (φ 0) n d c (c.length : Int) k a) (len := c.length) (fun k => ofDim c d k) (fun _ _ _ _ _ => rfl) (fun k r hk ih => ?_) ?_
  · simp only [Z55.l0_succ _ mk_ok,hd1]
    rw [ofDim_succ,getD_lt hk] at ih
    have hlen := ofDim_length c d k
    refine ev_t (decide_eq_true (by omega)) (ev_bind (idx_lt hk) (ev_call (sizeI_ret _) ?_))
    rw [w64_succ (by omega)]
    refine ev_b (fun he => ev_chk (decide_eq_true (by simp only [List.length_cons,List.length_nil]; omega)) ?_) fun he => ?_
    · rw [if_pos (by simpa using he)] at ih; exact ih
    · rw [if_neg (by simpa using he),List.append_nil] at ih; exact ih
  · simp only [Z55.l0_succ _ mk_ok]
    exact ev_f (decide_eq_false (by omega)) ev_rfl

theorem l05Of_ret (c : List Sim) (d : Int) (hc : Sm yK c) (hd : -1 ≤ d ∧ d ≤ 1048576) : Ret E n_Z126 [dC (c,()),dI d] ⟨o_Z126,(ofDim c d c.length,())⟩ := by
  have hc1 : c.length ≤ 1048576 := hc.1
  have hd1 : w64 (d + 1) = d + 1 := w64_small (by omega) (by omega)
  refine ret_of ?_
  simp only [run_Z126,Z126.ev]
  refine Ev.start (p := fun φ n => Z126.l0 (mkR (run E (φ 0))) (φ 0) n (c,()) d 0 [] = _) 1 ?_ (fun _ _ _ h => h)
  refine fold_loop 1 (L := fun φ n k a => Z126.l0 (mkR (run E (φ 0))) (φ 0) n (c,()) d k a) (len := c.length) (fun k => ofDim c d k) (fun _ _ _ _ _ => rfl) (fun k r hk ih => ?_) ?_
  · simp only [Z126.l0_succ _ mk_ok,hd1]
    rw [ofDim_succ,getD_lt hk] at ih
    have hlen := ofDim_length c d k
    refine ev_t (decide_eq_true (by omega)) (ev_bind (idx_lt hk) ?_)
    rw [w64_succ (by omega)]
    refine ev_b (fun he => ev_chk (decide_eq_true (by simp only [List.length_cons,List.length_nil]; omega)) ?_) fun he => ?_
    · rw [if_pos (by simpa using he)] at ih; exact ih
    · rw [if_neg (by simpa using he),List.append_nil] at ih; exact ih
  · simp only [Z126.l0_succ _ mk_ok]
    exact ev_f (decide_eq_false (by omega)) ev_rfl

/-- the sum of the stalks of a dimension -/
def sumD (c : List Sim) (st : Sim) (d : Int) (k : Nat) : Int := (((ofDim c d c.length).take k).map fun i => st.getD i.toNat 0).sum

end VeT
