import Derived.Test.YtonfceapakgcjaaGreatT3
import Derived.Test.YtonfceapakgcjaaGreatV2
import Derived.Test.YtonfceapakgcjaaGreatT4
import Derived.Test.YtonfceapakgcjaaGreatProg
import Derived.KernelRfl
import Derived.WalkKit
import Derived.Lib.Walk
import Derived.Lib.SliceRun
import Derived.Lib.AppendZerosOnto
set_option linter.unusedVariables false
set_option linter.unusedSimpArgs false
open Go Go.Proofs Ve
set_option linter.unusedVariables false
set_option maxRecDepth 100000
namespace VeT
@[reducible] noncomputable def q3_0 (R:Run) (N:Nat):=kS R pol_Z119 7 N [1,1] F_Z119
@[reducible] noncomputable def q3_1 (R:Run) (N:Nat):=lC R pol_Z119 2 N [1,0,1,0,0] F_Z119
theorem Z67.ev (R:Run) (N:Nat) (a0 a1:Int) (a2:vK):evFn E R sg_Z67 pol_Z67 F_Z67 N [⟨yI,a0⟩,⟨yI,a1⟩,⟨yK,a2⟩] = ((callT R n_Z31 o_Z31 [⟨yK,a2⟩]).bind fun r1 => ((callT R n_Z34 o_Z34 [⟨yK,r1.1⟩,⟨yI,a1⟩,⟨yI,a0⟩]).bind fun r2 => ((chk (decide (0 ≤ (List.length r2.1:Int)) && decide ((List.length r2.1:Int) ≤ (List.length r2.2.2.1:Int)))).bind fun _ => ((callT R n_Z31 o_Z31 [⟨yK,(List.drop 0 (List.take (Int.toNat (List.length r2.1:Int)) r2.2.2.1))⟩]).bind fun r3 => some ⟨o_Z67,(a0,a1,r3.1,())⟩)))) := by kernel_rfl
theorem Z24.ev (R:Run) (N:Nat) (a0:vK) (a1:Int) (a2:(List Int)) (a3:vN) (a4:Int):evFn E R sg_Z24 pol_Z24 F_Z24 N [⟨yK,a0⟩,⟨yI,a1⟩,⟨yL,a2⟩,⟨yN,a3⟩,⟨yI,a4⟩] = ((callT R n_Z25 o_Z25 [⟨yK,a0⟩,⟨yI,a1⟩,⟨yL,a2⟩,⟨yN,a3⟩,⟨yI,(w64 (a4 - (1:Int)))⟩]).bind fun r1 => ((callT R n_Z27 o_Z27 [⟨yI,r1.1⟩,⟨yI,r1.2.1⟩,⟨yI,r1.2.2.1⟩,⟨yL,r1.2.2.2.1⟩]).bind fun r2 => ((callT R n_Z67 o_Z67 [⟨yI,a1⟩,⟨yI,r1.2.1⟩,⟨yK,r2.1⟩]).bind fun r3 => some ⟨o_Z24,(r3.1,r3.2.1,r3.2.2.1,())⟩))) := by kernel_rfl
noncomputable def Z125.l0 (R:Run) (N n:Nat) (a:(List Int)) (b e f:Int):Option Dv := R.w (some ⟨(.c (.d yL a)::(.c (.d yI b)::(zd 5 (.c (.d yI e)::(.c (.d yI f)::(zd 10 [])))))),(zo 21 [])⟩) fun st => lC R pol_Z125 2 N [1,0,1,0,0] F_Z125 n st (kB R pol_Z125 0 (kS R pol_Z125 7 N [1,1] F_Z125 (kTop E sg_Z125 F_Z125)))
theorem Z125.l0_succ (R:Run) (hw:R.ok) (N n:Nat) (a:(List Int)) (b c d:Int):Z125.l0 R N (n + 1) a b c d = (bif (decide (d < c)) then ((idx? a d).bind fun y5 => (bif (b == (y5,()).1) then some ⟨o_Z125,(d,())⟩ else (Z125.l0 R N n a b c (w64 (d + (1:Int)))))) else some ⟨o_Z125,((-1:Int),())⟩) := (hw _ _).trans (by kernel_rfl)
theorem Z125.ev (R:Run) (N:Nat) (a0:(List Int)) (a1:Int):evFn E R sg_Z125 pol_Z125 F_Z125 N [⟨yL,a0⟩,⟨yI,a1⟩] = (Z125.l0 R N N a0 a1 (List.length a0:Int) (0:Int)) := by kernel_rfl
theorem Z113.ev (R:Run) (N:Nat) (a0:(List Int)) (a1:Int):evFn E R sg_Z113 pol_Z113 F_Z113 N [⟨yL,a0⟩,⟨yI,a1⟩] = ((callT R n_Z125 o_Z125 [⟨yL,a0⟩,⟨yI,a1⟩]).bind fun r1 => some ⟨o_Z113,((decide (r1.1 ≥ (0:Int))),())⟩) := by kernel_rfl
noncomputable def Z56.l1 (R:Run) (N a n:Nat) (b:(List Int)) (e f g:Int) (h:(List Int)) (i j k l m:Int) (o p:(List Int)) (q r:vK):Option Dv := R.w (some ⟨(V.dead::(.c (.box 1 0)::(V.dead::(.c (.arr 68)::(.c (.d yL b)::(V.dead::(.c (.arr 61)::(.c (.d yI e)::(.c (.arr 32)::(zd 14 (.c (.d yI f)::(.c (.d yI g)::(zd 11 (.c (.d yL h)::(.c (.d yI i)::(.c (.d yI j)::(zd 25 []))))))))))))))))),(none::(some (.box [.d yI k,.d yI l,.d yI m,.d yL o] false false)::(zo 30 (some (.arr yI p true false false)::(zo 28 (some (.arr yL q true false false)::(zo 6 (some (.arr yL r false false false)::[]))))))))⟩) fun st => lC R pol_Z56 11 N [1,1,1,1,0,1,0,0,1,1,0,0,1,1,1,1,0,1,0,0] F_Z56 n st (kB R pol_Z56 2 (kS R pol_Z56 15 N [1,1,1,1,0,1,0,0,1,1,0,0,1,1,1,1,1] F_Z56 (kB R pol_Z56 1 (kS R pol_Z56 16 N [1,1,1,1,0,1,0,0,1,1,1] F_Z56 (kL R pol_Z56 5 N [1,1,1,1,0,1,0,0] F_Z56 a (kB R pol_Z56 0 (kS R pol_Z56 17 N [1,1,1,1,1] F_Z56 (kTop E sg_Z56 F_Z56))))))))
noncomputable def Z56.l0 (R:Run) (N n:Nat) (a:(List Int)) (b e f g h:Int) (i:(List Int)) (j k:vK):Option Dv := R.w (some ⟨(V.dead::(.c (.box 1 0)::(V.dead::(.c (.arr 68)::(.c (.d yL a)::(V.dead::(.c (.arr 61)::(zd 16 (.c (.d yI b)::(.c (.d yI e)::(zd 39 []))))))))))),(none::(some (.box [.d yI f,.d yI g,.d yI h,.d yL i] false false)::(zo 59 (some (.arr yL j true false false)::(zo 6 (some (.arr yL k false false false)::[]))))))⟩) fun st => lC R pol_Z56 5 N [1,1,1,1,0,1,0,0] F_Z56 n st (kB R pol_Z56 0 (kS R pol_Z56 17 N [1,1,1,1,1] F_Z56 (kTop E sg_Z56 F_Z56)))
theorem Z56.l1_succ (R:Run) (hw:R.ok) (N a n:Nat) (b:(List Int)) (c d e:Int) (f:(List Int)) (g h i j k:Int) (l m:(List Int)) (o p:vK):Z56.l1 R N a (n + 1) b c d e f g h i j k l m o p = (bif (decide (h < g)) then ((idx? f h).bind fun y36 => ((chk (decide (0 ≤ h) && decide (h < (List.length p:Int)))).bind fun _ => (Option.bind (p)[(Int.toNat h)]? fun y37 => ((idx? y37 c).bind fun y38 => ((callT R n_Z62 o_Z62 [⟨yI,(w64 (0 - (y38,()).1))⟩,⟨yI,i⟩]).bind fun r39 => ((chk (decide (0 ≤ (y36,()).1) && decide ((y36,()).1 < (List.length m:Int)))).bind fun _ => (Z56.l1 R N a n b c d e f g (w64 (h + (1:Int))) i j k l (List.set m (Int.toNat (y36,()).1) r39.1) o p))))))) else ((chk (decide ((List.length o + List.length [m]) * 24 ≤ 70368744177664))).bind fun _ => (Z56.l0 R N a b d (w64 (e + (1:Int))) i j k l (o ++ [m]) p))) := (hw _ _).trans (by kernel_rfl)
theorem Z56.l0_succ (R:Run) (hw:R.ok) (N n:Nat) (a:(List Int)) (b c d e f:Int) (g:(List Int)) (h i:vK):Z56.l0 R N (n + 1) a b c d e f g h i = (bif (decide (c < b)) then ((callT R n_Z113 o_Z113 [⟨yL,a⟩,⟨yI,c⟩]).bind fun r12 => (bif r12.1 then (Z56.l0 R N n a b (w64 (c + (1:Int))) d e f g h i) else ((chk (decide (0 ≤ f) && decide (f * 8 ≤ 70368744177664))).bind fun _ => ((chk (decide (0 ≤ c) && decide (c < (List.length (List.replicate (Int.toNat f) (0:Int)):Int)))).bind fun _ => (Z56.l1 R N n N a c b c a (List.length a:Int) (0:Int) d e f g (List.set (List.replicate (Int.toNat f) (0:Int)) (Int.toNat c) (1:Int)) h i))))) else some ⟨o_Z56,(h,())⟩) := (hw _ _).trans (by kernel_rfl)
theorem Z56.ev (R:Run) (N:Nat) (a0 a1 a2:Int) (a3:(List Int)):evFn E R sg_Z56 pol_Z56 F_Z56 N [⟨yI,a0⟩,⟨yI,a1⟩,⟨yI,a2⟩,⟨yL,a3⟩] = ((callT R n_Z63 o_Z63 [⟨yI,a0⟩,⟨yI,a1⟩,⟨yI,a2⟩,⟨yL,a3⟩]).bind fun r1 => ((callT R n_Z34 o_Z34 [⟨yK,r1.1⟩,⟨yI,a2⟩,⟨yI,a0⟩]).bind fun r2 => (Z56.l0 R N N r2.1 a2 (0:Int) a0 a1 a2 a3 ([]:List (List Int)) r2.2.2.1))) := by kernel_rfl
theorem Z58.ev (R:Run) (N:Nat) (a0:Int):evFn E R sg_Z58 pol_Z58 F_Z58 N [⟨yI,a0⟩] = some ⟨o_Z58,((a0 != (0:Int)),())⟩ := by kernel_rfl
noncomputable def Z124.l0 (R:Run) (N n:Nat) (a:(List Int)) (b e:Int):Option Dv := R.w (some ⟨(.c (.d yL a)::(.c (.d (.fn n_Z58 .nil) ())::(zd 5 (.c (.d yI b)::(.c (.d yI e)::(zd 10 [])))))),(zo 21 [])⟩) fun st => q3_1 R N n st (kB R pol_Z119 0 (q3_0 R N (kTop E sg_Z119 F_Z119)))
theorem Z124.l0_succ (R:Run) (hw:R.ok) (N n:Nat) (a:(List Int)) (b c:Int):Z124.l0 R N (n + 1) a b c = (bif (decide (c < b)) then ((idx? a c).bind fun y4 => ((callT R n_Z58 o_Z58 [⟨yI,(y4,()).1⟩]).bind fun r5 => (bif r5.1 then some ⟨o_Z119,(c,())⟩ else (Z124.l0 R N n a b (w64 (c + (1:Int))))))) else some ⟨o_Z119,((-1:Int),())⟩) := (hw _ _).trans (by kernel_rfl)
theorem Z124.ev (R:Run) (N:Nat) (a0:(List Int)):evFn E R sg_Z119 pol_Z119 F_Z119 N [⟨yL,a0⟩,⟨(.fn n_Z58 .nil),()⟩] = (Z124.l0 R N N a0 (List.length a0:Int) (0:Int)) := by kernel_rfl
noncomputable def Z57.l0 (R:Run) (N n:Nat) (a:vK) (b e:Int) (f:(List Int)):Option Dv := R.w (some ⟨(zd 3 (.c (.arr 17)::(zd 3 (.c (.d yK a)::(.c (.d yI b)::(.c (.d yI e)::(zd 10 []))))))),(zo 17 (some (.arr yI f true false false)::(zo 5 [])))⟩) fun st => lC R pol_Z57 3 N [1,1,0,1,0,0] F_Z57 n st (kB R pol_Z57 0 (kS R pol_Z57 7 N [1,1,1] F_Z57 (kTop E sg_Z57 F_Z57)))
theorem Z57.l0_succ (R:Run) (hw:R.ok) (N n:Nat) (a:vK) (b c:Int) (d:(List Int)):Z57.l0 R N (n + 1) a b c d = (bif (decide (c < b)) then ((idx? a c).bind fun y5 => ((callT R n_Z119 o_Z119 [⟨yL,(y5,()).1⟩,⟨(.fn n_Z58 .nil),()⟩]).bind fun r6 => ((chk (decide ((List.length d + List.length [r6.1]) * 8 ≤ 70368744177664))).bind fun _ => (Z57.l0 R N n a b (w64 (c + (1:Int))) (d ++ [r6.1]))))) else some ⟨o_Z57,(d,())⟩) := (hw _ _).trans (by kernel_rfl)
theorem Z57.ev (R:Run) (N:Nat) (a0 a1:Int) (a2:vK):evFn E R sg_Z57 pol_Z57 F_Z57 N [⟨yI,a0⟩,⟨yI,a1⟩,⟨yK,a2⟩] = (Z57.l0 R N N a2 (List.length a2:Int) (0:Int) ([]:List Int)) := by kernel_rfl
theorem Z55.ev (R:Run) (N:Nat) (a0:Int):evFn E R sg_Z55 pol_Z55 F_Z55 N [⟨yI,a0⟩] = some ⟨o_Z55,((a0 != (0:Int)),())⟩ := by kernel_rfl
noncomputable def Z123.l0 (R:Run) (N n:Nat) (a:(List Int)) (b e:Int):Option Dv := R.w (some ⟨(.c (.d yL a)::(.c (.d (.fn n_Z55 .nil) ())::(zd 5 (.c (.d yI b)::(.c (.d yI e)::(zd 10 [])))))),(zo 21 [])⟩) fun st => q3_1 R N n st (kB R pol_Z119 0 (q3_0 R N (kTop E sg_Z119 F_Z119)))
theorem Z123.l0_succ (R:Run) (hw:R.ok) (N n:Nat) (a:(List Int)) (b c:Int):Z123.l0 R N (n + 1) a b c = (bif (decide (c < b)) then ((idx? a c).bind fun y4 => ((callT R n_Z55 o_Z55 [⟨yI,(y4,()).1⟩]).bind fun r5 => (bif r5.1 then some ⟨o_Z119,(c,())⟩ else (Z123.l0 R N n a b (w64 (c + (1:Int))))))) else some ⟨o_Z119,((-1:Int),())⟩) := (hw _ _).trans (by kernel_rfl)
theorem Z123.ev (R:Run) (N:Nat) (a0:(List Int)):evFn E R sg_Z119 pol_Z119 F_Z119 N [⟨yL,a0⟩,⟨(.fn n_Z55 .nil),()⟩] = (Z123.l0 R N N a0 (List.length a0:Int) (0:Int)) := by kernel_rfl
theorem Z112.ev (R:Run) (N:Nat) (a0:(List Int)):evFn E R sg_Z108 pol_Z108 F_Z108 N [⟨yL,a0⟩,⟨(.fn n_Z55 .nil),()⟩] = ((callT R n_Z119 o_Z119 [⟨yL,a0⟩,⟨(.fn n_Z55 .nil),()⟩]).bind fun r1 => some ⟨o_Z108,((decide (r1.1 ≥ (0:Int))),())⟩) := by kernel_rfl
theorem Z54.ev (R:Run) (N:Nat) (a0:(List Int)):evFn E R sg_Z54 pol_Z54 F_Z54 N [⟨yL,a0⟩] = ((callT R n_Z108 o_Z108 [⟨yL,a0⟩,⟨(.fn n_Z55 .nil),()⟩]).bind fun r1 => some ⟨o_Z54,((!r1.1),())⟩) := by kernel_rfl
noncomputable def Z30.l0 (R:Run) (N n:Nat) (a b e:(List Int)) (f g h i:Int) (j:vK) (k:(List Int)):Option Dv := R.w (some ⟨(V.dead::(.c (.d yL a)::(.c (.box 2 0)::(zd 3 (.c (.arr 25)::(.c (.d yL b)::(zd 4 (.c (.d yL e)::(.c (.d yI f)::(.c (.d yI g)::(zd 34 []))))))))))),(none::(none::(some (.box [.d yI h,.d yI i,.d yK j] false false)::(zo 22 (some (.arr yI k true false false)::(zo 27 []))))))⟩) fun st => lC R pol_Z30 4 N [1,1,1,0,1,0,0] F_Z30 n st (kB R pol_Z30 0 (kS R pol_Z30 9 N [1,1,1,1] F_Z30 (kTop E sg_Z30 F_Z30)))
theorem Z30.l0_succ (R:Run) (hw:R.ok) (N n:Nat) (a b c:(List Int)) (d e f g:Int) (h:vK) (i:(List Int)):Z30.l0 R N (n + 1) a b c d e f g h i = (bif (decide (e < d)) then ((idx? c e).bind fun y11 => ((idx? a (y11,()).1).bind fun y12 => ((chk (decide ((List.length i + List.length [(y12,()).1]) * 8 ≤ 70368744177664))).bind fun _ => ((idx? h e).bind fun y13 => ((idx? a (y11,()).1).bind fun y14 => ((chk (f != 0)).bind fun _ => ((callT R n_Z17 o_Z17 [⟨yL,b⟩,⟨yL,(y13,()).1⟩,⟨yI,(Int.tmod (w64 (f - (y14,()).1)) f)⟩,⟨yI,f⟩]).bind fun r15 => (Z30.l0 R N n a r15.1 c d (w64 (e + (1:Int))) f g h (i ++ [(y12,()).1]))))))))) else ((callT R n_Z54 o_Z54 [⟨yL,b⟩]).bind fun r25 => some ⟨o_Z30,(i,r25.1,())⟩)) := (hw _ _).trans (by kernel_rfl)
theorem Z30.ev (R:Run) (N:Nat) (a0 a1:Int) (a2:vK) (a3:(List Int)):evFn E R sg_Z30 pol_Z30 F_Z30 N [⟨yI,a0⟩,⟨yI,a1⟩,⟨yK,a2⟩,⟨yL,a3⟩] = ((callT R n_Z57 o_Z57 [⟨yI,a0⟩,⟨yI,a1⟩,⟨yK,a2⟩]).bind fun r1 => (Z30.l0 R N N a3 a3 r1.1 (List.length r1.1:Int) (0:Int) a0 a1 a2 ([]:List Int))) := by kernel_rfl
theorem Z29.ev (R:Run) (N:Nat) (a0 a1:Int) (a2:vK) (a3:(List Int)):evFn E R sg_Z29 pol_Z29 F_Z29 N [⟨yI,a0⟩,⟨yI,a1⟩,⟨yK,a2⟩,⟨yL,a3⟩] = ((callT R n_Z30 o_Z30 [⟨yI,a0⟩,⟨yI,a1⟩,⟨yK,a2⟩,⟨yL,a3⟩]).bind fun r1 => some ⟨o_Z29,(r1.2.1,())⟩) := by kernel_rfl
theorem Z26.ev (R:Run) (N:Nat) (a0:vK) (a1:Int) (a2:(List Int)) (a3:vN) (a4:Int):evFn E R sg_Z26 pol_Z26 F_Z26 N [⟨yK,a0⟩,⟨yI,a1⟩,⟨yL,a2⟩,⟨yN,a3⟩,⟨yI,a4⟩] = ((callT R n_Z24 o_Z24 [⟨yK,a0⟩,⟨yI,a1⟩,⟨yL,a2⟩,⟨yN,a3⟩,⟨yI,a4⟩]).bind fun r1 => ((callT R n_Z25 o_Z25 [⟨yK,a0⟩,⟨yI,a1⟩,⟨yL,a2⟩,⟨yN,a3⟩,⟨yI,a4⟩]).bind fun r2 => ((callT R n_Z56 o_Z56 [⟨yI,r2.1⟩,⟨yI,r2.2.1⟩,⟨yI,r2.2.2.1⟩,⟨yL,r2.2.2.2.1⟩]).bind fun r3 => ((callT R n_Z45 o_Z45 [⟨yI,r1.1⟩,⟨yI,r1.2.1⟩,⟨yK,r1.2.2.1⟩,⟨yK,r3.1⟩]).bind fun r4 => some ⟨o_Z26,(r4.1,())⟩)))) := by kernel_rfl
theorem Z5.ev (R:Run) (N:Nat) (a0:vK) (a1:Int) (a2:(List Int)) (a3:vN) (a4:Int):evFn E R sg_Z5 pol_Z5 F_Z5 N [⟨yK,a0⟩,⟨yI,a1⟩,⟨yL,a2⟩,⟨yN,a3⟩,⟨yI,a4⟩] = ((callT R n_Z44 o_Z44 [⟨yK,a0⟩,⟨yI,a1⟩,⟨yL,a2⟩,⟨yN,a3⟩,⟨yI,a4⟩]).bind fun r1 => (bif (r1.1 != (0:Int)) then some ⟨o_Z5,(([]:List (List Int)),r1.1,())⟩ else ((callT R n_Z26 o_Z26 [⟨yK,a0⟩,⟨yI,a1⟩,⟨yL,a2⟩,⟨yN,a3⟩,⟨yI,a4⟩]).bind fun r2 => some ⟨o_Z5,(r2.1,(0:Int),())⟩))) := by kernel_rfl
noncomputable def Z77.l0 (R:Run) (N n:Nat) (a b:(List Int)) (e:Int):Option Dv := R.w (some ⟨(.c (.d yL a)::(.c (.d yL b)::(zd 3 (.c (.d yI e)::(zd 20 []))))),(zo 28 [])⟩) fun st => lC R pol_Z77 4 N [1,1,0,1,0,0] F_Z77 n st (kB R pol_Z77 0 (kS R pol_Z77 8 N [1,1,1] F_Z77 (kTop E sg_Z77 F_Z77)))
theorem Z77.l0_succ (R:Run) (hw:R.ok) (N n:Nat) (a b:(List Int)) (c:Int):Z77.l0 R N (n + 1) a b c = (bif (decide (c < (List.length a:Int))) then ((idx? a c).bind fun y4 => ((idx? b c).bind fun y5 => (bif ((y4,()).1 != (y5,()).1) then some ⟨o_Z77,(false,())⟩ else (Z77.l0 R N n a b (w64 (c + (1:Int))))))) else some ⟨o_Z77,(true,())⟩) := (hw _ _).trans (by kernel_rfl)
theorem Z77.ev (R:Run) (N:Nat) (a0 a1:(List Int)):evFn E R sg_Z77 pol_Z77 F_Z77 N [⟨yL,a0⟩,⟨yL,a1⟩] = (bif ((List.length a0:Int) != (List.length a1:Int)) then some ⟨o_Z77,(false,())⟩ else (Z77.l0 R N N a0 a1 (0:Int))) := by kernel_rfl
noncomputable def Z78.l0 (R:Run) (N n:Nat) (a b:vK) (e:Int):Option Dv := R.w (some ⟨(.c (.d yK a)::(.c (.d yK b)::(zd 3 (.c (.d yI e)::(zd 21 []))))),(zo 29 [])⟩) fun st => lC R pol_Z78 4 N [1,1,0,1,0,0] F_Z78 n st (kB R pol_Z78 0 (kS R pol_Z78 8 N [1,1,1] F_Z78 (kTop E sg_Z78 F_Z78)))
theorem Z78.l0_succ (R:Run) (hw:R.ok) (N n:Nat) (a b:vK) (c:Int):Z78.l0 R N (n + 1) a b c = (bif (decide (c < (List.length a:Int))) then ((idx? a c).bind fun y4 => ((idx? b c).bind fun y5 => ((callT R n_Z77 o_Z77 [⟨yL,(y4,()).1⟩,⟨yL,(y5,()).1⟩]).bind fun r6 => (bif (!r6.1) then some ⟨o_Z78,(false,())⟩ else (Z78.l0 R N n a b (w64 (c + (1:Int)))))))) else some ⟨o_Z78,(true,())⟩) := (hw _ _).trans (by kernel_rfl)
theorem Z78.ev (R:Run) (N:Nat) (a0 a1:vK):evFn E R sg_Z78 pol_Z78 F_Z78 N [⟨yK,a0⟩,⟨yK,a1⟩] = (bif ((List.length a0:Int) != (List.length a1:Int)) then some ⟨o_Z78,(false,())⟩ else (Z78.l0 R N N a0 a1 (0:Int))) := by kernel_rfl
theorem Z76.ev (R:Run) (N:Nat) (a0 a1:vK):evFn E R sg_Z76 pol_Z76 F_Z76 N [⟨yK,a0⟩,⟨yK,a1⟩] = ((callT R n_Z78 o_Z78 [⟨yK,a0⟩,⟨yK,a1⟩]).bind fun r1 => (bif (!r1.1) then some ⟨o_Z76,(false,())⟩ else some ⟨o_Z76,(true,())⟩)) := by kernel_rfl
theorem Z79.ev (R:Run) (N:Nat) (a0 a1 a2:Int) (a3:(List Int)) (a4 a5 a6:Int) (a7:(List Int)):evFn E R sg_Z79 pol_Z79 F_Z79 N [⟨yI,a0⟩,⟨yI,a1⟩,⟨yI,a2⟩,⟨yL,a3⟩,⟨yI,a4⟩,⟨yI,a5⟩,⟨yI,a6⟩,⟨yL,a7⟩] = (bif (a0 != a4) then some ⟨o_Z79,(false,())⟩ else (bif (a1 != a5) then some ⟨o_Z79,(false,())⟩ else (bif (a2 != a6) then some ⟨o_Z79,(false,())⟩ else ((callT R n_Z77 o_Z77 [⟨yL,a3⟩,⟨yL,a7⟩]).bind fun r1 => (bif (!r1.1) then some ⟨o_Z79,(false,())⟩ else some ⟨o_Z79,(true,())⟩))))) := by kernel_rfl
noncomputable def Z80.l0 (R:Run) (N n:Nat) (a b:vN) (e:Int):Option Dv := R.w (some ⟨(.c (.d yN a)::(.c (.d yN b)::(zd 3 (.c (.d yI e)::(zd 21 []))))),(zo 29 [])⟩) fun st => lC R pol_Z80 4 N [1,1,0,1,0,0] F_Z80 n st (kB R pol_Z80 0 (kS R pol_Z80 8 N [1,1,1] F_Z80 (kTop E sg_Z80 F_Z80)))
theorem Z80.l0_succ (R:Run) (hw:R.ok) (N n:Nat) (a b:vN) (c:Int):Z80.l0 R N (n + 1) a b c = (bif (decide (c < (List.length a:Int))) then ((idx? a c).bind fun y4 => ((idx? b c).bind fun y5 => ((callT R n_Z79 o_Z79 [⟨yI,y4.1⟩,⟨yI,y4.2.1⟩,⟨yI,y4.2.2.1⟩,⟨yL,y4.2.2.2.1⟩,⟨yI,y5.1⟩,⟨yI,y5.2.1⟩,⟨yI,y5.2.2.1⟩,⟨yL,y5.2.2.2.1⟩]).bind fun r6 => (bif (!r6.1) then some ⟨o_Z80,(false,())⟩ else (Z80.l0 R N n a b (w64 (c + (1:Int)))))))) else some ⟨o_Z80,(true,())⟩) := (hw _ _).trans (by kernel_rfl)
theorem Z80.ev (R:Run) (N:Nat) (a0 a1:vN):evFn E R sg_Z80 pol_Z80 F_Z80 N [⟨yN,a0⟩,⟨yN,a1⟩] = (bif ((List.length a0:Int) != (List.length a1:Int)) then some ⟨o_Z80,(false,())⟩ else (Z80.l0 R N N a0 a1 (0:Int))) := by kernel_rfl
theorem Z81.ev (R:Run) (N:Nat) (a0:vK) (a1:Int) (a2:(List Int)) (a3:vN) (a4:vK) (a5:Int) (a6:(List Int)) (a7:vN):evFn E R sg_Z81 pol_Z81 F_Z81 N [⟨yK,a0⟩,⟨yI,a1⟩,⟨yL,a2⟩,⟨yN,a3⟩,⟨yK,a4⟩,⟨yI,a5⟩,⟨yL,a6⟩,⟨yN,a7⟩] = ((callT R n_Z76 o_Z76 [⟨yK,a0⟩,⟨yK,a4⟩]).bind fun r1 => (bif (!r1.1) then some ⟨o_Z81,(false,())⟩ else (bif (a1 != a5) then some ⟨o_Z81,(false,())⟩ else ((callT R n_Z77 o_Z77 [⟨yL,a2⟩,⟨yL,a6⟩]).bind fun r2 => (bif (!r2.1) then some ⟨o_Z81,(false,())⟩ else ((callT R n_Z80 o_Z80 [⟨yN,a3⟩,⟨yN,a7⟩]).bind fun r3 => (bif (!r3.1) then some ⟨o_Z81,(false,())⟩ else some ⟨o_Z81,(true,())⟩))))))) := by kernel_rfl
noncomputable def Z85.l0 (R:Run) (N n:Nat) (a b:Int) (e:(List Int)):Option Dv := R.w (some ⟨(.c (.arr 19)::(.c (.d yI a)::(zd 3 (.c (.d yI b)::(zd 13 []))))),(zo 19 (some (.arr yI e true false true)::(none::[])))⟩) fun st => lC R pol_Z85 2 N [1,0,1,0,0] F_Z85 n st (kB R pol_Z85 0 (kS R pol_Z85 6 N [1,1] F_Z85 (kTop E sg_Z85 F_Z85)))
theorem Z85.l0_succ (R:Run) (hw:R.ok) (N n:Nat) (a b:Int) (c:(List Int)):Z85.l0 R N (n + 1) a b c = (bif (decide (b < (List.length c:Int))) then ((chk (decide (0 ≤ b) && decide (b < (List.length c:Int)))).bind fun _ => (Z85.l0 R N n (w64 (a + (1:Int))) (w64 (b + (1:Int))) (List.set c (Int.toNat b) a))) else some ⟨o_Z85,(a,c,())⟩) := (hw _ _).trans (by kernel_rfl)
theorem Z85.ev (R:Run) (N:Nat) (a0:(List Int)) (a1:Int):evFn E R sg_Z85 pol_Z85 F_Z85 N [⟨yL,a0⟩,⟨yI,a1⟩] = (Z85.l0 R N N a1 (0:Int) a0) := by kernel_rfl
theorem Z84.ev (R:Run) (N:Nat) (a0:vK) (a1:Int):evFn E R sg_Z84 pol_Z84 F_Z84 N [⟨yK,a0⟩,⟨yI,a1⟩] = ((callT R n_Z86 o_Z86 [⟨yK,a0⟩,⟨yI,a1⟩]).bind fun r1 => some ⟨o_Z84,(r1.1,r1.2.1,())⟩) := by kernel_rfl
theorem Z88.ev (R:Run) (N:Nat) (a0:vK) (a1:Int) (a2:(List Int)) (a3:vN) (a4:Int):evFn E R sg_Z88 pol_Z88 F_Z88 N [⟨yK,a0⟩,⟨yI,a1⟩,⟨yL,a2⟩,⟨yN,a3⟩,⟨yI,a4⟩] = ((callT R n_Z84 o_Z84 [⟨yK,a0⟩,⟨yI,a4⟩]).bind fun r1 => ((callT R n_Z85 o_Z85 [⟨yL,a2⟩,⟨yI,r1.1⟩]).bind fun r2 => ((callT R n_Z87 o_Z87 [⟨yN,a3⟩,⟨yI,r2.1⟩]).bind fun r3 => some ⟨o_Z88,(r3.1,r1.2.1,r2.2.1,r3.2.1,())⟩))) := by kernel_rfl
noncomputable def Z82.l0 (R:Run) (N n:Nat) (a:(List Int)) (b e:Int):Option Dv := R.w (some ⟨(.c (.d yL a)::(.c (.d yI b)::(zd 3 (.c (.d yI e)::(zd 15 []))))),(zo 23 [])⟩) fun st => lC R pol_Z82 2 N [1,0,1,0,0] F_Z82 n st (kB R pol_Z82 0 (kS R pol_Z82 7 N [1,1] F_Z82 (kTop E sg_Z82 F_Z82)))
theorem Z82.l0_succ (R:Run) (hw:R.ok) (N n:Nat) (a:(List Int)) (b c:Int):Z82.l0 R N (n + 1) a b c = (bif (decide (c < (List.length a:Int))) then ((idx? a c).bind fun y4 => (bif ((y4,()).1 != b) then some ⟨o_Z82,((-1:Int),())⟩ else (Z82.l0 R N n a (w64 (b + (1:Int))) (w64 (c + (1:Int)))))) else some ⟨o_Z82,(b,())⟩) := (hw _ _).trans (by kernel_rfl)
theorem Z82.ev (R:Run) (N:Nat) (a0:(List Int)) (a1:Int):evFn E R sg_Z82 pol_Z82 F_Z82 N [⟨yL,a0⟩,⟨yI,a1⟩] = (Z82.l0 R N N a0 a1 (0:Int)) := by kernel_rfl
noncomputable def Z83.l0 (R:Run) (N n:Nat) (a:vK) (b e:Int):Option Dv := R.w (some ⟨(.c (.d yK a)::(.c (.d yI b)::(zd 3 (.c (.d yI e)::(zd 15 []))))),(zo 23 [])⟩) fun st => lC R pol_Z83 2 N [1,0,1,0,0] F_Z83 n st (kB R pol_Z83 0 (kS R pol_Z83 7 N [1,1] F_Z83 (kTop E sg_Z83 F_Z83)))
theorem Z83.l0_succ (R:Run) (hw:R.ok) (N n:Nat) (a:vK) (b c:Int):Z83.l0 R N (n + 1) a b c = (bif (decide (c < (List.length a:Int))) then ((idx? a c).bind fun y4 => ((callT R n_Z82 o_Z82 [⟨yL,(y4,()).1⟩,⟨yI,b⟩]).bind fun r5 => (bif (decide (r5.1 < (0:Int))) then some ⟨o_Z83,((-1:Int),())⟩ else (Z83.l0 R N n a r5.1 (w64 (c + (1:Int))))))) else some ⟨o_Z83,(b,())⟩) := (hw _ _).trans (by kernel_rfl)
theorem Z83.ev (R:Run) (N:Nat) (a0:vK) (a1:Int):evFn E R sg_Z83 pol_Z83 F_Z83 N [⟨yK,a0⟩,⟨yI,a1⟩] = (Z83.l0 R N N a0 a1 (0:Int)) := by kernel_rfl
noncomputable def Z75.j2 (R:Run) (N:Nat) (a:Int) (b:Bool) (e:vK):Option Dv := R.w (some ⟨(zd 9 (.c (.arr 109)::(V.dead::(V.dead::(.c (.d yI a)::(zd 79 (.c (.d .bool b)::(zd 8 [])))))))),(zo 109 (some (.arr yL e true false false)::[]))⟩) fun st => eC R pol_Z75 N [1,1,1,1,1,1,1,1,1,1,1,1,1,1,1,1,1,1,1,0,1] F_Z75 st (kS R pol_Z75 27 N [1,1,1,1,1,1,1,1,1,1,1,1,1,1,1,1,1,1,1,1] F_Z75 (kTop E sg_Z75 F_Z75))
noncomputable def Z75.j1 (R:Run) (N:Nat) (a:Int) (b:vK) (e:Int) (f:Bool) (g:vK) (h:Int) (i:(List Int)) (j:vN) (k:vK):Option Dv := R.w (some ⟨(V.dead::(.c (.d yI a)::(.c (.box 2 0)::(zd 3 (.c (.d yK b)::(.c (.d yI e)::(V.dead::(.c (.arr 109)::(zd 55 (.c (.d .bool f)::(zd 35 []))))))))))),(none::(none::(some (.box [.d yK g,.d yI h,.d yL i,.d yN j] false false)::(zo 106 (some (.arr yL k true false false)::[])))))⟩) fun st => eC R pol_Z75 N [1,1,1,1,1,1,1,1,1,1,1,0,1] F_Z75 st (kS R pol_Z75 16 N [1,1,1,1,1,1,1,1,1,1,1,1] F_Z75 (kTop E sg_Z75 F_Z75))
noncomputable def Z75.j0 (R:Run) (N:Nat) (a:Int) (b:vK) (e f:Int) (g:Bool) (h:vK) (i:Int) (j:(List Int)) (k:vN) (l:Int) (m:vK) (o:(List Int)) (p:vN) (q:vK):Option Dv := R.w (some ⟨(V.dead::(.c (.d yI a)::(.c (.box 2 0)::(zd 3 (.c (.d yK b)::(.c (.d yI e)::(.c (.box 8 0)::(.c (.arr 109)::(.c (.d yI f)::(zd 33 (.c (.d .bool g)::(zd 56 [])))))))))))),(none::(none::(some (.box [.d yK h,.d yI i,.d yL j,.d yN k] false false)::(zo 5 (some (.box [.arr 106,.d yI l,.arr 107,.arr 108] false false)::(zo 97 (some (.arr yL m true false false)::(some (.arr yI o true false false)::(some (.arr (.st yM) p true false false)::(some (.arr yL q true false false)::[]))))))))))⟩) fun st => eC R pol_Z75 N [1,1,1,1,1,1,1,0,1] F_Z75 st (kS R pol_Z75 10 N [1,1,1,1,1,1,1,1] F_Z75 (kTop E sg_Z75 F_Z75))
theorem Z75.j2_eq (R:Run) (hw:R.ok) (N:Nat) (a:Int) (b:Bool) (c:vK):Z75.j2 R N a b c = (bif b then some ⟨o_Z75,(false,())⟩ else ((callT R n_Z83 o_Z83 [⟨yK,c⟩,⟨yI,(1:Int)⟩]).bind fun r41 => (bif (decide (r41.1 < (0:Int))) then some ⟨o_Z75,(false,())⟩ else (bif (r41.1 != a) then some ⟨o_Z75,(false,())⟩ else some ⟨o_Z75,(true,())⟩)))) := (hw _ _).trans (by kernel_rfl)
theorem Z75.j1_eq (R:Run) (hw:R.ok) (N:Nat) (a:Int) (b:vK) (c:Int) (d:Bool) (e:vK) (f:Int) (g:(List Int)) (h:vN) (i:vK):Z75.j1 R N a b c d e f g h i = (bif d then some ⟨o_Z75,(false,())⟩ else ((callT R n_Z86 o_Z86 [⟨yK,i⟩,⟨yI,(1:Int)⟩]).bind fun r33 => ((callT R n_Z83 o_Z83 [⟨yK,r33.2.1⟩,⟨yI,(1:Int)⟩]).bind fun r34 => (bif (decide (r34.1 < (0:Int))) then some ⟨o_Z75,(false,())⟩ else (bif (r34.1 != r33.1) then some ⟨o_Z75,(false,())⟩ else ((callT R n_Z100 o_Z100 [⟨yK,e⟩,⟨yI,f⟩,⟨yL,g⟩,⟨yN,h⟩]).bind fun r35 => ((callT R n_Z5 o_Z5 [⟨yK,r35.1⟩,⟨yI,r35.2.1⟩,⟨yL,r35.2.2.1⟩,⟨yN,r35.2.2.2.1⟩,⟨yI,a⟩]).bind fun r36 => ((callT R n_Z78 o_Z78 [⟨yK,r36.1⟩,⟨yK,b⟩]).bind fun r37 => (bif (!r37.1) then (Z75.j2 R N r33.1 true r33.2.1) else (Z75.j2 R N r33.1 (r36.2.1 != c) r33.2.1)))))))))) := (hw _ _).trans (by kernel_rfl)
theorem Z75.j0_eq (R:Run) (hw:R.ok) (N:Nat) (a:Int) (b:vK) (c d:Int) (e:Bool) (f:vK) (g:Int) (h:(List Int)) (i:vN) (j:Int) (k:vK) (l:(List Int)) (m:vN) (o:vK):Z75.j0 R N a b c d e f g h i j k l m o = (bif e then some ⟨o_Z75,(false,())⟩ else ((callT R n_Z100 o_Z100 [⟨yK,f⟩,⟨yI,g⟩,⟨yL,h⟩,⟨yN,i⟩]).bind fun r21 => ((callT R n_Z81 o_Z81 [⟨yK,k⟩,⟨yI,j⟩,⟨yL,l⟩,⟨yN,m⟩,⟨yK,r21.1⟩,⟨yI,r21.2.1⟩,⟨yL,r21.2.2.1⟩,⟨yN,r21.2.2.2.1⟩]).bind fun r22 => (bif (!r22.1) then some ⟨o_Z75,(false,())⟩ else ((callT R n_Z88 o_Z88 [⟨yK,k⟩,⟨yI,j⟩,⟨yL,l⟩,⟨yN,m⟩,⟨yI,(1:Int)⟩]).bind fun r23 => (bif (decide (r23.1 < (0:Int))) then (Z75.j1 R N a b c true f g h i o) else ((callT R n_Z78 o_Z78 [⟨yK,o⟩,⟨yK,b⟩]).bind fun r45 => (bif (!r45.1) then (Z75.j1 R N a b c true f g h i o) else (Z75.j1 R N a b c (d != c) f g h i o))))))))) := (hw _ _).trans (by kernel_rfl)
theorem Z75.ev (R:Run) (N:Nat) (a0:vK) (a1:Int) (a2:(List Int)) (a3:vN) (a4:Int):evFn E R sg_Z75 pol_Z75 F_Z75 N [⟨yK,a0⟩,⟨yI,a1⟩,⟨yL,a2⟩,⟨yN,a3⟩,⟨yI,a4⟩] = ((callT R n_Z94 o_Z94 [⟨yK,a0⟩,⟨yI,a1⟩,⟨yL,a2⟩,⟨yN,a3⟩,⟨yI,(1048576:Int)⟩]).bind fun r1 => (bif (decide (r1.1 < (0:Int))) then some ⟨o_Z75,(true,())⟩ else ((callT R n_Z100 o_Z100 [⟨yK,a0⟩,⟨yI,a1⟩,⟨yL,a2⟩,⟨yN,a3⟩]).bind fun r2 => ((callT R n_Z126 o_Z126 [⟨yK,r2.1⟩,⟨yI,r2.2.1⟩,⟨yL,r2.2.2.1⟩,⟨yN,r2.2.2.2.1⟩,⟨yI,a4⟩]).bind fun r3 => ((callT R n_Z100 o_Z100 [⟨yK,a0⟩,⟨yI,a1⟩,⟨yL,a2⟩,⟨yN,a3⟩]).bind fun r4 => ((callT R n_Z5 o_Z5 [⟨yK,r4.1⟩,⟨yI,r4.2.1⟩,⟨yL,r4.2.2.1⟩,⟨yN,r4.2.2.2.1⟩,⟨yI,a4⟩]).bind fun r5 => ((callT R n_Z78 o_Z78 [⟨yK,r5.1⟩,⟨yK,r3.1⟩]).bind fun r6 => (bif (!r6.1) then (Z75.j0 R N a4 r3.1 r3.2.1 r5.2.1 true a0 a1 a2 a3 r4.2.1 r4.1 r4.2.2.1 r4.2.2.2.1 r5.1) else (Z75.j0 R N a4 r3.1 r3.2.1 r5.2.1 (r5.2.1 != r3.2.1) a0 a1 a2 a3 r4.2.1 r4.1 r4.2.2.1 r4.2.2.2.1 r5.1))))))))) := by kernel_rfl
end VeT


open Go Go.Proofs Ve
set_option linter.unusedVariables false
set_option maxRecDepth 100000
namespace VeT
@[reducible] noncomputable def F_impl_independent_L : Func := Tryz.f96
@[reducible] def o_impl_independent_L : Ty := (.cons (.sl (.lab yL)) .nil)
noncomputable def sg_impl_independent_L : Sig := ⟨[(true, 3), (false, 1)], [], o_impl_independent_L, [(false, 1)], [.own], []⟩
noncomputable def pol_impl_independent_L : Pol := ⟨40, [(20, [some 20]), (28, [some 39])], [(3, ⟨[2, 5, 8, 9, 10], [2, 21], [(5, 21, (.lab yL), true)], [], [], [21], []⟩)], [], [], []⟩
/-! loop.example/g01005/impl.independent -/
noncomputable def impl_independent_L.l0 (R : Run) (N : Nat) (n : Nat) (t8__1 : (List (Value × (List Int)))) (t9__2 : Int) (t10__3 : Int) (v_4 : Int) (v_5 : Int) (v_6 : vK) (o21_7 : (List (Value × (List Int)))) : Option Dv := R.w (some ⟨(V.dead :: (V.dead :: (.c (.box 2 0) :: (V.dead :: (V.dead :: (.c (.arr 21) :: (V.dead :: (V.dead :: (.c (.d (.sl (.lab yL)) t8__1) :: (.c (.d yI t9__2) :: (.c (.d yI t10__3) :: (zd 24 [])))))))))))), (none :: (none :: (some (.box [.d yI v_4, .d yI v_5, .d yK v_6] false false) :: (zo 18 (some (.arr (.lab yL) o21_7 false false false) :: (zo 18 []))))))⟩) fun st => loopC (evCode E R pol_impl_independent_L N (sub [1, 1, 0, 1, 0, 0] (bodyOf F_impl_independent_L))) (maskAt R pol_impl_independent_L.loopM 3) n st (kBlk (maskAt R pol_impl_independent_L.blkM 0) 0 (kSeq (maskAt R pol_impl_independent_L.seqM 9) (evCode E R pol_impl_independent_L N (sub [1, 1, 1] (bodyOf F_impl_independent_L))) (kTop E sg_impl_independent_L F_impl_independent_L)))
theorem impl_independent_L.l0_succ (R : Run) (hw : R.ok) (N : Nat) (n : Nat) (t8__1 : (List (Value × (List Int)))) (t9__2 : Int) (t10__3 : Int) (v_4 : Int) (v_5 : Int) (v_6 : vK) (o21_7 : (List (Value × (List Int)))) : impl_independent_L.l0 R N (n + 1) t8__1 t9__2 t10__3 v_4 v_5 v_6 o21_7 = (bif (decide (t10__3 < t9__2)) then (Option.bind (idx? t8__1 t10__3) fun y8 => (Option.bind (callT R n_Z29 o_Z29 [⟨yI, v_4⟩, ⟨yI, v_5⟩, ⟨yK, v_6⟩, ⟨yL, (y8, ()).1.2⟩]) fun r9 => (bif (!r9.1) then (Option.bind (chk (decide ((List.length o21_7 + List.length [(y8, ()).1]) * 24 ≤ 70368744177664))) fun _ => (both (Option.bind (callT R n_Z31 o_Z31 [⟨yK, v_6⟩]) fun r10 => (Option.bind (chk (decide ((List.length r10.1 + List.length [(y8, ()).1.2]) * 24 ≤ 70368744177664))) fun _ => (Option.bind (callT R n_Z67 o_Z67 [⟨yI, v_4⟩, ⟨yI, v_5⟩, ⟨yK, (r10.1 ++ [(y8, ()).1.2])⟩]) fun r11 => (impl_independent_L.l0 R N n t8__1 t9__2 (w64 (t10__3 + (1 : Int))) r11.1 r11.2.1 r11.2.2.1 (o21_7 ++ [(y8, ()).1]))))) (Option.bind (callT R n_Z31 o_Z31 [⟨yK, v_6⟩]) fun r19 => (Option.bind (chk (decide ((List.length r19.1 + List.length [(y8, ()).1.2]) * 24 ≤ 70368744177664))) fun _ => (Option.bind (callT R n_Z67 o_Z67 [⟨yI, v_4⟩, ⟨yI, v_5⟩, ⟨yK, (r19.1 ++ [(y8, ()).1.2])⟩]) fun r20 => (impl_independent_L.l0 R N n t8__1 t9__2 (w64 (t10__3 + (1 : Int))) r20.1 r20.2.1 r20.2.2.1 (o21_7 ++ [(y8, ()).1]))))))) else (impl_independent_L.l0 R N n t8__1 t9__2 (w64 (t10__3 + (1 : Int))) v_4 v_5 v_6 o21_7)))) else some ⟨o_impl_independent_L, (o21_7, ())⟩) := (hw _ _).trans (by kernel_rfl)
theorem impl_independent_L.ev (R : Run) (N : Nat) (a0 : Int) (a1 : Int) (a2 : vK) (a3 : (List (Value × (List Int)))) : evFn E R sg_impl_independent_L pol_impl_independent_L F_impl_independent_L N [⟨yI, a0⟩, ⟨yI, a1⟩, ⟨yK, a2⟩, ⟨(.sl (.lab yL)), a3⟩] = (impl_independent_L.l0 R N N a3 (List.length a3 : Int) (0 : Int) a0 a1 a2 ([] : List (Value × (List Int)))) := by kernel_rfl
end VeT

set_option linter.unusedVariables false
set_option linter.unusedSimpArgs false

namespace VeT
section
open Go Go.Proofs Go.RowKit Go.Lib
set_option maxHeartbeats 2000000 in
set_option maxRecDepth 100000 in
theorem mark18_walk (b n c : Nat) (A : Option Addr) (hA : 0 < n → A = some ⟨b, 0, none⟩) (hnc : n ≤ c) (hn : n ≤ 9223372036854775807) (Inv : Nat → Int → World → Prop) (k : Int) (w : World) (h0 : Inv 0 k w)
    (step : ∀ i k' wr, i < n → Inv i k' wr → ∃ u, wr.cell? ⟨b, i, none⟩ = some u ∧ Calls Tryz.prog 24 #[u, .int .i64 k'] wr fun e w' => ∃ k2, e = .returned (.int .i64 k2) ∧ Inv (i + 1) k2 w') :
    Calls Tryz.prog 18 #[.slice A n c, .int .i64 k] w fun e w' => ∃ k2, e = .returned (.int .i64 k2) ∧ Inv n k2 w' := by
  go_enter Tryz.func18, Tryz.ntmps18
  go_wp2
  go_loopw [1, 5] (fun kv iv wr => ∃ i : Nat, ∃ k' : Int, i ≤ n ∧ iv = .int .i64 i ∧ kv = .int .i64 k' ∧ Inv i k' wr) (fun _ iv _ => n - (RowKit.intOf iv).toNat)
  case atStart => exact ⟨0, k, Nat.zero_le _, rfl, rfl, h0⟩
  case round =>
    obtain ⟨i, k', hi, rfl, rfl, hInv⟩ := hrel
    by_cases hlt : i < n
    · obtain rfl := hA (by omega)
      obtain ⟨u, hu, hcall⟩ := step i k' _ hlt hInv
      go_wp2_with (go_at_call 24; refine hcall.mono ?_; rintro e w' ⟨k2, rfl, hI2⟩)
      go_roundw
      case rel => exact ⟨i + 1, k2, by omega, by simp, rfl, hI2⟩
      case measure => simp [RowKit.intOf]; omega
    · obtain rfl : i = n := by omega
      go_wp2
      go_ret
      exact ⟨k', rfl, hInv⟩
open Ve in
theorem mark18_contract {R : Run} (hR : ∀ args dv, R.r 24 args = some dv → Contract Tryz.prog ⟨[(false, 1), (false, 1)], [.io true, .imm], oM, [(false, 1)], [], []⟩ 24 args dv) {args : List Dv} {dv : Dv} (h : pMarkSS 24 R args = some dv) :
    Contract Tryz.prog ⟨[(false, 1), (false, 1)], [.io true, .imm], .cons tI (.cons (.sl tL) .nil), [(false, 1)], [], []⟩ 18 args dv :=
  mark_contract mark18_walk hR h

set_option maxHeartbeats 4000000 in
set_option maxRecDepth 100000 in
theorem mark76_walk (b n c : Nat) (A : Option Addr) (hA : 0 < n → A = some ⟨b, 0, none⟩) (hnc : n ≤ c) (hn : n ≤ 9223372036854775807) (Inv : Nat → Int → World → Prop) (k : Int) (w : World) (h0 : Inv 0 k w)
    (hk : ∀ i k' wr, i < n → Inv i k' wr → 0 ≤ k' ∧ k' ≤ 4611686018427387904)
    (step : ∀ i k' wr, i < n → Inv i k' wr → ∃ v0 v1 v2 u, wr.cell? ⟨b, i * 4, none⟩ = some v0 ∧ wr.cell? ⟨b, i * 4 + 1, none⟩ = some v1 ∧ wr.cell? ⟨b, i * 4 + 2, none⟩ = some v2 ∧ wr.cell? ⟨b, i * 4 + 3, none⟩ = some u ∧
      wr.frozen? ⟨b, i * 4, none⟩ = false ∧ wr.frozen? ⟨b, i * 4 + 1, none⟩ = false ∧ wr.frozen? ⟨b, i * 4 + 2, none⟩ = false ∧
      Calls Tryz.prog 24 #[u, .int .i64 (k' + 1 + 1 + 1)] (((wr.setCell ⟨b, i * 4, none⟩ (.int .i64 k')).setCell ⟨b, i * 4 + 1, none⟩ (.int .i64 (k' + 1))).setCell ⟨b, i * 4 + 2, none⟩ (.int .i64 (k' + 1 + 1))) fun e w' => ∃ k2, e = .returned (.int .i64 k2) ∧ Inv (i + 1) k2 w') :
    Calls Tryz.prog 76 #[.slice A n c, .int .i64 k] w fun e w' => ∃ k2, e = .returned (.int .i64 k2) ∧ Inv n k2 w' := by
  go_enter Tryz.func76, Tryz.ntmps76
  go_wp2
  go_loopw [1, 5] (fun kv iv wr => ∃ i : Nat, ∃ k' : Int, i ≤ n ∧ iv = .int .i64 i ∧ kv = .int .i64 k' ∧ Inv i k' wr) (fun _ iv _ => n - (RowKit.intOf iv).toNat)
  case atStart => exact ⟨0, k, Nat.zero_le _, rfl, rfl, h0⟩
  case round =>
    obtain ⟨i, k', hi, rfl, rfl, hInv⟩ := hrel
    by_cases hlt : i < n
    · obtain rfl := hA (by omega)
      obtain ⟨v0, v1, v2, u, c0, c1, c2, c3, f0, f1, f2, hcall⟩ := step i k' _ hlt hInv
      have hkb := hk i k' _ hlt hInv
      have w1 : wrap64 (k' + 1) = k' + 1 := by unfold wrap64; omega
      have w2 : wrap64 (k' + 1 + 1) = k' + 1 + 1 := by unfold wrap64; omega
      have w3 : wrap64 (k' + 1 + 1 + 1) = k' + 1 + 1 + 1 := by unfold wrap64; omega
      go_wp2_with (go_at_call 24; refine hcall.mono ?_; rintro e w' ⟨k2, rfl, hI2⟩)
      go_roundw
      case rel => exact ⟨i + 1, k2, by omega, by simp, rfl, hI2⟩
      case measure => simp [RowKit.intOf]; omega
    · obtain rfl : i = n := by omega
      go_wp2
      go_ret
      exact ⟨k', rfl, hInv⟩
open Ve in
theorem mark76_contract {R : Run} (hR : ∀ args dv, R.r 24 args = some dv → Contract Tryz.prog ⟨[(false, 1), (false, 1)], [.io true, .imm], oM, [(false, 1)], [], []⟩ 24 args dv) {args : List Dv} {dv : Dv} (h : pMarkMS 24 R args = some dv) :
    Contract Tryz.prog ⟨[(false, 1), (false, 1)], [.io true, .imm], .cons tI (.cons (.sl tM) .nil), [(false, 1)], [], []⟩ 76 args dv :=
  markM_contract mark76_walk hR h

section
open Go Ve
theorem bothI_self {ρ : Type} {a : Option ρ} : Ve.both a a = a := by unfold Ve.both; split <;> first | rfl | (rename_i h; exact absurd rfl h)
theorem indep96_walk (R : Run) (hw : R.ok) (N : Nat) (l : List (Value × List Int)) (hl : l.length ≤ 1048576) : ∀ (suf pre : List (Value × List Int)) (n : Nat) (p W : Int) (B : List (List Int)) (ms : List Bool) (acc : List (Value × List Int)),
    l = pre ++ suf → acc.length ≤ pre.length → indV n_Z29 n_Z31 n_Z67 R p W B (suf.map Prod.snd) = some ms →
    impl_independent_L.l0 R N (suf.length + 1 + n) l (l.length : Int) (pre.length : Int) p W B acc = some ⟨o_impl_independent_L, (acc ++ sel ms suf, ())⟩ := by
  intro suf
  induction suf with
  | nil =>
    intro pre n p W B ms acc hlp hacc h
    obtain rfl := Option.some.inj h
    rw [show ([] : List (Value × List Int)).length + 1 + n = n + 1 by simp; omega, impl_independent_L.l0_succ R hw]
    have : decide ((pre.length : Int) < (l.length : Int)) = false := decide_eq_false (by rw [hlp]; simp)
    rw [this]
    simp [sel]
  | cons y suf ih =>
    intro pre n p W B ms acc hlp hacc h
    obtain ⟨v, x⟩ := y
    have hlen : pre.length < l.length := by rw [hlp]; simp
    rw [show ((v, x) :: suf).length + 1 + n = (suf.length + 1 + n) + 1 by simp; omega, impl_independent_L.l0_succ R hw]
    have h1 : decide ((pre.length : Int) < (l.length : Int)) = true := decide_eq_true (by omega)
    have h2 : idx? l (pre.length : Int) = some (v, x) := by
      unfold idx?
      rw [decide_eq_true (by omega : (0 : Int) ≤ (pre.length : Int)), cond_true, Int.toNat_natCast, hlp]; simp
    have hc : ∀ {k : Nat}, k ≤ 1048576 → chk (decide ((k + 1) * 24 ≤ 70368744177664)) = some () := fun {k} hk => by
      unfold chk; rw [decide_eq_true (by omega)]; rfl
    rw [h1, cond_true, h2, Option.bind_some]
    simp only [List.map_cons, indV] at h
    obtain ⟨r, hr, h⟩ := Option.bind_eq_some_iff.1 h
    have hr' : callT R n_Z29 o_Z29 [⟨yI, p⟩, ⟨yI, W⟩, ⟨yK, B⟩, ⟨yL, x⟩] = some r := hr
    show Option.bind (callT R n_Z29 o_Z29 [⟨yI, p⟩, ⟨yI, W⟩, ⟨yK, B⟩, ⟨yL, x⟩]) _ = _
    rw [hr', Option.bind_some]
    obtain ⟨r, ⟨⟩⟩ := r
    have hpre : (pre ++ [(v, x)]).length = pre.length + 1 := by simp
    have hw1 : w64 ((pre.length : Int) + 1) = ((pre ++ [(v, x)]).length : Int) := by rw [hpre, w64_succ (by omega)]
    rw [hw1]
    cases r with
    | true =>
      obtain ⟨ms', hm, rfl⟩ := Option.map_eq_some_iff.1 h
      have := ih (pre ++ [(v, x)]) n p W B ms' acc (by rw [hlp]; simp) (by omega) hm
      exact this
    | false =>
      have h : (callT R n_Z31 o_Z31 [⟨yK, B⟩]).bind (fun b => (chk (decide ((b.1.length + 1) * 24 ≤ 70368744177664))).bind fun _ =>
        (callT R n_Z67 o_Z67 [⟨.int .i64, p⟩, ⟨.int .i64, W⟩, ⟨yK, b.1 ++ [x]⟩]).bind fun s => (indV n_Z29 n_Z31 n_Z67 R s.1 s.2.1 s.2.2.1 (suf.map Prod.snd)).map (true :: ·)) = some ms := h
      obtain ⟨b, hb, h⟩ := Option.bind_eq_some_iff.1 h
      obtain ⟨u, hu, h⟩ := Option.bind_eq_some_iff.1 h
      obtain ⟨s, hs, h⟩ := Option.bind_eq_some_iff.1 h
      obtain ⟨ms', hm, rfl⟩ := Option.map_eq_some_iff.1 h
      have := ih (pre ++ [(v, x)]) n s.1 s.2.1 s.2.2.1 ms' (acc ++ [(v, x)]) (by rw [hlp]; simp) (by simp; omega) hm
      have hca := hc (k := acc.length) (by omega)
      show Option.bind (chk (decide ((List.length acc + 1) * 24 ≤ 70368744177664))) _ = _
      rw [hca, Option.bind_some]
      refine bothI_self.trans ?_
      rw [hb, Option.bind_some]
      show Option.bind (chk (decide ((List.length b.1 + 1) * 24 ≤ 70368744177664))) _ = _
      rw [hu, Option.bind_some]
      show Option.bind (callT R n_Z67 o_Z67 [⟨.int .i64, p⟩, ⟨.int .i64, W⟩, ⟨yK, b.1 ++ [x]⟩]) _ = _
      rw [hs, Option.bind_some]
      refine this.trans ?_
      simp [sel, List.append_assoc]

theorem indep96_contract (hE : EnvOk E) {R : Run} (hR : RunOk E R) (hw : R.ok) (hRw : ∀ o f, R.w o f = o.bind f) {args : List Dv} {dv : Dv} (h : pIndep n_Z29 n_Z31 n_Z67 R args = some dv) :
    Contract E.P ⟨[(true, 3), (false, 1)], [.imm, .imm, .imm, .take true], .cons tLL .nil, [(false, 1)], [.deep], []⟩ 96 args dv := by
  match args, h with
  | [d0, d1, d2, d3], h =>
    simp only [pIndep, Option.bind_eq_some_iff] at h
    obtain ⟨p, h0, W, h1, B, h2, xs, h3, h⟩ := h
    obtain rfl := to_some h0
    obtain rfl := to_some h1
    obtain rfl := to_some h2
    obtain rfl := to_some h3
    split at h
    · rename_i hx
      obtain ⟨ms, hm, rfl⟩ := Option.map_eq_some_iff.1 h
      refine lab_contract fun vs hv => ?_
      have hz : (vs.zip xs).map Prod.snd = xs := zip_snd hv
      have hl : (vs.zip xs).length = xs.length := by rw [List.length_zip, hv, Nat.min_self]
      refine fn_sound hE hR hRw (pol := pol_impl_independent_L) (fn := F_impl_independent_L) (N := xs.length + 1) (by kernel_rfl) ?_
      refine (impl_independent_L.ev R _ p W B (vs.zip xs)).trans ?_
      have := indep96_walk R hw (xs.length + 1) (vs.zip xs) (by omega) (vs.zip xs) [] 0 p W B ms [] rfl (Nat.le_refl _) (by rw [hz]; exact hm)
      rw [hl] at this ⊢
      exact this
    · cases h
end

set_option maxHeartbeats 2000000 in
set_option maxRecDepth 100000 in
theorem grow225_room (base : Option Addr) (l c n : Nat) (w : World) (hlc : l ≤ c) (hc63 : c ≤ 9223372036854775807) (hn63 : n ≤ 9223372036854775807) (hroom : l + n ≤ c) :
    Calls Tryz.prog 225 #[.slice base l c, .int .i64 n] w fun e w' => e = .returned (.slice base l c) ∧ w' = w := by
  have h1 : ¬ ((n : Int) < 0) := by omega
  have h2 : wrap64 ((c : Int) - (l : Int)) = (c : Int) - (l : Int) := by unfold wrap64; omega
  have h3 : wrap64 ((n : Int) - ((c : Int) - (l : Int))) = (n : Int) - ((c : Int) - (l : Int)) := by unfold wrap64; omega
  have h4 : ¬ ((n : Int) - ((c : Int) - (l : Int)) > 0) := by omega
  go_enter Tryz.func225, Tryz.ntmps225
  go_wp2
  go_ret
  exact ⟨rfl, rfl⟩

set_option maxHeartbeats 4000000 in
set_option maxRecDepth 100000 in
theorem grow225_grow (i0 : TypeInfo) (z : Value) (hi0 : Tryz.prog.info? 2 = some i0) (hz0 : i0.zero = some z) (hs0 : 0 < i0.size)
    (base : Option Addr) (l c n : Nat) (cs : List Value) (w : World) (hlc : l ≤ c) (hroom : c < l + n) (hbig : (l + n) * i0.bytes ≤ 140737488355328) (h63 : l + n ≤ 4611686018427387904)
    (hcl : cs.length = c * i0.size) (hnil : base = none → c = 0) (hcs : ∀ a, base = some a → ∀ (j : Nat) v, cs[j]? = some v → w.cell? (a.add j) = some v) :
    Calls Tryz.prog 225 #[.slice base l c, .int .i64 n] w fun e w' =>
      e = .returned (.slice (some ⟨w.heap.size, 0, none⟩) l (grownCap w (l + n) c 2)) ∧
      w' = w.drew.alloc (.cells (cs.toArray ++ Builtin.zeroCells z.cells (l + n - c) ++ Builtin.zeroCells z.cells (grownCap w (l + n) c 2 - (l + n))) 2) := by
  have h1 : ¬ ((n : Int) < 0) := by omega
  have h2 : wrap64 ((c : Int) - (l : Int)) = (c : Int) - (l : Int) := by unfold wrap64; omega
  have h3 : wrap64 ((n : Int) - ((c : Int) - (l : Int))) = (n : Int) - ((c : Int) - (l : Int)) := by unfold wrap64; omega
  have h4 : (n : Int) - ((c : Int) - (l : Int)) > 0 := by omega
  have z25 : ∀ w, (Go.sizeOf 2).run Tryz.prog w = .ok i0.size w := fun w => by simp [Go.sizeOf, typeInfo, hi0]
  have hck : c + (l + n - c) = l + n := by omega
  have hold : (Builtin.firstCells i0.size c (.slice base c c)).run Tryz.prog w.drew = .ok cs.toArray w.drew := by
    cases base with
    | none =>
      have h0 := hnil rfl
      subst h0
      have hc0 : cs = [] := List.length_eq_zero_iff.1 (by simpa using hcl)
      rw [hc0]
      exact run_firstCells_none w.drew i0.size 0 0 0
    | some a => exact run_firstCells_some w.drew i0.size c a c c cs hcl (fun j v hj => hcs a rfl j v hj)
  have hrz : ∀ ty, (Builtin.append_ #[35, 3] ty #[.slice base c c, .int .i64 ((n : Int) - ((c : Int) - (l : Int)))]).run Tryz.prog w =
      .ok (.slice (some ⟨w.heap.size, 0, none⟩) (l + n) (grownCap w (l + n) c 2)) (w.drew.alloc (.cells (cs.toArray ++ Builtin.zeroCells z.cells (l + n - c) ++ Builtin.zeroCells z.cells (grownCap w (l + n) c 2 - (l + n))) 2)) := fun ty => by
    have h := Lib.run_append_grow_zeros w 35 3 ty 2 i0 z .i64 .i64 Tryz.underlying35 Tryz.underlying3 hi0 hz0 base c c cs hold (l + n - c) (by omega) hs0 (by omega) (by omega)
      (by have : (l + n - c) * i0.bytes ≤ (l + n) * i0.bytes := Nat.mul_le_mul_right _ (by omega)
          omega)
      (by rw [hck]; exact growslice_fits hroom hbig)
    rw [hck] at h
    rw [show (n : Int) - ((c : Int) - (l : Int)) = ((l + n - c : Nat) : Int) by omega]
    exact h
  have hGn : l + n ≤ grownCap w (l + n) c 2 := grownCap_ge w _ _ _
  obtain ⟨G, hG⟩ : ∃ G, G = grownCap w (l + n) c 2 := ⟨_, rfl⟩
  rw [← hG] at hrz hGn ⊢
  have hG63 : G ≤ 9223372036854775807 := by
    have := grownCap_le_maxLen w (l + n) c 2 (by unfold maxLen; omega)
    rw [← hG] at this
    unfold maxLen at this
    omega
  clear hold hck hG hcs hcl
  go_enter Tryz.func225, Tryz.ntmps225
  cases base with
  | none =>
    have h0 := hnil rfl
    subst h0
    obtain rfl : l = 0 := by omega
    go_wp2_with (at_builtin; refine Lib.wpList_append_run _ rfl _ _ _ _ rfl _ _ rfl rfl _ _ (hrz _) ?_)
    all_goals (go_ret; exact ⟨rfl, rfl⟩)
  | some a =>
    obtain ⟨ab, ao, asp⟩ := a
    go_wp2_with (at_builtin; refine Lib.wpList_append_run _ rfl _ _ _ _ rfl _ _ rfl rfl _ _ (hrz _) ?_)
    all_goals (go_ret; exact ⟨rfl, rfl⟩)
theorem grow225_info : (Tryz.prog.info? 2).any (fun i => i.size == Ve.Ty.size yI && i.zero.any (fun z => z.cells.size == Ve.Ty.size yI) && decide (i.bytes ≤ 64 * Ve.Ty.size yI) && decide (0 < i.bytes) && decide (0 < Ve.Ty.size yI)) = true := by kernel_rfl
open Ve in
theorem grow225_contract (R : Run) {args : List Dv} {dv : Dv} (h : pGrow yI R args = some dv) :
    Contract Tryz.prog ⟨[(false, 1), (false, 1)], [.take true, .imm], .cons yL .nil, [(false, 1)], [.deep], []⟩ 225 args dv := by
  have hi := grow225_info
  cases hi0 : Tryz.prog.info? 2 with
  | none => rw [hi0] at hi; cases hi
  | some i0 =>
    rw [hi0] at hi
    simp only [Option.any_some, Bool.and_eq_true, decide_eq_true_eq, beq_iff_eq] at hi
    obtain ⟨⟨⟨⟨h1, h2⟩, h3⟩, h4⟩, h5⟩ := hi
    cases hz : i0.zero with
    | none => rw [hz] at h2; cases h2
    | some z =>
      rw [hz] at h2
      exact grow_contract h1 (by simpa using h2) h5 h3 h4 grow225_room (fun base l c n cs w a1 a2 a3 a4 a5 a6 a7 => grow225_grow i0 z hi0 hz (by rw [h1]; exact h5) base l c n cs w a1 a2 a3 a4 a5 a6 a7) R h

end
section
open Go Ve
theorem primL_eq : primL = (List.range 286).map fun i => bif Nat.beq i 18 then some (pMarkSS n_Z85) else bif Nat.beq i 76 then some (pMarkMS n_Z85) else bif Nat.beq i 96 then some (pIndep n_Z29 n_Z31 n_Z67) else bif Nat.beq i 225 then some (pGrow yI) else none := by kernel_rfl
theorem prims_ok (hE : EnvOk E) : ∀ f p, E.prim f = some p → ∀ r, RunOk E (mkR r) → ∀ args dv sg, E.sig f = some sg → p (mkR r) args = some dv → Contract E.P sg f args dv := by
  intro f p hp r hr args dv sg hsg h
  have hp : primL.getD f none = some p := hp
  rw [primL_eq, List.getD_eq_getElem?_getD, List.getElem?_map] at hp
  by_cases hf : f < 286
  · rw [List.getElem?_range hf] at hp
    simp only [Option.map_some, Option.getD_some] at hp
    by_cases h18 : f = 18
    · subst h18
      obtain rfl : (pMarkSS n_Z85) = p := Option.some.inj hp
      obtain rfl : sg_Z86 = sg := Option.some.inj (sig_laws_markInt64SS_eq.symm.trans hsg)
      exact mark18_contract (fun args dv h => hr _ args dv _ sig_laws_markInt64S_eq h) h
    rw [show Nat.beq f 18 = false from Bool.eq_false_iff.2 fun h => h18 (Nat.eq_of_beq_eq_true h), cond_false] at hp
    by_cases h76 : f = 76
    · subst h76
      obtain rfl : (pMarkMS n_Z85) = p := Option.some.inj hp
      obtain rfl : sg_Z87 = sg := Option.some.inj (sig_laws_markMatrixS_eq.symm.trans hsg)
      exact mark76_contract (fun args dv h => hr _ args dv _ sig_laws_markInt64S_eq h) h
    rw [show Nat.beq f 76 = false from Bool.eq_false_iff.2 fun h => h76 (Nat.eq_of_beq_eq_true h), cond_false] at hp
    by_cases h96 : f = 96
    · subst h96
      obtain rfl : (pIndep n_Z29 n_Z31 n_Z67) = p := Option.some.inj hp
      obtain rfl : sg_Z45 = sg := Option.some.inj (sig_impl_independent_eq.symm.trans hsg)
      exact indep96_contract hE hr (mkR_ok _) (fun _ _ => rfl) h
    rw [show Nat.beq f 96 = false from Bool.eq_false_iff.2 fun h => h96 (Nat.eq_of_beq_eq_true h), cond_false] at hp
    by_cases h225 : f = 225
    · subst h225
      obtain rfl : (pGrow yI) = p := Option.some.inj hp
      obtain rfl : sg_Z115 = sg := Option.some.inj (sig_slices_Grow_Sint64_int64_eq.symm.trans hsg)
      exact grow225_contract _ h
    rw [show Nat.beq f 225 = false from Bool.eq_false_iff.2 fun h => h225 (Nat.eq_of_beq_eq_true h), cond_false] at hp
    cases hp
  · rw [List.getElem?_eq_none (by simpa using hf)] at hp
    cases hp
end
end VeT

open Go Go.Proofs Ve
set_option linter.unusedVariables false
set_option linter.unusedSimpArgs false
namespace VeT

theorem szInt64S_ret (x : (List Int)) (l : Int) (hx : Wf yL x) (h0 : 0 ≤ l) (h1 : l ≤ 1048576) :
    ∃ r : Int, Ret E n_Z90 [⟨yL, x⟩, ⟨.int .i64, l⟩] ⟨o_Z90, (r, ())⟩ ∧ (0 ≤ r → r ≤ l ∧ Sm yL x) := by
  have hx1 : x.length ≤ maxLen := hx.1
  rw [maxLen_eq] at hx1
  have hw : w64 (l - x.length) = l - x.length := w64_small (by omega) (by omega)
  by_cases hc : l - (x.length : Int) < 0
  · refine ⟨-1, Evt.succ (Evt.of fun n => ?_), fun h => by omega⟩
    rw [run_Z90, Z90.ev, hw, decide_eq_true hc]; rfl
  · refine ⟨l - x.length, Evt.succ (Evt.of fun n => ?_), fun h => ⟨by omega, by omega, fun x _ => trivial⟩⟩
    rw [run_Z90, Z90.ev, hw, decide_eq_false hc]; rfl

theorem toInt64S_ret (x : (List Int)) (hx : Sm yL x) : Ret E n_Z96 [⟨yL, x⟩] ⟨o_Z96, (x, ())⟩ := by
  have hx1 : x.length ≤ 1048576 := hx.1
  have hl := fill_loop (a := x) (L := fun m n i o => Z96.l0 (mkR (run E m)) m n x i o) (z := List.replicate (Int.toNat (List.length x : Int)) (0 : Int)) (r := some ⟨o_Z96, (x, ())⟩) (by simp) (fun k o hk ho => by
      refine Evt.of fun m n => ?_
      show Z96.l0 _ _ _ _ _ _ = _
      rw [Z96.l0_succ _ mk_ok, decide_eq_true (show (k : Int) < x.length by omega), cond_true, idx_lt hk]
      simp only [Option.bind_some]
      rw [chk_true (by simp; omega), w64_succ (by omega), Int.toNat_natCast]) (Evt.of fun m n => by
      show Z96.l0 _ _ _ _ _ _ = _
      rw [Z96.l0_succ _ mk_ok, decide_eq_false (by omega), cond_false])
  refine Evt.succ (hl.mono fun n h => ?_)
  rw [run_Z96, Z96.ev, chk_true (by simp; omega)]
  exact h

theorem eqInt64S_ret (x y : (List Int)) (hx : Sm yL x) : ∃ b : Bool, Ret E n_Z77 [⟨yL, x⟩, ⟨yL, y⟩] ⟨o_Z77, (b, ())⟩ ∧ (b = true ↔ x = y) := by
  have hx1 : x.length ≤ 1048576 := hx.1
  by_cases hl : x.length = y.length
  · have hd : ((x.length : Int) != (y.length : Int)) = false := by simp [hl]
    obtain ⟨h1, h2⟩ := same_loop (a := x) (b := y) (L := fun m n i (_ : Unit) => Z77.l0 (mkR (run E m)) m n x y i) (fun u v => u = v) (rt := some ⟨o_Z77, (true, ())⟩) (rf := some ⟨o_Z77, (false, ())⟩) hl.symm
      (fun k h h' hne => Evt.of fun m n => by
      show Z77.l0 _ _ _ _ _ _ = _
      rw [Z77.l0_succ _ mk_ok, decide_eq_true (show (k : Int) < x.length by omega), cond_true, idx_lt h, idx_lt h']
      have : (x[k] != y[k]) = true := by simpa using hne
      simp only [Option.bind_some, this, cond_true])
      (fun k h h' he => Evt.of fun m n => by
      show Z77.l0 _ _ _ _ _ _ = _
      rw [Z77.l0_succ _ mk_ok, decide_eq_true (show (k : Int) < x.length by omega), cond_true, idx_lt h, idx_lt h']
      have : (x[k] != y[k]) = false := by simpa using he
      simp only [Option.bind_some, this, cond_false]
      rw [w64_succ (by omega)])
      (Evt.of fun m n => by
      show Z77.l0 _ _ _ _ _ _ = _
      rw [Z77.l0_succ _ mk_ok, decide_eq_false (by omega), cond_false])
    by_cases he : x = y
    · refine ⟨true, Evt.succ ((h1 (by subst he; intros; rfl)).mono fun n h => ?_), by simp [he]⟩
      rw [run_Z77, Z77.ev, hd, cond_false]
      exact h
    · refine ⟨false, Evt.succ ((h2 fun hh => he (List.ext_getElem hl hh)).mono fun n h => ?_), by simp [he]⟩
      rw [run_Z77, Z77.ev, hd, cond_false]
      exact h
  · have hd : ((x.length : Int) != (y.length : Int)) = true := by simp; omega
    refine ⟨false, Evt.succ (Evt.of fun n => ?_), ⟨fun h => (nomatch h), fun h => absurd (congrArg List.length h) hl⟩⟩
    rw [run_Z77, Z77.ev, hd, cond_true]

theorem szInt64SS_ret (x : vK) (l : Int) (hx : Wf yK x) (h0 : 0 ≤ l) (h1 : l ≤ 1048576) :
    ∃ r : Int, Ret E n_Z91 [⟨yK, x⟩, ⟨.int .i64, l⟩] ⟨o_Z91, (r, ())⟩ ∧ (0 ≤ r → r ≤ l ∧ Sm yK x) := by
  have hx1 : x.length ≤ maxLen := hx.1
  rw [maxLen_eq] at hx1
  have hw : w64 (l - x.length) = l - x.length := w64_small (by omega) (by omega)
  by_cases hc : l - (x.length : Int) < 0
  · refine ⟨-1, Evt.succ (Evt.of fun n => ?_), fun h => by omega⟩
    rw [run_Z91, Z91.ev, hw, decide_eq_true hc]; rfl
  · obtain ⟨r, hr, hs⟩ := sz_loop (xs := x) (L := fun m n i left => Z91.l0 (mkR (run E m)) m n x left i) (ret := fun r => some ⟨o_Z91, (r, ())⟩) (fun x => Sm yL x) (fun k left hk hl0 hl1 => by
      obtain ⟨r, hr, hs⟩ := szInt64S_ret x[k] left (hx.2 _ (List.getElem_mem hk)) hl0 hl1
      refine ⟨r, hs, hr.mono fun m h n => ?_⟩
      show Z91.l0 _ _ _ _ _ _ = _
      rw [Z91.l0_succ _ mk_ok, decide_eq_true (show (k : Int) < x.length by omega), cond_true, idx_lt hk]
      simp only [Option.bind_some, callT_of h]
      rw [w64_succ (by omega)]) (fun left => Evt.of fun m n => by
      show Z91.l0 _ _ _ _ _ _ = _
      rw [Z91.l0_succ _ mk_ok, decide_eq_false (by omega), cond_false]) (l - x.length) (by omega) (by omega)
    refine ⟨r, Evt.succ (hr.mono fun n h => ?_), fun h => ⟨by have := (hs h).1; omega, by omega, (hs h).2⟩⟩
    rw [run_Z91, Z91.ev, hw, decide_eq_false hc]
    exact h

theorem toInt64SS_ret (x : vK) (hx : Sm yK x) : Ret E n_Z97 [⟨yK, x⟩] ⟨o_Z97, (x, ())⟩ := by
  have hx1 : x.length ≤ 1048576 := hx.1
  have hl := fill_loop (a := x) (L := fun m n i o => Z97.l0 (mkR (run E m)) m n x i o) (z := List.replicate (Int.toNat (List.length x : Int)) ([] : List Int)) (r := some ⟨o_Z97, (x, ())⟩) (by simp) (fun k o hk ho => by
      have hr := toInt64S_ret x[k] (hx.2 _ (List.getElem_mem hk))
      refine hr.mono fun m h n => ?_
      show Z97.l0 _ _ _ _ _ _ = _
      rw [Z97.l0_succ _ mk_ok, decide_eq_true (show (k : Int) < x.length by omega), cond_true, idx_lt hk]
      simp only [Option.bind_some, callT_of h]
      rw [chk_true (by simp; omega), w64_succ (by omega), Int.toNat_natCast]) (Evt.of fun m n => by
      show Z97.l0 _ _ _ _ _ _ = _
      rw [Z97.l0_succ _ mk_ok, decide_eq_false (by omega), cond_false])
  refine Evt.succ (hl.mono fun n h => ?_)
  rw [run_Z97, Z97.ev, chk_true (by simp; omega)]
  exact h

theorem eqInt64SS_ret (x y : vK) (hx : Sm yK x) : ∃ b : Bool, Ret E n_Z78 [⟨yK, x⟩, ⟨yK, y⟩] ⟨o_Z78, (b, ())⟩ ∧ (b = true ↔ x = y) := by
  have hx1 : x.length ≤ 1048576 := hx.1
  by_cases hl : x.length = y.length
  · have hd : ((x.length : Int) != (y.length : Int)) = false := by simp [hl]
    obtain ⟨h1, h2⟩ := same_loop (a := x) (b := y) (L := fun m n i (_ : Unit) => Z78.l0 (mkR (run E m)) m n x y i) (fun u v => u = v) (rt := some ⟨o_Z78, (true, ())⟩) (rf := some ⟨o_Z78, (false, ())⟩) hl.symm
      (fun k h h' hne => by
      obtain ⟨b, hb, hbe⟩ := eqInt64S_ret x[k] y[k] (hx.2 _ (List.getElem_mem h))
      have hb0 : b = false := by cases b <;> simp_all
      subst hb0
      refine hb.mono fun m hm n => ?_
      show Z78.l0 _ _ _ _ _ _ = _
      rw [Z78.l0_succ _ mk_ok, decide_eq_true (show (k : Int) < x.length by omega), cond_true, idx_lt h, idx_lt h']
      simp only [Option.bind_some, callT_of hm, Bool.not_false, Bool.not_true, cond_true, cond_false])
      (fun k h h' he => by
      obtain ⟨b, hb, hbe⟩ := eqInt64S_ret x[k] y[k] (hx.2 _ (List.getElem_mem h))
      have hb0 : b = true := by cases b <;> simp_all
      subst hb0
      refine hb.mono fun m hm n => ?_
      show Z78.l0 _ _ _ _ _ _ = _
      rw [Z78.l0_succ _ mk_ok, decide_eq_true (show (k : Int) < x.length by omega), cond_true, idx_lt h, idx_lt h']
      simp only [Option.bind_some, callT_of hm, Bool.not_false, Bool.not_true, cond_true, cond_false]
      rw [w64_succ (by omega)])
      (Evt.of fun m n => by
      show Z78.l0 _ _ _ _ _ _ = _
      rw [Z78.l0_succ _ mk_ok, decide_eq_false (by omega), cond_false])
    by_cases he : x = y
    · refine ⟨true, Evt.succ ((h1 (by subst he; intros; rfl)).mono fun n h => ?_), by simp [he]⟩
      rw [run_Z78, Z78.ev, hd, cond_false]
      exact h
    · refine ⟨false, Evt.succ ((h2 fun hh => he (List.ext_getElem hl hh)).mono fun n h => ?_), by simp [he]⟩
      rw [run_Z78, Z78.ev, hd, cond_false]
      exact h
  · have hd : ((x.length : Int) != (y.length : Int)) = true := by simp; omega
    refine ⟨false, Evt.succ (Evt.of fun n => ?_), ⟨fun h => (nomatch h), fun h => absurd (congrArg List.length h) hl⟩⟩
    rw [run_Z78, Z78.ev, hd, cond_true]

theorem szComplex_ret (x : (vK × Unit)) (l : Int) (hx : Wf (.st (.cons yK .nil)) x) (h0 : 0 ≤ l) (h1 : l ≤ 1048576) :
    ∃ r : Int, Ret E n_Z89 [⟨yK, x.1⟩, ⟨.int .i64, l⟩] ⟨o_Z89, (r, ())⟩ ∧ (0 ≤ r → r ≤ l ∧ Sm (.st (.cons yK .nil)) x) := by
  obtain ⟨r0, hr0, hs0⟩ := szInt64SS_ret x.1 l hx.1 (by omega) (by omega)
  by_cases hc0 : r0 < 0
  · refine ⟨-1, Evt.succ (hr0.mono fun n e0 => ?_), fun h => by omega⟩
    rw [run_Z89, Z89.ev]
    simp only [Option.bind_some, cond_true, cond_false, callT_of e0, decide_eq_true hc0]
  have hb0 := hs0 (by omega)
  refine ⟨r0, Evt.succ (hr0.mono fun n e0 => ?_), fun h => ⟨by omega, ?_⟩⟩
  · skip
    rw [run_Z89, Z89.ev]
    simp only [Option.bind_some, cond_true, cond_false, callT_of e0, decide_eq_false hc0]
  · exact ⟨hb0.2, trivial⟩

theorem toComplex_ret (x : (vK × Unit)) (hx : Sm (.st (.cons yK .nil)) x) : Ret E n_Z95 [⟨yK, x.1⟩] ⟨o_Z95, x⟩ := by
  have hr0 := toInt64SS_ret x.1 hx.1
  refine Evt.succ (hr0.mono fun n e0 => ?_)
  rw [run_Z95, Z95.ev]
  simp only [Option.bind_some, callT_of e0]

theorem eqComplex_ret (x y : (vK × Unit)) (hx : Sm (.st (.cons yK .nil)) x) : ∃ b : Bool, Ret E n_Z76 [⟨yK, x.1⟩, ⟨yK, y.1⟩] ⟨o_Z76, (b, ())⟩ ∧ (b = true ↔ x = y) := by
  obtain ⟨b0, hr0, hb0⟩ := eqInt64SS_ret x.1 y.1 hx.1
  refine ⟨b0, Evt.succ (hr0.mono fun n e0 => ?_), ?_⟩
  · skip
    rw [run_Z76, Z76.ev]
    simp only [Option.bind_some, callT_of e0]
    clear hx hr0 e0 hb0
    cases b0 <;> rfl
  · obtain ⟨x0, _⟩ := x
    obtain ⟨y0, _⟩ := y
    simp only [Bool.and_eq_true, decide_eq_true_eq, hb0, Prod.mk.injEq, and_true]
    try simp only [and_assoc]

theorem szMatrix_ret (x : vM) (l : Int) (hx : Wf (.st yM) x) (h0 : 0 ≤ l) (h1 : l ≤ 1048576) :
    ∃ r : Int, Ret E n_Z92 [⟨yI, x.1⟩, ⟨yI, x.2.1⟩, ⟨yI, x.2.2.1⟩, ⟨yL, x.2.2.2.1⟩, ⟨.int .i64, l⟩] ⟨o_Z92, (r, ())⟩ ∧ (0 ≤ r → r ≤ l ∧ Sm (.st yM) x) := by
  obtain ⟨r0, hr0, hs0⟩ := szInt64S_ret x.2.2.2.1 l hx.2.2.2.1 (by omega) (by omega)
  by_cases hc0 : r0 < 0
  · refine ⟨-1, Evt.succ (hr0.mono fun n e0 => ?_), fun h => by omega⟩
    rw [run_Z92, Z92.ev]
    simp only [Option.bind_some, cond_true, cond_false, callT_of e0, decide_eq_true hc0]
  have hb0 := hs0 (by omega)
  refine ⟨r0, Evt.succ (hr0.mono fun n e0 => ?_), fun h => ⟨by omega, ?_⟩⟩
  · skip
    rw [run_Z92, Z92.ev]
    simp only [Option.bind_some, cond_true, cond_false, callT_of e0, decide_eq_false hc0]
  · exact ⟨trivial, trivial, trivial, hb0.2, trivial⟩

theorem toMatrix_ret (x : vM) (hx : Sm (.st yM) x) : Ret E n_Z98 [⟨yI, x.1⟩, ⟨yI, x.2.1⟩, ⟨yI, x.2.2.1⟩, ⟨yL, x.2.2.2.1⟩] ⟨o_Z98, x⟩ := by
  have hr0 := toInt64S_ret x.2.2.2.1 hx.2.2.2.1
  refine Evt.succ (hr0.mono fun n e0 => ?_)
  rw [run_Z98, Z98.ev]
  simp only [Option.bind_some, callT_of e0]

theorem eqMatrix_ret (x y : vM) (hx : Sm (.st yM) x) : ∃ b : Bool, Ret E n_Z79 [⟨yI, x.1⟩, ⟨yI, x.2.1⟩, ⟨yI, x.2.2.1⟩, ⟨yL, x.2.2.2.1⟩, ⟨yI, y.1⟩, ⟨yI, y.2.1⟩, ⟨yI, y.2.2.1⟩, ⟨yL, y.2.2.2.1⟩] ⟨o_Z79, (b, ())⟩ ∧ (b = true ↔ x = y) := by
  obtain ⟨b0, hr0, hb0⟩ := eqInt64S_ret x.2.2.2.1 y.2.2.2.1 hx.2.2.2.1
  refine ⟨decide (x.1 = y.1) && decide (x.2.1 = y.2.1) && decide (x.2.2.1 = y.2.2.1) && b0, Evt.succ (hr0.mono fun n e0 => ?_), ?_⟩
  · skip
    rw [run_Z79, Z79.ev]
    simp only [Option.bind_some, callT_of e0]
    simp only [show (x.1 != y.1) = !decide (x.1 = y.1) from rfl]
    generalize decide (x.1 = y.1) = d0
    simp only [show (x.2.1 != y.2.1) = !decide (x.2.1 = y.2.1) from rfl]
    generalize decide (x.2.1 = y.2.1) = d1
    simp only [show (x.2.2.1 != y.2.2.1) = !decide (x.2.2.1 = y.2.2.1) from rfl]
    generalize decide (x.2.2.1 = y.2.2.1) = d2
    clear hx hr0 e0 hb0
    cases d0 <;> cases d1 <;> cases d2 <;> cases b0 <;> rfl
  · obtain ⟨x0, x1, x2, x3, _⟩ := x
    obtain ⟨y0, y1, y2, y3, _⟩ := y
    simp only [Bool.and_eq_true, decide_eq_true_eq, hb0, Prod.mk.injEq, and_true]
    try simp only [and_assoc]

theorem szMatrixS_ret (x : vN) (l : Int) (hx : Wf yN x) (h0 : 0 ≤ l) (h1 : l ≤ 1048576) :
    ∃ r : Int, Ret E n_Z93 [⟨yN, x⟩, ⟨.int .i64, l⟩] ⟨o_Z93, (r, ())⟩ ∧ (0 ≤ r → r ≤ l ∧ Sm yN x) := by
  have hx1 : x.length ≤ maxLen := hx.1
  rw [maxLen_eq] at hx1
  have hw : w64 (l - x.length) = l - x.length := w64_small (by omega) (by omega)
  by_cases hc : l - (x.length : Int) < 0
  · refine ⟨-1, Evt.succ (Evt.of fun n => ?_), fun h => by omega⟩
    rw [run_Z93, Z93.ev, hw, decide_eq_true hc]; rfl
  · obtain ⟨r, hr, hs⟩ := sz_loop (xs := x) (L := fun m n i left => Z93.l0 (mkR (run E m)) m n x left i) (ret := fun r => some ⟨o_Z93, (r, ())⟩) (fun x => Sm (.st yM) x) (fun k left hk hl0 hl1 => by
      obtain ⟨r, hr, hs⟩ := szMatrix_ret x[k] left (hx.2 _ (List.getElem_mem hk)) hl0 hl1
      refine ⟨r, hs, hr.mono fun m h n => ?_⟩
      show Z93.l0 _ _ _ _ _ _ = _
      rw [Z93.l0_succ _ mk_ok, decide_eq_true (show (k : Int) < x.length by omega), cond_true, idx_lt hk]
      simp only [Option.bind_some, callT_of h]
      rw [w64_succ (by omega)]) (fun left => Evt.of fun m n => by
      show Z93.l0 _ _ _ _ _ _ = _
      rw [Z93.l0_succ _ mk_ok, decide_eq_false (by omega), cond_false]) (l - x.length) (by omega) (by omega)
    refine ⟨r, Evt.succ (hr.mono fun n h => ?_), fun h => ⟨by have := (hs h).1; omega, by omega, (hs h).2⟩⟩
    rw [run_Z93, Z93.ev, hw, decide_eq_false hc]
    exact h

theorem toMatrixS_ret (x : vN) (hx : Sm yN x) : Ret E n_Z99 [⟨yN, x⟩] ⟨o_Z99, (x, ())⟩ := by
  have hx1 : x.length ≤ 1048576 := hx.1
  have hl := fill_loop (a := x) (L := fun m n i o => Z99.l0 (mkR (run E m)) m n x i o) (z := List.replicate (Int.toNat (List.length x : Int)) ((0 : Int), (0 : Int), (0 : Int), ([] : List Int), ())) (r := some ⟨o_Z99, (x, ())⟩) (by simp) (fun k o hk ho => by
      have hr := toMatrix_ret x[k] (hx.2 _ (List.getElem_mem hk))
      refine hr.mono fun m h n => ?_
      show Z99.l0 _ _ _ _ _ _ = _
      rw [Z99.l0_succ _ mk_ok, decide_eq_true (show (k : Int) < x.length by omega), cond_true, idx_lt hk]
      simp only [Option.bind_some, callT_of h]
      rw [chk_true (by simp; omega), w64_succ (by omega), Int.toNat_natCast]) (Evt.of fun m n => by
      show Z99.l0 _ _ _ _ _ _ = _
      rw [Z99.l0_succ _ mk_ok, decide_eq_false (by omega), cond_false])
  refine Evt.succ (hl.mono fun n h => ?_)
  rw [run_Z99, Z99.ev, chk_true (by simp; omega)]
  exact h

theorem eqMatrixS_ret (x y : vN) (hx : Sm yN x) : ∃ b : Bool, Ret E n_Z80 [⟨yN, x⟩, ⟨yN, y⟩] ⟨o_Z80, (b, ())⟩ ∧ (b = true ↔ x = y) := by
  have hx1 : x.length ≤ 1048576 := hx.1
  by_cases hl : x.length = y.length
  · have hd : ((x.length : Int) != (y.length : Int)) = false := by simp [hl]
    obtain ⟨h1, h2⟩ := same_loop (a := x) (b := y) (L := fun m n i (_ : Unit) => Z80.l0 (mkR (run E m)) m n x y i) (fun u v => u = v) (rt := some ⟨o_Z80, (true, ())⟩) (rf := some ⟨o_Z80, (false, ())⟩) hl.symm
      (fun k h h' hne => by
      obtain ⟨b, hb, hbe⟩ := eqMatrix_ret x[k] y[k] (hx.2 _ (List.getElem_mem h))
      have hb0 : b = false := by cases b <;> simp_all
      subst hb0
      refine hb.mono fun m hm n => ?_
      show Z80.l0 _ _ _ _ _ _ = _
      rw [Z80.l0_succ _ mk_ok, decide_eq_true (show (k : Int) < x.length by omega), cond_true, idx_lt h, idx_lt h']
      simp only [Option.bind_some, callT_of hm, Bool.not_false, Bool.not_true, cond_true, cond_false])
      (fun k h h' he => by
      obtain ⟨b, hb, hbe⟩ := eqMatrix_ret x[k] y[k] (hx.2 _ (List.getElem_mem h))
      have hb0 : b = true := by cases b <;> simp_all
      subst hb0
      refine hb.mono fun m hm n => ?_
      show Z80.l0 _ _ _ _ _ _ = _
      rw [Z80.l0_succ _ mk_ok, decide_eq_true (show (k : Int) < x.length by omega), cond_true, idx_lt h, idx_lt h']
      simp only [Option.bind_some, callT_of hm, Bool.not_false, Bool.not_true, cond_true, cond_false]
      rw [w64_succ (by omega)])
      (Evt.of fun m n => by
      show Z80.l0 _ _ _ _ _ _ = _
      rw [Z80.l0_succ _ mk_ok, decide_eq_false (by omega), cond_false])
    by_cases he : x = y
    · refine ⟨true, Evt.succ ((h1 (by subst he; intros; rfl)).mono fun n h => ?_), by simp [he]⟩
      rw [run_Z80, Z80.ev, hd, cond_false]
      exact h
    · refine ⟨false, Evt.succ ((h2 fun hh => he (List.ext_getElem hl hh)).mono fun n h => ?_), by simp [he]⟩
      rw [run_Z80, Z80.ev, hd, cond_false]
      exact h
  · have hd : ((x.length : Int) != (y.length : Int)) = true := by simp; omega
    refine ⟨false, Evt.succ (Evt.of fun n => ?_), ⟨fun h => (nomatch h), fun h => absurd (congrArg List.length h) hl⟩⟩
    rw [run_Z80, Z80.ev, hd, cond_true]

theorem szSheaf_ret (x : vS) (l : Int) (hx : Wf (.st yS) x) (h0 : 0 ≤ l) (h1 : l ≤ 1048576) :
    ∃ r : Int, Ret E n_Z94 [⟨yK, x.1⟩, ⟨yI, x.2.1⟩, ⟨yL, x.2.2.1⟩, ⟨yN, x.2.2.2.1⟩, ⟨.int .i64, l⟩] ⟨o_Z94, (r, ())⟩ ∧ (0 ≤ r → r ≤ l ∧ Sm (.st yS) x) := by
  obtain ⟨r0, hr0, hs0⟩ := szComplex_ret (x.1, ()) l ⟨hx.1, trivial⟩ (by omega) (by omega)
  by_cases hc0 : r0 < 0
  · refine ⟨-1, Evt.succ (hr0.mono fun n e0 => ?_), fun h => by omega⟩
    rw [run_Z94, Z94.ev]
    simp only [Option.bind_some, cond_true, cond_false, callT_of e0, decide_eq_true hc0]
  have hb0 := hs0 (by omega)
  obtain ⟨r1, hr1, hs1⟩ := szInt64S_ret x.2.2.1 r0 hx.2.2.1 (by omega) (by omega)
  by_cases hc1 : r1 < 0
  · refine ⟨-1, Evt.succ ((hr0.and hr1).mono fun n hh => ?_), fun h => by omega⟩
    obtain ⟨e0, e1⟩ := hh
    rw [run_Z94, Z94.ev]
    simp only [Option.bind_some, cond_true, cond_false, callT_of e0, callT_of e1, decide_eq_false hc0, decide_eq_true hc1]
  have hb1 := hs1 (by omega)
  obtain ⟨r2, hr2, hs2⟩ := szMatrixS_ret x.2.2.2.1 r1 hx.2.2.2.1 (by omega) (by omega)
  by_cases hc2 : r2 < 0
  · refine ⟨-1, Evt.succ (((hr0.and hr1).and hr2).mono fun n hh => ?_), fun h => by omega⟩
    obtain ⟨⟨e0, e1⟩, e2⟩ := hh
    rw [run_Z94, Z94.ev]
    simp only [Option.bind_some, cond_true, cond_false, callT_of e0, callT_of e1, callT_of e2, decide_eq_false hc0, decide_eq_false hc1, decide_eq_true hc2]
  have hb2 := hs2 (by omega)
  refine ⟨r2, Evt.succ (((hr0.and hr1).and hr2).mono fun n hh => ?_), fun h => ⟨by omega, ?_⟩⟩
  · obtain ⟨⟨e0, e1⟩, e2⟩ := hh
    rw [run_Z94, Z94.ev]
    simp only [Option.bind_some, cond_true, cond_false, callT_of e0, callT_of e1, callT_of e2, decide_eq_false hc0, decide_eq_false hc1, decide_eq_false hc2]
  · exact ⟨hb0.2.1, trivial, hb1.2, hb2.2, trivial⟩

theorem toSheaf_ret (x : vS) (hx : Sm (.st yS) x) : Ret E n_Z100 [⟨yK, x.1⟩, ⟨yI, x.2.1⟩, ⟨yL, x.2.2.1⟩, ⟨yN, x.2.2.2.1⟩] ⟨o_Z100, x⟩ := by
  have hr0 := toComplex_ret (x.1, ()) ⟨hx.1, trivial⟩
  have hr1 := toInt64S_ret x.2.2.1 hx.2.2.1
  have hr2 := toMatrixS_ret x.2.2.2.1 hx.2.2.2.1
  refine Evt.succ (((hr0.and hr1).and hr2).mono fun n hh => ?_)
  obtain ⟨⟨e0, e1⟩, e2⟩ := hh
  rw [run_Z100, Z100.ev]
  simp only [Option.bind_some, callT_of e0, callT_of e1, callT_of e2]

theorem eqSheaf_ret (x y : vS) (hx : Sm (.st yS) x) : ∃ b : Bool, Ret E n_Z81 [⟨yK, x.1⟩, ⟨yI, x.2.1⟩, ⟨yL, x.2.2.1⟩, ⟨yN, x.2.2.2.1⟩, ⟨yK, y.1⟩, ⟨yI, y.2.1⟩, ⟨yL, y.2.2.1⟩, ⟨yN, y.2.2.2.1⟩] ⟨o_Z81, (b, ())⟩ ∧ (b = true ↔ x = y) := by
  obtain ⟨b0, hr0, hb0⟩ := eqComplex_ret (x.1, ()) (y.1, ()) ⟨hx.1, trivial⟩
  obtain ⟨b1, hr1, hb1⟩ := eqInt64S_ret x.2.2.1 y.2.2.1 hx.2.2.1
  obtain ⟨b2, hr2, hb2⟩ := eqMatrixS_ret x.2.2.2.1 y.2.2.2.1 hx.2.2.2.1
  refine ⟨b0 && decide (x.2.1 = y.2.1) && b1 && b2, Evt.succ (((hr0.and hr1).and hr2).mono fun n hh => ?_), ?_⟩
  · obtain ⟨⟨e0, e1⟩, e2⟩ := hh
    rw [run_Z81, Z81.ev]
    simp only [Option.bind_some, callT_of e0, callT_of e1, callT_of e2]
    simp only [show (x.2.1 != y.2.1) = !decide (x.2.1 = y.2.1) from rfl]
    generalize decide (x.2.1 = y.2.1) = d1
    clear hx hr0 e0 hb0 hr1 e1 hb1 hr2 e2 hb2
    cases b0 <;> cases d1 <;> cases b1 <;> cases b2 <;> rfl
  · obtain ⟨x0, x1, x2, x3, _⟩ := x
    obtain ⟨y0, y1, y2, y3, _⟩ := y
    simp only [Bool.and_eq_true, decide_eq_true_eq, hb0, hb1, hb2, Prod.mk.injEq, and_true]
    try simp only [and_assoc]

end VeT

open Go Go.Proofs Ve
set_option linter.unusedVariables false
set_option linter.unusedSimpArgs false
namespace VeT

theorem IndexFunc_SSint64_Sint64_impl_ValidComplex_1_ret (s : List (List Int)) (c : ((vK × Unit) × (Int × Unit) × Unit)) (p : (List Int) → Bool) (hs : s.length ≤ 1048576) (hp : ∀ x ∈ s, Ret E n_Z11 [⟨yL, x⟩, ⟨(.ptr (.cons yK .nil)), c.1⟩, ⟨(.ptr (.cons yI .nil)), c.2.1⟩] ⟨o_Z11, (p x, ())⟩) :
    Ret E n_Z116 [⟨yK, s⟩, ⟨(.fn n_Z11 (.cons (.ptr (.cons yK .nil)) (.cons (.ptr (.cons yI .nil)) .nil))), c⟩] ⟨o_Z116, (idxf p s, ())⟩ := by
  obtain ⟨o, h1, h2, h3⟩ := find_loop 1 (L := fun φ n k => Z117.l0 (mkR (run E (φ 0))) (φ 0) n s c (s.length : Int) k) (len := s.length) (fun k => ∃ h : k < s.length, p s[k] = true) (fun o => some ⟨o_Z116, (o2i o, ())⟩) (fun _ _ _ _ => rfl) (fun k hk hP => by
      obtain ⟨_, hP⟩ := hP
      simp only [Z117.l0_succ _ mk_ok]
      refine ev_t (decide_eq_true (by omega)) (ev_bind (idx_lt hk) (ev_call (hp _ (List.getElem_mem hk)) (ev_t hP ev_rfl)))) (fun k q hk hP ih => by
      simp only [Z117.l0_succ _ mk_ok]
      refine ev_t (decide_eq_true (by omega)) (ev_bind (idx_lt hk) (ev_call (hp _ (List.getElem_mem hk)) (ev_f (Bool.eq_false_iff.2 fun h => hP ⟨hk, h⟩) ?_)))
      rw [w64_succ (by omega)]; exact ih) (by
      simp only [Z117.l0_succ _ mk_ok]
      exact ev_f (decide_eq_false (by omega)) ev_rfl)
  rw [idxf_of h1 h2] at h3
  refine ret_of ?_
  simp only [run_Z116, Z117.ev]
  exact Ev.start (p := fun φ n => Z117.l0 (mkR (run E (φ 0))) (φ 0) n s c (s.length : Int) 0 = _) 1 h3 (fun _ _ _ h => h)

theorem IndexFunc_SSint64_Sint64_impl_eliminate_1_ret (s : List (List Int)) (c : ((Int × Unit) × Unit)) (p : (List Int) → Bool) (hs : s.length ≤ 1048576) (hp : ∀ x ∈ s, Ret E n_Z35 [⟨yL, x⟩, ⟨(.ptr (.cons yI .nil)), c.1⟩] ⟨o_Z35, (p x, ())⟩) :
    Ret E n_Z116 [⟨yK, s⟩, ⟨(.fn n_Z35 (.cons (.ptr (.cons yI .nil)) .nil)), c⟩] ⟨o_Z116, (idxf p s, ())⟩ := by
  obtain ⟨o, h1, h2, h3⟩ := find_loop 1 (L := fun φ n k => Z118.l0 (mkR (run E (φ 0))) (φ 0) n s c (s.length : Int) k) (len := s.length) (fun k => ∃ h : k < s.length, p s[k] = true) (fun o => some ⟨o_Z116, (o2i o, ())⟩) (fun _ _ _ _ => rfl) (fun k hk hP => by
      obtain ⟨_, hP⟩ := hP
      simp only [Z118.l0_succ _ mk_ok]
      refine ev_t (decide_eq_true (by omega)) (ev_bind (idx_lt hk) (ev_call (hp _ (List.getElem_mem hk)) (ev_t hP ev_rfl)))) (fun k q hk hP ih => by
      simp only [Z118.l0_succ _ mk_ok]
      refine ev_t (decide_eq_true (by omega)) (ev_bind (idx_lt hk) (ev_call (hp _ (List.getElem_mem hk)) (ev_f (Bool.eq_false_iff.2 fun h => hP ⟨hk, h⟩) ?_)))
      rw [w64_succ (by omega)]; exact ih) (by
      simp only [Z118.l0_succ _ mk_ok]
      exact ev_f (decide_eq_false (by omega)) ev_rfl)
  rw [idxf_of h1 h2] at h3
  refine ret_of ?_
  simp only [run_Z116, Z118.ev]
  exact Ev.start (p := fun φ n => Z118.l0 (mkR (run E (φ 0))) (φ 0) n s c (s.length : Int) 0 = _) 1 h3 (fun _ _ _ h => h)

theorem IndexFunc_Sint64_int64_impl_ValidSimplex_1_ret (s : List Int) (p : Int → Bool) (hs : s.length ≤ 1048576) (hp : ∀ x ∈ s, Ret E n_Z16 [⟨yI, x⟩] ⟨o_Z16, (p x, ())⟩) :
    Ret E n_Z119 [⟨yL, s⟩, ⟨(.fn n_Z16 .nil), ()⟩] ⟨o_Z119, (idxf p s, ())⟩ := by
  obtain ⟨o, h1, h2, h3⟩ := find_loop 1 (L := fun φ n k => Z120.l0 (mkR (run E (φ 0))) (φ 0) n s (s.length : Int) k) (len := s.length) (fun k => ∃ h : k < s.length, p s[k] = true) (fun o => some ⟨o_Z119, (o2i o, ())⟩) (fun _ _ _ _ => rfl) (fun k hk hP => by
      obtain ⟨_, hP⟩ := hP
      simp only [Z120.l0_succ _ mk_ok]
      refine ev_t (decide_eq_true (by omega)) (ev_bind (idx_lt hk) (ev_call (hp _ (List.getElem_mem hk)) (ev_t hP ev_rfl)))) (fun k q hk hP ih => by
      simp only [Z120.l0_succ _ mk_ok]
      refine ev_t (decide_eq_true (by omega)) (ev_bind (idx_lt hk) (ev_call (hp _ (List.getElem_mem hk)) (ev_f (Bool.eq_false_iff.2 fun h => hP ⟨hk, h⟩) ?_)))
      rw [w64_succ (by omega)]; exact ih) (by
      simp only [Z120.l0_succ _ mk_ok]
      exact ev_f (decide_eq_false (by omega)) ev_rfl)
  rw [idxf_of h1 h2] at h3
  refine ret_of ?_
  simp only [run_Z119, Z120.ev]
  exact Ev.start (p := fun φ n => Z120.l0 (mkR (run E (φ 0))) (φ 0) n s (s.length : Int) 0 = _) 1 h3 (fun _ _ _ h => h)

theorem IndexFunc_Sint64_int64_impl_areElements_1_ret (s : List Int) (c : ((Int × Unit) × Unit)) (p : Int → Bool) (hs : s.length ≤ 1048576) (hp : ∀ x ∈ s, Ret E n_Z20 [⟨yI, x⟩, ⟨(.ptr (.cons yI .nil)), c.1⟩] ⟨o_Z20, (p x, ())⟩) :
    Ret E n_Z119 [⟨yL, s⟩, ⟨(.fn n_Z20 (.cons (.ptr (.cons yI .nil)) .nil)), c⟩] ⟨o_Z119, (idxf p s, ())⟩ := by
  obtain ⟨o, h1, h2, h3⟩ := find_loop 1 (L := fun φ n k => Z121.l0 (mkR (run E (φ 0))) (φ 0) n s c (s.length : Int) k) (len := s.length) (fun k => ∃ h : k < s.length, p s[k] = true) (fun o => some ⟨o_Z119, (o2i o, ())⟩) (fun _ _ _ _ => rfl) (fun k hk hP => by
      obtain ⟨_, hP⟩ := hP
      simp only [Z121.l0_succ _ mk_ok]
      refine ev_t (decide_eq_true (by omega)) (ev_bind (idx_lt hk) (ev_call (hp _ (List.getElem_mem hk)) (ev_t hP ev_rfl)))) (fun k q hk hP ih => by
      simp only [Z121.l0_succ _ mk_ok]
      refine ev_t (decide_eq_true (by omega)) (ev_bind (idx_lt hk) (ev_call (hp _ (List.getElem_mem hk)) (ev_f (Bool.eq_false_iff.2 fun h => hP ⟨hk, h⟩) ?_)))
      rw [w64_succ (by omega)]; exact ih) (by
      simp only [Z121.l0_succ _ mk_ok]
      exact ev_f (decide_eq_false (by omega)) ev_rfl)
  rw [idxf_of h1 h2] at h3
  refine ret_of ?_
  simp only [run_Z119, Z121.ev]
  exact Ev.start (p := fun φ n => Z121.l0 (mkR (run E (φ 0))) (φ 0) n s c (s.length : Int) 0 = _) 1 h3 (fun _ _ _ h => h)

theorem IndexFunc_Sint64_int64_impl_areStalks_1_ret (s : List Int) (p : Int → Bool) (hs : s.length ≤ 1048576) (hp : ∀ x ∈ s, Ret E n_Z22 [⟨yI, x⟩] ⟨o_Z22, (p x, ())⟩) :
    Ret E n_Z119 [⟨yL, s⟩, ⟨(.fn n_Z22 .nil), ()⟩] ⟨o_Z119, (idxf p s, ())⟩ := by
  obtain ⟨o, h1, h2, h3⟩ := find_loop 1 (L := fun φ n k => Z122.l0 (mkR (run E (φ 0))) (φ 0) n s (s.length : Int) k) (len := s.length) (fun k => ∃ h : k < s.length, p s[k] = true) (fun o => some ⟨o_Z119, (o2i o, ())⟩) (fun _ _ _ _ => rfl) (fun k hk hP => by
      obtain ⟨_, hP⟩ := hP
      simp only [Z122.l0_succ _ mk_ok]
      refine ev_t (decide_eq_true (by omega)) (ev_bind (idx_lt hk) (ev_call (hp _ (List.getElem_mem hk)) (ev_t hP ev_rfl)))) (fun k q hk hP ih => by
      simp only [Z122.l0_succ _ mk_ok]
      refine ev_t (decide_eq_true (by omega)) (ev_bind (idx_lt hk) (ev_call (hp _ (List.getElem_mem hk)) (ev_f (Bool.eq_false_iff.2 fun h => hP ⟨hk, h⟩) ?_)))
      rw [w64_succ (by omega)]; exact ih) (by
      simp only [Z122.l0_succ _ mk_ok]
      exact ev_f (decide_eq_false (by omega)) ev_rfl)
  rw [idxf_of h1 h2] at h3
  refine ret_of ?_
  simp only [run_Z119, Z122.ev]
  exact Ev.start (p := fun φ n => Z122.l0 (mkR (run E (φ 0))) (φ 0) n s (s.length : Int) 0 = _) 1 h3 (fun _ _ _ h => h)

theorem IndexFunc_Sint64_int64_impl_isZero_1_ret (s : List Int) (p : Int → Bool) (hs : s.length ≤ 1048576) (hp : ∀ x ∈ s, Ret E n_Z55 [⟨yI, x⟩] ⟨o_Z55, (p x, ())⟩) :
    Ret E n_Z119 [⟨yL, s⟩, ⟨(.fn n_Z55 .nil), ()⟩] ⟨o_Z119, (idxf p s, ())⟩ := by
  obtain ⟨o, h1, h2, h3⟩ := find_loop 1 (L := fun φ n k => Z123.l0 (mkR (run E (φ 0))) (φ 0) n s (s.length : Int) k) (len := s.length) (fun k => ∃ h : k < s.length, p s[k] = true) (fun o => some ⟨o_Z119, (o2i o, ())⟩) (fun _ _ _ _ => rfl) (fun k hk hP => by
      obtain ⟨_, hP⟩ := hP
      simp only [Z123.l0_succ _ mk_ok]
      refine ev_t (decide_eq_true (by omega)) (ev_bind (idx_lt hk) (ev_call (hp _ (List.getElem_mem hk)) (ev_t hP ev_rfl)))) (fun k q hk hP ih => by
      simp only [Z123.l0_succ _ mk_ok]
      refine ev_t (decide_eq_true (by omega)) (ev_bind (idx_lt hk) (ev_call (hp _ (List.getElem_mem hk)) (ev_f (Bool.eq_false_iff.2 fun h => hP ⟨hk, h⟩) ?_)))
      rw [w64_succ (by omega)]; exact ih) (by
      simp only [Z123.l0_succ _ mk_ok]
      exact ev_f (decide_eq_false (by omega)) ev_rfl)
  rw [idxf_of h1 h2] at h3
  refine ret_of ?_
  simp only [run_Z119, Z123.ev]
  exact Ev.start (p := fun φ n => Z123.l0 (mkR (run E (φ 0))) (φ 0) n s (s.length : Int) 0 = _) 1 h3 (fun _ _ _ h => h)

theorem IndexFunc_Sint64_int64_impl_placesOf_1_ret (s : List Int) (p : Int → Bool) (hs : s.length ≤ 1048576) (hp : ∀ x ∈ s, Ret E n_Z58 [⟨yI, x⟩] ⟨o_Z58, (p x, ())⟩) :
    Ret E n_Z119 [⟨yL, s⟩, ⟨(.fn n_Z58 .nil), ()⟩] ⟨o_Z119, (idxf p s, ())⟩ := by
  obtain ⟨o, h1, h2, h3⟩ := find_loop 1 (L := fun φ n k => Z124.l0 (mkR (run E (φ 0))) (φ 0) n s (s.length : Int) k) (len := s.length) (fun k => ∃ h : k < s.length, p s[k] = true) (fun o => some ⟨o_Z119, (o2i o, ())⟩) (fun _ _ _ _ => rfl) (fun k hk hP => by
      obtain ⟨_, hP⟩ := hP
      simp only [Z124.l0_succ _ mk_ok]
      refine ev_t (decide_eq_true (by omega)) (ev_bind (idx_lt hk) (ev_call (hp _ (List.getElem_mem hk)) (ev_t hP ev_rfl)))) (fun k q hk hP ih => by
      simp only [Z124.l0_succ _ mk_ok]
      refine ev_t (decide_eq_true (by omega)) (ev_bind (idx_lt hk) (ev_call (hp _ (List.getElem_mem hk)) (ev_f (Bool.eq_false_iff.2 fun h => hP ⟨hk, h⟩) ?_)))
      rw [w64_succ (by omega)]; exact ih) (by
      simp only [Z124.l0_succ _ mk_ok]
      exact ev_f (decide_eq_false (by omega)) ev_rfl)
  rw [idxf_of h1 h2] at h3
  refine ret_of ?_
  simp only [run_Z119, Z124.ev]
  exact Ev.start (p := fun φ n => Z124.l0 (mkR (run E (φ 0))) (φ 0) n s (s.length : Int) 0 = _) 1 h3 (fun _ _ _ h => h)

theorem ContainsFunc_SSint64_Sint64_impl_ValidComplex_1_ret (s : List (List Int)) (c : ((vK × Unit) × (Int × Unit) × Unit)) (p : (List Int) → Bool) (hs : s.length ≤ 1048576) (hp : ∀ x ∈ s, Ret E n_Z11 [⟨yL, x⟩, ⟨(.ptr (.cons yK .nil)), c.1⟩, ⟨(.ptr (.cons yI .nil)), c.2.1⟩] ⟨o_Z11, (p x, ())⟩) :
    Ret E n_Z106 [⟨yK, s⟩, ⟨(.fn n_Z11 (.cons (.ptr (.cons yK .nil)) (.cons (.ptr (.cons yI .nil)) .nil))), c⟩] ⟨o_Z106, (pb (∃ x ∈ s, p x = true), ())⟩ := by
  refine ret_of ?_
  simp only [run_Z106, Z107.ev]
  refine ev_call (IndexFunc_SSint64_Sint64_impl_ValidComplex_1_ret s c p hs hp) (ev_some ?_)
  simp only [ge_iff_le, pb_dec, pb_congr idxf_nonneg]

theorem ContainsFunc_Sint64_int64_impl_ValidSimplex_1_ret (s : List Int) (p : Int → Bool) (hs : s.length ≤ 1048576) (hp : ∀ x ∈ s, Ret E n_Z16 [⟨yI, x⟩] ⟨o_Z16, (p x, ())⟩) :
    Ret E n_Z108 [⟨yL, s⟩, ⟨(.fn n_Z16 .nil), ()⟩] ⟨o_Z108, (pb (∃ x ∈ s, p x = true), ())⟩ := by
  refine ret_of ?_
  simp only [run_Z108, Z109.ev]
  refine ev_call (IndexFunc_Sint64_int64_impl_ValidSimplex_1_ret s p hs hp) (ev_some ?_)
  simp only [ge_iff_le, pb_dec, pb_congr idxf_nonneg]

theorem ContainsFunc_Sint64_int64_impl_areElements_1_ret (s : List Int) (c : ((Int × Unit) × Unit)) (p : Int → Bool) (hs : s.length ≤ 1048576) (hp : ∀ x ∈ s, Ret E n_Z20 [⟨yI, x⟩, ⟨(.ptr (.cons yI .nil)), c.1⟩] ⟨o_Z20, (p x, ())⟩) :
    Ret E n_Z108 [⟨yL, s⟩, ⟨(.fn n_Z20 (.cons (.ptr (.cons yI .nil)) .nil)), c⟩] ⟨o_Z108, (pb (∃ x ∈ s, p x = true), ())⟩ := by
  refine ret_of ?_
  simp only [run_Z108, Z110.ev]
  refine ev_call (IndexFunc_Sint64_int64_impl_areElements_1_ret s c p hs hp) (ev_some ?_)
  simp only [ge_iff_le, pb_dec, pb_congr idxf_nonneg]

theorem ContainsFunc_Sint64_int64_impl_areStalks_1_ret (s : List Int) (p : Int → Bool) (hs : s.length ≤ 1048576) (hp : ∀ x ∈ s, Ret E n_Z22 [⟨yI, x⟩] ⟨o_Z22, (p x, ())⟩) :
    Ret E n_Z108 [⟨yL, s⟩, ⟨(.fn n_Z22 .nil), ()⟩] ⟨o_Z108, (pb (∃ x ∈ s, p x = true), ())⟩ := by
  refine ret_of ?_
  simp only [run_Z108, Z111.ev]
  refine ev_call (IndexFunc_Sint64_int64_impl_areStalks_1_ret s p hs hp) (ev_some ?_)
  simp only [ge_iff_le, pb_dec, pb_congr idxf_nonneg]

theorem ContainsFunc_Sint64_int64_impl_isZero_1_ret (s : List Int) (p : Int → Bool) (hs : s.length ≤ 1048576) (hp : ∀ x ∈ s, Ret E n_Z55 [⟨yI, x⟩] ⟨o_Z55, (p x, ())⟩) :
    Ret E n_Z108 [⟨yL, s⟩, ⟨(.fn n_Z55 .nil), ()⟩] ⟨o_Z108, (pb (∃ x ∈ s, p x = true), ())⟩ := by
  refine ret_of ?_
  simp only [run_Z108, Z112.ev]
  refine ev_call (IndexFunc_Sint64_int64_impl_isZero_1_ret s p hs hp) (ev_some ?_)
  simp only [ge_iff_le, pb_dec, pb_congr idxf_nonneg]

theorem filled_impl_transpose_1_ret (p : Int) (R C : Nat) (c : (vM × Unit)) (f : Nat → Nat → Int) (hR : R ≤ 1048576) (hC : C ≤ 1048576) (hRC : R * C ≤ 1048576) (hf : ∀ i j : Nat, i < R → j < C → Ret E n_Z70 [⟨yI, (i : Int)⟩, ⟨yI, (j : Int)⟩, ⟨(.ptr yM), c.1⟩] ⟨o_Z70, (f i j, ())⟩) :
    Ret E n_Z38 [⟨yI, p⟩, ⟨yI, (R : Int)⟩, ⟨yI, (C : Int)⟩, ⟨(.fn n_Z70 (.cons (.ptr yM) .nil)), c⟩] ⟨o_Z38, (p, (R : Int), (C : Int), flatF f C R, ())⟩ := by
  refine ret_of ?_
  simp only [run_Z38, Z40.ev]
  refine Ev.start (p := fun φ n => Z40.l0 (mkR (run E (φ 0))) (φ 0) n (C : Int) c (R : Int) 0 0 0 0 p (R : Int) (C : Int) [] = _) 1 ?_ (fun _ _ _ h => h)
  refine fold_loop 1 (L := fun φ n k a => Z40.l0 (mkR (run E (φ 0))) (φ 0) n (C : Int) c (R : Int) k 0 0 0 p (R : Int) (C : Int) a) (len := R) (fun k => flatF f C k) (fun _ _ _ _ _ => rfl) (fun k r hk ih => ?_) ?_
  · simp only [Z40.l0_succ _ mk_ok]
    refine ev_t (decide_eq_true (by omega)) ?_
    refine Ev.start (p := fun φ n => Z40.l1 (mkR (run E (φ 0))) (φ 0) (φ 1) n (C : Int) c (k : Int) (R : Int) (k : Int) (C : Int) 0 0 0 0 p (R : Int) (C : Int) (flatF f C k) = _) 2 ?_ (fun _ _ _ h => h)
    have hle : (k + 1) * C ≤ R * C := Nat.mul_le_mul_right _ hk
    rw [Nat.add_mul] at hle
    have := fold_loop 2 (L := fun φ n j a => Z40.l1 (mkR (run E (φ 0))) (φ 0) (φ 1) n (C : Int) c (k : Int) (R : Int) (k : Int) (C : Int) j 0 0 0 p (R : Int) (C : Int) a) (len := C) (fun j => flatF f C k ++ (List.range j).map (f k)) (r := r) (fun _ _ _ _ _ => rfl) (fun j r hj ih => ?_) ?_
    · simpa using this
    · simp only [Z40.l1_succ _ mk_ok]
      rw [List.range_succ, List.map_append, ← List.append_assoc] at ih
      refine ev_t (decide_eq_true (by omega)) (ev_call (hf k j hk hj) (ev_chk (by simp [flatF_length]; omega) ?_))
      rw [w64_succ (by omega)]; exact ih
    · simp only [Z40.l1_succ _ mk_ok]
      refine ev_f (decide_eq_false (by omega)) ?_
      rw [w64_succ (by omega)]; exact ih
  · simp only [Z40.l0_succ _ mk_ok]
    exact ev_f (decide_eq_false (by omega)) ev_rfl

theorem filled_impl_product_1_ret (p : Int) (R C : Nat) (c : (vM × (vK × Unit) × Unit)) (f : Nat → Nat → Int) (hR : R ≤ 1048576) (hC : C ≤ 1048576) (hRC : R * C ≤ 1048576) (hf : ∀ i j : Nat, i < R → j < C → Ret E n_Z61 [⟨yI, (i : Int)⟩, ⟨yI, (j : Int)⟩, ⟨(.ptr yM), c.1⟩, ⟨(.ptr (.cons yK .nil)), c.2.1⟩] ⟨o_Z61, (f i j, ())⟩) :
    Ret E n_Z38 [⟨yI, p⟩, ⟨yI, (R : Int)⟩, ⟨yI, (C : Int)⟩, ⟨(.fn n_Z61 (.cons (.ptr yM) (.cons (.ptr (.cons yK .nil)) .nil))), c⟩] ⟨o_Z38, (p, (R : Int), (C : Int), flatF f C R, ())⟩ := by
  refine ret_of ?_
  simp only [run_Z38, Z39.ev]
  refine Ev.start (p := fun φ n => Z39.l0 (mkR (run E (φ 0))) (φ 0) n (C : Int) c (R : Int) 0 0 0 0 p (R : Int) (C : Int) [] = _) 1 ?_ (fun _ _ _ h => h)
  refine fold_loop 1 (L := fun φ n k a => Z39.l0 (mkR (run E (φ 0))) (φ 0) n (C : Int) c (R : Int) k 0 0 0 p (R : Int) (C : Int) a) (len := R) (fun k => flatF f C k) (fun _ _ _ _ _ => rfl) (fun k r hk ih => ?_) ?_
  · simp only [Z39.l0_succ _ mk_ok]
    refine ev_t (decide_eq_true (by omega)) ?_
    refine Ev.start (p := fun φ n => Z39.l1 (mkR (run E (φ 0))) (φ 0) (φ 1) n (C : Int) c (k : Int) (R : Int) (k : Int) (C : Int) 0 0 0 0 p (R : Int) (C : Int) (flatF f C k) = _) 2 ?_ (fun _ _ _ h => h)
    have hle : (k + 1) * C ≤ R * C := Nat.mul_le_mul_right _ hk
    rw [Nat.add_mul] at hle
    have := fold_loop 2 (L := fun φ n j a => Z39.l1 (mkR (run E (φ 0))) (φ 0) (φ 1) n (C : Int) c (k : Int) (R : Int) (k : Int) (C : Int) j 0 0 0 p (R : Int) (C : Int) a) (len := C) (fun j => flatF f C k ++ (List.range j).map (f k)) (r := r) (fun _ _ _ _ _ => rfl) (fun j r hj ih => ?_) ?_
    · simpa using this
    · simp only [Z39.l1_succ _ mk_ok]
      rw [List.range_succ, List.map_append, ← List.append_assoc] at ih
      refine ev_t (decide_eq_true (by omega)) (ev_call (hf k j hk hj) (ev_chk (by simp [flatF_length]; omega) ?_))
      rw [w64_succ (by omega)]; exact ih
    · simp only [Z39.l1_succ _ mk_ok]
      refine ev_f (decide_eq_false (by omega)) ?_
      rw [w64_succ (by omega)]; exact ih
  · simp only [Z39.l0_succ _ mk_ok]
    exact ev_f (decide_eq_false (by omega)) ev_rfl

theorem filled_impl_zero_1_ret (p : Int) (R C : Nat) (f : Nat → Nat → Int) (hR : R ≤ 1048576) (hC : C ≤ 1048576) (hRC : R * C ≤ 1048576) (hf : ∀ i j : Nat, i < R → j < C → Ret E n_Z74 [⟨yI, (i : Int)⟩, ⟨yI, (j : Int)⟩] ⟨o_Z74, (f i j, ())⟩) :
    Ret E n_Z38 [⟨yI, p⟩, ⟨yI, (R : Int)⟩, ⟨yI, (C : Int)⟩, ⟨(.fn n_Z74 .nil), ()⟩] ⟨o_Z38, (p, (R : Int), (C : Int), flatF f C R, ())⟩ := by
  refine ret_of ?_
  simp only [run_Z38, Z41.ev]
  refine Ev.start (p := fun φ n => Z41.l0 (mkR (run E (φ 0))) (φ 0) n (C : Int) (R : Int) 0 0 0 0 p (R : Int) (C : Int) [] = _) 1 ?_ (fun _ _ _ h => h)
  refine fold_loop 1 (L := fun φ n k a => Z41.l0 (mkR (run E (φ 0))) (φ 0) n (C : Int) (R : Int) k 0 0 0 p (R : Int) (C : Int) a) (len := R) (fun k => flatF f C k) (fun _ _ _ _ _ => rfl) (fun k r hk ih => ?_) ?_
  · simp only [Z41.l0_succ _ mk_ok]
    refine ev_t (decide_eq_true (by omega)) ?_
    refine Ev.start (p := fun φ n => Z41.l1 (mkR (run E (φ 0))) (φ 0) (φ 1) n (C : Int) (k : Int) (R : Int) (k : Int) (C : Int) 0 0 0 0 p (R : Int) (C : Int) (flatF f C k) = _) 2 ?_ (fun _ _ _ h => h)
    have hle : (k + 1) * C ≤ R * C := Nat.mul_le_mul_right _ hk
    rw [Nat.add_mul] at hle
    have := fold_loop 2 (L := fun φ n j a => Z41.l1 (mkR (run E (φ 0))) (φ 0) (φ 1) n (C : Int) (k : Int) (R : Int) (k : Int) (C : Int) j 0 0 0 p (R : Int) (C : Int) a) (len := C) (fun j => flatF f C k ++ (List.range j).map (f k)) (r := r) (fun _ _ _ _ _ => rfl) (fun j r hj ih => ?_) ?_
    · simpa using this
    · simp only [Z41.l1_succ _ mk_ok]
      rw [List.range_succ, List.map_append, ← List.append_assoc] at ih
      refine ev_t (decide_eq_true (by omega)) (ev_call (hf k j hk hj) (ev_chk (by simp [flatF_length]; omega) ?_))
      rw [w64_succ (by omega)]; exact ih
    · simp only [Z41.l1_succ _ mk_ok]
      refine ev_f (decide_eq_false (by omega)) ?_
      rw [w64_succ (by omega)]; exact ih
  · simp only [Z41.l0_succ _ mk_ok]
    exact ev_f (decide_eq_false (by omega)) ev_rfl

end VeT

open Go Go.Proofs Ve
set_option linter.unusedVariables false
set_option linter.unusedSimpArgs false
namespace VeT

abbrev cM : Ty := .cons yI (.cons yI (.cons yI (.cons yL .nil)))
abbrev cC : Ty := .cons yK .nil
abbrev cS : Ty := .cons yK (.cons yI (.cons yL (.cons (.sl (.st cM)) .nil)))
abbrev Mat := Int × Int × Int × List Int × Unit
abbrev Cpx := List (List Int) × Unit
abbrev Shf := List (List Int) × Int × List Int × List Mat × Unit
abbrev Sim := List Int
abbrev dI (x : Int) : Dv := ⟨.int .i64,x⟩
abbrev dL (x : List Int) : Dv := ⟨.sl yI,x⟩
abbrev dLL (x : List (List Int)) : Dv := ⟨.sl yL,x⟩
abbrev dC (x : Cpx) : Dv := ⟨.ptr cC,x⟩
abbrev dM (x : Mat) : Dv := ⟨.ptr cM,x⟩
abbrev dS (x : Shf) : Dv := ⟨.ptr cS,x⟩
abbrev dMs (x : List Mat) : Dv := ⟨.sl (.st cM),x⟩

theorem within_ret (n lo hi : Int) : Ret E n_Z71 [dI n,dI lo,dI hi] ⟨o_Z71,(pb (lo ≤ n ∧ n ≤ hi),())⟩ := by
  refine ret_of ?_
  simp only [run_Z71,Z71.ev]
  refine ev_d (fun h => ev_some ?_) fun h => ev_some ?_
  · rw [pb_dec,pb_congr (show n ≤ hi ↔ lo ≤ n ∧ n ≤ hi by omega)]
  · rw [pb_false (by omega)]

theorem l00In_ret (n lo hi : Int) : Ret E n_Z129 [dI n,dI lo,dI hi] ⟨o_Z129,(pb (lo ≤ n ∧ n ≤ hi),())⟩ := by
  refine ret_of ?_
  simp only [run_Z129,Z129.ev]
  refine ev_d (fun h => ev_some ?_) fun h => ev_some ?_
  · rw [pb_dec,pb_congr (show n ≤ hi ↔ lo ≤ n ∧ n ≤ hi by omega)]
  · rw [pb_false (by omega)]

theorem isVertex_ret (n : Int) : Ret E n_Z53 [dI n] ⟨o_Z53,(pb (0 ≤ n ∧ n ≤ 9),())⟩ := by
  refine ret_of ?_
  simp only [run_Z53,Z53.ev]
  exact ev_call (within_ret _ _ _) ev_rfl

theorem ValidSimplex_1_ret (n : Int) : Ret E n_Z16 [dI n] ⟨o_Z16,(!pb (0 ≤ n ∧ n ≤ 9),())⟩ := by
  refine ret_of ?_
  simp only [run_Z16,Z16.ev]
  exact ev_call (isVertex_ret _) ev_rfl

/-- the list rises -/
def Rises (s : Sim) : Prop := ∀ j,1 ≤ j → j < s.length → s.getD (j - 1) 0 < s.getD j 0

theorem isRising_ret (s : Sim) (hs : Sm yL s) : Ret E n_Z51 [dL s] ⟨o_Z51,(pb (Rises s),())⟩ := by
  have hs1 : s.length ≤ 1048576 := hs.1
  refine ret_of ?_
  simp only [run_Z51,Z51.ev]
  by_cases h0 : s.length = 0
  · refine Ev.start (p := fun φ n => Z51.l0 (mkR (run E (φ 0))) (φ 0) n s 1 = _) 1 ?_ (fun _ _ _ h => h)
    refine loopR 1 (σ := Unit) (L := fun φ n _ => Z51.l0 (mkR (run E (φ 0))) (φ 0) n s 1) (fun _ _ _ _ => rfl) (fun _ => True) (fun _ => _) (fun _ => 0) (fun _ _ _ => ?_) () trivial
    simp only [Z51.l0_succ _ mk_ok]
    refine ev_f (decide_eq_false (by omega)) (ev_some ?_)
    rw [pb_true]
    intro j h1 h2; omega
  · refine Ev.start (p := fun φ n => Z51.l0 (mkR (run E (φ 0))) (φ 0) n s 1 = _) 1 ?_ (fun _ _ _ h => h)
    refine all_pb 1 (L := fun φ n k => Z51.l0 (mkR (run E (φ 0))) (φ 0) n s k) (len := s.length) 1 (by omega) (fun j => s.getD (j - 1) 0 < s.getD j 0) (fun b => some ⟨o_Z51,(b,())⟩) (fun _ _ _ _ => rfl) (fun k h1 h2 hP _ => ?_) (fun k r h1 h2 hP _ ih => ?_) (fun _ => ?_)
    · simp only [Z51.l0_succ _ mk_ok]
      refine ev_t (decide_eq_true (by omega)) ?_
      rw [w64_small (by omega) (by omega),show ((k : Int) - 1) = ((k - 1 : Nat) : Int) by omega]
      refine ev_bind (idx_lt (by omega)) (ev_bind (idx_lt h2) (ev_t (decide_eq_true ?_) ev_rfl))
      simpa [List.getD_eq_getElem?_getD,h2,show k - 1 < s.length by omega] using hP
    · simp only [Z51.l0_succ _ mk_ok]
      refine ev_t (decide_eq_true (by omega)) ?_
      rw [w64_small (by omega) (by omega),show ((k : Int) - 1) = ((k - 1 : Nat) : Int) by omega]
      refine ev_bind (idx_lt (by omega)) (ev_bind (idx_lt h2) (ev_f (decide_eq_false ?_) ?_))
      · simpa [List.getD_eq_getElem?_getD,h2,show k - 1 < s.length by omega] using hP
      · rw [w64_succ (by omega)]; exact ih
    · simp only [Z51.l0_succ _ mk_ok]
      exact ev_f (decide_eq_false (by omega)) ev_rfl

end VeT

open Go Go.Proofs Ve
set_option linter.unusedVariables false
set_option linter.unusedSimpArgs false
namespace VeT

def Vx (s : Sim) : Prop := 1 ≤ s.length ∧ s.length ≤ 4 ∧ Rises s ∧ ∀ x ∈ s,0 ≤ x ∧ x ≤ 9

theorem ValidSimplex_ret (s : Sim) (hs : Sm yL s) : Ret E n_Z15 [dL s] ⟨o_Z15,(pb (Vx s),())⟩ := by
  refine ret_of ?_
  simp only [run_Z15,Z15.ev]
  refine ev_d (fun h1 => ev_d (fun h2 => ev_call (isRising_ret s hs) (ev_b (fun h3 => ev_call (ContainsFunc_Sint64_int64_impl_ValidSimplex_1_ret s _ hs.1 fun x _ => ValidSimplex_1_ret x) (ev_some ?_)) fun h3 => ev_some ?_)) fun h2 => ev_some ?_) fun h1 => ev_some ?_
  · have h3 := pb_iff.1 h3
    have : (!pb (∃ x ∈ s,(!pb (0 ≤ x ∧ x ≤ 9)) = true)) = pb (Vx s) := eq_pb (by
      simp only [Bool.not_eq_true',pb_not]
      exact ⟨fun h => ⟨by omega,by omega,h3,fun x hx => Classical.byContradiction fun hn => h ⟨x,hx,hn⟩⟩,fun h ⟨x,hx,hn⟩ => hn (h.2.2.2 x hx)⟩)
    rw [this]
  · rw [pb_false fun h => pb_not.1 h3 h.2.2.1]
  · rw [pb_false fun h => h2 (by have := h.2.1; omega)]
  · rw [pb_false fun h => h1 (by have := h.1; omega)]

theorem l00Rises_ret (s : Sim) (lo hi : Int) (hs : Sm yL s) : Ret E n_Z131 [dL s,dI lo,dI hi] ⟨o_Z131,(pb (Rises s ∧ ∀ x ∈ s,lo ≤ x ∧ x ≤ hi),())⟩ := by
  have hs1 : s.length ≤ 1048576 := hs.1
  refine ret_of ?_
  simp only [run_Z131,Z131.ev]
  refine Ev.start (p := fun φ n => Z131.l0 (mkR (run E (φ 0))) (φ 0) n s lo hi 0 = _) 1 ?_ (fun _ _ _ h => h)
  refine (all_pb 1 (L := fun φ n k => Z131.l0 (mkR (run E (φ 0))) (φ 0) n s lo hi k) (len := s.length) 0 (by omega) (fun j => (lo ≤ s.getD j 0 ∧ s.getD j 0 ≤ hi) ∧ (1 ≤ j → s.getD (j - 1) 0 < s.getD j 0)) (fun b => some ⟨o_Z131,(b,())⟩) (fun _ _ _ _ => rfl) (fun k h1 h2 hP _ => ?_) (fun k r h1 h2 hP _ ih => ?_) (fun _ => ?_)).to ?_
  · simp only [Z131.l0_succ _ mk_ok]
    refine ev_t (decide_eq_true (by omega)) (ev_bind (idx_lt h2) (ev_call (l00In_ret _ _ _) ?_))
    have e : s.getD k 0 = s[k] := by simp [List.getD_eq_getElem?_getD,h2]
    rw [e] at hP
    refine ev_b (fun _ => ?_) (fun hin => ?_)
    · simp only [Z131.j1_eq _ mk_ok,cond_true]; (first | exact ev_rfl | exact Ev.of fun _ => trivial)
    · have hin : lo ≤ s[k] ∧ s[k] ≤ hi := pb_iff.1 (by simpa using hin)
      have hk : 1 ≤ k := Classical.byContradiction fun h => hP ⟨hin,fun h' => absurd h' h⟩
      refine ev_t (decide_eq_true (by omega)) ?_
      rw [w64_small (by omega) (by omega),show ((k : Int) - 1) = ((k - 1 : Nat) : Int) by omega]
      refine ev_bind (idx_lt (by omega)) (ev_bind (idx_lt h2) ?_)
      have e' : s.getD (k - 1) 0 = s[k - 1] := by simp [List.getD_eq_getElem?_getD,show k - 1 < s.length by omega]
      rw [e'] at hP
      have : decide (s[k-1] ≥ s[k]) = true := decide_eq_true (Classical.byContradiction fun h => hP ⟨hin,fun _ => by omega⟩)
      simp only [this,Z131.j1_eq _ mk_ok,cond_true]; (first | exact ev_rfl | exact Ev.of fun _ => trivial)
  · simp only [Z131.l0_succ _ mk_ok]
    refine ev_t (decide_eq_true (by omega)) (ev_bind (idx_lt h2) (ev_call (l00In_ret _ _ _) ?_))
    have e : s.getD k 0 = s[k] := by simp [List.getD_eq_getElem?_getD,h2]
    rw [e] at hP
    refine ev_f (by rw [pb_true hP.1]; rfl) ?_
    refine ev_d (fun hk => ?_) fun hk => ?_
    · rw [w64_small (by omega) (by omega),show ((k : Int) - 1) = ((k - 1 : Nat) : Int) by omega]
      refine ev_bind (idx_lt (by omega)) (ev_bind (idx_lt h2) ?_)
      have e' : s.getD (k - 1) 0 = s[k - 1] := by simp [List.getD_eq_getElem?_getD,show k - 1 < s.length by omega]
      rw [e'] at hP
      have : decide (s[k-1] ≥ s[k]) = false := decide_eq_false (by have := hP.2 (by omega); omega)
      simp only [this,Z131.j1_eq _ mk_ok,cond_false]
      rw [w64_succ (by omega)]; exact ih
    · simp only [Z131.j1_eq _ mk_ok,cond_false]
      rw [w64_succ (by omega)]; exact ih
  · simp only [Z131.l0_succ _ mk_ok]
    exact ev_f (decide_eq_false (by omega)) ev_rfl
  · refine congrArg (fun b : Bool => some (⟨o_Z131,(b,())⟩ : Dv)) (pb_congr ⟨fun h => ⟨fun j h1 h2 => (h j (by omega) h2).2 h1,fun x hx => ?_⟩,fun ⟨h1,h2⟩ j _ hj => ⟨?_,fun h3 => h1 j h3 hj⟩⟩)
    · obtain ⟨j,hj,rfl⟩ := List.mem_iff_getElem.1 hx
      simpa [List.getD_eq_getElem?_getD,hj] using (h j (by omega) hj).1
    · simpa [List.getD_eq_getElem?_getD,hj] using h2 _ (List.getElem_mem hj)

theorem l05Simplex_ret (s : Sim) (hs : Sm yL s) : Ret E n_Z152 [dL s] ⟨o_Z152,(pb (Vx s),())⟩ := by
  refine ret_of ?_
  simp only [run_Z152,Z152.ev]
  refine ev_call (l00In_ret _ _ _) (ev_b (fun h1 => ev_call (l00Rises_ret s _ _ hs) (ev_some ?_)) fun h1 => ev_some ?_)
  · have h1 := pb_iff.1 h1
    exact congrArg (fun b : Bool => some (⟨o_Z152,(b,())⟩ : Dv)) (pb_congr ⟨fun h => ⟨by omega,by omega,h.1,h.2⟩,fun h => ⟨h.2.2.1,h.2.2.2⟩⟩)
  · rw [pb_false fun h => pb_not.1 h1 ⟨by have := h.1; omega,by have := h.2.1; omega⟩]

/-! comparing -/
def cmp3 (a b : Int) : Int := if a < b then -1 else if b < a then 1 else 0
def lexc : Sim → Sim → Int
  | [],[] => 0
  | [],_ :: _ => -1
  | _ :: _,[] => 1
  | x :: xs,y :: ys => if x < y then -1 else if y < x then 1 else lexc xs ys
def cmpS (a b : Sim) : Int := if cmp3 a.length b.length ≠ 0 then cmp3 a.length b.length else lexc a b

theorem cmp3_zero {a b : Int} : cmp3 a b = 0 ↔ a = b := by unfold cmp3; split <;> (try split) <;> omega
theorem cmp3_neg {a b : Int} : cmp3 b a = - cmp3 a b := by unfold cmp3; split <;> split <;> (try split) <;> omega
theorem cmp3_lt {a b : Int} : cmp3 a b < 0 ↔ a < b := by unfold cmp3; split <;> (try split) <;> omega
theorem lexc_eq : ∀ {a b : Sim},lexc a b = 0 ↔ a = b
  | [],[] => by simp [lexc]
  | [],_ :: _ => by simp [lexc]
  | _ :: _,[] => by simp [lexc]
  | x :: xs,y :: ys => by
    have := @lexc_eq xs ys
    simp only [lexc,List.cons.injEq]
    split
    · constructor
      · intro h; omega
      · rintro ⟨rfl,_⟩; omega
    · split
      · constructor
        · intro h; omega
        · rintro ⟨rfl,_⟩; omega
      · rw [this]; constructor
        · intro h; exact ⟨by omega,h⟩
        · exact fun h => h.2
theorem lexc_neg : ∀ {a b : Sim},lexc b a = - lexc a b
  | [],[] => by simp [lexc]
  | [],_ :: _ => by simp [lexc]
  | _ :: _,[] => by simp [lexc]
  | x :: xs,y :: ys => by
    have := @lexc_neg xs ys
    simp only [lexc]
    split <;> split <;> (try split) <;> omega
theorem lexc_trans : ∀ {a b c : Sim},lexc a b < 0 → lexc b c < 0 → lexc a c < 0
  | [],[],c,h,_ => by simp [lexc] at h
  | [],_ :: _,[],_,h => by simp [lexc] at h
  | [],_ :: _,_ :: _,_,_ => by simp [lexc]
  | _ :: _,[],_,h,_ => by simp [lexc] at h
  | _ :: _,_ :: _,[],_,h => by simp [lexc] at h
  | x :: xs,y :: ys,z :: zs,h1,h2 => by
    have := @lexc_trans xs ys zs
    simp only [lexc] at h1 h2 ⊢
    split at h1 <;> split at h2 <;> (try split at h1) <;> (try split at h2) <;> (try split) <;> (try split) <;> first | omega | (exact this h1 h2)
theorem cmpS_zero {a b : Sim} : cmpS a b = 0 ↔ a = b := by
  unfold cmpS
  split
  · rename_i h
    exact ⟨fun h' => absurd h' h,fun h' => absurd (cmp3_zero.2 (by rw [h'])) h⟩
  · exact lexc_eq
theorem cmpS_neg {a b : Sim} : cmpS b a = - cmpS a b := by
  unfold cmpS
  rw [@cmp3_neg a.length b.length]
  split <;> split <;> first | omega | exact lexc_neg
theorem cmpS_lt {a b : Sim} : cmpS a b < 0 ↔ a.length < b.length ∨ a.length = b.length ∧ lexc a b < 0 := by
  unfold cmpS
  split
  · rename_i h
    rw [cmp3_lt]
    rw [Ne,cmp3_zero] at h
    omega
  · rename_i h
    rw [Classical.not_not,cmp3_zero] at h
    omega
theorem cmpS_trans {a b c : Sim} (h1 : cmpS a b < 0) (h2 : cmpS b c < 0) : cmpS a c < 0 := by
  rw [cmpS_lt] at *
  rcases h1 with h1 | ⟨h1,h1'⟩ <;> rcases h2 with h2 | ⟨h2,h2'⟩
  · left; omega
  · left; omega
  · left; omega
  · right; exact ⟨by omega,lexc_trans h1' h2'⟩

theorem isNaNi_ret (a : Int) : Ret E n_Z3 [dI a] ⟨o_Z3,(false,())⟩ := by
  refine ret_of ?_
  simp only [run_Z3,Z3.ev]
  exact ev_some (by simp)
theorem isNaN_ret (a : Int) : Ret E n_Z4 [dI a] ⟨o_Z4,(false,())⟩ := by
  refine ret_of ?_
  simp only [run_Z4,Z4.ev]
  exact ev_some (by simp)

theorem Comparei_ret (a b : Int) : Ret E n_Z0 [dI a,dI b] ⟨o_Z0,(cmp3 a b,())⟩ := by
  refine ret_of ?_
  simp only [run_Z0,Z0.ev]
  refine ev_call (isNaNi_ret _) (ev_call (isNaNi_ret _) (ev_f rfl (ev_f rfl (ev_d (fun h => ev_some ?_) fun h => ev_d (fun h2 => ev_some ?_) fun h2 => ev_some ?_))))
  · rw [cmp3,if_pos h]
  · rw [cmp3,if_neg h,if_pos h2]
  · rw [cmp3,if_neg h,if_neg h2]
theorem Compare_ret (a b : Int) : Ret E n_Z1 [dI a,dI b] ⟨o_Z1,(cmp3 a b,())⟩ := by
  refine ret_of ?_
  simp only [run_Z1,Z1.ev]
  refine ev_call (isNaN_ret _) (ev_call (isNaN_ret _) (ev_f rfl (ev_f rfl (ev_d (fun h => ev_some ?_) fun h => ev_d (fun h2 => ev_some ?_) fun h2 => ev_some ?_))))
  · rw [cmp3,if_pos h]
  · rw [cmp3,if_neg h,if_pos h2]
  · rw [cmp3,if_neg h,if_neg h2]

theorem lexc_step {a b : Sim} {k : Nat} (h : k < a.length) (h' : k < b.length) : lexc (a.drop k) (b.drop k) = if cmp3 a[k] b[k] ≠ 0 then cmp3 a[k] b[k] else lexc (a.drop (k + 1)) (b.drop (k + 1)) := by
  rw [List.drop_eq_getElem_cons h,List.drop_eq_getElem_cons h',lexc]
  unfold cmp3
  split
  · simp
  · split
    · simp
    · simp

theorem SliceCompare_ret (a b : Sim) (ha : Sm yL a) : Ret E n_Z104 [dL a,dL b] ⟨o_Z104,(lexc a b,())⟩ := by
  have ha1 : a.length ≤ 1048576 := ha.1
  refine ret_of ?_
  simp only [run_Z104,Z104.ev]
  refine Ev.start (p := fun φ n => Z104.l0 (mkR (run E (φ 0))) (φ 0) n a b a (a.length : Int) 0 = _) 1 ?_ (fun _ _ _ h => h)
  refine loopR 1 (σ := Nat) (L := fun φ n k => Z104.l0 (mkR (run E (φ 0))) (φ 0) n a b a (a.length : Int) (k : Int)) (fun _ _ _ _ => rfl) (fun k => k ≤ a.length ∧ k ≤ b.length) (fun k => some ⟨o_Z104,(lexc (a.drop k) (b.drop k),())⟩) (fun k => a.length - k) (fun k ⟨hk,hkb⟩ ih => ?_) 0 ⟨Nat.zero_le _,Nat.zero_le _⟩
  simp only [Z104.l0_succ _ mk_ok]
  refine ev_d (fun h => ?_) fun h => ?_
  · have hka : k < a.length := by omega
    refine ev_bind (idx_lt hka) (ev_d (fun h2 => ev_some ?_) fun h2 => ?_)
    · rw [List.drop_eq_getElem_cons hka,List.drop_of_length_le (l := b) (by omega),lexc]
    · have hkb : k < b.length := by omega
      refine ev_bind (idx_lt hkb) (ev_call (Compare_ret _ _) (ev_b (fun h3 => ev_some ?_) fun h3 => ?_))
      · rw [lexc_step hka hkb,if_pos (by simpa using h3)]
      · rw [w64_succ (by omega)]
        refine (ih (k + 1) ⟨by omega,by omega⟩ (by omega)).to ?_
        rw [lexc_step hka hkb,if_neg (by simpa using h3)]
  · have e : k = a.length := by omega
    subst e
    refine ev_d (fun h2 => ev_some ?_) fun h2 => ev_some ?_
    · rw [List.drop_of_length_le (l := a) (by omega),List.drop_eq_getElem_cons (l := b) (by omega),lexc]
    · rw [List.drop_of_length_le (l := a) (by omega),List.drop_of_length_le (l := b) (by omega),lexc]

theorem Or2_ret (a b : Int) : Ret E n_Z2 [dL [a,b]] ⟨o_Z2,(if a ≠ 0 then a else b,())⟩ := by
  refine ret_of ?_
  simp only [run_Z2,Z2.ev]
  refine Ev.start (p := fun φ n => Z2.l0 (mkR (run E (φ 0))) (φ 0) n 0 [a,b] ([a,b].length : Int) 0 = _) 1 ?_ (fun _ _ _ h => h)
  refine Ev.round 1 (L := fun φ n => Z2.l0 (mkR (run E (φ 0))) (φ 0) n 0 [a,b] ([a,b].length : Int) 0) ?_ (fun _ _ _ => rfl)
  simp only [Z2.l0_succ _ mk_ok]
  refine ev_t (by simp) (ev_bind (x := a) rfl (ev_b (fun h => ev_some ?_) fun h => ?_))
  · rw [if_pos (by simpa using h)]
  · rw [if_neg (by simpa using h)]
    rw [show w64 ((0 : Int) + 1) = 1 by decide]
    refine Ev.round 1 (L := fun φ n => Z2.l0 (mkR (run E (φ 0))) (φ 0) n 0 [a,b] ([a,b].length : Int) 1) ?_ (fun _ _ _ => rfl)
    simp only [Z2.l0_succ _ mk_ok]
    refine ev_t (by simp) (ev_bind (x := b) rfl (ev_b (fun h => ev_rfl) fun h => ?_))
    rw [show w64 ((1 : Int) + 1) = 2 by decide]
    refine Ev.round 1 (L := fun φ n => Z2.l0 (mkR (run E (φ 0))) (φ 0) n 0 [a,b] ([a,b].length : Int) 2) ?_ (fun _ _ _ => rfl)
    simp only [Z2.l0_succ _ mk_ok]
    refine ev_f (by simp) (ev_some ?_)
    have : b = 0 := by simpa using h
    rw [this]

theorem compareSimplices_ret (a b : Sim) (ha : Sm yL a) : Ret E n_Z28 [dL a,dL b] ⟨o_Z28,(cmpS a b,())⟩ := by
  refine ret_of ?_
  simp only [run_Z28,Z28.ev]
  exact ev_call (Comparei_ret _ _) (ev_call (SliceCompare_ret a b ha) (ev_call (Or2_ret _ _) ev_rfl))

theorem l05Before_ret (a b : Sim) (ha : Sm yL a) : Ret E n_Z145 [dL a,dL b] ⟨o_Z145,(pb (cmpS a b < 0),())⟩ := by
  have ha1 : a.length ≤ 1048576 := ha.1
  refine ret_of ?_
  simp only [run_Z145,Z145.ev]
  refine ev_b (fun h => ev_some ?_) fun h => ?_
  · have h : (a.length : Int) ≠ b.length := by simpa using h
    rw [pb_dec,pb_congr (show (a.length : Int) < b.length ↔ cmpS a b < 0 by rw [cmpS_lt]; omega)]
  · have h : a.length = b.length := by have : (a.length : Int) = b.length := by simpa using h
                                       omega
    refine Ev.start (p := fun φ n => Z145.l0 (mkR (run E (φ 0))) (φ 0) n a b 0 = _) 1 ?_ (fun _ _ _ h => h)
    refine (loopR 1 (σ := Nat) (L := fun φ n k => Z145.l0 (mkR (run E (φ 0))) (φ 0) n a b (k : Int)) (fun _ _ _ _ => rfl) (fun k => k ≤ a.length) (fun k => some ⟨o_Z145,(pb (lexc (a.drop k) (b.drop k) < 0),())⟩) (fun k => a.length - k) (fun k hk ih => ?_) 0 (Nat.zero_le _)).to ?_
    · simp only [Z145.l0_succ _ mk_ok]
      refine ev_d (fun h1 => ?_) fun h1 => ?_
      · have hka : k < a.length := by omega
        have hkb : k < b.length := by omega
        have e := lexc_step hka hkb
        refine ev_bind (idx_lt hka) (ev_bind (idx_lt hkb) (ev_b (fun h3 => ?_) fun h3 => ?_))
        · refine ev_bind (idx_lt hka) (ev_bind (idx_lt hkb) (ev_some ?_))
          have h3 : a[k] ≠ b[k] := by simpa using h3
          rw [if_pos (by rw [Ne,cmp3_zero]; exact h3)] at e
          rw [e,pb_dec,pb_congr cmp3_lt]
        · have h3 : a[k] = b[k] := by simpa using h3
          rw [if_neg (by rw [Classical.not_not,cmp3_zero]; exact h3)] at e
          rw [w64_succ (by omega),e]
          exact ih (k + 1) (by show k + 1 ≤ _; omega) (by show a.length - (k + 1) < _; omega)
      · refine ev_some ?_
        have hk : k ≤ a.length := hk
        have e : k = a.length := by omega
        subst e
        rw [List.drop_of_length_le (l := a) (by omega),List.drop_of_length_le (l := b) (by omega),lexc,pb_false (by omega)]
    · refine congrArg (fun b : Bool => some (⟨o_Z145,(b,())⟩ : Dv)) (pb_congr ?_)
      simp only [List.drop_zero]; rw [cmpS_lt]; omega

end VeT

open Go Go.Proofs Ve
set_option linter.unusedVariables false
set_option linter.unusedSimpArgs false
namespace VeT

theorem getD_lt {α : Type} {s : List α} {k : Nat} {d : α} (h : k < s.length) : s.getD k d = s[k] := by simp [List.getD_eq_getElem?_getD,h]
theorem sm_get {t : Ty} {s : List t.T} (h : Sm (.sl t) s) {k : Nat} (hk : k < s.length) : Sm t s[k] := h.2 _ (List.getElem_mem hk)
theorem sm_ints {s : Sim} (h : s.length ≤ 1048576) : Sm yL s := ⟨h,fun _ _ => trivial⟩

theorem l00Own_ret (s : Sim) (hs : s.length ≤ 1048576) : Ret E n_Z130 [dL s] ⟨o_Z130,(s,())⟩ := by
  refine ret_of ?_
  simp only [run_Z130,Z130.ev]
  exact ev_chk (by simp; omega) (ev_some rfl)

theorem l05Drop_ret (s : Sim) (k : Nat) (hk : k < s.length) (hs : s.length ≤ 1048576) : Ret E n_Z147 [dL s,dI (k : Int)] ⟨o_Z147,(s.eraseIdx k,())⟩ := by
  refine ret_of ?_
  simp only [run_Z147,Z147.ev]
  rw [w64_succ (by omega)]
  simp only [Int.toNat_natCast]
  refine ev_chk (by simp; omega) (ev_call (l00Own_ret _ (by simp; omega)) (ev_chk (by simp; omega) (ev_chk (by simp; omega) (ev_some ?_))))
  rw [List.eraseIdx_eq_take_drop_succ]

theorem l00SameP_ret (a b : Sim) (ha : a.length ≤ 1048576) : Ret E n_Z132 [dL a,dL b] ⟨o_Z132,(pb (a = b),())⟩ := by
  refine ret_of ?_
  simp only [run_Z132,Z132.ev]
  refine ev_b (fun h => ev_some ?_) fun h => ?_
  · have h : (a.length : Int) ≠ b.length := by simpa using h
    rw [pb_false fun e => h (by rw [e])]
  · have h : (a.length : Int) = b.length := by simpa using h
    refine Ev.start (p := fun φ n => Z132.l0 (mkR (run E (φ 0))) (φ 0) n a b 0 = _) 1 ?_ (fun _ _ _ h => h)
    refine (all_pb 1 (L := fun φ n k => Z132.l0 (mkR (run E (φ 0))) (φ 0) n a b k) (len := a.length) 0 (by omega) (fun j => a.getD j 0 = b.getD j 0) (fun b => some ⟨o_Z132,(b,())⟩) (fun _ _ _ _ => rfl) (fun k h1 h2 hP _ => ?_) (fun k r h1 h2 hP _ ih => ?_) (fun _ => ?_)).to ?_
    · simp only [Z132.l0_succ _ mk_ok]
      have hb : k < b.length := by omega
      rw [getD_lt h2,getD_lt hb] at hP
      exact ev_t (decide_eq_true (by omega)) (ev_bind (idx_lt h2) (ev_bind (idx_lt hb) (ev_t (by simpa using hP) ev_rfl)))
    · simp only [Z132.l0_succ _ mk_ok]
      have hb : k < b.length := by omega
      rw [getD_lt h2,getD_lt hb] at hP
      refine ev_t (decide_eq_true (by omega)) (ev_bind (idx_lt h2) (ev_bind (idx_lt hb) (ev_f (by simpa using hP) ?_)))
      rw [w64_succ (by omega)]; exact ih
    · simp only [Z132.l0_succ _ mk_ok]
      exact ev_f (decide_eq_false (by omega)) ev_rfl
    · refine congrArg (fun b : Bool => some (⟨o_Z132,(b,())⟩ : Dv)) (pb_congr ⟨fun hh => List.ext_getElem (by omega) fun j h1 h2 => ?_,fun hh j _ _ => by rw [hh]⟩)
      have := hh j (by omega) h1
      rwa [getD_lt h1,getD_lt h2] at this

noncomputable def findI (c : List Sim) (s : Sim) : Int := idxf (fun x => pb (x = s)) c
theorem findI_nonneg {c : List Sim} {s : Sim} : 0 ≤ findI c s ↔ s ∈ c := by
  unfold findI
  rw [idxf_nonneg]
  simp only [pb_iff]
  exact ⟨fun ⟨x,h,e⟩ => e ▸ h,fun h => ⟨s,h,rfl⟩⟩

theorem l05Find_ret (c : Cpx) (s : Sim) (hc : Sm yK c.1) : Ret E n_Z149 [dC c,dL s] ⟨o_Z149,(findI c.1 s,())⟩ := by
  have hc1 : c.1.length ≤ 1048576 := hc.1
  obtain ⟨o,h1,h2,h3⟩ := find_loop 1 (L := fun φ n k => Z149.l0 (mkR (run E (φ 0))) (φ 0) n c s k) (len := c.1.length) (fun k => ∃ h : k < c.1.length,pb (c.1[k] = s) = true) (fun o => some ⟨o_Z149,(o2i o,())⟩) (fun _ _ _ _ => rfl) (fun k hk hP => by
      obtain ⟨_,hP⟩ := hP
      simp only [Z149.l0_succ _ mk_ok]
      refine ev_t (decide_eq_true (by omega)) (ev_bind (idx_lt hk) (ev_call (l00SameP_ret _ _ (sm_get hc hk).1) (ev_t hP ev_rfl)))) (fun k q hk hP ih => by
      simp only [Z149.l0_succ _ mk_ok]
      refine ev_t (decide_eq_true (by omega)) (ev_bind (idx_lt hk) (ev_call (l00SameP_ret _ _ (sm_get hc hk).1) (ev_f (Bool.eq_false_iff.2 fun h => hP ⟨hk,h⟩) ?_)))
      rw [w64_succ (by omega)]; exact ih) (by
      simp only [Z149.l0_succ _ mk_ok]
      exact ev_f (decide_eq_false (by omega)) ev_rfl)
  rw [idxf_of (p := fun x => pb (x = s)) h1 h2] at h3
  refine ret_of ?_
  simp only [run_Z149,Z149.ev]
  exact Ev.start (p := fun φ n => Z149.l0 (mkR (run E (φ 0))) (φ 0) n c s 0 = _) 1 h3 (fun _ _ _ h => h)

/-! joining,faces -/
theorem run_Grow (n : Nat) (args : List Dv) : run E (n + 1) n_Z115 args = pGrow yI (mkR (run E n)) args := rfl

theorem Grow_ret (s : Sim) (n : Int) (h0 : 0 ≤ n) (h1 : n ≤ 1048576) (hs : s.length ≤ 1048576) : Ret E n_Z115 [dL s,dI n] ⟨o_Z115,(s,())⟩ := by
  refine ret_of ?_
  simp only [run_Grow]
  refine ev_some ((if_pos (show 0 ≤ n ∧ ((List.length s : Int) + n) * (64 * (Ty.size (Ty.int IntKind.i64) : Int)) ≤ 70368744177664 from ⟨h0,?_⟩)).trans rfl)
  have : (Ty.size (Ty.int IntKind.i64)) = 1 := rfl
  rw [this]; omega

theorem Concat_ret (ll : List Sim) (hl : ll.length ≤ 1048576) (hf : ll.flatten.length ≤ 1048576) : Ret E n_Z105 [dLL ll] ⟨o_Z105,(ll.flatten,())⟩ := by
  have hle : ∀ k,(ll.take k).flatten.length ≤ ll.flatten.length := fun k => by
    have := congrArg List.length (congrArg List.flatten (List.take_append_drop k ll))
    rw [List.flatten_append,List.length_append] at this; omega
  have hst : ∀ k (h : k < ll.length),(ll.take (k + 1)).flatten = (ll.take k).flatten ++ ll[k] := fun k h => by
    rw [List.take_succ_eq_append_getElem h,List.flatten_append]; simp
  refine ret_of ?_
  simp only [run_Z105,Z105.ev]
  refine Ev.start (p := fun φ n => Z105.l0 (mkR (run E (φ 0))) (φ 0) n ll 0 ll (ll.length : Int) 0 = _) 1 ?_ (fun _ _ _ h => h)
  refine fold_loop 1 (L := fun φ n k a => Z105.l0 (mkR (run E (φ 0))) (φ 0) n ll a ll (ll.length : Int) k) (len := ll.length) (fun k => (((ll.take k).flatten.length : Nat) : Int)) (fun _ _ _ _ _ => rfl) (fun k r hk ih => ?_) ?_
  · simp only [Z105.l0_succ _ mk_ok]
    have := hle (k + 1)
    have e := hst k hk
    have e2 : w64 (((ll.take k).flatten.length : Nat) + (List.length (ll[k]) : Int)) = (((ll.take (k + 1)).flatten.length : Nat) : Int) := by
      rw [w64_small (by omega) (by rw [e,List.length_append] at this; omega),e,List.length_append]; omega
    refine ev_t (decide_eq_true (by omega)) (ev_bind (idx_lt hk) ?_)
    show Ev fun φ => (bif decide (w64 (((ll.take k).flatten.length : Nat) + (List.length (ll[k]) : Int)) < 0) then none else Z105.l0 (mkR (run E (φ 0))) (φ 0) (φ 1) ll (w64 (((ll.take k).flatten.length : Nat) + (List.length (ll[k]) : Int))) ll (ll.length : Int) (w64 ((k : Int) + 1))) = r
    rw [e2,w64_succ (by omega)]
    exact ev_f (decide_eq_false (by omega)) ih
  · simp only [Z105.l0_succ _ mk_ok]
    refine ev_f (decide_eq_false (by omega)) (ev_call (Grow_ret [] _ (by omega) (by have := hle ll.length; omega) (by simp)) ?_)
    refine Ev.start (p := fun φ n => Z105.l1 (mkR (run E (φ 0))) (φ 0) n ll (ll.length : Int) 0 [] = _) 2 ?_ (fun _ _ _ h => h)
    refine fold_loop 2 (L := fun φ n k a => Z105.l1 (mkR (run E (φ 0))) (φ 0) n ll (ll.length : Int) k a) (len := ll.length) (fun k => (ll.take k).flatten) (fun _ _ _ _ _ => rfl) (fun k r hk ih => ?_) ?_
    · simp only [Z105.l1_succ _ mk_ok]
      have := hle (k + 1)
      have e := hst k hk
      rw [e] at ih this
      rw [List.length_append] at this
      refine ev_t (decide_eq_true (by omega)) (ev_bind (idx_lt hk) (ev_chk (decide_eq_true (by show (_ + List.length ll[k]) * 8 ≤ _; omega)) ?_))
      rw [w64_succ (by omega)]
      exact ih
    · simp only [Z105.l1_succ _ mk_ok]
      refine ev_f (decide_eq_false (by omega)) (ev_some ?_)
      rw [List.take_of_length_le (Nat.le_refl _)]

def faces (s : Sim) : List Sim := if 1 < s.length then (List.range s.length).map (s.eraseIdx ·) else []

theorem faces_mem {s f : Sim} : f ∈ faces s ↔ 1 < s.length ∧ ∃ i,i < s.length ∧ f = s.eraseIdx i := by
  unfold faces
  split
  · rename_i h
    simp only [List.mem_map,List.mem_range,h,true_and]
    exact ⟨fun ⟨i,h1,h2⟩ => ⟨i,h1,h2.symm⟩,fun ⟨i,h1,h2⟩ => ⟨i,h1,h2.symm⟩⟩
  · rename_i h
    simp [h]

theorem faces_len {s f : Sim} (h : f ∈ faces s) : f.length + 1 = s.length := by
  obtain ⟨h1,i,h2,rfl⟩ := faces_mem.1 h
  rw [List.length_eraseIdx,if_pos h2]; omega

theorem faces_length {s : Sim} : (faces s).length ≤ s.length := by
  unfold faces; split <;> simp

theorem facesOf_ret (s : Sim) (hs : s.length ≤ 1048576) : Ret E n_Z37 [dL s] ⟨o_Z37,(faces s,())⟩ := by
  refine ret_of ?_
  simp only [run_Z37,Z37.ev]
  refine Ev.start (p := fun φ n => Z37.l0 (mkR (run E (φ 0))) (φ 0) n s (s.length : Int) 0 [] = _) 1 ?_ (fun _ _ _ h => h)
  by_cases h1 : 1 < s.length
  · refine fold_loop 1 (L := fun φ n k a => Z37.l0 (mkR (run E (φ 0))) (φ 0) n s (s.length : Int) k a) (len := s.length) (fun k => (List.range k).map (s.eraseIdx ·)) (fun _ _ _ _ _ => rfl) (fun k r hk ih => ?_) ?_
    · simp only [Z37.l0_succ _ mk_ok]
      rw [List.range_succ,List.map_append] at ih
      rw [w64_succ (by omega)]
      simp only [Int.toNat_natCast]
      refine ev_t (decide_eq_true (by omega)) (ev_t (decide_eq_true (by omega)) (ev_chk (by simp; omega) (ev_chk (by simp; omega) (ev_call (Concat_ret _ (by simp) (by simp; omega)) (ev_chk (by simp; omega) ?_)))))
      rw [show [s.take k,s.drop (k + 1)].flatten = s.eraseIdx k by simp [List.eraseIdx_eq_take_drop_succ]]
      exact ih
    · simp only [Z37.l0_succ _ mk_ok]
      exact ev_f (decide_eq_false (by omega)) (ev_some (by rw [faces,if_pos h1]))
  · refine fold_loop 1 (L := fun φ n k a => Z37.l0 (mkR (run E (φ 0))) (φ 0) n s (s.length : Int) k a) (len := s.length) (fun k => []) (fun _ _ _ _ _ => rfl) (fun k r hk ih => ?_) ?_
    · simp only [Z37.l0_succ _ mk_ok]
      rw [w64_succ (by omega)]
      exact ev_t (decide_eq_true (by omega)) (ev_f (decide_eq_false (by omega)) ih)
    · simp only [Z37.l0_succ _ mk_ok]
      exact ev_f (decide_eq_false (by omega)) (ev_some (by rw [faces,if_neg h1]))

/-! searching -/
def Srt (c : List Sim) : Prop := ∀ i j (h : j < c.length) (hij : i < j),cmpS c[i] c[j] < 0

theorem srt_of {c : List Sim} (h : ∀ k,1 ≤ k → k < c.length → cmpS (c.getD (k - 1) []) (c.getD k []) < 0) : Srt c := by
  intro i j
  induction j with
  | zero => intro _ h; omega
  | succ j ih =>
    intro hj hij
    have := h (j + 1) (by omega) hj
    rw [Nat.add_sub_cancel,getD_lt (by omega),getD_lt hj] at this
    by_cases e : i = j
    · subst e; exact this
    · exact cmpS_trans (ih (by omega) (by omega)) this

theorem Srt.take {c : List Sim} (h : Srt c) (k : Nat) : Srt (c.take k) := by
  intro i j hj hij
  rw [List.getElem_take,List.getElem_take]
  exact h i j (by rw [List.length_take] at hj; omega) hij

def bs (c : List Sim) (s : Sim) : Nat := c.findIdx (fun x => !decide (cmpS x s < 0))

theorem bs_le {c : List Sim} {s : Sim} : bs c s ≤ c.length := List.findIdx_le_length
theorem bs_lt {c : List Sim} {s : Sim} (hc : Srt c) {t : Nat} (h : t < c.length) : t < bs c s ↔ cmpS c[t] s < 0 := by
  constructor
  · intro ht
    have := List.not_of_lt_findIdx ht
    simpa using this
  · intro ht
    refine Classical.byContradiction fun hn => ?_
    have hb : bs c s < c.length := by omega
    have h1 : cmpS c[bs c s] s < 0 := by
      by_cases e : bs c s = t
      · simp only [e]; exact ht
      · exact cmpS_trans (hc _ _ h (by omega)) ht
    have := List.findIdx_getElem (w := hb)
    simp only [Bool.not_eq_true',decide_eq_false_iff_not] at this
    exact this h1

theorem bs_find {c : List Sim} {s : Sim} (hc : Srt c) : findI c s = if h : bs c s < c.length ∧ c.getD (bs c s) [] = s then (bs c s : Int) else -1 := by
  have e : c.findIdx? (fun x => pb (x = s)) = if bs c s < c.length ∧ c.getD (bs c s) [] = s then some (bs c s) else none := by
    split
    · rename_i h
      obtain ⟨h1,h2⟩ := h
      rw [List.findIdx?_eq_some_iff_getElem]
      rw [getD_lt h1] at h2
      refine ⟨h1,pb_true h2,fun j hj => ?_⟩
      rw [pb_iff]
      intro he
      have := (bs_lt (s := s) hc (show j < c.length by omega)).1 hj
      rw [he,cmpS_zero.2 rfl] at this
      omega
    · rename_i h
      rw [List.findIdx?_eq_none_iff]
      intro x hx
      rw [pb_not]
      rintro rfl
      obtain ⟨j,hj,rfl⟩ := List.mem_iff_getElem.1 hx
      have h0 : ¬ j < bs c c[j] := fun hlt => by
        have := (bs_lt hc hj).1 hlt
        rw [cmpS_zero.2 rfl] at this; omega
      by_cases hjb : bs c c[j] = j
      · exact h ⟨by omega,by rw [hjb,getD_lt hj]⟩
      · have hb : bs c c[j] < c.length := by omega
        have := (bs_lt (s := c[j]) hc hb).2 (hc _ _ hj (by omega))
        omega
  unfold findI idxf
  rw [e]
  split <;> rfl

theorem BinarySearch_ret (c : List Sim) (s : Sim) (hc : Sm yK c) (hs : Srt c) : Ret E n_Z101 [dLL c,dL s,⟨.fn n_Z28 .nil,()⟩] ⟨o_Z101,((bs c s : Int),pb (bs c s < c.length ∧ c.getD (bs c s) [] = s),())⟩ := by
  have hc1 : c.length ≤ 1048576 := hc.1
  refine ret_of ?_
  simp only [run_Z101,Z102.ev]
  refine Ev.start (p := fun φ n => Z102.l0 (mkR (run E (φ 0))) (φ 0) n c s (c.length : Int) 0 (c.length : Int) = _) 1 ?_ (fun _ _ _ h => h)
  refine loopR 1 (σ := Nat × Nat) (L := fun φ n st => Z102.l0 (mkR (run E (φ 0))) (φ 0) n c s (c.length : Int) (st.1 : Int) (st.2 : Int)) (fun _ _ _ _ => rfl) (fun st => st.1 ≤ bs c s ∧ bs c s ≤ st.2 ∧ st.2 ≤ c.length) (fun _ => _) (fun st => st.2 - st.1) (fun st hi ih => ?_) (0,c.length) ⟨Nat.zero_le _,bs_le,Nat.le_refl _⟩
  obtain ⟨i,j⟩ := st
  obtain ⟨h1,h2,h3⟩ := hi
  simp only at h1 h2 h3 ih
  simp only [Z102.l0_succ _ mk_ok]
  rw [half (by omega)]
  refine ev_d (fun hij => ?_) fun hij => ?_
  · have hh : (i + j) / 2 < c.length := by omega
    refine ev_chk (by decide) (ev_bind (idx_lt hh) (ev_call (compareSimplices_ret _ _ (sm_get hc hh)) (ev_d (fun hlt => ?_) fun hlt => ?_)))
    · rw [w64_succ (by omega)]
      have := (bs_lt hs hh).2 hlt
      exact ih ((i + j) / 2 + 1,j) ⟨this,h2,h3⟩ (by simp only; omega)
    · have : ¬ (i + j) / 2 < bs c s := fun h => hlt ((bs_lt hs hh).1 h)
      exact ih (i,(i + j) / 2) ⟨h1,by simp only; omega,by simp only; omega⟩ (by simp only; omega)
  · have e : i = bs c s := by omega
    subst e
    refine ev_d (fun hl => ?_) fun hl => ev_some ?_
    · have hh : bs c s < c.length := by omega
      refine ev_bind (idx_lt hh) (ev_call (compareSimplices_ret _ _ (sm_get hc hh)) (ev_some ?_))
      have : (cmpS c[bs c s] s == 0) = pb (bs c s < c.length ∧ c.getD (bs c s) [] = s) := eq_pb (by
        rw [getD_lt hh,beq_iff_eq,cmpS_zero]; exact ⟨fun h => ⟨hh,h⟩,fun h => h.2⟩)
      rw [this]
    · rw [pb_false fun h => hl (by omega)]

theorem indexOf_ret (c : List Sim) (s : Sim) (hc : Sm yK c) (hs : Srt c) : Ret E n_Z46 [dLL c,dL s] ⟨o_Z46,(findI c s,())⟩ := by
  refine ret_of ?_
  simp only [run_Z46,Z46.ev]
  refine ev_call (BinarySearch_ret c s hc hs) (ev_b (fun h => ev_some ?_) fun h => ev_some ?_)
  · rw [bs_find hs,dif_neg (pb_not.1 (by simpa using h))]
  · rw [bs_find hs,dif_pos (pb_iff.1 (by simpa using h))]

end VeT

open Go Go.Proofs Ve
set_option linter.unusedVariables false
set_option linter.unusedSimpArgs false
namespace VeT

/-- valid complexes -/
def VC (c : List Sim) : Prop := c.length ≤ 48 ∧ (∀ k,k < c.length → Vx (c.getD k [])) ∧ (∀ k,1 ≤ k → k < c.length → cmpS (c.getD (k - 1) []) (c.getD k []) < 0) ∧ ∀ k,k < c.length → ∀ f ∈ faces (c.getD k []),f ∈ c

theorem VC.srt {c : List Sim} (h : VC c) : Srt c := srt_of h.2.2.1

def VCimpl (c : List Sim) (k : Nat) : Prop := (Vx (c.getD k []) ∧ (1 ≤ k → cmpS (c.getD (k - 1) []) (c.getD k []) < 0)) ∧ ∀ f ∈ faces (c.getD k []),f ∈ c.take k

theorem VC_impl {c : List Sim} : ((∀ k,0 ≤ k → k < c.length → VCimpl c k) ∧ c.length ≤ 48) ↔ VC c := by
  constructor
  · rintro ⟨h,hl⟩
    exact ⟨hl,fun k hk => (h k (by omega) hk).1.1,fun k h1 hk => (h k (by omega) hk).1.2 h1,fun k hk f hf => List.mem_of_mem_take ((h k (by omega) hk).2 f hf)⟩
  · intro h
    have hs := h.srt
    obtain ⟨hl,h1,h2,h3⟩ := h
    refine ⟨fun k _ hk => ⟨⟨h1 k hk,fun hk1 => h2 k hk1 hk⟩,fun f hf => ?_⟩,hl⟩
    have hm := h3 k hk f hf
    have hlen := faces_len hf
    rw [getD_lt hk] at hlen
    obtain ⟨i,hi,rfl⟩ := List.mem_iff_getElem.1 hm
    have hlt : cmpS c[i] c[k] < 0 := cmpS_lt.2 (.inl (by omega))
    have hik : i < k := Classical.byContradiction fun hn => by
      by_cases e : i = k
      · subst e; omega
      · have := hs k i hi (by omega)
        rw [cmpS_neg] at this; omega
    exact List.mem_iff_getElem.2 ⟨i,by rw [List.length_take]; omega,by rw [List.getElem_take]⟩

theorem sm_take {t : Ty} {s : List t.T} (h : Sm (.sl t) s) (k : Nat) : Sm (.sl t) (s.take k) := ⟨by have h1 : s.length ≤ 1048576 := h.1; show (s.take k).length ≤ _; rw [List.length_take]; omega,fun x hx => h.2 x (List.mem_of_mem_take hx)⟩

theorem ValidComplex_1_ret (c : List Sim) (f : Sim) (k : Nat) (hk : k ≤ c.length) (hc : Sm yK c) (hs : Srt (c.take k)) :
    Ret E n_Z11 [dL f,dC (c,()),⟨.ptr (.cons yI .nil),((k : Int),())⟩] ⟨o_Z11,(pb (¬ f ∈ c.take k),())⟩ := by
  refine ret_of ?_
  simp only [run_Z11,Z11.ev]
  simp only [Int.toNat_natCast]
  refine ev_chk (by simp; omega) (ev_call (indexOf_ret _ f (sm_take hc k) hs) (ev_some ?_))
  simp only [pb_dec,pb_congr (show findI (c.take k) f < 0 ↔ ¬ f ∈ c.take k by rw [← findI_nonneg]; omega)]

theorem ValidComplex_ret (c : List Sim) (hc : Sm yK c) : Ret E n_Z10 [dLL c] ⟨o_Z10,(pb (VC c),())⟩ := by
  have hc1 : c.length ≤ 1048576 := hc.1
  refine ret_of ?_
  simp only [run_Z10,Z10.ev]
  refine Ev.start (p := fun φ n => Z10.l0 (mkR (run E (φ 0))) (φ 0) n c (c.length : Int) 0 c = _) 1 ?_ (fun _ _ _ h => h)
  have key : ∀ (n : Nat) (k : Nat) (hk : k < c.length) (hpre : ∀ j,0 ≤ j → j < k → VCimpl c j),Srt (c.take k) := fun n k hk hpre => srt_of fun j h1 h2 => by
    rw [List.length_take] at h2
    have := (hpre j (by omega) (by omega)).1.2 h1
    rw [getD_lt (by omega),getD_lt (by omega)] at this
    rw [getD_lt (by rw [List.length_take]; omega),getD_lt (by rw [List.length_take]; omega),List.getElem_take,List.getElem_take]
    exact this
  have hcon : ∀ (k : Nat) (hk : k < c.length) (hpre : ∀ j,0 ≤ j → j < k → VCimpl c j),Ret E n_Z106 [dLL (faces c[k]),⟨.fn n_Z11 (.cons (.ptr (.cons yK .nil)) (.cons (.ptr (.cons yI .nil)) .nil)),((c,()),((k : Int),()),())⟩] ⟨o_Z106,(pb (∃ x ∈ faces c[k],pb (¬ x ∈ c.take k) = true),())⟩ := fun k hk hpre =>
    ContainsFunc_SSint64_Sint64_impl_ValidComplex_1_ret (faces c[k]) ((c,()),((k : Int),()),()) _ (Nat.le_trans faces_length (sm_get hc hk).1) fun x hx => ValidComplex_1_ret c x k (by omega) hc (key 0 k hk hpre)
  refine (all_pb 1 (L := fun φ n k => Z10.l0 (mkR (run E (φ 0))) (φ 0) n c (c.length : Int) k c) (len := c.length) 0 (by omega) (VCimpl c) (fun b => some ⟨o_Z10,(b && decide ((c.length : Int) ≤ 48),())⟩) (fun _ _ _ _ => rfl) (fun k h1 h2 hP hpre => ?_) (fun k r h1 h2 hP hpre ih => ?_) (fun _ => ?_)).to ?_
  · simp only [Z10.l0_succ _ mk_ok]
    refine ev_t (decide_eq_true (by omega)) (ev_bind (idx_lt h2) (ev_call (ValidSimplex_ret _ (sm_get hc h2)) ?_))
    refine ev_b (fun hv => ?_) fun hv => ?_
    · simp only [Z10.j1_eq _ mk_ok,cond_true]; (first | exact ev_rfl | exact Ev.of fun _ => trivial)
    · have hv : Vx c[k] := pb_iff.1 (by simpa using hv)
      have last : (1 ≤ k → cmpS (c.getD (k - 1) []) (c.getD k []) < 0) → Ev fun φ => Z10.j1 (mkR (run E (φ 0))) (φ 0) (φ 1) c[k] c (c.length : Int) (k : Int) false c (k : Int) = some ⟨o_Z10,(false,())⟩ := fun hcm => by
        simp only [Z10.j1_eq _ mk_ok,cond_false]
        refine ev_call (facesOf_ret _ (sm_get hc h2).1) (ev_call (hcon k h2 hpre) (ev_t ?_ ev_rfl))
        refine pb_true (Classical.byContradiction fun hn => hP ⟨⟨by rw [getD_lt h2]; exact hv,hcm⟩,fun f hf => Classical.byContradiction fun hnf => hn ⟨f,by rw [getD_lt h2] at hf; exact hf,pb_true hnf⟩⟩)
      refine ev_d (fun hk => ?_) fun hk => ?_
      · rw [w64_small (by omega) (by omega),show ((k : Int) - 1) = ((k - 1 : Nat) : Int) by omega]
        have hk1 : k - 1 < c.length := by omega
        refine ev_bind (idx_lt hk1) (ev_call (compareSimplices_ret _ _ (sm_get hc hk1)) ?_)
        by_cases hcm : cmpS c[k - 1] c[k] < 0
        · simp only [show decide (cmpS c[k - 1] c[k] ≥ 0) = false from decide_eq_false (by omega)]
          exact last fun _ => by rw [getD_lt hk1,getD_lt h2]; exact hcm
        · simp only [show decide (cmpS c[k - 1] c[k] ≥ 0) = true from decide_eq_true (by omega),Z10.j1_eq _ mk_ok,cond_true]
          (first | exact ev_rfl | exact Ev.of fun _ => trivial)
      · exact last fun h => absurd h (by omega)
  · simp only [Z10.l0_succ _ mk_ok]
    have hP' := hP
    obtain ⟨⟨hv,hcm⟩,hfc⟩ := hP'
    rw [getD_lt h2] at hv hfc
    refine ev_t (decide_eq_true (by omega)) (ev_bind (idx_lt h2) (ev_call (ValidSimplex_ret _ (sm_get hc h2)) (ev_f (by rw [pb_true hv]; rfl) ?_)))
    have last : Ev fun φ => Z10.j1 (mkR (run E (φ 0))) (φ 0) (φ 1) c[k] c (c.length : Int) (k : Int) false c (k : Int) = r := by
      simp only [Z10.j1_eq _ mk_ok,cond_false]
      refine ev_call (facesOf_ret _ (sm_get hc h2).1) (ev_call (hcon k h2 hpre) (ev_f ?_ ?_))
      · exact pb_false fun ⟨x,hx,hn⟩ => pb_iff.1 hn (hfc x hx)
      · rw [w64_succ (by omega)]; exact ih
    refine ev_d (fun hk => ?_) fun hk => last
    rw [w64_small (by omega) (by omega),show ((k : Int) - 1) = ((k - 1 : Nat) : Int) by omega]
    have hk1 : k - 1 < c.length := by omega
    have hcm := hcm (by omega)
    rw [getD_lt hk1,getD_lt h2] at hcm
    refine ev_bind (idx_lt hk1) (ev_call (compareSimplices_ret _ _ (sm_get hc hk1)) ?_)
    simp only [show decide (cmpS c[k - 1] c[k] ≥ 0) = false from decide_eq_false (by omega)]
    exact last
  · simp only [Z10.l0_succ _ mk_ok]
    exact ev_f (decide_eq_false (by omega)) (ev_some (by rw [Bool.true_and]))
  · have : (pb (∀ j,0 ≤ j → j < c.length → VCimpl c j) && decide ((c.length : Int) ≤ 48)) = pb (VC c) := eq_pb (by
      rw [Bool.and_eq_true,pb_iff,decide_eq_true_iff,← VC_impl]
      exact ⟨fun h => ⟨h.1,by omega⟩,fun h => ⟨h.1,by omega⟩⟩)
    rw [this]

def VCspec (c : List Sim) (k : Nat) : Prop := (Vx (c.getD k []) ∧ (1 ≤ k → cmpS (c.getD (k - 1) []) (c.getD k []) < 0)) ∧ ∀ f ∈ faces (c.getD k []),f ∈ c

theorem l05Ok_ret (c : Cpx) (hc : Sm yK c.1) : Ret E n_Z151 [dC c] ⟨o_Z151,(pb (VC c.1),())⟩ := by
  have hc1 : c.1.length ≤ 1048576 := hc.1
  refine ret_of ?_
  simp only [run_Z151,Z151.ev]
  refine ev_d (fun h => ev_some ?_) fun h48 => ?_
  · rw [pb_false fun hv => by have := hv.1; omega]
  refine Ev.start (p := fun φ n => Z151.l0 (mkR (run E (φ 0))) (φ 0) n c 0 = _) 1 ?_ (fun _ _ _ h => h)
  -- the inner loop
  have inner : ∀ (k : Nat) (h2 : k < c.1.length) (r : Option Dv),((∀ f ∈ faces c.1[k],f ∈ c.1) → Ev fun φ => Z151.l0 (mkR (run E (φ 0))) (φ 0) (φ 1) c ((k + 1 : Nat) : Int) = r) → (¬ (∀ f ∈ faces c.1[k],f ∈ c.1) → r = some ⟨o_Z151,(false,())⟩) → Ev fun φ => Z151.l2 (mkR (run E (φ 0))) (φ 0) (φ 1) (φ 0) c (k : Int) c.1[k] 0 = r := fun k h2 r hgo hstop => by
    have hks : (c.1[k]).length ≤ 1048576 := (sm_get hc h2).1
    refine Ev.start (p := fun φ n => Z151.l2 (mkR (run E (φ 0))) (φ 0) (φ 1) n c (k : Int) c.1[k] 0 = _) 2 ?_ (fun _ _ _ h => h)
    by_cases hlen : 1 < (c.1[k]).length
    · obtain ⟨t,f⟩ := all_loop 2 (L := fun φ n i => Z151.l2 (mkR (run E (φ 0))) (φ 0) (φ 1) n c (k : Int) c.1[k] i) (len := (c.1[k]).length) 0 (by omega) (fun i => (c.1[k]).eraseIdx i ∈ c.1) (rt := r) (rf := some ⟨o_Z151,(false,())⟩) (fun _ _ _ _ => rfl) (fun i _ hi hP _ => by
        simp only [Z151.l2_succ _ mk_ok]
        refine ev_t (decide_eq_true (by omega)) ?_
        simp only [show decide (((c.1[k]).length : Int) > 1) = true from decide_eq_true (by omega),Z151.j3_eq _ mk_ok,cond_true]
        refine ev_call (l05Drop_ret _ i hi hks) (ev_call (l05Find_ret c _ hc) (ev_t (decide_eq_true ?_) ev_rfl))
        have hq := mt (findI_nonneg (c := c.1) (s := (c.1[k]).eraseIdx i)).1 hP; simp only; exact Int.not_le.1 hq) (fun i q _ hi hP _ ih => by
        simp only [Z151.l2_succ _ mk_ok]
        refine ev_t (decide_eq_true (by omega)) ?_
        simp only [show decide (((c.1[k]).length : Int) > 1) = true from decide_eq_true (by omega),Z151.j3_eq _ mk_ok,cond_true]
        refine ev_call (l05Drop_ret _ i hi hks) (ev_call (l05Find_ret c _ hc) (ev_f (decide_eq_false ?_) ?_))
        · have hq := (findI_nonneg (c := c.1) (s := (c.1[k]).eraseIdx i)).2 hP; simp only; exact Int.not_lt.2 hq
        · rw [w64_succ (by omega)]; exact ih) (fun hall => by
        simp only [Z151.l2_succ _ mk_ok]
        refine ev_f (decide_eq_false (by omega)) ?_
        simp only [Z151.j3_eq _ mk_ok,cond_false]
        rw [w64_succ (by omega)]
        exact hgo fun f hf => by
          obtain ⟨_,i,hi,rfl⟩ := faces_mem.1 hf
          exact hall i (by omega) hi)
      by_cases hall : ∀ i,0 ≤ i → i < (c.1[k]).length → (c.1[k]).eraseIdx i ∈ c.1
      · exact t hall
      · rw [hstop fun hf => hall fun i _ hi => hf _ (faces_mem.2 ⟨hlen,i,hi,rfl⟩)]
        exact f hall
    · refine Ev.round 2 (L := fun φ n => Z151.l2 (mkR (run E (φ 0))) (φ 0) (φ 1) n c (k : Int) c.1[k] 0) ?_ (fun _ _ _ => rfl)
      have hgo := hgo fun f hf => absurd (faces_mem.1 hf).1 hlen
      have hj : Ev fun φ => Z151.j3 (mkR (run E (φ 0))) (φ 0) (φ 1) (φ 2) c (k : Int) c.1[k] 0 false = r := by
        simp only [Z151.j3_eq _ mk_ok,cond_false]
        rw [w64_succ (by omega)]; exact hgo
      simp only [Z151.l2_succ _ mk_ok]
      refine ev_d (fun _ => ?_) fun _ => hj
      simp only [show decide (((c.1[k]).length : Int) > 1) = false from decide_eq_false (by omega)]
      exact hj
  refine (all_pb 1 (L := fun φ n k => Z151.l0 (mkR (run E (φ 0))) (φ 0) n c k) (len := c.1.length) 0 (by omega) (VCspec c.1) (fun b => some ⟨o_Z151,(b,())⟩) (fun _ _ _ _ => rfl) (fun k h1 h2 hP hpre => ?_) (fun k r h1 h2 hP hpre ih => ?_) (fun _ => ?_)).to ?_
  · simp only [Z151.l0_succ _ mk_ok]
    refine ev_t (decide_eq_true (by omega)) (ev_bind (idx_lt h2) (ev_call (l05Simplex_ret _ (sm_get hc h2)) ?_))
    refine ev_b (fun hv => ?_) fun hv => ?_
    · simp only [Z151.j1_eq _ mk_ok,cond_true]; (first | exact ev_rfl | exact Ev.of fun _ => trivial)
    · have hv : Vx c.1[k] := pb_iff.1 (by simpa using hv)
      have last : (1 ≤ k → cmpS (c.1.getD (k - 1) []) (c.1.getD k []) < 0) → Ev fun φ => Z151.j1 (mkR (run E (φ 0))) (φ 0) (φ 1) c (k : Int) c.1[k] false = some ⟨o_Z151,(false,())⟩ := fun hcm => by
        simp only [Z151.j1_eq _ mk_ok,cond_false]
        refine inner k h2 _ (fun hf => absurd ⟨⟨by rw [getD_lt h2]; exact hv,hcm⟩,by rw [getD_lt h2]; exact hf⟩ hP) fun _ => rfl
      refine ev_d (fun hk => ?_) fun hk => ?_
      · rw [w64_small (by omega) (by omega),show ((k : Int) - 1) = ((k - 1 : Nat) : Int) by omega]
        have hk1 : k - 1 < c.1.length := by omega
        refine ev_bind (idx_lt hk1) (ev_call (l05Before_ret _ _ (sm_get hc hk1)) ?_)
        by_cases hcm : cmpS c.1[k - 1] c.1[k] < 0
        · simp only [pb_true hcm]
          exact last fun _ => by rw [getD_lt hk1,getD_lt h2]; exact hcm
        · simp only [pb_false hcm,Z151.j1_eq _ mk_ok,cond_true,Bool.not_false]
          (first | exact ev_rfl | exact Ev.of fun _ => trivial)
      · exact last fun h => absurd h (by omega)
  · simp only [Z151.l0_succ _ mk_ok]
    obtain ⟨⟨hv,hcm⟩,hfc⟩ := hP
    rw [getD_lt h2] at hv hfc
    refine ev_t (decide_eq_true (by omega)) (ev_bind (idx_lt h2) (ev_call (l05Simplex_ret _ (sm_get hc h2)) (ev_f (by rw [pb_true hv]; rfl) ?_)))
    have last : Ev fun φ => Z151.j1 (mkR (run E (φ 0))) (φ 0) (φ 1) c (k : Int) c.1[k] false = r := by
      simp only [Z151.j1_eq _ mk_ok,cond_false]
      exact inner k h2 _ (fun _ => ih) fun hn => absurd hfc hn
    refine ev_d (fun hk => ?_) fun hk => last
    rw [w64_small (by omega) (by omega),show ((k : Int) - 1) = ((k - 1 : Nat) : Int) by omega]
    have hk1 : k - 1 < c.1.length := by omega
    have hcm := hcm (by omega)
    rw [getD_lt hk1,getD_lt h2] at hcm
    refine ev_bind (idx_lt hk1) (ev_call (l05Before_ret _ _ (sm_get hc hk1)) ?_)
    simp only [pb_true hcm,Bool.not_true]
    exact last
  · simp only [Z151.l0_succ _ mk_ok]
    exact ev_f (decide_eq_false (by omega)) ev_rfl
  · have : pb (∀ j,0 ≤ j → j < c.1.length → VCspec c.1 j) = pb (VC c.1) := pb_congr
      ⟨fun h => ⟨by omega,fun k hk => (h k (by omega) hk).1.1,fun k h1 hk => (h k (by omega) hk).1.2 h1,fun k hk => (h k (by omega) hk).2⟩,
       fun h k _ hk => ⟨⟨h.2.1 k hk,fun h1 => h.2.2.1 k h1 hk⟩,h.2.2.2 k hk⟩⟩
    rw [this]

end VeT

open Go Go.Proofs Ve
set_option linter.unusedVariables false
set_option linter.unusedSimpArgs false
namespace VeT

/-- primes up to 251 -/
def Pr (p : Int) : Prop := 2 ≤ p ∧ p ≤ 251 ∧ ∀ k : Nat,2 ≤ k → (k : Int) * k ≤ p → p % k ≠ 0

theorem ValidPrime_ret (p : Int) : Ret E n_Z13 [dI p] ⟨o_Z13,(pb (Pr p),())⟩ := by
  refine ret_of ?_
  simp only [run_Z13,Z13.ev]
  refine ev_call (within_ret _ _ _) (ev_b (fun h => ev_some ?_) fun h => ?_)
  · have h : ¬ (2 ≤ p ∧ p ≤ 251) := pb_not.1 (by simpa using h)
    rw [pb_false fun hp => h ⟨hp.1,hp.2.1⟩]
  have hr : 2 ≤ p ∧ p ≤ 251 := pb_iff.1 (by simpa using h)
  refine Ev.start (p := fun φ n => Z13.l0 (mkR (run E (φ 0))) (φ 0) n p 2 = _) 1 ?_ (fun _ _ _ h => h)
  refine loopR 1 (σ := Nat) (L := fun φ n k => Z13.l0 (mkR (run E (φ 0))) (φ 0) n p (k : Int)) (fun _ _ _ _ => rfl) (fun k => 2 ≤ k ∧ k ≤ 17 ∧ ∀ j : Nat,2 ≤ j → j < k → (j : Int) * j ≤ p → p % j ≠ 0) (fun _ => _) (fun k => 17 - k) (fun k ⟨h1,h2,h3⟩ ih => ?_) 2 ⟨by omega,by omega,fun j _ _ => by omega⟩
  simp only [Z13.l0_succ _ mk_ok]
  have hkk : 0 ≤ (k : Int) * k ∧ (k : Int) * k ≤ 289 := ⟨Int.mul_nonneg (by omega) (by omega),by have := Nat.mul_le_mul h2 h2; omega⟩
  have e : w64 ((k : Int) * k) = (k : Int) * k := w64_small (by omega) (by omega)
  simp only [e]
  refine ev_d (fun hle => ?_) fun hle => ev_some ?_
  · have hk16 : k < 16 := Classical.byContradiction fun hn => by
      have := Nat.mul_le_mul (show 16 ≤ k by omega) (show 16 ≤ k by omega); omega
    refine ev_chk (by simp; omega) ?_
    rw [Int.tmod_eq_emod_of_nonneg (by omega)]
    refine ev_b (fun h0 => ev_some ?_) fun h0 => ?_
    · rw [pb_false fun hp => hp.2.2 k h1 hle (by simpa using h0)]
    · rw [w64_succ (by omega)]
      refine ih (k + 1) ⟨by omega,by omega,fun j hj1 hj2 hj3 => ?_⟩ (by show 17 - (k + 1) < 17 - k; omega)
      by_cases hjk : j = k
      · subst hjk; simpa using h0
      · exact h3 j hj1 (by omega) hj3
  · rw [pb_true]
    refine ⟨hr.1,hr.2,fun j hj1 hj2 => ?_⟩
    by_cases hjk : j < k
    · exact h3 j hj1 hjk hj2
    · exfalso
      have := Nat.mul_le_mul (show k ≤ j by omega) (show k ≤ j by omega); omega

theorem l02Prime_ret (p : Int) : Ret E n_Z133 [dI p] ⟨o_Z133,(pb (Pr p),())⟩ := by
  refine ret_of ?_
  simp only [run_Z133,Z133.ev]
  refine ev_call (l00In_ret _ _ _) (ev_b (fun h => ev_some ?_) fun h => ?_)
  · have h : ¬ (2 ≤ p ∧ p ≤ 251) := pb_not.1 (by simpa using h)
    rw [pb_false fun hp => h ⟨hp.1,hp.2.1⟩]
  have hr : 2 ≤ p ∧ p ≤ 251 := pb_iff.1 (by simpa using h)
  refine Ev.start (p := fun φ n => Z133.l0 (mkR (run E (φ 0))) (φ 0) n p 2 = _) 1 ?_ (fun _ _ _ h => h)
  refine loopR 1 (σ := Nat) (L := fun φ n k => Z133.l0 (mkR (run E (φ 0))) (φ 0) n p (k : Int)) (fun _ _ _ _ => rfl) (fun k => 2 ≤ k ∧ k ≤ 17 ∧ ∀ j : Nat,2 ≤ j → j < k → (j : Int) * j ≤ p → p % j ≠ 0) (fun _ => _) (fun k => 17 - k) (fun k ⟨h1,h2,h3⟩ ih => ?_) 2 ⟨by omega,by omega,fun j _ _ => by omega⟩
  simp only [Z133.l0_succ _ mk_ok]
  have hkk : 0 ≤ (k : Int) * k ∧ (k : Int) * k ≤ 289 := ⟨Int.mul_nonneg (by omega) (by omega),by have := Nat.mul_le_mul h2 h2; omega⟩
  have e : w64 ((k : Int) * k) = (k : Int) * k := w64_small (by omega) (by omega)
  simp only [e]
  refine ev_d (fun hle => ?_) fun hle => ev_some ?_
  · have hk16 : k < 16 := Classical.byContradiction fun hn => by
      have := Nat.mul_le_mul (show 16 ≤ k by omega) (show 16 ≤ k by omega); omega
    refine ev_chk (by simp; omega) ?_
    rw [Int.tmod_eq_emod_of_nonneg (by omega)]
    refine ev_b (fun h0 => ev_some ?_) fun h0 => ?_
    · rw [pb_false fun hp => hp.2.2 k h1 hle (by simpa using h0)]
    · rw [w64_succ (by omega)]
      refine ih (k + 1) ⟨by omega,by omega,fun j hj1 hj2 hj3 => ?_⟩ (by show 17 - (k + 1) < 17 - k; omega)
      by_cases hjk : j = k
      · subst hjk; simpa using h0
      · exact h3 j hj1 (by omega) hj3
  · rw [pb_true]
    refine ⟨hr.1,hr.2,fun j hj1 hj2 => ?_⟩
    by_cases hjk : j < k
    · exact h3 j hj1 hjk hj2
    · exfalso
      have := Nat.mul_le_mul (show k ≤ j by omega) (show k ≤ j by omega); omega

theorem specValidPrime_ret (p : Int) : Ret E n_Z127 [dI p] ⟨o_Z127,(pb (Pr p),())⟩ := by
  refine ret_of ?_
  simp only [run_Z127,Z127.ev]
  exact ev_call (l02Prime_ret p) ev_rfl

/-! matrices -/
def Elems (v : Sim) (p : Int) : Prop := ∀ x ∈ v,0 ≤ x ∧ x ≤ p - 1

theorem isElement_ret (a p : Int) (hp : 0 ≤ p ∧ p ≤ 1048576) : Ret E n_Z50 [dI a,dI p] ⟨o_Z50,(pb (0 ≤ a ∧ a ≤ p - 1),())⟩ := by
  refine ret_of ?_
  simp only [run_Z50,Z50.ev]
  rw [w64_small (by omega) (by omega)]
  exact ev_call (within_ret _ _ _) ev_rfl

theorem areElements_1_ret (a p : Int) (hp : 0 ≤ p ∧ p ≤ 1048576) : Ret E n_Z20 [dI a,⟨.ptr (.cons yI .nil),(p,())⟩] ⟨o_Z20,(!pb (0 ≤ a ∧ a ≤ p - 1),())⟩ := by
  refine ret_of ?_
  simp only [run_Z20,Z20.ev]
  exact ev_call (isElement_ret _ _ hp) ev_rfl

theorem none_bad {α : Type} {s : List α} {P : α → Prop} : (!pb (∃ x ∈ s,(!pb (P x)) = true)) = pb (∀ x ∈ s,P x) := eq_pb (by
  simp only [Bool.not_eq_true',pb_not]
  exact ⟨fun h x hx => Classical.byContradiction fun hn => h ⟨x,hx,hn⟩,fun h ⟨x,hx,hn⟩ => hn (h x hx)⟩)

theorem areElements_ret (v : Sim) (p : Int) (hv : v.length ≤ 1048576) (hp : 0 ≤ p ∧ p ≤ 1048576) : Ret E n_Z19 [dL v,dI p] ⟨o_Z19,(pb (Elems v p),())⟩ := by
  refine ret_of ?_
  simp only [run_Z19,Z19.ev]
  refine ev_call (ContainsFunc_Sint64_int64_impl_areElements_1_ret v ((p,()),()) _ hv fun x _ => areElements_1_ret x p hp) (ev_some ?_)
  simp only [none_bad]; rfl

theorem l03Column_ret (v : Sim) (n p : Int) (hv : v.length ≤ 1048576) (hp : 0 ≤ p ∧ p ≤ 1048576) : Ret E n_Z134 [dL v,dI n,dI p] ⟨o_Z134,(pb (Elems v p ∧ (v.length : Int) = n),())⟩ := by
  have e : w64 (p - 1) = p - 1 := w64_small (by omega) (by omega)
  refine ret_of ?_
  simp only [run_Z134,Z134.ev]
  refine Ev.start (p := fun φ n' => Z134.l0 (mkR (run E (φ 0))) (φ 0) n' v n p 0 = _) 1 ?_ (fun _ _ _ h => h)
  refine (all_pb 1 (L := fun φ n' k => Z134.l0 (mkR (run E (φ 0))) (φ 0) n' v n p k) (len := v.length) 0 (by omega) (fun j => 0 ≤ v.getD j 0 ∧ v.getD j 0 ≤ p - 1) (fun b => some ⟨o_Z134,(b && ((v.length : Int) == n),())⟩) (fun _ _ _ _ => rfl) (fun k h1 h2 hP _ => ?_) (fun k r h1 h2 hP _ ih => ?_) (fun _ => ?_)).to ?_
  · simp only [Z134.l0_succ _ mk_ok,e]
    rw [getD_lt h2] at hP
    exact ev_t (decide_eq_true (by omega)) (ev_bind (idx_lt h2) (ev_call (l00In_ret _ _ _) (ev_t (by rw [pb_false hP]; rfl) ev_rfl)))
  · simp only [Z134.l0_succ _ mk_ok,e]
    rw [getD_lt h2] at hP
    refine ev_t (decide_eq_true (by omega)) (ev_bind (idx_lt h2) (ev_call (l00In_ret _ _ _) (ev_f (by rw [pb_true hP]; rfl) ?_)))
    rw [w64_succ (by omega)]; exact ih
  · simp only [Z134.l0_succ _ mk_ok]
    exact ev_f (decide_eq_false (by omega)) (ev_some (by rw [Bool.true_and]))
  · have : (pb (∀ j,0 ≤ j → j < v.length → 0 ≤ v.getD j 0 ∧ v.getD j 0 ≤ p - 1) && ((v.length : Int) == n)) = pb (Elems v p ∧ (v.length : Int) = n) := eq_pb (by
      rw [Bool.and_eq_true,pb_iff,beq_iff_eq]
      refine and_congr_left' ⟨fun h x hx => ?_,fun h j _ hj => ?_⟩
      · obtain ⟨j,hj,rfl⟩ := List.mem_iff_getElem.1 hx
        have := h j (by omega) hj
        rwa [getD_lt hj] at this
      · rw [getD_lt hj]; exact h _ (List.getElem_mem hj))
    rw [this]

theorem isSide_ret (n : Int) : Ret E n_Z52 [dI n] ⟨o_Z52,(pb (0 ≤ n ∧ n ≤ 32),())⟩ := by
  refine ret_of ?_
  simp only [run_Z52,Z52.ev]
  exact ev_call (within_ret _ _ _) ev_rfl

theorem sizeI_ret (s : Sim) : Ret E n_Z66 [dL s] ⟨o_Z66,((s.length : Int),())⟩ := by
  refine ret_of ?_
  simp only [run_Z66,Z66.ev]
  (first | exact ev_rfl | exact Ev.of fun _ => trivial)

theorem sizeL_ret (s : List Sim) : Ret E n_Z65 [dLL s] ⟨o_Z65,((s.length : Int),())⟩ := by
  refine ret_of ?_
  simp only [run_Z65,Z65.ev]
  (first | exact ev_rfl | exact Ev.of fun _ => trivial)

/-- valid matrices -/
def VM (m : Mat) : Prop := Pr m.1 ∧ (0 ≤ m.2.1 ∧ m.2.1 ≤ 32) ∧ (0 ≤ m.2.2.1 ∧ m.2.2.1 ≤ 32) ∧ (m.2.2.2.1.length : Int) = m.2.1 * m.2.2.1 ∧ Elems m.2.2.2.1 m.1

theorem mul_side {a b : Int} (ha : 0 ≤ a ∧ a ≤ 32) (hb : 0 ≤ b ∧ b ≤ 32) : 0 ≤ a * b ∧ a * b ≤ 1024 := by
  obtain ⟨x,rfl⟩ := Int.eq_ofNat_of_zero_le ha.1
  obtain ⟨y,rfl⟩ := Int.eq_ofNat_of_zero_le hb.1
  have := Nat.mul_le_mul (show x ≤ 32 by omega) (show y ≤ 32 by omega)
  have e : (x : Int) * y = ((x * y : Nat) : Int) := by simp
  show 0 ≤ (x : Int) * y ∧ (x : Int) * y ≤ 1024
  rw [e]; omega

theorem ValidMatrix_ret (m : Mat) (hm : Sm (.st cM) m) : Ret E n_Z12 [dI m.1,dI m.2.1,dI m.2.2.1,dL m.2.2.2.1] ⟨o_Z12,(pb (VM m),())⟩ := by
  have hl : m.2.2.2.1.length ≤ 1048576 := hm.2.2.2.1.1
  refine ret_of ?_
  simp only [run_Z12,Z12.ev]
  refine ev_call (ValidPrime_ret _) (ev_b (fun h1 => ev_call (isSide_ret _) (ev_b (fun h2 => ev_call (isSide_ret _) (ev_b (fun h3 => ev_call (sizeI_ret _) (ev_b (fun h4 => ?_) fun h4 => ev_some ?_)) fun h3 => ev_some ?_)) fun h2 => ev_some ?_)) fun h1 => ev_some ?_)
  · have h1 := pb_iff.1 h1; have h2 := pb_iff.1 h2; have h3 := pb_iff.1 h3
    have := mul_side h2 h3
    rw [w64_small (by omega) (by omega)] at h4
    refine ev_call (areElements_ret _ _ hl ⟨by have := h1.1; omega,by have := h1.2.1; omega⟩) (ev_some ?_)
    exact congrArg (fun b : Bool => some (⟨o_Z12,(b,())⟩ : Dv)) (pb_congr ⟨fun h => ⟨h1,h2,h3,by simpa using h4,h⟩,fun h => h.2.2.2.2⟩)
  · have h2 := pb_iff.1 h2; have h3 := pb_iff.1 h3
    have := mul_side h2 h3
    rw [w64_small (by omega) (by omega)] at h4
    rw [pb_false fun h => by have := h.2.2.2.1; simp [this] at h4]
  · rw [pb_false fun h => pb_not.1 h3 h.2.2.1]
  · rw [pb_false fun h => pb_not.1 h2 h.2.1]
  · rw [pb_false fun h => pb_not.1 h1 h.1]

theorem l03Ok_ret (m : Mat) (hm : Sm (.st cM) m) : Ret E n_Z139 [dM m] ⟨o_Z139,(pb (VM m),())⟩ := by
  have hl : m.2.2.2.1.length ≤ 1048576 := hm.2.2.2.1.1
  refine ret_of ?_
  simp only [run_Z139,Z139.ev]
  refine ev_call (specValidPrime_ret _) (ev_b (fun h1 => ev_call (l00In_ret _ _ _) (ev_b (fun h2 => ev_call (l00In_ret _ _ _) (ev_b (fun h3 => ?_) fun h3 => ev_some ?_)) fun h2 => ev_some ?_)) fun h1 => ev_some ?_)
  · have h1 := pb_iff.1 h1; have h2 := pb_iff.1 h2; have h3 := pb_iff.1 h3
    have := mul_side h2 h3
    rw [w64_small (by omega) (by omega)]
    refine ev_call (l03Column_ret _ _ _ hl ⟨by have := h1.1; omega,by have := h1.2.1; omega⟩) (ev_some ?_)
    exact congrArg (fun b : Bool => some (⟨o_Z139,(b,())⟩ : Dv)) (pb_congr ⟨fun h => ⟨h1,h2,h3,h.2,h.1⟩,fun h => ⟨h.2.2.2.2,h.2.2.2.1⟩⟩)
  · rw [pb_false fun h => pb_not.1 h3 h.2.2.1]
  · rw [pb_false fun h => pb_not.1 h2 h.2.1]
  · rw [pb_false fun h => pb_not.1 h1 h.1]

def Bt (m : Mat) (p f t : Int) : Prop := VM m ∧ m.1 = p ∧ m.2.1 = t ∧ m.2.2.1 = f

theorem isBetween_ret (m : Mat) (p f t : Int) (hm : Sm (.st cM) m) : Ret E n_Z48 [dI m.1,dI m.2.1,dI m.2.2.1,dL m.2.2.2.1,dI p,dI f,dI t] ⟨o_Z48,(pb (Bt m p f t),())⟩ := by
  refine ret_of ?_
  simp only [run_Z48,Z48.ev]
  refine ev_call (ValidMatrix_ret m hm) (ev_b (fun h1 => ev_b (fun h2 => ev_b (fun h3 => ev_some ?_) fun h3 => ev_some ?_) fun h2 => ev_some ?_) fun h1 => ev_some ?_)
  · have h1 := pb_iff.1 h1
    have : (m.2.2.1 == f) = pb (Bt m p f t) := eq_pb (by
      rw [beq_iff_eq]; exact ⟨fun h => ⟨h1,by simpa using h2,by simpa using h3,h⟩,fun h => h.2.2.2⟩)
    rw [this]
  · rw [pb_false fun h => by have := h.2.2.1; simp [this] at h3]
  · rw [pb_false fun h => by have := h.2.1; simp [this] at h2]
  · rw [pb_false fun h => pb_not.1 h1 h.1]

/-! stalks -/
def ofDim (c : List Sim) (d : Int) (k : Nat) : List Int := ((List.range k).filter fun i => decide (((c.getD i []).length : Int) = d + 1)).map Int.ofNat

theorem ofDim_succ (c : List Sim) (d : Int) (k : Nat) : ofDim c d (k + 1) = ofDim c d k ++ if ((c.getD k []).length : Int) = d + 1 then [(k : Int)] else [] := by
  unfold ofDim
  rw [List.range_succ,List.filter_append,List.map_append]
  congr 1
  by_cases h : ((c.getD k []).length : Int) = d + 1
  · rw [if_pos h,List.filter_cons_of_pos (by simpa using h)]; rfl
  · rw [if_neg h,List.filter_cons_of_neg (by simpa using h)]; rfl

theorem ofDim_length (c : List Sim) (d : Int) (k : Nat) : (ofDim c d k).length ≤ k := by
  unfold ofDim
  rw [List.length_map]
  exact Nat.le_trans (List.length_filter_le _ _) (by simp)

theorem ofDim_mem {c : List Sim} {d : Int} {k : Nat} {x : Int} (h : x ∈ ofDim c d k) : ∃ i : Nat,x = i ∧ i < k := by
  unfold ofDim at h
  rw [List.mem_map] at h
  obtain ⟨i,hi,rfl⟩ := h
  exact ⟨i,rfl,by have := (List.mem_filter.1 hi).1; simpa using this⟩

theorem simplicesOf_ret (c : List Sim) (d : Int) (hc : Sm yK c) (hd : -1 ≤ d ∧ d ≤ 1048576) : Ret E n_Z64 [dLL c,dI d] ⟨o_Z64,(ofDim c d c.length,())⟩ := by
  have hc1 : c.length ≤ 1048576 := hc.1
  have hd1 : w64 (d + 1) = d + 1 := w64_small (by omega) (by omega)
  refine ret_of ?_
  simp only [run_Z64,Z64.ev]
  refine Ev.start (p := fun φ n => Z64.l0 (mkR (run E (φ 0))) (φ 0) n d c (c.length : Int) 0 [] = _) 1 ?_ (fun _ _ _ h => h)
  refine fold_loop 1 (L := fun φ n k a => Z64.l0 (mkR (run E (φ 0))) (φ 0) n d c (c.length : Int) k a) (len := c.length) (fun k => ofDim c d k) (fun _ _ _ _ _ => rfl) (fun k r hk ih => ?_) ?_
  · simp only [Z64.l0_succ _ mk_ok,hd1]
    rw [ofDim_succ,getD_lt hk] at ih
    have hlen := ofDim_length c d k
    refine ev_t (decide_eq_true (by omega)) (ev_bind (idx_lt hk) (ev_call (sizeI_ret _) ?_))
    rw [w64_succ (by omega)]
    refine ev_b (fun he => ev_chk (decide_eq_true (by simp only [List.length_cons,List.length_nil]; omega)) ?_) fun he => ?_
    · rw [if_pos (by simpa using he)] at ih; exact ih
    · rw [if_neg (by simpa using he),List.append_nil] at ih; exact ih
  · simp only [Z64.l0_succ _ mk_ok]
    exact ev_f (decide_eq_false (by omega)) ev_rfl

theorem l05Of_ret (c : List Sim) (d : Int) (hc : Sm yK c) (hd : -1 ≤ d ∧ d ≤ 1048576) : Ret E n_Z150 [dC (c,()),dI d] ⟨o_Z150,(ofDim c d c.length,())⟩ := by
  have hc1 : c.length ≤ 1048576 := hc.1
  have hd1 : w64 (d + 1) = d + 1 := w64_small (by omega) (by omega)
  refine ret_of ?_
  simp only [run_Z150,Z150.ev]
  refine Ev.start (p := fun φ n => Z150.l0 (mkR (run E (φ 0))) (φ 0) n (c,()) d 0 [] = _) 1 ?_ (fun _ _ _ h => h)
  refine fold_loop 1 (L := fun φ n k a => Z150.l0 (mkR (run E (φ 0))) (φ 0) n (c,()) d k a) (len := c.length) (fun k => ofDim c d k) (fun _ _ _ _ _ => rfl) (fun k r hk ih => ?_) ?_
  · simp only [Z150.l0_succ _ mk_ok,hd1]
    rw [ofDim_succ,getD_lt hk] at ih
    have hlen := ofDim_length c d k
    refine ev_t (decide_eq_true (by omega)) (ev_bind (idx_lt hk) ?_)
    rw [w64_succ (by omega)]
    refine ev_b (fun he => ev_chk (decide_eq_true (by simp only [List.length_cons,List.length_nil]; omega)) ?_) fun he => ?_
    · rw [if_pos (by simpa using he)] at ih; exact ih
    · rw [if_neg (by simpa using he),List.append_nil] at ih; exact ih
  · simp only [Z150.l0_succ _ mk_ok]
    exact ev_f (decide_eq_false (by omega)) ev_rfl

/-- the sum of the stalks of a dimension -/
def sumD (c : List Sim) (st : Sim) (d : Int) (k : Nat) : Int := (((ofDim c d c.length).take k).map fun i => st.getD i.toNat 0).sum

theorem sumD_succ (c : List Sim) (st : Sim) (d : Int) (k : Nat) (h : k < (ofDim c d c.length).length) : sumD c st d (k + 1) = sumD c st d k + st.getD ((ofDim c d c.length)[k]).toNat 0 := by
  unfold sumD
  rw [List.take_succ_eq_append_getElem h,List.map_append,List.sum_append]
  simp

theorem sumD_le {c : List Sim} {st : Sim} (hst : ∀ x ∈ st,0 ≤ x ∧ x ≤ 3) (d : Int) (k : Nat) : 0 ≤ sumD c st d k ∧ sumD c st d k ≤ 3 * k := by
  induction k with
  | zero => simp [sumD]
  | succ k ih =>
    by_cases h : k < (ofDim c d c.length).length
    · rw [sumD_succ _ _ _ _ h]
      have : 0 ≤ st.getD ((ofDim c d c.length)[k]).toNat 0 ∧ st.getD ((ofDim c d c.length)[k]).toNat 0 ≤ 3 := by
        by_cases hl : ((ofDim c d c.length)[k]).toNat < st.length
        · rw [getD_lt hl]; exact hst _ (List.getElem_mem hl)
        · rw [List.getD_eq_getElem?_getD,List.getElem?_eq_none (by omega)]; simp
      omega
    · have : sumD c st d (k + 1) = sumD c st d k := by
        unfold sumD
        rw [List.take_of_length_le (by omega),List.take_of_length_le (by omega)]
      omega

theorem stalkSum_ret (c : List Sim) (st : Sim) (d : Int) (p : Int) (ms : List Mat) (hc : Sm yK c) (hl : st.length = c.length) (hst : ∀ x ∈ st,0 ≤ x ∧ x ≤ 3) (hd : -1 ≤ d ∧ d ≤ 1048576) :
    Ret E n_Z68 [dLL c,dI p,dL st,dMs ms,dI d] ⟨o_Z68,(sumD c st d (ofDim c d c.length).length,())⟩ := by
  have hc1 : c.length ≤ 1048576 := hc.1
  have hol := ofDim_length c d c.length
  refine ret_of ?_
  simp only [run_Z68,Z68.ev]
  refine ev_call (simplicesOf_ret c d hc hd) ?_
  refine Ev.start (p := fun φ n => Z68.l0 (mkR (run E (φ 0))) (φ 0) n 0 (ofDim c d c.length) ((ofDim c d c.length).length : Int) 0 c p st ms = _) 1 ?_ (fun _ _ _ h => h)
  refine fold_loop 1 (L := fun φ n k a => Z68.l0 (mkR (run E (φ 0))) (φ 0) n a (ofDim c d c.length) ((ofDim c d c.length).length : Int) k c p st ms) (len := (ofDim c d c.length).length) (fun k => sumD c st d k) (fun _ _ _ _ _ => rfl) (fun k r hk ih => ?_) ?_
  · simp only [Z68.l0_succ _ mk_ok]
    obtain ⟨i,hi,hik⟩ := ofDim_mem (List.getElem_mem hk)
    rw [sumD_succ _ _ _ _ hk,hi,Int.toNat_natCast,getD_lt (by omega)] at ih
    have hb := sumD_le hst d k (c := c)
    have hb2 := hst _ (List.getElem_mem (show i < st.length by omega))
    refine ev_t (decide_eq_true (by omega)) (ev_bind (idx_lt hk) ?_)
    simp only [hi]
    refine ev_bind (idx_lt (by omega)) ?_
    rw [w64_succ (by omega),w64_small (by omega) (by omega)]
    exact ih
  · simp only [Z68.l0_succ _ mk_ok]
    exact ev_f (decide_eq_false (by omega)) ev_rfl

theorem l09Sum_ret (c : List Sim) (st : Sim) (d : Int) (hc : Sm yK c) (hl : st.length = c.length) (hst : ∀ x ∈ st,0 ≤ x ∧ x ≤ 3) (hd : -1 ≤ d ∧ d ≤ 1048576) :
    Ret E n_Z164 [dC (c,()),dL st,dI d] ⟨o_Z164,(sumD c st d (ofDim c d c.length).length,())⟩ := by
  have hc1 : c.length ≤ 1048576 := hc.1
  have hol := ofDim_length c d c.length
  refine ret_of ?_
  simp only [run_Z164,Z164.ev]
  refine ev_call (l05Of_ret c d hc hd) ?_
  refine Ev.start (p := fun φ n => Z164.l0 (mkR (run E (φ 0))) (φ 0) n st (ofDim c d c.length) 0 0 = _) 1 ?_ (fun _ _ _ h => h)
  refine fold_loop 1 (L := fun φ n k a => Z164.l0 (mkR (run E (φ 0))) (φ 0) n st (ofDim c d c.length) a k) (len := (ofDim c d c.length).length) (fun k => sumD c st d k) (fun _ _ _ _ _ => rfl) (fun k r hk ih => ?_) ?_
  · simp only [Z164.l0_succ _ mk_ok]
    obtain ⟨i,hi,hik⟩ := ofDim_mem (List.getElem_mem hk)
    rw [sumD_succ _ _ _ _ hk,hi,Int.toNat_natCast,getD_lt (by omega)] at ih
    have hb := sumD_le hst d k (c := c)
    have hb2 := hst _ (List.getElem_mem (show i < st.length by omega))
    refine ev_t (decide_eq_true (by omega)) (ev_bind (idx_lt hk) ?_)
    simp only [hi]
    refine ev_bind (idx_lt (by omega)) ?_
    rw [w64_succ (by omega),w64_small (by omega) (by omega)]
    exact ih
  · simp only [Z164.l0_succ _ mk_ok]
    exact ev_f (decide_eq_false (by omega)) ev_rfl

end VeT

open Go Go.Proofs Ve
set_option linter.unusedVariables false
set_option linter.unusedSimpArgs false
namespace VeT

theorem sum_len_le {c : List Sim} {st : Sim} (hst : ∀ x ∈ st,0 ≤ x ∧ x ≤ 3) (d : Int) : 0 ≤ sumD c st d (ofDim c d c.length).length := (sumD_le hst d _).1

/-- the sum of a dimension's stalks -/
def SD (c : List Sim) (st : Sim) (d : Int) : Int := sumD c st d (ofDim c d c.length).length

/-- stalks -/
def SK (c : List Sim) (st : Sim) : Prop := st.length = c.length ∧ (∀ x ∈ st,0 ≤ x ∧ x ≤ 3) ∧ ∀ d : Nat,d < 4 → SD c st (d : Int) ≤ 32

theorem areStalks_1_ret (n : Int) : Ret E n_Z22 [dI n] ⟨o_Z22,(!pb (0 ≤ n ∧ n ≤ 3),())⟩ := by
  refine ret_of ?_
  simp only [run_Z22,Z22.ev]
  exact ev_call (within_ret _ _ _) ev_rfl

theorem areStalks_ret (c : List Sim) (st : Sim) (hc : Sm yK c) (hs : st.length ≤ 1048576) : Ret E n_Z21 [dLL c,dL st] ⟨o_Z21,(pb (SK c st),())⟩ := by
  refine ret_of ?_
  simp only [run_Z21,Z21.ev]
  refine ev_b (fun h => ?_) fun h => ?_
  · simp only [Z21.j0_eq _ mk_ok,cond_true]
    have h : ¬ (st.length : Int) = c.length := by simpa using h
    rw [pb_false fun hk => h (by rw [hk.1])]; (first | exact ev_rfl | exact Ev.of fun _ => trivial)
  have hl : st.length = c.length := by have : (st.length : Int) = c.length := by simpa using h
                                       omega
  refine ev_call (ContainsFunc_Sint64_int64_impl_areStalks_1_ret st _ hs fun x _ => areStalks_1_ret x) ?_
  simp only [Z21.j0_eq _ mk_ok]
  have e := none_bad (s := st) (P := fun x => 0 ≤ x ∧ x ≤ 3)
  refine ev_b (fun h => ?_) fun h => ?_
  · simp only [h] at e
    rw [pb_false fun hk => pb_not.1 e.symm hk.2.1]; (first | exact ev_rfl | exact Ev.of fun _ => trivial)
  · simp only [h] at e
    have hst : ∀ x ∈ st,0 ≤ x ∧ x ≤ 3 := pb_iff.1 e.symm
    refine Ev.start (p := fun φ n => Z21.l1 (mkR (run E (φ 0))) (φ 0) n st 0 c = _) 1 ?_ (fun _ _ _ h => h)
    refine (all_pb 1 (L := fun φ n k => Z21.l1 (mkR (run E (φ 0))) (φ 0) n st k c) (len := 4) 0 (by omega) (fun d => SD c st (d : Int) ≤ 32) (fun b => some ⟨o_Z21,(b,())⟩) (fun _ _ _ _ => rfl) (fun k h1 h2 hP _ => ?_) (fun k r h1 h2 hP _ ih => ?_) (fun _ => ?_)).to ?_
    · simp only [Z21.l1_succ _ mk_ok]
      exact ev_t (decide_eq_true (by omega)) (ev_call (stalkSum_ret c st _ _ _ hc hl hst (by omega)) (ev_t (decide_eq_true (Int.not_le.1 hP)) ev_rfl))
    · simp only [Z21.l1_succ _ mk_ok]
      refine ev_t (decide_eq_true (by omega)) (ev_call (stalkSum_ret c st _ _ _ hc hl hst (by omega)) (ev_f (decide_eq_false (Int.not_lt.2 hP)) ?_))
      rw [w64_succ (by omega)]; exact ih
    · simp only [Z21.l1_succ _ mk_ok]
      exact ev_f (decide_eq_false (by omega)) ev_rfl
    · exact congrArg (fun b : Bool => some (⟨o_Z21,(b,())⟩ : Dv)) (pb_congr ⟨fun h => ⟨hl,hst,fun d hd => h d (by omega) hd⟩,fun h d _ hd => h.2.2 d hd⟩)

theorem l09Stalks_ret (c : List Sim) (st : Sim) (hc : Sm yK c) (hs : st.length ≤ 1048576) : Ret E n_Z163 [dC (c,()),dL st] ⟨o_Z163,(pb (SK c st),())⟩ := by
  refine ret_of ?_
  simp only [run_Z163,Z163.ev]
  refine ev_call (l03Column_ret st _ _ hs (by omega)) (ev_b (fun h => ?_) fun h => ?_)
  · have h := pb_not.1 (show pb (Elems st 4 ∧ (st.length : Int) = c.length) = false by simpa using h)
    rw [pb_false fun hk => h ⟨hk.2.1,by rw [hk.1]⟩]; (first | exact ev_rfl | exact Ev.of fun _ => trivial)
  · have h := pb_iff.1 (show pb (Elems st 4 ∧ (st.length : Int) = c.length) = true by simpa using h)
    have hl : st.length = c.length := by have := h.2; omega
    have hst : ∀ x ∈ st,0 ≤ x ∧ x ≤ 3 := h.1
    refine Ev.start (p := fun φ n => Z163.l0 (mkR (run E (φ 0))) (φ 0) n (c,()) st 0 = _) 1 ?_ (fun _ _ _ h => h)
    refine (all_pb 1 (L := fun φ n k => Z163.l0 (mkR (run E (φ 0))) (φ 0) n (c,()) st k) (len := 4) 0 (by omega) (fun d => SD c st (d : Int) ≤ 32) (fun b => some ⟨o_Z163,(b,())⟩) (fun _ _ _ _ => rfl) (fun k h1 h2 hP _ => ?_) (fun k r h1 h2 hP _ ih => ?_) (fun _ => ?_)).to ?_
    · simp only [Z163.l0_succ _ mk_ok]
      exact ev_t (decide_eq_true (by omega)) (ev_call (l09Sum_ret c st _ hc hl hst (by omega)) (ev_t (decide_eq_true (Int.not_le.1 hP)) ev_rfl))
    · simp only [Z163.l0_succ _ mk_ok]
      refine ev_t (decide_eq_true (by omega)) (ev_call (l09Sum_ret c st _ hc hl hst (by omega)) (ev_f (decide_eq_false (Int.not_lt.2 hP)) ?_))
      rw [w64_succ (by omega)]; exact ih
    · simp only [Z163.l0_succ _ mk_ok]
      exact ev_f (decide_eq_false (by omega)) ev_rfl
    · exact congrArg (fun b : Bool => some (⟨o_Z163,(b,())⟩ : Dv)) (pb_congr ⟨fun h => ⟨hl,hst,fun d hd => h d (by omega) hd⟩,fun h d _ hd => h.2.2 d hd⟩)

/-! faces' indices -/
noncomputable def fIdx (c : List Sim) (k : Nat) : List Int := (faces (c.getD k [])).map (findI c)

theorem findI_lt {c : List Sim} {s : Sim} : findI c s < c.length ∧ -1 ≤ findI c s := by
  unfold findI idxf
  cases h : c.findIdx? (fun x => pb (x = s)) with
  | none => simp only [o2i]; omega
  | some k =>
    rw [List.findIdx?_eq_some_iff_getElem] at h
    obtain ⟨h,_⟩ := h
    simp only [o2i]; omega

theorem fIdx_length {c : List Sim} {k : Nat} : (fIdx c k).length = if 1 < (c.getD k []).length then (c.getD k []).length else 0 := by
  unfold fIdx faces
  rw [List.length_map]
  split <;> simp

theorem fIdx_mem {c : List Sim} (h : VC c) {k : Nat} (hk : k < c.length) {x : Int} (hx : x ∈ fIdx c k) : 0 ≤ x ∧ x < c.length := by
  unfold fIdx at hx
  rw [List.mem_map] at hx
  obtain ⟨f,hf,rfl⟩ := hx
  exact ⟨findI_nonneg.2 (h.2.2.2 k hk f hf),findI_lt.1⟩

theorem faceIndices_ret (c : List Sim) (k : Nat) (hk : k < c.length) (hc : Sm yK c) (hs : Srt c) : Ret E n_Z36 [dLL c,dI (k : Int)] ⟨o_Z36,(fIdx c k,())⟩ := by
  have hks : (c[k]).length ≤ 1048576 := (sm_get hc hk).1
  have hfl := faces_length (s := c[k])
  refine ret_of ?_
  simp only [run_Z36,Z36.ev]
  refine ev_bind (idx_lt hk) (ev_call (facesOf_ret _ hks) ?_)
  refine Ev.start (p := fun φ n => Z36.l0 (mkR (run E (φ 0))) (φ 0) n (faces c[k]) ((faces c[k]).length : Int) 0 c [] = _) 1 ?_ (fun _ _ _ h => h)
  refine fold_loop 1 (L := fun φ n j a => Z36.l0 (mkR (run E (φ 0))) (φ 0) n (faces c[k]) ((faces c[k]).length : Int) j c a) (len := (faces c[k]).length) (fun j => ((faces c[k]).take j).map (findI c)) (fun _ _ _ _ _ => rfl) (fun j r hj ih => ?_) ?_
  · simp only [Z36.l0_succ _ mk_ok]
    rw [List.take_succ_eq_append_getElem hj,List.map_append] at ih
    refine ev_t (decide_eq_true (by omega)) (ev_bind (idx_lt hj) (ev_call (indexOf_ret c _ hc hs) (ev_chk (by simp; omega) ?_)))
    rw [w64_succ (by omega)]; exact ih
  · simp only [Z36.l0_succ _ mk_ok]
    refine ev_f (decide_eq_false (by omega)) (ev_some ?_)
    rw [List.take_of_length_le (Nat.le_refl _),fIdx,getD_lt hk]

theorem l05Faces_ret (c : List Sim) (k : Nat) (hk : k < c.length) (hc : Sm yK c) : Ret E n_Z148 [dC (c,()),dI (k : Int)] ⟨o_Z148,(fIdx c k,())⟩ := by
  have hks : (c[k]).length ≤ 1048576 := (sm_get hc hk).1
  refine ret_of ?_
  simp only [run_Z148,Z148.ev]
  refine ev_bind (idx_lt hk) ?_
  refine Ev.start (p := fun φ n => Z148.l0 (mkR (run E (φ 0))) (φ 0) n (c,()) c[k] 0 [] = _) 1 ?_ (fun _ _ _ h => h)
  by_cases hlen : 1 < (c[k]).length
  · refine fold_loop 1 (L := fun φ n j a => Z148.l0 (mkR (run E (φ 0))) (φ 0) n (c,()) c[k] j a) (len := (c[k]).length) (fun j => (List.range j).map fun i => findI c ((c[k]).eraseIdx i)) (fun _ _ _ _ _ => rfl) (fun j r hj ih => ?_) ?_
    · simp only [Z148.l0_succ _ mk_ok]
      rw [List.range_succ,List.map_append] at ih
      refine ev_t (decide_eq_true (by omega)) ?_
      simp only [show decide (((c[k]).length : Int) > 1) = true from decide_eq_true (by omega),Z148.j1_eq _ mk_ok,cond_true]
      refine ev_call (l05Drop_ret _ j hj hks) (ev_call (l05Find_ret (c,()) _ hc) (ev_chk (by simp; omega) ?_))
      rw [w64_succ (by omega)]; exact ih
    · simp only [Z148.l0_succ _ mk_ok]
      refine ev_f (decide_eq_false (by omega)) ?_
      simp only [Z148.j1_eq _ mk_ok,cond_false]
      refine ev_some ?_
      rw [fIdx,getD_lt hk,faces,if_pos hlen,List.map_map]; rfl
  · refine Ev.round 1 (L := fun φ n => Z148.l0 (mkR (run E (φ 0))) (φ 0) n (c,()) c[k] 0 []) ?_ (fun _ _ _ => rfl)
    have hj : Ev fun φ => Z148.j1 (mkR (run E (φ 0))) (φ 0) (φ 1) (c,()) c[k] 0 false [] = some ⟨o_Z148,(fIdx c k,())⟩ := by
      simp only [Z148.j1_eq _ mk_ok,cond_false]
      refine ev_some ?_
      rw [fIdx,getD_lt hk,faces,if_neg hlen]; rfl
    simp only [Z148.l0_succ _ mk_ok]
    refine ev_d (fun _ => ?_) fun _ => hj
    simp only [show decide (((c[k]).length : Int) > 1) = false from decide_eq_false (by omega)]
    exact hj

/-! arrows -/
abbrev Arw := Int × Int × Int × Unit
noncomputable def rowA (c : List Sim) (k i : Nat) : List Arw := (List.range i).map fun (j : Nat) => ((k : Int),(j : Int),(fIdx c k).getD j 0,())
noncomputable def arrs (c : List Sim) : Nat → List Arw
  | 0 => []
  | k + 1 => arrs c k ++ rowA c k (fIdx c k).length
noncomputable def plc (c : List Sim) (k : Nat) : Nat := (arrs c k).length

theorem rowA_length {c : List Sim} {k i : Nat} : (rowA c k i).length = i := by simp [rowA]

theorem plc_succ {c : List Sim} {k : Nat} : plc c (k + 1) = plc c k + (fIdx c k).length := by
  unfold plc; rw [arrs,List.length_append,rowA_length]

theorem VC.len4 {c : List Sim} (h : VC c) {k : Nat} (hk : k < c.length) : (c.getD k []).length ≤ 4 := (h.2.1 k hk).2.1

theorem VC.fIdx4 {c : List Sim} (h : VC c) {k : Nat} (hk : k < c.length) : (fIdx c k).length ≤ 4 := by
  have := h.len4 hk
  rw [fIdx_length]; split <;> omega

theorem VC.plc {c : List Sim} (h : VC c) : ∀ {k : Nat},k ≤ c.length → plc c k ≤ 4 * k
  | 0,_ => by simp [VeT.plc,arrs]
  | k + 1,hk => by
    have h1 := h.plc (k := k) (by omega)
    have h2 := h.fIdx4 (k := k) (by omega)
    rw [plc_succ]; omega

theorem arrs_get {c : List Sim} : ∀ {n k i : Nat},k < n → i < (fIdx c k).length → (arrs c n)[plc c k + i]? = some ((k : Int),(i : Int),(fIdx c k).getD i 0,())
  | 0,_,_,h,_ => by omega
  | n + 1,k,i,h,hi => by
    rw [arrs]
    by_cases hk : k < n
    · have := arrs_get hk hi
      have hl := (List.getElem?_eq_some_iff.1 this).1
      rw [List.getElem?_append_left hl]; exact this
    · obtain rfl : k = n := by omega
      rw [List.getElem?_append_right (by unfold plc; omega)]
      rw [show plc c k + i - (arrs c k).length = i by unfold plc; omega]
      simp [rowA,hi]

theorem arrs_ex {c : List Sim} : ∀ {n t : Nat},t < (arrs c n).length → ∃ k i,k < n ∧ i < (fIdx c k).length ∧ t = plc c k + i
  | 0,_,h => by simp [arrs] at h
  | n + 1,t,h => by
    by_cases ht : t < (arrs c n).length
    · obtain ⟨k,i,h1,h2,h3⟩ := arrs_ex ht
      exact ⟨k,i,by omega,h2,h3⟩
    · rw [arrs,List.length_append,rowA_length] at h
      exact ⟨n,t - (arrs c n).length,by omega,by omega,by unfold plc; omega⟩

theorem arrows_ret (c : List Sim) (hc : Sm yK c) (hv : VC c) : Ret E n_Z23 [dLL c] ⟨o_Z23,(arrs c c.length,())⟩ := by
  have hs := hv.srt
  have h48 := hv.1
  refine ret_of ?_
  simp only [run_Z23,Z23.ev]
  refine ev_call (sizeL_ret _) ?_
  refine Ev.start (p := fun φ n => Z23.l0 (mkR (run E (φ 0))) (φ 0) n (c.length : Int) 0 c [] = _) 1 ?_ (fun _ _ _ h => h)
  refine fold_loop 1 (L := fun φ n k a => Z23.l0 (mkR (run E (φ 0))) (φ 0) n (c.length : Int) k c a) (len := c.length) (fun k => arrs c k) (fun _ _ _ _ _ => rfl) (fun k r hk ih => ?_) ?_
  · simp only [Z23.l0_succ _ mk_ok]
    have hpl := hv.plc (k := k) (by omega)
    have hf4 := hv.fIdx4 hk
    refine ev_t (decide_eq_true (by omega)) (ev_call (faceIndices_ret c k hk hc hs) ?_)
    refine Ev.start (p := fun φ n => Z23.l1 (mkR (run E (φ 0))) (φ 0) (φ 1) n (k : Int) (c.length : Int) (k : Int) (fIdx c k) ((fIdx c k).length : Int) 0 c (arrs c k) = _) 2 ?_ (fun _ _ _ h => h)
    have := fold_loop 2 (L := fun φ n j a => Z23.l1 (mkR (run E (φ 0))) (φ 0) (φ 1) n (k : Int) (c.length : Int) (k : Int) (fIdx c k) ((fIdx c k).length : Int) j c a) (len := (fIdx c k).length) (fun j => arrs c k ++ rowA c k j) (r := r) (fun _ _ _ _ _ => rfl) (fun j r hj ih => ?_) ?_
    · simpa [rowA] using this
    · simp only [Z23.l1_succ _ mk_ok]
      refine ev_t (decide_eq_true (by omega)) (ev_bind (idx_lt hj) (ev_chk (decide_eq_true ?_) ?_))
      · rw [List.length_append,rowA_length]; show (_ + _ + 1) * 24 ≤ _
        have : (arrs c k).length = plc c k := rfl
        omega
      · rw [w64_succ (by omega)]
        have e : rowA c k (j + 1) = rowA c k j ++ [((k : Int),(j : Int),(fIdx c k)[j],())] := by
          unfold rowA; rw [List.range_succ,List.map_append]; simp [List.getD_eq_getElem?_getD,hj]
        rw [e,← List.append_assoc] at ih
        exact ih
    · simp only [Z23.l1_succ _ mk_ok]
      refine ev_f (decide_eq_false (by omega)) ?_
      rw [w64_succ (by omega)]; exact ih
  · simp only [Z23.l0_succ _ mk_ok]
    exact ev_f (decide_eq_false (by omega)) ev_rfl

theorem l09Place_ret (c : List Sim) (k i : Nat) (hk : k ≤ c.length) (hi : i ≤ 1048576) (hv : VC c) : Ret E n_Z162 [dC (c,()),dI (k : Int),dI (i : Int)] ⟨o_Z162,(((plc c k + i : Nat) : Int),())⟩ := by
  have h48 := hv.1
  refine ret_of ?_
  simp only [run_Z162,Z162.ev]
  refine Ev.start (p := fun φ n => Z162.l0 (mkR (run E (φ 0))) (φ 0) n (c,()) (k : Int) (i : Int) 0 0 = _) 1 ?_ (fun _ _ _ h => h)
  have := fold_loop 1 (L := fun φ n j a => Z162.l0 (mkR (run E (φ 0))) (φ 0) n (c,()) (k : Int) (i : Int) a j) (len := k) (fun j => ((plc c j : Nat) : Int)) (r := some ⟨o_Z162,(((plc c k + i : Nat) : Int),())⟩) (fun _ _ _ _ _ => rfl) (fun j r hj ih => ?_) ?_
  · exact this
  · simp only [Z162.l0_succ _ mk_ok]
    have hjc : j < c.length := by omega
    have hpl := hv.plc (k := j) (by omega)
    have h4 := hv.len4 hjc
    have e := plc_succ (c := c) (k := j)
    rw [fIdx_length] at e
    rw [getD_lt hjc] at e h4
    refine ev_t (decide_eq_true (by omega)) (ev_bind (idx_lt hjc) (ev_d (fun hl => ev_bind (idx_lt hjc) ?_) fun hl => ?_))
    · rw [if_pos (by omega)] at e
      rw [w64_succ (by omega),w64_small (by omega) (by omega)]
      rw [e] at ih
      simpa using ih
    · rw [if_neg (by omega)] at e
      rw [w64_succ (by omega)]
      rw [e] at ih; exact ih
  · simp only [Z162.l0_succ _ mk_ok]
    have hpl := hv.plc hk
    refine ev_f (decide_eq_false (by omega)) (ev_some ?_)
    rw [w64_small (by omega) (by omega)]
    simp

theorem l09Count_ret (c : List Sim) (hv : VC c) : Ret E n_Z157 [dC (c,())] ⟨o_Z157,(((plc c c.length : Nat) : Int),())⟩ := by
  refine ret_of ?_
  simp only [run_Z157,Z157.ev]
  exact ev_call (l09Place_ret c c.length 0 (Nat.le_refl _) (by omega) hv) ev_rfl

end VeT

open Go Go.Proofs Ve
set_option linter.unusedVariables false
set_option linter.unusedSimpArgs false
namespace VeT

def mz : Mat := (0,0,0,[],())
/-- the map at a face -/
def QB (p : Int) (st : Sim) (ms : List Mat) (t k : Nat) (f : Int) : Prop := Bt (ms.getD t mz) p (st.getD f.toNat 0) (st.getD k 0)

/-- valid sheaves -/
def VS (c : List Sim) (p : Int) (st : Sim) (ms : List Mat) : Prop := VC c ∧ Pr p ∧ SK c st ∧ plc c c.length = ms.length ∧ ∀ k,k < c.length → ∀ i,i < (fIdx c k).length → QB p st ms (plc c k + i) k ((fIdx c k).getD i 0)

def az : Arw := (0,0,0,())
/-- an arrow's map -/
def QA (p : Int) (st : Sim) (ms : List Mat) (t : Nat) (a : Arw) : Prop := t < ms.length ∧ Bt (ms.getD t mz) p (st.getD a.2.2.1.toNat 0) (st.getD a.1.toNat 0)

theorem VS_impl {c : List Sim} {p : Int} {st : Sim} {ms : List Mat} (hl : plc c c.length = ms.length) :
    (∀ t,0 ≤ t → t < plc c c.length → QA p st ms t ((arrs c c.length).getD t az)) ↔ ∀ k,k < c.length → ∀ i,i < (fIdx c k).length → QB p st ms (plc c k + i) k ((fIdx c k).getD i 0) := by
  constructor
  · intro h k hk i hi
    have hg := arrs_get hk hi
    have hlt := (List.getElem?_eq_some_iff.1 hg).1
    have := h (plc c k + i) (by omega) hlt
    rw [List.getD_eq_getElem?_getD,hg] at this
    exact this.2
  · intro h t _ ht
    obtain ⟨k,i,hk,hi,rfl⟩ := arrs_ex ht
    have hg := arrs_get hk hi
    have := h k hk i hi
    rw [List.getD_eq_getElem?_getD,hg]
    exact ⟨by omega,this⟩

theorem sm_mat {ms : List Mat} (h : Sm (.sl (.st cM)) ms) {t : Nat} (ht : t < ms.length) : Sm (.st cM) ms[t] := h.2 _ (List.getElem_mem ht)

theorem implValidSheaf_ret (c : List Sim) (p : Int) (st : Sim) (ms : List Mat) (hc : Sm yK c) (hst : st.length ≤ 1048576) (hm : Sm (.sl (.st cM)) ms) :
    Ret E n_Z14 [dLL c,dI p,dL st,dMs ms] ⟨o_Z14,(pb (VS c p st ms),())⟩ := by
  have hm1 : ms.length ≤ 1048576 := hm.1
  refine ret_of ?_
  simp only [run_Z14,Z14.ev]
  have no : ¬ VS c p st ms → Ev fun φ => Z14.j0 (mkR (run E (φ 0))) (φ 0) true c p st ms = some ⟨o_Z14,(pb (VS c p st ms),())⟩ := fun h => by
    simp only [Z14.j0_eq _ mk_ok,cond_true]
    rw [pb_false h]; (first | exact ev_rfl | exact Ev.of fun _ => trivial)
  refine ev_call (ValidComplex_ret c hc) (ev_b (fun h => no fun hv => pb_not.1 (show pb (VC c) = false by simpa using h) hv.1) fun h => ?_)
  have hv : VC c := pb_iff.1 (by simpa using h)
  refine ev_call (ValidPrime_ret p) (ev_b (fun h => no fun hv => pb_not.1 (show pb (Pr p) = false by simpa using h) hv.2.1) fun h => ?_)
  have hp : Pr p := pb_iff.1 (by simpa using h)
  refine ev_call (areStalks_ret c st hc hst) ?_
  by_cases hk : SK c st
  · simp only [pb_true hk,Bool.not_true,Z14.j0_eq _ mk_ok,cond_false]
    refine ev_call (arrows_ret c hc hv) ?_
    have hpl := hv.plc (Nat.le_refl _)
    have h48 := hv.1
    refine Ev.start (p := fun φ n => Z14.l1 (mkR (run E (φ 0))) (φ 0) n (arrs c c.length) (arrs c c.length) ((arrs c c.length).length : Int) 0 c p st ms = _) 1 ?_ (fun _ _ _ h => h)
    have get : ∀ t (ht : t < plc c c.length),∃ k i,k < c.length ∧ i < (fIdx c k).length ∧ (arrs c c.length)[t]? = some ((k : Int),(i : Int),(fIdx c k).getD i 0,()) ∧ ((fIdx c k).getD i 0).toNat < st.length ∧ 0 ≤ (fIdx c k).getD i 0 := fun t ht => by
      obtain ⟨k,i,hk',hi,rfl⟩ := arrs_ex ht
      have hb := fIdx_mem hv hk' (List.getElem_mem hi)
      exact ⟨k,i,hk',hi,arrs_get hk' hi,by rw [getD_lt hi,hk.1]; omega,by rw [getD_lt hi]; omega⟩
    refine (all_pb 1 (L := fun φ n t => Z14.l1 (mkR (run E (φ 0))) (φ 0) n (arrs c c.length) (arrs c c.length) ((arrs c c.length).length : Int) t c p st ms) (len := plc c c.length) 0 (by omega) (fun t => QA p st ms t ((arrs c c.length).getD t az)) (fun b => some ⟨o_Z14,(b && ((plc c c.length : Int) == (ms.length : Int)),())⟩) (fun _ _ _ _ => rfl) (fun t h1 h2 hP _ => ?_) (fun t r h1 h2 hP _ ih => ?_) (fun _ => ?_)).to ?_
    · simp only [Z14.l1_succ _ mk_ok]
      obtain ⟨k,i,hkc,hi,hg,hf,hf0⟩ := get t h2
      have hlt : t < (arrs c c.length).length := h2
      have hgt : (arrs c c.length)[t] = ((k : Int),(i : Int),(fIdx c k).getD i 0,()) := by
        rw [List.getElem?_eq_getElem hlt] at hg; exact Option.some.inj hg
      refine ev_t (decide_eq_true (by omega)) (ev_bind (idx_lt hlt) ?_)
      rw [getD_lt hlt] at hP
      rw [hgt] at hP ⊢
      refine ev_d (fun hge => ?_) fun hge => ?_
      · simp only [Z14.j2_eq _ mk_ok,cond_true]; (first | exact ev_rfl | exact Ev.of fun _ => trivial)
      · have htm : t < ms.length := by omega
        refine ev_bind (idx_lt htm) ?_
        simp only
        rw [show (fIdx c k).getD i 0 = ((((fIdx c k).getD i 0).toNat : Nat) : Int) by omega]
        refine ev_bind (idx_lt hf) (ev_bind (idx_lt (show k < st.length by rw [hk.1]; exact hkc)) (ev_call (isBetween_ret _ _ _ _ (sm_mat hm htm)) ?_))
        have : ¬ Bt ms[t] p st[((fIdx c k).getD i 0).toNat] (st[k]'(by rw [hk.1]; exact hkc)) := fun hb => hP ⟨htm,by
          simp only [Int.toNat_natCast]
          rw [getD_lt htm,getD_lt hf,getD_lt (s := st) (k := k) (by rw [hk.1]; exact hkc)]; exact hb⟩
        simp only [pb_false this,Bool.not_false,Z14.j2_eq _ mk_ok,cond_true]; (first | exact ev_rfl | exact Ev.of fun _ => trivial)
    · simp only [Z14.l1_succ _ mk_ok]
      obtain ⟨k,i,hkc,hi,hg,hf,hf0⟩ := get t h2
      have hlt : t < (arrs c c.length).length := h2
      have hgt : (arrs c c.length)[t] = ((k : Int),(i : Int),(fIdx c k).getD i 0,()) := by
        rw [List.getElem?_eq_getElem hlt] at hg; exact Option.some.inj hg
      refine ev_t (decide_eq_true (by omega)) (ev_bind (idx_lt hlt) ?_)
      rw [getD_lt hlt] at hP
      rw [hgt] at hP ⊢
      obtain ⟨htm,hb⟩ := hP
      refine ev_f (decide_eq_false (by omega)) (ev_bind (idx_lt htm) ?_)
      simp only
      rw [show (fIdx c k).getD i 0 = ((((fIdx c k).getD i 0).toNat : Nat) : Int) by omega]
      refine ev_bind (idx_lt hf) (ev_bind (idx_lt (show k < st.length by rw [hk.1]; exact hkc)) (ev_call (isBetween_ret _ _ _ _ (sm_mat hm htm)) ?_))
      simp only [Int.toNat_natCast] at hb
      rw [getD_lt htm,getD_lt hf,getD_lt (s := st) (k := k) (by rw [hk.1]; exact hkc)] at hb
      simp only [pb_true hb,Bool.not_true,Z14.j2_eq _ mk_ok,cond_false]
      rw [w64_succ (by omega)]; exact ih
    · simp only [Z14.l1_succ _ mk_ok]
      exact ev_f (decide_eq_false (by show ¬ ((plc c c.length : Nat) : Int) < ((plc c c.length : Nat) : Int); omega)) (ev_some (by rw [Bool.true_and]; rfl))
    · have : (pb (∀ t,0 ≤ t → t < plc c c.length → QA p st ms t ((arrs c c.length).getD t az)) && ((plc c c.length : Int) == (ms.length : Int))) = pb (VS c p st ms) := eq_pb (by
        rw [Bool.and_eq_true,pb_iff,beq_iff_eq]
        constructor
        · rintro ⟨h1,h2⟩
          have h2 : plc c c.length = ms.length := by omega
          exact ⟨hv,hp,hk,h2,(VS_impl h2).1 h1⟩
        · rintro ⟨_,_,_,h2,h1⟩
          exact ⟨(VS_impl h2).2 h1,by omega⟩)
      rw [this]
  · simp only [pb_false hk,Bool.not_false]
    exact no fun hv => hk hv.2.2.1

theorem l09Map_ret (x : Shf) (k i : Nat) (m : Mat) (hv : VC x.1) (hk : SK x.1 x.2.2.1) (hkc : k < x.1.length) (hi : i < (fIdx x.1 k).length) (hc : Sm yK x.1) (hm : Sm (.st cM) m) :
    Ret E n_Z160 [dS x,dI (k : Int),dI (i : Int),dM m] ⟨o_Z160,(pb (Bt m x.2.1 (x.2.2.1.getD ((fIdx x.1 k).getD i 0).toNat 0) (x.2.2.1.getD k 0)),())⟩ := by
  have hb := fIdx_mem hv hkc (List.getElem_mem hi)
  have hks : k < x.2.2.1.length := by rw [hk.1]; exact hkc
  have hfs : ((fIdx x.1 k)[i]).toNat < x.2.2.1.length := by rw [hk.1]; omega
  rw [getD_lt hi,getD_lt hks,getD_lt hfs]
  refine ret_of ?_
  simp only [run_Z160,Z160.ev]
  refine ev_call (l05Faces_ret x.1 k hkc hc) (ev_bind (idx_lt hi) (ev_call (l03Ok_ret m hm) (ev_b (fun h1 => ev_b (fun h2 => ev_bind (idx_lt hks) (ev_b (fun h3 => ?_) fun h3 => ev_some ?_)) fun h2 => ev_some ?_) fun h1 => ev_some ?_)))
  · have e : (fIdx x.1 k)[i] = ((((fIdx x.1 k)[i]).toNat : Nat) : Int) := by omega
    refine ev_bind ((congrArg (idx? x.2.2.1) e).trans (idx_lt hfs)) (ev_some ?_)
    have : (m.2.2.1 == x.2.2.1[((fIdx x.1 k)[i]).toNat]) = pb (Bt m x.2.1 x.2.2.1[((fIdx x.1 k)[i]).toNat] x.2.2.1[k]) := eq_pb (by
      rw [beq_iff_eq]; exact ⟨fun h => ⟨pb_iff.1 h1,by simpa using h2,by simpa using h3,h⟩,fun h => h.2.2.2⟩)
    simp only [this]
  · rw [pb_false fun h => by have := h.2.2.1; simp [this] at h3]
  · rw [pb_false fun h => by have := h.2.1; simp [this] at h2]
  · rw [pb_false fun h => pb_not.1 h1 h.1]

theorem l09Ok_ret (x : Shf) (hx : Sm (.st cS) x) : Ret E n_Z161 [dS x] ⟨o_Z161,(pb (VS x.1 x.2.1 x.2.2.1 x.2.2.2.1),())⟩ := by
  have hc : Sm yK x.1 := hx.1
  have hm : Sm (.sl (.st cM)) x.2.2.2.1 := hx.2.2.2.1
  have hst : x.2.2.1.length ≤ 1048576 := hx.2.2.1.1
  refine ret_of ?_
  simp only [run_Z161,Z161.ev]
  have no : ¬ VS x.1 x.2.1 x.2.2.1 x.2.2.2.1 → Ev fun φ => Z161.j0 (mkR (run E (φ 0))) (φ 0) x true = some ⟨o_Z161,(pb (VS x.1 x.2.1 x.2.2.1 x.2.2.2.1),())⟩ := fun h => by
    simp only [Z161.j0_eq _ mk_ok,cond_true]
    rw [pb_false h]; (first | exact ev_rfl | exact Ev.of fun _ => trivial)
  refine ev_call (l05Ok_ret (x.1,()) hc) (ev_b (fun h => no fun hv => pb_not.1 (show pb (VC x.1) = false by simpa using h) hv.1) fun h => ?_)
  have hv : VC x.1 := pb_iff.1 (show pb (VC x.1) = true by simpa using h)
  refine ev_call (specValidPrime_ret _) (ev_b (fun h => no fun hv => pb_not.1 (show pb (Pr x.2.1) = false by simpa using h) hv.2.1) fun h => ?_)
  have hp : Pr x.2.1 := pb_iff.1 (by simpa using h)
  refine ev_call (l09Stalks_ret x.1 x.2.2.1 hc hst) (ev_b (fun h => no fun hv => pb_not.1 (show pb (SK x.1 x.2.2.1) = false by simpa using h) hv.2.2.1) fun h => ?_)
  have hk : SK x.1 x.2.2.1 := pb_iff.1 (by simpa using h)
  refine ev_call (l09Count_ret x.1 hv) ?_
  by_cases hl : plc x.1 x.1.length = x.2.2.2.1.length
  · have h48 := hv.1
    simp only [show ((x.2.2.2.1.length : Int) != ((plc x.1 x.1.length : Nat) : Int)) = false by simp [hl],Z161.j0_eq _ mk_ok,cond_false]
    refine Ev.start (p := fun φ n => Z161.l1 (mkR (run E (φ 0))) (φ 0) n x 0 = _) 1 ?_ (fun _ _ _ h => h)
    let P : Nat → Prop := fun k => ∀ i,i < (fIdx x.1 k).length → QB x.2.1 x.2.2.1 x.2.2.2.1 (plc x.1 k + i) k ((fIdx x.1 k).getD i 0)
    have inner : ∀ (k : Nat) (h2 : k < x.1.length) (r : Option Dv),(P k → Ev fun φ => Z161.l1 (mkR (run E (φ 0))) (φ 0) (φ 1) x ((k + 1 : Nat) : Int) = r) → (¬ P k → r = some ⟨o_Z161,(false,())⟩) → Ev fun φ => Z161.l2 (mkR (run E (φ 0))) (φ 0) (φ 1) (φ 0) x (k : Int) 0 = r := fun k h2 r hgo hstop => by
      have h4 := hv.len4 h2
      have hfl := fIdx_length (c := x.1) (k := k)
      rw [getD_lt h2] at h4 hfl
      refine Ev.start (p := fun φ n => Z161.l2 (mkR (run E (φ 0))) (φ 0) (φ 1) n x (k : Int) 0 = _) 2 ?_ (fun _ _ _ h => h)
      by_cases hlen : 1 < (x.1[k]).length
      · rw [if_pos hlen] at hfl
        have mapAt : ∀ i (hi : i < (fIdx x.1 k).length),∃ ht : plc x.1 k + i < x.2.2.2.1.length,∀ R,(Ev fun φ => (bif (!pb (Bt x.2.2.2.1[plc x.1 k + i] x.2.1 (x.2.2.1.getD ((fIdx x.1 k).getD i 0).toNat 0) (x.2.2.1.getD k 0))) then some ⟨o_Z161,(false,())⟩ else Z161.l2 (mkR (run E (φ 0))) (φ 0) (φ 1) (φ 2) x (k : Int) (w64 ((i : Int) + 1))) = R) → Ev fun φ => Z161.j3 (mkR (run E (φ 0))) (φ 0) (φ 1) (φ 2) x (k : Int) (i : Int) true = R := fun i hi => by
          have hg := arrs_get h2 hi
          have hlt := (List.getElem?_eq_some_iff.1 hg).1
          have ht : plc x.1 k + i < x.2.2.2.1.length := by rw [← hl]; exact hlt
          refine ⟨ht,fun R hR => ?_⟩
          simp only [Z161.j3_eq _ mk_ok,cond_true]
          refine ev_call (l09Place_ret x.1 k i (by omega) (by omega) hv) (ev_bind (idx_lt ht) (ev_call (l09Map_ret x k i _ hv hk h2 hi hc (sm_mat hm ht)) hR))
        obtain ⟨t,f⟩ := all_loop 2 (L := fun φ n i => Z161.l2 (mkR (run E (φ 0))) (φ 0) (φ 1) n x (k : Int) i) (len := (x.1[k]).length) 0 (by omega) (fun i => QB x.2.1 x.2.2.1 x.2.2.2.1 (plc x.1 k + i) k ((fIdx x.1 k).getD i 0)) (rt := r) (rf := some ⟨o_Z161,(false,())⟩) (fun _ _ _ _ => rfl) (fun i _ hi hP _ => by
          obtain ⟨ht,hm'⟩ := mapAt i (by omega)
          simp only [Z161.l2_succ _ mk_ok]
          refine ev_bind (idx_lt h2) (ev_t (decide_eq_true (by omega)) (ev_bind (idx_lt h2) ?_))
          simp only [show decide (((x.1[k]).length : Int) > 1) = true from decide_eq_true (by omega)]
          refine hm' _ (ev_t ?_ ev_rfl)
          rw [pb_false]; · rfl
          intro hb; refine hP ?_
          show Bt _ _ _ _
          rw [getD_lt ht]; exact hb) (fun i q _ hi hP _ ih => by
          obtain ⟨ht,hm'⟩ := mapAt i (by omega)
          simp only [Z161.l2_succ _ mk_ok]
          refine ev_bind (idx_lt h2) (ev_t (decide_eq_true (by omega)) (ev_bind (idx_lt h2) ?_))
          simp only [show decide (((x.1[k]).length : Int) > 1) = true from decide_eq_true (by omega)]
          refine hm' _ (ev_f ?_ ?_)
          · have hP : Bt (x.2.2.2.1.getD (plc x.1 k + i) mz) _ _ _ := hP
            rw [getD_lt ht] at hP
            rw [pb_true hP]; rfl
          · rw [w64_succ (by omega)]; exact ih) (fun hall => by
          simp only [Z161.l2_succ _ mk_ok]
          refine ev_bind (idx_lt h2) (ev_f (decide_eq_false (by omega)) ?_)
          simp only [Z161.j3_eq _ mk_ok,cond_false]
          rw [w64_succ (by omega)]
          exact hgo fun i hi => hall i (by omega) (by omega))
        by_cases hall : ∀ i,0 ≤ i → i < (x.1[k]).length → QB x.2.1 x.2.2.1 x.2.2.2.1 (plc x.1 k + i) k ((fIdx x.1 k).getD i 0)
        · exact t hall
        · rw [hstop fun hf => hall fun i _ hi => hf i (by omega)]
          exact f hall
      · rw [if_neg hlen] at hfl
        refine Ev.round 2 (L := fun φ n => Z161.l2 (mkR (run E (φ 0))) (φ 0) (φ 1) n x (k : Int) 0) ?_ (fun _ _ _ => rfl)
        have hgo := hgo fun i hi => by omega
        have hj : Ev fun φ => Z161.j3 (mkR (run E (φ 0))) (φ 0) (φ 1) (φ 2) x (k : Int) 0 false = r := by
          simp only [Z161.j3_eq _ mk_ok,cond_false]
          rw [w64_succ (by omega)]; exact hgo
        simp only [Z161.l2_succ _ mk_ok]
        refine ev_bind (idx_lt h2) (ev_d (fun _ => ev_bind (idx_lt h2) ?_) fun _ => hj)
        simp only [show decide (((x.1[k]).length : Int) > 1) = false from decide_eq_false (by omega)]
        exact hj
    refine (all_pb 1 (L := fun φ n k => Z161.l1 (mkR (run E (φ 0))) (φ 0) n x k) (len := x.1.length) 0 (by omega) P (fun b => some ⟨o_Z161,(b,())⟩) (fun _ _ _ _ => rfl) (fun k h1 h2 hP hpre => ?_) (fun k r h1 h2 hP hpre ih => ?_) (fun _ => ?_)).to ?_
    · simp only [Z161.l1_succ _ mk_ok]
      exact ev_t (decide_eq_true (by omega)) (inner k h2 _ (fun h => absurd h hP) fun _ => rfl)
    · simp only [Z161.l1_succ _ mk_ok]
      exact ev_t (decide_eq_true (by omega)) (inner k h2 _ (fun _ => ih) fun h => absurd hP h)
    · simp only [Z161.l1_succ _ mk_ok]
      exact ev_f (decide_eq_false (by omega)) ev_rfl
    · exact congrArg (fun b : Bool => some (⟨o_Z161,(b,())⟩ : Dv)) (pb_congr ⟨fun h => ⟨hv,hp,hk,hl,fun k hk' => h k (by omega) hk'⟩,fun h k _ hk' => h.2.2.2.2 k hk'⟩)
  · simp only [show ((x.2.2.2.1.length : Int) != ((plc x.1 x.1.length : Nat) : Int)) = true by simp; omega]
    exact no fun h => hl h.2.2.2.1

end VeT

open Go Go.Proofs Ve
set_option linter.unusedVariables false
set_option linter.unusedSimpArgs false
namespace VeT

theorem implValid_ret (x : Shf) (hx : Sm (.st cS) x) : Ret E n_Z14 [dLL x.1,dI x.2.1,dL x.2.2.1,dMs x.2.2.2.1] ⟨o_Z14,(pb (VS x.1 x.2.1 x.2.2.1 x.2.2.2.1),())⟩ :=
  implValidSheaf_ret x.1 x.2.1 x.2.2.1 x.2.2.2.1 hx.1 hx.2.2.1.1 hx.2.2.2.1

theorem isDimension_ret (n : Int) : Ret E n_Z49 [dI n] ⟨o_Z49,(pb (0 ≤ n ∧ n ≤ 3),())⟩ := by
  refine ret_of ?_
  simp only [run_Z49,Z49.ev]
  exact ev_call (within_ret _ _ _) ev_rfl

theorem l05Dimension_ret (n : Int) : Ret E n_Z146 [dI n] ⟨o_Z146,(pb (0 ≤ n ∧ n ≤ 3),())⟩ := by
  refine ret_of ?_
  simp only [run_Z146,Z146.ev]
  exact ev_call (l00In_ret _ _ _) ev_rfl

end VeT

open Go Go.Proofs Ve
set_option linter.unusedVariables false
set_option linter.unusedSimpArgs false
namespace VeT

/-! the program's matrices -/
theorem Mat_at_ret (p r : Int) (C : Nat) (cells : Sim) (i j : Nat) (h : i * C + j < cells.length) (hl : cells.length ≤ 1048576) : Ret E n_Z7 [dI p,dI r,dI (C : Int),dL cells,dI (i : Int),dI (j : Int)] ⟨o_Z7,(cells[i * C + j],())⟩ := by
  refine ret_of ?_
  simp only [run_Z7,Z7.ev]
  rw [cast_mul,w64_small (n := ((i * C : Nat) : Int)) (by omega) (by omega),w64_small (by omega) (by omega),show ((i * C : Nat) : Int) + (j : Int) = ((i * C + j : Nat) : Int) by omega]
  exact ev_bind (idx_lt h) ev_rfl

theorem Mat_row_ret (p r : Int) (C : Nat) (cells : Sim) (i : Nat) (h : (i + 1) * C ≤ cells.length) (hi : i ≤ 1048576) (hl : cells.length ≤ 1048576) : Ret E n_Z8 [dI p,dI r,dI (C : Int),dL cells,dI (i : Int)] ⟨o_Z8,((cells.take ((i + 1) * C)).drop (i * C),())⟩ := by
  refine ret_of ?_
  simp only [run_Z8,Z8.ev]
  have h1 : i * C ≤ (i + 1) * C := Nat.mul_le_mul_right _ (by omega)
  have e1 : w64 ((i : Int) * (C : Int)) = ((i * C : Nat) : Int) := by rw [cast_mul]; exact w64_small (by omega) (by omega)
  have e2 : w64 ((i : Int) + 1) = ((i + 1 : Nat) : Int) := w64_succ (by omega)
  have e3 : w64 (((i + 1 : Nat) : Int) * (C : Int)) = (((i + 1) * C : Nat) : Int) := by rw [cast_mul]; exact w64_small (by omega) (by omega)
  simp only [e1,e2,e3,Int.toNat_natCast]
  exact ev_chk (by simp only [Bool.and_eq_true,decide_eq_true_eq]; omega) ev_rfl

theorem Clone_ret (s : Sim) (hs : s.length ≤ 1048576) : Ret E n_Z103 [dL s] ⟨o_Z103,(s,())⟩ := by
  refine ret_of ?_
  simp only [run_Z103,Z103.ev,Z103.j0_eq _ mk_ok,cond_true,cond_false]
  have h : Ev fun φ => (Option.bind (chk (decide ((List.length ([] : List Int) + List.length s) * 8 ≤ 70368744177664))) fun _ => some (⟨o_Z103,((([] : List Int) ++ s),())⟩ : Dv)) = some ⟨o_Z103,(s,())⟩ :=
    ev_chk (by simp; omega) (ev_some rfl)
  cases s with
  | nil => exact ev_t rfl (ev_both ev_rfl h)
  | cons a s => exact ev_f rfl h

theorem transpose_1_ret (m : Mat) (C : Nat) (i j : Nat) (hC : m.2.2.1 = (C : Int)) (h : j * C + i < m.2.2.2.1.length) (hl : m.2.2.2.1.length ≤ 1048576) : Ret E n_Z70 [dI (i : Int),dI (j : Int),dM m] ⟨o_Z70,(m.2.2.2.1.getD (j * C + i) 0,())⟩ := by
  rw [getD_lt h]
  refine ret_of ?_
  simp only [run_Z70,Z70.ev]
  rw [hC]
  exact ev_call (Mat_at_ret _ _ C _ j i h hl) ev_rfl

theorem dot_ret (a b : Sim) (p : Int) (hp : 2 ≤ p ∧ p ≤ 251) (ha : a.length ≤ 32) (hb : a.length ≤ b.length) (ea : ∀ x ∈ a,0 ≤ x ∧ x ≤ 250) (eb : ∀ x ∈ b,0 ≤ x ∧ x ≤ 250) :
    Ret E n_Z33 [dL a,dL b,dI p] ⟨o_Z33,(dotN (fun l => a.getD l 0) (fun l => b.getD l 0) a.length % p,())⟩ := by
  refine ret_of ?_
  simp only [run_Z33,Z33.ev]
  refine Ev.start (p := fun φ n => Z33.l0 (mkR (run E (φ 0))) (φ 0) n a b p 0 (a.length : Int) 0 = _) 1 ?_ (fun _ _ _ h => h)
  have := fold_loop 1 (L := fun φ n k s => Z33.l0 (mkR (run E (φ 0))) (φ 0) n a b p s (a.length : Int) k) (len := a.length) (fun k => dotN (fun l => a.getD l 0) (fun l => b.getD l 0) k % p) (r := some ⟨o_Z33,(dotN (fun l => a.getD l 0) (fun l => b.getD l 0) a.length % p,())⟩) (fun _ _ _ _ _ => rfl) (fun k r hk ih => ?_) ?_
  · simpa [dotN] using this
  · simp only [Z33.l0_succ _ mk_ok]
    have hkb : k < b.length := by omega
    have hm := mul_in (ea _ (List.getElem_mem hk)) (eb _ (List.getElem_mem hkb))
    have h0 := Int.emod_nonneg (dotN (fun l => a.getD l 0) (fun l => b.getD l 0) k) (show p ≠ 0 by omega)
    have h1 := Int.emod_lt_of_pos (dotN (fun l => a.getD l 0) (fun l => b.getD l 0) k) (show 0 < p by omega)
    refine ev_t (decide_eq_true (by omega)) (ev_bind (idx_lt hk) (ev_bind (idx_lt hkb) (ev_chk (by simp; omega) ?_)))
    rw [w64_small (n := a[k] * b[k]) (by omega) (by omega),w64_small (by omega) (by omega),Int.tmod_eq_emod_of_nonneg (by omega),Int.emod_add_emod,w64_succ (by omega)]
    simp only [dotN] at ih
    rw [getD_lt hk,getD_lt hkb] at ih
    exact ih
  · simp only [Z33.l0_succ _ mk_ok]
    exact ev_f (decide_eq_false (by omega)) ev_rfl

theorem rowsOf_ret (p : Int) (R C : Nat) (cells : Sim) (hl : cells.length = R * C) (hR : R ≤ 32) (hC : C ≤ 32) : Ret E n_Z63 [dI p,dI (R : Int),dI (C : Int),dL cells] ⟨o_Z63,((List.range R).map fun i => (cells.take ((i + 1) * C)).drop (i * C),())⟩ := by
  have h1024 := rc_le hR hC
  refine ret_of ?_
  simp only [run_Z63,Z63.ev]
  refine Ev.start (p := fun φ n => Z63.l0 (mkR (run E (φ 0))) (φ 0) n (R : Int) 0 p (R : Int) (C : Int) cells [] = _) 1 ?_ (fun _ _ _ h => h)
  refine fold_loop 1 (L := fun φ n k a => Z63.l0 (mkR (run E (φ 0))) (φ 0) n (R : Int) k p (R : Int) (C : Int) cells a) (len := R) (fun k => (List.range k).map fun i => (cells.take ((i + 1) * C)).drop (i * C)) (fun _ _ _ _ _ => rfl) (fun k r hk ih => ?_) ?_
  · simp only [Z63.l0_succ _ mk_ok]
    have hle : (k + 1) * C ≤ R * C := Nat.mul_le_mul_right _ hk
    rw [List.range_succ,List.map_append] at ih
    refine ev_t (decide_eq_true (by omega)) (ev_call (Mat_row_ret p _ C cells k (by omega) (by omega) (by omega)) (ev_call (Clone_ret _ (by simp; omega)) (ev_chk (by simp; omega) ?_)))
    rw [w64_succ (by omega)]; exact ih
  · simp only [Z63.l0_succ _ mk_ok]
    exact ev_f (decide_eq_false (by omega)) ev_rfl

end VeT

open Go Go.Proofs Ve
set_option linter.unusedVariables false
set_option linter.unusedSimpArgs false
namespace VeT

theorem Elems.get {v : Sim} {p : Int} (h : Elems v p) (hp : 2 ≤ p ∧ p ≤ 251) (i : Nat) : 0 ≤ v.getD i 0 ∧ v.getD i 0 ≤ 250 := by
  by_cases hi : i < v.length
  · rw [getD_lt hi]
    have := h _ (List.getElem_mem hi)
    omega
  · rw [List.getD_eq_getElem?_getD,List.getElem?_eq_none (by omega)]; simp

theorem Elems.mem {v : Sim} {p : Int} (h : Elems v p) (hp : 2 ≤ p ∧ p ≤ 251) : ∀ x ∈ v,0 ≤ x ∧ x ≤ 250 := fun x hx => by
  have := h x hx; omega

/-- an entry of a product -/
def mulE (p : Int) (ca cb : Sim) (K C i j : Nat) : Int := dotN (fun l => ca.getD (i * K + l) 0) (fun l => cb.getD (l * C + j) 0) K % p

/-- a product -/
def mulM (a b : Mat) : Mat := (a.1,a.2.1,b.2.2.1,flatF (mulE a.1 a.2.2.2.1 b.2.2.2.1 a.2.2.1.toNat b.2.2.1.toNat) b.2.2.1.toNat a.2.1.toNat,())

def colsL (K C : Nat) (cb : Sim) : List Sim := (List.range C).map fun i => (List.range K).map fun j => cb.getD (j * C + i) 0

theorem transpose_ret (q : Int) (K C : Nat) (cb : Sim) (hl : cb.length = K * C) (hK : K ≤ 32) (hC : C ≤ 32) : Ret E n_Z69 [dI q,dI (K : Int),dI (C : Int),dL cb] ⟨o_Z69,(q,(C : Int),(K : Int),flatF (fun i j => cb.getD (j * C + i) 0) K C,())⟩ := by
  have h1 := rc_le hK hC
  have h2 := rc_le hC hK
  refine ret_of ?_
  simp only [run_Z69,Z69.ev]
  refine ev_call (filled_impl_transpose_1_ret q C K ((q,(K : Int),(C : Int),cb,()),()) (fun i j => cb.getD (j * C + i) 0) (by omega) (by omega) (by omega) fun i j hi hj => ?_) ev_rfl
  exact transpose_1_ret (q,(K : Int),(C : Int),cb,()) C i j rfl (by show _ < cb.length; rw [hl]; exact lt_rc hj hi) (by show cb.length ≤ _; omega)

theorem columnsOf_ret (q : Int) (K C : Nat) (cb : Sim) (hl : cb.length = K * C) (hK : K ≤ 32) (hC : C ≤ 32) : Ret E n_Z27 [dI q,dI (K : Int),dI (C : Int),dL cb] ⟨o_Z27,(colsL K C cb,())⟩ := by
  refine ret_of ?_
  simp only [run_Z27,Z27.ev]
  refine ev_call (transpose_ret q K C cb hl hK hC) (ev_call (rowsOf_ret q C K _ flatF_length hC hK) (ev_some ?_))
  have : ((List.range C).map fun i => ((flatF (fun i j => cb.getD (j * C + i) 0) K C).take ((i + 1) * K)).drop (i * K)) = colsL K C cb :=
    List.map_congr_left fun i hi => flatF_row (List.mem_range.1 hi)
  rw [this]

theorem colsL_mem {K C : Nat} {cb : Sim} {q : Int} (hb : Elems cb q) (hq : 2 ≤ q ∧ q ≤ 251) {j : Nat} (hj : j < (colsL K C cb).length) : ∀ x ∈ (colsL K C cb)[j],0 ≤ x ∧ x ≤ 250 := by
  intro x hx
  have hm := List.getElem_mem hj
  generalize (colsL K C cb)[j] = y at hm hx
  unfold colsL at hm
  rw [List.mem_map] at hm
  obtain ⟨i,_,rfl⟩ := hm
  rw [List.mem_map] at hx
  obtain ⟨l,_,rfl⟩ := hx
  exact hb.get hq _

theorem product_1_ret (p : Int) (R K C : Nat) (ca cb : Sim) (i j : Nat) (hi : i < R) (hj : j < C) (hp : 2 ≤ p ∧ p ≤ 251) (hla : ca.length = R * K) (hR : R ≤ 32) (hK : K ≤ 32) (ea : Elems ca p) {q : Int} (hq : 2 ≤ q ∧ q ≤ 251) (eb : Elems cb q) :
    Ret E n_Z61 [dI (i : Int),dI (j : Int),dM (p,(R : Int),(K : Int),ca,()),⟨.ptr (.cons yK .nil),(colsL K C cb,())⟩] ⟨o_Z61,(mulE p ca cb K C i j,())⟩ := by
  have h1 := rc_le hR hK
  have hle : (i + 1) * K ≤ R * K := Nat.mul_le_mul_right _ hi
  have hjl : j < (colsL K C cb).length := by simp [colsL,hj]
  have hcl : ((colsL K C cb)[j]).length = K := by simp [colsL]
  have hrl : ((ca.take ((i + 1) * K)).drop (i * K)).length = K := by
    rw [List.length_drop,List.length_take,Nat.min_eq_left (by omega),Nat.add_mul]; omega
  refine ret_of ?_
  simp only [run_Z61,Z61.ev]
  refine ev_bind (idx_lt hjl) (ev_call (Mat_row_ret p _ K ca i (by omega) (by omega) (by omega)) (ev_call (dot_ret ((ca.take ((i + 1) * K)).drop (i * K)) ((colsL K C cb)[j]) p hp (by omega) (by omega) (fun x hx => ea.mem hp x (List.mem_of_mem_take (List.mem_of_mem_drop hx))) (colsL_mem eb hq hjl)) (ev_some ?_)))
  rw [hrl]
  have : dotN (fun l => ((ca.take ((i + 1) * K)).drop (i * K)).getD l 0) (fun l => ((colsL K C cb)[j]).getD l 0) K = dotN (fun l => ca.getD (i * K + l) 0) (fun l => cb.getD (l * C + j) 0) K := dotN_congr fun l hl => ⟨by
    rw [List.getD_eq_getElem?_getD,List.getD_eq_getElem?_getD,List.getElem?_drop,List.getElem?_take_of_lt (by rw [Nat.add_mul]; omega)],by
    simp [colsL,List.getD_eq_getElem?_getD,hl]⟩
  rw [this]; rfl

theorem VM.nat {m : Mat} (h : VM m) : ∃ R K : Nat,m = (m.1,(R : Int),(K : Int),m.2.2.2.1,()) ∧ R ≤ 32 ∧ K ≤ 32 ∧ m.2.2.2.1.length = R * K := by
  obtain ⟨p,r,k,c,⟨⟩⟩ := m
  obtain ⟨_,h2,h3,h4,_⟩ := h
  simp only at h2 h3 h4
  obtain ⟨R,rfl⟩ := Int.eq_ofNat_of_zero_le h2.1
  obtain ⟨K,rfl⟩ := Int.eq_ofNat_of_zero_le h3.1
  refine ⟨R,K,rfl,by omega,by omega,?_⟩
  rw [cast_mul] at h4; simp only; omega

theorem product_ret (a b : Mat) (ha : VM a) (hb : VM b) (hab : a.2.2.1 = b.2.1) : Ret E n_Z60 [dI a.1,dI a.2.1,dI a.2.2.1,dL a.2.2.2.1,dI b.1,dI b.2.1,dI b.2.2.1,dL b.2.2.2.1] ⟨o_Z60,mulM a b⟩ := by
  obtain ⟨R,K,ea,hR,hK,hla⟩ := ha.nat
  obtain ⟨K',C,eb,hK',hC,hlb⟩ := hb.nat
  have pa : 2 ≤ a.1 ∧ a.1 ≤ 251 := ⟨ha.1.1,ha.1.2.1⟩
  have pb' : 2 ≤ b.1 ∧ b.1 ≤ 251 := ⟨hb.1.1,hb.1.2.1⟩
  have ela := ha.2.2.2.2
  have elb := hb.2.2.2.2
  rw [ea,eb] at hab
  obtain rfl : K = K' := by have hab : (K : Int) = (K' : Int) := hab
                            omega
  rw [ea,eb]
  simp only
  refine ret_of ?_
  simp only [run_Z60,Z60.ev]
  have hRC := rc_le hR hC
  refine ev_call (columnsOf_ret _ K C _ hlb hK hC) (ev_call (filled_impl_product_1_ret a.1 R C ((a.1,(R : Int),(K : Int),a.2.2.2.1,()),(colsL K C b.2.2.2.1,()),()) (mulE a.1 a.2.2.2.1 b.2.2.2.1 K C) (by omega) (by omega) (by omega) fun i j hi hj => ?_) (ev_some ?_))
  · exact product_1_ret a.1 R K C _ _ i j hi hj pa hla hR hK ela pb' elb
  · simp only [mulM,Int.toNat_natCast]

theorem l03Zero_ret (p : Int) (R C : Nat) (hR : R ≤ 32) (hC : C ≤ 32) : Ret E n_Z144 [dI p,dI (R : Int),dI (C : Int)] ⟨o_Z144,(p,(R : Int),(C : Int),List.replicate (R * C) 0,())⟩ := by
  have h1 := rc_le hR hC
  have e1 : w64 ((R : Int) * (C : Int)) = ((R * C : Nat) : Int) := by rw [cast_mul]; exact w64_small (by omega) (by omega)
  refine ret_of ?_
  simp only [run_Z144,Z144.ev,e1,Int.toNat_natCast]
  exact ev_chk (by simp only [Bool.and_eq_true,decide_eq_true_eq]; omega) ev_rfl

theorem l03Times_ret (a b : Mat) (ha : VM a) (hb : VM b) (hab : a.2.2.1 = b.2.1) : Ret E n_Z143 [dM a,dM b] ⟨o_Z143,mulM a b⟩ := by
  obtain ⟨R,K,ea,hR,hK,hla⟩ := ha.nat
  obtain ⟨K',C,eb,hK',hC,hlb⟩ := hb.nat
  have pa : 2 ≤ a.1 ∧ a.1 ≤ 251 := ⟨ha.1.1,ha.1.2.1⟩
  have pb' : 2 ≤ b.1 ∧ b.1 ≤ 251 := ⟨hb.1.1,hb.1.2.1⟩
  have ela := ha.2.2.2.2
  have elb := hb.2.2.2.2
  rw [ea,eb] at hab
  obtain rfl : K = K' := by have hab : (K : Int) = (K' : Int) := hab
                            omega
  obtain ⟨p,r,k,ca,⟨⟩⟩ := a
  obtain ⟨q,k',c,cb,⟨⟩⟩ := b
  simp only [Prod.mk.injEq,true_and,and_true] at ea eb pa pb' ela elb hla hlb
  obtain ⟨rfl,rfl⟩ := ea
  obtain ⟨rfl,rfl⟩ := eb
  have hRC := rc_le hR hC
  have hRK := rc_le hR hK
  have hKC := rc_le hK hC
  have hM : mulM (p,(R : Int),(K : Int),ca,()) (q,(K : Int),(C : Int),cb,()) = (p,(R : Int),(C : Int),flatF (mulE p ca cb K C) C R,()) := by simp [mulM]
  rw [hM]
  refine ret_of ?_
  simp only [run_Z143,Z143.ev,Z143.j0_eq _ mk_ok]
  suffices h : Ev fun φ => Z143.l1 (mkR (run E (φ 0))) (φ 0) (φ 0) (p,(R : Int),(K : Int),ca,()) (q,(K : Int),(C : Int),cb,()) 0 0 0 0 p (R : Int) (C : Int) (List.replicate (R * C) 0) = some ⟨o_Z143,(p,(R : Int),(C : Int),flatF (mulE p ca cb K C) C R,())⟩ by
    exact ev_both (ev_call (l03Zero_ret p R C hR hC) h) (ev_call (l03Zero_ret p R C hR hC) h)
  refine Ev.start (p := fun φ n => Z143.l1 (mkR (run E (φ 0))) (φ 0) n (p,(R : Int),(K : Int),ca,()) (q,(K : Int),(C : Int),cb,()) 0 0 0 0 p (R : Int) (C : Int) (List.replicate (R * C) 0) = _) 1 ?_ (fun _ _ _ h => h)
  have := fold_loop 1 (L := fun φ n i o => Z143.l1 (mkR (run E (φ 0))) (φ 0) n (p,(R : Int),(K : Int),ca,()) (q,(K : Int),(C : Int),cb,()) i 0 0 0 p (R : Int) (C : Int) o) (len := R) (fun i => flatF (mulE p ca cb K C) C i ++ List.replicate ((R - i) * C) 0) (r := some ⟨o_Z143,(p,(R : Int),(C : Int),flatF (mulE p ca cb K C) C R,())⟩) (fun _ _ _ _ _ => rfl) (fun i r hi ih => ?_) ?_
  · simpa [flatF] using this
  · simp only [Z143.l1_succ _ mk_ok]
    refine ev_t (decide_eq_true (by omega)) ?_
    refine Ev.start (p := fun φ n => Z143.l2 (mkR (run E (φ 0))) (φ 0) (φ 1) n (p,(R : Int),(K : Int),ca,()) (q,(K : Int),(C : Int),cb,()) (i : Int) 0 0 0 0 p (R : Int) (C : Int) (flatF (mulE p ca cb K C) C i ++ List.replicate ((R - i) * C) 0) = _) 2 ?_ (fun _ _ _ h => h)
    have hRi : (R - i) * C = (R - (i + 1)) * C + C := by
      rw [show R - i = (R - (i + 1)) + 1 by omega,Nat.add_mul]; omega
    have hiC : (i + 1) * C ≤ R * C := Nat.mul_le_mul_right _ hi
    have hiK : (i + 1) * K ≤ R * K := Nat.mul_le_mul_right _ hi
    rw [Nat.add_mul] at hiC hiK
    have := fold_loop 2 (L := fun φ n j o => Z143.l2 (mkR (run E (φ 0))) (φ 0) (φ 1) n (p,(R : Int),(K : Int),ca,()) (q,(K : Int),(C : Int),cb,()) (i : Int) j 0 0 0 p (R : Int) (C : Int) o) (len := C) (fun j => (flatF (mulE p ca cb K C) C i ++ (List.range j).map (mulE p ca cb K C i)) ++ List.replicate ((R - i) * C - j) 0) (r := r) (fun _ _ _ _ _ => rfl) (fun j r hj ih => ?_) ?_
    · simpa using this
    · simp only [Z143.l2_succ _ mk_ok]
      refine ev_t (decide_eq_true (by omega)) ?_
      have hpl : (flatF (mulE p ca cb K C) C i ++ (List.range j).map (mulE p ca cb K C i)).length = i * C + j := by simp [flatF_length]
      have hsp : (R - i) * C - j = ((R - i) * C - (j + 1)) + 1 := by omega
      generalize hO : (flatF (mulE p ca cb K C) C i ++ (List.range j).map (mulE p ca cb K C i)) ++ List.replicate ((R - i) * C - j) 0 = O
      have hOl : O.length = R * C := by
        rw [← hO,List.length_append,hpl,List.length_replicate,hRi]
        have : R * C = (R - (i + 1)) * C + (i * C + C) := by
          have e : R = (R - (i + 1)) + (i + 1) := by omega
          have := congrArg (· * C) e
          simp only [Nat.add_mul,Nat.one_mul] at this ⊢; omega
        omega
      refine Ev.start (p := fun φ n => Z143.l3 (mkR (run E (φ 0))) (φ 0) (φ 1) (φ 2) n (p,(R : Int),(K : Int),ca,()) (q,(K : Int),(C : Int),cb,()) (i : Int) (j : Int) 0 0 0 0 0 p (R : Int) (C : Int) O = _) 3 ?_ (fun _ _ _ h => h)
      refine fold_loop 3 (L := fun φ n l s => Z143.l3 (mkR (run E (φ 0))) (φ 0) (φ 1) (φ 2) n (p,(R : Int),(K : Int),ca,()) (q,(K : Int),(C : Int),cb,()) (i : Int) (j : Int) s l 0 0 0 p (R : Int) (C : Int) O) (len := K) (fun l => dotN (fun l => ca.getD (i * K + l) 0) (fun l => cb.getD (l * C + j) 0) l) (fun _ _ _ _ _ => rfl) (fun l r hl ih => ?_) ?_
      · simp only [Z143.l3_succ _ mk_ok]
        have b1 := dotN_le (f := fun l => ca.getD (i * K + l) 0) (g := fun l => cb.getD (l * C + j) 0) (n := l) fun l _ => ⟨ela.get pa _,elb.get pb' _⟩
        have b2 := mul_in (ela.get pa (i * K + l)) (elb.get pb' (l * C + j))
        have hlC : (l + 1) * C ≤ K * C := Nat.mul_le_mul_right _ hl
        rw [Nat.add_mul] at hlC
        have e1 : w64 (w64 ((i : Int) * (K : Int)) + (l : Int)) = ((i * K + l : Nat) : Int) := by
          rw [cast_mul,w64_small (n := ((i * K : Nat) : Int)) (by omega) (by omega),w64_small (by omega) (by omega)]; omega
        have e2 : w64 (w64 ((l : Int) * (C : Int)) + (j : Int)) = ((l * C + j : Nat) : Int) := by
          rw [cast_mul,w64_small (n := ((l * C : Nat) : Int)) (by omega) (by omega),w64_small (by omega) (by omega)]; omega
        simp only [e1,e2]
        have i1 : i * K + l < ca.length := by omega
        have i2 : l * C + j < cb.length := by omega
        refine ev_t (decide_eq_true (by omega)) (ev_bind (idx_lt i1) (ev_bind (idx_lt i2) ?_))
        simp only [dotN] at ih
        rw [getD_lt i1,getD_lt i2] at ih b2
        rw [w64_small (n := ca[i * K + l] * cb[l * C + j]) (by omega) (by omega),w64_small (by omega) (by omega),w64_succ (by omega)]
        exact ih
      · simp only [Z143.l3_succ _ mk_ok]
        have b1 := dotN_le (f := fun l => ca.getD (i * K + l) 0) (g := fun l => cb.getD (l * C + j) 0) (n := K) fun l _ => ⟨ela.get pa _,elb.get pb' _⟩
        have e1 : w64 (w64 ((i : Int) * (C : Int)) + (j : Int)) = ((i * C + j : Nat) : Int) := by
          rw [cast_mul,w64_small (n := ((i * C : Nat) : Int)) (by omega) (by omega),w64_small (by omega) (by omega)]; omega
        simp only [e1,Int.toNat_natCast]
        refine ev_f (decide_eq_false (by omega)) (ev_chk (by simp; omega) (ev_chk (by simp only [Bool.and_eq_true,decide_eq_true_eq]; omega) ?_))
        rw [Int.tmod_eq_emod_of_nonneg (by omega),w64_succ (by omega),← hO,hsp,← hpl,set_mid]
        rw [List.range_succ,List.map_append,← List.append_assoc] at ih
        exact ih
    · simp only [Z143.l2_succ _ mk_ok]
      refine ev_f (decide_eq_false (by omega)) ?_
      rw [w64_succ (by omega),hRi,Nat.add_sub_cancel]
      exact ih
  · simp only [Z143.l1_succ _ mk_ok]
    refine ev_f (decide_eq_false (by omega)) (ev_some ?_)
    simp

end VeT

open Go Go.Proofs Ve
set_option linter.unusedVariables false
set_option linter.unusedSimpArgs false
namespace VeT

theorem EqualP_ret (a b : Sim) (ha : a.length ≤ 1048576) : Ret E n_Z114 [dL a,dL b] ⟨o_Z114,(pb (a = b),())⟩ := by
  refine ret_of ?_
  simp only [run_Z114,Z114.ev]
  refine ev_b (fun h => ev_some ?_) fun h => ?_
  · have h : (a.length : Int) ≠ b.length := by simpa using h
    rw [pb_false fun e => h (by rw [e])]
  · have h : (a.length : Int) = b.length := by simpa using h
    refine Ev.start (p := fun φ n => Z114.l0 (mkR (run E (φ 0))) (φ 0) n a b (a.length : Int) 0 = _) 1 ?_ (fun _ _ _ h => h)
    refine (all_pb 1 (L := fun φ n k => Z114.l0 (mkR (run E (φ 0))) (φ 0) n a b (a.length : Int) k) (len := a.length) 0 (by omega) (fun j => a.getD j 0 = b.getD j 0) (fun b => some ⟨o_Z114,(b,())⟩) (fun _ _ _ _ => rfl) (fun k h1 h2 hP _ => ?_) (fun k r h1 h2 hP _ ih => ?_) (fun _ => ?_)).to ?_
    · simp only [Z114.l0_succ _ mk_ok]
      have hb : k < b.length := by omega
      rw [getD_lt h2,getD_lt hb] at hP
      exact ev_t (decide_eq_true (by omega)) (ev_bind (idx_lt h2) (ev_bind (idx_lt hb) (ev_t (by simpa using hP) ev_rfl)))
    · simp only [Z114.l0_succ _ mk_ok]
      have hb : k < b.length := by omega
      rw [getD_lt h2,getD_lt hb] at hP
      refine ev_t (decide_eq_true (by omega)) (ev_bind (idx_lt h2) (ev_bind (idx_lt hb) (ev_f (by simpa using hP) ?_)))
      rw [w64_succ (by omega)]; exact ih
    · simp only [Z114.l0_succ _ mk_ok]
      exact ev_f (decide_eq_false (by omega)) ev_rfl
    · refine congrArg (fun b : Bool => some (⟨o_Z114,(b,())⟩ : Dv)) (pb_congr ⟨fun hh => List.ext_getElem (by omega) fun j h1 h2 => ?_,fun hh j _ _ => by rw [hh]⟩)
      have := hh j (by omega) h1
      rwa [getD_lt h1,getD_lt h2] at this

theorem mat_eq {a b : Mat} : a = b ↔ a.1 = b.1 ∧ a.2.1 = b.2.1 ∧ a.2.2.1 = b.2.2.1 ∧ a.2.2.2.1 = b.2.2.2.1 := by
  obtain ⟨p,r,k,c,⟨⟩⟩ := a
  obtain ⟨p',r',k',c',⟨⟩⟩ := b
  simp only [Prod.mk.injEq,and_true]

theorem SameMatrixP_ret (a b : Mat) (ha : a.2.2.2.1.length ≤ 1048576) : Ret E n_Z9 [dI a.1,dI a.2.1,dI a.2.2.1,dL a.2.2.2.1,dI b.1,dI b.2.1,dI b.2.2.1,dL b.2.2.2.1] ⟨o_Z9,(pb (a = b),())⟩ := by
  refine ret_of ?_
  simp only [run_Z9,Z9.ev]
  refine ev_b (fun h1 => ev_b (fun h2 => ev_b (fun h3 => ev_call (EqualP_ret _ _ ha) (ev_some ?_)) fun h3 => ev_some ?_) fun h2 => ev_some ?_) fun h1 => ev_some ?_
  · exact congrArg (fun b : Bool => some (⟨o_Z9,(b,())⟩ : Dv)) (pb_congr ⟨fun h => mat_eq.2 ⟨by simpa using h1,by simpa using h2,by simpa using h3,h⟩,fun h => (mat_eq.1 h).2.2.2⟩)
  · rw [pb_false fun h => by have := (mat_eq.1 h).2.2.1; simp [this] at h3]
  · rw [pb_false fun h => by have := (mat_eq.1 h).2.1; simp [this] at h2]
  · rw [pb_false fun h => by have := (mat_eq.1 h).1; simp [this] at h1]

theorem l03SameP_ret (a b : Mat) (ha : a.2.2.2.1.length ≤ 1048576) : Ret E n_Z141 [dM a,dM b] ⟨o_Z141,(pb (a = b),())⟩ := by
  refine ret_of ?_
  simp only [run_Z141,Z141.ev]
  have no : a ≠ b → Ev fun φ => Z141.j0 (mkR (run E (φ 0))) (φ 0) a b true = some ⟨o_Z141,(pb (a = b),())⟩ := fun h => by
    simp only [Z141.j0_eq _ mk_ok,cond_true]
    rw [pb_false h]; (first | exact ev_rfl | exact Ev.of fun _ => trivial)
  refine ev_b (fun h1 => no fun h => by simp [(mat_eq.1 h).1] at h1) fun h1 => ev_b (fun h2 => no fun h => by simp [(mat_eq.1 h).2.1] at h2) fun h2 => ev_b (fun h3 => no fun h => by simp [(mat_eq.1 h).2.2.1] at h3) fun h3 => ?_
  have h1 : a.1 = b.1 := by simpa using h1
  have h2 : a.2.1 = b.2.1 := by simpa using h2
  have h3 : a.2.2.1 = b.2.2.1 := by simpa using h3
  by_cases hl : a.2.2.2.1.length = b.2.2.2.1.length
  · simp only [show ((a.2.2.2.1.length : Int) != (b.2.2.2.1.length : Int)) = false by simp [hl],Z141.j0_eq _ mk_ok,cond_false]
    refine Ev.start (p := fun φ n => Z141.l1 (mkR (run E (φ 0))) (φ 0) n a b 0 = _) 1 ?_ (fun _ _ _ h => h)
    refine (all_pb 1 (L := fun φ n k => Z141.l1 (mkR (run E (φ 0))) (φ 0) n a b k) (len := a.2.2.2.1.length) 0 (by omega) (fun j => a.2.2.2.1.getD j 0 = b.2.2.2.1.getD j 0) (fun b => some ⟨o_Z141,(b,())⟩) (fun _ _ _ _ => rfl) (fun k k1 k2 hP _ => ?_) (fun k r k1 k2 hP _ ih => ?_) (fun _ => ?_)).to ?_
    · simp only [Z141.l1_succ _ mk_ok]
      have hb : k < b.2.2.2.1.length := by omega
      rw [getD_lt k2,getD_lt hb] at hP
      exact ev_t (decide_eq_true (by omega)) (ev_bind (idx_lt k2) (ev_bind (idx_lt hb) (ev_t (by simpa using hP) ev_rfl)))
    · simp only [Z141.l1_succ _ mk_ok]
      have hb : k < b.2.2.2.1.length := by omega
      rw [getD_lt k2,getD_lt hb] at hP
      refine ev_t (decide_eq_true (by omega)) (ev_bind (idx_lt k2) (ev_bind (idx_lt hb) (ev_f (by simpa using hP) ?_)))
      rw [w64_succ (by omega)]; exact ih
    · simp only [Z141.l1_succ _ mk_ok]
      exact ev_f (decide_eq_false (by omega)) ev_rfl
    · refine congrArg (fun b : Bool => some (⟨o_Z141,(b,())⟩ : Dv)) (pb_congr ⟨fun hh => mat_eq.2 ⟨h1,h2,h3,List.ext_getElem hl fun j g1 g2 => ?_⟩,fun hh j _ _ => by rw [hh]⟩)
      have := hh j (by omega) g1
      rwa [getD_lt g1,getD_lt g2] at this
  · simp only [show ((a.2.2.2.1.length : Int) != (b.2.2.2.1.length : Int)) = true by simp; omega]
    exact no fun h => hl (by rw [(mat_eq.1 h).2.2.2])

/-! the maps of a sheaf -/
noncomputable def mp (c : List Sim) (ms : List Mat) (k i : Nat) : Mat := ms.getD (plc c k + i) mz

noncomputable def fc (c : List Sim) (k i : Nat) : Nat := ((fIdx c k).getD i 0).toNat

theorem findI_get {c : List Sim} {s : Sim} (h : s ∈ c) : c.getD (findI c s).toNat [] = s := by
  have h0 := findI_nonneg.2 h
  unfold findI idxf at h0 ⊢
  cases hf : c.findIdx? (fun x => pb (x = s)) with
  | none => rw [hf] at h0; simp [o2i] at h0
  | some k =>
    rw [List.findIdx?_eq_some_iff_getElem] at hf
    obtain ⟨hk,hp,_⟩ := hf
    simp only [o2i,Int.toNat_natCast]
    rw [getD_lt hk]; exact pb_iff.1 hp

theorem fc_get {c : List Sim} (h : VC c) {k i : Nat} (hk : k < c.length) (hi : i < (fIdx c k).length) : idx? (fIdx c k) (i : Int) = some ((fc c k i : Nat) : Int) ∧ fc c k i < c.length ∧ c.getD (fc c k i) [] = (c.getD k []).eraseIdx i := by
  have hm := fIdx_mem h hk (List.getElem_mem hi)
  have hl := fIdx_length (c := c) (k := k)
  have h1 : 1 < (c.getD k []).length := Classical.byContradiction fun hn => by rw [if_neg hn] at hl; omega
  rw [if_pos h1] at hl
  have hfc : (fIdx c k)[i] = findI c ((c.getD k []).eraseIdx i) := by
    have : (fIdx c k)[i]? = some (findI c ((c.getD k []).eraseIdx i)) := by
      unfold fIdx faces
      rw [if_pos h1,List.map_map,List.getElem?_map,List.getElem?_range (by omega)]; rfl
    rw [List.getElem?_eq_getElem hi] at this
    exact Option.some.inj this
  have hin : (c.getD k []).eraseIdx i ∈ c := h.2.2.2 k hk _ (faces_mem.2 ⟨h1,i,by omega,rfl⟩)
  unfold fc
  rw [getD_lt hi]
  refine ⟨?_,by omega,?_⟩
  · rw [idx_lt hi]; congr 1; omega
  · rw [hfc]; exact findI_get hin

theorem VS.map {c : List Sim} {p : Int} {st : Sim} {ms : List Mat} (h : VS c p st ms) {k i : Nat} (hk : k < c.length) (hi : i < (fIdx c k).length) : plc c k + i < ms.length ∧ Bt (mp c ms k i) p (st.getD (fc c k i) 0) (st.getD k 0) := by
  have hg := arrs_get hk hi
  have hlt := (List.getElem?_eq_some_iff.1 hg).1
  exact ⟨by rw [← h.2.2.2.1]; exact hlt,h.2.2.2.2 k hk i hi⟩

theorem firstMap_ret (c : List Sim) (p : Int) (st : Sim) (ms : List Mat) (k : Nat) (hk : k ≤ c.length) (hv : VC c) : Ret E n_Z43 [dLL c,dI p,dL st,dMs ms,dI (k : Int)] ⟨o_Z43,(((plc c k : Nat) : Int),())⟩ := by
  have h48 := hv.1
  have htl : (c.take k).length = k := by rw [List.length_take]; omega
  refine ret_of ?_
  simp only [run_Z43,Z43.ev,Int.toNat_natCast,htl]
  refine ev_chk (by simp; omega) ?_
  refine Ev.start (p := fun φ n => Z43.l0 (mkR (run E (φ 0))) (φ 0) n 0 (c.take k) (k : Int) 0 = _) 1 ?_ (fun _ _ _ h => h)
  have := fold_loop 1 (L := fun φ n j a => Z43.l0 (mkR (run E (φ 0))) (φ 0) n a (c.take k) (k : Int) j) (len := k) (fun j => ((plc c j : Nat) : Int)) (r := some ⟨o_Z43,(((plc c k : Nat) : Int),())⟩) (fun _ _ _ _ _ => rfl) (fun j r hj ih => ?_) ?_
  · exact this
  · simp only [Z43.l0_succ _ mk_ok]
    have hjc : j < c.length := by omega
    have hpl := hv.plc (k := j) (by omega)
    have h4 := hv.len4 hjc
    have e := plc_succ (c := c) (k := j)
    rw [fIdx_length] at e
    rw [getD_lt hjc] at e h4
    have hjt : j < (c.take k).length := by omega
    have hgt : (c.take k)[j] = c[j] := List.getElem_take
    refine ev_t (decide_eq_true (by omega)) (ev_bind (idx_lt hjt) ?_)
    rw [hgt]
    refine ev_d (fun hl => ev_call (sizeI_ret _) ?_) fun hl => ?_
    · rw [if_pos (by omega)] at e
      rw [w64_succ (by omega),w64_small (by omega) (by omega)]
      rw [e] at ih
      simpa using ih
    · rw [if_neg (by omega)] at e
      rw [w64_succ (by omega)]
      rw [e] at ih; exact ih
  · simp only [Z43.l0_succ _ mk_ok]
    exact ev_f (decide_eq_false (by omega)) ev_rfl

theorem direct_ret (c : List Sim) (p : Int) (st : Sim) (ms : List Mat) (k i : Nat) (hk : k < c.length) (hi : i < (fIdx c k).length) (h : VS c p st ms) : Ret E n_Z32 [dLL c,dI p,dL st,dMs ms,dI (k : Int),dI (i : Int)] ⟨o_Z32,mp c ms k i⟩ := by
  have h48 := h.1.1
  have hpl := h.1.plc (k := k) (by omega)
  have h4 := h.1.fIdx4 hk
  obtain ⟨ht,_⟩ := h.map hk hi
  refine ret_of ?_
  simp only [run_Z32,Z32.ev]
  refine ev_call (firstMap_ret c p st ms k (by omega) h.1) ?_
  simp only
  rw [w64_small (by omega) (by omega),show ((plc c k : Nat) : Int) + (i : Int) = ((plc c k + i : Nat) : Int) by omega]
  refine ev_bind (idx_lt ht) (ev_some ?_)
  rw [mp,getD_lt ht]

theorem l09Get_ret (x : Shf) (k i : Nat) (hk : k < x.1.length) (hi : i < (fIdx x.1 k).length) (h : VS x.1 x.2.1 x.2.2.1 x.2.2.2.1) : Ret E n_Z158 [dS x,dI (k : Int),dI (i : Int)] ⟨o_Z158,(mp x.1 x.2.2.2.1 k i,())⟩ := by
  have h4 := h.1.fIdx4 hk
  obtain ⟨ht,_⟩ := h.map hk hi
  refine ret_of ?_
  simp only [run_Z158,Z158.ev]
  refine ev_call (l09Place_ret x.1 k i (by omega) (by omega) h.1) (ev_bind (idx_lt ht) (ev_some ?_))
  rw [mp,getD_lt ht]

/-- a way over two faces -/
noncomputable def two (c : List Sim) (ms : List Mat) (k i j : Nat) : Mat := mulM (mp c ms k i) (mp c ms (fc c k i) j)

theorem mulM_len {a b : Mat} (ha : VM a) (hb : VM b) : (mulM a b).2.2.2.1.length ≤ 1048576 := by
  show (flatF _ _ _).length ≤ _
  rw [flatF_length]
  have h1 := ha.2.1
  have h2 := hb.2.2.1
  have := rc_le (R := a.2.1.toNat) (C := b.2.2.1.toNat) (by omega) (by omega)
  omega

structure Sq (c : List Sim) (p : Int) (st : Sim) (ms : List Mat) (k i j : Nat) : Prop where
  kl : k < c.length
  n3 : 3 ≤ (c.getD k []).length
  il : i < (c.getD k []).length
  jl : j + 1 < (c.getD k []).length
  v : VS c p st ms

theorem Sq.hi {c p st ms k i j} (h : Sq c p st ms k i j) : i < (fIdx c k).length := by
  have := h.n3; have := h.il
  rw [fIdx_length,if_pos (by omega)]; exact this

theorem Sq.fk {c p st ms k i j} (h : Sq c p st ms k i j) : fc c k i < c.length := (fc_get h.v.1 h.kl h.hi).2.1

theorem Sq.hj {c p st ms k i j} (h : Sq c p st ms k i j) : j < (fIdx c (fc c k i)).length := by
  have h1 := h.n3; have h2 := h.il; have h3 := h.jl
  have e := (fc_get h.v.1 h.kl h.hi).2.2
  rw [fIdx_length,e,List.length_eraseIdx,if_pos h2,if_pos (by omega)]; omega

theorem Sq.b1 {c p st ms k i j} (h : Sq c p st ms k i j) : VM (mp c ms k i) := ((h.v.map h.kl h.hi).2).1
theorem Sq.b2 {c p st ms k i j} (h : Sq c p st ms k i j) : VM (mp c ms (fc c k i) j) := ((h.v.map h.fk h.hj).2).1
theorem Sq.sh {c p st ms k i j} (h : Sq c p st ms k i j) : (mp c ms k i).2.2.1 = (mp c ms (fc c k i) j).2.1 := by
  rw [((h.v.map h.kl h.hi).2).2.2.2,((h.v.map h.fk h.hj).2).2.2.1]

theorem Sq.impl {c p st ms k i j} (h : Sq c p st ms k i j) : Ret E n_Z60 [dI (mp c ms k i).1,dI (mp c ms k i).2.1,dI (mp c ms k i).2.2.1,dL (mp c ms k i).2.2.2.1,dI (mp c ms (fc c k i) j).1,dI (mp c ms (fc c k i) j).2.1,dI (mp c ms (fc c k i) j).2.2.1,dL (mp c ms (fc c k i) j).2.2.2.1] ⟨o_Z60,two c ms k i j⟩ :=
  product_ret _ _ h.b1 h.b2 h.sh

theorem l09Two_ret (x : Shf) (k i j : Nat) (hij : i ≠ j) (h : Sq x.1 x.2.1 x.2.2.1 x.2.2.2.1 k i (if i < j then j - 1 else j)) (hc : Sm yK x.1) (hj : j ≤ 1048576) : Ret E n_Z165 [dS x,dI (k : Int),dI (i : Int),dI (j : Int)] ⟨o_Z165,two x.1 x.2.2.2.1 k i (if i < j then j - 1 else j)⟩ := by
  obtain ⟨hidx,hF,_⟩ := fc_get h.v.1 h.kl h.hi
  refine ret_of ?_
  simp only [run_Z165,Z165.ev]
  refine ev_call (l05Faces_ret x.1 k h.kl hc) (ev_bind hidx ?_)
  have tail : Ev fun φ => Z165.j0 (mkR (run E (φ 0))) (φ 0) x (k : Int) (i : Int) (((if i < j then j - 1 else j : Nat)) : Int) ((fc x.1 k i : Nat) : Int) 0 0 0 = some ⟨o_Z165,two x.1 x.2.2.2.1 k i (if i < j then j - 1 else j)⟩ := by
    simp only [Z165.j0_eq _ mk_ok]
    refine ev_call (l09Get_ret x k i h.kl h.hi h.v) (ev_call (l09Get_ret x _ _ h.fk h.hj h.v) (ev_call (l03Times_ret _ _ h.b1 h.b2 h.sh) ev_rfl))
  refine ev_d (fun hgt => ?_) fun hgt => ?_
  · rw [w64_small (by omega) (by omega),show (j : Int) - 1 = ((j - 1 : Nat) : Int) by omega]
    rw [if_pos (by omega)] at tail ⊢; exact tail
  · rw [if_neg (by omega)] at tail ⊢; exact tail

end VeT
