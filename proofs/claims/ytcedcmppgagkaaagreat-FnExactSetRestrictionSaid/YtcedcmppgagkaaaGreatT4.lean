import Derived.Test.YtcedcmppgagkaaaGreatT3
import Derived.Test.YtcedcmppgagkaaaGreatV2
import Derived.Deep.QuietTactic
import Derived.BigQuiet
import Derived.RegionTactic
import Derived.Deep.RegionWith
import Derived.Shelf.SlSortCmp.Whole1
import Derived.Shelf.SlSortCmp.NoneTotal
import Derived.Ground.SlsfProg
import Derived.Test.YtcedcmppgagkaaaGreatProg
import Derived.KernelRfl
import Derived.WalkKit
import Derived.Lib.Walk
import Derived.Lib.SliceRun
import Derived.Lib.AppendZerosOnto
set_option linter.unusedVariables false
set_option linter.unusedSimpArgs false
open Go Go.Proofs Ve
set_option linter.unusedVariables false
set_option maxRecDepth 100000
namespace VeT
@[reducible] noncomputable def q1_0 (R:Run) (N:Nat):=kS R pol_Z88 7 N [1,1] F_Z88
@[reducible] noncomputable def q1_1 (R:Run) (N:Nat):=lC R pol_Z88 2 N [1,0,1,0,0] F_Z88
noncomputable def Z90.l0 (R:Run) (N n:Nat) (a:(List Int)) (b:((Int × Unit) × Unit)) (e f:Int):Option Dv := R.w (some ⟨(.c (.d yL a)::(.c (.d (.fn n_Z15 (.cons (.ptr (.cons yI .nil)) .nil)) b)::(zd 5 (.c (.d yI e)::(.c (.d yI f)::(zd 10 [])))))),(zo 21 [])⟩) fun st => q1_1 R N n st (kB R pol_Z88 0 (q1_0 R N (kTop E sg_Z88 F_Z88)))
theorem Z90.l0_succ (R:Run) (hw:R.ok) (N n:Nat) (a:(List Int)) (b:((Int × Unit) × Unit)) (c d:Int):Z90.l0 R N (n + 1) a b c d = (bif (decide (d < c)) then ((idx? a d).bind fun y5 => ((callT R n_Z15 o_Z15 [⟨yI,(y5,()).1⟩,⟨(.ptr (.cons yI .nil)),b.1⟩]).bind fun r6 => (bif r6.1 then some ⟨o_Z88,(d,())⟩ else (Z90.l0 R N n a b c (w64 (d + (1:Int))))))) else some ⟨o_Z88,((-1:Int),())⟩) := (hw _ _).trans (by kernel_rfl)
theorem Z90.ev (R:Run) (N:Nat) (a0:(List Int)) (a1:((Int × Unit) × Unit)):evFn E R sg_Z88 pol_Z88 F_Z88 N [⟨yL,a0⟩,⟨(.fn n_Z15 (.cons (.ptr (.cons yI .nil)) .nil)),a1⟩] = (Z90.l0 R N N a0 a1 (List.length a0:Int) (0:Int)) := by kernel_rfl
theorem Z82.ev (R:Run) (N:Nat) (a0:(List Int)) (a1:((Int × Unit) × Unit)):evFn E R sg_Z80 pol_Z80 F_Z80 N [⟨yL,a0⟩,⟨(.fn n_Z15 (.cons (.ptr (.cons yI .nil)) .nil)),a1⟩] = ((callT R n_Z88 o_Z88 [⟨yL,a0⟩,⟨(.fn n_Z15 (.cons (.ptr (.cons yI .nil)) .nil)),a1⟩]).bind fun r1 => some ⟨o_Z80,((decide (r1.1 ≥ (0:Int))),())⟩) := by kernel_rfl
theorem Z14.ev (R:Run) (N:Nat) (a0:(List Int)) (a1:Int):evFn E R sg_Z14 pol_Z14 F_Z14 N [⟨yL,a0⟩,⟨yI,a1⟩] = ((callT R n_Z80 o_Z80 [⟨yL,a0⟩,⟨(.fn n_Z15 (.cons (.ptr (.cons yI .nil)) .nil)),((a1,()),())⟩]).bind fun r1 => some ⟨o_Z14,((!r1.1),())⟩) := by kernel_rfl
theorem Z9.ev (R:Run) (N:Nat) (a0 a1 a2:Int) (a3:(List Int)):evFn E R sg_Z9 pol_Z9 F_Z9 N [⟨yI,a0⟩,⟨yI,a1⟩,⟨yI,a2⟩,⟨yL,a3⟩] = ((callT R n_Z10 o_Z10 [⟨yI,a0⟩]).bind fun r1 => (bif r1.1 then ((callT R n_Z32 o_Z32 [⟨yI,a1⟩]).bind fun r2 => (bif r2.1 then ((callT R n_Z32 o_Z32 [⟨yI,a2⟩]).bind fun r3 => (bif r3.1 then ((callT R n_Z39 o_Z39 [⟨yL,a3⟩]).bind fun r4 => (bif (r4.1 == (w64 (a1 * a2))) then ((callT R n_Z14 o_Z14 [⟨yL,a3⟩,⟨yI,a0⟩]).bind fun r5 => some ⟨o_Z9,(r5.1,())⟩) else some ⟨o_Z9,(false,())⟩)) else some ⟨o_Z9,(false,())⟩)) else some ⟨o_Z9,(false,())⟩)) else some ⟨o_Z9,(false,())⟩)) := by kernel_rfl
theorem Z28.ev (R:Run) (N:Nat) (a0 a1 a2:Int) (a3:(List Int)) (a4 a5 a6:Int):evFn E R sg_Z28 pol_Z28 F_Z28 N [⟨yI,a0⟩,⟨yI,a1⟩,⟨yI,a2⟩,⟨yL,a3⟩,⟨yI,a4⟩,⟨yI,a5⟩,⟨yI,a6⟩] = ((callT R n_Z9 o_Z9 [⟨yI,a0⟩,⟨yI,a1⟩,⟨yI,a2⟩,⟨yL,a3⟩]).bind fun r1 => (bif r1.1 then (bif (a0 == a4) then (bif (a1 == a6) then some ⟨o_Z28,((a2 == a5),())⟩ else some ⟨o_Z28,(false,())⟩) else some ⟨o_Z28,(false,())⟩) else some ⟨o_Z28,(false,())⟩)) := by kernel_rfl
theorem Z17.ev (R:Run) (N:Nat) (a0:Int):evFn E R sg_Z17 pol_Z17 F_Z17 N [⟨yI,a0⟩] = ((callT R n_Z41 o_Z41 [⟨yI,a0⟩,⟨yI,(0:Int)⟩,⟨yI,(3:Int)⟩]).bind fun r1 => some ⟨o_Z17,((!r1.1),())⟩) := by kernel_rfl
noncomputable def Z91.l0 (R:Run) (N n:Nat) (a:(List Int)) (b e:Int):Option Dv := R.w (some ⟨(.c (.d yL a)::(.c (.d (.fn n_Z17 .nil) ())::(zd 5 (.c (.d yI b)::(.c (.d yI e)::(zd 10 [])))))),(zo 21 [])⟩) fun st => q1_1 R N n st (kB R pol_Z88 0 (q1_0 R N (kTop E sg_Z88 F_Z88)))
theorem Z91.l0_succ (R:Run) (hw:R.ok) (N n:Nat) (a:(List Int)) (b c:Int):Z91.l0 R N (n + 1) a b c = (bif (decide (c < b)) then ((idx? a c).bind fun y4 => ((callT R n_Z17 o_Z17 [⟨yI,(y4,()).1⟩]).bind fun r5 => (bif r5.1 then some ⟨o_Z88,(c,())⟩ else (Z91.l0 R N n a b (w64 (c + (1:Int))))))) else some ⟨o_Z88,((-1:Int),())⟩) := (hw _ _).trans (by kernel_rfl)
theorem Z91.ev (R:Run) (N:Nat) (a0:(List Int)):evFn E R sg_Z88 pol_Z88 F_Z88 N [⟨yL,a0⟩,⟨(.fn n_Z17 .nil),()⟩] = (Z91.l0 R N N a0 (List.length a0:Int) (0:Int)) := by kernel_rfl
theorem Z83.ev (R:Run) (N:Nat) (a0:(List Int)):evFn E R sg_Z80 pol_Z80 F_Z80 N [⟨yL,a0⟩,⟨(.fn n_Z17 .nil),()⟩] = ((callT R n_Z88 o_Z88 [⟨yL,a0⟩,⟨(.fn n_Z17 .nil),()⟩]).bind fun r1 => some ⟨o_Z80,((decide (r1.1 ≥ (0:Int))),())⟩) := by kernel_rfl
noncomputable def Z37.l0 (R:Run) (N n:Nat) (a:Int) (b:vK) (e f:Int) (g:(List Int)):Option Dv := R.w (some ⟨(V.dead::(.c (.d yI a)::(zd 3 (.c (.arr 24)::(zd 3 (.c (.d yK b)::(.c (.d yI e)::(.c (.d yI f)::(zd 15 []))))))))),(zo 24 (some (.arr yI g true false false)::(zo 4 [])))⟩) fun st => lC R pol_Z37 3 N [1,1,0,1,0,0] F_Z37 n st (kB R pol_Z37 0 (kS R pol_Z37 8 N [1,1,1] F_Z37 (kTop E sg_Z37 F_Z37)))
theorem Z37.l0_succ (R:Run) (hw:R.ok) (N n:Nat) (a:Int) (b:vK) (c d:Int) (e:(List Int)):Z37.l0 R N (n + 1) a b c d e = (bif (decide (d < c)) then ((idx? b d).bind fun y6 => ((callT R n_Z39 o_Z39 [⟨yL,(y6,()).1⟩]).bind fun r7 => (bif (r7.1 == (w64 (a + (1:Int)))) then ((chk (decide ((List.length e + List.length [d]) * 8 ≤ 70368744177664))).bind fun _ => (Z37.l0 R N n a b c (w64 (d + (1:Int))) (e ++ [d]))) else (Z37.l0 R N n a b c (w64 (d + (1:Int))) e)))) else some ⟨o_Z37,(e,())⟩) := (hw _ _).trans (by kernel_rfl)
theorem Z37.ev (R:Run) (N:Nat) (a0:vK) (a1:Int):evFn E R sg_Z37 pol_Z37 F_Z37 N [⟨yK,a0⟩,⟨yI,a1⟩] = (Z37.l0 R N N a1 a0 (List.length a0:Int) (0:Int) ([]:List Int)) := by kernel_rfl
noncomputable def Z40.l0 (R:Run) (N n:Nat) (a:Int) (b:(List Int)) (e f:Int) (g:vK) (h:Int) (i:(List Int)) (j:vN):Option Dv := R.w (some ⟨(V.dead::(V.dead::(.c (.box 2 0)::(V.dead::(V.dead::(.c (.d yI a)::(zd 5 (.c (.d yL b)::(.c (.d yI e)::(.c (.d yI f)::(zd 12 []))))))))))),(none::(none::(some (.box [.d yK g,.d yI h,.d yL i,.d yN j] false false)::(zo 28 []))))⟩) fun st => lC R pol_Z40 3 N [1,1,0,1,0,0] F_Z40 n st (kB R pol_Z40 0 (kS R pol_Z40 7 N [1,1,1] F_Z40 (kTop E sg_Z40 F_Z40)))
theorem Z40.l0_succ (R:Run) (hw:R.ok) (N n:Nat) (a:Int) (b:(List Int)) (c d:Int) (e:vK) (f:Int) (g:(List Int)) (h:vN):Z40.l0 R N (n + 1) a b c d e f g h = (bif (decide (d < c)) then ((idx? b d).bind fun y10 => ((idx? g (y10,()).1).bind fun y11 => (Z40.l0 R N n (w64 (a + (y11,()).1)) b c (w64 (d + (1:Int))) e f g h))) else some ⟨o_Z40,(a,())⟩) := (hw _ _).trans (by kernel_rfl)
theorem Z40.ev (R:Run) (N:Nat) (a0:vK) (a1:Int) (a2:(List Int)) (a3:vN) (a4:Int):evFn E R sg_Z40 pol_Z40 F_Z40 N [⟨yK,a0⟩,⟨yI,a1⟩,⟨yL,a2⟩,⟨yN,a3⟩,⟨yI,a4⟩] = ((callT R n_Z37 o_Z37 [⟨yK,a0⟩,⟨yI,a4⟩]).bind fun r1 => (Z40.l0 R N N (0:Int) r1.1 (List.length r1.1:Int) (0:Int) a0 a1 a2 a3)) := by kernel_rfl
noncomputable def Z16.l1 (R:Run) (N n:Nat) (a:(List Int)) (b:Int) (e:vK):Option Dv := R.w (some ⟨(V.dead::(.c (.d yL a)::(.c (.box 2 0)::(zd 13 (.c (.d yI b)::(zd 9 [])))))),(none::(none::(some (.box [.d yK e] false false)::(zo 25 []))))⟩) fun st => lC R pol_Z16 4 N [1,1,0,1,0,0] F_Z16 n st (kB R pol_Z16 0 (kS R pol_Z16 9 N [1,1,1] F_Z16 (kTop E sg_Z16 F_Z16)))
noncomputable def Z16.j0 (R:Run) (N:Nat) (a:(List Int)) (b:Bool) (e:vK):Option Dv := R.w (some ⟨(V.dead::(.c (.d yL a)::(.c (.box 2 0)::(zd 12 (.c (.d .bool b)::(zd 10 [])))))),(none::(none::(some (.box [.d yK e] false false)::(zo 25 []))))⟩) fun st => eC R pol_Z16 N [1,0,1] F_Z16 st (kS R pol_Z16 3 N [1,1] F_Z16 (kTop E sg_Z16 F_Z16))
theorem Z16.l1_succ (R:Run) (hw:R.ok) (N n:Nat) (a:(List Int)) (b:Int) (c:vK):Z16.l1 R N (n + 1) a b c = (bif (decide (b < (4:Int))) then ((callT R n_Z40 o_Z40 [⟨yK,c⟩,⟨yI,(0:Int)⟩,⟨yL,a⟩,⟨yN,([]:List vM)⟩,⟨yI,b⟩]).bind fun r7 => (bif (decide (r7.1 > (32:Int))) then some ⟨o_Z16,(false,())⟩ else (Z16.l1 R N n a (w64 (b + (1:Int))) c))) else some ⟨o_Z16,(true,())⟩) := (hw _ _).trans (by kernel_rfl)
theorem Z16.j0_eq (R:Run) (hw:R.ok) (N:Nat) (a:(List Int)) (b:Bool) (c:vK):Z16.j0 R N a b c = (bif b then some ⟨o_Z16,(false,())⟩ else (Z16.l1 R N N a (0:Int) c)) := (hw _ _).trans (by kernel_rfl)
theorem Z16.ev (R:Run) (N:Nat) (a0:vK) (a1:(List Int)):evFn E R sg_Z16 pol_Z16 F_Z16 N [⟨yK,a0⟩,⟨yL,a1⟩] = (bif ((List.length a1:Int) != (List.length a0:Int)) then (Z16.j0 R N a1 true a0) else ((callT R n_Z80 o_Z80 [⟨yL,a1⟩,⟨(.fn n_Z17 .nil),()⟩]).bind fun r11 => (Z16.j0 R N a1 r11.1 a0))) := by kernel_rfl
noncomputable def Z11.j2 (R:Run) (N a:Nat) (b e:(List (Int × Int × Int × Unit))) (f g:Int) (h:Bool) (i:vK) (j:Int) (k:(List Int)) (l:vN):Option Dv := R.w (some ⟨(V.dead::(.c (.box 1 0)::(V.dead::(.c (.d (.sl (.st (.cons yI (.cons yI (.cons yI .nil))))) b)::(zd 23 (.c (.d (.sl (.st (.cons yI (.cons yI (.cons yI .nil))))) e)::(.c (.d yI f)::(.c (.d yI g)::(zd 31 (.c (.d .bool h)::(zd 7 []))))))))))),(none::(some (.box [.d yK i,.d yI j,.d yL k,.d yN l] false false)::(zo 71 [])))⟩) fun st => eC R pol_Z11 N [1,1,1,0,1,0,0,1,1,0,0,1,1] F_Z11 st (kB R pol_Z11 1 (kS R pol_Z11 9 N [1,1,1,0,1,0,0,1,1,1] F_Z11 (kL R pol_Z11 5 N [1,1,1,0,1,0,0] F_Z11 a (kB R pol_Z11 0 (kS R pol_Z11 10 N [1,1,1,1] F_Z11 (kTop E sg_Z11 F_Z11))))))
noncomputable def Z11.l1 (R:Run) (N n:Nat) (a b:(List (Int × Int × Int × Unit))) (e f:Int) (g:vK) (h:Int) (i:(List Int)) (j:vN):Option Dv := R.w (some ⟨(V.dead::(.c (.box 1 0)::(V.dead::(.c (.d (.sl (.st (.cons yI (.cons yI (.cons yI .nil))))) a)::(zd 23 (.c (.d (.sl (.st (.cons yI (.cons yI (.cons yI .nil))))) b)::(.c (.d yI e)::(.c (.d yI f)::(zd 39 []))))))))),(none::(some (.box [.d yK g,.d yI h,.d yL i,.d yN j] false false)::(zo 71 [])))⟩) fun st => lC R pol_Z11 5 N [1,1,1,0,1,0,0] F_Z11 n st (kB R pol_Z11 0 (kS R pol_Z11 10 N [1,1,1,1] F_Z11 (kTop E sg_Z11 F_Z11)))
noncomputable def Z11.j0 (R:Run) (N:Nat) (a:Bool) (b:vK) (e:Int) (f:(List Int)) (g:vN):Option Dv := R.w (some ⟨(V.dead::(.c (.box 1 0)::(zd 21 (.c (.d .bool a)::(zd 45 []))))),(none::(some (.box [.d yK b,.d yI e,.d yL f,.d yN g] false false)::(zo 71 [])))⟩) fun st => eC R pol_Z11 N [1,0,1] F_Z11 st (kS R pol_Z11 3 N [1,1] F_Z11 (kTop E sg_Z11 F_Z11))
theorem Z11.j2_eq (R:Run) (hw:R.ok) (N a:Nat) (b c:(List (Int × Int × Int × Unit))) (d e:Int) (f:Bool) (g:vK) (h:Int) (i:(List Int)) (j:vN):Z11.j2 R N a b c d e f g h i j = (bif f then some ⟨o_Z11,(false,())⟩ else (Z11.l1 R N a b c d (w64 (e + (1:Int))) g h i j)) := (hw _ _).trans (by kernel_rfl)
theorem Z11.l1_succ (R:Run) (hw:R.ok) (N n:Nat) (a b:(List (Int × Int × Int × Unit))) (c d:Int) (e:vK) (f:Int) (g:(List Int)) (h:vN):Z11.l1 R N (n + 1) a b c d e f g h = (bif (decide (d < c)) then ((idx? b d).bind fun y16 => (bif (decide (d ≥ (List.length h:Int))) then (Z11.j2 R N n a b c d true e f g h) else ((idx? h d).bind fun y34 => ((idx? g y16.2.2.1).bind fun y35 => ((idx? g y16.1).bind fun y36 => ((callT R n_Z28 o_Z28 [⟨yI,y34.1⟩,⟨yI,y34.2.1⟩,⟨yI,y34.2.2.1⟩,⟨yL,y34.2.2.2.1⟩,⟨yI,f⟩,⟨yI,(y35,()).1⟩,⟨yI,(y36,()).1⟩]).bind fun r37 => (Z11.j2 R N n a b c d (!r37.1) e f g h))))))) else some ⟨o_Z11,(((List.length a:Int) == (List.length h:Int)),())⟩) := (hw _ _).trans (by kernel_rfl)
theorem Z11.j0_eq (R:Run) (hw:R.ok) (N:Nat) (a:Bool) (b:vK) (c:Int) (d:(List Int)) (e:vN):Z11.j0 R N a b c d e = (bif a then some ⟨o_Z11,(false,())⟩ else ((callT R n_Z18 o_Z18 [⟨yK,b⟩]).bind fun r7 => (Z11.l1 R N N r7.1 r7.1 (List.length r7.1:Int) (0:Int) b c d e))) := (hw _ _).trans (by kernel_rfl)
theorem Z11.ev (R:Run) (N:Nat) (a0:vK) (a1:Int) (a2:(List Int)) (a3:vN):evFn E R sg_Z11 pol_Z11 F_Z11 N [⟨yK,a0⟩,⟨yI,a1⟩,⟨yL,a2⟩,⟨yN,a3⟩] = ((callT R n_Z7 o_Z7 [⟨yK,a0⟩]).bind fun r1 => (bif (!r1.1) then (Z11.j0 R N true a0 a1 a2 a3) else ((callT R n_Z10 o_Z10 [⟨yI,a1⟩]).bind fun r47 => (bif (!r47.1) then (Z11.j0 R N true a0 a1 a2 a3) else ((callT R n_Z16 o_Z16 [⟨yK,a0⟩,⟨yL,a2⟩]).bind fun r53 => (Z11.j0 R N (!r53.1) a0 a1 a2 a3)))))) := by kernel_rfl
theorem Z30.ev (R:Run) (N:Nat) (a0:vK) (a1:Int) (a2:(List Int)) (a3:vN) (a4:Int):evFn E R sg_Z30 pol_Z30 F_Z30 N [⟨yK,a0⟩,⟨yI,a1⟩,⟨yL,a2⟩,⟨yN,a3⟩,⟨yI,a4⟩] = ((callT R n_Z38 o_Z38 [⟨yK,a0⟩]).bind fun r1 => ((callT R n_Z41 o_Z41 [⟨yI,a4⟩,⟨yI,(0:Int)⟩,⟨yI,(w64 (r1.1 - (1:Int)))⟩]).bind fun r2 => some ⟨o_Z30,(r2.1,())⟩)) := by kernel_rfl
noncomputable def Z25.l0 (R:Run) (N n:Nat) (a:Int) (b:vK) (e f:Int):Option Dv := R.w (some ⟨(zd 5 (.c (.d yI a)::(zd 6 (.c (.d yK b)::(.c (.d yI e)::(.c (.d yI f)::(zd 12 []))))))),(zo 32 [])⟩) fun st => lC R pol_Z25 3 N [1,1,0,1,0,0] F_Z25 n st (kB R pol_Z25 0 (kS R pol_Z25 8 N [1,1,1] F_Z25 (kTop E sg_Z25 F_Z25)))
theorem Z25.l0_succ (R:Run) (hw:R.ok) (N n:Nat) (a:Int) (b:vK) (c d:Int):Z25.l0 R N (n + 1) a b c d = (bif (decide (d < c)) then ((idx? b d).bind fun y5 => (bif (decide ((List.length (y5,()).1:Int) > (1:Int))) then ((callT R n_Z39 o_Z39 [⟨yL,(y5,()).1⟩]).bind fun r6 => (Z25.l0 R N n (w64 (a + r6.1)) b c (w64 (d + (1:Int))))) else (Z25.l0 R N n a b c (w64 (d + (1:Int)))))) else some ⟨o_Z25,(a,())⟩) := (hw _ _).trans (by kernel_rfl)
theorem Z25.ev (R:Run) (N:Nat) (a0:vK) (a1:Int) (a2:(List Int)) (a3:vN) (a4:Int):evFn E R sg_Z25 pol_Z25 F_Z25 N [⟨yK,a0⟩,⟨yI,a1⟩,⟨yL,a2⟩,⟨yN,a3⟩,⟨yI,a4⟩] = ((chk (decide (0 ≤ a4) && decide (a4 ≤ (List.length a0:Int)))).bind fun _ => (Z25.l0 R N N (0:Int) (List.take (Int.toNat a4) a0) (List.length (List.take (Int.toNat a4) a0):Int) (0:Int))) := by kernel_rfl
theorem Z22.ev (R:Run) (N:Nat) (a0:vK) (a1:Int) (a2:(List Int)) (a3:vN) (a4 a5:Int):evFn E R sg_Z22 pol_Z22 F_Z22 N [⟨yK,a0⟩,⟨yI,a1⟩,⟨yL,a2⟩,⟨yN,a3⟩,⟨yI,a4⟩,⟨yI,a5⟩] = ((callT R n_Z25 o_Z25 [⟨yK,a0⟩,⟨yI,a1⟩,⟨yL,a2⟩,⟨yN,a3⟩,⟨yI,a4⟩]).bind fun r1 => ((idx? a3 (w64 (r1.1 + a5))).bind fun y2 => some ⟨o_Z22,(y2.1,y2.2.1,y2.2.2.1,y2.2.2.2.1,())⟩)) := by kernel_rfl
theorem Z34.ev (R:Run) (N:Nat) (a0 a1 a2:Int) (a3:(List Int)) (a4 a5 a6:Int) (a7:(List Int)):evFn E R sg_Z34 pol_Z34 F_Z34 N [⟨yI,a0⟩,⟨yI,a1⟩,⟨yI,a2⟩,⟨yL,a3⟩,⟨yI,a4⟩,⟨yI,a5⟩,⟨yI,a6⟩,⟨yL,a7⟩] = (bif (a0 == a4) then (bif (a1 == a5) then some ⟨o_Z34,((a2 == a6),())⟩ else some ⟨o_Z34,(false,())⟩) else some ⟨o_Z34,(false,())⟩) := by kernel_rfl
noncomputable def Z74.j0 (R:Run) (N:Nat) (a:(List Int)) (b:Bool):Option Dv := R.w (some ⟨(.c (.d yL a)::(zd 3 (.c (.d .bool b)::(zd 3 [])))),(zo 9 [])⟩) fun st => eC R pol_Z74 N [1,0,1] F_Z74 st (kS R pol_Z74 3 N [1,1] F_Z74 (kTop E sg_Z74 F_Z74))
theorem Z74.j0_eq (R:Run) (hw:R.ok) (N:Nat) (a:(List Int)) (b:Bool):Z74.j0 R N a b = (bif b then some ⟨o_Z74,(([]:List Int),())⟩ else ((chk (decide ((List.length ([]:List Int) + List.length a) * 8 ≤ 70368744177664))).bind fun _ => some ⟨o_Z74,((([]:List Int) ++ a),())⟩)) := (hw _ _).trans (by kernel_rfl)
theorem Z74.ev (R:Run) (N:Nat) (a0:(List Int)):evFn E R sg_Z74 pol_Z74 F_Z74 N [⟨yL,a0⟩] = (bif (List.isEmpty a0) then (both (Z74.j0 R N a0 true) (Z74.j0 R N a0 false)) else (Z74.j0 R N a0 false)) := by kernel_rfl
noncomputable def Z20.l0 (R:Run) (N n:Nat) (a:vK) (b e:Int) (f:vK):Option Dv := R.w (some ⟨(zd 3 (.c (.arr 16)::(V.dead::(V.dead::(.c (.d yK a)::(.c (.d yI b)::(.c (.d yI e)::(zd 10 [])))))))),(zo 16 (some (.arr yL f true false false)::(zo 4 [])))⟩) fun st => lC R pol_Z20 3 N [1,1,0,1,0,0] F_Z20 n st (kB R pol_Z20 0 (kS R pol_Z20 7 N [1,1,1] F_Z20 (kTop E sg_Z20 F_Z20)))
theorem Z20.l0_succ (R:Run) (hw:R.ok) (N n:Nat) (a:vK) (b c:Int) (d:vK):Z20.l0 R N (n + 1) a b c d = (bif (decide (c < b)) then ((idx? a c).bind fun y5 => ((callT R n_Z74 o_Z74 [⟨yL,(y5,()).1⟩]).bind fun r6 => ((chk (decide ((List.length d + List.length [r6.1]) * 24 ≤ 70368744177664))).bind fun _ => (Z20.l0 R N n a b (w64 (c + (1:Int))) (d ++ [r6.1]))))) else some ⟨o_Z20,(d,())⟩) := (hw _ _).trans (by kernel_rfl)
theorem Z20.ev (R:Run) (N:Nat) (a0:vK):evFn E R sg_Z20 pol_Z20 F_Z20 N [⟨yK,a0⟩] = (Z20.l0 R N N a0 (List.length a0:Int) (0:Int) ([]:List (List Int))) := by kernel_rfl
noncomputable def Z84.l0 (R:Run) (N n:Nat) (a b:(List Int)) (e f:Int):Option Dv := R.w (some ⟨(.c (.d yL a)::(.c (.d yL b)::(zd 10 (.c (.d yI e)::(.c (.d yI f)::(zd 12 [])))))),(zo 28 [])⟩) fun st => lC R pol_Z84 4 N [1,1,0,1,0,0] F_Z84 n st (kB R pol_Z84 0 (kS R pol_Z84 9 N [1,1,1] F_Z84 (kTop E sg_Z84 F_Z84)))
theorem Z84.l0_succ (R:Run) (hw:R.ok) (N n:Nat) (a b:(List Int)) (c d:Int):Z84.l0 R N (n + 1) a b c d = (bif (decide (d < c)) then ((idx? a d).bind fun y5 => ((idx? b d).bind fun y6 => (bif ((y5,()).1 != (y6,()).1) then some ⟨o_Z84,(false,())⟩ else (Z84.l0 R N n a b c (w64 (d + (1:Int))))))) else some ⟨o_Z84,(true,())⟩) := (hw _ _).trans (by kernel_rfl)
theorem Z84.ev (R:Run) (N:Nat) (a0 a1:(List Int)):evFn E R sg_Z84 pol_Z84 F_Z84 N [⟨yL,a0⟩,⟨yL,a1⟩] = (bif ((List.length a0:Int) != (List.length a1:Int)) then some ⟨o_Z84,(false,())⟩ else (Z84.l0 R N N a0 a1 (List.length a0:Int) (0:Int))) := by kernel_rfl
theorem Z26.ev (R:Run) (N:Nat) (a0:vK):evFn E R sg_Z26 pol_Z26 F_Z26 N [⟨yK,a0⟩] = ((callT R n_Z20 o_Z20 [⟨yK,a0⟩]).bind fun r1 => ((callT R n_Z92 o_Z92 [⟨yK,r1.1⟩,⟨(.fn n_Z19 .nil),()⟩]).bind fun r2 => ((callT R n_Z75 o_Z75 [⟨yK,r2.1⟩,⟨(.fn n_Z84 .nil),()⟩]).bind fun r3 => some ⟨o_Z26,(r3.1,())⟩))) := by kernel_rfl
noncomputable def Z6.j0 (R:Run) (N:Nat) (a:vM) (b:vS) (e:Bool) (f g h i j k:Int):Option Dv := R.w (some ⟨(zd 3 (.c (.ip yM a 0)::(.c (.ip yS b 0)::(.c (.box 5 0)::(.c (.box 6 0)::(zd 9 (.c (.d .bool e)::(zd 7 [])))))))),(zo 5 (some (.box [.d yI f,.d yI g,.d yI h] false false)::(some (.box [.d yI i,.d yI j,.d yI k,.nils yI] false false)::(zo 24 []))))⟩) fun st => eC R pol_Z6 N [1,0,1] F_Z6 st (kS R pol_Z6 3 N [1,1] F_Z6 (kTop E sg_Z6 F_Z6))
theorem Z6.j0_eq (R:Run) (hw:R.ok) (N:Nat) (a:vM) (b:vS) (c:Bool) (d e f g h i:Int):Z6.j0 R N a b c d e f g h i = (bif c then some ⟨o_Z6,(a.1,a.2.1,a.2.2.1,a.2.2.2.1,())⟩ else ((callT R n_Z22 o_Z22 [⟨yK,b.1⟩,⟨yI,b.2.1⟩,⟨yL,b.2.2.1⟩,⟨yN,b.2.2.2.1⟩,⟨yI,d⟩,⟨yI,e⟩]).bind fun r10 => some ⟨o_Z6,(r10.1,r10.2.1,r10.2.2.1,r10.2.2.2.1,())⟩)) := (hw _ _).trans (by kernel_rfl)
theorem Z6.ev (R:Run) (N:Nat) (a0 a1 a2:Int) (a3 a4:(Int × Unit)) (a5:vM) (a6:vS):evFn E R sg_Z6 pol_Z6 F_Z6 N [⟨yI,a0⟩,⟨yI,a1⟩,⟨yI,a2⟩,⟨(.ptr (.cons yI .nil)),a3⟩,⟨(.ptr (.cons yI .nil)),a4⟩,⟨(.ptr yM),a5⟩,⟨(.ptr yS),a6⟩] = (bif (a0 == a3.1) then (Z6.j0 R N a5 a6 (a1 == a4.1) a0 a1 a2 (0:Int) (0:Int) (0:Int)) else (Z6.j0 R N a5 a6 false a0 a1 a2 (0:Int) (0:Int) (0:Int))) := by kernel_rfl
theorem Z21.ev (R:Run) (N:Nat) (a0 a1 a2:Int) (a3:(List Int)):evFn E R sg_Z21 pol_Z21 F_Z21 N [⟨yI,a0⟩,⟨yI,a1⟩,⟨yI,a2⟩,⟨yL,a3⟩] = ((callT R n_Z74 o_Z74 [⟨yL,a3⟩]).bind fun r1 => some ⟨o_Z21,(a0,a1,a2,r1.1,())⟩) := by kernel_rfl
noncomputable def Z36.l0 (R:Run) (N n:Nat) (a:((Int × Unit) × (Int × Unit) × vM × vS × Unit)) (b:(List (Int × Int × Int × Unit))) (e f g h:Int) (i:vN) (j:vK) (k:(List Int)):Option Dv := R.w (some ⟨(zd 3 (.c (.d (.fn n_Z6 (.cons (.ptr (.cons yI .nil)) (.cons (.ptr (.cons yI .nil)) (.cons (.ptr yM) (.cons (.ptr yS) .nil))))) a)::(zd 4 (.c (.box 8 0)::(.c (.box 9 0)::(zd 10 (.c (.d (.sl (.st (.cons yI (.cons yI (.cons yI .nil))))) b)::(.c (.d yI e)::(.c (.d yI f)::(zd 14 [])))))))))),(zo 8 (some (.box [.nils yL,.d yI g,.nils yI,.nils (.st yM)] false false)::(some (.box [.arr 42,.d yI h,.arr 43,.arr 33] false false)::(zo 23 (some (.arr (.st yM) i true false false)::(zo 8 (some (.arr yL j true false false)::(some (.arr yI k true false false)::[]))))))))⟩) fun st => lC R pol_Z35 3 N [1,1,0,1,0,0] F_Z35 n st (kB R pol_Z35 0 (kS R pol_Z35 7 N [1,1,1] F_Z35 (kTop E sg_Z35 F_Z35)))
theorem Z36.l0_succ (R:Run) (hw:R.ok) (N n:Nat) (a:((Int × Unit) × (Int × Unit) × vM × vS × Unit)) (b:(List (Int × Int × Int × Unit))) (c d e f:Int) (g:vN) (h:vK) (i:(List Int)):Z36.l0 R N (n + 1) a b c d e f g h i = (bif (decide (d < c)) then ((idx? b d).bind fun y13 => ((callT R n_Z6 o_Z6 [⟨yI,y13.1⟩,⟨yI,y13.2.1⟩,⟨yI,y13.2.2.1⟩,⟨(.ptr (.cons yI .nil)),a.1⟩,⟨(.ptr (.cons yI .nil)),a.2.1⟩,⟨(.ptr yM),a.2.2.1⟩,⟨(.ptr yS),a.2.2.2.1⟩]).bind fun r14 => ((callT R n_Z21 o_Z21 [⟨yI,r14.1⟩,⟨yI,r14.2.1⟩,⟨yI,r14.2.2.1⟩,⟨yL,r14.2.2.2.1⟩]).bind fun r15 => ((chk (decide ((List.length g + List.length [(r15.1,r15.2.1,r15.2.2.1,r15.2.2.2.1,())]) * 48 ≤ 70368744177664))).bind fun _ => (Z36.l0 R N n a b c (w64 (d + (1:Int))) e f (g ++ [(r15.1,r15.2.1,r15.2.2.1,r15.2.2.2.1,())]) h i))))) else some ⟨o_Z35,(h,f,i,g,())⟩) := (hw _ _).trans (by kernel_rfl)
theorem Z36.ev (R:Run) (N:Nat) (a0:vK) (a1:Int) (a2:(List Int)) (a3:((Int × Unit) × (Int × Unit) × vM × vS × Unit)):evFn E R sg_Z35 pol_Z35 F_Z35 N [⟨yK,a0⟩,⟨yI,a1⟩,⟨yL,a2⟩,⟨(.fn n_Z6 (.cons (.ptr (.cons yI .nil)) (.cons (.ptr (.cons yI .nil)) (.cons (.ptr yM) (.cons (.ptr yS) .nil))))),a3⟩] = ((callT R n_Z26 o_Z26 [⟨yK,a0⟩]).bind fun r1 => ((callT R n_Z74 o_Z74 [⟨yL,a2⟩]).bind fun r2 => ((callT R n_Z18 o_Z18 [⟨yK,a0⟩]).bind fun r3 => (Z36.l0 R N N a3 r3.1 (List.length r3.1:Int) (0:Int) (0:Int) a1 ([]:List vM) r1.1 r2.1)))) := by kernel_rfl
noncomputable def Z5.j1 (R:Run) (N:Nat) (a:Bool) (b:vK) (e:Int) (f:(List Int)) (g:vN) (h i j k l:Int) (m:(List Int)) (o:Int):Option Dv := R.w (some ⟨(zd 4 (.c (.box 4 0)::(.c (.box 5 0)::(.c (.box 6 0)::(.c (.box 7 0)::(.c (.box 8 0)::(zd 24 (.c (.d .bool a)::(zd 17 []))))))))),(zo 4 (some (.box [.d yK b,.d yI e,.d yL f,.d yN g] false false)::(some (.box [.d yI h] false false)::(some (.box [.d yI i] false false)::(some (.box [.d yI j,.d yI k,.d yI l,.d yL m] false false)::(some (.box [.nils yL,.d yI o,.nils yI,.nils (.st yM)] false false)::(zo 55 [])))))))⟩) fun st => eC R pol_Z5 N [1,1,0,1] F_Z5 st (kS R pol_Z5 5 N [1,1,1] F_Z5 (kTop E sg_Z5 F_Z5))
noncomputable def Z5.j0 (R:Run) (N:Nat) (a:Bool) (b:vK) (e:Int) (f:(List Int)) (g:vN) (h i j k l:Int) (m:(List Int)) (o:Int):Option Dv := R.w (some ⟨(zd 4 (.c (.box 4 0)::(.c (.box 5 0)::(.c (.box 6 0)::(.c (.box 7 0)::(.c (.box 8 0)::(zd 8 (.c (.d .bool a)::(zd 33 []))))))))),(zo 4 (some (.box [.d yK b,.d yI e,.d yL f,.d yN g] false false)::(some (.box [.d yI h] false false)::(some (.box [.d yI i] false false)::(some (.box [.d yI j,.d yI k,.d yI l,.d yL m] false false)::(some (.box [.nils yL,.d yI o,.nils yI,.nils (.st yM)] false false)::(zo 55 [])))))))⟩) fun st => eC R pol_Z5 N [1,0,1] F_Z5 st (kS R pol_Z5 3 N [1,1] F_Z5 (kTop E sg_Z5 F_Z5))
theorem Z5.j1_eq (R:Run) (hw:R.ok) (N:Nat) (a:Bool) (b:vK) (c:Int) (d:(List Int)) (e:vN) (f g h i j:Int) (k:(List Int)) (l:Int):Z5.j1 R N a b c d e f g h i j k l = (bif a then some ⟨o_Z5,(([]:List (List Int)),(0:Int),([]:List Int),([]:List vM),(2:Int),())⟩ else ((callT R n_Z22 o_Z22 [⟨yK,b⟩,⟨yI,c⟩,⟨yL,d⟩,⟨yN,e⟩,⟨yI,f⟩,⟨yI,g⟩]).bind fun r27 => ((callT R n_Z34 o_Z34 [⟨yI,h⟩,⟨yI,i⟩,⟨yI,j⟩,⟨yL,k⟩,⟨yI,r27.1⟩,⟨yI,r27.2.1⟩,⟨yI,r27.2.2.1⟩,⟨yL,r27.2.2.2.1⟩]).bind fun r28 => (bif (!r28.1) then some ⟨o_Z5,(([]:List (List Int)),(0:Int),([]:List Int),([]:List vM),(6:Int),())⟩ else ((callT R n_Z35 o_Z35 [⟨yK,b⟩,⟨yI,c⟩,⟨yL,d⟩,⟨(.fn n_Z6 (.cons (.ptr (.cons yI .nil)) (.cons (.ptr (.cons yI .nil)) (.cons (.ptr yM) (.cons (.ptr yS) .nil))))),((f,()),(g,()),(h,i,j,k,()),(b,c,d,e,()),())⟩]).bind fun r29 => some ⟨o_Z5,(r29.1,r29.2.1,r29.2.2.1,r29.2.2.2.1,(0:Int),())⟩))))) := (hw _ _).trans (by kernel_rfl)
theorem Z5.j0_eq (R:Run) (hw:R.ok) (N:Nat) (a:Bool) (b:vK) (c:Int) (d:(List Int)) (e:vN) (f g h i j:Int) (k:(List Int)) (l:Int):Z5.j0 R N a b c d e f g h i j k l = (bif a then some ⟨o_Z5,(([]:List (List Int)),(0:Int),([]:List Int),([]:List vM),(1:Int),())⟩ else ((callT R n_Z30 o_Z30 [⟨yK,b⟩,⟨yI,c⟩,⟨yL,d⟩,⟨yN,e⟩,⟨yI,f⟩]).bind fun r14 => (bif (!r14.1) then (Z5.j1 R N true b c d e f g h i j k l) else ((callT R n_Z23 o_Z23 [⟨yK,b⟩,⟨yI,f⟩]).bind fun r30 => ((callT R n_Z39 o_Z39 [⟨yL,r30.1⟩]).bind fun r31 => ((callT R n_Z41 o_Z41 [⟨yI,g⟩,⟨yI,(0:Int)⟩,⟨yI,(w64 (r31.1 - (1:Int)))⟩]).bind fun r32 => (Z5.j1 R N (!r32.1) b c d e f g h i j k l))))))) := (hw _ _).trans (by kernel_rfl)
theorem Z5.ev (R:Run) (N:Nat) (a0:vK) (a1:Int) (a2:(List Int)) (a3:vN) (a4 a5 a6 a7 a8:Int) (a9:(List Int)):evFn E R sg_Z5 pol_Z5 F_Z5 N [⟨yK,a0⟩,⟨yI,a1⟩,⟨yL,a2⟩,⟨yN,a3⟩,⟨yI,a4⟩,⟨yI,a5⟩,⟨yI,a6⟩,⟨yI,a7⟩,⟨yI,a8⟩,⟨yL,a9⟩] = ((callT R n_Z11 o_Z11 [⟨yK,a0⟩,⟨yI,a1⟩,⟨yL,a2⟩,⟨yN,a3⟩]).bind fun r1 => (bif (!r1.1) then (Z5.j0 R N true a0 a1 a2 a3 a4 a5 a6 a7 a8 a9 (0:Int)) else ((callT R n_Z9 o_Z9 [⟨yI,a6⟩,⟨yI,a7⟩,⟨yI,a8⟩,⟨yL,a9⟩]).bind fun r45 => (Z5.j0 R N (!r45.1) a0 a1 a2 a3 a4 a5 a6 a7 a8 a9 (0:Int))))) := by kernel_rfl
noncomputable def Z44.l0 (R:Run) (N n:Nat) (a b:(List Int)) (e:Int):Option Dv := R.w (some ⟨(.c (.d yL a)::(.c (.d yL b)::(zd 3 (.c (.d yI e)::(zd 20 []))))),(zo 28 [])⟩) fun st => lC R pol_Z44 4 N [1,1,0,1,0,0] F_Z44 n st (kB R pol_Z44 0 (kS R pol_Z44 8 N [1,1,1] F_Z44 (kTop E sg_Z44 F_Z44)))
theorem Z44.l0_succ (R:Run) (hw:R.ok) (N n:Nat) (a b:(List Int)) (c:Int):Z44.l0 R N (n + 1) a b c = (bif (decide (c < (List.length a:Int))) then ((idx? a c).bind fun y4 => ((idx? b c).bind fun y5 => (bif ((y4,()).1 != (y5,()).1) then some ⟨o_Z44,(false,())⟩ else (Z44.l0 R N n a b (w64 (c + (1:Int))))))) else some ⟨o_Z44,(true,())⟩) := (hw _ _).trans (by kernel_rfl)
theorem Z44.ev (R:Run) (N:Nat) (a0 a1:(List Int)):evFn E R sg_Z44 pol_Z44 F_Z44 N [⟨yL,a0⟩,⟨yL,a1⟩] = (bif ((List.length a0:Int) != (List.length a1:Int)) then some ⟨o_Z44,(false,())⟩ else (Z44.l0 R N N a0 a1 (0:Int))) := by kernel_rfl
noncomputable def Z45.l0 (R:Run) (N n:Nat) (a b:vK) (e:Int):Option Dv := R.w (some ⟨(.c (.d yK a)::(.c (.d yK b)::(zd 3 (.c (.d yI e)::(zd 21 []))))),(zo 29 [])⟩) fun st => lC R pol_Z45 4 N [1,1,0,1,0,0] F_Z45 n st (kB R pol_Z45 0 (kS R pol_Z45 8 N [1,1,1] F_Z45 (kTop E sg_Z45 F_Z45)))
theorem Z45.l0_succ (R:Run) (hw:R.ok) (N n:Nat) (a b:vK) (c:Int):Z45.l0 R N (n + 1) a b c = (bif (decide (c < (List.length a:Int))) then ((idx? a c).bind fun y4 => ((idx? b c).bind fun y5 => ((callT R n_Z44 o_Z44 [⟨yL,(y4,()).1⟩,⟨yL,(y5,()).1⟩]).bind fun r6 => (bif (!r6.1) then some ⟨o_Z45,(false,())⟩ else (Z45.l0 R N n a b (w64 (c + (1:Int)))))))) else some ⟨o_Z45,(true,())⟩) := (hw _ _).trans (by kernel_rfl)
theorem Z45.ev (R:Run) (N:Nat) (a0 a1:vK):evFn E R sg_Z45 pol_Z45 F_Z45 N [⟨yK,a0⟩,⟨yK,a1⟩] = (bif ((List.length a0:Int) != (List.length a1:Int)) then some ⟨o_Z45,(false,())⟩ else (Z45.l0 R N N a0 a1 (0:Int))) := by kernel_rfl
theorem Z43.ev (R:Run) (N:Nat) (a0 a1:vK):evFn E R sg_Z43 pol_Z43 F_Z43 N [⟨yK,a0⟩,⟨yK,a1⟩] = ((callT R n_Z45 o_Z45 [⟨yK,a0⟩,⟨yK,a1⟩]).bind fun r1 => (bif (!r1.1) then some ⟨o_Z43,(false,())⟩ else some ⟨o_Z43,(true,())⟩)) := by kernel_rfl
theorem Z46.ev (R:Run) (N:Nat) (a0 a1 a2:Int) (a3:(List Int)) (a4 a5 a6:Int) (a7:(List Int)):evFn E R sg_Z46 pol_Z46 F_Z46 N [⟨yI,a0⟩,⟨yI,a1⟩,⟨yI,a2⟩,⟨yL,a3⟩,⟨yI,a4⟩,⟨yI,a5⟩,⟨yI,a6⟩,⟨yL,a7⟩] = (bif (a0 != a4) then some ⟨o_Z46,(false,())⟩ else (bif (a1 != a5) then some ⟨o_Z46,(false,())⟩ else (bif (a2 != a6) then some ⟨o_Z46,(false,())⟩ else ((callT R n_Z44 o_Z44 [⟨yL,a3⟩,⟨yL,a7⟩]).bind fun r1 => (bif (!r1.1) then some ⟨o_Z46,(false,())⟩ else some ⟨o_Z46,(true,())⟩))))) := by kernel_rfl
noncomputable def Z47.l0 (R:Run) (N n:Nat) (a b:vN) (e:Int):Option Dv := R.w (some ⟨(.c (.d yN a)::(.c (.d yN b)::(zd 3 (.c (.d yI e)::(zd 21 []))))),(zo 29 [])⟩) fun st => lC R pol_Z47 4 N [1,1,0,1,0,0] F_Z47 n st (kB R pol_Z47 0 (kS R pol_Z47 8 N [1,1,1] F_Z47 (kTop E sg_Z47 F_Z47)))
theorem Z47.l0_succ (R:Run) (hw:R.ok) (N n:Nat) (a b:vN) (c:Int):Z47.l0 R N (n + 1) a b c = (bif (decide (c < (List.length a:Int))) then ((idx? a c).bind fun y4 => ((idx? b c).bind fun y5 => ((callT R n_Z46 o_Z46 [⟨yI,y4.1⟩,⟨yI,y4.2.1⟩,⟨yI,y4.2.2.1⟩,⟨yL,y4.2.2.2.1⟩,⟨yI,y5.1⟩,⟨yI,y5.2.1⟩,⟨yI,y5.2.2.1⟩,⟨yL,y5.2.2.2.1⟩]).bind fun r6 => (bif (!r6.1) then some ⟨o_Z47,(false,())⟩ else (Z47.l0 R N n a b (w64 (c + (1:Int)))))))) else some ⟨o_Z47,(true,())⟩) := (hw _ _).trans (by kernel_rfl)
theorem Z47.ev (R:Run) (N:Nat) (a0 a1:vN):evFn E R sg_Z47 pol_Z47 F_Z47 N [⟨yN,a0⟩,⟨yN,a1⟩] = (bif ((List.length a0:Int) != (List.length a1:Int)) then some ⟨o_Z47,(false,())⟩ else (Z47.l0 R N N a0 a1 (0:Int))) := by kernel_rfl
theorem Z48.ev (R:Run) (N:Nat) (a0:vK) (a1:Int) (a2:(List Int)) (a3:vN) (a4:vK) (a5:Int) (a6:(List Int)) (a7:vN):evFn E R sg_Z48 pol_Z48 F_Z48 N [⟨yK,a0⟩,⟨yI,a1⟩,⟨yL,a2⟩,⟨yN,a3⟩,⟨yK,a4⟩,⟨yI,a5⟩,⟨yL,a6⟩,⟨yN,a7⟩] = ((callT R n_Z43 o_Z43 [⟨yK,a0⟩,⟨yK,a4⟩]).bind fun r1 => (bif (!r1.1) then some ⟨o_Z48,(false,())⟩ else (bif (a1 != a5) then some ⟨o_Z48,(false,())⟩ else ((callT R n_Z44 o_Z44 [⟨yL,a2⟩,⟨yL,a6⟩]).bind fun r2 => (bif (!r2.1) then some ⟨o_Z48,(false,())⟩ else ((callT R n_Z47 o_Z47 [⟨yN,a3⟩,⟨yN,a7⟩]).bind fun r3 => (bif (!r3.1) then some ⟨o_Z48,(false,())⟩ else some ⟨o_Z48,(true,())⟩))))))) := by kernel_rfl
noncomputable def Z55.l0 (R:Run) (N n:Nat) (a b:Int) (e:(List Int)):Option Dv := R.w (some ⟨(.c (.arr 19)::(.c (.d yI a)::(zd 3 (.c (.d yI b)::(zd 13 []))))),(zo 19 (some (.arr yI e true false true)::(none::[])))⟩) fun st => lC R pol_Z55 2 N [1,0,1,0,0] F_Z55 n st (kB R pol_Z55 0 (kS R pol_Z55 6 N [1,1] F_Z55 (kTop E sg_Z55 F_Z55)))
theorem Z55.l0_succ (R:Run) (hw:R.ok) (N n:Nat) (a b:Int) (c:(List Int)):Z55.l0 R N (n + 1) a b c = (bif (decide (b < (List.length c:Int))) then ((chk (decide (0 ≤ b) && decide (b < (List.length c:Int)))).bind fun _ => (Z55.l0 R N n (w64 (a + (1:Int))) (w64 (b + (1:Int))) (List.set c (Int.toNat b) a))) else some ⟨o_Z55,(a,c,())⟩) := (hw _ _).trans (by kernel_rfl)
theorem Z55.ev (R:Run) (N:Nat) (a0:(List Int)) (a1:Int):evFn E R sg_Z55 pol_Z55 F_Z55 N [⟨yL,a0⟩,⟨yI,a1⟩] = (Z55.l0 R N N a1 (0:Int) a0) := by kernel_rfl
theorem Z54.ev (R:Run) (N:Nat) (a0:vK) (a1:Int):evFn E R sg_Z54 pol_Z54 F_Z54 N [⟨yK,a0⟩,⟨yI,a1⟩] = ((callT R n_Z56 o_Z56 [⟨yK,a0⟩,⟨yI,a1⟩]).bind fun r1 => some ⟨o_Z54,(r1.1,r1.2.1,())⟩) := by kernel_rfl
theorem Z59.ev (R:Run) (N:Nat) (a0:vK) (a1:Int) (a2:(List Int)) (a3:vN) (a4:Int):evFn E R sg_Z59 pol_Z59 F_Z59 N [⟨yK,a0⟩,⟨yI,a1⟩,⟨yL,a2⟩,⟨yN,a3⟩,⟨yI,a4⟩] = ((callT R n_Z54 o_Z54 [⟨yK,a0⟩,⟨yI,a4⟩]).bind fun r1 => ((callT R n_Z55 o_Z55 [⟨yL,a2⟩,⟨yI,r1.1⟩]).bind fun r2 => ((callT R n_Z58 o_Z58 [⟨yN,a3⟩,⟨yI,r2.1⟩]).bind fun r3 => some ⟨o_Z59,(r3.1,r1.2.1,r2.2.1,r3.2.1,())⟩))) := by kernel_rfl
theorem Z57.ev (R:Run) (N:Nat) (a0 a1 a2:Int) (a3:(List Int)) (a4:Int):evFn E R sg_Z57 pol_Z57 F_Z57 N [⟨yI,a0⟩,⟨yI,a1⟩,⟨yI,a2⟩,⟨yL,a3⟩,⟨yI,a4⟩] = ((callT R n_Z55 o_Z55 [⟨yL,a3⟩,⟨yI,a4⟩]).bind fun r1 => some ⟨o_Z57,(r1.1,r1.2.1,())⟩) := by kernel_rfl
noncomputable def Z50.l0 (R:Run) (N n:Nat) (a:(List Int)) (b e:Int):Option Dv := R.w (some ⟨(.c (.d yL a)::(.c (.d yI b)::(zd 3 (.c (.d yI e)::(zd 15 []))))),(zo 23 [])⟩) fun st => lC R pol_Z50 2 N [1,0,1,0,0] F_Z50 n st (kB R pol_Z50 0 (kS R pol_Z50 7 N [1,1] F_Z50 (kTop E sg_Z50 F_Z50)))
theorem Z50.l0_succ (R:Run) (hw:R.ok) (N n:Nat) (a:(List Int)) (b c:Int):Z50.l0 R N (n + 1) a b c = (bif (decide (c < (List.length a:Int))) then ((idx? a c).bind fun y4 => (bif ((y4,()).1 != b) then some ⟨o_Z50,((-1:Int),())⟩ else (Z50.l0 R N n a (w64 (b + (1:Int))) (w64 (c + (1:Int)))))) else some ⟨o_Z50,(b,())⟩) := (hw _ _).trans (by kernel_rfl)
theorem Z50.ev (R:Run) (N:Nat) (a0:(List Int)) (a1:Int):evFn E R sg_Z50 pol_Z50 F_Z50 N [⟨yL,a0⟩,⟨yI,a1⟩] = (Z50.l0 R N N a0 a1 (0:Int)) := by kernel_rfl
noncomputable def Z51.l0 (R:Run) (N n:Nat) (a:vK) (b e:Int):Option Dv := R.w (some ⟨(.c (.d yK a)::(.c (.d yI b)::(zd 3 (.c (.d yI e)::(zd 15 []))))),(zo 23 [])⟩) fun st => lC R pol_Z51 2 N [1,0,1,0,0] F_Z51 n st (kB R pol_Z51 0 (kS R pol_Z51 7 N [1,1] F_Z51 (kTop E sg_Z51 F_Z51)))
theorem Z51.l0_succ (R:Run) (hw:R.ok) (N n:Nat) (a:vK) (b c:Int):Z51.l0 R N (n + 1) a b c = (bif (decide (c < (List.length a:Int))) then ((idx? a c).bind fun y4 => ((callT R n_Z50 o_Z50 [⟨yL,(y4,()).1⟩,⟨yI,b⟩]).bind fun r5 => (bif (decide (r5.1 < (0:Int))) then some ⟨o_Z51,((-1:Int),())⟩ else (Z51.l0 R N n a r5.1 (w64 (c + (1:Int))))))) else some ⟨o_Z51,(b,())⟩) := (hw _ _).trans (by kernel_rfl)
theorem Z51.ev (R:Run) (N:Nat) (a0:vK) (a1:Int):evFn E R sg_Z51 pol_Z51 F_Z51 N [⟨yK,a0⟩,⟨yI,a1⟩] = (Z51.l0 R N N a0 a1 (0:Int)) := by kernel_rfl
theorem Z49.ev (R:Run) (N:Nat) (a0:vK) (a1:Int):evFn E R sg_Z49 pol_Z49 F_Z49 N [⟨yK,a0⟩,⟨yI,a1⟩] = ((callT R n_Z51 o_Z51 [⟨yK,a0⟩,⟨yI,a1⟩]).bind fun r1 => (bif (decide (r1.1 < (0:Int))) then some ⟨o_Z49,((-1:Int),())⟩ else some ⟨o_Z49,(r1.1,())⟩)) := by kernel_rfl
noncomputable def Z52.l0 (R:Run) (N n:Nat) (a:vN) (b e:Int):Option Dv := R.w (some ⟨(.c (.d yN a)::(.c (.d yI b)::(zd 3 (.c (.d yI e)::(zd 43 []))))),(zo 51 [])⟩) fun st => lC R pol_Z52 2 N [1,0,1,0,0] F_Z52 n st (kB R pol_Z52 0 (kS R pol_Z52 16 N [1,1] F_Z52 (kTop E sg_Z52 F_Z52)))
theorem Z52.l0_succ (R:Run) (hw:R.ok) (N n:Nat) (a:vN) (b c:Int):Z52.l0 R N (n + 1) a b c = (bif (decide (c < (List.length a:Int))) then ((idx? a c).bind fun y4 => (bif (y4.1 != b) then some ⟨o_Z52,((-1:Int),())⟩ else ((idx? a c).bind fun y5 => (bif (y5.2.1 != (w64 (b + (1:Int)))) then some ⟨o_Z52,((-1:Int),())⟩ else ((idx? a c).bind fun y6 => (bif (y6.2.2.1 != (w64 ((w64 (b + (1:Int))) + (1:Int)))) then some ⟨o_Z52,((-1:Int),())⟩ else ((idx? a c).bind fun y7 => ((callT R n_Z50 o_Z50 [⟨yL,y7.2.2.2.1⟩,⟨yI,(w64 ((w64 ((w64 (b + (1:Int))) + (1:Int))) + (1:Int)))⟩]).bind fun r8 => (bif (decide (r8.1 < (0:Int))) then some ⟨o_Z52,((-1:Int),())⟩ else (Z52.l0 R N n a r8.1 (w64 (c + (1:Int))))))))))))) else some ⟨o_Z52,(b,())⟩) := (hw _ _).trans (by kernel_rfl)
theorem Z52.ev (R:Run) (N:Nat) (a0:vN) (a1:Int):evFn E R sg_Z52 pol_Z52 F_Z52 N [⟨yN,a0⟩,⟨yI,a1⟩] = (Z52.l0 R N N a0 a1 (0:Int)) := by kernel_rfl
theorem Z53.ev (R:Run) (N:Nat) (a0:vK) (a1:Int) (a2:(List Int)) (a3:vN) (a4:Int):evFn E R sg_Z53 pol_Z53 F_Z53 N [⟨yK,a0⟩,⟨yI,a1⟩,⟨yL,a2⟩,⟨yN,a3⟩,⟨yI,a4⟩] = ((callT R n_Z49 o_Z49 [⟨yK,a0⟩,⟨yI,a4⟩]).bind fun r1 => (bif (decide (r1.1 < (0:Int))) then some ⟨o_Z53,((-1:Int),())⟩ else ((callT R n_Z50 o_Z50 [⟨yL,a2⟩,⟨yI,r1.1⟩]).bind fun r2 => (bif (decide (r2.1 < (0:Int))) then some ⟨o_Z53,((-1:Int),())⟩ else ((callT R n_Z52 o_Z52 [⟨yN,a3⟩,⟨yI,r2.1⟩]).bind fun r3 => (bif (decide (r3.1 < (0:Int))) then some ⟨o_Z53,((-1:Int),())⟩ else some ⟨o_Z53,(r3.1,())⟩)))))) := by kernel_rfl
noncomputable def Z42.j4 (R:Run) (N:Nat) (a:Int) (b:Bool) (e:Int) (f:vK) (g:(List Int)) (h:vN):Option Dv := R.w (some ⟨(zd 14 (.c (.box 14 0)::(V.dead::(V.dead::(.c (.d yI a)::(zd 102 (.c (.d .bool b)::(zd 8 [])))))))),(zo 14 (some (.box [.arr 143,.d yI e,.arr 144,.arr 145] false false)::(zo 128 (some (.arr yL f true false false)::(some (.arr yI g true false false)::(some (.arr (.st yM) h true false false)::[]))))))⟩) fun st => eC R pol_Z42 N [1,1,1,1,1,1,1,1,1,1,1,1,1,1,1,1,1,1,1,1,1,1,1,1,0,1] F_Z42 st (kS R pol_Z42 34 N [1,1,1,1,1,1,1,1,1,1,1,1,1,1,1,1,1,1,1,1,1,1,1,1,1] F_Z42 (kTop E sg_Z42 F_Z42))
noncomputable def Z42.j3 (R:Run) (N:Nat) (a b e:Int) (f:vK) (g:Int) (h:(List Int)) (i:vN) (j:Int) (k:vK) (l:Int) (m:(List Int)) (o:vN) (p:vK) (q:(List Int)) (r:vN):Option Dv := R.w (some ⟨(zd 10 (.c (.box 10 0)::(.c (.d yI a)::(V.dead::(V.dead::(.c (.box 14 0)::(V.dead::(V.dead::(.c (.d yI b)::(V.dead::(.c (.box 19 0)::(.c (.d yI e)::(zd 108 []))))))))))))),(zo 10 (some (.box [.d yK f,.d yI g,.d yL h,.d yN i] false false)::(zo 3 (some (.box [.arr 143,.d yI j,.arr 144,.arr 145] false false)::(zo 4 (some (.box [.d yK k,.d yI l,.d yL m,.d yN o] false false)::(zo 123 (some (.arr yL p true false false)::(some (.arr yI q true false false)::(some (.arr (.st yM) r true false false)::[]))))))))))⟩) fun st => eC R pol_Z42 N [1,1,1,1,1,1,1,1,1,1,1,1,1,1,1,1,1,1,1,1,1,1,1,1] F_Z42 st (kTop E sg_Z42 F_Z42)
noncomputable def Z42.j2 (R:Run) (N:Nat) (a b e:Int) (f:Bool) (g:vK) (h:Int) (i:(List Int)) (j:vN) (k l m:Int) (o:(List Int)) (p:vK) (q:Int) (r:(List Int)) (s:vN) (t:Int) (u:vK) (v:(List Int)) (x:vN):Option Dv := R.w (some ⟨(V.dead::(.c (.d yI a)::(.c (.d yI b)::(V.dead::(.c (.box 4 0)::(V.dead::(V.dead::(.c (.box 7 0)::(V.dead::(V.dead::(.c (.box 10 0)::(.c (.d yI e)::(V.dead::(V.dead::(.c (.box 14 0)::(zd 75 (.c (.d .bool f)::(zd 38 [])))))))))))))))))),(zo 4 (some (.box [.d yK g,.d yI h,.d yL i,.d yN j] false false)::(none::(none::(some (.box [.d yI k,.d yI l,.d yI m,.d yL o] false false)::(none::(none::(some (.box [.d yK p,.d yI q,.d yL r,.d yN s] false false)::(zo 3 (some (.box [.arr 143,.d yI t,.arr 144,.arr 145] false false)::(zo 128 (some (.arr yL u true false false)::(some (.arr yI v true false false)::(some (.arr (.st yM) x true false false)::[]))))))))))))))⟩) fun st => eC R pol_Z42 N [1,1,1,1,1,1,1,1,1,1,1,1,1,1,1,1,0,1] F_Z42 st (kS R pol_Z42 23 N [1,1,1,1,1,1,1,1,1,1,1,1,1,1,1,1,1] F_Z42 (kTop E sg_Z42 F_Z42))
noncomputable def Z42.j1 (R:Run) (N:Nat) (a b e f:Int) (g:Bool) (h:vK) (i:Int) (j:(List Int)) (k:vN) (l m o:Int) (p:(List Int)) (q:vK) (r:Int) (s:(List Int)) (t:vN) (u v x y z:Int) (a0:vK) (a1:(List Int)) (a2:vN) (a3:(List Int)) (a4:vK) (a5:(List Int)) (a6:vN):Option Dv := R.w (some ⟨(V.dead::(.c (.d yI a)::(.c (.d yI b)::(V.dead::(.c (.box 4 0)::(V.dead::(V.dead::(.c (.box 7 0)::(V.dead::(V.dead::(.c (.box 10 0)::(.c (.d yI e)::(.c (.box 12 0)::(.c (.box 13 0)::(.c (.box 14 0)::(.c (.d yI f)::(zd 45 (.c (.d .bool g)::(zd 67 []))))))))))))))))))),(zo 4 (some (.box [.d yK h,.d yI i,.d yL j,.d yN k] false false)::(none::(none::(some (.box [.d yI l,.d yI m,.d yI o,.d yL p] false false)::(none::(none::(some (.box [.d yK q,.d yI r,.d yL s,.d yN t] false false)::(none::(some (.box [.arr 139,.d yI u,.arr 140,.arr 141] false false)::(some (.box [.d yI v,.d yI x,.d yI y,.arr 142] false false)::(some (.box [.arr 143,.d yI z,.arr 144,.arr 145] false false)::(zo 124 (some (.arr yL a0 true false false)::(some (.arr yI a1 true false false)::(some (.arr (.st yM) a2 true false false)::(some (.arr yI a3 true false false)::(some (.arr yL a4 true false false)::(some (.arr yI a5 true false false)::(some (.arr (.st yM) a6 true false false)::[]))))))))))))))))))))⟩) fun st => eC R pol_Z42 N [1,1,1,1,1,1,1,1,1,1,0,1] F_Z42 st (kS R pol_Z42 14 N [1,1,1,1,1,1,1,1,1,1,1] F_Z42 (kTop E sg_Z42 F_Z42))
noncomputable def Z42.j0 (R:Run) (N:Nat) (a b e:Int) (f:vK) (g:Int) (h:(List Int)) (i:vN) (j k l:Int) (m:(List Int)) (o:vK) (p:Int) (q:(List Int)) (r:vN):Option Dv := R.w (some ⟨(V.dead::(.c (.d yI a)::(.c (.d yI b)::(V.dead::(.c (.box 4 0)::(V.dead::(V.dead::(.c (.box 7 0)::(V.dead::(V.dead::(.c (.box 10 0)::(.c (.d yI e)::(zd 117 []))))))))))))),(zo 4 (some (.box [.d yK f,.d yI g,.d yL h,.d yN i] false false)::(none::(none::(some (.box [.d yI j,.d yI k,.d yI l,.d yL m] false false)::(none::(none::(some (.box [.d yK o,.d yI p,.d yL q,.d yN r] false false)::(zo 135 [])))))))))⟩) fun st => eC R pol_Z42 N [1,1,1,1,1,1,1] F_Z42 st (kTop E sg_Z42 F_Z42)
theorem Z42.j4_eq (R:Run) (hw:R.ok) (N:Nat) (a:Int) (b:Bool) (c:Int) (d:vK) (e:(List Int)) (f:vN):Z42.j4 R N a b c d e f = (bif b then some ⟨o_Z42,(false,())⟩ else ((callT R n_Z53 o_Z53 [⟨yK,d⟩,⟨yI,c⟩,⟨yL,e⟩,⟨yN,f⟩,⟨yI,(1:Int)⟩]).bind fun r107 => (bif (decide (r107.1 < (0:Int))) then some ⟨o_Z42,(false,())⟩ else (bif (r107.1 != a) then some ⟨o_Z42,(false,())⟩ else some ⟨o_Z42,(true,())⟩)))) := (hw _ _).trans (by kernel_rfl)
theorem Z42.j3_eq (R:Run) (hw:R.ok) (N:Nat) (a b c:Int) (d:vK) (e:Int) (f:(List Int)) (g:vN) (h:Int) (i:vK) (j:Int) (k:(List Int)) (l:vN) (m:vK) (o:(List Int)) (p:vN):Z42.j3 R N a b c d e f g h i j k l m o p = ((callT R n_Z48 o_Z48 [⟨yK,i⟩,⟨yI,j⟩,⟨yL,k⟩,⟨yN,l⟩,⟨yK,d⟩,⟨yI,e⟩,⟨yL,f⟩,⟨yN,g⟩]).bind fun r100 => (bif (!r100.1) then (Z42.j4 R N b true h m o p) else (Z42.j4 R N b (c != a) h m o p))) := (hw _ _).trans (by kernel_rfl)
theorem Z42.j2_eq (R:Run) (hw:R.ok) (N:Nat) (a b c:Int) (d:Bool) (e:vK) (f:Int) (g:(List Int)) (h:vN) (i j k:Int) (l:(List Int)) (m:vK) (o:Int) (p:(List Int)) (q:vN) (r:Int) (s:vK) (t:(List Int)) (u:vN):Z42.j2 R N a b c d e f g h i j k l m o p q r s t u = (bif d then some ⟨o_Z42,(false,())⟩ else ((callT R n_Z59 o_Z59 [⟨yK,s⟩,⟨yI,r⟩,⟨yL,t⟩,⟨yN,u⟩,⟨yI,(1:Int)⟩]).bind fun r80 => ((callT R n_Z53 o_Z53 [⟨yK,r80.2.1⟩,⟨yI,r⟩,⟨yL,r80.2.2.1⟩,⟨yN,r80.2.2.2.1⟩,⟨yI,(1:Int)⟩]).bind fun r81 => (bif (decide (r81.1 < (0:Int))) then some ⟨o_Z42,(false,())⟩ else (bif (r81.1 != r80.1) then some ⟨o_Z42,(false,())⟩ else (both ((callT R n_Z71 o_Z71 [⟨yK,e⟩,⟨yI,f⟩,⟨yL,g⟩,⟨yN,h⟩]).bind fun r82 => (both ((callT R n_Z69 o_Z69 [⟨yI,i⟩,⟨yI,j⟩,⟨yI,k⟩,⟨yL,l⟩]).bind fun r83 => (both ((callT R n_Z5 o_Z5 [⟨yK,r82.1⟩,⟨yI,r82.2.1⟩,⟨yL,r82.2.2.1⟩,⟨yN,r82.2.2.2.1⟩,⟨yI,a⟩,⟨yI,b⟩,⟨yI,r83.1⟩,⟨yI,r83.2.1⟩,⟨yI,r83.2.2.1⟩,⟨yL,r83.2.2.2.1⟩]).bind fun r84 => (Z42.j3 R N c r80.1 r84.2.2.2.2.1 m o p q r r84.1 r84.2.1 r84.2.2.1 r84.2.2.2.1 r80.2.1 r80.2.2.1 r80.2.2.2.1)) ((callT R n_Z5 o_Z5 [⟨yK,r82.1⟩,⟨yI,r82.2.1⟩,⟨yL,r82.2.2.1⟩,⟨yN,r82.2.2.2.1⟩,⟨yI,a⟩,⟨yI,b⟩,⟨yI,r83.1⟩,⟨yI,r83.2.1⟩,⟨yI,r83.2.2.1⟩,⟨yL,r83.2.2.2.1⟩]).bind fun r114 => (Z42.j3 R N c r80.1 r114.2.2.2.2.1 m o p q r r114.1 r114.2.1 r114.2.2.1 r114.2.2.2.1 r80.2.1 r80.2.2.1 r80.2.2.2.1)))) ((callT R n_Z69 o_Z69 [⟨yI,i⟩,⟨yI,j⟩,⟨yI,k⟩,⟨yL,l⟩]).bind fun r130 => ((callT R n_Z5 o_Z5 [⟨yK,r82.1⟩,⟨yI,r82.2.1⟩,⟨yL,r82.2.2.1⟩,⟨yN,r82.2.2.2.1⟩,⟨yI,a⟩,⟨yI,b⟩,⟨yI,r130.1⟩,⟨yI,r130.2.1⟩,⟨yI,r130.2.2.1⟩,⟨yL,r130.2.2.2.1⟩]).bind fun r131 => (Z42.j3 R N c r80.1 r131.2.2.2.2.1 m o p q r r131.1 r131.2.1 r131.2.2.1 r131.2.2.2.1 r80.2.1 r80.2.2.1 r80.2.2.2.1))))) ((callT R n_Z71 o_Z71 [⟨yK,e⟩,⟨yI,f⟩,⟨yL,g⟩,⟨yN,h⟩]).bind fun r147 => ((callT R n_Z69 o_Z69 [⟨yI,i⟩,⟨yI,j⟩,⟨yI,k⟩,⟨yL,l⟩]).bind fun r148 => ((callT R n_Z5 o_Z5 [⟨yK,r147.1⟩,⟨yI,r147.2.1⟩,⟨yL,r147.2.2.1⟩,⟨yN,r147.2.2.2.1⟩,⟨yI,a⟩,⟨yI,b⟩,⟨yI,r148.1⟩,⟨yI,r148.2.1⟩,⟨yI,r148.2.2.1⟩,⟨yL,r148.2.2.2.1⟩]).bind fun r149 => (Z42.j3 R N c r80.1 r149.2.2.2.2.1 m o p q r r149.1 r149.2.1 r149.2.2.1 r149.2.2.2.1 r80.2.1 r80.2.2.1 r80.2.2.2.1)))))))))) := (hw _ _).trans (by kernel_rfl)
theorem Z42.j1_eq (R:Run) (hw:R.ok) (N:Nat) (a b c d:Int) (e:Bool) (f:vK) (g:Int) (h:(List Int)) (i:vN) (j k l:Int) (m:(List Int)) (o:vK) (p:Int) (q:(List Int)) (r:vN) (s t u v w:Int) (x:vK) (y:(List Int)) (z:vN) (a0:(List Int)) (a1:vK) (a2:(List Int)) (a3:vN):Z42.j1 R N a b c d e f g h i j k l m o p q r s t u v w x y z a0 a1 a2 a3 = (bif e then some ⟨o_Z42,(false,())⟩ else ((callT R n_Z71 o_Z71 [⟨yK,f⟩,⟨yI,g⟩,⟨yL,h⟩,⟨yN,i⟩]).bind fun r54 => ((callT R n_Z48 o_Z48 [⟨yK,x⟩,⟨yI,s⟩,⟨yL,y⟩,⟨yN,z⟩,⟨yK,r54.1⟩,⟨yI,r54.2.1⟩,⟨yL,r54.2.2.1⟩,⟨yN,r54.2.2.2.1⟩]).bind fun r55 => (bif (!r55.1) then some ⟨o_Z42,(false,())⟩ else ((callT R n_Z69 o_Z69 [⟨yI,j⟩,⟨yI,k⟩,⟨yI,l⟩,⟨yL,m⟩]).bind fun r56 => ((callT R n_Z46 o_Z46 [⟨yI,t⟩,⟨yI,u⟩,⟨yI,v⟩,⟨yL,a0⟩,⟨yI,r56.1⟩,⟨yI,r56.2.1⟩,⟨yI,r56.2.2.1⟩,⟨yL,r56.2.2.2.1⟩]).bind fun r57 => (bif (!r57.1) then some ⟨o_Z42,(false,())⟩ else ((callT R n_Z59 o_Z59 [⟨yK,x⟩,⟨yI,s⟩,⟨yL,y⟩,⟨yN,z⟩,⟨yI,(1:Int)⟩]).bind fun r58 => ((callT R n_Z57 o_Z57 [⟨yI,t⟩,⟨yI,u⟩,⟨yI,v⟩,⟨yL,a0⟩,⟨yI,r58.1⟩]).bind fun r59 => (bif (decide (r59.1 < (0:Int))) then (Z42.j2 R N a b c true f g h i j k l m o p q r w a1 a2 a3) else ((callT R n_Z48 o_Z48 [⟨yK,a1⟩,⟨yI,w⟩,⟨yL,a2⟩,⟨yN,a3⟩,⟨yK,o⟩,⟨yI,p⟩,⟨yL,q⟩,⟨yN,r⟩]).bind fun r165 => (bif (!r165.1) then (Z42.j2 R N a b c true f g h i j k l m o p q r w a1 a2 a3) else (Z42.j2 R N a b c (d != c) f g h i j k l m o p q r w a1 a2 a3))))))))))))) := (hw _ _).trans (by kernel_rfl)
theorem Z42.j0_eq (R:Run) (hw:R.ok) (N:Nat) (a b c:Int) (d:vK) (e:Int) (f:(List Int)) (g:vN) (h i j:Int) (k:(List Int)) (l:vK) (m:Int) (o:(List Int)) (p:vN):Z42.j0 R N a b c d e f g h i j k l m o p = ((callT R n_Z71 o_Z71 [⟨yK,d⟩,⟨yI,e⟩,⟨yL,f⟩,⟨yN,g⟩]).bind fun r21 => ((callT R n_Z69 o_Z69 [⟨yI,h⟩,⟨yI,i⟩,⟨yI,j⟩,⟨yL,k⟩]).bind fun r22 => ((callT R n_Z5 o_Z5 [⟨yK,r21.1⟩,⟨yI,r21.2.1⟩,⟨yL,r21.2.2.1⟩,⟨yN,r21.2.2.2.1⟩,⟨yI,a⟩,⟨yI,b⟩,⟨yI,r22.1⟩,⟨yI,r22.2.1⟩,⟨yI,r22.2.2.1⟩,⟨yL,r22.2.2.2.1⟩]).bind fun r23 => ((callT R n_Z48 o_Z48 [⟨yK,r23.1⟩,⟨yI,r23.2.1⟩,⟨yL,r23.2.2.1⟩,⟨yN,r23.2.2.2.1⟩,⟨yK,l⟩,⟨yI,m⟩,⟨yL,o⟩,⟨yN,p⟩]).bind fun r24 => (bif (!r24.1) then (Z42.j1 R N a b c r23.2.2.2.2.1 true d e f g h i j k l m o p r21.2.1 r22.1 r22.2.1 r22.2.2.1 r23.2.1 r21.1 r21.2.2.1 r21.2.2.2.1 r22.2.2.2.1 r23.1 r23.2.2.1 r23.2.2.2.1) else (Z42.j1 R N a b c r23.2.2.2.2.1 (r23.2.2.2.2.1 != c) d e f g h i j k l m o p r21.2.1 r22.1 r22.2.1 r22.2.2.1 r23.2.1 r21.1 r21.2.2.1 r21.2.2.2.1 r22.2.2.2.1 r23.1 r23.2.2.1 r23.2.2.2.1)))))) := (hw _ _).trans (by kernel_rfl)
theorem Z42.ev (R:Run) (N:Nat) (a0:vK) (a1:Int) (a2:(List Int)) (a3:vN) (a4 a5 a6 a7 a8:Int) (a9:(List Int)):evFn E R sg_Z42 pol_Z42 F_Z42 N [⟨yK,a0⟩,⟨yI,a1⟩,⟨yL,a2⟩,⟨yN,a3⟩,⟨yI,a4⟩,⟨yI,a5⟩,⟨yI,a6⟩,⟨yI,a7⟩,⟨yI,a8⟩,⟨yL,a9⟩] = ((callT R n_Z65 o_Z65 [⟨yK,a0⟩,⟨yI,a1⟩,⟨yL,a2⟩,⟨yN,a3⟩,⟨yI,(1048576:Int)⟩]).bind fun r1 => (bif (decide (r1.1 < (0:Int))) then some ⟨o_Z42,(true,())⟩ else ((callT R n_Z63 o_Z63 [⟨yI,a6⟩,⟨yI,a7⟩,⟨yI,a8⟩,⟨yL,a9⟩,⟨yI,r1.1⟩]).bind fun r2 => (bif (decide (r2.1 < (0:Int))) then some ⟨o_Z42,(true,())⟩ else (both ((callT R n_Z71 o_Z71 [⟨yK,a0⟩,⟨yI,a1⟩,⟨yL,a2⟩,⟨yN,a3⟩]).bind fun r3 => (both ((callT R n_Z69 o_Z69 [⟨yI,a6⟩,⟨yI,a7⟩,⟨yI,a8⟩,⟨yL,a9⟩]).bind fun r4 => (both ((callT R n_Z93 o_Z93 [⟨yK,r3.1⟩,⟨yI,r3.2.1⟩,⟨yL,r3.2.2.1⟩,⟨yN,r3.2.2.2.1⟩,⟨yI,a4⟩,⟨yI,a5⟩,⟨yI,r4.1⟩,⟨yI,r4.2.1⟩,⟨yI,r4.2.2.1⟩,⟨yL,r4.2.2.2.1⟩]).bind fun r5 => (Z42.j0 R N a4 a5 r5.2.2.2.2.1 a0 a1 a2 a3 a6 a7 a8 a9 r5.1 r5.2.1 r5.2.2.1 r5.2.2.2.1)) ((callT R n_Z93 o_Z93 [⟨yK,r3.1⟩,⟨yI,r3.2.1⟩,⟨yL,r3.2.2.1⟩,⟨yN,r3.2.2.2.1⟩,⟨yI,a4⟩,⟨yI,a5⟩,⟨yI,r4.1⟩,⟨yI,r4.2.1⟩,⟨yI,r4.2.2.1⟩,⟨yL,r4.2.2.2.1⟩]).bind fun r235 => (Z42.j0 R N a4 a5 r235.2.2.2.2.1 a0 a1 a2 a3 a6 a7 a8 a9 r235.1 r235.2.1 r235.2.2.1 r235.2.2.2.1)))) ((callT R n_Z69 o_Z69 [⟨yI,a6⟩,⟨yI,a7⟩,⟨yI,a8⟩,⟨yL,a9⟩]).bind fun r251 => ((callT R n_Z93 o_Z93 [⟨yK,r3.1⟩,⟨yI,r3.2.1⟩,⟨yL,r3.2.2.1⟩,⟨yN,r3.2.2.2.1⟩,⟨yI,a4⟩,⟨yI,a5⟩,⟨yI,r251.1⟩,⟨yI,r251.2.1⟩,⟨yI,r251.2.2.1⟩,⟨yL,r251.2.2.2.1⟩]).bind fun r252 => (Z42.j0 R N a4 a5 r252.2.2.2.2.1 a0 a1 a2 a3 a6 a7 a8 a9 r252.1 r252.2.1 r252.2.2.1 r252.2.2.2.1))))) ((callT R n_Z71 o_Z71 [⟨yK,a0⟩,⟨yI,a1⟩,⟨yL,a2⟩,⟨yN,a3⟩]).bind fun r268 => ((callT R n_Z69 o_Z69 [⟨yI,a6⟩,⟨yI,a7⟩,⟨yI,a8⟩,⟨yL,a9⟩]).bind fun r269 => ((callT R n_Z93 o_Z93 [⟨yK,r268.1⟩,⟨yI,r268.2.1⟩,⟨yL,r268.2.2.1⟩,⟨yN,r268.2.2.2.1⟩,⟨yI,a4⟩,⟨yI,a5⟩,⟨yI,r269.1⟩,⟨yI,r269.2.1⟩,⟨yI,r269.2.2.1⟩,⟨yL,r269.2.2.2.1⟩]).bind fun r270 => (Z42.j0 R N a4 a5 r270.2.2.2.2.1 a0 a1 a2 a3 a6 a7 a8 a9 r270.1 r270.2.1 r270.2.2.1 r270.2.2.2.1))))))))) := by kernel_rfl
end VeT


set_option linter.unusedVariables false
set_option linter.unusedSimpArgs false
namespace Go.Proofs
open Go.Shelf
def Tryz.sortf138_ren : Go.Shelf.Ren := ⟨fun | 6 => 138 | 15 => 165 | 14 => 164 | 28 => 195 | 29 => 196 | 20 => 187 | 21 => 188 | 22 => 189 | 23 => 190 | 24 => 191 | 25 => 192 | 26 => 193 | 27 => 194 | 46 => 203 | 47 => 204 | 48 => 205 | 49 => 206 | 50 => 207 | 57 => 211 | n => n, fun | 22 => 22 | 24 => 27 | 25 => 116 | 3 => 3 | 39 => 150 | 0 => 0 | 53 => 183 | 55 => 185 | 4 => 4 | 46 => 177 | 45 => 176 | 50 => 128 | 5 => 5 | 9 => 9 | 66 => 190 | 70 => 194 | 76 => 196 | 77 => 197 | n => n, fun | n => n⟩
theorem Tryz.sortf138 : Go.Proofs.SlLaysF.n6 Tryz.prog Tryz.sortf138_ren := {
  mixed := by kernel_rfl
  f6 := ⟨Tryz.f138.name, by decide, Tryz.func138.trans (congrArg some (by kernel_rfl))⟩
  f14 := ⟨Tryz.f164.name, by decide, Tryz.func164.trans (congrArg some (by kernel_rfl))⟩
  f15 := Tryz.func165.trans (congrArg some (by kernel_rfl))
  f20 := ⟨Tryz.f187.name, by decide, Tryz.func187.trans (congrArg some (by kernel_rfl))⟩
  f21 := ⟨Tryz.f188.name, by decide, Tryz.func188.trans (congrArg some (by kernel_rfl))⟩
  f22 := ⟨Tryz.f189.name, by decide, Tryz.func189.trans (congrArg some (by kernel_rfl))⟩
  f23 := ⟨Tryz.f190.name, by decide, Tryz.func190.trans (congrArg some (by kernel_rfl))⟩
  f24 := ⟨Tryz.f191.name, by decide, Tryz.func191.trans (congrArg some (by kernel_rfl))⟩
  f25 := ⟨Tryz.f192.name, by decide, Tryz.func192.trans (congrArg some (by kernel_rfl))⟩
  f26 := ⟨Tryz.f193.name, by decide, Tryz.func193.trans (congrArg some (by kernel_rfl))⟩
  f27 := ⟨Tryz.f194.name, by decide, Tryz.func194.trans (congrArg some (by kernel_rfl))⟩
  f28 := Tryz.func195.trans (congrArg some (by kernel_rfl))
  f29 := Tryz.func196.trans (congrArg some (by kernel_rfl))
  f46 := ⟨Tryz.f203.name, by decide, Tryz.func203.trans (congrArg some (by kernel_rfl))⟩
  f47 := Tryz.func204.trans (congrArg some (by kernel_rfl))
  f48 := Tryz.func205.trans (congrArg some (by kernel_rfl))
  f49 := ⟨Tryz.f206.name, by decide, Tryz.func206.trans (congrArg some (by kernel_rfl))⟩
  f50 := ⟨Tryz.f207.name, by decide, Tryz.func207.trans (congrArg some (by kernel_rfl))⟩
  f57 := ⟨Tryz.f211.name, by decide, Tryz.func211.trans (congrArg some (by kernel_rfl))⟩
  t0 := Tryz.underlying0
  a0 := Tryz.isAgg0
  z0 := Tryz.sizeOf0
  v0 := Tryz.zeroValue0
  t3 := Tryz.underlying3
  a3 := Tryz.isAgg3
  z3 := Tryz.sizeOf3
  v3 := Tryz.zeroValue3
  t4 := Tryz.underlying4
  a4 := Tryz.isAgg4
  z4 := Tryz.sizeOf4
  v4 := Tryz.zeroValue4
  t5 := Tryz.underlying5
  a5 := Tryz.isAgg5
  z5 := Tryz.sizeOf5
  v5 := Tryz.zeroValue5
  t9 := Tryz.underlying9
  a9 := Tryz.isAgg9
  z9 := Tryz.sizeOf9
  v9 := Tryz.zeroValue9
  t22 := Tryz.underlying22
  a22 := Tryz.isAgg22
  z22 := Tryz.sizeOf22
  v22 := Tryz.zeroValue22
  a24 := Tryz.isAgg27
  z24 := Tryz.sizeOf27
  t25 := Tryz.underlying116
  a25 := Tryz.isAgg116
  z25 := Tryz.sizeOf116
  v25 := Tryz.zeroValue116
  t39 := Tryz.underlying150
  a39 := Tryz.isAgg150
  z39 := Tryz.sizeOf150
  v39 := Tryz.zeroValue150
  t45 := Tryz.underlying176
  a45 := Tryz.isAgg176
  z45 := Tryz.sizeOf176
  v45 := Tryz.zeroValue176
  t46 := Tryz.underlying177
  a46 := Tryz.isAgg177
  z46 := Tryz.sizeOf177
  v46 := Tryz.zeroValue177
  t50 := Tryz.underlying128
  a50 := Tryz.isAgg128
  z50 := Tryz.sizeOf128
  v50 := Tryz.zeroValue128
  t53 := Tryz.underlying183
  a53 := Tryz.isAgg183
  z53 := Tryz.sizeOf183
  v53 := Tryz.zeroValue183
  t55 := Tryz.underlying185
  a55 := Tryz.isAgg185
  z55 := Tryz.sizeOf185
  v55 := Tryz.zeroValue185
  t66 := Tryz.underlying190
  a66 := Tryz.isAgg190
  z66 := Tryz.sizeOf190
  v66 := Tryz.zeroValue190
  t70 := Tryz.underlying194
  a70 := Tryz.isAgg194
  z70 := Tryz.sizeOf194
  v70 := Tryz.zeroValue194
  t76 := Tryz.underlying196
  a76 := Tryz.isAgg196
  z76 := Tryz.sizeOf196
  v76 := Tryz.zeroValue196
  t77 := Tryz.underlying197
  a77 := Tryz.isAgg197
  z77 := Tryz.sizeOf197
  v77 := Tryz.zeroValue197 }
end Go.Proofs
namespace VeT
section
open Go Go.Proofs Go.RowKit Go.Lib
set_option maxHeartbeats 2000000 in
set_option maxRecDepth 100000 in
theorem mark48_walk (b n c : Nat) (A : Option Addr) (hA : 0 < n → A = some ⟨b, 0, none⟩) (hnc : n ≤ c) (hn : n ≤ 9223372036854775807) (Inv : Nat → Int → World → Prop) (k : Int) (w : World) (h0 : Inv 0 k w)
    (step : ∀ i k' wr, i < n → Inv i k' wr → ∃ u, wr.cell? ⟨b, i, none⟩ = some u ∧ Calls Tryz.prog 20 #[u, .int .i64 k'] wr fun e w' => ∃ k2, e = .returned (.int .i64 k2) ∧ Inv (i + 1) k2 w') :
    Calls Tryz.prog 48 #[.slice A n c, .int .i64 k] w fun e w' => ∃ k2, e = .returned (.int .i64 k2) ∧ Inv n k2 w' := by
  go_enter Tryz.func48, Tryz.ntmps48
  go_wp2
  go_loopw [1, 5] (fun kv iv wr => ∃ i : Nat, ∃ k' : Int, i ≤ n ∧ iv = .int .i64 i ∧ kv = .int .i64 k' ∧ Inv i k' wr) (fun _ iv _ => n - (RowKit.intOf iv).toNat)
  case atStart => exact ⟨0, k, Nat.zero_le _, rfl, rfl, h0⟩
  case round =>
    obtain ⟨i, k', hi, rfl, rfl, hInv⟩ := hrel
    by_cases hlt : i < n
    · obtain rfl := hA (by omega)
      obtain ⟨u, hu, hcall⟩ := step i k' _ hlt hInv
      go_wp2_with (go_at_call 20; refine hcall.mono ?_; rintro e w' ⟨k2, rfl, hI2⟩)
      go_roundw
      case rel => exact ⟨i + 1, k2, by omega, by simp, rfl, hI2⟩
      case measure => simp [RowKit.intOf]; omega
    · obtain rfl : i = n := by omega
      go_wp2
      go_ret
      exact ⟨k', rfl, hInv⟩
open Ve in
theorem mark48_contract {R : Run} (hR : ∀ args dv, R.r 20 args = some dv → Contract Tryz.prog ⟨[(false, 1), (false, 1)], [.io true, .imm], oM, [(false, 1)], [], []⟩ 20 args dv) {args : List Dv} {dv : Dv} (h : pMarkSS 20 R args = some dv) :
    Contract Tryz.prog ⟨[(false, 1), (false, 1)], [.io true, .imm], .cons tI (.cons (.sl tL) .nil), [(false, 1)], [], []⟩ 48 args dv :=
  mark_contract mark48_walk hR h

set_option maxHeartbeats 4000000 in
set_option maxRecDepth 100000 in
theorem mark49_walk (b n c : Nat) (A : Option Addr) (hA : 0 < n → A = some ⟨b, 0, none⟩) (hnc : n ≤ c) (hn : n ≤ 9223372036854775807) (Inv : Nat → Int → World → Prop) (k : Int) (w : World) (h0 : Inv 0 k w)
    (hk : ∀ i k' wr, i < n → Inv i k' wr → 0 ≤ k' ∧ k' ≤ 4611686018427387904)
    (step : ∀ i k' wr, i < n → Inv i k' wr → ∃ v0 v1 v2 u, wr.cell? ⟨b, i * 4, none⟩ = some v0 ∧ wr.cell? ⟨b, i * 4 + 1, none⟩ = some v1 ∧ wr.cell? ⟨b, i * 4 + 2, none⟩ = some v2 ∧ wr.cell? ⟨b, i * 4 + 3, none⟩ = some u ∧
      wr.frozen? ⟨b, i * 4, none⟩ = false ∧ wr.frozen? ⟨b, i * 4 + 1, none⟩ = false ∧ wr.frozen? ⟨b, i * 4 + 2, none⟩ = false ∧
      Calls Tryz.prog 20 #[u, .int .i64 (k' + 1 + 1 + 1)] (((wr.setCell ⟨b, i * 4, none⟩ (.int .i64 k')).setCell ⟨b, i * 4 + 1, none⟩ (.int .i64 (k' + 1))).setCell ⟨b, i * 4 + 2, none⟩ (.int .i64 (k' + 1 + 1))) fun e w' => ∃ k2, e = .returned (.int .i64 k2) ∧ Inv (i + 1) k2 w') :
    Calls Tryz.prog 49 #[.slice A n c, .int .i64 k] w fun e w' => ∃ k2, e = .returned (.int .i64 k2) ∧ Inv n k2 w' := by
  go_enter Tryz.func49, Tryz.ntmps49
  go_wp2
  go_loopw [1, 5] (fun kv iv wr => ∃ i : Nat, ∃ k' : Int, i ≤ n ∧ iv = .int .i64 i ∧ kv = .int .i64 k' ∧ Inv i k' wr) (fun _ iv _ => n - (RowKit.intOf iv).toNat)
  case atStart => exact ⟨0, k, Nat.zero_le _, rfl, rfl, h0⟩
  case round =>
    obtain ⟨i, k', hi, rfl, rfl, hInv⟩ := hrel
    by_cases hlt : i < n
    · obtain rfl := hA (by omega)
      obtain ⟨v0, v1, v2, u, c0, c1, c2, c3, f0, f1, f2, hcall⟩ := step i k' _ hlt hInv
      have hkb := hk i k' _ hlt hInv
      have w1 : wrap64 (k' + 1) = k' + 1 := by unfold wrap64; omega
      have w2 : wrap64 (k' + 1 + 1) = k' + 1 + 1 := by unfold wrap64; omega
      have w3 : wrap64 (k' + 1 + 1 + 1) = k' + 1 + 1 + 1 := by unfold wrap64; omega
      go_wp2_with (go_at_call 20; refine hcall.mono ?_; rintro e w' ⟨k2, rfl, hI2⟩)
      go_roundw
      case rel => exact ⟨i + 1, k2, by omega, by simp, rfl, hI2⟩
      case measure => simp [RowKit.intOf]; omega
    · obtain rfl : i = n := by omega
      go_wp2
      go_ret
      exact ⟨k', rfl, hInv⟩
open Ve in
theorem mark49_contract {R : Run} (hR : ∀ args dv, R.r 20 args = some dv → Contract Tryz.prog ⟨[(false, 1), (false, 1)], [.io true, .imm], oM, [(false, 1)], [], []⟩ 20 args dv) {args : List Dv} {dv : Dv} (h : pMarkMS 20 R args = some dv) :
    Contract Tryz.prog ⟨[(false, 1), (false, 1)], [.io true, .imm], .cons tI (.cons (.sl tM) .nil), [(false, 1)], [], []⟩ 49 args dv :=
  markM_contract mark49_walk hR h

open Ve in
theorem sortf138_contract {R : Run} (hR : ∀ args dv, R.r 95 args = some dv → Contract Tryz.prog ⟨[(false, 1), (false, 1)], [], .cons tI .nil, [(false, 1)], [], []⟩ 95 args dv) {args : List Dv} {dv : Dv} (h : pSortF 95 R args = some dv) :
    Contract Tryz.prog ⟨[(false, 1), (false, 1)], [.io true, .imm], .cons tLL .nil, [], [], []⟩ 138 args dv :=
  sortF_contract (fun enc h1c cf hO blk cap d w a b c e => Any.slices_SortFunc Tryz.sortf138 enc h1c cf hO 95 #[] blk 0 cap d w (enters_of Tryz.func95 (by kernel_rfl) rfl) a b c e)
    (fun A cap fv w => (AnyF.slices_SortFunc_none { Tryz.sortf138 with } A cap fv w).mono fun e w' ⟨h, hw⟩ => ⟨h, by rw [hw], by rw [hw]; exact Kin.refl _⟩) hR h

set_option maxHeartbeats 4000000 in
set_option maxRecDepth 100000 in
theorem compf139_walk (b n c : Nat) (hn2 : 2 ≤ n) (hnc : n ≤ c) (hn : n ≤ 4611686018427387904) (Inv : Nat → World → Prop) (w : World) (h0 : Inv 1 w) (hd : ∀ k w', Inv k w' → Inv k w'.drew)
    (step : ∀ k w', 1 ≤ k → k < n → Inv k w' → ∃ u v, w'.cell? ⟨b, k, none⟩ = some u ∧ w'.cell? ⟨b, k - 1, none⟩ = some v ∧ Calls Tryz.prog 140 #[u, v] w' fun e w'' => e = .returned (.bool false) ∧ Inv (k + 1) w'') :
    Calls Tryz.prog 139 #[.slice (some ⟨b, 0, none⟩) n c, .func (.func 140) #[] #[]] w fun e w' => e = .returned (.slice (some ⟨b, 0, none⟩) n c) ∧ Inv n w' := by
  have h1 : ¬ ((n : Int) < 2) := by omega
  go_enter Tryz.func139, Tryz.ntmps139
  go_wp2
  go_loopw [5] (fun kv wr => ∃ k : Nat, 1 ≤ k ∧ k ≤ n ∧ kv = .int .i64 k ∧ Inv k wr) (fun kv _ => n - (RowKit.intOf kv).toNat)
  case atStart => exact ⟨1, Nat.le_refl _, by omega, rfl, h0⟩
  case round =>
    obtain ⟨k, hk1, hkn, rfl, hInv⟩ := hrel
    by_cases hlt : k < n
    · have hI2 := hd _ _ hInv
      obtain ⟨u, v, hu, hv, hcall⟩ := step k _ hk1 hlt hI2
      go_wp2
      have hw : IntKind.i64.wrap ((k : Int) - 1) = ((k - 1 : Nat) : Int) := by first | go_num | (simp [IntKind.wrap, IntKind.bits]; omega)
      go_region_with (go_at_call 140; refine (hcall).mono ?_; rintro e w' ⟨rfl, hI3⟩)
      all_goals (go_wp2; go_roundw)
      all_goals first
        | exact ⟨k + 1, by omega, by omega, by simp, hI3⟩
        | (simp [RowKit.intOf]; omega)
    · obtain rfl : k = n := by omega
      go_wp2
      go_ret
      exact ⟨rfl, hInv⟩
theorem compf139_short (A : Option Addr) (n c : Nat) (hn2 : n < 2) (fv : Value) (w : World) :
    Calls Tryz.prog 139 #[.slice A n c, fv] w fun e w' => e = .returned (.slice A n c) ∧ w' = w := by
  have h1 : (n : Int) < 2 := by omega
  go_enter Tryz.func139, Tryz.ntmps139
  go_wp2
  go_ret
  exact ⟨rfl, rfl⟩
open Ve in
theorem compf139_contract {R : Run} (hR : ∀ args dv, R.r 140 args = some dv → Contract Tryz.prog ⟨[(false, 1), (false, 1)], [], .cons .bool .nil, [(false, 1)], [], []⟩ 140 args dv) {args : List Dv} {dv : Dv} (h : pCompF 140 R args = some dv) :
    Contract Tryz.prog ⟨[(false, 1), (false, 1)], [.take true, .imm], .cons tLL .nil, [(false, 1)], [.deep], []⟩ 139 args dv :=
  compF_contract compf139_walk compf139_short hR h

set_option maxHeartbeats 2000000 in
set_option maxRecDepth 100000 in
theorem grow163_room (base : Option Addr) (l c n : Nat) (w : World) (hlc : l ≤ c) (hc63 : c ≤ 9223372036854775807) (hn63 : n ≤ 9223372036854775807) (hroom : l + n ≤ c) :
    Calls Tryz.prog 163 #[.slice base l c, .int .i64 n] w fun e w' => e = .returned (.slice base l c) ∧ w' = w := by
  have h1 : ¬ ((n : Int) < 0) := by omega
  have h2 : wrap64 ((c : Int) - (l : Int)) = (c : Int) - (l : Int) := by unfold wrap64; omega
  have h3 : wrap64 ((n : Int) - ((c : Int) - (l : Int))) = (n : Int) - ((c : Int) - (l : Int)) := by unfold wrap64; omega
  have h4 : ¬ ((n : Int) - ((c : Int) - (l : Int)) > 0) := by omega
  go_enter Tryz.func163, Tryz.ntmps163
  go_wp2
  go_ret
  exact ⟨rfl, rfl⟩

set_option maxHeartbeats 4000000 in
set_option maxRecDepth 100000 in
theorem grow163_grow (i0 : TypeInfo) (z : Value) (hi0 : Tryz.prog.info? 2 = some i0) (hz0 : i0.zero = some z) (hs0 : 0 < i0.size)
    (base : Option Addr) (l c n : Nat) (cs : List Value) (w : World) (hlc : l ≤ c) (hroom : c < l + n) (hbig : (l + n) * i0.bytes ≤ 140737488355328) (h63 : l + n ≤ 4611686018427387904)
    (hcl : cs.length = c * i0.size) (hnil : base = none → c = 0) (hcs : ∀ a, base = some a → ∀ (j : Nat) v, cs[j]? = some v → w.cell? (a.add j) = some v) :
    Calls Tryz.prog 163 #[.slice base l c, .int .i64 n] w fun e w' =>
      e = .returned (.slice (some ⟨w.heap.size, 0, none⟩) l (grownCap w (l + n) c 2)) ∧
      w' = w.drew.alloc (.cells (cs.toArray ++ Builtin.zeroCells z.cells (l + n - c) ++ Builtin.zeroCells z.cells (grownCap w (l + n) c 2 - (l + n))) 2) := by
  have h1 : ¬ ((n : Int) < 0) := by omega
  have h2 : wrap64 ((c : Int) - (l : Int)) = (c : Int) - (l : Int) := by unfold wrap64; omega
  have h3 : wrap64 ((n : Int) - ((c : Int) - (l : Int))) = (n : Int) - ((c : Int) - (l : Int)) := by unfold wrap64; omega
  have h4 : (n : Int) - ((c : Int) - (l : Int)) > 0 := by omega
  have z25 : ∀ w, (Go.sizeOf 2).run Tryz.prog w = .ok i0.size w := fun w => by simp [Go.sizeOf, typeInfo, hi0]
  have hck : c + (l + n - c) = l + n := by omega
  have hold : (Builtin.firstCells i0.size c (.slice base c c)).run Tryz.prog w.drew = .ok cs.toArray w.drew := by
    cases base with
    | none =>
      have h0 := hnil rfl
      subst h0
      have hc0 : cs = [] := List.length_eq_zero_iff.1 (by simpa using hcl)
      rw [hc0]
      exact run_firstCells_none w.drew i0.size 0 0 0
    | some a => exact run_firstCells_some w.drew i0.size c a c c cs hcl (fun j v hj => hcs a rfl j v hj)
  have hrz : ∀ ty, (Builtin.append_ #[27, 3] ty #[.slice base c c, .int .i64 ((n : Int) - ((c : Int) - (l : Int)))]).run Tryz.prog w =
      .ok (.slice (some ⟨w.heap.size, 0, none⟩) (l + n) (grownCap w (l + n) c 2)) (w.drew.alloc (.cells (cs.toArray ++ Builtin.zeroCells z.cells (l + n - c) ++ Builtin.zeroCells z.cells (grownCap w (l + n) c 2 - (l + n))) 2)) := fun ty => by
    have h := Lib.run_append_grow_zeros w 27 3 ty 2 i0 z .i64 .i64 Tryz.underlying27 Tryz.underlying3 hi0 hz0 base c c cs hold (l + n - c) (by omega) hs0 (by omega) (by omega)
      (by have : (l + n - c) * i0.bytes ≤ (l + n) * i0.bytes := Nat.mul_le_mul_right _ (by omega)
          omega)
      (by rw [hck]; exact growslice_fits hroom hbig)
    rw [hck] at h
    rw [show (n : Int) - ((c : Int) - (l : Int)) = ((l + n - c : Nat) : Int) by omega]
    exact h
  have hGn : l + n ≤ grownCap w (l + n) c 2 := grownCap_ge w _ _ _
  obtain ⟨G, hG⟩ : ∃ G, G = grownCap w (l + n) c 2 := ⟨_, rfl⟩
  rw [← hG] at hrz hGn ⊢
  have hG63 : G ≤ 9223372036854775807 := by
    have := grownCap_le_maxLen w (l + n) c 2 (by unfold maxLen; omega)
    rw [← hG] at this
    unfold maxLen at this
    omega
  clear hold hck hG hcs hcl
  go_enter Tryz.func163, Tryz.ntmps163
  cases base with
  | none =>
    have h0 := hnil rfl
    subst h0
    obtain rfl : l = 0 := by omega
    go_wp2_with (at_builtin; refine Lib.wpList_append_run _ rfl _ _ _ _ rfl _ _ rfl rfl _ _ (hrz _) ?_)
    all_goals (go_ret; exact ⟨rfl, rfl⟩)
  | some a =>
    obtain ⟨ab, ao, asp⟩ := a
    go_wp2_with (at_builtin; refine Lib.wpList_append_run _ rfl _ _ _ _ rfl _ _ rfl rfl _ _ (hrz _) ?_)
    all_goals (go_ret; exact ⟨rfl, rfl⟩)
theorem grow163_info : (Tryz.prog.info? 2).any (fun i => i.size == Ve.Ty.size yI && i.zero.any (fun z => z.cells.size == Ve.Ty.size yI) && decide (i.bytes ≤ 64 * Ve.Ty.size yI) && decide (0 < i.bytes) && decide (0 < Ve.Ty.size yI)) = true := by kernel_rfl
open Ve in
theorem grow163_contract (R : Run) {args : List Dv} {dv : Dv} (h : pGrow yI R args = some dv) :
    Contract Tryz.prog ⟨[(false, 1), (false, 1)], [.take true, .imm], .cons yL .nil, [(false, 1)], [.deep], []⟩ 163 args dv := by
  have hi := grow163_info
  cases hi0 : Tryz.prog.info? 2 with
  | none => rw [hi0] at hi; cases hi
  | some i0 =>
    rw [hi0] at hi
    simp only [Option.any_some, Bool.and_eq_true, decide_eq_true_eq, beq_iff_eq] at hi
    obtain ⟨⟨⟨⟨h1, h2⟩, h3⟩, h4⟩, h5⟩ := hi
    cases hz : i0.zero with
    | none => rw [hz] at h2; cases h2
    | some z =>
      rw [hz] at h2
      exact grow_contract h1 (by simpa using h2) h5 h3 h4 grow163_room (fun base l c n cs w a1 a2 a3 a4 a5 a6 a7 => grow163_grow i0 z hi0 hz (by rw [h1]; exact h5) base l c n cs w a1 a2 a3 a4 a5 a6 a7) R h

end
section
open Go Ve
theorem primL_eq : primL = (List.range 228).map fun i => bif Nat.beq i 48 then some (pMarkSS n_Z55) else bif Nat.beq i 49 then some (pMarkMS n_Z55) else bif Nat.beq i 138 then some (pSortF n_Z19) else bif Nat.beq i 139 then some (pCompF n_Z84) else bif Nat.beq i 163 then some (pGrow yI) else none := by kernel_rfl
theorem prims_ok : ∀ f p, E.prim f = some p → ∀ r, RunOk E (mkR r) → ∀ args dv sg, E.sig f = some sg → p (mkR r) args = some dv → Contract E.P sg f args dv := by
  intro f p hp r hr args dv sg hsg h
  have hp : primL.getD f none = some p := hp
  rw [primL_eq, List.getD_eq_getElem?_getD, List.getElem?_map] at hp
  by_cases hf : f < 228
  · rw [List.getElem?_range hf] at hp
    simp only [Option.map_some, Option.getD_some] at hp
    by_cases h48 : f = 48
    · subst h48
      obtain rfl : (pMarkSS n_Z55) = p := Option.some.inj hp
      obtain rfl : sg_Z56 = sg := Option.some.inj (sig_laws_markInt64SS_eq.symm.trans hsg)
      exact mark48_contract (fun args dv h => hr _ args dv _ sig_laws_markInt64S_eq h) h
    rw [show Nat.beq f 48 = false from Bool.eq_false_iff.2 fun h => h48 (Nat.eq_of_beq_eq_true h), cond_false] at hp
    by_cases h49 : f = 49
    · subst h49
      obtain rfl : (pMarkMS n_Z55) = p := Option.some.inj hp
      obtain rfl : sg_Z58 = sg := Option.some.inj (sig_laws_markMatrixS_eq.symm.trans hsg)
      exact mark49_contract (fun args dv h => hr _ args dv _ sig_laws_markInt64S_eq h) h
    rw [show Nat.beq f 49 = false from Bool.eq_false_iff.2 fun h => h49 (Nat.eq_of_beq_eq_true h), cond_false] at hp
    by_cases h138 : f = 138
    · subst h138
      obtain rfl : (pSortF n_Z19) = p := Option.some.inj hp
      obtain rfl : sg_Z92 = sg := Option.some.inj (sig_slices_SortFunc_SSint64_Sint64_eq.symm.trans hsg)
      exact sortf138_contract (fun args dv h => hr _ args dv _ sig_impl_compareSimplices_eq h) h
    rw [show Nat.beq f 138 = false from Bool.eq_false_iff.2 fun h => h138 (Nat.eq_of_beq_eq_true h), cond_false] at hp
    by_cases h139 : f = 139
    · subst h139
      obtain rfl : (pCompF n_Z84) = p := Option.some.inj hp
      obtain rfl : sg_Z75 = sg := Option.some.inj (sig_slices_CompactFunc_SSint64_Sint64_eq.symm.trans hsg)
      exact compf139_contract (fun args dv h => hr _ args dv _ sig_slices_Equal_Sint64_int64_eq h) h
    rw [show Nat.beq f 139 = false from Bool.eq_false_iff.2 fun h => h139 (Nat.eq_of_beq_eq_true h), cond_false] at hp
    by_cases h163 : f = 163
    · subst h163
      obtain rfl : (pGrow yI) = p := Option.some.inj hp
      obtain rfl : sg_Z85 = sg := Option.some.inj (sig_slices_Grow_Sint64_int64_eq.symm.trans hsg)
      exact grow163_contract _ h
    rw [show Nat.beq f 163 = false from Bool.eq_false_iff.2 fun h => h163 (Nat.eq_of_beq_eq_true h), cond_false] at hp
    cases hp
  · rw [List.getElem?_eq_none (by simpa using hf)] at hp
    cases hp
end
end VeT

open Go Go.Proofs Ve
set_option linter.unusedVariables false
set_option linter.unusedSimpArgs false
namespace VeT

theorem szInt64S_ret (x : (List Int)) (l : Int) (hx : Wf yL x) (h0 : 0 ≤ l) (h1 : l ≤ 1048576) :
    ∃ r : Int, Ret E n_Z61 [⟨yL, x⟩, ⟨.int .i64, l⟩] ⟨o_Z61, (r, ())⟩ ∧ (0 ≤ r → r ≤ l ∧ Sm yL x) := by
  have hx1 : x.length ≤ maxLen := hx.1
  rw [maxLen_eq] at hx1
  have hw : w64 (l - x.length) = l - x.length := w64_small (by omega) (by omega)
  by_cases hc : l - (x.length : Int) < 0
  · refine ⟨-1, Evt.succ (Evt.of fun n => ?_), fun h => by omega⟩
    rw [run_Z61, Z61.ev, hw, decide_eq_true hc]; rfl
  · refine ⟨l - x.length, Evt.succ (Evt.of fun n => ?_), fun h => ⟨by omega, by omega, fun x _ => trivial⟩⟩
    rw [run_Z61, Z61.ev, hw, decide_eq_false hc]; rfl

theorem toInt64S_ret (x : (List Int)) (hx : Sm yL x) : Ret E n_Z67 [⟨yL, x⟩] ⟨o_Z67, (x, ())⟩ := by
  have hx1 : x.length ≤ 1048576 := hx.1
  have hl := fill_loop (a := x) (L := fun m n i o => Z67.l0 (mkR (run E m)) m n x i o) (z := List.replicate (Int.toNat (List.length x : Int)) (0 : Int)) (r := some ⟨o_Z67, (x, ())⟩) (by simp) (fun k o hk ho => by
      refine Evt.of fun m n => ?_
      show Z67.l0 _ _ _ _ _ _ = _
      rw [Z67.l0_succ _ mk_ok, decide_eq_true (show (k : Int) < x.length by omega), cond_true, idx_lt hk]
      simp only [Option.bind_some]
      rw [chk_true (by simp; omega), w64_succ (by omega), Int.toNat_natCast]) (Evt.of fun m n => by
      show Z67.l0 _ _ _ _ _ _ = _
      rw [Z67.l0_succ _ mk_ok, decide_eq_false (by omega), cond_false])
  refine Evt.succ (hl.mono fun n h => ?_)
  rw [run_Z67, Z67.ev, chk_true (by simp; omega)]
  exact h

theorem eqInt64S_ret (x y : (List Int)) (hx : Sm yL x) : ∃ b : Bool, Ret E n_Z44 [⟨yL, x⟩, ⟨yL, y⟩] ⟨o_Z44, (b, ())⟩ ∧ (b = true ↔ x = y) := by
  have hx1 : x.length ≤ 1048576 := hx.1
  by_cases hl : x.length = y.length
  · have hd : ((x.length : Int) != (y.length : Int)) = false := by simp [hl]
    obtain ⟨h1, h2⟩ := same_loop (a := x) (b := y) (L := fun m n i (_ : Unit) => Z44.l0 (mkR (run E m)) m n x y i) (fun u v => u = v) (rt := some ⟨o_Z44, (true, ())⟩) (rf := some ⟨o_Z44, (false, ())⟩) hl.symm
      (fun k h h' hne => Evt.of fun m n => by
      show Z44.l0 _ _ _ _ _ _ = _
      rw [Z44.l0_succ _ mk_ok, decide_eq_true (show (k : Int) < x.length by omega), cond_true, idx_lt h, idx_lt h']
      have : (x[k] != y[k]) = true := by simpa using hne
      simp only [Option.bind_some, this, cond_true])
      (fun k h h' he => Evt.of fun m n => by
      show Z44.l0 _ _ _ _ _ _ = _
      rw [Z44.l0_succ _ mk_ok, decide_eq_true (show (k : Int) < x.length by omega), cond_true, idx_lt h, idx_lt h']
      have : (x[k] != y[k]) = false := by simpa using he
      simp only [Option.bind_some, this, cond_false]
      rw [w64_succ (by omega)])
      (Evt.of fun m n => by
      show Z44.l0 _ _ _ _ _ _ = _
      rw [Z44.l0_succ _ mk_ok, decide_eq_false (by omega), cond_false])
    by_cases he : x = y
    · refine ⟨true, Evt.succ ((h1 (by subst he; intros; rfl)).mono fun n h => ?_), by simp [he]⟩
      rw [run_Z44, Z44.ev, hd, cond_false]
      exact h
    · refine ⟨false, Evt.succ ((h2 fun hh => he (List.ext_getElem hl hh)).mono fun n h => ?_), by simp [he]⟩
      rw [run_Z44, Z44.ev, hd, cond_false]
      exact h
  · have hd : ((x.length : Int) != (y.length : Int)) = true := by simp; omega
    refine ⟨false, Evt.succ (Evt.of fun n => ?_), ⟨fun h => (nomatch h), fun h => absurd (congrArg List.length h) hl⟩⟩
    rw [run_Z44, Z44.ev, hd, cond_true]

theorem szInt64SS_ret (x : vK) (l : Int) (hx : Wf yK x) (h0 : 0 ≤ l) (h1 : l ≤ 1048576) :
    ∃ r : Int, Ret E n_Z62 [⟨yK, x⟩, ⟨.int .i64, l⟩] ⟨o_Z62, (r, ())⟩ ∧ (0 ≤ r → r ≤ l ∧ Sm yK x) := by
  have hx1 : x.length ≤ maxLen := hx.1
  rw [maxLen_eq] at hx1
  have hw : w64 (l - x.length) = l - x.length := w64_small (by omega) (by omega)
  by_cases hc : l - (x.length : Int) < 0
  · refine ⟨-1, Evt.succ (Evt.of fun n => ?_), fun h => by omega⟩
    rw [run_Z62, Z62.ev, hw, decide_eq_true hc]; rfl
  · obtain ⟨r, hr, hs⟩ := sz_loop (xs := x) (L := fun m n i left => Z62.l0 (mkR (run E m)) m n x left i) (ret := fun r => some ⟨o_Z62, (r, ())⟩) (fun x => Sm yL x) (fun k left hk hl0 hl1 => by
      obtain ⟨r, hr, hs⟩ := szInt64S_ret x[k] left (hx.2 _ (List.getElem_mem hk)) hl0 hl1
      refine ⟨r, hs, hr.mono fun m h n => ?_⟩
      show Z62.l0 _ _ _ _ _ _ = _
      rw [Z62.l0_succ _ mk_ok, decide_eq_true (show (k : Int) < x.length by omega), cond_true, idx_lt hk]
      simp only [Option.bind_some, callT_of h]
      rw [w64_succ (by omega)]) (fun left => Evt.of fun m n => by
      show Z62.l0 _ _ _ _ _ _ = _
      rw [Z62.l0_succ _ mk_ok, decide_eq_false (by omega), cond_false]) (l - x.length) (by omega) (by omega)
    refine ⟨r, Evt.succ (hr.mono fun n h => ?_), fun h => ⟨by have := (hs h).1; omega, by omega, (hs h).2⟩⟩
    rw [run_Z62, Z62.ev, hw, decide_eq_false hc]
    exact h

theorem toInt64SS_ret (x : vK) (hx : Sm yK x) : Ret E n_Z68 [⟨yK, x⟩] ⟨o_Z68, (x, ())⟩ := by
  have hx1 : x.length ≤ 1048576 := hx.1
  have hl := fill_loop (a := x) (L := fun m n i o => Z68.l0 (mkR (run E m)) m n x i o) (z := List.replicate (Int.toNat (List.length x : Int)) ([] : List Int)) (r := some ⟨o_Z68, (x, ())⟩) (by simp) (fun k o hk ho => by
      have hr := toInt64S_ret x[k] (hx.2 _ (List.getElem_mem hk))
      refine hr.mono fun m h n => ?_
      show Z68.l0 _ _ _ _ _ _ = _
      rw [Z68.l0_succ _ mk_ok, decide_eq_true (show (k : Int) < x.length by omega), cond_true, idx_lt hk]
      simp only [Option.bind_some, callT_of h]
      rw [chk_true (by simp; omega), w64_succ (by omega), Int.toNat_natCast]) (Evt.of fun m n => by
      show Z68.l0 _ _ _ _ _ _ = _
      rw [Z68.l0_succ _ mk_ok, decide_eq_false (by omega), cond_false])
  refine Evt.succ (hl.mono fun n h => ?_)
  rw [run_Z68, Z68.ev, chk_true (by simp; omega)]
  exact h

theorem eqInt64SS_ret (x y : vK) (hx : Sm yK x) : ∃ b : Bool, Ret E n_Z45 [⟨yK, x⟩, ⟨yK, y⟩] ⟨o_Z45, (b, ())⟩ ∧ (b = true ↔ x = y) := by
  have hx1 : x.length ≤ 1048576 := hx.1
  by_cases hl : x.length = y.length
  · have hd : ((x.length : Int) != (y.length : Int)) = false := by simp [hl]
    obtain ⟨h1, h2⟩ := same_loop (a := x) (b := y) (L := fun m n i (_ : Unit) => Z45.l0 (mkR (run E m)) m n x y i) (fun u v => u = v) (rt := some ⟨o_Z45, (true, ())⟩) (rf := some ⟨o_Z45, (false, ())⟩) hl.symm
      (fun k h h' hne => by
      obtain ⟨b, hb, hbe⟩ := eqInt64S_ret x[k] y[k] (hx.2 _ (List.getElem_mem h))
      have hb0 : b = false := by cases b <;> simp_all
      subst hb0
      refine hb.mono fun m hm n => ?_
      show Z45.l0 _ _ _ _ _ _ = _
      rw [Z45.l0_succ _ mk_ok, decide_eq_true (show (k : Int) < x.length by omega), cond_true, idx_lt h, idx_lt h']
      simp only [Option.bind_some, callT_of hm, Bool.not_false, Bool.not_true, cond_true, cond_false])
      (fun k h h' he => by
      obtain ⟨b, hb, hbe⟩ := eqInt64S_ret x[k] y[k] (hx.2 _ (List.getElem_mem h))
      have hb0 : b = true := by cases b <;> simp_all
      subst hb0
      refine hb.mono fun m hm n => ?_
      show Z45.l0 _ _ _ _ _ _ = _
      rw [Z45.l0_succ _ mk_ok, decide_eq_true (show (k : Int) < x.length by omega), cond_true, idx_lt h, idx_lt h']
      simp only [Option.bind_some, callT_of hm, Bool.not_false, Bool.not_true, cond_true, cond_false]
      rw [w64_succ (by omega)])
      (Evt.of fun m n => by
      show Z45.l0 _ _ _ _ _ _ = _
      rw [Z45.l0_succ _ mk_ok, decide_eq_false (by omega), cond_false])
    by_cases he : x = y
    · refine ⟨true, Evt.succ ((h1 (by subst he; intros; rfl)).mono fun n h => ?_), by simp [he]⟩
      rw [run_Z45, Z45.ev, hd, cond_false]
      exact h
    · refine ⟨false, Evt.succ ((h2 fun hh => he (List.ext_getElem hl hh)).mono fun n h => ?_), by simp [he]⟩
      rw [run_Z45, Z45.ev, hd, cond_false]
      exact h
  · have hd : ((x.length : Int) != (y.length : Int)) = true := by simp; omega
    refine ⟨false, Evt.succ (Evt.of fun n => ?_), ⟨fun h => (nomatch h), fun h => absurd (congrArg List.length h) hl⟩⟩
    rw [run_Z45, Z45.ev, hd, cond_true]

theorem szComplex_ret (x : (vK × Unit)) (l : Int) (hx : Wf (.st (.cons yK .nil)) x) (h0 : 0 ≤ l) (h1 : l ≤ 1048576) :
    ∃ r : Int, Ret E n_Z60 [⟨yK, x.1⟩, ⟨.int .i64, l⟩] ⟨o_Z60, (r, ())⟩ ∧ (0 ≤ r → r ≤ l ∧ Sm (.st (.cons yK .nil)) x) := by
  obtain ⟨r0, hr0, hs0⟩ := szInt64SS_ret x.1 l hx.1 (by omega) (by omega)
  by_cases hc0 : r0 < 0
  · refine ⟨-1, Evt.succ (hr0.mono fun n e0 => ?_), fun h => by omega⟩
    rw [run_Z60, Z60.ev]
    simp only [Option.bind_some, cond_true, cond_false, callT_of e0, decide_eq_true hc0]
  have hb0 := hs0 (by omega)
  refine ⟨r0, Evt.succ (hr0.mono fun n e0 => ?_), fun h => ⟨by omega, ?_⟩⟩
  · skip
    rw [run_Z60, Z60.ev]
    simp only [Option.bind_some, cond_true, cond_false, callT_of e0, decide_eq_false hc0]
  · exact ⟨hb0.2, trivial⟩

theorem toComplex_ret (x : (vK × Unit)) (hx : Sm (.st (.cons yK .nil)) x) : Ret E n_Z66 [⟨yK, x.1⟩] ⟨o_Z66, x⟩ := by
  have hr0 := toInt64SS_ret x.1 hx.1
  refine Evt.succ (hr0.mono fun n e0 => ?_)
  rw [run_Z66, Z66.ev]
  simp only [Option.bind_some, callT_of e0]

theorem eqComplex_ret (x y : (vK × Unit)) (hx : Sm (.st (.cons yK .nil)) x) : ∃ b : Bool, Ret E n_Z43 [⟨yK, x.1⟩, ⟨yK, y.1⟩] ⟨o_Z43, (b, ())⟩ ∧ (b = true ↔ x = y) := by
  obtain ⟨b0, hr0, hb0⟩ := eqInt64SS_ret x.1 y.1 hx.1
  refine ⟨b0, Evt.succ (hr0.mono fun n e0 => ?_), ?_⟩
  · skip
    rw [run_Z43, Z43.ev]
    simp only [Option.bind_some, callT_of e0]
    clear hx hr0 e0 hb0
    cases b0 <;> rfl
  · obtain ⟨x0, _⟩ := x
    obtain ⟨y0, _⟩ := y
    simp only [Bool.and_eq_true, decide_eq_true_eq, hb0, Prod.mk.injEq, and_true]
    try simp only [and_assoc]

theorem szMatrix_ret (x : vM) (l : Int) (hx : Wf (.st yM) x) (h0 : 0 ≤ l) (h1 : l ≤ 1048576) :
    ∃ r : Int, Ret E n_Z63 [⟨yI, x.1⟩, ⟨yI, x.2.1⟩, ⟨yI, x.2.2.1⟩, ⟨yL, x.2.2.2.1⟩, ⟨.int .i64, l⟩] ⟨o_Z63, (r, ())⟩ ∧ (0 ≤ r → r ≤ l ∧ Sm (.st yM) x) := by
  obtain ⟨r0, hr0, hs0⟩ := szInt64S_ret x.2.2.2.1 l hx.2.2.2.1 (by omega) (by omega)
  by_cases hc0 : r0 < 0
  · refine ⟨-1, Evt.succ (hr0.mono fun n e0 => ?_), fun h => by omega⟩
    rw [run_Z63, Z63.ev]
    simp only [Option.bind_some, cond_true, cond_false, callT_of e0, decide_eq_true hc0]
  have hb0 := hs0 (by omega)
  refine ⟨r0, Evt.succ (hr0.mono fun n e0 => ?_), fun h => ⟨by omega, ?_⟩⟩
  · skip
    rw [run_Z63, Z63.ev]
    simp only [Option.bind_some, cond_true, cond_false, callT_of e0, decide_eq_false hc0]
  · exact ⟨trivial, trivial, trivial, hb0.2, trivial⟩

theorem toMatrix_ret (x : vM) (hx : Sm (.st yM) x) : Ret E n_Z69 [⟨yI, x.1⟩, ⟨yI, x.2.1⟩, ⟨yI, x.2.2.1⟩, ⟨yL, x.2.2.2.1⟩] ⟨o_Z69, x⟩ := by
  have hr0 := toInt64S_ret x.2.2.2.1 hx.2.2.2.1
  refine Evt.succ (hr0.mono fun n e0 => ?_)
  rw [run_Z69, Z69.ev]
  simp only [Option.bind_some, callT_of e0]

theorem eqMatrix_ret (x y : vM) (hx : Sm (.st yM) x) : ∃ b : Bool, Ret E n_Z46 [⟨yI, x.1⟩, ⟨yI, x.2.1⟩, ⟨yI, x.2.2.1⟩, ⟨yL, x.2.2.2.1⟩, ⟨yI, y.1⟩, ⟨yI, y.2.1⟩, ⟨yI, y.2.2.1⟩, ⟨yL, y.2.2.2.1⟩] ⟨o_Z46, (b, ())⟩ ∧ (b = true ↔ x = y) := by
  obtain ⟨b0, hr0, hb0⟩ := eqInt64S_ret x.2.2.2.1 y.2.2.2.1 hx.2.2.2.1
  refine ⟨decide (x.1 = y.1) && decide (x.2.1 = y.2.1) && decide (x.2.2.1 = y.2.2.1) && b0, Evt.succ (hr0.mono fun n e0 => ?_), ?_⟩
  · skip
    rw [run_Z46, Z46.ev]
    simp only [Option.bind_some, callT_of e0]
    simp only [show (x.1 != y.1) = !decide (x.1 = y.1) from rfl]
    generalize decide (x.1 = y.1) = d0
    simp only [show (x.2.1 != y.2.1) = !decide (x.2.1 = y.2.1) from rfl]
    generalize decide (x.2.1 = y.2.1) = d1
    simp only [show (x.2.2.1 != y.2.2.1) = !decide (x.2.2.1 = y.2.2.1) from rfl]
    generalize decide (x.2.2.1 = y.2.2.1) = d2
    clear hx hr0 e0 hb0
    cases d0 <;> cases d1 <;> cases d2 <;> cases b0 <;> rfl
  · obtain ⟨x0, x1, x2, x3, _⟩ := x
    obtain ⟨y0, y1, y2, y3, _⟩ := y
    simp only [Bool.and_eq_true, decide_eq_true_eq, hb0, Prod.mk.injEq, and_true]
    try simp only [and_assoc]

theorem szMatrixS_ret (x : vN) (l : Int) (hx : Wf yN x) (h0 : 0 ≤ l) (h1 : l ≤ 1048576) :
    ∃ r : Int, Ret E n_Z64 [⟨yN, x⟩, ⟨.int .i64, l⟩] ⟨o_Z64, (r, ())⟩ ∧ (0 ≤ r → r ≤ l ∧ Sm yN x) := by
  have hx1 : x.length ≤ maxLen := hx.1
  rw [maxLen_eq] at hx1
  have hw : w64 (l - x.length) = l - x.length := w64_small (by omega) (by omega)
  by_cases hc : l - (x.length : Int) < 0
  · refine ⟨-1, Evt.succ (Evt.of fun n => ?_), fun h => by omega⟩
    rw [run_Z64, Z64.ev, hw, decide_eq_true hc]; rfl
  · obtain ⟨r, hr, hs⟩ := sz_loop (xs := x) (L := fun m n i left => Z64.l0 (mkR (run E m)) m n x left i) (ret := fun r => some ⟨o_Z64, (r, ())⟩) (fun x => Sm (.st yM) x) (fun k left hk hl0 hl1 => by
      obtain ⟨r, hr, hs⟩ := szMatrix_ret x[k] left (hx.2 _ (List.getElem_mem hk)) hl0 hl1
      refine ⟨r, hs, hr.mono fun m h n => ?_⟩
      show Z64.l0 _ _ _ _ _ _ = _
      rw [Z64.l0_succ _ mk_ok, decide_eq_true (show (k : Int) < x.length by omega), cond_true, idx_lt hk]
      simp only [Option.bind_some, callT_of h]
      rw [w64_succ (by omega)]) (fun left => Evt.of fun m n => by
      show Z64.l0 _ _ _ _ _ _ = _
      rw [Z64.l0_succ _ mk_ok, decide_eq_false (by omega), cond_false]) (l - x.length) (by omega) (by omega)
    refine ⟨r, Evt.succ (hr.mono fun n h => ?_), fun h => ⟨by have := (hs h).1; omega, by omega, (hs h).2⟩⟩
    rw [run_Z64, Z64.ev, hw, decide_eq_false hc]
    exact h

theorem toMatrixS_ret (x : vN) (hx : Sm yN x) : Ret E n_Z70 [⟨yN, x⟩] ⟨o_Z70, (x, ())⟩ := by
  have hx1 : x.length ≤ 1048576 := hx.1
  have hl := fill_loop (a := x) (L := fun m n i o => Z70.l0 (mkR (run E m)) m n x i o) (z := List.replicate (Int.toNat (List.length x : Int)) ((0 : Int), (0 : Int), (0 : Int), ([] : List Int), ())) (r := some ⟨o_Z70, (x, ())⟩) (by simp) (fun k o hk ho => by
      have hr := toMatrix_ret x[k] (hx.2 _ (List.getElem_mem hk))
      refine hr.mono fun m h n => ?_
      show Z70.l0 _ _ _ _ _ _ = _
      rw [Z70.l0_succ _ mk_ok, decide_eq_true (show (k : Int) < x.length by omega), cond_true, idx_lt hk]
      simp only [Option.bind_some, callT_of h]
      rw [chk_true (by simp; omega), w64_succ (by omega), Int.toNat_natCast]) (Evt.of fun m n => by
      show Z70.l0 _ _ _ _ _ _ = _
      rw [Z70.l0_succ _ mk_ok, decide_eq_false (by omega), cond_false])
  refine Evt.succ (hl.mono fun n h => ?_)
  rw [run_Z70, Z70.ev, chk_true (by simp; omega)]
  exact h

theorem eqMatrixS_ret (x y : vN) (hx : Sm yN x) : ∃ b : Bool, Ret E n_Z47 [⟨yN, x⟩, ⟨yN, y⟩] ⟨o_Z47, (b, ())⟩ ∧ (b = true ↔ x = y) := by
  have hx1 : x.length ≤ 1048576 := hx.1
  by_cases hl : x.length = y.length
  · have hd : ((x.length : Int) != (y.length : Int)) = false := by simp [hl]
    obtain ⟨h1, h2⟩ := same_loop (a := x) (b := y) (L := fun m n i (_ : Unit) => Z47.l0 (mkR (run E m)) m n x y i) (fun u v => u = v) (rt := some ⟨o_Z47, (true, ())⟩) (rf := some ⟨o_Z47, (false, ())⟩) hl.symm
      (fun k h h' hne => by
      obtain ⟨b, hb, hbe⟩ := eqMatrix_ret x[k] y[k] (hx.2 _ (List.getElem_mem h))
      have hb0 : b = false := by cases b <;> simp_all
      subst hb0
      refine hb.mono fun m hm n => ?_
      show Z47.l0 _ _ _ _ _ _ = _
      rw [Z47.l0_succ _ mk_ok, decide_eq_true (show (k : Int) < x.length by omega), cond_true, idx_lt h, idx_lt h']
      simp only [Option.bind_some, callT_of hm, Bool.not_false, Bool.not_true, cond_true, cond_false])
      (fun k h h' he => by
      obtain ⟨b, hb, hbe⟩ := eqMatrix_ret x[k] y[k] (hx.2 _ (List.getElem_mem h))
      have hb0 : b = true := by cases b <;> simp_all
      subst hb0
      refine hb.mono fun m hm n => ?_
      show Z47.l0 _ _ _ _ _ _ = _
      rw [Z47.l0_succ _ mk_ok, decide_eq_true (show (k : Int) < x.length by omega), cond_true, idx_lt h, idx_lt h']
      simp only [Option.bind_some, callT_of hm, Bool.not_false, Bool.not_true, cond_true, cond_false]
      rw [w64_succ (by omega)])
      (Evt.of fun m n => by
      show Z47.l0 _ _ _ _ _ _ = _
      rw [Z47.l0_succ _ mk_ok, decide_eq_false (by omega), cond_false])
    by_cases he : x = y
    · refine ⟨true, Evt.succ ((h1 (by subst he; intros; rfl)).mono fun n h => ?_), by simp [he]⟩
      rw [run_Z47, Z47.ev, hd, cond_false]
      exact h
    · refine ⟨false, Evt.succ ((h2 fun hh => he (List.ext_getElem hl hh)).mono fun n h => ?_), by simp [he]⟩
      rw [run_Z47, Z47.ev, hd, cond_false]
      exact h
  · have hd : ((x.length : Int) != (y.length : Int)) = true := by simp; omega
    refine ⟨false, Evt.succ (Evt.of fun n => ?_), ⟨fun h => (nomatch h), fun h => absurd (congrArg List.length h) hl⟩⟩
    rw [run_Z47, Z47.ev, hd, cond_true]

theorem szSheaf_ret (x : vS) (l : Int) (hx : Wf (.st yS) x) (h0 : 0 ≤ l) (h1 : l ≤ 1048576) :
    ∃ r : Int, Ret E n_Z65 [⟨yK, x.1⟩, ⟨yI, x.2.1⟩, ⟨yL, x.2.2.1⟩, ⟨yN, x.2.2.2.1⟩, ⟨.int .i64, l⟩] ⟨o_Z65, (r, ())⟩ ∧ (0 ≤ r → r ≤ l ∧ Sm (.st yS) x) := by
  obtain ⟨r0, hr0, hs0⟩ := szComplex_ret (x.1, ()) l ⟨hx.1, trivial⟩ (by omega) (by omega)
  by_cases hc0 : r0 < 0
  · refine ⟨-1, Evt.succ (hr0.mono fun n e0 => ?_), fun h => by omega⟩
    rw [run_Z65, Z65.ev]
    simp only [Option.bind_some, cond_true, cond_false, callT_of e0, decide_eq_true hc0]
  have hb0 := hs0 (by omega)
  obtain ⟨r1, hr1, hs1⟩ := szInt64S_ret x.2.2.1 r0 hx.2.2.1 (by omega) (by omega)
  by_cases hc1 : r1 < 0
  · refine ⟨-1, Evt.succ ((hr0.and hr1).mono fun n hh => ?_), fun h => by omega⟩
    obtain ⟨e0, e1⟩ := hh
    rw [run_Z65, Z65.ev]
    simp only [Option.bind_some, cond_true, cond_false, callT_of e0, callT_of e1, decide_eq_false hc0, decide_eq_true hc1]
  have hb1 := hs1 (by omega)
  obtain ⟨r2, hr2, hs2⟩ := szMatrixS_ret x.2.2.2.1 r1 hx.2.2.2.1 (by omega) (by omega)
  by_cases hc2 : r2 < 0
  · refine ⟨-1, Evt.succ (((hr0.and hr1).and hr2).mono fun n hh => ?_), fun h => by omega⟩
    obtain ⟨⟨e0, e1⟩, e2⟩ := hh
    rw [run_Z65, Z65.ev]
    simp only [Option.bind_some, cond_true, cond_false, callT_of e0, callT_of e1, callT_of e2, decide_eq_false hc0, decide_eq_false hc1, decide_eq_true hc2]
  have hb2 := hs2 (by omega)
  refine ⟨r2, Evt.succ (((hr0.and hr1).and hr2).mono fun n hh => ?_), fun h => ⟨by omega, ?_⟩⟩
  · obtain ⟨⟨e0, e1⟩, e2⟩ := hh
    rw [run_Z65, Z65.ev]
    simp only [Option.bind_some, cond_true, cond_false, callT_of e0, callT_of e1, callT_of e2, decide_eq_false hc0, decide_eq_false hc1, decide_eq_false hc2]
  · exact ⟨hb0.2.1, trivial, hb1.2, hb2.2, trivial⟩

theorem toSheaf_ret (x : vS) (hx : Sm (.st yS) x) : Ret E n_Z71 [⟨yK, x.1⟩, ⟨yI, x.2.1⟩, ⟨yL, x.2.2.1⟩, ⟨yN, x.2.2.2.1⟩] ⟨o_Z71, x⟩ := by
  have hr0 := toComplex_ret (x.1, ()) ⟨hx.1, trivial⟩
  have hr1 := toInt64S_ret x.2.2.1 hx.2.2.1
  have hr2 := toMatrixS_ret x.2.2.2.1 hx.2.2.2.1
  refine Evt.succ (((hr0.and hr1).and hr2).mono fun n hh => ?_)
  obtain ⟨⟨e0, e1⟩, e2⟩ := hh
  rw [run_Z71, Z71.ev]
  simp only [Option.bind_some, callT_of e0, callT_of e1, callT_of e2]

theorem eqSheaf_ret (x y : vS) (hx : Sm (.st yS) x) : ∃ b : Bool, Ret E n_Z48 [⟨yK, x.1⟩, ⟨yI, x.2.1⟩, ⟨yL, x.2.2.1⟩, ⟨yN, x.2.2.2.1⟩, ⟨yK, y.1⟩, ⟨yI, y.2.1⟩, ⟨yL, y.2.2.1⟩, ⟨yN, y.2.2.2.1⟩] ⟨o_Z48, (b, ())⟩ ∧ (b = true ↔ x = y) := by
  obtain ⟨b0, hr0, hb0⟩ := eqComplex_ret (x.1, ()) (y.1, ()) ⟨hx.1, trivial⟩
  obtain ⟨b1, hr1, hb1⟩ := eqInt64S_ret x.2.2.1 y.2.2.1 hx.2.2.1
  obtain ⟨b2, hr2, hb2⟩ := eqMatrixS_ret x.2.2.2.1 y.2.2.2.1 hx.2.2.2.1
  refine ⟨b0 && decide (x.2.1 = y.2.1) && b1 && b2, Evt.succ (((hr0.and hr1).and hr2).mono fun n hh => ?_), ?_⟩
  · obtain ⟨⟨e0, e1⟩, e2⟩ := hh
    rw [run_Z48, Z48.ev]
    simp only [Option.bind_some, callT_of e0, callT_of e1, callT_of e2]
    simp only [show (x.2.1 != y.2.1) = !decide (x.2.1 = y.2.1) from rfl]
    generalize decide (x.2.1 = y.2.1) = d1
    clear hx hr0 e0 hb0 hr1 e1 hb1 hr2 e2 hb2
    cases b0 <;> cases d1 <;> cases b1 <;> cases b2 <;> rfl
  · obtain ⟨x0, x1, x2, x3, _⟩ := x
    obtain ⟨y0, y1, y2, y3, _⟩ := y
    simp only [Bool.and_eq_true, decide_eq_true_eq, hb0, hb1, hb2, Prod.mk.injEq, and_true]
    try simp only [and_assoc]

end VeT

open Go Go.Proofs Ve
set_option linter.unusedVariables false
set_option linter.unusedSimpArgs false
namespace VeT

theorem IndexFunc_SSint64_Sint64_impl_ValidComplex_1_ret (s : List (List Int)) (c : ((vK × Unit) × (Int × Unit) × Unit)) (p : (List Int) → Bool) (hs : s.length ≤ 1048576) (hp : ∀ x ∈ s, Ret E n_Z8 [⟨yL, x⟩, ⟨(.ptr (.cons yK .nil)), c.1⟩, ⟨(.ptr (.cons yI .nil)), c.2.1⟩] ⟨o_Z8, (p x, ())⟩) :
    Ret E n_Z86 [⟨yK, s⟩, ⟨(.fn n_Z8 (.cons (.ptr (.cons yK .nil)) (.cons (.ptr (.cons yI .nil)) .nil))), c⟩] ⟨o_Z86, (idxf p s, ())⟩ := by
  obtain ⟨o, h1, h2, h3⟩ := find_loop 1 (L := fun φ n k => Z87.l0 (mkR (run E (φ 0))) (φ 0) n s c (s.length : Int) k) (len := s.length) (fun k => ∃ h : k < s.length, p s[k] = true) (fun o => some ⟨o_Z86, (o2i o, ())⟩) (fun _ _ _ _ => rfl) (fun k hk hP => by
      obtain ⟨_, hP⟩ := hP
      simp only [Z87.l0_succ _ mk_ok]
      refine ev_t (decide_eq_true (by omega)) (ev_bind (idx_lt hk) (ev_call (hp _ (List.getElem_mem hk)) (ev_t hP ev_rfl)))) (fun k q hk hP ih => by
      simp only [Z87.l0_succ _ mk_ok]
      refine ev_t (decide_eq_true (by omega)) (ev_bind (idx_lt hk) (ev_call (hp _ (List.getElem_mem hk)) (ev_f (Bool.eq_false_iff.2 fun h => hP ⟨hk, h⟩) ?_)))
      rw [w64_succ (by omega)]; exact ih) (by
      simp only [Z87.l0_succ _ mk_ok]
      exact ev_f (decide_eq_false (by omega)) ev_rfl)
  rw [idxf_of h1 h2] at h3
  refine ret_of ?_
  simp only [run_Z86, Z87.ev]
  exact Ev.start (p := fun φ n => Z87.l0 (mkR (run E (φ 0))) (φ 0) n s c (s.length : Int) 0 = _) 1 h3 (fun _ _ _ h => h)

theorem IndexFunc_Sint64_int64_impl_ValidSimplex_1_ret (s : List Int) (p : Int → Bool) (hs : s.length ≤ 1048576) (hp : ∀ x ∈ s, Ret E n_Z13 [⟨yI, x⟩] ⟨o_Z13, (p x, ())⟩) :
    Ret E n_Z88 [⟨yL, s⟩, ⟨(.fn n_Z13 .nil), ()⟩] ⟨o_Z88, (idxf p s, ())⟩ := by
  obtain ⟨o, h1, h2, h3⟩ := find_loop 1 (L := fun φ n k => Z89.l0 (mkR (run E (φ 0))) (φ 0) n s (s.length : Int) k) (len := s.length) (fun k => ∃ h : k < s.length, p s[k] = true) (fun o => some ⟨o_Z88, (o2i o, ())⟩) (fun _ _ _ _ => rfl) (fun k hk hP => by
      obtain ⟨_, hP⟩ := hP
      simp only [Z89.l0_succ _ mk_ok]
      refine ev_t (decide_eq_true (by omega)) (ev_bind (idx_lt hk) (ev_call (hp _ (List.getElem_mem hk)) (ev_t hP ev_rfl)))) (fun k q hk hP ih => by
      simp only [Z89.l0_succ _ mk_ok]
      refine ev_t (decide_eq_true (by omega)) (ev_bind (idx_lt hk) (ev_call (hp _ (List.getElem_mem hk)) (ev_f (Bool.eq_false_iff.2 fun h => hP ⟨hk, h⟩) ?_)))
      rw [w64_succ (by omega)]; exact ih) (by
      simp only [Z89.l0_succ _ mk_ok]
      exact ev_f (decide_eq_false (by omega)) ev_rfl)
  rw [idxf_of h1 h2] at h3
  refine ret_of ?_
  simp only [run_Z88, Z89.ev]
  exact Ev.start (p := fun φ n => Z89.l0 (mkR (run E (φ 0))) (φ 0) n s (s.length : Int) 0 = _) 1 h3 (fun _ _ _ h => h)

theorem IndexFunc_Sint64_int64_impl_areElements_1_ret (s : List Int) (c : ((Int × Unit) × Unit)) (p : Int → Bool) (hs : s.length ≤ 1048576) (hp : ∀ x ∈ s, Ret E n_Z15 [⟨yI, x⟩, ⟨(.ptr (.cons yI .nil)), c.1⟩] ⟨o_Z15, (p x, ())⟩) :
    Ret E n_Z88 [⟨yL, s⟩, ⟨(.fn n_Z15 (.cons (.ptr (.cons yI .nil)) .nil)), c⟩] ⟨o_Z88, (idxf p s, ())⟩ := by
  obtain ⟨o, h1, h2, h3⟩ := find_loop 1 (L := fun φ n k => Z90.l0 (mkR (run E (φ 0))) (φ 0) n s c (s.length : Int) k) (len := s.length) (fun k => ∃ h : k < s.length, p s[k] = true) (fun o => some ⟨o_Z88, (o2i o, ())⟩) (fun _ _ _ _ => rfl) (fun k hk hP => by
      obtain ⟨_, hP⟩ := hP
      simp only [Z90.l0_succ _ mk_ok]
      refine ev_t (decide_eq_true (by omega)) (ev_bind (idx_lt hk) (ev_call (hp _ (List.getElem_mem hk)) (ev_t hP ev_rfl)))) (fun k q hk hP ih => by
      simp only [Z90.l0_succ _ mk_ok]
      refine ev_t (decide_eq_true (by omega)) (ev_bind (idx_lt hk) (ev_call (hp _ (List.getElem_mem hk)) (ev_f (Bool.eq_false_iff.2 fun h => hP ⟨hk, h⟩) ?_)))
      rw [w64_succ (by omega)]; exact ih) (by
      simp only [Z90.l0_succ _ mk_ok]
      exact ev_f (decide_eq_false (by omega)) ev_rfl)
  rw [idxf_of h1 h2] at h3
  refine ret_of ?_
  simp only [run_Z88, Z90.ev]
  exact Ev.start (p := fun φ n => Z90.l0 (mkR (run E (φ 0))) (φ 0) n s c (s.length : Int) 0 = _) 1 h3 (fun _ _ _ h => h)

theorem IndexFunc_Sint64_int64_impl_areStalks_1_ret (s : List Int) (p : Int → Bool) (hs : s.length ≤ 1048576) (hp : ∀ x ∈ s, Ret E n_Z17 [⟨yI, x⟩] ⟨o_Z17, (p x, ())⟩) :
    Ret E n_Z88 [⟨yL, s⟩, ⟨(.fn n_Z17 .nil), ()⟩] ⟨o_Z88, (idxf p s, ())⟩ := by
  obtain ⟨o, h1, h2, h3⟩ := find_loop 1 (L := fun φ n k => Z91.l0 (mkR (run E (φ 0))) (φ 0) n s (s.length : Int) k) (len := s.length) (fun k => ∃ h : k < s.length, p s[k] = true) (fun o => some ⟨o_Z88, (o2i o, ())⟩) (fun _ _ _ _ => rfl) (fun k hk hP => by
      obtain ⟨_, hP⟩ := hP
      simp only [Z91.l0_succ _ mk_ok]
      refine ev_t (decide_eq_true (by omega)) (ev_bind (idx_lt hk) (ev_call (hp _ (List.getElem_mem hk)) (ev_t hP ev_rfl)))) (fun k q hk hP ih => by
      simp only [Z91.l0_succ _ mk_ok]
      refine ev_t (decide_eq_true (by omega)) (ev_bind (idx_lt hk) (ev_call (hp _ (List.getElem_mem hk)) (ev_f (Bool.eq_false_iff.2 fun h => hP ⟨hk, h⟩) ?_)))
      rw [w64_succ (by omega)]; exact ih) (by
      simp only [Z91.l0_succ _ mk_ok]
      exact ev_f (decide_eq_false (by omega)) ev_rfl)
  rw [idxf_of h1 h2] at h3
  refine ret_of ?_
  simp only [run_Z88, Z91.ev]
  exact Ev.start (p := fun φ n => Z91.l0 (mkR (run E (φ 0))) (φ 0) n s (s.length : Int) 0 = _) 1 h3 (fun _ _ _ h => h)

theorem ContainsFunc_SSint64_Sint64_impl_ValidComplex_1_ret (s : List (List Int)) (c : ((vK × Unit) × (Int × Unit) × Unit)) (p : (List Int) → Bool) (hs : s.length ≤ 1048576) (hp : ∀ x ∈ s, Ret E n_Z8 [⟨yL, x⟩, ⟨(.ptr (.cons yK .nil)), c.1⟩, ⟨(.ptr (.cons yI .nil)), c.2.1⟩] ⟨o_Z8, (p x, ())⟩) :
    Ret E n_Z78 [⟨yK, s⟩, ⟨(.fn n_Z8 (.cons (.ptr (.cons yK .nil)) (.cons (.ptr (.cons yI .nil)) .nil))), c⟩] ⟨o_Z78, (pb (∃ x ∈ s, p x = true), ())⟩ := by
  refine ret_of ?_
  simp only [run_Z78, Z79.ev]
  refine ev_call (IndexFunc_SSint64_Sint64_impl_ValidComplex_1_ret s c p hs hp) (ev_some ?_)
  simp only [ge_iff_le, pb_dec, pb_congr idxf_nonneg]

theorem ContainsFunc_Sint64_int64_impl_ValidSimplex_1_ret (s : List Int) (p : Int → Bool) (hs : s.length ≤ 1048576) (hp : ∀ x ∈ s, Ret E n_Z13 [⟨yI, x⟩] ⟨o_Z13, (p x, ())⟩) :
    Ret E n_Z80 [⟨yL, s⟩, ⟨(.fn n_Z13 .nil), ()⟩] ⟨o_Z80, (pb (∃ x ∈ s, p x = true), ())⟩ := by
  refine ret_of ?_
  simp only [run_Z80, Z81.ev]
  refine ev_call (IndexFunc_Sint64_int64_impl_ValidSimplex_1_ret s p hs hp) (ev_some ?_)
  simp only [ge_iff_le, pb_dec, pb_congr idxf_nonneg]

theorem ContainsFunc_Sint64_int64_impl_areElements_1_ret (s : List Int) (c : ((Int × Unit) × Unit)) (p : Int → Bool) (hs : s.length ≤ 1048576) (hp : ∀ x ∈ s, Ret E n_Z15 [⟨yI, x⟩, ⟨(.ptr (.cons yI .nil)), c.1⟩] ⟨o_Z15, (p x, ())⟩) :
    Ret E n_Z80 [⟨yL, s⟩, ⟨(.fn n_Z15 (.cons (.ptr (.cons yI .nil)) .nil)), c⟩] ⟨o_Z80, (pb (∃ x ∈ s, p x = true), ())⟩ := by
  refine ret_of ?_
  simp only [run_Z80, Z82.ev]
  refine ev_call (IndexFunc_Sint64_int64_impl_areElements_1_ret s c p hs hp) (ev_some ?_)
  simp only [ge_iff_le, pb_dec, pb_congr idxf_nonneg]

theorem ContainsFunc_Sint64_int64_impl_areStalks_1_ret (s : List Int) (p : Int → Bool) (hs : s.length ≤ 1048576) (hp : ∀ x ∈ s, Ret E n_Z17 [⟨yI, x⟩] ⟨o_Z17, (p x, ())⟩) :
    Ret E n_Z80 [⟨yL, s⟩, ⟨(.fn n_Z17 .nil), ()⟩] ⟨o_Z80, (pb (∃ x ∈ s, p x = true), ())⟩ := by
  refine ret_of ?_
  simp only [run_Z80, Z83.ev]
  refine ev_call (IndexFunc_Sint64_int64_impl_areStalks_1_ret s p hs hp) (ev_some ?_)
  simp only [ge_iff_le, pb_dec, pb_congr idxf_nonneg]

end VeT

open Go Go.Proofs Ve
set_option linter.unusedVariables false
set_option linter.unusedSimpArgs false
namespace VeT

abbrev cM : Ty := .cons yI (.cons yI (.cons yI (.cons yL .nil)))
abbrev cC : Ty := .cons yK .nil
abbrev cS : Ty := .cons yK (.cons yI (.cons yL (.cons (.sl (.st cM)) .nil)))
abbrev Mat := Int × Int × Int × List Int × Unit
abbrev Cpx := List (List Int) × Unit
abbrev Shf := List (List Int) × Int × List Int × List Mat × Unit
abbrev Sim := List Int
abbrev dI (x : Int) : Dv := ⟨.int .i64,x⟩
abbrev dL (x : List Int) : Dv := ⟨.sl yI,x⟩
abbrev dLL (x : List (List Int)) : Dv := ⟨.sl yL,x⟩
abbrev dC (x : Cpx) : Dv := ⟨.ptr cC,x⟩
abbrev dM (x : Mat) : Dv := ⟨.ptr cM,x⟩
abbrev dS (x : Shf) : Dv := ⟨.ptr cS,x⟩
abbrev dMs (x : List Mat) : Dv := ⟨.sl (.st cM),x⟩

theorem within_ret (n lo hi : Int) : Ret E n_Z41 [dI n,dI lo,dI hi] ⟨o_Z41,(pb (lo ≤ n ∧ n ≤ hi),())⟩ := by
  refine ret_of ?_
  simp only [run_Z41,Z41.ev]
  refine ev_d (fun h => ev_some ?_) fun h => ev_some ?_
  · rw [pb_dec,pb_congr (show n ≤ hi ↔ lo ≤ n ∧ n ≤ hi by omega)]
  · rw [pb_false (by omega)]

theorem l00In_ret (n lo hi : Int) : Ret E n_Z95 [dI n,dI lo,dI hi] ⟨o_Z95,(pb (lo ≤ n ∧ n ≤ hi),())⟩ := by
  refine ret_of ?_
  simp only [run_Z95,Z95.ev]
  refine ev_d (fun h => ev_some ?_) fun h => ev_some ?_
  · rw [pb_dec,pb_congr (show n ≤ hi ↔ lo ≤ n ∧ n ≤ hi by omega)]
  · rw [pb_false (by omega)]

theorem isVertex_ret (n : Int) : Ret E n_Z33 [dI n] ⟨o_Z33,(pb (0 ≤ n ∧ n ≤ 9),())⟩ := by
  refine ret_of ?_
  simp only [run_Z33,Z33.ev]
  exact ev_call (within_ret _ _ _) ev_rfl

theorem ValidSimplex_1_ret (n : Int) : Ret E n_Z13 [dI n] ⟨o_Z13,(!pb (0 ≤ n ∧ n ≤ 9),())⟩ := by
  refine ret_of ?_
  simp only [run_Z13,Z13.ev]
  exact ev_call (isVertex_ret _) ev_rfl

/-- the list rises -/
def Rises (s : Sim) : Prop := ∀ j,1 ≤ j → j < s.length → s.getD (j - 1) 0 < s.getD j 0

theorem isRising_ret (s : Sim) (hs : Sm yL s) : Ret E n_Z31 [dL s] ⟨o_Z31,(pb (Rises s),())⟩ := by
  have hs1 : s.length ≤ 1048576 := hs.1
  refine ret_of ?_
  simp only [run_Z31,Z31.ev]
  by_cases h0 : s.length = 0
  · refine Ev.start (p := fun φ n => Z31.l0 (mkR (run E (φ 0))) (φ 0) n s 1 = _) 1 ?_ (fun _ _ _ h => h)
    refine loopR 1 (σ := Unit) (L := fun φ n _ => Z31.l0 (mkR (run E (φ 0))) (φ 0) n s 1) (fun _ _ _ _ => rfl) (fun _ => True) (fun _ => _) (fun _ => 0) (fun _ _ _ => ?_) () trivial
    simp only [Z31.l0_succ _ mk_ok]
    refine ev_f (decide_eq_false (by omega)) (ev_some ?_)
    rw [pb_true]
    intro j h1 h2; omega
  · refine Ev.start (p := fun φ n => Z31.l0 (mkR (run E (φ 0))) (φ 0) n s 1 = _) 1 ?_ (fun _ _ _ h => h)
    refine all_pb 1 (L := fun φ n k => Z31.l0 (mkR (run E (φ 0))) (φ 0) n s k) (len := s.length) 1 (by omega) (fun j => s.getD (j - 1) 0 < s.getD j 0) (fun b => some ⟨o_Z31,(b,())⟩) (fun _ _ _ _ => rfl) (fun k h1 h2 hP _ => ?_) (fun k r h1 h2 hP _ ih => ?_) (fun _ => ?_)
    · simp only [Z31.l0_succ _ mk_ok]
      refine ev_t (decide_eq_true (by omega)) ?_
      rw [w64_small (by omega) (by omega),show ((k : Int) - 1) = ((k - 1 : Nat) : Int) by omega]
      refine ev_bind (idx_lt (by omega)) (ev_bind (idx_lt h2) (ev_t (decide_eq_true ?_) ev_rfl))
      simpa [List.getD_eq_getElem?_getD,h2,show k - 1 < s.length by omega] using hP
    · simp only [Z31.l0_succ _ mk_ok]
      refine ev_t (decide_eq_true (by omega)) ?_
      rw [w64_small (by omega) (by omega),show ((k : Int) - 1) = ((k - 1 : Nat) : Int) by omega]
      refine ev_bind (idx_lt (by omega)) (ev_bind (idx_lt h2) (ev_f (decide_eq_false ?_) ?_))
      · simpa [List.getD_eq_getElem?_getD,h2,show k - 1 < s.length by omega] using hP
      · rw [w64_succ (by omega)]; exact ih
    · simp only [Z31.l0_succ _ mk_ok]
      exact ev_f (decide_eq_false (by omega)) ev_rfl

end VeT

open Go Go.Proofs Ve
set_option linter.unusedVariables false
set_option linter.unusedSimpArgs false
namespace VeT

def Vx (s : Sim) : Prop := 1 ≤ s.length ∧ s.length ≤ 4 ∧ Rises s ∧ ∀ x ∈ s,0 ≤ x ∧ x ≤ 9

theorem ValidSimplex_ret (s : Sim) (hs : Sm yL s) : Ret E n_Z12 [dL s] ⟨o_Z12,(pb (Vx s),())⟩ := by
  refine ret_of ?_
  simp only [run_Z12,Z12.ev]
  refine ev_d (fun h1 => ev_d (fun h2 => ev_call (isRising_ret s hs) (ev_b (fun h3 => ev_call (ContainsFunc_Sint64_int64_impl_ValidSimplex_1_ret s _ hs.1 fun x _ => ValidSimplex_1_ret x) (ev_some ?_)) fun h3 => ev_some ?_)) fun h2 => ev_some ?_) fun h1 => ev_some ?_
  · have h3 := pb_iff.1 h3
    have : (!pb (∃ x ∈ s,(!pb (0 ≤ x ∧ x ≤ 9)) = true)) = pb (Vx s) := eq_pb (by
      simp only [Bool.not_eq_true',pb_not]
      exact ⟨fun h => ⟨by omega,by omega,h3,fun x hx => Classical.byContradiction fun hn => h ⟨x,hx,hn⟩⟩,fun h ⟨x,hx,hn⟩ => hn (h.2.2.2 x hx)⟩)
    rw [this]
  · rw [pb_false fun h => pb_not.1 h3 h.2.2.1]
  · rw [pb_false fun h => h2 (by have := h.2.1; omega)]
  · rw [pb_false fun h => h1 (by have := h.1; omega)]

theorem l00Rises_ret (s : Sim) (lo hi : Int) (hs : Sm yL s) : Ret E n_Z97 [dL s,dI lo,dI hi] ⟨o_Z97,(pb (Rises s ∧ ∀ x ∈ s,lo ≤ x ∧ x ≤ hi),())⟩ := by
  have hs1 : s.length ≤ 1048576 := hs.1
  refine ret_of ?_
  simp only [run_Z97,Z97.ev]
  refine Ev.start (p := fun φ n => Z97.l0 (mkR (run E (φ 0))) (φ 0) n s lo hi 0 = _) 1 ?_ (fun _ _ _ h => h)
  refine (all_pb 1 (L := fun φ n k => Z97.l0 (mkR (run E (φ 0))) (φ 0) n s lo hi k) (len := s.length) 0 (by omega) (fun j => (lo ≤ s.getD j 0 ∧ s.getD j 0 ≤ hi) ∧ (1 ≤ j → s.getD (j - 1) 0 < s.getD j 0)) (fun b => some ⟨o_Z97,(b,())⟩) (fun _ _ _ _ => rfl) (fun k h1 h2 hP _ => ?_) (fun k r h1 h2 hP _ ih => ?_) (fun _ => ?_)).to ?_
  · simp only [Z97.l0_succ _ mk_ok]
    refine ev_t (decide_eq_true (by omega)) (ev_bind (idx_lt h2) (ev_call (l00In_ret _ _ _) ?_))
    have e : s.getD k 0 = s[k] := by simp [List.getD_eq_getElem?_getD,h2]
    rw [e] at hP
    refine ev_b (fun _ => ?_) (fun hin => ?_)
    · simp only [Z97.j1_eq _ mk_ok,cond_true]; (first | exact ev_rfl | exact Ev.of fun _ => trivial)
    · have hin : lo ≤ s[k] ∧ s[k] ≤ hi := pb_iff.1 (by simpa using hin)
      have hk : 1 ≤ k := Classical.byContradiction fun h => hP ⟨hin,fun h' => absurd h' h⟩
      refine ev_t (decide_eq_true (by omega)) ?_
      rw [w64_small (by omega) (by omega),show ((k : Int) - 1) = ((k - 1 : Nat) : Int) by omega]
      refine ev_bind (idx_lt (by omega)) (ev_bind (idx_lt h2) ?_)
      have e' : s.getD (k - 1) 0 = s[k - 1] := by simp [List.getD_eq_getElem?_getD,show k - 1 < s.length by omega]
      rw [e'] at hP
      have : decide (s[k-1] ≥ s[k]) = true := decide_eq_true (Classical.byContradiction fun h => hP ⟨hin,fun _ => by omega⟩)
      simp only [this,Z97.j1_eq _ mk_ok,cond_true]; (first | exact ev_rfl | exact Ev.of fun _ => trivial)
  · simp only [Z97.l0_succ _ mk_ok]
    refine ev_t (decide_eq_true (by omega)) (ev_bind (idx_lt h2) (ev_call (l00In_ret _ _ _) ?_))
    have e : s.getD k 0 = s[k] := by simp [List.getD_eq_getElem?_getD,h2]
    rw [e] at hP
    refine ev_f (by rw [pb_true hP.1]; rfl) ?_
    refine ev_d (fun hk => ?_) fun hk => ?_
    · rw [w64_small (by omega) (by omega),show ((k : Int) - 1) = ((k - 1 : Nat) : Int) by omega]
      refine ev_bind (idx_lt (by omega)) (ev_bind (idx_lt h2) ?_)
      have e' : s.getD (k - 1) 0 = s[k - 1] := by simp [List.getD_eq_getElem?_getD,show k - 1 < s.length by omega]
      rw [e'] at hP
      have : decide (s[k-1] ≥ s[k]) = false := decide_eq_false (by have := hP.2 (by omega); omega)
      simp only [this,Z97.j1_eq _ mk_ok,cond_false]
      rw [w64_succ (by omega)]; exact ih
    · simp only [Z97.j1_eq _ mk_ok,cond_false]
      rw [w64_succ (by omega)]; exact ih
  · simp only [Z97.l0_succ _ mk_ok]
    exact ev_f (decide_eq_false (by omega)) ev_rfl
  · refine congrArg (fun b : Bool => some (⟨o_Z97,(b,())⟩ : Dv)) (pb_congr ⟨fun h => ⟨fun j h1 h2 => (h j (by omega) h2).2 h1,fun x hx => ?_⟩,fun ⟨h1,h2⟩ j _ hj => ⟨?_,fun h3 => h1 j h3 hj⟩⟩)
    · obtain ⟨j,hj,rfl⟩ := List.mem_iff_getElem.1 hx
      simpa [List.getD_eq_getElem?_getD,hj] using (h j (by omega) hj).1
    · simpa [List.getD_eq_getElem?_getD,hj] using h2 _ (List.getElem_mem hj)

theorem l05Simplex_ret (s : Sim) (hs : Sm yL s) : Ret E n_Z109 [dL s] ⟨o_Z109,(pb (Vx s),())⟩ := by
  refine ret_of ?_
  simp only [run_Z109,Z109.ev]
  refine ev_call (l00In_ret _ _ _) (ev_b (fun h1 => ev_call (l00Rises_ret s _ _ hs) (ev_some ?_)) fun h1 => ev_some ?_)
  · have h1 := pb_iff.1 h1
    exact congrArg (fun b : Bool => some (⟨o_Z109,(b,())⟩ : Dv)) (pb_congr ⟨fun h => ⟨by omega,by omega,h.1,h.2⟩,fun h => ⟨h.2.2.1,h.2.2.2⟩⟩)
  · rw [pb_false fun h => pb_not.1 h1 ⟨by have := h.1; omega,by have := h.2.1; omega⟩]

/-! comparing -/
def cmp3 (a b : Int) : Int := if a < b then -1 else if b < a then 1 else 0
def lexc : Sim → Sim → Int
  | [],[] => 0
  | [],_ :: _ => -1
  | _ :: _,[] => 1
  | x :: xs,y :: ys => if x < y then -1 else if y < x then 1 else lexc xs ys
def cmpS (a b : Sim) : Int := if cmp3 a.length b.length ≠ 0 then cmp3 a.length b.length else lexc a b

theorem cmp3_zero {a b : Int} : cmp3 a b = 0 ↔ a = b := by unfold cmp3; split <;> (try split) <;> omega
theorem cmp3_neg {a b : Int} : cmp3 b a = - cmp3 a b := by unfold cmp3; split <;> split <;> (try split) <;> omega
theorem cmp3_lt {a b : Int} : cmp3 a b < 0 ↔ a < b := by unfold cmp3; split <;> (try split) <;> omega
theorem lexc_eq : ∀ {a b : Sim},lexc a b = 0 ↔ a = b
  | [],[] => by simp [lexc]
  | [],_ :: _ => by simp [lexc]
  | _ :: _,[] => by simp [lexc]
  | x :: xs,y :: ys => by
    have := @lexc_eq xs ys
    simp only [lexc,List.cons.injEq]
    split
    · constructor
      · intro h; omega
      · rintro ⟨rfl,_⟩; omega
    · split
      · constructor
        · intro h; omega
        · rintro ⟨rfl,_⟩; omega
      · rw [this]; constructor
        · intro h; exact ⟨by omega,h⟩
        · exact fun h => h.2
theorem lexc_neg : ∀ {a b : Sim},lexc b a = - lexc a b
  | [],[] => by simp [lexc]
  | [],_ :: _ => by simp [lexc]
  | _ :: _,[] => by simp [lexc]
  | x :: xs,y :: ys => by
    have := @lexc_neg xs ys
    simp only [lexc]
    split <;> split <;> (try split) <;> omega
theorem lexc_trans : ∀ {a b c : Sim},lexc a b < 0 → lexc b c < 0 → lexc a c < 0
  | [],[],c,h,_ => by simp [lexc] at h
  | [],_ :: _,[],_,h => by simp [lexc] at h
  | [],_ :: _,_ :: _,_,_ => by simp [lexc]
  | _ :: _,[],_,h,_ => by simp [lexc] at h
  | _ :: _,_ :: _,[],_,h => by simp [lexc] at h
  | x :: xs,y :: ys,z :: zs,h1,h2 => by
    have := @lexc_trans xs ys zs
    simp only [lexc] at h1 h2 ⊢
    split at h1 <;> split at h2 <;> (try split at h1) <;> (try split at h2) <;> (try split) <;> (try split) <;> first | omega | (exact this h1 h2)
theorem cmpS_zero {a b : Sim} : cmpS a b = 0 ↔ a = b := by
  unfold cmpS
  split
  · rename_i h
    exact ⟨fun h' => absurd h' h,fun h' => absurd (cmp3_zero.2 (by rw [h'])) h⟩
  · exact lexc_eq
theorem cmpS_neg {a b : Sim} : cmpS b a = - cmpS a b := by
  unfold cmpS
  rw [@cmp3_neg a.length b.length]
  split <;> split <;> first | omega | exact lexc_neg
theorem cmpS_lt {a b : Sim} : cmpS a b < 0 ↔ a.length < b.length ∨ a.length = b.length ∧ lexc a b < 0 := by
  unfold cmpS
  split
  · rename_i h
    rw [cmp3_lt]
    rw [Ne,cmp3_zero] at h
    omega
  · rename_i h
    rw [Classical.not_not,cmp3_zero] at h
    omega
theorem cmpS_trans {a b c : Sim} (h1 : cmpS a b < 0) (h2 : cmpS b c < 0) : cmpS a c < 0 := by
  rw [cmpS_lt] at *
  rcases h1 with h1 | ⟨h1,h1'⟩ <;> rcases h2 with h2 | ⟨h2,h2'⟩
  · left; omega
  · left; omega
  · left; omega
  · right; exact ⟨by omega,lexc_trans h1' h2'⟩

theorem isNaNi_ret (a : Int) : Ret E n_Z3 [dI a] ⟨o_Z3,(false,())⟩ := by
  refine ret_of ?_
  simp only [run_Z3,Z3.ev]
  exact ev_some (by simp)
theorem isNaN_ret (a : Int) : Ret E n_Z4 [dI a] ⟨o_Z4,(false,())⟩ := by
  refine ret_of ?_
  simp only [run_Z4,Z4.ev]
  exact ev_some (by simp)

theorem Comparei_ret (a b : Int) : Ret E n_Z0 [dI a,dI b] ⟨o_Z0,(cmp3 a b,())⟩ := by
  refine ret_of ?_
  simp only [run_Z0,Z0.ev]
  refine ev_call (isNaNi_ret _) (ev_call (isNaNi_ret _) (ev_f rfl (ev_f rfl (ev_d (fun h => ev_some ?_) fun h => ev_d (fun h2 => ev_some ?_) fun h2 => ev_some ?_))))
  · rw [cmp3,if_pos h]
  · rw [cmp3,if_neg h,if_pos h2]
  · rw [cmp3,if_neg h,if_neg h2]
theorem Compare_ret (a b : Int) : Ret E n_Z1 [dI a,dI b] ⟨o_Z1,(cmp3 a b,())⟩ := by
  refine ret_of ?_
  simp only [run_Z1,Z1.ev]
  refine ev_call (isNaN_ret _) (ev_call (isNaN_ret _) (ev_f rfl (ev_f rfl (ev_d (fun h => ev_some ?_) fun h => ev_d (fun h2 => ev_some ?_) fun h2 => ev_some ?_))))
  · rw [cmp3,if_pos h]
  · rw [cmp3,if_neg h,if_pos h2]
  · rw [cmp3,if_neg h,if_neg h2]

theorem lexc_step {a b : Sim} {k : Nat} (h : k < a.length) (h' : k < b.length) : lexc (a.drop k) (b.drop k) = if cmp3 a[k] b[k] ≠ 0 then cmp3 a[k] b[k] else lexc (a.drop (k + 1)) (b.drop (k + 1)) := by
  rw [List.drop_eq_getElem_cons h,List.drop_eq_getElem_cons h',lexc]
  unfold cmp3
  split
  · simp
  · split
    · simp
    · simp

theorem SliceCompare_ret (a b : Sim) (ha : Sm yL a) : Ret E n_Z76 [dL a,dL b] ⟨o_Z76,(lexc a b,())⟩ := by
  have ha1 : a.length ≤ 1048576 := ha.1
  refine ret_of ?_
  simp only [run_Z76,Z76.ev]
  refine Ev.start (p := fun φ n => Z76.l0 (mkR (run E (φ 0))) (φ 0) n a b a (a.length : Int) 0 = _) 1 ?_ (fun _ _ _ h => h)
  refine loopR 1 (σ := Nat) (L := fun φ n k => Z76.l0 (mkR (run E (φ 0))) (φ 0) n a b a (a.length : Int) (k : Int)) (fun _ _ _ _ => rfl) (fun k => k ≤ a.length ∧ k ≤ b.length) (fun k => some ⟨o_Z76,(lexc (a.drop k) (b.drop k),())⟩) (fun k => a.length - k) (fun k ⟨hk,hkb⟩ ih => ?_) 0 ⟨Nat.zero_le _,Nat.zero_le _⟩
  simp only [Z76.l0_succ _ mk_ok]
  refine ev_d (fun h => ?_) fun h => ?_
  · have hka : k < a.length := by omega
    refine ev_bind (idx_lt hka) (ev_d (fun h2 => ev_some ?_) fun h2 => ?_)
    · rw [List.drop_eq_getElem_cons hka,List.drop_of_length_le (l := b) (by omega),lexc]
    · have hkb : k < b.length := by omega
      refine ev_bind (idx_lt hkb) (ev_call (Compare_ret _ _) (ev_b (fun h3 => ev_some ?_) fun h3 => ?_))
      · rw [lexc_step hka hkb,if_pos (by simpa using h3)]
      · rw [w64_succ (by omega)]
        refine (ih (k + 1) ⟨by omega,by omega⟩ (by omega)).to ?_
        rw [lexc_step hka hkb,if_neg (by simpa using h3)]
  · have e : k = a.length := by omega
    subst e
    refine ev_d (fun h2 => ev_some ?_) fun h2 => ev_some ?_
    · rw [List.drop_of_length_le (l := a) (by omega),List.drop_eq_getElem_cons (l := b) (by omega),lexc]
    · rw [List.drop_of_length_le (l := a) (by omega),List.drop_of_length_le (l := b) (by omega),lexc]

theorem Or2_ret (a b : Int) : Ret E n_Z2 [dL [a,b]] ⟨o_Z2,(if a ≠ 0 then a else b,())⟩ := by
  refine ret_of ?_
  simp only [run_Z2,Z2.ev]
  refine Ev.start (p := fun φ n => Z2.l0 (mkR (run E (φ 0))) (φ 0) n 0 [a,b] ([a,b].length : Int) 0 = _) 1 ?_ (fun _ _ _ h => h)
  refine Ev.round 1 (L := fun φ n => Z2.l0 (mkR (run E (φ 0))) (φ 0) n 0 [a,b] ([a,b].length : Int) 0) ?_ (fun _ _ _ => rfl)
  simp only [Z2.l0_succ _ mk_ok]
  refine ev_t (by simp) (ev_bind (x := a) rfl (ev_b (fun h => ev_some ?_) fun h => ?_))
  · rw [if_pos (by simpa using h)]
  · rw [if_neg (by simpa using h)]
    rw [show w64 ((0 : Int) + 1) = 1 by decide]
    refine Ev.round 1 (L := fun φ n => Z2.l0 (mkR (run E (φ 0))) (φ 0) n 0 [a,b] ([a,b].length : Int) 1) ?_ (fun _ _ _ => rfl)
    simp only [Z2.l0_succ _ mk_ok]
    refine ev_t (by simp) (ev_bind (x := b) rfl (ev_b (fun h => ev_rfl) fun h => ?_))
    rw [show w64 ((1 : Int) + 1) = 2 by decide]
    refine Ev.round 1 (L := fun φ n => Z2.l0 (mkR (run E (φ 0))) (φ 0) n 0 [a,b] ([a,b].length : Int) 2) ?_ (fun _ _ _ => rfl)
    simp only [Z2.l0_succ _ mk_ok]
    refine ev_f (by simp) (ev_some ?_)
    have : b = 0 := by simpa using h
    rw [this]

theorem compareSimplices_ret (a b : Sim) (ha : Sm yL a) : Ret E n_Z19 [dL a,dL b] ⟨o_Z19,(cmpS a b,())⟩ := by
  refine ret_of ?_
  simp only [run_Z19,Z19.ev]
  exact ev_call (Comparei_ret _ _) (ev_call (SliceCompare_ret a b ha) (ev_call (Or2_ret _ _) ev_rfl))

theorem l05Before_ret (a b : Sim) (ha : Sm yL a) : Ret E n_Z103 [dL a,dL b] ⟨o_Z103,(pb (cmpS a b < 0),())⟩ := by
  have ha1 : a.length ≤ 1048576 := ha.1
  refine ret_of ?_
  simp only [run_Z103,Z103.ev]
  refine ev_b (fun h => ev_some ?_) fun h => ?_
  · have h : (a.length : Int) ≠ b.length := by simpa using h
    rw [pb_dec,pb_congr (show (a.length : Int) < b.length ↔ cmpS a b < 0 by rw [cmpS_lt]; omega)]
  · have h : a.length = b.length := by have : (a.length : Int) = b.length := by simpa using h
                                       omega
    refine Ev.start (p := fun φ n => Z103.l0 (mkR (run E (φ 0))) (φ 0) n a b 0 = _) 1 ?_ (fun _ _ _ h => h)
    refine (loopR 1 (σ := Nat) (L := fun φ n k => Z103.l0 (mkR (run E (φ 0))) (φ 0) n a b (k : Int)) (fun _ _ _ _ => rfl) (fun k => k ≤ a.length) (fun k => some ⟨o_Z103,(pb (lexc (a.drop k) (b.drop k) < 0),())⟩) (fun k => a.length - k) (fun k hk ih => ?_) 0 (Nat.zero_le _)).to ?_
    · simp only [Z103.l0_succ _ mk_ok]
      refine ev_d (fun h1 => ?_) fun h1 => ?_
      · have hka : k < a.length := by omega
        have hkb : k < b.length := by omega
        have e := lexc_step hka hkb
        refine ev_bind (idx_lt hka) (ev_bind (idx_lt hkb) (ev_b (fun h3 => ?_) fun h3 => ?_))
        · refine ev_bind (idx_lt hka) (ev_bind (idx_lt hkb) (ev_some ?_))
          have h3 : a[k] ≠ b[k] := by simpa using h3
          rw [if_pos (by rw [Ne,cmp3_zero]; exact h3)] at e
          rw [e,pb_dec,pb_congr cmp3_lt]
        · have h3 : a[k] = b[k] := by simpa using h3
          rw [if_neg (by rw [Classical.not_not,cmp3_zero]; exact h3)] at e
          rw [w64_succ (by omega),e]
          exact ih (k + 1) (by show k + 1 ≤ _; omega) (by show a.length - (k + 1) < _; omega)
      · refine ev_some ?_
        have hk : k ≤ a.length := hk
        have e : k = a.length := by omega
        subst e
        rw [List.drop_of_length_le (l := a) (by omega),List.drop_of_length_le (l := b) (by omega),lexc,pb_false (by omega)]
    · refine congrArg (fun b : Bool => some (⟨o_Z103,(b,())⟩ : Dv)) (pb_congr ?_)
      simp only [List.drop_zero]; rw [cmpS_lt]; omega

end VeT

open Go Go.Proofs Ve
set_option linter.unusedVariables false
set_option linter.unusedSimpArgs false
namespace VeT

theorem getD_lt {α : Type} {s : List α} {k : Nat} {d : α} (h : k < s.length) : s.getD k d = s[k] := by simp [List.getD_eq_getElem?_getD,h]
theorem sm_get {t : Ty} {s : List t.T} (h : Sm (.sl t) s) {k : Nat} (hk : k < s.length) : Sm t s[k] := h.2 _ (List.getElem_mem hk)
theorem sm_ints {s : Sim} (h : s.length ≤ 1048576) : Sm yL s := ⟨h,fun _ _ => trivial⟩

theorem l00Own_ret (s : Sim) (hs : s.length ≤ 1048576) : Ret E n_Z96 [dL s] ⟨o_Z96,(s,())⟩ := by
  refine ret_of ?_
  simp only [run_Z96,Z96.ev]
  exact ev_chk (by simp; omega) (ev_some rfl)

theorem l05Drop_ret (s : Sim) (k : Nat) (hk : k < s.length) (hs : s.length ≤ 1048576) : Ret E n_Z104 [dL s,dI (k : Int)] ⟨o_Z104,(s.eraseIdx k,())⟩ := by
  refine ret_of ?_
  simp only [run_Z104,Z104.ev]
  rw [w64_succ (by omega)]
  simp only [Int.toNat_natCast]
  refine ev_chk (by simp; omega) (ev_call (l00Own_ret _ (by simp; omega)) (ev_chk (by simp; omega) (ev_chk (by simp; omega) (ev_some ?_))))
  rw [List.eraseIdx_eq_take_drop_succ]

theorem l00SameP_ret (a b : Sim) (ha : a.length ≤ 1048576) : Ret E n_Z98 [dL a,dL b] ⟨o_Z98,(pb (a = b),())⟩ := by
  refine ret_of ?_
  simp only [run_Z98,Z98.ev]
  refine ev_b (fun h => ev_some ?_) fun h => ?_
  · have h : (a.length : Int) ≠ b.length := by simpa using h
    rw [pb_false fun e => h (by rw [e])]
  · have h : (a.length : Int) = b.length := by simpa using h
    refine Ev.start (p := fun φ n => Z98.l0 (mkR (run E (φ 0))) (φ 0) n a b 0 = _) 1 ?_ (fun _ _ _ h => h)
    refine (all_pb 1 (L := fun φ n k => Z98.l0 (mkR (run E (φ 0))) (φ 0) n a b k) (len := a.length) 0 (by omega) (fun j => a.getD j 0 = b.getD j 0) (fun b => some ⟨o_Z98,(b,())⟩) (fun _ _ _ _ => rfl) (fun k h1 h2 hP _ => ?_) (fun k r h1 h2 hP _ ih => ?_) (fun _ => ?_)).to ?_
    · simp only [Z98.l0_succ _ mk_ok]
      have hb : k < b.length := by omega
      rw [getD_lt h2,getD_lt hb] at hP
      exact ev_t (decide_eq_true (by omega)) (ev_bind (idx_lt h2) (ev_bind (idx_lt hb) (ev_t (by simpa using hP) ev_rfl)))
    · simp only [Z98.l0_succ _ mk_ok]
      have hb : k < b.length := by omega
      rw [getD_lt h2,getD_lt hb] at hP
      refine ev_t (decide_eq_true (by omega)) (ev_bind (idx_lt h2) (ev_bind (idx_lt hb) (ev_f (by simpa using hP) ?_)))
      rw [w64_succ (by omega)]; exact ih
    · simp only [Z98.l0_succ _ mk_ok]
      exact ev_f (decide_eq_false (by omega)) ev_rfl
    · refine congrArg (fun b : Bool => some (⟨o_Z98,(b,())⟩ : Dv)) (pb_congr ⟨fun hh => List.ext_getElem (by omega) fun j h1 h2 => ?_,fun hh j _ _ => by rw [hh]⟩)
      have := hh j (by omega) h1
      rwa [getD_lt h1,getD_lt h2] at this

noncomputable def findI (c : List Sim) (s : Sim) : Int := idxf (fun x => pb (x = s)) c
theorem findI_nonneg {c : List Sim} {s : Sim} : 0 ≤ findI c s ↔ s ∈ c := by
  unfold findI
  rw [idxf_nonneg]
  simp only [pb_iff]
  exact ⟨fun ⟨x,h,e⟩ => e ▸ h,fun h => ⟨s,h,rfl⟩⟩

theorem l05Find_ret (c : Cpx) (s : Sim) (hc : Sm yK c.1) : Ret E n_Z106 [dC c,dL s] ⟨o_Z106,(findI c.1 s,())⟩ := by
  have hc1 : c.1.length ≤ 1048576 := hc.1
  obtain ⟨o,h1,h2,h3⟩ := find_loop 1 (L := fun φ n k => Z106.l0 (mkR (run E (φ 0))) (φ 0) n c s k) (len := c.1.length) (fun k => ∃ h : k < c.1.length,pb (c.1[k] = s) = true) (fun o => some ⟨o_Z106,(o2i o,())⟩) (fun _ _ _ _ => rfl) (fun k hk hP => by
      obtain ⟨_,hP⟩ := hP
      simp only [Z106.l0_succ _ mk_ok]
      refine ev_t (decide_eq_true (by omega)) (ev_bind (idx_lt hk) (ev_call (l00SameP_ret _ _ (sm_get hc hk).1) (ev_t hP ev_rfl)))) (fun k q hk hP ih => by
      simp only [Z106.l0_succ _ mk_ok]
      refine ev_t (decide_eq_true (by omega)) (ev_bind (idx_lt hk) (ev_call (l00SameP_ret _ _ (sm_get hc hk).1) (ev_f (Bool.eq_false_iff.2 fun h => hP ⟨hk,h⟩) ?_)))
      rw [w64_succ (by omega)]; exact ih) (by
      simp only [Z106.l0_succ _ mk_ok]
      exact ev_f (decide_eq_false (by omega)) ev_rfl)
  rw [idxf_of (p := fun x => pb (x = s)) h1 h2] at h3
  refine ret_of ?_
  simp only [run_Z106,Z106.ev]
  exact Ev.start (p := fun φ n => Z106.l0 (mkR (run E (φ 0))) (φ 0) n c s 0 = _) 1 h3 (fun _ _ _ h => h)

/-! joining,faces -/
theorem run_Grow (n : Nat) (args : List Dv) : run E (n + 1) n_Z85 args = pGrow yI (mkR (run E n)) args := rfl

theorem Grow_ret (s : Sim) (n : Int) (h0 : 0 ≤ n) (h1 : n ≤ 1048576) (hs : s.length ≤ 1048576) : Ret E n_Z85 [dL s,dI n] ⟨o_Z85,(s,())⟩ := by
  refine ret_of ?_
  simp only [run_Grow]
  refine ev_some ((if_pos (show 0 ≤ n ∧ ((List.length s : Int) + n) * (64 * (Ty.size (Ty.int IntKind.i64) : Int)) ≤ 70368744177664 from ⟨h0,?_⟩)).trans rfl)
  have : (Ty.size (Ty.int IntKind.i64)) = 1 := rfl
  rw [this]; omega

theorem Concat_ret (ll : List Sim) (hl : ll.length ≤ 1048576) (hf : ll.flatten.length ≤ 1048576) : Ret E n_Z77 [dLL ll] ⟨o_Z77,(ll.flatten,())⟩ := by
  have hle : ∀ k,(ll.take k).flatten.length ≤ ll.flatten.length := fun k => by
    have := congrArg List.length (congrArg List.flatten (List.take_append_drop k ll))
    rw [List.flatten_append,List.length_append] at this; omega
  have hst : ∀ k (h : k < ll.length),(ll.take (k + 1)).flatten = (ll.take k).flatten ++ ll[k] := fun k h => by
    rw [List.take_succ_eq_append_getElem h,List.flatten_append]; simp
  refine ret_of ?_
  simp only [run_Z77,Z77.ev]
  refine Ev.start (p := fun φ n => Z77.l0 (mkR (run E (φ 0))) (φ 0) n ll 0 ll (ll.length : Int) 0 = _) 1 ?_ (fun _ _ _ h => h)
  refine fold_loop 1 (L := fun φ n k a => Z77.l0 (mkR (run E (φ 0))) (φ 0) n ll a ll (ll.length : Int) k) (len := ll.length) (fun k => (((ll.take k).flatten.length : Nat) : Int)) (fun _ _ _ _ _ => rfl) (fun k r hk ih => ?_) ?_
  · simp only [Z77.l0_succ _ mk_ok]
    have := hle (k + 1)
    have e := hst k hk
    have e2 : w64 (((ll.take k).flatten.length : Nat) + (List.length (ll[k]) : Int)) = (((ll.take (k + 1)).flatten.length : Nat) : Int) := by
      rw [w64_small (by omega) (by rw [e,List.length_append] at this; omega),e,List.length_append]; omega
    refine ev_t (decide_eq_true (by omega)) (ev_bind (idx_lt hk) ?_)
    show Ev fun φ => (bif decide (w64 (((ll.take k).flatten.length : Nat) + (List.length (ll[k]) : Int)) < 0) then none else Z77.l0 (mkR (run E (φ 0))) (φ 0) (φ 1) ll (w64 (((ll.take k).flatten.length : Nat) + (List.length (ll[k]) : Int))) ll (ll.length : Int) (w64 ((k : Int) + 1))) = r
    rw [e2,w64_succ (by omega)]
    exact ev_f (decide_eq_false (by omega)) ih
  · simp only [Z77.l0_succ _ mk_ok]
    refine ev_f (decide_eq_false (by omega)) (ev_call (Grow_ret [] _ (by omega) (by have := hle ll.length; omega) (by simp)) ?_)
    refine Ev.start (p := fun φ n => Z77.l1 (mkR (run E (φ 0))) (φ 0) n ll (ll.length : Int) 0 [] = _) 2 ?_ (fun _ _ _ h => h)
    refine fold_loop 2 (L := fun φ n k a => Z77.l1 (mkR (run E (φ 0))) (φ 0) n ll (ll.length : Int) k a) (len := ll.length) (fun k => (ll.take k).flatten) (fun _ _ _ _ _ => rfl) (fun k r hk ih => ?_) ?_
    · simp only [Z77.l1_succ _ mk_ok]
      have := hle (k + 1)
      have e := hst k hk
      rw [e] at ih this
      rw [List.length_append] at this
      refine ev_t (decide_eq_true (by omega)) (ev_bind (idx_lt hk) (ev_chk (decide_eq_true (by show (_ + List.length ll[k]) * 8 ≤ _; omega)) ?_))
      rw [w64_succ (by omega)]
      exact ih
    · simp only [Z77.l1_succ _ mk_ok]
      refine ev_f (decide_eq_false (by omega)) (ev_some ?_)
      rw [List.take_of_length_le (Nat.le_refl _)]

def faces (s : Sim) : List Sim := if 1 < s.length then (List.range s.length).map (s.eraseIdx ·) else []

theorem faces_mem {s f : Sim} : f ∈ faces s ↔ 1 < s.length ∧ ∃ i,i < s.length ∧ f = s.eraseIdx i := by
  unfold faces
  split
  · rename_i h
    simp only [List.mem_map,List.mem_range,h,true_and]
    exact ⟨fun ⟨i,h1,h2⟩ => ⟨i,h1,h2.symm⟩,fun ⟨i,h1,h2⟩ => ⟨i,h1,h2.symm⟩⟩
  · rename_i h
    simp [h]

theorem faces_len {s f : Sim} (h : f ∈ faces s) : f.length + 1 = s.length := by
  obtain ⟨h1,i,h2,rfl⟩ := faces_mem.1 h
  rw [List.length_eraseIdx,if_pos h2]; omega

theorem faces_length {s : Sim} : (faces s).length ≤ s.length := by
  unfold faces; split <;> simp

theorem facesOf_ret (s : Sim) (hs : s.length ≤ 1048576) : Ret E n_Z24 [dL s] ⟨o_Z24,(faces s,())⟩ := by
  refine ret_of ?_
  simp only [run_Z24,Z24.ev]
  refine Ev.start (p := fun φ n => Z24.l0 (mkR (run E (φ 0))) (φ 0) n s (s.length : Int) 0 [] = _) 1 ?_ (fun _ _ _ h => h)
  by_cases h1 : 1 < s.length
  · refine fold_loop 1 (L := fun φ n k a => Z24.l0 (mkR (run E (φ 0))) (φ 0) n s (s.length : Int) k a) (len := s.length) (fun k => (List.range k).map (s.eraseIdx ·)) (fun _ _ _ _ _ => rfl) (fun k r hk ih => ?_) ?_
    · simp only [Z24.l0_succ _ mk_ok]
      rw [List.range_succ,List.map_append] at ih
      rw [w64_succ (by omega)]
      simp only [Int.toNat_natCast]
      refine ev_t (decide_eq_true (by omega)) (ev_t (decide_eq_true (by omega)) (ev_chk (by simp; omega) (ev_chk (by simp; omega) (ev_call (Concat_ret _ (by simp) (by simp; omega)) (ev_chk (by simp; omega) ?_)))))
      rw [show [s.take k,s.drop (k + 1)].flatten = s.eraseIdx k by simp [List.eraseIdx_eq_take_drop_succ]]
      exact ih
    · simp only [Z24.l0_succ _ mk_ok]
      exact ev_f (decide_eq_false (by omega)) (ev_some (by rw [faces,if_pos h1]))
  · refine fold_loop 1 (L := fun φ n k a => Z24.l0 (mkR (run E (φ 0))) (φ 0) n s (s.length : Int) k a) (len := s.length) (fun k => []) (fun _ _ _ _ _ => rfl) (fun k r hk ih => ?_) ?_
    · simp only [Z24.l0_succ _ mk_ok]
      rw [w64_succ (by omega)]
      exact ev_t (decide_eq_true (by omega)) (ev_f (decide_eq_false (by omega)) ih)
    · simp only [Z24.l0_succ _ mk_ok]
      exact ev_f (decide_eq_false (by omega)) (ev_some (by rw [faces,if_neg h1]))

/-! searching -/
def Srt (c : List Sim) : Prop := ∀ i j (h : j < c.length) (hij : i < j),cmpS c[i] c[j] < 0

theorem srt_of {c : List Sim} (h : ∀ k,1 ≤ k → k < c.length → cmpS (c.getD (k - 1) []) (c.getD k []) < 0) : Srt c := by
  intro i j
  induction j with
  | zero => intro _ h; omega
  | succ j ih =>
    intro hj hij
    have := h (j + 1) (by omega) hj
    rw [Nat.add_sub_cancel,getD_lt (by omega),getD_lt hj] at this
    by_cases e : i = j
    · subst e; exact this
    · exact cmpS_trans (ih (by omega) (by omega)) this

theorem Srt.take {c : List Sim} (h : Srt c) (k : Nat) : Srt (c.take k) := by
  intro i j hj hij
  rw [List.getElem_take,List.getElem_take]
  exact h i j (by rw [List.length_take] at hj; omega) hij

def bs (c : List Sim) (s : Sim) : Nat := c.findIdx (fun x => !decide (cmpS x s < 0))

theorem bs_le {c : List Sim} {s : Sim} : bs c s ≤ c.length := List.findIdx_le_length
theorem bs_lt {c : List Sim} {s : Sim} (hc : Srt c) {t : Nat} (h : t < c.length) : t < bs c s ↔ cmpS c[t] s < 0 := by
  constructor
  · intro ht
    have := List.not_of_lt_findIdx ht
    simpa using this
  · intro ht
    refine Classical.byContradiction fun hn => ?_
    have hb : bs c s < c.length := by omega
    have h1 : cmpS c[bs c s] s < 0 := by
      by_cases e : bs c s = t
      · simp only [e]; exact ht
      · exact cmpS_trans (hc _ _ h (by omega)) ht
    have := List.findIdx_getElem (w := hb)
    simp only [Bool.not_eq_true',decide_eq_false_iff_not] at this
    exact this h1

theorem bs_find {c : List Sim} {s : Sim} (hc : Srt c) : findI c s = if h : bs c s < c.length ∧ c.getD (bs c s) [] = s then (bs c s : Int) else -1 := by
  have e : c.findIdx? (fun x => pb (x = s)) = if bs c s < c.length ∧ c.getD (bs c s) [] = s then some (bs c s) else none := by
    split
    · rename_i h
      obtain ⟨h1,h2⟩ := h
      rw [List.findIdx?_eq_some_iff_getElem]
      rw [getD_lt h1] at h2
      refine ⟨h1,pb_true h2,fun j hj => ?_⟩
      rw [pb_iff]
      intro he
      have := (bs_lt (s := s) hc (show j < c.length by omega)).1 hj
      rw [he,cmpS_zero.2 rfl] at this
      omega
    · rename_i h
      rw [List.findIdx?_eq_none_iff]
      intro x hx
      rw [pb_not]
      rintro rfl
      obtain ⟨j,hj,rfl⟩ := List.mem_iff_getElem.1 hx
      have h0 : ¬ j < bs c c[j] := fun hlt => by
        have := (bs_lt hc hj).1 hlt
        rw [cmpS_zero.2 rfl] at this; omega
      by_cases hjb : bs c c[j] = j
      · exact h ⟨by omega,by rw [hjb,getD_lt hj]⟩
      · have hb : bs c c[j] < c.length := by omega
        have := (bs_lt (s := c[j]) hc hb).2 (hc _ _ hj (by omega))
        omega
  unfold findI idxf
  rw [e]
  split <;> rfl

theorem BinarySearch_ret (c : List Sim) (s : Sim) (hc : Sm yK c) (hs : Srt c) : Ret E n_Z72 [dLL c,dL s,⟨.fn n_Z19 .nil,()⟩] ⟨o_Z72,((bs c s : Int),pb (bs c s < c.length ∧ c.getD (bs c s) [] = s),())⟩ := by
  have hc1 : c.length ≤ 1048576 := hc.1
  refine ret_of ?_
  simp only [run_Z72,Z73.ev]
  refine Ev.start (p := fun φ n => Z73.l0 (mkR (run E (φ 0))) (φ 0) n c s (c.length : Int) 0 (c.length : Int) = _) 1 ?_ (fun _ _ _ h => h)
  refine loopR 1 (σ := Nat × Nat) (L := fun φ n st => Z73.l0 (mkR (run E (φ 0))) (φ 0) n c s (c.length : Int) (st.1 : Int) (st.2 : Int)) (fun _ _ _ _ => rfl) (fun st => st.1 ≤ bs c s ∧ bs c s ≤ st.2 ∧ st.2 ≤ c.length) (fun _ => _) (fun st => st.2 - st.1) (fun st hi ih => ?_) (0,c.length) ⟨Nat.zero_le _,bs_le,Nat.le_refl _⟩
  obtain ⟨i,j⟩ := st
  obtain ⟨h1,h2,h3⟩ := hi
  simp only at h1 h2 h3 ih
  simp only [Z73.l0_succ _ mk_ok]
  rw [half (by omega)]
  refine ev_d (fun hij => ?_) fun hij => ?_
  · have hh : (i + j) / 2 < c.length := by omega
    refine ev_chk (by decide) (ev_bind (idx_lt hh) (ev_call (compareSimplices_ret _ _ (sm_get hc hh)) (ev_d (fun hlt => ?_) fun hlt => ?_)))
    · rw [w64_succ (by omega)]
      have := (bs_lt hs hh).2 hlt
      exact ih ((i + j) / 2 + 1,j) ⟨this,h2,h3⟩ (by simp only; omega)
    · have : ¬ (i + j) / 2 < bs c s := fun h => hlt ((bs_lt hs hh).1 h)
      exact ih (i,(i + j) / 2) ⟨h1,by simp only; omega,by simp only; omega⟩ (by simp only; omega)
  · have e : i = bs c s := by omega
    subst e
    refine ev_d (fun hl => ?_) fun hl => ev_some ?_
    · have hh : bs c s < c.length := by omega
      refine ev_bind (idx_lt hh) (ev_call (compareSimplices_ret _ _ (sm_get hc hh)) (ev_some ?_))
      have : (cmpS c[bs c s] s == 0) = pb (bs c s < c.length ∧ c.getD (bs c s) [] = s) := eq_pb (by
        rw [getD_lt hh,beq_iff_eq,cmpS_zero]; exact ⟨fun h => ⟨hh,h⟩,fun h => h.2⟩)
      rw [this]
    · rw [pb_false fun h => hl (by omega)]

theorem indexOf_ret (c : List Sim) (s : Sim) (hc : Sm yK c) (hs : Srt c) : Ret E n_Z27 [dLL c,dL s] ⟨o_Z27,(findI c s,())⟩ := by
  refine ret_of ?_
  simp only [run_Z27,Z27.ev]
  refine ev_call (BinarySearch_ret c s hc hs) (ev_b (fun h => ev_some ?_) fun h => ev_some ?_)
  · rw [bs_find hs,dif_neg (pb_not.1 (by simpa using h))]
  · rw [bs_find hs,dif_pos (pb_iff.1 (by simpa using h))]

end VeT

open Go Go.Proofs Ve
set_option linter.unusedVariables false
set_option linter.unusedSimpArgs false
namespace VeT

/-- valid complexes -/
def VC (c : List Sim) : Prop := c.length ≤ 48 ∧ (∀ k,k < c.length → Vx (c.getD k [])) ∧ (∀ k,1 ≤ k → k < c.length → cmpS (c.getD (k - 1) []) (c.getD k []) < 0) ∧ ∀ k,k < c.length → ∀ f ∈ faces (c.getD k []),f ∈ c

theorem VC.srt {c : List Sim} (h : VC c) : Srt c := srt_of h.2.2.1

def VCimpl (c : List Sim) (k : Nat) : Prop := (Vx (c.getD k []) ∧ (1 ≤ k → cmpS (c.getD (k - 1) []) (c.getD k []) < 0)) ∧ ∀ f ∈ faces (c.getD k []),f ∈ c.take k

theorem VC_impl {c : List Sim} : ((∀ k,0 ≤ k → k < c.length → VCimpl c k) ∧ c.length ≤ 48) ↔ VC c := by
  constructor
  · rintro ⟨h,hl⟩
    exact ⟨hl,fun k hk => (h k (by omega) hk).1.1,fun k h1 hk => (h k (by omega) hk).1.2 h1,fun k hk f hf => List.mem_of_mem_take ((h k (by omega) hk).2 f hf)⟩
  · intro h
    have hs := h.srt
    obtain ⟨hl,h1,h2,h3⟩ := h
    refine ⟨fun k _ hk => ⟨⟨h1 k hk,fun hk1 => h2 k hk1 hk⟩,fun f hf => ?_⟩,hl⟩
    have hm := h3 k hk f hf
    have hlen := faces_len hf
    rw [getD_lt hk] at hlen
    obtain ⟨i,hi,rfl⟩ := List.mem_iff_getElem.1 hm
    have hlt : cmpS c[i] c[k] < 0 := cmpS_lt.2 (.inl (by omega))
    have hik : i < k := Classical.byContradiction fun hn => by
      by_cases e : i = k
      · subst e; omega
      · have := hs k i hi (by omega)
        rw [cmpS_neg] at this; omega
    exact List.mem_iff_getElem.2 ⟨i,by rw [List.length_take]; omega,by rw [List.getElem_take]⟩

theorem sm_take {t : Ty} {s : List t.T} (h : Sm (.sl t) s) (k : Nat) : Sm (.sl t) (s.take k) := ⟨by have h1 : s.length ≤ 1048576 := h.1; show (s.take k).length ≤ _; rw [List.length_take]; omega,fun x hx => h.2 x (List.mem_of_mem_take hx)⟩

theorem ValidComplex_1_ret (c : List Sim) (f : Sim) (k : Nat) (hk : k ≤ c.length) (hc : Sm yK c) (hs : Srt (c.take k)) :
    Ret E n_Z8 [dL f,dC (c,()),⟨.ptr (.cons yI .nil),((k : Int),())⟩] ⟨o_Z8,(pb (¬ f ∈ c.take k),())⟩ := by
  refine ret_of ?_
  simp only [run_Z8,Z8.ev]
  simp only [Int.toNat_natCast]
  refine ev_chk (by simp; omega) (ev_call (indexOf_ret _ f (sm_take hc k) hs) (ev_some ?_))
  simp only [pb_dec,pb_congr (show findI (c.take k) f < 0 ↔ ¬ f ∈ c.take k by rw [← findI_nonneg]; omega)]

theorem ValidComplex_ret (c : List Sim) (hc : Sm yK c) : Ret E n_Z7 [dLL c] ⟨o_Z7,(pb (VC c),())⟩ := by
  have hc1 : c.length ≤ 1048576 := hc.1
  refine ret_of ?_
  simp only [run_Z7,Z7.ev]
  refine Ev.start (p := fun φ n => Z7.l0 (mkR (run E (φ 0))) (φ 0) n c (c.length : Int) 0 c = _) 1 ?_ (fun _ _ _ h => h)
  have key : ∀ (n : Nat) (k : Nat) (hk : k < c.length) (hpre : ∀ j,0 ≤ j → j < k → VCimpl c j),Srt (c.take k) := fun n k hk hpre => srt_of fun j h1 h2 => by
    rw [List.length_take] at h2
    have := (hpre j (by omega) (by omega)).1.2 h1
    rw [getD_lt (by omega),getD_lt (by omega)] at this
    rw [getD_lt (by rw [List.length_take]; omega),getD_lt (by rw [List.length_take]; omega),List.getElem_take,List.getElem_take]
    exact this
  have hcon : ∀ (k : Nat) (hk : k < c.length) (hpre : ∀ j,0 ≤ j → j < k → VCimpl c j),Ret E n_Z78 [dLL (faces c[k]),⟨.fn n_Z8 (.cons (.ptr (.cons yK .nil)) (.cons (.ptr (.cons yI .nil)) .nil)),((c,()),((k : Int),()),())⟩] ⟨o_Z78,(pb (∃ x ∈ faces c[k],pb (¬ x ∈ c.take k) = true),())⟩ := fun k hk hpre =>
    ContainsFunc_SSint64_Sint64_impl_ValidComplex_1_ret (faces c[k]) ((c,()),((k : Int),()),()) _ (Nat.le_trans faces_length (sm_get hc hk).1) fun x hx => ValidComplex_1_ret c x k (by omega) hc (key 0 k hk hpre)
  refine (all_pb 1 (L := fun φ n k => Z7.l0 (mkR (run E (φ 0))) (φ 0) n c (c.length : Int) k c) (len := c.length) 0 (by omega) (VCimpl c) (fun b => some ⟨o_Z7,(b && decide ((c.length : Int) ≤ 48),())⟩) (fun _ _ _ _ => rfl) (fun k h1 h2 hP hpre => ?_) (fun k r h1 h2 hP hpre ih => ?_) (fun _ => ?_)).to ?_
  · simp only [Z7.l0_succ _ mk_ok]
    refine ev_t (decide_eq_true (by omega)) (ev_bind (idx_lt h2) (ev_call (ValidSimplex_ret _ (sm_get hc h2)) ?_))
    refine ev_b (fun hv => ?_) fun hv => ?_
    · simp only [Z7.j1_eq _ mk_ok,cond_true]; (first | exact ev_rfl | exact Ev.of fun _ => trivial)
    · have hv : Vx c[k] := pb_iff.1 (by simpa using hv)
      have last : (1 ≤ k → cmpS (c.getD (k - 1) []) (c.getD k []) < 0) → Ev fun φ => Z7.j1 (mkR (run E (φ 0))) (φ 0) (φ 1) c[k] c (c.length : Int) (k : Int) false c (k : Int) = some ⟨o_Z7,(false,())⟩ := fun hcm => by
        simp only [Z7.j1_eq _ mk_ok,cond_false]
        refine ev_call (facesOf_ret _ (sm_get hc h2).1) (ev_call (hcon k h2 hpre) (ev_t ?_ ev_rfl))
        refine pb_true (Classical.byContradiction fun hn => hP ⟨⟨by rw [getD_lt h2]; exact hv,hcm⟩,fun f hf => Classical.byContradiction fun hnf => hn ⟨f,by rw [getD_lt h2] at hf; exact hf,pb_true hnf⟩⟩)
      refine ev_d (fun hk => ?_) fun hk => ?_
      · rw [w64_small (by omega) (by omega),show ((k : Int) - 1) = ((k - 1 : Nat) : Int) by omega]
        have hk1 : k - 1 < c.length := by omega
        refine ev_bind (idx_lt hk1) (ev_call (compareSimplices_ret _ _ (sm_get hc hk1)) ?_)
        by_cases hcm : cmpS c[k - 1] c[k] < 0
        · simp only [show decide (cmpS c[k - 1] c[k] ≥ 0) = false from decide_eq_false (by omega)]
          exact last fun _ => by rw [getD_lt hk1,getD_lt h2]; exact hcm
        · simp only [show decide (cmpS c[k - 1] c[k] ≥ 0) = true from decide_eq_true (by omega),Z7.j1_eq _ mk_ok,cond_true]
          (first | exact ev_rfl | exact Ev.of fun _ => trivial)
      · exact last fun h => absurd h (by omega)
  · simp only [Z7.l0_succ _ mk_ok]
    have hP' := hP
    obtain ⟨⟨hv,hcm⟩,hfc⟩ := hP'
    rw [getD_lt h2] at hv hfc
    refine ev_t (decide_eq_true (by omega)) (ev_bind (idx_lt h2) (ev_call (ValidSimplex_ret _ (sm_get hc h2)) (ev_f (by rw [pb_true hv]; rfl) ?_)))
    have last : Ev fun φ => Z7.j1 (mkR (run E (φ 0))) (φ 0) (φ 1) c[k] c (c.length : Int) (k : Int) false c (k : Int) = r := by
      simp only [Z7.j1_eq _ mk_ok,cond_false]
      refine ev_call (facesOf_ret _ (sm_get hc h2).1) (ev_call (hcon k h2 hpre) (ev_f ?_ ?_))
      · exact pb_false fun ⟨x,hx,hn⟩ => pb_iff.1 hn (hfc x hx)
      · rw [w64_succ (by omega)]; exact ih
    refine ev_d (fun hk => ?_) fun hk => last
    rw [w64_small (by omega) (by omega),show ((k : Int) - 1) = ((k - 1 : Nat) : Int) by omega]
    have hk1 : k - 1 < c.length := by omega
    have hcm := hcm (by omega)
    rw [getD_lt hk1,getD_lt h2] at hcm
    refine ev_bind (idx_lt hk1) (ev_call (compareSimplices_ret _ _ (sm_get hc hk1)) ?_)
    simp only [show decide (cmpS c[k - 1] c[k] ≥ 0) = false from decide_eq_false (by omega)]
    exact last
  · simp only [Z7.l0_succ _ mk_ok]
    exact ev_f (decide_eq_false (by omega)) (ev_some (by rw [Bool.true_and]))
  · have : (pb (∀ j,0 ≤ j → j < c.length → VCimpl c j) && decide ((c.length : Int) ≤ 48)) = pb (VC c) := eq_pb (by
      rw [Bool.and_eq_true,pb_iff,decide_eq_true_iff,← VC_impl]
      exact ⟨fun h => ⟨h.1,by omega⟩,fun h => ⟨h.1,by omega⟩⟩)
    rw [this]

def VCspec (c : List Sim) (k : Nat) : Prop := (Vx (c.getD k []) ∧ (1 ≤ k → cmpS (c.getD (k - 1) []) (c.getD k []) < 0)) ∧ ∀ f ∈ faces (c.getD k []),f ∈ c

theorem l05Ok_ret (c : Cpx) (hc : Sm yK c.1) : Ret E n_Z108 [dC c] ⟨o_Z108,(pb (VC c.1),())⟩ := by
  have hc1 : c.1.length ≤ 1048576 := hc.1
  refine ret_of ?_
  simp only [run_Z108,Z108.ev]
  refine ev_d (fun h => ev_some ?_) fun h48 => ?_
  · rw [pb_false fun hv => by have := hv.1; omega]
  refine Ev.start (p := fun φ n => Z108.l0 (mkR (run E (φ 0))) (φ 0) n c 0 = _) 1 ?_ (fun _ _ _ h => h)
  -- the inner loop
  have inner : ∀ (k : Nat) (h2 : k < c.1.length) (r : Option Dv),((∀ f ∈ faces c.1[k],f ∈ c.1) → Ev fun φ => Z108.l0 (mkR (run E (φ 0))) (φ 0) (φ 1) c ((k + 1 : Nat) : Int) = r) → (¬ (∀ f ∈ faces c.1[k],f ∈ c.1) → r = some ⟨o_Z108,(false,())⟩) → Ev fun φ => Z108.l2 (mkR (run E (φ 0))) (φ 0) (φ 1) (φ 0) c (k : Int) c.1[k] 0 = r := fun k h2 r hgo hstop => by
    have hks : (c.1[k]).length ≤ 1048576 := (sm_get hc h2).1
    refine Ev.start (p := fun φ n => Z108.l2 (mkR (run E (φ 0))) (φ 0) (φ 1) n c (k : Int) c.1[k] 0 = _) 2 ?_ (fun _ _ _ h => h)
    by_cases hlen : 1 < (c.1[k]).length
    · obtain ⟨t,f⟩ := all_loop 2 (L := fun φ n i => Z108.l2 (mkR (run E (φ 0))) (φ 0) (φ 1) n c (k : Int) c.1[k] i) (len := (c.1[k]).length) 0 (by omega) (fun i => (c.1[k]).eraseIdx i ∈ c.1) (rt := r) (rf := some ⟨o_Z108,(false,())⟩) (fun _ _ _ _ => rfl) (fun i _ hi hP _ => by
        simp only [Z108.l2_succ _ mk_ok]
        refine ev_t (decide_eq_true (by omega)) ?_
        simp only [show decide (((c.1[k]).length : Int) > 1) = true from decide_eq_true (by omega),Z108.j3_eq _ mk_ok,cond_true]
        refine ev_call (l05Drop_ret _ i hi hks) (ev_call (l05Find_ret c _ hc) (ev_t (decide_eq_true ?_) ev_rfl))
        have hq := mt (findI_nonneg (c := c.1) (s := (c.1[k]).eraseIdx i)).1 hP; simp only; exact Int.not_le.1 hq) (fun i q _ hi hP _ ih => by
        simp only [Z108.l2_succ _ mk_ok]
        refine ev_t (decide_eq_true (by omega)) ?_
        simp only [show decide (((c.1[k]).length : Int) > 1) = true from decide_eq_true (by omega),Z108.j3_eq _ mk_ok,cond_true]
        refine ev_call (l05Drop_ret _ i hi hks) (ev_call (l05Find_ret c _ hc) (ev_f (decide_eq_false ?_) ?_))
        · have hq := (findI_nonneg (c := c.1) (s := (c.1[k]).eraseIdx i)).2 hP; simp only; exact Int.not_lt.2 hq
        · rw [w64_succ (by omega)]; exact ih) (fun hall => by
        simp only [Z108.l2_succ _ mk_ok]
        refine ev_f (decide_eq_false (by omega)) ?_
        simp only [Z108.j3_eq _ mk_ok,cond_false]
        rw [w64_succ (by omega)]
        exact hgo fun f hf => by
          obtain ⟨_,i,hi,rfl⟩ := faces_mem.1 hf
          exact hall i (by omega) hi)
      by_cases hall : ∀ i,0 ≤ i → i < (c.1[k]).length → (c.1[k]).eraseIdx i ∈ c.1
      · exact t hall
      · rw [hstop fun hf => hall fun i _ hi => hf _ (faces_mem.2 ⟨hlen,i,hi,rfl⟩)]
        exact f hall
    · refine Ev.round 2 (L := fun φ n => Z108.l2 (mkR (run E (φ 0))) (φ 0) (φ 1) n c (k : Int) c.1[k] 0) ?_ (fun _ _ _ => rfl)
      have hgo := hgo fun f hf => absurd (faces_mem.1 hf).1 hlen
      have hj : Ev fun φ => Z108.j3 (mkR (run E (φ 0))) (φ 0) (φ 1) (φ 2) c (k : Int) c.1[k] 0 false = r := by
        simp only [Z108.j3_eq _ mk_ok,cond_false]
        rw [w64_succ (by omega)]; exact hgo
      simp only [Z108.l2_succ _ mk_ok]
      refine ev_d (fun _ => ?_) fun _ => hj
      simp only [show decide (((c.1[k]).length : Int) > 1) = false from decide_eq_false (by omega)]
      exact hj
  refine (all_pb 1 (L := fun φ n k => Z108.l0 (mkR (run E (φ 0))) (φ 0) n c k) (len := c.1.length) 0 (by omega) (VCspec c.1) (fun b => some ⟨o_Z108,(b,())⟩) (fun _ _ _ _ => rfl) (fun k h1 h2 hP hpre => ?_) (fun k r h1 h2 hP hpre ih => ?_) (fun _ => ?_)).to ?_
  · simp only [Z108.l0_succ _ mk_ok]
    refine ev_t (decide_eq_true (by omega)) (ev_bind (idx_lt h2) (ev_call (l05Simplex_ret _ (sm_get hc h2)) ?_))
    refine ev_b (fun hv => ?_) fun hv => ?_
    · simp only [Z108.j1_eq _ mk_ok,cond_true]; (first | exact ev_rfl | exact Ev.of fun _ => trivial)
    · have hv : Vx c.1[k] := pb_iff.1 (by simpa using hv)
      have last : (1 ≤ k → cmpS (c.1.getD (k - 1) []) (c.1.getD k []) < 0) → Ev fun φ => Z108.j1 (mkR (run E (φ 0))) (φ 0) (φ 1) c (k : Int) c.1[k] false = some ⟨o_Z108,(false,())⟩ := fun hcm => by
        simp only [Z108.j1_eq _ mk_ok,cond_false]
        refine inner k h2 _ (fun hf => absurd ⟨⟨by rw [getD_lt h2]; exact hv,hcm⟩,by rw [getD_lt h2]; exact hf⟩ hP) fun _ => rfl
      refine ev_d (fun hk => ?_) fun hk => ?_
      · rw [w64_small (by omega) (by omega),show ((k : Int) - 1) = ((k - 1 : Nat) : Int) by omega]
        have hk1 : k - 1 < c.1.length := by omega
        refine ev_bind (idx_lt hk1) (ev_call (l05Before_ret _ _ (sm_get hc hk1)) ?_)
        by_cases hcm : cmpS c.1[k - 1] c.1[k] < 0
        · simp only [pb_true hcm]
          exact last fun _ => by rw [getD_lt hk1,getD_lt h2]; exact hcm
        · simp only [pb_false hcm,Z108.j1_eq _ mk_ok,cond_true,Bool.not_false]
          (first | exact ev_rfl | exact Ev.of fun _ => trivial)
      · exact last fun h => absurd h (by omega)
  · simp only [Z108.l0_succ _ mk_ok]
    obtain ⟨⟨hv,hcm⟩,hfc⟩ := hP
    rw [getD_lt h2] at hv hfc
    refine ev_t (decide_eq_true (by omega)) (ev_bind (idx_lt h2) (ev_call (l05Simplex_ret _ (sm_get hc h2)) (ev_f (by rw [pb_true hv]; rfl) ?_)))
    have last : Ev fun φ => Z108.j1 (mkR (run E (φ 0))) (φ 0) (φ 1) c (k : Int) c.1[k] false = r := by
      simp only [Z108.j1_eq _ mk_ok,cond_false]
      exact inner k h2 _ (fun _ => ih) fun hn => absurd hfc hn
    refine ev_d (fun hk => ?_) fun hk => last
    rw [w64_small (by omega) (by omega),show ((k : Int) - 1) = ((k - 1 : Nat) : Int) by omega]
    have hk1 : k - 1 < c.1.length := by omega
    have hcm := hcm (by omega)
    rw [getD_lt hk1,getD_lt h2] at hcm
    refine ev_bind (idx_lt hk1) (ev_call (l05Before_ret _ _ (sm_get hc hk1)) ?_)
    simp only [pb_true hcm,Bool.not_true]
    exact last
  · simp only [Z108.l0_succ _ mk_ok]
    exact ev_f (decide_eq_false (by omega)) ev_rfl
  · have : pb (∀ j,0 ≤ j → j < c.1.length → VCspec c.1 j) = pb (VC c.1) := pb_congr
      ⟨fun h => ⟨by omega,fun k hk => (h k (by omega) hk).1.1,fun k h1 hk => (h k (by omega) hk).1.2 h1,fun k hk => (h k (by omega) hk).2⟩,
       fun h k _ hk => ⟨⟨h.2.1 k hk,fun h1 => h.2.2.1 k h1 hk⟩,h.2.2.2 k hk⟩⟩
    rw [this]

end VeT

open Go Go.Proofs Ve
set_option linter.unusedVariables false
set_option linter.unusedSimpArgs false
namespace VeT

/-- primes up to 251 -/
def Pr (p : Int) : Prop := 2 ≤ p ∧ p ≤ 251 ∧ ∀ k : Nat,2 ≤ k → (k : Int) * k ≤ p → p % k ≠ 0

theorem ValidPrime_ret (p : Int) : Ret E n_Z10 [dI p] ⟨o_Z10,(pb (Pr p),())⟩ := by
  refine ret_of ?_
  simp only [run_Z10,Z10.ev]
  refine ev_call (within_ret _ _ _) (ev_b (fun h => ev_some ?_) fun h => ?_)
  · have h : ¬ (2 ≤ p ∧ p ≤ 251) := pb_not.1 (by simpa using h)
    rw [pb_false fun hp => h ⟨hp.1,hp.2.1⟩]
  have hr : 2 ≤ p ∧ p ≤ 251 := pb_iff.1 (by simpa using h)
  refine Ev.start (p := fun φ n => Z10.l0 (mkR (run E (φ 0))) (φ 0) n p 2 = _) 1 ?_ (fun _ _ _ h => h)
  refine loopR 1 (σ := Nat) (L := fun φ n k => Z10.l0 (mkR (run E (φ 0))) (φ 0) n p (k : Int)) (fun _ _ _ _ => rfl) (fun k => 2 ≤ k ∧ k ≤ 17 ∧ ∀ j : Nat,2 ≤ j → j < k → (j : Int) * j ≤ p → p % j ≠ 0) (fun _ => _) (fun k => 17 - k) (fun k ⟨h1,h2,h3⟩ ih => ?_) 2 ⟨by omega,by omega,fun j _ _ => by omega⟩
  simp only [Z10.l0_succ _ mk_ok]
  have hkk : 0 ≤ (k : Int) * k ∧ (k : Int) * k ≤ 289 := ⟨Int.mul_nonneg (by omega) (by omega),by have := Nat.mul_le_mul h2 h2; omega⟩
  have e : w64 ((k : Int) * k) = (k : Int) * k := w64_small (by omega) (by omega)
  simp only [e]
  refine ev_d (fun hle => ?_) fun hle => ev_some ?_
  · have hk16 : k < 16 := Classical.byContradiction fun hn => by
      have := Nat.mul_le_mul (show 16 ≤ k by omega) (show 16 ≤ k by omega); omega
    refine ev_chk (by simp; omega) ?_
    rw [Int.tmod_eq_emod_of_nonneg (by omega)]
    refine ev_b (fun h0 => ev_some ?_) fun h0 => ?_
    · rw [pb_false fun hp => hp.2.2 k h1 hle (by simpa using h0)]
    · rw [w64_succ (by omega)]
      refine ih (k + 1) ⟨by omega,by omega,fun j hj1 hj2 hj3 => ?_⟩ (by show 17 - (k + 1) < 17 - k; omega)
      by_cases hjk : j = k
      · subst hjk; simpa using h0
      · exact h3 j hj1 (by omega) hj3
  · rw [pb_true]
    refine ⟨hr.1,hr.2,fun j hj1 hj2 => ?_⟩
    by_cases hjk : j < k
    · exact h3 j hj1 hjk hj2
    · exfalso
      have := Nat.mul_le_mul (show k ≤ j by omega) (show k ≤ j by omega); omega

theorem l02Prime_ret (p : Int) : Ret E n_Z99 [dI p] ⟨o_Z99,(pb (Pr p),())⟩ := by
  refine ret_of ?_
  simp only [run_Z99,Z99.ev]
  refine ev_call (l00In_ret _ _ _) (ev_b (fun h => ev_some ?_) fun h => ?_)
  · have h : ¬ (2 ≤ p ∧ p ≤ 251) := pb_not.1 (by simpa using h)
    rw [pb_false fun hp => h ⟨hp.1,hp.2.1⟩]
  have hr : 2 ≤ p ∧ p ≤ 251 := pb_iff.1 (by simpa using h)
  refine Ev.start (p := fun φ n => Z99.l0 (mkR (run E (φ 0))) (φ 0) n p 2 = _) 1 ?_ (fun _ _ _ h => h)
  refine loopR 1 (σ := Nat) (L := fun φ n k => Z99.l0 (mkR (run E (φ 0))) (φ 0) n p (k : Int)) (fun _ _ _ _ => rfl) (fun k => 2 ≤ k ∧ k ≤ 17 ∧ ∀ j : Nat,2 ≤ j → j < k → (j : Int) * j ≤ p → p % j ≠ 0) (fun _ => _) (fun k => 17 - k) (fun k ⟨h1,h2,h3⟩ ih => ?_) 2 ⟨by omega,by omega,fun j _ _ => by omega⟩
  simp only [Z99.l0_succ _ mk_ok]
  have hkk : 0 ≤ (k : Int) * k ∧ (k : Int) * k ≤ 289 := ⟨Int.mul_nonneg (by omega) (by omega),by have := Nat.mul_le_mul h2 h2; omega⟩
  have e : w64 ((k : Int) * k) = (k : Int) * k := w64_small (by omega) (by omega)
  simp only [e]
  refine ev_d (fun hle => ?_) fun hle => ev_some ?_
  · have hk16 : k < 16 := Classical.byContradiction fun hn => by
      have := Nat.mul_le_mul (show 16 ≤ k by omega) (show 16 ≤ k by omega); omega
    refine ev_chk (by simp; omega) ?_
    rw [Int.tmod_eq_emod_of_nonneg (by omega)]
    refine ev_b (fun h0 => ev_some ?_) fun h0 => ?_
    · rw [pb_false fun hp => hp.2.2 k h1 hle (by simpa using h0)]
    · rw [w64_succ (by omega)]
      refine ih (k + 1) ⟨by omega,by omega,fun j hj1 hj2 hj3 => ?_⟩ (by show 17 - (k + 1) < 17 - k; omega)
      by_cases hjk : j = k
      · subst hjk; simpa using h0
      · exact h3 j hj1 (by omega) hj3
  · rw [pb_true]
    refine ⟨hr.1,hr.2,fun j hj1 hj2 => ?_⟩
    by_cases hjk : j < k
    · exact h3 j hj1 hjk hj2
    · exfalso
      have := Nat.mul_le_mul (show k ≤ j by omega) (show k ≤ j by omega); omega

theorem specValidPrime_ret (p : Int) : Ret E n_Z94 [dI p] ⟨o_Z94,(pb (Pr p),())⟩ := by
  refine ret_of ?_
  simp only [run_Z94,Z94.ev]
  exact ev_call (l02Prime_ret p) ev_rfl

/-! matrices -/
def Elems (v : Sim) (p : Int) : Prop := ∀ x ∈ v,0 ≤ x ∧ x ≤ p - 1

theorem isElement_ret (a p : Int) (hp : 0 ≤ p ∧ p ≤ 1048576) : Ret E n_Z29 [dI a,dI p] ⟨o_Z29,(pb (0 ≤ a ∧ a ≤ p - 1),())⟩ := by
  refine ret_of ?_
  simp only [run_Z29,Z29.ev]
  rw [w64_small (by omega) (by omega)]
  exact ev_call (within_ret _ _ _) ev_rfl

theorem areElements_1_ret (a p : Int) (hp : 0 ≤ p ∧ p ≤ 1048576) : Ret E n_Z15 [dI a,⟨.ptr (.cons yI .nil),(p,())⟩] ⟨o_Z15,(!pb (0 ≤ a ∧ a ≤ p - 1),())⟩ := by
  refine ret_of ?_
  simp only [run_Z15,Z15.ev]
  exact ev_call (isElement_ret _ _ hp) ev_rfl

theorem none_bad {α : Type} {s : List α} {P : α → Prop} : (!pb (∃ x ∈ s,(!pb (P x)) = true)) = pb (∀ x ∈ s,P x) := eq_pb (by
  simp only [Bool.not_eq_true',pb_not]
  exact ⟨fun h x hx => Classical.byContradiction fun hn => h ⟨x,hx,hn⟩,fun h ⟨x,hx,hn⟩ => hn (h x hx)⟩)

theorem areElements_ret (v : Sim) (p : Int) (hv : v.length ≤ 1048576) (hp : 0 ≤ p ∧ p ≤ 1048576) : Ret E n_Z14 [dL v,dI p] ⟨o_Z14,(pb (Elems v p),())⟩ := by
  refine ret_of ?_
  simp only [run_Z14,Z14.ev]
  refine ev_call (ContainsFunc_Sint64_int64_impl_areElements_1_ret v ((p,()),()) _ hv fun x _ => areElements_1_ret x p hp) (ev_some ?_)
  simp only [none_bad]; rfl

theorem l03Column_ret (v : Sim) (n p : Int) (hv : v.length ≤ 1048576) (hp : 0 ≤ p ∧ p ≤ 1048576) : Ret E n_Z100 [dL v,dI n,dI p] ⟨o_Z100,(pb (Elems v p ∧ (v.length : Int) = n),())⟩ := by
  have e : w64 (p - 1) = p - 1 := w64_small (by omega) (by omega)
  refine ret_of ?_
  simp only [run_Z100,Z100.ev]
  refine Ev.start (p := fun φ n' => Z100.l0 (mkR (run E (φ 0))) (φ 0) n' v n p 0 = _) 1 ?_ (fun _ _ _ h => h)
  refine (all_pb 1 (L := fun φ n' k => Z100.l0 (mkR (run E (φ 0))) (φ 0) n' v n p k) (len := v.length) 0 (by omega) (fun j => 0 ≤ v.getD j 0 ∧ v.getD j 0 ≤ p - 1) (fun b => some ⟨o_Z100,(b && ((v.length : Int) == n),())⟩) (fun _ _ _ _ => rfl) (fun k h1 h2 hP _ => ?_) (fun k r h1 h2 hP _ ih => ?_) (fun _ => ?_)).to ?_
  · simp only [Z100.l0_succ _ mk_ok,e]
    rw [getD_lt h2] at hP
    exact ev_t (decide_eq_true (by omega)) (ev_bind (idx_lt h2) (ev_call (l00In_ret _ _ _) (ev_t (by rw [pb_false hP]; rfl) ev_rfl)))
  · simp only [Z100.l0_succ _ mk_ok,e]
    rw [getD_lt h2] at hP
    refine ev_t (decide_eq_true (by omega)) (ev_bind (idx_lt h2) (ev_call (l00In_ret _ _ _) (ev_f (by rw [pb_true hP]; rfl) ?_)))
    rw [w64_succ (by omega)]; exact ih
  · simp only [Z100.l0_succ _ mk_ok]
    exact ev_f (decide_eq_false (by omega)) (ev_some (by rw [Bool.true_and]))
  · have : (pb (∀ j,0 ≤ j → j < v.length → 0 ≤ v.getD j 0 ∧ v.getD j 0 ≤ p - 1) && ((v.length : Int) == n)) = pb (Elems v p ∧ (v.length : Int) = n) := eq_pb (by
      rw [Bool.and_eq_true,pb_iff,beq_iff_eq]
      refine and_congr_left' ⟨fun h x hx => ?_,fun h j _ hj => ?_⟩
      · obtain ⟨j,hj,rfl⟩ := List.mem_iff_getElem.1 hx
        have := h j (by omega) hj
        rwa [getD_lt hj] at this
      · rw [getD_lt hj]; exact h _ (List.getElem_mem hj))
    rw [this]

theorem isSide_ret (n : Int) : Ret E n_Z32 [dI n] ⟨o_Z32,(pb (0 ≤ n ∧ n ≤ 32),())⟩ := by
  refine ret_of ?_
  simp only [run_Z32,Z32.ev]
  exact ev_call (within_ret _ _ _) ev_rfl

theorem sizeI_ret (s : Sim) : Ret E n_Z39 [dL s] ⟨o_Z39,((s.length : Int),())⟩ := by
  refine ret_of ?_
  simp only [run_Z39,Z39.ev]
  (first | exact ev_rfl | exact Ev.of fun _ => trivial)

theorem sizeL_ret (s : List Sim) : Ret E n_Z38 [dLL s] ⟨o_Z38,((s.length : Int),())⟩ := by
  refine ret_of ?_
  simp only [run_Z38,Z38.ev]
  (first | exact ev_rfl | exact Ev.of fun _ => trivial)

/-- valid matrices -/
def VM (m : Mat) : Prop := Pr m.1 ∧ (0 ≤ m.2.1 ∧ m.2.1 ≤ 32) ∧ (0 ≤ m.2.2.1 ∧ m.2.2.1 ≤ 32) ∧ (m.2.2.2.1.length : Int) = m.2.1 * m.2.2.1 ∧ Elems m.2.2.2.1 m.1

theorem mul_side {a b : Int} (ha : 0 ≤ a ∧ a ≤ 32) (hb : 0 ≤ b ∧ b ≤ 32) : 0 ≤ a * b ∧ a * b ≤ 1024 := by
  obtain ⟨x,rfl⟩ := Int.eq_ofNat_of_zero_le ha.1
  obtain ⟨y,rfl⟩ := Int.eq_ofNat_of_zero_le hb.1
  have := Nat.mul_le_mul (show x ≤ 32 by omega) (show y ≤ 32 by omega)
  have e : (x : Int) * y = ((x * y : Nat) : Int) := by simp
  show 0 ≤ (x : Int) * y ∧ (x : Int) * y ≤ 1024
  rw [e]; omega

theorem ValidMatrix_ret (m : Mat) (hm : Sm (.st cM) m) : Ret E n_Z9 [dI m.1,dI m.2.1,dI m.2.2.1,dL m.2.2.2.1] ⟨o_Z9,(pb (VM m),())⟩ := by
  have hl : m.2.2.2.1.length ≤ 1048576 := hm.2.2.2.1.1
  refine ret_of ?_
  simp only [run_Z9,Z9.ev]
  refine ev_call (ValidPrime_ret _) (ev_b (fun h1 => ev_call (isSide_ret _) (ev_b (fun h2 => ev_call (isSide_ret _) (ev_b (fun h3 => ev_call (sizeI_ret _) (ev_b (fun h4 => ?_) fun h4 => ev_some ?_)) fun h3 => ev_some ?_)) fun h2 => ev_some ?_)) fun h1 => ev_some ?_)
  · have h1 := pb_iff.1 h1; have h2 := pb_iff.1 h2; have h3 := pb_iff.1 h3
    have := mul_side h2 h3
    rw [w64_small (by omega) (by omega)] at h4
    refine ev_call (areElements_ret _ _ hl ⟨by have := h1.1; omega,by have := h1.2.1; omega⟩) (ev_some ?_)
    exact congrArg (fun b : Bool => some (⟨o_Z9,(b,())⟩ : Dv)) (pb_congr ⟨fun h => ⟨h1,h2,h3,by simpa using h4,h⟩,fun h => h.2.2.2.2⟩)
  · have h2 := pb_iff.1 h2; have h3 := pb_iff.1 h3
    have := mul_side h2 h3
    rw [w64_small (by omega) (by omega)] at h4
    rw [pb_false fun h => by have := h.2.2.2.1; simp [this] at h4]
  · rw [pb_false fun h => pb_not.1 h3 h.2.2.1]
  · rw [pb_false fun h => pb_not.1 h2 h.2.1]
  · rw [pb_false fun h => pb_not.1 h1 h.1]

theorem l03Ok_ret (m : Mat) (hm : Sm (.st cM) m) : Ret E n_Z101 [dM m] ⟨o_Z101,(pb (VM m),())⟩ := by
  have hl : m.2.2.2.1.length ≤ 1048576 := hm.2.2.2.1.1
  refine ret_of ?_
  simp only [run_Z101,Z101.ev]
  refine ev_call (specValidPrime_ret _) (ev_b (fun h1 => ev_call (l00In_ret _ _ _) (ev_b (fun h2 => ev_call (l00In_ret _ _ _) (ev_b (fun h3 => ?_) fun h3 => ev_some ?_)) fun h2 => ev_some ?_)) fun h1 => ev_some ?_)
  · have h1 := pb_iff.1 h1; have h2 := pb_iff.1 h2; have h3 := pb_iff.1 h3
    have := mul_side h2 h3
    rw [w64_small (by omega) (by omega)]
    refine ev_call (l03Column_ret _ _ _ hl ⟨by have := h1.1; omega,by have := h1.2.1; omega⟩) (ev_some ?_)
    exact congrArg (fun b : Bool => some (⟨o_Z101,(b,())⟩ : Dv)) (pb_congr ⟨fun h => ⟨h1,h2,h3,h.2,h.1⟩,fun h => ⟨h.2.2.2.2,h.2.2.2.1⟩⟩)
  · rw [pb_false fun h => pb_not.1 h3 h.2.2.1]
  · rw [pb_false fun h => pb_not.1 h2 h.2.1]
  · rw [pb_false fun h => pb_not.1 h1 h.1]

def Bt (m : Mat) (p f t : Int) : Prop := VM m ∧ m.1 = p ∧ m.2.1 = t ∧ m.2.2.1 = f

theorem isBetween_ret (m : Mat) (p f t : Int) (hm : Sm (.st cM) m) : Ret E n_Z28 [dI m.1,dI m.2.1,dI m.2.2.1,dL m.2.2.2.1,dI p,dI f,dI t] ⟨o_Z28,(pb (Bt m p f t),())⟩ := by
  refine ret_of ?_
  simp only [run_Z28,Z28.ev]
  refine ev_call (ValidMatrix_ret m hm) (ev_b (fun h1 => ev_b (fun h2 => ev_b (fun h3 => ev_some ?_) fun h3 => ev_some ?_) fun h2 => ev_some ?_) fun h1 => ev_some ?_)
  · have h1 := pb_iff.1 h1
    have : (m.2.2.1 == f) = pb (Bt m p f t) := eq_pb (by
      rw [beq_iff_eq]; exact ⟨fun h => ⟨h1,by simpa using h2,by simpa using h3,h⟩,fun h => h.2.2.2⟩)
    rw [this]
  · rw [pb_false fun h => by have := h.2.2.1; simp [this] at h3]
  · rw [pb_false fun h => by have := h.2.1; simp [this] at h2]
  · rw [pb_false fun h => pb_not.1 h1 h.1]

/-! stalks -/
def ofDim (c : List Sim) (d : Int) (k : Nat) : List Int := ((List.range k).filter fun i => decide (((c.getD i []).length : Int) = d + 1)).map Int.ofNat

theorem ofDim_succ (c : List Sim) (d : Int) (k : Nat) : ofDim c d (k + 1) = ofDim c d k ++ if ((c.getD k []).length : Int) = d + 1 then [(k : Int)] else [] := by
  unfold ofDim
  rw [List.range_succ,List.filter_append,List.map_append]
  congr 1
  by_cases h : ((c.getD k []).length : Int) = d + 1
  · rw [if_pos h,List.filter_cons_of_pos (by simpa using h)]; rfl
  · rw [if_neg h,List.filter_cons_of_neg (by simpa using h)]; rfl

theorem ofDim_length (c : List Sim) (d : Int) (k : Nat) : (ofDim c d k).length ≤ k := by
  unfold ofDim
  rw [List.length_map]
  exact Nat.le_trans (List.length_filter_le _ _) (by simp)

theorem ofDim_mem {c : List Sim} {d : Int} {k : Nat} {x : Int} (h : x ∈ ofDim c d k) : ∃ i : Nat,x = i ∧ i < k := by
  unfold ofDim at h
  rw [List.mem_map] at h
  obtain ⟨i,hi,rfl⟩ := h
  exact ⟨i,rfl,by have := (List.mem_filter.1 hi).1; simpa using this⟩

theorem simplicesOf_ret (c : List Sim) (d : Int) (hc : Sm yK c) (hd : -1 ≤ d ∧ d ≤ 1048576) : Ret E n_Z37 [dLL c,dI d] ⟨o_Z37,(ofDim c d c.length,())⟩ := by
  have hc1 : c.length ≤ 1048576 := hc.1
  have hd1 : w64 (d + 1) = d + 1 := w64_small (by omega) (by omega)
  refine ret_of ?_
  simp only [run_Z37,Z37.ev]
  refine Ev.start (p := fun φ n => Z37.l0 (mkR (run E (φ 0))) (φ 0) n d c (c.length : Int) 0 [] = _) 1 ?_ (fun _ _ _ h => h)
  refine fold_loop 1 (L := fun φ n k a => Z37.l0 (mkR (run E (φ 0))) (φ 0) n d c (c.length : Int) k a) (len := c.length) (fun k => ofDim c d k) (fun _ _ _ _ _ => rfl) (fun k r hk ih => ?_) ?_
  · simp only [Z37.l0_succ _ mk_ok,hd1]
    rw [ofDim_succ,getD_lt hk] at ih
    have hlen := ofDim_length c d k
    refine ev_t (decide_eq_true (by omega)) (ev_bind (idx_lt hk) (ev_call (sizeI_ret _) ?_))
    rw [w64_succ (by omega)]
    refine ev_b (fun he => ev_chk (decide_eq_true (by simp only [List.length_cons,List.length_nil]; omega)) ?_) fun he => ?_
    · rw [if_pos (by simpa using he)] at ih; exact ih
    · rw [if_neg (by simpa using he),List.append_nil] at ih; exact ih
  · simp only [Z37.l0_succ _ mk_ok]
    exact ev_f (decide_eq_false (by omega)) ev_rfl

theorem l05Of_ret (c : List Sim) (d : Int) (hc : Sm yK c) (hd : -1 ≤ d ∧ d ≤ 1048576) : Ret E n_Z107 [dC (c,()),dI d] ⟨o_Z107,(ofDim c d c.length,())⟩ := by
  have hc1 : c.length ≤ 1048576 := hc.1
  have hd1 : w64 (d + 1) = d + 1 := w64_small (by omega) (by omega)
  refine ret_of ?_
  simp only [run_Z107,Z107.ev]
  refine Ev.start (p := fun φ n => Z107.l0 (mkR (run E (φ 0))) (φ 0) n (c,()) d 0 [] = _) 1 ?_ (fun _ _ _ h => h)
  refine fold_loop 1 (L := fun φ n k a => Z107.l0 (mkR (run E (φ 0))) (φ 0) n (c,()) d k a) (len := c.length) (fun k => ofDim c d k) (fun _ _ _ _ _ => rfl) (fun k r hk ih => ?_) ?_
  · simp only [Z107.l0_succ _ mk_ok,hd1]
    rw [ofDim_succ,getD_lt hk] at ih
    have hlen := ofDim_length c d k
    refine ev_t (decide_eq_true (by omega)) (ev_bind (idx_lt hk) ?_)
    rw [w64_succ (by omega)]
    refine ev_b (fun he => ev_chk (decide_eq_true (by simp only [List.length_cons,List.length_nil]; omega)) ?_) fun he => ?_
    · rw [if_pos (by simpa using he)] at ih; exact ih
    · rw [if_neg (by simpa using he),List.append_nil] at ih; exact ih
  · simp only [Z107.l0_succ _ mk_ok]
    exact ev_f (decide_eq_false (by omega)) ev_rfl

/-- the sum of the stalks of a dimension -/
def sumD (c : List Sim) (st : Sim) (d : Int) (k : Nat) : Int := (((ofDim c d c.length).take k).map fun i => st.getD i.toNat 0).sum

theorem sumD_succ (c : List Sim) (st : Sim) (d : Int) (k : Nat) (h : k < (ofDim c d c.length).length) : sumD c st d (k + 1) = sumD c st d k + st.getD ((ofDim c d c.length)[k]).toNat 0 := by
  unfold sumD
  rw [List.take_succ_eq_append_getElem h,List.map_append,List.sum_append]
  simp

theorem sumD_le {c : List Sim} {st : Sim} (hst : ∀ x ∈ st,0 ≤ x ∧ x ≤ 3) (d : Int) (k : Nat) : 0 ≤ sumD c st d k ∧ sumD c st d k ≤ 3 * k := by
  induction k with
  | zero => simp [sumD]
  | succ k ih =>
    by_cases h : k < (ofDim c d c.length).length
    · rw [sumD_succ _ _ _ _ h]
      have : 0 ≤ st.getD ((ofDim c d c.length)[k]).toNat 0 ∧ st.getD ((ofDim c d c.length)[k]).toNat 0 ≤ 3 := by
        by_cases hl : ((ofDim c d c.length)[k]).toNat < st.length
        · rw [getD_lt hl]; exact hst _ (List.getElem_mem hl)
        · rw [List.getD_eq_getElem?_getD,List.getElem?_eq_none (by omega)]; simp
      omega
    · have : sumD c st d (k + 1) = sumD c st d k := by
        unfold sumD
        rw [List.take_of_length_le (by omega),List.take_of_length_le (by omega)]
      omega

theorem stalkSum_ret (c : List Sim) (st : Sim) (d : Int) (p : Int) (ms : List Mat) (hc : Sm yK c) (hl : st.length = c.length) (hst : ∀ x ∈ st,0 ≤ x ∧ x ≤ 3) (hd : -1 ≤ d ∧ d ≤ 1048576) :
    Ret E n_Z40 [dLL c,dI p,dL st,dMs ms,dI d] ⟨o_Z40,(sumD c st d (ofDim c d c.length).length,())⟩ := by
  have hc1 : c.length ≤ 1048576 := hc.1
  have hol := ofDim_length c d c.length
  refine ret_of ?_
  simp only [run_Z40,Z40.ev]
  refine ev_call (simplicesOf_ret c d hc hd) ?_
  refine Ev.start (p := fun φ n => Z40.l0 (mkR (run E (φ 0))) (φ 0) n 0 (ofDim c d c.length) ((ofDim c d c.length).length : Int) 0 c p st ms = _) 1 ?_ (fun _ _ _ h => h)
  refine fold_loop 1 (L := fun φ n k a => Z40.l0 (mkR (run E (φ 0))) (φ 0) n a (ofDim c d c.length) ((ofDim c d c.length).length : Int) k c p st ms) (len := (ofDim c d c.length).length) (fun k => sumD c st d k) (fun _ _ _ _ _ => rfl) (fun k r hk ih => ?_) ?_
  · simp only [Z40.l0_succ _ mk_ok]
    obtain ⟨i,hi,hik⟩ := ofDim_mem (List.getElem_mem hk)
    rw [sumD_succ _ _ _ _ hk,hi,Int.toNat_natCast,getD_lt (by omega)] at ih
    have hb := sumD_le hst d k (c := c)
    have hb2 := hst _ (List.getElem_mem (show i < st.length by omega))
    refine ev_t (decide_eq_true (by omega)) (ev_bind (idx_lt hk) ?_)
    simp only [hi]
    refine ev_bind (idx_lt (by omega)) ?_
    rw [w64_succ (by omega),w64_small (by omega) (by omega)]
    exact ih
  · simp only [Z40.l0_succ _ mk_ok]
    exact ev_f (decide_eq_false (by omega)) ev_rfl

theorem l09Sum_ret (c : List Sim) (st : Sim) (d : Int) (hc : Sm yK c) (hl : st.length = c.length) (hst : ∀ x ∈ st,0 ≤ x ∧ x ≤ 3) (hd : -1 ≤ d ∧ d ≤ 1048576) :
    Ret E n_Z119 [dC (c,()),dL st,dI d] ⟨o_Z119,(sumD c st d (ofDim c d c.length).length,())⟩ := by
  have hc1 : c.length ≤ 1048576 := hc.1
  have hol := ofDim_length c d c.length
  refine ret_of ?_
  simp only [run_Z119,Z119.ev]
  refine ev_call (l05Of_ret c d hc hd) ?_
  refine Ev.start (p := fun φ n => Z119.l0 (mkR (run E (φ 0))) (φ 0) n st (ofDim c d c.length) 0 0 = _) 1 ?_ (fun _ _ _ h => h)
  refine fold_loop 1 (L := fun φ n k a => Z119.l0 (mkR (run E (φ 0))) (φ 0) n st (ofDim c d c.length) a k) (len := (ofDim c d c.length).length) (fun k => sumD c st d k) (fun _ _ _ _ _ => rfl) (fun k r hk ih => ?_) ?_
  · simp only [Z119.l0_succ _ mk_ok]
    obtain ⟨i,hi,hik⟩ := ofDim_mem (List.getElem_mem hk)
    rw [sumD_succ _ _ _ _ hk,hi,Int.toNat_natCast,getD_lt (by omega)] at ih
    have hb := sumD_le hst d k (c := c)
    have hb2 := hst _ (List.getElem_mem (show i < st.length by omega))
    refine ev_t (decide_eq_true (by omega)) (ev_bind (idx_lt hk) ?_)
    simp only [hi]
    refine ev_bind (idx_lt (by omega)) ?_
    rw [w64_succ (by omega),w64_small (by omega) (by omega)]
    exact ih
  · simp only [Z119.l0_succ _ mk_ok]
    exact ev_f (decide_eq_false (by omega)) ev_rfl

end VeT

open Go Go.Proofs Ve
set_option linter.unusedVariables false
set_option linter.unusedSimpArgs false
namespace VeT

/-- the sum of a dimension's stalks -/
def SD (c : List Sim) (st : Sim) (d : Int) : Int := sumD c st d (ofDim c d c.length).length

/-- stalks -/
def SK (c : List Sim) (st : Sim) : Prop := st.length = c.length ∧ (∀ x ∈ st,0 ≤ x ∧ x ≤ 3) ∧ ∀ d : Nat,d < 4 → SD c st (d : Int) ≤ 32

theorem areStalks_1_ret (n : Int) : Ret E n_Z17 [dI n] ⟨o_Z17,(!pb (0 ≤ n ∧ n ≤ 3),())⟩ := by
  refine ret_of ?_
  simp only [run_Z17,Z17.ev]
  exact ev_call (within_ret _ _ _) ev_rfl

theorem areStalks_ret (c : List Sim) (st : Sim) (hc : Sm yK c) (hs : st.length ≤ 1048576) : Ret E n_Z16 [dLL c,dL st] ⟨o_Z16,(pb (SK c st),())⟩ := by
  refine ret_of ?_
  simp only [run_Z16,Z16.ev]
  refine ev_b (fun h => ?_) fun h => ?_
  · simp only [Z16.j0_eq _ mk_ok,cond_true]
    have h : ¬ (st.length : Int) = c.length := by simpa using h
    rw [pb_false fun hk => h (by rw [hk.1])]; (first | exact ev_rfl | exact Ev.of fun _ => trivial)
  have hl : st.length = c.length := by have : (st.length : Int) = c.length := by simpa using h
                                       omega
  refine ev_call (ContainsFunc_Sint64_int64_impl_areStalks_1_ret st _ hs fun x _ => areStalks_1_ret x) ?_
  simp only [Z16.j0_eq _ mk_ok]
  have e := none_bad (s := st) (P := fun x => 0 ≤ x ∧ x ≤ 3)
  refine ev_b (fun h => ?_) fun h => ?_
  · simp only [h] at e
    rw [pb_false fun hk => pb_not.1 e.symm hk.2.1]; (first | exact ev_rfl | exact Ev.of fun _ => trivial)
  · simp only [h] at e
    have hst : ∀ x ∈ st,0 ≤ x ∧ x ≤ 3 := pb_iff.1 e.symm
    refine Ev.start (p := fun φ n => Z16.l1 (mkR (run E (φ 0))) (φ 0) n st 0 c = _) 1 ?_ (fun _ _ _ h => h)
    refine (all_pb 1 (L := fun φ n k => Z16.l1 (mkR (run E (φ 0))) (φ 0) n st k c) (len := 4) 0 (by omega) (fun d => SD c st (d : Int) ≤ 32) (fun b => some ⟨o_Z16,(b,())⟩) (fun _ _ _ _ => rfl) (fun k h1 h2 hP _ => ?_) (fun k r h1 h2 hP _ ih => ?_) (fun _ => ?_)).to ?_
    · simp only [Z16.l1_succ _ mk_ok]
      exact ev_t (decide_eq_true (by omega)) (ev_call (stalkSum_ret c st _ _ _ hc hl hst (by omega)) (ev_t (decide_eq_true (Int.not_le.1 hP)) ev_rfl))
    · simp only [Z16.l1_succ _ mk_ok]
      refine ev_t (decide_eq_true (by omega)) (ev_call (stalkSum_ret c st _ _ _ hc hl hst (by omega)) (ev_f (decide_eq_false (Int.not_lt.2 hP)) ?_))
      rw [w64_succ (by omega)]; exact ih
    · simp only [Z16.l1_succ _ mk_ok]
      exact ev_f (decide_eq_false (by omega)) ev_rfl
    · exact congrArg (fun b : Bool => some (⟨o_Z16,(b,())⟩ : Dv)) (pb_congr ⟨fun h => ⟨hl,hst,fun d hd => h d (by omega) hd⟩,fun h d _ hd => h.2.2 d hd⟩)

theorem l09Stalks_ret (c : List Sim) (st : Sim) (hc : Sm yK c) (hs : st.length ≤ 1048576) : Ret E n_Z118 [dC (c,()),dL st] ⟨o_Z118,(pb (SK c st),())⟩ := by
  refine ret_of ?_
  simp only [run_Z118,Z118.ev]
  refine ev_call (l03Column_ret st _ _ hs (by omega)) (ev_b (fun h => ?_) fun h => ?_)
  · have h := pb_not.1 (show pb (Elems st 4 ∧ (st.length : Int) = c.length) = false by simpa using h)
    rw [pb_false fun hk => h ⟨hk.2.1,by rw [hk.1]⟩]; (first | exact ev_rfl | exact Ev.of fun _ => trivial)
  · have h := pb_iff.1 (show pb (Elems st 4 ∧ (st.length : Int) = c.length) = true by simpa using h)
    have hl : st.length = c.length := by have := h.2; omega
    have hst : ∀ x ∈ st,0 ≤ x ∧ x ≤ 3 := h.1
    refine Ev.start (p := fun φ n => Z118.l0 (mkR (run E (φ 0))) (φ 0) n (c,()) st 0 = _) 1 ?_ (fun _ _ _ h => h)
    refine (all_pb 1 (L := fun φ n k => Z118.l0 (mkR (run E (φ 0))) (φ 0) n (c,()) st k) (len := 4) 0 (by omega) (fun d => SD c st (d : Int) ≤ 32) (fun b => some ⟨o_Z118,(b,())⟩) (fun _ _ _ _ => rfl) (fun k h1 h2 hP _ => ?_) (fun k r h1 h2 hP _ ih => ?_) (fun _ => ?_)).to ?_
    · simp only [Z118.l0_succ _ mk_ok]
      exact ev_t (decide_eq_true (by omega)) (ev_call (l09Sum_ret c st _ hc hl hst (by omega)) (ev_t (decide_eq_true (Int.not_le.1 hP)) ev_rfl))
    · simp only [Z118.l0_succ _ mk_ok]
      refine ev_t (decide_eq_true (by omega)) (ev_call (l09Sum_ret c st _ hc hl hst (by omega)) (ev_f (decide_eq_false (Int.not_lt.2 hP)) ?_))
      rw [w64_succ (by omega)]; exact ih
    · simp only [Z118.l0_succ _ mk_ok]
      exact ev_f (decide_eq_false (by omega)) ev_rfl
    · exact congrArg (fun b : Bool => some (⟨o_Z118,(b,())⟩ : Dv)) (pb_congr ⟨fun h => ⟨hl,hst,fun d hd => h d (by omega) hd⟩,fun h d _ hd => h.2.2 d hd⟩)

/-! faces' indices -/
noncomputable def fIdx (c : List Sim) (k : Nat) : List Int := (faces (c.getD k [])).map (findI c)

theorem findI_lt {c : List Sim} {s : Sim} : findI c s < c.length ∧ -1 ≤ findI c s := by
  unfold findI idxf
  cases h : c.findIdx? (fun x => pb (x = s)) with
  | none => simp only [o2i]; omega
  | some k =>
    rw [List.findIdx?_eq_some_iff_getElem] at h
    obtain ⟨h,_⟩ := h
    simp only [o2i]; omega

theorem fIdx_length {c : List Sim} {k : Nat} : (fIdx c k).length = if 1 < (c.getD k []).length then (c.getD k []).length else 0 := by
  unfold fIdx faces
  rw [List.length_map]
  split <;> simp

theorem fIdx_mem {c : List Sim} (h : VC c) {k : Nat} (hk : k < c.length) {x : Int} (hx : x ∈ fIdx c k) : 0 ≤ x ∧ x < c.length := by
  unfold fIdx at hx
  rw [List.mem_map] at hx
  obtain ⟨f,hf,rfl⟩ := hx
  exact ⟨findI_nonneg.2 (h.2.2.2 k hk f hf),findI_lt.1⟩

theorem faceIndices_ret (c : List Sim) (k : Nat) (hk : k < c.length) (hc : Sm yK c) (hs : Srt c) : Ret E n_Z23 [dLL c,dI (k : Int)] ⟨o_Z23,(fIdx c k,())⟩ := by
  have hks : (c[k]).length ≤ 1048576 := (sm_get hc hk).1
  have hfl := faces_length (s := c[k])
  refine ret_of ?_
  simp only [run_Z23,Z23.ev]
  refine ev_bind (idx_lt hk) (ev_call (facesOf_ret _ hks) ?_)
  refine Ev.start (p := fun φ n => Z23.l0 (mkR (run E (φ 0))) (φ 0) n (faces c[k]) ((faces c[k]).length : Int) 0 c [] = _) 1 ?_ (fun _ _ _ h => h)
  refine fold_loop 1 (L := fun φ n j a => Z23.l0 (mkR (run E (φ 0))) (φ 0) n (faces c[k]) ((faces c[k]).length : Int) j c a) (len := (faces c[k]).length) (fun j => ((faces c[k]).take j).map (findI c)) (fun _ _ _ _ _ => rfl) (fun j r hj ih => ?_) ?_
  · simp only [Z23.l0_succ _ mk_ok]
    rw [List.take_succ_eq_append_getElem hj,List.map_append] at ih
    refine ev_t (decide_eq_true (by omega)) (ev_bind (idx_lt hj) (ev_call (indexOf_ret c _ hc hs) (ev_chk (by simp; omega) ?_)))
    rw [w64_succ (by omega)]; exact ih
  · simp only [Z23.l0_succ _ mk_ok]
    refine ev_f (decide_eq_false (by omega)) (ev_some ?_)
    rw [List.take_of_length_le (Nat.le_refl _),fIdx,getD_lt hk]

theorem l05Faces_ret (c : List Sim) (k : Nat) (hk : k < c.length) (hc : Sm yK c) : Ret E n_Z105 [dC (c,()),dI (k : Int)] ⟨o_Z105,(fIdx c k,())⟩ := by
  have hks : (c[k]).length ≤ 1048576 := (sm_get hc hk).1
  refine ret_of ?_
  simp only [run_Z105,Z105.ev]
  refine ev_bind (idx_lt hk) ?_
  refine Ev.start (p := fun φ n => Z105.l0 (mkR (run E (φ 0))) (φ 0) n (c,()) c[k] 0 [] = _) 1 ?_ (fun _ _ _ h => h)
  by_cases hlen : 1 < (c[k]).length
  · refine fold_loop 1 (L := fun φ n j a => Z105.l0 (mkR (run E (φ 0))) (φ 0) n (c,()) c[k] j a) (len := (c[k]).length) (fun j => (List.range j).map fun i => findI c ((c[k]).eraseIdx i)) (fun _ _ _ _ _ => rfl) (fun j r hj ih => ?_) ?_
    · simp only [Z105.l0_succ _ mk_ok]
      rw [List.range_succ,List.map_append] at ih
      refine ev_t (decide_eq_true (by omega)) ?_
      simp only [show decide (((c[k]).length : Int) > 1) = true from decide_eq_true (by omega),Z105.j1_eq _ mk_ok,cond_true]
      refine ev_call (l05Drop_ret _ j hj hks) (ev_call (l05Find_ret (c,()) _ hc) (ev_chk (by simp; omega) ?_))
      rw [w64_succ (by omega)]; exact ih
    · simp only [Z105.l0_succ _ mk_ok]
      refine ev_f (decide_eq_false (by omega)) ?_
      simp only [Z105.j1_eq _ mk_ok,cond_false]
      refine ev_some ?_
      rw [fIdx,getD_lt hk,faces,if_pos hlen,List.map_map]; rfl
  · refine Ev.round 1 (L := fun φ n => Z105.l0 (mkR (run E (φ 0))) (φ 0) n (c,()) c[k] 0 []) ?_ (fun _ _ _ => rfl)
    have hj : Ev fun φ => Z105.j1 (mkR (run E (φ 0))) (φ 0) (φ 1) (c,()) c[k] 0 false [] = some ⟨o_Z105,(fIdx c k,())⟩ := by
      simp only [Z105.j1_eq _ mk_ok,cond_false]
      refine ev_some ?_
      rw [fIdx,getD_lt hk,faces,if_neg hlen]; rfl
    simp only [Z105.l0_succ _ mk_ok]
    refine ev_d (fun _ => ?_) fun _ => hj
    simp only [show decide (((c[k]).length : Int) > 1) = false from decide_eq_false (by omega)]
    exact hj

/-! arrows -/
abbrev Arw := Int × Int × Int × Unit
noncomputable def rowA (c : List Sim) (k i : Nat) : List Arw := (List.range i).map fun (j : Nat) => ((k : Int),(j : Int),(fIdx c k).getD j 0,())
noncomputable def arrs (c : List Sim) : Nat → List Arw
  | 0 => []
  | k + 1 => arrs c k ++ rowA c k (fIdx c k).length
noncomputable def plc (c : List Sim) (k : Nat) : Nat := (arrs c k).length

theorem rowA_length {c : List Sim} {k i : Nat} : (rowA c k i).length = i := by simp [rowA]

theorem plc_succ {c : List Sim} {k : Nat} : plc c (k + 1) = plc c k + (fIdx c k).length := by
  unfold plc; rw [arrs,List.length_append,rowA_length]

theorem VC.len4 {c : List Sim} (h : VC c) {k : Nat} (hk : k < c.length) : (c.getD k []).length ≤ 4 := (h.2.1 k hk).2.1

theorem VC.fIdx4 {c : List Sim} (h : VC c) {k : Nat} (hk : k < c.length) : (fIdx c k).length ≤ 4 := by
  have := h.len4 hk
  rw [fIdx_length]; split <;> omega

theorem VC.plc {c : List Sim} (h : VC c) : ∀ {k : Nat},k ≤ c.length → plc c k ≤ 4 * k
  | 0,_ => by simp [VeT.plc,arrs]
  | k + 1,hk => by
    have h1 := h.plc (k := k) (by omega)
    have h2 := h.fIdx4 (k := k) (by omega)
    rw [plc_succ]; omega

theorem arrs_get {c : List Sim} : ∀ {n k i : Nat},k < n → i < (fIdx c k).length → (arrs c n)[plc c k + i]? = some ((k : Int),(i : Int),(fIdx c k).getD i 0,())
  | 0,_,_,h,_ => by omega
  | n + 1,k,i,h,hi => by
    rw [arrs]
    by_cases hk : k < n
    · have := arrs_get hk hi
      have hl := (List.getElem?_eq_some_iff.1 this).1
      rw [List.getElem?_append_left hl]; exact this
    · obtain rfl : k = n := by omega
      rw [List.getElem?_append_right (by unfold plc; omega)]
      rw [show plc c k + i - (arrs c k).length = i by unfold plc; omega]
      simp [rowA,hi]

theorem arrs_ex {c : List Sim} : ∀ {n t : Nat},t < (arrs c n).length → ∃ k i,k < n ∧ i < (fIdx c k).length ∧ t = plc c k + i
  | 0,_,h => by simp [arrs] at h
  | n + 1,t,h => by
    by_cases ht : t < (arrs c n).length
    · obtain ⟨k,i,h1,h2,h3⟩ := arrs_ex ht
      exact ⟨k,i,by omega,h2,h3⟩
    · rw [arrs,List.length_append,rowA_length] at h
      exact ⟨n,t - (arrs c n).length,by omega,by omega,by unfold plc; omega⟩

theorem arrows_ret (c : List Sim) (hc : Sm yK c) (hv : VC c) : Ret E n_Z18 [dLL c] ⟨o_Z18,(arrs c c.length,())⟩ := by
  have hs := hv.srt
  have h48 := hv.1
  refine ret_of ?_
  simp only [run_Z18,Z18.ev]
  refine ev_call (sizeL_ret _) ?_
  refine Ev.start (p := fun φ n => Z18.l0 (mkR (run E (φ 0))) (φ 0) n (c.length : Int) 0 c [] = _) 1 ?_ (fun _ _ _ h => h)
  refine fold_loop 1 (L := fun φ n k a => Z18.l0 (mkR (run E (φ 0))) (φ 0) n (c.length : Int) k c a) (len := c.length) (fun k => arrs c k) (fun _ _ _ _ _ => rfl) (fun k r hk ih => ?_) ?_
  · simp only [Z18.l0_succ _ mk_ok]
    have hpl := hv.plc (k := k) (by omega)
    have hf4 := hv.fIdx4 hk
    refine ev_t (decide_eq_true (by omega)) (ev_call (faceIndices_ret c k hk hc hs) ?_)
    refine Ev.start (p := fun φ n => Z18.l1 (mkR (run E (φ 0))) (φ 0) (φ 1) n (k : Int) (c.length : Int) (k : Int) (fIdx c k) ((fIdx c k).length : Int) 0 c (arrs c k) = _) 2 ?_ (fun _ _ _ h => h)
    have := fold_loop 2 (L := fun φ n j a => Z18.l1 (mkR (run E (φ 0))) (φ 0) (φ 1) n (k : Int) (c.length : Int) (k : Int) (fIdx c k) ((fIdx c k).length : Int) j c a) (len := (fIdx c k).length) (fun j => arrs c k ++ rowA c k j) (r := r) (fun _ _ _ _ _ => rfl) (fun j r hj ih => ?_) ?_
    · simpa [rowA] using this
    · simp only [Z18.l1_succ _ mk_ok]
      refine ev_t (decide_eq_true (by omega)) (ev_bind (idx_lt hj) (ev_chk (decide_eq_true ?_) ?_))
      · rw [List.length_append,rowA_length]; show (_ + _ + 1) * 24 ≤ _
        have : (arrs c k).length = plc c k := rfl
        omega
      · rw [w64_succ (by omega)]
        have e : rowA c k (j + 1) = rowA c k j ++ [((k : Int),(j : Int),(fIdx c k)[j],())] := by
          unfold rowA; rw [List.range_succ,List.map_append]; simp [List.getD_eq_getElem?_getD,hj]
        rw [e,← List.append_assoc] at ih
        exact ih
    · simp only [Z18.l1_succ _ mk_ok]
      refine ev_f (decide_eq_false (by omega)) ?_
      rw [w64_succ (by omega)]; exact ih
  · simp only [Z18.l0_succ _ mk_ok]
    exact ev_f (decide_eq_false (by omega)) ev_rfl

theorem l09Place_ret (c : List Sim) (k i : Nat) (hk : k ≤ c.length) (hi : i ≤ 1048576) (hv : VC c) : Ret E n_Z117 [dC (c,()),dI (k : Int),dI (i : Int)] ⟨o_Z117,(((plc c k + i : Nat) : Int),())⟩ := by
  have h48 := hv.1
  refine ret_of ?_
  simp only [run_Z117,Z117.ev]
  refine Ev.start (p := fun φ n => Z117.l0 (mkR (run E (φ 0))) (φ 0) n (c,()) (k : Int) (i : Int) 0 0 = _) 1 ?_ (fun _ _ _ h => h)
  have := fold_loop 1 (L := fun φ n j a => Z117.l0 (mkR (run E (φ 0))) (φ 0) n (c,()) (k : Int) (i : Int) a j) (len := k) (fun j => ((plc c j : Nat) : Int)) (r := some ⟨o_Z117,(((plc c k + i : Nat) : Int),())⟩) (fun _ _ _ _ _ => rfl) (fun j r hj ih => ?_) ?_
  · exact this
  · simp only [Z117.l0_succ _ mk_ok]
    have hjc : j < c.length := by omega
    have hpl := hv.plc (k := j) (by omega)
    have h4 := hv.len4 hjc
    have e := plc_succ (c := c) (k := j)
    rw [fIdx_length] at e
    rw [getD_lt hjc] at e h4
    refine ev_t (decide_eq_true (by omega)) (ev_bind (idx_lt hjc) (ev_d (fun hl => ev_bind (idx_lt hjc) ?_) fun hl => ?_))
    · rw [if_pos (by omega)] at e
      rw [w64_succ (by omega),w64_small (by omega) (by omega)]
      rw [e] at ih
      simpa using ih
    · rw [if_neg (by omega)] at e
      rw [w64_succ (by omega)]
      rw [e] at ih; exact ih
  · simp only [Z117.l0_succ _ mk_ok]
    have hpl := hv.plc hk
    refine ev_f (decide_eq_false (by omega)) (ev_some ?_)
    rw [w64_small (by omega) (by omega)]
    simp

theorem l09Count_ret (c : List Sim) (hv : VC c) : Ret E n_Z111 [dC (c,())] ⟨o_Z111,(((plc c c.length : Nat) : Int),())⟩ := by
  refine ret_of ?_
  simp only [run_Z111,Z111.ev]
  exact ev_call (l09Place_ret c c.length 0 (Nat.le_refl _) (by omega) hv) ev_rfl

end VeT

open Go Go.Proofs Ve
set_option linter.unusedVariables false
set_option linter.unusedSimpArgs false
namespace VeT

def mz : Mat := (0,0,0,[],())
/-- the map at a face -/
def QB (p : Int) (st : Sim) (ms : List Mat) (t k : Nat) (f : Int) : Prop := Bt (ms.getD t mz) p (st.getD f.toNat 0) (st.getD k 0)

/-- valid sheaves -/
def VS (c : List Sim) (p : Int) (st : Sim) (ms : List Mat) : Prop := VC c ∧ Pr p ∧ SK c st ∧ plc c c.length = ms.length ∧ ∀ k,k < c.length → ∀ i,i < (fIdx c k).length → QB p st ms (plc c k + i) k ((fIdx c k).getD i 0)

def az : Arw := (0,0,0,())
/-- an arrow's map -/
def QA (p : Int) (st : Sim) (ms : List Mat) (t : Nat) (a : Arw) : Prop := t < ms.length ∧ Bt (ms.getD t mz) p (st.getD a.2.2.1.toNat 0) (st.getD a.1.toNat 0)

theorem VS_impl {c : List Sim} {p : Int} {st : Sim} {ms : List Mat} (hl : plc c c.length = ms.length) :
    (∀ t,0 ≤ t → t < plc c c.length → QA p st ms t ((arrs c c.length).getD t az)) ↔ ∀ k,k < c.length → ∀ i,i < (fIdx c k).length → QB p st ms (plc c k + i) k ((fIdx c k).getD i 0) := by
  constructor
  · intro h k hk i hi
    have hg := arrs_get hk hi
    have hlt := (List.getElem?_eq_some_iff.1 hg).1
    have := h (plc c k + i) (by omega) hlt
    rw [List.getD_eq_getElem?_getD,hg] at this
    exact this.2
  · intro h t _ ht
    obtain ⟨k,i,hk,hi,rfl⟩ := arrs_ex ht
    have hg := arrs_get hk hi
    have := h k hk i hi
    rw [List.getD_eq_getElem?_getD,hg]
    exact ⟨by omega,this⟩

theorem sm_mat {ms : List Mat} (h : Sm (.sl (.st cM)) ms) {t : Nat} (ht : t < ms.length) : Sm (.st cM) ms[t] := h.2 _ (List.getElem_mem ht)

theorem implValidSheaf_ret (c : List Sim) (p : Int) (st : Sim) (ms : List Mat) (hc : Sm yK c) (hst : st.length ≤ 1048576) (hm : Sm (.sl (.st cM)) ms) :
    Ret E n_Z11 [dLL c,dI p,dL st,dMs ms] ⟨o_Z11,(pb (VS c p st ms),())⟩ := by
  have hm1 : ms.length ≤ 1048576 := hm.1
  refine ret_of ?_
  simp only [run_Z11,Z11.ev]
  have no : ¬ VS c p st ms → Ev fun φ => Z11.j0 (mkR (run E (φ 0))) (φ 0) true c p st ms = some ⟨o_Z11,(pb (VS c p st ms),())⟩ := fun h => by
    simp only [Z11.j0_eq _ mk_ok,cond_true]
    rw [pb_false h]; (first | exact ev_rfl | exact Ev.of fun _ => trivial)
  refine ev_call (ValidComplex_ret c hc) (ev_b (fun h => no fun hv => pb_not.1 (show pb (VC c) = false by simpa using h) hv.1) fun h => ?_)
  have hv : VC c := pb_iff.1 (by simpa using h)
  refine ev_call (ValidPrime_ret p) (ev_b (fun h => no fun hv => pb_not.1 (show pb (Pr p) = false by simpa using h) hv.2.1) fun h => ?_)
  have hp : Pr p := pb_iff.1 (by simpa using h)
  refine ev_call (areStalks_ret c st hc hst) ?_
  by_cases hk : SK c st
  · simp only [pb_true hk,Bool.not_true,Z11.j0_eq _ mk_ok,cond_false]
    refine ev_call (arrows_ret c hc hv) ?_
    have hpl := hv.plc (Nat.le_refl _)
    have h48 := hv.1
    refine Ev.start (p := fun φ n => Z11.l1 (mkR (run E (φ 0))) (φ 0) n (arrs c c.length) (arrs c c.length) ((arrs c c.length).length : Int) 0 c p st ms = _) 1 ?_ (fun _ _ _ h => h)
    have get : ∀ t (ht : t < plc c c.length),∃ k i,k < c.length ∧ i < (fIdx c k).length ∧ (arrs c c.length)[t]? = some ((k : Int),(i : Int),(fIdx c k).getD i 0,()) ∧ ((fIdx c k).getD i 0).toNat < st.length ∧ 0 ≤ (fIdx c k).getD i 0 := fun t ht => by
      obtain ⟨k,i,hk',hi,rfl⟩ := arrs_ex ht
      have hb := fIdx_mem hv hk' (List.getElem_mem hi)
      exact ⟨k,i,hk',hi,arrs_get hk' hi,by rw [getD_lt hi,hk.1]; omega,by rw [getD_lt hi]; omega⟩
    refine (all_pb 1 (L := fun φ n t => Z11.l1 (mkR (run E (φ 0))) (φ 0) n (arrs c c.length) (arrs c c.length) ((arrs c c.length).length : Int) t c p st ms) (len := plc c c.length) 0 (by omega) (fun t => QA p st ms t ((arrs c c.length).getD t az)) (fun b => some ⟨o_Z11,(b && ((plc c c.length : Int) == (ms.length : Int)),())⟩) (fun _ _ _ _ => rfl) (fun t h1 h2 hP _ => ?_) (fun t r h1 h2 hP _ ih => ?_) (fun _ => ?_)).to ?_
    · simp only [Z11.l1_succ _ mk_ok]
      obtain ⟨k,i,hkc,hi,hg,hf,hf0⟩ := get t h2
      have hlt : t < (arrs c c.length).length := h2
      have hgt : (arrs c c.length)[t] = ((k : Int),(i : Int),(fIdx c k).getD i 0,()) := by
        rw [List.getElem?_eq_getElem hlt] at hg; exact Option.some.inj hg
      refine ev_t (decide_eq_true (by omega)) (ev_bind (idx_lt hlt) ?_)
      rw [getD_lt hlt] at hP
      rw [hgt] at hP ⊢
      refine ev_d (fun hge => ?_) fun hge => ?_
      · simp only [Z11.j2_eq _ mk_ok,cond_true]; (first | exact ev_rfl | exact Ev.of fun _ => trivial)
      · have htm : t < ms.length := by omega
        refine ev_bind (idx_lt htm) ?_
        simp only
        rw [show (fIdx c k).getD i 0 = ((((fIdx c k).getD i 0).toNat : Nat) : Int) by omega]
        refine ev_bind (idx_lt hf) (ev_bind (idx_lt (show k < st.length by rw [hk.1]; exact hkc)) (ev_call (isBetween_ret _ _ _ _ (sm_mat hm htm)) ?_))
        have : ¬ Bt ms[t] p st[((fIdx c k).getD i 0).toNat] (st[k]'(by rw [hk.1]; exact hkc)) := fun hb => hP ⟨htm,by
          simp only [Int.toNat_natCast]
          rw [getD_lt htm,getD_lt hf,getD_lt (s := st) (k := k) (by rw [hk.1]; exact hkc)]; exact hb⟩
        simp only [pb_false this,Bool.not_false,Z11.j2_eq _ mk_ok,cond_true]; (first | exact ev_rfl | exact Ev.of fun _ => trivial)
    · simp only [Z11.l1_succ _ mk_ok]
      obtain ⟨k,i,hkc,hi,hg,hf,hf0⟩ := get t h2
      have hlt : t < (arrs c c.length).length := h2
      have hgt : (arrs c c.length)[t] = ((k : Int),(i : Int),(fIdx c k).getD i 0,()) := by
        rw [List.getElem?_eq_getElem hlt] at hg; exact Option.some.inj hg
      refine ev_t (decide_eq_true (by omega)) (ev_bind (idx_lt hlt) ?_)
      rw [getD_lt hlt] at hP
      rw [hgt] at hP ⊢
      obtain ⟨htm,hb⟩ := hP
      refine ev_f (decide_eq_false (by omega)) (ev_bind (idx_lt htm) ?_)
      simp only
      rw [show (fIdx c k).getD i 0 = ((((fIdx c k).getD i 0).toNat : Nat) : Int) by omega]
      refine ev_bind (idx_lt hf) (ev_bind (idx_lt (show k < st.length by rw [hk.1]; exact hkc)) (ev_call (isBetween_ret _ _ _ _ (sm_mat hm htm)) ?_))
      simp only [Int.toNat_natCast] at hb
      rw [getD_lt htm,getD_lt hf,getD_lt (s := st) (k := k) (by rw [hk.1]; exact hkc)] at hb
      simp only [pb_true hb,Bool.not_true,Z11.j2_eq _ mk_ok,cond_false]
      rw [w64_succ (by omega)]; exact ih
    · simp only [Z11.l1_succ _ mk_ok]
      exact ev_f (decide_eq_false (by show ¬ ((plc c c.length : Nat) : Int) < ((plc c c.length : Nat) : Int); omega)) (ev_some (by rw [Bool.true_and]; rfl))
    · have : (pb (∀ t,0 ≤ t → t < plc c c.length → QA p st ms t ((arrs c c.length).getD t az)) && ((plc c c.length : Int) == (ms.length : Int))) = pb (VS c p st ms) := eq_pb (by
        rw [Bool.and_eq_true,pb_iff,beq_iff_eq]
        constructor
        · rintro ⟨h1,h2⟩
          have h2 : plc c c.length = ms.length := by omega
          exact ⟨hv,hp,hk,h2,(VS_impl h2).1 h1⟩
        · rintro ⟨_,_,_,h2,h1⟩
          exact ⟨(VS_impl h2).2 h1,by omega⟩)
      rw [this]
  · simp only [pb_false hk,Bool.not_false]
    exact no fun hv => hk hv.2.2.1

theorem l09Map_ret (x : Shf) (k i : Nat) (m : Mat) (hv : VC x.1) (hk : SK x.1 x.2.2.1) (hkc : k < x.1.length) (hi : i < (fIdx x.1 k).length) (hc : Sm yK x.1) (hm : Sm (.st cM) m) :
    Ret E n_Z113 [dS x,dI (k : Int),dI (i : Int),dM m] ⟨o_Z113,(pb (Bt m x.2.1 (x.2.2.1.getD ((fIdx x.1 k).getD i 0).toNat 0) (x.2.2.1.getD k 0)),())⟩ := by
  have hb := fIdx_mem hv hkc (List.getElem_mem hi)
  have hks : k < x.2.2.1.length := by rw [hk.1]; exact hkc
  have hfs : ((fIdx x.1 k)[i]).toNat < x.2.2.1.length := by rw [hk.1]; omega
  rw [getD_lt hi,getD_lt hks,getD_lt hfs]
  refine ret_of ?_
  simp only [run_Z113,Z113.ev]
  refine ev_call (l05Faces_ret x.1 k hkc hc) (ev_bind (idx_lt hi) (ev_call (l03Ok_ret m hm) (ev_b (fun h1 => ev_b (fun h2 => ev_bind (idx_lt hks) (ev_b (fun h3 => ?_) fun h3 => ev_some ?_)) fun h2 => ev_some ?_) fun h1 => ev_some ?_)))
  · have e : (fIdx x.1 k)[i] = ((((fIdx x.1 k)[i]).toNat : Nat) : Int) := by omega
    refine ev_bind ((congrArg (idx? x.2.2.1) e).trans (idx_lt hfs)) (ev_some ?_)
    have : (m.2.2.1 == x.2.2.1[((fIdx x.1 k)[i]).toNat]) = pb (Bt m x.2.1 x.2.2.1[((fIdx x.1 k)[i]).toNat] x.2.2.1[k]) := eq_pb (by
      rw [beq_iff_eq]; exact ⟨fun h => ⟨pb_iff.1 h1,by simpa using h2,by simpa using h3,h⟩,fun h => h.2.2.2⟩)
    simp only [this]
  · rw [pb_false fun h => by have := h.2.2.1; simp [this] at h3]
  · rw [pb_false fun h => by have := h.2.1; simp [this] at h2]
  · rw [pb_false fun h => pb_not.1 h1 h.1]

theorem l09Ok_ret (x : Shf) (hx : Sm (.st cS) x) : Ret E n_Z115 [dS x] ⟨o_Z115,(pb (VS x.1 x.2.1 x.2.2.1 x.2.2.2.1),())⟩ := by
  have hc : Sm yK x.1 := hx.1
  have hm : Sm (.sl (.st cM)) x.2.2.2.1 := hx.2.2.2.1
  have hst : x.2.2.1.length ≤ 1048576 := hx.2.2.1.1
  refine ret_of ?_
  simp only [run_Z115,Z115.ev]
  have no : ¬ VS x.1 x.2.1 x.2.2.1 x.2.2.2.1 → Ev fun φ => Z115.j0 (mkR (run E (φ 0))) (φ 0) x true = some ⟨o_Z115,(pb (VS x.1 x.2.1 x.2.2.1 x.2.2.2.1),())⟩ := fun h => by
    simp only [Z115.j0_eq _ mk_ok,cond_true]
    rw [pb_false h]; (first | exact ev_rfl | exact Ev.of fun _ => trivial)
  refine ev_call (l05Ok_ret (x.1,()) hc) (ev_b (fun h => no fun hv => pb_not.1 (show pb (VC x.1) = false by simpa using h) hv.1) fun h => ?_)
  have hv : VC x.1 := pb_iff.1 (show pb (VC x.1) = true by simpa using h)
  refine ev_call (specValidPrime_ret _) (ev_b (fun h => no fun hv => pb_not.1 (show pb (Pr x.2.1) = false by simpa using h) hv.2.1) fun h => ?_)
  have hp : Pr x.2.1 := pb_iff.1 (by simpa using h)
  refine ev_call (l09Stalks_ret x.1 x.2.2.1 hc hst) (ev_b (fun h => no fun hv => pb_not.1 (show pb (SK x.1 x.2.2.1) = false by simpa using h) hv.2.2.1) fun h => ?_)
  have hk : SK x.1 x.2.2.1 := pb_iff.1 (by simpa using h)
  refine ev_call (l09Count_ret x.1 hv) ?_
  by_cases hl : plc x.1 x.1.length = x.2.2.2.1.length
  · have h48 := hv.1
    simp only [show ((x.2.2.2.1.length : Int) != ((plc x.1 x.1.length : Nat) : Int)) = false by simp [hl],Z115.j0_eq _ mk_ok,cond_false]
    refine Ev.start (p := fun φ n => Z115.l1 (mkR (run E (φ 0))) (φ 0) n x 0 = _) 1 ?_ (fun _ _ _ h => h)
    let P : Nat → Prop := fun k => ∀ i,i < (fIdx x.1 k).length → QB x.2.1 x.2.2.1 x.2.2.2.1 (plc x.1 k + i) k ((fIdx x.1 k).getD i 0)
    have inner : ∀ (k : Nat) (h2 : k < x.1.length) (r : Option Dv),(P k → Ev fun φ => Z115.l1 (mkR (run E (φ 0))) (φ 0) (φ 1) x ((k + 1 : Nat) : Int) = r) → (¬ P k → r = some ⟨o_Z115,(false,())⟩) → Ev fun φ => Z115.l2 (mkR (run E (φ 0))) (φ 0) (φ 1) (φ 0) x (k : Int) 0 = r := fun k h2 r hgo hstop => by
      have h4 := hv.len4 h2
      have hfl := fIdx_length (c := x.1) (k := k)
      rw [getD_lt h2] at h4 hfl
      refine Ev.start (p := fun φ n => Z115.l2 (mkR (run E (φ 0))) (φ 0) (φ 1) n x (k : Int) 0 = _) 2 ?_ (fun _ _ _ h => h)
      by_cases hlen : 1 < (x.1[k]).length
      · rw [if_pos hlen] at hfl
        have mapAt : ∀ i (hi : i < (fIdx x.1 k).length),∃ ht : plc x.1 k + i < x.2.2.2.1.length,∀ R,(Ev fun φ => (bif (!pb (Bt x.2.2.2.1[plc x.1 k + i] x.2.1 (x.2.2.1.getD ((fIdx x.1 k).getD i 0).toNat 0) (x.2.2.1.getD k 0))) then some ⟨o_Z115,(false,())⟩ else Z115.l2 (mkR (run E (φ 0))) (φ 0) (φ 1) (φ 2) x (k : Int) (w64 ((i : Int) + 1))) = R) → Ev fun φ => Z115.j3 (mkR (run E (φ 0))) (φ 0) (φ 1) (φ 2) x (k : Int) (i : Int) true = R := fun i hi => by
          have hg := arrs_get h2 hi
          have hlt := (List.getElem?_eq_some_iff.1 hg).1
          have ht : plc x.1 k + i < x.2.2.2.1.length := by rw [← hl]; exact hlt
          refine ⟨ht,fun R hR => ?_⟩
          simp only [Z115.j3_eq _ mk_ok,cond_true]
          refine ev_call (l09Place_ret x.1 k i (by omega) (by omega) hv) (ev_bind (idx_lt ht) (ev_call (l09Map_ret x k i _ hv hk h2 hi hc (sm_mat hm ht)) hR))
        obtain ⟨t,f⟩ := all_loop 2 (L := fun φ n i => Z115.l2 (mkR (run E (φ 0))) (φ 0) (φ 1) n x (k : Int) i) (len := (x.1[k]).length) 0 (by omega) (fun i => QB x.2.1 x.2.2.1 x.2.2.2.1 (plc x.1 k + i) k ((fIdx x.1 k).getD i 0)) (rt := r) (rf := some ⟨o_Z115,(false,())⟩) (fun _ _ _ _ => rfl) (fun i _ hi hP _ => by
          obtain ⟨ht,hm'⟩ := mapAt i (by omega)
          simp only [Z115.l2_succ _ mk_ok]
          refine ev_bind (idx_lt h2) (ev_t (decide_eq_true (by omega)) (ev_bind (idx_lt h2) ?_))
          simp only [show decide (((x.1[k]).length : Int) > 1) = true from decide_eq_true (by omega)]
          refine hm' _ (ev_t ?_ ev_rfl)
          rw [pb_false]; · rfl
          intro hb; refine hP ?_
          show Bt _ _ _ _
          rw [getD_lt ht]; exact hb) (fun i q _ hi hP _ ih => by
          obtain ⟨ht,hm'⟩ := mapAt i (by omega)
          simp only [Z115.l2_succ _ mk_ok]
          refine ev_bind (idx_lt h2) (ev_t (decide_eq_true (by omega)) (ev_bind (idx_lt h2) ?_))
          simp only [show decide (((x.1[k]).length : Int) > 1) = true from decide_eq_true (by omega)]
          refine hm' _ (ev_f ?_ ?_)
          · have hP : Bt (x.2.2.2.1.getD (plc x.1 k + i) mz) _ _ _ := hP
            rw [getD_lt ht] at hP
            rw [pb_true hP]; rfl
          · rw [w64_succ (by omega)]; exact ih) (fun hall => by
          simp only [Z115.l2_succ _ mk_ok]
          refine ev_bind (idx_lt h2) (ev_f (decide_eq_false (by omega)) ?_)
          simp only [Z115.j3_eq _ mk_ok,cond_false]
          rw [w64_succ (by omega)]
          exact hgo fun i hi => hall i (by omega) (by omega))
        by_cases hall : ∀ i,0 ≤ i → i < (x.1[k]).length → QB x.2.1 x.2.2.1 x.2.2.2.1 (plc x.1 k + i) k ((fIdx x.1 k).getD i 0)
        · exact t hall
        · rw [hstop fun hf => hall fun i _ hi => hf i (by omega)]
          exact f hall
      · rw [if_neg hlen] at hfl
        refine Ev.round 2 (L := fun φ n => Z115.l2 (mkR (run E (φ 0))) (φ 0) (φ 1) n x (k : Int) 0) ?_ (fun _ _ _ => rfl)
        have hgo := hgo fun i hi => by omega
        have hj : Ev fun φ => Z115.j3 (mkR (run E (φ 0))) (φ 0) (φ 1) (φ 2) x (k : Int) 0 false = r := by
          simp only [Z115.j3_eq _ mk_ok,cond_false]
          rw [w64_succ (by omega)]; exact hgo
        simp only [Z115.l2_succ _ mk_ok]
        refine ev_bind (idx_lt h2) (ev_d (fun _ => ev_bind (idx_lt h2) ?_) fun _ => hj)
        simp only [show decide (((x.1[k]).length : Int) > 1) = false from decide_eq_false (by omega)]
        exact hj
    refine (all_pb 1 (L := fun φ n k => Z115.l1 (mkR (run E (φ 0))) (φ 0) n x k) (len := x.1.length) 0 (by omega) P (fun b => some ⟨o_Z115,(b,())⟩) (fun _ _ _ _ => rfl) (fun k h1 h2 hP hpre => ?_) (fun k r h1 h2 hP hpre ih => ?_) (fun _ => ?_)).to ?_
    · simp only [Z115.l1_succ _ mk_ok]
      exact ev_t (decide_eq_true (by omega)) (inner k h2 _ (fun h => absurd h hP) fun _ => rfl)
    · simp only [Z115.l1_succ _ mk_ok]
      exact ev_t (decide_eq_true (by omega)) (inner k h2 _ (fun _ => ih) fun h => absurd hP h)
    · simp only [Z115.l1_succ _ mk_ok]
      exact ev_f (decide_eq_false (by omega)) ev_rfl
    · exact congrArg (fun b : Bool => some (⟨o_Z115,(b,())⟩ : Dv)) (pb_congr ⟨fun h => ⟨hv,hp,hk,hl,fun k hk' => h k (by omega) hk'⟩,fun h k _ hk' => h.2.2.2.2 k hk'⟩)
  · simp only [show ((x.2.2.2.1.length : Int) != ((plc x.1 x.1.length : Nat) : Int)) = true by simp; omega]
    exact no fun h => hl h.2.2.2.1

end VeT

open Go Go.Proofs Ve
set_option linter.unusedVariables false
set_option linter.unusedSimpArgs false
namespace VeT

end VeT

open Go Go.Proofs Ve
set_option linter.unusedVariables false
set_option linter.unusedSimpArgs false
namespace VeT

theorem Clone_ret (s : Sim) (hs : s.length ≤ 1048576) : Ret E n_Z74 [dL s] ⟨o_Z74,(s,())⟩ := by
  refine ret_of ?_
  simp only [run_Z74,Z74.ev,Z74.j0_eq _ mk_ok,cond_true,cond_false]
  have h : Ev fun φ => (Option.bind (chk (decide ((List.length ([] : List Int) + List.length s) * 8 ≤ 70368744177664))) fun _ => some (⟨o_Z74,((([] : List Int) ++ s),())⟩ : Dv)) = some ⟨o_Z74,(s,())⟩ :=
    ev_chk (by simp; omega) (ev_some rfl)
  cases s with
  | nil => exact ev_t rfl (ev_both ev_rfl h)
  | cons a s => exact ev_f rfl h

end VeT

open Go Go.Proofs Ve
set_option linter.unusedVariables false
set_option linter.unusedSimpArgs false
namespace VeT

theorem Elems.get {v : Sim} {p : Int} (h : Elems v p) (hp : 2 ≤ p ∧ p ≤ 251) (i : Nat) : 0 ≤ v.getD i 0 ∧ v.getD i 0 ≤ 250 := by
  by_cases hi : i < v.length
  · rw [getD_lt hi]
    have := h _ (List.getElem_mem hi)
    omega
  · rw [List.getD_eq_getElem?_getD,List.getElem?_eq_none (by omega)]; simp

theorem VM.nat {m : Mat} (h : VM m) : ∃ R K : Nat,m = (m.1,(R : Int),(K : Int),m.2.2.2.1,()) ∧ R ≤ 32 ∧ K ≤ 32 ∧ m.2.2.2.1.length = R * K := by
  obtain ⟨p,r,k,c,⟨⟩⟩ := m
  obtain ⟨_,h2,h3,h4,_⟩ := h
  simp only at h2 h3 h4
  obtain ⟨R,rfl⟩ := Int.eq_ofNat_of_zero_le h2.1
  obtain ⟨K,rfl⟩ := Int.eq_ofNat_of_zero_le h3.1
  refine ⟨R,K,rfl,by omega,by omega,?_⟩
  rw [cast_mul] at h4; simp only; omega

theorem l03Zero_ret (p : Int) (R C : Nat) (hR : R ≤ 32) (hC : C ≤ 32) : Ret E n_Z102 [dI p,dI (R : Int),dI (C : Int)] ⟨o_Z102,(p,(R : Int),(C : Int),List.replicate (R * C) 0,())⟩ := by
  have h1 := rc_le hR hC
  have e1 : w64 ((R : Int) * (C : Int)) = ((R * C : Nat) : Int) := by rw [cast_mul]; exact w64_small (by omega) (by omega)
  refine ret_of ?_
  simp only [run_Z102,Z102.ev,e1,Int.toNat_natCast]
  exact ev_chk (by simp only [Bool.and_eq_true,decide_eq_true_eq]; omega) ev_rfl

end VeT
