import Derived.Test.YtonfceapakgcjaaGreatT3
import Derived.Test.YtonfceapakgcjaaGreatV2
import Derived.Shelf.SlicesG.CompactI
import Derived.Ground.SlgnProg
import Derived.Shelf.SortG.Plain
import Derived.Shelf.SortG.SortNone
import Derived.Test.YtonfceapakgcjaaGreatProg
import Derived.KernelRfl
import Derived.WalkKit
import Derived.Lib.Walk
import Derived.Lib.SliceRun
import Derived.Lib.AppendZerosOnto
set_option linter.unusedVariables false
set_option linter.unusedSimpArgs false
open Go Go.Proofs Ve
set_option linter.unusedVariables false
set_option maxRecDepth 100000
namespace VeT
@[reducible] noncomputable def q1_0 (R:Run) (N:Nat):=kS R pol_Z87 7 N [1,1] F_Z87
@[reducible] noncomputable def q1_1 (R:Run) (N:Nat):=kS R pol_Z38 12 N [1,1,1] F_Z38
@[reducible] noncomputable def q1_2 (R:Run) (N:Nat):=lC R pol_Z87 2 N [1,0,1,0,0] F_Z87
noncomputable def Z109.l1 (R:Run) (N a n:Nat) (b:vM) (e:(List Int)) (f g h i j:Int) (k:(List Int)) (l:vK) (m:(List Int)):Option Dv := R.w (some ⟨(.c (.ip yM b 0)::(V.dead::(V.dead::(.c (.box 3 0)::(.c (.d yL e)::(V.dead::(.c (.arr 16)::(.c (.d yI f)::(.c (.arr 32)::(.c (.d yI g)::(zd 61 []))))))))))),(zo 3 (some (.box [.d yI h,.d yI i,.d yI j,.d yL k] false false)::(zo 12 (some (.arr yL l true false false)::(zo 15 (some (.arr yI m true false false)::(zo 39 [])))))))⟩) fun st => lC R pol_Z109 10 N [1,1,1,0,1,0,0,1,0,0,1,1,1,0,1,0,0] F_Z109 n st (kB R pol_Z109 2 (kS R pol_Z109 13 N [1,1,1,0,1,0,0,1,0,0,1,1,1,1] F_Z109 (kB R pol_Z109 1 (kS R pol_Z109 5 N [1,1,1,0,1,0,0,1,1] F_Z109 (kL R pol_Z109 4 N [1,1,1,0,1,0,0] F_Z109 a (kB R pol_Z109 0 (kS R pol_Z109 14 N [1,1,1,1] F_Z109 (kTop E sg_Z109 F_Z109))))))))
noncomputable def Z109.l0 (R:Run) (N n:Nat) (a:vM) (b:(List Int)) (e f g h:Int) (i:(List Int)) (j:vK):Option Dv := R.w (some ⟨(.c (.ip yM a 0)::(V.dead::(V.dead::(.c (.box 3 0)::(.c (.d yL b)::(V.dead::(.c (.arr 16)::(.c (.d yI e)::(zd 63 []))))))))),(zo 3 (some (.box [.d yI f,.d yI g,.d yI h,.d yL i] false false)::(zo 12 (some (.arr yL j true false false)::(zo 55 [])))))⟩) fun st => lC R pol_Z109 4 N [1,1,1,0,1,0,0] F_Z109 n st (kB R pol_Z109 0 (kS R pol_Z109 14 N [1,1,1,1] F_Z109 (kTop E sg_Z109 F_Z109)))
theorem Z109.l1_succ (R:Run) (hw:R.ok) (N a n:Nat) (b:vM) (c:(List Int)) (d e f g h:Int) (i:(List Int)) (j:vK) (k:(List Int)):Z109.l1 R N a (n + 1) b c d e f g h i j k = (bif (decide (e < (List.length c:Int))) then ((idx? c e).bind fun y29 => ((idx? i (w64 ((w64 (e * b.2.2.1)) + d))).bind fun y30 => ((callT R n_Z110 o_Z110 [⟨yI,(w64 (0 - (y30,()).1))⟩,⟨yI,b.1⟩]).bind fun r31 => ((chk (decide (0 ≤ (y29,()).1) && decide ((y29,()).1 < (List.length k:Int)))).bind fun _ => (Z109.l1 R N a n b c d (w64 (e + (1:Int))) f g h i j (List.set k (Int.toNat (y29,()).1) r31.1)))))) else ((chk (decide ((List.length j + List.length [k]) * 24 ≤ 70368744177664))).bind fun _ => (Z109.l0 R N a b c (w64 (d + (1:Int))) f g h i (j ++ [k])))) := (hw _ _).trans (by kernel_rfl)
theorem Z109.l0_succ (R:Run) (hw:R.ok) (N n:Nat) (a:vM) (b:(List Int)) (c d e f:Int) (g:(List Int)) (h:vK):Z109.l0 R N (n + 1) a b c d e f g h = (bif (decide (c < a.2.2.1)) then ((callT R n_Z99 o_Z99 [⟨yL,b⟩,⟨yI,c⟩]).bind fun r10 => (bif r10.1 then (Z109.l0 R N n a b (w64 (c + (1:Int))) d e f g h) else ((chk (decide (0 ≤ a.2.2.1) && decide (a.2.2.1 * 8 ≤ 70368744177664))).bind fun _ => ((chk (decide (0 ≤ c) && decide (c < (List.length (List.replicate (Int.toNat a.2.2.1) (0:Int)):Int)))).bind fun _ => (Z109.l1 R N n N a b c (0:Int) d e f g h (List.set (List.replicate (Int.toNat a.2.2.1) (0:Int)) (Int.toNat c) (1:Int))))))) else some ⟨o_Z109,(h,())⟩) := (hw _ _).trans (by kernel_rfl)
theorem Z109.ev (R:Run) (N:Nat) (a0:vM):evFn E R sg_Z109 pol_Z109 F_Z109 N [⟨(.ptr yM),a0⟩] = ((callT R n_Z111 o_Z111 [⟨(.ptr yM),a0⟩]).bind fun r1 => (Z109.l0 R N N a0 r1.2.2.2.2.1 (0:Int) r1.1 r1.2.1 r1.2.2.1 r1.2.2.2.1 ([]:List (List Int)))) := by kernel_rfl
noncomputable def Z108.l1 (R:Run) (N n:Nat) (a b:vM) (e f g h i j k:Int) (l:(List Int)):Option Dv := R.w (some ⟨(.c (.ip yM a 0)::(.c (.ip yM b 0)::(V.dead::(V.dead::(.c (.box 4 0)::(.c (.box 5 0)::(.c (.d yI e)::(zd 72 [])))))))),(zo 4 (some (.box [.d yI f,.d yI g,.d yI h,.nils yI] false false)::(some (.box [.d yI i,.d yI j,.d yI k,.arr 24] false false)::(zo 18 (some (.arr yI l true false false)::(zo 56 []))))))⟩) fun st => lC R pol_Z108 3 N [1,1,0,1,0,0] F_Z108 n st (kB R pol_Z108 0 (kS R pol_Z108 7 N [1,1,1] F_Z108 (kTop E sg_Z108 F_Z108)))
noncomputable def Z108.j0 (R:Run) (N:Nat) (a b:vM) (e f g h i j:Int) (k:(List Int)):Option Dv := R.w (some ⟨(.c (.ip yM a 0)::(.c (.ip yM b 0)::(V.dead::(V.dead::(.c (.box 4 0)::(.c (.box 5 0)::(zd 73 []))))))),(zo 4 (some (.box [.d yI e,.d yI f,.d yI g,.nils yI] false false)::(some (.box [.d yI h,.d yI i,.d yI j,.arr 24] false false)::(zo 18 (some (.arr yI k true false false)::(zo 56 []))))))⟩) fun st => eC R pol_Z108 N [1,1] F_Z108 st (kTop E sg_Z108 F_Z108)
theorem Z108.l1_succ (R:Run) (hw:R.ok) (N n:Nat) (a b:vM) (c d e f g h i:Int) (j:(List Int)):Z108.l1 R N (n + 1) a b c d e f g h i j = (bif (decide (c < a.2.1)) then ((chk (decide (0 ≤ (w64 (c * a.2.2.1))) && decide ((w64 (c * a.2.2.1)) ≤ (w64 ((w64 (c + (1:Int))) * a.2.2.1))) && decide ((w64 ((w64 (c + (1:Int))) * a.2.2.1)) ≤ (List.length a.2.2.2.1:Int)))).bind fun _ => ((chk (decide ((List.length j + List.length (List.drop (Int.toNat (w64 (c * a.2.2.1))) (List.take (Int.toNat (w64 ((w64 (c + (1:Int))) * a.2.2.1))) a.2.2.2.1))) * 8 ≤ 70368744177664))).bind fun _ => ((chk (decide (0 ≤ (w64 (c * b.2.2.1))) && decide ((w64 (c * b.2.2.1)) ≤ (w64 ((w64 (c + (1:Int))) * b.2.2.1))) && decide ((w64 ((w64 (c + (1:Int))) * b.2.2.1)) ≤ (List.length b.2.2.2.1:Int)))).bind fun _ => ((chk (decide ((List.length (j ++ (List.drop (Int.toNat (w64 (c * a.2.2.1))) (List.take (Int.toNat (w64 ((w64 (c + (1:Int))) * a.2.2.1))) a.2.2.2.1))) + List.length (List.drop (Int.toNat (w64 (c * b.2.2.1))) (List.take (Int.toNat (w64 ((w64 (c + (1:Int))) * b.2.2.1))) b.2.2.2.1))) * 8 ≤ 70368744177664))).bind fun _ => (Z108.l1 R N n a b (w64 (c + (1:Int))) d e f g h i ((j ++ (List.drop (Int.toNat (w64 (c * a.2.2.1))) (List.take (Int.toNat (w64 ((w64 (c + (1:Int))) * a.2.2.1))) a.2.2.2.1))) ++ (List.drop (Int.toNat (w64 (c * b.2.2.1))) (List.take (Int.toNat (w64 ((w64 (c + (1:Int))) * b.2.2.1))) b.2.2.2.1)))))))) else some ⟨o_Z108,(g,h,i,j,())⟩) := (hw _ _).trans (by kernel_rfl)
theorem Z108.j0_eq (R:Run) (hw:R.ok) (N:Nat) (a b:vM) (c d e f g h:Int) (i:(List Int)):Z108.j0 R N a b c d e f g h i = (Z108.l1 R N N a b (0:Int) c d e f g h i) := (hw _ _).trans (by kernel_rfl)
theorem Z108.ev (R:Run) (N:Nat) (a0 a1:vM):evFn E R sg_Z108 pol_Z108 F_Z108 N [⟨(.ptr yM),a0⟩,⟨(.ptr yM),a1⟩] = (both (Z108.j0 R N a0 a1 (0:Int) (0:Int) (0:Int) a0.1 a0.2.1 (w64 (a0.2.2.1 + a1.2.2.1)) ([]:List Int)) (Z108.j0 R N a0 a1 (0:Int) (0:Int) (0:Int) a0.1 a0.2.1 (w64 (a0.2.2.1 + a1.2.2.1)) ([]:List Int))) := by kernel_rfl
noncomputable def Z112.l0 (R:Run) (N n:Nat) (a:vM) (b:(List Int)) (e f g h:Int) (i:(List Int)) (j k l:Int) (m o:(List Int)):Option Dv := R.w (some ⟨(.c (.ip yM a 0)::(zd 6 (.c (.box 7 0)::(.c (.box 8 0)::(.c (.d yL b)::(V.dead::(.c (.arr 34)::(.c (.d yI e)::(zd 57 []))))))))),(zo 7 (some (.box [.d yI f,.d yI g,.d yI h,.d yL i] false false)::(some (.box [.d yI j,.d yI k,.d yI l,.d yL m] false false)::(zo 25 (some (.arr yI o true false false)::(zo 37 []))))))⟩) fun st => lC R pol_Z112 6 N [1,1,1,1,1,0,1,0,0] F_Z112 n st (kB R pol_Z112 0 (kS R pol_Z112 11 N [1,1,1,1,1,1] F_Z112 (kTop E sg_Z112 F_Z112)))
theorem Z112.l0_succ (R:Run) (hw:R.ok) (N n:Nat) (a:vM) (b:(List Int)) (c d e f:Int) (g:(List Int)) (h i j:Int) (k l:(List Int)):Z112.l0 R N (n + 1) a b c d e f g h i j k l = (bif (decide (c < (List.length b:Int))) then ((idx? b c).bind fun y15 => (bif ((y15,()).1 == a.2.2.1) then some ⟨o_Z112,(([]:List Int),false,())⟩ else ((idx? b c).bind fun y16 => ((idx? k (w64 ((w64 (c * f)) + a.2.2.1))).bind fun y17 => ((chk (decide (0 ≤ (y16,()).1) && decide ((y16,()).1 < (List.length l:Int)))).bind fun _ => (Z112.l0 R N n a b (w64 (c + (1:Int))) d e f g h i j k (List.set l (Int.toNat (y16,()).1) (y17,()).1))))))) else some ⟨o_Z112,(l,true,())⟩) := (hw _ _).trans (by kernel_rfl)
theorem Z112.ev (R:Run) (N:Nat) (a0:vM) (a1:(List Int)):evFn E R sg_Z112 pol_Z112 F_Z112 N [⟨(.ptr yM),a0⟩,⟨yL,a1⟩] = ((callT R n_Z108 o_Z108 [⟨(.ptr yM),a0⟩,⟨(.ptr yM),(a0.1,a0.2.1,(1:Int),a1,())⟩]).bind fun r1 => ((callT R n_Z111 o_Z111 [⟨(.ptr yM),(r1.1,r1.2.1,r1.2.2.1,r1.2.2.2.1,())⟩]).bind fun r2 => ((chk (decide (0 ≤ a0.2.2.1) && decide (a0.2.2.1 * 8 ≤ 70368744177664))).bind fun _ => (Z112.l0 R N N a0 r2.2.2.2.2.1 (0:Int) r1.1 r1.2.1 r1.2.2.1 r1.2.2.2.1 r2.1 r2.2.1 r2.2.2.1 r2.2.2.2.1 (List.replicate (Int.toNat a0.2.2.1) (0:Int)))))) := by kernel_rfl
theorem Z131.ev (R:Run) (N:Nat) (a0:vM) (a1:(List Int)):evFn E R sg_Z131 pol_Z131 F_Z131 N [⟨(.ptr yM),a0⟩,⟨yL,a1⟩] = ((callT R n_Z112 o_Z112 [⟨(.ptr yM),a0⟩,⟨yL,a1⟩]).bind fun r1 => some ⟨o_Z131,(r1.2.1,())⟩) := by kernel_rfl
theorem Z132.ev (R:Run) (N:Nat) (a0:vM) (a1:(List Int)):evFn E R sg_Z132 pol_Z132 F_Z132 N [⟨(.ptr yM),a0⟩,⟨yL,a1⟩] = ((callT R n_Z108 o_Z108 [⟨(.ptr yM),a0⟩,⟨(.ptr yM),(a0.1,a0.2.1,(1:Int),a1,())⟩]).bind fun r1 => some ⟨o_Z132,(r1.1,r1.2.1,r1.2.2.1,r1.2.2.2.1,())⟩) := by kernel_rfl
noncomputable def Z129.l0 (R:Run) (N n:Nat) (a:vK) (b e f g:Int) (h:(List Int)) (i:vK):Option Dv := R.w (some ⟨(V.dead::(.c (.d yK a)::(.c (.box 2 0)::(V.dead::(V.dead::(.c (.arr 7)::(.c (.d yI b)::(zd 27 [])))))))),(none::(none::(some (.box [.d yI e,.d yI f,.d yI g,.d yL h] false false)::(zo 4 (some (.arr yL i true false false)::(zo 32 []))))))⟩) fun st => lC R pol_Z129 3 N [1,1,0,1,0,0] F_Z129 n st (kB R pol_Z129 0 (kS R pol_Z129 8 N [1,1,1] F_Z129 (kTop E sg_Z129 F_Z129)))
theorem Z129.l0_succ (R:Run) (hw:R.ok) (N n:Nat) (a:vK) (b c d e:Int) (f:(List Int)) (g:vK):Z129.l0 R N (n + 1) a b c d e f g = (bif (decide (b < (List.length a:Int))) then ((idx? a b).bind fun y8 => ((callT R n_Z131 o_Z131 [⟨(.ptr yM),(c,d,e,f,())⟩,⟨yL,(y8,()).1⟩]).bind fun r9 => (bif (!r9.1) then ((idx? a b).bind fun y10 => ((callT R n_Z101 o_Z101 [⟨yL,(y10,()).1⟩]).bind fun r11 => ((chk (decide ((List.length g + List.length [r11.1]) * 24 ≤ 70368744177664))).bind fun _ => ((idx? a b).bind fun y12 => ((callT R n_Z132 o_Z132 [⟨(.ptr yM),(c,d,e,f,())⟩,⟨yL,(y12,()).1⟩]).bind fun r13 => (Z129.l0 R N n a (w64 (b + (1:Int))) r13.1 r13.2.1 r13.2.2.1 r13.2.2.2.1 (g ++ [r11.1]))))))) else (Z129.l0 R N n a (w64 (b + (1:Int))) c d e f g)))) else some ⟨o_Z129,(g,())⟩) := (hw _ _).trans (by kernel_rfl)
theorem Z129.ev (R:Run) (N:Nat) (a0 a1 a2:Int) (a3:(List Int)) (a4:vK):evFn E R sg_Z129 pol_Z129 F_Z129 N [⟨yI,a0⟩,⟨yI,a1⟩,⟨yI,a2⟩,⟨yL,a3⟩,⟨yK,a4⟩] = (Z129.l0 R N N a4 (0:Int) a0 a1 a2 a3 ([]:List (List Int))) := by kernel_rfl
theorem Z127.ev (R:Run) (N:Nat) (a0:(vK × Unit)) (a1 a2:Int):evFn E R sg_Z127 pol_Z127 F_Z127 N [⟨(.ptr (.cons yK .nil)),a0⟩,⟨yI,a1⟩,⟨yI,a2⟩] = ((callT R n_Z128 o_Z128 [⟨(.ptr (.cons yK .nil)),a0⟩,⟨yI,a1⟩,⟨yI,a2⟩]).bind fun r1 => ((callT R n_Z128 o_Z128 [⟨(.ptr (.cons yK .nil)),a0⟩,⟨yI,(w64 (a1 + (1:Int)))⟩,⟨yI,a2⟩]).bind fun r2 => ((callT R n_Z109 o_Z109 [⟨(.ptr yM),(r1.1,r1.2.1,r1.2.2.1,r1.2.2.2.1,())⟩]).bind fun r3 => ((callT R n_Z129 o_Z129 [⟨yI,r2.1⟩,⟨yI,r2.2.1⟩,⟨yI,r2.2.2.1⟩,⟨yL,r2.2.2.2.1⟩,⟨yK,r3.1⟩]).bind fun r4 => some ⟨o_Z127,(r4.1,())⟩)))) := by kernel_rfl
noncomputable def Z106.l1 (R:Run) (N a n:Nat) (b:vM) (e:(List Int)) (f g h:Int) (i:(List Int)):Option Dv := R.w (some ⟨(.c (.ip yM b 0)::(.c (.d yL e)::(zd 3 (.c (.arr 9)::(.c (.d yI f)::(.c (.d yI g)::(.c (.d yI h)::(zd 48 [])))))))),(zo 9 (some (.arr yI i true false false)::(zo 49 [])))⟩) fun st => lC R pol_Z106 7 N [1,1,0,1,0,0,1,0,0,1,0,1,0,0] F_Z106 n st (kB R pol_Z106 2 (kS R pol_Z106 10 N [1,1,0,1,0,0,1,0,0,1,1] F_Z106 (kB R pol_Z106 1 (kS R pol_Z106 4 N [1,1,0,1,0,0,1,1] F_Z106 (kL R pol_Z106 3 N [1,1,0,1,0,0] F_Z106 a (kB R pol_Z106 0 (kS R pol_Z106 11 N [1,1,1] F_Z106 (kTop E sg_Z106 F_Z106))))))))
noncomputable def Z106.l0 (R:Run) (N n:Nat) (a:vM) (b:(List Int)) (e:Int) (f:(List Int)):Option Dv := R.w (some ⟨(.c (.ip yM a 0)::(.c (.d yL b)::(zd 3 (.c (.arr 9)::(.c (.d yI e)::(zd 50 [])))))),(zo 9 (some (.arr yI f true false false)::(zo 49 [])))⟩) fun st => lC R pol_Z106 3 N [1,1,0,1,0,0] F_Z106 n st (kB R pol_Z106 0 (kS R pol_Z106 11 N [1,1,1] F_Z106 (kTop E sg_Z106 F_Z106)))
theorem Z106.l1_succ (R:Run) (hw:R.ok) (N a n:Nat) (b:vM) (c:(List Int)) (d e f:Int) (g:(List Int)):Z106.l1 R N a (n + 1) b c d e f g = (bif (decide (f < b.2.2.1)) then ((idx? b.2.2.2.1 (w64 ((w64 (d * b.2.2.1)) + f))).bind fun y11 => ((idx? c f).bind fun y12 => (Z106.l1 R N a n b c d (w64 (e + (w64 ((y11,()).1 * (y12,()).1)))) (w64 (f + (1:Int))) g))) else ((chk (b.1 != 0)).bind fun _ => ((chk (decide ((List.length g + List.length [(Int.tmod e b.1)]) * 8 ≤ 70368744177664))).bind fun _ => (Z106.l0 R N a b c (w64 (d + (1:Int))) (g ++ [(Int.tmod e b.1)]))))) := (hw _ _).trans (by kernel_rfl)
theorem Z106.l0_succ (R:Run) (hw:R.ok) (N n:Nat) (a:vM) (b:(List Int)) (c:Int) (d:(List Int)):Z106.l0 R N (n + 1) a b c d = (bif (decide (c < a.2.1)) then (Z106.l1 R N n N a b c (0:Int) (0:Int) d) else some ⟨o_Z106,(d,())⟩) := (hw _ _).trans (by kernel_rfl)
theorem Z106.ev (R:Run) (N:Nat) (a0:vM) (a1:(List Int)):evFn E R sg_Z106 pol_Z106 F_Z106 N [⟨(.ptr yM),a0⟩,⟨yL,a1⟩] = (Z106.l0 R N N a0 a1 (0:Int) ([]:List Int)) := by kernel_rfl
noncomputable def Z115.l1 (R:Run) (N a n:Nat) (b:vM) (e f:Int) (g:vK) (h:(List Int)):Option Dv := R.w (some ⟨(.c (.ip yM b 0)::(V.dead::(V.dead::(.c (.arr 7)::(.c (.d yI e)::(.c (.arr 16)::(.c (.d yI f)::(zd 40 [])))))))),(zo 7 (some (.arr yL g true false false)::(zo 8 (some (.arr yI h true false false)::(zo 31 [])))))⟩) fun st => lC R pol_Z115 7 N [1,1,0,1,0,0,1,0,0,1,0,1,0,0] F_Z115 n st (kB R pol_Z115 2 (kS R pol_Z115 10 N [1,1,0,1,0,0,1,0,0,1,1] F_Z115 (kB R pol_Z115 1 (kS R pol_Z115 4 N [1,1,0,1,0,0,1,1] F_Z115 (kL R pol_Z115 3 N [1,1,0,1,0,0] F_Z115 a (kB R pol_Z115 0 (kS R pol_Z115 11 N [1,1,1] F_Z115 (kTop E sg_Z115 F_Z115))))))))
noncomputable def Z115.l0 (R:Run) (N n:Nat) (a:vM) (b:Int) (e:vK):Option Dv := R.w (some ⟨(.c (.ip yM a 0)::(V.dead::(V.dead::(.c (.arr 7)::(.c (.d yI b)::(zd 42 [])))))),(zo 7 (some (.arr yL e true false false)::(zo 40 [])))⟩) fun st => lC R pol_Z115 3 N [1,1,0,1,0,0] F_Z115 n st (kB R pol_Z115 0 (kS R pol_Z115 11 N [1,1,1] F_Z115 (kTop E sg_Z115 F_Z115)))
theorem Z115.l1_succ (R:Run) (hw:R.ok) (N a n:Nat) (b:vM) (c d:Int) (e:vK) (f:(List Int)):Z115.l1 R N a (n + 1) b c d e f = (bif (decide (d < b.2.1)) then ((idx? b.2.2.2.1 (w64 ((w64 (d * b.2.2.1)) + c))).bind fun y9 => ((chk (decide ((List.length f + List.length [(y9,()).1]) * 8 ≤ 70368744177664))).bind fun _ => (Z115.l1 R N a n b c (w64 (d + (1:Int))) e (f ++ [(y9,()).1])))) else ((chk (decide ((List.length e + List.length [f]) * 24 ≤ 70368744177664))).bind fun _ => (Z115.l0 R N a b (w64 (c + (1:Int))) (e ++ [f])))) := (hw _ _).trans (by kernel_rfl)
theorem Z115.l0_succ (R:Run) (hw:R.ok) (N n:Nat) (a:vM) (b:Int) (c:vK):Z115.l0 R N (n + 1) a b c = (bif (decide (b < a.2.2.1)) then (Z115.l1 R N n N a b (0:Int) c ([]:List Int)) else some ⟨o_Z115,(c,())⟩) := (hw _ _).trans (by kernel_rfl)
theorem Z115.ev (R:Run) (N:Nat) (a0:vM):evFn E R sg_Z115 pol_Z115 F_Z115 N [⟨(.ptr yM),a0⟩] = (Z115.l0 R N N a0 (0:Int) ([]:List (List Int))) := by kernel_rfl
noncomputable def Z117.l0 (R:Run) (N n:Nat) (a:vK) (b e f g h i j:Int) (k:(List Int)):Option Dv := R.w (some ⟨(V.dead::(V.dead::(.c (.d yK a)::(zd 3 (.c (.box 6 0)::(.c (.box 7 0)::(.c (.d yI b)::(zd 21 [])))))))),(zo 6 (some (.box [.d yI e,.d yI f,.d yI g,.nils yI] false false)::(some (.box [.d yI h,.d yI i,.d yI j,.arr 13] false false)::(zo 5 (some (.arr yI k true false false)::(zo 19 []))))))⟩) fun st => lC R pol_Z117 3 N [1,1,0,1,0,0] F_Z117 n st (kB R pol_Z117 0 (kS R pol_Z117 6 N [1,1,1] F_Z117 (kTop E sg_Z117 F_Z117)))
theorem Z117.l0_succ (R:Run) (hw:R.ok) (N n:Nat) (a:vK) (b c d e f g h:Int) (i:(List Int)):Z117.l0 R N (n + 1) a b c d e f g h i = (bif (decide (b < (List.length a:Int))) then ((idx? a b).bind fun y10 => ((chk (decide ((List.length i + List.length (y10,()).1) * 8 ≤ 70368744177664))).bind fun _ => (Z117.l0 R N n a (w64 (b + (1:Int))) c d e f g h (i ++ (y10,()).1)))) else some ⟨o_Z117,(f,g,h,i,())⟩) := (hw _ _).trans (by kernel_rfl)
theorem Z117.ev (R:Run) (N:Nat) (a0 a1:Int) (a2:vK):evFn E R sg_Z117 pol_Z117 F_Z117 N [⟨yI,a0⟩,⟨yI,a1⟩,⟨yK,a2⟩] = (Z117.l0 R N N a2 (0:Int) (0:Int) (0:Int) (0:Int) a0 (List.length a2:Int) a1 ([]:List Int)) := by kernel_rfl
noncomputable def Z114.l0 (R:Run) (N n:Nat) (a:Int) (b:(List Int)) (e f g h:Int) (i:(List Int)) (j:vK):Option Dv := R.w (some ⟨(V.dead::(.c (.d yI a)::(zd 6 (.c (.box 8 0)::(.c (.d yL b)::(V.dead::(.c (.arr 22)::(.c (.d yI e)::(zd 31 []))))))))),(zo 8 (some (.box [.d yI f,.d yI g,.d yI h,.d yL i] false false)::(zo 13 (some (.arr yL j true false false)::(zo 25 [])))))⟩) fun st => lC R pol_Z114 5 N [1,1,1,1,0,1,0,0] F_Z114 n st (kB R pol_Z114 0 (kS R pol_Z114 8 N [1,1,1,1,1] F_Z114 (kTop E sg_Z114 F_Z114)))
theorem Z114.l0_succ (R:Run) (hw:R.ok) (N n:Nat) (a:Int) (b:(List Int)) (c d e f:Int) (g:(List Int)) (h:vK):Z114.l0 R N (n + 1) a b c d e f g h = (bif (decide (c < (List.length b:Int))) then ((chk (decide (0 ≤ (w64 (c * a))) && decide ((w64 (c * a)) ≤ (w64 ((w64 (c + (1:Int))) * a))) && decide ((w64 ((w64 (c + (1:Int))) * a)) ≤ (List.length g:Int)))).bind fun _ => ((callT R n_Z101 o_Z101 [⟨yL,(List.drop (Int.toNat (w64 (c * a))) (List.take (Int.toNat (w64 ((w64 (c + (1:Int))) * a))) g))⟩]).bind fun r11 => ((chk (decide ((List.length h + List.length [r11.1]) * 24 ≤ 70368744177664))).bind fun _ => (Z114.l0 R N n a b (w64 (c + (1:Int))) d e f g (h ++ [r11.1]))))) else some ⟨o_Z114,(h,())⟩) := (hw _ _).trans (by kernel_rfl)
theorem Z114.ev (R:Run) (N:Nat) (a0 a1:Int) (a2:vK):evFn E R sg_Z114 pol_Z114 F_Z114 N [⟨yI,a0⟩,⟨yI,a1⟩,⟨yK,a2⟩] = ((callT R n_Z117 o_Z117 [⟨yI,a0⟩,⟨yI,a1⟩,⟨yK,a2⟩]).bind fun r1 => ((callT R n_Z111 o_Z111 [⟨(.ptr yM),(r1.1,r1.2.1,r1.2.2.1,r1.2.2.2.1,())⟩]).bind fun r2 => (Z114.l0 R N N a1 r2.2.2.2.2.1 (0:Int) r2.1 r2.2.1 r2.2.2.1 r2.2.2.2.1 ([]:List (List Int))))) := by kernel_rfl
noncomputable def Z116.j1 (R:Run) (N a:Nat) (b e:Int) (f g:vK) (h i:Int) (j k:vK):Option Dv := R.w (some ⟨(.c (.d yI b)::(.c (.d yI e)::(V.dead::(.c (.d yK f)::(zd 5 (.c (.d yK g)::(.c (.d yI h)::(.c (.arr 22)::(.c (.d yI i)::(.c (.arr 29)::(zd 43 []))))))))))),(zo 22 (some (.arr yL j true false false)::(zo 6 (some (.arr yL k false false false)::(zo 32 [])))))⟩) fun st => eC R pol_Z116 N [1,1,1,1,0,1,0,0,1,0,0,1] F_Z116 st (kB R pol_Z116 1 (kS R pol_Z116 6 N [1,1,1,1,0,1,0,0,1,1] F_Z116 (kL R pol_Z116 5 N [1,1,1,1,0,1,0,0] F_Z116 a (kB R pol_Z116 0 (kS R pol_Z116 12 N [1,1,1,1,1] F_Z116 (kTop E sg_Z116 F_Z116))))))
noncomputable def Z116.l0 (R:Run) (N n:Nat) (a b:Int) (e f:vK) (g h:Int) (i:vK):Option Dv := R.w (some ⟨(.c (.d yI a)::(.c (.d yI b)::(V.dead::(.c (.d yK e)::(zd 5 (.c (.d yK f)::(.c (.d yI g)::(.c (.arr 22)::(.c (.d yI h)::(zd 44 [])))))))))),(zo 22 (some (.arr yL i true false false)::(zo 39 [])))⟩) fun st => lC R pol_Z116 5 N [1,1,1,1,0,1,0,0] F_Z116 n st (kB R pol_Z116 0 (kS R pol_Z116 12 N [1,1,1,1,1] F_Z116 (kTop E sg_Z116 F_Z116)))
theorem Z116.j1_eq (R:Run) (hw:R.ok) (N a:Nat) (b c:Int) (d e:vK) (f g:Int) (h i:vK):Z116.j1 R N a b c d e f g h i = ((callT R n_Z114 o_Z114 [⟨yI,b⟩,⟨yI,c⟩,⟨yK,i⟩]).bind fun r18 => (bif (decide ((List.length r18.1:Int) > f)) then ((idx? d g).bind fun y19 => ((callT R n_Z101 o_Z101 [⟨yL,(y19,()).1⟩]).bind fun r20 => ((chk (decide ((List.length h + List.length [r20.1]) * 24 ≤ 70368744177664))).bind fun _ => (Z116.l0 R N a b c d i (w64 (f + (1:Int))) (w64 (g + (1:Int))) (h ++ [r20.1]))))) else (Z116.l0 R N a b c d e f (w64 (g + (1:Int))) h))) := (hw _ _).trans (by kernel_rfl)
theorem Z116.l0_succ (R:Run) (hw:R.ok) (N n:Nat) (a b:Int) (c d:vK) (e f:Int) (g:vK):Z116.l0 R N (n + 1) a b c d e f g = (bif (decide (f < (List.length c:Int))) then ((idx? c f).bind fun y9 => (both (both ((chk (decide ((List.length ([]:List (List Int)) + List.length d) * 24 ≤ 70368744177664))).bind fun _ => ((chk (decide ((List.length (([]:List (List Int)) ++ d) + List.length [(y9,()).1]) * 24 ≤ 70368744177664))).bind fun _ => (Z116.j1 R N n a b c d e f g ((([]:List (List Int)) ++ d) ++ [(y9,()).1])))) ((chk (decide ((List.length ([]:List (List Int)) + List.length d) * 24 ≤ 70368744177664))).bind fun _ => ((chk (decide ((List.length (([]:List (List Int)) ++ d) + List.length [(y9,()).1]) * 24 ≤ 70368744177664))).bind fun _ => (Z116.j1 R N n a b c d e f g ((([]:List (List Int)) ++ d) ++ [(y9,()).1]))))) ((chk (decide ((List.length ([]:List (List Int)) + List.length d) * 24 ≤ 70368744177664))).bind fun _ => ((chk (decide ((List.length (([]:List (List Int)) ++ d) + List.length [(y9,()).1]) * 24 ≤ 70368744177664))).bind fun _ => (Z116.j1 R N n a b c d e f g ((([]:List (List Int)) ++ d) ++ [(y9,()).1])))))) else some ⟨o_Z116,(g,())⟩) := (hw _ _).trans (by kernel_rfl)
theorem Z116.ev (R:Run) (N:Nat) (a0 a1:Int) (a2 a3:vK):evFn E R sg_Z116 pol_Z116 F_Z116 N [⟨yI,a0⟩,⟨yI,a1⟩,⟨yK,a2⟩,⟨yK,a3⟩] = ((chk (decide ((List.length ([]:List (List Int)) + List.length a2) * 24 ≤ 70368744177664))).bind fun _ => ((callT R n_Z114 o_Z114 [⟨yI,a0⟩,⟨yI,a1⟩,⟨yK,(([]:List (List Int)) ++ a2)⟩]).bind fun r1 => (Z116.l0 R N N a0 a1 a3 (([]:List (List Int)) ++ a2) (List.length r1.1:Int) (0:Int) ([]:List (List Int))))) := by kernel_rfl
noncomputable def Z97.l2 (R:Run) (N n:Nat) (a b:Int) (e:vK) (f:Int) (g:vK) (h i j:Int) (k:(List Int)) (l:vK):Option Dv := R.w (some ⟨(zd 3 (.c (.d yI a)::(.c (.d yI b)::(V.dead::(.c (.box 6 0)::(zd 6 (.c (.box 13 0)::(.c (.d yK e)::(.c (.arr 43)::(.c (.d yI f)::(zd 52 []))))))))))),(zo 6 (some (.box [.d yK g] false false)::(zo 6 (some (.box [.d yI h,.d yI i,.d yI j,.d yL k] false false)::(zo 29 (some (.arr yL l true false false)::(zo 31 [])))))))⟩) fun st => lC R pol_Z97 14 N [1,1,1,1,1,1,1,1,1,0,1,0,0] F_Z97 n st (kB R pol_Z97 0 (kS R pol_Z97 17 N [1,1,1,1,1,1,1,1,1,1] F_Z97 (kTop E sg_Z97 F_Z97)))
noncomputable def Z97.j1 (R:Run) (N:Nat) (a:(List Int)) (b e f:Int) (g h:vK):Option Dv := R.w (some ⟨(V.dead::(V.dead::(.c (.d yL a)::(.c (.d yI b)::(.c (.d yI e)::(.c (.box 5 0)::(.c (.box 6 0)::(zd 5 (.c (.d yI f)::(zd 56 [])))))))))),(zo 5 (some (.box [.d yK g] false false)::(some (.box [.d yK h] false false)::(zo 68 []))))⟩) fun st => eC R pol_Z97 N [1,1,1,1,1] F_Z97 st (kTop E sg_Z97 F_Z97)
noncomputable def Z97.j0 (R:Run) (N:Nat) (a:(List Int)) (b e f:Int) (g h:vK):Option Dv := R.w (some ⟨(V.dead::(V.dead::(.c (.d yL a)::(.c (.d yI b)::(.c (.d yI e)::(.c (.box 5 0)::(.c (.box 6 0)::(zd 5 (.c (.d yI f)::(zd 56 [])))))))))),(zo 5 (some (.box [.d yK g] false false)::(some (.box [.d yK h] false false)::(zo 68 []))))⟩) fun st => eC R pol_Z97 N [1,1,1,1] F_Z97 st (kTop E sg_Z97 F_Z97)
theorem Z97.l2_succ (R:Run) (hw:R.ok) (N n:Nat) (a b:Int) (c:vK) (d:Int) (e:vK) (f g h:Int) (i:(List Int)) (j:vK):Z97.l2 R N (n + 1) a b c d e f g h i j = (bif (decide (d < (List.length c:Int))) then ((idx? c d).bind fun y29 => ((callT R n_Z106 o_Z106 [⟨(.ptr yM),(f,g,h,i,())⟩,⟨yL,(y29,()).1⟩]).bind fun r30 => ((chk (decide ((List.length j + List.length [r30.1]) * 24 ≤ 70368744177664))).bind fun _ => (Z97.l2 R N n a b c (w64 (d + (1:Int))) e f g h i (j ++ [r30.1]))))) else ((callT R n_Z128 o_Z128 [⟨(.ptr (.cons yK .nil)),(e,())⟩,⟨yI,(w64 (a + (1:Int)))⟩,⟨yI,b⟩]).bind fun r41 => ((callT R n_Z115 o_Z115 [⟨(.ptr yM),(r41.1,r41.2.1,r41.2.2.1,r41.2.2.2.1,())⟩]).bind fun r42 => ((callT R n_Z116 o_Z116 [⟨yI,b⟩,⟨yI,r41.2.1⟩,⟨yK,r42.1⟩,⟨yK,j⟩]).bind fun r43 => some ⟨o_Z97,((List.length r43.1:Int),(0:Int),())⟩)))) := (hw _ _).trans (by kernel_rfl)
theorem Z97.j1_eq (R:Run) (hw:R.ok) (N:Nat) (a:(List Int)) (b c d:Int) (e f:vK):Z97.j1 R N a b c d e f = (bif (d != (0:Int)) then some ⟨o_Z97,((0:Int),d,())⟩ else ((callT R n_Z135 o_Z135 [⟨(.ptr (.cons yK .nil)),(e,())⟩,⟨(.ptr (.cons yK .nil)),(f,())⟩,⟨yL,a⟩,⟨yI,b⟩,⟨yI,c⟩]).bind fun r17 => ((callT R n_Z127 o_Z127 [⟨(.ptr (.cons yK .nil)),(e,())⟩,⟨yI,b⟩,⟨yI,c⟩]).bind fun r18 => (Z97.l2 R N N b c r18.1 (0:Int) f r17.1 r17.2.1 r17.2.2.1 r17.2.2.2.1 ([]:List (List Int)))))) := (hw _ _).trans (by kernel_rfl)
theorem Z97.j0_eq (R:Run) (hw:R.ok) (N:Nat) (a:(List Int)) (b c d:Int) (e f:vK):Z97.j0 R N a b c d e f = (bif (d == (0:Int)) then ((callT R n_Z126 o_Z126 [⟨(.ptr (.cons yK .nil)),(f,())⟩,⟨yI,b⟩,⟨yI,c⟩]).bind fun r10 => (Z97.j1 R N a b c r10.1 e f)) else (Z97.j1 R N a b c d e f)) := (hw _ _).trans (by kernel_rfl)
theorem Z97.ev (R:Run) (N:Nat) (a0 a1:vK) (a2:(List Int)) (a3 a4:Int):evFn E R sg_Z97 pol_Z97 F_Z97 N [⟨yK,a0⟩,⟨yK,a1⟩,⟨yL,a2⟩,⟨yI,a3⟩,⟨yI,a4⟩] = ((callT R n_Z105 o_Z105 [⟨yI,a4⟩]).bind fun r1 => (bif (!r1.1) then some ⟨o_Z97,((0:Int),(1:Int),())⟩ else ((callT R n_Z133 o_Z133 [⟨(.ptr (.cons yK .nil)),(a0,())⟩,⟨(.ptr (.cons yK .nil)),(a1,())⟩,⟨yL,a2⟩]).bind fun r2 => (bif (r2.1 == (0:Int)) then ((callT R n_Z126 o_Z126 [⟨(.ptr (.cons yK .nil)),(a0,())⟩,⟨yI,a3⟩,⟨yI,a4⟩]).bind fun r3 => (Z97.j0 R N a2 a3 a4 r3.1 a0 a1)) else (Z97.j0 R N a2 a3 a4 r2.1 a0 a1))))) := by kernel_rfl
theorem Z60.ev (R:Run) (N:Nat) (a0 a1 a2:Int):evFn E R sg_Z60 pol_Z60 F_Z60 N [⟨yI,a0⟩,⟨yI,a1⟩,⟨yI,a2⟩] = (bif (decide (a0 ≥ a1)) then some ⟨o_Z60,((decide (a0 ≤ a2)),())⟩ else some ⟨o_Z60,(false,())⟩) := by kernel_rfl
noncomputable def Z10.l0 (R:Run) (N n:Nat) (a b:Int):Option Dv := R.w (some ⟨(.c (.d yI a)::(V.dead::(V.dead::(.c (.d yI b)::(zd 14 []))))),(zo 19 [])⟩) fun st => lC R pol_Z10 4 N [1,1,0,1,0,0] F_Z10 n st (kB R pol_Z10 0 (kS R pol_Z10 8 N [1,1,1] F_Z10 (kTop E sg_Z10 F_Z10)))
theorem Z10.l0_succ (R:Run) (hw:R.ok) (N n:Nat) (a b:Int):Z10.l0 R N (n + 1) a b = (bif (decide ((w64 (b * b)) ≤ a)) then ((chk (b != 0)).bind fun _ => (bif ((Int.tmod a b) == (0:Int)) then some ⟨o_Z10,(false,())⟩ else (Z10.l0 R N n a (w64 (b + (1:Int)))))) else some ⟨o_Z10,(true,())⟩) := (hw _ _).trans (by kernel_rfl)
theorem Z10.ev (R:Run) (N:Nat) (a0:Int):evFn E R sg_Z10 pol_Z10 F_Z10 N [⟨yI,a0⟩] = ((callT R n_Z60 o_Z60 [⟨yI,a0⟩,⟨yI,(2:Int)⟩,⟨yI,(251:Int)⟩]).bind fun r1 => (bif (!r1.1) then some ⟨o_Z10,(false,())⟩ else (Z10.l0 R N N a0 (2:Int)))) := by kernel_rfl
noncomputable def Z42.l0 (R:Run) (N n:Nat) (a:(List Int)) (b:Int):Option Dv := R.w (some ⟨(.c (.d yL a)::(V.dead::(V.dead::(.c (.d yI b)::(zd 16 []))))),(zo 21 [])⟩) fun st => lC R pol_Z42 2 N [1,0,1,0,0] F_Z42 n st (kB R pol_Z42 0 (kS R pol_Z42 6 N [1,1] F_Z42 (kTop E sg_Z42 F_Z42)))
theorem Z42.l0_succ (R:Run) (hw:R.ok) (N n:Nat) (a:(List Int)) (b:Int):Z42.l0 R N (n + 1) a b = (bif (decide (b < (List.length a:Int))) then ((idx? a (w64 (b - (1:Int)))).bind fun y3 => ((idx? a b).bind fun y4 => (bif (decide ((y3,()).1 ≥ (y4,()).1)) then some ⟨o_Z42,(false,())⟩ else (Z42.l0 R N n a (w64 (b + (1:Int))))))) else some ⟨o_Z42,(true,())⟩) := (hw _ _).trans (by kernel_rfl)
theorem Z42.ev (R:Run) (N:Nat) (a0:(List Int)):evFn E R sg_Z42 pol_Z42 F_Z42 N [⟨yL,a0⟩] = (Z42.l0 R N N a0 (1:Int)) := by kernel_rfl
theorem Z43.ev (R:Run) (N:Nat) (a0:Int):evFn E R sg_Z43 pol_Z43 F_Z43 N [⟨yI,a0⟩] = ((callT R n_Z60 o_Z60 [⟨yI,a0⟩,⟨yI,(0:Int)⟩,⟨yI,(9:Int)⟩]).bind fun r1 => some ⟨o_Z43,(r1.1,())⟩) := by kernel_rfl
theorem Z12.ev (R:Run) (N:Nat) (a0:Int):evFn E R sg_Z12 pol_Z12 F_Z12 N [⟨yI,a0⟩] = ((callT R n_Z43 o_Z43 [⟨yI,a0⟩]).bind fun r1 => some ⟨o_Z12,((!r1.1),())⟩) := by kernel_rfl
noncomputable def Z92.l0 (R:Run) (N n:Nat) (a:(List Int)) (b e:Int):Option Dv := R.w (some ⟨(.c (.d yL a)::(.c (.d (.fn n_Z12 .nil) ())::(zd 5 (.c (.d yI b)::(.c (.d yI e)::(zd 10 [])))))),(zo 21 [])⟩) fun st => lC R pol_Z91 2 N [1,0,1,0,0] F_Z91 n st (kB R pol_Z91 0 (kS R pol_Z91 7 N [1,1] F_Z91 (kTop E sg_Z91 F_Z91)))
theorem Z92.l0_succ (R:Run) (hw:R.ok) (N n:Nat) (a:(List Int)) (b c:Int):Z92.l0 R N (n + 1) a b c = (bif (decide (c < b)) then ((idx? a c).bind fun y4 => ((callT R n_Z12 o_Z12 [⟨yI,(y4,()).1⟩]).bind fun r5 => (bif r5.1 then some ⟨o_Z91,(c,())⟩ else (Z92.l0 R N n a b (w64 (c + (1:Int))))))) else some ⟨o_Z91,((-1:Int),())⟩) := (hw _ _).trans (by kernel_rfl)
theorem Z92.ev (R:Run) (N:Nat) (a0:(List Int)):evFn E R sg_Z91 pol_Z91 F_Z91 N [⟨yL,a0⟩,⟨(.fn n_Z12 .nil),()⟩] = (Z92.l0 R N N a0 (List.length a0:Int) (0:Int)) := by kernel_rfl
theorem Z83.ev (R:Run) (N:Nat) (a0:(List Int)):evFn E R sg_Z82 pol_Z82 F_Z82 N [⟨yL,a0⟩,⟨(.fn n_Z12 .nil),()⟩] = ((callT R n_Z91 o_Z91 [⟨yL,a0⟩,⟨(.fn n_Z12 .nil),()⟩]).bind fun r1 => some ⟨o_Z82,((decide (r1.1 ≥ (0:Int))),())⟩) := by kernel_rfl
theorem Z11.ev (R:Run) (N:Nat) (a0:(List Int)):evFn E R sg_Z11 pol_Z11 F_Z11 N [⟨yL,a0⟩] = (bif (decide ((List.length a0:Int) ≥ (1:Int))) then (bif (decide ((List.length a0:Int) ≤ (4:Int))) then ((callT R n_Z42 o_Z42 [⟨yL,a0⟩]).bind fun r1 => (bif r1.1 then ((callT R n_Z82 o_Z82 [⟨yL,a0⟩,⟨(.fn n_Z12 .nil),()⟩]).bind fun r2 => some ⟨o_Z11,((!r2.1),())⟩) else some ⟨o_Z11,(false,())⟩)) else some ⟨o_Z11,(false,())⟩) else some ⟨o_Z11,(false,())⟩) := by kernel_rfl
theorem Z3.ev (R:Run) (N:Nat) (a0:Int):evFn E R sg_Z3 pol_Z3 F_Z3 N [⟨yI,a0⟩] = some ⟨o_Z3,((a0 != a0),())⟩ := by kernel_rfl
theorem Z0.ev (R:Run) (N:Nat) (a0 a1:Int):evFn E R sg_Z0 pol_Z0 F_Z0 N [⟨yI,a0⟩,⟨yI,a1⟩] = ((callT R n_Z3 o_Z3 [⟨yI,a0⟩]).bind fun r1 => ((callT R n_Z3 o_Z3 [⟨yI,a1⟩]).bind fun r2 => (bif r1.1 then (bif r2.1 then some ⟨o_Z0,((0:Int),())⟩ else some ⟨o_Z0,((-1:Int),())⟩) else (bif r2.1 then some ⟨o_Z0,((1:Int),())⟩ else (bif (decide (a0 < a1)) then some ⟨o_Z0,((-1:Int),())⟩ else (bif (decide (a0 > a1)) then some ⟨o_Z0,((1:Int),())⟩ else some ⟨o_Z0,((0:Int),())⟩)))))) := by kernel_rfl
theorem Z4.ev (R:Run) (N:Nat) (a0:Int):evFn E R sg_Z4 pol_Z4 F_Z4 N [⟨yI,a0⟩] = some ⟨o_Z4,((a0 != a0),())⟩ := by kernel_rfl
theorem Z1.ev (R:Run) (N:Nat) (a0 a1:Int):evFn E R sg_Z1 pol_Z1 F_Z1 N [⟨yI,a0⟩,⟨yI,a1⟩] = ((callT R n_Z4 o_Z4 [⟨yI,a0⟩]).bind fun r1 => ((callT R n_Z4 o_Z4 [⟨yI,a1⟩]).bind fun r2 => (bif r1.1 then (bif r2.1 then some ⟨o_Z1,((0:Int),())⟩ else some ⟨o_Z1,((-1:Int),())⟩) else (bif r2.1 then some ⟨o_Z1,((1:Int),())⟩ else (bif (decide (a0 < a1)) then some ⟨o_Z1,((-1:Int),())⟩ else (bif (decide (a0 > a1)) then some ⟨o_Z1,((1:Int),())⟩ else some ⟨o_Z1,((0:Int),())⟩)))))) := by kernel_rfl
noncomputable def Z77.l0 (R:Run) (N n:Nat) (a b e:(List Int)) (f g:Int):Option Dv := R.w (some ⟨(.c (.d yL a)::(.c (.d yL b)::(zd 7 (.c (.d yL e)::(.c (.d yI f)::(.c (.d yI g)::(zd 24 []))))))),(zo 38 [])⟩) fun st => lC R pol_Z77 2 N [1,0,1,0,0] F_Z77 n st (kB R pol_Z77 0 (kS R pol_Z77 11 N [1,1] F_Z77 (kTop E sg_Z77 F_Z77)))
theorem Z77.l0_succ (R:Run) (hw:R.ok) (N n:Nat) (a b c:(List Int)) (d e:Int):Z77.l0 R N (n + 1) a b c d e = (bif (decide (e < d)) then ((idx? c e).bind fun y6 => (bif (decide (e ≥ (List.length b:Int))) then some ⟨o_Z77,((1:Int),())⟩ else ((idx? b e).bind fun y7 => ((callT R n_Z1 o_Z1 [⟨yI,(y6,()).1⟩,⟨yI,(y7,()).1⟩]).bind fun r8 => (bif (r8.1 != (0:Int)) then some ⟨o_Z77,(r8.1,())⟩ else (Z77.l0 R N n a b c d (w64 (e + (1:Int))))))))) else (bif (decide ((List.length a:Int) < (List.length b:Int))) then some ⟨o_Z77,((-1:Int),())⟩ else some ⟨o_Z77,((0:Int),())⟩)) := (hw _ _).trans (by kernel_rfl)
theorem Z77.ev (R:Run) (N:Nat) (a0 a1:(List Int)):evFn E R sg_Z77 pol_Z77 F_Z77 N [⟨yL,a0⟩,⟨yL,a1⟩] = (Z77.l0 R N N a0 a1 a0 (List.length a0:Int) (0:Int)) := by kernel_rfl
noncomputable def Z2.l0 (R:Run) (N n:Nat) (a:Int) (b:(List Int)) (e f:Int):Option Dv := R.w (some ⟨(zd 3 (.c (.d yI a)::(V.dead::(V.dead::(.c (.d yL b)::(.c (.d yI e)::(.c (.d yI f)::(zd 9 [])))))))),(zo 19 [])⟩) fun st => lC R pol_Z2 3 N [1,1,0,1,0,0] F_Z2 n st (kB R pol_Z2 0 (kS R pol_Z2 8 N [1,1,1] F_Z2 (kTop E sg_Z2 F_Z2)))
theorem Z2.l0_succ (R:Run) (hw:R.ok) (N n:Nat) (a:Int) (b:(List Int)) (c d:Int):Z2.l0 R N (n + 1) a b c d = (bif (decide (d < c)) then ((idx? b d).bind fun y5 => (bif ((y5,()).1 != a) then some ⟨o_Z2,((y5,()).1,())⟩ else (Z2.l0 R N n a b c (w64 (d + (1:Int)))))) else some ⟨o_Z2,(a,())⟩) := (hw _ _).trans (by kernel_rfl)
theorem Z2.ev (R:Run) (N:Nat) (a0:(List Int)):evFn E R sg_Z2 pol_Z2 F_Z2 N [⟨yL,a0⟩] = (Z2.l0 R N N (0:Int) a0 (List.length a0:Int) (0:Int)) := by kernel_rfl
theorem Z21.ev (R:Run) (N:Nat) (a0 a1:(List Int)):evFn E R sg_Z21 pol_Z21 F_Z21 N [⟨yL,a0⟩,⟨yL,a1⟩] = ((callT R n_Z0 o_Z0 [⟨yI,(List.length a0:Int)⟩,⟨yI,(List.length a1:Int)⟩]).bind fun r1 => ((callT R n_Z77 o_Z77 [⟨yL,a0⟩,⟨yL,a1⟩]).bind fun r2 => ((callT R n_Z2 o_Z2 [⟨yL,[r1.1,r2.1]⟩]).bind fun r3 => some ⟨o_Z21,(r3.1,())⟩))) := by kernel_rfl
noncomputable def Z78.l1 (R:Run) (N n:Nat) (a:vK) (b e:Int) (f:(List Int)):Option Dv := R.w (some ⟨(zd 6 (.c (.arr 37)::(zd 18 (.c (.d yK a)::(.c (.d yI b)::(.c (.d yI e)::(zd 8 []))))))),(zo 37 (some (.arr yI f true false false)::[]))⟩) fun st => lC R pol_Z78 11 N [1,1,1,1,0,1,0,0] F_Z78 n st (kB R pol_Z78 2 (kS R pol_Z78 15 N [1,1,1,1,1] F_Z78 (kTop E sg_Z78 F_Z78)))
noncomputable def Z78.l0 (R:Run) (N n:Nat) (a:vK) (b:Int) (e:vK) (f g:Int):Option Dv := R.w (some ⟨(.c (.d yK a)::(V.dead::(V.dead::(.c (.d yI b)::(zd 5 (.c (.d yK e)::(.c (.d yI f)::(.c (.d yI g)::(zd 24 []))))))))),(zo 38 [])⟩) fun st => lC R pol_Z78 3 N [1,1,0,1,0,0] F_Z78 n st (kB R pol_Z78 0 (kS R pol_Z78 9 N [1,1,1] F_Z78 (kTop E sg_Z78 F_Z78)))
theorem Z78.l1_succ (R:Run) (hw:R.ok) (N n:Nat) (a:vK) (b c:Int) (d:(List Int)):Z78.l1 R N (n + 1) a b c d = (bif (decide (c < b)) then ((idx? a c).bind fun y17 => ((chk (decide ((List.length d + List.length (y17,()).1) * 8 ≤ 70368744177664))).bind fun _ => (Z78.l1 R N n a b (w64 (c + (1:Int))) (d ++ (y17,()).1)))) else some ⟨o_Z78,(d,())⟩) := (hw _ _).trans (by kernel_rfl)
theorem Z78.l0_succ (R:Run) (hw:R.ok) (N n:Nat) (a:vK) (b:Int) (c:vK) (d e:Int):Z78.l0 R N (n + 1) a b c d e = (bif (decide (e < d)) then ((idx? c e).bind fun y6 => (bif (decide ((w64 (b + (List.length (y6,()).1:Int))) < (0:Int))) then none else (Z78.l0 R N n a (w64 (b + (List.length (y6,()).1:Int))) c d (w64 (e + (1:Int)))))) else ((callT R n_Z86 o_Z86 [⟨yL,([]:List Int)⟩,⟨yI,b⟩]).bind fun r12 => (Z78.l1 R N N a (List.length a:Int) (0:Int) r12.1))) := (hw _ _).trans (by kernel_rfl)
theorem Z78.ev (R:Run) (N:Nat) (a0:vK):evFn E R sg_Z78 pol_Z78 F_Z78 N [⟨yK,a0⟩] = (Z78.l0 R N N a0 (0:Int) a0 (List.length a0:Int) (0:Int)) := by kernel_rfl
noncomputable def Z29.l0 (R:Run) (N n:Nat) (a:(List Int)) (b e:Int) (f:vK):Option Dv := R.w (some ⟨(.c (.d yL a)::(V.dead::(V.dead::(.c (.arr 24)::(V.dead::(V.dead::(.c (.d yI b)::(.c (.d yI e)::(zd 19 []))))))))),(zo 24 (some (.arr yL f true false false)::(zo 4 [])))⟩) fun st => lC R pol_Z29 3 N [1,1,0,1,0,0] F_Z29 n st (kB R pol_Z29 0 (kS R pol_Z29 8 N [1,1,1] F_Z29 (kTop E sg_Z29 F_Z29)))
theorem Z29.l0_succ (R:Run) (hw:R.ok) (N n:Nat) (a:(List Int)) (b c:Int) (d:vK):Z29.l0 R N (n + 1) a b c d = (bif (decide (c < b)) then (bif (decide ((List.length a:Int) > (1:Int))) then ((chk (decide (0 ≤ c) && decide (c ≤ (List.length a:Int)))).bind fun _ => ((chk (decide (0 ≤ (w64 (c + (1:Int)))) && decide ((w64 (c + (1:Int))) ≤ (List.length a:Int)))).bind fun _ => ((callT R n_Z78 o_Z78 [⟨yK,[(List.take (Int.toNat c) a),(List.drop (Int.toNat (w64 (c + (1:Int)))) a)]⟩]).bind fun r5 => ((chk (decide ((List.length d + List.length [r5.1]) * 24 ≤ 70368744177664))).bind fun _ => (Z29.l0 R N n a b (w64 (c + (1:Int))) (d ++ [r5.1])))))) else (Z29.l0 R N n a b (w64 (c + (1:Int))) d)) else some ⟨o_Z29,(d,())⟩) := (hw _ _).trans (by kernel_rfl)
theorem Z29.ev (R:Run) (N:Nat) (a0:(List Int)):evFn E R sg_Z29 pol_Z29 F_Z29 N [⟨yL,a0⟩] = (Z29.l0 R N N a0 (List.length a0:Int) (0:Int) ([]:List (List Int))) := by kernel_rfl
noncomputable def Z74.l0 (R:Run) (N n:Nat) (a:vK) (b:(List Int)) (e f g:Int):Option Dv := R.w (some ⟨(.c (.d yK a)::(.c (.d yL b)::(.c (.d (.fn n_Z21 .nil) ())::(zd 5 (.c (.d yI e)::(.c (.d yI f)::(.c (.d yI g)::(zd 38 [])))))))),(zo 52 [])⟩) fun st => lC R pol_Z73 3 N [1,1,1,0,0,0] F_Z73 n st (kB R pol_Z73 0 (kS R pol_Z73 8 N [1,1,1,1] F_Z73 (kTop E sg_Z73 F_Z73)))
theorem Z74.l0_succ (R:Run) (hw:R.ok) (N n:Nat) (a:vK) (b:(List Int)) (c d e:Int):Z74.l0 R N (n + 1) a b c d e = (bif (decide (d < e)) then ((chk (decide (0 ≤ (1:Int)))).bind fun _ => ((idx? a (w64 ((Int.fdiv (IntKind.wrap .u64 ((w64 (d + e)))) (2 ^ (min (Int.toNat (1:Int)) (IntKind.bits .u64))))))).bind fun y6 => ((callT R n_Z21 o_Z21 [⟨yL,(y6,()).1⟩,⟨yL,b⟩]).bind fun r7 => (bif (decide (r7.1 < (0:Int))) then (Z74.l0 R N n a b c (w64 ((w64 ((Int.fdiv (IntKind.wrap .u64 ((w64 (d + e)))) (2 ^ (min (Int.toNat (1:Int)) (IntKind.bits .u64)))))) + (1:Int))) e) else (Z74.l0 R N n a b c d (w64 ((Int.fdiv (IntKind.wrap .u64 ((w64 (d + e)))) (2 ^ (min (Int.toNat (1:Int)) (IntKind.bits .u64))))))))))) else (bif (decide (d < c)) then ((idx? a d).bind fun y18 => ((callT R n_Z21 o_Z21 [⟨yL,(y18,()).1⟩,⟨yL,b⟩]).bind fun r19 => some ⟨o_Z73,(d,(r19.1 == (0:Int)),())⟩)) else some ⟨o_Z73,(d,false,())⟩)) := (hw _ _).trans (by kernel_rfl)
theorem Z74.ev (R:Run) (N:Nat) (a0:vK) (a1:(List Int)):evFn E R sg_Z73 pol_Z73 F_Z73 N [⟨yK,a0⟩,⟨yL,a1⟩,⟨(.fn n_Z21 .nil),()⟩] = (Z74.l0 R N N a0 a1 (List.length a0:Int) (0:Int) (List.length a0:Int)) := by kernel_rfl
theorem Z36.ev (R:Run) (N:Nat) (a0:vK) (a1:(List Int)):evFn E R sg_Z36 pol_Z36 F_Z36 N [⟨yK,a0⟩,⟨yL,a1⟩] = ((callT R n_Z73 o_Z73 [⟨yK,a0⟩,⟨yL,a1⟩,⟨(.fn n_Z21 .nil),()⟩]).bind fun r1 => (bif (!r1.2.1) then some ⟨o_Z36,((-1:Int),())⟩ else some ⟨o_Z36,(r1.1,())⟩)) := by kernel_rfl
theorem Z9.ev (R:Run) (N:Nat) (a0:(List Int)) (a1:(vK × Unit)) (a2:(Int × Unit)):evFn E R sg_Z9 pol_Z9 F_Z9 N [⟨yL,a0⟩,⟨(.ptr (.cons yK .nil)),a1⟩,⟨(.ptr (.cons yI .nil)),a2⟩] = ((chk (decide (0 ≤ a2.1) && decide (a2.1 ≤ (List.length a1.1:Int)))).bind fun _ => ((callT R n_Z36 o_Z36 [⟨yK,(List.take (Int.toNat a2.1) a1.1)⟩,⟨yL,a0⟩]).bind fun r1 => some ⟨o_Z9,((decide (r1.1 < (0:Int))),())⟩)) := by kernel_rfl
noncomputable def Z88.l0 (R:Run) (N n:Nat) (a:vK) (b:((vK × Unit) × (Int × Unit) × Unit)) (e f:Int):Option Dv := R.w (some ⟨(.c (.d yK a)::(.c (.d (.fn n_Z9 (.cons (.ptr (.cons yK .nil)) (.cons (.ptr (.cons yI .nil)) .nil))) b)::(zd 5 (.c (.d yI e)::(.c (.d yI f)::(zd 10 [])))))),(zo 21 [])⟩) fun st => q1_2 R N n st (kB R pol_Z87 0 (q1_0 R N (kTop E sg_Z87 F_Z87)))
theorem Z88.l0_succ (R:Run) (hw:R.ok) (N n:Nat) (a:vK) (b:((vK × Unit) × (Int × Unit) × Unit)) (c d:Int):Z88.l0 R N (n + 1) a b c d = (bif (decide (d < c)) then ((idx? a d).bind fun y5 => ((callT R n_Z9 o_Z9 [⟨yL,(y5,()).1⟩,⟨(.ptr (.cons yK .nil)),b.1⟩,⟨(.ptr (.cons yI .nil)),b.2.1⟩]).bind fun r6 => (bif r6.1 then some ⟨o_Z87,(d,())⟩ else (Z88.l0 R N n a b c (w64 (d + (1:Int))))))) else some ⟨o_Z87,((-1:Int),())⟩) := (hw _ _).trans (by kernel_rfl)
theorem Z88.ev (R:Run) (N:Nat) (a0:vK) (a1:((vK × Unit) × (Int × Unit) × Unit)):evFn E R sg_Z87 pol_Z87 F_Z87 N [⟨yK,a0⟩,⟨(.fn n_Z9 (.cons (.ptr (.cons yK .nil)) (.cons (.ptr (.cons yI .nil)) .nil))),a1⟩] = (Z88.l0 R N N a0 a1 (List.length a0:Int) (0:Int)) := by kernel_rfl
theorem Z80.ev (R:Run) (N:Nat) (a0:vK) (a1:((vK × Unit) × (Int × Unit) × Unit)):evFn E R sg_Z79 pol_Z79 F_Z79 N [⟨yK,a0⟩,⟨(.fn n_Z9 (.cons (.ptr (.cons yK .nil)) (.cons (.ptr (.cons yI .nil)) .nil))),a1⟩] = ((callT R n_Z87 o_Z87 [⟨yK,a0⟩,⟨(.fn n_Z9 (.cons (.ptr (.cons yK .nil)) (.cons (.ptr (.cons yI .nil)) .nil))),a1⟩]).bind fun r1 => some ⟨o_Z79,((decide (r1.1 ≥ (0:Int))),())⟩) := by kernel_rfl
noncomputable def Z8.j1 (R:Run) (N a:Nat) (b:(List Int)) (e:vK) (f g:Int) (h:Bool) (i:vK) (j:Int):Option Dv := R.w (some ⟨(V.dead::(.c (.box 1 0)::(V.dead::(.c (.box 3 0)::(.c (.d yL b)::(V.dead::(.c (.d yK e)::(.c (.d yI f)::(.c (.d yI g)::(zd 21 (.c (.d .bool h)::(zd 9 [])))))))))))),(none::(some (.box [.d yK i] true false)::(none::(some (.box [.d yI j] false false)::(zo 37 [])))))⟩) fun st => eC R pol_Z8 N [1,0,1,0,0,1,1,0,0,1,0,1] F_Z8 st (kS R pol_Z8 6 N [1,0,1,0,0,1,1,0,0,1,1] F_Z8 (kB R pol_Z8 1 (kS R pol_Z8 8 N [1,0,1,0,0,1,1,1] F_Z8 (kL R pol_Z8 2 N [1,0,1,0,0] F_Z8 a (kB R pol_Z8 0 (kS R pol_Z8 9 N [1,1] F_Z8 (kTop E sg_Z8 F_Z8)))))))
noncomputable def Z8.l0 (R:Run) (N n:Nat) (a:vK) (b e:Int) (f:vK):Option Dv := R.w (some ⟨(V.dead::(.c (.box 1 0)::(zd 4 (.c (.d yK a)::(.c (.d yI b)::(.c (.d yI e)::(zd 31 []))))))),(none::(some (.box [.d yK f] true false)::(zo 39 [])))⟩) fun st => lC R pol_Z8 2 N [1,0,1,0,0] F_Z8 n st (kB R pol_Z8 0 (kS R pol_Z8 9 N [1,1] F_Z8 (kTop E sg_Z8 F_Z8)))
theorem Z8.j1_eq (R:Run) (hw:R.ok) (N a:Nat) (b:(List Int)) (c:vK) (d e:Int) (f:Bool) (g:vK) (h:Int):Z8.j1 R N a b c d e f g h = (bif f then some ⟨o_Z8,(false,())⟩ else ((callT R n_Z29 o_Z29 [⟨yL,b⟩]).bind fun r14 => ((callT R n_Z79 o_Z79 [⟨yK,r14.1⟩,⟨(.fn n_Z9 (.cons (.ptr (.cons yK .nil)) (.cons (.ptr (.cons yI .nil)) .nil))),((g,()),(h,()),())⟩]).bind fun r15 => (bif r15.1 then some ⟨o_Z8,(false,())⟩ else (Z8.l0 R N a c d (w64 (e + (1:Int))) g))))) := (hw _ _).trans (by kernel_rfl)
theorem Z8.l0_succ (R:Run) (hw:R.ok) (N n:Nat) (a:vK) (b c:Int) (d:vK):Z8.l0 R N (n + 1) a b c d = (bif (decide (c < b)) then ((idx? a c).bind fun y5 => ((callT R n_Z11 o_Z11 [⟨yL,(y5,()).1⟩]).bind fun r6 => (bif (!r6.1) then (Z8.j1 R N n ((y5,()).1) a b c true d c) else (bif (decide (c > (0:Int))) then ((idx? d (w64 (c - (1:Int)))).bind fun y20 => ((callT R n_Z21 o_Z21 [⟨yL,(y20,()).1⟩,⟨yL,(y5,()).1⟩]).bind fun r21 => (Z8.j1 R N n ((y5,()).1) a b c (decide (r21.1 ≥ (0:Int))) d c))) else (Z8.j1 R N n ((y5,()).1) a b c false d c))))) else some ⟨o_Z8,((decide ((List.length d:Int) ≤ (48:Int))),())⟩) := (hw _ _).trans (by kernel_rfl)
theorem Z8.ev (R:Run) (N:Nat) (a0:vK):evFn E R sg_Z8 pol_Z8 F_Z8 N [⟨yK,a0⟩] = (Z8.l0 R N N a0 (List.length a0:Int) (0:Int) a0) := by kernel_rfl
noncomputable def Z59.l0 (R:Run) (N n:Nat) (a:vK) (b e:Int) (f:(List Int)):Option Dv := R.w (some ⟨(zd 3 (.c (.arr 21)::(zd 3 (.c (.d yK a)::(.c (.d yI b)::(.c (.d yI e)::(zd 14 []))))))),(zo 21 (some (.arr yI f true false false)::(zo 3 [])))⟩) fun st => lC R pol_Z59 3 N [1,1,0,1,0,0] F_Z59 n st (kB R pol_Z59 0 (kS R pol_Z59 8 N [1,1,1] F_Z59 (kTop E sg_Z59 F_Z59)))
theorem Z59.l0_succ (R:Run) (hw:R.ok) (N n:Nat) (a:vK) (b c:Int) (d:(List Int)):Z59.l0 R N (n + 1) a b c d = (bif (decide (c < b)) then ((idx? a c).bind fun y5 => (bif ((List.length (y5,()).1:Int) == (1:Int)) then ((idx? (y5,()).1 (0:Int)).bind fun y6 => ((chk (decide ((List.length d + List.length [(y6,()).1]) * 8 ≤ 70368744177664))).bind fun _ => (Z59.l0 R N n a b (w64 (c + (1:Int))) (d ++ [(y6,()).1])))) else (Z59.l0 R N n a b (w64 (c + (1:Int))) d))) else some ⟨o_Z59,(d,())⟩) := (hw _ _).trans (by kernel_rfl)
theorem Z59.ev (R:Run) (N:Nat) (a0:vK):evFn E R sg_Z59 pol_Z59 F_Z59 N [⟨yK,a0⟩] = (Z59.l0 R N N a0 (List.length a0:Int) (0:Int) ([]:List Int)) := by kernel_rfl
noncomputable def Z95.l0 (R:Run) (N n:Nat) (a:(List Int)) (b e f:Int):Option Dv := R.w (some ⟨(.c (.d yL a)::(.c (.d yI b)::(zd 5 (.c (.d yI e)::(.c (.d yI f)::(zd 10 [])))))),(zo 21 [])⟩) fun st => lC R pol_Z95 2 N [1,0,1,0,0] F_Z95 n st (kB R pol_Z95 0 (kS R pol_Z95 7 N [1,1] F_Z95 (kTop E sg_Z95 F_Z95)))
theorem Z95.l0_succ (R:Run) (hw:R.ok) (N n:Nat) (a:(List Int)) (b c d:Int):Z95.l0 R N (n + 1) a b c d = (bif (decide (d < c)) then ((idx? a d).bind fun y5 => (bif (b == (y5,()).1) then some ⟨o_Z95,(d,())⟩ else (Z95.l0 R N n a b c (w64 (d + (1:Int)))))) else some ⟨o_Z95,((-1:Int),())⟩) := (hw _ _).trans (by kernel_rfl)
theorem Z95.ev (R:Run) (N:Nat) (a0:(List Int)) (a1:Int):evFn E R sg_Z95 pol_Z95 F_Z95 N [⟨yL,a0⟩,⟨yI,a1⟩] = (Z95.l0 R N N a0 a1 (List.length a0:Int) (0:Int)) := by kernel_rfl
noncomputable def Z34.l0 (R:Run) (N n:Nat) (a b e:(List Int)) (f g:Int) (h:(List Int)):Option Dv := R.w (some ⟨(V.dead::(.c (.d yL a)::(zd 5 (.c (.d yL b)::(.c (.arr 27)::(zd 4 (.c (.d yL e)::(.c (.d yI f)::(.c (.d yI g)::(zd 17 [])))))))))),(zo 27 (some (.arr yI h true false false)::(zo 9 [])))⟩) fun st => lC R pol_Z34 4 N [1,1,1,0,1,0,0] F_Z34 n st (kB R pol_Z34 0 (kS R pol_Z34 8 N [1,1,1,1] F_Z34 (kTop E sg_Z34 F_Z34)))
theorem Z34.l0_succ (R:Run) (hw:R.ok) (N n:Nat) (a b c:(List Int)) (d e:Int) (f:(List Int)):Z34.l0 R N (n + 1) a b c d e f = (bif (decide (e < d)) then ((idx? c e).bind fun y8 => ((callT R n_Z95 o_Z95 [⟨yL,b⟩,⟨yI,(y8,()).1⟩]).bind fun r9 => ((idx? a r9.1).bind fun y10 => ((chk (decide ((List.length f + List.length [(y10,()).1]) * 8 ≤ 70368744177664))).bind fun _ => (Z34.l0 R N n a b c d (w64 (e + (1:Int))) (f ++ [(y10,()).1])))))) else ((callT R n_Z96 o_Z96 [⟨yL,f⟩]).bind fun r17 => ((callT R n_Z76 o_Z76 [⟨yL,r17.1⟩]).bind fun r18 => some ⟨o_Z34,(r18.1,())⟩))) := (hw _ _).trans (by kernel_rfl)
theorem Z34.ev (R:Run) (N:Nat) (a0:vK) (a1 a2:(List Int)):evFn E R sg_Z34 pol_Z34 F_Z34 N [⟨yK,a0⟩,⟨yL,a1⟩,⟨yL,a2⟩] = ((callT R n_Z59 o_Z59 [⟨yK,a0⟩]).bind fun r1 => (Z34.l0 R N N a1 r1.1 a2 (List.length a2:Int) (0:Int) ([]:List Int))) := by kernel_rfl
theorem Z41.ev (R:Run) (N:Nat) (a0:(List Int)) (a1 a2:(vK × Unit)) (a3:((List Int) × Unit)):evFn E R sg_Z41 pol_Z41 F_Z41 N [⟨yL,a0⟩,⟨(.ptr (.cons yK .nil)),a1⟩,⟨(.ptr (.cons yK .nil)),a2⟩,⟨(.ptr (.cons yL .nil)),a3⟩] = ((callT R n_Z34 o_Z34 [⟨yK,a2.1⟩,⟨yL,a3.1⟩,⟨yL,a0⟩]).bind fun r1 => ((callT R n_Z36 o_Z36 [⟨yK,a1.1⟩,⟨yL,r1.1⟩]).bind fun r2 => some ⟨o_Z41,((decide (r2.1 < (0:Int))),())⟩)) := by kernel_rfl
noncomputable def Z90.l0 (R:Run) (N n:Nat) (a:vK) (b:((vK × Unit) × (vK × Unit) × ((List Int) × Unit) × Unit)) (e f:Int):Option Dv := R.w (some ⟨(.c (.d yK a)::(.c (.d (.fn n_Z41 (.cons (.ptr (.cons yK .nil)) (.cons (.ptr (.cons yK .nil)) (.cons (.ptr (.cons yL .nil)) .nil)))) b)::(zd 5 (.c (.d yI e)::(.c (.d yI f)::(zd 10 [])))))),(zo 21 [])⟩) fun st => q1_2 R N n st (kB R pol_Z87 0 (q1_0 R N (kTop E sg_Z87 F_Z87)))
theorem Z90.l0_succ (R:Run) (hw:R.ok) (N n:Nat) (a:vK) (b:((vK × Unit) × (vK × Unit) × ((List Int) × Unit) × Unit)) (c d:Int):Z90.l0 R N (n + 1) a b c d = (bif (decide (d < c)) then ((idx? a d).bind fun y5 => ((callT R n_Z41 o_Z41 [⟨yL,(y5,()).1⟩,⟨(.ptr (.cons yK .nil)),b.1⟩,⟨(.ptr (.cons yK .nil)),b.2.1⟩,⟨(.ptr (.cons yL .nil)),b.2.2.1⟩]).bind fun r6 => (bif r6.1 then some ⟨o_Z87,(d,())⟩ else (Z90.l0 R N n a b c (w64 (d + (1:Int))))))) else some ⟨o_Z87,((-1:Int),())⟩) := (hw _ _).trans (by kernel_rfl)
theorem Z90.ev (R:Run) (N:Nat) (a0:vK) (a1:((vK × Unit) × (vK × Unit) × ((List Int) × Unit) × Unit)):evFn E R sg_Z87 pol_Z87 F_Z87 N [⟨yK,a0⟩,⟨(.fn n_Z41 (.cons (.ptr (.cons yK .nil)) (.cons (.ptr (.cons yK .nil)) (.cons (.ptr (.cons yL .nil)) .nil)))),a1⟩] = (Z90.l0 R N N a0 a1 (List.length a0:Int) (0:Int)) := by kernel_rfl
theorem Z81.ev (R:Run) (N:Nat) (a0:vK) (a1:((vK × Unit) × (vK × Unit) × ((List Int) × Unit) × Unit)):evFn E R sg_Z79 pol_Z79 F_Z79 N [⟨yK,a0⟩,⟨(.fn n_Z41 (.cons (.ptr (.cons yK .nil)) (.cons (.ptr (.cons yK .nil)) (.cons (.ptr (.cons yL .nil)) .nil)))),a1⟩] = ((callT R n_Z87 o_Z87 [⟨yK,a0⟩,⟨(.fn n_Z41 (.cons (.ptr (.cons yK .nil)) (.cons (.ptr (.cons yK .nil)) (.cons (.ptr (.cons yL .nil)) .nil)))),a1⟩]).bind fun r1 => some ⟨o_Z79,((decide (r1.1 ≥ (0:Int))),())⟩) := by kernel_rfl
theorem Z40.ev (R:Run) (N:Nat) (a0 a1:vK) (a2:(List Int)):evFn E R sg_Z40 pol_Z40 F_Z40 N [⟨yK,a0⟩,⟨yK,a1⟩,⟨yL,a2⟩] = ((callT R n_Z59 o_Z59 [⟨yK,a0⟩]).bind fun r1 => (bif ((List.length a2:Int) != (List.length r1.1:Int)) then some ⟨o_Z40,(false,())⟩ else ((callT R n_Z79 o_Z79 [⟨yK,a0⟩,⟨(.fn n_Z41 (.cons (.ptr (.cons yK .nil)) (.cons (.ptr (.cons yK .nil)) (.cons (.ptr (.cons yL .nil)) .nil)))),((a1,()),(a0,()),(a2,()),())⟩]).bind fun r2 => some ⟨o_Z40,((!r2.1),())⟩))) := by kernel_rfl
noncomputable def Z47.j0 (R:Run) (N:Nat) (a:(List Int)) (b:Bool) (e f:vK):Option Dv := R.w (some ⟨(V.dead::(V.dead::(.c (.d yL a)::(.c (.box 3 0)::(.c (.box 4 0)::(V.dead::(V.dead::(.c (.d .bool b)::(zd 14 []))))))))),(zo 3 (some (.box [.d yK e] false false)::(some (.box [.d yK f] false false)::(zo 20 []))))⟩) fun st => eC R pol_Z47 N [1,0,0,1] F_Z47 st (kB R pol_Z47 0 (kS R pol_Z47 5 N [1,1] F_Z47 (kTop E sg_Z47 F_Z47)))
theorem Z47.j0_eq (R:Run) (hw:R.ok) (N:Nat) (a:(List Int)) (b:Bool) (c d:vK):Z47.j0 R N a b c d = (bif b then some ⟨o_Z47,((1:Int),())⟩ else ((callT R n_Z40 o_Z40 [⟨yK,c⟩,⟨yK,d⟩,⟨yL,a⟩]).bind fun r6 => (bif (!r6.1) then some ⟨o_Z47,((7:Int),())⟩ else some ⟨o_Z47,((0:Int),())⟩))) := (hw _ _).trans (by kernel_rfl)
theorem Z47.ev (R:Run) (N:Nat) (a0 a1:vK) (a2:(List Int)):evFn E R sg_Z47 pol_Z47 F_Z47 N [⟨yK,a0⟩,⟨yK,a1⟩,⟨yL,a2⟩] = ((callT R n_Z8 o_Z8 [⟨yK,a0⟩]).bind fun r1 => (bif (!r1.1) then (Z47.j0 R N a2 true a0 a1) else ((callT R n_Z8 o_Z8 [⟨yK,a1⟩]).bind fun r7 => (Z47.j0 R N a2 (!r7.1) a0 a1)))) := by kernel_rfl
theorem Z39.ev (R:Run) (N:Nat) (a0:Int):evFn E R sg_Z39 pol_Z39 F_Z39 N [⟨yI,a0⟩] = ((callT R n_Z60 o_Z60 [⟨yI,a0⟩,⟨yI,(0:Int)⟩,⟨yI,(3:Int)⟩]).bind fun r1 => some ⟨o_Z39,(r1.1,())⟩) := by kernel_rfl
theorem Z55.ev (R:Run) (N:Nat) (a0:(List Int)):evFn E R sg_Z55 pol_Z55 F_Z55 N [⟨yL,a0⟩] = some ⟨o_Z55,((List.length a0:Int),())⟩ := by kernel_rfl
noncomputable def Z53.l0 (R:Run) (N n:Nat) (a:Int) (b:vK) (e f:Int) (g:(List Int)):Option Dv := R.w (some ⟨(V.dead::(.c (.d yI a)::(zd 3 (.c (.arr 24)::(zd 3 (.c (.d yK b)::(.c (.d yI e)::(.c (.d yI f)::(zd 15 []))))))))),(zo 24 (some (.arr yI g true false false)::(zo 4 [])))⟩) fun st => lC R pol_Z53 3 N [1,1,0,1,0,0] F_Z53 n st (kB R pol_Z53 0 (kS R pol_Z53 8 N [1,1,1] F_Z53 (kTop E sg_Z53 F_Z53)))
theorem Z53.l0_succ (R:Run) (hw:R.ok) (N n:Nat) (a:Int) (b:vK) (c d:Int) (e:(List Int)):Z53.l0 R N (n + 1) a b c d e = (bif (decide (d < c)) then ((idx? b d).bind fun y6 => ((callT R n_Z55 o_Z55 [⟨yL,(y6,()).1⟩]).bind fun r7 => (bif (r7.1 == (w64 (a + (1:Int)))) then ((chk (decide ((List.length e + List.length [d]) * 8 ≤ 70368744177664))).bind fun _ => (Z53.l0 R N n a b c (w64 (d + (1:Int))) (e ++ [d]))) else (Z53.l0 R N n a b c (w64 (d + (1:Int))) e)))) else some ⟨o_Z53,(e,())⟩) := (hw _ _).trans (by kernel_rfl)
theorem Z53.ev (R:Run) (N:Nat) (a0:vK) (a1:Int):evFn E R sg_Z53 pol_Z53 F_Z53 N [⟨yK,a0⟩,⟨yI,a1⟩] = (Z53.l0 R N N a1 a0 (List.length a0:Int) (0:Int) ([]:List Int)) := by kernel_rfl
noncomputable def Z19.j1 (R:Run) (N a:Nat) (b e f:Int) (g:Bool) (h i:vK):Option Dv := R.w (some ⟨(zd 3 (.c (.d yI b)::(V.dead::(.c (.d yI e)::(.c (.box 6 0)::(.c (.box 7 0)::(zd 6 (.c (.d yI f)::(zd 34 (.c (.d .bool g)::[])))))))))),(zo 6 (some (.box [.d yK h] false false)::(some (.box [.d yK i] false false)::(zo 48 []))))⟩) fun st => eC R pol_Z19 N [1,1,1,1,0,1,0,0,1,0,0,1] F_Z19 st (kB R pol_Z19 1 (kS R pol_Z19 10 N [1,1,1,1,0,1,0,0,1,1] F_Z19 (kL R pol_Z19 9 N [1,1,1,1,0,1,0,0] F_Z19 a (kB R pol_Z19 0 (kS R pol_Z19 13 N [1,1,1,1,1] F_Z19 (kTop E sg_Z19 F_Z19))))))
noncomputable def Z19.l0 (R:Run) (N n:Nat) (a b e:Int) (f g:vK):Option Dv := R.w (some ⟨(zd 3 (.c (.d yI a)::(V.dead::(.c (.d yI b)::(.c (.box 6 0)::(.c (.box 7 0)::(zd 6 (.c (.d yI e)::(zd 35 []))))))))),(zo 6 (some (.box [.d yK f] false false)::(some (.box [.d yK g] false false)::(zo 48 []))))⟩) fun st => lC R pol_Z19 9 N [1,1,1,1,0,1,0,0] F_Z19 n st (kB R pol_Z19 0 (kS R pol_Z19 13 N [1,1,1,1,1] F_Z19 (kTop E sg_Z19 F_Z19)))
theorem Z19.j1_eq (R:Run) (hw:R.ok) (N a:Nat) (b c d:Int) (e:Bool) (f g:vK):Z19.j1 R N a b c d e f g = (bif e then some ⟨o_Z19,((5:Int),())⟩ else (Z19.l0 R N a b c (w64 (d + (1:Int))) f g)) := (hw _ _).trans (by kernel_rfl)
theorem Z19.l0_succ (R:Run) (hw:R.ok) (N n:Nat) (a b c:Int) (d e:vK):Z19.l0 R N (n + 1) a b c d e = (bif (decide (c ≤ (w64 (a + b)))) then ((callT R n_Z53 o_Z53 [⟨yK,d⟩,⟨yI,c⟩]).bind fun r9 => (bif (decide ((List.length r9.1:Int) > (32:Int))) then (Z19.j1 R N n a b c true d e) else ((callT R n_Z53 o_Z53 [⟨yK,e⟩,⟨yI,c⟩]).bind fun r21 => (Z19.j1 R N n a b c (decide ((List.length r21.1:Int) > (32:Int))) d e)))) else some ⟨o_Z19,((0:Int),())⟩) := (hw _ _).trans (by kernel_rfl)
theorem Z19.ev (R:Run) (N:Nat) (a0 a1:vK) (a2:(List Int)) (a3 a4 a5:Int):evFn E R sg_Z19 pol_Z19 F_Z19 N [⟨yK,a0⟩,⟨yK,a1⟩,⟨yL,a2⟩,⟨yI,a3⟩,⟨yI,a4⟩,⟨yI,a5⟩] = ((callT R n_Z10 o_Z10 [⟨yI,a4⟩]).bind fun r1 => (bif (!r1.1) then some ⟨o_Z19,((1:Int),())⟩ else ((callT R n_Z47 o_Z47 [⟨yK,a0⟩,⟨yK,a1⟩,⟨yL,a2⟩]).bind fun r2 => (bif (r2.1 != (0:Int)) then some ⟨o_Z19,(r2.1,())⟩ else ((callT R n_Z39 o_Z39 [⟨yI,a3⟩]).bind fun r3 => (bif (!r3.1) then some ⟨o_Z19,((2:Int),())⟩ else (Z19.l0 R N N a3 a5 (w64 (a3 - a5)) a0 a1))))))) := by kernel_rfl
theorem Z62.ev (R:Run) (N:Nat) (a0 a1:Int):evFn E R sg_Z62 pol_Z62 F_Z62 N [⟨yI,a0⟩,⟨yI,a1⟩] = some ⟨o_Z62,((0:Int),())⟩ := by kernel_rfl
noncomputable def Z32.l1 (R:Run) (N a n:Nat) (b e f g h i j k l m o p:Int) (q:(List Int)):Option Dv := R.w (some ⟨(V.dead::(V.dead::(.c (.d yI b)::(.c (.d (.fn n_Z62 .nil) ())::(zd 4 (.c (.box 8 0)::(.c (.box 9 0)::(.c (.d yI e)::(zd 5 (.c (.d yI f)::(.c (.d yI g)::(V.dead::(V.dead::(.c (.d yI h)::(.c (.d yI i)::(zd 14 [])))))))))))))))),(zo 8 (some (.box [.d yI j,.d yI k,.d yI l,.nils yI] false false)::(some (.box [.d yI m,.d yI o,.d yI p,.arr 31] false false)::(zo 21 (some (.arr yI q true false false)::(zo 8 []))))))⟩) fun st => lC R pol_Z30 6 N [1,1,0,1,0,0,1,1,0,0,1,1,0,0] F_Z30 n st (kB R pol_Z30 2 (kB R pol_Z30 1 (kS R pol_Z30 10 N [1,1,0,1,0,0,1,1,1] F_Z30 (kL R pol_Z30 3 N [1,1,0,1,0,0] F_Z30 a (kB R pol_Z30 0 (kS R pol_Z30 11 N [1,1,1] F_Z30 (kTop E sg_Z30 F_Z30)))))))
noncomputable def Z32.l0 (R:Run) (N n:Nat) (a b e f g h i j k:Int) (l:(List Int)):Option Dv := R.w (some ⟨(V.dead::(V.dead::(.c (.d yI a)::(.c (.d (.fn n_Z62 .nil) ())::(zd 4 (.c (.box 8 0)::(.c (.box 9 0)::(zd 6 (.c (.d yI b)::(.c (.d yI e)::(zd 18 []))))))))))),(zo 8 (some (.box [.d yI f,.d yI g,.d yI h,.nils yI] false false)::(some (.box [.d yI i,.d yI j,.d yI k,.arr 31] false false)::(zo 21 (some (.arr yI l true false false)::(zo 8 []))))))⟩) fun st => lC R pol_Z30 3 N [1,1,0,1,0,0] F_Z30 n st (kB R pol_Z30 0 (kS R pol_Z30 11 N [1,1,1] F_Z30 (kTop E sg_Z30 F_Z30)))
theorem Z32.l1_succ (R:Run) (hw:R.ok) (N a n:Nat) (b c d e f g h i j k l m:Int) (o:(List Int)):Z32.l1 R N a (n + 1) b c d e f g h i j k l m o = (bif (decide (g < f)) then ((callT R n_Z62 o_Z62 [⟨yI,c⟩,⟨yI,g⟩]).bind fun r24 => ((chk (decide ((List.length o + List.length [r24.1]) * 8 ≤ 70368744177664))).bind fun _ => (Z32.l1 R N a n b c d e f (w64 (g + (1:Int))) h i j k l m (o ++ [r24.1])))) else (Z32.l0 R N a b d (w64 (e + (1:Int))) h i j k l m o)) := (hw _ _).trans (by kernel_rfl)
theorem Z32.l0_succ (R:Run) (hw:R.ok) (N n:Nat) (a b c d e f g h i:Int) (j:(List Int)):Z32.l0 R N (n + 1) a b c d e f g h i j = (bif (decide (c < b)) then (Z32.l1 R N n N a c b c a (0:Int) d e f g h i j) else some ⟨o_Z30,(g,h,i,j,())⟩) := (hw _ _).trans (by kernel_rfl)
theorem Z32.ev (R:Run) (N:Nat) (a0 a1 a2:Int):evFn E R sg_Z30 pol_Z30 F_Z30 N [⟨yI,a0⟩,⟨yI,a1⟩,⟨yI,a2⟩,⟨(.fn n_Z62 .nil),()⟩] = (Z32.l0 R N N a2 a1 (0:Int) (0:Int) (0:Int) (0:Int) a0 a1 a2 ([]:List Int)) := by kernel_rfl
theorem Z61.ev (R:Run) (N:Nat) (a0 a1 a2:Int):evFn E R sg_Z61 pol_Z61 F_Z61 N [⟨yI,a0⟩,⟨yI,a1⟩,⟨yI,a2⟩] = ((callT R n_Z30 o_Z30 [⟨yI,a0⟩,⟨yI,a1⟩,⟨yI,a2⟩,⟨(.fn n_Z62 .nil),()⟩]).bind fun r1 => some ⟨o_Z61,(r1.1,r1.2.1,r1.2.2.1,r1.2.2.2.1,())⟩) := by kernel_rfl
noncomputable def Z38.j2 (R:Run) (N a b:Nat) (e f:(List Int)) (g h:Int) (i:(List Int)) (j k:Int) (l:(List Int)) (m o:Int) (p:Bool) (q:vK):Option Dv := R.w (some ⟨(V.dead::(.c (.d yL e)::(.c (.d yL f)::(.c (.box 3 0)::(zd 3 (.c (.d yI g)::(V.dead::(.c (.d yI h)::(V.dead::(V.dead::(.c (.d yL i)::(.c (.d yI j)::(.c (.d yI k)::(zd 6 (.c (.d yL l)::(.c (.d yI m)::(.c (.d yI o)::(zd 17 (.c (.d .bool p)::(zd 5 [])))))))))))))))))))),(zo 3 (some (.box [.d yK q] false false)::(zo 46 [])))⟩) fun st => eC R pol_Z38 N [1,1,0,1,0,0,1,1,0,0,1,1,0,0,1,1,0,0,1,1] F_Z38 st (kB R pol_Z38 3 (kS R pol_Z38 10 N [1,1,0,1,0,0,1,1,0,0,1,1,0,0,1,1,1] F_Z38 (kL R pol_Z38 6 N [1,1,0,1,0,0,1,1,0,0,1,1,0,0] F_Z38 b (kB R pol_Z38 2 (kB R pol_Z38 1 (kS R pol_Z38 11 N [1,1,0,1,0,0,1,1,1] F_Z38 (kL R pol_Z38 3 N [1,1,0,1,0,0] F_Z38 a (kB R pol_Z38 0 (q1_1 R N (kTop E sg_Z38 F_Z38))))))))))
noncomputable def Z38.l1 (R:Run) (N a n:Nat) (b e:(List Int)) (f g:Int) (h:(List Int)) (i j:Int) (k:(List Int)) (l m:Int) (o:vK):Option Dv := R.w (some ⟨(V.dead::(.c (.d yL b)::(.c (.d yL e)::(.c (.box 3 0)::(zd 3 (.c (.d yI f)::(V.dead::(.c (.d yI g)::(V.dead::(V.dead::(.c (.d yL h)::(.c (.d yI i)::(.c (.d yI j)::(zd 6 (.c (.d yL k)::(.c (.d yI l)::(.c (.d yI m)::(zd 23 [])))))))))))))))))),(zo 3 (some (.box [.d yK o] false false)::(zo 46 [])))⟩) fun st => lC R pol_Z38 6 N [1,1,0,1,0,0,1,1,0,0,1,1,0,0] F_Z38 n st (kB R pol_Z38 2 (kB R pol_Z38 1 (kS R pol_Z38 11 N [1,1,0,1,0,0,1,1,1] F_Z38 (kL R pol_Z38 3 N [1,1,0,1,0,0] F_Z38 a (kB R pol_Z38 0 (q1_1 R N (kTop E sg_Z38 F_Z38)))))))
noncomputable def Z38.l0 (R:Run) (N n:Nat) (a b:(List Int)) (e:Int) (f:(List Int)) (g h:Int) (i:vK):Option Dv := R.w (some ⟨(V.dead::(.c (.d yL a)::(.c (.d yL b)::(.c (.box 3 0)::(zd 3 (.c (.d yI e)::(zd 4 (.c (.d yL f)::(.c (.d yI g)::(.c (.d yI h)::(zd 32 []))))))))))),(zo 3 (some (.box [.d yK i] false false)::(zo 46 [])))⟩) fun st => lC R pol_Z38 3 N [1,1,0,1,0,0] F_Z38 n st (kB R pol_Z38 0 (q1_1 R N (kTop E sg_Z38 F_Z38)))
theorem Z38.j2_eq (R:Run) (hw:R.ok) (N a b:Nat) (c d:(List Int)) (e f:Int) (g:(List Int)) (h i:Int) (j:(List Int)) (k l:Int) (m:Bool) (o:vK):Z38.j2 R N a b c d e f g h i j k l m o = (bif m then (Z38.l1 R N a b c d (w64 (e + (1:Int))) f g h i j k (w64 (l + (1:Int))) o) else (Z38.l1 R N a b c d e f g h i j k (w64 (l + (1:Int))) o)) := (hw _ _).trans (by kernel_rfl)
theorem Z38.l1_succ (R:Run) (hw:R.ok) (N a n:Nat) (b c:(List Int)) (d e:Int) (f:(List Int)) (g h:Int) (i:(List Int)) (j k:Int) (l:vK):Z38.l1 R N a (n + 1) b c d e f g h i j k l = (bif (decide (k < j)) then ((idx? i k).bind fun y20 => (both (both ((callT R n_Z34 o_Z34 [⟨yK,l⟩,⟨yL,b⟩,⟨yL,[e]⟩]).bind fun r21 => ((idx? r21.1 (0:Int)).bind fun y22 => ((callT R n_Z34 o_Z34 [⟨yK,l⟩,⟨yL,b⟩,⟨yL,[(y20,()).1]⟩]).bind fun r23 => ((idx? r23.1 (0:Int)).bind fun y24 => (Z38.j2 R N a n b c d e f g h i j k (decide ((y22,()).1 < (y24,()).1)) l))))) ((callT R n_Z34 o_Z34 [⟨yK,l⟩,⟨yL,b⟩,⟨yL,[e]⟩]).bind fun r59 => ((idx? r59.1 (0:Int)).bind fun y60 => ((callT R n_Z34 o_Z34 [⟨yK,l⟩,⟨yL,b⟩,⟨yL,[(y20,()).1]⟩]).bind fun r61 => ((idx? r61.1 (0:Int)).bind fun y62 => (Z38.j2 R N a n b c d e f g h i j k (decide ((y60,()).1 < (y62,()).1)) l)))))) ((callT R n_Z34 o_Z34 [⟨yK,l⟩,⟨yL,b⟩,⟨yL,[e]⟩]).bind fun r75 => ((idx? r75.1 (0:Int)).bind fun y76 => ((callT R n_Z34 o_Z34 [⟨yK,l⟩,⟨yL,b⟩,⟨yL,[(y20,()).1]⟩]).bind fun r77 => ((idx? r77.1 (0:Int)).bind fun y78 => (Z38.j2 R N a n b c d e f g h i j k (decide ((y76,()).1 < (y78,()).1)) l))))))) else (Z38.l0 R N a b c d f g (w64 (h + (1:Int))) l)) := (hw _ _).trans (by kernel_rfl)
theorem Z38.l0_succ (R:Run) (hw:R.ok) (N n:Nat) (a b:(List Int)) (c:Int) (d:(List Int)) (e f:Int) (g:vK):Z38.l0 R N (n + 1) a b c d e f g = (bif (decide (f < e)) then ((idx? d f).bind fun y8 => ((chk (decide (0 ≤ f) && decide (f ≤ (List.length b:Int)))).bind fun _ => (Z38.l1 R N n N a b c ((y8,()).1) d e f (List.take (Int.toNat f) b) (List.length (List.take (Int.toNat f) b):Int) (0:Int) g))) else some ⟨o_Z38,(c,())⟩) := (hw _ _).trans (by kernel_rfl)
theorem Z38.ev (R:Run) (N:Nat) (a0:vK) (a1 a2:(List Int)):evFn E R sg_Z38 pol_Z38 F_Z38 N [⟨yK,a0⟩,⟨yL,a1⟩,⟨yL,a2⟩] = (Z38.l0 R N N a1 a2 (0:Int) a2 (List.length a2:Int) (0:Int) a0) := by kernel_rfl
theorem Z14.ev (R:Run) (N:Nat) (a0 a1:Int):evFn E R sg_Z14 pol_Z14 F_Z14 N [⟨yI,a0⟩,⟨yI,a1⟩] = (bif ((Int.tmod a0 (2:Int)) == (0:Int)) then some ⟨o_Z14,((1:Int),())⟩ else some ⟨o_Z14,((w64 (a1 - (1:Int))),())⟩) := by kernel_rfl
noncomputable def Z18.l0 (R:Run) (N n:Nat) (a:(List Int)) (b:Int) (e f g:(List Int)) (h i:Int) (j k:vK) (l m o p q r:Int) (s:(List Int)):Option Dv := R.w (some ⟨(V.dead::(V.dead::(.c (.d yL a)::(V.dead::(.c (.d yI b)::(.c (.box 5 0)::(.c (.box 6 0)::(zd 3 (.c (.box 10 0)::(.c (.d yL e)::(.c (.d yL f)::(.c (.box 13 0)::(zd 17 (.c (.d yL g)::(.c (.d yI h)::(.c (.d yI i)::(zd 40 []))))))))))))))))),(zo 5 (some (.box [.d yK j] false false)::(some (.box [.d yK k] false false)::(zo 3 (some (.box [.d yI l,.d yI m,.d yI o,.nils yI] false false)::(none::(none::(some (.box [.d yI p,.d yI q,.d yI r,.arr 79] false false)::(zo 65 (some (.arr yI s true false false)::[]))))))))))⟩) fun st => lC R pol_Z18 4 N [1,1,1,0,1,0,0] F_Z18 n st (kB R pol_Z18 0 (kS R pol_Z18 12 N [1,1,1,1] F_Z18 (kTop E sg_Z18 F_Z18)))
theorem Z18.l0_succ (R:Run) (hw:R.ok) (N n:Nat) (a:(List Int)) (b:Int) (c d e:(List Int)) (f g:Int) (h i:vK) (j k l m o p:Int) (q:(List Int)):Z18.l0 R N (n + 1) a b c d e f g h i j k l m o p q = (bif (decide (g < f)) then ((idx? e g).bind fun y22 => ((idx? h (y22,()).1).bind fun y23 => ((callT R n_Z34 o_Z34 [⟨yK,h⟩,⟨yL,a⟩,⟨yL,(y23,()).1⟩]).bind fun r24 => (bif ((List.length r24.1:Int) == (List.length (y23,()).1:Int)) then ((callT R n_Z36 o_Z36 [⟨yK,i⟩,⟨yL,r24.1⟩]).bind fun r25 => ((callT R n_Z95 o_Z95 [⟨yL,d⟩,⟨yI,r25.1⟩]).bind fun r26 => ((callT R n_Z38 o_Z38 [⟨yK,h⟩,⟨yL,a⟩,⟨yL,(y23,()).1⟩]).bind fun r27 => ((callT R n_Z14 o_Z14 [⟨yI,r27.1⟩,⟨yI,b⟩]).bind fun r28 => ((chk (decide (0 ≤ (w64 ((w64 (r26.1 * (List.length c:Int))) + g))) && decide ((w64 ((w64 (r26.1 * (List.length c:Int))) + g)) < (List.length q:Int)))).bind fun _ => (Z18.l0 R N n a b c d e f (w64 (g + (1:Int))) h i j k l m o p (List.set q (Int.toNat (w64 ((w64 (r26.1 * (List.length c:Int))) + g))) r28.1))))))) else (Z18.l0 R N n a b c d e f (w64 (g + (1:Int))) h i j k l m o p q))))) else some ⟨o_Z18,(m,o,p,q,())⟩) := (hw _ _).trans (by kernel_rfl)
theorem Z18.ev (R:Run) (N:Nat) (a0 a1:vK) (a2:(List Int)) (a3 a4:Int):evFn E R sg_Z18 pol_Z18 F_Z18 N [⟨yK,a0⟩,⟨yK,a1⟩,⟨yL,a2⟩,⟨yI,a3⟩,⟨yI,a4⟩] = ((callT R n_Z53 o_Z53 [⟨yK,a0⟩,⟨yI,a3⟩]).bind fun r1 => ((callT R n_Z53 o_Z53 [⟨yK,a1⟩,⟨yI,a3⟩]).bind fun r2 => ((callT R n_Z55 o_Z55 [⟨yL,r2.1⟩]).bind fun r3 => ((callT R n_Z55 o_Z55 [⟨yL,r1.1⟩]).bind fun r4 => ((callT R n_Z61 o_Z61 [⟨yI,a4⟩,⟨yI,r3.1⟩,⟨yI,r4.1⟩]).bind fun r5 => (Z18.l0 R N N a2 a4 r1.1 r2.1 r1.1 (List.length r1.1:Int) (0:Int) a0 a1 (0:Int) (0:Int) (0:Int) r5.1 r5.2.1 r5.2.2.1 r5.2.2.2.1)))))) := by kernel_rfl
noncomputable def Z28.l0 (R:Run) (N n:Nat) (a:vK) (b e:Int) (f:vK) (g:(List Int)):Option Dv := R.w (some ⟨(V.dead::(V.dead::(.c (.box 2 0)::(V.dead::(V.dead::(.c (.arr 24)::(zd 7 (.c (.d yK a)::(.c (.d yI b)::(.c (.d yI e)::(zd 11 []))))))))))),(none::(none::(some (.box [.d yK f] false false)::(zo 21 (some (.arr yI g true false false)::(zo 4 []))))))⟩) fun st => lC R pol_Z28 3 N [1,1,0,1,0,0] F_Z28 n st (kB R pol_Z28 0 (kS R pol_Z28 7 N [1,1,1] F_Z28 (kTop E sg_Z28 F_Z28)))
theorem Z28.l0_succ (R:Run) (hw:R.ok) (N n:Nat) (a:vK) (b c:Int) (d:vK) (e:(List Int)):Z28.l0 R N (n + 1) a b c d e = (bif (decide (c < b)) then ((idx? a c).bind fun y8 => ((callT R n_Z36 o_Z36 [⟨yK,d⟩,⟨yL,(y8,()).1⟩]).bind fun r9 => ((chk (decide ((List.length e + List.length [r9.1]) * 8 ≤ 70368744177664))).bind fun _ => (Z28.l0 R N n a b (w64 (c + (1:Int))) d (e ++ [r9.1]))))) else some ⟨o_Z28,(e,())⟩) := (hw _ _).trans (by kernel_rfl)
theorem Z28.ev (R:Run) (N:Nat) (a0:vK) (a1:Int):evFn E R sg_Z28 pol_Z28 F_Z28 N [⟨yK,a0⟩,⟨yI,a1⟩] = ((idx? a0 a1).bind fun y1 => ((callT R n_Z29 o_Z29 [⟨yL,(y1,()).1⟩]).bind fun r2 => (Z28.l0 R N N r2.1 (List.length r2.1:Int) (0:Int) a0 ([]:List Int)))) := by kernel_rfl
end VeT

open Go Go.Proofs Ve
set_option linter.unusedVariables false
set_option maxRecDepth 100000
namespace VeT
@[reducible] noncomputable def q2_0 (R:Run) (N:Nat):=kS R pol_Z26 22 N [1,1,1,0,1,0,0,1,1,0,0,1,1,1,1,1,1,1,1,1] F_Z26
@[reducible] noncomputable def q2_1 (R:Run) (N:Nat):=kS R pol_Z26 23 N [1,1,1,0,1,0,0,1,1,1] F_Z26
@[reducible] noncomputable def q2_2 (R:Run) (N:Nat):=kS R pol_Z26 24 N [1,1,1,1] F_Z26
@[reducible] noncomputable def q2_3 (R:Run) (N:Nat):=kS R pol_Z91 7 N [1,1] F_Z91
@[reducible] noncomputable def q2_4 (R:Run) (N:Nat):=kL R pol_Z26 4 N [1,1,1,0,1,0,0] F_Z26
@[reducible] noncomputable def q2_5 (R:Run) (N:Nat):=lC R pol_Z91 2 N [1,0,1,0,0] F_Z91
@[reducible] noncomputable def q2_6 (R:Run):=kB R pol_Z26 0
noncomputable def Z17.l1 (R:Run) (N a n:Nat) (b:Int) (e f:(List Int)) (g:Int) (h:(List Int)) (i j:Int) (k:(List Int)) (l m:Int) (o:vK) (p q r s t u:Int) (v:(List Int)):Option Dv := R.w (some ⟨(V.dead::(V.dead::(.c (.d yI b)::(.c (.box 3 0)::(V.dead::(V.dead::(.c (.box 6 0)::(.c (.d yL e)::(.c (.d yL f)::(.c (.box 9 0)::(.c (.d yI g)::(zd 17 (.c (.d yL h)::(.c (.d yI i)::(.c (.d yI j)::(zd 6 (.c (.d yL k)::(.c (.d yI l)::(.c (.d yI m)::(zd 22 [])))))))))))))))))))),(zo 3 (some (.box [.d yK o] false false)::(none::(none::(some (.box [.d yI p,.d yI q,.d yI r,.nils yI] false false)::(none::(none::(some (.box [.d yI s,.d yI t,.d yI u,.arr 65] false false)::(zo 55 (some (.arr yI v true false false)::[]))))))))))⟩) fun st => lC R pol_Z17 7 N [1,1,1,0,1,0,0,1,1,0,0,1,1,0,0] F_Z17 n st (kB R pol_Z17 2 (kB R pol_Z17 1 (kS R pol_Z17 12 N [1,1,1,0,1,0,0,1,1,1] F_Z17 (kL R pol_Z17 4 N [1,1,1,0,1,0,0] F_Z17 a (kB R pol_Z17 0 (kS R pol_Z17 13 N [1,1,1,1] F_Z17 (kTop E sg_Z17 F_Z17)))))))
noncomputable def Z17.l0 (R:Run) (N n:Nat) (a:Int) (b e f:(List Int)) (g h:Int) (i:vK) (j k l m o p:Int) (q:(List Int)):Option Dv := R.w (some ⟨(V.dead::(V.dead::(.c (.d yI a)::(.c (.box 3 0)::(V.dead::(V.dead::(.c (.box 6 0)::(.c (.d yL b)::(.c (.d yL e)::(.c (.box 9 0)::(zd 18 (.c (.d yL f)::(.c (.d yI g)::(.c (.d yI h)::(zd 31 []))))))))))))))),(zo 3 (some (.box [.d yK i] false false)::(none::(none::(some (.box [.d yI j,.d yI k,.d yI l,.nils yI] false false)::(none::(none::(some (.box [.d yI m,.d yI o,.d yI p,.arr 65] false false)::(zo 55 (some (.arr yI q true false false)::[]))))))))))⟩) fun st => lC R pol_Z17 4 N [1,1,1,0,1,0,0] F_Z17 n st (kB R pol_Z17 0 (kS R pol_Z17 13 N [1,1,1,1] F_Z17 (kTop E sg_Z17 F_Z17)))
theorem Z17.l1_succ (R:Run) (hw:R.ok) (N a n:Nat) (b:Int) (c d:(List Int)) (e:Int) (f:(List Int)) (g h:Int) (i:(List Int)) (j k:Int) (l:vK) (m o p q r s:Int) (t:(List Int)):Z17.l1 R N a (n + 1) b c d e f g h i j k l m o p q r s t = (bif (decide (k < j)) then ((idx? i k).bind fun y40 => ((callT R n_Z95 o_Z95 [⟨yL,c⟩,⟨yI,(y40,()).1⟩]).bind fun r41 => ((callT R n_Z14 o_Z14 [⟨yI,k⟩,⟨yI,b⟩]).bind fun r42 => ((chk (decide (0 ≤ (w64 ((w64 (r41.1 * (List.length d:Int))) + e))) && decide ((w64 ((w64 (r41.1 * (List.length d:Int))) + e)) < (List.length t:Int)))).bind fun _ => (Z17.l1 R N a n b c d e f g h i j (w64 (k + (1:Int))) l m o p q r s (List.set t (Int.toNat (w64 ((w64 (r41.1 * (List.length d:Int))) + e))) r42.1)))))) else (Z17.l0 R N a b c d f g (w64 (h + (1:Int))) l m o p q r s t)) := (hw _ _).trans (by kernel_rfl)
theorem Z17.l0_succ (R:Run) (hw:R.ok) (N n:Nat) (a:Int) (b c d:(List Int)) (e f:Int) (g:vK) (h i j k l m:Int) (o:(List Int)):Z17.l0 R N (n + 1) a b c d e f g h i j k l m o = (bif (decide (f < e)) then ((idx? d f).bind fun y20 => ((callT R n_Z28 o_Z28 [⟨yK,g⟩,⟨yI,(y20,()).1⟩]).bind fun r21 => (Z17.l1 R N n N a b c f d e f r21.1 (List.length r21.1:Int) (0:Int) g h i j k l m o))) else some ⟨o_Z17,(k,l,m,o,())⟩) := (hw _ _).trans (by kernel_rfl)
theorem Z17.ev (R:Run) (N:Nat) (a0:vK) (a1 a2:Int):evFn E R sg_Z17 pol_Z17 F_Z17 N [⟨yK,a0⟩,⟨yI,a1⟩,⟨yI,a2⟩] = ((callT R n_Z53 o_Z53 [⟨yK,a0⟩,⟨yI,(w64 (a1 - (1:Int)))⟩]).bind fun r1 => ((callT R n_Z53 o_Z53 [⟨yK,a0⟩,⟨yI,a1⟩]).bind fun r2 => ((callT R n_Z55 o_Z55 [⟨yL,r1.1⟩]).bind fun r3 => ((callT R n_Z55 o_Z55 [⟨yL,r2.1⟩]).bind fun r4 => ((callT R n_Z61 o_Z61 [⟨yI,a2⟩,⟨yI,r3.1⟩,⟨yI,r4.1⟩]).bind fun r5 => (Z17.l0 R N N a2 r1.1 r2.1 r2.1 (List.length r2.1:Int) (0:Int) a0 (0:Int) (0:Int) (0:Int) r5.1 r5.2.1 r5.2.2.1 r5.2.2.2.1)))))) := by kernel_rfl
theorem Z6.ev (R:Run) (N:Nat) (a0 a1 a2:Int) (a3:(List Int)) (a4 a5:Int):evFn E R sg_Z6 pol_Z6 F_Z6 N [⟨yI,a0⟩,⟨yI,a1⟩,⟨yI,a2⟩,⟨yL,a3⟩,⟨yI,a4⟩,⟨yI,a5⟩] = ((idx? a3 (w64 ((w64 (a4 * a2)) + a5))).bind fun y1 => some ⟨o_Z6,((y1,()).1,())⟩) := by kernel_rfl
theorem Z58.ev (R:Run) (N:Nat) (a0 a1:Int) (a2:vM):evFn E R sg_Z58 pol_Z58 F_Z58 N [⟨yI,a0⟩,⟨yI,a1⟩,⟨(.ptr yM),a2⟩] = ((callT R n_Z6 o_Z6 [⟨yI,a2.1⟩,⟨yI,a2.2.1⟩,⟨yI,a2.2.2.1⟩,⟨yL,a2.2.2.2.1⟩,⟨yI,a1⟩,⟨yI,a0⟩]).bind fun r1 => some ⟨o_Z58,(r1.1,())⟩) := by kernel_rfl
noncomputable def Z31.l1 (R:Run) (N a n:Nat) (b:Int) (e:(vM × Unit)) (f g h i j k l m o p q:Int) (r:(List Int)):Option Dv := R.w (some ⟨(V.dead::(V.dead::(.c (.d yI b)::(.c (.d (.fn n_Z58 (.cons (.ptr yM) .nil)) e)::(zd 4 (.c (.box 8 0)::(.c (.box 9 0)::(.c (.d yI f)::(zd 5 (.c (.d yI g)::(.c (.d yI h)::(V.dead::(V.dead::(.c (.d yI i)::(.c (.d yI j)::(zd 14 [])))))))))))))))),(zo 8 (some (.box [.d yI k,.d yI l,.d yI m,.nils yI] false false)::(some (.box [.d yI o,.d yI p,.d yI q,.arr 31] false false)::(zo 21 (some (.arr yI r true false false)::(zo 8 []))))))⟩) fun st => lC R pol_Z30 6 N [1,1,0,1,0,0,1,1,0,0,1,1,0,0] F_Z30 n st (kB R pol_Z30 2 (kB R pol_Z30 1 (kS R pol_Z30 10 N [1,1,0,1,0,0,1,1,1] F_Z30 (kL R pol_Z30 3 N [1,1,0,1,0,0] F_Z30 a (kB R pol_Z30 0 (kS R pol_Z30 11 N [1,1,1] F_Z30 (kTop E sg_Z30 F_Z30)))))))
noncomputable def Z31.l0 (R:Run) (N n:Nat) (a:Int) (b:(vM × Unit)) (e f g h i j k l:Int) (m:(List Int)):Option Dv := R.w (some ⟨(V.dead::(V.dead::(.c (.d yI a)::(.c (.d (.fn n_Z58 (.cons (.ptr yM) .nil)) b)::(zd 4 (.c (.box 8 0)::(.c (.box 9 0)::(zd 6 (.c (.d yI e)::(.c (.d yI f)::(zd 18 []))))))))))),(zo 8 (some (.box [.d yI g,.d yI h,.d yI i,.nils yI] false false)::(some (.box [.d yI j,.d yI k,.d yI l,.arr 31] false false)::(zo 21 (some (.arr yI m true false false)::(zo 8 []))))))⟩) fun st => lC R pol_Z30 3 N [1,1,0,1,0,0] F_Z30 n st (kB R pol_Z30 0 (kS R pol_Z30 11 N [1,1,1] F_Z30 (kTop E sg_Z30 F_Z30)))
theorem Z31.l1_succ (R:Run) (hw:R.ok) (N a n:Nat) (b:Int) (c:(vM × Unit)) (d e f g h i j k l m o:Int) (p:(List Int)):Z31.l1 R N a (n + 1) b c d e f g h i j k l m o p = (bif (decide (h < g)) then ((callT R n_Z58 o_Z58 [⟨yI,d⟩,⟨yI,h⟩,⟨(.ptr yM),c.1⟩]).bind fun r26 => ((chk (decide ((List.length p + List.length [r26.1]) * 8 ≤ 70368744177664))).bind fun _ => (Z31.l1 R N a n b c d e f g (w64 (h + (1:Int))) i j k l m o (p ++ [r26.1])))) else (Z31.l0 R N a b c e (w64 (f + (1:Int))) i j k l m o p)) := (hw _ _).trans (by kernel_rfl)
theorem Z31.l0_succ (R:Run) (hw:R.ok) (N n:Nat) (a:Int) (b:(vM × Unit)) (c d e f g h i j:Int) (k:(List Int)):Z31.l0 R N (n + 1) a b c d e f g h i j k = (bif (decide (d < c)) then (Z31.l1 R N n N a b d c d a (0:Int) e f g h i j k) else some ⟨o_Z30,(h,i,j,k,())⟩) := (hw _ _).trans (by kernel_rfl)
theorem Z31.ev (R:Run) (N:Nat) (a0 a1 a2:Int) (a3:(vM × Unit)):evFn E R sg_Z30 pol_Z30 F_Z30 N [⟨yI,a0⟩,⟨yI,a1⟩,⟨yI,a2⟩,⟨(.fn n_Z58 (.cons (.ptr yM) .nil)),a3⟩] = (Z31.l0 R N N a2 a3 a1 (0:Int) (0:Int) (0:Int) (0:Int) a0 a1 a2 ([]:List Int)) := by kernel_rfl
theorem Z57.ev (R:Run) (N:Nat) (a0 a1 a2:Int) (a3:(List Int)):evFn E R sg_Z57 pol_Z57 F_Z57 N [⟨yI,a0⟩,⟨yI,a1⟩,⟨yI,a2⟩,⟨yL,a3⟩] = ((callT R n_Z30 o_Z30 [⟨yI,a0⟩,⟨yI,a2⟩,⟨yI,a1⟩,⟨(.fn n_Z58 (.cons (.ptr yM) .nil)),((a0,a1,a2,a3,()),())⟩]).bind fun r1 => some ⟨o_Z57,(r1.1,r1.2.1,r1.2.2.1,r1.2.2.2.1,())⟩) := by kernel_rfl
theorem Z7.ev (R:Run) (N:Nat) (a0 a1 a2:Int) (a3:(List Int)) (a4:Int):evFn E R sg_Z7 pol_Z7 F_Z7 N [⟨yI,a0⟩,⟨yI,a1⟩,⟨yI,a2⟩,⟨yL,a3⟩,⟨yI,a4⟩] = ((chk (decide (0 ≤ (w64 (a4 * a2))) && decide ((w64 (a4 * a2)) ≤ (w64 ((w64 (a4 + (1:Int))) * a2))) && decide ((w64 ((w64 (a4 + (1:Int))) * a2)) ≤ (List.length a3:Int)))).bind fun _ => some ⟨o_Z7,((List.drop (Int.toNat (w64 (a4 * a2))) (List.take (Int.toNat (w64 ((w64 (a4 + (1:Int))) * a2))) a3)),())⟩) := by kernel_rfl
noncomputable def Z75.j0 (R:Run) (N:Nat) (a:(List Int)) (b:Bool):Option Dv := R.w (some ⟨(.c (.d yL a)::(zd 3 (.c (.d .bool b)::(zd 3 [])))),(zo 9 [])⟩) fun st => eC R pol_Z75 N [1,0,1] F_Z75 st (kS R pol_Z75 3 N [1,1] F_Z75 (kTop E sg_Z75 F_Z75))
theorem Z75.j0_eq (R:Run) (hw:R.ok) (N:Nat) (a:(List Int)) (b:Bool):Z75.j0 R N a b = (bif b then some ⟨o_Z75,(([]:List Int),())⟩ else ((chk (decide ((List.length ([]:List Int) + List.length a) * 8 ≤ 70368744177664))).bind fun _ => some ⟨o_Z75,((([]:List Int) ++ a),())⟩)) := (hw _ _).trans (by kernel_rfl)
theorem Z75.ev (R:Run) (N:Nat) (a0:(List Int)):evFn E R sg_Z75 pol_Z75 F_Z75 N [⟨yL,a0⟩] = (bif (List.isEmpty a0) then (both (Z75.j0 R N a0 true) (Z75.j0 R N a0 false)) else (Z75.j0 R N a0 false)) := by kernel_rfl
noncomputable def Z52.l0 (R:Run) (N n:Nat) (a b e f g:Int) (h:(List Int)) (i:vK):Option Dv := R.w (some ⟨(V.dead::(.c (.box 1 0)::(V.dead::(.c (.arr 16)::(V.dead::(V.dead::(.c (.d yI a)::(.c (.d yI b)::(zd 11 []))))))))),(none::(some (.box [.d yI e,.d yI f,.d yI g,.d yL h] false false)::(zo 14 (some (.arr yL i true false false)::(zo 7 [])))))⟩) fun st => lC R pol_Z52 3 N [1,1,0,1,0,0] F_Z52 n st (kB R pol_Z52 0 (kS R pol_Z52 7 N [1,1,1] F_Z52 (kTop E sg_Z52 F_Z52)))
theorem Z52.l0_succ (R:Run) (hw:R.ok) (N n:Nat) (a b c d e:Int) (f:(List Int)) (g:vK):Z52.l0 R N (n + 1) a b c d e f g = (bif (decide (b < a)) then ((callT R n_Z7 o_Z7 [⟨yI,c⟩,⟨yI,d⟩,⟨yI,e⟩,⟨yL,f⟩,⟨yI,b⟩]).bind fun r8 => ((callT R n_Z75 o_Z75 [⟨yL,r8.1⟩]).bind fun r9 => ((chk (decide ((List.length g + List.length [r9.1]) * 24 ≤ 70368744177664))).bind fun _ => (Z52.l0 R N n a (w64 (b + (1:Int))) c d e f (g ++ [r9.1]))))) else some ⟨o_Z52,(g,())⟩) := (hw _ _).trans (by kernel_rfl)
theorem Z52.ev (R:Run) (N:Nat) (a0 a1 a2:Int) (a3:(List Int)):evFn E R sg_Z52 pol_Z52 F_Z52 N [⟨yI,a0⟩,⟨yI,a1⟩,⟨yI,a2⟩,⟨yL,a3⟩] = (Z52.l0 R N N a1 (0:Int) a0 a1 a2 a3 ([]:List (List Int))) := by kernel_rfl
theorem Z20.ev (R:Run) (N:Nat) (a0 a1 a2:Int) (a3:(List Int)):evFn E R sg_Z20 pol_Z20 F_Z20 N [⟨yI,a0⟩,⟨yI,a1⟩,⟨yI,a2⟩,⟨yL,a3⟩] = ((callT R n_Z57 o_Z57 [⟨yI,a0⟩,⟨yI,a1⟩,⟨yI,a2⟩,⟨yL,a3⟩]).bind fun r1 => ((callT R n_Z52 o_Z52 [⟨yI,r1.1⟩,⟨yI,r1.2.1⟩,⟨yI,r1.2.2.1⟩,⟨yL,r1.2.2.2.1⟩]).bind fun r2 => some ⟨o_Z20,(r2.1,())⟩)) := by kernel_rfl
noncomputable def Z24.l0 (R:Run) (N n:Nat) (a:vK) (b e:Int) (f:vK):Option Dv := R.w (some ⟨(zd 3 (.c (.arr 16)::(V.dead::(V.dead::(.c (.d yK a)::(.c (.d yI b)::(.c (.d yI e)::(zd 10 [])))))))),(zo 16 (some (.arr yL f true false false)::(zo 4 [])))⟩) fun st => lC R pol_Z24 3 N [1,1,0,1,0,0] F_Z24 n st (kB R pol_Z24 0 (kS R pol_Z24 7 N [1,1,1] F_Z24 (kTop E sg_Z24 F_Z24)))
theorem Z24.l0_succ (R:Run) (hw:R.ok) (N n:Nat) (a:vK) (b c:Int) (d:vK):Z24.l0 R N (n + 1) a b c d = (bif (decide (c < b)) then ((idx? a c).bind fun y5 => ((callT R n_Z75 o_Z75 [⟨yL,(y5,()).1⟩]).bind fun r6 => ((chk (decide ((List.length d + List.length [r6.1]) * 24 ≤ 70368744177664))).bind fun _ => (Z24.l0 R N n a b (w64 (c + (1:Int))) (d ++ [r6.1]))))) else some ⟨o_Z24,(d,())⟩) := (hw _ _).trans (by kernel_rfl)
theorem Z24.ev (R:Run) (N:Nat) (a0:vK):evFn E R sg_Z24 pol_Z24 F_Z24 N [⟨yK,a0⟩] = (Z24.l0 R N N a0 (List.length a0:Int) (0:Int) ([]:List (List Int))) := by kernel_rfl
theorem Z27.ev (R:Run) (N:Nat) (a0:(List Int)) (a1:(Int × Unit)):evFn E R sg_Z27 pol_Z27 F_Z27 N [⟨yL,a0⟩,⟨(.ptr (.cons yI .nil)),a1⟩] = ((idx? a0 a1.1).bind fun y1 => some ⟨o_Z27,(((y1,()).1 != (0:Int)),())⟩) := by kernel_rfl
noncomputable def Z89.l0 (R:Run) (N n:Nat) (a:vK) (b:((Int × Unit) × Unit)) (e f:Int):Option Dv := R.w (some ⟨(.c (.d yK a)::(.c (.d (.fn n_Z27 (.cons (.ptr (.cons yI .nil)) .nil)) b)::(zd 5 (.c (.d yI e)::(.c (.d yI f)::(zd 10 [])))))),(zo 21 [])⟩) fun st => lC R pol_Z87 2 N [1,0,1,0,0] F_Z87 n st (kB R pol_Z87 0 (kS R pol_Z87 7 N [1,1] F_Z87 (kTop E sg_Z87 F_Z87)))
theorem Z89.l0_succ (R:Run) (hw:R.ok) (N n:Nat) (a:vK) (b:((Int × Unit) × Unit)) (c d:Int):Z89.l0 R N (n + 1) a b c d = (bif (decide (d < c)) then ((idx? a d).bind fun y5 => ((callT R n_Z27 o_Z27 [⟨yL,(y5,()).1⟩,⟨(.ptr (.cons yI .nil)),b.1⟩]).bind fun r6 => (bif r6.1 then some ⟨o_Z87,(d,())⟩ else (Z89.l0 R N n a b c (w64 (d + (1:Int))))))) else some ⟨o_Z87,((-1:Int),())⟩) := (hw _ _).trans (by kernel_rfl)
theorem Z89.ev (R:Run) (N:Nat) (a0:vK) (a1:((Int × Unit) × Unit)):evFn E R sg_Z87 pol_Z87 F_Z87 N [⟨yK,a0⟩,⟨(.fn n_Z27 (.cons (.ptr (.cons yI .nil)) .nil)),a1⟩] = (Z89.l0 R N N a0 a1 (List.length a0:Int) (0:Int)) := by kernel_rfl
theorem Z51.ev (R:Run) (N:Nat) (a0 a1:Int):evFn E R sg_Z51 pol_Z51 F_Z51 N [⟨yI,a0⟩,⟨yI,a1⟩] = ((chk (a1 != 0)).bind fun _ => ((chk (a1 != 0)).bind fun _ => some ⟨o_Z51,((Int.tmod (w64 ((Int.tmod a0 a1) + a1)) a1),())⟩)) := by kernel_rfl
noncomputable def Z50.l0 (R:Run) (N n:Nat) (a b e f:Int):Option Dv := R.w (some ⟨(.c (.d yI a)::(.c (.d yI b)::(.c (.d yI e)::(zd 4 (.c (.d yI f)::(zd 18 [])))))),(zo 29 [])⟩) fun st => lC R pol_Z50 2 N [1,1,0,0,0] F_Z50 n st (kB R pol_Z50 0 (kS R pol_Z50 7 N [1,1,1] F_Z50 (kTop E sg_Z50 F_Z50)))
theorem Z50.l0_succ (R:Run) (hw:R.ok) (N n:Nat) (a b c d:Int):Z50.l0 R N (n + 1) a b c d = (bif (decide (b > (0:Int))) then (bif ((Int.tmod b (2:Int)) == (1:Int)) then ((chk (c != 0)).bind fun _ => ((chk (c != 0)).bind fun _ => (Z50.l0 R N n (Int.tmod (w64 (a * a)) c) (w64 (Int.tdiv b (2:Int))) c (Int.tmod (w64 (d * a)) c)))) else ((chk (c != 0)).bind fun _ => (Z50.l0 R N n (Int.tmod (w64 (a * a)) c) (w64 (Int.tdiv b (2:Int))) c d))) else some ⟨o_Z50,(d,())⟩) := (hw _ _).trans (by kernel_rfl)
theorem Z50.ev (R:Run) (N:Nat) (a0 a1 a2:Int):evFn E R sg_Z50 pol_Z50 F_Z50 N [⟨yI,a0⟩,⟨yI,a1⟩,⟨yI,a2⟩] = (Z50.l0 R N N a0 a1 a2 (1:Int)) := by kernel_rfl
theorem Z37.ev (R:Run) (N:Nat) (a0 a1:Int):evFn E R sg_Z37 pol_Z37 F_Z37 N [⟨yI,a0⟩,⟨yI,a1⟩] = ((callT R n_Z50 o_Z50 [⟨yI,a0⟩,⟨yI,(w64 (a1 - (2:Int)))⟩,⟨yI,a1⟩]).bind fun r1 => some ⟨o_Z37,(r1.1,())⟩) := by kernel_rfl
noncomputable def Z13.l0 (R:Run) (N n:Nat) (a b:(List Int)) (e f g h:Int) (i:(List Int)):Option Dv := R.w (some ⟨(.c (.d yL a)::(.c (.d yL b)::(.c (.d yI e)::(.c (.d yI f)::(zd 5 (.c (.arr 31)::(V.dead::(V.dead::(.c (.d yI g)::(.c (.d yI h)::(zd 20 []))))))))))),(zo 31 (some (.arr yI i true false false)::(zo 6 [])))⟩) fun st => lC R pol_Z13 3 N [1,1,0,1,0,0] F_Z13 n st (kB R pol_Z13 0 (kS R pol_Z13 7 N [1,1,1] F_Z13 (kTop E sg_Z13 F_Z13)))
theorem Z13.l0_succ (R:Run) (hw:R.ok) (N n:Nat) (a b:(List Int)) (c d e f:Int) (g:(List Int)):Z13.l0 R N (n + 1) a b c d e f g = (bif (decide (f < e)) then ((idx? a f).bind fun y8 => ((idx? b f).bind fun y9 => ((chk (d != 0)).bind fun _ => ((chk (decide ((List.length g + List.length [(Int.tmod (w64 ((y8,()).1 + (w64 (c * (y9,()).1)))) d)]) * 8 ≤ 70368744177664))).bind fun _ => (Z13.l0 R N n a b c d e (w64 (f + (1:Int))) (g ++ [(Int.tmod (w64 ((y8,()).1 + (w64 (c * (y9,()).1)))) d)])))))) else some ⟨o_Z13,(g,())⟩) := (hw _ _).trans (by kernel_rfl)
theorem Z13.ev (R:Run) (N:Nat) (a0 a1:(List Int)) (a2 a3:Int):evFn E R sg_Z13 pol_Z13 F_Z13 N [⟨yL,a0⟩,⟨yL,a1⟩,⟨yI,a2⟩,⟨yI,a3⟩] = (Z13.l0 R N N a0 a1 a2 a3 (List.length a0:Int) (0:Int) ([]:List Int)) := by kernel_rfl
noncomputable def Z26.j4 (R:Run) (N a b:Nat) (e f g h i:Int) (j:(List Int)) (k l m o:Int) (p:Bool) (q:Int) (r:(List Int)) (s:vK):Option Dv := R.w (some ⟨(.c (.arr 120)::(.c (.d yI e)::(.c (.d yI f)::(zd 5 (.c (.arr 116)::(.c (.d yI g)::(.c (.box 10 0)::(.c (.d yI h)::(V.dead::(V.dead::(.c (.d yI i)::(.c (.d yL j)::(.c (.d yI k)::(.c (.d yI l)::(zd 61 (.c (.arr 120)::(.c (.d yI m)::(.c (.d yI o)::(zd 13 (.c (.d .bool p)::(zd 24 []))))))))))))))))))))),(zo 10 (some (.box [.d yI q] true false)::(zo 105 (some (.arr yI r true false false)::(zo 3 (some (.arr yL s false false true)::(zo 4 [])))))))⟩) fun st => eC R pol_Z26 N [1,1,1,0,1,0,0,1,1,0,0,1,1,1,1,1,1,1,1,0,1,0,0,1,1,0,0,1,1] F_Z26 st (kB R pol_Z26 3 (kS R pol_Z26 21 N [1,1,1,0,1,0,0,1,1,0,0,1,1,1,1,1,1,1,1,0,1,0,0,1,1,1] F_Z26 (kL R pol_Z26 17 N [1,1,1,0,1,0,0,1,1,0,0,1,1,1,1,1,1,1,1,0,1,0,0] F_Z26 b (kB R pol_Z26 2 (q2_0 R N (kB R pol_Z26 1 (q2_1 R N (q2_4 R N a (q2_6 R (q2_2 R N (kTop E sg_Z26 F_Z26)))))))))))
noncomputable def Z26.l3 (R:Run) (N a n:Nat) (b e f g h i j k l:Int) (m:(List Int)) (o:vK):Option Dv := R.w (some ⟨(.c (.arr 120)::(.c (.d yI b)::(.c (.d yI e)::(zd 5 (.c (.arr 116)::(.c (.d yI f)::(.c (.box 10 0)::(.c (.d yI g)::(zd 4 (.c (.d yI h)::(.c (.d yI i)::(zd 61 (.c (.arr 120)::(.c (.d yI j)::(.c (.d yI k)::(zd 38 [])))))))))))))))),(zo 10 (some (.box [.d yI l] true false)::(zo 105 (some (.arr yI m true false false)::(zo 3 (some (.arr yL o false false true)::(zo 4 [])))))))⟩) fun st => lC R pol_Z26 17 N [1,1,1,0,1,0,0,1,1,0,0,1,1,1,1,1,1,1,1,0,1,0,0] F_Z26 n st (kB R pol_Z26 2 (q2_0 R N (kB R pol_Z26 1 (q2_1 R N (q2_4 R N a (q2_6 R (q2_2 R N (kTop E sg_Z26 F_Z26))))))))
noncomputable def Z26.j2 (R:Run) (N a:Nat) (b e f g h i j:Int) (k:(List Int)) (l:vK):Option Dv := R.w (some ⟨(.c (.arr 120)::(.c (.d yI b)::(.c (.d yI e)::(zd 5 (.c (.arr 116)::(.c (.d yI f)::(.c (.box 10 0)::(.c (.d yI g)::(zd 4 (.c (.d yI h)::(.c (.d yI i)::(zd 102 [])))))))))))),(zo 10 (some (.box [.d yI j] true false)::(zo 105 (some (.arr yI k true false false)::(zo 3 (some (.arr yL l false false true)::(zo 4 [])))))))⟩) fun st => eC R pol_Z26 N [1,1,1,0,1,0,0,1,1,0,0,1,1,1,1,1,1,1,1] F_Z26 st (kB R pol_Z26 1 (q2_1 R N (q2_4 R N a (q2_6 R (q2_2 R N (kTop E sg_Z26 F_Z26))))))
noncomputable def Z26.j1 (R:Run) (N a:Nat) (b e f g h i j:Int) (k:(List Int)) (l:vK):Option Dv := R.w (some ⟨(.c (.arr 120)::(.c (.d yI b)::(.c (.d yI e)::(zd 5 (.c (.arr 116)::(.c (.d yI f)::(.c (.box 10 0)::(.c (.d yI g)::(zd 4 (.c (.d yI h)::(.c (.d yI i)::(zd 102 [])))))))))))),(zo 10 (some (.box [.d yI j] true false)::(zo 105 (some (.arr yI k true false false)::(zo 3 (some (.arr yL l false false true)::(zo 4 [])))))))⟩) fun st => eC R pol_Z26 N [1,1,1,0,1,0,0,1,1,0,0,1,1,1,1,1] F_Z26 st (kB R pol_Z26 1 (q2_1 R N (q2_4 R N a (q2_6 R (q2_2 R N (kTop E sg_Z26 F_Z26))))))
noncomputable def Z26.l0 (R:Run) (N n:Nat) (a b e f g:Int) (h:(List Int)) (i:vK):Option Dv := R.w (some ⟨(.c (.arr 120)::(.c (.d yI a)::(.c (.d yI b)::(zd 5 (.c (.arr 116)::(.c (.d yI e)::(zd 6 (.c (.d yI f)::(.c (.d yI g)::(zd 102 [])))))))))),(zo 116 (some (.arr yI h true false false)::(zo 3 (some (.arr yL i false false true)::(zo 4 [])))))⟩) fun st => lC R pol_Z26 4 N [1,1,1,0,1,0,0] F_Z26 n st (q2_6 R (q2_2 R N (kTop E sg_Z26 F_Z26)))
theorem Z26.j4_eq (R:Run) (hw:R.ok) (N a b:Nat) (c d e f g:Int) (h:(List Int)) (i j k l:Int) (m:Bool) (o:Int) (p:(List Int)) (q:vK):Z26.j4 R N a b c d e f g h i j k l m o p q = (bif m then ((chk (decide (0 ≤ f) && decide (f < (List.length q:Int)))).bind fun _ => (Option.bind (q)[(Int.toNat f)]? fun y69 => ((idx? h o).bind fun y70 => ((callT R n_Z13 o_Z13 [⟨yL,h⟩,⟨yL,y69⟩,⟨yI,(w64 (d - (y70,()).1))⟩,⟨yI,d⟩]).bind fun r71 => ((chk (decide (0 ≤ g) && decide (g < (List.length q:Int)))).bind fun _ => (Z26.l3 R N a b c d e f i j k (w64 (l + (1:Int))) o p (List.set q (Int.toNat g) r71.1))))))) else (Z26.l3 R N a b c d e f i j k (w64 (l + (1:Int))) o p q)) := (hw _ _).trans (by kernel_rfl)
theorem Z26.l3_succ (R:Run) (hw:R.ok) (N a n:Nat) (b c d e f g h i j:Int) (k:(List Int)) (l:vK):Z26.l3 R N a (n + 1) b c d e f g h i j k l = (bif (decide (i < h)) then ((chk (decide (0 ≤ i) && decide (i < (List.length l:Int)))).bind fun _ => (Option.bind (l)[(Int.toNat i)]? fun y53 => (bif (i != e) then ((idx? y53 j).bind fun y54 => (Z26.j4 R N a n b c d e i y53 f g h i ((y54,()).1 != (0:Int)) j k l)) else (Z26.j4 R N a n b c d e i y53 f g h i false j k l)))) else ((chk (decide ((List.length k + List.length [j]) * 8 ≤ 70368744177664))).bind fun _ => (Z26.l0 R N a b c d f (w64 (g + (1:Int))) (k ++ [j]) l))) := (hw _ _).trans (by kernel_rfl)
theorem Z26.j2_eq (R:Run) (hw:R.ok) (N a:Nat) (b c d e f g h:Int) (i:(List Int)) (j:vK):Z26.j2 R N a b c d e f g h i j = (Z26.l3 R N a N b c d e f g (List.length j:Int) (0:Int) h i j) := (hw _ _).trans (by kernel_rfl)
theorem Z26.j1_eq (R:Run) (hw:R.ok) (N a:Nat) (b c d e f g h:Int) (i:(List Int)) (j:vK):Z26.j1 R N a b c d e f g h i j = ((chk (decide (0 ≤ e) && decide (e < (List.length j:Int)))).bind fun _ => (Option.bind (j)[(Int.toNat e)]? fun y28 => ((idx? y28 h).bind fun y29 => ((chk (c != 0)).bind fun _ => ((chk (decide (0 ≤ e) && decide (e < (List.length j:Int)))).bind fun _ => (Option.bind (j)[(Int.toNat e)]? fun y30 => (both ((chk (decide (0 ≤ b) && decide (b * 8 ≤ 70368744177664))).bind fun _ => ((callT R n_Z37 o_Z37 [⟨yI,(y29,()).1⟩,⟨yI,c⟩]).bind fun r31 => ((callT R n_Z13 o_Z13 [⟨yL,(List.replicate (Int.toNat b) (0:Int))⟩,⟨yL,y30⟩,⟨yI,r31.1⟩,⟨yI,c⟩]).bind fun r32 => ((chk (decide (0 ≤ e) && decide (e < (List.length j:Int)))).bind fun _ => (Z26.j2 R N a b c (Int.tmod (w64 (d * (y29,()).1)) c) e f g h i (List.set j (Int.toNat e) r32.1)))))) ((callT R n_Z37 o_Z37 [⟨yI,(y29,()).1⟩,⟨yI,c⟩]).bind fun r115 => ((chk (decide (0 ≤ b) && decide (b * 8 ≤ 70368744177664))).bind fun _ => ((callT R n_Z13 o_Z13 [⟨yL,(List.replicate (Int.toNat b) (0:Int))⟩,⟨yL,y30⟩,⟨yI,r115.1⟩,⟨yI,c⟩]).bind fun r116 => ((chk (decide (0 ≤ e) && decide (e < (List.length j:Int)))).bind fun _ => (Z26.j2 R N a b c (Int.tmod (w64 (d * (y29,()).1)) c) e f g h i (List.set j (Int.toNat e) r116.1))))))))))))) := (hw _ _).trans (by kernel_rfl)
theorem Z26.l0_succ (R:Run) (hw:R.ok) (N n:Nat) (a b c d e:Int) (f:(List Int)) (g:vK):Z26.l0 R N (n + 1) a b c d e f g = (bif (decide (e < d)) then ((chk (decide (0 ≤ (List.length f:Int)) && decide ((List.length f:Int) ≤ (List.length g:Int)))).bind fun _ => ((callT R n_Z87 o_Z87 [⟨yK,(List.drop (Int.toNat (List.length f:Int)) (List.take (List.length g) g))⟩,⟨(.fn n_Z27 (.cons (.ptr (.cons yI .nil)) .nil)),((e,()),())⟩]).bind fun r8 => (bif (decide (r8.1 < (0:Int))) then (Z26.l0 R N n a b (0:Int) d (w64 (e + (1:Int))) f g) else (bif (decide (r8.1 > (0:Int))) then ((chk (decide (0 ≤ (w64 ((List.length f:Int) + r8.1))) && decide ((w64 ((List.length f:Int) + r8.1)) < (List.length g:Int)))).bind fun _ => (Option.bind (g)[(Int.toNat (w64 ((List.length f:Int) + r8.1)))]? fun y16 => ((chk (decide (0 ≤ (List.length f:Int)) && decide ((List.length f:Int) < (List.length g:Int)))).bind fun _ => (Option.bind (g)[(Int.toNat (List.length f:Int))]? fun y17 => ((chk (decide (0 ≤ (List.length f:Int)) && decide ((List.length f:Int) < (List.length g:Int)))).bind fun _ => ((chk (decide (0 ≤ (w64 ((List.length f:Int) + r8.1))) && decide ((w64 ((List.length f:Int) + r8.1)) < (List.length (List.set g (Int.toNat (List.length f:Int)) y16):Int)))).bind fun _ => ((callT R n_Z51 o_Z51 [⟨yI,(w64 (0 - c))⟩,⟨yI,b⟩]).bind fun r18 => (Z26.j1 R N n a b r18.1 (List.length f:Int) d e e f (List.set (List.set g (Int.toNat (List.length f:Int)) y16) (Int.toNat (w64 ((List.length f:Int) + r8.1))) y17))))))))) else (Z26.j1 R N n a b c (List.length f:Int) d e e f g))))) else some ⟨o_Z26,(f,c,g,())⟩) := (hw _ _).trans (by kernel_rfl)
theorem Z26.ev (R:Run) (N:Nat) (a0:vK) (a1 a2:Int):evFn E R sg_Z26 pol_Z26 F_Z26 N [⟨yK,a0⟩,⟨yI,a1⟩,⟨yI,a2⟩] = (Z26.l0 R N N a1 a2 (1:Int) a1 (0:Int) ([]:List Int) a0) := by kernel_rfl
theorem Z56.ev (R:Run) (N:Nat) (a0 a1:Int) (a2:vK):evFn E R sg_Z56 pol_Z56 F_Z56 N [⟨yI,a0⟩,⟨yI,a1⟩,⟨yK,a2⟩] = ((callT R n_Z24 o_Z24 [⟨yK,a2⟩]).bind fun r1 => ((callT R n_Z26 o_Z26 [⟨yK,r1.1⟩,⟨yI,a1⟩,⟨yI,a0⟩]).bind fun r2 => ((chk (decide (0 ≤ (List.length r2.1:Int)) && decide ((List.length r2.1:Int) ≤ (List.length r2.2.2.1:Int)))).bind fun _ => ((callT R n_Z24 o_Z24 [⟨yK,(List.drop 0 (List.take (Int.toNat (List.length r2.1:Int)) r2.2.2.1))⟩]).bind fun r3 => some ⟨o_Z56,(a0,a1,r3.1,())⟩)))) := by kernel_rfl
theorem Z16.ev (R:Run) (N:Nat) (a0:vK) (a1 a2:Int):evFn E R sg_Z16 pol_Z16 F_Z16 N [⟨yK,a0⟩,⟨yI,a1⟩,⟨yI,a2⟩] = ((callT R n_Z17 o_Z17 [⟨yK,a0⟩,⟨yI,(w64 (a1 + (1:Int)))⟩,⟨yI,a2⟩]).bind fun r1 => ((callT R n_Z20 o_Z20 [⟨yI,r1.1⟩,⟨yI,r1.2.1⟩,⟨yI,r1.2.2.1⟩,⟨yL,r1.2.2.2.1⟩]).bind fun r2 => ((callT R n_Z56 o_Z56 [⟨yI,a2⟩,⟨yI,r1.2.1⟩,⟨yK,r2.1⟩]).bind fun r3 => some ⟨o_Z16,(r3.1,r3.2.1,r3.2.2.1,())⟩))) := by kernel_rfl
theorem Z85.ev (R:Run) (N:Nat) (a0:(List Int)) (a1:Int):evFn E R sg_Z85 pol_Z85 F_Z85 N [⟨yL,a0⟩,⟨yI,a1⟩] = ((callT R n_Z95 o_Z95 [⟨yL,a0⟩,⟨yI,a1⟩]).bind fun r1 => some ⟨o_Z85,((decide (r1.1 ≥ (0:Int))),())⟩) := by kernel_rfl
noncomputable def Z46.l1 (R:Run) (N a n:Nat) (b:(List Int)) (e f g:Int) (h:(List Int)) (i j k l m:Int) (o p:(List Int)) (q r:vK):Option Dv := R.w (some ⟨(V.dead::(.c (.box 1 0)::(V.dead::(.c (.arr 68)::(.c (.d yL b)::(V.dead::(.c (.arr 61)::(.c (.d yI e)::(.c (.arr 32)::(zd 14 (.c (.d yI f)::(.c (.d yI g)::(zd 11 (.c (.d yL h)::(.c (.d yI i)::(.c (.d yI j)::(zd 25 []))))))))))))))))),(none::(some (.box [.d yI k,.d yI l,.d yI m,.d yL o] false false)::(zo 30 (some (.arr yI p true false false)::(zo 28 (some (.arr yL q true false false)::(zo 6 (some (.arr yL r false false false)::[]))))))))⟩) fun st => lC R pol_Z46 11 N [1,1,1,1,0,1,0,0,1,1,0,0,1,1,1,1,0,1,0,0] F_Z46 n st (kB R pol_Z46 2 (kS R pol_Z46 15 N [1,1,1,1,0,1,0,0,1,1,0,0,1,1,1,1,1] F_Z46 (kB R pol_Z46 1 (kS R pol_Z46 16 N [1,1,1,1,0,1,0,0,1,1,1] F_Z46 (kL R pol_Z46 5 N [1,1,1,1,0,1,0,0] F_Z46 a (kB R pol_Z46 0 (kS R pol_Z46 17 N [1,1,1,1,1] F_Z46 (kTop E sg_Z46 F_Z46))))))))
noncomputable def Z46.l0 (R:Run) (N n:Nat) (a:(List Int)) (b e f g h:Int) (i:(List Int)) (j k:vK):Option Dv := R.w (some ⟨(V.dead::(.c (.box 1 0)::(V.dead::(.c (.arr 68)::(.c (.d yL a)::(V.dead::(.c (.arr 61)::(zd 16 (.c (.d yI b)::(.c (.d yI e)::(zd 39 []))))))))))),(none::(some (.box [.d yI f,.d yI g,.d yI h,.d yL i] false false)::(zo 59 (some (.arr yL j true false false)::(zo 6 (some (.arr yL k false false false)::[]))))))⟩) fun st => lC R pol_Z46 5 N [1,1,1,1,0,1,0,0] F_Z46 n st (kB R pol_Z46 0 (kS R pol_Z46 17 N [1,1,1,1,1] F_Z46 (kTop E sg_Z46 F_Z46)))
theorem Z46.l1_succ (R:Run) (hw:R.ok) (N a n:Nat) (b:(List Int)) (c d e:Int) (f:(List Int)) (g h i j k:Int) (l m:(List Int)) (o p:vK):Z46.l1 R N a (n + 1) b c d e f g h i j k l m o p = (bif (decide (h < g)) then ((idx? f h).bind fun y36 => ((chk (decide (0 ≤ h) && decide (h < (List.length p:Int)))).bind fun _ => (Option.bind (p)[(Int.toNat h)]? fun y37 => ((idx? y37 c).bind fun y38 => ((callT R n_Z51 o_Z51 [⟨yI,(w64 (0 - (y38,()).1))⟩,⟨yI,i⟩]).bind fun r39 => ((chk (decide (0 ≤ (y36,()).1) && decide ((y36,()).1 < (List.length m:Int)))).bind fun _ => (Z46.l1 R N a n b c d e f g (w64 (h + (1:Int))) i j k l (List.set m (Int.toNat (y36,()).1) r39.1) o p))))))) else ((chk (decide ((List.length o + List.length [m]) * 24 ≤ 70368744177664))).bind fun _ => (Z46.l0 R N a b d (w64 (e + (1:Int))) i j k l (o ++ [m]) p))) := (hw _ _).trans (by kernel_rfl)
theorem Z46.l0_succ (R:Run) (hw:R.ok) (N n:Nat) (a:(List Int)) (b c d e f:Int) (g:(List Int)) (h i:vK):Z46.l0 R N (n + 1) a b c d e f g h i = (bif (decide (c < b)) then ((callT R n_Z85 o_Z85 [⟨yL,a⟩,⟨yI,c⟩]).bind fun r12 => (bif r12.1 then (Z46.l0 R N n a b (w64 (c + (1:Int))) d e f g h i) else ((chk (decide (0 ≤ f) && decide (f * 8 ≤ 70368744177664))).bind fun _ => ((chk (decide (0 ≤ c) && decide (c < (List.length (List.replicate (Int.toNat f) (0:Int)):Int)))).bind fun _ => (Z46.l1 R N n N a c b c a (List.length a:Int) (0:Int) d e f g (List.set (List.replicate (Int.toNat f) (0:Int)) (Int.toNat c) (1:Int)) h i))))) else some ⟨o_Z46,(h,())⟩) := (hw _ _).trans (by kernel_rfl)
theorem Z46.ev (R:Run) (N:Nat) (a0 a1 a2:Int) (a3:(List Int)):evFn E R sg_Z46 pol_Z46 F_Z46 N [⟨yI,a0⟩,⟨yI,a1⟩,⟨yI,a2⟩,⟨yL,a3⟩] = ((callT R n_Z52 o_Z52 [⟨yI,a0⟩,⟨yI,a1⟩,⟨yI,a2⟩,⟨yL,a3⟩]).bind fun r1 => ((callT R n_Z26 o_Z26 [⟨yK,r1.1⟩,⟨yI,a2⟩,⟨yI,a0⟩]).bind fun r2 => (Z46.l0 R N N r2.1 a2 (0:Int) a0 a1 a2 a3 ([]:List (List Int)) r2.2.2.1))) := by kernel_rfl
theorem Z49.ev (R:Run) (N:Nat) (a0:Int):evFn E R sg_Z49 pol_Z49 F_Z49 N [⟨yI,a0⟩] = some ⟨o_Z49,((a0 != (0:Int)),())⟩ := by kernel_rfl
noncomputable def Z94.l0 (R:Run) (N n:Nat) (a:(List Int)) (b e:Int):Option Dv := R.w (some ⟨(.c (.d yL a)::(.c (.d (.fn n_Z49 .nil) ())::(zd 5 (.c (.d yI b)::(.c (.d yI e)::(zd 10 [])))))),(zo 21 [])⟩) fun st => q2_5 R N n st (kB R pol_Z91 0 (q2_3 R N (kTop E sg_Z91 F_Z91)))
theorem Z94.l0_succ (R:Run) (hw:R.ok) (N n:Nat) (a:(List Int)) (b c:Int):Z94.l0 R N (n + 1) a b c = (bif (decide (c < b)) then ((idx? a c).bind fun y4 => ((callT R n_Z49 o_Z49 [⟨yI,(y4,()).1⟩]).bind fun r5 => (bif r5.1 then some ⟨o_Z91,(c,())⟩ else (Z94.l0 R N n a b (w64 (c + (1:Int))))))) else some ⟨o_Z91,((-1:Int),())⟩) := (hw _ _).trans (by kernel_rfl)
theorem Z94.ev (R:Run) (N:Nat) (a0:(List Int)):evFn E R sg_Z91 pol_Z91 F_Z91 N [⟨yL,a0⟩,⟨(.fn n_Z49 .nil),()⟩] = (Z94.l0 R N N a0 (List.length a0:Int) (0:Int)) := by kernel_rfl
noncomputable def Z48.l0 (R:Run) (N n:Nat) (a:vK) (b e:Int) (f:(List Int)):Option Dv := R.w (some ⟨(zd 3 (.c (.arr 17)::(zd 3 (.c (.d yK a)::(.c (.d yI b)::(.c (.d yI e)::(zd 10 []))))))),(zo 17 (some (.arr yI f true false false)::(zo 5 [])))⟩) fun st => lC R pol_Z48 3 N [1,1,0,1,0,0] F_Z48 n st (kB R pol_Z48 0 (kS R pol_Z48 7 N [1,1,1] F_Z48 (kTop E sg_Z48 F_Z48)))
theorem Z48.l0_succ (R:Run) (hw:R.ok) (N n:Nat) (a:vK) (b c:Int) (d:(List Int)):Z48.l0 R N (n + 1) a b c d = (bif (decide (c < b)) then ((idx? a c).bind fun y5 => ((callT R n_Z91 o_Z91 [⟨yL,(y5,()).1⟩,⟨(.fn n_Z49 .nil),()⟩]).bind fun r6 => ((chk (decide ((List.length d + List.length [r6.1]) * 8 ≤ 70368744177664))).bind fun _ => (Z48.l0 R N n a b (w64 (c + (1:Int))) (d ++ [r6.1]))))) else some ⟨o_Z48,(d,())⟩) := (hw _ _).trans (by kernel_rfl)
theorem Z48.ev (R:Run) (N:Nat) (a0 a1:Int) (a2:vK):evFn E R sg_Z48 pol_Z48 F_Z48 N [⟨yI,a0⟩,⟨yI,a1⟩,⟨yK,a2⟩] = (Z48.l0 R N N a2 (List.length a2:Int) (0:Int) ([]:List Int)) := by kernel_rfl
theorem Z45.ev (R:Run) (N:Nat) (a0:Int):evFn E R sg_Z45 pol_Z45 F_Z45 N [⟨yI,a0⟩] = some ⟨o_Z45,((a0 != (0:Int)),())⟩ := by kernel_rfl
noncomputable def Z93.l0 (R:Run) (N n:Nat) (a:(List Int)) (b e:Int):Option Dv := R.w (some ⟨(.c (.d yL a)::(.c (.d (.fn n_Z45 .nil) ())::(zd 5 (.c (.d yI b)::(.c (.d yI e)::(zd 10 [])))))),(zo 21 [])⟩) fun st => q2_5 R N n st (kB R pol_Z91 0 (q2_3 R N (kTop E sg_Z91 F_Z91)))
theorem Z93.l0_succ (R:Run) (hw:R.ok) (N n:Nat) (a:(List Int)) (b c:Int):Z93.l0 R N (n + 1) a b c = (bif (decide (c < b)) then ((idx? a c).bind fun y4 => ((callT R n_Z45 o_Z45 [⟨yI,(y4,()).1⟩]).bind fun r5 => (bif r5.1 then some ⟨o_Z91,(c,())⟩ else (Z93.l0 R N n a b (w64 (c + (1:Int))))))) else some ⟨o_Z91,((-1:Int),())⟩) := (hw _ _).trans (by kernel_rfl)
theorem Z93.ev (R:Run) (N:Nat) (a0:(List Int)):evFn E R sg_Z91 pol_Z91 F_Z91 N [⟨yL,a0⟩,⟨(.fn n_Z45 .nil),()⟩] = (Z93.l0 R N N a0 (List.length a0:Int) (0:Int)) := by kernel_rfl
theorem Z84.ev (R:Run) (N:Nat) (a0:(List Int)):evFn E R sg_Z82 pol_Z82 F_Z82 N [⟨yL,a0⟩,⟨(.fn n_Z45 .nil),()⟩] = ((callT R n_Z91 o_Z91 [⟨yL,a0⟩,⟨(.fn n_Z45 .nil),()⟩]).bind fun r1 => some ⟨o_Z82,((decide (r1.1 ≥ (0:Int))),())⟩) := by kernel_rfl
theorem Z44.ev (R:Run) (N:Nat) (a0:(List Int)):evFn E R sg_Z44 pol_Z44 F_Z44 N [⟨yL,a0⟩] = ((callT R n_Z82 o_Z82 [⟨yL,a0⟩,⟨(.fn n_Z45 .nil),()⟩]).bind fun r1 => some ⟨o_Z44,((!r1.1),())⟩) := by kernel_rfl
noncomputable def Z23.l0 (R:Run) (N n:Nat) (a b e:(List Int)) (f g h i:Int) (j:vK) (k:(List Int)):Option Dv := R.w (some ⟨(V.dead::(.c (.d yL a)::(.c (.box 2 0)::(zd 3 (.c (.arr 25)::(.c (.d yL b)::(zd 4 (.c (.d yL e)::(.c (.d yI f)::(.c (.d yI g)::(zd 34 []))))))))))),(none::(none::(some (.box [.d yI h,.d yI i,.d yK j] false false)::(zo 22 (some (.arr yI k true false false)::(zo 27 []))))))⟩) fun st => lC R pol_Z23 4 N [1,1,1,0,1,0,0] F_Z23 n st (kB R pol_Z23 0 (kS R pol_Z23 9 N [1,1,1,1] F_Z23 (kTop E sg_Z23 F_Z23)))
theorem Z23.l0_succ (R:Run) (hw:R.ok) (N n:Nat) (a b c:(List Int)) (d e f g:Int) (h:vK) (i:(List Int)):Z23.l0 R N (n + 1) a b c d e f g h i = (bif (decide (e < d)) then ((idx? c e).bind fun y11 => ((idx? a (y11,()).1).bind fun y12 => ((chk (decide ((List.length i + List.length [(y12,()).1]) * 8 ≤ 70368744177664))).bind fun _ => ((idx? h e).bind fun y13 => ((idx? a (y11,()).1).bind fun y14 => ((chk (f != 0)).bind fun _ => ((callT R n_Z13 o_Z13 [⟨yL,b⟩,⟨yL,(y13,()).1⟩,⟨yI,(Int.tmod (w64 (f - (y14,()).1)) f)⟩,⟨yI,f⟩]).bind fun r15 => (Z23.l0 R N n a r15.1 c d (w64 (e + (1:Int))) f g h (i ++ [(y12,()).1]))))))))) else ((callT R n_Z44 o_Z44 [⟨yL,b⟩]).bind fun r25 => some ⟨o_Z23,(i,r25.1,())⟩)) := (hw _ _).trans (by kernel_rfl)
theorem Z23.ev (R:Run) (N:Nat) (a0 a1:Int) (a2:vK) (a3:(List Int)):evFn E R sg_Z23 pol_Z23 F_Z23 N [⟨yI,a0⟩,⟨yI,a1⟩,⟨yK,a2⟩,⟨yL,a3⟩] = ((callT R n_Z48 o_Z48 [⟨yI,a0⟩,⟨yI,a1⟩,⟨yK,a2⟩]).bind fun r1 => (Z23.l0 R N N a3 a3 r1.1 (List.length r1.1:Int) (0:Int) a0 a1 a2 ([]:List Int))) := by kernel_rfl
theorem Z22.ev (R:Run) (N:Nat) (a0 a1:Int) (a2:vK) (a3:(List Int)):evFn E R sg_Z22 pol_Z22 F_Z22 N [⟨yI,a0⟩,⟨yI,a1⟩,⟨yK,a2⟩,⟨yL,a3⟩] = ((callT R n_Z23 o_Z23 [⟨yI,a0⟩,⟨yI,a1⟩,⟨yK,a2⟩,⟨yL,a3⟩]).bind fun r1 => some ⟨o_Z22,(r1.2.1,())⟩) := by kernel_rfl
noncomputable def Z35.l0 (R:Run) (N n:Nat) (a:vK) (b e f g:Int) (h i:vK):Option Dv := R.w (some ⟨(V.dead::(V.dead::(.c (.box 2 0)::(V.dead::(V.dead::(.c (.arr 21)::(V.dead::(V.dead::(.c (.d yK a)::(.c (.d yI b)::(.c (.d yI e)::(zd 24 [])))))))))))),(none::(none::(some (.box [.d yI f,.d yI g,.d yK h] false false)::(zo 18 (some (.arr yL i false false false)::(zo 18 []))))))⟩) fun st => lC R pol_Z35 3 N [1,1,0,1,0,0] F_Z35 n st (kB R pol_Z35 0 (kS R pol_Z35 9 N [1,1,1] F_Z35 (kTop E sg_Z35 F_Z35)))
theorem Z35.l0_succ (R:Run) (hw:R.ok) (N n:Nat) (a:vK) (b c d e:Int) (f g:vK):Z35.l0 R N (n + 1) a b c d e f g = (bif (decide (c < b)) then ((idx? a c).bind fun y8 => ((callT R n_Z22 o_Z22 [⟨yI,d⟩,⟨yI,e⟩,⟨yK,f⟩,⟨yL,(y8,()).1⟩]).bind fun r9 => (bif (!r9.1) then ((chk (decide ((List.length g + List.length [(y8,()).1]) * 24 ≤ 70368744177664))).bind fun _ => (both ((callT R n_Z24 o_Z24 [⟨yK,f⟩]).bind fun r10 => ((chk (decide ((List.length r10.1 + List.length [(y8,()).1]) * 24 ≤ 70368744177664))).bind fun _ => ((callT R n_Z56 o_Z56 [⟨yI,d⟩,⟨yI,e⟩,⟨yK,(r10.1 ++ [(y8,()).1])⟩]).bind fun r11 => (Z35.l0 R N n a b (w64 (c + (1:Int))) r11.1 r11.2.1 r11.2.2.1 (g ++ [(y8,()).1]))))) ((callT R n_Z24 o_Z24 [⟨yK,f⟩]).bind fun r19 => ((chk (decide ((List.length r19.1 + List.length [(y8,()).1]) * 24 ≤ 70368744177664))).bind fun _ => ((callT R n_Z56 o_Z56 [⟨yI,d⟩,⟨yI,e⟩,⟨yK,(r19.1 ++ [(y8,()).1])⟩]).bind fun r20 => (Z35.l0 R N n a b (w64 (c + (1:Int))) r20.1 r20.2.1 r20.2.2.1 (g ++ [(y8,()).1]))))))) else (Z35.l0 R N n a b (w64 (c + (1:Int))) d e f g)))) else some ⟨o_Z35,(g,())⟩) := (hw _ _).trans (by kernel_rfl)
theorem Z35.ev (R:Run) (N:Nat) (a0 a1:Int) (a2 a3:vK):evFn E R sg_Z35 pol_Z35 F_Z35 N [⟨yI,a0⟩,⟨yI,a1⟩,⟨yK,a2⟩,⟨yK,a3⟩] = (Z35.l0 R N N a3 (List.length a3:Int) (0:Int) a0 a1 a2 ([]:List (List Int))) := by kernel_rfl
theorem Z33.ev (R:Run) (N:Nat) (a0:vK) (a1 a2:Int):evFn E R sg_Z33 pol_Z33 F_Z33 N [⟨yK,a0⟩,⟨yI,a1⟩,⟨yI,a2⟩] = ((callT R n_Z16 o_Z16 [⟨yK,a0⟩,⟨yI,a1⟩,⟨yI,a2⟩]).bind fun r1 => ((callT R n_Z17 o_Z17 [⟨yK,a0⟩,⟨yI,a1⟩,⟨yI,a2⟩]).bind fun r2 => ((callT R n_Z46 o_Z46 [⟨yI,r2.1⟩,⟨yI,r2.2.1⟩,⟨yI,r2.2.2.1⟩,⟨yL,r2.2.2.2.1⟩]).bind fun r3 => ((callT R n_Z35 o_Z35 [⟨yI,r1.1⟩,⟨yI,r1.2.1⟩,⟨yK,r1.2.2.1⟩,⟨yK,r3.1⟩]).bind fun r4 => some ⟨o_Z33,(r4.1,())⟩)))) := by kernel_rfl
noncomputable def Z25.l0 (R:Run) (N n:Nat) (a b:(List Int)) (e f g h:Int):Option Dv := R.w (some ⟨(.c (.d yL a)::(.c (.d yL b)::(.c (.d yI e)::(zd 4 (.c (.d yI f)::(V.dead::(V.dead::(.c (.d yI g)::(.c (.d yI h)::(zd 17 [])))))))))),(zo 32 [])⟩) fun st => lC R pol_Z25 3 N [1,1,0,1,0,0] F_Z25 n st (kB R pol_Z25 0 (kS R pol_Z25 7 N [1,1,1] F_Z25 (kTop E sg_Z25 F_Z25)))
theorem Z25.l0_succ (R:Run) (hw:R.ok) (N n:Nat) (a b:(List Int)) (c d e f:Int):Z25.l0 R N (n + 1) a b c d e f = (bif (decide (f < e)) then ((idx? a f).bind fun y7 => ((idx? b f).bind fun y8 => ((chk (c != 0)).bind fun _ => (Z25.l0 R N n a b c (Int.tmod (w64 (d + (w64 ((y7,()).1 * (y8,()).1)))) c) e (w64 (f + (1:Int))))))) else some ⟨o_Z25,(d,())⟩) := (hw _ _).trans (by kernel_rfl)
theorem Z25.ev (R:Run) (N:Nat) (a0 a1:(List Int)) (a2:Int):evFn E R sg_Z25 pol_Z25 F_Z25 N [⟨yL,a0⟩,⟨yL,a1⟩,⟨yI,a2⟩] = (Z25.l0 R N N a0 a1 a2 (0:Int) (List.length a0:Int) (0:Int)) := by kernel_rfl
noncomputable def Z15.l0 (R:Run) (N n:Nat) (a:(List Int)) (b e f g h:Int) (i j:(List Int)):Option Dv := R.w (some ⟨(V.dead::(.c (.d yL a)::(.c (.box 2 0)::(V.dead::(V.dead::(.c (.arr 21)::(V.dead::(V.dead::(.c (.d yI b)::(.c (.d yI e)::(zd 14 []))))))))))),(none::(none::(some (.box [.d yI f,.d yI g,.d yI h,.d yL i] false false)::(zo 18 (some (.arr yI j true false false)::(zo 7 []))))))⟩) fun st => lC R pol_Z15 3 N [1,1,0,1,0,0] F_Z15 n st (kB R pol_Z15 0 (kS R pol_Z15 7 N [1,1,1] F_Z15 (kTop E sg_Z15 F_Z15)))
theorem Z15.l0_succ (R:Run) (hw:R.ok) (N n:Nat) (a:(List Int)) (b c d e f:Int) (g h:(List Int)):Z15.l0 R N (n + 1) a b c d e f g h = (bif (decide (c < b)) then ((callT R n_Z7 o_Z7 [⟨yI,d⟩,⟨yI,e⟩,⟨yI,f⟩,⟨yL,g⟩,⟨yI,c⟩]).bind fun r9 => ((callT R n_Z25 o_Z25 [⟨yL,r9.1⟩,⟨yL,a⟩,⟨yI,d⟩]).bind fun r10 => ((chk (decide ((List.length h + List.length [r10.1]) * 8 ≤ 70368744177664))).bind fun _ => (Z15.l0 R N n a b (w64 (c + (1:Int))) d e f g (h ++ [r10.1]))))) else some ⟨o_Z15,(h,())⟩) := (hw _ _).trans (by kernel_rfl)
theorem Z15.ev (R:Run) (N:Nat) (a0 a1 a2:Int) (a3 a4:(List Int)):evFn E R sg_Z15 pol_Z15 F_Z15 N [⟨yI,a0⟩,⟨yI,a1⟩,⟨yI,a2⟩,⟨yL,a3⟩,⟨yL,a4⟩] = (Z15.l0 R N N a4 a1 (0:Int) a0 a1 a2 a3 ([]:List Int)) := by kernel_rfl
theorem Z54.ev (R:Run) (N:Nat) (a0:vK):evFn E R sg_Z54 pol_Z54 F_Z54 N [⟨yK,a0⟩] = some ⟨o_Z54,((List.length a0:Int),())⟩ := by kernel_rfl
noncomputable def Z5.l0 (R:Run) (N n:Nat) (a b:Int) (e:vK) (f g:Int) (h:vK) (i j k:Int) (l:(List Int)) (m:vK):Option Dv := R.w (some ⟨(zd 3 (.c (.d yI a)::(.c (.d yI b)::(V.dead::(.c (.box 6 0)::(zd 6 (.c (.box 13 0)::(.c (.arr 46)::(zd 20 (.c (.d yK e)::(.c (.d yI f)::(.c (.d yI g)::(zd 17 []))))))))))))),(zo 6 (some (.box [.d yK h] false false)::(zo 6 (some (.box [.d yI i,.d yI j,.d yI k,.d yL l] false false)::(zo 32 (some (.arr yL m true false false)::(zo 14 [])))))))⟩) fun st => lC R pol_Z5 7 N [1,1,1,1,0,1,0,0] F_Z5 n st (kB R pol_Z5 0 (kS R pol_Z5 11 N [1,1,1,1,1] F_Z5 (kTop E sg_Z5 F_Z5)))
theorem Z5.l0_succ (R:Run) (hw:R.ok) (N n:Nat) (a b:Int) (c:vK) (d e:Int) (f:vK) (g h i:Int) (j:(List Int)) (k:vK):Z5.l0 R N (n + 1) a b c d e f g h i j k = (bif (decide (e < d)) then ((idx? c e).bind fun y15 => ((callT R n_Z15 o_Z15 [⟨yI,g⟩,⟨yI,h⟩,⟨yI,i⟩,⟨yL,j⟩,⟨yL,(y15,()).1⟩]).bind fun r16 => ((chk (decide ((List.length k + List.length [r16.1]) * 24 ≤ 70368744177664))).bind fun _ => (Z5.l0 R N n a b c d (w64 (e + (1:Int))) f g h i j (k ++ [r16.1]))))) else ((callT R n_Z16 o_Z16 [⟨yK,f⟩,⟨yI,a⟩,⟨yI,b⟩]).bind fun r28 => ((callT R n_Z35 o_Z35 [⟨yI,r28.1⟩,⟨yI,r28.2.1⟩,⟨yK,r28.2.2.1⟩,⟨yK,k⟩]).bind fun r29 => ((callT R n_Z54 o_Z54 [⟨yK,r29.1⟩]).bind fun r30 => some ⟨o_Z5,(r30.1,(0:Int),())⟩)))) := (hw _ _).trans (by kernel_rfl)
theorem Z5.ev (R:Run) (N:Nat) (a0 a1:vK) (a2:(List Int)) (a3 a4:Int):evFn E R sg_Z5 pol_Z5 F_Z5 N [⟨yK,a0⟩,⟨yK,a1⟩,⟨yL,a2⟩,⟨yI,a3⟩,⟨yI,a4⟩] = ((callT R n_Z19 o_Z19 [⟨yK,a0⟩,⟨yK,a1⟩,⟨yL,a2⟩,⟨yI,a3⟩,⟨yI,a4⟩,⟨yI,(1:Int)⟩]).bind fun r1 => (bif (r1.1 != (0:Int)) then some ⟨o_Z5,((0:Int),r1.1,())⟩ else ((callT R n_Z18 o_Z18 [⟨yK,a0⟩,⟨yK,a1⟩,⟨yL,a2⟩,⟨yI,a3⟩,⟨yI,a4⟩]).bind fun r2 => ((callT R n_Z33 o_Z33 [⟨yK,a0⟩,⟨yI,a3⟩,⟨yI,a4⟩]).bind fun r3 => (Z5.l0 R N N a3 a4 r3.1 (List.length r3.1:Int) (0:Int) a1 r2.1 r2.2.1 r2.2.2.1 r2.2.2.2.1 ([]:List (List Int))))))) := by kernel_rfl
noncomputable def Z65.l0 (R:Run) (N n:Nat) (a b:(List Int)) (e:Int):Option Dv := R.w (some ⟨(.c (.d yL a)::(.c (.d yL b)::(zd 3 (.c (.d yI e)::(zd 20 []))))),(zo 28 [])⟩) fun st => lC R pol_Z65 4 N [1,1,0,1,0,0] F_Z65 n st (kB R pol_Z65 0 (kS R pol_Z65 8 N [1,1,1] F_Z65 (kTop E sg_Z65 F_Z65)))
theorem Z65.l0_succ (R:Run) (hw:R.ok) (N n:Nat) (a b:(List Int)) (c:Int):Z65.l0 R N (n + 1) a b c = (bif (decide (c < (List.length a:Int))) then ((idx? a c).bind fun y4 => ((idx? b c).bind fun y5 => (bif ((y4,()).1 != (y5,()).1) then some ⟨o_Z65,(false,())⟩ else (Z65.l0 R N n a b (w64 (c + (1:Int))))))) else some ⟨o_Z65,(true,())⟩) := (hw _ _).trans (by kernel_rfl)
theorem Z65.ev (R:Run) (N:Nat) (a0 a1:(List Int)):evFn E R sg_Z65 pol_Z65 F_Z65 N [⟨yL,a0⟩,⟨yL,a1⟩] = (bif ((List.length a0:Int) != (List.length a1:Int)) then some ⟨o_Z65,(false,())⟩ else (Z65.l0 R N N a0 a1 (0:Int))) := by kernel_rfl
noncomputable def Z66.l0 (R:Run) (N n:Nat) (a b:vK) (e:Int):Option Dv := R.w (some ⟨(.c (.d yK a)::(.c (.d yK b)::(zd 3 (.c (.d yI e)::(zd 21 []))))),(zo 29 [])⟩) fun st => lC R pol_Z66 4 N [1,1,0,1,0,0] F_Z66 n st (kB R pol_Z66 0 (kS R pol_Z66 8 N [1,1,1] F_Z66 (kTop E sg_Z66 F_Z66)))
theorem Z66.l0_succ (R:Run) (hw:R.ok) (N n:Nat) (a b:vK) (c:Int):Z66.l0 R N (n + 1) a b c = (bif (decide (c < (List.length a:Int))) then ((idx? a c).bind fun y4 => ((idx? b c).bind fun y5 => ((callT R n_Z65 o_Z65 [⟨yL,(y4,()).1⟩,⟨yL,(y5,()).1⟩]).bind fun r6 => (bif (!r6.1) then some ⟨o_Z66,(false,())⟩ else (Z66.l0 R N n a b (w64 (c + (1:Int)))))))) else some ⟨o_Z66,(true,())⟩) := (hw _ _).trans (by kernel_rfl)
theorem Z66.ev (R:Run) (N:Nat) (a0 a1:vK):evFn E R sg_Z66 pol_Z66 F_Z66 N [⟨yK,a0⟩,⟨yK,a1⟩] = (bif ((List.length a0:Int) != (List.length a1:Int)) then some ⟨o_Z66,(false,())⟩ else (Z66.l0 R N N a0 a1 (0:Int))) := by kernel_rfl
theorem Z64.ev (R:Run) (N:Nat) (a0 a1:vK):evFn E R sg_Z64 pol_Z64 F_Z64 N [⟨yK,a0⟩,⟨yK,a1⟩] = ((callT R n_Z66 o_Z66 [⟨yK,a0⟩,⟨yK,a1⟩]).bind fun r1 => (bif (!r1.1) then some ⟨o_Z64,(false,())⟩ else some ⟨o_Z64,(true,())⟩)) := by kernel_rfl
noncomputable def Z63.j0 (R:Run) (N:Nat) (a b:(List Int)) (e:Bool) (f g h i:vK):Option Dv := R.w (some ⟨(V.dead::(V.dead::(.c (.d yL a)::(V.dead::(V.dead::(.c (.box 5 0)::(.c (.box 6 0)::(zd 7 (.c (.box 14 0)::(.c (.box 15 0)::(.c (.d yL b)::(zd 49 (.c (.d .bool e)::(zd 15 [])))))))))))))),(zo 5 (some (.box [.d yK f] false false)::(some (.box [.d yK g] false false)::(zo 7 (some (.box [.d yK h] false false)::(some (.box [.d yK i] false false)::(zo 71 [])))))))⟩) fun st => eC R pol_Z63 N [1,1,1,1,1,1,1,1,1,1,1,1,0,1] F_Z63 st (kS R pol_Z63 17 N [1,1,1,1,1,1,1,1,1,1,1,1,1] F_Z63 (kTop E sg_Z63 F_Z63))
theorem Z63.j0_eq (R:Run) (hw:R.ok) (N:Nat) (a b:(List Int)) (c:Bool) (d e f g:vK):Z63.j0 R N a b c d e f g = (bif c then some ⟨o_Z63,(false,())⟩ else ((callT R n_Z70 o_Z70 [⟨yK,d⟩]).bind fun r18 => ((callT R n_Z64 o_Z64 [⟨yK,f⟩,⟨yK,r18.1⟩]).bind fun r19 => (bif (!r19.1) then some ⟨o_Z63,(false,())⟩ else ((callT R n_Z70 o_Z70 [⟨yK,e⟩]).bind fun r20 => ((callT R n_Z64 o_Z64 [⟨yK,g⟩,⟨yK,r20.1⟩]).bind fun r21 => (bif (!r21.1) then some ⟨o_Z63,(false,())⟩ else ((callT R n_Z71 o_Z71 [⟨yL,a⟩]).bind fun r22 => ((callT R n_Z65 o_Z65 [⟨yL,b⟩,⟨yL,r22.1⟩]).bind fun r23 => (bif (!r23.1) then some ⟨o_Z63,(false,())⟩ else some ⟨o_Z63,(true,())⟩)))))))))) := (hw _ _).trans (by kernel_rfl)
theorem Z63.ev (R:Run) (N:Nat) (a0 a1:vK) (a2:(List Int)) (a3 a4:Int):evFn E R sg_Z63 pol_Z63 F_Z63 N [⟨yK,a0⟩,⟨yK,a1⟩,⟨yL,a2⟩,⟨yI,a3⟩,⟨yI,a4⟩] = (bif (decide ((List.length a2:Int) > (1048576:Int))) then some ⟨o_Z63,(true,())⟩ else ((callT R n_Z67 o_Z67 [⟨yK,a0⟩,⟨yI,(1048576:Int)⟩]).bind fun r1 => (bif (decide (r1.1 < (0:Int))) then some ⟨o_Z63,(true,())⟩ else ((callT R n_Z67 o_Z67 [⟨yK,a1⟩,⟨yI,r1.1⟩]).bind fun r2 => (bif (decide (r2.1 < (0:Int))) then some ⟨o_Z63,(true,())⟩ else ((callT R n_Z70 o_Z70 [⟨yK,a0⟩]).bind fun r3 => ((callT R n_Z70 o_Z70 [⟨yK,a1⟩]).bind fun r4 => ((callT R n_Z71 o_Z71 [⟨yL,a2⟩]).bind fun r5 => ((callT R n_Z97 o_Z97 [⟨yK,r3.1⟩,⟨yK,r4.1⟩,⟨yL,r5.1⟩,⟨yI,a3⟩,⟨yI,a4⟩]).bind fun r6 => ((callT R n_Z70 o_Z70 [⟨yK,a0⟩]).bind fun r7 => ((callT R n_Z70 o_Z70 [⟨yK,a1⟩]).bind fun r8 => ((callT R n_Z71 o_Z71 [⟨yL,a2⟩]).bind fun r9 => ((callT R n_Z5 o_Z5 [⟨yK,r7.1⟩,⟨yK,r8.1⟩,⟨yL,r9.1⟩,⟨yI,a3⟩,⟨yI,a4⟩]).bind fun r10 => (bif (r10.1 != r6.1) then (Z63.j0 R N a2 r9.1 true a0 a1 r7.1 r8.1) else (Z63.j0 R N a2 r9.1 (r10.2.1 != r6.2.1) a0 a1 r7.1 r8.1))))))))))))))) := by kernel_rfl
end VeT


set_option linter.unusedVariables false
set_option linter.unusedSimpArgs false
namespace Go.Proofs
open Go.Shelf
def Tryz.sort145_ren : Go.Shelf.Ren := ⟨fun | 53 => 145 | 64 => 206 | 63 => 205 | 78 => 241 | 79 => 242 | 70 => 232 | 71 => 233 | 72 => 234 | 73 => 235 | 74 => 236 | 75 => 237 | 59 => 238 | 76 => 239 | 77 => 240 | 88 => 258 | 89 => 259 | 90 => 260 | 91 => 261 | 92 => 262 | 68 => 263 | 96 => 268 | n => n, fun | 22 => 35 | 23 => 2 | 3 => 3 | 51 => 204 | 0 => 0 | 67 => 223 | 69 => 225 | 4 => 4 | 61 => 216 | 60 => 215 | 44 => 185 | 5 => 5 | 9 => 9 | 75 => 236 | 79 => 240 | 83 => 244 | 84 => 245 | n => n, fun | n => n⟩
theorem Tryz.sort145 : Go.Proofs.SlLaysN.n53 Tryz.prog Tryz.sort145_ren := {
  mixed := by kernel_rfl
  f53 := ⟨Tryz.f145.name, by decide, Tryz.func145.trans (congrArg some (by kernel_rfl))⟩
  f59 := ⟨Tryz.f238.name, by decide, Tryz.func238.trans (congrArg some (by kernel_rfl))⟩
  f63 := ⟨Tryz.f205.name, by decide, Tryz.func205.trans (congrArg some (by kernel_rfl))⟩
  f64 := Tryz.func206.trans (congrArg some (by kernel_rfl))
  f68 := ⟨Tryz.f263.name, by decide, Tryz.func263.trans (congrArg some (by kernel_rfl))⟩
  f70 := ⟨Tryz.f232.name, by decide, Tryz.func232.trans (congrArg some (by kernel_rfl))⟩
  f71 := ⟨Tryz.f233.name, by decide, Tryz.func233.trans (congrArg some (by kernel_rfl))⟩
  f72 := ⟨Tryz.f234.name, by decide, Tryz.func234.trans (congrArg some (by kernel_rfl))⟩
  f73 := ⟨Tryz.f235.name, by decide, Tryz.func235.trans (congrArg some (by kernel_rfl))⟩
  f74 := ⟨Tryz.f236.name, by decide, Tryz.func236.trans (congrArg some (by kernel_rfl))⟩
  f75 := ⟨Tryz.f237.name, by decide, Tryz.func237.trans (congrArg some (by kernel_rfl))⟩
  f76 := ⟨Tryz.f239.name, by decide, Tryz.func239.trans (congrArg some (by kernel_rfl))⟩
  f77 := ⟨Tryz.f240.name, by decide, Tryz.func240.trans (congrArg some (by kernel_rfl))⟩
  f78 := Tryz.func241.trans (congrArg some (by kernel_rfl))
  f79 := Tryz.func242.trans (congrArg some (by kernel_rfl))
  f88 := ⟨Tryz.f258.name, by decide, Tryz.func258.trans (congrArg some (by kernel_rfl))⟩
  f89 := Tryz.func259.trans (congrArg some (by kernel_rfl))
  f90 := Tryz.func260.trans (congrArg some (by kernel_rfl))
  f91 := ⟨Tryz.f261.name, by decide, Tryz.func261.trans (congrArg some (by kernel_rfl))⟩
  f92 := ⟨Tryz.f262.name, by decide, Tryz.func262.trans (congrArg some (by kernel_rfl))⟩
  f96 := ⟨Tryz.f268.name, by decide, Tryz.func268.trans (congrArg some (by kernel_rfl))⟩
  t0 := Tryz.underlying0
  a0 := Tryz.isAgg0
  z0 := Tryz.sizeOf0
  v0 := Tryz.zeroValue0
  t3 := Tryz.underlying3
  a3 := Tryz.isAgg3
  z3 := Tryz.sizeOf3
  v3 := Tryz.zeroValue3
  t4 := Tryz.underlying4
  a4 := Tryz.isAgg4
  z4 := Tryz.sizeOf4
  v4 := Tryz.zeroValue4
  t5 := Tryz.underlying5
  a5 := Tryz.isAgg5
  z5 := Tryz.sizeOf5
  v5 := Tryz.zeroValue5
  t9 := Tryz.underlying9
  a9 := Tryz.isAgg9
  z9 := Tryz.sizeOf9
  v9 := Tryz.zeroValue9
  t22 := Tryz.underlying35
  a22 := Tryz.isAgg35
  z22 := Tryz.sizeOf35
  v22 := Tryz.zeroValue35
  t23 := Tryz.underlying2
  a23 := Tryz.isAgg2
  z23 := Tryz.sizeOf2
  v23 := Tryz.zeroValue2
  t44 := Tryz.underlying185
  a44 := Tryz.isAgg185
  z44 := Tryz.sizeOf185
  v44 := Tryz.zeroValue185
  t51 := Tryz.underlying204
  a51 := Tryz.isAgg204
  z51 := Tryz.sizeOf204
  v51 := Tryz.zeroValue204
  t60 := Tryz.underlying215
  a60 := Tryz.isAgg215
  z60 := Tryz.sizeOf215
  v60 := Tryz.zeroValue215
  t61 := Tryz.underlying216
  a61 := Tryz.isAgg216
  z61 := Tryz.sizeOf216
  v61 := Tryz.zeroValue216
  t67 := Tryz.underlying223
  a67 := Tryz.isAgg223
  z67 := Tryz.sizeOf223
  v67 := Tryz.zeroValue223
  t69 := Tryz.underlying225
  a69 := Tryz.isAgg225
  z69 := Tryz.sizeOf225
  v69 := Tryz.zeroValue225
  t75 := Tryz.underlying236
  a75 := Tryz.isAgg236
  z75 := Tryz.sizeOf236
  v75 := Tryz.zeroValue236
  t79 := Tryz.underlying240
  a79 := Tryz.isAgg240
  z79 := Tryz.sizeOf240
  v79 := Tryz.zeroValue240
  t83 := Tryz.underlying244
  a83 := Tryz.isAgg244
  z83 := Tryz.sizeOf244
  v83 := Tryz.zeroValue244
  t84 := Tryz.underlying245
  a84 := Tryz.isAgg245
  z84 := Tryz.sizeOf245
  v84 := Tryz.zeroValue245 }
def Tryz.comp146_ren : Go.Shelf.Ren := ⟨fun | 43 => 146 | n => n, fun | 22 => 35 | 23 => 2 | 3 => 3 | 4 => 4 | 0 => 0 | n => n, fun | n => n⟩
theorem Tryz.comp146 : Go.Proofs.SlLaysN.n43 Tryz.prog Tryz.comp146_ren := {
  mixed := by kernel_rfl
  f43 := ⟨Tryz.f146.name, by decide, Tryz.func146.trans (congrArg some (by kernel_rfl))⟩
  t0 := Tryz.underlying0
  a0 := Tryz.isAgg0
  z0 := Tryz.sizeOf0
  v0 := Tryz.zeroValue0
  t3 := Tryz.underlying3
  a3 := Tryz.isAgg3
  z3 := Tryz.sizeOf3
  v3 := Tryz.zeroValue3
  t4 := Tryz.underlying4
  a4 := Tryz.isAgg4
  z4 := Tryz.sizeOf4
  v4 := Tryz.zeroValue4
  t22 := Tryz.underlying35
  a22 := Tryz.isAgg35
  z22 := Tryz.sizeOf35
  v22 := Tryz.zeroValue35
  t23 := Tryz.underlying2
  a23 := Tryz.isAgg2
  z23 := Tryz.sizeOf2
  v23 := Tryz.zeroValue2
  i23 := by kernel_rfl }
end Go.Proofs
namespace VeT
section
open Go Go.Proofs Go.RowKit Go.Lib
open Ve in
theorem sort145_contract (R : Run) {args : List Dv} {dv : Dv} (h : pSortI R args = some dv) : Contract Tryz.prog ⟨[(false, 1)], [.io true], .cons tL .nil, [], [], []⟩ 145 args dv :=
  sortI_contract (fun blk cap zs w a b c => AnyG.slices_Sort_int Tryz.sort145 blk 0 cap zs w a b c)
    (fun A cap w => (AnyG.slices_Sort_int_none Tryz.sort145 A cap w).mono fun e w' ⟨h, hw⟩ => ⟨h, by rw [hw], by rw [hw]; exact Kin.refl _⟩) h

open Ve in
theorem comp146_contract (R : Run) {args : List Dv} {dv : Dv} (h : pCompI R args = some dv) : Contract Tryz.prog ⟨[(false, 1)], [.take true], .cons tL .nil, [(false, 1)], [.deep], []⟩ 146 args dv :=
  compI_contract (fun blk cap zs w a b c => AnyG.slices_Compact_int Tryz.comp146 blk 0 cap zs w a b c)
    (fun A cap w => AnyG.slices_Compact_int_empty Tryz.comp146 A cap w) h

set_option maxHeartbeats 2000000 in
set_option maxRecDepth 100000 in
theorem grow225_room (base : Option Addr) (l c n : Nat) (w : World) (hlc : l ≤ c) (hc63 : c ≤ 9223372036854775807) (hn63 : n ≤ 9223372036854775807) (hroom : l + n ≤ c) :
    Calls Tryz.prog 225 #[.slice base l c, .int .i64 n] w fun e w' => e = .returned (.slice base l c) ∧ w' = w := by
  have h1 : ¬ ((n : Int) < 0) := by omega
  have h2 : wrap64 ((c : Int) - (l : Int)) = (c : Int) - (l : Int) := by unfold wrap64; omega
  have h3 : wrap64 ((n : Int) - ((c : Int) - (l : Int))) = (n : Int) - ((c : Int) - (l : Int)) := by unfold wrap64; omega
  have h4 : ¬ ((n : Int) - ((c : Int) - (l : Int)) > 0) := by omega
  go_enter Tryz.func225, Tryz.ntmps225
  go_wp2
  go_ret
  exact ⟨rfl, rfl⟩

set_option maxHeartbeats 4000000 in
set_option maxRecDepth 100000 in
theorem grow225_grow (i0 : TypeInfo) (z : Value) (hi0 : Tryz.prog.info? 2 = some i0) (hz0 : i0.zero = some z) (hs0 : 0 < i0.size)
    (base : Option Addr) (l c n : Nat) (cs : List Value) (w : World) (hlc : l ≤ c) (hroom : c < l + n) (hbig : (l + n) * i0.bytes ≤ 140737488355328) (h63 : l + n ≤ 4611686018427387904)
    (hcl : cs.length = c * i0.size) (hnil : base = none → c = 0) (hcs : ∀ a, base = some a → ∀ (j : Nat) v, cs[j]? = some v → w.cell? (a.add j) = some v) :
    Calls Tryz.prog 225 #[.slice base l c, .int .i64 n] w fun e w' =>
      e = .returned (.slice (some ⟨w.heap.size, 0, none⟩) l (grownCap w (l + n) c 2)) ∧
      w' = w.drew.alloc (.cells (cs.toArray ++ Builtin.zeroCells z.cells (l + n - c) ++ Builtin.zeroCells z.cells (grownCap w (l + n) c 2 - (l + n))) 2) := by
  have h1 : ¬ ((n : Int) < 0) := by omega
  have h2 : wrap64 ((c : Int) - (l : Int)) = (c : Int) - (l : Int) := by unfold wrap64; omega
  have h3 : wrap64 ((n : Int) - ((c : Int) - (l : Int))) = (n : Int) - ((c : Int) - (l : Int)) := by unfold wrap64; omega
  have h4 : (n : Int) - ((c : Int) - (l : Int)) > 0 := by omega
  have z25 : ∀ w, (Go.sizeOf 2).run Tryz.prog w = .ok i0.size w := fun w => by simp [Go.sizeOf, typeInfo, hi0]
  have hck : c + (l + n - c) = l + n := by omega
  have hold : (Builtin.firstCells i0.size c (.slice base c c)).run Tryz.prog w.drew = .ok cs.toArray w.drew := by
    cases base with
    | none =>
      have h0 := hnil rfl
      subst h0
      have hc0 : cs = [] := List.length_eq_zero_iff.1 (by simpa using hcl)
      rw [hc0]
      exact run_firstCells_none w.drew i0.size 0 0 0
    | some a => exact run_firstCells_some w.drew i0.size c a c c cs hcl (fun j v hj => hcs a rfl j v hj)
  have hrz : ∀ ty, (Builtin.append_ #[35, 3] ty #[.slice base c c, .int .i64 ((n : Int) - ((c : Int) - (l : Int)))]).run Tryz.prog w =
      .ok (.slice (some ⟨w.heap.size, 0, none⟩) (l + n) (grownCap w (l + n) c 2)) (w.drew.alloc (.cells (cs.toArray ++ Builtin.zeroCells z.cells (l + n - c) ++ Builtin.zeroCells z.cells (grownCap w (l + n) c 2 - (l + n))) 2)) := fun ty => by
    have h := Lib.run_append_grow_zeros w 35 3 ty 2 i0 z .i64 .i64 Tryz.underlying35 Tryz.underlying3 hi0 hz0 base c c cs hold (l + n - c) (by omega) hs0 (by omega) (by omega)
      (by have : (l + n - c) * i0.bytes ≤ (l + n) * i0.bytes := Nat.mul_le_mul_right _ (by omega)
          omega)
      (by rw [hck]; exact growslice_fits hroom hbig)
    rw [hck] at h
    rw [show (n : Int) - ((c : Int) - (l : Int)) = ((l + n - c : Nat) : Int) by omega]
    exact h
  have hGn : l + n ≤ grownCap w (l + n) c 2 := grownCap_ge w _ _ _
  obtain ⟨G, hG⟩ : ∃ G, G = grownCap w (l + n) c 2 := ⟨_, rfl⟩
  rw [← hG] at hrz hGn ⊢
  have hG63 : G ≤ 9223372036854775807 := by
    have := grownCap_le_maxLen w (l + n) c 2 (by unfold maxLen; omega)
    rw [← hG] at this
    unfold maxLen at this
    omega
  clear hold hck hG hcs hcl
  go_enter Tryz.func225, Tryz.ntmps225
  cases base with
  | none =>
    have h0 := hnil rfl
    subst h0
    obtain rfl : l = 0 := by omega
    go_wp2_with (at_builtin; refine Lib.wpList_append_run _ rfl _ _ _ _ rfl _ _ rfl rfl _ _ (hrz _) ?_)
    all_goals (go_ret; exact ⟨rfl, rfl⟩)
  | some a =>
    obtain ⟨ab, ao, asp⟩ := a
    go_wp2_with (at_builtin; refine Lib.wpList_append_run _ rfl _ _ _ _ rfl _ _ rfl rfl _ _ (hrz _) ?_)
    all_goals (go_ret; exact ⟨rfl, rfl⟩)
theorem grow225_info : (Tryz.prog.info? 2).any (fun i => i.size == Ve.Ty.size yI && i.zero.any (fun z => z.cells.size == Ve.Ty.size yI) && decide (i.bytes ≤ 64 * Ve.Ty.size yI) && decide (0 < i.bytes) && decide (0 < Ve.Ty.size yI)) = true := by kernel_rfl
open Ve in
theorem grow225_contract (R : Run) {args : List Dv} {dv : Dv} (h : pGrow yI R args = some dv) :
    Contract Tryz.prog ⟨[(false, 1), (false, 1)], [.take true, .imm], .cons yL .nil, [(false, 1)], [.deep], []⟩ 225 args dv := by
  have hi := grow225_info
  cases hi0 : Tryz.prog.info? 2 with
  | none => rw [hi0] at hi; cases hi
  | some i0 =>
    rw [hi0] at hi
    simp only [Option.any_some, Bool.and_eq_true, decide_eq_true_eq, beq_iff_eq] at hi
    obtain ⟨⟨⟨⟨h1, h2⟩, h3⟩, h4⟩, h5⟩ := hi
    cases hz : i0.zero with
    | none => rw [hz] at h2; cases h2
    | some z =>
      rw [hz] at h2
      exact grow_contract h1 (by simpa using h2) h5 h3 h4 grow225_room (fun base l c n cs w a1 a2 a3 a4 a5 a6 a7 => grow225_grow i0 z hi0 hz (by rw [h1]; exact h5) base l c n cs w a1 a2 a3 a4 a5 a6 a7) R h

end
section
open Go Ve
theorem primL_eq : primL = (List.range 286).map fun i => bif Nat.beq i 145 then some pSortI else bif Nat.beq i 146 then some pCompI else bif Nat.beq i 225 then some (pGrow yI) else none := by kernel_rfl
theorem prims_ok : ∀ f p, E.prim f = some p → ∀ r, RunOk E (mkR r) → ∀ args dv sg, E.sig f = some sg → p (mkR r) args = some dv → Contract E.P sg f args dv := by
  intro f p hp r hr args dv sg hsg h
  have hp : primL.getD f none = some p := hp
  rw [primL_eq, List.getD_eq_getElem?_getD, List.getElem?_map] at hp
  by_cases hf : f < 286
  · rw [List.getElem?_range hf] at hp
    simp only [Option.map_some, Option.getD_some] at hp
    by_cases h145 : f = 145
    · subst h145
      obtain rfl : pSortI = p := Option.some.inj hp
      obtain rfl : sg_Z96 = sg := Option.some.inj (sig_slices_Sort_Sint64_int64_eq.symm.trans hsg)
      exact sort145_contract _ h
    rw [show Nat.beq f 145 = false from Bool.eq_false_iff.2 fun h => h145 (Nat.eq_of_beq_eq_true h), cond_false] at hp
    by_cases h146 : f = 146
    · subst h146
      obtain rfl : pCompI = p := Option.some.inj hp
      obtain rfl : sg_Z76 = sg := Option.some.inj (sig_slices_Compact_Sint64_int64_eq.symm.trans hsg)
      exact comp146_contract _ h
    rw [show Nat.beq f 146 = false from Bool.eq_false_iff.2 fun h => h146 (Nat.eq_of_beq_eq_true h), cond_false] at hp
    by_cases h225 : f = 225
    · subst h225
      obtain rfl : (pGrow yI) = p := Option.some.inj hp
      obtain rfl : sg_Z86 = sg := Option.some.inj (sig_slices_Grow_Sint64_int64_eq.symm.trans hsg)
      exact grow225_contract _ h
    rw [show Nat.beq f 225 = false from Bool.eq_false_iff.2 fun h => h225 (Nat.eq_of_beq_eq_true h), cond_false] at hp
    cases hp
  · rw [List.getElem?_eq_none (by simpa using hf)] at hp
    cases hp
end
end VeT

open Go Go.Proofs Ve
set_option linter.unusedVariables false
set_option linter.unusedSimpArgs false
namespace VeT

theorem szInt64S_ret (x : (List Int)) (l : Int) (hx : Wf yL x) (h0 : 0 ≤ l) (h1 : l ≤ 1048576) :
    ∃ r : Int, Ret E n_Z68 [⟨yL, x⟩, ⟨.int .i64, l⟩] ⟨o_Z68, (r, ())⟩ ∧ (0 ≤ r → r ≤ l ∧ Sm yL x) := by
  have hx1 : x.length ≤ maxLen := hx.1
  rw [maxLen_eq] at hx1
  have hw : w64 (l - x.length) = l - x.length := w64_small (by omega) (by omega)
  by_cases hc : l - (x.length : Int) < 0
  · refine ⟨-1, Evt.succ (Evt.of fun n => ?_), fun h => by omega⟩
    rw [run_Z68, Z68.ev, hw, decide_eq_true hc]; rfl
  · refine ⟨l - x.length, Evt.succ (Evt.of fun n => ?_), fun h => ⟨by omega, by omega, fun x _ => trivial⟩⟩
    rw [run_Z68, Z68.ev, hw, decide_eq_false hc]; rfl

theorem toInt64S_ret (x : (List Int)) (hx : Sm yL x) : Ret E n_Z71 [⟨yL, x⟩] ⟨o_Z71, (x, ())⟩ := by
  have hx1 : x.length ≤ 1048576 := hx.1
  have hl := fill_loop (a := x) (L := fun m n i o => Z71.l0 (mkR (run E m)) m n x i o) (z := List.replicate (Int.toNat (List.length x : Int)) (0 : Int)) (r := some ⟨o_Z71, (x, ())⟩) (by simp) (fun k o hk ho => by
      refine Evt.of fun m n => ?_
      show Z71.l0 _ _ _ _ _ _ = _
      rw [Z71.l0_succ _ mk_ok, decide_eq_true (show (k : Int) < x.length by omega), cond_true, idx_lt hk]
      simp only [Option.bind_some]
      rw [chk_true (by simp; omega), w64_succ (by omega), Int.toNat_natCast]) (Evt.of fun m n => by
      show Z71.l0 _ _ _ _ _ _ = _
      rw [Z71.l0_succ _ mk_ok, decide_eq_false (by omega), cond_false])
  refine Evt.succ (hl.mono fun n h => ?_)
  rw [run_Z71, Z71.ev, chk_true (by simp; omega)]
  exact h

theorem eqInt64S_ret (x y : (List Int)) (hx : Sm yL x) : ∃ b : Bool, Ret E n_Z65 [⟨yL, x⟩, ⟨yL, y⟩] ⟨o_Z65, (b, ())⟩ ∧ (b = true ↔ x = y) := by
  have hx1 : x.length ≤ 1048576 := hx.1
  by_cases hl : x.length = y.length
  · have hd : ((x.length : Int) != (y.length : Int)) = false := by simp [hl]
    obtain ⟨h1, h2⟩ := same_loop (a := x) (b := y) (L := fun m n i (_ : Unit) => Z65.l0 (mkR (run E m)) m n x y i) (fun u v => u = v) (rt := some ⟨o_Z65, (true, ())⟩) (rf := some ⟨o_Z65, (false, ())⟩) hl.symm
      (fun k h h' hne => Evt.of fun m n => by
      show Z65.l0 _ _ _ _ _ _ = _
      rw [Z65.l0_succ _ mk_ok, decide_eq_true (show (k : Int) < x.length by omega), cond_true, idx_lt h, idx_lt h']
      have : (x[k] != y[k]) = true := by simpa using hne
      simp only [Option.bind_some, this, cond_true])
      (fun k h h' he => Evt.of fun m n => by
      show Z65.l0 _ _ _ _ _ _ = _
      rw [Z65.l0_succ _ mk_ok, decide_eq_true (show (k : Int) < x.length by omega), cond_true, idx_lt h, idx_lt h']
      have : (x[k] != y[k]) = false := by simpa using he
      simp only [Option.bind_some, this, cond_false]
      rw [w64_succ (by omega)])
      (Evt.of fun m n => by
      show Z65.l0 _ _ _ _ _ _ = _
      rw [Z65.l0_succ _ mk_ok, decide_eq_false (by omega), cond_false])
    by_cases he : x = y
    · refine ⟨true, Evt.succ ((h1 (by subst he; intros; rfl)).mono fun n h => ?_), by simp [he]⟩
      rw [run_Z65, Z65.ev, hd, cond_false]
      exact h
    · refine ⟨false, Evt.succ ((h2 fun hh => he (List.ext_getElem hl hh)).mono fun n h => ?_), by simp [he]⟩
      rw [run_Z65, Z65.ev, hd, cond_false]
      exact h
  · have hd : ((x.length : Int) != (y.length : Int)) = true := by simp; omega
    refine ⟨false, Evt.succ (Evt.of fun n => ?_), ⟨fun h => (nomatch h), fun h => absurd (congrArg List.length h) hl⟩⟩
    rw [run_Z65, Z65.ev, hd, cond_true]

theorem szInt64SS_ret (x : vK) (l : Int) (hx : Wf yK x) (h0 : 0 ≤ l) (h1 : l ≤ 1048576) :
    ∃ r : Int, Ret E n_Z69 [⟨yK, x⟩, ⟨.int .i64, l⟩] ⟨o_Z69, (r, ())⟩ ∧ (0 ≤ r → r ≤ l ∧ Sm yK x) := by
  have hx1 : x.length ≤ maxLen := hx.1
  rw [maxLen_eq] at hx1
  have hw : w64 (l - x.length) = l - x.length := w64_small (by omega) (by omega)
  by_cases hc : l - (x.length : Int) < 0
  · refine ⟨-1, Evt.succ (Evt.of fun n => ?_), fun h => by omega⟩
    rw [run_Z69, Z69.ev, hw, decide_eq_true hc]; rfl
  · obtain ⟨r, hr, hs⟩ := sz_loop (xs := x) (L := fun m n i left => Z69.l0 (mkR (run E m)) m n x left i) (ret := fun r => some ⟨o_Z69, (r, ())⟩) (fun x => Sm yL x) (fun k left hk hl0 hl1 => by
      obtain ⟨r, hr, hs⟩ := szInt64S_ret x[k] left (hx.2 _ (List.getElem_mem hk)) hl0 hl1
      refine ⟨r, hs, hr.mono fun m h n => ?_⟩
      show Z69.l0 _ _ _ _ _ _ = _
      rw [Z69.l0_succ _ mk_ok, decide_eq_true (show (k : Int) < x.length by omega), cond_true, idx_lt hk]
      simp only [Option.bind_some, callT_of h]
      rw [w64_succ (by omega)]) (fun left => Evt.of fun m n => by
      show Z69.l0 _ _ _ _ _ _ = _
      rw [Z69.l0_succ _ mk_ok, decide_eq_false (by omega), cond_false]) (l - x.length) (by omega) (by omega)
    refine ⟨r, Evt.succ (hr.mono fun n h => ?_), fun h => ⟨by have := (hs h).1; omega, by omega, (hs h).2⟩⟩
    rw [run_Z69, Z69.ev, hw, decide_eq_false hc]
    exact h

theorem toInt64SS_ret (x : vK) (hx : Sm yK x) : Ret E n_Z72 [⟨yK, x⟩] ⟨o_Z72, (x, ())⟩ := by
  have hx1 : x.length ≤ 1048576 := hx.1
  have hl := fill_loop (a := x) (L := fun m n i o => Z72.l0 (mkR (run E m)) m n x i o) (z := List.replicate (Int.toNat (List.length x : Int)) ([] : List Int)) (r := some ⟨o_Z72, (x, ())⟩) (by simp) (fun k o hk ho => by
      have hr := toInt64S_ret x[k] (hx.2 _ (List.getElem_mem hk))
      refine hr.mono fun m h n => ?_
      show Z72.l0 _ _ _ _ _ _ = _
      rw [Z72.l0_succ _ mk_ok, decide_eq_true (show (k : Int) < x.length by omega), cond_true, idx_lt hk]
      simp only [Option.bind_some, callT_of h]
      rw [chk_true (by simp; omega), w64_succ (by omega), Int.toNat_natCast]) (Evt.of fun m n => by
      show Z72.l0 _ _ _ _ _ _ = _
      rw [Z72.l0_succ _ mk_ok, decide_eq_false (by omega), cond_false])
  refine Evt.succ (hl.mono fun n h => ?_)
  rw [run_Z72, Z72.ev, chk_true (by simp; omega)]
  exact h

theorem eqInt64SS_ret (x y : vK) (hx : Sm yK x) : ∃ b : Bool, Ret E n_Z66 [⟨yK, x⟩, ⟨yK, y⟩] ⟨o_Z66, (b, ())⟩ ∧ (b = true ↔ x = y) := by
  have hx1 : x.length ≤ 1048576 := hx.1
  by_cases hl : x.length = y.length
  · have hd : ((x.length : Int) != (y.length : Int)) = false := by simp [hl]
    obtain ⟨h1, h2⟩ := same_loop (a := x) (b := y) (L := fun m n i (_ : Unit) => Z66.l0 (mkR (run E m)) m n x y i) (fun u v => u = v) (rt := some ⟨o_Z66, (true, ())⟩) (rf := some ⟨o_Z66, (false, ())⟩) hl.symm
      (fun k h h' hne => by
      obtain ⟨b, hb, hbe⟩ := eqInt64S_ret x[k] y[k] (hx.2 _ (List.getElem_mem h))
      have hb0 : b = false := by cases b <;> simp_all
      subst hb0
      refine hb.mono fun m hm n => ?_
      show Z66.l0 _ _ _ _ _ _ = _
      rw [Z66.l0_succ _ mk_ok, decide_eq_true (show (k : Int) < x.length by omega), cond_true, idx_lt h, idx_lt h']
      simp only [Option.bind_some, callT_of hm, Bool.not_false, Bool.not_true, cond_true, cond_false])
      (fun k h h' he => by
      obtain ⟨b, hb, hbe⟩ := eqInt64S_ret x[k] y[k] (hx.2 _ (List.getElem_mem h))
      have hb0 : b = true := by cases b <;> simp_all
      subst hb0
      refine hb.mono fun m hm n => ?_
      show Z66.l0 _ _ _ _ _ _ = _
      rw [Z66.l0_succ _ mk_ok, decide_eq_true (show (k : Int) < x.length by omega), cond_true, idx_lt h, idx_lt h']
      simp only [Option.bind_some, callT_of hm, Bool.not_false, Bool.not_true, cond_true, cond_false]
      rw [w64_succ (by omega)])
      (Evt.of fun m n => by
      show Z66.l0 _ _ _ _ _ _ = _
      rw [Z66.l0_succ _ mk_ok, decide_eq_false (by omega), cond_false])
    by_cases he : x = y
    · refine ⟨true, Evt.succ ((h1 (by subst he; intros; rfl)).mono fun n h => ?_), by simp [he]⟩
      rw [run_Z66, Z66.ev, hd, cond_false]
      exact h
    · refine ⟨false, Evt.succ ((h2 fun hh => he (List.ext_getElem hl hh)).mono fun n h => ?_), by simp [he]⟩
      rw [run_Z66, Z66.ev, hd, cond_false]
      exact h
  · have hd : ((x.length : Int) != (y.length : Int)) = true := by simp; omega
    refine ⟨false, Evt.succ (Evt.of fun n => ?_), ⟨fun h => (nomatch h), fun h => absurd (congrArg List.length h) hl⟩⟩
    rw [run_Z66, Z66.ev, hd, cond_true]

theorem szComplex_ret (x : (vK × Unit)) (l : Int) (hx : Wf (.st (.cons yK .nil)) x) (h0 : 0 ≤ l) (h1 : l ≤ 1048576) :
    ∃ r : Int, Ret E n_Z67 [⟨yK, x.1⟩, ⟨.int .i64, l⟩] ⟨o_Z67, (r, ())⟩ ∧ (0 ≤ r → r ≤ l ∧ Sm (.st (.cons yK .nil)) x) := by
  obtain ⟨r0, hr0, hs0⟩ := szInt64SS_ret x.1 l hx.1 (by omega) (by omega)
  by_cases hc0 : r0 < 0
  · refine ⟨-1, Evt.succ (hr0.mono fun n e0 => ?_), fun h => by omega⟩
    rw [run_Z67, Z67.ev]
    simp only [Option.bind_some, cond_true, cond_false, callT_of e0, decide_eq_true hc0]
  have hb0 := hs0 (by omega)
  refine ⟨r0, Evt.succ (hr0.mono fun n e0 => ?_), fun h => ⟨by omega, ?_⟩⟩
  · skip
    rw [run_Z67, Z67.ev]
    simp only [Option.bind_some, cond_true, cond_false, callT_of e0, decide_eq_false hc0]
  · exact ⟨hb0.2, trivial⟩

theorem toComplex_ret (x : (vK × Unit)) (hx : Sm (.st (.cons yK .nil)) x) : Ret E n_Z70 [⟨yK, x.1⟩] ⟨o_Z70, x⟩ := by
  have hr0 := toInt64SS_ret x.1 hx.1
  refine Evt.succ (hr0.mono fun n e0 => ?_)
  rw [run_Z70, Z70.ev]
  simp only [Option.bind_some, callT_of e0]

theorem eqComplex_ret (x y : (vK × Unit)) (hx : Sm (.st (.cons yK .nil)) x) : ∃ b : Bool, Ret E n_Z64 [⟨yK, x.1⟩, ⟨yK, y.1⟩] ⟨o_Z64, (b, ())⟩ ∧ (b = true ↔ x = y) := by
  obtain ⟨b0, hr0, hb0⟩ := eqInt64SS_ret x.1 y.1 hx.1
  refine ⟨b0, Evt.succ (hr0.mono fun n e0 => ?_), ?_⟩
  · skip
    rw [run_Z64, Z64.ev]
    simp only [Option.bind_some, callT_of e0]
    clear hx hr0 e0 hb0
    cases b0 <;> rfl
  · obtain ⟨x0, _⟩ := x
    obtain ⟨y0, _⟩ := y
    simp only [Bool.and_eq_true, decide_eq_true_eq, hb0, Prod.mk.injEq, and_true]
    try simp only [and_assoc]

end VeT

open Go Go.Proofs Ve
set_option linter.unusedVariables false
set_option linter.unusedSimpArgs false
namespace VeT

theorem IndexFunc_SSint64_Sint64_impl_ValidComplex_1_ret (s : List (List Int)) (c : ((vK × Unit) × (Int × Unit) × Unit)) (p : (List Int) → Bool) (hs : s.length ≤ 1048576) (hp : ∀ x ∈ s, Ret E n_Z9 [⟨yL, x⟩, ⟨(.ptr (.cons yK .nil)), c.1⟩, ⟨(.ptr (.cons yI .nil)), c.2.1⟩] ⟨o_Z9, (p x, ())⟩) :
    Ret E n_Z87 [⟨yK, s⟩, ⟨(.fn n_Z9 (.cons (.ptr (.cons yK .nil)) (.cons (.ptr (.cons yI .nil)) .nil))), c⟩] ⟨o_Z87, (idxf p s, ())⟩ := by
  obtain ⟨o, h1, h2, h3⟩ := find_loop 1 (L := fun φ n k => Z88.l0 (mkR (run E (φ 0))) (φ 0) n s c (s.length : Int) k) (len := s.length) (fun k => ∃ h : k < s.length, p s[k] = true) (fun o => some ⟨o_Z87, (o2i o, ())⟩) (fun _ _ _ _ => rfl) (fun k hk hP => by
      obtain ⟨_, hP⟩ := hP
      simp only [Z88.l0_succ _ mk_ok]
      refine ev_t (decide_eq_true (by omega)) (ev_bind (idx_lt hk) (ev_call (hp _ (List.getElem_mem hk)) (ev_t hP ev_rfl)))) (fun k q hk hP ih => by
      simp only [Z88.l0_succ _ mk_ok]
      refine ev_t (decide_eq_true (by omega)) (ev_bind (idx_lt hk) (ev_call (hp _ (List.getElem_mem hk)) (ev_f (Bool.eq_false_iff.2 fun h => hP ⟨hk, h⟩) ?_)))
      rw [w64_succ (by omega)]; exact ih) (by
      simp only [Z88.l0_succ _ mk_ok]
      exact ev_f (decide_eq_false (by omega)) ev_rfl)
  rw [idxf_of h1 h2] at h3
  refine ret_of ?_
  simp only [run_Z87, Z88.ev]
  exact Ev.start (p := fun φ n => Z88.l0 (mkR (run E (φ 0))) (φ 0) n s c (s.length : Int) 0 = _) 1 h3 (fun _ _ _ h => h)

theorem IndexFunc_SSint64_Sint64_impl_eliminate_1_ret (s : List (List Int)) (c : ((Int × Unit) × Unit)) (p : (List Int) → Bool) (hs : s.length ≤ 1048576) (hp : ∀ x ∈ s, Ret E n_Z27 [⟨yL, x⟩, ⟨(.ptr (.cons yI .nil)), c.1⟩] ⟨o_Z27, (p x, ())⟩) :
    Ret E n_Z87 [⟨yK, s⟩, ⟨(.fn n_Z27 (.cons (.ptr (.cons yI .nil)) .nil)), c⟩] ⟨o_Z87, (idxf p s, ())⟩ := by
  obtain ⟨o, h1, h2, h3⟩ := find_loop 1 (L := fun φ n k => Z89.l0 (mkR (run E (φ 0))) (φ 0) n s c (s.length : Int) k) (len := s.length) (fun k => ∃ h : k < s.length, p s[k] = true) (fun o => some ⟨o_Z87, (o2i o, ())⟩) (fun _ _ _ _ => rfl) (fun k hk hP => by
      obtain ⟨_, hP⟩ := hP
      simp only [Z89.l0_succ _ mk_ok]
      refine ev_t (decide_eq_true (by omega)) (ev_bind (idx_lt hk) (ev_call (hp _ (List.getElem_mem hk)) (ev_t hP ev_rfl)))) (fun k q hk hP ih => by
      simp only [Z89.l0_succ _ mk_ok]
      refine ev_t (decide_eq_true (by omega)) (ev_bind (idx_lt hk) (ev_call (hp _ (List.getElem_mem hk)) (ev_f (Bool.eq_false_iff.2 fun h => hP ⟨hk, h⟩) ?_)))
      rw [w64_succ (by omega)]; exact ih) (by
      simp only [Z89.l0_succ _ mk_ok]
      exact ev_f (decide_eq_false (by omega)) ev_rfl)
  rw [idxf_of h1 h2] at h3
  refine ret_of ?_
  simp only [run_Z87, Z89.ev]
  exact Ev.start (p := fun φ n => Z89.l0 (mkR (run E (φ 0))) (φ 0) n s c (s.length : Int) 0 = _) 1 h3 (fun _ _ _ h => h)

theorem IndexFunc_SSint64_Sint64_impl_isMap_1_ret (s : List (List Int)) (c : ((vK × Unit) × (vK × Unit) × ((List Int) × Unit) × Unit)) (p : (List Int) → Bool) (hs : s.length ≤ 1048576) (hp : ∀ x ∈ s, Ret E n_Z41 [⟨yL, x⟩, ⟨(.ptr (.cons yK .nil)), c.1⟩, ⟨(.ptr (.cons yK .nil)), c.2.1⟩, ⟨(.ptr (.cons yL .nil)), c.2.2.1⟩] ⟨o_Z41, (p x, ())⟩) :
    Ret E n_Z87 [⟨yK, s⟩, ⟨(.fn n_Z41 (.cons (.ptr (.cons yK .nil)) (.cons (.ptr (.cons yK .nil)) (.cons (.ptr (.cons yL .nil)) .nil)))), c⟩] ⟨o_Z87, (idxf p s, ())⟩ := by
  obtain ⟨o, h1, h2, h3⟩ := find_loop 1 (L := fun φ n k => Z90.l0 (mkR (run E (φ 0))) (φ 0) n s c (s.length : Int) k) (len := s.length) (fun k => ∃ h : k < s.length, p s[k] = true) (fun o => some ⟨o_Z87, (o2i o, ())⟩) (fun _ _ _ _ => rfl) (fun k hk hP => by
      obtain ⟨_, hP⟩ := hP
      simp only [Z90.l0_succ _ mk_ok]
      refine ev_t (decide_eq_true (by omega)) (ev_bind (idx_lt hk) (ev_call (hp _ (List.getElem_mem hk)) (ev_t hP ev_rfl)))) (fun k q hk hP ih => by
      simp only [Z90.l0_succ _ mk_ok]
      refine ev_t (decide_eq_true (by omega)) (ev_bind (idx_lt hk) (ev_call (hp _ (List.getElem_mem hk)) (ev_f (Bool.eq_false_iff.2 fun h => hP ⟨hk, h⟩) ?_)))
      rw [w64_succ (by omega)]; exact ih) (by
      simp only [Z90.l0_succ _ mk_ok]
      exact ev_f (decide_eq_false (by omega)) ev_rfl)
  rw [idxf_of h1 h2] at h3
  refine ret_of ?_
  simp only [run_Z87, Z90.ev]
  exact Ev.start (p := fun φ n => Z90.l0 (mkR (run E (φ 0))) (φ 0) n s c (s.length : Int) 0 = _) 1 h3 (fun _ _ _ h => h)

theorem IndexFunc_Sint64_int64_impl_ValidSimplex_1_ret (s : List Int) (p : Int → Bool) (hs : s.length ≤ 1048576) (hp : ∀ x ∈ s, Ret E n_Z12 [⟨yI, x⟩] ⟨o_Z12, (p x, ())⟩) :
    Ret E n_Z91 [⟨yL, s⟩, ⟨(.fn n_Z12 .nil), ()⟩] ⟨o_Z91, (idxf p s, ())⟩ := by
  obtain ⟨o, h1, h2, h3⟩ := find_loop 1 (L := fun φ n k => Z92.l0 (mkR (run E (φ 0))) (φ 0) n s (s.length : Int) k) (len := s.length) (fun k => ∃ h : k < s.length, p s[k] = true) (fun o => some ⟨o_Z91, (o2i o, ())⟩) (fun _ _ _ _ => rfl) (fun k hk hP => by
      obtain ⟨_, hP⟩ := hP
      simp only [Z92.l0_succ _ mk_ok]
      refine ev_t (decide_eq_true (by omega)) (ev_bind (idx_lt hk) (ev_call (hp _ (List.getElem_mem hk)) (ev_t hP ev_rfl)))) (fun k q hk hP ih => by
      simp only [Z92.l0_succ _ mk_ok]
      refine ev_t (decide_eq_true (by omega)) (ev_bind (idx_lt hk) (ev_call (hp _ (List.getElem_mem hk)) (ev_f (Bool.eq_false_iff.2 fun h => hP ⟨hk, h⟩) ?_)))
      rw [w64_succ (by omega)]; exact ih) (by
      simp only [Z92.l0_succ _ mk_ok]
      exact ev_f (decide_eq_false (by omega)) ev_rfl)
  rw [idxf_of h1 h2] at h3
  refine ret_of ?_
  simp only [run_Z91, Z92.ev]
  exact Ev.start (p := fun φ n => Z92.l0 (mkR (run E (φ 0))) (φ 0) n s (s.length : Int) 0 = _) 1 h3 (fun _ _ _ h => h)

theorem IndexFunc_Sint64_int64_impl_isZero_1_ret (s : List Int) (p : Int → Bool) (hs : s.length ≤ 1048576) (hp : ∀ x ∈ s, Ret E n_Z45 [⟨yI, x⟩] ⟨o_Z45, (p x, ())⟩) :
    Ret E n_Z91 [⟨yL, s⟩, ⟨(.fn n_Z45 .nil), ()⟩] ⟨o_Z91, (idxf p s, ())⟩ := by
  obtain ⟨o, h1, h2, h3⟩ := find_loop 1 (L := fun φ n k => Z93.l0 (mkR (run E (φ 0))) (φ 0) n s (s.length : Int) k) (len := s.length) (fun k => ∃ h : k < s.length, p s[k] = true) (fun o => some ⟨o_Z91, (o2i o, ())⟩) (fun _ _ _ _ => rfl) (fun k hk hP => by
      obtain ⟨_, hP⟩ := hP
      simp only [Z93.l0_succ _ mk_ok]
      refine ev_t (decide_eq_true (by omega)) (ev_bind (idx_lt hk) (ev_call (hp _ (List.getElem_mem hk)) (ev_t hP ev_rfl)))) (fun k q hk hP ih => by
      simp only [Z93.l0_succ _ mk_ok]
      refine ev_t (decide_eq_true (by omega)) (ev_bind (idx_lt hk) (ev_call (hp _ (List.getElem_mem hk)) (ev_f (Bool.eq_false_iff.2 fun h => hP ⟨hk, h⟩) ?_)))
      rw [w64_succ (by omega)]; exact ih) (by
      simp only [Z93.l0_succ _ mk_ok]
      exact ev_f (decide_eq_false (by omega)) ev_rfl)
  rw [idxf_of h1 h2] at h3
  refine ret_of ?_
  simp only [run_Z91, Z93.ev]
  exact Ev.start (p := fun φ n => Z93.l0 (mkR (run E (φ 0))) (φ 0) n s (s.length : Int) 0 = _) 1 h3 (fun _ _ _ h => h)

theorem IndexFunc_Sint64_int64_impl_placesOf_1_ret (s : List Int) (p : Int → Bool) (hs : s.length ≤ 1048576) (hp : ∀ x ∈ s, Ret E n_Z49 [⟨yI, x⟩] ⟨o_Z49, (p x, ())⟩) :
    Ret E n_Z91 [⟨yL, s⟩, ⟨(.fn n_Z49 .nil), ()⟩] ⟨o_Z91, (idxf p s, ())⟩ := by
  obtain ⟨o, h1, h2, h3⟩ := find_loop 1 (L := fun φ n k => Z94.l0 (mkR (run E (φ 0))) (φ 0) n s (s.length : Int) k) (len := s.length) (fun k => ∃ h : k < s.length, p s[k] = true) (fun o => some ⟨o_Z91, (o2i o, ())⟩) (fun _ _ _ _ => rfl) (fun k hk hP => by
      obtain ⟨_, hP⟩ := hP
      simp only [Z94.l0_succ _ mk_ok]
      refine ev_t (decide_eq_true (by omega)) (ev_bind (idx_lt hk) (ev_call (hp _ (List.getElem_mem hk)) (ev_t hP ev_rfl)))) (fun k q hk hP ih => by
      simp only [Z94.l0_succ _ mk_ok]
      refine ev_t (decide_eq_true (by omega)) (ev_bind (idx_lt hk) (ev_call (hp _ (List.getElem_mem hk)) (ev_f (Bool.eq_false_iff.2 fun h => hP ⟨hk, h⟩) ?_)))
      rw [w64_succ (by omega)]; exact ih) (by
      simp only [Z94.l0_succ _ mk_ok]
      exact ev_f (decide_eq_false (by omega)) ev_rfl)
  rw [idxf_of h1 h2] at h3
  refine ret_of ?_
  simp only [run_Z91, Z94.ev]
  exact Ev.start (p := fun φ n => Z94.l0 (mkR (run E (φ 0))) (φ 0) n s (s.length : Int) 0 = _) 1 h3 (fun _ _ _ h => h)

theorem ContainsFunc_SSint64_Sint64_impl_ValidComplex_1_ret (s : List (List Int)) (c : ((vK × Unit) × (Int × Unit) × Unit)) (p : (List Int) → Bool) (hs : s.length ≤ 1048576) (hp : ∀ x ∈ s, Ret E n_Z9 [⟨yL, x⟩, ⟨(.ptr (.cons yK .nil)), c.1⟩, ⟨(.ptr (.cons yI .nil)), c.2.1⟩] ⟨o_Z9, (p x, ())⟩) :
    Ret E n_Z79 [⟨yK, s⟩, ⟨(.fn n_Z9 (.cons (.ptr (.cons yK .nil)) (.cons (.ptr (.cons yI .nil)) .nil))), c⟩] ⟨o_Z79, (pb (∃ x ∈ s, p x = true), ())⟩ := by
  refine ret_of ?_
  simp only [run_Z79, Z80.ev]
  refine ev_call (IndexFunc_SSint64_Sint64_impl_ValidComplex_1_ret s c p hs hp) (ev_some ?_)
  simp only [ge_iff_le, pb_dec, pb_congr idxf_nonneg]

theorem ContainsFunc_SSint64_Sint64_impl_isMap_1_ret (s : List (List Int)) (c : ((vK × Unit) × (vK × Unit) × ((List Int) × Unit) × Unit)) (p : (List Int) → Bool) (hs : s.length ≤ 1048576) (hp : ∀ x ∈ s, Ret E n_Z41 [⟨yL, x⟩, ⟨(.ptr (.cons yK .nil)), c.1⟩, ⟨(.ptr (.cons yK .nil)), c.2.1⟩, ⟨(.ptr (.cons yL .nil)), c.2.2.1⟩] ⟨o_Z41, (p x, ())⟩) :
    Ret E n_Z79 [⟨yK, s⟩, ⟨(.fn n_Z41 (.cons (.ptr (.cons yK .nil)) (.cons (.ptr (.cons yK .nil)) (.cons (.ptr (.cons yL .nil)) .nil)))), c⟩] ⟨o_Z79, (pb (∃ x ∈ s, p x = true), ())⟩ := by
  refine ret_of ?_
  simp only [run_Z79, Z81.ev]
  refine ev_call (IndexFunc_SSint64_Sint64_impl_isMap_1_ret s c p hs hp) (ev_some ?_)
  simp only [ge_iff_le, pb_dec, pb_congr idxf_nonneg]

theorem ContainsFunc_Sint64_int64_impl_ValidSimplex_1_ret (s : List Int) (p : Int → Bool) (hs : s.length ≤ 1048576) (hp : ∀ x ∈ s, Ret E n_Z12 [⟨yI, x⟩] ⟨o_Z12, (p x, ())⟩) :
    Ret E n_Z82 [⟨yL, s⟩, ⟨(.fn n_Z12 .nil), ()⟩] ⟨o_Z82, (pb (∃ x ∈ s, p x = true), ())⟩ := by
  refine ret_of ?_
  simp only [run_Z82, Z83.ev]
  refine ev_call (IndexFunc_Sint64_int64_impl_ValidSimplex_1_ret s p hs hp) (ev_some ?_)
  simp only [ge_iff_le, pb_dec, pb_congr idxf_nonneg]

theorem ContainsFunc_Sint64_int64_impl_isZero_1_ret (s : List Int) (p : Int → Bool) (hs : s.length ≤ 1048576) (hp : ∀ x ∈ s, Ret E n_Z45 [⟨yI, x⟩] ⟨o_Z45, (p x, ())⟩) :
    Ret E n_Z82 [⟨yL, s⟩, ⟨(.fn n_Z45 .nil), ()⟩] ⟨o_Z82, (pb (∃ x ∈ s, p x = true), ())⟩ := by
  refine ret_of ?_
  simp only [run_Z82, Z84.ev]
  refine ev_call (IndexFunc_Sint64_int64_impl_isZero_1_ret s p hs hp) (ev_some ?_)
  simp only [ge_iff_le, pb_dec, pb_congr idxf_nonneg]

theorem filled_impl_zero_1_ret (p : Int) (R C : Nat) (f : Nat → Nat → Int) (hR : R ≤ 1048576) (hC : C ≤ 1048576) (hRC : R * C ≤ 1048576) (hf : ∀ i j : Nat, i < R → j < C → Ret E n_Z62 [⟨yI, (i : Int)⟩, ⟨yI, (j : Int)⟩] ⟨o_Z62, (f i j, ())⟩) :
    Ret E n_Z30 [⟨yI, p⟩, ⟨yI, (R : Int)⟩, ⟨yI, (C : Int)⟩, ⟨(.fn n_Z62 .nil), ()⟩] ⟨o_Z30, (p, (R : Int), (C : Int), flatF f C R, ())⟩ := by
  refine ret_of ?_
  simp only [run_Z30, Z32.ev]
  refine Ev.start (p := fun φ n => Z32.l0 (mkR (run E (φ 0))) (φ 0) n (C : Int) (R : Int) 0 0 0 0 p (R : Int) (C : Int) [] = _) 1 ?_ (fun _ _ _ h => h)
  refine fold_loop 1 (L := fun φ n k a => Z32.l0 (mkR (run E (φ 0))) (φ 0) n (C : Int) (R : Int) k 0 0 0 p (R : Int) (C : Int) a) (len := R) (fun k => flatF f C k) (fun _ _ _ _ _ => rfl) (fun k r hk ih => ?_) ?_
  · simp only [Z32.l0_succ _ mk_ok]
    refine ev_t (decide_eq_true (by omega)) ?_
    refine Ev.start (p := fun φ n => Z32.l1 (mkR (run E (φ 0))) (φ 0) (φ 1) n (C : Int) (k : Int) (R : Int) (k : Int) (C : Int) 0 0 0 0 p (R : Int) (C : Int) (flatF f C k) = _) 2 ?_ (fun _ _ _ h => h)
    have hle : (k + 1) * C ≤ R * C := Nat.mul_le_mul_right _ hk
    rw [Nat.add_mul] at hle
    have := fold_loop 2 (L := fun φ n j a => Z32.l1 (mkR (run E (φ 0))) (φ 0) (φ 1) n (C : Int) (k : Int) (R : Int) (k : Int) (C : Int) j 0 0 0 p (R : Int) (C : Int) a) (len := C) (fun j => flatF f C k ++ (List.range j).map (f k)) (r := r) (fun _ _ _ _ _ => rfl) (fun j r hj ih => ?_) ?_
    · simpa using this
    · simp only [Z32.l1_succ _ mk_ok]
      rw [List.range_succ, List.map_append, ← List.append_assoc] at ih
      refine ev_t (decide_eq_true (by omega)) (ev_call (hf k j hk hj) (ev_chk (by simp [flatF_length]; omega) ?_))
      rw [w64_succ (by omega)]; exact ih
    · simp only [Z32.l1_succ _ mk_ok]
      refine ev_f (decide_eq_false (by omega)) ?_
      rw [w64_succ (by omega)]; exact ih
  · simp only [Z32.l0_succ _ mk_ok]
    exact ev_f (decide_eq_false (by omega)) ev_rfl

theorem filled_impl_transpose_1_ret (p : Int) (R C : Nat) (c : (vM × Unit)) (f : Nat → Nat → Int) (hR : R ≤ 1048576) (hC : C ≤ 1048576) (hRC : R * C ≤ 1048576) (hf : ∀ i j : Nat, i < R → j < C → Ret E n_Z58 [⟨yI, (i : Int)⟩, ⟨yI, (j : Int)⟩, ⟨(.ptr yM), c.1⟩] ⟨o_Z58, (f i j, ())⟩) :
    Ret E n_Z30 [⟨yI, p⟩, ⟨yI, (R : Int)⟩, ⟨yI, (C : Int)⟩, ⟨(.fn n_Z58 (.cons (.ptr yM) .nil)), c⟩] ⟨o_Z30, (p, (R : Int), (C : Int), flatF f C R, ())⟩ := by
  refine ret_of ?_
  simp only [run_Z30, Z31.ev]
  refine Ev.start (p := fun φ n => Z31.l0 (mkR (run E (φ 0))) (φ 0) n (C : Int) c (R : Int) 0 0 0 0 p (R : Int) (C : Int) [] = _) 1 ?_ (fun _ _ _ h => h)
  refine fold_loop 1 (L := fun φ n k a => Z31.l0 (mkR (run E (φ 0))) (φ 0) n (C : Int) c (R : Int) k 0 0 0 p (R : Int) (C : Int) a) (len := R) (fun k => flatF f C k) (fun _ _ _ _ _ => rfl) (fun k r hk ih => ?_) ?_
  · simp only [Z31.l0_succ _ mk_ok]
    refine ev_t (decide_eq_true (by omega)) ?_
    refine Ev.start (p := fun φ n => Z31.l1 (mkR (run E (φ 0))) (φ 0) (φ 1) n (C : Int) c (k : Int) (R : Int) (k : Int) (C : Int) 0 0 0 0 p (R : Int) (C : Int) (flatF f C k) = _) 2 ?_ (fun _ _ _ h => h)
    have hle : (k + 1) * C ≤ R * C := Nat.mul_le_mul_right _ hk
    rw [Nat.add_mul] at hle
    have := fold_loop 2 (L := fun φ n j a => Z31.l1 (mkR (run E (φ 0))) (φ 0) (φ 1) n (C : Int) c (k : Int) (R : Int) (k : Int) (C : Int) j 0 0 0 p (R : Int) (C : Int) a) (len := C) (fun j => flatF f C k ++ (List.range j).map (f k)) (r := r) (fun _ _ _ _ _ => rfl) (fun j r hj ih => ?_) ?_
    · simpa using this
    · simp only [Z31.l1_succ _ mk_ok]
      rw [List.range_succ, List.map_append, ← List.append_assoc] at ih
      refine ev_t (decide_eq_true (by omega)) (ev_call (hf k j hk hj) (ev_chk (by simp [flatF_length]; omega) ?_))
      rw [w64_succ (by omega)]; exact ih
    · simp only [Z31.l1_succ _ mk_ok]
      refine ev_f (decide_eq_false (by omega)) ?_
      rw [w64_succ (by omega)]; exact ih
  · simp only [Z31.l0_succ _ mk_ok]
    exact ev_f (decide_eq_false (by omega)) ev_rfl

end VeT

open Go Go.Proofs Ve
set_option linter.unusedVariables false
set_option linter.unusedSimpArgs false
namespace VeT

abbrev cM : Ty := .cons yI (.cons yI (.cons yI (.cons yL .nil)))
abbrev cC : Ty := .cons yK .nil
abbrev cS : Ty := .cons yK (.cons yI (.cons yL (.cons (.sl (.st cM)) .nil)))
abbrev Mat := Int × Int × Int × List Int × Unit
abbrev Cpx := List (List Int) × Unit
abbrev Shf := List (List Int) × Int × List Int × List Mat × Unit
abbrev Sim := List Int
abbrev dI (x : Int) : Dv := ⟨.int .i64,x⟩
abbrev dL (x : List Int) : Dv := ⟨.sl yI,x⟩
abbrev dLL (x : List (List Int)) : Dv := ⟨.sl yL,x⟩
abbrev dC (x : Cpx) : Dv := ⟨.ptr cC,x⟩
abbrev dM (x : Mat) : Dv := ⟨.ptr cM,x⟩
abbrev dS (x : Shf) : Dv := ⟨.ptr cS,x⟩
abbrev dMs (x : List Mat) : Dv := ⟨.sl (.st cM),x⟩

theorem within_ret (n lo hi : Int) : Ret E n_Z60 [dI n,dI lo,dI hi] ⟨o_Z60,(pb (lo ≤ n ∧ n ≤ hi),())⟩ := by
  refine ret_of ?_
  simp only [run_Z60,Z60.ev]
  refine ev_d (fun h => ev_some ?_) fun h => ev_some ?_
  · rw [pb_dec,pb_congr (show n ≤ hi ↔ lo ≤ n ∧ n ≤ hi by omega)]
  · rw [pb_false (by omega)]

theorem l00In_ret (n lo hi : Int) : Ret E n_Z100 [dI n,dI lo,dI hi] ⟨o_Z100,(pb (lo ≤ n ∧ n ≤ hi),())⟩ := by
  refine ret_of ?_
  simp only [run_Z100,Z100.ev]
  refine ev_d (fun h => ev_some ?_) fun h => ev_some ?_
  · rw [pb_dec,pb_congr (show n ≤ hi ↔ lo ≤ n ∧ n ≤ hi by omega)]
  · rw [pb_false (by omega)]

theorem isVertex_ret (n : Int) : Ret E n_Z43 [dI n] ⟨o_Z43,(pb (0 ≤ n ∧ n ≤ 9),())⟩ := by
  refine ret_of ?_
  simp only [run_Z43,Z43.ev]
  exact ev_call (within_ret _ _ _) ev_rfl

theorem ValidSimplex_1_ret (n : Int) : Ret E n_Z12 [dI n] ⟨o_Z12,(!pb (0 ≤ n ∧ n ≤ 9),())⟩ := by
  refine ret_of ?_
  simp only [run_Z12,Z12.ev]
  exact ev_call (isVertex_ret _) ev_rfl

/-- the list rises -/
def Rises (s : Sim) : Prop := ∀ j,1 ≤ j → j < s.length → s.getD (j - 1) 0 < s.getD j 0

theorem isRising_ret (s : Sim) (hs : Sm yL s) : Ret E n_Z42 [dL s] ⟨o_Z42,(pb (Rises s),())⟩ := by
  have hs1 : s.length ≤ 1048576 := hs.1
  refine ret_of ?_
  simp only [run_Z42,Z42.ev]
  by_cases h0 : s.length = 0
  · refine Ev.start (p := fun φ n => Z42.l0 (mkR (run E (φ 0))) (φ 0) n s 1 = _) 1 ?_ (fun _ _ _ h => h)
    refine loopR 1 (σ := Unit) (L := fun φ n _ => Z42.l0 (mkR (run E (φ 0))) (φ 0) n s 1) (fun _ _ _ _ => rfl) (fun _ => True) (fun _ => _) (fun _ => 0) (fun _ _ _ => ?_) () trivial
    simp only [Z42.l0_succ _ mk_ok]
    refine ev_f (decide_eq_false (by omega)) (ev_some ?_)
    rw [pb_true]
    intro j h1 h2; omega
  · refine Ev.start (p := fun φ n => Z42.l0 (mkR (run E (φ 0))) (φ 0) n s 1 = _) 1 ?_ (fun _ _ _ h => h)
    refine all_pb 1 (L := fun φ n k => Z42.l0 (mkR (run E (φ 0))) (φ 0) n s k) (len := s.length) 1 (by omega) (fun j => s.getD (j - 1) 0 < s.getD j 0) (fun b => some ⟨o_Z42,(b,())⟩) (fun _ _ _ _ => rfl) (fun k h1 h2 hP _ => ?_) (fun k r h1 h2 hP _ ih => ?_) (fun _ => ?_)
    · simp only [Z42.l0_succ _ mk_ok]
      refine ev_t (decide_eq_true (by omega)) ?_
      rw [w64_small (by omega) (by omega),show ((k : Int) - 1) = ((k - 1 : Nat) : Int) by omega]
      refine ev_bind (idx_lt (by omega)) (ev_bind (idx_lt h2) (ev_t (decide_eq_true ?_) ev_rfl))
      simpa [List.getD_eq_getElem?_getD,h2,show k - 1 < s.length by omega] using hP
    · simp only [Z42.l0_succ _ mk_ok]
      refine ev_t (decide_eq_true (by omega)) ?_
      rw [w64_small (by omega) (by omega),show ((k : Int) - 1) = ((k - 1 : Nat) : Int) by omega]
      refine ev_bind (idx_lt (by omega)) (ev_bind (idx_lt h2) (ev_f (decide_eq_false ?_) ?_))
      · simpa [List.getD_eq_getElem?_getD,h2,show k - 1 < s.length by omega] using hP
      · rw [w64_succ (by omega)]; exact ih
    · simp only [Z42.l0_succ _ mk_ok]
      exact ev_f (decide_eq_false (by omega)) ev_rfl

end VeT
