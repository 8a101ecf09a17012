import Derived.Test.YtjnnliedeobfgaaGreatT3
import Derived.Test.YtjnnliedeobfgaaGreatV2
import Derived.Test.YtjnnliedeobfgaaGreatT4
import Derived.Test.YtjnnliedeobfgaaGreatProg
import Derived.KernelRfl
import Derived.WalkKit
import Derived.Lib.Walk
import Derived.Lib.SliceRun
import Derived.Lib.AppendZerosOnto
set_option linter.unusedVariables false
set_option linter.unusedSimpArgs false
open Go Go.Proofs Ve
set_option maxRecDepth 100000
namespace VeT
noncomputable section
abbrev q3_0 (R:Run) (N:Nat):=kS R pol_Z6 21 N [1,1,1,1,0,1,0,0,1,1,0,0,1,1,0,0,1,1,1] F_Z6
abbrev q3_1 (R:Run) (N:Nat):=kS R pol_Z6 22 N [1,1,1,1,0,1,0,0,1,1,1] F_Z6
abbrev q3_2 (R:Run) (N:Nat):=kS R pol_Z6 23 N [1,1,1,1,1] F_Z6
abbrev q3_3 (R:Run) (N:Nat):=kS R pol_Z135 5 N [1,1,0,1,0,0,1,1] F_Z135
abbrev q3_4 (R:Run) (N:Nat):=kS R pol_Z135 14 N [1,1,1] F_Z135
abbrev q3_5 (R:Run) (N:Nat):=kS R pol_Z151 11 N [1,1,1] F_Z151
abbrev q3_6 (R:Run) (N:Nat):=kS R pol_Z157 3 N [1,0,1,0,0,1,1] F_Z157
abbrev q3_7 (R:Run) (N:Nat):=kS R pol_Z157 15 N [1,1] F_Z157
abbrev q3_8 (R:Run) (N:Nat):=kS R pol_Z161 14 N [1,1] F_Z161
abbrev q3_9 (R:Run) (N:Nat):=kL R pol_Z6 10 N [1,1,1,1,0,1,0,0,1,1,0,0,1,1,0,0] F_Z6
abbrev q3_10 (R:Run) (N:Nat):=kL R pol_Z6 7 N [1,1,1,1,0,1,0,0] F_Z6
abbrev q3_11 (R:Run) (N:Nat):=kL R pol_Z135 4 N [1,1,0,1,0,0] F_Z135
abbrev q3_12 (R:Run) (N:Nat):=kL R pol_Z157 2 N [1,0,1,0,0] F_Z157
def Z6.l3 (R:Run) (N a b n:Nat) (e f:(List Int)) (g h i j:Int) (k:(List Int)) (l m:Int) (o:(List Int)) (p q:Int) (r:vK) (s t:Int) (u:vK) (v:Int) (x:(List Int)) (y:vN) (z:vK):Option Dv := R.w (some ⟨(V.dead::(.c (.d yL e)::(.c (.box 2 0)::(zd 4 (.c (.d yL f)::(.c (.d yI g)::(.c (.arr 97)::(.c (.d yI h)::(.c (.d yI i)::(.c (.d yI j)::(zd 16 (.c (.d yL k)::(.c (.d yI l)::(.c (.d yI m)::(zd 4 (.c (.d yL o)::(.c (.d yI p)::(.c (.d yI q)::(zd 27 (.c (.d yK r)::(.c (.d yI s)::(.c (.d yI t)::(zd 38 []))))))))))))))))))))))),(none::(none::(some (.box [.d yK u,.d yI v,.d yL x,.d yN y] false false)::(zo 94 (some (.arr yL z true false false)::(zo 15 []))))))⟩) fun st => lC R pol_Z6 14 N [1,1,1,1,0,1,0,0,1,1,0,0,1,1,0,0,1,1,0,0,1,1,1,0,0] F_Z6 n st (kB R pol_Z6 4 (kB R pol_Z6 3 (q3_0 R N (q3_9 R N b (kB R pol_Z6 2 (kB R pol_Z6 1 (q3_1 R N (q3_10 R N a (kB R pol_Z6 0 (q3_2 R N (qrY E sg_Z6 F_Z6)))))))))))
def Z6.j2 (R:Run) (N a b:Nat) (e f:(List Int)) (g h i j k:Int) (l:(List Int)) (m o:Int) (p:(List Int)) (q r:Int) (s:Bool) (t:vK) (u:Int) (v:(List Int)) (x:vN) (y:vK):Option Dv := R.w (some ⟨(V.dead::(.c (.d yL e)::(.c (.box 2 0)::(zd 4 (.c (.d yL f)::(.c (.d yI g)::(.c (.arr 97)::(.c (.d yI h)::(.c (.d yI i)::(.c (.d yI j)::(.c (.d yI k)::(zd 15 (.c (.d yL l)::(.c (.d yI m)::(.c (.d yI o)::(zd 4 (.c (.d yL p)::(.c (.d yI q)::(.c (.d yI r)::(zd 22 (.c (.d .bool s)::(zd 45 [])))))))))))))))))))))),(none::(none::(some (.box [.d yK t,.d yI u,.d yL v,.d yN x] false false)::(zo 94 (some (.arr yL y true false false)::(zo 15 []))))))⟩) fun st => eC R pol_Z6 N [1,1,1,1,0,1,0,0,1,1,0,0,1,1,0,0,1,1,0,0,1,0,1] F_Z6 st (kS R pol_Z6 13 N [1,1,1,1,0,1,0,0,1,1,0,0,1,1,0,0,1,1,0,0,1,1] F_Z6 (kB R pol_Z6 3 (q3_0 R N (q3_9 R N b (kB R pol_Z6 2 (kB R pol_Z6 1 (q3_1 R N (q3_10 R N a (kB R pol_Z6 0 (q3_2 R N (qrY E sg_Z6 F_Z6)))))))))))
def Z6.l1 (R:Run) (N a n:Nat) (b e:(List Int)) (f g h:Int) (i:(List Int)) (j k:Int) (l:(List Int)) (m o:Int) (p:vK) (q:Int) (r:(List Int)) (s:vN) (t:vK):Option Dv := R.w (some ⟨(V.dead::(.c (.d yL b)::(.c (.box 2 0)::(zd 4 (.c (.d yL e)::(.c (.d yI f)::(.c (.arr 97)::(.c (.d yI g)::(.c (.d yI h)::(zd 17 (.c (.d yL i)::(.c (.d yI j)::(.c (.d yI k)::(zd 4 (.c (.d yL l)::(.c (.d yI m)::(.c (.d yI o)::(zd 68 [])))))))))))))))))),(none::(none::(some (.box [.d yK p,.d yI q,.d yL r,.d yN s] false false)::(zo 94 (some (.arr yL t true false false)::(zo 15 []))))))⟩) fun st => lC R pol_Z6 10 N [1,1,1,1,0,1,0,0,1,1,0,0,1,1,0,0] F_Z6 n st (kB R pol_Z6 2 (kB R pol_Z6 1 (q3_1 R N (q3_10 R N a (kB R pol_Z6 0 (q3_2 R N (qrY E sg_Z6 F_Z6)))))))
def Z6.l0 (R:Run) (N n:Nat) (a b:(List Int)) (e:Int) (f:(List Int)) (g h:Int) (i:vK) (j:Int) (k:(List Int)) (l:vN) (m:vK):Option Dv := R.w (some ⟨(V.dead::(.c (.d yL a)::(.c (.box 2 0)::(zd 4 (.c (.d yL b)::(.c (.d yI e)::(.c (.arr 97)::(zd 19 (.c (.d yL f)::(.c (.d yI g)::(.c (.d yI h)::(zd 75 [])))))))))))),(none::(none::(some (.box [.d yK i,.d yI j,.d yL k,.d yN l] false false)::(zo 94 (some (.arr yL m true false false)::(zo 15 []))))))⟩) fun st => lC R pol_Z6 7 N [1,1,1,1,0,1,0,0] F_Z6 n st (kB R pol_Z6 0 (q3_2 R N (qrY E sg_Z6 F_Z6)))
theorem Z6.l3_succ (R:Run) (hw:R.ok) (N a b n:Nat) (c d:(List Int)) (e f g h:Int) (i:(List Int)) (j k:Int) (l:(List Int)) (m o:Int) (p:vK) (q r:Int) (s:vK) (t:Int) (u:(List Int)) (v:vN) (w:vK):Z6.l3 R N a b (n + 1) c d e f g h i j k l m o p q r s t u v w = (bif (decide (r < q)) then ((idx? p r).bind fun y89 => ((chk (decide (0 ≤ e) && decide (e * 8 ≤ 70368744177664))).bind fun _ => ((idx? d h).bind fun y90 => ((chk (decide (0 ≤ (y90,()).1) && decide ((y90,()).1 ≤ (List.length (List.replicate (Int.toNat e) (0:Int)):Int)))).bind fun _ => ((chk (decide ((Int.toNat (y90,()).1) ≤ (List.length (List.replicate (Int.toNat e) (0:Int)))) && decide ((List.length (List.replicate (Int.toNat e) (0:Int))) ≤ List.length (List.replicate (Int.toNat e) (0:Int))))).bind fun _ => ((idx? d f).bind fun y91 => ((chk (decide (0 ≤ (w64 ((y91,()).1 + r))) && decide ((w64 ((y91,()).1 + r)) < (List.length (List.take (Int.toNat (y90,()).1) (List.replicate (Int.toNat e) (0:Int)) ++ (List.take ((List.length (List.replicate (Int.toNat e) (0:Int))) - (Int.toNat (y90,()).1)) (y89,()).1) ++ List.drop ((Int.toNat (y90,()).1) + List.length (List.take ((List.length (List.replicate (Int.toNat e) (0:Int))) - (Int.toNat (y90,()).1)) (y89,()).1)) (List.replicate (Int.toNat e) (0:Int))):Int)))).bind fun _ => ((chk (decide ((List.length w + List.length [(List.set (List.take (Int.toNat (y90,()).1) (List.replicate (Int.toNat e) (0:Int)) ++ (List.take ((List.length (List.replicate (Int.toNat e) (0:Int))) - (Int.toNat (y90,()).1)) (y89,()).1) ++ List.drop ((Int.toNat (y90,()).1) + List.length (List.take ((List.length (List.replicate (Int.toNat e) (0:Int))) - (Int.toNat (y90,()).1)) (y89,()).1)) (List.replicate (Int.toNat e) (0:Int))) (Int.toNat (w64 ((y91,()).1 + r))) (w64 (t - (1:Int))))]) * 24 ≤ 70368744177664))).bind fun _ => (Z6.l3 R N a b n c d e f g h i j k l m o p q (w64 (r + (1:Int))) s t u v (w ++ [(List.set (List.take (Int.toNat (y90,()).1) (List.replicate (Int.toNat e) (0:Int)) ++ (List.take ((List.length (List.replicate (Int.toNat e) (0:Int))) - (Int.toNat (y90,()).1)) (y89,()).1) ++ List.drop ((Int.toNat (y90,()).1) + List.length (List.take ((List.length (List.replicate (Int.toNat e) (0:Int))) - (Int.toNat (y90,()).1)) (y89,()).1)) (List.replicate (Int.toNat e) (0:Int))) (Int.toNat (w64 ((y91,()).1 + r))) (w64 (t - (1:Int))))])))))))))) else (Z6.l1 R N a b c d e f g i j k l m (w64 (o + (1:Int))) s t u v w)) := (hw _ _).trans (by kernel_rfl)
theorem Z6.j2_eq (R:Run) (hw:R.ok) (N a b:Nat) (c d:(List Int)) (e f g h i:Int) (j:(List Int)) (k l:Int) (m:(List Int)) (o p:Int) (q:Bool) (r:vK) (s:Int) (t:(List Int)) (u:vN) (v:vK):Z6.j2 R N a b c d e f g h i j k l m o p q r s t u v = (bif q then (Z6.l1 R N a b c d e f g j k l m o (w64 (p + (1:Int))) r s t u v) else ((qlR R n_Z54 o_Z54 [⟨yK,r⟩,⟨yI,s⟩,⟨yL,t⟩,⟨yN,u⟩,⟨yI,i⟩,⟨yI,g⟩]).bind fun r67 => ((qlR R n_Z56 o_Z56 [⟨yI,r67.1⟩,⟨yI,r67.2.1⟩,⟨yI,r67.2.2.1⟩,⟨yL,r67.2.2.2.1⟩]).bind fun r68 => (Z6.l3 R N a b N c d e f g h j k l m o p r68.1 (List.length r68.1:Int) (0:Int) r s t u v)))) := (hw _ _).trans (by kernel_rfl)
theorem Z6.l1_succ (R:Run) (hw:R.ok) (N a n:Nat) (b c:(List Int)) (d e f:Int) (g:(List Int)) (h i:Int) (j:(List Int)) (k l:Int) (m:vK) (o:Int) (p:(List Int)) (q:vN) (r:vK):Z6.l1 R N a (n + 1) b c d e f g h i j k l m o p q r = (bif (decide (l < k)) then ((idx? j l).bind fun y31 => (bif ((y31,()).1 == f) then (Z6.j2 R N a n b c d e f l ((y31,()).1) g h i j k l true m o p q r) else ((idx? m (y31,()).1).bind fun y128 => ((idx? m f).bind fun y129 => ((qlR R n_Z41 o_Z41 [⟨yL,(y128,()).1⟩,⟨yL,(y129,()).1⟩]).bind fun r130 => (Z6.j2 R N a n b c d e f l ((y31,()).1) g h i j k l (!r130.1) m o p q r)))))) else (Z6.l0 R N a b c d g h (w64 (i + (1:Int))) m o p q r)) := (hw _ _).trans (by kernel_rfl)
theorem Z6.l0_succ (R:Run) (hw:R.ok) (N n:Nat) (a b:(List Int)) (c:Int) (d:(List Int)) (e f:Int) (g:vK) (h:Int) (i:(List Int)) (j:vN) (k:vK):Z6.l0 R N (n + 1) a b c d e f g h i j k = (bif (decide (f < e)) then ((idx? d f).bind fun y14 => (Z6.l1 R N n N a b c f ((y14,()).1) d e f a (List.length a:Int) (0:Int) g h i j k)) else ((qlR R n_Z47 o_Z47 [⟨yI,h⟩,⟨yI,c⟩,⟨yK,k⟩]).bind fun r161 => ((qlR R n_Z46 o_Z46 [⟨yI,r161.1⟩,⟨yI,r161.2.1⟩,⟨yI,r161.2.2.1⟩,⟨yL,r161.2.2.2.1⟩]).bind fun r162 => some ⟨o_Z6,(r162.1,(0:Int),())⟩))) := (hw _ _).trans (by kernel_rfl)
theorem Z6.ev (R:Run) (N:Nat) (a0:vK) (a1:Int) (a2:(List Int)) (a3:vN) (a4:(List Int)):qro E R sg_Z6 pol_Z6 F_Z6 N [⟨yK,a0⟩,⟨yI,a1⟩,⟨yL,a2⟩,⟨yN,a3⟩,⟨yL,a4⟩] = ((qlR R n_Z49 o_Z49 [⟨yK,a0⟩,⟨yI,a1⟩,⟨yL,a2⟩,⟨yN,a3⟩,⟨yL,a4⟩]).bind fun r1 => (bif (r1.1 != (0:Int)) then some ⟨o_Z6,(([]:List (List Int)),r1.1,())⟩ else ((qlR R n_Z48 o_Z48 [⟨yK,a0⟩,⟨yI,a1⟩,⟨yL,a2⟩,⟨yN,a3⟩,⟨yL,a4⟩]).bind fun r2 => (Z6.l0 R N N a4 r2.1 r2.2.1 a4 (List.length a4:Int) (0:Int) a0 a1 a2 a3 ([]:List (List Int)))))) := by kernel_rfl
def Z105.j1 (R:Run) (N a:Nat) (b:(List Int)) (e f g:Int) (h:Bool):Option Dv := R.w (some ⟨(.c (.d yL b)::(.c (.d yI e)::(.c (.d yI f)::(zd 4 (.c (.d yI g)::(zd 29 (.c (.d .bool h)::[]))))))),(zo 41 [])⟩) fun st => eC R pol_Z105 N [1,0,1,0,0,1,0,0,1] F_Z105 st (kB R pol_Z105 1 (kS R pol_Z105 3 N [1,0,1,0,0,1,1] F_Z105 (kL R pol_Z105 2 N [1,0,1,0,0] F_Z105 a (kB R pol_Z105 0 (kS R pol_Z105 6 N [1,1] F_Z105 (qrY E sg_Z105 F_Z105))))))
def Z105.l0 (R:Run) (N n:Nat) (a:(List Int)) (b e f:Int):Option Dv := R.w (some ⟨(.c (.d yL a)::(.c (.d yI b)::(.c (.d yI e)::(zd 4 (.c (.d yI f)::(zd 30 [])))))),(zo 41 [])⟩) fun st => lC R pol_Z105 2 N [1,0,1,0,0] F_Z105 n st (kB R pol_Z105 0 (kS R pol_Z105 6 N [1,1] F_Z105 (qrY E sg_Z105 F_Z105)))
theorem Z105.j1_eq (R:Run) (hw:R.ok) (N a:Nat) (b:(List Int)) (c d e:Int) (f:Bool):Z105.j1 R N a b c d e f = (bif f then some ⟨o_Z105,(false,())⟩ else (Z105.l0 R N a b c d (w64 (e + (1:Int))))) := (hw _ _).trans (by kernel_rfl)
theorem Z105.l0_succ (R:Run) (hw:R.ok) (N n:Nat) (a:(List Int)) (b c d:Int):Z105.l0 R N (n + 1) a b c d = (bif (decide (d < (List.length a:Int))) then ((idx? a d).bind fun y5 => ((qlR R n_Z102 o_Z102 [⟨yI,(y5,()).1⟩,⟨yI,b⟩,⟨yI,c⟩]).bind fun r6 => (bif (!r6.1) then (Z105.j1 R N n a b c d true) else (bif (decide (d > (0:Int))) then ((idx? a (w64 (d - (1:Int)))).bind fun y16 => ((idx? a d).bind fun y17 => (Z105.j1 R N n a b c d (decide ((y16,()).1 ≥ (y17,()).1))))) else (Z105.j1 R N n a b c d false))))) else some ⟨o_Z105,(true,())⟩) := (hw _ _).trans (by kernel_rfl)
theorem Z105.ev (R:Run) (N:Nat) (a0:(List Int)) (a1 a2:Int):qro E R sg_Z105 pol_Z105 F_Z105 N [⟨yL,a0⟩,⟨yI,a1⟩,⟨yI,a2⟩] = (Z105.l0 R N N a0 a1 a2 (0:Int)) := by kernel_rfl
theorem Z138.ev (R:Run) (N:Nat) (a0:(List Int)):qro E R sg_Z138 pol_Z138 F_Z138 N [⟨yL,a0⟩] = ((qlR R n_Z102 o_Z102 [⟨yI,(List.length a0:Int)⟩,⟨yI,(1:Int)⟩,⟨yI,(4:Int)⟩]).bind fun r1 => (bif r1.1 then ((qlR R n_Z105 o_Z105 [⟨yL,a0⟩,⟨yI,(0:Int)⟩,⟨yI,(9:Int)⟩]).bind fun r2 => some ⟨o_Z138,(r2.1,())⟩) else some ⟨o_Z138,(false,())⟩)) := by kernel_rfl
def Z135.j3 (R:Run) (N a b:Nat) (e:(vK × Unit)) (f:Int) (g:(List Int)) (h:Int) (i:Bool):Option Dv := R.w (some ⟨(.c (.ip (.cons yK .nil) e 0)::(V.dead::(V.dead::(.c (.d yI f)::(.c (.d yL g)::(.c (.d yI h)::(zd 50 (.c (.d .bool i)::(zd 8 []))))))))),(zo 66 [])⟩) fun st => eC R pol_Z135 N [1,1,0,1,0,0,1,0,0,1,1,1,0,0,0,1] F_Z135 st (kS R pol_Z135 12 N [1,1,0,1,0,0,1,0,0,1,1,1,0,0,1] F_Z135 (kL R pol_Z135 10 N [1,1,0,1,0,0,1,0,0,1,1,1,0,0] F_Z135 b (kB R pol_Z135 2 (kB R pol_Z135 1 (q3_3 R N (q3_11 R N a (kB R pol_Z135 0 (q3_4 R N (qrY E sg_Z135 F_Z135)))))))))
def Z135.l2 (R:Run) (N a n:Nat) (b:(vK × Unit)) (e:Int) (f:(List Int)) (g:Int):Option Dv := R.w (some ⟨(.c (.ip (.cons yK .nil) b 0)::(V.dead::(V.dead::(.c (.d yI e)::(.c (.d yL f)::(.c (.d yI g)::(zd 59 []))))))),(zo 66 [])⟩) fun st => lC R pol_Z135 10 N [1,1,0,1,0,0,1,0,0,1,1,1,0,0] F_Z135 n st (kB R pol_Z135 2 (kB R pol_Z135 1 (q3_3 R N (q3_11 R N a (kB R pol_Z135 0 (q3_4 R N (qrY E sg_Z135 F_Z135)))))))
def Z135.j1 (R:Run) (N a:Nat) (b:(vK × Unit)) (e:Int) (f:(List Int)) (g:Bool):Option Dv := R.w (some ⟨(.c (.ip (.cons yK .nil) b 0)::(V.dead::(V.dead::(.c (.d yI e)::(.c (.d yL f)::(zd 42 (.c (.d .bool g)::(zd 17 [])))))))),(zo 66 [])⟩) fun st => eC R pol_Z135 N [1,1,0,1,0,0,1,0,0,1,0,1] F_Z135 st (kS R pol_Z135 9 N [1,1,0,1,0,0,1,0,0,1,1] F_Z135 (kB R pol_Z135 1 (q3_3 R N (q3_11 R N a (kB R pol_Z135 0 (q3_4 R N (qrY E sg_Z135 F_Z135)))))))
def Z135.l0 (R:Run) (N n:Nat) (a:(vK × Unit)) (b:Int):Option Dv := R.w (some ⟨(.c (.ip (.cons yK .nil) a 0)::(V.dead::(V.dead::(.c (.d yI b)::(zd 61 []))))),(zo 66 [])⟩) fun st => lC R pol_Z135 4 N [1,1,0,1,0,0] F_Z135 n st (kB R pol_Z135 0 (q3_4 R N (qrY E sg_Z135 F_Z135)))
theorem Z135.j3_eq (R:Run) (hw:R.ok) (N a b:Nat) (c:(vK × Unit)) (d:Int) (e:(List Int)) (f:Int) (g:Bool):Z135.j3 R N a b c d e f g = (bif g then ((qlR R n_Z131 o_Z131 [⟨yL,e⟩,⟨yI,f⟩]).bind fun r18 => ((qlR R n_Z133 o_Z133 [⟨(.ptr (.cons yK .nil)),c⟩,⟨yL,r18.1⟩]).bind fun r19 => (bif (decide (r19.1 < (0:Int))) then some ⟨o_Z135,(false,())⟩ else (Z135.l2 R N a b c d e (w64 (f + (1:Int))))))) else (Z135.l0 R N a c (w64 (d + (1:Int))))) := (hw _ _).trans (by kernel_rfl)
theorem Z135.l2_succ (R:Run) (hw:R.ok) (N a n:Nat) (b:(vK × Unit)) (c:Int) (d:(List Int)) (e:Int):Z135.l2 R N a (n + 1) b c d e = (bif (decide (e < (List.length d:Int))) then (Z135.j3 R N a n b c d e (decide ((List.length d:Int) > (1:Int)))) else (Z135.j3 R N a n b c d e false)) := (hw _ _).trans (by kernel_rfl)
theorem Z135.j1_eq (R:Run) (hw:R.ok) (N a:Nat) (b:(vK × Unit)) (c:Int) (d:(List Int)) (e:Bool):Z135.j1 R N a b c d e = (bif e then some ⟨o_Z135,(false,())⟩ else (Z135.l2 R N a N b c d (0:Int))) := (hw _ _).trans (by kernel_rfl)
theorem Z135.l0_succ (R:Run) (hw:R.ok) (N n:Nat) (a:(vK × Unit)) (b:Int):Z135.l0 R N (n + 1) a b = (bif (decide (b < (List.length a.1:Int))) then ((idx? a.1 b).bind fun y3 => ((qlR R n_Z138 o_Z138 [⟨yL,(y3,()).1⟩]).bind fun r4 => (bif (!r4.1) then (Z135.j1 R N n a b ((y3,()).1) true) else (bif (decide (b > (0:Int))) then ((idx? a.1 (w64 (b - (1:Int)))).bind fun y31 => ((qlR R n_Z128 o_Z128 [⟨yL,(y31,()).1⟩,⟨yL,(y3,()).1⟩]).bind fun r32 => (Z135.j1 R N n a b ((y3,()).1) (!r32.1)))) else (Z135.j1 R N n a b ((y3,()).1) false))))) else some ⟨o_Z135,(true,())⟩) := (hw _ _).trans (by kernel_rfl)
theorem Z135.ev (R:Run) (N:Nat) (a0:(vK × Unit)):qro E R sg_Z135 pol_Z135 F_Z135 N [⟨(.ptr (.cons yK .nil)),a0⟩] = (bif (decide ((List.length a0.1:Int) > (48:Int))) then some ⟨o_Z135,(false,())⟩ else (Z135.l0 R N N a0 (0:Int))) := by kernel_rfl
theorem Z149.ev (R:Run) (N:Nat) (a0:vS) (a1 a2:Int) (a3:vM):qro E R sg_Z149 pol_Z149 F_Z149 N [⟨(.ptr yS),a0⟩,⟨yI,a1⟩,⟨yI,a2⟩,⟨(.ptr yM),a3⟩] = ((qlR R n_Z132 o_Z132 [⟨(.ptr (.cons yK .nil)),(a0.1,())⟩,⟨yI,a1⟩]).bind fun r1 => ((idx? r1.1 a2).bind fun y2 => ((qlR R n_Z120 o_Z120 [⟨(.ptr yM),a3⟩]).bind fun r3 => (bif r3.1 then (bif (a3.1 == a0.2.1) then ((idx? a0.2.2.1 a1).bind fun y4 => (bif (a3.2.1 == (y4,()).1) then ((idx? a0.2.2.1 (y2,()).1).bind fun y5 => some ⟨o_Z149,((a3.2.2.1 == (y5,()).1),())⟩) else some ⟨o_Z149,(false,())⟩)) else some ⟨o_Z149,(false,())⟩) else some ⟨o_Z149,(false,())⟩)))) := by kernel_rfl
def Z134.l0 (R:Run) (N n:Nat) (a:(vK × Unit)) (b e:Int) (f:(List Int)):Option Dv := R.w (some ⟨(.c (.ip (.cons yK .nil) a 0)::(.c (.d yI b)::(zd 3 (.c (.arr 7)::(.c (.d yI e)::(zd 26 [])))))),(zo 7 (some (.arr yI f true false false)::(zo 27 [])))⟩) fun st => lC R pol_Z134 3 N [1,1,0,1,0,0] F_Z134 n st (kB R pol_Z134 0 (kS R pol_Z134 7 N [1,1,1] F_Z134 (qrY E sg_Z134 F_Z134)))
theorem Z134.l0_succ (R:Run) (hw:R.ok) (N n:Nat) (a:(vK × Unit)) (b c:Int) (d:(List Int)):Z134.l0 R N (n + 1) a b c d = (bif (decide (c < (List.length a.1:Int))) then ((idx? a.1 c).bind fun y5 => (bif ((List.length (y5,()).1:Int) == (w64 (b + (1:Int)))) then ((chk (decide ((List.length d + List.length [c]) * 8 ≤ 70368744177664))).bind fun _ => (Z134.l0 R N n a b (w64 (c + (1:Int))) (d ++ [c]))) else (Z134.l0 R N n a b (w64 (c + (1:Int))) d))) else some ⟨o_Z134,(d,())⟩) := (hw _ _).trans (by kernel_rfl)
theorem Z134.ev (R:Run) (N:Nat) (a0:(vK × Unit)) (a1:Int):qro E R sg_Z134 pol_Z134 F_Z134 N [⟨(.ptr (.cons yK .nil)),a0⟩,⟨yI,a1⟩] = (Z134.l0 R N N a0 a1 (0:Int) ([]:List Int)) := by kernel_rfl
def Z155.l0 (R:Run) (N n:Nat) (a b:(List Int)) (e f:Int):Option Dv := R.w (some ⟨(V.dead::(.c (.d yL a)::(zd 5 (.c (.d yL b)::(.c (.d yI e)::(.c (.d yI f)::(zd 19 []))))))),(zo 32 [])⟩) fun st => lC R pol_Z155 4 N [1,1,1,0,1,0,0] F_Z155 n st (kB R pol_Z155 0 (kS R pol_Z155 7 N [1,1,1,1] F_Z155 (qrY E sg_Z155 F_Z155)))
theorem Z155.l0_succ (R:Run) (hw:R.ok) (N n:Nat) (a b:(List Int)) (c d:Int):Z155.l0 R N (n + 1) a b c d = (bif (decide (d < (List.length b:Int))) then ((idx? b d).bind fun y6 => ((idx? a (y6,()).1).bind fun y7 => (Z155.l0 R N n a b (w64 (c + (y7,()).1)) (w64 (d + (1:Int)))))) else some ⟨o_Z155,(c,())⟩) := (hw _ _).trans (by kernel_rfl)
theorem Z155.ev (R:Run) (N:Nat) (a0:(vK × Unit)) (a1:(List Int)) (a2:Int):qro E R sg_Z155 pol_Z155 F_Z155 N [⟨(.ptr (.cons yK .nil)),a0⟩,⟨yL,a1⟩,⟨yI,a2⟩] = ((qlR R n_Z134 o_Z134 [⟨(.ptr (.cons yK .nil)),a0⟩,⟨yI,a2⟩]).bind fun r1 => (Z155.l0 R N N a1 r1.1 (0:Int) (0:Int))) := by kernel_rfl
def Z154.l0 (R:Run) (N n:Nat) (a:(vK × Unit)) (b:(List Int)) (e:Int):Option Dv := R.w (some ⟨(.c (.ip (.cons yK .nil) a 0)::(.c (.d yL b)::(zd 3 (.c (.d yI e)::(zd 17 []))))),(zo 25 [])⟩) fun st => lC R pol_Z154 4 N [1,1,0,1,0,0] F_Z154 n st (kB R pol_Z154 0 (kS R pol_Z154 8 N [1,1,1] F_Z154 (qrY E sg_Z154 F_Z154)))
theorem Z154.l0_succ (R:Run) (hw:R.ok) (N n:Nat) (a:(vK × Unit)) (b:(List Int)) (c:Int):Z154.l0 R N (n + 1) a b c = (bif (decide (c ≤ (3:Int))) then ((qlR R n_Z155 o_Z155 [⟨(.ptr (.cons yK .nil)),a⟩,⟨yL,b⟩,⟨yI,c⟩]).bind fun r5 => (bif (decide (r5.1 > (32:Int))) then some ⟨o_Z154,(false,())⟩ else (Z154.l0 R N n a b (w64 (c + (1:Int)))))) else some ⟨o_Z154,(true,())⟩) := (hw _ _).trans (by kernel_rfl)
theorem Z154.ev (R:Run) (N:Nat) (a0:(vK × Unit)) (a1:(List Int)):qro E R sg_Z154 pol_Z154 F_Z154 N [⟨(.ptr (.cons yK .nil)),a0⟩,⟨yL,a1⟩] = ((qlR R n_Z114 o_Z114 [⟨yL,a1⟩,⟨yI,(List.length a0.1:Int)⟩,⟨yI,(4:Int)⟩]).bind fun r1 => (bif (!r1.1) then some ⟨o_Z154,(false,())⟩ else (Z154.l0 R N N a0 a1 (0:Int)))) := by kernel_rfl
theorem Z143.ev (R:Run) (N:Nat) (a0:(vK × Unit)):qro E R sg_Z143 pol_Z143 F_Z143 N [⟨(.ptr (.cons yK .nil)),a0⟩] = ((qlR R n_Z152 o_Z152 [⟨(.ptr (.cons yK .nil)),a0⟩,⟨yI,(List.length a0.1:Int)⟩,⟨yI,(0:Int)⟩]).bind fun r1 => some ⟨o_Z143,(r1.1,())⟩) := by kernel_rfl
def Z151.j3 (R:Run) (N a b:Nat) (e:vS) (f g:Int) (h:Bool):Option Dv := R.w (some ⟨(.c (.ip yS e 0)::(V.dead::(V.dead::(.c (.d yI f)::(.c (.d yI g)::(zd 68 (.c (.d .bool h)::(zd 18 [])))))))),(zo 93 [])⟩) fun st => eC R pol_Z151 N [1,1,0,1,0,0,1,0,0,1,0,0,0,1] F_Z151 st (kS R pol_Z151 9 N [1,1,0,1,0,0,1,0,0,1,0,0,1] F_Z151 (kL R pol_Z151 7 N [1,1,0,1,0,0,1,0,0,1,0,0] F_Z151 b (kB R pol_Z151 2 (kB R pol_Z151 1 (kS R pol_Z151 5 N [1,1,0,1,0,0,1,1] F_Z151 (kL R pol_Z151 4 N [1,1,0,1,0,0] F_Z151 a (kB R pol_Z151 0 (q3_5 R N (qrY E sg_Z151 F_Z151)))))))))
def Z151.l2 (R:Run) (N a n:Nat) (b:vS) (e f:Int):Option Dv := R.w (some ⟨(.c (.ip yS b 0)::(V.dead::(V.dead::(.c (.d yI e)::(.c (.d yI f)::(zd 87 [])))))),(zo 93 [])⟩) fun st => lC R pol_Z151 7 N [1,1,0,1,0,0,1,0,0,1,0,0] F_Z151 n st (kB R pol_Z151 2 (kB R pol_Z151 1 (kS R pol_Z151 5 N [1,1,0,1,0,0,1,1] F_Z151 (kL R pol_Z151 4 N [1,1,0,1,0,0] F_Z151 a (kB R pol_Z151 0 (q3_5 R N (qrY E sg_Z151 F_Z151)))))))
def Z151.l1 (R:Run) (N n:Nat) (a:vS) (b:Int):Option Dv := R.w (some ⟨(.c (.ip yS a 0)::(V.dead::(V.dead::(.c (.d yI b)::(zd 88 []))))),(zo 93 [])⟩) fun st => lC R pol_Z151 4 N [1,1,0,1,0,0] F_Z151 n st (kB R pol_Z151 0 (q3_5 R N (qrY E sg_Z151 F_Z151)))
def Z151.j0 (R:Run) (N:Nat) (a:vS) (b:Bool):Option Dv := R.w (some ⟨(.c (.ip yS a 0)::(zd 39 (.c (.d .bool b)::(zd 51 [])))),(zo 93 [])⟩) fun st => eC R pol_Z151 N [1,0,1] F_Z151 st (kS R pol_Z151 3 N [1,1] F_Z151 (qrY E sg_Z151 F_Z151))
theorem Z151.j3_eq (R:Run) (hw:R.ok) (N a b:Nat) (c:vS) (d e:Int) (f:Bool):Z151.j3 R N a b c d e f = (bif f then ((qlR R n_Z152 o_Z152 [⟨(.ptr (.cons yK .nil)),(c.1,())⟩,⟨yI,d⟩,⟨yI,e⟩]).bind fun r15 => ((idx? c.2.2.2.1 r15.1).bind fun y16 => ((qlR R n_Z149 o_Z149 [⟨(.ptr yS),c⟩,⟨yI,d⟩,⟨yI,e⟩,⟨(.ptr yM),y16⟩]).bind fun r17 => (bif (!r17.1) then some ⟨o_Z151,(false,())⟩ else (Z151.l2 R N a b c d (w64 (e + (1:Int)))))))) else (Z151.l1 R N a c (w64 (d + (1:Int))))) := (hw _ _).trans (by kernel_rfl)
theorem Z151.l2_succ (R:Run) (hw:R.ok) (N a n:Nat) (b:vS) (c d:Int):Z151.l2 R N a (n + 1) b c d = ((idx? b.1 c).bind fun y9 => (bif (decide (d < (List.length (y9,()).1:Int))) then ((idx? b.1 c).bind fun y10 => (Z151.j3 R N a n b c d (decide ((List.length (y10,()).1:Int) > (1:Int))))) else (Z151.j3 R N a n b c d false))) := (hw _ _).trans (by kernel_rfl)
theorem Z151.l1_succ (R:Run) (hw:R.ok) (N n:Nat) (a:vS) (b:Int):Z151.l1 R N (n + 1) a b = (bif (decide (b < (List.length a.1:Int))) then (Z151.l2 R N n N a b (0:Int)) else some ⟨o_Z151,(true,())⟩) := (hw _ _).trans (by kernel_rfl)
theorem Z151.j0_eq (R:Run) (hw:R.ok) (N:Nat) (a:vS) (b:Bool):Z151.j0 R N a b = (bif b then some ⟨o_Z151,(false,())⟩ else (Z151.l1 R N N a (0:Int))) := (hw _ _).trans (by kernel_rfl)
theorem Z151.ev (R:Run) (N:Nat) (a0:vS):qro E R sg_Z151 pol_Z151 F_Z151 N [⟨(.ptr yS),a0⟩] = ((qlR R n_Z135 o_Z135 [⟨(.ptr (.cons yK .nil)),(a0.1,())⟩]).bind fun r1 => (bif (!r1.1) then (Z151.j0 R N a0 true) else ((qlR R n_Z99 o_Z99 [⟨yI,a0.2.1⟩]).bind fun r27 => (bif (!r27.1) then (Z151.j0 R N a0 true) else ((qlR R n_Z154 o_Z154 [⟨(.ptr (.cons yK .nil)),(a0.1,())⟩,⟨yL,a0.2.2.1⟩]).bind fun r30 => (bif (!r30.1) then (Z151.j0 R N a0 true) else ((qlR R n_Z143 o_Z143 [⟨(.ptr (.cons yK .nil)),(a0.1,())⟩]).bind fun r33 => (Z151.j0 R N a0 ((List.length a0.2.2.2.1:Int) != r33.1))))))))) := by kernel_rfl
theorem Z146.ev (R:Run) (N:Nat) (a0:vS) (a1 a2:Int):qro E R sg_Z146 pol_Z146 F_Z146 N [⟨(.ptr yS),a0⟩,⟨yI,a1⟩,⟨yI,a2⟩] = ((qlR R n_Z152 o_Z152 [⟨(.ptr (.cons yK .nil)),(a0.1,())⟩,⟨yI,a1⟩,⟨yI,a2⟩]).bind fun r1 => ((idx? a0.2.2.2.1 r1.1).bind fun y2 => some ⟨o_Z146,(y2,())⟩)) := by kernel_rfl
def Z156.j0 (R:Run) (N:Nat) (a:vS) (b e f g h i j:Int):Option Dv := R.w (some ⟨(.c (.ip yS a 0)::(.c (.d yI b)::(.c (.d yI e)::(.c (.d yI f)::(zd 4 (.c (.box 8 0)::(.c (.d yI g)::(zd 22 [])))))))),(zo 8 (some (.box [.d yI h,.d yI i,.d yI j,.nils yI] false false)::(zo 28 [])))⟩) fun st => eC R pol_Z156 N [1,1,1] F_Z156 st (qrY E sg_Z156 F_Z156)
theorem Z156.j0_eq (R:Run) (hw:R.ok) (N:Nat) (a:vS) (b c d e f g h:Int):Z156.j0 R N a b c d e f g h = ((qlR R n_Z146 o_Z146 [⟨(.ptr yS),a⟩,⟨yI,b⟩,⟨yI,c⟩]).bind fun r11 => ((qlR R n_Z146 o_Z146 [⟨(.ptr yS),a⟩,⟨yI,e⟩,⟨yI,d⟩]).bind fun r12 => ((qlR R n_Z124 o_Z124 [⟨(.ptr yM),r11.1⟩,⟨(.ptr yM),r12.1⟩]).bind fun r13 => some ⟨o_Z156,(r13.1,r13.2.1,r13.2.2.1,r13.2.2.2.1,())⟩))) := (hw _ _).trans (by kernel_rfl)
theorem Z156.ev (R:Run) (N:Nat) (a0:vS) (a1 a2 a3:Int):qro E R sg_Z156 pol_Z156 F_Z156 N [⟨(.ptr yS),a0⟩,⟨yI,a1⟩,⟨yI,a2⟩,⟨yI,a3⟩] = ((qlR R n_Z132 o_Z132 [⟨(.ptr (.cons yK .nil)),(a0.1,())⟩,⟨yI,a1⟩]).bind fun r1 => ((idx? r1.1 a2).bind fun y2 => (bif (decide (a3 > a2)) then (Z156.j0 R N a0 a1 a2 (w64 (a3 - (1:Int))) ((y2,()).1) (0:Int) (0:Int) (0:Int)) else (Z156.j0 R N a0 a1 a2 a3 ((y2,()).1) (0:Int) (0:Int) (0:Int))))) := by kernel_rfl
def Z123.l1 (R:Run) (N n:Nat) (a b:vM) (e:Int):Option Dv := R.w (some ⟨(.c (.ip yM a 0)::(.c (.ip yM b 0)::(zd 3 (.c (.d yI e)::(zd 68 []))))),(zo 76 [])⟩) fun st => lC R pol_Z123 4 N [1,1,0,1,0,0] F_Z123 n st (kB R pol_Z123 0 (kS R pol_Z123 8 N [1,1,1] F_Z123 (qrY E sg_Z123 F_Z123)))
def Z123.j0 (R:Run) (N:Nat) (a b:vM) (e:Bool):Option Dv := R.w (some ⟨(.c (.ip yM a 0)::(.c (.ip yM b 0)::(zd 47 (.c (.d .bool e)::(zd 24 []))))),(zo 76 [])⟩) fun st => eC R pol_Z123 N [1,0,1] F_Z123 st (kS R pol_Z123 3 N [1,1] F_Z123 (qrY E sg_Z123 F_Z123))
theorem Z123.l1_succ (R:Run) (hw:R.ok) (N n:Nat) (a b:vM) (c:Int):Z123.l1 R N (n + 1) a b c = (bif (decide (c < (List.length a.2.2.2.1:Int))) then ((idx? a.2.2.2.1 c).bind fun y7 => ((idx? b.2.2.2.1 c).bind fun y8 => (bif ((y7,()).1 != (y8,()).1) then some ⟨o_Z123,(false,())⟩ else (Z123.l1 R N n a b (w64 (c + (1:Int))))))) else some ⟨o_Z123,(true,())⟩) := (hw _ _).trans (by kernel_rfl)
theorem Z123.j0_eq (R:Run) (hw:R.ok) (N:Nat) (a b:vM) (c:Bool):Z123.j0 R N a b c = (bif c then some ⟨o_Z123,(false,())⟩ else (Z123.l1 R N N a b (0:Int))) := (hw _ _).trans (by kernel_rfl)
theorem Z123.ev (R:Run) (N:Nat) (a0 a1:vM):qro E R sg_Z123 pol_Z123 F_Z123 N [⟨(.ptr yM),a0⟩,⟨(.ptr yM),a1⟩] = (bif (a0.1 != a1.1) then (Z123.j0 R N a0 a1 true) else (bif (a0.2.1 != a1.2.1) then (Z123.j0 R N a0 a1 true) else (bif (a0.2.2.1 != a1.2.2.1) then (Z123.j0 R N a0 a1 true) else (Z123.j0 R N a0 a1 ((List.length a0.2.2.2.1:Int) != (List.length a1.2.2.2.1:Int)))))) := by kernel_rfl
def Z157.l3 (R:Run) (N a b n:Nat) (e:vS) (f g h i:Int):Option Dv := R.w (some ⟨(.c (.ip yS e 0)::(zd 4 (.c (.d yI f)::(.c (.d yI g)::(.c (.d yI h)::(.c (.d yI i)::(zd 52 []))))))),(zo 62 [])⟩) fun st => lC R pol_Z157 9 N [1,0,1,0,0,1,0,0,1,1,0,0,1,0,0,1,0,0] F_Z157 n st (kB R pol_Z157 4 (kB R pol_Z157 3 (kS R pol_Z157 7 N [1,0,1,0,0,1,0,0,1,1,0,0,1,1] F_Z157 (kL R pol_Z157 6 N [1,0,1,0,0,1,0,0,1,1,0,0] F_Z157 b (kB R pol_Z157 2 (kB R pol_Z157 1 (q3_6 R N (q3_12 R N a (kB R pol_Z157 0 (q3_7 R N (qrY E sg_Z157 F_Z157)))))))))))
def Z157.j2 (R:Run) (N a b:Nat) (e:vS) (f g h:Int) (i:Bool):Option Dv := R.w (some ⟨(.c (.ip yS e 0)::(zd 4 (.c (.d yI f)::(.c (.d yI g)::(.c (.d yI h)::(zd 28 (.c (.d .bool i)::(zd 24 [])))))))),(zo 62 [])⟩) fun st => eC R pol_Z157 N [1,0,1,0,0,1,0,0,1,1,0,0,0,1] F_Z157 st (kS R pol_Z157 8 N [1,0,1,0,0,1,0,0,1,1,0,0,1] F_Z157 (kL R pol_Z157 6 N [1,0,1,0,0,1,0,0,1,1,0,0] F_Z157 b (kB R pol_Z157 2 (kB R pol_Z157 1 (q3_6 R N (q3_12 R N a (kB R pol_Z157 0 (q3_7 R N (qrY E sg_Z157 F_Z157)))))))))
def Z157.l1 (R:Run) (N a n:Nat) (b:vS) (e f g:Int):Option Dv := R.w (some ⟨(.c (.ip yS b 0)::(zd 4 (.c (.d yI e)::(.c (.d yI f)::(.c (.d yI g)::(zd 53 [])))))),(zo 62 [])⟩) fun st => lC R pol_Z157 6 N [1,0,1,0,0,1,0,0,1,1,0,0] F_Z157 n st (kB R pol_Z157 2 (kB R pol_Z157 1 (q3_6 R N (q3_12 R N a (kB R pol_Z157 0 (q3_7 R N (qrY E sg_Z157 F_Z157)))))))
def Z157.l0 (R:Run) (N n:Nat) (a:vS) (b:Int):Option Dv := R.w (some ⟨(.c (.ip yS a 0)::(zd 4 (.c (.d yI b)::(zd 55 [])))),(zo 62 [])⟩) fun st => lC R pol_Z157 2 N [1,0,1,0,0] F_Z157 n st (kB R pol_Z157 0 (q3_7 R N (qrY E sg_Z157 F_Z157)))
theorem Z157.l3_succ (R:Run) (hw:R.ok) (N a b n:Nat) (c:vS) (d e f g:Int):Z157.l3 R N a b (n + 1) c d e f g = (bif (decide (g < e)) then ((qlR R n_Z156 o_Z156 [⟨(.ptr yS),c⟩,⟨yI,d⟩,⟨yI,f⟩,⟨yI,g⟩]).bind fun r18 => ((qlR R n_Z156 o_Z156 [⟨(.ptr yS),c⟩,⟨yI,d⟩,⟨yI,g⟩,⟨yI,f⟩]).bind fun r19 => ((qlR R n_Z123 o_Z123 [⟨(.ptr yM),(r18.1,r18.2.1,r18.2.2.1,r18.2.2.2.1,())⟩,⟨(.ptr yM),(r19.1,r19.2.1,r19.2.2.1,r19.2.2.2.1,())⟩]).bind fun r20 => (bif (!r20.1) then some ⟨o_Z157,(d,f,g,())⟩ else (Z157.l3 R N a b n c d e f (w64 (g + (1:Int)))))))) else (Z157.l1 R N a b c d e (w64 (f + (1:Int))))) := (hw _ _).trans (by kernel_rfl)
theorem Z157.j2_eq (R:Run) (hw:R.ok) (N a b:Nat) (c:vS) (d e f:Int) (g:Bool):Z157.j2 R N a b c d e f g = (bif g then (Z157.l3 R N a b N c d e f (w64 (f + (1:Int)))) else (Z157.l0 R N a c (w64 (d + (1:Int))))) := (hw _ _).trans (by kernel_rfl)
theorem Z157.l1_succ (R:Run) (hw:R.ok) (N a n:Nat) (b:vS) (c d e:Int):Z157.l1 R N a (n + 1) b c d e = (bif (decide (e < d)) then (Z157.j2 R N a n b c d e (decide (d > (2:Int)))) else (Z157.j2 R N a n b c d e false)) := (hw _ _).trans (by kernel_rfl)
theorem Z157.l0_succ (R:Run) (hw:R.ok) (N n:Nat) (a:vS) (b:Int):Z157.l0 R N (n + 1) a b = (bif (decide (b < (List.length a.1:Int))) then ((idx? a.1 b).bind fun y3 => (Z157.l1 R N n N a b (List.length (y3,()).1:Int) (0:Int))) else some ⟨o_Z157,((-1:Int),(0:Int),(0:Int),())⟩) := (hw _ _).trans (by kernel_rfl)
theorem Z157.ev (R:Run) (N:Nat) (a0:vS):qro E R sg_Z157 pol_Z157 F_Z157 N [⟨(.ptr yS),a0⟩] = (Z157.l0 R N N a0 (0:Int)) := by kernel_rfl
theorem Z148.ev (R:Run) (N:Nat) (a0:vS):qro E R sg_Z148 pol_Z148 F_Z148 N [⟨(.ptr yS),a0⟩] = ((qlR R n_Z151 o_Z151 [⟨(.ptr yS),a0⟩]).bind fun r1 => (bif (!r1.1) then some ⟨o_Z148,(false,())⟩ else ((qlR R n_Z157 o_Z157 [⟨(.ptr yS),a0⟩]).bind fun r2 => some ⟨o_Z148,((decide (r2.1 < (0:Int))),())⟩))) := by kernel_rfl
theorem Z166.ev (R:Run) (N:Nat) (a0:vS) (a1:(List Int)):qro E R sg_Z166 pol_Z166 F_Z166 N [⟨(.ptr yS),a0⟩,⟨yL,a1⟩] = ((qlR R n_Z105 o_Z105 [⟨yL,a1⟩,⟨yI,(0:Int)⟩,⟨yI,(w64 ((List.length a0.1:Int) - (1:Int)))⟩]).bind fun r1 => some ⟨o_Z166,(r1.1,())⟩) := by kernel_rfl
def Z165.l0 (R:Run) (N n:Nat) (a:vS) (b:(List Int)) (e f:Int):Option Dv := R.w (some ⟨(.c (.ip yS a 0)::(.c (.d yL b)::(zd 3 (.c (.d yI e)::(.c (.d yI f)::(zd 19 [])))))),(zo 28 [])⟩) fun st => lC R pol_Z165 3 N [1,1,0,1,0,0] F_Z165 n st (kB R pol_Z165 0 (kS R pol_Z165 6 N [1,1,1] F_Z165 (qrY E sg_Z165 F_Z165)))
theorem Z165.l0_succ (R:Run) (hw:R.ok) (N n:Nat) (a:vS) (b:(List Int)) (c d:Int):Z165.l0 R N (n + 1) a b c d = (bif (decide (d < (List.length b:Int))) then ((idx? b d).bind fun y5 => ((idx? a.2.2.1 (y5,()).1).bind fun y6 => (Z165.l0 R N n a b (w64 (c + (y6,()).1)) (w64 (d + (1:Int)))))) else some ⟨o_Z165,(c,())⟩) := (hw _ _).trans (by kernel_rfl)
theorem Z165.ev (R:Run) (N:Nat) (a0:vS) (a1:(List Int)):qro E R sg_Z165 pol_Z165 F_Z165 N [⟨(.ptr yS),a0⟩,⟨yL,a1⟩] = (Z165.l0 R N N a0 a1 (0:Int) (0:Int)) := by kernel_rfl
def Z162.l0 (R:Run) (N n:Nat) (a:vS) (b e:(List Int)) (f:Int):Option Dv := R.w (some ⟨(.c (.ip yS a 0)::(.c (.d yL b)::(.c (.d yL e)::(zd 4 (.c (.d yI f)::(zd 23 [])))))),(zo 34 [])⟩) fun st => lC R pol_Z162 2 N [1,0,1,0,0] F_Z162 n st (kB R pol_Z162 0 (kS R pol_Z162 6 N [1,1] F_Z162 (qrY E sg_Z162 F_Z162)))
theorem Z162.l0_succ (R:Run) (hw:R.ok) (N n:Nat) (a:vS) (b c:(List Int)) (d:Int):Z162.l0 R N (n + 1) a b c d = (bif (decide (d < (List.length c:Int))) then ((idx? c d).bind fun y5 => ((qlR R n_Z102 o_Z102 [⟨yI,(y5,()).1⟩,⟨yI,(0:Int)⟩,⟨yI,(w64 (a.2.1 - (1:Int)))⟩]).bind fun r6 => (bif (!r6.1) then some ⟨o_Z162,(false,())⟩ else (Z162.l0 R N n a b c (w64 (d + (1:Int))))))) else ((qlR R n_Z165 o_Z165 [⟨(.ptr yS),a⟩,⟨yL,b⟩]).bind fun r11 => some ⟨o_Z162,(((List.length c:Int) == r11.1),())⟩)) := (hw _ _).trans (by kernel_rfl)
theorem Z162.ev (R:Run) (N:Nat) (a0:vS) (a1 a2:(List Int)):qro E R sg_Z162 pol_Z162 F_Z162 N [⟨(.ptr yS),a0⟩,⟨yL,a1⟩,⟨yL,a2⟩] = (Z162.l0 R N N a0 a1 a2 (0:Int)) := by kernel_rfl
theorem Z159.ev (R:Run) (N:Nat) (a0:vS) (a1 a2:(List Int)):qro E R sg_Z159 pol_Z159 F_Z159 N [⟨(.ptr yS),a0⟩,⟨yL,a1⟩,⟨yL,a2⟩] = ((qlR R n_Z148 o_Z148 [⟨(.ptr yS),a0⟩]).bind fun r1 => (bif (!r1.1) then some ⟨o_Z159,((1:Int),())⟩ else ((qlR R n_Z166 o_Z166 [⟨(.ptr yS),a0⟩,⟨yL,a1⟩]).bind fun r2 => (bif (!r2.1) then some ⟨o_Z159,((2:Int),())⟩ else ((qlR R n_Z162 o_Z162 [⟨(.ptr yS),a0⟩,⟨yL,a1⟩,⟨yL,a2⟩]).bind fun r3 => (bif (!r3.1) then some ⟨o_Z159,((7:Int),())⟩ else some ⟨o_Z159,((0:Int),())⟩)))))) := by kernel_rfl
def Z101.l0 (R:Run) (N n:Nat) (a:(List Int)) (b e:Int):Option Dv := R.w (some ⟨(.c (.d yL a)::(.c (.d yI b)::(zd 3 (.c (.d yI e)::(zd 12 []))))),(zo 20 [])⟩) fun st => lC R pol_Z101 2 N [1,0,1,0,0] F_Z101 n st (kB R pol_Z101 0 (kS R pol_Z101 6 N [1,1] F_Z101 (qrY E sg_Z101 F_Z101)))
theorem Z101.l0_succ (R:Run) (hw:R.ok) (N n:Nat) (a:(List Int)) (b c:Int):Z101.l0 R N (n + 1) a b c = (bif (decide (c < (List.length a:Int))) then ((idx? a c).bind fun y4 => (bif ((y4,()).1 == b) then some ⟨o_Z101,(true,())⟩ else (Z101.l0 R N n a b (w64 (c + (1:Int)))))) else some ⟨o_Z101,(false,())⟩) := (hw _ _).trans (by kernel_rfl)
theorem Z101.ev (R:Run) (N:Nat) (a0:(List Int)) (a1:Int):qro E R sg_Z101 pol_Z101 F_Z101 N [⟨yL,a0⟩,⟨yI,a1⟩] = (Z101.l0 R N N a0 a1 (0:Int)) := by kernel_rfl
def Z136.l0 (R:Run) (N n:Nat) (a b:(List Int)) (e:Int):Option Dv := R.w (some ⟨(.c (.d yL a)::(.c (.d yL b)::(zd 3 (.c (.d yI e)::(zd 13 []))))),(zo 21 [])⟩) fun st => lC R pol_Z136 2 N [1,0,1,0,0] F_Z136 n st (kB R pol_Z136 0 (kS R pol_Z136 6 N [1,1] F_Z136 (qrY E sg_Z136 F_Z136)))
theorem Z136.l0_succ (R:Run) (hw:R.ok) (N n:Nat) (a b:(List Int)) (c:Int):Z136.l0 R N (n + 1) a b c = (bif (decide (c < (List.length a:Int))) then ((idx? a c).bind fun y4 => ((qlR R n_Z101 o_Z101 [⟨yL,b⟩,⟨yI,(y4,()).1⟩]).bind fun r5 => (bif (!r5.1) then some ⟨o_Z136,(false,())⟩ else (Z136.l0 R N n a b (w64 (c + (1:Int))))))) else some ⟨o_Z136,(true,())⟩) := (hw _ _).trans (by kernel_rfl)
theorem Z136.ev (R:Run) (N:Nat) (a0 a1:(List Int)):qro E R sg_Z136 pol_Z136 F_Z136 N [⟨yL,a0⟩,⟨yL,a1⟩] = (Z136.l0 R N N a0 a1 (0:Int)) := by kernel_rfl
def Z153.l0 (R:Run) (N n:Nat) (a:vS) (b e:Int) (f:(List Int)) (g h i j:Int):Option Dv := R.w (some ⟨(.c (.ip yS a 0)::(.c (.d yI b)::(.c (.d yI e)::(zd 3 (.c (.box 6 0)::(.c (.d yL f)::(.c (.d yI g)::(zd 55 [])))))))),(zo 6 (some (.box [.d yI h,.d yI i,.d yI j,.nils yI] false false)::(zo 62 [])))⟩) fun st => lC R pol_Z153 5 N [1,1,1,1,0,0,0] F_Z153 n st (kB R pol_Z153 0 (kS R pol_Z153 7 N [1,1,1,1,1] F_Z153 (qrY E sg_Z153 F_Z153)))
theorem Z153.l0_succ (R:Run) (hw:R.ok) (N n:Nat) (a:vS) (b c:Int) (d:(List Int)) (e f g h:Int):Z153.l0 R N (n + 1) a b c d e f g h = ((idx? a.1 b).bind fun y12 => ((idx? d e).bind fun y13 => ((qlR R n_Z101 o_Z101 [⟨yL,(y12,()).1⟩,⟨yI,(y13,()).1⟩]).bind fun r14 => (bif r14.1 then (Z153.l0 R N n a b c d (w64 (e + (1:Int))) f g h) else ((qlR R n_Z132 o_Z132 [⟨(.ptr (.cons yK .nil)),(a.1,())⟩,⟨yI,c⟩]).bind fun r23 => ((idx? r23.1 e).bind fun y24 => ((qlR R n_Z153 o_Z153 [⟨(.ptr yS),a⟩,⟨yI,b⟩,⟨yI,(y24,()).1⟩]).bind fun r25 => ((qlR R n_Z146 o_Z146 [⟨(.ptr yS),a⟩,⟨yI,c⟩,⟨yI,e⟩]).bind fun r26 => ((qlR R n_Z124 o_Z124 [⟨(.ptr yM),r26.1⟩,⟨(.ptr yM),(r25.1,r25.2.1,r25.2.2.1,r25.2.2.2.1,())⟩]).bind fun r27 => some ⟨o_Z153,(r27.1,r27.2.1,r27.2.2.1,r27.2.2.2.1,())⟩))))))))) := (hw _ _).trans (by kernel_rfl)
theorem Z153.ev (R:Run) (N:Nat) (a0:vS) (a1 a2:Int):qro E R sg_Z153 pol_Z153 F_Z153 N [⟨(.ptr yS),a0⟩,⟨yI,a1⟩,⟨yI,a2⟩] = (bif (a1 == a2) then ((idx? a0.2.2.1 a1).bind fun y1 => ((qlR R n_Z125 o_Z125 [⟨yI,a0.2.1⟩,⟨yI,(y1,()).1⟩]).bind fun r2 => some ⟨o_Z153,(r2.1,r2.2.1,r2.2.2.1,r2.2.2.2.1,())⟩)) else ((idx? a0.1 a2).bind fun y3 => (Z153.l0 R N N a0 a1 a2 ((y3,()).1) (0:Int) (0:Int) (0:Int) (0:Int)))) := by kernel_rfl
def Z113.l1 (R:Run) (N a n:Nat) (b:vM) (e:(List Int)) (f g h:Int) (i:(List Int)):Option Dv := R.w (some ⟨(.c (.ip yM b 0)::(.c (.d yL e)::(zd 3 (.c (.arr 9)::(.c (.d yI f)::(.c (.d yI g)::(.c (.d yI h)::(zd 48 [])))))))),(zo 9 (some (.arr yI i true false false)::(zo 49 [])))⟩) fun st => lC R pol_Z113 7 N [1,1,0,1,0,0,1,0,0,1,0,1,0,0] F_Z113 n st (kB R pol_Z113 2 (kS R pol_Z113 10 N [1,1,0,1,0,0,1,0,0,1,1] F_Z113 (kB R pol_Z113 1 (kS R pol_Z113 4 N [1,1,0,1,0,0,1,1] F_Z113 (kL R pol_Z113 3 N [1,1,0,1,0,0] F_Z113 a (kB R pol_Z113 0 (kS R pol_Z113 11 N [1,1,1] F_Z113 (qrY E sg_Z113 F_Z113))))))))
def Z113.l0 (R:Run) (N n:Nat) (a:vM) (b:(List Int)) (e:Int) (f:(List Int)):Option Dv := R.w (some ⟨(.c (.ip yM a 0)::(.c (.d yL b)::(zd 3 (.c (.arr 9)::(.c (.d yI e)::(zd 50 [])))))),(zo 9 (some (.arr yI f true false false)::(zo 49 [])))⟩) fun st => lC R pol_Z113 3 N [1,1,0,1,0,0] F_Z113 n st (kB R pol_Z113 0 (kS R pol_Z113 11 N [1,1,1] F_Z113 (qrY E sg_Z113 F_Z113)))
theorem Z113.l1_succ (R:Run) (hw:R.ok) (N a n:Nat) (b:vM) (c:(List Int)) (d e f:Int) (g:(List Int)):Z113.l1 R N a (n + 1) b c d e f g = (bif (decide (f < b.2.2.1)) then ((idx? b.2.2.2.1 (w64 ((w64 (d * b.2.2.1)) + f))).bind fun y11 => ((idx? c f).bind fun y12 => (Z113.l1 R N a n b c d (w64 (e + (w64 ((y11,()).1 * (y12,()).1)))) (w64 (f + (1:Int))) g))) else ((chk (b.1 != 0)).bind fun _ => ((chk (decide ((List.length g + List.length [(Int.tmod e b.1)]) * 8 ≤ 70368744177664))).bind fun _ => (Z113.l0 R N a b c (w64 (d + (1:Int))) (g ++ [(Int.tmod e b.1)]))))) := (hw _ _).trans (by kernel_rfl)
theorem Z113.l0_succ (R:Run) (hw:R.ok) (N n:Nat) (a:vM) (b:(List Int)) (c:Int) (d:(List Int)):Z113.l0 R N (n + 1) a b c d = (bif (decide (c < a.2.1)) then (Z113.l1 R N n N a b c (0:Int) (0:Int) d) else some ⟨o_Z113,(d,())⟩) := (hw _ _).trans (by kernel_rfl)
theorem Z113.ev (R:Run) (N:Nat) (a0:vM) (a1:(List Int)):qro E R sg_Z113 pol_Z113 F_Z113 N [⟨(.ptr yM),a0⟩,⟨yL,a1⟩] = (Z113.l0 R N N a0 a1 (0:Int) ([]:List Int)) := by kernel_rfl
def Z161.j2 (R:Run) (N a b:Nat) (e:vS) (f g:(List Int)) (h i j k l m o:Int) (p:(List Int)):Option Dv := R.w (some ⟨(.c (.ip yS e 0)::(.c (.d yL f)::(.c (.d yL g)::(zd 5 (.c (.d yI h)::(.c (.d yI i)::(.c (.d yI j)::(.c (.d yI k)::(.c (.box 12 0)::(zd 92 [])))))))))),(zo 12 (some (.box [.d yI l,.d yI m,.d yI o,.d yL p] false false)::(zo 95 [])))⟩) fun st => eC R pol_Z161 N [1,0,1,0,0,1,0,0,1,0,0,1,0,0,1,1,1,1] F_Z161 st (kB R pol_Z161 3 (kS R pol_Z161 6 N [1,0,1,0,0,1,0,0,1,0,0,1,1] F_Z161 (kL R pol_Z161 5 N [1,0,1,0,0,1,0,0,1,0,0] F_Z161 b (kB R pol_Z161 2 (kB R pol_Z161 1 (kS R pol_Z161 3 N [1,0,1,0,0,1,1] F_Z161 (kL R pol_Z161 2 N [1,0,1,0,0] F_Z161 a (kB R pol_Z161 0 (q3_8 R N (qrY E sg_Z161 F_Z161))))))))))
def Z161.l1 (R:Run) (N a n:Nat) (b:vS) (e f:(List Int)) (g h:Int):Option Dv := R.w (some ⟨(.c (.ip yS b 0)::(.c (.d yL e)::(.c (.d yL f)::(zd 5 (.c (.d yI g)::(.c (.d yI h)::(zd 95 []))))))),(zo 108 [])⟩) fun st => lC R pol_Z161 5 N [1,0,1,0,0,1,0,0,1,0,0] F_Z161 n st (kB R pol_Z161 2 (kB R pol_Z161 1 (kS R pol_Z161 3 N [1,0,1,0,0,1,1] F_Z161 (kL R pol_Z161 2 N [1,0,1,0,0] F_Z161 a (kB R pol_Z161 0 (q3_8 R N (qrY E sg_Z161 F_Z161)))))))
def Z161.l0 (R:Run) (N n:Nat) (a:vS) (b e:(List Int)) (f:Int):Option Dv := R.w (some ⟨(.c (.ip yS a 0)::(.c (.d yL b)::(.c (.d yL e)::(zd 5 (.c (.d yI f)::(zd 96 [])))))),(zo 108 [])⟩) fun st => lC R pol_Z161 2 N [1,0,1,0,0] F_Z161 n st (kB R pol_Z161 0 (q3_8 R N (qrY E sg_Z161 F_Z161)))
theorem Z161.j2_eq (R:Run) (hw:R.ok) (N a b:Nat) (c:vS) (d e:(List Int)) (f g h i j k l:Int) (m:(List Int)):Z161.j2 R N a b c d e f g h i j k l m = ((idx? d g).bind fun y36 => ((idx? c.2.2.1 (y36,()).1).bind fun y37 => ((chk (decide (0 ≤ h) && decide (h ≤ (w64 (h + (y37,()).1))) && decide ((w64 (h + (y37,()).1)) ≤ (List.length e:Int)))).bind fun _ => ((qlR R n_Z113 o_Z113 [⟨(.ptr yM),(j,k,l,m,())⟩,⟨yL,(List.drop (Int.toNat h) (List.take (Int.toNat (w64 (h + (y37,()).1))) e))⟩]).bind fun r38 => ((idx? d f).bind fun y39 => ((idx? c.2.2.1 (y39,()).1).bind fun y40 => ((chk (decide (0 ≤ i) && decide (i ≤ (w64 (i + (y40,()).1))) && decide ((w64 (i + (y40,()).1)) ≤ (List.length e:Int)))).bind fun _ => ((qlR R n_Z106 o_Z106 [⟨yL,r38.1⟩,⟨yL,(List.drop (Int.toNat i) (List.take (Int.toNat (w64 (i + (y40,()).1))) e))⟩]).bind fun r41 => (bif (!r41.1) then some ⟨o_Z161,(g,f,())⟩ else (Z161.l1 R N a b c d e f (w64 (g + (1:Int))))))))))))) := (hw _ _).trans (by kernel_rfl)
theorem Z161.l1_succ (R:Run) (hw:R.ok) (N a n:Nat) (b:vS) (c d:(List Int)) (e f:Int):Z161.l1 R N a (n + 1) b c d e f = (bif (decide (f < e)) then ((idx? c f).bind fun y10 => ((idx? b.1 (y10,()).1).bind fun y11 => ((idx? c e).bind fun y12 => ((idx? b.1 (y12,()).1).bind fun y13 => ((qlR R n_Z136 o_Z136 [⟨yL,(y11,()).1⟩,⟨yL,(y13,()).1⟩]).bind fun r14 => (bif (!r14.1) then (Z161.l1 R N a n b c d e (w64 (f + (1:Int)))) else ((chk (decide (0 ≤ f) && decide (f ≤ (List.length c:Int)))).bind fun _ => ((qlR R n_Z165 o_Z165 [⟨(.ptr yS),b⟩,⟨yL,(List.take (Int.toNat f) c)⟩]).bind fun r20 => ((chk (decide (0 ≤ e) && decide (e ≤ (List.length c:Int)))).bind fun _ => ((qlR R n_Z165 o_Z165 [⟨(.ptr yS),b⟩,⟨yL,(List.take (Int.toNat e) c)⟩]).bind fun r21 => ((idx? c f).bind fun y22 => ((idx? c e).bind fun y23 => (qpU ((qlR R n_Z153 o_Z153 [⟨(.ptr yS),b⟩,⟨yI,(y22,()).1⟩,⟨yI,(y23,()).1⟩]).bind fun r24 => (Z161.j2 R N a n b c d e f r20.1 r21.1 r24.1 r24.2.1 r24.2.2.1 r24.2.2.2.1)) ((qlR R n_Z153 o_Z153 [⟨(.ptr yS),b⟩,⟨yI,(y22,()).1⟩,⟨yI,(y23,()).1⟩]).bind fun r47 => (Z161.j2 R N a n b c d e f r20.1 r21.1 r47.1 r47.2.1 r47.2.2.1 r47.2.2.2.1))))))))))))))) else (Z161.l0 R N a b c d (w64 (e + (1:Int))))) := (hw _ _).trans (by kernel_rfl)
theorem Z161.l0_succ (R:Run) (hw:R.ok) (N n:Nat) (a:vS) (b c:(List Int)) (d:Int):Z161.l0 R N (n + 1) a b c d = (bif (decide (d < (List.length b:Int))) then (Z161.l1 R N n N a b c d (0:Int)) else some ⟨o_Z161,((-1:Int),(-1:Int),())⟩) := (hw _ _).trans (by kernel_rfl)
theorem Z161.ev (R:Run) (N:Nat) (a0:vS) (a1 a2:(List Int)):qro E R sg_Z161 pol_Z161 F_Z161 N [⟨(.ptr yS),a0⟩,⟨yL,a1⟩,⟨yL,a2⟩] = (Z161.l0 R N N a0 a1 a2 (0:Int)) := by kernel_rfl
theorem Z98.ev (R:Run) (N:Nat) (a0:vK) (a1:Int) (a2:(List Int)) (a3:vN) (a4 a5:(List Int)):qro E R sg_Z98 pol_Z98 F_Z98 N [⟨yK,a0⟩,⟨yI,a1⟩,⟨yL,a2⟩,⟨yN,a3⟩,⟨yL,a4⟩,⟨yL,a5⟩] = ((qlR R n_Z159 o_Z159 [⟨(.ptr yS),(a0,a1,a2,a3,())⟩,⟨yL,a4⟩,⟨yL,a5⟩]).bind fun r1 => (bif (r1.1 != (0:Int)) then some ⟨o_Z98,(false,())⟩ else ((qlR R n_Z161 o_Z161 [⟨(.ptr yS),(a0,a1,a2,a3,())⟩,⟨yL,a4⟩,⟨yL,a5⟩]).bind fun r2 => some ⟨o_Z98,((decide (r2.1 < (0:Int))),())⟩))) := by kernel_rfl
def Z69.l0 (R:Run) (N n:Nat) (a:(List Int)) (b:Int):Option Dv := R.w (some ⟨(.c (.d yL a)::(V.dead::(V.dead::(.c (.d yI b)::(zd 11 []))))),(zo 16 [])⟩) fun st => lC R pol_Z69 2 N [1,0,1,0,0] F_Z69 n st (kB R pol_Z69 0 (kS R pol_Z69 6 N [1,1] F_Z69 (qrY E sg_Z69 F_Z69)))
theorem Z69.l0_succ (R:Run) (hw:R.ok) (N n:Nat) (a:(List Int)) (b:Int):Z69.l0 R N (n + 1) a b = (bif (decide (b < (List.length a:Int))) then ((idx? a b).bind fun y3 => (bif ((y3,()).1 != (0:Int)) then some ⟨o_Z69,(false,())⟩ else (Z69.l0 R N n a (w64 (b + (1:Int)))))) else some ⟨o_Z69,(true,())⟩) := (hw _ _).trans (by kernel_rfl)
theorem Z69.ev (R:Run) (N:Nat) (a0:(List Int)):qro E R sg_Z69 pol_Z69 F_Z69 N [⟨yL,a0⟩] = (Z69.l0 R N N a0 (0:Int)) := by kernel_rfl
theorem Z158.ev (R:Run) (N:Nat) (a0:vS):qro E R sg_Z158 pol_Z158 F_Z158 N [⟨(.ptr yS),a0⟩] = ((qlR R n_Z155 o_Z155 [⟨(.ptr (.cons yK .nil)),(a0.1,())⟩,⟨yL,a0.2.2.1⟩,⟨yI,(0:Int)⟩]).bind fun r1 => some ⟨o_Z158,(r1.1,())⟩) := by kernel_rfl
def Z168.l0 (R:Run) (N n:Nat) (a:vS) (b e f:Int):Option Dv := R.w (some ⟨(.c (.ip yS a 0)::(.c (.d yI b)::(zd 3 (.c (.d yI e)::(.c (.d yI f)::(zd 15 [])))))),(zo 24 [])⟩) fun st => lC R pol_Z168 3 N [1,1,0,1,0,0] F_Z168 n st (kB R pol_Z168 0 (kS R pol_Z168 6 N [1,1,1] F_Z168 (qrY E sg_Z168 F_Z168)))
theorem Z168.l0_succ (R:Run) (hw:R.ok) (N n:Nat) (a:vS) (b c d:Int):Z168.l0 R N (n + 1) a b c d = (bif (decide (d < b)) then ((idx? a.2.2.1 d).bind fun y5 => (Z168.l0 R N n a b (w64 (c + (y5,()).1)) (w64 (d + (1:Int))))) else some ⟨o_Z168,(c,())⟩) := (hw _ _).trans (by kernel_rfl)
theorem Z168.ev (R:Run) (N:Nat) (a0:vS) (a1:Int):qro E R sg_Z168 pol_Z168 F_Z168 N [⟨(.ptr yS),a0⟩,⟨yI,a1⟩] = (Z168.l0 R N N a0 a1 (0:Int) (0:Int)) := by kernel_rfl
def Z167.l1 (R:Run) (N a n:Nat) (b:vM) (e f g h i:Int) (j:vK) (k:(List Int)):Option Dv := R.w (some ⟨(.c (.ip yM b 0)::(.c (.d yI e)::(.c (.d yI f)::(.c (.d yI g)::(zd 5 (.c (.arr 13)::(.c (.d yI h)::(.c (.arr 23)::(.c (.d yI i)::(zd 50 [])))))))))),(zo 13 (some (.arr yL j true false false)::(zo 9 (some (.arr yI k true false false)::(zo 43 [])))))⟩) fun st => lC R pol_Z167 7 N [1,1,0,1,0,0,1,0,0,1,0,1,0,0] F_Z167 n st (kB R pol_Z167 2 (kS R pol_Z167 10 N [1,1,0,1,0,0,1,0,0,1,1] F_Z167 (kB R pol_Z167 1 (kS R pol_Z167 4 N [1,1,0,1,0,0,1,1] F_Z167 (kL R pol_Z167 3 N [1,1,0,1,0,0] F_Z167 a (kB R pol_Z167 0 (kS R pol_Z167 11 N [1,1,1] F_Z167 (qrY E sg_Z167 F_Z167))))))))
def Z167.l0 (R:Run) (N n:Nat) (a:vM) (b e f g:Int) (h:vK):Option Dv := R.w (some ⟨(.c (.ip yM a 0)::(.c (.d yI b)::(.c (.d yI e)::(.c (.d yI f)::(zd 5 (.c (.arr 13)::(.c (.d yI g)::(zd 52 [])))))))),(zo 13 (some (.arr yL h true false false)::(zo 53 [])))⟩) fun st => lC R pol_Z167 3 N [1,1,0,1,0,0] F_Z167 n st (kB R pol_Z167 0 (kS R pol_Z167 11 N [1,1,1] F_Z167 (qrY E sg_Z167 F_Z167)))
theorem Z167.l1_succ (R:Run) (hw:R.ok) (N a n:Nat) (b:vM) (c d e f g:Int) (h:vK) (i:(List Int)):Z167.l1 R N a (n + 1) b c d e f g h i = (bif (decide (g < b.2.2.1)) then ((idx? b.2.2.2.1 (w64 ((w64 (f * b.2.2.1)) + g))).bind fun y15 => ((chk (b.1 != 0)).bind fun _ => ((chk (decide (0 ≤ (w64 (c + g))) && decide ((w64 (c + g)) < (List.length i:Int)))).bind fun _ => (Z167.l1 R N a n b c d e f (w64 (g + (1:Int))) h (List.set i (Int.toNat (w64 (c + g))) (Int.tmod (w64 ((y15,()).1 * e)) b.1)))))) else ((chk (decide ((List.length h + List.length [i]) * 24 ≤ 70368744177664))).bind fun _ => (Z167.l0 R N a b c d e (w64 (f + (1:Int))) (h ++ [i])))) := (hw _ _).trans (by kernel_rfl)
theorem Z167.l0_succ (R:Run) (hw:R.ok) (N n:Nat) (a:vM) (b c d e:Int) (f:vK):Z167.l0 R N (n + 1) a b c d e f = (bif (decide (e < a.2.1)) then ((chk (decide (0 ≤ c) && decide (c * 8 ≤ 70368744177664))).bind fun _ => (Z167.l1 R N n N a b c d e (0:Int) f (List.replicate (Int.toNat c) (0:Int)))) else some ⟨o_Z167,(f,())⟩) := (hw _ _).trans (by kernel_rfl)
theorem Z167.ev (R:Run) (N:Nat) (a0:vM) (a1 a2 a3:Int):qro E R sg_Z167 pol_Z167 F_Z167 N [⟨(.ptr yM),a0⟩,⟨yI,a1⟩,⟨yI,a2⟩,⟨yI,a3⟩] = (Z167.l0 R N N a0 a1 a2 a3 (0:Int) ([]:List (List Int))) := by kernel_rfl
def Z111.l0 (R:Run) (N n:Nat) (a b:(List Int)) (e f g:Int) (h:(List Int)):Option Dv := R.w (some ⟨(.c (.d yL a)::(.c (.d yL b)::(.c (.d yI e)::(.c (.d yI f)::(zd 5 (.c (.arr 11)::(.c (.d yI g)::(zd 24 [])))))))),(zo 11 (some (.arr yI h true false false)::(zo 27 [])))⟩) fun st => lC R pol_Z111 3 N [1,1,0,1,0,0] F_Z111 n st (kB R pol_Z111 0 (kS R pol_Z111 6 N [1,1,1] F_Z111 (qrY E sg_Z111 F_Z111)))
theorem Z111.l0_succ (R:Run) (hw:R.ok) (N n:Nat) (a b:(List Int)) (c d e:Int) (f:(List Int)):Z111.l0 R N (n + 1) a b c d e f = (bif (decide (e < (List.length a:Int))) then ((idx? a e).bind fun y7 => ((idx? b e).bind fun y8 => ((chk (d != 0)).bind fun _ => ((chk (decide ((List.length f + List.length [(Int.tmod (w64 ((y7,()).1 + (w64 (c * (y8,()).1)))) d)]) * 8 ≤ 70368744177664))).bind fun _ => (Z111.l0 R N n a b c d (w64 (e + (1:Int))) (f ++ [(Int.tmod (w64 ((y7,()).1 + (w64 (c * (y8,()).1)))) d)])))))) else some ⟨o_Z111,(f,())⟩) := (hw _ _).trans (by kernel_rfl)
theorem Z111.ev (R:Run) (N:Nat) (a0 a1:(List Int)) (a2 a3:Int):qro E R sg_Z111 pol_Z111 F_Z111 N [⟨yL,a0⟩,⟨yL,a1⟩,⟨yI,a2⟩,⟨yI,a3⟩] = (Z111.l0 R N N a0 a1 a2 a3 (0:Int) ([]:List Int)) := by kernel_rfl
def Z169.l0 (R:Run) (N n:Nat) (a b:vK) (e f:Int) (g:vK):Option Dv := R.w (some ⟨(.c (.d yK a)::(.c (.d yK b)::(.c (.d yI e)::(zd 4 (.c (.arr 9)::(.c (.d yI f)::(zd 21 []))))))),(zo 9 (some (.arr yL g true false false)::(zo 24 [])))⟩) fun st => lC R pol_Z169 3 N [1,1,0,1,0,0] F_Z169 n st (kB R pol_Z169 0 (kS R pol_Z169 6 N [1,1,1] F_Z169 (qrY E sg_Z169 F_Z169)))
theorem Z169.l0_succ (R:Run) (hw:R.ok) (N n:Nat) (a b:vK) (c d:Int) (e:vK):Z169.l0 R N (n + 1) a b c d e = (bif (decide (d < (List.length a:Int))) then ((idx? a d).bind fun y6 => ((idx? b d).bind fun y7 => ((qlR R n_Z111 o_Z111 [⟨yL,(y6,()).1⟩,⟨yL,(y7,()).1⟩,⟨yI,(1:Int)⟩,⟨yI,c⟩]).bind fun r8 => ((chk (decide ((List.length e + List.length [r8.1]) * 24 ≤ 70368744177664))).bind fun _ => (Z169.l0 R N n a b c (w64 (d + (1:Int))) (e ++ [r8.1])))))) else some ⟨o_Z169,(e,())⟩) := (hw _ _).trans (by kernel_rfl)
theorem Z169.ev (R:Run) (N:Nat) (a0 a1:vK) (a2:Int):qro E R sg_Z169 pol_Z169 F_Z169 N [⟨yK,a0⟩,⟨yK,a1⟩,⟨yI,a2⟩] = (Z169.l0 R N N a0 a1 a2 (0:Int) ([]:List (List Int))) := by kernel_rfl
def Z160.l0 (R:Run) (N n:Nat) (a:vS) (b:Int) (e:(List Int)) (f:Int) (g:vK):Option Dv := R.w (some ⟨(.c (.ip yS a 0)::(V.dead::(V.dead::(.c (.arr 10)::(.c (.d yI b)::(.c (.d yL e)::(.c (.d yI f)::(zd 65 [])))))))),(zo 10 (some (.arr yL g true false false)::(zo 63 [])))⟩) fun st => lC R pol_Z160 5 N [1,1,1,1,0,1,0,0] F_Z160 n st (kB R pol_Z160 0 (kS R pol_Z160 11 N [1,1,1,1,1] F_Z160 (qrY E sg_Z160 F_Z160)))
theorem Z160.l0_succ (R:Run) (hw:R.ok) (N n:Nat) (a:vS) (b:Int) (c:(List Int)) (d:Int) (e:vK):Z160.l0 R N (n + 1) a b c d e = (bif (decide (d < (List.length c:Int))) then ((idx? c d).bind fun y8 => ((qlR R n_Z132 o_Z132 [⟨(.ptr (.cons yK .nil)),(a.1,())⟩,⟨yI,(y8,()).1⟩]).bind fun r9 => ((idx? c d).bind fun y10 => ((idx? r9.1 (0:Int)).bind fun y11 => ((qlR R n_Z146 o_Z146 [⟨(.ptr yS),a⟩,⟨yI,(y10,()).1⟩,⟨yI,(0:Int)⟩]).bind fun r12 => ((qlR R n_Z168 o_Z168 [⟨(.ptr yS),a⟩,⟨yI,(y11,()).1⟩]).bind fun r13 => ((qlR R n_Z167 o_Z167 [⟨(.ptr yM),r12.1⟩,⟨yI,r13.1⟩,⟨yI,b⟩,⟨yI,(1:Int)⟩]).bind fun r14 => ((idx? c d).bind fun y15 => ((idx? r9.1 (1:Int)).bind fun y16 => ((qlR R n_Z146 o_Z146 [⟨(.ptr yS),a⟩,⟨yI,(y15,()).1⟩,⟨yI,(1:Int)⟩]).bind fun r17 => ((qlR R n_Z168 o_Z168 [⟨(.ptr yS),a⟩,⟨yI,(y16,()).1⟩]).bind fun r18 => ((qlR R n_Z167 o_Z167 [⟨(.ptr yM),r17.1⟩,⟨yI,r18.1⟩,⟨yI,b⟩,⟨yI,(w64 (a.2.1 - (1:Int)))⟩]).bind fun r19 => ((qlR R n_Z169 o_Z169 [⟨yK,r14.1⟩,⟨yK,r19.1⟩,⟨yI,a.2.1⟩]).bind fun r20 => ((chk (decide ((List.length e + List.length r20.1) * 24 ≤ 70368744177664))).bind fun _ => (Z160.l0 R N n a b c (w64 (d + (1:Int))) (e ++ r20.1)))))))))))))))) else some ⟨o_Z160,(e,())⟩) := (hw _ _).trans (by kernel_rfl)
theorem Z160.ev (R:Run) (N:Nat) (a0:vS):qro E R sg_Z160 pol_Z160 F_Z160 N [⟨(.ptr yS),a0⟩] = ((qlR R n_Z158 o_Z158 [⟨(.ptr yS),a0⟩]).bind fun r1 => ((qlR R n_Z134 o_Z134 [⟨(.ptr (.cons yK .nil)),(a0.1,())⟩,⟨yI,(1:Int)⟩]).bind fun r2 => (Z160.l0 R N N a0 r1.1 r2.1 (0:Int) ([]:List (List Int))))) := by kernel_rfl
def Z127.l0 (R:Run) (N n:Nat) (a:vK) (b e f g h i j:Int) (k:(List Int)):Option Dv := R.w (some ⟨(V.dead::(V.dead::(.c (.d yK a)::(zd 3 (.c (.box 6 0)::(.c (.box 7 0)::(.c (.d yI b)::(zd 21 [])))))))),(zo 6 (some (.box [.d yI e,.d yI f,.d yI g,.nils yI] false false)::(some (.box [.d yI h,.d yI i,.d yI j,.arr 13] false false)::(zo 5 (some (.arr yI k true false false)::(zo 19 []))))))⟩) fun st => lC R pol_Z127 3 N [1,1,0,1,0,0] F_Z127 n st (kB R pol_Z127 0 (kS R pol_Z127 6 N [1,1,1] F_Z127 (qrY E sg_Z127 F_Z127)))
theorem Z127.l0_succ (R:Run) (hw:R.ok) (N n:Nat) (a:vK) (b c d e f g h:Int) (i:(List Int)):Z127.l0 R N (n + 1) a b c d e f g h i = (bif (decide (b < (List.length a:Int))) then ((idx? a b).bind fun y10 => ((chk (decide ((List.length i + List.length (y10,()).1) * 8 ≤ 70368744177664))).bind fun _ => (Z127.l0 R N n a (w64 (b + (1:Int))) c d e f g h (i ++ (y10,()).1)))) else some ⟨o_Z127,(f,g,h,i,())⟩) := (hw _ _).trans (by kernel_rfl)
theorem Z127.ev (R:Run) (N:Nat) (a0 a1:Int) (a2:vK):qro E R sg_Z127 pol_Z127 F_Z127 N [⟨yI,a0⟩,⟨yI,a1⟩,⟨yK,a2⟩] = (Z127.l0 R N N a2 (0:Int) (0:Int) (0:Int) (0:Int) a0 (List.length a2:Int) a1 ([]:List Int)) := by kernel_rfl
def Z118.l1 (R:Run) (N a n:Nat) (b:vM) (e:(List Int)) (f g h i j:Int) (k:(List Int)) (l:vK) (m:(List Int)):Option Dv := R.w (some ⟨(.c (.ip yM b 0)::(V.dead::(V.dead::(.c (.box 3 0)::(.c (.d yL e)::(V.dead::(.c (.arr 16)::(.c (.d yI f)::(.c (.arr 32)::(.c (.d yI g)::(zd 61 []))))))))))),(zo 3 (some (.box [.d yI h,.d yI i,.d yI j,.d yL k] false false)::(zo 12 (some (.arr yL l true false false)::(zo 15 (some (.arr yI m true false false)::(zo 39 [])))))))⟩) fun st => lC R pol_Z118 10 N [1,1,1,0,1,0,0,1,0,0,1,1,1,0,1,0,0] F_Z118 n st (kB R pol_Z118 2 (kS R pol_Z118 13 N [1,1,1,0,1,0,0,1,0,0,1,1,1,1] F_Z118 (kB R pol_Z118 1 (kS R pol_Z118 5 N [1,1,1,0,1,0,0,1,1] F_Z118 (kL R pol_Z118 4 N [1,1,1,0,1,0,0] F_Z118 a (kB R pol_Z118 0 (kS R pol_Z118 14 N [1,1,1,1] F_Z118 (qrY E sg_Z118 F_Z118))))))))
def Z118.l0 (R:Run) (N n:Nat) (a:vM) (b:(List Int)) (e f g h:Int) (i:(List Int)) (j:vK):Option Dv := R.w (some ⟨(.c (.ip yM a 0)::(V.dead::(V.dead::(.c (.box 3 0)::(.c (.d yL b)::(V.dead::(.c (.arr 16)::(.c (.d yI e)::(zd 63 []))))))))),(zo 3 (some (.box [.d yI f,.d yI g,.d yI h,.d yL i] false false)::(zo 12 (some (.arr yL j true false false)::(zo 55 [])))))⟩) fun st => lC R pol_Z118 4 N [1,1,1,0,1,0,0] F_Z118 n st (kB R pol_Z118 0 (kS R pol_Z118 14 N [1,1,1,1] F_Z118 (qrY E sg_Z118 F_Z118)))
theorem Z118.l1_succ (R:Run) (hw:R.ok) (N a n:Nat) (b:vM) (c:(List Int)) (d e f g h:Int) (i:(List Int)) (j:vK) (k:(List Int)):Z118.l1 R N a (n + 1) b c d e f g h i j k = (bif (decide (e < (List.length c:Int))) then ((idx? c e).bind fun y29 => ((idx? i (w64 ((w64 (e * b.2.2.1)) + d))).bind fun y30 => ((qlR R n_Z119 o_Z119 [⟨yI,(w64 (0 - (y30,()).1))⟩,⟨yI,b.1⟩]).bind fun r31 => ((chk (decide (0 ≤ (y29,()).1) && decide ((y29,()).1 < (List.length k:Int)))).bind fun _ => (Z118.l1 R N a n b c d (w64 (e + (1:Int))) f g h i j (List.set k (Int.toNat (y29,()).1) r31.1)))))) else ((chk (decide ((List.length j + List.length [k]) * 24 ≤ 70368744177664))).bind fun _ => (Z118.l0 R N a b c (w64 (d + (1:Int))) f g h i (j ++ [k])))) := (hw _ _).trans (by kernel_rfl)
theorem Z118.l0_succ (R:Run) (hw:R.ok) (N n:Nat) (a:vM) (b:(List Int)) (c d e f:Int) (g:(List Int)) (h:vK):Z118.l0 R N (n + 1) a b c d e f g h = (bif (decide (c < a.2.2.1)) then ((qlR R n_Z101 o_Z101 [⟨yL,b⟩,⟨yI,c⟩]).bind fun r10 => (bif r10.1 then (Z118.l0 R N n a b (w64 (c + (1:Int))) d e f g h) else ((chk (decide (0 ≤ a.2.2.1) && decide (a.2.2.1 * 8 ≤ 70368744177664))).bind fun _ => ((chk (decide (0 ≤ c) && decide (c < (List.length (List.replicate (Int.toNat a.2.2.1) (0:Int)):Int)))).bind fun _ => (Z118.l1 R N n N a b c (0:Int) d e f g h (List.set (List.replicate (Int.toNat a.2.2.1) (0:Int)) (Int.toNat c) (1:Int))))))) else some ⟨o_Z118,(h,())⟩) := (hw _ _).trans (by kernel_rfl)
theorem Z118.ev (R:Run) (N:Nat) (a0:vM):qro E R sg_Z118 pol_Z118 F_Z118 N [⟨(.ptr yM),a0⟩] = ((qlR R n_Z122 o_Z122 [⟨(.ptr yM),a0⟩]).bind fun r1 => (Z118.l0 R N N a0 r1.2.2.2.2.1 (0:Int) r1.1 r1.2.1 r1.2.2.1 r1.2.2.2.1 ([]:List (List Int)))) := by kernel_rfl
theorem Z164.ev (R:Run) (N:Nat) (a0 a1:Int) (a2:vK):qro E R sg_Z164 pol_Z164 F_Z164 N [⟨yI,a0⟩,⟨yI,a1⟩,⟨yK,a2⟩] = ((qlR R n_Z127 o_Z127 [⟨yI,a0⟩,⟨yI,a1⟩,⟨yK,a2⟩]).bind fun r1 => ((qlR R n_Z118 o_Z118 [⟨(.ptr yM),(r1.1,r1.2.1,r1.2.2.1,r1.2.2.2.1,())⟩]).bind fun r2 => some ⟨o_Z164,(r2.1,())⟩)) := by kernel_rfl
theorem Z96.ev (R:Run) (N:Nat) (a0:vK) (a1:Int) (a2:(List Int)) (a3:vN):qro E R sg_Z96 pol_Z96 F_Z96 N [⟨yK,a0⟩,⟨yI,a1⟩,⟨yL,a2⟩,⟨yN,a3⟩] = ((qlR R n_Z148 o_Z148 [⟨(.ptr yS),(a0,a1,a2,a3,())⟩]).bind fun r1 => (bif (!r1.1) then some ⟨o_Z96,(([]:List (List Int)),(1:Int),())⟩ else ((qlR R n_Z158 o_Z158 [⟨(.ptr yS),(a0,a1,a2,a3,())⟩]).bind fun r2 => ((qlR R n_Z160 o_Z160 [⟨(.ptr yS),(a0,a1,a2,a3,())⟩]).bind fun r3 => ((qlR R n_Z164 o_Z164 [⟨yI,a1⟩,⟨yI,r2.1⟩,⟨yK,r3.1⟩]).bind fun r4 => some ⟨o_Z96,(r4.1,(0:Int),())⟩))))) := by kernel_rfl
end
end VeT

open Go Go.Proofs Ve
set_option maxRecDepth 100000
namespace VeT
noncomputable section
def Z67.j1 (R:Run) (N a:Nat) (b:(List Int)) (e:vK) (f:Int) (g:Bool) (h:vK) (i:Int) (j:(List Int)) (k:vN):Option Dv := R.w (some ⟨(zd 3 (.c (.box 3 0)::(.c (.d yL b)::(.c (.d yK e)::(V.dead::(.c (.d yI f)::(zd 44 (.c (.d .bool g)::(zd 37 []))))))))),(zo 3 (some (.box [.d yK h,.d yI i,.d yL j,.d yN k] false false)::(zo 87 [])))⟩) fun st => eC R pol_Z67 N [1,1,1,1,1,0,1,0,0,1,0,0,1] F_Z67 st (kB R pol_Z67 1 (kS R pol_Z67 9 N [1,1,1,1,1,0,1,0,0,1,1] F_Z67 (kL R pol_Z67 8 N [1,1,1,1,1,0,1,0,0] F_Z67 a (kB R pol_Z67 0 (kS R pol_Z67 12 N [1,1,1,1,1,1] F_Z67 (qrY E sg_Z67 F_Z67))))))
def Z67.l2 (R:Run) (N n:Nat) (a:Int) (b:vK) (e:Int) (f:(List Int)) (g:vN) (h:(List Int)):Option Dv := R.w (some ⟨(zd 3 (.c (.box 3 0)::(zd 4 (.c (.arr 53)::(.c (.d yI a)::(zd 80 [])))))),(zo 3 (some (.box [.d yK b,.d yI e,.d yL f,.d yN g] false false)::(zo 49 (some (.arr yI h true false false)::(zo 37 [])))))⟩) fun st => lC R pol_Z67 14 N [1,1,1,1,1,1,1,0,1,0,0] F_Z67 n st (kB R pol_Z67 2 (kS R pol_Z67 17 N [1,1,1,1,1,1,1,1] F_Z67 (qrY E sg_Z67 F_Z67)))
def Z67.l0 (R:Run) (N n:Nat) (a:(List Int)) (b:vK) (e:Int) (f:vK) (g:Int) (h:(List Int)) (i:vN):Option Dv := R.w (some ⟨(zd 3 (.c (.box 3 0)::(.c (.d yL a)::(.c (.d yK b)::(V.dead::(.c (.d yI e)::(zd 82 []))))))),(zo 3 (some (.box [.d yK f,.d yI g,.d yL h,.d yN i] false false)::(zo 87 [])))⟩) fun st => lC R pol_Z67 8 N [1,1,1,1,1,0,1,0,0] F_Z67 n st (kB R pol_Z67 0 (kS R pol_Z67 12 N [1,1,1,1,1,1] F_Z67 (qrY E sg_Z67 F_Z67)))
theorem Z67.j1_eq (R:Run) (hw:R.ok) (N a:Nat) (b:(List Int)) (c:vK) (d:Int) (e:Bool) (f:vK) (g:Int) (h:(List Int)) (i:vN):Z67.j1 R N a b c d e f g h i = (bif e then some ⟨o_Z67,(false,())⟩ else (Z67.l0 R N a b c (w64 (d + (1:Int))) f g h i)) := (hw _ _).trans (by kernel_rfl)
theorem Z67.l2_succ (R:Run) (hw:R.ok) (N n:Nat) (a:Int) (b:vK) (c:Int) (d:(List Int)) (e:vN) (f:(List Int)):Z67.l2 R N (n + 1) a b c d e f = (bif (decide (a < (List.length b:Int))) then ((chk (decide ((List.length f + List.length [a]) * 8 ≤ 70368744177664))).bind fun _ => (Z67.l2 R N n (w64 (a + (1:Int))) b c d e (f ++ [a]))) else ((qlR R n_Z6 o_Z6 [⟨yK,b⟩,⟨yI,c⟩,⟨yL,d⟩,⟨yN,e⟩,⟨yL,f⟩]).bind fun r50 => ((qlR R n_Z96 o_Z96 [⟨yK,b⟩,⟨yI,c⟩,⟨yL,d⟩,⟨yN,e⟩]).bind fun r51 => (bif (r50.2.1 == (0:Int)) then (bif (r51.2.1 == (0:Int)) then some ⟨o_Z67,(((List.length r50.1:Int) == (List.length r51.1:Int)),())⟩ else some ⟨o_Z67,(false,())⟩) else some ⟨o_Z67,(false,())⟩)))) := (hw _ _).trans (by kernel_rfl)
theorem Z67.l0_succ (R:Run) (hw:R.ok) (N n:Nat) (a:(List Int)) (b:vK) (c:Int) (d:vK) (e:Int) (f:(List Int)) (g:vN):Z67.l0 R N (n + 1) a b c d e f g = (bif (decide (c < (List.length b:Int))) then ((idx? b c).bind fun y11 => ((qlR R n_Z98 o_Z98 [⟨yK,d⟩,⟨yI,e⟩,⟨yL,f⟩,⟨yN,g⟩,⟨yL,a⟩,⟨yL,(y11,()).1⟩]).bind fun r12 => (bif (!r12.1) then (Z67.j1 R N n a b c true d e f g) else ((idx? b c).bind fun y28 => ((qlR R n_Z69 o_Z69 [⟨yL,(y28,()).1⟩]).bind fun r29 => (Z67.j1 R N n a b c r29.1 d e f g)))))) else (Z67.l2 R N N (0:Int) d e f g ([]:List Int))) := (hw _ _).trans (by kernel_rfl)
theorem Z67.ev (R:Run) (N:Nat) (a0:(List Int)):qro E R sg_Z67 pol_Z67 F_Z67 N [⟨(.sl (.int .u8)),a0⟩] = ((qlR R n_Z68 o_Z68 [⟨(.sl (.int .u8)),a0⟩]).bind fun r1 => (bif r1.1 then some ⟨o_Z67,(true,())⟩ else ((qlR R n_Z95 o_Z95 [⟨(.sl (.int .u8)),a0⟩]).bind fun r2 => ((qlR R n_Z6 o_Z6 [⟨yK,r2.1⟩,⟨yI,r2.2.1⟩,⟨yL,r2.2.2.1⟩,⟨yN,r2.2.2.2.1⟩,⟨yL,r2.2.2.2.2.1⟩]).bind fun r3 => (bif (r3.2.1 != (0:Int)) then some ⟨o_Z67,(((List.length r3.1:Int) == (0:Int)),())⟩ else (Z67.l0 R N N r2.2.2.2.2.1 r3.1 (0:Int) r2.1 r2.2.1 r2.2.2.1 r2.2.2.2.1)))))) := by kernel_rfl
end
end VeT


namespace VeT
section
open Go Go.Proofs Go.RowKit Go.Lib
set_option maxHeartbeats 2000000 in
set_option maxRecDepth 100000 in
theorem qk5(base:Option Addr)(l c n:Nat)(w:World)(hlc:l≤c)(hc63:c≤9223372036854775807)(hn63:n≤9223372036854775807)(hroom:l+n≤c) :
  Calls Tryz.prog 285 #[.slice base l c,.int .i64 n] w fun e w'=>e=.returned (.slice base l c)∧w'=w:=by
 have h1:¬ ((n:Int)<0):=by omega
 have h2:wrap64 ((c:Int)-(l:Int))=(c:Int)-(l:Int):=by unfold wrap64;omega
 have h3:wrap64 ((n:Int)-((c:Int)-(l:Int)))=(n:Int)-((c:Int)-(l:Int)):=by unfold wrap64;omega
 have h4:¬ ((n:Int)-((c:Int)-(l:Int))>0):=by omega
 go_enter Tryz.func285,Tryz.ntmps285
 go_wp2
 go_ret
 exact⟨rfl,rfl⟩
set_option maxHeartbeats 4000000 in
set_option maxRecDepth 100000 in
theorem qlq(i0:TypeInfo)(z:Value)(hi0:Tryz.prog.info? 2=some i0)(hz0:i0.zero=some z)(hs0:0<i0.size)
    (base:Option Addr) (l c n:Nat) (cs:List Value) (w:World) (hlc:l≤c) (hroom:c<l+n) (hbig:(l+n)*i0.bytes≤140737488355328) (h63:l+n≤4611686018427387904)
    (hcl:cs.length=c*i0.size) (hnil:base=none→c=0) (hcs:∀ a,base=some a→∀(j:Nat) v,cs[j]? = some v→w.cell? (a.add j)=some v) :
    Calls Tryz.prog 285 #[.slice base l c,.int .i64 n] w fun e w' =>
      e=.returned (.slice (some ⟨w.heap.size,0,none⟩) l (grownCap w (l+n) c 2)) ∧
      w'=w.drew.alloc (.cells (cs.toArray++Builtin.zeroCells z.cells (l+n-c)++Builtin.zeroCells z.cells (grownCap w (l+n) c 2-(l+n))) 2):=by
  have h1:¬ ((n:Int)<0):=by omega
  have h2:wrap64 ((c:Int)-(l:Int))=(c:Int)-(l:Int):=by unfold wrap64;omega
  have h3:wrap64 ((n:Int)-((c:Int)-(l:Int)))=(n:Int)-((c:Int)-(l:Int)):=by unfold wrap64;omega
  have h4:(n:Int)-((c:Int)-(l:Int))>0:=by omega
  have z25:∀ w,(Go.sizeOf 2).run Tryz.prog w=.ok i0.size w:=fun w=>by simp[Go.sizeOf,typeInfo,hi0]
  have hck:c+(l+n-c)=l+n:=by omega
  have hold:(Builtin.firstCells i0.size c (.slice base c c)).run Tryz.prog w.drew=.ok cs.toArray w.drew:=by
    cases base with
    | none =>
      have h0:=hnil rfl
      subst h0
      have hc0:cs=[]:=List.length_eq_zero_iff.1 (by simpa using hcl)
      rw[hc0]
      exact run_firstCells_none w.drew i0.size 0 0 0
    | some a=>exact run_firstCells_some w.drew i0.size c a c c cs hcl (fun j v hj=>hcs a rfl j v hj)
  have hrz:∀ ty,(Builtin.append_ #[27,3] ty #[.slice base c c,.int .i64 ((n:Int)-((c:Int)-(l:Int)))]).run Tryz.prog w =
      .ok (.slice (some ⟨w.heap.size,0,none⟩) (l+n) (grownCap w (l+n) c 2)) (w.drew.alloc (.cells (cs.toArray++Builtin.zeroCells z.cells (l+n-c)++Builtin.zeroCells z.cells (grownCap w (l+n) c 2-(l+n))) 2)):=fun ty=>by
    have h:=Lib.run_append_grow_zeros w 27 3 ty 2 i0 z .i64 .i64 Tryz.underlying27 Tryz.underlying3 hi0 hz0 base c c cs hold (l+n-c) (by omega) hs0 (by omega) (by omega)
      (by have:(l+n-c)*i0.bytes≤(l+n)*i0.bytes:=Nat.mul_le_mul_right _ (by omega)
          omega)
      (by rw[hck];exact growslice_fits hroom hbig)
    rw[hck] at h
    rw[show(n:Int)-((c:Int)-(l:Int))=((l+n-c:Nat):Int) by omega]
    exact h
  have hGn:l+n≤grownCap w (l+n) c 2:=grownCap_ge w _ _ _
  obtain⟨G,hG⟩:∃ G,G=grownCap w (l+n) c 2:=⟨_,rfl⟩
  rw[← hG] at hrz hGn ⊢
  have hG63:G≤9223372036854775807:=by
    have:=grownCap_le_maxLen w (l+n) c 2 (by unfold maxLen;omega)
    rw[← hG] at this
    unfold maxLen at this
    omega
  clear hold hck hG hcs hcl
  go_enter Tryz.func285,Tryz.ntmps285
  cases base with
  | none =>
    have h0:=hnil rfl
    subst h0
    obtain rfl:l=0:=by omega
    go_wp2_with (at_builtin;refine Lib.wpList_append_run _ rfl _ _ _ _ rfl _ _ rfl rfl _ _ (hrz _) ?_)
    all_goals (go_ret;exact⟨rfl,rfl⟩)
  | some a =>
    obtain⟨ab,ao,asp⟩:=a
    go_wp2_with (at_builtin;refine Lib.wpList_append_run _ rfl _ _ _ _ rfl _ _ rfl rfl _ _ (hrz _) ?_)
    all_goals (go_ret;exact⟨rfl,rfl⟩)
theorem qle:(Tryz.prog.info? 2).any (fun i=>i.size==Ve.Ty.size yI&&i.zero.any (fun z=>z.cells.size==Ve.Ty.size yI)&&decide (i.bytes≤64*Ve.Ty.size yI)&&decide (0<i.bytes)&&decide (0<Ve.Ty.size yI))=true:=by kernel_rfl
open Ve in
theorem qgY(R:Run){args:List Dv}{dv:Dv}(h:qnb yI R args=some dv) :
  qc9 Tryz.prog ⟨[(false,1),(false,1)],[.take true,.imm],.cons yL .nil,[(false,1)],[.deep],[]⟩ 285 args dv:=by
 have hi:=qle
 cases hi0:Tryz.prog.info? 2 with
 | none=>rw[hi0] at hi;cases hi
 | some i0 =>
  rw[hi0] at hi
  simp only[Option.any_some,Bool.and_eq_true,decide_eq_true_eq,beq_iff_eq] at hi
  obtain⟨⟨⟨⟨h1,h2⟩,h3⟩,h4⟩,h5⟩:=hi
  cases hz:i0.zero with
  | none=>rw[hz] at h2;cases h2
  | some z =>
   rw[hz] at h2
   exact qjH h1 (by simpa using h2) h5 h3 h4 qk5 (fun base l c n cs w a1 a2 a3 a4 a5 a6 a7=>qlq i0 z hi0 hz (by rw[h1];exact h5) base l c n cs w a1 a2 a3 a4 a5 a6 a7) R h
end
section
open Go Ve
theorem qpO:primL=(List.range 378).map fun i=>bif Nat.beq i 285 then some (qnb yI) else none:=by kernel_rfl
theorem qrq:∀ f p,E.prim f=some p→∀ r,qhi E (mkR r)→∀ args dv sg,E.sig f=some sg→p (mkR r) args=some dv→qc9 E.P sg f args dv:=by
 intro f p hp r hr args dv sg hsg h
 have hp:primL.getD f none=some p:=hp
 rw[qpO,List.getD_eq_getElem?_getD,List.getElem?_map] at hp
 by_cases hf:f<378
 ·rw[List.getElem?_range hf] at hp
  simp only[Option.map_some,Option.getD_some] at hp
  by_cases h285:f=285
  ·subst h285
   obtain rfl:(qnb yI)=p:=Option.some.inj hp
   obtain rfl:sg_Z84=sg:=Option.some.inj (sig_slices_Grow_Sint64_int64_eq.symm.trans hsg)
   exact qgY _ h
  rw[show Nat.beq f 285=false from Bool.eq_false_iff.2 fun h=>h285 (Nat.eq_of_beq_eq_true h),cond_false] at hp
  cases hp
 ·rw[List.getElem?_eq_none (by simpa using hf)] at hp
  cases hp
end
end VeT
open Go Go.Proofs Ve
namespace VeT
end VeT
open Go Go.Proofs Ve
namespace VeT
theorem qbg(s:List (List Int))(c:((vK×Unit)×(Int×Unit)×Unit))(p:(List Int)→Bool)(hs:s.length≤1048576)(hp:∀ x∈s,Ret E n_Z11 [⟨yL,x⟩,⟨(.ptr (.cons yK .nil)),c.1⟩,⟨(.ptr (.cons yI .nil)),c.2.1⟩] ⟨o_Z11,(p x,())⟩) :
    Ret E n_Z85 [⟨yK,s⟩,⟨(.fn n_Z11 (.cons (.ptr (.cons yK .nil)) (.cons (.ptr (.cons yI .nil)) .nil))),c⟩] ⟨o_Z85,(qiQ p s,())⟩:=by
  obtain⟨o,h1,h2,h3⟩:=qbS 1 (L:=fun φ n k=>Z86.l0 (mkR (run E (φ 0))) (φ 0) n s c (s.length:Int) k) (len:=s.length) (fun k=>∃ h:k<s.length,p s[k]=true) (fun o=>some ⟨o_Z85,(o2i o,())⟩) (fun _ _ _ _=>rfl) (fun k hk hP=>by
      obtain⟨_,hP⟩:=hP
      simp only[Z86.l0_succ _ qaf]
      refine qax (decide_eq_true (by omega)) (qab (qai hk) (qaa (hp _ (List.getElem_mem hk)) (qax hP qam)))) (fun k q hk hP ih=>by
      simp only[Z86.l0_succ _ qaf]
      refine qax (decide_eq_true (by omega)) (qab (qai hk) (qaa (hp _ (List.getElem_mem hk)) (qaB (Bool.eq_false_iff.2 fun h=>hP ⟨hk,h⟩) ?_)))
      rw[qae (by omega)];exact ih) (by
      simp only[Z86.l0_succ _ qaf]
      exact qaB (decide_eq_false (by omega)) qam)
  rw[qdk h1 h2] at h3
  refine qak ?_
  simp only[run_Z85,Z86.ev]
  exact Ev.start (p:=fun φ n=>Z86.l0 (mkR (run E (φ 0))) (φ 0) n s c (s.length:Int) 0=_) 1 h3 (fun _ _ _ h=>h)
theorem qbq(s:List (List Int))(c:((Int×Unit)×Unit))(p:(List Int)→Bool)(hs:s.length≤1048576)(hp:∀ x∈s,Ret E n_Z29 [⟨yL,x⟩,⟨(.ptr (.cons yI .nil)),c.1⟩] ⟨o_Z29,(p x,())⟩) :
    Ret E n_Z85 [⟨yK,s⟩,⟨(.fn n_Z29 (.cons (.ptr (.cons yI .nil)) .nil)),c⟩] ⟨o_Z85,(qiQ p s,())⟩:=by
  obtain⟨o,h1,h2,h3⟩:=qbS 1 (L:=fun φ n k=>Z87.l0 (mkR (run E (φ 0))) (φ 0) n s c (s.length:Int) k) (len:=s.length) (fun k=>∃ h:k<s.length,p s[k]=true) (fun o=>some ⟨o_Z85,(o2i o,())⟩) (fun _ _ _ _=>rfl) (fun k hk hP=>by
      obtain⟨_,hP⟩:=hP
      simp only[Z87.l0_succ _ qaf]
      refine qax (decide_eq_true (by omega)) (qab (qai hk) (qaa (hp _ (List.getElem_mem hk)) (qax hP qam)))) (fun k q hk hP ih=>by
      simp only[Z87.l0_succ _ qaf]
      refine qax (decide_eq_true (by omega)) (qab (qai hk) (qaa (hp _ (List.getElem_mem hk)) (qaB (Bool.eq_false_iff.2 fun h=>hP ⟨hk,h⟩) ?_)))
      rw[qae (by omega)];exact ih) (by
      simp only[Z87.l0_succ _ qaf]
      exact qaB (decide_eq_false (by omega)) qam)
  rw[qdk h1 h2] at h3
  refine qak ?_
  simp only[run_Z85,Z87.ev]
  exact Ev.start (p:=fun φ n=>Z87.l0 (mkR (run E (φ 0))) (φ 0) n s c (s.length:Int) 0=_) 1 h3 (fun _ _ _ h=>h)
theorem qbm(s:List Int)(p:Int→Bool)(hs:s.length≤1048576)(hp:∀ x∈s,Ret E n_Z16 [⟨yI,x⟩] ⟨o_Z16,(p x,())⟩) :
    Ret E n_Z88 [⟨yL,s⟩,⟨(.fn n_Z16 .nil),()⟩] ⟨o_Z88,(qiQ p s,())⟩:=by
  obtain⟨o,h1,h2,h3⟩:=qbS 1 (L:=fun φ n k=>Z89.l0 (mkR (run E (φ 0))) (φ 0) n s (s.length:Int) k) (len:=s.length) (fun k=>∃ h:k<s.length,p s[k]=true) (fun o=>some ⟨o_Z88,(o2i o,())⟩) (fun _ _ _ _=>rfl) (fun k hk hP=>by
      obtain⟨_,hP⟩:=hP
      simp only[Z89.l0_succ _ qaf]
      refine qax (decide_eq_true (by omega)) (qab (qai hk) (qaa (hp _ (List.getElem_mem hk)) (qax hP qam)))) (fun k q hk hP ih=>by
      simp only[Z89.l0_succ _ qaf]
      refine qax (decide_eq_true (by omega)) (qab (qai hk) (qaa (hp _ (List.getElem_mem hk)) (qaB (Bool.eq_false_iff.2 fun h=>hP ⟨hk,h⟩) ?_)))
      rw[qae (by omega)];exact ih) (by
      simp only[Z89.l0_succ _ qaf]
      exact qaB (decide_eq_false (by omega)) qam)
  rw[qdk h1 h2] at h3
  refine qak ?_
  simp only[run_Z88,Z89.ev]
  exact Ev.start (p:=fun φ n=>Z89.l0 (mkR (run E (φ 0))) (φ 0) n s (s.length:Int) 0=_) 1 h3 (fun _ _ _ h=>h)
theorem qbp(s:List Int)(c:((Int×Unit)×Unit))(p:Int→Bool)(hs:s.length≤1048576)(hp:∀ x∈s,Ret E n_Z19 [⟨yI,x⟩,⟨(.ptr (.cons yI .nil)),c.1⟩] ⟨o_Z19,(p x,())⟩) :
    Ret E n_Z88 [⟨yL,s⟩,⟨(.fn n_Z19 (.cons (.ptr (.cons yI .nil)) .nil)),c⟩] ⟨o_Z88,(qiQ p s,())⟩:=by
  obtain⟨o,h1,h2,h3⟩:=qbS 1 (L:=fun φ n k=>Z90.l0 (mkR (run E (φ 0))) (φ 0) n s c (s.length:Int) k) (len:=s.length) (fun k=>∃ h:k<s.length,p s[k]=true) (fun o=>some ⟨o_Z88,(o2i o,())⟩) (fun _ _ _ _=>rfl) (fun k hk hP=>by
      obtain⟨_,hP⟩:=hP
      simp only[Z90.l0_succ _ qaf]
      refine qax (decide_eq_true (by omega)) (qab (qai hk) (qaa (hp _ (List.getElem_mem hk)) (qax hP qam)))) (fun k q hk hP ih=>by
      simp only[Z90.l0_succ _ qaf]
      refine qax (decide_eq_true (by omega)) (qab (qai hk) (qaa (hp _ (List.getElem_mem hk)) (qaB (Bool.eq_false_iff.2 fun h=>hP ⟨hk,h⟩) ?_)))
      rw[qae (by omega)];exact ih) (by
      simp only[Z90.l0_succ _ qaf]
      exact qaB (decide_eq_false (by omega)) qam)
  rw[qdk h1 h2] at h3
  refine qak ?_
  simp only[run_Z88,Z90.ev]
  exact Ev.start (p:=fun φ n=>Z90.l0 (mkR (run E (φ 0))) (φ 0) n s c (s.length:Int) 0=_) 1 h3 (fun _ _ _ h=>h)
theorem qby(s:List Int)(p:Int→Bool)(hs:s.length≤1048576)(hp:∀ x∈s,Ret E n_Z22 [⟨yI,x⟩] ⟨o_Z22,(p x,())⟩) :
    Ret E n_Z88 [⟨yL,s⟩,⟨(.fn n_Z22 .nil),()⟩] ⟨o_Z88,(qiQ p s,())⟩:=by
  obtain⟨o,h1,h2,h3⟩:=qbS 1 (L:=fun φ n k=>Z91.l0 (mkR (run E (φ 0))) (φ 0) n s (s.length:Int) k) (len:=s.length) (fun k=>∃ h:k<s.length,p s[k]=true) (fun o=>some ⟨o_Z88,(o2i o,())⟩) (fun _ _ _ _=>rfl) (fun k hk hP=>by
      obtain⟨_,hP⟩:=hP
      simp only[Z91.l0_succ _ qaf]
      refine qax (decide_eq_true (by omega)) (qab (qai hk) (qaa (hp _ (List.getElem_mem hk)) (qax hP qam)))) (fun k q hk hP ih=>by
      simp only[Z91.l0_succ _ qaf]
      refine qax (decide_eq_true (by omega)) (qab (qai hk) (qaa (hp _ (List.getElem_mem hk)) (qaB (Bool.eq_false_iff.2 fun h=>hP ⟨hk,h⟩) ?_)))
      rw[qae (by omega)];exact ih) (by
      simp only[Z91.l0_succ _ qaf]
      exact qaB (decide_eq_false (by omega)) qam)
  rw[qdk h1 h2] at h3
  refine qak ?_
  simp only[run_Z88,Z91.ev]
  exact Ev.start (p:=fun φ n=>Z91.l0 (mkR (run E (φ 0))) (φ 0) n s (s.length:Int) 0=_) 1 h3 (fun _ _ _ h=>h)
theorem qbF(s:List Int)(c:(((List Int)×Unit)×Unit))(p:Int→Bool)(hs:s.length≤1048576)(hp:∀ x∈s,Ret E n_Z42 [⟨yI,x⟩,⟨(.ptr (.cons yL .nil)),c.1⟩] ⟨o_Z42,(p x,())⟩) :
    Ret E n_Z88 [⟨yL,s⟩,⟨(.fn n_Z42 (.cons (.ptr (.cons yL .nil)) .nil)),c⟩] ⟨o_Z88,(qiQ p s,())⟩:=by
  obtain⟨o,h1,h2,h3⟩:=qbS 1 (L:=fun φ n k=>Z92.l0 (mkR (run E (φ 0))) (φ 0) n s c (s.length:Int) k) (len:=s.length) (fun k=>∃ h:k<s.length,p s[k]=true) (fun o=>some ⟨o_Z88,(o2i o,())⟩) (fun _ _ _ _=>rfl) (fun k hk hP=>by
      obtain⟨_,hP⟩:=hP
      simp only[Z92.l0_succ _ qaf]
      refine qax (decide_eq_true (by omega)) (qab (qai hk) (qaa (hp _ (List.getElem_mem hk)) (qax hP qam)))) (fun k q hk hP ih=>by
      simp only[Z92.l0_succ _ qaf]
      refine qax (decide_eq_true (by omega)) (qab (qai hk) (qaa (hp _ (List.getElem_mem hk)) (qaB (Bool.eq_false_iff.2 fun h=>hP ⟨hk,h⟩) ?_)))
      rw[qae (by omega)];exact ih) (by
      simp only[Z92.l0_succ _ qaf]
      exact qaB (decide_eq_false (by omega)) qam)
  rw[qdk h1 h2] at h3
  refine qak ?_
  simp only[run_Z88,Z92.ev]
  exact Ev.start (p:=fun φ n=>Z92.l0 (mkR (run E (φ 0))) (φ 0) n s c (s.length:Int) 0=_) 1 h3 (fun _ _ _ h=>h)
theorem qbr(s:List Int)(c:(((List Int)×Unit)×Unit))(p:Int→Bool)(hs:s.length≤1048576)(hp:∀ x∈s,Ret E n_Z55 [⟨yI,x⟩,⟨(.ptr (.cons yL .nil)),c.1⟩] ⟨o_Z55,(p x,())⟩) :
    Ret E n_Z88 [⟨yL,s⟩,⟨(.fn n_Z55 (.cons (.ptr (.cons yL .nil)) .nil)),c⟩] ⟨o_Z88,(qiQ p s,())⟩:=by
  obtain⟨o,h1,h2,h3⟩:=qbS 1 (L:=fun φ n k=>Z93.l0 (mkR (run E (φ 0))) (φ 0) n s c (s.length:Int) k) (len:=s.length) (fun k=>∃ h:k<s.length,p s[k]=true) (fun o=>some ⟨o_Z88,(o2i o,())⟩) (fun _ _ _ _=>rfl) (fun k hk hP=>by
      obtain⟨_,hP⟩:=hP
      simp only[Z93.l0_succ _ qaf]
      refine qax (decide_eq_true (by omega)) (qab (qai hk) (qaa (hp _ (List.getElem_mem hk)) (qax hP qam)))) (fun k q hk hP ih=>by
      simp only[Z93.l0_succ _ qaf]
      refine qax (decide_eq_true (by omega)) (qab (qai hk) (qaa (hp _ (List.getElem_mem hk)) (qaB (Bool.eq_false_iff.2 fun h=>hP ⟨hk,h⟩) ?_)))
      rw[qae (by omega)];exact ih) (by
      simp only[Z93.l0_succ _ qaf]
      exact qaB (decide_eq_false (by omega)) qam)
  rw[qdk h1 h2] at h3
  refine qak ?_
  simp only[run_Z88,Z93.ev]
  exact Ev.start (p:=fun φ n=>Z93.l0 (mkR (run E (φ 0))) (φ 0) n s c (s.length:Int) 0=_) 1 h3 (fun _ _ _ h=>h)
theorem qba(s:List (List Int))(c:((vK×Unit)×(Int×Unit)×Unit))(p:(List Int)→Bool)(hs:s.length≤1048576)(hp:∀ x∈s,Ret E n_Z11 [⟨yL,x⟩,⟨(.ptr (.cons yK .nil)),c.1⟩,⟨(.ptr (.cons yI .nil)),c.2.1⟩] ⟨o_Z11,(p x,())⟩) :
  Ret E n_Z75 [⟨yK,s⟩,⟨(.fn n_Z11 (.cons (.ptr (.cons yK .nil)) (.cons (.ptr (.cons yI .nil)) .nil))),c⟩] ⟨o_Z75,(pb (∃ x∈s,p x=true),())⟩:=by
 refine qak ?_
 simp only[run_Z75,Z76.ev]
 refine qaa (qbg s c p hs hp) (qaj ?_)
 simp only[ge_iff_le,qeU,qaN qbX]
theorem qbe(s:List Int)(p:Int→Bool)(hs:s.length≤1048576)(hp:∀ x∈s,Ret E n_Z16 [⟨yI,x⟩] ⟨o_Z16,(p x,())⟩) :
  Ret E n_Z77 [⟨yL,s⟩,⟨(.fn n_Z16 .nil),()⟩] ⟨o_Z77,(pb (∃ x∈s,p x=true),())⟩:=by
 refine qak ?_
 simp only[run_Z77,Z78.ev]
 refine qaa (qbm s p hs hp) (qaj ?_)
 simp only[ge_iff_le,qeU,qaN qbX]
theorem qbi(s:List Int)(c:((Int×Unit)×Unit))(p:Int→Bool)(hs:s.length≤1048576)(hp:∀ x∈s,Ret E n_Z19 [⟨yI,x⟩,⟨(.ptr (.cons yI .nil)),c.1⟩] ⟨o_Z19,(p x,())⟩) :
  Ret E n_Z77 [⟨yL,s⟩,⟨(.fn n_Z19 (.cons (.ptr (.cons yI .nil)) .nil)),c⟩] ⟨o_Z77,(pb (∃ x∈s,p x=true),())⟩:=by
 refine qak ?_
 simp only[run_Z77,Z79.ev]
 refine qaa (qbp s c p hs hp) (qaj ?_)
 simp only[ge_iff_le,qeU,qaN qbX]
theorem qbn(s:List Int)(p:Int→Bool)(hs:s.length≤1048576)(hp:∀ x∈s,Ret E n_Z22 [⟨yI,x⟩] ⟨o_Z22,(p x,())⟩) :
  Ret E n_Z77 [⟨yL,s⟩,⟨(.fn n_Z22 .nil),()⟩] ⟨o_Z77,(pb (∃ x∈s,p x=true),())⟩:=by
 refine qak ?_
 simp only[run_Z77,Z80.ev]
 refine qaa (qby s p hs hp) (qaj ?_)
 simp only[ge_iff_le,qeU,qaN qbX]
theorem qbz(s:List Int)(c:(((List Int)×Unit)×Unit))(p:Int→Bool)(hs:s.length≤1048576)(hp:∀ x∈s,Ret E n_Z42 [⟨yI,x⟩,⟨(.ptr (.cons yL .nil)),c.1⟩] ⟨o_Z42,(p x,())⟩) :
  Ret E n_Z77 [⟨yL,s⟩,⟨(.fn n_Z42 (.cons (.ptr (.cons yL .nil)) .nil)),c⟩] ⟨o_Z77,(pb (∃ x∈s,p x=true),())⟩:=by
 refine qak ?_
 simp only[run_Z77,Z81.ev]
 refine qaa (qbF s c p hs hp) (qaj ?_)
 simp only[ge_iff_le,qeU,qaN qbX]
theorem qcS(p:Int)(R C:Nat)(c:((Int×Int×Int×(List Int)×Unit)×Unit))(f:Nat→Nat→Int)(hR:R≤1048576)(hC:C≤1048576)(hRC:R*C≤1048576)(hf:∀ i j:Nat,i<R→j<C→Ret E n_Z62 [⟨yI,(i:Int)⟩,⟨yI,(j:Int)⟩,⟨(.ptr yM),c.1⟩] ⟨o_Z62,(f i j,())⟩) :
  Ret E n_Z32 [⟨yI,p⟩,⟨yI,(R:Int)⟩,⟨yI,(C:Int)⟩,⟨(.fn n_Z62 (.cons (.ptr yM) .nil)),c⟩] ⟨o_Z32,(p,(R:Int),(C:Int),qaq f C R,())⟩:=by
 refine qak ?_
 simp only[run_Z32,Z34.ev]
 refine Ev.start (p:=fun φ n=>Z34.l0 (mkR (run E (φ 0))) (φ 0) n (C:Int) c (R:Int) 0 0 0 0 p (R:Int) (C:Int) []=_) 1 ?_ (fun _ _ _ h=>h)
 refine qao 1 (L:=fun φ n k a=>Z34.l0 (mkR (run E (φ 0))) (φ 0) n (C:Int) c (R:Int) k 0 0 0 p (R:Int) (C:Int) a) (len:=R) (fun k=>qaq f C k) (fun _ _ _ _ _=>rfl) (fun k r hk ih=>?_) ?_
 ·simp only[Z34.l0_succ _ qaf]
  refine qax (decide_eq_true (by omega)) ?_
  refine Ev.start (p:=fun φ n=>Z34.l1 (mkR (run E (φ 0))) (φ 0) (φ 1) n (C:Int) c (k:Int) (R:Int) (k:Int) (C:Int) 0 0 0 0 p (R:Int) (C:Int) (qaq f C k)=_) 2 ?_ (fun _ _ _ h=>h)
  have hle:(k+1)*C≤R*C:=Nat.mul_le_mul_right _ hk
  rw[Nat.add_mul] at hle
  have:=qao 2 (L:=fun φ n j a=>Z34.l1 (mkR (run E (φ 0))) (φ 0) (φ 1) n (C:Int) c (k:Int) (R:Int) (k:Int) (C:Int) j 0 0 0 p (R:Int) (C:Int) a) (len:=C) (fun j=>qaq f C k++(List.range j).map (f k)) (r:=r) (fun _ _ _ _ _=>rfl) (fun j r hj ih=>?_) ?_
  ·simpa using this
  ·simp only[Z34.l1_succ _ qaf]
   rw[List.range_succ,List.map_append,← List.append_assoc] at ih
   refine qax (decide_eq_true (by omega)) (qaa (hf k j hk hj) (qan (by simp[qas];omega) ?_))
   rw[qae (by omega)];exact ih
  ·simp only[Z34.l1_succ _ qaf]
   refine qaB (decide_eq_false (by omega)) ?_
   rw[qae (by omega)];exact ih
 ·simp only[Z34.l0_succ _ qaf]
  exact qaB (decide_eq_false (by omega)) qam
theorem qdi(p:Int)(R C:Nat)(c:((Int×Int×Int×(List Int)×Unit)×(vK×Unit)×Unit))(f:Nat→Nat→Int)(hR:R≤1048576)(hC:C≤1048576)(hRC:R*C≤1048576)(hf:∀ i j:Nat,i<R→j<C→Ret E n_Z52 [⟨yI,(i:Int)⟩,⟨yI,(j:Int)⟩,⟨(.ptr yM),c.1⟩,⟨(.ptr (.cons yK .nil)),c.2.1⟩] ⟨o_Z52,(f i j,())⟩) :
  Ret E n_Z32 [⟨yI,p⟩,⟨yI,(R:Int)⟩,⟨yI,(C:Int)⟩,⟨(.fn n_Z52 (.cons (.ptr yM) (.cons (.ptr (.cons yK .nil)) .nil))),c⟩] ⟨o_Z32,(p,(R:Int),(C:Int),qaq f C R,())⟩:=by
 refine qak ?_
 simp only[run_Z32,Z33.ev]
 refine Ev.start (p:=fun φ n=>Z33.l0 (mkR (run E (φ 0))) (φ 0) n (C:Int) c (R:Int) 0 0 0 0 p (R:Int) (C:Int) []=_) 1 ?_ (fun _ _ _ h=>h)
 refine qao 1 (L:=fun φ n k a=>Z33.l0 (mkR (run E (φ 0))) (φ 0) n (C:Int) c (R:Int) k 0 0 0 p (R:Int) (C:Int) a) (len:=R) (fun k=>qaq f C k) (fun _ _ _ _ _=>rfl) (fun k r hk ih=>?_) ?_
 ·simp only[Z33.l0_succ _ qaf]
  refine qax (decide_eq_true (by omega)) ?_
  refine Ev.start (p:=fun φ n=>Z33.l1 (mkR (run E (φ 0))) (φ 0) (φ 1) n (C:Int) c (k:Int) (R:Int) (k:Int) (C:Int) 0 0 0 0 p (R:Int) (C:Int) (qaq f C k)=_) 2 ?_ (fun _ _ _ h=>h)
  have hle:(k+1)*C≤R*C:=Nat.mul_le_mul_right _ hk
  rw[Nat.add_mul] at hle
  have:=qao 2 (L:=fun φ n j a=>Z33.l1 (mkR (run E (φ 0))) (φ 0) (φ 1) n (C:Int) c (k:Int) (R:Int) (k:Int) (C:Int) j 0 0 0 p (R:Int) (C:Int) a) (len:=C) (fun j=>qaq f C k++(List.range j).map (f k)) (r:=r) (fun _ _ _ _ _=>rfl) (fun j r hj ih=>?_) ?_
  ·simpa using this
  ·simp only[Z33.l1_succ _ qaf]
   rw[List.range_succ,List.map_append,← List.append_assoc] at ih
   refine qax (decide_eq_true (by omega)) (qaa (hf k j hk hj) (qan (by simp[qas];omega) ?_))
   rw[qae (by omega)];exact ih
  ·simp only[Z33.l1_succ _ qaf]
   refine qaB (decide_eq_false (by omega)) ?_
   rw[qae (by omega)];exact ih
 ·simp only[Z33.l0_succ _ qaf]
  exact qaB (decide_eq_false (by omega)) qam
theorem qeb(p:Int)(R C:Nat)(f:Nat→Nat→Int)(hR:R≤1048576)(hC:C≤1048576)(hRC:R*C≤1048576)(hf:∀ i j:Nat,i<R→j<C→Ret E n_Z64 [⟨yI,(i:Int)⟩,⟨yI,(j:Int)⟩] ⟨o_Z64,(f i j,())⟩) :
  Ret E n_Z32 [⟨yI,p⟩,⟨yI,(R:Int)⟩,⟨yI,(C:Int)⟩,⟨(.fn n_Z64 .nil),()⟩] ⟨o_Z32,(p,(R:Int),(C:Int),qaq f C R,())⟩:=by
 refine qak ?_
 simp only[run_Z32,Z35.ev]
 refine Ev.start (p:=fun φ n=>Z35.l0 (mkR (run E (φ 0))) (φ 0) n (C:Int) (R:Int) 0 0 0 0 p (R:Int) (C:Int) []=_) 1 ?_ (fun _ _ _ h=>h)
 refine qao 1 (L:=fun φ n k a=>Z35.l0 (mkR (run E (φ 0))) (φ 0) n (C:Int) (R:Int) k 0 0 0 p (R:Int) (C:Int) a) (len:=R) (fun k=>qaq f C k) (fun _ _ _ _ _=>rfl) (fun k r hk ih=>?_) ?_
 ·simp only[Z35.l0_succ _ qaf]
  refine qax (decide_eq_true (by omega)) ?_
  refine Ev.start (p:=fun φ n=>Z35.l1 (mkR (run E (φ 0))) (φ 0) (φ 1) n (C:Int) (k:Int) (R:Int) (k:Int) (C:Int) 0 0 0 0 p (R:Int) (C:Int) (qaq f C k)=_) 2 ?_ (fun _ _ _ h=>h)
  have hle:(k+1)*C≤R*C:=Nat.mul_le_mul_right _ hk
  rw[Nat.add_mul] at hle
  have:=qao 2 (L:=fun φ n j a=>Z35.l1 (mkR (run E (φ 0))) (φ 0) (φ 1) n (C:Int) (k:Int) (R:Int) (k:Int) (C:Int) j 0 0 0 p (R:Int) (C:Int) a) (len:=C) (fun j=>qaq f C k++(List.range j).map (f k)) (r:=r) (fun _ _ _ _ _=>rfl) (fun j r hj ih=>?_) ?_
  ·simpa using this
  ·simp only[Z35.l1_succ _ qaf]
   rw[List.range_succ,List.map_append,← List.append_assoc] at ih
   refine qax (decide_eq_true (by omega)) (qaa (hf k j hk hj) (qan (by simp[qas];omega) ?_))
   rw[qae (by omega)];exact ih
  ·simp only[Z35.l1_succ _ qaf]
   refine qaB (decide_eq_false (by omega)) ?_
   rw[qae (by omega)];exact ih
 ·simp only[Z35.l0_succ _ qaf]
  exact qaB (decide_eq_false (by omega)) qam
end VeT
open Go Go.Proofs Ve
namespace VeT
abbrev cM:Ty:=.cons yI (.cons yI (.cons yI (.cons yL .nil)))
abbrev cC:Ty:=.cons yK .nil
abbrev cS:Ty:=.cons yK (.cons yI (.cons yL (.cons (.sl (.st cM)) .nil)))
abbrev Mat:=Int×Int×Int×List Int×Unit
abbrev Cpx:=List (List Int)×Unit
abbrev Shf:=List (List Int)×Int×List Int×List Mat×Unit
abbrev Sim:=List Int
abbrev dI(x:Int):Dv:=⟨.int .i64,x⟩
abbrev dL(x:List Int):Dv:=⟨.sl yI,x⟩
abbrev dLL(x:List (List Int)):Dv:=⟨.sl yL,x⟩
abbrev dC(x:Cpx):Dv:=⟨.ptr cC,x⟩
abbrev dM(x:Mat):Dv:=⟨.ptr cM,x⟩
abbrev dS(x:Shf):Dv:=⟨.ptr cS,x⟩
abbrev dMs(x:List Mat):Dv:=⟨.sl (.st cM),x⟩
theorem qdr(n lo hi:Int):Ret E n_Z65 [dI n,dI lo,dI hi] ⟨o_Z65,(pb (lo≤n∧n≤hi),())⟩:=by
 refine qak ?_
 simp only[run_Z65,Z65.ev]
 refine qec (fun h=>qaj ?_) fun h=>qaj ?_
 ·rw[qeU,qaN (show n≤hi↔lo≤n∧n≤hi by omega)]
 ·rw[qar (by omega)]
theorem qbR(n lo hi:Int):Ret E n_Z102 [dI n,dI lo,dI hi] ⟨o_Z102,(pb (lo≤n∧n≤hi),())⟩:=by
 refine qak ?_
 simp only[run_Z102,Z102.ev]
 refine qec (fun h=>qaj ?_) fun h=>qaj ?_
 ·rw[qeU,qaN (show n≤hi↔lo≤n∧n≤hi by omega)]
 ·rw[qar (by omega)]
theorem qlp(n:Int):Ret E n_Z45 [dI n] ⟨o_Z45,(pb (0≤n∧n≤9),())⟩:=by
 refine qak ?_
 simp only[run_Z45,Z45.ev]
 exact qaa (qdr _ _ _) qam
theorem qfK(n:Int):Ret E n_Z16 [dI n] ⟨o_Z16,(!pb (0≤n∧n≤9),())⟩:=by
 refine qak ?_
 simp only[run_Z16,Z16.ev]
 exact qaa (qlp _) qam
def qey(s:Sim):Prop:=∀ j,1≤j→j<s.length→s.getD (j-1) 0<s.getD j 0
theorem qgv(s:Sim)(hs:Sm yL s):Ret E n_Z43 [dL s] ⟨o_Z43,(pb (qey s),())⟩:=by
 have hs1:s.length≤1048576:=hs.1
 refine qak ?_
 simp only[run_Z43,Z43.ev]
 by_cases h0:s.length=0
 ·refine Ev.start (p:=fun φ n=>Z43.l0 (mkR (run E (φ 0))) (φ 0) n s 1=_) 1 ?_ (fun _ _ _ h=>h)
  refine qeQ 1 (σ:=Unit) (L:=fun φ n _=>Z43.l0 (mkR (run E (φ 0))) (φ 0) n s 1) (fun _ _ _ _=>rfl) (fun _=>True) (fun _=>_) (fun _=>0) (fun _ _ _=>?_) () trivial
  simp only[Z43.l0_succ _ qaf]
  refine qaB (decide_eq_false (by omega)) (qaj ?_)
  rw[qaL]
  intro j h1 h2;omega
 ·refine Ev.start (p:=fun φ n=>Z43.l0 (mkR (run E (φ 0))) (φ 0) n s 1=_) 1 ?_ (fun _ _ _ h=>h)
  refine qcY 1 (L:=fun φ n k=>Z43.l0 (mkR (run E (φ 0))) (φ 0) n s k) (len:=s.length) 1 (by omega) (fun j=>s.getD (j-1) 0<s.getD j 0) (fun b=>some ⟨o_Z43,(b,())⟩) (fun _ _ _ _=>rfl) (fun k h1 h2 hP _=>?_) (fun k r h1 h2 hP _ ih=>?_) (fun _=>?_)
  ·simp only[Z43.l0_succ _ qaf]
   refine qax (decide_eq_true (by omega)) ?_
   rw[qag (by omega) (by omega),show((k:Int)-1)=((k-1:Nat):Int) by omega]
   refine qab (qai (by omega)) (qab (qai h2) (qax (decide_eq_true ?_) qam))
   simpa [List.getD_eq_getElem?_getD,h2,show k-1<s.length by omega] using hP
  ·simp only[Z43.l0_succ _ qaf]
   refine qax (decide_eq_true (by omega)) ?_
   rw[qag (by omega) (by omega),show((k:Int)-1)=((k-1:Nat):Int) by omega]
   refine qab (qai (by omega)) (qab (qai h2) (qaB (decide_eq_false ?_) ?_))
   ·simpa [List.getD_eq_getElem?_getD,h2,show k-1<s.length by omega] using hP
   ·rw[qae (by omega)];exact ih
  ·simp only[Z43.l0_succ _ qaf]
   exact qaB (decide_eq_false (by omega)) qam
end VeT
open Go Go.Proofs Ve
namespace VeT
def Vx(s:Sim):Prop:=1≤s.length∧s.length≤4∧qey s∧∀ x∈s,0≤x∧x≤9
theorem qd8(s:Sim)(hs:Sm yL s):Ret E n_Z15 [dL s] ⟨o_Z15,(pb (Vx s),())⟩:=by
 refine qak ?_
 simp only[run_Z15,Z15.ev]
 refine qec (fun h1=>qec (fun h2=>qaa (qgv s hs) (qb7 (fun h3=>qaa (qbe s _ hs.1 fun x _=>qfK x) (qaj ?_)) fun h3=>qaj ?_)) fun h2=>qaj ?_) fun h1=>qaj ?_
 ·have h3:=qaC.1 h3
  have:(!pb (∃ x∈s,(!pb (0≤x∧x≤9))=true))=pb (Vx s):=qfs (by
   simp only[Bool.not_eq_true',qa1]
   exact⟨fun h=>⟨by omega,by omega,h3,fun x hx=>Classical.byContradiction fun hn=>h ⟨x,hx,hn⟩⟩,fun h ⟨x,hx,hn⟩=>hn (h.2.2.2 x hx)⟩)
  rw[this]
 ·rw[qar fun h=>qa1.1 h3 h.2.2.1]
 ·rw[qar fun h=>h2 (by have:=h.2.1;omega)]
 ·rw[qar fun h=>h1 (by have:=h.1;omega)]
theorem qgJ(s:Sim)(lo hi:Int)(hs:Sm yL s):Ret E n_Z105 [dL s,dI lo,dI hi] ⟨o_Z105,(pb (qey s∧∀ x∈s,lo≤x∧x≤hi),())⟩:=by
 have hs1:s.length≤1048576:=hs.1
 refine qak ?_
 simp only[run_Z105,Z105.ev]
 refine Ev.start (p:=fun φ n=>Z105.l0 (mkR (run E (φ 0))) (φ 0) n s lo hi 0=_) 1 ?_ (fun _ _ _ h=>h)
 refine(qcY 1 (L:=fun φ n k=>Z105.l0 (mkR (run E (φ 0))) (φ 0) n s lo hi k) (len:=s.length) 0 (by omega) (fun j=>(lo≤s.getD j 0∧s.getD j 0≤hi)∧(1≤j→s.getD (j-1) 0<s.getD j 0)) (fun b=>some ⟨o_Z105,(b,())⟩) (fun _ _ _ _=>rfl) (fun k h1 h2 hP _=>?_) (fun k r h1 h2 hP _ ih=>?_) (fun _=>?_)).to ?_
 ·simp only[Z105.l0_succ _ qaf]
  refine qax (decide_eq_true (by omega)) (qab (qai h2) (qaa (qbR _ _ _) ?_))
  have e:s.getD k 0=s[k]:=by simp[List.getD_eq_getElem?_getD,h2]
  rw[e] at hP
  refine qb7 (fun _=>?_) (fun hin=>?_)
  ·simp only[Z105.j1_eq _ qaf,cond_true];(first | exact qam | exact Ev.of fun _=>trivial)
  ·have hin:lo≤s[k]∧s[k]≤hi:=qaC.1 (by simpa using hin)
   have hk:1≤k:=Classical.byContradiction fun h=>hP ⟨hin,fun h'=>absurd h' h⟩
   refine qax (decide_eq_true (by omega)) ?_
   rw[qag (by omega) (by omega),show((k:Int)-1)=((k-1:Nat):Int) by omega]
   refine qab (qai (by omega)) (qab (qai h2) ?_)
   have e':s.getD (k-1) 0=s[k-1]:=by simp[List.getD_eq_getElem?_getD,show k-1<s.length by omega]
   rw[e'] at hP
   have:decide (s[k-1]≥s[k])=true:=decide_eq_true (Classical.byContradiction fun h=>hP ⟨hin,fun _=>by omega⟩)
   simp only[this,Z105.j1_eq _ qaf,cond_true];(first | exact qam | exact Ev.of fun _=>trivial)
 ·simp only[Z105.l0_succ _ qaf]
  refine qax (decide_eq_true (by omega)) (qab (qai h2) (qaa (qbR _ _ _) ?_))
  have e:s.getD k 0=s[k]:=by simp[List.getD_eq_getElem?_getD,h2]
  rw[e] at hP
  refine qaB (by rw[qaL hP.1];rfl) ?_
  refine qec (fun hk=>?_) fun hk=>?_
  ·rw[qag (by omega) (by omega),show((k:Int)-1)=((k-1:Nat):Int) by omega]
   refine qab (qai (by omega)) (qab (qai h2) ?_)
   have e':s.getD (k-1) 0=s[k-1]:=by simp[List.getD_eq_getElem?_getD,show k-1<s.length by omega]
   rw[e'] at hP
   have:decide (s[k-1]≥s[k])=false:=decide_eq_false (by have:=hP.2 (by omega);omega)
   simp only[this,Z105.j1_eq _ qaf,cond_false]
   rw[qae (by omega)];exact ih
  ·simp only[Z105.j1_eq _ qaf,cond_false]
   rw[qae (by omega)];exact ih
 ·simp only[Z105.l0_succ _ qaf]
  exact qaB (decide_eq_false (by omega)) qam
 ·refine congrArg (fun b:Bool=>some (⟨o_Z105,(b,())⟩:Dv)) (qaN ⟨fun h=>⟨fun j h1 h2=>(h j (by omega) h2).2 h1,fun x hx=>?_⟩,fun⟨h1,h2⟩ j _ hj=>⟨?_,fun h3=>h1 j h3 hj⟩⟩)
  ·obtain⟨j,hj,rfl⟩:=List.mem_iff_getElem.1 hx
   simpa [List.getD_eq_getElem?_getD,hj] using (h j (by omega) hj).1
  ·simpa [List.getD_eq_getElem?_getD,hj] using h2 _ (List.getElem_mem hj)
theorem qeZ(s:Sim)(hs:Sm yL s):Ret E n_Z138 [dL s] ⟨o_Z138,(pb (Vx s),())⟩:=by
 refine qak ?_
 simp only[run_Z138,Z138.ev]
 refine qaa (qbR _ _ _) (qb7 (fun h1=>qaa (qgJ s _ _ hs) (qaj ?_)) fun h1=>qaj ?_)
 ·have h1:=qaC.1 h1
  exact congrArg (fun b:Bool=>some (⟨o_Z138,(b,())⟩:Dv)) (qaN ⟨fun h=>⟨by omega,by omega,h.1,h.2⟩,fun h=>⟨h.2.2.1,h.2.2.2⟩⟩)
 ·rw[qar fun h=>qa1.1 h1 ⟨by have:=h.1;omega,by have:=h.2.1;omega⟩]
def qjn(a b:Int):Int:=if a<b then -1 else if b<a then 1 else 0
def qeP:Sim→Sim→Int
 | [],[]=>0
 | [],_::_=>-1
 | _::_,[]=>1
 | x::xs,y::ys=>if x<y then -1 else if y<x then 1 else qeP xs ys
def qdS(a b:Sim):Int:=if qjn a.length b.length≠0 then qjn a.length b.length else qeP a b
theorem qep{a b:Int}:qjn a b=0↔a=b:=by unfold qjn;split<;>(try split)<;>omega
theorem qpz{a b:Int}:qjn b a=- qjn a b:=by unfold qjn;split<;>split<;>(try split)<;>omega
theorem qn5{a b:Int}:qjn a b<0↔a<b:=by unfold qjn;split<;>(try split)<;>omega
theorem qol:∀ {a b:Sim},qeP a b=0↔a=b
 | [],[]=>by simp[qeP]
 | [],_::_=>by simp[qeP]
 | _::_,[]=>by simp[qeP]
 | x::xs,y::ys=>by
  have:=@qol xs ys
  simp only[qeP,List.cons.injEq]
  split
  ·constructor
   ·intro h;omega
   ·rintro⟨rfl,_⟩;omega
  ·split
   ·constructor
    ·intro h;omega
    ·rintro⟨rfl,_⟩;omega
   ·rw[this];constructor
    ·intro h;exact⟨by omega,h⟩
    ·exact fun h=>h.2
theorem qmV:∀ {a b:Sim},qeP b a=- qeP a b
 | [],[]=>by simp[qeP]
 | [],_::_=>by simp[qeP]
 | _::_,[]=>by simp[qeP]
 | x::xs,y::ys=>by
  have:=@qmV xs ys
  simp only[qeP]
  split<;>split<;>(try split)<;>omega
theorem qiR:∀ {a b c:Sim},qeP a b<0→qeP b c<0→qeP a c<0
 | [],[],c,h,_=>by simp[qeP] at h
 | [],_::_,[],_,h=>by simp[qeP] at h
 | [],_::_,_::_,_,_=>by simp[qeP]
 | _::_,[],_,h,_=>by simp[qeP] at h
 | _::_,_::_,[],_,h=>by simp[qeP] at h
 | x::xs,y::ys,z::zs,h1,h2=>by
  have:=@qiR xs ys zs
  simp only[qeP] at h1 h2 ⊢
  split at h1<;>split at h2<;>(try split at h1)<;>(try split at h2)<;>(try split)<;>(try split)<;>first | omega | (exact this h1 h2)
theorem qb9{a b:Sim}:qdS a b=0↔a=b:=by
 unfold qdS
 split
 ·rename_i h
  exact⟨fun h'=>absurd h' h,fun h'=>absurd (qep.2 (by rw[h'])) h⟩
 ·exact qol
theorem qmC{a b:Sim}:qdS b a=- qdS a b:=by
 unfold qdS
 rw[@qpz a.length b.length]
 split<;>split<;>first | omega | exact qmV
theorem qe4{a b:Sim}:qdS a b<0↔a.length<b.length∨a.length=b.length∧qeP a b<0:=by
 unfold qdS
 split
 ·rename_i h
  rw[qn5]
  rw[Ne,qep] at h
  omega
 ·rename_i h
  rw[Classical.not_not,qep] at h
  omega
theorem qgr{a b c:Sim}(h1:qdS a b<0)(h2:qdS b c<0):qdS a c<0:=by
 rw[qe4] at *
 rcases h1 with h1 | ⟨h1,h1'⟩<;>rcases h2 with h2 | ⟨h2,h2'⟩
 ·left;omega
 ·left;omega
 ·left;omega
 ·right;exact⟨by omega,qiR h1' h2'⟩
theorem qi9(a:Int):Ret E n_Z3 [dI a] ⟨o_Z3,(false,())⟩:=by
 refine qak ?_
 simp only[run_Z3,Z3.ev]
 exact qaj (by simp)
theorem qkP(a:Int):Ret E n_Z4 [dI a] ⟨o_Z4,(false,())⟩:=by
 refine qak ?_
 simp only[run_Z4,Z4.ev]
 exact qaj (by simp)
theorem qla(a b:Int):Ret E n_Z0 [dI a,dI b] ⟨o_Z0,(qjn a b,())⟩:=by
 refine qak ?_
 simp only[run_Z0,Z0.ev]
 refine qaa (qi9 _) (qaa (qi9 _) (qaB rfl (qaB rfl (qec (fun h=>qaj ?_) fun h=>qec (fun h2=>qaj ?_) fun h2=>qaj ?_))))
 ·rw[qjn,if_pos h]
 ·rw[qjn,if_neg h,if_pos h2]
 ·rw[qjn,if_neg h,if_neg h2]
theorem ql0(a b:Int):Ret E n_Z1 [dI a,dI b] ⟨o_Z1,(qjn a b,())⟩:=by
 refine qak ?_
 simp only[run_Z1,Z1.ev]
 refine qaa (qkP _) (qaa (qkP _) (qaB rfl (qaB rfl (qec (fun h=>qaj ?_) fun h=>qec (fun h2=>qaj ?_) fun h2=>qaj ?_))))
 ·rw[qjn,if_pos h]
 ·rw[qjn,if_neg h,if_pos h2]
 ·rw[qjn,if_neg h,if_neg h2]
theorem qia{a b:Sim}{k:Nat}(h:k<a.length)(h':k<b.length):qeP (a.drop k) (b.drop k)=if qjn a[k] b[k]≠0 then qjn a[k] b[k] else qeP (a.drop (k+1)) (b.drop (k+1)):=by
 rw[List.drop_eq_getElem_cons h,List.drop_eq_getElem_cons h',qeP]
 unfold qjn
 split
 ·simp
 ·split
  ·simp
  ·simp
theorem qgZ(a b:Sim)(ha:Sm yL a):Ret E n_Z73 [dL a,dL b] ⟨o_Z73,(qeP a b,())⟩:=by
 have ha1:a.length≤1048576:=ha.1
 refine qak ?_
 simp only[run_Z73,Z73.ev]
 refine Ev.start (p:=fun φ n=>Z73.l0 (mkR (run E (φ 0))) (φ 0) n a b a (a.length:Int) 0=_) 1 ?_ (fun _ _ _ h=>h)
 refine qeQ 1 (σ:=Nat) (L:=fun φ n k=>Z73.l0 (mkR (run E (φ 0))) (φ 0) n a b a (a.length:Int) (k:Int)) (fun _ _ _ _=>rfl) (fun k=>k≤a.length∧k≤b.length) (fun k=>some ⟨o_Z73,(qeP (a.drop k) (b.drop k),())⟩) (fun k=>a.length-k) (fun k ⟨hk,hkb⟩ ih=>?_) 0 ⟨Nat.zero_le _,Nat.zero_le _⟩
 simp only[Z73.l0_succ _ qaf]
 refine qec (fun h=>?_) fun h=>?_
 ·have hka:k<a.length:=by omega
  refine qab (qai hka) (qec (fun h2=>qaj ?_) fun h2=>?_)
  ·rw[List.drop_eq_getElem_cons hka,List.drop_of_length_le (l:=b) (by omega),qeP]
  ·have hkb:k<b.length:=by omega
   refine qab (qai hkb) (qaa (ql0 _ _) (qb7 (fun h3=>qaj ?_) fun h3=>?_))
   ·rw[qia hka hkb,if_pos (by simpa using h3)]
   ·rw[qae (by omega)]
    refine(ih (k+1) ⟨by omega,by omega⟩ (by omega)).to ?_
    rw[qia hka hkb,if_neg (by simpa using h3)]
 ·have e:k=a.length:=by omega
  subst e
  refine qec (fun h2=>qaj ?_) fun h2=>qaj ?_
  ·rw[List.drop_of_length_le (l:=a) (by omega),List.drop_eq_getElem_cons (l:=b) (by omega),qeP]
  ·rw[List.drop_of_length_le (l:=a) (by omega),List.drop_of_length_le (l:=b) (by omega),qeP]
theorem qqg(a b:Int):Ret E n_Z2 [dL [a,b]] ⟨o_Z2,(if a≠0 then a else b,())⟩:=by
 refine qak ?_
 simp only[run_Z2,Z2.ev]
 refine Ev.start (p:=fun φ n=>Z2.l0 (mkR (run E (φ 0))) (φ 0) n 0 [a,b] ([a,b].length:Int) 0=_) 1 ?_ (fun _ _ _ h=>h)
 refine Ev.round 1 (L:=fun φ n=>Z2.l0 (mkR (run E (φ 0))) (φ 0) n 0 [a,b] ([a,b].length:Int) 0) ?_ (fun _ _ _=>rfl)
 simp only[Z2.l0_succ _ qaf]
 refine qax (by simp) (qab (x:=a) rfl (qb7 (fun h=>qaj ?_) fun h=>?_))
 ·rw[if_pos (by simpa using h)]
 ·rw[if_neg (by simpa using h)]
  rw[show w64 ((0:Int)+1)=1 by decide]
  refine Ev.round 1 (L:=fun φ n=>Z2.l0 (mkR (run E (φ 0))) (φ 0) n 0 [a,b] ([a,b].length:Int) 1) ?_ (fun _ _ _=>rfl)
  simp only[Z2.l0_succ _ qaf]
  refine qax (by simp) (qab (x:=b) rfl (qb7 (fun h=>qam) fun h=>?_))
  rw[show w64 ((1:Int)+1)=2 by decide]
  refine Ev.round 1 (L:=fun φ n=>Z2.l0 (mkR (run E (φ 0))) (φ 0) n 0 [a,b] ([a,b].length:Int) 2) ?_ (fun _ _ _=>rfl)
  simp only[Z2.l0_succ _ qaf]
  refine qaB (by simp) (qaj ?_)
  have:b=0:=by simpa using h
  rw[this]
theorem qbo(a b:Sim)(ha:Sm yL a):Ret E n_Z25 [dL a,dL b] ⟨o_Z25,(qdS a b,())⟩:=by
 refine qak ?_
 simp only[run_Z25,Z25.ev]
 exact qaa (qla _ _) (qaa (qgZ a b ha) (qaa (qqg _ _) qam))
theorem qcE(a b:Sim)(ha:Sm yL a):Ret E n_Z128 [dL a,dL b] ⟨o_Z128,(pb (qdS a b<0),())⟩:=by
  have ha1:a.length≤1048576:=ha.1
  refine qak ?_
  simp only[run_Z128,Z128.ev]
  refine qb7 (fun h=>qaj ?_) fun h=>?_
  · have h:(a.length:Int)≠b.length:=by simpa using h
    rw[qeU,qaN (show(a.length:Int)<b.length↔qdS a b<0 by rw[qe4];omega)]
  · have h : a.length = b.length := by have : (a.length : Int) = b.length := by simpa using h
                                       omega
    refine Ev.start (p:=fun φ n=>Z128.l0 (mkR (run E (φ 0))) (φ 0) n a b 0=_) 1 ?_ (fun _ _ _ h=>h)
    refine(qeQ 1 (σ:=Nat) (L:=fun φ n k=>Z128.l0 (mkR (run E (φ 0))) (φ 0) n a b (k:Int)) (fun _ _ _ _=>rfl) (fun k=>k≤a.length) (fun k=>some ⟨o_Z128,(pb (qeP (a.drop k) (b.drop k)<0),())⟩) (fun k=>a.length-k) (fun k hk ih=>?_) 0 (Nat.zero_le _)).to ?_
    · simp only[Z128.l0_succ _ qaf]
      refine qec (fun h1=>?_) fun h1=>?_
      · have hka:k<a.length:=by omega
        have hkb:k<b.length:=by omega
        have e:=qia hka hkb
        refine qab (qai hka) (qab (qai hkb) (qb7 (fun h3=>?_) fun h3=>?_))
        · refine qab (qai hka) (qab (qai hkb) (qaj ?_))
          have h3:a[k]≠b[k]:=by simpa using h3
          rw[if_pos (by rw[Ne,qep];exact h3)] at e
          rw[e,qeU,qaN qn5]
        · have h3:a[k]=b[k]:=by simpa using h3
          rw[if_neg (by rw[Classical.not_not,qep];exact h3)] at e
          rw[qae (by omega),e]
          exact ih (k+1) (by show k+1≤_;omega) (by show a.length-(k+1)<_;omega)
      · refine qaj ?_
        have hk:k≤a.length:=hk
        have e:k=a.length:=by omega
        subst e
        rw[List.drop_of_length_le (l:=a) (by omega),List.drop_of_length_le (l:=b) (by omega),qeP,qar (by omega)]
    · refine congrArg (fun b:Bool=>some (⟨o_Z128,(b,())⟩:Dv)) (qaN ?_)
      simp only[List.drop_zero];rw[qe4];omega
end VeT
open Go Go.Proofs Ve
namespace VeT
theorem qad{α:Type}{s:List α}{k:Nat}{d:α}(h:k<s.length):s.getD k d=s[k]:=by simp[List.getD_eq_getElem?_getD,h]
theorem qbl{t:Ty}{s:List t.T}(h:Sm (.sl t) s){k:Nat}(hk:k<s.length):Sm t s[k]:=h.2 _ (List.getElem_mem hk)
theorem qrA{s:Sim}(h:s.length≤1048576):Sm yL s:=⟨h,fun _ _=>trivial⟩
theorem qcL(s:Sim)(hs:s.length≤1048576):Ret E n_Z103 [dL s] ⟨o_Z103,(s,())⟩:=by
 refine qak ?_
 simp only[run_Z103,Z103.ev]
 exact qan (by simp;omega) (qaj rfl)
theorem qd1(s:Sim)(k:Nat)(hk:k<s.length)(hs:s.length≤1048576):Ret E n_Z131 [dL s,dI (k:Int)] ⟨o_Z131,(s.eraseIdx k,())⟩:=by
 refine qak ?_
 simp only[run_Z131,Z131.ev]
 rw[qae (by omega)]
 simp only[Int.toNat_natCast]
 refine qan (by simp;omega) (qaa (qcL _ (by simp;omega)) (qan (by simp;omega) (qan (by simp;omega) (qaj ?_))))
 rw[List.eraseIdx_eq_take_drop_succ]
theorem qee(a b:Sim)(ha:a.length≤1048576):Ret E n_Z106 [dL a,dL b] ⟨o_Z106,(pb (a=b),())⟩:=by
 refine qak ?_
 simp only[run_Z106,Z106.ev]
 refine qb7 (fun h=>qaj ?_) fun h=>?_
 ·have h:(a.length:Int)≠b.length:=by simpa using h
  rw[qar fun e=>h (by rw[e])]
 ·have h:(a.length:Int)=b.length:=by simpa using h
  refine Ev.start (p:=fun φ n=>Z106.l0 (mkR (run E (φ 0))) (φ 0) n a b 0=_) 1 ?_ (fun _ _ _ h=>h)
  refine(qcY 1 (L:=fun φ n k=>Z106.l0 (mkR (run E (φ 0))) (φ 0) n a b k) (len:=a.length) 0 (by omega) (fun j=>a.getD j 0=b.getD j 0) (fun b=>some ⟨o_Z106,(b,())⟩) (fun _ _ _ _=>rfl) (fun k h1 h2 hP _=>?_) (fun k r h1 h2 hP _ ih=>?_) (fun _=>?_)).to ?_
  ·simp only[Z106.l0_succ _ qaf]
   have hb:k<b.length:=by omega
   rw[qad h2,qad hb] at hP
   exact qax (decide_eq_true (by omega)) (qab (qai h2) (qab (qai hb) (qax (by simpa using hP) qam)))
  ·simp only[Z106.l0_succ _ qaf]
   have hb:k<b.length:=by omega
   rw[qad h2,qad hb] at hP
   refine qax (decide_eq_true (by omega)) (qab (qai h2) (qab (qai hb) (qaB (by simpa using hP) ?_)))
   rw[qae (by omega)];exact ih
  ·simp only[Z106.l0_succ _ qaf]
   exact qaB (decide_eq_false (by omega)) qam
  ·refine congrArg (fun b:Bool=>some (⟨o_Z106,(b,())⟩:Dv)) (qaN ⟨fun hh=>List.ext_getElem (by omega) fun j h1 h2=>?_,fun hh j _ _=>by rw[hh]⟩)
   have:=hh j (by omega) h1
   rwa [qad h1,qad h2] at this
noncomputable def qdn(c:List Sim)(s:Sim):Int:=qiQ (fun x=>pb (x=s)) c
theorem qa6{c:List Sim}{s:Sim}:0≤qdn c s↔s∈c:=by
 unfold qdn
 rw[qbX]
 simp only[qaC]
 exact⟨fun⟨x,h,e⟩=>e ▸ h,fun h=>⟨s,h,rfl⟩⟩
theorem qbY(c:Cpx)(s:Sim)(hc:Sm yK c.1):Ret E n_Z133 [dC c,dL s] ⟨o_Z133,(qdn c.1 s,())⟩:=by
  have hc1:c.1.length≤1048576:=hc.1
  obtain⟨o,h1,h2,h3⟩:=qbS 1 (L:=fun φ n k=>Z133.l0 (mkR (run E (φ 0))) (φ 0) n c s k) (len:=c.1.length) (fun k=>∃ h:k<c.1.length,pb (c.1[k]=s)=true) (fun o=>some ⟨o_Z133,(o2i o,())⟩) (fun _ _ _ _=>rfl) (fun k hk hP=>by
      obtain⟨_,hP⟩:=hP
      simp only[Z133.l0_succ _ qaf]
      refine qax (decide_eq_true (by omega)) (qab (qai hk) (qaa (qee _ _ (qbl hc hk).1) (qax hP qam)))) (fun k q hk hP ih=>by
      simp only[Z133.l0_succ _ qaf]
      refine qax (decide_eq_true (by omega)) (qab (qai hk) (qaa (qee _ _ (qbl hc hk).1) (qaB (Bool.eq_false_iff.2 fun h=>hP ⟨hk,h⟩) ?_)))
      rw[qae (by omega)];exact ih) (by
      simp only[Z133.l0_succ _ qaf]
      exact qaB (decide_eq_false (by omega)) qam)
  rw[qdk (p:=fun x=>pb (x=s)) h1 h2] at h3
  refine qak ?_
  simp only[run_Z133,Z133.ev]
  exact Ev.start (p:=fun φ n=>Z133.l0 (mkR (run E (φ 0))) (φ 0) n c s 0=_) 1 h3 (fun _ _ _ h=>h)
theorem qpI(n:Nat)(args:List Dv):run E (n+1) n_Z84 args=qnb yI (mkR (run E n)) args:=rfl
theorem qpj(s:Sim)(n:Int)(h0:0≤n)(h1:n≤1048576)(hs:s.length≤1048576):Ret E n_Z84 [dL s,dI n] ⟨o_Z84,(s,())⟩:=by
 refine qak ?_
 simp only[qpI]
 refine qaj ((if_pos (show 0≤n∧((List.length s:Int)+n)*(64*(Ty.size (Ty.int IntKind.i64):Int))≤70368744177664 from⟨h0,?_⟩)).trans rfl)
 have:(Ty.size (Ty.int IntKind.i64))=1:=rfl
 rw[this];omega
theorem qjb(ll:List Sim)(hl:ll.length≤1048576)(hf:ll.flatten.length≤1048576):Ret E n_Z74 [dLL ll] ⟨o_Z74,(ll.flatten,())⟩:=by
 have hle:∀ k,(ll.take k).flatten.length≤ll.flatten.length:=fun k=>by
  have:=congrArg List.length (congrArg List.flatten (List.take_append_drop k ll))
  rw[List.flatten_append,List.length_append] at this;omega
 have hst:∀ k (h:k<ll.length),(ll.take (k+1)).flatten=(ll.take k).flatten++ll[k]:=fun k h=>by
  rw[List.take_succ_eq_append_getElem h,List.flatten_append];simp
 refine qak ?_
 simp only[run_Z74,Z74.ev]
 refine Ev.start (p:=fun φ n=>Z74.l0 (mkR (run E (φ 0))) (φ 0) n ll 0 ll (ll.length:Int) 0=_) 1 ?_ (fun _ _ _ h=>h)
 refine qao 1 (L:=fun φ n k a=>Z74.l0 (mkR (run E (φ 0))) (φ 0) n ll a ll (ll.length:Int) k) (len:=ll.length) (fun k=>(((ll.take k).flatten.length:Nat):Int)) (fun _ _ _ _ _=>rfl) (fun k r hk ih=>?_) ?_
 ·simp only[Z74.l0_succ _ qaf]
  have:=hle (k+1)
  have e:=hst k hk
  have e2:w64 (((ll.take k).flatten.length:Nat)+(List.length (ll[k]):Int))=(((ll.take (k+1)).flatten.length:Nat):Int):=by
   rw[qag (by omega) (by rw[e,List.length_append] at this;omega),e,List.length_append];omega
  refine qax (decide_eq_true (by omega)) (qab (qai hk) ?_)
  show Ev fun φ=>(bif decide (w64 (((ll.take k).flatten.length:Nat)+(List.length (ll[k]):Int))<0) then none else Z74.l0 (mkR (run E (φ 0))) (φ 0) (φ 1) ll (w64 (((ll.take k).flatten.length:Nat)+(List.length (ll[k]):Int))) ll (ll.length:Int) (w64 ((k:Int)+1)))=r
  rw[e2,qae (by omega)]
  exact qaB (decide_eq_false (by omega)) ih
 ·simp only[Z74.l0_succ _ qaf]
  refine qaB (decide_eq_false (by omega)) (qaa (qpj [] _ (by omega) (by have:=hle ll.length;omega) (by simp)) ?_)
  refine Ev.start (p:=fun φ n=>Z74.l1 (mkR (run E (φ 0))) (φ 0) n ll (ll.length:Int) 0 []=_) 2 ?_ (fun _ _ _ h=>h)
  refine qao 2 (L:=fun φ n k a=>Z74.l1 (mkR (run E (φ 0))) (φ 0) n ll (ll.length:Int) k a) (len:=ll.length) (fun k=>(ll.take k).flatten) (fun _ _ _ _ _=>rfl) (fun k r hk ih=>?_) ?_
  ·simp only[Z74.l1_succ _ qaf]
   have:=hle (k+1)
   have e:=hst k hk
   rw[e] at ih this
   rw[List.length_append] at this
   refine qax (decide_eq_true (by omega)) (qab (qai hk) (qan (decide_eq_true (by show(_+List.length ll[k])*8≤_;omega)) ?_))
   rw[qae (by omega)]
   exact ih
  ·simp only[Z74.l1_succ _ qaf]
   refine qaB (decide_eq_false (by omega)) (qaj ?_)
   rw[List.take_of_length_le (Nat.le_refl _)]
def qch(s:Sim):List Sim:=if 1<s.length then(List.range s.length).map (s.eraseIdx ·) else []
theorem qcw{s f:Sim}:f∈qch s↔1<s.length∧∃ i,i<s.length∧f=s.eraseIdx i:=by
 unfold qch
 split
 ·rename_i h
  simp only[List.mem_map,List.mem_range,h,true_and]
  exact⟨fun⟨i,h1,h2⟩=>⟨i,h1,h2.symm⟩,fun⟨i,h1,h2⟩=>⟨i,h1,h2.symm⟩⟩
 ·rename_i h
  simp[h]
theorem qom{s f:Sim}(h:f∈qch s):f.length+1=s.length:=by
 obtain⟨h1,i,h2,rfl⟩:=qcw.1 h
 rw[List.length_eraseIdx,if_pos h2];omega
theorem qgI{s:Sim}:(qch s).length≤s.length:=by
 unfold qch;split<;>simp
theorem qfj(s:Sim)(hs:s.length≤1048576):Ret E n_Z31 [dL s] ⟨o_Z31,(qch s,())⟩:=by
 refine qak ?_
 simp only[run_Z31,Z31.ev]
 refine Ev.start (p:=fun φ n=>Z31.l0 (mkR (run E (φ 0))) (φ 0) n s (s.length:Int) 0 []=_) 1 ?_ (fun _ _ _ h=>h)
 by_cases h1:1<s.length
 ·refine qao 1 (L:=fun φ n k a=>Z31.l0 (mkR (run E (φ 0))) (φ 0) n s (s.length:Int) k a) (len:=s.length) (fun k=>(List.range k).map (s.eraseIdx ·)) (fun _ _ _ _ _=>rfl) (fun k r hk ih=>?_) ?_
  ·simp only[Z31.l0_succ _ qaf]
   rw[List.range_succ,List.map_append] at ih
   rw[qae (by omega)]
   simp only[Int.toNat_natCast]
   refine qax (decide_eq_true (by omega)) (qax (decide_eq_true (by omega)) (qan (by simp;omega) (qan (by simp;omega) (qaa (qjb _ (by simp) (by simp;omega)) (qan (by simp;omega) ?_)))))
   rw[show [s.take k,s.drop (k+1)].flatten=s.eraseIdx k by simp[List.eraseIdx_eq_take_drop_succ]]
   exact ih
  ·simp only[Z31.l0_succ _ qaf]
   exact qaB (decide_eq_false (by omega)) (qaj (by rw[qch,if_pos h1]))
 ·refine qao 1 (L:=fun φ n k a=>Z31.l0 (mkR (run E (φ 0))) (φ 0) n s (s.length:Int) k a) (len:=s.length) (fun k=>[]) (fun _ _ _ _ _=>rfl) (fun k r hk ih=>?_) ?_
  ·simp only[Z31.l0_succ _ qaf]
   rw[qae (by omega)]
   exact qax (decide_eq_true (by omega)) (qaB (decide_eq_false (by omega)) ih)
  ·simp only[Z31.l0_succ _ qaf]
   exact qaB (decide_eq_false (by omega)) (qaj (by rw[qch,if_neg h1]))
def Srt(c:List Sim):Prop:=∀ i j (h:j<c.length) (hij:i<j),qdS c[i] c[j]<0
theorem qp6{c:List Sim}(h:∀ k,1≤k→k<c.length→qdS (c.getD (k-1) []) (c.getD k [])<0):Srt c:=by
 intro i j
 induction j with
 | zero=>intro _ h;omega
 | succ j ih =>
  intro hj hij
  have:=h (j+1) (by omega) hj
  rw[Nat.add_sub_cancel,qad (by omega),qad hj] at this
  by_cases e:i=j
  ·subst e;exact this
  ·exact qgr (ih (by omega) (by omega)) this
theorem Srt.take{c:List Sim}(h:Srt c)(k:Nat):Srt (c.take k):=by
 intro i j hj hij
 rw[List.getElem_take,List.getElem_take]
 exact h i j (by rw[List.length_take] at hj;omega) hij
def bs(c:List Sim)(s:Sim):Nat:=c.findIdx (fun x=>!decide (qdS x s<0))
theorem qq3{c:List Sim}{s:Sim}:bs c s≤c.length:=List.findIdx_le_length
theorem qjt{c:List Sim}{s:Sim}(hc:Srt c){t:Nat}(h:t<c.length):t<bs c s↔qdS c[t] s<0:=by
 constructor
 ·intro ht
  have:=List.not_of_lt_findIdx ht
  simpa using this
 ·intro ht
  refine Classical.byContradiction fun hn=>?_
  have hb:bs c s<c.length:=by omega
  have h1:qdS c[bs c s] s<0:=by
   by_cases e:bs c s=t
   ·simp only[e];exact ht
   ·exact qgr (hc _ _ h (by omega)) ht
  have:=List.findIdx_getElem (w:=hb)
  simp only[Bool.not_eq_true',decide_eq_false_iff_not] at this
  exact this h1
theorem qoW{c:List Sim}{s:Sim}(hc:Srt c):qdn c s=if h:bs c s<c.length∧c.getD (bs c s) []=s then(bs c s:Int) else -1:=by
 have e:c.findIdx? (fun x=>pb (x=s))=if bs c s<c.length∧c.getD (bs c s) []=s then some (bs c s) else none:=by
  split
  ·rename_i h
   obtain⟨h1,h2⟩:=h
   rw[List.findIdx?_eq_some_iff_getElem]
   rw[qad h1] at h2
   refine⟨h1,qaL h2,fun j hj=>?_⟩
   rw[qaC]
   intro he
   have:=(qjt (s:=s) hc (show j<c.length by omega)).1 hj
   rw[he,qb9.2 rfl] at this
   omega
  ·rename_i h
   rw[List.findIdx?_eq_none_iff]
   intro x hx
   rw[qa1]
   rintro rfl
   obtain⟨j,hj,rfl⟩:=List.mem_iff_getElem.1 hx
   have h0:¬ j<bs c c[j]:=fun hlt=>by
    have:=(qjt hc hj).1 hlt
    rw[qb9.2 rfl] at this;omega
   by_cases hjb:bs c c[j]=j
   ·exact h ⟨by omega,by rw[hjb,qad hj]⟩
   ·have hb:bs c c[j]<c.length:=by omega
    have:=(qjt (s:=c[j]) hc hb).2 (hc _ _ hj (by omega))
    omega
 unfold qdn qiQ
 rw[e]
 split<;>rfl
theorem qgV(c:List Sim)(s:Sim)(hc:Sm yK c)(hs:Srt c):Ret E n_Z70 [dLL c,dL s,⟨.fn n_Z25 .nil,()⟩] ⟨o_Z70,((bs c s:Int),pb (bs c s<c.length∧c.getD (bs c s) []=s),())⟩:=by
 have hc1:c.length≤1048576:=hc.1
 refine qak ?_
 simp only[run_Z70,Z71.ev]
 refine Ev.start (p:=fun φ n=>Z71.l0 (mkR (run E (φ 0))) (φ 0) n c s (c.length:Int) 0 (c.length:Int)=_) 1 ?_ (fun _ _ _ h=>h)
 refine qeQ 1 (σ:=Nat×Nat) (L:=fun φ n st=>Z71.l0 (mkR (run E (φ 0))) (φ 0) n c s (c.length:Int) (st.1:Int) (st.2:Int)) (fun _ _ _ _=>rfl) (fun st=>st.1≤bs c s∧bs c s≤st.2∧st.2≤c.length) (fun _=>_) (fun st=>st.2-st.1) (fun st hi ih=>?_) (0,c.length) ⟨Nat.zero_le _,qq3,Nat.le_refl _⟩
 obtain⟨i,j⟩:=st
 obtain⟨h1,h2,h3⟩:=hi
 simp only at h1 h2 h3 ih
 simp only[Z71.l0_succ _ qaf]
 rw[qrT (by omega)]
 refine qec (fun hij=>?_) fun hij=>?_
 ·have hh:(i+j) / 2<c.length:=by omega
  refine qan (by decide) (qab (qai hh) (qaa (qbo _ _ (qbl hc hh)) (qec (fun hlt=>?_) fun hlt=>?_)))
  ·rw[qae (by omega)]
   have:=(qjt hs hh).2 hlt
   exact ih ((i+j) / 2+1,j) ⟨this,h2,h3⟩ (by simp only;omega)
  ·have:¬ (i+j) / 2<bs c s:=fun h=>hlt ((qjt hs hh).1 h)
   exact ih (i,(i+j) / 2) ⟨h1,by simp only;omega,by simp only;omega⟩ (by simp only;omega)
 ·have e:i=bs c s:=by omega
  subst e
  refine qec (fun hl=>?_) fun hl=>qaj ?_
  ·have hh:bs c s<c.length:=by omega
   refine qab (qai hh) (qaa (qbo _ _ (qbl hc hh)) (qaj ?_))
   have:(qdS c[bs c s] s==0)=pb (bs c s<c.length∧c.getD (bs c s) []=s):=qfs (by
    rw[qad hh,beq_iff_eq,qb9];exact⟨fun h=>⟨hh,h⟩,fun h=>h.2⟩)
   rw[this]
  ·rw[qar fun h=>hl (by omega)]
theorem qhM(c:List Sim)(s:Sim)(hc:Sm yK c)(hs:Srt c):Ret E n_Z37 [dLL c,dL s] ⟨o_Z37,(qdn c s,())⟩:=by
 refine qak ?_
 simp only[run_Z37,Z37.ev]
 refine qaa (qgV c s hc hs) (qb7 (fun h=>qaj ?_) fun h=>qaj ?_)
 ·rw[qoW hs,dif_neg (qa1.1 (by simpa using h))]
 ·rw[qoW hs,dif_pos (qaC.1 (by simpa using h))]
end VeT
open Go Go.Proofs Ve
namespace VeT
def VC(c:List Sim):Prop:=c.length≤48∧(∀ k,k<c.length→Vx (c.getD k []))∧(∀ k,1≤k→k<c.length→qdS (c.getD (k-1) []) (c.getD k [])<0)∧∀ k,k<c.length→∀ f∈qch (c.getD k []),f∈c
theorem VC.srt{c:List Sim}(h:VC c):Srt c:=qp6 h.2.2.1
def qlh(c:List Sim)(k:Nat):Prop:=(Vx (c.getD k [])∧(1≤k→qdS (c.getD (k-1) []) (c.getD k [])<0))∧∀ f∈qch (c.getD k []),f∈c.take k
theorem qqK{c:List Sim}:((∀ k,0≤k→k<c.length→qlh c k)∧c.length≤48)↔VC c:=by
 constructor
 ·rintro⟨h,hl⟩
  exact⟨hl,fun k hk=>(h k (by omega) hk).1.1,fun k h1 hk=>(h k (by omega) hk).1.2 h1,fun k hk f hf=>List.mem_of_mem_take ((h k (by omega) hk).2 f hf)⟩
 ·intro h
  have hs:=h.srt
  obtain⟨hl,h1,h2,h3⟩:=h
  refine⟨fun k _ hk=>⟨⟨h1 k hk,fun hk1=>h2 k hk1 hk⟩,fun f hf=>?_⟩,hl⟩
  have hm:=h3 k hk f hf
  have hlen:=qom hf
  rw[qad hk] at hlen
  obtain⟨i,hi,rfl⟩:=List.mem_iff_getElem.1 hm
  have hlt:qdS c[i] c[k]<0:=qe4.2 (.inl (by omega))
  have hik:i<k:=Classical.byContradiction fun hn=>by
   by_cases e:i=k
   ·subst e;omega
   ·have:=hs k i hi (by omega)
    rw[qmC] at this;omega
  exact List.mem_iff_getElem.2 ⟨i,by rw[List.length_take];omega,by rw[List.getElem_take]⟩
theorem qqv{t:Ty}{s:List t.T}(h:Sm (.sl t) s)(k:Nat):Sm (.sl t) (s.take k):=⟨by have h1:s.length≤1048576:=h.1;show(s.take k).length≤_;rw[List.length_take];omega,fun x hx=>h.2 x (List.mem_of_mem_take hx)⟩
theorem qfG(c:List Sim)(f:Sim)(k:Nat)(hk:k≤c.length)(hc:Sm yK c)(hs:Srt (c.take k)) :
  Ret E n_Z11 [dL f,dC (c,()),⟨.ptr (.cons yI .nil),((k:Int),())⟩] ⟨o_Z11,(pb (¬ f∈c.take k),())⟩:=by
 refine qak ?_
 simp only[run_Z11,Z11.ev]
 simp only[Int.toNat_natCast]
 refine qan (by simp;omega) (qaa (qhM _ f (qqv hc k) hs) (qaj ?_))
 simp only[qeU,qaN (show qdn (c.take k) f<0↔¬ f∈c.take k by rw[← qa6];omega)]
theorem qgW(c:List Sim)(hc:Sm yK c):Ret E n_Z10 [dLL c] ⟨o_Z10,(pb (VC c),())⟩:=by
  have hc1:c.length≤1048576:=hc.1
  refine qak ?_
  simp only[run_Z10,Z10.ev]
  refine Ev.start (p:=fun φ n=>Z10.l0 (mkR (run E (φ 0))) (φ 0) n c (c.length:Int) 0 c=_) 1 ?_ (fun _ _ _ h=>h)
  have key:∀(n:Nat) (k:Nat) (hk:k<c.length) (hpre:∀ j,0≤j→j<k→qlh c j),Srt (c.take k):=fun n k hk hpre=>qp6 fun j h1 h2=>by
    rw[List.length_take] at h2
    have:=(hpre j (by omega) (by omega)).1.2 h1
    rw[qad (by omega),qad (by omega)] at this
    rw[qad (by rw[List.length_take];omega),qad (by rw[List.length_take];omega),List.getElem_take,List.getElem_take]
    exact this
  have hcon:∀(k:Nat) (hk:k<c.length) (hpre:∀ j,0≤j→j<k→qlh c j),Ret E n_Z75 [dLL (qch c[k]),⟨.fn n_Z11 (.cons (.ptr (.cons yK .nil)) (.cons (.ptr (.cons yI .nil)) .nil)),((c,()),((k:Int),()),())⟩] ⟨o_Z75,(pb (∃ x∈qch c[k],pb (¬ x∈c.take k)=true),())⟩:=fun k hk hpre =>
    qba (qch c[k]) ((c,()),((k:Int),()),()) _ (Nat.le_trans qgI (qbl hc hk).1) fun x hx=>qfG c x k (by omega) hc (key 0 k hk hpre)
  refine(qcY 1 (L:=fun φ n k=>Z10.l0 (mkR (run E (φ 0))) (φ 0) n c (c.length:Int) k c) (len:=c.length) 0 (by omega) (qlh c) (fun b=>some ⟨o_Z10,(b&&decide ((c.length:Int)≤48),())⟩) (fun _ _ _ _=>rfl) (fun k h1 h2 hP hpre=>?_) (fun k r h1 h2 hP hpre ih=>?_) (fun _=>?_)).to ?_
  · simp only[Z10.l0_succ _ qaf]
    refine qax (decide_eq_true (by omega)) (qab (qai h2) (qaa (qd8 _ (qbl hc h2)) ?_))
    refine qb7 (fun hv=>?_) fun hv=>?_
    · simp only[Z10.j1_eq _ qaf,cond_true];(first | exact qam | exact Ev.of fun _=>trivial)
    · have hv:Vx c[k]:=qaC.1 (by simpa using hv)
      have last:(1≤k→qdS (c.getD (k-1) []) (c.getD k [])<0)→Ev fun φ=>Z10.j1 (mkR (run E (φ 0))) (φ 0) (φ 1) c[k] c (c.length:Int) (k:Int) false c (k:Int)=some ⟨o_Z10,(false,())⟩:=fun hcm=>by
        simp only[Z10.j1_eq _ qaf,cond_false]
        refine qaa (qfj _ (qbl hc h2).1) (qaa (hcon k h2 hpre) (qax ?_ qam))
        refine qaL (Classical.byContradiction fun hn=>hP ⟨⟨by rw[qad h2];exact hv,hcm⟩,fun f hf=>Classical.byContradiction fun hnf=>hn ⟨f,by rw[qad h2] at hf;exact hf,qaL hnf⟩⟩)
      refine qec (fun hk=>?_) fun hk=>?_
      · rw[qag (by omega) (by omega),show((k:Int)-1)=((k-1:Nat):Int) by omega]
        have hk1:k-1<c.length:=by omega
        refine qab (qai hk1) (qaa (qbo _ _ (qbl hc hk1)) ?_)
        by_cases hcm:qdS c[k-1] c[k]<0
        · simp only[show decide (qdS c[k-1] c[k]≥0)=false from decide_eq_false (by omega)]
          exact last fun _=>by rw[qad hk1,qad h2];exact hcm
        · simp only[show decide (qdS c[k-1] c[k]≥0)=true from decide_eq_true (by omega),Z10.j1_eq _ qaf,cond_true]
          (first | exact qam | exact Ev.of fun _=>trivial)
      · exact last fun h=>absurd h (by omega)
  · simp only[Z10.l0_succ _ qaf]
    have hP':=hP
    obtain⟨⟨hv,hcm⟩,hfc⟩:=hP'
    rw[qad h2] at hv hfc
    refine qax (decide_eq_true (by omega)) (qab (qai h2) (qaa (qd8 _ (qbl hc h2)) (qaB (by rw[qaL hv];rfl) ?_)))
    have last:Ev fun φ=>Z10.j1 (mkR (run E (φ 0))) (φ 0) (φ 1) c[k] c (c.length:Int) (k:Int) false c (k:Int)=r:=by
      simp only[Z10.j1_eq _ qaf,cond_false]
      refine qaa (qfj _ (qbl hc h2).1) (qaa (hcon k h2 hpre) (qaB ?_ ?_))
      · exact qar fun⟨x,hx,hn⟩=>qaC.1 hn (hfc x hx)
      · rw[qae (by omega)];exact ih
    refine qec (fun hk=>?_) fun hk=>last
    rw[qag (by omega) (by omega),show((k:Int)-1)=((k-1:Nat):Int) by omega]
    have hk1:k-1<c.length:=by omega
    have hcm:=hcm (by omega)
    rw[qad hk1,qad h2] at hcm
    refine qab (qai hk1) (qaa (qbo _ _ (qbl hc hk1)) ?_)
    simp only[show decide (qdS c[k-1] c[k]≥0)=false from decide_eq_false (by omega)]
    exact last
  · simp only[Z10.l0_succ _ qaf]
    exact qaB (decide_eq_false (by omega)) (qaj (by rw[Bool.true_and]))
  · have:(pb (∀ j,0≤j→j<c.length→qlh c j)&&decide ((c.length:Int)≤48))=pb (VC c):=qfs (by
      rw[Bool.and_eq_true,qaC,decide_eq_true_iff,← qqK]
      exact⟨fun h=>⟨h.1,by omega⟩,fun h=>⟨h.1,by omega⟩⟩)
    rw[this]
def qpZ(c:List Sim)(k:Nat):Prop:=(Vx (c.getD k [])∧(1≤k→qdS (c.getD (k-1) []) (c.getD k [])<0))∧∀ f∈qch (c.getD k []),f∈c
theorem qot(c:Cpx)(hc:Sm yK c.1):Ret E n_Z135 [dC c] ⟨o_Z135,(pb (VC c.1),())⟩:=by
  have hc1:c.1.length≤1048576:=hc.1
  refine qak ?_
  simp only[run_Z135,Z135.ev]
  refine qec (fun h=>qaj ?_) fun h48=>?_
  · rw[qar fun hv=>by have:=hv.1;omega]
  refine Ev.start (p:=fun φ n=>Z135.l0 (mkR (run E (φ 0))) (φ 0) n c 0=_) 1 ?_ (fun _ _ _ h=>h)
  -- the inner loop
  have inner:∀(k:Nat) (h2:k<c.1.length) (r:Option Dv),((∀ f∈qch c.1[k],f∈c.1)→Ev fun φ=>Z135.l0 (mkR (run E (φ 0))) (φ 0) (φ 1) c ((k+1:Nat):Int)=r)→(¬ (∀ f∈qch c.1[k],f∈c.1)→r=some ⟨o_Z135,(false,())⟩)→Ev fun φ=>Z135.l2 (mkR (run E (φ 0))) (φ 0) (φ 1) (φ 0) c (k:Int) c.1[k] 0=r:=fun k h2 r hgo hstop=>by
    have hks:(c.1[k]).length≤1048576:=(qbl hc h2).1
    refine Ev.start (p:=fun φ n=>Z135.l2 (mkR (run E (φ 0))) (φ 0) (φ 1) n c (k:Int) c.1[k] 0=_) 2 ?_ (fun _ _ _ h=>h)
    by_cases hlen:1<(c.1[k]).length
    · obtain⟨t,f⟩:=qj7 2 (L:=fun φ n i=>Z135.l2 (mkR (run E (φ 0))) (φ 0) (φ 1) n c (k:Int) c.1[k] i) (len:=(c.1[k]).length) 0 (by omega) (fun i=>(c.1[k]).eraseIdx i∈c.1) (rt:=r) (rf:=some ⟨o_Z135,(false,())⟩) (fun _ _ _ _=>rfl) (fun i _ hi hP _=>by
        simp only[Z135.l2_succ _ qaf]
        refine qax (decide_eq_true (by omega)) ?_
        simp only[show decide (((c.1[k]).length:Int)>1)=true from decide_eq_true (by omega),Z135.j3_eq _ qaf,cond_true]
        refine qaa (qd1 _ i hi hks) (qaa (qbY c _ hc) (qax (decide_eq_true ?_) qam))
        have hq:=mt (qa6 (c:=c.1) (s:=(c.1[k]).eraseIdx i)).1 hP;simp only;exact Int.not_le.1 hq) (fun i q _ hi hP _ ih=>by
        simp only[Z135.l2_succ _ qaf]
        refine qax (decide_eq_true (by omega)) ?_
        simp only[show decide (((c.1[k]).length:Int)>1)=true from decide_eq_true (by omega),Z135.j3_eq _ qaf,cond_true]
        refine qaa (qd1 _ i hi hks) (qaa (qbY c _ hc) (qaB (decide_eq_false ?_) ?_))
        · have hq:=(qa6 (c:=c.1) (s:=(c.1[k]).eraseIdx i)).2 hP;simp only;exact Int.not_lt.2 hq
        · rw[qae (by omega)];exact ih) (fun hall=>by
        simp only[Z135.l2_succ _ qaf]
        refine qaB (decide_eq_false (by omega)) ?_
        simp only[Z135.j3_eq _ qaf,cond_false]
        rw[qae (by omega)]
        exact hgo fun f hf=>by
          obtain⟨_,i,hi,rfl⟩:=qcw.1 hf
          exact hall i (by omega) hi)
      by_cases hall:∀ i,0≤i→i<(c.1[k]).length→(c.1[k]).eraseIdx i∈c.1
      · exact t hall
      · rw[hstop fun hf=>hall fun i _ hi=>hf _ (qcw.2 ⟨hlen,i,hi,rfl⟩)]
        exact f hall
    · refine Ev.round 2 (L:=fun φ n=>Z135.l2 (mkR (run E (φ 0))) (φ 0) (φ 1) n c (k:Int) c.1[k] 0) ?_ (fun _ _ _=>rfl)
      have hgo:=hgo fun f hf=>absurd (qcw.1 hf).1 hlen
      have hj:Ev fun φ=>Z135.j3 (mkR (run E (φ 0))) (φ 0) (φ 1) (φ 2) c (k:Int) c.1[k] 0 false=r:=by
        simp only[Z135.j3_eq _ qaf,cond_false]
        rw[qae (by omega)];exact hgo
      simp only[Z135.l2_succ _ qaf]
      refine qec (fun _=>?_) fun _=>hj
      simp only[show decide (((c.1[k]).length:Int)>1)=false from decide_eq_false (by omega)]
      exact hj
  refine(qcY 1 (L:=fun φ n k=>Z135.l0 (mkR (run E (φ 0))) (φ 0) n c k) (len:=c.1.length) 0 (by omega) (qpZ c.1) (fun b=>some ⟨o_Z135,(b,())⟩) (fun _ _ _ _=>rfl) (fun k h1 h2 hP hpre=>?_) (fun k r h1 h2 hP hpre ih=>?_) (fun _=>?_)).to ?_
  · simp only[Z135.l0_succ _ qaf]
    refine qax (decide_eq_true (by omega)) (qab (qai h2) (qaa (qeZ _ (qbl hc h2)) ?_))
    refine qb7 (fun hv=>?_) fun hv=>?_
    · simp only[Z135.j1_eq _ qaf,cond_true];(first | exact qam | exact Ev.of fun _=>trivial)
    · have hv:Vx c.1[k]:=qaC.1 (by simpa using hv)
      have last:(1≤k→qdS (c.1.getD (k-1) []) (c.1.getD k [])<0)→Ev fun φ=>Z135.j1 (mkR (run E (φ 0))) (φ 0) (φ 1) c (k:Int) c.1[k] false=some ⟨o_Z135,(false,())⟩:=fun hcm=>by
        simp only[Z135.j1_eq _ qaf,cond_false]
        refine inner k h2 _ (fun hf=>absurd ⟨⟨by rw[qad h2];exact hv,hcm⟩,by rw[qad h2];exact hf⟩ hP) fun _=>rfl
      refine qec (fun hk=>?_) fun hk=>?_
      · rw[qag (by omega) (by omega),show((k:Int)-1)=((k-1:Nat):Int) by omega]
        have hk1:k-1<c.1.length:=by omega
        refine qab (qai hk1) (qaa (qcE _ _ (qbl hc hk1)) ?_)
        by_cases hcm:qdS c.1[k-1] c.1[k]<0
        · simp only[qaL hcm]
          exact last fun _=>by rw[qad hk1,qad h2];exact hcm
        · simp only[qar hcm,Z135.j1_eq _ qaf,cond_true,Bool.not_false]
          (first | exact qam | exact Ev.of fun _=>trivial)
      · exact last fun h=>absurd h (by omega)
  · simp only[Z135.l0_succ _ qaf]
    obtain⟨⟨hv,hcm⟩,hfc⟩:=hP
    rw[qad h2] at hv hfc
    refine qax (decide_eq_true (by omega)) (qab (qai h2) (qaa (qeZ _ (qbl hc h2)) (qaB (by rw[qaL hv];rfl) ?_)))
    have last:Ev fun φ=>Z135.j1 (mkR (run E (φ 0))) (φ 0) (φ 1) c (k:Int) c.1[k] false=r:=by
      simp only[Z135.j1_eq _ qaf,cond_false]
      exact inner k h2 _ (fun _=>ih) fun hn=>absurd hfc hn
    refine qec (fun hk=>?_) fun hk=>last
    rw[qag (by omega) (by omega),show((k:Int)-1)=((k-1:Nat):Int) by omega]
    have hk1:k-1<c.1.length:=by omega
    have hcm:=hcm (by omega)
    rw[qad hk1,qad h2] at hcm
    refine qab (qai hk1) (qaa (qcE _ _ (qbl hc hk1)) ?_)
    simp only[qaL hcm,Bool.not_true]
    exact last
  · simp only[Z135.l0_succ _ qaf]
    exact qaB (decide_eq_false (by omega)) qam
  · have:pb (∀ j,0≤j→j<c.1.length→qpZ c.1 j)=pb (VC c.1):=qaN
      ⟨fun h=>⟨by omega,fun k hk=>(h k (by omega) hk).1.1,fun k h1 hk=>(h k (by omega) hk).1.2 h1,fun k hk=>(h k (by omega) hk).2⟩,
       fun h k _ hk=>⟨⟨h.2.1 k hk,fun h1=>h.2.2.1 k h1 hk⟩,h.2.2.2 k hk⟩⟩
    rw[this]
end VeT
open Go Go.Proofs Ve
namespace VeT
def Pr(p:Int):Prop:=2≤p∧p≤251∧∀ k:Nat,2≤k→(k:Int)*k≤p→p%k≠0
theorem qeW(p:Int):Ret E n_Z13 [dI p] ⟨o_Z13,(pb (Pr p),())⟩:=by
  refine qak ?_
  simp only[run_Z13,Z13.ev]
  refine qaa (qdr _ _ _) (qb7 (fun h=>qaj ?_) fun h=>?_)
  · have h:¬ (2≤p∧p≤251):=qa1.1 (by simpa using h)
    rw[qar fun hp=>h ⟨hp.1,hp.2.1⟩]
  have hr:2≤p∧p≤251:=qaC.1 (by simpa using h)
  refine Ev.start (p:=fun φ n=>Z13.l0 (mkR (run E (φ 0))) (φ 0) n p 2=_) 1 ?_ (fun _ _ _ h=>h)
  refine qeQ 1 (σ:=Nat) (L:=fun φ n k=>Z13.l0 (mkR (run E (φ 0))) (φ 0) n p (k:Int)) (fun _ _ _ _=>rfl) (fun k=>2≤k∧k≤17∧∀ j:Nat,2≤j→j<k→(j:Int)*j≤p→p%j≠0) (fun _=>_) (fun k=>17-k) (fun k ⟨h1,h2,h3⟩ ih=>?_) 2 ⟨by omega,by omega,fun j _ _=>by omega⟩
  simp only[Z13.l0_succ _ qaf]
  have hkk:0≤(k:Int)*k∧(k:Int)*k≤289:=⟨Int.mul_nonneg (by omega) (by omega),by have:=Nat.mul_le_mul h2 h2;omega⟩
  have e:w64 ((k:Int)*k)=(k:Int)*k:=qag (by omega) (by omega)
  simp only[e]
  refine qec (fun hle=>?_) fun hle=>qaj ?_
  · have hk16:k<16:=Classical.byContradiction fun hn=>by
      have:=Nat.mul_le_mul (show 16≤k by omega) (show 16≤k by omega);omega
    refine qan (by simp;omega) ?_
    rw[Int.tmod_eq_emod_of_nonneg (by omega)]
    refine qb7 (fun h0=>qaj ?_) fun h0=>?_
    · rw[qar fun hp=>hp.2.2 k h1 hle (by simpa using h0)]
    · rw[qae (by omega)]
      refine ih (k+1) ⟨by omega,by omega,fun j hj1 hj2 hj3=>?_⟩ (by show 17-(k+1)<17-k;omega)
      by_cases hjk:j=k
      · subst hjk;simpa using h0
      · exact h3 j hj1 (by omega) hj3
  · rw[qaL]
    refine⟨hr.1,hr.2,fun j hj1 hj2=>?_⟩
    by_cases hjk:j<k
    · exact h3 j hj1 hjk hj2
    · exfalso
      have:=Nat.mul_le_mul (show k≤j by omega) (show k≤j by omega);omega
theorem qlc(p:Int):Ret E n_Z112 [dI p] ⟨o_Z112,(pb (Pr p),())⟩:=by
  refine qak ?_
  simp only[run_Z112,Z112.ev]
  refine qaa (qbR _ _ _) (qb7 (fun h=>qaj ?_) fun h=>?_)
  · have h:¬ (2≤p∧p≤251):=qa1.1 (by simpa using h)
    rw[qar fun hp=>h ⟨hp.1,hp.2.1⟩]
  have hr:2≤p∧p≤251:=qaC.1 (by simpa using h)
  refine Ev.start (p:=fun φ n=>Z112.l0 (mkR (run E (φ 0))) (φ 0) n p 2=_) 1 ?_ (fun _ _ _ h=>h)
  refine qeQ 1 (σ:=Nat) (L:=fun φ n k=>Z112.l0 (mkR (run E (φ 0))) (φ 0) n p (k:Int)) (fun _ _ _ _=>rfl) (fun k=>2≤k∧k≤17∧∀ j:Nat,2≤j→j<k→(j:Int)*j≤p→p%j≠0) (fun _=>_) (fun k=>17-k) (fun k ⟨h1,h2,h3⟩ ih=>?_) 2 ⟨by omega,by omega,fun j _ _=>by omega⟩
  simp only[Z112.l0_succ _ qaf]
  have hkk:0≤(k:Int)*k∧(k:Int)*k≤289:=⟨Int.mul_nonneg (by omega) (by omega),by have:=Nat.mul_le_mul h2 h2;omega⟩
  have e:w64 ((k:Int)*k)=(k:Int)*k:=qag (by omega) (by omega)
  simp only[e]
  refine qec (fun hle=>?_) fun hle=>qaj ?_
  · have hk16:k<16:=Classical.byContradiction fun hn=>by
      have:=Nat.mul_le_mul (show 16≤k by omega) (show 16≤k by omega);omega
    refine qan (by simp;omega) ?_
    rw[Int.tmod_eq_emod_of_nonneg (by omega)]
    refine qb7 (fun h0=>qaj ?_) fun h0=>?_
    · rw[qar fun hp=>hp.2.2 k h1 hle (by simpa using h0)]
    · rw[qae (by omega)]
      refine ih (k+1) ⟨by omega,by omega,fun j hj1 hj2 hj3=>?_⟩ (by show 17-(k+1)<17-k;omega)
      by_cases hjk:j=k
      · subst hjk;simpa using h0
      · exact h3 j hj1 (by omega) hj3
  · rw[qaL]
    refine⟨hr.1,hr.2,fun j hj1 hj2=>?_⟩
    by_cases hjk:j<k
    · exact h3 j hj1 hjk hj2
    · exfalso
      have:=Nat.mul_le_mul (show k≤j by omega) (show k≤j by omega);omega
theorem qc7(p:Int):Ret E n_Z99 [dI p] ⟨o_Z99,(pb (Pr p),())⟩:=by
 refine qak ?_
 simp only[run_Z99,Z99.ev]
 exact qaa (qlc p) qam
def qaI(v:Sim)(p:Int):Prop:=∀ x∈v,0≤x∧x≤p-1
theorem qjU(a p:Int)(hp:0≤p∧p≤1048576):Ret E n_Z40 [dI a,dI p] ⟨o_Z40,(pb (0≤a∧a≤p-1),())⟩:=by
 refine qak ?_
 simp only[run_Z40,Z40.ev]
 rw[qag (by omega) (by omega)]
 exact qaa (qdr _ _ _) qam
theorem qf2(a p:Int)(hp:0≤p∧p≤1048576):Ret E n_Z19 [dI a,⟨.ptr (.cons yI .nil),(p,())⟩] ⟨o_Z19,(!pb (0≤a∧a≤p-1),())⟩:=by
 refine qak ?_
 simp only[run_Z19,Z19.ev]
 exact qaa (qjU _ _ hp) qam
theorem qjO{α:Type}{s:List α}{P:α→Prop}:(!pb (∃ x∈s,(!pb (P x))=true))=pb (∀ x∈s,P x):=qfs (by
 simp only[Bool.not_eq_true',qa1]
 exact⟨fun h x hx=>Classical.byContradiction fun hn=>h ⟨x,hx,hn⟩,fun h ⟨x,hx,hn⟩=>hn (h x hx)⟩)
theorem qeq(v:Sim)(p:Int)(hv:v.length≤1048576)(hp:0≤p∧p≤1048576):Ret E n_Z18 [dL v,dI p] ⟨o_Z18,(pb (qaI v p),())⟩:=by
 refine qak ?_
 simp only[run_Z18,Z18.ev]
 refine qaa (qbi v ((p,()),()) _ hv fun x _=>qf2 x p hp) (qaj ?_)
 simp only[qjO];rfl
theorem qfP(v:Sim)(n p:Int)(hv:v.length≤1048576)(hp:0≤p∧p≤1048576):Ret E n_Z114 [dL v,dI n,dI p] ⟨o_Z114,(pb (qaI v p∧(v.length:Int)=n),())⟩:=by
  have e:w64 (p-1)=p-1:=qag (by omega) (by omega)
  refine qak ?_
  simp only[run_Z114,Z114.ev]
  refine Ev.start (p:=fun φ n'=>Z114.l0 (mkR (run E (φ 0))) (φ 0) n' v n p 0=_) 1 ?_ (fun _ _ _ h=>h)
  refine(qcY 1 (L:=fun φ n' k=>Z114.l0 (mkR (run E (φ 0))) (φ 0) n' v n p k) (len:=v.length) 0 (by omega) (fun j=>0≤v.getD j 0∧v.getD j 0≤p-1) (fun b=>some ⟨o_Z114,(b&&((v.length:Int)==n),())⟩) (fun _ _ _ _=>rfl) (fun k h1 h2 hP _=>?_) (fun k r h1 h2 hP _ ih=>?_) (fun _=>?_)).to ?_
  · simp only[Z114.l0_succ _ qaf,e]
    rw[qad h2] at hP
    exact qax (decide_eq_true (by omega)) (qab (qai h2) (qaa (qbR _ _ _) (qax (by rw[qar hP];rfl) qam)))
  · simp only[Z114.l0_succ _ qaf,e]
    rw[qad h2] at hP
    refine qax (decide_eq_true (by omega)) (qab (qai h2) (qaa (qbR _ _ _) (qaB (by rw[qaL hP];rfl) ?_)))
    rw[qae (by omega)];exact ih
  · simp only[Z114.l0_succ _ qaf]
    exact qaB (decide_eq_false (by omega)) (qaj (by rw[Bool.true_and]))
  · have:(pb (∀ j,0≤j→j<v.length→0≤v.getD j 0∧v.getD j 0≤p-1)&&((v.length:Int)==n))=pb (qaI v p∧(v.length:Int)=n):=qfs (by
      rw[Bool.and_eq_true,qaC,beq_iff_eq]
      refine and_congr_left' ⟨fun h x hx=>?_,fun h j _ hj=>?_⟩
      · obtain⟨j,hj,rfl⟩:=List.mem_iff_getElem.1 hx
        have:=h j (by omega) hj
        rwa [qad hj] at this
      · rw[qad hj];exact h _ (List.getElem_mem hj))
    rw[this]
theorem qiT(n:Int):Ret E n_Z44 [dI n] ⟨o_Z44,(pb (0≤n∧n≤32),())⟩:=by
 refine qak ?_
 simp only[run_Z44,Z44.ev]
 exact qaa (qdr _ _ _) qam
theorem qhG(s:Sim):Ret E n_Z59 [dL s] ⟨o_Z59,((s.length:Int),())⟩:=by
 refine qak ?_
 simp only[run_Z59,Z59.ev]
 (first | exact qam | exact Ev.of fun _=>trivial)
theorem qhV(s:List Sim):Ret E n_Z58 [dLL s] ⟨o_Z58,((s.length:Int),())⟩:=by
 refine qak ?_
 simp only[run_Z58,Z58.ev]
 (first | exact qam | exact Ev.of fun _=>trivial)
def VM(m:Mat):Prop:=Pr m.1∧(0≤m.2.1∧m.2.1≤32)∧(0≤m.2.2.1∧m.2.2.1≤32)∧(m.2.2.2.1.length:Int)=m.2.1*m.2.2.1∧qaI m.2.2.2.1 m.1
theorem qkl{a b:Int}(ha:0≤a∧a≤32)(hb:0≤b∧b≤32):0≤a*b∧a*b≤1024:=by
 obtain⟨x,rfl⟩:=Int.eq_ofNat_of_zero_le ha.1
 obtain⟨y,rfl⟩:=Int.eq_ofNat_of_zero_le hb.1
 have:=Nat.mul_le_mul (show x≤32 by omega) (show y≤32 by omega)
 have e:(x:Int)*y=((x*y:Nat):Int):=by simp
 show 0≤(x:Int)*y∧(x:Int)*y≤1024
 rw[e];omega
theorem qhJ(m:Mat)(hm:Sm (.st cM) m):Ret E n_Z12 [dI m.1,dI m.2.1,dI m.2.2.1,dL m.2.2.2.1] ⟨o_Z12,(pb (VM m),())⟩:=by
 have hl:m.2.2.2.1.length≤1048576:=hm.2.2.2.1.1
 refine qak ?_
 simp only[run_Z12,Z12.ev]
 refine qaa (qeW _) (qb7 (fun h1=>qaa (qiT _) (qb7 (fun h2=>qaa (qiT _) (qb7 (fun h3=>qaa (qhG _) (qb7 (fun h4=>?_) fun h4=>qaj ?_)) fun h3=>qaj ?_)) fun h2=>qaj ?_)) fun h1=>qaj ?_)
 ·have h1:=qaC.1 h1;have h2:=qaC.1 h2;have h3:=qaC.1 h3
  have:=qkl h2 h3
  rw[qag (by omega) (by omega)] at h4
  refine qaa (qeq _ _ hl ⟨by have:=h1.1;omega,by have:=h1.2.1;omega⟩) (qaj ?_)
  exact congrArg (fun b:Bool=>some (⟨o_Z12,(b,())⟩:Dv)) (qaN ⟨fun h=>⟨h1,h2,h3,by simpa using h4,h⟩,fun h=>h.2.2.2.2⟩)
 ·have h2:=qaC.1 h2;have h3:=qaC.1 h3
  have:=qkl h2 h3
  rw[qag (by omega) (by omega)] at h4
  rw[qar fun h=>by have:=h.2.2.2.1;simp[this] at h4]
 ·rw[qar fun h=>qa1.1 h3 h.2.2.1]
 ·rw[qar fun h=>qa1.1 h2 h.2.1]
 ·rw[qar fun h=>qa1.1 h1 h.1]
theorem qkr(m:Mat)(hm:Sm (.st cM) m):Ret E n_Z120 [dM m] ⟨o_Z120,(pb (VM m),())⟩:=by
 have hl:m.2.2.2.1.length≤1048576:=hm.2.2.2.1.1
 refine qak ?_
 simp only[run_Z120,Z120.ev]
 refine qaa (qc7 _) (qb7 (fun h1=>qaa (qbR _ _ _) (qb7 (fun h2=>qaa (qbR _ _ _) (qb7 (fun h3=>?_) fun h3=>qaj ?_)) fun h2=>qaj ?_)) fun h1=>qaj ?_)
 ·have h1:=qaC.1 h1;have h2:=qaC.1 h2;have h3:=qaC.1 h3
  have:=qkl h2 h3
  rw[qag (by omega) (by omega)]
  refine qaa (qfP _ _ _ hl ⟨by have:=h1.1;omega,by have:=h1.2.1;omega⟩) (qaj ?_)
  exact congrArg (fun b:Bool=>some (⟨o_Z120,(b,())⟩:Dv)) (qaN ⟨fun h=>⟨h1,h2,h3,h.2,h.1⟩,fun h=>⟨h.2.2.2.2,h.2.2.2.1⟩⟩)
 ·rw[qar fun h=>qa1.1 h3 h.2.2.1]
 ·rw[qar fun h=>qa1.1 h2 h.2.1]
 ·rw[qar fun h=>qa1.1 h1 h.1]
def Bt(m:Mat)(p f t:Int):Prop:=VM m∧m.1=p∧m.2.1=t∧m.2.2.1=f
theorem qfD(m:Mat)(p f t:Int)(hm:Sm (.st cM) m):Ret E n_Z39 [dI m.1,dI m.2.1,dI m.2.2.1,dL m.2.2.2.1,dI p,dI f,dI t] ⟨o_Z39,(pb (Bt m p f t),())⟩:=by
 refine qak ?_
 simp only[run_Z39,Z39.ev]
 refine qaa (qhJ m hm) (qb7 (fun h1=>qb7 (fun h2=>qb7 (fun h3=>qaj ?_) fun h3=>qaj ?_) fun h2=>qaj ?_) fun h1=>qaj ?_)
 ·have h1:=qaC.1 h1
  have:(m.2.2.1==f)=pb (Bt m p f t):=qfs (by
   rw[beq_iff_eq];exact⟨fun h=>⟨h1,by simpa using h2,by simpa using h3,h⟩,fun h=>h.2.2.2⟩)
  rw[this]
 ·rw[qar fun h=>by have:=h.2.2.1;simp[this] at h3]
 ·rw[qar fun h=>by have:=h.2.1;simp[this] at h2]
 ·rw[qar fun h=>qa1.1 h1 h.1]
def qaK(c:List Sim)(d:Int)(k:Nat):List Int:=((List.range k).filter fun i=>decide (((c.getD i []).length:Int)=d+1)).map Int.ofNat
theorem qcm(c:List Sim)(d:Int)(k:Nat):qaK c d (k+1)=qaK c d k++if ((c.getD k []).length:Int)=d+1 then [(k:Int)] else []:=by
 unfold qaK
 rw[List.range_succ,List.filter_append,List.map_append]
 congr 1
 by_cases h:((c.getD k []).length:Int)=d+1
 ·rw[if_pos h,List.filter_cons_of_pos (by simpa using h)];rfl
 ·rw[if_neg h,List.filter_cons_of_neg (by simpa using h)];rfl
theorem qcu(c:List Sim)(d:Int)(k:Nat):(qaK c d k).length≤k:=by
 unfold qaK
 rw[List.length_map]
 exact Nat.le_trans (List.length_filter_le _ _) (by simp)
theorem qfN{c:List Sim}{d:Int}{k:Nat}{x:Int}(h:x∈qaK c d k):∃ i:Nat,x=i∧i<k:=by
 unfold qaK at h
 rw[List.mem_map] at h
 obtain⟨i,hi,rfl⟩:=h
 exact⟨i,rfl,by have:=(List.mem_filter.1 hi).1;simpa using this⟩
theorem qih(c:List Sim)(d:Int)(hc:Sm yK c)(hd:-1≤d∧d≤1048576):Ret E n_Z57 [dLL c,dI d] ⟨o_Z57,(qaK c d c.length,())⟩:=by
 have hc1:c.length≤1048576:=hc.1
 have hd1:w64 (d+1)=d+1:=qag (by omega) (by omega)
 refine qak ?_
 simp only[run_Z57,Z57.ev]
 refine Ev.start (p:=fun φ n=>Z57.l0 (mkR (run E (φ 0))) (φ 0) n d c (c.length:Int) 0 []=_) 1 ?_ (fun _ _ _ h=>h)
 refine qao 1 (L:=fun φ n k a=>Z57.l0 (mkR (run E (φ 0))) (φ 0) n d c (c.length:Int) k a) (len:=c.length) (fun k=>qaK c d k) (fun _ _ _ _ _=>rfl) (fun k r hk ih=>?_) ?_
 ·simp only[Z57.l0_succ _ qaf,hd1]
  rw[qcm,qad hk] at ih
  have hlen:=qcu c d k
  refine qax (decide_eq_true (by omega)) (qab (qai hk) (qaa (qhG _) ?_))
  rw[qae (by omega)]
  refine qb7 (fun he=>qan (decide_eq_true (by simp only[List.length_cons,List.length_nil];omega)) ?_) fun he=>?_
  ·rw[if_pos (by simpa using he)] at ih;exact ih
  ·rw[if_neg (by simpa using he),List.append_nil] at ih;exact ih
 ·simp only[Z57.l0_succ _ qaf]
  exact qaB (decide_eq_false (by omega)) qam
theorem qkE(c:List Sim)(d:Int)(hc:Sm yK c)(hd:-1≤d∧d≤1048576):Ret E n_Z134 [dC (c,()),dI d] ⟨o_Z134,(qaK c d c.length,())⟩:=by
 have hc1:c.length≤1048576:=hc.1
 have hd1:w64 (d+1)=d+1:=qag (by omega) (by omega)
 refine qak ?_
 simp only[run_Z134,Z134.ev]
 refine Ev.start (p:=fun φ n=>Z134.l0 (mkR (run E (φ 0))) (φ 0) n (c,()) d 0 []=_) 1 ?_ (fun _ _ _ h=>h)
 refine qao 1 (L:=fun φ n k a=>Z134.l0 (mkR (run E (φ 0))) (φ 0) n (c,()) d k a) (len:=c.length) (fun k=>qaK c d k) (fun _ _ _ _ _=>rfl) (fun k r hk ih=>?_) ?_
 ·simp only[Z134.l0_succ _ qaf,hd1]
  rw[qcm,qad hk] at ih
  have hlen:=qcu c d k
  refine qax (decide_eq_true (by omega)) (qab (qai hk) ?_)
  rw[qae (by omega)]
  refine qb7 (fun he=>qan (decide_eq_true (by simp only[List.length_cons,List.length_nil];omega)) ?_) fun he=>?_
  ·rw[if_pos (by simpa using he)] at ih;exact ih
  ·rw[if_neg (by simpa using he),List.append_nil] at ih;exact ih
 ·simp only[Z134.l0_succ _ qaf]
  exact qaB (decide_eq_false (by omega)) qam
def qiB(c:List Sim)(st:Sim)(d:Int)(k:Nat):Int:=(((qaK c d c.length).take k).map fun i=>st.getD i.toNat 0).sum
theorem qfQ(c:List Sim)(st:Sim)(d:Int)(k:Nat)(h:k<(qaK c d c.length).length):qiB c st d (k+1)=qiB c st d k+st.getD ((qaK c d c.length)[k]).toNat 0:=by
 unfold qiB
 rw[List.take_succ_eq_append_getElem h,List.map_append,List.sum_append]
 simp
theorem qjw{c:List Sim}{st:Sim}(hst:∀ x∈st,0≤x∧x≤3)(d:Int)(k:Nat):0≤qiB c st d k∧qiB c st d k≤3*k:=by
  induction k with
  | zero=>simp[qiB]
  | succ k ih =>
    by_cases h:k<(qaK c d c.length).length
    · rw[qfQ _ _ _ _ h]
      have:0≤st.getD ((qaK c d c.length)[k]).toNat 0∧st.getD ((qaK c d c.length)[k]).toNat 0≤3:=by
        by_cases hl:((qaK c d c.length)[k]).toNat<st.length
        · rw[qad hl];exact hst _ (List.getElem_mem hl)
        · rw[List.getD_eq_getElem?_getD,List.getElem?_eq_none (by omega)];simp
      omega
    · have:qiB c st d (k+1)=qiB c st d k:=by
        unfold qiB
        rw[List.take_of_length_le (by omega),List.take_of_length_le (by omega)]
      omega
theorem qgL(c:List Sim)(st:Sim)(d:Int)(p:Int)(ms:List Mat)(hc:Sm yK c)(hl:st.length=c.length)(hst:∀ x∈st,0≤x∧x≤3)(hd:-1≤d∧d≤1048576) :
  Ret E n_Z60 [dLL c,dI p,dL st,dMs ms,dI d] ⟨o_Z60,(qiB c st d (qaK c d c.length).length,())⟩:=by
 have hc1:c.length≤1048576:=hc.1
 have hol:=qcu c d c.length
 refine qak ?_
 simp only[run_Z60,Z60.ev]
 refine qaa (qih c d hc hd) ?_
 refine Ev.start (p:=fun φ n=>Z60.l0 (mkR (run E (φ 0))) (φ 0) n 0 (qaK c d c.length) ((qaK c d c.length).length:Int) 0 c p st ms=_) 1 ?_ (fun _ _ _ h=>h)
 refine qao 1 (L:=fun φ n k a=>Z60.l0 (mkR (run E (φ 0))) (φ 0) n a (qaK c d c.length) ((qaK c d c.length).length:Int) k c p st ms) (len:=(qaK c d c.length).length) (fun k=>qiB c st d k) (fun _ _ _ _ _=>rfl) (fun k r hk ih=>?_) ?_
 ·simp only[Z60.l0_succ _ qaf]
  obtain⟨i,hi,hik⟩:=qfN (List.getElem_mem hk)
  rw[qfQ _ _ _ _ hk,hi,Int.toNat_natCast,qad (by omega)] at ih
  have hb:=qjw hst d k (c:=c)
  have hb2:=hst _ (List.getElem_mem (show i<st.length by omega))
  refine qax (decide_eq_true (by omega)) (qab (qai hk) ?_)
  simp only[hi]
  refine qab (qai (by omega)) ?_
  rw[qae (by omega),qag (by omega) (by omega)]
  exact ih
 ·simp only[Z60.l0_succ _ qaf]
  exact qaB (decide_eq_false (by omega)) qam
theorem qgh(c:List Sim)(st:Sim)(d:Int)(hc:Sm yK c)(hl:st.length=c.length)(hst:∀ x∈st,0≤x∧x≤3)(hd:-1≤d∧d≤1048576) :
  Ret E n_Z155 [dC (c,()),dL st,dI d] ⟨o_Z155,(qiB c st d (qaK c d c.length).length,())⟩:=by
 have hc1:c.length≤1048576:=hc.1
 have hol:=qcu c d c.length
 refine qak ?_
 simp only[run_Z155,Z155.ev]
 refine qaa (qkE c d hc hd) ?_
 refine Ev.start (p:=fun φ n=>Z155.l0 (mkR (run E (φ 0))) (φ 0) n st (qaK c d c.length) 0 0=_) 1 ?_ (fun _ _ _ h=>h)
 refine qao 1 (L:=fun φ n k a=>Z155.l0 (mkR (run E (φ 0))) (φ 0) n st (qaK c d c.length) a k) (len:=(qaK c d c.length).length) (fun k=>qiB c st d k) (fun _ _ _ _ _=>rfl) (fun k r hk ih=>?_) ?_
 ·simp only[Z155.l0_succ _ qaf]
  obtain⟨i,hi,hik⟩:=qfN (List.getElem_mem hk)
  rw[qfQ _ _ _ _ hk,hi,Int.toNat_natCast,qad (by omega)] at ih
  have hb:=qjw hst d k (c:=c)
  have hb2:=hst _ (List.getElem_mem (show i<st.length by omega))
  refine qax (decide_eq_true (by omega)) (qab (qai hk) ?_)
  simp only[hi]
  refine qab (qai (by omega)) ?_
  rw[qae (by omega),qag (by omega) (by omega)]
  exact ih
 ·simp only[Z155.l0_succ _ qaf]
  exact qaB (decide_eq_false (by omega)) qam
end VeT
open Go Go.Proofs Ve
namespace VeT
theorem qm9{c:List Sim}{st:Sim}(hst:∀ x∈st,0≤x∧x≤3)(d:Int):0≤qiB c st d (qaK c d c.length).length:=(qjw hst d _).1
def SD(c:List Sim)(st:Sim)(d:Int):Int:=qiB c st d (qaK c d c.length).length
def SK(c:List Sim)(st:Sim):Prop:=st.length=c.length∧(∀ x∈st,0≤x∧x≤3)∧∀ d:Nat,d<4→SD c st (d:Int)≤32
theorem qin(n:Int):Ret E n_Z22 [dI n] ⟨o_Z22,(!pb (0≤n∧n≤3),())⟩:=by
 refine qak ?_
 simp only[run_Z22,Z22.ev]
 exact qaa (qdr _ _ _) qam
theorem qjI(c:List Sim)(st:Sim)(hc:Sm yK c)(hs:st.length≤1048576):Ret E n_Z21 [dLL c,dL st] ⟨o_Z21,(pb (SK c st),())⟩:=by
  refine qak ?_
  simp only[run_Z21,Z21.ev]
  refine qb7 (fun h=>?_) fun h=>?_
  · simp only[Z21.j0_eq _ qaf,cond_true]
    have h:¬ (st.length:Int)=c.length:=by simpa using h
    rw[qar fun hk=>h (by rw[hk.1])];(first | exact qam | exact Ev.of fun _=>trivial)
  have hl : st.length = c.length := by have : (st.length : Int) = c.length := by simpa using h
                                       omega
  refine qaa (qbn st _ hs fun x _=>qin x) ?_
  simp only[Z21.j0_eq _ qaf]
  have e:=qjO (s:=st) (P:=fun x=>0≤x∧x≤3)
  refine qb7 (fun h=>?_) fun h=>?_
  · simp only[h] at e
    rw[qar fun hk=>qa1.1 e.symm hk.2.1];(first | exact qam | exact Ev.of fun _=>trivial)
  · simp only[h] at e
    have hst:∀ x∈st,0≤x∧x≤3:=qaC.1 e.symm
    refine Ev.start (p:=fun φ n=>Z21.l1 (mkR (run E (φ 0))) (φ 0) n st 0 c=_) 1 ?_ (fun _ _ _ h=>h)
    refine(qcY 1 (L:=fun φ n k=>Z21.l1 (mkR (run E (φ 0))) (φ 0) n st k c) (len:=4) 0 (by omega) (fun d=>SD c st (d:Int)≤32) (fun b=>some ⟨o_Z21,(b,())⟩) (fun _ _ _ _=>rfl) (fun k h1 h2 hP _=>?_) (fun k r h1 h2 hP _ ih=>?_) (fun _=>?_)).to ?_
    · simp only[Z21.l1_succ _ qaf]
      exact qax (decide_eq_true (by omega)) (qaa (qgL c st _ _ _ hc hl hst (by omega)) (qax (decide_eq_true (Int.not_le.1 hP)) qam))
    · simp only[Z21.l1_succ _ qaf]
      refine qax (decide_eq_true (by omega)) (qaa (qgL c st _ _ _ hc hl hst (by omega)) (qaB (decide_eq_false (Int.not_lt.2 hP)) ?_))
      rw[qae (by omega)];exact ih
    · simp only[Z21.l1_succ _ qaf]
      exact qaB (decide_eq_false (by omega)) qam
    · exact congrArg (fun b:Bool=>some (⟨o_Z21,(b,())⟩:Dv)) (qaN ⟨fun h=>⟨hl,hst,fun d hd=>h d (by omega) hd⟩,fun h d _ hd=>h.2.2 d hd⟩)
theorem qjV(c:List Sim)(st:Sim)(hc:Sm yK c)(hs:st.length≤1048576):Ret E n_Z154 [dC (c,()),dL st] ⟨o_Z154,(pb (SK c st),())⟩:=by
 refine qak ?_
 simp only[run_Z154,Z154.ev]
 refine qaa (qfP st _ _ hs (by omega)) (qb7 (fun h=>?_) fun h=>?_)
 ·have h:=qa1.1 (show pb (qaI st 4∧(st.length:Int)=c.length)=false by simpa using h)
  rw[qar fun hk=>h ⟨hk.2.1,by rw[hk.1]⟩];(first | exact qam | exact Ev.of fun _=>trivial)
 ·have h:=qaC.1 (show pb (qaI st 4∧(st.length:Int)=c.length)=true by simpa using h)
  have hl:st.length=c.length:=by have:=h.2;omega
  have hst:∀ x∈st,0≤x∧x≤3:=h.1
  refine Ev.start (p:=fun φ n=>Z154.l0 (mkR (run E (φ 0))) (φ 0) n (c,()) st 0=_) 1 ?_ (fun _ _ _ h=>h)
  refine(qcY 1 (L:=fun φ n k=>Z154.l0 (mkR (run E (φ 0))) (φ 0) n (c,()) st k) (len:=4) 0 (by omega) (fun d=>SD c st (d:Int)≤32) (fun b=>some ⟨o_Z154,(b,())⟩) (fun _ _ _ _=>rfl) (fun k h1 h2 hP _=>?_) (fun k r h1 h2 hP _ ih=>?_) (fun _=>?_)).to ?_
  ·simp only[Z154.l0_succ _ qaf]
   exact qax (decide_eq_true (by omega)) (qaa (qgh c st _ hc hl hst (by omega)) (qax (decide_eq_true (Int.not_le.1 hP)) qam))
  ·simp only[Z154.l0_succ _ qaf]
   refine qax (decide_eq_true (by omega)) (qaa (qgh c st _ hc hl hst (by omega)) (qaB (decide_eq_false (Int.not_lt.2 hP)) ?_))
   rw[qae (by omega)];exact ih
  ·simp only[Z154.l0_succ _ qaf]
   exact qaB (decide_eq_false (by omega)) qam
  ·exact congrArg (fun b:Bool=>some (⟨o_Z154,(b,())⟩:Dv)) (qaN ⟨fun h=>⟨hl,hst,fun d hd=>h d (by omega) hd⟩,fun h d _ hd=>h.2.2 d hd⟩)
noncomputable def qaF(c:List Sim)(k:Nat):List Int:=(qch (c.getD k [])).map (qdn c)
theorem qmv{c:List Sim}{s:Sim}:qdn c s<c.length∧-1≤qdn c s:=by
 unfold qdn qiQ
 cases h:c.findIdx? (fun x=>pb (x=s)) with
 | none=>simp only[o2i];omega
 | some k =>
  rw[List.findIdx?_eq_some_iff_getElem] at h
  obtain⟨h,_⟩:=h
  simp only[o2i];omega
theorem qaz{c:List Sim}{k:Nat}:(qaF c k).length=if 1<(c.getD k []).length then(c.getD k []).length else 0:=by
 unfold qaF qch
 rw[List.length_map]
 split<;>simp
theorem qj2{c:List Sim}(h:VC c){k:Nat}(hk:k<c.length){x:Int}(hx:x∈qaF c k):0≤x∧x<c.length:=by
 unfold qaF at hx
 rw[List.mem_map] at hx
 obtain⟨f,hf,rfl⟩:=hx
 exact⟨qa6.2 (h.2.2.2 k hk f hf),qmv.1⟩
theorem qcW(c:List Sim)(k:Nat)(hk:k<c.length)(hc:Sm yK c)(hs:Srt c):Ret E n_Z30 [dLL c,dI (k:Int)] ⟨o_Z30,(qaF c k,())⟩:=by
 have hks:(c[k]).length≤1048576:=(qbl hc hk).1
 have hfl:=qgI (s:=c[k])
 refine qak ?_
 simp only[run_Z30,Z30.ev]
 refine qab (qai hk) (qaa (qfj _ hks) ?_)
 refine Ev.start (p:=fun φ n=>Z30.l0 (mkR (run E (φ 0))) (φ 0) n (qch c[k]) ((qch c[k]).length:Int) 0 c []=_) 1 ?_ (fun _ _ _ h=>h)
 refine qao 1 (L:=fun φ n j a=>Z30.l0 (mkR (run E (φ 0))) (φ 0) n (qch c[k]) ((qch c[k]).length:Int) j c a) (len:=(qch c[k]).length) (fun j=>((qch c[k]).take j).map (qdn c)) (fun _ _ _ _ _=>rfl) (fun j r hj ih=>?_) ?_
 ·simp only[Z30.l0_succ _ qaf]
  rw[List.take_succ_eq_append_getElem hj,List.map_append] at ih
  refine qax (decide_eq_true (by omega)) (qab (qai hj) (qaa (qhM c _ hc hs) (qan (by simp;omega) ?_)))
  rw[qae (by omega)];exact ih
 ·simp only[Z30.l0_succ _ qaf]
  refine qaB (decide_eq_false (by omega)) (qaj ?_)
  rw[List.take_of_length_le (Nat.le_refl _),qaF,qad hk]
theorem qb5(c:List Sim)(k:Nat)(hk:k<c.length)(hc:Sm yK c):Ret E n_Z132 [dC (c,()),dI (k:Int)] ⟨o_Z132,(qaF c k,())⟩:=by
 have hks:(c[k]).length≤1048576:=(qbl hc hk).1
 refine qak ?_
 simp only[run_Z132,Z132.ev]
 refine qab (qai hk) ?_
 refine Ev.start (p:=fun φ n=>Z132.l0 (mkR (run E (φ 0))) (φ 0) n (c,()) c[k] 0 []=_) 1 ?_ (fun _ _ _ h=>h)
 by_cases hlen:1<(c[k]).length
 ·refine qao 1 (L:=fun φ n j a=>Z132.l0 (mkR (run E (φ 0))) (φ 0) n (c,()) c[k] j a) (len:=(c[k]).length) (fun j=>(List.range j).map fun i=>qdn c ((c[k]).eraseIdx i)) (fun _ _ _ _ _=>rfl) (fun j r hj ih=>?_) ?_
  ·simp only[Z132.l0_succ _ qaf]
   rw[List.range_succ,List.map_append] at ih
   refine qax (decide_eq_true (by omega)) ?_
   simp only[show decide (((c[k]).length:Int)>1)=true from decide_eq_true (by omega),Z132.j1_eq _ qaf,cond_true]
   refine qaa (qd1 _ j hj hks) (qaa (qbY (c,()) _ hc) (qan (by simp;omega) ?_))
   rw[qae (by omega)];exact ih
  ·simp only[Z132.l0_succ _ qaf]
   refine qaB (decide_eq_false (by omega)) ?_
   simp only[Z132.j1_eq _ qaf,cond_false]
   refine qaj ?_
   rw[qaF,qad hk,qch,if_pos hlen,List.map_map];rfl
 ·refine Ev.round 1 (L:=fun φ n=>Z132.l0 (mkR (run E (φ 0))) (φ 0) n (c,()) c[k] 0 []) ?_ (fun _ _ _=>rfl)
  have hj:Ev fun φ=>Z132.j1 (mkR (run E (φ 0))) (φ 0) (φ 1) (c,()) c[k] 0 false []=some ⟨o_Z132,(qaF c k,())⟩:=by
   simp only[Z132.j1_eq _ qaf,cond_false]
   refine qaj ?_
   rw[qaF,qad hk,qch,if_neg hlen];rfl
  simp only[Z132.l0_succ _ qaf]
  refine qec (fun _=>?_) fun _=>hj
  simp only[show decide (((c[k]).length:Int)>1)=false from decide_eq_false (by omega)]
  exact hj
abbrev Arw:=Int×Int×Int×Unit
noncomputable def qmd(c:List Sim)(k i:Nat):List Arw:=(List.range i).map fun(j:Nat)=>((k:Int),(j:Int),(qaF c k).getD j 0,())
noncomputable def qbQ(c:List Sim):Nat→List Arw
 | 0=>[]
 | k+1=>qbQ c k++qmd c k (qaF c k).length
noncomputable def plc(c:List Sim)(k:Nat):Nat:=(qbQ c k).length
theorem qdN{c:List Sim}{k i:Nat}:(qmd c k i).length=i:=by simp[qmd]
theorem qeH{c:List Sim}{k:Nat}:plc c (k+1)=plc c k+(qaF c k).length:=by
 unfold plc;rw[qbQ,List.length_append,qdN]
theorem VC.len4{c:List Sim}(h:VC c){k:Nat}(hk:k<c.length):(c.getD k []).length≤4:=(h.2.1 k hk).2.1
theorem VC.fIdx4{c:List Sim}(h:VC c){k:Nat}(hk:k<c.length):(qaF c k).length≤4:=by
 have:=h.len4 hk
 rw[qaz];split<;>omega
theorem VC.plc{c:List Sim}(h:VC c):∀ {k:Nat},k≤c.length→plc c k≤4*k
 | 0,_=>by simp[VeT.plc,qbQ]
 | k+1,hk=>by
  have h1:=h.plc (k:=k) (by omega)
  have h2:=h.fIdx4 (k:=k) (by omega)
  rw[qeH];omega
theorem qcr{c:List Sim}:∀ {n k i:Nat},k<n→i<(qaF c k).length→(qbQ c n)[plc c k+i]? = some ((k:Int),(i:Int),(qaF c k).getD i 0,())
 | 0,_,_,h,_=>by omega
 | n+1,k,i,h,hi=>by
  rw[qbQ]
  by_cases hk:k<n
  ·have:=qcr hk hi
   have hl:=(List.getElem?_eq_some_iff.1 this).1
   rw[List.getElem?_append_left hl];exact this
  ·obtain rfl:k=n:=by omega
   rw[List.getElem?_append_right (by unfold plc;omega)]
   rw[show plc c k+i-(qbQ c k).length=i by unfold plc;omega]
   simp[qmd,hi]
theorem qh8{c:List Sim}:∀ {n t:Nat},t<(qbQ c n).length→∃ k i,k<n∧i<(qaF c k).length∧t=plc c k+i
 | 0,_,h=>by simp[qbQ] at h
 | n+1,t,h=>by
  by_cases ht:t<(qbQ c n).length
  ·obtain⟨k,i,h1,h2,h3⟩:=qh8 ht
   exact⟨k,i,by omega,h2,h3⟩
  ·rw[qbQ,List.length_append,qdN] at h
   exact⟨n,t-(qbQ c n).length,by omega,by omega,by unfold plc;omega⟩
theorem qny(c:List Sim)(hc:Sm yK c)(hv:VC c):Ret E n_Z23 [dLL c] ⟨o_Z23,(qbQ c c.length,())⟩:=by
 have hs:=hv.srt
 have h48:=hv.1
 refine qak ?_
 simp only[run_Z23,Z23.ev]
 refine qaa (qhV _) ?_
 refine Ev.start (p:=fun φ n=>Z23.l0 (mkR (run E (φ 0))) (φ 0) n (c.length:Int) 0 c []=_) 1 ?_ (fun _ _ _ h=>h)
 refine qao 1 (L:=fun φ n k a=>Z23.l0 (mkR (run E (φ 0))) (φ 0) n (c.length:Int) k c a) (len:=c.length) (fun k=>qbQ c k) (fun _ _ _ _ _=>rfl) (fun k r hk ih=>?_) ?_
 ·simp only[Z23.l0_succ _ qaf]
  have hpl:=hv.plc (k:=k) (by omega)
  have hf4:=hv.fIdx4 hk
  refine qax (decide_eq_true (by omega)) (qaa (qcW c k hk hc hs) ?_)
  refine Ev.start (p:=fun φ n=>Z23.l1 (mkR (run E (φ 0))) (φ 0) (φ 1) n (k:Int) (c.length:Int) (k:Int) (qaF c k) ((qaF c k).length:Int) 0 c (qbQ c k)=_) 2 ?_ (fun _ _ _ h=>h)
  have:=qao 2 (L:=fun φ n j a=>Z23.l1 (mkR (run E (φ 0))) (φ 0) (φ 1) n (k:Int) (c.length:Int) (k:Int) (qaF c k) ((qaF c k).length:Int) j c a) (len:=(qaF c k).length) (fun j=>qbQ c k++qmd c k j) (r:=r) (fun _ _ _ _ _=>rfl) (fun j r hj ih=>?_) ?_
  ·simpa [qmd] using this
  ·simp only[Z23.l1_succ _ qaf]
   refine qax (decide_eq_true (by omega)) (qab (qai hj) (qan (decide_eq_true ?_) ?_))
   ·rw[List.length_append,qdN];show(_+_+1)*24≤_
    have:(qbQ c k).length=plc c k:=rfl
    omega
   ·rw[qae (by omega)]
    have e:qmd c k (j+1)=qmd c k j++[((k:Int),(j:Int),(qaF c k)[j],())]:=by
     unfold qmd;rw[List.range_succ,List.map_append];simp[List.getD_eq_getElem?_getD,hj]
    rw[e,← List.append_assoc] at ih
    exact ih
  ·simp only[Z23.l1_succ _ qaf]
   refine qaB (decide_eq_false (by omega)) ?_
   rw[qae (by omega)];exact ih
 ·simp only[Z23.l0_succ _ qaf]
  exact qaB (decide_eq_false (by omega)) qam
theorem qc8(c:List Sim)(k i:Nat)(hk:k≤c.length)(hi:i≤1048576)(hv:VC c):Ret E n_Z152 [dC (c,()),dI (k:Int),dI (i:Int)] ⟨o_Z152,(((plc c k+i:Nat):Int),())⟩:=by
 have h48:=hv.1
 refine qak ?_
 simp only[run_Z152,Z152.ev]
 refine Ev.start (p:=fun φ n=>Z152.l0 (mkR (run E (φ 0))) (φ 0) n (c,()) (k:Int) (i:Int) 0 0=_) 1 ?_ (fun _ _ _ h=>h)
 have:=qao 1 (L:=fun φ n j a=>Z152.l0 (mkR (run E (φ 0))) (φ 0) n (c,()) (k:Int) (i:Int) a j) (len:=k) (fun j=>((plc c j:Nat):Int)) (r:=some ⟨o_Z152,(((plc c k+i:Nat):Int),())⟩) (fun _ _ _ _ _=>rfl) (fun j r hj ih=>?_) ?_
 ·exact this
 ·simp only[Z152.l0_succ _ qaf]
  have hjc:j<c.length:=by omega
  have hpl:=hv.plc (k:=j) (by omega)
  have h4:=hv.len4 hjc
  have e:=qeH (c:=c) (k:=j)
  rw[qaz] at e
  rw[qad hjc] at e h4
  refine qax (decide_eq_true (by omega)) (qab (qai hjc) (qec (fun hl=>qab (qai hjc) ?_) fun hl=>?_))
  ·rw[if_pos (by omega)] at e
   rw[qae (by omega),qag (by omega) (by omega)]
   rw[e] at ih
   simpa using ih
  ·rw[if_neg (by omega)] at e
   rw[qae (by omega)]
   rw[e] at ih;exact ih
 ·simp only[Z152.l0_succ _ qaf]
  have hpl:=hv.plc hk
  refine qaB (decide_eq_false (by omega)) (qaj ?_)
  rw[qag (by omega) (by omega)]
  simp
theorem qks(c:List Sim)(hv:VC c):Ret E n_Z143 [dC (c,())] ⟨o_Z143,(((plc c c.length:Nat):Int),())⟩:=by
 refine qak ?_
 simp only[run_Z143,Z143.ev]
 exact qaa (qc8 c c.length 0 (Nat.le_refl _) (by omega) hv) qam
end VeT
open Go Go.Proofs Ve
namespace VeT
def mz:Mat:=(0,0,0,[],())
def QB(p:Int)(st:Sim)(ms:List Mat)(t k:Nat)(f:Int):Prop:=Bt (ms.getD t mz) p (st.getD f.toNat 0) (st.getD k 0)
def VS(c:List Sim)(p:Int)(st:Sim)(ms:List Mat):Prop:=VC c∧Pr p∧SK c st∧plc c c.length=ms.length∧∀ k,k<c.length→∀ i,i<(qaF c k).length→QB p st ms (plc c k+i) k ((qaF c k).getD i 0)
def az:Arw:=(0,0,0,())
def QA(p:Int)(st:Sim)(ms:List Mat)(t:Nat)(a:Arw):Prop:=t<ms.length∧Bt (ms.getD t mz) p (st.getD a.2.2.1.toNat 0) (st.getD a.1.toNat 0)
theorem qov{c:List Sim}{p:Int}{st:Sim}{ms:List Mat}(hl:plc c c.length=ms.length) :
  (∀ t,0≤t→t<plc c c.length→QA p st ms t ((qbQ c c.length).getD t az))↔∀ k,k<c.length→∀ i,i<(qaF c k).length→QB p st ms (plc c k+i) k ((qaF c k).getD i 0):=by
 constructor
 ·intro h k hk i hi
  have hg:=qcr hk hi
  have hlt:=(List.getElem?_eq_some_iff.1 hg).1
  have:=h (plc c k+i) (by omega) hlt
  rw[List.getD_eq_getElem?_getD,hg] at this
  exact this.2
 ·intro h t _ ht
  obtain⟨k,i,hk,hi,rfl⟩:=qh8 ht
  have hg:=qcr hk hi
  have:=h k hk i hi
  rw[List.getD_eq_getElem?_getD,hg]
  exact⟨by omega,this⟩
theorem qnO{ms:List Mat}(h:Sm (.sl (.st cM)) ms){t:Nat}(ht:t<ms.length):Sm (.st cM) ms[t]:=h.2 _ (List.getElem_mem ht)
theorem qfx(c:List Sim)(p:Int)(st:Sim)(ms:List Mat)(hc:Sm yK c)(hst:st.length≤1048576)(hm:Sm (.sl (.st cM)) ms) :
    Ret E n_Z14 [dLL c,dI p,dL st,dMs ms] ⟨o_Z14,(pb (VS c p st ms),())⟩:=by
  have hm1:ms.length≤1048576:=hm.1
  refine qak ?_
  simp only[run_Z14,Z14.ev]
  have no:¬ VS c p st ms→Ev fun φ=>Z14.j0 (mkR (run E (φ 0))) (φ 0) true c p st ms=some ⟨o_Z14,(pb (VS c p st ms),())⟩:=fun h=>by
    simp only[Z14.j0_eq _ qaf,cond_true]
    rw[qar h];(first | exact qam | exact Ev.of fun _=>trivial)
  refine qaa (qgW c hc) (qb7 (fun h=>no fun hv=>qa1.1 (show pb (VC c)=false by simpa using h) hv.1) fun h=>?_)
  have hv:VC c:=qaC.1 (by simpa using h)
  refine qaa (qeW p) (qb7 (fun h=>no fun hv=>qa1.1 (show pb (Pr p)=false by simpa using h) hv.2.1) fun h=>?_)
  have hp:Pr p:=qaC.1 (by simpa using h)
  refine qaa (qjI c st hc hst) ?_
  by_cases hk:SK c st
  · simp only[qaL hk,Bool.not_true,Z14.j0_eq _ qaf,cond_false]
    refine qaa (qny c hc hv) ?_
    have hpl:=hv.plc (Nat.le_refl _)
    have h48:=hv.1
    refine Ev.start (p:=fun φ n=>Z14.l1 (mkR (run E (φ 0))) (φ 0) n (qbQ c c.length) (qbQ c c.length) ((qbQ c c.length).length:Int) 0 c p st ms=_) 1 ?_ (fun _ _ _ h=>h)
    have get:∀ t (ht:t<plc c c.length),∃ k i,k<c.length∧i<(qaF c k).length∧(qbQ c c.length)[t]? = some ((k:Int),(i:Int),(qaF c k).getD i 0,())∧((qaF c k).getD i 0).toNat<st.length∧0≤(qaF c k).getD i 0:=fun t ht=>by
      obtain⟨k,i,hk',hi,rfl⟩:=qh8 ht
      have hb:=qj2 hv hk' (List.getElem_mem hi)
      exact⟨k,i,hk',hi,qcr hk' hi,by rw[qad hi,hk.1];omega,by rw[qad hi];omega⟩
    refine(qcY 1 (L:=fun φ n t=>Z14.l1 (mkR (run E (φ 0))) (φ 0) n (qbQ c c.length) (qbQ c c.length) ((qbQ c c.length).length:Int) t c p st ms) (len:=plc c c.length) 0 (by omega) (fun t=>QA p st ms t ((qbQ c c.length).getD t az)) (fun b=>some ⟨o_Z14,(b&&((plc c c.length:Int)==(ms.length:Int)),())⟩) (fun _ _ _ _=>rfl) (fun t h1 h2 hP _=>?_) (fun t r h1 h2 hP _ ih=>?_) (fun _=>?_)).to ?_
    · simp only[Z14.l1_succ _ qaf]
      obtain⟨k,i,hkc,hi,hg,hf,hf0⟩:=get t h2
      have hlt:t<(qbQ c c.length).length:=h2
      have hgt:(qbQ c c.length)[t]=((k:Int),(i:Int),(qaF c k).getD i 0,()):=by
        rw[List.getElem?_eq_getElem hlt] at hg;exact Option.some.inj hg
      refine qax (decide_eq_true (by omega)) (qab (qai hlt) ?_)
      rw[qad hlt] at hP
      rw[hgt] at hP ⊢
      refine qec (fun hge=>?_) fun hge=>?_
      · simp only[Z14.j2_eq _ qaf,cond_true];(first | exact qam | exact Ev.of fun _=>trivial)
      · have htm:t<ms.length:=by omega
        refine qab (qai htm) ?_
        simp only
        rw[show(qaF c k).getD i 0=((((qaF c k).getD i 0).toNat:Nat):Int) by omega]
        refine qab (qai hf) (qab (qai (show k<st.length by rw[hk.1];exact hkc)) (qaa (qfD _ _ _ _ (qnO hm htm)) ?_))
        have:¬ Bt ms[t] p st[((qaF c k).getD i 0).toNat] (st[k]'(by rw[hk.1];exact hkc)):=fun hb=>hP ⟨htm,by
          simp only[Int.toNat_natCast]
          rw[qad htm,qad hf,qad (s:=st) (k:=k) (by rw[hk.1];exact hkc)];exact hb⟩
        simp only[qar this,Bool.not_false,Z14.j2_eq _ qaf,cond_true];(first | exact qam | exact Ev.of fun _=>trivial)
    · simp only[Z14.l1_succ _ qaf]
      obtain⟨k,i,hkc,hi,hg,hf,hf0⟩:=get t h2
      have hlt:t<(qbQ c c.length).length:=h2
      have hgt:(qbQ c c.length)[t]=((k:Int),(i:Int),(qaF c k).getD i 0,()):=by
        rw[List.getElem?_eq_getElem hlt] at hg;exact Option.some.inj hg
      refine qax (decide_eq_true (by omega)) (qab (qai hlt) ?_)
      rw[qad hlt] at hP
      rw[hgt] at hP ⊢
      obtain⟨htm,hb⟩:=hP
      refine qaB (decide_eq_false (by omega)) (qab (qai htm) ?_)
      simp only
      rw[show(qaF c k).getD i 0=((((qaF c k).getD i 0).toNat:Nat):Int) by omega]
      refine qab (qai hf) (qab (qai (show k<st.length by rw[hk.1];exact hkc)) (qaa (qfD _ _ _ _ (qnO hm htm)) ?_))
      simp only[Int.toNat_natCast] at hb
      rw[qad htm,qad hf,qad (s:=st) (k:=k) (by rw[hk.1];exact hkc)] at hb
      simp only[qaL hb,Bool.not_true,Z14.j2_eq _ qaf,cond_false]
      rw[qae (by omega)];exact ih
    · simp only[Z14.l1_succ _ qaf]
      exact qaB (decide_eq_false (by show ¬ ((plc c c.length:Nat):Int)<((plc c c.length:Nat):Int);omega)) (qaj (by rw[Bool.true_and];rfl))
    · have:(pb (∀ t,0≤t→t<plc c c.length→QA p st ms t ((qbQ c c.length).getD t az))&&((plc c c.length:Int)==(ms.length:Int)))=pb (VS c p st ms):=qfs (by
        rw[Bool.and_eq_true,qaC,beq_iff_eq]
        constructor
        · rintro⟨h1,h2⟩
          have h2:plc c c.length=ms.length:=by omega
          exact⟨hv,hp,hk,h2,(qov h2).1 h1⟩
        · rintro⟨_,_,_,h2,h1⟩
          exact⟨(qov h2).2 h1,by omega⟩)
      rw[this]
  · simp only[qar hk,Bool.not_false]
    exact no fun hv=>hk hv.2.2.1
theorem qng(x:Shf)(k i:Nat)(m:Mat)(hv:VC x.1)(hk:SK x.1 x.2.2.1)(hkc:k<x.1.length)(hi:i<(qaF x.1 k).length)(hc:Sm yK x.1)(hm:Sm (.st cM) m) :
  Ret E n_Z149 [dS x,dI (k:Int),dI (i:Int),dM m] ⟨o_Z149,(pb (Bt m x.2.1 (x.2.2.1.getD ((qaF x.1 k).getD i 0).toNat 0) (x.2.2.1.getD k 0)),())⟩:=by
 have hb:=qj2 hv hkc (List.getElem_mem hi)
 have hks:k<x.2.2.1.length:=by rw[hk.1];exact hkc
 have hfs:((qaF x.1 k)[i]).toNat<x.2.2.1.length:=by rw[hk.1];omega
 rw[qad hi,qad hks,qad hfs]
 refine qak ?_
 simp only[run_Z149,Z149.ev]
 refine qaa (qb5 x.1 k hkc hc) (qab (qai hi) (qaa (qkr m hm) (qb7 (fun h1=>qb7 (fun h2=>qab (qai hks) (qb7 (fun h3=>?_) fun h3=>qaj ?_)) fun h2=>qaj ?_) fun h1=>qaj ?_)))
 ·have e:(qaF x.1 k)[i]=((((qaF x.1 k)[i]).toNat:Nat):Int):=by omega
  refine qab ((congrArg (idx? x.2.2.1) e).trans (qai hfs)) (qaj ?_)
  have:(m.2.2.1==x.2.2.1[((qaF x.1 k)[i]).toNat])=pb (Bt m x.2.1 x.2.2.1[((qaF x.1 k)[i]).toNat] x.2.2.1[k]):=qfs (by
   rw[beq_iff_eq];exact⟨fun h=>⟨qaC.1 h1,by simpa using h2,by simpa using h3,h⟩,fun h=>h.2.2.2⟩)
  simp only[this]
 ·rw[qar fun h=>by have:=h.2.2.1;simp[this] at h3]
 ·rw[qar fun h=>by have:=h.2.1;simp[this] at h2]
 ·rw[qar fun h=>qa1.1 h1 h.1]
theorem qnT(x:Shf)(hx:Sm (.st cS) x):Ret E n_Z151 [dS x] ⟨o_Z151,(pb (VS x.1 x.2.1 x.2.2.1 x.2.2.2.1),())⟩:=by
 have hc:Sm yK x.1:=hx.1
 have hm:Sm (.sl (.st cM)) x.2.2.2.1:=hx.2.2.2.1
 have hst:x.2.2.1.length≤1048576:=hx.2.2.1.1
 refine qak ?_
 simp only[run_Z151,Z151.ev]
 have no:¬ VS x.1 x.2.1 x.2.2.1 x.2.2.2.1→Ev fun φ=>Z151.j0 (mkR (run E (φ 0))) (φ 0) x true=some ⟨o_Z151,(pb (VS x.1 x.2.1 x.2.2.1 x.2.2.2.1),())⟩:=fun h=>by
  simp only[Z151.j0_eq _ qaf,cond_true]
  rw[qar h];(first | exact qam | exact Ev.of fun _=>trivial)
 refine qaa (qot (x.1,()) hc) (qb7 (fun h=>no fun hv=>qa1.1 (show pb (VC x.1)=false by simpa using h) hv.1) fun h=>?_)
 have hv:VC x.1:=qaC.1 (show pb (VC x.1)=true by simpa using h)
 refine qaa (qc7 _) (qb7 (fun h=>no fun hv=>qa1.1 (show pb (Pr x.2.1)=false by simpa using h) hv.2.1) fun h=>?_)
 have hp:Pr x.2.1:=qaC.1 (by simpa using h)
 refine qaa (qjV x.1 x.2.2.1 hc hst) (qb7 (fun h=>no fun hv=>qa1.1 (show pb (SK x.1 x.2.2.1)=false by simpa using h) hv.2.2.1) fun h=>?_)
 have hk:SK x.1 x.2.2.1:=qaC.1 (by simpa using h)
 refine qaa (qks x.1 hv) ?_
 by_cases hl:plc x.1 x.1.length=x.2.2.2.1.length
 ·have h48:=hv.1
  simp only[show((x.2.2.2.1.length:Int) != ((plc x.1 x.1.length:Nat):Int))=false by simp[hl],Z151.j0_eq _ qaf,cond_false]
  refine Ev.start (p:=fun φ n=>Z151.l1 (mkR (run E (φ 0))) (φ 0) n x 0=_) 1 ?_ (fun _ _ _ h=>h)
  let P:Nat→Prop:=fun k=>∀ i,i<(qaF x.1 k).length→QB x.2.1 x.2.2.1 x.2.2.2.1 (plc x.1 k+i) k ((qaF x.1 k).getD i 0)
  have inner:∀(k:Nat) (h2:k<x.1.length) (r:Option Dv),(P k→Ev fun φ=>Z151.l1 (mkR (run E (φ 0))) (φ 0) (φ 1) x ((k+1:Nat):Int)=r)→(¬ P k→r=some ⟨o_Z151,(false,())⟩)→Ev fun φ=>Z151.l2 (mkR (run E (φ 0))) (φ 0) (φ 1) (φ 0) x (k:Int) 0=r:=fun k h2 r hgo hstop=>by
   have h4:=hv.len4 h2
   have hfl:=qaz (c:=x.1) (k:=k)
   rw[qad h2] at h4 hfl
   refine Ev.start (p:=fun φ n=>Z151.l2 (mkR (run E (φ 0))) (φ 0) (φ 1) n x (k:Int) 0=_) 2 ?_ (fun _ _ _ h=>h)
   by_cases hlen:1<(x.1[k]).length
   ·rw[if_pos hlen] at hfl
    have mapAt:∀ i (hi:i<(qaF x.1 k).length),∃ ht:plc x.1 k+i<x.2.2.2.1.length,∀ R,(Ev fun φ=>(bif (!pb (Bt x.2.2.2.1[plc x.1 k+i] x.2.1 (x.2.2.1.getD ((qaF x.1 k).getD i 0).toNat 0) (x.2.2.1.getD k 0))) then some ⟨o_Z151,(false,())⟩ else Z151.l2 (mkR (run E (φ 0))) (φ 0) (φ 1) (φ 2) x (k:Int) (w64 ((i:Int)+1)))=R)→Ev fun φ=>Z151.j3 (mkR (run E (φ 0))) (φ 0) (φ 1) (φ 2) x (k:Int) (i:Int) true=R:=fun i hi=>by
     have hg:=qcr h2 hi
     have hlt:=(List.getElem?_eq_some_iff.1 hg).1
     have ht:plc x.1 k+i<x.2.2.2.1.length:=by rw[← hl];exact hlt
     refine⟨ht,fun R hR=>?_⟩
     simp only[Z151.j3_eq _ qaf,cond_true]
     refine qaa (qc8 x.1 k i (by omega) (by omega) hv) (qab (qai ht) (qaa (qng x k i _ hv hk h2 hi hc (qnO hm ht)) hR))
    obtain⟨t,f⟩:=qj7 2 (L:=fun φ n i=>Z151.l2 (mkR (run E (φ 0))) (φ 0) (φ 1) n x (k:Int) i) (len:=(x.1[k]).length) 0 (by omega) (fun i=>QB x.2.1 x.2.2.1 x.2.2.2.1 (plc x.1 k+i) k ((qaF x.1 k).getD i 0)) (rt:=r) (rf:=some ⟨o_Z151,(false,())⟩) (fun _ _ _ _=>rfl) (fun i _ hi hP _=>by
     obtain⟨ht,hm'⟩:=mapAt i (by omega)
     simp only[Z151.l2_succ _ qaf]
     refine qab (qai h2) (qax (decide_eq_true (by omega)) (qab (qai h2) ?_))
     simp only[show decide (((x.1[k]).length:Int)>1)=true from decide_eq_true (by omega)]
     refine hm' _ (qax ?_ qam)
     rw[qar];· rfl
     intro hb;refine hP ?_
     show Bt _ _ _ _
     rw[qad ht];exact hb) (fun i q _ hi hP _ ih=>by
     obtain⟨ht,hm'⟩:=mapAt i (by omega)
     simp only[Z151.l2_succ _ qaf]
     refine qab (qai h2) (qax (decide_eq_true (by omega)) (qab (qai h2) ?_))
     simp only[show decide (((x.1[k]).length:Int)>1)=true from decide_eq_true (by omega)]
     refine hm' _ (qaB ?_ ?_)
     ·have hP:Bt (x.2.2.2.1.getD (plc x.1 k+i) mz) _ _ _:=hP
      rw[qad ht] at hP
      rw[qaL hP];rfl
     ·rw[qae (by omega)];exact ih) (fun hall=>by
     simp only[Z151.l2_succ _ qaf]
     refine qab (qai h2) (qaB (decide_eq_false (by omega)) ?_)
     simp only[Z151.j3_eq _ qaf,cond_false]
     rw[qae (by omega)]
     exact hgo fun i hi=>hall i (by omega) (by omega))
    by_cases hall:∀ i,0≤i→i<(x.1[k]).length→QB x.2.1 x.2.2.1 x.2.2.2.1 (plc x.1 k+i) k ((qaF x.1 k).getD i 0)
    ·exact t hall
    ·rw[hstop fun hf=>hall fun i _ hi=>hf i (by omega)]
     exact f hall
   ·rw[if_neg hlen] at hfl
    refine Ev.round 2 (L:=fun φ n=>Z151.l2 (mkR (run E (φ 0))) (φ 0) (φ 1) n x (k:Int) 0) ?_ (fun _ _ _=>rfl)
    have hgo:=hgo fun i hi=>by omega
    have hj:Ev fun φ=>Z151.j3 (mkR (run E (φ 0))) (φ 0) (φ 1) (φ 2) x (k:Int) 0 false=r:=by
     simp only[Z151.j3_eq _ qaf,cond_false]
     rw[qae (by omega)];exact hgo
    simp only[Z151.l2_succ _ qaf]
    refine qab (qai h2) (qec (fun _=>qab (qai h2) ?_) fun _=>hj)
    simp only[show decide (((x.1[k]).length:Int)>1)=false from decide_eq_false (by omega)]
    exact hj
  refine(qcY 1 (L:=fun φ n k=>Z151.l1 (mkR (run E (φ 0))) (φ 0) n x k) (len:=x.1.length) 0 (by omega) P (fun b=>some ⟨o_Z151,(b,())⟩) (fun _ _ _ _=>rfl) (fun k h1 h2 hP hpre=>?_) (fun k r h1 h2 hP hpre ih=>?_) (fun _=>?_)).to ?_
  ·simp only[Z151.l1_succ _ qaf]
   exact qax (decide_eq_true (by omega)) (inner k h2 _ (fun h=>absurd h hP) fun _=>rfl)
  ·simp only[Z151.l1_succ _ qaf]
   exact qax (decide_eq_true (by omega)) (inner k h2 _ (fun _=>ih) fun h=>absurd hP h)
  ·simp only[Z151.l1_succ _ qaf]
   exact qaB (decide_eq_false (by omega)) qam
  ·exact congrArg (fun b:Bool=>some (⟨o_Z151,(b,())⟩:Dv)) (qaN ⟨fun h=>⟨hv,hp,hk,hl,fun k hk'=>h k (by omega) hk'⟩,fun h k _ hk'=>h.2.2.2.2 k hk'⟩)
 ·simp only[show((x.2.2.2.1.length:Int) != ((plc x.1 x.1.length:Nat):Int))=true by simp;omega]
  exact no fun h=>hl h.2.2.2.1
end VeT
open Go Go.Proofs Ve
namespace VeT
theorem qjx(x:Shf)(hx:Sm (.st cS) x):Ret E n_Z14 [dLL x.1,dI x.2.1,dL x.2.2.1,dMs x.2.2.2.1] ⟨o_Z14,(pb (VS x.1 x.2.1 x.2.2.1 x.2.2.2.1),())⟩ :=
 qfx x.1 x.2.1 x.2.2.1 x.2.2.2.1 hx.1 hx.2.2.1.1 hx.2.2.2.1
end VeT
