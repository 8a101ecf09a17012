import Derived.Test.YtmedfcilbiogmaaGreatT3
import Derived.Test.YtmedfcilbiogmaaGreatV2
import Derived.Test.YtmedfcilbiogmaaGreatT4
import Derived.Test.YtmedfcilbiogmaaGreatProg
import Derived.KernelRfl
import Derived.WalkKit
import Derived.Lib.Walk
import Derived.Lib.SliceRun
import Derived.Lib.AppendZerosOnto
set_option linter.unusedVariables false
set_option linter.unusedSimpArgs false
open Go Go.Proofs Ve
set_option linter.unusedVariables false
set_option maxRecDepth 100000
namespace VeT
/-! loop.example/g01005/impl.conditions -/
noncomputable def impl_conditions.l1 (R:Run) (N:Nat) (n00_:Nat) (n:Nat) (n_20:Int) (v_21:Int) (t18__22:(List Int)) (t19__23:Int) (t20__24:Int) (t31__25:vK) (t32__26:Int) (t33__27:Int) (s_28:vK) (s_29:Int) (s_30:(List Int)) (s_31:vN) (o4_32:Int) (o4_33:Int) (o4_34:Int) (o62_35:vK):Option Dv := R.w (some ⟨(V.dead::(V.dead::(.c (.box 2 0)::(V.dead::(.c (.box 4 0)::(.c (.d yI n_20)::(.c (.arr 62)::(V.dead::(V.dead::(.c (.d yI v_21)::(zd 8 (.c (.d yL t18__22)::(.c (.d yI t19__23)::(.c (.d yI t20__24)::(zd 10 (.c (.d yK t31__25)::(.c (.d yI t32__26)::(.c (.d yI t33__27)::(zd 23 []))))))))))))))))))),(none::(none::(some (.box [.d yK s_28,.d yI s_29,.d yL s_30,.d yN s_31] false false)::(none::(some (.box [.d yI o4_32,.d yI o4_33,.d yI o4_34,.nils yI] false false)::(zo 57 (some (.arr yL o62_35 true false false)::(none::[]))))))))⟩) fun st => lC R pol_impl_conditions 8 N [1,1,1,0,1,0,0,1,1,0,0,1,1,1,0,0] F_impl_conditions n st (kB R pol_impl_conditions 2 (kB R pol_impl_conditions 1 (kS R pol_impl_conditions 14 N [1,1,1,0,1,0,0,1,1,1] F_impl_conditions (kL R pol_impl_conditions 4 N [1,1,1,0,1,0,0] F_impl_conditions n00_ (kB R pol_impl_conditions 0 (kS R pol_impl_conditions 15 N [1,1,1,1] F_impl_conditions (kTop E sg_impl_conditions F_impl_conditions)))))))
noncomputable def impl_conditions.l0 (R:Run) (N:Nat) (n:Nat) (n_4:Int) (t18__5:(List Int)) (t19__6:Int) (t20__7:Int) (s_8:vK) (s_9:Int) (s_10:(List Int)) (s_11:vN) (o4_12:Int) (o4_13:Int) (o4_14:Int) (o62_15:vK):Option Dv := R.w (some ⟨(V.dead::(V.dead::(.c (.box 2 0)::(V.dead::(.c (.box 4 0)::(.c (.d yI n_4)::(.c (.arr 62)::(zd 11 (.c (.d yL t18__5)::(.c (.d yI t19__6)::(.c (.d yI t20__7)::(zd 36 [])))))))))))),(none::(none::(some (.box [.d yK s_8,.d yI s_9,.d yL s_10,.d yN s_11] false false)::(none::(some (.box [.d yI o4_12,.d yI o4_13,.d yI o4_14,.nils yI] false false)::(zo 57 (some (.arr yL o62_15 true false false)::(none::[]))))))))⟩) fun st => lC R pol_impl_conditions 4 N [1,1,1,0,1,0,0] F_impl_conditions n st (kB R pol_impl_conditions 0 (kS R pol_impl_conditions 15 N [1,1,1,1] F_impl_conditions (kTop E sg_impl_conditions F_impl_conditions)))
theorem impl_conditions.l1_succ (R:Run) (hw:R.ok) (N:Nat) (n00_:Nat) (n:Nat) (n_20:Int) (v_21:Int) (t18__22:(List Int)) (t19__23:Int) (t20__24:Int) (t31__25:vK) (t32__26:Int) (t33__27:Int) (s_28:vK) (s_29:Int) (s_30:(List Int)) (s_31:vN) (o4_32:Int) (o4_33:Int) (o4_34:Int) (o62_35:vK):impl_conditions.l1 R N n00_ (n + 1) n_20 v_21 t18__22 t19__23 t20__24 t31__25 t32__26 t33__27 s_28 s_29 s_30 s_31 o4_32 o4_33 o4_34 o62_35 = (bif (decide (t33__27 < t32__26)) then ((idx? t31__25 t33__27).bind fun y36 => ((chk (decide (0 ≤ n_20) && decide (n_20 * 8 ≤ 70368744177664))).bind fun _ => ((callT R n_impl_firstColumn o_impl_firstColumn [⟨yK,s_28⟩,⟨yI,s_29⟩,⟨yL,s_30⟩,⟨yN,s_31⟩,⟨yI,v_21⟩]).bind fun r37 => ((chk (decide (0 ≤ r37.1) && decide (r37.1 ≤ (List.length (List.replicate (Int.toNat n_20) (0:Int)):Int)))).bind fun _ => ((chk (decide ((Int.toNat r37.1) ≤ (List.length (List.replicate (Int.toNat n_20) (0:Int)))) && decide ((List.length (List.replicate (Int.toNat n_20) (0:Int))) ≤ List.length (List.replicate (Int.toNat n_20) (0:Int))))).bind fun _ => ((chk (decide ((List.length o62_35 + List.length [(List.take (Int.toNat r37.1) (List.replicate (Int.toNat n_20) (0:Int)) ++ (List.take ((List.length (List.replicate (Int.toNat n_20) (0:Int))) - (Int.toNat r37.1)) (y36,()).1) ++ List.drop ((Int.toNat r37.1) + List.length (List.take ((List.length (List.replicate (Int.toNat n_20) (0:Int))) - (Int.toNat r37.1)) (y36,()).1)) (List.replicate (Int.toNat n_20) (0:Int)))]) * 24 ≤ 70368744177664))).bind fun _ => (impl_conditions.l1 R N n00_ n n_20 v_21 t18__22 t19__23 t20__24 t31__25 t32__26 (w64 (t33__27 + (1:Int))) s_28 s_29 s_30 s_31 o4_32 o4_33 o4_34 (o62_35 ++ [(List.take (Int.toNat r37.1) (List.replicate (Int.toNat n_20) (0:Int)) ++ (List.take ((List.length (List.replicate (Int.toNat n_20) (0:Int))) - (Int.toNat r37.1)) (y36,()).1) ++ List.drop ((Int.toNat r37.1) + List.length (List.take ((List.length (List.replicate (Int.toNat n_20) (0:Int))) - (Int.toNat r37.1)) (y36,()).1)) (List.replicate (Int.toNat n_20) (0:Int)))])))))))) else (impl_conditions.l0 R N n00_ n_20 t18__22 t19__23 (w64 (t20__24 + (1:Int))) s_28 s_29 s_30 s_31 o4_32 o4_33 o4_34 o62_35)) := (hw _ _).trans (by kernel_rfl)
theorem impl_conditions.l0_succ (R:Run) (hw:R.ok) (N:Nat) (n:Nat) (n_4:Int) (t18__5:(List Int)) (t19__6:Int) (t20__7:Int) (s_8:vK) (s_9:Int) (s_10:(List Int)) (s_11:vN) (o4_12:Int) (o4_13:Int) (o4_14:Int) (o62_15:vK):impl_conditions.l0 R N (n + 1) n_4 t18__5 t19__6 t20__7 s_8 s_9 s_10 s_11 o4_12 o4_13 o4_14 o62_15 = (bif (decide (t20__7 < t19__6)) then ((idx? t18__5 t20__7).bind fun y16 => ((callT R n_impl_firstVertex o_impl_firstVertex [⟨yK,s_8⟩,⟨yI,s_9⟩,⟨yL,s_10⟩,⟨yN,s_11⟩,⟨yI,(y16,()).1⟩]).bind fun r17 => ((callT R n_impl_restriction o_impl_restriction [⟨yK,s_8⟩,⟨yI,s_9⟩,⟨yL,s_10⟩,⟨yN,s_11⟩,⟨yI,r17.1⟩,⟨yI,(y16,()).1⟩]).bind fun r18 => ((callT R n_impl_rowsOf o_impl_rowsOf [⟨yI,r18.1⟩,⟨yI,r18.2.1⟩,⟨yI,r18.2.2.1⟩,⟨yL,r18.2.2.2.1⟩]).bind fun r19 => (impl_conditions.l1 R N n N n_4 r17.1 t18__5 t19__6 t20__7 r19.1 (List.length r19.1:Int) (0:Int) s_8 s_9 s_10 s_11 o4_12 o4_13 o4_14 o62_15))))) else ((callT R n_impl_matrixOf o_impl_matrixOf [⟨yI,s_9⟩,⟨yI,n_4⟩,⟨yK,o62_15⟩]).bind fun r66 => some ⟨o_impl_conditions,(r66.1,r66.2.1,r66.2.2.1,r66.2.2.2.1,())⟩)) := (hw _ _).trans (by kernel_rfl)
theorem impl_conditions.ev (R:Run) (N:Nat) (a0:vK) (a1:Int) (a2:(List Int)) (a3:vN) (a4:(List Int)):evFn E R sg_impl_conditions pol_impl_conditions F_impl_conditions N [⟨yK,a0⟩,⟨yI,a1⟩,⟨yL,a2⟩,⟨yN,a3⟩,⟨yL,a4⟩] = ((callT R n_impl_stalkSum o_impl_stalkSum [⟨yK,a0⟩,⟨yI,a1⟩,⟨yL,a2⟩,⟨yN,a3⟩,⟨yI,(0:Int)⟩]).bind fun r1 => ((callT R n_impl_coboundaryMatrix o_impl_coboundaryMatrix [⟨yK,a0⟩,⟨yI,a1⟩,⟨yL,a2⟩,⟨yN,a3⟩,⟨yI,(0:Int)⟩]).bind fun r2 => ((callT R n_impl_rowsOf o_impl_rowsOf [⟨yI,r2.1⟩,⟨yI,r2.2.1⟩,⟨yI,r2.2.2.1⟩,⟨yL,r2.2.2.2.1⟩]).bind fun r3 => (impl_conditions.l0 R N N r1.1 a4 (List.length a4:Int) (0:Int) a0 a1 a2 a3 (0:Int) (0:Int) (0:Int) r3.1)))) := by kernel_rfl
/-! loop.example/g01005/impl.eliminate$1 -/
theorem impl_eliminate_1.ev (R:Run) (N:Nat) (a0:(List Int)) (a1:(Int × Unit)):evFn E R sg_impl_eliminate_1 pol_impl_eliminate_1 F_impl_eliminate_1 N [⟨yL,a0⟩,⟨(.ptr (.cons yI .nil)),a1⟩] = ((idx? a0 a1.1).bind fun y1 => some ⟨o_impl_eliminate_1,(((y1,()).1 != (0:Int)),())⟩) := by kernel_rfl
/-! slices.IndexFunc[[][]int64,[]int64] -/
noncomputable def slices_IndexFunc_SSint64_Sint64_impl_eliminate_1.l0 (R:Run) (N:Nat) (n:Nat) (s_1:vK) (f_2:((Int × Unit) × Unit)) (t7__3:Int) (t8__4:Int):Option Dv := R.w (some ⟨(.c (.d yK s_1)::(.c (.d (.fn n_impl_eliminate_1 (.cons (.ptr (.cons yI .nil)) .nil)) f_2)::(zd 5 (.c (.d yI t7__3)::(.c (.d yI t8__4)::(zd 10 [])))))),(zo 21 [])⟩) fun st => lC R pol_slices_IndexFunc_SSint64_Sint64 2 N [1,0,1,0,0] F_slices_IndexFunc_SSint64_Sint64 n st (kB R pol_slices_IndexFunc_SSint64_Sint64 0 (kS R pol_slices_IndexFunc_SSint64_Sint64 7 N [1,1] F_slices_IndexFunc_SSint64_Sint64 (kTop E sg_slices_IndexFunc_SSint64_Sint64 F_slices_IndexFunc_SSint64_Sint64)))
theorem slices_IndexFunc_SSint64_Sint64_impl_eliminate_1.l0_succ (R:Run) (hw:R.ok) (N:Nat) (n:Nat) (s_1:vK) (f_2:((Int × Unit) × Unit)) (t7__3:Int) (t8__4:Int):slices_IndexFunc_SSint64_Sint64_impl_eliminate_1.l0 R N (n + 1) s_1 f_2 t7__3 t8__4 = (bif (decide (t8__4 < t7__3)) then ((idx? s_1 t8__4).bind fun y5 => ((callT R n_impl_eliminate_1 o_impl_eliminate_1 [⟨yL,(y5,()).1⟩,⟨(.ptr (.cons yI .nil)),f_2.1⟩]).bind fun r6 => (bif r6.1 then some ⟨o_slices_IndexFunc_SSint64_Sint64,(t8__4,())⟩ else (slices_IndexFunc_SSint64_Sint64_impl_eliminate_1.l0 R N n s_1 f_2 t7__3 (w64 (t8__4 + (1:Int))))))) else some ⟨o_slices_IndexFunc_SSint64_Sint64,((-1:Int),())⟩) := (hw _ _).trans (by kernel_rfl)
theorem slices_IndexFunc_SSint64_Sint64_impl_eliminate_1.ev (R:Run) (N:Nat) (a0:vK) (a1:((Int × Unit) × Unit)):evFn E R sg_slices_IndexFunc_SSint64_Sint64 pol_slices_IndexFunc_SSint64_Sint64 F_slices_IndexFunc_SSint64_Sint64 N [⟨yK,a0⟩,⟨(.fn n_impl_eliminate_1 (.cons (.ptr (.cons yI .nil)) .nil)),a1⟩] = (slices_IndexFunc_SSint64_Sint64_impl_eliminate_1.l0 R N N a0 a1 (List.length a0:Int) (0:Int)) := by kernel_rfl
/-! loop.example/g01005/impl.reduce -/
theorem impl_reduce.ev (R:Run) (N:Nat) (a0:Int) (a1:Int):evFn E R sg_impl_reduce pol_impl_reduce F_impl_reduce N [⟨yI,a0⟩,⟨yI,a1⟩] = ((chk (a1 != 0)).bind fun _ => ((chk (a1 != 0)).bind fun _ => some ⟨o_impl_reduce,((Int.tmod (w64 ((Int.tmod a0 a1) + a1)) a1),())⟩)) := by kernel_rfl
/-! loop.example/g01005/impl.powerOf -/
noncomputable def impl_powerOf.l0 (R:Run) (N:Nat) (n:Nat) (a_1:Int) (n_2:Int) (p_3:Int) (power_4:Int):Option Dv := R.w (some ⟨(.c (.d yI a_1)::(.c (.d yI n_2)::(.c (.d yI p_3)::(zd 4 (.c (.d yI power_4)::(zd 18 [])))))),(zo 29 [])⟩) fun st => lC R pol_impl_powerOf 2 N [1,1,0,0,0] F_impl_powerOf n st (kB R pol_impl_powerOf 0 (kS R pol_impl_powerOf 7 N [1,1,1] F_impl_powerOf (kTop E sg_impl_powerOf F_impl_powerOf)))
theorem impl_powerOf.l0_succ (R:Run) (hw:R.ok) (N:Nat) (n:Nat) (a_1:Int) (n_2:Int) (p_3:Int) (power_4:Int):impl_powerOf.l0 R N (n + 1) a_1 n_2 p_3 power_4 = (bif (decide (n_2 > (0:Int))) then (bif ((Int.tmod n_2 (2:Int)) == (1:Int)) then ((chk (p_3 != 0)).bind fun _ => ((chk (p_3 != 0)).bind fun _ => (impl_powerOf.l0 R N n (Int.tmod (w64 (a_1 * a_1)) p_3) (w64 (Int.tdiv n_2 (2:Int))) p_3 (Int.tmod (w64 (power_4 * a_1)) p_3)))) else ((chk (p_3 != 0)).bind fun _ => (impl_powerOf.l0 R N n (Int.tmod (w64 (a_1 * a_1)) p_3) (w64 (Int.tdiv n_2 (2:Int))) p_3 power_4))) else some ⟨o_impl_powerOf,(power_4,())⟩) := (hw _ _).trans (by kernel_rfl)
theorem impl_powerOf.ev (R:Run) (N:Nat) (a0:Int) (a1:Int) (a2:Int):evFn E R sg_impl_powerOf pol_impl_powerOf F_impl_powerOf N [⟨yI,a0⟩,⟨yI,a1⟩,⟨yI,a2⟩] = (impl_powerOf.l0 R N N a0 a1 a2 (1:Int)) := by kernel_rfl
/-! loop.example/g01005/impl.inverseOf -/
theorem impl_inverseOf.ev (R:Run) (N:Nat) (a0:Int) (a1:Int):evFn E R sg_impl_inverseOf pol_impl_inverseOf F_impl_inverseOf N [⟨yI,a0⟩,⟨yI,a1⟩] = ((callT R n_impl_powerOf o_impl_powerOf [⟨yI,a0⟩,⟨yI,(w64 (a1 - (2:Int)))⟩,⟨yI,a1⟩]).bind fun r1 => some ⟨o_impl_inverseOf,(r1.1,())⟩) := by kernel_rfl
/-! loop.example/g01005/impl.addTimes -/
noncomputable def impl_addTimes.l0 (R:Run) (N:Nat) (n:Nat) (a_1:(List Int)) (b_2:(List Int)) (c_3:Int) (p_4:Int) (t12__5:Int) (t13__6:Int) (o31_7:(List Int)):Option Dv := R.w (some ⟨(.c (.d yL a_1)::(.c (.d yL b_2)::(.c (.d yI c_3)::(.c (.d yI p_4)::(zd 5 (.c (.arr 31)::(V.dead::(V.dead::(.c (.d yI t12__5)::(.c (.d yI t13__6)::(zd 20 []))))))))))),(zo 31 (some (.arr yI o31_7 true false false)::(zo 6 [])))⟩) fun st => lC R pol_impl_addTimes 3 N [1,1,0,1,0,0] F_impl_addTimes n st (kB R pol_impl_addTimes 0 (kS R pol_impl_addTimes 7 N [1,1,1] F_impl_addTimes (kTop E sg_impl_addTimes F_impl_addTimes)))
theorem impl_addTimes.l0_succ (R:Run) (hw:R.ok) (N:Nat) (n:Nat) (a_1:(List Int)) (b_2:(List Int)) (c_3:Int) (p_4:Int) (t12__5:Int) (t13__6:Int) (o31_7:(List Int)):impl_addTimes.l0 R N (n + 1) a_1 b_2 c_3 p_4 t12__5 t13__6 o31_7 = (bif (decide (t13__6 < t12__5)) then ((idx? a_1 t13__6).bind fun y8 => ((idx? b_2 t13__6).bind fun y9 => ((chk (p_4 != 0)).bind fun _ => ((chk (decide ((List.length o31_7 + List.length [(Int.tmod (w64 ((y8,()).1 + (w64 (c_3 * (y9,()).1)))) p_4)]) * 8 ≤ 70368744177664))).bind fun _ => (impl_addTimes.l0 R N n a_1 b_2 c_3 p_4 t12__5 (w64 (t13__6 + (1:Int))) (o31_7 ++ [(Int.tmod (w64 ((y8,()).1 + (w64 (c_3 * (y9,()).1)))) p_4)])))))) else some ⟨o_impl_addTimes,(o31_7,())⟩) := (hw _ _).trans (by kernel_rfl)
theorem impl_addTimes.ev (R:Run) (N:Nat) (a0:(List Int)) (a1:(List Int)) (a2:Int) (a3:Int):evFn E R sg_impl_addTimes pol_impl_addTimes F_impl_addTimes N [⟨yL,a0⟩,⟨yL,a1⟩,⟨yI,a2⟩,⟨yI,a3⟩] = (impl_addTimes.l0 R N N a0 a1 a2 a3 (List.length a0:Int) (0:Int) ([]:List Int)) := by kernel_rfl
/-! loop.example/g01005/impl.eliminate -/
noncomputable def impl_eliminate.j4 (R:Run) (N:Nat) (n00_:Nat) (n01_:Nat) (t1__55:Int) (t2__56:Int) (t9__57:Int) (t11__58:Int) (t14__59:Int) (t15__60:(List Int)) (t16__61:Int) (t17__62:Int) (t80__63:Int) (t81__64:Int) (t95__65:Bool) (o10_66:Int) (o116_67:(List Int)) (o120_68:vK):Option Dv := R.w (some ⟨(.c (.arr 120)::(.c (.d yI t1__55)::(.c (.d yI t2__56)::(zd 5 (.c (.arr 116)::(.c (.d yI t9__57)::(.c (.box 10 0)::(.c (.d yI t11__58)::(V.dead::(V.dead::(.c (.d yI t14__59)::(.c (.d yL t15__60)::(.c (.d yI t16__61)::(.c (.d yI t17__62)::(zd 61 (.c (.arr 120)::(.c (.d yI t80__63)::(.c (.d yI t81__64)::(zd 13 (.c (.d .bool t95__65)::(zd 24 []))))))))))))))))))))),(zo 10 (some (.box [.d yI o10_66] true false)::(zo 105 (some (.arr yI o116_67 true false false)::(zo 3 (some (.arr yL o120_68 false false true)::(zo 4 [])))))))⟩) fun st => eC R pol_impl_eliminate N [1,1,1,0,1,0,0,1,1,0,0,1,1,1,1,1,1,1,1,0,1,0,0,1,1,0,0,1,1] F_impl_eliminate st (kB R pol_impl_eliminate 3 (kS R pol_impl_eliminate 21 N [1,1,1,0,1,0,0,1,1,0,0,1,1,1,1,1,1,1,1,0,1,0,0,1,1,1] F_impl_eliminate (kL R pol_impl_eliminate 17 N [1,1,1,0,1,0,0,1,1,0,0,1,1,1,1,1,1,1,1,0,1,0,0] F_impl_eliminate n01_ (kB R pol_impl_eliminate 2 (kS R pol_impl_eliminate 22 N [1,1,1,0,1,0,0,1,1,0,0,1,1,1,1,1,1,1,1,1] F_impl_eliminate (kB R pol_impl_eliminate 1 (kS R pol_impl_eliminate 23 N [1,1,1,0,1,0,0,1,1,1] F_impl_eliminate (kL R pol_impl_eliminate 4 N [1,1,1,0,1,0,0] F_impl_eliminate n00_ (kB R pol_impl_eliminate 0 (kS R pol_impl_eliminate 24 N [1,1,1,1] F_impl_eliminate (kTop E sg_impl_eliminate F_impl_eliminate)))))))))))
noncomputable def impl_eliminate.l3 (R:Run) (N:Nat) (n00_:Nat) (n:Nat) (t1__42:Int) (t2__43:Int) (t9__44:Int) (t11__45:Int) (t16__46:Int) (t17__47:Int) (t80__48:Int) (t81__49:Int) (o10_50:Int) (o116_51:(List Int)) (o120_52:vK):Option Dv := R.w (some ⟨(.c (.arr 120)::(.c (.d yI t1__42)::(.c (.d yI t2__43)::(zd 5 (.c (.arr 116)::(.c (.d yI t9__44)::(.c (.box 10 0)::(.c (.d yI t11__45)::(zd 4 (.c (.d yI t16__46)::(.c (.d yI t17__47)::(zd 61 (.c (.arr 120)::(.c (.d yI t80__48)::(.c (.d yI t81__49)::(zd 38 [])))))))))))))))),(zo 10 (some (.box [.d yI o10_50] true false)::(zo 105 (some (.arr yI o116_51 true false false)::(zo 3 (some (.arr yL o120_52 false false true)::(zo 4 [])))))))⟩) fun st => lC R pol_impl_eliminate 17 N [1,1,1,0,1,0,0,1,1,0,0,1,1,1,1,1,1,1,1,0,1,0,0] F_impl_eliminate n st (kB R pol_impl_eliminate 2 (kS R pol_impl_eliminate 22 N [1,1,1,0,1,0,0,1,1,0,0,1,1,1,1,1,1,1,1,1] F_impl_eliminate (kB R pol_impl_eliminate 1 (kS R pol_impl_eliminate 23 N [1,1,1,0,1,0,0,1,1,1] F_impl_eliminate (kL R pol_impl_eliminate 4 N [1,1,1,0,1,0,0] F_impl_eliminate n00_ (kB R pol_impl_eliminate 0 (kS R pol_impl_eliminate 24 N [1,1,1,1] F_impl_eliminate (kTop E sg_impl_eliminate F_impl_eliminate))))))))
noncomputable def impl_eliminate.j2 (R:Run) (N:Nat) (n00_:Nat) (t1__33:Int) (t2__34:Int) (t9__35:Int) (t11__36:Int) (t16__37:Int) (t17__38:Int) (o10_39:Int) (o116_40:(List Int)) (o120_41:vK):Option Dv := R.w (some ⟨(.c (.arr 120)::(.c (.d yI t1__33)::(.c (.d yI t2__34)::(zd 5 (.c (.arr 116)::(.c (.d yI t9__35)::(.c (.box 10 0)::(.c (.d yI t11__36)::(zd 4 (.c (.d yI t16__37)::(.c (.d yI t17__38)::(zd 102 [])))))))))))),(zo 10 (some (.box [.d yI o10_39] true false)::(zo 105 (some (.arr yI o116_40 true false false)::(zo 3 (some (.arr yL o120_41 false false true)::(zo 4 [])))))))⟩) fun st => eC R pol_impl_eliminate N [1,1,1,0,1,0,0,1,1,0,0,1,1,1,1,1,1,1,1] F_impl_eliminate st (kB R pol_impl_eliminate 1 (kS R pol_impl_eliminate 23 N [1,1,1,0,1,0,0,1,1,1] F_impl_eliminate (kL R pol_impl_eliminate 4 N [1,1,1,0,1,0,0] F_impl_eliminate n00_ (kB R pol_impl_eliminate 0 (kS R pol_impl_eliminate 24 N [1,1,1,1] F_impl_eliminate (kTop E sg_impl_eliminate F_impl_eliminate))))))
noncomputable def impl_eliminate.j1 (R:Run) (N:Nat) (n00_:Nat) (t1__19:Int) (t2__20:Int) (t9__21:Int) (t11__22:Int) (t16__23:Int) (t17__24:Int) (o10_25:Int) (o116_26:(List Int)) (o120_27:vK):Option Dv := R.w (some ⟨(.c (.arr 120)::(.c (.d yI t1__19)::(.c (.d yI t2__20)::(zd 5 (.c (.arr 116)::(.c (.d yI t9__21)::(.c (.box 10 0)::(.c (.d yI t11__22)::(zd 4 (.c (.d yI t16__23)::(.c (.d yI t17__24)::(zd 102 [])))))))))))),(zo 10 (some (.box [.d yI o10_25] true false)::(zo 105 (some (.arr yI o116_26 true false false)::(zo 3 (some (.arr yL o120_27 false false true)::(zo 4 [])))))))⟩) fun st => eC R pol_impl_eliminate N [1,1,1,0,1,0,0,1,1,0,0,1,1,1,1,1] F_impl_eliminate st (kB R pol_impl_eliminate 1 (kS R pol_impl_eliminate 23 N [1,1,1,0,1,0,0,1,1,1] F_impl_eliminate (kL R pol_impl_eliminate 4 N [1,1,1,0,1,0,0] F_impl_eliminate n00_ (kB R pol_impl_eliminate 0 (kS R pol_impl_eliminate 24 N [1,1,1,1] F_impl_eliminate (kTop E sg_impl_eliminate F_impl_eliminate))))))
noncomputable def impl_eliminate.l0 (R:Run) (N:Nat) (n:Nat) (t1__1:Int) (t2__2:Int) (t9__3:Int) (t16__4:Int) (t17__5:Int) (o116_6:(List Int)) (o120_7:vK):Option Dv := R.w (some ⟨(.c (.arr 120)::(.c (.d yI t1__1)::(.c (.d yI t2__2)::(zd 5 (.c (.arr 116)::(.c (.d yI t9__3)::(zd 6 (.c (.d yI t16__4)::(.c (.d yI t17__5)::(zd 102 [])))))))))),(zo 116 (some (.arr yI o116_6 true false false)::(zo 3 (some (.arr yL o120_7 false false true)::(zo 4 [])))))⟩) fun st => lC R pol_impl_eliminate 4 N [1,1,1,0,1,0,0] F_impl_eliminate n st (kB R pol_impl_eliminate 0 (kS R pol_impl_eliminate 24 N [1,1,1,1] F_impl_eliminate (kTop E sg_impl_eliminate F_impl_eliminate)))
theorem impl_eliminate.j4_eq (R:Run) (hw:R.ok) (N:Nat) (n00_:Nat) (n01_:Nat) (t1__55:Int) (t2__56:Int) (t9__57:Int) (t11__58:Int) (t14__59:Int) (t15__60:(List Int)) (t16__61:Int) (t17__62:Int) (t80__63:Int) (t81__64:Int) (t95__65:Bool) (o10_66:Int) (o116_67:(List Int)) (o120_68:vK):impl_eliminate.j4 R N n00_ n01_ t1__55 t2__56 t9__57 t11__58 t14__59 t15__60 t16__61 t17__62 t80__63 t81__64 t95__65 o10_66 o116_67 o120_68 = (bif t95__65 then ((chk (decide (0 ≤ t11__58) && decide (t11__58 < (List.length o120_68:Int)))).bind fun _ => (Option.bind (o120_68)[(Int.toNat t11__58)]? fun y69 => ((idx? t15__60 o10_66).bind fun y70 => ((callT R n_impl_addTimes o_impl_addTimes [⟨yL,t15__60⟩,⟨yL,y69⟩,⟨yI,(w64 (t2__56 - (y70,()).1))⟩,⟨yI,t2__56⟩]).bind fun r71 => ((chk (decide (0 ≤ t14__59) && decide (t14__59 < (List.length o120_68:Int)))).bind fun _ => (impl_eliminate.l3 R N n00_ n01_ t1__55 t2__56 t9__57 t11__58 t16__61 t17__62 t80__63 (w64 (t81__64 + (1:Int))) o10_66 o116_67 (List.set o120_68 (Int.toNat t14__59) r71.1))))))) else (impl_eliminate.l3 R N n00_ n01_ t1__55 t2__56 t9__57 t11__58 t16__61 t17__62 t80__63 (w64 (t81__64 + (1:Int))) o10_66 o116_67 o120_68)) := (hw _ _).trans (by kernel_rfl)
theorem impl_eliminate.l3_succ (R:Run) (hw:R.ok) (N:Nat) (n00_:Nat) (n:Nat) (t1__42:Int) (t2__43:Int) (t9__44:Int) (t11__45:Int) (t16__46:Int) (t17__47:Int) (t80__48:Int) (t81__49:Int) (o10_50:Int) (o116_51:(List Int)) (o120_52:vK):impl_eliminate.l3 R N n00_ (n + 1) t1__42 t2__43 t9__44 t11__45 t16__46 t17__47 t80__48 t81__49 o10_50 o116_51 o120_52 = (bif (decide (t81__49 < t80__48)) then ((chk (decide (0 ≤ t81__49) && decide (t81__49 < (List.length o120_52:Int)))).bind fun _ => (Option.bind (o120_52)[(Int.toNat t81__49)]? fun y53 => (bif (t81__49 != t11__45) then ((idx? y53 o10_50).bind fun y54 => (impl_eliminate.j4 R N n00_ n t1__42 t2__43 t9__44 t11__45 t81__49 y53 t16__46 t17__47 t80__48 t81__49 ((y54,()).1 != (0:Int)) o10_50 o116_51 o120_52)) else (impl_eliminate.j4 R N n00_ n t1__42 t2__43 t9__44 t11__45 t81__49 y53 t16__46 t17__47 t80__48 t81__49 false o10_50 o116_51 o120_52)))) else ((chk (decide ((List.length o116_51 + List.length [o10_50]) * 8 ≤ 70368744177664))).bind fun _ => (impl_eliminate.l0 R N n00_ t1__42 t2__43 t9__44 t16__46 (w64 (t17__47 + (1:Int))) (o116_51 ++ [o10_50]) o120_52))) := (hw _ _).trans (by kernel_rfl)
theorem impl_eliminate.j2_eq (R:Run) (hw:R.ok) (N:Nat) (n00_:Nat) (t1__33:Int) (t2__34:Int) (t9__35:Int) (t11__36:Int) (t16__37:Int) (t17__38:Int) (o10_39:Int) (o116_40:(List Int)) (o120_41:vK):impl_eliminate.j2 R N n00_ t1__33 t2__34 t9__35 t11__36 t16__37 t17__38 o10_39 o116_40 o120_41 = (impl_eliminate.l3 R N n00_ N t1__33 t2__34 t9__35 t11__36 t16__37 t17__38 (List.length o120_41:Int) (0:Int) o10_39 o116_40 o120_41) := (hw _ _).trans (by kernel_rfl)
theorem impl_eliminate.j1_eq (R:Run) (hw:R.ok) (N:Nat) (n00_:Nat) (t1__19:Int) (t2__20:Int) (t9__21:Int) (t11__22:Int) (t16__23:Int) (t17__24:Int) (o10_25:Int) (o116_26:(List Int)) (o120_27:vK):impl_eliminate.j1 R N n00_ t1__19 t2__20 t9__21 t11__22 t16__23 t17__24 o10_25 o116_26 o120_27 = ((chk (decide (0 ≤ t11__22) && decide (t11__22 < (List.length o120_27:Int)))).bind fun _ => (Option.bind (o120_27)[(Int.toNat t11__22)]? fun y28 => ((idx? y28 o10_25).bind fun y29 => ((chk (t2__20 != 0)).bind fun _ => ((chk (decide (0 ≤ t11__22) && decide (t11__22 < (List.length o120_27:Int)))).bind fun _ => (Option.bind (o120_27)[(Int.toNat t11__22)]? fun y30 => (both ((chk (decide (0 ≤ t1__19) && decide (t1__19 * 8 ≤ 70368744177664))).bind fun _ => ((callT R n_impl_inverseOf o_impl_inverseOf [⟨yI,(y29,()).1⟩,⟨yI,t2__20⟩]).bind fun r31 => ((callT R n_impl_addTimes o_impl_addTimes [⟨yL,(List.replicate (Int.toNat t1__19) (0:Int))⟩,⟨yL,y30⟩,⟨yI,r31.1⟩,⟨yI,t2__20⟩]).bind fun r32 => ((chk (decide (0 ≤ t11__22) && decide (t11__22 < (List.length o120_27:Int)))).bind fun _ => (impl_eliminate.j2 R N n00_ t1__19 t2__20 (Int.tmod (w64 (t9__21 * (y29,()).1)) t2__20) t11__22 t16__23 t17__24 o10_25 o116_26 (List.set o120_27 (Int.toNat t11__22) r32.1)))))) ((callT R n_impl_inverseOf o_impl_inverseOf [⟨yI,(y29,()).1⟩,⟨yI,t2__20⟩]).bind fun r115 => ((chk (decide (0 ≤ t1__19) && decide (t1__19 * 8 ≤ 70368744177664))).bind fun _ => ((callT R n_impl_addTimes o_impl_addTimes [⟨yL,(List.replicate (Int.toNat t1__19) (0:Int))⟩,⟨yL,y30⟩,⟨yI,r115.1⟩,⟨yI,t2__20⟩]).bind fun r116 => ((chk (decide (0 ≤ t11__22) && decide (t11__22 < (List.length o120_27:Int)))).bind fun _ => (impl_eliminate.j2 R N n00_ t1__19 t2__20 (Int.tmod (w64 (t9__21 * (y29,()).1)) t2__20) t11__22 t16__23 t17__24 o10_25 o116_26 (List.set o120_27 (Int.toNat t11__22) r116.1))))))))))))) := (hw _ _).trans (by kernel_rfl)
theorem impl_eliminate.l0_succ (R:Run) (hw:R.ok) (N:Nat) (n:Nat) (t1__1:Int) (t2__2:Int) (t9__3:Int) (t16__4:Int) (t17__5:Int) (o116_6:(List Int)) (o120_7:vK):impl_eliminate.l0 R N (n + 1) t1__1 t2__2 t9__3 t16__4 t17__5 o116_6 o120_7 = (bif (decide (t17__5 < t16__4)) then ((chk (decide (0 ≤ (List.length o116_6:Int)) && decide ((List.length o116_6:Int) ≤ (List.length o120_7:Int)))).bind fun _ => ((callT R n_slices_IndexFunc_SSint64_Sint64 o_slices_IndexFunc_SSint64_Sint64 [⟨yK,(List.drop (Int.toNat (List.length o116_6:Int)) (List.take (List.length o120_7) o120_7))⟩,⟨(.fn n_impl_eliminate_1 (.cons (.ptr (.cons yI .nil)) .nil)),((t17__5,()),())⟩]).bind fun r8 => (bif (decide (r8.1 < (0:Int))) then (impl_eliminate.l0 R N n t1__1 t2__2 (0:Int) t16__4 (w64 (t17__5 + (1:Int))) o116_6 o120_7) else (bif (decide (r8.1 > (0:Int))) then ((chk (decide (0 ≤ (w64 ((List.length o116_6:Int) + r8.1))) && decide ((w64 ((List.length o116_6:Int) + r8.1)) < (List.length o120_7:Int)))).bind fun _ => (Option.bind (o120_7)[(Int.toNat (w64 ((List.length o116_6:Int) + r8.1)))]? fun y16 => ((chk (decide (0 ≤ (List.length o116_6:Int)) && decide ((List.length o116_6:Int) < (List.length o120_7:Int)))).bind fun _ => (Option.bind (o120_7)[(Int.toNat (List.length o116_6:Int))]? fun y17 => ((chk (decide (0 ≤ (List.length o116_6:Int)) && decide ((List.length o116_6:Int) < (List.length o120_7:Int)))).bind fun _ => ((chk (decide (0 ≤ (w64 ((List.length o116_6:Int) + r8.1))) && decide ((w64 ((List.length o116_6:Int) + r8.1)) < (List.length (List.set o120_7 (Int.toNat (List.length o116_6:Int)) y16):Int)))).bind fun _ => ((callT R n_impl_reduce o_impl_reduce [⟨yI,(w64 (0 - t9__3))⟩,⟨yI,t2__2⟩]).bind fun r18 => (impl_eliminate.j1 R N n t1__1 t2__2 r18.1 (List.length o116_6:Int) t16__4 t17__5 t17__5 o116_6 (List.set (List.set o120_7 (Int.toNat (List.length o116_6:Int)) y16) (Int.toNat (w64 ((List.length o116_6:Int) + r8.1))) y17))))))))) else (impl_eliminate.j1 R N n t1__1 t2__2 t9__3 (List.length o116_6:Int) t16__4 t17__5 t17__5 o116_6 o120_7))))) else some ⟨o_impl_eliminate,(o116_6,t9__3,o120_7,())⟩) := (hw _ _).trans (by kernel_rfl)
theorem impl_eliminate.ev (R:Run) (N:Nat) (a0:vK) (a1:Int) (a2:Int):evFn E R sg_impl_eliminate pol_impl_eliminate F_impl_eliminate N [⟨yK,a0⟩,⟨yI,a1⟩,⟨yI,a2⟩] = (impl_eliminate.l0 R N N a1 a2 (1:Int) a1 (0:Int) ([]:List Int) a0) := by kernel_rfl
/-! loop.example/g01005/impl.solve -/
noncomputable def impl_solve.l1 (R:Run) (N:Nat) (n:Nat) (t47__30:(List Int)) (t48__31:Int) (t49__32:Int) (o2_33:Int) (o2_34:Int) (o2_35:Int) (o2_36:(List Int)) (o46_37:(List Int)) (o76_38:vK):Option Dv := R.w (some ⟨(V.dead::(V.dead::(.c (.box 2 0)::(zd 3 (.c (.arr 76)::(zd 3 (.c (.arr 46)::(zd 36 (.c (.d yL t47__30)::(.c (.d yI t48__31)::(.c (.d yI t49__32)::(zd 21 [])))))))))))),(none::(none::(some (.box [.d yI o2_33,.d yI o2_34,.d yI o2_35,.d yL o2_36] false false)::(zo 43 (some (.arr yI o46_37 true false false)::(zo 29 (some (.arr yL o76_38 false false false)::(none::[]))))))))⟩) fun st => lC R pol_impl_solve 10 N [1,1,1,1,1,0,1,0,0] F_impl_solve n st (kB R pol_impl_solve 2 (kS R pol_impl_solve 16 N [1,1,1,1,1,1] F_impl_solve (kTop E sg_impl_solve F_impl_solve)))
noncomputable def impl_solve.l0 (R:Run) (N:Nat) (n:Nat) (t1__2:(List Int)) (t16__3:Int) (t17__4:Int) (o2_5:Int) (o2_6:Int) (o2_7:Int) (o2_8:(List Int)) (o76_9:vK):Option Dv := R.w (some ⟨(V.dead::(.c (.d yL t1__2)::(.c (.box 2 0)::(zd 3 (.c (.arr 76)::(zd 9 (.c (.d yI t16__3)::(.c (.d yI t17__4)::(zd 53 []))))))))),(none::(none::(some (.box [.d yI o2_5,.d yI o2_6,.d yI o2_7,.d yL o2_8] false false)::(zo 73 (some (.arr yL o76_9 true false false)::(none::[]))))))⟩) fun st => lC R pol_impl_solve 3 N [1,1,0,1,0,0] F_impl_solve n st (kB R pol_impl_solve 0 (kS R pol_impl_solve 7 N [1,1,1] F_impl_solve (kTop E sg_impl_solve F_impl_solve)))
theorem impl_solve.l1_succ (R:Run) (hw:R.ok) (N:Nat) (n:Nat) (t47__30:(List Int)) (t48__31:Int) (t49__32:Int) (o2_33:Int) (o2_34:Int) (o2_35:Int) (o2_36:(List Int)) (o46_37:(List Int)) (o76_38:vK):impl_solve.l1 R N (n + 1) t47__30 t48__31 t49__32 o2_33 o2_34 o2_35 o2_36 o46_37 o76_38 = (bif (decide (t49__32 < t48__31)) then ((idx? t47__30 t49__32).bind fun y39 => (bif ((y39,()).1 == o2_35) then some ⟨o_impl_solve,(([]:List Int),false,())⟩ else ((chk (decide (0 ≤ t49__32) && decide (t49__32 < (List.length o76_38:Int)))).bind fun _ => (Option.bind (o76_38)[(Int.toNat t49__32)]? fun y40 => ((idx? y40 o2_35).bind fun y41 => ((chk (decide (0 ≤ (y39,()).1) && decide ((y39,()).1 < (List.length o46_37:Int)))).bind fun _ => (impl_solve.l1 R N n t47__30 t48__31 (w64 (t49__32 + (1:Int))) o2_33 o2_34 o2_35 o2_36 (List.set o46_37 (Int.toNat (y39,()).1) (y41,()).1) o76_38))))))) else some ⟨o_impl_solve,(o46_37,true,())⟩) := (hw _ _).trans (by kernel_rfl)
theorem impl_solve.l0_succ (R:Run) (hw:R.ok) (N:Nat) (n:Nat) (t1__2:(List Int)) (t16__3:Int) (t17__4:Int) (o2_5:Int) (o2_6:Int) (o2_7:Int) (o2_8:(List Int)) (o76_9:vK):impl_solve.l0 R N (n + 1) t1__2 t16__3 t17__4 o2_5 o2_6 o2_7 o2_8 o76_9 = (bif (decide (t17__4 < t16__3)) then ((chk (decide (0 ≤ t17__4) && decide (t17__4 < (List.length o76_9:Int)))).bind fun _ => ((idx? t1__2 t17__4).bind fun y10 => (both (Option.bind (o76_9)[(Int.toNat t17__4)]? fun y11 => ((chk (decide ((List.length y11 + List.length [(y10,()).1]) * 8 ≤ 70368744177664))).bind fun _ => ((chk (decide (0 ≤ t17__4) && decide (t17__4 < (List.length o76_9:Int)))).bind fun _ => ((chk (decide ((Int.toNat t17__4) = (Int.toNat t17__4)))).bind fun _ => (impl_solve.l0 R N n t1__2 t16__3 (w64 (t17__4 + (1:Int))) o2_5 o2_6 o2_7 o2_8 (List.set o76_9 (Int.toNat t17__4) (y11 ++ [(y10,()).1]))))))) (Option.bind (o76_9)[(Int.toNat t17__4)]? fun y20 => ((chk (decide ((List.length y20 + List.length [(y10,()).1]) * 8 ≤ 70368744177664))).bind fun _ => ((chk (decide (0 ≤ t17__4) && decide (t17__4 < (List.length o76_9:Int)))).bind fun _ => ((chk (decide ((Int.toNat t17__4) = (Int.toNat t17__4)))).bind fun _ => (impl_solve.l0 R N n t1__2 t16__3 (w64 (t17__4 + (1:Int))) o2_5 o2_6 o2_7 o2_8 (List.set o76_9 (Int.toNat t17__4) (y20 ++ [(y10,()).1])))))))))) else ((callT R n_impl_eliminate o_impl_eliminate [⟨yK,o76_9⟩,⟨yI,(w64 (o2_7 + (1:Int)))⟩,⟨yI,o2_5⟩]).bind fun r29 => ((chk (decide (0 ≤ o2_7) && decide (o2_7 * 8 ≤ 70368744177664))).bind fun _ => (impl_solve.l1 R N N r29.1 (List.length r29.1:Int) (0:Int) o2_5 o2_6 o2_7 o2_8 (List.replicate (Int.toNat o2_7) (0:Int)) r29.2.2.1)))) := (hw _ _).trans (by kernel_rfl)
theorem impl_solve.ev (R:Run) (N:Nat) (a0:Int) (a1:Int) (a2:Int) (a3:(List Int)) (a4:(List Int)):evFn E R sg_impl_solve pol_impl_solve F_impl_solve N [⟨yI,a0⟩,⟨yI,a1⟩,⟨yI,a2⟩,⟨yL,a3⟩,⟨yL,a4⟩] = ((callT R n_impl_rowsOf o_impl_rowsOf [⟨yI,a0⟩,⟨yI,a1⟩,⟨yI,a2⟩,⟨yL,a3⟩]).bind fun r1 => (impl_solve.l0 R N N a4 (List.length r1.1:Int) (0:Int) a0 a1 a2 a3 r1.1)) := by kernel_rfl
/-! loop.example/g01005/impl.ExtendSection -/
theorem impl_ExtendSection.ev (R:Run) (N:Nat) (a0:vK) (a1:Int) (a2:(List Int)) (a3:vN) (a4:(List Int)) (a5:(List Int)):evFn E R sg_impl_ExtendSection pol_impl_ExtendSection F_impl_ExtendSection N [⟨yK,a0⟩,⟨yI,a1⟩,⟨yL,a2⟩,⟨yN,a3⟩,⟨yL,a4⟩,⟨yL,a5⟩] = ((callT R n_impl_localized o_impl_localized [⟨yK,a0⟩,⟨yI,a1⟩,⟨yL,a2⟩,⟨yN,a3⟩,⟨yL,a4⟩,⟨yL,a5⟩]).bind fun r1 => (bif (r1.1 != (0:Int)) then some ⟨o_impl_ExtendSection,(([]:List Int),r1.1,())⟩ else ((callT R n_impl_conditions o_impl_conditions [⟨yK,a0⟩,⟨yI,a1⟩,⟨yL,a2⟩,⟨yN,a3⟩,⟨yL,a4⟩]).bind fun r2 => ((callT R n_impl_stalkSum o_impl_stalkSum [⟨yK,a0⟩,⟨yI,a1⟩,⟨yL,a2⟩,⟨yN,a3⟩,⟨yI,(1:Int)⟩]).bind fun r3 => ((chk (decide (0 ≤ r3.1) && decide (r3.1 * 8 ≤ 70368744177664))).bind fun _ => ((callT R n_slices_Concat_Sint64_int64 o_slices_Concat_Sint64_int64 [⟨yK,[(List.replicate (Int.toNat r3.1) (0:Int)),a5]⟩]).bind fun r4 => ((callT R n_impl_solve o_impl_solve [⟨yI,r2.1⟩,⟨yI,r2.2.1⟩,⟨yI,r2.2.2.1⟩,⟨yL,r2.2.2.2.1⟩,⟨yL,r4.1⟩]).bind fun r5 => (bif (!r5.2.1) then some ⟨o_impl_ExtendSection,(([]:List Int),(3:Int),())⟩ else some ⟨o_impl_ExtendSection,(r5.1,(0:Int),())⟩)))))))) := by kernel_rfl
/-! loop.example/g01005/laws.eqInt64S -/
noncomputable def laws_eqInt64S.l0 (R:Run) (N:Nat) (n:Nat) (a_1:(List Int)) (b_2:(List Int)) (i_3:Int):Option Dv := R.w (some ⟨(.c (.d yL a_1)::(.c (.d yL b_2)::(zd 3 (.c (.d yI i_3)::(zd 20 []))))),(zo 28 [])⟩) fun st => lC R pol_laws_eqInt64S 4 N [1,1,0,1,0,0] F_laws_eqInt64S n st (kB R pol_laws_eqInt64S 0 (kS R pol_laws_eqInt64S 8 N [1,1,1] F_laws_eqInt64S (kTop E sg_laws_eqInt64S F_laws_eqInt64S)))
theorem laws_eqInt64S.l0_succ (R:Run) (hw:R.ok) (N:Nat) (n:Nat) (a_1:(List Int)) (b_2:(List Int)) (i_3:Int):laws_eqInt64S.l0 R N (n + 1) a_1 b_2 i_3 = (bif (decide (i_3 < (List.length a_1:Int))) then ((idx? a_1 i_3).bind fun y4 => ((idx? b_2 i_3).bind fun y5 => (bif ((y4,()).1 != (y5,()).1) then some ⟨o_laws_eqInt64S,(false,())⟩ else (laws_eqInt64S.l0 R N n a_1 b_2 (w64 (i_3 + (1:Int))))))) else some ⟨o_laws_eqInt64S,(true,())⟩) := (hw _ _).trans (by kernel_rfl)
theorem laws_eqInt64S.ev (R:Run) (N:Nat) (a0:(List Int)) (a1:(List Int)):evFn E R sg_laws_eqInt64S pol_laws_eqInt64S F_laws_eqInt64S N [⟨yL,a0⟩,⟨yL,a1⟩] = (bif ((List.length a0:Int) != (List.length a1:Int)) then some ⟨o_laws_eqInt64S,(false,())⟩ else (laws_eqInt64S.l0 R N N a0 a1 (0:Int))) := by kernel_rfl
/-! loop.example/g01005/laws.eqInt64SS -/
noncomputable def laws_eqInt64SS.l0 (R:Run) (N:Nat) (n:Nat) (a_1:vK) (b_2:vK) (i_3:Int):Option Dv := R.w (some ⟨(.c (.d yK a_1)::(.c (.d yK b_2)::(zd 3 (.c (.d yI i_3)::(zd 21 []))))),(zo 29 [])⟩) fun st => lC R pol_laws_eqInt64SS 4 N [1,1,0,1,0,0] F_laws_eqInt64SS n st (kB R pol_laws_eqInt64SS 0 (kS R pol_laws_eqInt64SS 8 N [1,1,1] F_laws_eqInt64SS (kTop E sg_laws_eqInt64SS F_laws_eqInt64SS)))
theorem laws_eqInt64SS.l0_succ (R:Run) (hw:R.ok) (N:Nat) (n:Nat) (a_1:vK) (b_2:vK) (i_3:Int):laws_eqInt64SS.l0 R N (n + 1) a_1 b_2 i_3 = (bif (decide (i_3 < (List.length a_1:Int))) then ((idx? a_1 i_3).bind fun y4 => ((idx? b_2 i_3).bind fun y5 => ((callT R n_laws_eqInt64S o_laws_eqInt64S [⟨yL,(y4,()).1⟩,⟨yL,(y5,()).1⟩]).bind fun r6 => (bif (!r6.1) then some ⟨o_laws_eqInt64SS,(false,())⟩ else (laws_eqInt64SS.l0 R N n a_1 b_2 (w64 (i_3 + (1:Int)))))))) else some ⟨o_laws_eqInt64SS,(true,())⟩) := (hw _ _).trans (by kernel_rfl)
theorem laws_eqInt64SS.ev (R:Run) (N:Nat) (a0:vK) (a1:vK):evFn E R sg_laws_eqInt64SS pol_laws_eqInt64SS F_laws_eqInt64SS N [⟨yK,a0⟩,⟨yK,a1⟩] = (bif ((List.length a0:Int) != (List.length a1:Int)) then some ⟨o_laws_eqInt64SS,(false,())⟩ else (laws_eqInt64SS.l0 R N N a0 a1 (0:Int))) := by kernel_rfl
/-! loop.example/g01005/laws.eqComplex -/
theorem laws_eqComplex.ev (R:Run) (N:Nat) (a0:vK) (a1:vK):evFn E R sg_laws_eqComplex pol_laws_eqComplex F_laws_eqComplex N [⟨yK,a0⟩,⟨yK,a1⟩] = ((callT R n_laws_eqInt64SS o_laws_eqInt64SS [⟨yK,a0⟩,⟨yK,a1⟩]).bind fun r1 => (bif (!r1.1) then some ⟨o_laws_eqComplex,(false,())⟩ else some ⟨o_laws_eqComplex,(true,())⟩)) := by kernel_rfl
/-! loop.example/g01005/laws.eqMatrix -/
theorem laws_eqMatrix.ev (R:Run) (N:Nat) (a0:Int) (a1:Int) (a2:Int) (a3:(List Int)) (a4:Int) (a5:Int) (a6:Int) (a7:(List Int)):evFn E R sg_laws_eqMatrix pol_laws_eqMatrix F_laws_eqMatrix N [⟨yI,a0⟩,⟨yI,a1⟩,⟨yI,a2⟩,⟨yL,a3⟩,⟨yI,a4⟩,⟨yI,a5⟩,⟨yI,a6⟩,⟨yL,a7⟩] = (bif (a0 != a4) then some ⟨o_laws_eqMatrix,(false,())⟩ else (bif (a1 != a5) then some ⟨o_laws_eqMatrix,(false,())⟩ else (bif (a2 != a6) then some ⟨o_laws_eqMatrix,(false,())⟩ else ((callT R n_laws_eqInt64S o_laws_eqInt64S [⟨yL,a3⟩,⟨yL,a7⟩]).bind fun r1 => (bif (!r1.1) then some ⟨o_laws_eqMatrix,(false,())⟩ else some ⟨o_laws_eqMatrix,(true,())⟩))))) := by kernel_rfl
/-! loop.example/g01005/laws.eqMatrixS -/
noncomputable def laws_eqMatrixS.l0 (R:Run) (N:Nat) (n:Nat) (a_1:vN) (b_2:vN) (i_3:Int):Option Dv := R.w (some ⟨(.c (.d yN a_1)::(.c (.d yN b_2)::(zd 3 (.c (.d yI i_3)::(zd 21 []))))),(zo 29 [])⟩) fun st => lC R pol_laws_eqMatrixS 4 N [1,1,0,1,0,0] F_laws_eqMatrixS n st (kB R pol_laws_eqMatrixS 0 (kS R pol_laws_eqMatrixS 8 N [1,1,1] F_laws_eqMatrixS (kTop E sg_laws_eqMatrixS F_laws_eqMatrixS)))
theorem laws_eqMatrixS.l0_succ (R:Run) (hw:R.ok) (N:Nat) (n:Nat) (a_1:vN) (b_2:vN) (i_3:Int):laws_eqMatrixS.l0 R N (n + 1) a_1 b_2 i_3 = (bif (decide (i_3 < (List.length a_1:Int))) then ((idx? a_1 i_3).bind fun y4 => ((idx? b_2 i_3).bind fun y5 => ((callT R n_laws_eqMatrix o_laws_eqMatrix [⟨yI,y4.1⟩,⟨yI,y4.2.1⟩,⟨yI,y4.2.2.1⟩,⟨yL,y4.2.2.2.1⟩,⟨yI,y5.1⟩,⟨yI,y5.2.1⟩,⟨yI,y5.2.2.1⟩,⟨yL,y5.2.2.2.1⟩]).bind fun r6 => (bif (!r6.1) then some ⟨o_laws_eqMatrixS,(false,())⟩ else (laws_eqMatrixS.l0 R N n a_1 b_2 (w64 (i_3 + (1:Int)))))))) else some ⟨o_laws_eqMatrixS,(true,())⟩) := (hw _ _).trans (by kernel_rfl)
theorem laws_eqMatrixS.ev (R:Run) (N:Nat) (a0:vN) (a1:vN):evFn E R sg_laws_eqMatrixS pol_laws_eqMatrixS F_laws_eqMatrixS N [⟨yN,a0⟩,⟨yN,a1⟩] = (bif ((List.length a0:Int) != (List.length a1:Int)) then some ⟨o_laws_eqMatrixS,(false,())⟩ else (laws_eqMatrixS.l0 R N N a0 a1 (0:Int))) := by kernel_rfl
/-! loop.example/g01005/laws.eqSheaf -/
theorem laws_eqSheaf.ev (R:Run) (N:Nat) (a0:vK) (a1:Int) (a2:(List Int)) (a3:vN) (a4:vK) (a5:Int) (a6:(List Int)) (a7:vN):evFn E R sg_laws_eqSheaf pol_laws_eqSheaf F_laws_eqSheaf N [⟨yK,a0⟩,⟨yI,a1⟩,⟨yL,a2⟩,⟨yN,a3⟩,⟨yK,a4⟩,⟨yI,a5⟩,⟨yL,a6⟩,⟨yN,a7⟩] = ((callT R n_laws_eqComplex o_laws_eqComplex [⟨yK,a0⟩,⟨yK,a4⟩]).bind fun r1 => (bif (!r1.1) then some ⟨o_laws_eqSheaf,(false,())⟩ else (bif (a1 != a5) then some ⟨o_laws_eqSheaf,(false,())⟩ else ((callT R n_laws_eqInt64S o_laws_eqInt64S [⟨yL,a2⟩,⟨yL,a6⟩]).bind fun r2 => (bif (!r2.1) then some ⟨o_laws_eqSheaf,(false,())⟩ else ((callT R n_laws_eqMatrixS o_laws_eqMatrixS [⟨yN,a3⟩,⟨yN,a7⟩]).bind fun r3 => (bif (!r3.1) then some ⟨o_laws_eqSheaf,(false,())⟩ else some ⟨o_laws_eqSheaf,(true,())⟩))))))) := by kernel_rfl
/-! loop.example/g01005/laws.markInt64S -/
noncomputable def laws_markInt64S.l0 (R:Run) (N:Nat) (n:Nat) (k_1:Int) (i_2:Int) (o19_3:(List Int)):Option Dv := R.w (some ⟨(.c (.arr 19)::(.c (.d yI k_1)::(zd 3 (.c (.d yI i_2)::(zd 13 []))))),(zo 19 (some (.arr yI o19_3 true false true)::(none::[])))⟩) fun st => lC R pol_laws_markInt64S 2 N [1,0,1,0,0] F_laws_markInt64S n st (kB R pol_laws_markInt64S 0 (kS R pol_laws_markInt64S 6 N [1,1] F_laws_markInt64S (kTop E sg_laws_markInt64S F_laws_markInt64S)))
theorem laws_markInt64S.l0_succ (R:Run) (hw:R.ok) (N:Nat) (n:Nat) (k_1:Int) (i_2:Int) (o19_3:(List Int)):laws_markInt64S.l0 R N (n + 1) k_1 i_2 o19_3 = (bif (decide (i_2 < (List.length o19_3:Int))) then ((chk (decide (0 ≤ i_2) && decide (i_2 < (List.length o19_3:Int)))).bind fun _ => (laws_markInt64S.l0 R N n (w64 (k_1 + (1:Int))) (w64 (i_2 + (1:Int))) (List.set o19_3 (Int.toNat i_2) k_1))) else some ⟨o_laws_markInt64S,(k_1,o19_3,())⟩) := (hw _ _).trans (by kernel_rfl)
theorem laws_markInt64S.ev (R:Run) (N:Nat) (a0:(List Int)) (a1:Int):evFn E R sg_laws_markInt64S pol_laws_markInt64S F_laws_markInt64S N [⟨yL,a0⟩,⟨yI,a1⟩] = (laws_markInt64S.l0 R N N a1 (0:Int) a0) := by kernel_rfl
/-! loop.example/g01005/laws.markComplex -/
theorem laws_markComplex.ev (R:Run) (N:Nat) (a0:vK) (a1:Int):evFn E R sg_laws_markComplex pol_laws_markComplex F_laws_markComplex N [⟨yK,a0⟩,⟨yI,a1⟩] = ((callT R n_laws_markInt64SS o_laws_markInt64SS [⟨yK,a0⟩,⟨yI,a1⟩]).bind fun r1 => some ⟨o_laws_markComplex,(r1.1,r1.2.1,())⟩) := by kernel_rfl
/-! loop.example/g01005/laws.markSheaf -/
theorem laws_markSheaf.ev (R:Run) (N:Nat) (a0:vK) (a1:Int) (a2:(List Int)) (a3:vN) (a4:Int):evFn E R sg_laws_markSheaf pol_laws_markSheaf F_laws_markSheaf N [⟨yK,a0⟩,⟨yI,a1⟩,⟨yL,a2⟩,⟨yN,a3⟩,⟨yI,a4⟩] = ((callT R n_laws_markComplex o_laws_markComplex [⟨yK,a0⟩,⟨yI,a4⟩]).bind fun r1 => ((callT R n_laws_markInt64S o_laws_markInt64S [⟨yL,a2⟩,⟨yI,r1.1⟩]).bind fun r2 => ((callT R n_laws_markMatrixS o_laws_markMatrixS [⟨yN,a3⟩,⟨yI,r2.1⟩]).bind fun r3 => some ⟨o_laws_markSheaf,(r3.1,r1.2.1,r2.2.1,r3.2.1,())⟩))) := by kernel_rfl
/-! loop.example/g01005/laws.heldInt64S -/
noncomputable def laws_heldInt64S.l0 (R:Run) (N:Nat) (n:Nat) (a_1:(List Int)) (k_2:Int) (i_3:Int):Option Dv := R.w (some ⟨(.c (.d yL a_1)::(.c (.d yI k_2)::(zd 3 (.c (.d yI i_3)::(zd 15 []))))),(zo 23 [])⟩) fun st => lC R pol_laws_heldInt64S 2 N [1,0,1,0,0] F_laws_heldInt64S n st (kB R pol_laws_heldInt64S 0 (kS R pol_laws_heldInt64S 7 N [1,1] F_laws_heldInt64S (kTop E sg_laws_heldInt64S F_laws_heldInt64S)))
theorem laws_heldInt64S.l0_succ (R:Run) (hw:R.ok) (N:Nat) (n:Nat) (a_1:(List Int)) (k_2:Int) (i_3:Int):laws_heldInt64S.l0 R N (n + 1) a_1 k_2 i_3 = (bif (decide (i_3 < (List.length a_1:Int))) then ((idx? a_1 i_3).bind fun y4 => (bif ((y4,()).1 != k_2) then some ⟨o_laws_heldInt64S,((-1:Int),())⟩ else (laws_heldInt64S.l0 R N n a_1 (w64 (k_2 + (1:Int))) (w64 (i_3 + (1:Int)))))) else some ⟨o_laws_heldInt64S,(k_2,())⟩) := (hw _ _).trans (by kernel_rfl)
theorem laws_heldInt64S.ev (R:Run) (N:Nat) (a0:(List Int)) (a1:Int):evFn E R sg_laws_heldInt64S pol_laws_heldInt64S F_laws_heldInt64S N [⟨yL,a0⟩,⟨yI,a1⟩] = (laws_heldInt64S.l0 R N N a0 a1 (0:Int)) := by kernel_rfl
/-! loop.example/g01005/laws.FnExactExtendSection -/
noncomputable def laws_FnExactExtendSection.j2 (R:Run) (N:Nat) (t16__54:Int) (t129__55:Bool) (o149_56:(List Int)):Option Dv := R.w (some ⟨(zd 13 (.c (.arr 149)::(V.dead::(V.dead::(.c (.d yI t16__54)::(zd 112 (.c (.d .bool t129__55)::(zd 8 [])))))))),(zo 149 (some (.arr yI o149_56 true false false)::[]))⟩) fun st => eC R pol_laws_FnExactExtendSection N [1,1,1,1,1,1,1,1,1,1,1,1,1,1,1,1,1,1,1,1,1,1,1,1,1,1,1,0,1] F_laws_FnExactExtendSection st (kS R pol_laws_FnExactExtendSection 39 N [1,1,1,1,1,1,1,1,1,1,1,1,1,1,1,1,1,1,1,1,1,1,1,1,1,1,1,1] F_laws_FnExactExtendSection (kTop E sg_laws_FnExactExtendSection F_laws_FnExactExtendSection))
noncomputable def laws_FnExactExtendSection.j1 (R:Run) (N:Nat) (t1__37:(List Int)) (t2__38:(List Int)) (t8__39:(List Int)) (t9__40:Int) (t99__41:Bool) (o3_42:vK) (o3_43:Int) (o3_44:(List Int)) (o3_45:vN) (o149_46:(List Int)):Option Dv := R.w (some ⟨(V.dead::(.c (.d yL t1__37)::(.c (.d yL t2__38)::(.c (.box 3 0)::(zd 4 (.c (.d yL t8__39)::(.c (.d yI t9__40)::(zd 3 (.c (.arr 149)::(zd 85 (.c (.d .bool t99__41)::(zd 38 [])))))))))))),(zo 3 (some (.box [.d yK o3_42,.d yI o3_43,.d yL o3_44,.d yN o3_45] false false)::(zo 145 (some (.arr yI o149_46 true false false)::[]))))⟩) fun st => eC R pol_laws_FnExactExtendSection N [1,1,1,1,1,1,1,1,1,1,1,1,1,1,1,1,1,1,1,0,1] F_laws_FnExactExtendSection st (kS R pol_laws_FnExactExtendSection 28 N [1,1,1,1,1,1,1,1,1,1,1,1,1,1,1,1,1,1,1,1] F_laws_FnExactExtendSection (kTop E sg_laws_FnExactExtendSection F_laws_FnExactExtendSection))
noncomputable def laws_FnExactExtendSection.j0 (R:Run) (N:Nat) (t1__11:(List Int)) (t2__12:(List Int)) (t8__13:(List Int)) (t9__14:Int) (t14__15:Int) (t62__16:Bool) (o3_17:vK) (o3_18:Int) (o3_19:(List Int)) (o3_20:vN) (o10_21:Int) (o144_22:vK) (o145_23:(List Int)) (o146_24:vN) (o147_25:(List Int)) (o148_26:(List Int)) (o149_27:(List Int)):Option Dv := R.w (some ⟨(V.dead::(.c (.d yL t1__11)::(.c (.d yL t2__12)::(.c (.box 3 0)::(zd 4 (.c (.d yL t8__13)::(.c (.d yI t9__14)::(.c (.box 10 0)::(.c (.arr 147)::(.c (.arr 148)::(.c (.arr 149)::(.c (.d yI t14__15)::(zd 47 (.c (.d .bool t62__16)::(zd 75 []))))))))))))))),(zo 3 (some (.box [.d yK o3_17,.d yI o3_18,.d yL o3_19,.d yN o3_20] false false)::(zo 6 (some (.box [.arr 144,.d yI o10_21,.arr 145,.arr 146] false false)::(zo 133 (some (.arr yL o144_22 true false false)::(some (.arr yI o145_23 true false false)::(some (.arr (.st yM) o146_24 true false false)::(some (.arr yI o147_25 true false false)::(some (.arr yI o148_26 true false false)::(some (.arr yI o149_27 true false false)::[])))))))))))⟩) fun st => eC R pol_laws_FnExactExtendSection N [1,1,1,1,1,1,1,1,1,1,1,0,1] F_laws_FnExactExtendSection st (kS R pol_laws_FnExactExtendSection 16 N [1,1,1,1,1,1,1,1,1,1,1,1] F_laws_FnExactExtendSection (kTop E sg_laws_FnExactExtendSection F_laws_FnExactExtendSection))
theorem laws_FnExactExtendSection.j2_eq (R:Run) (hw:R.ok) (N:Nat) (t16__54:Int) (t129__55:Bool) (o149_56:(List Int)):laws_FnExactExtendSection.j2 R N t16__54 t129__55 o149_56 = (bif t129__55 then some ⟨o_laws_FnExactExtendSection,(false,())⟩ else ((callT R n_laws_heldInt64S o_laws_heldInt64S [⟨yL,o149_56⟩,⟨yI,(1:Int)⟩]).bind fun r57 => (bif (decide (r57.1 < (0:Int))) then some ⟨o_laws_FnExactExtendSection,(false,())⟩ else (bif (r57.1 != t16__54) then some ⟨o_laws_FnExactExtendSection,(false,())⟩ else some ⟨o_laws_FnExactExtendSection,(true,())⟩)))) := (hw _ _).trans (by kernel_rfl)
theorem laws_FnExactExtendSection.j1_eq (R:Run) (hw:R.ok) (N:Nat) (t1__37:(List Int)) (t2__38:(List Int)) (t8__39:(List Int)) (t9__40:Int) (t99__41:Bool) (o3_42:vK) (o3_43:Int) (o3_44:(List Int)) (o3_45:vN) (o149_46:(List Int)):laws_FnExactExtendSection.j1 R N t1__37 t2__38 t8__39 t9__40 t99__41 o3_42 o3_43 o3_44 o3_45 o149_46 = (bif t99__41 then some ⟨o_laws_FnExactExtendSection,(false,())⟩ else ((callT R n_laws_markInt64S o_laws_markInt64S [⟨yL,o149_46⟩,⟨yI,(1:Int)⟩]).bind fun r47 => ((callT R n_laws_heldInt64S o_laws_heldInt64S [⟨yL,r47.2.1⟩,⟨yI,(1:Int)⟩]).bind fun r48 => (bif (decide (r48.1 < (0:Int))) then some ⟨o_laws_FnExactExtendSection,(false,())⟩ else (bif (r48.1 != r47.1) then some ⟨o_laws_FnExactExtendSection,(false,())⟩ else ((callT R n_laws_toSheaf o_laws_toSheaf [⟨yK,o3_42⟩,⟨yI,o3_43⟩,⟨yL,o3_44⟩,⟨yN,o3_45⟩]).bind fun r49 => ((callT R n_laws_toInt64S o_laws_toInt64S [⟨yL,t1__37⟩]).bind fun r50 => ((callT R n_laws_toInt64S o_laws_toInt64S [⟨yL,t2__38⟩]).bind fun r51 => ((callT R n_impl_ExtendSection o_impl_ExtendSection [⟨yK,r49.1⟩,⟨yI,r49.2.1⟩,⟨yL,r49.2.2.1⟩,⟨yN,r49.2.2.2.1⟩,⟨yL,r50.1⟩,⟨yL,r51.1⟩]).bind fun r52 => ((callT R n_laws_eqInt64S o_laws_eqInt64S [⟨yL,r52.1⟩,⟨yL,t8__39⟩]).bind fun r53 => (bif (!r53.1) then (laws_FnExactExtendSection.j2 R N r47.1 true r47.2.1) else (laws_FnExactExtendSection.j2 R N r47.1 (r52.2.1 != t9__40) r47.2.1)))))))))))) := (hw _ _).trans (by kernel_rfl)
theorem laws_FnExactExtendSection.j0_eq (R:Run) (hw:R.ok) (N:Nat) (t1__11:(List Int)) (t2__12:(List Int)) (t8__13:(List Int)) (t9__14:Int) (t14__15:Int) (t62__16:Bool) (o3_17:vK) (o3_18:Int) (o3_19:(List Int)) (o3_20:vN) (o10_21:Int) (o144_22:vK) (o145_23:(List Int)) (o146_24:vN) (o147_25:(List Int)) (o148_26:(List Int)) (o149_27:(List Int)):laws_FnExactExtendSection.j0 R N t1__11 t2__12 t8__13 t9__14 t14__15 t62__16 o3_17 o3_18 o3_19 o3_20 o10_21 o144_22 o145_23 o146_24 o147_25 o148_26 o149_27 = (bif t62__16 then some ⟨o_laws_FnExactExtendSection,(false,())⟩ else ((callT R n_laws_toSheaf o_laws_toSheaf [⟨yK,o3_17⟩,⟨yI,o3_18⟩,⟨yL,o3_19⟩,⟨yN,o3_20⟩]).bind fun r28 => ((callT R n_laws_eqSheaf o_laws_eqSheaf [⟨yK,o144_22⟩,⟨yI,o10_21⟩,⟨yL,o145_23⟩,⟨yN,o146_24⟩,⟨yK,r28.1⟩,⟨yI,r28.2.1⟩,⟨yL,r28.2.2.1⟩,⟨yN,r28.2.2.2.1⟩]).bind fun r29 => (bif (!r29.1) then some ⟨o_laws_FnExactExtendSection,(false,())⟩ else ((callT R n_laws_toInt64S o_laws_toInt64S [⟨yL,t1__11⟩]).bind fun r30 => ((callT R n_laws_eqInt64S o_laws_eqInt64S [⟨yL,o147_25⟩,⟨yL,r30.1⟩]).bind fun r31 => (bif (!r31.1) then some ⟨o_laws_FnExactExtendSection,(false,())⟩ else ((callT R n_laws_toInt64S o_laws_toInt64S [⟨yL,t2__12⟩]).bind fun r32 => ((callT R n_laws_eqInt64S o_laws_eqInt64S [⟨yL,o148_26⟩,⟨yL,r32.1⟩]).bind fun r33 => (bif (!r33.1) then some ⟨o_laws_FnExactExtendSection,(false,())⟩ else ((callT R n_laws_markSheaf o_laws_markSheaf [⟨yK,o144_22⟩,⟨yI,o10_21⟩,⟨yL,o145_23⟩,⟨yN,o146_24⟩,⟨yI,(1:Int)⟩]).bind fun r34 => ((callT R n_laws_markInt64S o_laws_markInt64S [⟨yL,o147_25⟩,⟨yI,r34.1⟩]).bind fun r35 => ((callT R n_laws_markInt64S o_laws_markInt64S [⟨yL,o148_26⟩,⟨yI,r35.1⟩]).bind fun r36 => (bif (decide (r36.1 < (0:Int))) then (laws_FnExactExtendSection.j1 R N t1__11 t2__12 t8__13 t9__14 true o3_17 o3_18 o3_19 o3_20 o149_27) else ((callT R n_laws_eqInt64S o_laws_eqInt64S [⟨yL,o149_27⟩,⟨yL,t8__13⟩]).bind fun r61 => (bif (!r61.1) then (laws_FnExactExtendSection.j1 R N t1__11 t2__12 t8__13 t9__14 true o3_17 o3_18 o3_19 o3_20 o149_27) else (laws_FnExactExtendSection.j1 R N t1__11 t2__12 t8__13 t9__14 (t14__15 != t9__14) o3_17 o3_18 o3_19 o3_20 o149_27))))))))))))))))) := (hw _ _).trans (by kernel_rfl)
theorem laws_FnExactExtendSection.ev (R:Run) (N:Nat) (a0:vK) (a1:Int) (a2:(List Int)) (a3:vN) (a4:(List Int)) (a5:(List Int)):evFn E R sg_laws_FnExactExtendSection pol_laws_FnExactExtendSection F_laws_FnExactExtendSection N [⟨yK,a0⟩,⟨yI,a1⟩,⟨yL,a2⟩,⟨yN,a3⟩,⟨yL,a4⟩,⟨yL,a5⟩] = (bif (decide ((List.length a4:Int) > (1048576:Int))) then some ⟨o_laws_FnExactExtendSection,(true,())⟩ else (bif (decide ((List.length a5:Int) > (1048576:Int))) then some ⟨o_laws_FnExactExtendSection,(true,())⟩ else ((callT R n_laws_szSheaf o_laws_szSheaf [⟨yK,a0⟩,⟨yI,a1⟩,⟨yL,a2⟩,⟨yN,a3⟩,⟨yI,(1048576:Int)⟩]).bind fun r1 => (bif (decide (r1.1 < (0:Int))) then some ⟨o_laws_FnExactExtendSection,(true,())⟩ else ((callT R n_laws_toSheaf o_laws_toSheaf [⟨yK,a0⟩,⟨yI,a1⟩,⟨yL,a2⟩,⟨yN,a3⟩]).bind fun r2 => ((callT R n_laws_toInt64S o_laws_toInt64S [⟨yL,a4⟩]).bind fun r3 => ((callT R n_laws_toInt64S o_laws_toInt64S [⟨yL,a5⟩]).bind fun r4 => ((callT R n_spec_ExtendSection o_spec_ExtendSection [⟨yK,r2.1⟩,⟨yI,r2.2.1⟩,⟨yL,r2.2.2.1⟩,⟨yN,r2.2.2.2.1⟩,⟨yL,r3.1⟩,⟨yL,r4.1⟩]).bind fun r5 => ((callT R n_laws_toSheaf o_laws_toSheaf [⟨yK,a0⟩,⟨yI,a1⟩,⟨yL,a2⟩,⟨yN,a3⟩]).bind fun r6 => ((callT R n_laws_toInt64S o_laws_toInt64S [⟨yL,a4⟩]).bind fun r7 => ((callT R n_laws_toInt64S o_laws_toInt64S [⟨yL,a5⟩]).bind fun r8 => ((callT R n_impl_ExtendSection o_impl_ExtendSection [⟨yK,r6.1⟩,⟨yI,r6.2.1⟩,⟨yL,r6.2.2.1⟩,⟨yN,r6.2.2.2.1⟩,⟨yL,r7.1⟩,⟨yL,r8.1⟩]).bind fun r9 => ((callT R n_laws_eqInt64S o_laws_eqInt64S [⟨yL,r9.1⟩,⟨yL,r5.1⟩]).bind fun r10 => (bif (!r10.1) then (laws_FnExactExtendSection.j0 R N a4 a5 r5.1 r5.2.1 r9.2.1 true a0 a1 a2 a3 r6.2.1 r6.1 r6.2.2.1 r6.2.2.2.1 r7.1 r8.1 r9.1) else (laws_FnExactExtendSection.j0 R N a4 a5 r5.1 r5.2.1 r9.2.1 (r9.2.1 != r5.2.1) a0 a1 a2 a3 r6.2.1 r6.1 r6.2.2.1 r6.2.2.2.1 r7.1 r8.1 r9.1))))))))))))))) := by kernel_rfl
end VeT


set_option linter.unusedVariables false
set_option linter.unusedSimpArgs false
namespace VeT
section
open Go Go.Proofs Go.RowKit Go.Lib
set_option maxHeartbeats 2000000 in
set_option maxRecDepth 100000 in
theorem mark28_walk (b n c : Nat) (A : Option Addr) (hA : 0 < n → A = some ⟨b, 0, none⟩) (hnc : n ≤ c) (hn : n ≤ 9223372036854775807) (Inv : Nat → Int → World → Prop) (k : Int) (w : World) (h0 : Inv 0 k w)
    (step : ∀ i k' wr, i < n → Inv i k' wr → ∃ u, wr.cell? ⟨b, i, none⟩ = some u ∧ Calls Tryz.prog 23 #[u, .int .i64 k'] wr fun e w' => ∃ k2, e = .returned (.int .i64 k2) ∧ Inv (i + 1) k2 w') :
    Calls Tryz.prog 28 #[.slice A n c, .int .i64 k] w fun e w' => ∃ k2, e = .returned (.int .i64 k2) ∧ Inv n k2 w' := by
  go_enter Tryz.func28, Tryz.ntmps28
  go_wp2
  go_loopw [1, 5] (fun kv iv wr => ∃ i : Nat, ∃ k' : Int, i ≤ n ∧ iv = .int .i64 i ∧ kv = .int .i64 k' ∧ Inv i k' wr) (fun _ iv _ => n - (RowKit.intOf iv).toNat)
  case atStart => exact ⟨0, k, Nat.zero_le _, rfl, rfl, h0⟩
  case round =>
    obtain ⟨i, k', hi, rfl, rfl, hInv⟩ := hrel
    by_cases hlt : i < n
    · obtain rfl := hA (by omega)
      obtain ⟨u, hu, hcall⟩ := step i k' _ hlt hInv
      go_wp2_with (go_at_call 23; refine hcall.mono ?_; rintro e w' ⟨k2, rfl, hI2⟩)
      go_roundw
      case rel => exact ⟨i + 1, k2, by omega, by simp, rfl, hI2⟩
      case measure => simp [RowKit.intOf]; omega
    · obtain rfl : i = n := by omega
      go_wp2
      go_ret
      exact ⟨k', rfl, hInv⟩
open Ve in
theorem mark28_contract {R : Run} (hR : ∀ args dv, R.r 23 args = some dv → Contract Tryz.prog ⟨[(false, 1), (false, 1)], [.io true, .imm], oM, [(false, 1)], [], []⟩ 23 args dv) {args : List Dv} {dv : Dv} (h : pMarkSS 23 R args = some dv) :
    Contract Tryz.prog ⟨[(false, 1), (false, 1)], [.io true, .imm], .cons tI (.cons (.sl tL) .nil), [(false, 1)], [], []⟩ 28 args dv :=
  mark_contract mark28_walk hR h

set_option maxHeartbeats 4000000 in
set_option maxRecDepth 100000 in
theorem mark65_walk (b n c : Nat) (A : Option Addr) (hA : 0 < n → A = some ⟨b, 0, none⟩) (hnc : n ≤ c) (hn : n ≤ 9223372036854775807) (Inv : Nat → Int → World → Prop) (k : Int) (w : World) (h0 : Inv 0 k w)
    (hk : ∀ i k' wr, i < n → Inv i k' wr → 0 ≤ k' ∧ k' ≤ 4611686018427387904)
    (step : ∀ i k' wr, i < n → Inv i k' wr → ∃ v0 v1 v2 u, wr.cell? ⟨b, i * 4, none⟩ = some v0 ∧ wr.cell? ⟨b, i * 4 + 1, none⟩ = some v1 ∧ wr.cell? ⟨b, i * 4 + 2, none⟩ = some v2 ∧ wr.cell? ⟨b, i * 4 + 3, none⟩ = some u ∧
      wr.frozen? ⟨b, i * 4, none⟩ = false ∧ wr.frozen? ⟨b, i * 4 + 1, none⟩ = false ∧ wr.frozen? ⟨b, i * 4 + 2, none⟩ = false ∧
      Calls Tryz.prog 23 #[u, .int .i64 (k' + 1 + 1 + 1)] (((wr.setCell ⟨b, i * 4, none⟩ (.int .i64 k')).setCell ⟨b, i * 4 + 1, none⟩ (.int .i64 (k' + 1))).setCell ⟨b, i * 4 + 2, none⟩ (.int .i64 (k' + 1 + 1))) fun e w' => ∃ k2, e = .returned (.int .i64 k2) ∧ Inv (i + 1) k2 w') :
    Calls Tryz.prog 65 #[.slice A n c, .int .i64 k] w fun e w' => ∃ k2, e = .returned (.int .i64 k2) ∧ Inv n k2 w' := by
  go_enter Tryz.func65, Tryz.ntmps65
  go_wp2
  go_loopw [1, 5] (fun kv iv wr => ∃ i : Nat, ∃ k' : Int, i ≤ n ∧ iv = .int .i64 i ∧ kv = .int .i64 k' ∧ Inv i k' wr) (fun _ iv _ => n - (RowKit.intOf iv).toNat)
  case atStart => exact ⟨0, k, Nat.zero_le _, rfl, rfl, h0⟩
  case round =>
    obtain ⟨i, k', hi, rfl, rfl, hInv⟩ := hrel
    by_cases hlt : i < n
    · obtain rfl := hA (by omega)
      obtain ⟨v0, v1, v2, u, c0, c1, c2, c3, f0, f1, f2, hcall⟩ := step i k' _ hlt hInv
      have hkb := hk i k' _ hlt hInv
      have w1 : wrap64 (k' + 1) = k' + 1 := by unfold wrap64; omega
      have w2 : wrap64 (k' + 1 + 1) = k' + 1 + 1 := by unfold wrap64; omega
      have w3 : wrap64 (k' + 1 + 1 + 1) = k' + 1 + 1 + 1 := by unfold wrap64; omega
      go_wp2_with (go_at_call 23; refine hcall.mono ?_; rintro e w' ⟨k2, rfl, hI2⟩)
      go_roundw
      case rel => exact ⟨i + 1, k2, by omega, by simp, rfl, hI2⟩
      case measure => simp [RowKit.intOf]; omega
    · obtain rfl : i = n := by omega
      go_wp2
      go_ret
      exact ⟨k', rfl, hInv⟩
open Ve in
theorem mark65_contract {R : Run} (hR : ∀ args dv, R.r 23 args = some dv → Contract Tryz.prog ⟨[(false, 1), (false, 1)], [.io true, .imm], oM, [(false, 1)], [], []⟩ 23 args dv) {args : List Dv} {dv : Dv} (h : pMarkMS 23 R args = some dv) :
    Contract Tryz.prog ⟨[(false, 1), (false, 1)], [.io true, .imm], .cons tI (.cons (.sl tM) .nil), [(false, 1)], [], []⟩ 65 args dv :=
  markM_contract mark65_walk hR h

set_option maxHeartbeats 2000000 in
set_option maxRecDepth 100000 in
theorem grow179_room (base : Option Addr) (l c n : Nat) (w : World) (hlc : l ≤ c) (hc63 : c ≤ 9223372036854775807) (hn63 : n ≤ 9223372036854775807) (hroom : l + n ≤ c) :
    Calls Tryz.prog 179 #[.slice base l c, .int .i64 n] w fun e w' => e = .returned (.slice base l c) ∧ w' = w := by
  have h1 : ¬ ((n : Int) < 0) := by omega
  have h2 : wrap64 ((c : Int) - (l : Int)) = (c : Int) - (l : Int) := by unfold wrap64; omega
  have h3 : wrap64 ((n : Int) - ((c : Int) - (l : Int))) = (n : Int) - ((c : Int) - (l : Int)) := by unfold wrap64; omega
  have h4 : ¬ ((n : Int) - ((c : Int) - (l : Int)) > 0) := by omega
  go_enter Tryz.func179, Tryz.ntmps179
  go_wp2
  go_ret
  exact ⟨rfl, rfl⟩

set_option maxHeartbeats 4000000 in
set_option maxRecDepth 100000 in
theorem grow179_grow (i0 : TypeInfo) (z : Value) (hi0 : Tryz.prog.info? 2 = some i0) (hz0 : i0.zero = some z) (hs0 : 0 < i0.size)
    (base : Option Addr) (l c n : Nat) (cs : List Value) (w : World) (hlc : l ≤ c) (hroom : c < l + n) (hbig : (l + n) * i0.bytes ≤ 140737488355328) (h63 : l + n ≤ 4611686018427387904)
    (hcl : cs.length = c * i0.size) (hnil : base = none → c = 0) (hcs : ∀ a, base = some a → ∀ (j : Nat) v, cs[j]? = some v → w.cell? (a.add j) = some v) :
    Calls Tryz.prog 179 #[.slice base l c, .int .i64 n] w fun e w' =>
      e = .returned (.slice (some ⟨w.heap.size, 0, none⟩) l (grownCap w (l + n) c 2)) ∧
      w' = w.drew.alloc (.cells (cs.toArray ++ Builtin.zeroCells z.cells (l + n - c) ++ Builtin.zeroCells z.cells (grownCap w (l + n) c 2 - (l + n))) 2) := by
  have h1 : ¬ ((n : Int) < 0) := by omega
  have h2 : wrap64 ((c : Int) - (l : Int)) = (c : Int) - (l : Int) := by unfold wrap64; omega
  have h3 : wrap64 ((n : Int) - ((c : Int) - (l : Int))) = (n : Int) - ((c : Int) - (l : Int)) := by unfold wrap64; omega
  have h4 : (n : Int) - ((c : Int) - (l : Int)) > 0 := by omega
  have z25 : ∀ w, (Go.sizeOf 2).run Tryz.prog w = .ok i0.size w := fun w => by simp [Go.sizeOf, typeInfo, hi0]
  have hck : c + (l + n - c) = l + n := by omega
  have hold : (Builtin.firstCells i0.size c (.slice base c c)).run Tryz.prog w.drew = .ok cs.toArray w.drew := by
    cases base with
    | none =>
      have h0 := hnil rfl
      subst h0
      have hc0 : cs = [] := List.length_eq_zero_iff.1 (by simpa using hcl)
      rw [hc0]
      exact run_firstCells_none w.drew i0.size 0 0 0
    | some a => exact run_firstCells_some w.drew i0.size c a c c cs hcl (fun j v hj => hcs a rfl j v hj)
  have hrz : ∀ ty, (Builtin.append_ #[25, 3] ty #[.slice base c c, .int .i64 ((n : Int) - ((c : Int) - (l : Int)))]).run Tryz.prog w =
      .ok (.slice (some ⟨w.heap.size, 0, none⟩) (l + n) (grownCap w (l + n) c 2)) (w.drew.alloc (.cells (cs.toArray ++ Builtin.zeroCells z.cells (l + n - c) ++ Builtin.zeroCells z.cells (grownCap w (l + n) c 2 - (l + n))) 2)) := fun ty => by
    have h := Lib.run_append_grow_zeros w 25 3 ty 2 i0 z .i64 .i64 Tryz.underlying25 Tryz.underlying3 hi0 hz0 base c c cs hold (l + n - c) (by omega) hs0 (by omega) (by omega)
      (by have : (l + n - c) * i0.bytes ≤ (l + n) * i0.bytes := Nat.mul_le_mul_right _ (by omega)
          omega)
      (by rw [hck]; exact growslice_fits hroom hbig)
    rw [hck] at h
    rw [show (n : Int) - ((c : Int) - (l : Int)) = ((l + n - c : Nat) : Int) by omega]
    exact h
  have hGn : l + n ≤ grownCap w (l + n) c 2 := grownCap_ge w _ _ _
  obtain ⟨G, hG⟩ : ∃ G, G = grownCap w (l + n) c 2 := ⟨_, rfl⟩
  rw [← hG] at hrz hGn ⊢
  have hG63 : G ≤ 9223372036854775807 := by
    have := grownCap_le_maxLen w (l + n) c 2 (by unfold maxLen; omega)
    rw [← hG] at this
    unfold maxLen at this
    omega
  clear hold hck hG hcs hcl
  go_enter Tryz.func179, Tryz.ntmps179
  cases base with
  | none =>
    have h0 := hnil rfl
    subst h0
    obtain rfl : l = 0 := by omega
    go_wp2_with (at_builtin; refine Lib.wpList_append_run _ rfl _ _ _ _ rfl _ _ rfl rfl _ _ (hrz _) ?_)
    all_goals (go_ret; exact ⟨rfl, rfl⟩)
  | some a =>
    obtain ⟨ab, ao, asp⟩ := a
    go_wp2_with (at_builtin; refine Lib.wpList_append_run _ rfl _ _ _ _ rfl _ _ rfl rfl _ _ (hrz _) ?_)
    all_goals (go_ret; exact ⟨rfl, rfl⟩)
theorem grow179_info : (Tryz.prog.info? 2).any (fun i => i.size == Ve.Ty.size yI && i.zero.any (fun z => z.cells.size == Ve.Ty.size yI) && decide (i.bytes ≤ 64 * Ve.Ty.size yI) && decide (0 < i.bytes) && decide (0 < Ve.Ty.size yI)) = true := by kernel_rfl
open Ve in
theorem grow179_contract (R : Run) {args : List Dv} {dv : Dv} (h : pGrow yI R args = some dv) :
    Contract Tryz.prog ⟨[(false, 1), (false, 1)], [.take true, .imm], .cons yL .nil, [(false, 1)], [.deep], []⟩ 179 args dv := by
  have hi := grow179_info
  cases hi0 : Tryz.prog.info? 2 with
  | none => rw [hi0] at hi; cases hi
  | some i0 =>
    rw [hi0] at hi
    simp only [Option.any_some, Bool.and_eq_true, decide_eq_true_eq, beq_iff_eq] at hi
    obtain ⟨⟨⟨⟨h1, h2⟩, h3⟩, h4⟩, h5⟩ := hi
    cases hz : i0.zero with
    | none => rw [hz] at h2; cases h2
    | some z =>
      rw [hz] at h2
      exact grow_contract h1 (by simpa using h2) h5 h3 h4 grow179_room (fun base l c n cs w a1 a2 a3 a4 a5 a6 a7 => grow179_grow i0 z hi0 hz (by rw [h1]; exact h5) base l c n cs w a1 a2 a3 a4 a5 a6 a7) R h

end
section
open Go Ve
theorem primL_eq : primL = (List.range 273).map fun i => bif Nat.beq i 28 then some (pMarkSS n_laws_markInt64S) else bif Nat.beq i 65 then some (pMarkMS n_laws_markInt64S) else bif Nat.beq i 179 then some (pGrow yI) else none := by kernel_rfl
theorem prims_ok : ∀ f p, E.prim f = some p → ∀ r, RunOk E (mkR r) → ∀ args dv sg, E.sig f = some sg → p (mkR r) args = some dv → Contract E.P sg f args dv := by
  intro f p hp r hr args dv sg hsg h
  have hp : primL.getD f none = some p := hp
  rw [primL_eq, List.getD_eq_getElem?_getD, List.getElem?_map] at hp
  by_cases hf : f < 273
  · rw [List.getElem?_range hf] at hp
    simp only [Option.map_some, Option.getD_some] at hp
    by_cases h28 : f = 28
    · subst h28
      obtain rfl : (pMarkSS n_laws_markInt64S) = p := Option.some.inj hp
      obtain rfl : sg_laws_markInt64SS = sg := Option.some.inj (sig_laws_markInt64SS_eq.symm.trans hsg)
      exact mark28_contract (fun args dv h => hr _ args dv _ sig_laws_markInt64S_eq h) h
    rw [show Nat.beq f 28 = false from Bool.eq_false_iff.2 fun h => h28 (Nat.eq_of_beq_eq_true h), cond_false] at hp
    by_cases h65 : f = 65
    · subst h65
      obtain rfl : (pMarkMS n_laws_markInt64S) = p := Option.some.inj hp
      obtain rfl : sg_laws_markMatrixS = sg := Option.some.inj (sig_laws_markMatrixS_eq.symm.trans hsg)
      exact mark65_contract (fun args dv h => hr _ args dv _ sig_laws_markInt64S_eq h) h
    rw [show Nat.beq f 65 = false from Bool.eq_false_iff.2 fun h => h65 (Nat.eq_of_beq_eq_true h), cond_false] at hp
    by_cases h179 : f = 179
    · subst h179
      obtain rfl : (pGrow yI) = p := Option.some.inj hp
      obtain rfl : sg_slices_Grow_Sint64_int64 = sg := Option.some.inj (sig_slices_Grow_Sint64_int64_eq.symm.trans hsg)
      exact grow179_contract _ h
    rw [show Nat.beq f 179 = false from Bool.eq_false_iff.2 fun h => h179 (Nat.eq_of_beq_eq_true h), cond_false] at hp
    cases hp
  · rw [List.getElem?_eq_none (by simpa using hf)] at hp
    cases hp
end
end VeT

open Go Go.Proofs Ve
set_option linter.unusedVariables false
set_option linter.unusedSimpArgs false
namespace VeT

theorem szInt64S_ret (x : (List Int)) (l : Int) (hx : Wf yL x) (h0 : 0 ≤ l) (h1 : l ≤ 1048576) :
    ∃ r : Int, Ret E n_laws_szInt64S [⟨yL, x⟩, ⟨.int .i64, l⟩] ⟨o_laws_szInt64S, (r, ())⟩ ∧ (0 ≤ r → r ≤ l ∧ Sm yL x) := by
  have hx1 : x.length ≤ maxLen := hx.1
  rw [maxLen_eq] at hx1
  have hw : w64 (l - x.length) = l - x.length := w64_small (by omega) (by omega)
  by_cases hc : l - (x.length : Int) < 0
  · refine ⟨-1, Evt.succ (Evt.of fun n => ?_), fun h => by omega⟩
    rw [run_laws_szInt64S, laws_szInt64S.ev, hw, decide_eq_true hc]; rfl
  · refine ⟨l - x.length, Evt.succ (Evt.of fun n => ?_), fun h => ⟨by omega, by omega, fun x _ => trivial⟩⟩
    rw [run_laws_szInt64S, laws_szInt64S.ev, hw, decide_eq_false hc]; rfl

theorem toInt64S_ret (x : (List Int)) (hx : Sm yL x) : Ret E n_laws_toInt64S [⟨yL, x⟩] ⟨o_laws_toInt64S, (x, ())⟩ := by
  have hx1 : x.length ≤ 1048576 := hx.1
  have hl := fill_loop (a := x) (L := fun m n i o => laws_toInt64S.l0 (mkR (run E m)) m n x i o) (z := List.replicate (Int.toNat (List.length x : Int)) (0 : Int)) (r := some ⟨o_laws_toInt64S, (x, ())⟩) (by simp) (fun k o hk ho => by
      refine Evt.of fun m n => ?_
      show laws_toInt64S.l0 _ _ _ _ _ _ = _
      rw [laws_toInt64S.l0_succ _ mk_ok, decide_eq_true (show (k : Int) < x.length by omega), cond_true, idx_lt hk]
      simp only [Option.bind_some]
      rw [chk_true (by simp; omega), w64_succ (by omega), Int.toNat_natCast]) (Evt.of fun m n => by
      show laws_toInt64S.l0 _ _ _ _ _ _ = _
      rw [laws_toInt64S.l0_succ _ mk_ok, decide_eq_false (by omega), cond_false])
  refine Evt.succ (hl.mono fun n h => ?_)
  rw [run_laws_toInt64S, laws_toInt64S.ev, chk_true (by simp; omega)]
  exact h

theorem eqInt64S_ret (x y : (List Int)) (hx : Sm yL x) : ∃ b : Bool, Ret E n_laws_eqInt64S [⟨yL, x⟩, ⟨yL, y⟩] ⟨o_laws_eqInt64S, (b, ())⟩ ∧ (b = true ↔ x = y) := by
  have hx1 : x.length ≤ 1048576 := hx.1
  by_cases hl : x.length = y.length
  · have hd : ((x.length : Int) != (y.length : Int)) = false := by simp [hl]
    obtain ⟨h1, h2⟩ := same_loop (a := x) (b := y) (L := fun m n i (_ : Unit) => laws_eqInt64S.l0 (mkR (run E m)) m n x y i) (fun u v => u = v) (rt := some ⟨o_laws_eqInt64S, (true, ())⟩) (rf := some ⟨o_laws_eqInt64S, (false, ())⟩) hl.symm
      (fun k h h' hne => Evt.of fun m n => by
      show laws_eqInt64S.l0 _ _ _ _ _ _ = _
      rw [laws_eqInt64S.l0_succ _ mk_ok, decide_eq_true (show (k : Int) < x.length by omega), cond_true, idx_lt h, idx_lt h']
      have : (x[k] != y[k]) = true := by simpa using hne
      simp only [Option.bind_some, this, cond_true])
      (fun k h h' he => Evt.of fun m n => by
      show laws_eqInt64S.l0 _ _ _ _ _ _ = _
      rw [laws_eqInt64S.l0_succ _ mk_ok, decide_eq_true (show (k : Int) < x.length by omega), cond_true, idx_lt h, idx_lt h']
      have : (x[k] != y[k]) = false := by simpa using he
      simp only [Option.bind_some, this, cond_false]
      rw [w64_succ (by omega)])
      (Evt.of fun m n => by
      show laws_eqInt64S.l0 _ _ _ _ _ _ = _
      rw [laws_eqInt64S.l0_succ _ mk_ok, decide_eq_false (by omega), cond_false])
    by_cases he : x = y
    · refine ⟨true, Evt.succ ((h1 (by subst he; intros; rfl)).mono fun n h => ?_), by simp [he]⟩
      rw [run_laws_eqInt64S, laws_eqInt64S.ev, hd, cond_false]
      exact h
    · refine ⟨false, Evt.succ ((h2 fun hh => he (List.ext_getElem hl hh)).mono fun n h => ?_), by simp [he]⟩
      rw [run_laws_eqInt64S, laws_eqInt64S.ev, hd, cond_false]
      exact h
  · have hd : ((x.length : Int) != (y.length : Int)) = true := by simp; omega
    refine ⟨false, Evt.succ (Evt.of fun n => ?_), ⟨fun h => (nomatch h), fun h => absurd (congrArg List.length h) hl⟩⟩
    rw [run_laws_eqInt64S, laws_eqInt64S.ev, hd, cond_true]

theorem szInt64SS_ret (x : vK) (l : Int) (hx : Wf yK x) (h0 : 0 ≤ l) (h1 : l ≤ 1048576) :
    ∃ r : Int, Ret E n_laws_szInt64SS [⟨yK, x⟩, ⟨.int .i64, l⟩] ⟨o_laws_szInt64SS, (r, ())⟩ ∧ (0 ≤ r → r ≤ l ∧ Sm yK x) := by
  have hx1 : x.length ≤ maxLen := hx.1
  rw [maxLen_eq] at hx1
  have hw : w64 (l - x.length) = l - x.length := w64_small (by omega) (by omega)
  by_cases hc : l - (x.length : Int) < 0
  · refine ⟨-1, Evt.succ (Evt.of fun n => ?_), fun h => by omega⟩
    rw [run_laws_szInt64SS, laws_szInt64SS.ev, hw, decide_eq_true hc]; rfl
  · obtain ⟨r, hr, hs⟩ := sz_loop (xs := x) (L := fun m n i left => laws_szInt64SS.l0 (mkR (run E m)) m n x left i) (ret := fun r => some ⟨o_laws_szInt64SS, (r, ())⟩) (fun x => Sm yL x) (fun k left hk hl0 hl1 => by
      obtain ⟨r, hr, hs⟩ := szInt64S_ret x[k] left (hx.2 _ (List.getElem_mem hk)) hl0 hl1
      refine ⟨r, hs, hr.mono fun m h n => ?_⟩
      show laws_szInt64SS.l0 _ _ _ _ _ _ = _
      rw [laws_szInt64SS.l0_succ _ mk_ok, decide_eq_true (show (k : Int) < x.length by omega), cond_true, idx_lt hk]
      simp only [Option.bind_some, callT_of h]
      rw [w64_succ (by omega)]) (fun left => Evt.of fun m n => by
      show laws_szInt64SS.l0 _ _ _ _ _ _ = _
      rw [laws_szInt64SS.l0_succ _ mk_ok, decide_eq_false (by omega), cond_false]) (l - x.length) (by omega) (by omega)
    refine ⟨r, Evt.succ (hr.mono fun n h => ?_), fun h => ⟨by have := (hs h).1; omega, by omega, (hs h).2⟩⟩
    rw [run_laws_szInt64SS, laws_szInt64SS.ev, hw, decide_eq_false hc]
    exact h

theorem toInt64SS_ret (x : vK) (hx : Sm yK x) : Ret E n_laws_toInt64SS [⟨yK, x⟩] ⟨o_laws_toInt64SS, (x, ())⟩ := by
  have hx1 : x.length ≤ 1048576 := hx.1
  have hl := fill_loop (a := x) (L := fun m n i o => laws_toInt64SS.l0 (mkR (run E m)) m n x i o) (z := List.replicate (Int.toNat (List.length x : Int)) ([] : List Int)) (r := some ⟨o_laws_toInt64SS, (x, ())⟩) (by simp) (fun k o hk ho => by
      have hr := toInt64S_ret x[k] (hx.2 _ (List.getElem_mem hk))
      refine hr.mono fun m h n => ?_
      show laws_toInt64SS.l0 _ _ _ _ _ _ = _
      rw [laws_toInt64SS.l0_succ _ mk_ok, decide_eq_true (show (k : Int) < x.length by omega), cond_true, idx_lt hk]
      simp only [Option.bind_some, callT_of h]
      rw [chk_true (by simp; omega), w64_succ (by omega), Int.toNat_natCast]) (Evt.of fun m n => by
      show laws_toInt64SS.l0 _ _ _ _ _ _ = _
      rw [laws_toInt64SS.l0_succ _ mk_ok, decide_eq_false (by omega), cond_false])
  refine Evt.succ (hl.mono fun n h => ?_)
  rw [run_laws_toInt64SS, laws_toInt64SS.ev, chk_true (by simp; omega)]
  exact h

theorem eqInt64SS_ret (x y : vK) (hx : Sm yK x) : ∃ b : Bool, Ret E n_laws_eqInt64SS [⟨yK, x⟩, ⟨yK, y⟩] ⟨o_laws_eqInt64SS, (b, ())⟩ ∧ (b = true ↔ x = y) := by
  have hx1 : x.length ≤ 1048576 := hx.1
  by_cases hl : x.length = y.length
  · have hd : ((x.length : Int) != (y.length : Int)) = false := by simp [hl]
    obtain ⟨h1, h2⟩ := same_loop (a := x) (b := y) (L := fun m n i (_ : Unit) => laws_eqInt64SS.l0 (mkR (run E m)) m n x y i) (fun u v => u = v) (rt := some ⟨o_laws_eqInt64SS, (true, ())⟩) (rf := some ⟨o_laws_eqInt64SS, (false, ())⟩) hl.symm
      (fun k h h' hne => by
      obtain ⟨b, hb, hbe⟩ := eqInt64S_ret x[k] y[k] (hx.2 _ (List.getElem_mem h))
      have hb0 : b = false := by cases b <;> simp_all
      subst hb0
      refine hb.mono fun m hm n => ?_
      show laws_eqInt64SS.l0 _ _ _ _ _ _ = _
      rw [laws_eqInt64SS.l0_succ _ mk_ok, decide_eq_true (show (k : Int) < x.length by omega), cond_true, idx_lt h, idx_lt h']
      simp only [Option.bind_some, callT_of hm, Bool.not_false, Bool.not_true, cond_true, cond_false])
      (fun k h h' he => by
      obtain ⟨b, hb, hbe⟩ := eqInt64S_ret x[k] y[k] (hx.2 _ (List.getElem_mem h))
      have hb0 : b = true := by cases b <;> simp_all
      subst hb0
      refine hb.mono fun m hm n => ?_
      show laws_eqInt64SS.l0 _ _ _ _ _ _ = _
      rw [laws_eqInt64SS.l0_succ _ mk_ok, decide_eq_true (show (k : Int) < x.length by omega), cond_true, idx_lt h, idx_lt h']
      simp only [Option.bind_some, callT_of hm, Bool.not_false, Bool.not_true, cond_true, cond_false]
      rw [w64_succ (by omega)])
      (Evt.of fun m n => by
      show laws_eqInt64SS.l0 _ _ _ _ _ _ = _
      rw [laws_eqInt64SS.l0_succ _ mk_ok, decide_eq_false (by omega), cond_false])
    by_cases he : x = y
    · refine ⟨true, Evt.succ ((h1 (by subst he; intros; rfl)).mono fun n h => ?_), by simp [he]⟩
      rw [run_laws_eqInt64SS, laws_eqInt64SS.ev, hd, cond_false]
      exact h
    · refine ⟨false, Evt.succ ((h2 fun hh => he (List.ext_getElem hl hh)).mono fun n h => ?_), by simp [he]⟩
      rw [run_laws_eqInt64SS, laws_eqInt64SS.ev, hd, cond_false]
      exact h
  · have hd : ((x.length : Int) != (y.length : Int)) = true := by simp; omega
    refine ⟨false, Evt.succ (Evt.of fun n => ?_), ⟨fun h => (nomatch h), fun h => absurd (congrArg List.length h) hl⟩⟩
    rw [run_laws_eqInt64SS, laws_eqInt64SS.ev, hd, cond_true]

theorem szComplex_ret (x : (vK × Unit)) (l : Int) (hx : Wf (.st (.cons yK .nil)) x) (h0 : 0 ≤ l) (h1 : l ≤ 1048576) :
    ∃ r : Int, Ret E n_laws_szComplex [⟨yK, x.1⟩, ⟨.int .i64, l⟩] ⟨o_laws_szComplex, (r, ())⟩ ∧ (0 ≤ r → r ≤ l ∧ Sm (.st (.cons yK .nil)) x) := by
  obtain ⟨r0, hr0, hs0⟩ := szInt64SS_ret x.1 l hx.1 (by omega) (by omega)
  by_cases hc0 : r0 < 0
  · refine ⟨-1, Evt.succ (hr0.mono fun n e0 => ?_), fun h => by omega⟩
    rw [run_laws_szComplex, laws_szComplex.ev]
    simp only [Option.bind_some, cond_true, cond_false, callT_of e0, decide_eq_true hc0]
  have hb0 := hs0 (by omega)
  refine ⟨r0, Evt.succ (hr0.mono fun n e0 => ?_), fun h => ⟨by omega, ?_⟩⟩
  · skip
    rw [run_laws_szComplex, laws_szComplex.ev]
    simp only [Option.bind_some, cond_true, cond_false, callT_of e0, decide_eq_false hc0]
  · exact ⟨hb0.2, trivial⟩

theorem toComplex_ret (x : (vK × Unit)) (hx : Sm (.st (.cons yK .nil)) x) : Ret E n_laws_toComplex [⟨yK, x.1⟩] ⟨o_laws_toComplex, x⟩ := by
  have hr0 := toInt64SS_ret x.1 hx.1
  refine Evt.succ (hr0.mono fun n e0 => ?_)
  rw [run_laws_toComplex, laws_toComplex.ev]
  simp only [Option.bind_some, callT_of e0]

theorem eqComplex_ret (x y : (vK × Unit)) (hx : Sm (.st (.cons yK .nil)) x) : ∃ b : Bool, Ret E n_laws_eqComplex [⟨yK, x.1⟩, ⟨yK, y.1⟩] ⟨o_laws_eqComplex, (b, ())⟩ ∧ (b = true ↔ x = y) := by
  obtain ⟨b0, hr0, hb0⟩ := eqInt64SS_ret x.1 y.1 hx.1
  refine ⟨b0, Evt.succ (hr0.mono fun n e0 => ?_), ?_⟩
  · skip
    rw [run_laws_eqComplex, laws_eqComplex.ev]
    simp only [Option.bind_some, callT_of e0]
    clear hx hr0 e0 hb0
    cases b0 <;> rfl
  · obtain ⟨x0, _⟩ := x
    obtain ⟨y0, _⟩ := y
    simp only [Bool.and_eq_true, decide_eq_true_eq, hb0, Prod.mk.injEq, and_true]
    try simp only [and_assoc]

theorem szMatrix_ret (x : vM) (l : Int) (hx : Wf (.st yM) x) (h0 : 0 ≤ l) (h1 : l ≤ 1048576) :
    ∃ r : Int, Ret E n_laws_szMatrix [⟨yI, x.1⟩, ⟨yI, x.2.1⟩, ⟨yI, x.2.2.1⟩, ⟨yL, x.2.2.2.1⟩, ⟨.int .i64, l⟩] ⟨o_laws_szMatrix, (r, ())⟩ ∧ (0 ≤ r → r ≤ l ∧ Sm (.st yM) x) := by
  obtain ⟨r0, hr0, hs0⟩ := szInt64S_ret x.2.2.2.1 l hx.2.2.2.1 (by omega) (by omega)
  by_cases hc0 : r0 < 0
  · refine ⟨-1, Evt.succ (hr0.mono fun n e0 => ?_), fun h => by omega⟩
    rw [run_laws_szMatrix, laws_szMatrix.ev]
    simp only [Option.bind_some, cond_true, cond_false, callT_of e0, decide_eq_true hc0]
  have hb0 := hs0 (by omega)
  refine ⟨r0, Evt.succ (hr0.mono fun n e0 => ?_), fun h => ⟨by omega, ?_⟩⟩
  · skip
    rw [run_laws_szMatrix, laws_szMatrix.ev]
    simp only [Option.bind_some, cond_true, cond_false, callT_of e0, decide_eq_false hc0]
  · exact ⟨trivial, trivial, trivial, hb0.2, trivial⟩

theorem toMatrix_ret (x : vM) (hx : Sm (.st yM) x) : Ret E n_laws_toMatrix [⟨yI, x.1⟩, ⟨yI, x.2.1⟩, ⟨yI, x.2.2.1⟩, ⟨yL, x.2.2.2.1⟩] ⟨o_laws_toMatrix, x⟩ := by
  have hr0 := toInt64S_ret x.2.2.2.1 hx.2.2.2.1
  refine Evt.succ (hr0.mono fun n e0 => ?_)
  rw [run_laws_toMatrix, laws_toMatrix.ev]
  simp only [Option.bind_some, callT_of e0]

theorem eqMatrix_ret (x y : vM) (hx : Sm (.st yM) x) : ∃ b : Bool, Ret E n_laws_eqMatrix [⟨yI, x.1⟩, ⟨yI, x.2.1⟩, ⟨yI, x.2.2.1⟩, ⟨yL, x.2.2.2.1⟩, ⟨yI, y.1⟩, ⟨yI, y.2.1⟩, ⟨yI, y.2.2.1⟩, ⟨yL, y.2.2.2.1⟩] ⟨o_laws_eqMatrix, (b, ())⟩ ∧ (b = true ↔ x = y) := by
  obtain ⟨b0, hr0, hb0⟩ := eqInt64S_ret x.2.2.2.1 y.2.2.2.1 hx.2.2.2.1
  refine ⟨decide (x.1 = y.1) && decide (x.2.1 = y.2.1) && decide (x.2.2.1 = y.2.2.1) && b0, Evt.succ (hr0.mono fun n e0 => ?_), ?_⟩
  · skip
    rw [run_laws_eqMatrix, laws_eqMatrix.ev]
    simp only [Option.bind_some, callT_of e0]
    simp only [show (x.1 != y.1) = !decide (x.1 = y.1) from rfl]
    generalize decide (x.1 = y.1) = d0
    simp only [show (x.2.1 != y.2.1) = !decide (x.2.1 = y.2.1) from rfl]
    generalize decide (x.2.1 = y.2.1) = d1
    simp only [show (x.2.2.1 != y.2.2.1) = !decide (x.2.2.1 = y.2.2.1) from rfl]
    generalize decide (x.2.2.1 = y.2.2.1) = d2
    clear hx hr0 e0 hb0
    cases d0 <;> cases d1 <;> cases d2 <;> cases b0 <;> rfl
  · obtain ⟨x0, x1, x2, x3, _⟩ := x
    obtain ⟨y0, y1, y2, y3, _⟩ := y
    simp only [Bool.and_eq_true, decide_eq_true_eq, hb0, Prod.mk.injEq, and_true]
    try simp only [and_assoc]

theorem szMatrixS_ret (x : vN) (l : Int) (hx : Wf yN x) (h0 : 0 ≤ l) (h1 : l ≤ 1048576) :
    ∃ r : Int, Ret E n_laws_szMatrixS [⟨yN, x⟩, ⟨.int .i64, l⟩] ⟨o_laws_szMatrixS, (r, ())⟩ ∧ (0 ≤ r → r ≤ l ∧ Sm yN x) := by
  have hx1 : x.length ≤ maxLen := hx.1
  rw [maxLen_eq] at hx1
  have hw : w64 (l - x.length) = l - x.length := w64_small (by omega) (by omega)
  by_cases hc : l - (x.length : Int) < 0
  · refine ⟨-1, Evt.succ (Evt.of fun n => ?_), fun h => by omega⟩
    rw [run_laws_szMatrixS, laws_szMatrixS.ev, hw, decide_eq_true hc]; rfl
  · obtain ⟨r, hr, hs⟩ := sz_loop (xs := x) (L := fun m n i left => laws_szMatrixS.l0 (mkR (run E m)) m n x left i) (ret := fun r => some ⟨o_laws_szMatrixS, (r, ())⟩) (fun x => Sm (.st yM) x) (fun k left hk hl0 hl1 => by
      obtain ⟨r, hr, hs⟩ := szMatrix_ret x[k] left (hx.2 _ (List.getElem_mem hk)) hl0 hl1
      refine ⟨r, hs, hr.mono fun m h n => ?_⟩
      show laws_szMatrixS.l0 _ _ _ _ _ _ = _
      rw [laws_szMatrixS.l0_succ _ mk_ok, decide_eq_true (show (k : Int) < x.length by omega), cond_true, idx_lt hk]
      simp only [Option.bind_some, callT_of h]
      rw [w64_succ (by omega)]) (fun left => Evt.of fun m n => by
      show laws_szMatrixS.l0 _ _ _ _ _ _ = _
      rw [laws_szMatrixS.l0_succ _ mk_ok, decide_eq_false (by omega), cond_false]) (l - x.length) (by omega) (by omega)
    refine ⟨r, Evt.succ (hr.mono fun n h => ?_), fun h => ⟨by have := (hs h).1; omega, by omega, (hs h).2⟩⟩
    rw [run_laws_szMatrixS, laws_szMatrixS.ev, hw, decide_eq_false hc]
    exact h

theorem toMatrixS_ret (x : vN) (hx : Sm yN x) : Ret E n_laws_toMatrixS [⟨yN, x⟩] ⟨o_laws_toMatrixS, (x, ())⟩ := by
  have hx1 : x.length ≤ 1048576 := hx.1
  have hl := fill_loop (a := x) (L := fun m n i o => laws_toMatrixS.l0 (mkR (run E m)) m n x i o) (z := List.replicate (Int.toNat (List.length x : Int)) ((0 : Int), (0 : Int), (0 : Int), ([] : List Int), ())) (r := some ⟨o_laws_toMatrixS, (x, ())⟩) (by simp) (fun k o hk ho => by
      have hr := toMatrix_ret x[k] (hx.2 _ (List.getElem_mem hk))
      refine hr.mono fun m h n => ?_
      show laws_toMatrixS.l0 _ _ _ _ _ _ = _
      rw [laws_toMatrixS.l0_succ _ mk_ok, decide_eq_true (show (k : Int) < x.length by omega), cond_true, idx_lt hk]
      simp only [Option.bind_some, callT_of h]
      rw [chk_true (by simp; omega), w64_succ (by omega), Int.toNat_natCast]) (Evt.of fun m n => by
      show laws_toMatrixS.l0 _ _ _ _ _ _ = _
      rw [laws_toMatrixS.l0_succ _ mk_ok, decide_eq_false (by omega), cond_false])
  refine Evt.succ (hl.mono fun n h => ?_)
  rw [run_laws_toMatrixS, laws_toMatrixS.ev, chk_true (by simp; omega)]
  exact h

theorem eqMatrixS_ret (x y : vN) (hx : Sm yN x) : ∃ b : Bool, Ret E n_laws_eqMatrixS [⟨yN, x⟩, ⟨yN, y⟩] ⟨o_laws_eqMatrixS, (b, ())⟩ ∧ (b = true ↔ x = y) := by
  have hx1 : x.length ≤ 1048576 := hx.1
  by_cases hl : x.length = y.length
  · have hd : ((x.length : Int) != (y.length : Int)) = false := by simp [hl]
    obtain ⟨h1, h2⟩ := same_loop (a := x) (b := y) (L := fun m n i (_ : Unit) => laws_eqMatrixS.l0 (mkR (run E m)) m n x y i) (fun u v => u = v) (rt := some ⟨o_laws_eqMatrixS, (true, ())⟩) (rf := some ⟨o_laws_eqMatrixS, (false, ())⟩) hl.symm
      (fun k h h' hne => by
      obtain ⟨b, hb, hbe⟩ := eqMatrix_ret x[k] y[k] (hx.2 _ (List.getElem_mem h))
      have hb0 : b = false := by cases b <;> simp_all
      subst hb0
      refine hb.mono fun m hm n => ?_
      show laws_eqMatrixS.l0 _ _ _ _ _ _ = _
      rw [laws_eqMatrixS.l0_succ _ mk_ok, decide_eq_true (show (k : Int) < x.length by omega), cond_true, idx_lt h, idx_lt h']
      simp only [Option.bind_some, callT_of hm, Bool.not_false, Bool.not_true, cond_true, cond_false])
      (fun k h h' he => by
      obtain ⟨b, hb, hbe⟩ := eqMatrix_ret x[k] y[k] (hx.2 _ (List.getElem_mem h))
      have hb0 : b = true := by cases b <;> simp_all
      subst hb0
      refine hb.mono fun m hm n => ?_
      show laws_eqMatrixS.l0 _ _ _ _ _ _ = _
      rw [laws_eqMatrixS.l0_succ _ mk_ok, decide_eq_true (show (k : Int) < x.length by omega), cond_true, idx_lt h, idx_lt h']
      simp only [Option.bind_some, callT_of hm, Bool.not_false, Bool.not_true, cond_true, cond_false]
      rw [w64_succ (by omega)])
      (Evt.of fun m n => by
      show laws_eqMatrixS.l0 _ _ _ _ _ _ = _
      rw [laws_eqMatrixS.l0_succ _ mk_ok, decide_eq_false (by omega), cond_false])
    by_cases he : x = y
    · refine ⟨true, Evt.succ ((h1 (by subst he; intros; rfl)).mono fun n h => ?_), by simp [he]⟩
      rw [run_laws_eqMatrixS, laws_eqMatrixS.ev, hd, cond_false]
      exact h
    · refine ⟨false, Evt.succ ((h2 fun hh => he (List.ext_getElem hl hh)).mono fun n h => ?_), by simp [he]⟩
      rw [run_laws_eqMatrixS, laws_eqMatrixS.ev, hd, cond_false]
      exact h
  · have hd : ((x.length : Int) != (y.length : Int)) = true := by simp; omega
    refine ⟨false, Evt.succ (Evt.of fun n => ?_), ⟨fun h => (nomatch h), fun h => absurd (congrArg List.length h) hl⟩⟩
    rw [run_laws_eqMatrixS, laws_eqMatrixS.ev, hd, cond_true]

theorem szSheaf_ret (x : vS) (l : Int) (hx : Wf (.st yS) x) (h0 : 0 ≤ l) (h1 : l ≤ 1048576) :
    ∃ r : Int, Ret E n_laws_szSheaf [⟨yK, x.1⟩, ⟨yI, x.2.1⟩, ⟨yL, x.2.2.1⟩, ⟨yN, x.2.2.2.1⟩, ⟨.int .i64, l⟩] ⟨o_laws_szSheaf, (r, ())⟩ ∧ (0 ≤ r → r ≤ l ∧ Sm (.st yS) x) := by
  obtain ⟨r0, hr0, hs0⟩ := szComplex_ret (x.1, ()) l ⟨hx.1, trivial⟩ (by omega) (by omega)
  by_cases hc0 : r0 < 0
  · refine ⟨-1, Evt.succ (hr0.mono fun n e0 => ?_), fun h => by omega⟩
    rw [run_laws_szSheaf, laws_szSheaf.ev]
    simp only [Option.bind_some, cond_true, cond_false, callT_of e0, decide_eq_true hc0]
  have hb0 := hs0 (by omega)
  obtain ⟨r1, hr1, hs1⟩ := szInt64S_ret x.2.2.1 r0 hx.2.2.1 (by omega) (by omega)
  by_cases hc1 : r1 < 0
  · refine ⟨-1, Evt.succ ((hr0.and hr1).mono fun n hh => ?_), fun h => by omega⟩
    obtain ⟨e0, e1⟩ := hh
    rw [run_laws_szSheaf, laws_szSheaf.ev]
    simp only [Option.bind_some, cond_true, cond_false, callT_of e0, callT_of e1, decide_eq_false hc0, decide_eq_true hc1]
  have hb1 := hs1 (by omega)
  obtain ⟨r2, hr2, hs2⟩ := szMatrixS_ret x.2.2.2.1 r1 hx.2.2.2.1 (by omega) (by omega)
  by_cases hc2 : r2 < 0
  · refine ⟨-1, Evt.succ (((hr0.and hr1).and hr2).mono fun n hh => ?_), fun h => by omega⟩
    obtain ⟨⟨e0, e1⟩, e2⟩ := hh
    rw [run_laws_szSheaf, laws_szSheaf.ev]
    simp only [Option.bind_some, cond_true, cond_false, callT_of e0, callT_of e1, callT_of e2, decide_eq_false hc0, decide_eq_false hc1, decide_eq_true hc2]
  have hb2 := hs2 (by omega)
  refine ⟨r2, Evt.succ (((hr0.and hr1).and hr2).mono fun n hh => ?_), fun h => ⟨by omega, ?_⟩⟩
  · obtain ⟨⟨e0, e1⟩, e2⟩ := hh
    rw [run_laws_szSheaf, laws_szSheaf.ev]
    simp only [Option.bind_some, cond_true, cond_false, callT_of e0, callT_of e1, callT_of e2, decide_eq_false hc0, decide_eq_false hc1, decide_eq_false hc2]
  · exact ⟨hb0.2.1, trivial, hb1.2, hb2.2, trivial⟩

theorem toSheaf_ret (x : vS) (hx : Sm (.st yS) x) : Ret E n_laws_toSheaf [⟨yK, x.1⟩, ⟨yI, x.2.1⟩, ⟨yL, x.2.2.1⟩, ⟨yN, x.2.2.2.1⟩] ⟨o_laws_toSheaf, x⟩ := by
  have hr0 := toComplex_ret (x.1, ()) ⟨hx.1, trivial⟩
  have hr1 := toInt64S_ret x.2.2.1 hx.2.2.1
  have hr2 := toMatrixS_ret x.2.2.2.1 hx.2.2.2.1
  refine Evt.succ (((hr0.and hr1).and hr2).mono fun n hh => ?_)
  obtain ⟨⟨e0, e1⟩, e2⟩ := hh
  rw [run_laws_toSheaf, laws_toSheaf.ev]
  simp only [Option.bind_some, callT_of e0, callT_of e1, callT_of e2]

theorem eqSheaf_ret (x y : vS) (hx : Sm (.st yS) x) : ∃ b : Bool, Ret E n_laws_eqSheaf [⟨yK, x.1⟩, ⟨yI, x.2.1⟩, ⟨yL, x.2.2.1⟩, ⟨yN, x.2.2.2.1⟩, ⟨yK, y.1⟩, ⟨yI, y.2.1⟩, ⟨yL, y.2.2.1⟩, ⟨yN, y.2.2.2.1⟩] ⟨o_laws_eqSheaf, (b, ())⟩ ∧ (b = true ↔ x = y) := by
  obtain ⟨b0, hr0, hb0⟩ := eqComplex_ret (x.1, ()) (y.1, ()) ⟨hx.1, trivial⟩
  obtain ⟨b1, hr1, hb1⟩ := eqInt64S_ret x.2.2.1 y.2.2.1 hx.2.2.1
  obtain ⟨b2, hr2, hb2⟩ := eqMatrixS_ret x.2.2.2.1 y.2.2.2.1 hx.2.2.2.1
  refine ⟨b0 && decide (x.2.1 = y.2.1) && b1 && b2, Evt.succ (((hr0.and hr1).and hr2).mono fun n hh => ?_), ?_⟩
  · obtain ⟨⟨e0, e1⟩, e2⟩ := hh
    rw [run_laws_eqSheaf, laws_eqSheaf.ev]
    simp only [Option.bind_some, callT_of e0, callT_of e1, callT_of e2]
    simp only [show (x.2.1 != y.2.1) = !decide (x.2.1 = y.2.1) from rfl]
    generalize decide (x.2.1 = y.2.1) = d1
    clear hx hr0 e0 hb0 hr1 e1 hb1 hr2 e2 hb2
    cases b0 <;> cases d1 <;> cases b1 <;> cases b2 <;> rfl
  · obtain ⟨x0, x1, x2, x3, _⟩ := x
    obtain ⟨y0, y1, y2, y3, _⟩ := y
    simp only [Bool.and_eq_true, decide_eq_true_eq, hb0, hb1, hb2, Prod.mk.injEq, and_true]
    try simp only [and_assoc]

end VeT

open Go Go.Proofs Ve
set_option linter.unusedVariables false
set_option linter.unusedSimpArgs false
namespace VeT

theorem IndexFunc_SSint64_Sint64_impl_ValidComplex_1_ret (s : List (List Int)) (c : ((vK × Unit) × (Int × Unit) × Unit)) (p : (List Int) → Bool) (hs : s.length ≤ 1048576) (hp : ∀ x ∈ s, Ret E n_impl_ValidComplex_1 [⟨yL, x⟩, ⟨(.ptr (.cons yK .nil)), c.1⟩, ⟨(.ptr (.cons yI .nil)), c.2.1⟩] ⟨o_impl_ValidComplex_1, (p x, ())⟩) :
    Ret E n_slices_IndexFunc_SSint64_Sint64 [⟨yK, s⟩, ⟨(.fn n_impl_ValidComplex_1 (.cons (.ptr (.cons yK .nil)) (.cons (.ptr (.cons yI .nil)) .nil))), c⟩] ⟨o_slices_IndexFunc_SSint64_Sint64, (idxf p s, ())⟩ := by
  obtain ⟨o, h1, h2, h3⟩ := find_loop 1 (L := fun φ n k => slices_IndexFunc_SSint64_Sint64_impl_ValidComplex_1.l0 (mkR (run E (φ 0))) (φ 0) n s c (s.length : Int) k) (len := s.length) (fun k => ∃ h : k < s.length, p s[k] = true) (fun o => some ⟨o_slices_IndexFunc_SSint64_Sint64, (o2i o, ())⟩) (fun _ _ _ _ => rfl) (fun k hk hP => by
      obtain ⟨_, hP⟩ := hP
      simp only [slices_IndexFunc_SSint64_Sint64_impl_ValidComplex_1.l0_succ _ mk_ok]
      refine ev_t (decide_eq_true (by omega)) (ev_bind (idx_lt hk) (ev_call (hp _ (List.getElem_mem hk)) (ev_t hP ev_rfl)))) (fun k q hk hP ih => by
      simp only [slices_IndexFunc_SSint64_Sint64_impl_ValidComplex_1.l0_succ _ mk_ok]
      refine ev_t (decide_eq_true (by omega)) (ev_bind (idx_lt hk) (ev_call (hp _ (List.getElem_mem hk)) (ev_f (Bool.eq_false_iff.2 fun h => hP ⟨hk, h⟩) ?_)))
      rw [w64_succ (by omega)]; exact ih) (by
      simp only [slices_IndexFunc_SSint64_Sint64_impl_ValidComplex_1.l0_succ _ mk_ok]
      exact ev_f (decide_eq_false (by omega)) ev_rfl)
  rw [idxf_of h1 h2] at h3
  refine ret_of ?_
  simp only [run_slices_IndexFunc_SSint64_Sint64, slices_IndexFunc_SSint64_Sint64_impl_ValidComplex_1.ev]
  exact Ev.start (p := fun φ n => slices_IndexFunc_SSint64_Sint64_impl_ValidComplex_1.l0 (mkR (run E (φ 0))) (φ 0) n s c (s.length : Int) 0 = _) 1 h3 (fun _ _ _ h => h)

theorem IndexFunc_SSint64_Sint64_impl_eliminate_1_ret (s : List (List Int)) (c : ((Int × Unit) × Unit)) (p : (List Int) → Bool) (hs : s.length ≤ 1048576) (hp : ∀ x ∈ s, Ret E n_impl_eliminate_1 [⟨yL, x⟩, ⟨(.ptr (.cons yI .nil)), c.1⟩] ⟨o_impl_eliminate_1, (p x, ())⟩) :
    Ret E n_slices_IndexFunc_SSint64_Sint64 [⟨yK, s⟩, ⟨(.fn n_impl_eliminate_1 (.cons (.ptr (.cons yI .nil)) .nil)), c⟩] ⟨o_slices_IndexFunc_SSint64_Sint64, (idxf p s, ())⟩ := by
  obtain ⟨o, h1, h2, h3⟩ := find_loop 1 (L := fun φ n k => slices_IndexFunc_SSint64_Sint64_impl_eliminate_1.l0 (mkR (run E (φ 0))) (φ 0) n s c (s.length : Int) k) (len := s.length) (fun k => ∃ h : k < s.length, p s[k] = true) (fun o => some ⟨o_slices_IndexFunc_SSint64_Sint64, (o2i o, ())⟩) (fun _ _ _ _ => rfl) (fun k hk hP => by
      obtain ⟨_, hP⟩ := hP
      simp only [slices_IndexFunc_SSint64_Sint64_impl_eliminate_1.l0_succ _ mk_ok]
      refine ev_t (decide_eq_true (by omega)) (ev_bind (idx_lt hk) (ev_call (hp _ (List.getElem_mem hk)) (ev_t hP ev_rfl)))) (fun k q hk hP ih => by
      simp only [slices_IndexFunc_SSint64_Sint64_impl_eliminate_1.l0_succ _ mk_ok]
      refine ev_t (decide_eq_true (by omega)) (ev_bind (idx_lt hk) (ev_call (hp _ (List.getElem_mem hk)) (ev_f (Bool.eq_false_iff.2 fun h => hP ⟨hk, h⟩) ?_)))
      rw [w64_succ (by omega)]; exact ih) (by
      simp only [slices_IndexFunc_SSint64_Sint64_impl_eliminate_1.l0_succ _ mk_ok]
      exact ev_f (decide_eq_false (by omega)) ev_rfl)
  rw [idxf_of h1 h2] at h3
  refine ret_of ?_
  simp only [run_slices_IndexFunc_SSint64_Sint64, slices_IndexFunc_SSint64_Sint64_impl_eliminate_1.ev]
  exact Ev.start (p := fun φ n => slices_IndexFunc_SSint64_Sint64_impl_eliminate_1.l0 (mkR (run E (φ 0))) (φ 0) n s c (s.length : Int) 0 = _) 1 h3 (fun _ _ _ h => h)

theorem IndexFunc_Sint64_int64_impl_ValidSimplex_1_ret (s : List Int) (p : Int → Bool) (hs : s.length ≤ 1048576) (hp : ∀ x ∈ s, Ret E n_impl_ValidSimplex_1 [⟨yI, x⟩] ⟨o_impl_ValidSimplex_1, (p x, ())⟩) :
    Ret E n_slices_IndexFunc_Sint64_int64 [⟨yL, s⟩, ⟨(.fn n_impl_ValidSimplex_1 .nil), ()⟩] ⟨o_slices_IndexFunc_Sint64_int64, (idxf p s, ())⟩ := by
  obtain ⟨o, h1, h2, h3⟩ := find_loop 1 (L := fun φ n k => slices_IndexFunc_Sint64_int64_impl_ValidSimplex_1.l0 (mkR (run E (φ 0))) (φ 0) n s (s.length : Int) k) (len := s.length) (fun k => ∃ h : k < s.length, p s[k] = true) (fun o => some ⟨o_slices_IndexFunc_Sint64_int64, (o2i o, ())⟩) (fun _ _ _ _ => rfl) (fun k hk hP => by
      obtain ⟨_, hP⟩ := hP
      simp only [slices_IndexFunc_Sint64_int64_impl_ValidSimplex_1.l0_succ _ mk_ok]
      refine ev_t (decide_eq_true (by omega)) (ev_bind (idx_lt hk) (ev_call (hp _ (List.getElem_mem hk)) (ev_t hP ev_rfl)))) (fun k q hk hP ih => by
      simp only [slices_IndexFunc_Sint64_int64_impl_ValidSimplex_1.l0_succ _ mk_ok]
      refine ev_t (decide_eq_true (by omega)) (ev_bind (idx_lt hk) (ev_call (hp _ (List.getElem_mem hk)) (ev_f (Bool.eq_false_iff.2 fun h => hP ⟨hk, h⟩) ?_)))
      rw [w64_succ (by omega)]; exact ih) (by
      simp only [slices_IndexFunc_Sint64_int64_impl_ValidSimplex_1.l0_succ _ mk_ok]
      exact ev_f (decide_eq_false (by omega)) ev_rfl)
  rw [idxf_of h1 h2] at h3
  refine ret_of ?_
  simp only [run_slices_IndexFunc_Sint64_int64, slices_IndexFunc_Sint64_int64_impl_ValidSimplex_1.ev]
  exact Ev.start (p := fun φ n => slices_IndexFunc_Sint64_int64_impl_ValidSimplex_1.l0 (mkR (run E (φ 0))) (φ 0) n s (s.length : Int) 0 = _) 1 h3 (fun _ _ _ h => h)

theorem IndexFunc_Sint64_int64_impl_areElements_1_ret (s : List Int) (c : ((Int × Unit) × Unit)) (p : Int → Bool) (hs : s.length ≤ 1048576) (hp : ∀ x ∈ s, Ret E n_impl_areElements_1 [⟨yI, x⟩, ⟨(.ptr (.cons yI .nil)), c.1⟩] ⟨o_impl_areElements_1, (p x, ())⟩) :
    Ret E n_slices_IndexFunc_Sint64_int64 [⟨yL, s⟩, ⟨(.fn n_impl_areElements_1 (.cons (.ptr (.cons yI .nil)) .nil)), c⟩] ⟨o_slices_IndexFunc_Sint64_int64, (idxf p s, ())⟩ := by
  obtain ⟨o, h1, h2, h3⟩ := find_loop 1 (L := fun φ n k => slices_IndexFunc_Sint64_int64_impl_areElements_1.l0 (mkR (run E (φ 0))) (φ 0) n s c (s.length : Int) k) (len := s.length) (fun k => ∃ h : k < s.length, p s[k] = true) (fun o => some ⟨o_slices_IndexFunc_Sint64_int64, (o2i o, ())⟩) (fun _ _ _ _ => rfl) (fun k hk hP => by
      obtain ⟨_, hP⟩ := hP
      simp only [slices_IndexFunc_Sint64_int64_impl_areElements_1.l0_succ _ mk_ok]
      refine ev_t (decide_eq_true (by omega)) (ev_bind (idx_lt hk) (ev_call (hp _ (List.getElem_mem hk)) (ev_t hP ev_rfl)))) (fun k q hk hP ih => by
      simp only [slices_IndexFunc_Sint64_int64_impl_areElements_1.l0_succ _ mk_ok]
      refine ev_t (decide_eq_true (by omega)) (ev_bind (idx_lt hk) (ev_call (hp _ (List.getElem_mem hk)) (ev_f (Bool.eq_false_iff.2 fun h => hP ⟨hk, h⟩) ?_)))
      rw [w64_succ (by omega)]; exact ih) (by
      simp only [slices_IndexFunc_Sint64_int64_impl_areElements_1.l0_succ _ mk_ok]
      exact ev_f (decide_eq_false (by omega)) ev_rfl)
  rw [idxf_of h1 h2] at h3
  refine ret_of ?_
  simp only [run_slices_IndexFunc_Sint64_int64, slices_IndexFunc_Sint64_int64_impl_areElements_1.ev]
  exact Ev.start (p := fun φ n => slices_IndexFunc_Sint64_int64_impl_areElements_1.l0 (mkR (run E (φ 0))) (φ 0) n s c (s.length : Int) 0 = _) 1 h3 (fun _ _ _ h => h)

theorem IndexFunc_Sint64_int64_impl_areStalks_1_ret (s : List Int) (p : Int → Bool) (hs : s.length ≤ 1048576) (hp : ∀ x ∈ s, Ret E n_impl_areStalks_1 [⟨yI, x⟩] ⟨o_impl_areStalks_1, (p x, ())⟩) :
    Ret E n_slices_IndexFunc_Sint64_int64 [⟨yL, s⟩, ⟨(.fn n_impl_areStalks_1 .nil), ()⟩] ⟨o_slices_IndexFunc_Sint64_int64, (idxf p s, ())⟩ := by
  obtain ⟨o, h1, h2, h3⟩ := find_loop 1 (L := fun φ n k => slices_IndexFunc_Sint64_int64_impl_areStalks_1.l0 (mkR (run E (φ 0))) (φ 0) n s (s.length : Int) k) (len := s.length) (fun k => ∃ h : k < s.length, p s[k] = true) (fun o => some ⟨o_slices_IndexFunc_Sint64_int64, (o2i o, ())⟩) (fun _ _ _ _ => rfl) (fun k hk hP => by
      obtain ⟨_, hP⟩ := hP
      simp only [slices_IndexFunc_Sint64_int64_impl_areStalks_1.l0_succ _ mk_ok]
      refine ev_t (decide_eq_true (by omega)) (ev_bind (idx_lt hk) (ev_call (hp _ (List.getElem_mem hk)) (ev_t hP ev_rfl)))) (fun k q hk hP ih => by
      simp only [slices_IndexFunc_Sint64_int64_impl_areStalks_1.l0_succ _ mk_ok]
      refine ev_t (decide_eq_true (by omega)) (ev_bind (idx_lt hk) (ev_call (hp _ (List.getElem_mem hk)) (ev_f (Bool.eq_false_iff.2 fun h => hP ⟨hk, h⟩) ?_)))
      rw [w64_succ (by omega)]; exact ih) (by
      simp only [slices_IndexFunc_Sint64_int64_impl_areStalks_1.l0_succ _ mk_ok]
      exact ev_f (decide_eq_false (by omega)) ev_rfl)
  rw [idxf_of h1 h2] at h3
  refine ret_of ?_
  simp only [run_slices_IndexFunc_Sint64_int64, slices_IndexFunc_Sint64_int64_impl_areStalks_1.ev]
  exact Ev.start (p := fun φ n => slices_IndexFunc_Sint64_int64_impl_areStalks_1.l0 (mkR (run E (φ 0))) (φ 0) n s (s.length : Int) 0 = _) 1 h3 (fun _ _ _ h => h)

theorem IndexFunc_Sint64_int64_impl_restriction_1_ret (s : List Int) (c : (((List Int) × Unit) × Unit)) (p : Int → Bool) (hs : s.length ≤ 1048576) (hp : ∀ x ∈ s, Ret E n_impl_restriction_1 [⟨yI, x⟩, ⟨(.ptr (.cons yL .nil)), c.1⟩] ⟨o_impl_restriction_1, (p x, ())⟩) :
    Ret E n_slices_IndexFunc_Sint64_int64 [⟨yL, s⟩, ⟨(.fn n_impl_restriction_1 (.cons (.ptr (.cons yL .nil)) .nil)), c⟩] ⟨o_slices_IndexFunc_Sint64_int64, (idxf p s, ())⟩ := by
  obtain ⟨o, h1, h2, h3⟩ := find_loop 1 (L := fun φ n k => slices_IndexFunc_Sint64_int64_impl_restriction_1.l0 (mkR (run E (φ 0))) (φ 0) n s c (s.length : Int) k) (len := s.length) (fun k => ∃ h : k < s.length, p s[k] = true) (fun o => some ⟨o_slices_IndexFunc_Sint64_int64, (o2i o, ())⟩) (fun _ _ _ _ => rfl) (fun k hk hP => by
      obtain ⟨_, hP⟩ := hP
      simp only [slices_IndexFunc_Sint64_int64_impl_restriction_1.l0_succ _ mk_ok]
      refine ev_t (decide_eq_true (by omega)) (ev_bind (idx_lt hk) (ev_call (hp _ (List.getElem_mem hk)) (ev_t hP ev_rfl)))) (fun k q hk hP ih => by
      simp only [slices_IndexFunc_Sint64_int64_impl_restriction_1.l0_succ _ mk_ok]
      refine ev_t (decide_eq_true (by omega)) (ev_bind (idx_lt hk) (ev_call (hp _ (List.getElem_mem hk)) (ev_f (Bool.eq_false_iff.2 fun h => hP ⟨hk, h⟩) ?_)))
      rw [w64_succ (by omega)]; exact ih) (by
      simp only [slices_IndexFunc_Sint64_int64_impl_restriction_1.l0_succ _ mk_ok]
      exact ev_f (decide_eq_false (by omega)) ev_rfl)
  rw [idxf_of h1 h2] at h3
  refine ret_of ?_
  simp only [run_slices_IndexFunc_Sint64_int64, slices_IndexFunc_Sint64_int64_impl_restriction_1.ev]
  exact Ev.start (p := fun φ n => slices_IndexFunc_Sint64_int64_impl_restriction_1.l0 (mkR (run E (φ 0))) (φ 0) n s c (s.length : Int) 0 = _) 1 h3 (fun _ _ _ h => h)

theorem ContainsFunc_SSint64_Sint64_impl_ValidComplex_1_ret (s : List (List Int)) (c : ((vK × Unit) × (Int × Unit) × Unit)) (p : (List Int) → Bool) (hs : s.length ≤ 1048576) (hp : ∀ x ∈ s, Ret E n_impl_ValidComplex_1 [⟨yL, x⟩, ⟨(.ptr (.cons yK .nil)), c.1⟩, ⟨(.ptr (.cons yI .nil)), c.2.1⟩] ⟨o_impl_ValidComplex_1, (p x, ())⟩) :
    Ret E n_slices_ContainsFunc_SSint64_Sint64 [⟨yK, s⟩, ⟨(.fn n_impl_ValidComplex_1 (.cons (.ptr (.cons yK .nil)) (.cons (.ptr (.cons yI .nil)) .nil))), c⟩] ⟨o_slices_ContainsFunc_SSint64_Sint64, (pb (∃ x ∈ s, p x = true), ())⟩ := by
  refine ret_of ?_
  simp only [run_slices_ContainsFunc_SSint64_Sint64, slices_ContainsFunc_SSint64_Sint64_impl_ValidComplex_1.ev]
  refine ev_call (IndexFunc_SSint64_Sint64_impl_ValidComplex_1_ret s c p hs hp) (ev_some ?_)
  simp only [ge_iff_le, pb_dec, pb_congr idxf_nonneg]

theorem ContainsFunc_Sint64_int64_impl_ValidSimplex_1_ret (s : List Int) (p : Int → Bool) (hs : s.length ≤ 1048576) (hp : ∀ x ∈ s, Ret E n_impl_ValidSimplex_1 [⟨yI, x⟩] ⟨o_impl_ValidSimplex_1, (p x, ())⟩) :
    Ret E n_slices_ContainsFunc_Sint64_int64 [⟨yL, s⟩, ⟨(.fn n_impl_ValidSimplex_1 .nil), ()⟩] ⟨o_slices_ContainsFunc_Sint64_int64, (pb (∃ x ∈ s, p x = true), ())⟩ := by
  refine ret_of ?_
  simp only [run_slices_ContainsFunc_Sint64_int64, slices_ContainsFunc_Sint64_int64_impl_ValidSimplex_1.ev]
  refine ev_call (IndexFunc_Sint64_int64_impl_ValidSimplex_1_ret s p hs hp) (ev_some ?_)
  simp only [ge_iff_le, pb_dec, pb_congr idxf_nonneg]

theorem ContainsFunc_Sint64_int64_impl_areElements_1_ret (s : List Int) (c : ((Int × Unit) × Unit)) (p : Int → Bool) (hs : s.length ≤ 1048576) (hp : ∀ x ∈ s, Ret E n_impl_areElements_1 [⟨yI, x⟩, ⟨(.ptr (.cons yI .nil)), c.1⟩] ⟨o_impl_areElements_1, (p x, ())⟩) :
    Ret E n_slices_ContainsFunc_Sint64_int64 [⟨yL, s⟩, ⟨(.fn n_impl_areElements_1 (.cons (.ptr (.cons yI .nil)) .nil)), c⟩] ⟨o_slices_ContainsFunc_Sint64_int64, (pb (∃ x ∈ s, p x = true), ())⟩ := by
  refine ret_of ?_
  simp only [run_slices_ContainsFunc_Sint64_int64, slices_ContainsFunc_Sint64_int64_impl_areElements_1.ev]
  refine ev_call (IndexFunc_Sint64_int64_impl_areElements_1_ret s c p hs hp) (ev_some ?_)
  simp only [ge_iff_le, pb_dec, pb_congr idxf_nonneg]

theorem ContainsFunc_Sint64_int64_impl_areStalks_1_ret (s : List Int) (p : Int → Bool) (hs : s.length ≤ 1048576) (hp : ∀ x ∈ s, Ret E n_impl_areStalks_1 [⟨yI, x⟩] ⟨o_impl_areStalks_1, (p x, ())⟩) :
    Ret E n_slices_ContainsFunc_Sint64_int64 [⟨yL, s⟩, ⟨(.fn n_impl_areStalks_1 .nil), ()⟩] ⟨o_slices_ContainsFunc_Sint64_int64, (pb (∃ x ∈ s, p x = true), ())⟩ := by
  refine ret_of ?_
  simp only [run_slices_ContainsFunc_Sint64_int64, slices_ContainsFunc_Sint64_int64_impl_areStalks_1.ev]
  refine ev_call (IndexFunc_Sint64_int64_impl_areStalks_1_ret s p hs hp) (ev_some ?_)
  simp only [ge_iff_le, pb_dec, pb_congr idxf_nonneg]

theorem filled_impl_transpose_1_ret (p : Int) (R C : Nat) (c : (vM × Unit)) (f : Nat → Nat → Int) (hR : R ≤ 1048576) (hC : C ≤ 1048576) (hRC : R * C ≤ 1048576) (hf : ∀ i j : Nat, i < R → j < C → Ret E n_impl_transpose_1 [⟨yI, (i : Int)⟩, ⟨yI, (j : Int)⟩, ⟨(.ptr yM), c.1⟩] ⟨o_impl_transpose_1, (f i j, ())⟩) :
    Ret E n_impl_filled [⟨yI, p⟩, ⟨yI, (R : Int)⟩, ⟨yI, (C : Int)⟩, ⟨(.fn n_impl_transpose_1 (.cons (.ptr yM) .nil)), c⟩] ⟨o_impl_filled, (p, (R : Int), (C : Int), flatF f C R, ())⟩ := by
  refine ret_of ?_
  simp only [run_impl_filled, impl_filled_impl_transpose_1.ev]
  refine Ev.start (p := fun φ n => impl_filled_impl_transpose_1.l0 (mkR (run E (φ 0))) (φ 0) n (C : Int) c (R : Int) 0 0 0 0 p (R : Int) (C : Int) [] = _) 1 ?_ (fun _ _ _ h => h)
  refine fold_loop 1 (L := fun φ n k a => impl_filled_impl_transpose_1.l0 (mkR (run E (φ 0))) (φ 0) n (C : Int) c (R : Int) k 0 0 0 p (R : Int) (C : Int) a) (len := R) (fun k => flatF f C k) (fun _ _ _ _ _ => rfl) (fun k r hk ih => ?_) ?_
  · simp only [impl_filled_impl_transpose_1.l0_succ _ mk_ok]
    refine ev_t (decide_eq_true (by omega)) ?_
    refine Ev.start (p := fun φ n => impl_filled_impl_transpose_1.l1 (mkR (run E (φ 0))) (φ 0) (φ 1) n (C : Int) c (k : Int) (R : Int) (k : Int) (C : Int) 0 0 0 0 p (R : Int) (C : Int) (flatF f C k) = _) 2 ?_ (fun _ _ _ h => h)
    have hle : (k + 1) * C ≤ R * C := Nat.mul_le_mul_right _ hk
    rw [Nat.add_mul] at hle
    have := fold_loop 2 (L := fun φ n j a => impl_filled_impl_transpose_1.l1 (mkR (run E (φ 0))) (φ 0) (φ 1) n (C : Int) c (k : Int) (R : Int) (k : Int) (C : Int) j 0 0 0 p (R : Int) (C : Int) a) (len := C) (fun j => flatF f C k ++ (List.range j).map (f k)) (r := r) (fun _ _ _ _ _ => rfl) (fun j r hj ih => ?_) ?_
    · simpa using this
    · simp only [impl_filled_impl_transpose_1.l1_succ _ mk_ok]
      rw [List.range_succ, List.map_append, ← List.append_assoc] at ih
      refine ev_t (decide_eq_true (by omega)) (ev_call (hf k j hk hj) (ev_chk (by simp [flatF_length]; omega) ?_))
      rw [w64_succ (by omega)]; exact ih
    · simp only [impl_filled_impl_transpose_1.l1_succ _ mk_ok]
      refine ev_f (decide_eq_false (by omega)) ?_
      rw [w64_succ (by omega)]; exact ih
  · simp only [impl_filled_impl_transpose_1.l0_succ _ mk_ok]
    exact ev_f (decide_eq_false (by omega)) ev_rfl

theorem filled_impl_product_1_ret (p : Int) (R C : Nat) (c : (vM × (vK × Unit) × Unit)) (f : Nat → Nat → Int) (hR : R ≤ 1048576) (hC : C ≤ 1048576) (hRC : R * C ≤ 1048576) (hf : ∀ i j : Nat, i < R → j < C → Ret E n_impl_product_1 [⟨yI, (i : Int)⟩, ⟨yI, (j : Int)⟩, ⟨(.ptr yM), c.1⟩, ⟨(.ptr (.cons yK .nil)), c.2.1⟩] ⟨o_impl_product_1, (f i j, ())⟩) :
    Ret E n_impl_filled [⟨yI, p⟩, ⟨yI, (R : Int)⟩, ⟨yI, (C : Int)⟩, ⟨(.fn n_impl_product_1 (.cons (.ptr yM) (.cons (.ptr (.cons yK .nil)) .nil))), c⟩] ⟨o_impl_filled, (p, (R : Int), (C : Int), flatF f C R, ())⟩ := by
  refine ret_of ?_
  simp only [run_impl_filled, impl_filled_impl_product_1.ev]
  refine Ev.start (p := fun φ n => impl_filled_impl_product_1.l0 (mkR (run E (φ 0))) (φ 0) n (C : Int) c (R : Int) 0 0 0 0 p (R : Int) (C : Int) [] = _) 1 ?_ (fun _ _ _ h => h)
  refine fold_loop 1 (L := fun φ n k a => impl_filled_impl_product_1.l0 (mkR (run E (φ 0))) (φ 0) n (C : Int) c (R : Int) k 0 0 0 p (R : Int) (C : Int) a) (len := R) (fun k => flatF f C k) (fun _ _ _ _ _ => rfl) (fun k r hk ih => ?_) ?_
  · simp only [impl_filled_impl_product_1.l0_succ _ mk_ok]
    refine ev_t (decide_eq_true (by omega)) ?_
    refine Ev.start (p := fun φ n => impl_filled_impl_product_1.l1 (mkR (run E (φ 0))) (φ 0) (φ 1) n (C : Int) c (k : Int) (R : Int) (k : Int) (C : Int) 0 0 0 0 p (R : Int) (C : Int) (flatF f C k) = _) 2 ?_ (fun _ _ _ h => h)
    have hle : (k + 1) * C ≤ R * C := Nat.mul_le_mul_right _ hk
    rw [Nat.add_mul] at hle
    have := fold_loop 2 (L := fun φ n j a => impl_filled_impl_product_1.l1 (mkR (run E (φ 0))) (φ 0) (φ 1) n (C : Int) c (k : Int) (R : Int) (k : Int) (C : Int) j 0 0 0 p (R : Int) (C : Int) a) (len := C) (fun j => flatF f C k ++ (List.range j).map (f k)) (r := r) (fun _ _ _ _ _ => rfl) (fun j r hj ih => ?_) ?_
    · simpa using this
    · simp only [impl_filled_impl_product_1.l1_succ _ mk_ok]
      rw [List.range_succ, List.map_append, ← List.append_assoc] at ih
      refine ev_t (decide_eq_true (by omega)) (ev_call (hf k j hk hj) (ev_chk (by simp [flatF_length]; omega) ?_))
      rw [w64_succ (by omega)]; exact ih
    · simp only [impl_filled_impl_product_1.l1_succ _ mk_ok]
      refine ev_f (decide_eq_false (by omega)) ?_
      rw [w64_succ (by omega)]; exact ih
  · simp only [impl_filled_impl_product_1.l0_succ _ mk_ok]
    exact ev_f (decide_eq_false (by omega)) ev_rfl

theorem filled_impl_zero_1_ret (p : Int) (R C : Nat) (f : Nat → Nat → Int) (hR : R ≤ 1048576) (hC : C ≤ 1048576) (hRC : R * C ≤ 1048576) (hf : ∀ i j : Nat, i < R → j < C → Ret E n_impl_zero_1 [⟨yI, (i : Int)⟩, ⟨yI, (j : Int)⟩] ⟨o_impl_zero_1, (f i j, ())⟩) :
    Ret E n_impl_filled [⟨yI, p⟩, ⟨yI, (R : Int)⟩, ⟨yI, (C : Int)⟩, ⟨(.fn n_impl_zero_1 .nil), ()⟩] ⟨o_impl_filled, (p, (R : Int), (C : Int), flatF f C R, ())⟩ := by
  refine ret_of ?_
  simp only [run_impl_filled, impl_filled_impl_zero_1.ev]
  refine Ev.start (p := fun φ n => impl_filled_impl_zero_1.l0 (mkR (run E (φ 0))) (φ 0) n (C : Int) (R : Int) 0 0 0 0 p (R : Int) (C : Int) [] = _) 1 ?_ (fun _ _ _ h => h)
  refine fold_loop 1 (L := fun φ n k a => impl_filled_impl_zero_1.l0 (mkR (run E (φ 0))) (φ 0) n (C : Int) (R : Int) k 0 0 0 p (R : Int) (C : Int) a) (len := R) (fun k => flatF f C k) (fun _ _ _ _ _ => rfl) (fun k r hk ih => ?_) ?_
  · simp only [impl_filled_impl_zero_1.l0_succ _ mk_ok]
    refine ev_t (decide_eq_true (by omega)) ?_
    refine Ev.start (p := fun φ n => impl_filled_impl_zero_1.l1 (mkR (run E (φ 0))) (φ 0) (φ 1) n (C : Int) (k : Int) (R : Int) (k : Int) (C : Int) 0 0 0 0 p (R : Int) (C : Int) (flatF f C k) = _) 2 ?_ (fun _ _ _ h => h)
    have hle : (k + 1) * C ≤ R * C := Nat.mul_le_mul_right _ hk
    rw [Nat.add_mul] at hle
    have := fold_loop 2 (L := fun φ n j a => impl_filled_impl_zero_1.l1 (mkR (run E (φ 0))) (φ 0) (φ 1) n (C : Int) (k : Int) (R : Int) (k : Int) (C : Int) j 0 0 0 p (R : Int) (C : Int) a) (len := C) (fun j => flatF f C k ++ (List.range j).map (f k)) (r := r) (fun _ _ _ _ _ => rfl) (fun j r hj ih => ?_) ?_
    · simpa using this
    · simp only [impl_filled_impl_zero_1.l1_succ _ mk_ok]
      rw [List.range_succ, List.map_append, ← List.append_assoc] at ih
      refine ev_t (decide_eq_true (by omega)) (ev_call (hf k j hk hj) (ev_chk (by simp [flatF_length]; omega) ?_))
      rw [w64_succ (by omega)]; exact ih
    · simp only [impl_filled_impl_zero_1.l1_succ _ mk_ok]
      refine ev_f (decide_eq_false (by omega)) ?_
      rw [w64_succ (by omega)]; exact ih
  · simp only [impl_filled_impl_zero_1.l0_succ _ mk_ok]
    exact ev_f (decide_eq_false (by omega)) ev_rfl

theorem filled_impl_unit_1_ret (p : Int) (R C : Nat) (f : Nat → Nat → Int) (hR : R ≤ 1048576) (hC : C ≤ 1048576) (hRC : R * C ≤ 1048576) (hf : ∀ i j : Nat, i < R → j < C → Ret E n_impl_unit_1 [⟨yI, (i : Int)⟩, ⟨yI, (j : Int)⟩] ⟨o_impl_unit_1, (f i j, ())⟩) :
    Ret E n_impl_filled [⟨yI, p⟩, ⟨yI, (R : Int)⟩, ⟨yI, (C : Int)⟩, ⟨(.fn n_impl_unit_1 .nil), ()⟩] ⟨o_impl_filled, (p, (R : Int), (C : Int), flatF f C R, ())⟩ := by
  refine ret_of ?_
  simp only [run_impl_filled, impl_filled_impl_unit_1.ev]
  refine Ev.start (p := fun φ n => impl_filled_impl_unit_1.l0 (mkR (run E (φ 0))) (φ 0) n (C : Int) (R : Int) 0 0 0 0 p (R : Int) (C : Int) [] = _) 1 ?_ (fun _ _ _ h => h)
  refine fold_loop 1 (L := fun φ n k a => impl_filled_impl_unit_1.l0 (mkR (run E (φ 0))) (φ 0) n (C : Int) (R : Int) k 0 0 0 p (R : Int) (C : Int) a) (len := R) (fun k => flatF f C k) (fun _ _ _ _ _ => rfl) (fun k r hk ih => ?_) ?_
  · simp only [impl_filled_impl_unit_1.l0_succ _ mk_ok]
    refine ev_t (decide_eq_true (by omega)) ?_
    refine Ev.start (p := fun φ n => impl_filled_impl_unit_1.l1 (mkR (run E (φ 0))) (φ 0) (φ 1) n (C : Int) (k : Int) (R : Int) (k : Int) (C : Int) 0 0 0 0 p (R : Int) (C : Int) (flatF f C k) = _) 2 ?_ (fun _ _ _ h => h)
    have hle : (k + 1) * C ≤ R * C := Nat.mul_le_mul_right _ hk
    rw [Nat.add_mul] at hle
    have := fold_loop 2 (L := fun φ n j a => impl_filled_impl_unit_1.l1 (mkR (run E (φ 0))) (φ 0) (φ 1) n (C : Int) (k : Int) (R : Int) (k : Int) (C : Int) j 0 0 0 p (R : Int) (C : Int) a) (len := C) (fun j => flatF f C k ++ (List.range j).map (f k)) (r := r) (fun _ _ _ _ _ => rfl) (fun j r hj ih => ?_) ?_
    · simpa using this
    · simp only [impl_filled_impl_unit_1.l1_succ _ mk_ok]
      rw [List.range_succ, List.map_append, ← List.append_assoc] at ih
      refine ev_t (decide_eq_true (by omega)) (ev_call (hf k j hk hj) (ev_chk (by simp [flatF_length]; omega) ?_))
      rw [w64_succ (by omega)]; exact ih
    · simp only [impl_filled_impl_unit_1.l1_succ _ mk_ok]
      refine ev_f (decide_eq_false (by omega)) ?_
      rw [w64_succ (by omega)]; exact ih
  · simp only [impl_filled_impl_unit_1.l0_succ _ mk_ok]
    exact ev_f (decide_eq_false (by omega)) ev_rfl

end VeT

open Go Go.Proofs Ve
set_option linter.unusedVariables false
set_option linter.unusedSimpArgs false
namespace VeT

abbrev cM : Ty := .cons yI (.cons yI (.cons yI (.cons yL .nil)))
abbrev cC : Ty := .cons yK .nil
abbrev cS : Ty := .cons yK (.cons yI (.cons yL (.cons (.sl (.st cM)) .nil)))
abbrev Mat := Int × Int × Int × List Int × Unit
abbrev Cpx := List (List Int) × Unit
abbrev Shf := List (List Int) × Int × List Int × List Mat × Unit
abbrev Sim := List Int
abbrev dI (x : Int) : Dv := ⟨.int .i64,x⟩
abbrev dL (x : List Int) : Dv := ⟨.sl yI,x⟩
abbrev dLL (x : List (List Int)) : Dv := ⟨.sl yL,x⟩
abbrev dC (x : Cpx) : Dv := ⟨.ptr cC,x⟩
abbrev dM (x : Mat) : Dv := ⟨.ptr cM,x⟩
abbrev dS (x : Shf) : Dv := ⟨.ptr cS,x⟩
abbrev dMs (x : List Mat) : Dv := ⟨.sl (.st cM),x⟩

theorem within_ret (n lo hi : Int) : Ret E n_impl_within [dI n,dI lo,dI hi] ⟨o_impl_within,(pb (lo ≤ n ∧ n ≤ hi),())⟩ := by
  refine ret_of ?_
  simp only [run_impl_within,impl_within.ev]
  refine ev_d (fun h => ev_some ?_) fun h => ev_some ?_
  · rw [pb_dec,pb_congr (show n ≤ hi ↔ lo ≤ n ∧ n ≤ hi by omega)]
  · rw [pb_false (by omega)]

theorem l00In_ret (n lo hi : Int) : Ret E n_spec_l00In [dI n,dI lo,dI hi] ⟨o_spec_l00In,(pb (lo ≤ n ∧ n ≤ hi),())⟩ := by
  refine ret_of ?_
  simp only [run_spec_l00In,spec_l00In.ev]
  refine ev_d (fun h => ev_some ?_) fun h => ev_some ?_
  · rw [pb_dec,pb_congr (show n ≤ hi ↔ lo ≤ n ∧ n ≤ hi by omega)]
  · rw [pb_false (by omega)]

theorem isVertex_ret (n : Int) : Ret E n_impl_isVertex [dI n] ⟨o_impl_isVertex,(pb (0 ≤ n ∧ n ≤ 9),())⟩ := by
  refine ret_of ?_
  simp only [run_impl_isVertex,impl_isVertex.ev]
  exact ev_call (within_ret _ _ _) ev_rfl

theorem ValidSimplex_1_ret (n : Int) : Ret E n_impl_ValidSimplex_1 [dI n] ⟨o_impl_ValidSimplex_1,(!pb (0 ≤ n ∧ n ≤ 9),())⟩ := by
  refine ret_of ?_
  simp only [run_impl_ValidSimplex_1,impl_ValidSimplex_1.ev]
  exact ev_call (isVertex_ret _) ev_rfl

/-- the list rises -/
def Rises (s : Sim) : Prop := ∀ j,1 ≤ j → j < s.length → s.getD (j - 1) 0 < s.getD j 0

theorem isRising_ret (s : Sim) (hs : Sm yL s) : Ret E n_impl_isRising [dL s] ⟨o_impl_isRising,(pb (Rises s),())⟩ := by
  have hs1 : s.length ≤ 1048576 := hs.1
  refine ret_of ?_
  simp only [run_impl_isRising,impl_isRising.ev]
  by_cases h0 : s.length = 0
  · refine Ev.start (p := fun φ n => impl_isRising.l0 (mkR (run E (φ 0))) (φ 0) n s 1 = _) 1 ?_ (fun _ _ _ h => h)
    refine loopR 1 (σ := Unit) (L := fun φ n _ => impl_isRising.l0 (mkR (run E (φ 0))) (φ 0) n s 1) (fun _ _ _ _ => rfl) (fun _ => True) (fun _ => _) (fun _ => 0) (fun _ _ _ => ?_) () trivial
    simp only [impl_isRising.l0_succ _ mk_ok]
    refine ev_f (decide_eq_false (by omega)) (ev_some ?_)
    rw [pb_true]
    intro j h1 h2; omega
  · refine Ev.start (p := fun φ n => impl_isRising.l0 (mkR (run E (φ 0))) (φ 0) n s 1 = _) 1 ?_ (fun _ _ _ h => h)
    refine all_pb 1 (L := fun φ n k => impl_isRising.l0 (mkR (run E (φ 0))) (φ 0) n s k) (len := s.length) 1 (by omega) (fun j => s.getD (j - 1) 0 < s.getD j 0) (fun b => some ⟨o_impl_isRising,(b,())⟩) (fun _ _ _ _ => rfl) (fun k h1 h2 hP _ => ?_) (fun k r h1 h2 hP _ ih => ?_) (fun _ => ?_)
    · simp only [impl_isRising.l0_succ _ mk_ok]
      refine ev_t (decide_eq_true (by omega)) ?_
      rw [w64_small (by omega) (by omega),show ((k : Int) - 1) = ((k - 1 : Nat) : Int) by omega]
      refine ev_bind (idx_lt (by omega)) (ev_bind (idx_lt h2) (ev_t (decide_eq_true ?_) ev_rfl))
      simpa [List.getD_eq_getElem?_getD,h2,show k - 1 < s.length by omega] using hP
    · simp only [impl_isRising.l0_succ _ mk_ok]
      refine ev_t (decide_eq_true (by omega)) ?_
      rw [w64_small (by omega) (by omega),show ((k : Int) - 1) = ((k - 1 : Nat) : Int) by omega]
      refine ev_bind (idx_lt (by omega)) (ev_bind (idx_lt h2) (ev_f (decide_eq_false ?_) ?_))
      · simpa [List.getD_eq_getElem?_getD,h2,show k - 1 < s.length by omega] using hP
      · rw [w64_succ (by omega)]; exact ih
    · simp only [impl_isRising.l0_succ _ mk_ok]
      exact ev_f (decide_eq_false (by omega)) ev_rfl

end VeT

open Go Go.Proofs Ve
set_option linter.unusedVariables false
set_option linter.unusedSimpArgs false
namespace VeT

def Vx (s : Sim) : Prop := 1 ≤ s.length ∧ s.length ≤ 4 ∧ Rises s ∧ ∀ x ∈ s,0 ≤ x ∧ x ≤ 9

theorem ValidSimplex_ret (s : Sim) (hs : Sm yL s) : Ret E n_impl_ValidSimplex [dL s] ⟨o_impl_ValidSimplex,(pb (Vx s),())⟩ := by
  refine ret_of ?_
  simp only [run_impl_ValidSimplex,impl_ValidSimplex.ev]
  refine ev_d (fun h1 => ev_d (fun h2 => ev_call (isRising_ret s hs) (ev_b (fun h3 => ev_call (ContainsFunc_Sint64_int64_impl_ValidSimplex_1_ret s _ hs.1 fun x _ => ValidSimplex_1_ret x) (ev_some ?_)) fun h3 => ev_some ?_)) fun h2 => ev_some ?_) fun h1 => ev_some ?_
  · have h3 := pb_iff.1 h3
    have : (!pb (∃ x ∈ s,(!pb (0 ≤ x ∧ x ≤ 9)) = true)) = pb (Vx s) := eq_pb (by
      simp only [Bool.not_eq_true',pb_not]
      exact ⟨fun h => ⟨by omega,by omega,h3,fun x hx => Classical.byContradiction fun hn => h ⟨x,hx,hn⟩⟩,fun h ⟨x,hx,hn⟩ => hn (h.2.2.2 x hx)⟩)
    rw [this]
  · rw [pb_false fun h => pb_not.1 h3 h.2.2.1]
  · rw [pb_false fun h => h2 (by have := h.2.1; omega)]
  · rw [pb_false fun h => h1 (by have := h.1; omega)]

theorem l00Rises_ret (s : Sim) (lo hi : Int) (hs : Sm yL s) : Ret E n_spec_l00Rises [dL s,dI lo,dI hi] ⟨o_spec_l00Rises,(pb (Rises s ∧ ∀ x ∈ s,lo ≤ x ∧ x ≤ hi),())⟩ := by
  have hs1 : s.length ≤ 1048576 := hs.1
  refine ret_of ?_
  simp only [run_spec_l00Rises,spec_l00Rises.ev]
  refine Ev.start (p := fun φ n => spec_l00Rises.l0 (mkR (run E (φ 0))) (φ 0) n s lo hi 0 = _) 1 ?_ (fun _ _ _ h => h)
  refine (all_pb 1 (L := fun φ n k => spec_l00Rises.l0 (mkR (run E (φ 0))) (φ 0) n s lo hi k) (len := s.length) 0 (by omega) (fun j => (lo ≤ s.getD j 0 ∧ s.getD j 0 ≤ hi) ∧ (1 ≤ j → s.getD (j - 1) 0 < s.getD j 0)) (fun b => some ⟨o_spec_l00Rises,(b,())⟩) (fun _ _ _ _ => rfl) (fun k h1 h2 hP _ => ?_) (fun k r h1 h2 hP _ ih => ?_) (fun _ => ?_)).to ?_
  · simp only [spec_l00Rises.l0_succ _ mk_ok]
    refine ev_t (decide_eq_true (by omega)) (ev_bind (idx_lt h2) (ev_call (l00In_ret _ _ _) ?_))
    have e : s.getD k 0 = s[k] := by simp [List.getD_eq_getElem?_getD,h2]
    rw [e] at hP
    refine ev_b (fun _ => ?_) (fun hin => ?_)
    · simp only [spec_l00Rises.j1_eq _ mk_ok,cond_true]; (first | exact ev_rfl | exact Ev.of fun _ => trivial)
    · have hin : lo ≤ s[k] ∧ s[k] ≤ hi := pb_iff.1 (by simpa using hin)
      have hk : 1 ≤ k := Classical.byContradiction fun h => hP ⟨hin,fun h' => absurd h' h⟩
      refine ev_t (decide_eq_true (by omega)) ?_
      rw [w64_small (by omega) (by omega),show ((k : Int) - 1) = ((k - 1 : Nat) : Int) by omega]
      refine ev_bind (idx_lt (by omega)) (ev_bind (idx_lt h2) ?_)
      have e' : s.getD (k - 1) 0 = s[k - 1] := by simp [List.getD_eq_getElem?_getD,show k - 1 < s.length by omega]
      rw [e'] at hP
      have : decide (s[k-1] ≥ s[k]) = true := decide_eq_true (Classical.byContradiction fun h => hP ⟨hin,fun _ => by omega⟩)
      simp only [this,spec_l00Rises.j1_eq _ mk_ok,cond_true]; (first | exact ev_rfl | exact Ev.of fun _ => trivial)
  · simp only [spec_l00Rises.l0_succ _ mk_ok]
    refine ev_t (decide_eq_true (by omega)) (ev_bind (idx_lt h2) (ev_call (l00In_ret _ _ _) ?_))
    have e : s.getD k 0 = s[k] := by simp [List.getD_eq_getElem?_getD,h2]
    rw [e] at hP
    refine ev_f (by rw [pb_true hP.1]; rfl) ?_
    refine ev_d (fun hk => ?_) fun hk => ?_
    · rw [w64_small (by omega) (by omega),show ((k : Int) - 1) = ((k - 1 : Nat) : Int) by omega]
      refine ev_bind (idx_lt (by omega)) (ev_bind (idx_lt h2) ?_)
      have e' : s.getD (k - 1) 0 = s[k - 1] := by simp [List.getD_eq_getElem?_getD,show k - 1 < s.length by omega]
      rw [e'] at hP
      have : decide (s[k-1] ≥ s[k]) = false := decide_eq_false (by have := hP.2 (by omega); omega)
      simp only [this,spec_l00Rises.j1_eq _ mk_ok,cond_false]
      rw [w64_succ (by omega)]; exact ih
    · simp only [spec_l00Rises.j1_eq _ mk_ok,cond_false]
      rw [w64_succ (by omega)]; exact ih
  · simp only [spec_l00Rises.l0_succ _ mk_ok]
    exact ev_f (decide_eq_false (by omega)) ev_rfl
  · refine congrArg (fun b : Bool => some (⟨o_spec_l00Rises,(b,())⟩ : Dv)) (pb_congr ⟨fun h => ⟨fun j h1 h2 => (h j (by omega) h2).2 h1,fun x hx => ?_⟩,fun ⟨h1,h2⟩ j _ hj => ⟨?_,fun h3 => h1 j h3 hj⟩⟩)
    · obtain ⟨j,hj,rfl⟩ := List.mem_iff_getElem.1 hx
      simpa [List.getD_eq_getElem?_getD,hj] using (h j (by omega) hj).1
    · simpa [List.getD_eq_getElem?_getD,hj] using h2 _ (List.getElem_mem hj)

theorem l05Simplex_ret (s : Sim) (hs : Sm yL s) : Ret E n_spec_l05Simplex [dL s] ⟨o_spec_l05Simplex,(pb (Vx s),())⟩ := by
  refine ret_of ?_
  simp only [run_spec_l05Simplex,spec_l05Simplex.ev]
  refine ev_call (l00In_ret _ _ _) (ev_b (fun h1 => ev_call (l00Rises_ret s _ _ hs) (ev_some ?_)) fun h1 => ev_some ?_)
  · have h1 := pb_iff.1 h1
    exact congrArg (fun b : Bool => some (⟨o_spec_l05Simplex,(b,())⟩ : Dv)) (pb_congr ⟨fun h => ⟨by omega,by omega,h.1,h.2⟩,fun h => ⟨h.2.2.1,h.2.2.2⟩⟩)
  · rw [pb_false fun h => pb_not.1 h1 ⟨by have := h.1; omega,by have := h.2.1; omega⟩]

/-! comparing -/
def cmp3 (a b : Int) : Int := if a < b then -1 else if b < a then 1 else 0
def lexc : Sim → Sim → Int
  | [],[] => 0
  | [],_ :: _ => -1
  | _ :: _,[] => 1
  | x :: xs,y :: ys => if x < y then -1 else if y < x then 1 else lexc xs ys
def cmpS (a b : Sim) : Int := if cmp3 a.length b.length ≠ 0 then cmp3 a.length b.length else lexc a b

theorem cmp3_zero {a b : Int} : cmp3 a b = 0 ↔ a = b := by unfold cmp3; split <;> (try split) <;> omega
theorem cmp3_neg {a b : Int} : cmp3 b a = - cmp3 a b := by unfold cmp3; split <;> split <;> (try split) <;> omega
theorem cmp3_lt {a b : Int} : cmp3 a b < 0 ↔ a < b := by unfold cmp3; split <;> (try split) <;> omega
theorem lexc_eq : ∀ {a b : Sim},lexc a b = 0 ↔ a = b
  | [],[] => by simp [lexc]
  | [],_ :: _ => by simp [lexc]
  | _ :: _,[] => by simp [lexc]
  | x :: xs,y :: ys => by
    have := @lexc_eq xs ys
    simp only [lexc,List.cons.injEq]
    split
    · constructor
      · intro h; omega
      · rintro ⟨rfl,_⟩; omega
    · split
      · constructor
        · intro h; omega
        · rintro ⟨rfl,_⟩; omega
      · rw [this]; constructor
        · intro h; exact ⟨by omega,h⟩
        · exact fun h => h.2
theorem lexc_neg : ∀ {a b : Sim},lexc b a = - lexc a b
  | [],[] => by simp [lexc]
  | [],_ :: _ => by simp [lexc]
  | _ :: _,[] => by simp [lexc]
  | x :: xs,y :: ys => by
    have := @lexc_neg xs ys
    simp only [lexc]
    split <;> split <;> (try split) <;> omega
theorem lexc_trans : ∀ {a b c : Sim},lexc a b < 0 → lexc b c < 0 → lexc a c < 0
  | [],[],c,h,_ => by simp [lexc] at h
  | [],_ :: _,[],_,h => by simp [lexc] at h
  | [],_ :: _,_ :: _,_,_ => by simp [lexc]
  | _ :: _,[],_,h,_ => by simp [lexc] at h
  | _ :: _,_ :: _,[],_,h => by simp [lexc] at h
  | x :: xs,y :: ys,z :: zs,h1,h2 => by
    have := @lexc_trans xs ys zs
    simp only [lexc] at h1 h2 ⊢
    split at h1 <;> split at h2 <;> (try split at h1) <;> (try split at h2) <;> (try split) <;> (try split) <;> first | omega | (exact this h1 h2)
theorem cmpS_zero {a b : Sim} : cmpS a b = 0 ↔ a = b := by
  unfold cmpS
  split
  · rename_i h
    exact ⟨fun h' => absurd h' h,fun h' => absurd (cmp3_zero.2 (by rw [h'])) h⟩
  · exact lexc_eq
theorem cmpS_neg {a b : Sim} : cmpS b a = - cmpS a b := by
  unfold cmpS
  rw [@cmp3_neg a.length b.length]
  split <;> split <;> first | omega | exact lexc_neg
theorem cmpS_lt {a b : Sim} : cmpS a b < 0 ↔ a.length < b.length ∨ a.length = b.length ∧ lexc a b < 0 := by
  unfold cmpS
  split
  · rename_i h
    rw [cmp3_lt]
    rw [Ne,cmp3_zero] at h
    omega
  · rename_i h
    rw [Classical.not_not,cmp3_zero] at h
    omega
theorem cmpS_trans {a b c : Sim} (h1 : cmpS a b < 0) (h2 : cmpS b c < 0) : cmpS a c < 0 := by
  rw [cmpS_lt] at *
  rcases h1 with h1 | ⟨h1,h1'⟩ <;> rcases h2 with h2 | ⟨h2,h2'⟩
  · left; omega
  · left; omega
  · left; omega
  · right; exact ⟨by omega,lexc_trans h1' h2'⟩

theorem isNaNi_ret (a : Int) : Ret E n_cmp_isNaN_int [dI a] ⟨o_cmp_isNaN_int,(false,())⟩ := by
  refine ret_of ?_
  simp only [run_cmp_isNaN_int,cmp_isNaN_int.ev]
  exact ev_some (by simp)
theorem isNaN_ret (a : Int) : Ret E n_cmp_isNaN_int64 [dI a] ⟨o_cmp_isNaN_int64,(false,())⟩ := by
  refine ret_of ?_
  simp only [run_cmp_isNaN_int64,cmp_isNaN_int64.ev]
  exact ev_some (by simp)

theorem Comparei_ret (a b : Int) : Ret E n_cmp_Compare_int [dI a,dI b] ⟨o_cmp_Compare_int,(cmp3 a b,())⟩ := by
  refine ret_of ?_
  simp only [run_cmp_Compare_int,cmp_Compare_int.ev]
  refine ev_call (isNaNi_ret _) (ev_call (isNaNi_ret _) (ev_f rfl (ev_f rfl (ev_d (fun h => ev_some ?_) fun h => ev_d (fun h2 => ev_some ?_) fun h2 => ev_some ?_))))
  · rw [cmp3,if_pos h]
  · rw [cmp3,if_neg h,if_pos h2]
  · rw [cmp3,if_neg h,if_neg h2]
theorem Compare_ret (a b : Int) : Ret E n_cmp_Compare_int64 [dI a,dI b] ⟨o_cmp_Compare_int64,(cmp3 a b,())⟩ := by
  refine ret_of ?_
  simp only [run_cmp_Compare_int64,cmp_Compare_int64.ev]
  refine ev_call (isNaN_ret _) (ev_call (isNaN_ret _) (ev_f rfl (ev_f rfl (ev_d (fun h => ev_some ?_) fun h => ev_d (fun h2 => ev_some ?_) fun h2 => ev_some ?_))))
  · rw [cmp3,if_pos h]
  · rw [cmp3,if_neg h,if_pos h2]
  · rw [cmp3,if_neg h,if_neg h2]

theorem lexc_step {a b : Sim} {k : Nat} (h : k < a.length) (h' : k < b.length) : lexc (a.drop k) (b.drop k) = if cmp3 a[k] b[k] ≠ 0 then cmp3 a[k] b[k] else lexc (a.drop (k + 1)) (b.drop (k + 1)) := by
  rw [List.drop_eq_getElem_cons h,List.drop_eq_getElem_cons h',lexc]
  unfold cmp3
  split
  · simp
  · split
    · simp
    · simp

theorem SliceCompare_ret (a b : Sim) (ha : Sm yL a) : Ret E n_slices_Compare_Sint64_int64 [dL a,dL b] ⟨o_slices_Compare_Sint64_int64,(lexc a b,())⟩ := by
  have ha1 : a.length ≤ 1048576 := ha.1
  refine ret_of ?_
  simp only [run_slices_Compare_Sint64_int64,slices_Compare_Sint64_int64.ev]
  refine Ev.start (p := fun φ n => slices_Compare_Sint64_int64.l0 (mkR (run E (φ 0))) (φ 0) n a b a (a.length : Int) 0 = _) 1 ?_ (fun _ _ _ h => h)
  refine loopR 1 (σ := Nat) (L := fun φ n k => slices_Compare_Sint64_int64.l0 (mkR (run E (φ 0))) (φ 0) n a b a (a.length : Int) (k : Int)) (fun _ _ _ _ => rfl) (fun k => k ≤ a.length ∧ k ≤ b.length) (fun k => some ⟨o_slices_Compare_Sint64_int64,(lexc (a.drop k) (b.drop k),())⟩) (fun k => a.length - k) (fun k ⟨hk,hkb⟩ ih => ?_) 0 ⟨Nat.zero_le _,Nat.zero_le _⟩
  simp only [slices_Compare_Sint64_int64.l0_succ _ mk_ok]
  refine ev_d (fun h => ?_) fun h => ?_
  · have hka : k < a.length := by omega
    refine ev_bind (idx_lt hka) (ev_d (fun h2 => ev_some ?_) fun h2 => ?_)
    · rw [List.drop_eq_getElem_cons hka,List.drop_of_length_le (l := b) (by omega),lexc]
    · have hkb : k < b.length := by omega
      refine ev_bind (idx_lt hkb) (ev_call (Compare_ret _ _) (ev_b (fun h3 => ev_some ?_) fun h3 => ?_))
      · rw [lexc_step hka hkb,if_pos (by simpa using h3)]
      · rw [w64_succ (by omega)]
        refine (ih (k + 1) ⟨by omega,by omega⟩ (by omega)).to ?_
        rw [lexc_step hka hkb,if_neg (by simpa using h3)]
  · have e : k = a.length := by omega
    subst e
    refine ev_d (fun h2 => ev_some ?_) fun h2 => ev_some ?_
    · rw [List.drop_of_length_le (l := a) (by omega),List.drop_eq_getElem_cons (l := b) (by omega),lexc]
    · rw [List.drop_of_length_le (l := a) (by omega),List.drop_of_length_le (l := b) (by omega),lexc]

theorem Or2_ret (a b : Int) : Ret E n_cmp_Or_int [dL [a,b]] ⟨o_cmp_Or_int,(if a ≠ 0 then a else b,())⟩ := by
  refine ret_of ?_
  simp only [run_cmp_Or_int,cmp_Or_int.ev]
  refine Ev.start (p := fun φ n => cmp_Or_int.l0 (mkR (run E (φ 0))) (φ 0) n 0 [a,b] ([a,b].length : Int) 0 = _) 1 ?_ (fun _ _ _ h => h)
  refine Ev.round 1 (L := fun φ n => cmp_Or_int.l0 (mkR (run E (φ 0))) (φ 0) n 0 [a,b] ([a,b].length : Int) 0) ?_ (fun _ _ _ => rfl)
  simp only [cmp_Or_int.l0_succ _ mk_ok]
  refine ev_t (by simp) (ev_bind (x := a) rfl (ev_b (fun h => ev_some ?_) fun h => ?_))
  · rw [if_pos (by simpa using h)]
  · rw [if_neg (by simpa using h)]
    rw [show w64 ((0 : Int) + 1) = 1 by decide]
    refine Ev.round 1 (L := fun φ n => cmp_Or_int.l0 (mkR (run E (φ 0))) (φ 0) n 0 [a,b] ([a,b].length : Int) 1) ?_ (fun _ _ _ => rfl)
    simp only [cmp_Or_int.l0_succ _ mk_ok]
    refine ev_t (by simp) (ev_bind (x := b) rfl (ev_b (fun h => ev_rfl) fun h => ?_))
    rw [show w64 ((1 : Int) + 1) = 2 by decide]
    refine Ev.round 1 (L := fun φ n => cmp_Or_int.l0 (mkR (run E (φ 0))) (φ 0) n 0 [a,b] ([a,b].length : Int) 2) ?_ (fun _ _ _ => rfl)
    simp only [cmp_Or_int.l0_succ _ mk_ok]
    refine ev_f (by simp) (ev_some ?_)
    have : b = 0 := by simpa using h
    rw [this]

theorem compareSimplices_ret (a b : Sim) (ha : Sm yL a) : Ret E n_impl_compareSimplices [dL a,dL b] ⟨o_impl_compareSimplices,(cmpS a b,())⟩ := by
  refine ret_of ?_
  simp only [run_impl_compareSimplices,impl_compareSimplices.ev]
  exact ev_call (Comparei_ret _ _) (ev_call (SliceCompare_ret a b ha) (ev_call (Or2_ret _ _) ev_rfl))

theorem l05Before_ret (a b : Sim) (ha : Sm yL a) : Ret E n_spec_l05Before [dL a,dL b] ⟨o_spec_l05Before,(pb (cmpS a b < 0),())⟩ := by
  have ha1 : a.length ≤ 1048576 := ha.1
  refine ret_of ?_
  simp only [run_spec_l05Before,spec_l05Before.ev]
  refine ev_b (fun h => ev_some ?_) fun h => ?_
  · have h : (a.length : Int) ≠ b.length := by simpa using h
    rw [pb_dec,pb_congr (show (a.length : Int) < b.length ↔ cmpS a b < 0 by rw [cmpS_lt]; omega)]
  · have h : a.length = b.length := by have : (a.length : Int) = b.length := by simpa using h
                                       omega
    refine Ev.start (p := fun φ n => spec_l05Before.l0 (mkR (run E (φ 0))) (φ 0) n a b 0 = _) 1 ?_ (fun _ _ _ h => h)
    refine (loopR 1 (σ := Nat) (L := fun φ n k => spec_l05Before.l0 (mkR (run E (φ 0))) (φ 0) n a b (k : Int)) (fun _ _ _ _ => rfl) (fun k => k ≤ a.length) (fun k => some ⟨o_spec_l05Before,(pb (lexc (a.drop k) (b.drop k) < 0),())⟩) (fun k => a.length - k) (fun k hk ih => ?_) 0 (Nat.zero_le _)).to ?_
    · simp only [spec_l05Before.l0_succ _ mk_ok]
      refine ev_d (fun h1 => ?_) fun h1 => ?_
      · have hka : k < a.length := by omega
        have hkb : k < b.length := by omega
        have e := lexc_step hka hkb
        refine ev_bind (idx_lt hka) (ev_bind (idx_lt hkb) (ev_b (fun h3 => ?_) fun h3 => ?_))
        · refine ev_bind (idx_lt hka) (ev_bind (idx_lt hkb) (ev_some ?_))
          have h3 : a[k] ≠ b[k] := by simpa using h3
          rw [if_pos (by rw [Ne,cmp3_zero]; exact h3)] at e
          rw [e,pb_dec,pb_congr cmp3_lt]
        · have h3 : a[k] = b[k] := by simpa using h3
          rw [if_neg (by rw [Classical.not_not,cmp3_zero]; exact h3)] at e
          rw [w64_succ (by omega),e]
          exact ih (k + 1) (by show k + 1 ≤ _; omega) (by show a.length - (k + 1) < _; omega)
      · refine ev_some ?_
        have hk : k ≤ a.length := hk
        have e : k = a.length := by omega
        subst e
        rw [List.drop_of_length_le (l := a) (by omega),List.drop_of_length_le (l := b) (by omega),lexc,pb_false (by omega)]
    · refine congrArg (fun b : Bool => some (⟨o_spec_l05Before,(b,())⟩ : Dv)) (pb_congr ?_)
      simp only [List.drop_zero]; rw [cmpS_lt]; omega

end VeT

open Go Go.Proofs Ve
set_option linter.unusedVariables false
set_option linter.unusedSimpArgs false
namespace VeT

theorem getD_lt {α : Type} {s : List α} {k : Nat} {d : α} (h : k < s.length) : s.getD k d = s[k] := by simp [List.getD_eq_getElem?_getD,h]
theorem sm_get {t : Ty} {s : List t.T} (h : Sm (.sl t) s) {k : Nat} (hk : k < s.length) : Sm t s[k] := h.2 _ (List.getElem_mem hk)
theorem sm_ints {s : Sim} (h : s.length ≤ 1048576) : Sm yL s := ⟨h,fun _ _ => trivial⟩

theorem l00Own_ret (s : Sim) (hs : s.length ≤ 1048576) : Ret E n_spec_l00Own [dL s] ⟨o_spec_l00Own,(s,())⟩ := by
  refine ret_of ?_
  simp only [run_spec_l00Own,spec_l00Own.ev]
  exact ev_chk (by simp; omega) (ev_some rfl)

theorem l05Drop_ret (s : Sim) (k : Nat) (hk : k < s.length) (hs : s.length ≤ 1048576) : Ret E n_spec_l05Drop [dL s,dI (k : Int)] ⟨o_spec_l05Drop,(s.eraseIdx k,())⟩ := by
  refine ret_of ?_
  simp only [run_spec_l05Drop,spec_l05Drop.ev]
  rw [w64_succ (by omega)]
  simp only [Int.toNat_natCast]
  refine ev_chk (by simp; omega) (ev_call (l00Own_ret _ (by simp; omega)) (ev_chk (by simp; omega) (ev_chk (by simp; omega) (ev_some ?_))))
  rw [List.eraseIdx_eq_take_drop_succ]

theorem l00SameP_ret (a b : Sim) (ha : a.length ≤ 1048576) : Ret E n_spec_l00Same [dL a,dL b] ⟨o_spec_l00Same,(pb (a = b),())⟩ := by
  refine ret_of ?_
  simp only [run_spec_l00Same,spec_l00Same.ev]
  refine ev_b (fun h => ev_some ?_) fun h => ?_
  · have h : (a.length : Int) ≠ b.length := by simpa using h
    rw [pb_false fun e => h (by rw [e])]
  · have h : (a.length : Int) = b.length := by simpa using h
    refine Ev.start (p := fun φ n => spec_l00Same.l0 (mkR (run E (φ 0))) (φ 0) n a b 0 = _) 1 ?_ (fun _ _ _ h => h)
    refine (all_pb 1 (L := fun φ n k => spec_l00Same.l0 (mkR (run E (φ 0))) (φ 0) n a b k) (len := a.length) 0 (by omega) (fun j => a.getD j 0 = b.getD j 0) (fun b => some ⟨o_spec_l00Same,(b,())⟩) (fun _ _ _ _ => rfl) (fun k h1 h2 hP _ => ?_) (fun k r h1 h2 hP _ ih => ?_) (fun _ => ?_)).to ?_
    · simp only [spec_l00Same.l0_succ _ mk_ok]
      have hb : k < b.length := by omega
      rw [getD_lt h2,getD_lt hb] at hP
      exact ev_t (decide_eq_true (by omega)) (ev_bind (idx_lt h2) (ev_bind (idx_lt hb) (ev_t (by simpa using hP) ev_rfl)))
    · simp only [spec_l00Same.l0_succ _ mk_ok]
      have hb : k < b.length := by omega
      rw [getD_lt h2,getD_lt hb] at hP
      refine ev_t (decide_eq_true (by omega)) (ev_bind (idx_lt h2) (ev_bind (idx_lt hb) (ev_f (by simpa using hP) ?_)))
      rw [w64_succ (by omega)]; exact ih
    · simp only [spec_l00Same.l0_succ _ mk_ok]
      exact ev_f (decide_eq_false (by omega)) ev_rfl
    · refine congrArg (fun b : Bool => some (⟨o_spec_l00Same,(b,())⟩ : Dv)) (pb_congr ⟨fun hh => List.ext_getElem (by omega) fun j h1 h2 => ?_,fun hh j _ _ => by rw [hh]⟩)
      have := hh j (by omega) h1
      rwa [getD_lt h1,getD_lt h2] at this

noncomputable def findI (c : List Sim) (s : Sim) : Int := idxf (fun x => pb (x = s)) c
theorem findI_nonneg {c : List Sim} {s : Sim} : 0 ≤ findI c s ↔ s ∈ c := by
  unfold findI
  rw [idxf_nonneg]
  simp only [pb_iff]
  exact ⟨fun ⟨x,h,e⟩ => e ▸ h,fun h => ⟨s,h,rfl⟩⟩

theorem l05Find_ret (c : Cpx) (s : Sim) (hc : Sm yK c.1) : Ret E n_spec_l05Find [dC c,dL s] ⟨o_spec_l05Find,(findI c.1 s,())⟩ := by
  have hc1 : c.1.length ≤ 1048576 := hc.1
  obtain ⟨o,h1,h2,h3⟩ := find_loop 1 (L := fun φ n k => spec_l05Find.l0 (mkR (run E (φ 0))) (φ 0) n c s k) (len := c.1.length) (fun k => ∃ h : k < c.1.length,pb (c.1[k] = s) = true) (fun o => some ⟨o_spec_l05Find,(o2i o,())⟩) (fun _ _ _ _ => rfl) (fun k hk hP => by
      obtain ⟨_,hP⟩ := hP
      simp only [spec_l05Find.l0_succ _ mk_ok]
      refine ev_t (decide_eq_true (by omega)) (ev_bind (idx_lt hk) (ev_call (l00SameP_ret _ _ (sm_get hc hk).1) (ev_t hP ev_rfl)))) (fun k q hk hP ih => by
      simp only [spec_l05Find.l0_succ _ mk_ok]
      refine ev_t (decide_eq_true (by omega)) (ev_bind (idx_lt hk) (ev_call (l00SameP_ret _ _ (sm_get hc hk).1) (ev_f (Bool.eq_false_iff.2 fun h => hP ⟨hk,h⟩) ?_)))
      rw [w64_succ (by omega)]; exact ih) (by
      simp only [spec_l05Find.l0_succ _ mk_ok]
      exact ev_f (decide_eq_false (by omega)) ev_rfl)
  rw [idxf_of (p := fun x => pb (x = s)) h1 h2] at h3
  refine ret_of ?_
  simp only [run_spec_l05Find,spec_l05Find.ev]
  exact Ev.start (p := fun φ n => spec_l05Find.l0 (mkR (run E (φ 0))) (φ 0) n c s 0 = _) 1 h3 (fun _ _ _ h => h)

/-! joining,faces -/
theorem run_Grow (n : Nat) (args : List Dv) : run E (n + 1) n_slices_Grow_Sint64_int64 args = pGrow yI (mkR (run E n)) args := rfl

theorem Grow_ret (s : Sim) (n : Int) (h0 : 0 ≤ n) (h1 : n ≤ 1048576) (hs : s.length ≤ 1048576) : Ret E n_slices_Grow_Sint64_int64 [dL s,dI n] ⟨o_slices_Grow_Sint64_int64,(s,())⟩ := by
  refine ret_of ?_
  simp only [run_Grow]
  refine ev_some ((if_pos (show 0 ≤ n ∧ ((List.length s : Int) + n) * (64 * (Ty.size (Ty.int IntKind.i64) : Int)) ≤ 70368744177664 from ⟨h0,?_⟩)).trans rfl)
  have : (Ty.size (Ty.int IntKind.i64)) = 1 := rfl
  rw [this]; omega

theorem Concat_ret (ll : List Sim) (hl : ll.length ≤ 1048576) (hf : ll.flatten.length ≤ 1048576) : Ret E n_slices_Concat_Sint64_int64 [dLL ll] ⟨o_slices_Concat_Sint64_int64,(ll.flatten,())⟩ := by
  have hle : ∀ k,(ll.take k).flatten.length ≤ ll.flatten.length := fun k => by
    have := congrArg List.length (congrArg List.flatten (List.take_append_drop k ll))
    rw [List.flatten_append,List.length_append] at this; omega
  have hst : ∀ k (h : k < ll.length),(ll.take (k + 1)).flatten = (ll.take k).flatten ++ ll[k] := fun k h => by
    rw [List.take_succ_eq_append_getElem h,List.flatten_append]; simp
  refine ret_of ?_
  simp only [run_slices_Concat_Sint64_int64,slices_Concat_Sint64_int64.ev]
  refine Ev.start (p := fun φ n => slices_Concat_Sint64_int64.l0 (mkR (run E (φ 0))) (φ 0) n ll 0 ll (ll.length : Int) 0 = _) 1 ?_ (fun _ _ _ h => h)
  refine fold_loop 1 (L := fun φ n k a => slices_Concat_Sint64_int64.l0 (mkR (run E (φ 0))) (φ 0) n ll a ll (ll.length : Int) k) (len := ll.length) (fun k => (((ll.take k).flatten.length : Nat) : Int)) (fun _ _ _ _ _ => rfl) (fun k r hk ih => ?_) ?_
  · simp only [slices_Concat_Sint64_int64.l0_succ _ mk_ok]
    have := hle (k + 1)
    have e := hst k hk
    have e2 : w64 (((ll.take k).flatten.length : Nat) + (List.length (ll[k]) : Int)) = (((ll.take (k + 1)).flatten.length : Nat) : Int) := by
      rw [w64_small (by omega) (by rw [e,List.length_append] at this; omega),e,List.length_append]; omega
    refine ev_t (decide_eq_true (by omega)) (ev_bind (idx_lt hk) ?_)
    show Ev fun φ => (bif decide (w64 (((ll.take k).flatten.length : Nat) + (List.length (ll[k]) : Int)) < 0) then none else slices_Concat_Sint64_int64.l0 (mkR (run E (φ 0))) (φ 0) (φ 1) ll (w64 (((ll.take k).flatten.length : Nat) + (List.length (ll[k]) : Int))) ll (ll.length : Int) (w64 ((k : Int) + 1))) = r
    rw [e2,w64_succ (by omega)]
    exact ev_f (decide_eq_false (by omega)) ih
  · simp only [slices_Concat_Sint64_int64.l0_succ _ mk_ok]
    refine ev_f (decide_eq_false (by omega)) (ev_call (Grow_ret [] _ (by omega) (by have := hle ll.length; omega) (by simp)) ?_)
    refine Ev.start (p := fun φ n => slices_Concat_Sint64_int64.l1 (mkR (run E (φ 0))) (φ 0) n ll (ll.length : Int) 0 [] = _) 2 ?_ (fun _ _ _ h => h)
    refine fold_loop 2 (L := fun φ n k a => slices_Concat_Sint64_int64.l1 (mkR (run E (φ 0))) (φ 0) n ll (ll.length : Int) k a) (len := ll.length) (fun k => (ll.take k).flatten) (fun _ _ _ _ _ => rfl) (fun k r hk ih => ?_) ?_
    · simp only [slices_Concat_Sint64_int64.l1_succ _ mk_ok]
      have := hle (k + 1)
      have e := hst k hk
      rw [e] at ih this
      rw [List.length_append] at this
      refine ev_t (decide_eq_true (by omega)) (ev_bind (idx_lt hk) (ev_chk (decide_eq_true (by show (_ + List.length ll[k]) * 8 ≤ _; omega)) ?_))
      rw [w64_succ (by omega)]
      exact ih
    · simp only [slices_Concat_Sint64_int64.l1_succ _ mk_ok]
      refine ev_f (decide_eq_false (by omega)) (ev_some ?_)
      rw [List.take_of_length_le (Nat.le_refl _)]

def faces (s : Sim) : List Sim := if 1 < s.length then (List.range s.length).map (s.eraseIdx ·) else []

theorem faces_mem {s f : Sim} : f ∈ faces s ↔ 1 < s.length ∧ ∃ i,i < s.length ∧ f = s.eraseIdx i := by
  unfold faces
  split
  · rename_i h
    simp only [List.mem_map,List.mem_range,h,true_and]
    exact ⟨fun ⟨i,h1,h2⟩ => ⟨i,h1,h2.symm⟩,fun ⟨i,h1,h2⟩ => ⟨i,h1,h2.symm⟩⟩
  · rename_i h
    simp [h]

theorem faces_len {s f : Sim} (h : f ∈ faces s) : f.length + 1 = s.length := by
  obtain ⟨h1,i,h2,rfl⟩ := faces_mem.1 h
  rw [List.length_eraseIdx,if_pos h2]; omega

theorem faces_length {s : Sim} : (faces s).length ≤ s.length := by
  unfold faces; split <;> simp

theorem facesOf_ret (s : Sim) (hs : s.length ≤ 1048576) : Ret E n_impl_facesOf [dL s] ⟨o_impl_facesOf,(faces s,())⟩ := by
  refine ret_of ?_
  simp only [run_impl_facesOf,impl_facesOf.ev]
  refine Ev.start (p := fun φ n => impl_facesOf.l0 (mkR (run E (φ 0))) (φ 0) n s (s.length : Int) 0 [] = _) 1 ?_ (fun _ _ _ h => h)
  by_cases h1 : 1 < s.length
  · refine fold_loop 1 (L := fun φ n k a => impl_facesOf.l0 (mkR (run E (φ 0))) (φ 0) n s (s.length : Int) k a) (len := s.length) (fun k => (List.range k).map (s.eraseIdx ·)) (fun _ _ _ _ _ => rfl) (fun k r hk ih => ?_) ?_
    · simp only [impl_facesOf.l0_succ _ mk_ok]
      rw [List.range_succ,List.map_append] at ih
      rw [w64_succ (by omega)]
      simp only [Int.toNat_natCast]
      refine ev_t (decide_eq_true (by omega)) (ev_t (decide_eq_true (by omega)) (ev_chk (by simp; omega) (ev_chk (by simp; omega) (ev_call (Concat_ret _ (by simp) (by simp; omega)) (ev_chk (by simp; omega) ?_)))))
      rw [show [s.take k,s.drop (k + 1)].flatten = s.eraseIdx k by simp [List.eraseIdx_eq_take_drop_succ]]
      exact ih
    · simp only [impl_facesOf.l0_succ _ mk_ok]
      exact ev_f (decide_eq_false (by omega)) (ev_some (by rw [faces,if_pos h1]))
  · refine fold_loop 1 (L := fun φ n k a => impl_facesOf.l0 (mkR (run E (φ 0))) (φ 0) n s (s.length : Int) k a) (len := s.length) (fun k => []) (fun _ _ _ _ _ => rfl) (fun k r hk ih => ?_) ?_
    · simp only [impl_facesOf.l0_succ _ mk_ok]
      rw [w64_succ (by omega)]
      exact ev_t (decide_eq_true (by omega)) (ev_f (decide_eq_false (by omega)) ih)
    · simp only [impl_facesOf.l0_succ _ mk_ok]
      exact ev_f (decide_eq_false (by omega)) (ev_some (by rw [faces,if_neg h1]))

/-! searching -/
def Srt (c : List Sim) : Prop := ∀ i j (h : j < c.length) (hij : i < j),cmpS c[i] c[j] < 0

theorem srt_of {c : List Sim} (h : ∀ k,1 ≤ k → k < c.length → cmpS (c.getD (k - 1) []) (c.getD k []) < 0) : Srt c := by
  intro i j
  induction j with
  | zero => intro _ h; omega
  | succ j ih =>
    intro hj hij
    have := h (j + 1) (by omega) hj
    rw [Nat.add_sub_cancel,getD_lt (by omega),getD_lt hj] at this
    by_cases e : i = j
    · subst e; exact this
    · exact cmpS_trans (ih (by omega) (by omega)) this

theorem Srt.take {c : List Sim} (h : Srt c) (k : Nat) : Srt (c.take k) := by
  intro i j hj hij
  rw [List.getElem_take,List.getElem_take]
  exact h i j (by rw [List.length_take] at hj; omega) hij

def bs (c : List Sim) (s : Sim) : Nat := c.findIdx (fun x => !decide (cmpS x s < 0))

theorem bs_le {c : List Sim} {s : Sim} : bs c s ≤ c.length := List.findIdx_le_length
theorem bs_lt {c : List Sim} {s : Sim} (hc : Srt c) {t : Nat} (h : t < c.length) : t < bs c s ↔ cmpS c[t] s < 0 := by
  constructor
  · intro ht
    have := List.not_of_lt_findIdx ht
    simpa using this
  · intro ht
    refine Classical.byContradiction fun hn => ?_
    have hb : bs c s < c.length := by omega
    have h1 : cmpS c[bs c s] s < 0 := by
      by_cases e : bs c s = t
      · simp only [e]; exact ht
      · exact cmpS_trans (hc _ _ h (by omega)) ht
    have := List.findIdx_getElem (w := hb)
    simp only [Bool.not_eq_true',decide_eq_false_iff_not] at this
    exact this h1

theorem bs_find {c : List Sim} {s : Sim} (hc : Srt c) : findI c s = if h : bs c s < c.length ∧ c.getD (bs c s) [] = s then (bs c s : Int) else -1 := by
  have e : c.findIdx? (fun x => pb (x = s)) = if bs c s < c.length ∧ c.getD (bs c s) [] = s then some (bs c s) else none := by
    split
    · rename_i h
      obtain ⟨h1,h2⟩ := h
      rw [List.findIdx?_eq_some_iff_getElem]
      rw [getD_lt h1] at h2
      refine ⟨h1,pb_true h2,fun j hj => ?_⟩
      rw [pb_iff]
      intro he
      have := (bs_lt (s := s) hc (show j < c.length by omega)).1 hj
      rw [he,cmpS_zero.2 rfl] at this
      omega
    · rename_i h
      rw [List.findIdx?_eq_none_iff]
      intro x hx
      rw [pb_not]
      rintro rfl
      obtain ⟨j,hj,rfl⟩ := List.mem_iff_getElem.1 hx
      have h0 : ¬ j < bs c c[j] := fun hlt => by
        have := (bs_lt hc hj).1 hlt
        rw [cmpS_zero.2 rfl] at this; omega
      by_cases hjb : bs c c[j] = j
      · exact h ⟨by omega,by rw [hjb,getD_lt hj]⟩
      · have hb : bs c c[j] < c.length := by omega
        have := (bs_lt (s := c[j]) hc hb).2 (hc _ _ hj (by omega))
        omega
  unfold findI idxf
  rw [e]
  split <;> rfl

theorem BinarySearch_ret (c : List Sim) (s : Sim) (hc : Sm yK c) (hs : Srt c) : Ret E n_slices_BinarySearchFunc_SSint64_Sint64_Sint64 [dLL c,dL s,⟨.fn n_impl_compareSimplices .nil,()⟩] ⟨o_slices_BinarySearchFunc_SSint64_Sint64_Sint64,((bs c s : Int),pb (bs c s < c.length ∧ c.getD (bs c s) [] = s),())⟩ := by
  have hc1 : c.length ≤ 1048576 := hc.1
  refine ret_of ?_
  simp only [run_slices_BinarySearchFunc_SSint64_Sint64_Sint64,slices_BinarySearchFunc_SSint64_Sint64_Sint64_impl_compareSimplices.ev]
  refine Ev.start (p := fun φ n => slices_BinarySearchFunc_SSint64_Sint64_Sint64_impl_compareSimplices.l0 (mkR (run E (φ 0))) (φ 0) n c s (c.length : Int) 0 (c.length : Int) = _) 1 ?_ (fun _ _ _ h => h)
  refine loopR 1 (σ := Nat × Nat) (L := fun φ n st => slices_BinarySearchFunc_SSint64_Sint64_Sint64_impl_compareSimplices.l0 (mkR (run E (φ 0))) (φ 0) n c s (c.length : Int) (st.1 : Int) (st.2 : Int)) (fun _ _ _ _ => rfl) (fun st => st.1 ≤ bs c s ∧ bs c s ≤ st.2 ∧ st.2 ≤ c.length) (fun _ => _) (fun st => st.2 - st.1) (fun st hi ih => ?_) (0,c.length) ⟨Nat.zero_le _,bs_le,Nat.le_refl _⟩
  obtain ⟨i,j⟩ := st
  obtain ⟨h1,h2,h3⟩ := hi
  simp only at h1 h2 h3 ih
  simp only [slices_BinarySearchFunc_SSint64_Sint64_Sint64_impl_compareSimplices.l0_succ _ mk_ok]
  rw [half (by omega)]
  refine ev_d (fun hij => ?_) fun hij => ?_
  · have hh : (i + j) / 2 < c.length := by omega
    refine ev_chk (by decide) (ev_bind (idx_lt hh) (ev_call (compareSimplices_ret _ _ (sm_get hc hh)) (ev_d (fun hlt => ?_) fun hlt => ?_)))
    · rw [w64_succ (by omega)]
      have := (bs_lt hs hh).2 hlt
      exact ih ((i + j) / 2 + 1,j) ⟨this,h2,h3⟩ (by simp only; omega)
    · have : ¬ (i + j) / 2 < bs c s := fun h => hlt ((bs_lt hs hh).1 h)
      exact ih (i,(i + j) / 2) ⟨h1,by simp only; omega,by simp only; omega⟩ (by simp only; omega)
  · have e : i = bs c s := by omega
    subst e
    refine ev_d (fun hl => ?_) fun hl => ev_some ?_
    · have hh : bs c s < c.length := by omega
      refine ev_bind (idx_lt hh) (ev_call (compareSimplices_ret _ _ (sm_get hc hh)) (ev_some ?_))
      have : (cmpS c[bs c s] s == 0) = pb (bs c s < c.length ∧ c.getD (bs c s) [] = s) := eq_pb (by
        rw [getD_lt hh,beq_iff_eq,cmpS_zero]; exact ⟨fun h => ⟨hh,h⟩,fun h => h.2⟩)
      rw [this]
    · rw [pb_false fun h => hl (by omega)]

theorem indexOf_ret (c : List Sim) (s : Sim) (hc : Sm yK c) (hs : Srt c) : Ret E n_impl_indexOf [dLL c,dL s] ⟨o_impl_indexOf,(findI c s,())⟩ := by
  refine ret_of ?_
  simp only [run_impl_indexOf,impl_indexOf.ev]
  refine ev_call (BinarySearch_ret c s hc hs) (ev_b (fun h => ev_some ?_) fun h => ev_some ?_)
  · rw [bs_find hs,dif_neg (pb_not.1 (by simpa using h))]
  · rw [bs_find hs,dif_pos (pb_iff.1 (by simpa using h))]

end VeT

open Go Go.Proofs Ve
set_option linter.unusedVariables false
set_option linter.unusedSimpArgs false
namespace VeT

/-- valid complexes -/
def VC (c : List Sim) : Prop := c.length ≤ 48 ∧ (∀ k,k < c.length → Vx (c.getD k [])) ∧ (∀ k,1 ≤ k → k < c.length → cmpS (c.getD (k - 1) []) (c.getD k []) < 0) ∧ ∀ k,k < c.length → ∀ f ∈ faces (c.getD k []),f ∈ c

theorem VC.srt {c : List Sim} (h : VC c) : Srt c := srt_of h.2.2.1

def VCimpl (c : List Sim) (k : Nat) : Prop := (Vx (c.getD k []) ∧ (1 ≤ k → cmpS (c.getD (k - 1) []) (c.getD k []) < 0)) ∧ ∀ f ∈ faces (c.getD k []),f ∈ c.take k

theorem VC_impl {c : List Sim} : ((∀ k,0 ≤ k → k < c.length → VCimpl c k) ∧ c.length ≤ 48) ↔ VC c := by
  constructor
  · rintro ⟨h,hl⟩
    exact ⟨hl,fun k hk => (h k (by omega) hk).1.1,fun k h1 hk => (h k (by omega) hk).1.2 h1,fun k hk f hf => List.mem_of_mem_take ((h k (by omega) hk).2 f hf)⟩
  · intro h
    have hs := h.srt
    obtain ⟨hl,h1,h2,h3⟩ := h
    refine ⟨fun k _ hk => ⟨⟨h1 k hk,fun hk1 => h2 k hk1 hk⟩,fun f hf => ?_⟩,hl⟩
    have hm := h3 k hk f hf
    have hlen := faces_len hf
    rw [getD_lt hk] at hlen
    obtain ⟨i,hi,rfl⟩ := List.mem_iff_getElem.1 hm
    have hlt : cmpS c[i] c[k] < 0 := cmpS_lt.2 (.inl (by omega))
    have hik : i < k := Classical.byContradiction fun hn => by
      by_cases e : i = k
      · subst e; omega
      · have := hs k i hi (by omega)
        rw [cmpS_neg] at this; omega
    exact List.mem_iff_getElem.2 ⟨i,by rw [List.length_take]; omega,by rw [List.getElem_take]⟩

theorem sm_take {t : Ty} {s : List t.T} (h : Sm (.sl t) s) (k : Nat) : Sm (.sl t) (s.take k) := ⟨by have h1 : s.length ≤ 1048576 := h.1; show (s.take k).length ≤ _; rw [List.length_take]; omega,fun x hx => h.2 x (List.mem_of_mem_take hx)⟩

theorem ValidComplex_1_ret (c : List Sim) (f : Sim) (k : Nat) (hk : k ≤ c.length) (hc : Sm yK c) (hs : Srt (c.take k)) :
    Ret E n_impl_ValidComplex_1 [dL f,dC (c,()),⟨.ptr (.cons yI .nil),((k : Int),())⟩] ⟨o_impl_ValidComplex_1,(pb (¬ f ∈ c.take k),())⟩ := by
  refine ret_of ?_
  simp only [run_impl_ValidComplex_1,impl_ValidComplex_1.ev]
  simp only [Int.toNat_natCast]
  refine ev_chk (by simp; omega) (ev_call (indexOf_ret _ f (sm_take hc k) hs) (ev_some ?_))
  simp only [pb_dec,pb_congr (show findI (c.take k) f < 0 ↔ ¬ f ∈ c.take k by rw [← findI_nonneg]; omega)]

theorem ValidComplex_ret (c : List Sim) (hc : Sm yK c) : Ret E n_impl_ValidComplex [dLL c] ⟨o_impl_ValidComplex,(pb (VC c),())⟩ := by
  have hc1 : c.length ≤ 1048576 := hc.1
  refine ret_of ?_
  simp only [run_impl_ValidComplex,impl_ValidComplex.ev]
  refine Ev.start (p := fun φ n => impl_ValidComplex.l0 (mkR (run E (φ 0))) (φ 0) n c (c.length : Int) 0 c = _) 1 ?_ (fun _ _ _ h => h)
  have key : ∀ (n : Nat) (k : Nat) (hk : k < c.length) (hpre : ∀ j,0 ≤ j → j < k → VCimpl c j),Srt (c.take k) := fun n k hk hpre => srt_of fun j h1 h2 => by
    rw [List.length_take] at h2
    have := (hpre j (by omega) (by omega)).1.2 h1
    rw [getD_lt (by omega),getD_lt (by omega)] at this
    rw [getD_lt (by rw [List.length_take]; omega),getD_lt (by rw [List.length_take]; omega),List.getElem_take,List.getElem_take]
    exact this
  have hcon : ∀ (k : Nat) (hk : k < c.length) (hpre : ∀ j,0 ≤ j → j < k → VCimpl c j),Ret E n_slices_ContainsFunc_SSint64_Sint64 [dLL (faces c[k]),⟨.fn n_impl_ValidComplex_1 (.cons (.ptr (.cons yK .nil)) (.cons (.ptr (.cons yI .nil)) .nil)),((c,()),((k : Int),()),())⟩] ⟨o_slices_ContainsFunc_SSint64_Sint64,(pb (∃ x ∈ faces c[k],pb (¬ x ∈ c.take k) = true),())⟩ := fun k hk hpre =>
    ContainsFunc_SSint64_Sint64_impl_ValidComplex_1_ret (faces c[k]) ((c,()),((k : Int),()),()) _ (Nat.le_trans faces_length (sm_get hc hk).1) fun x hx => ValidComplex_1_ret c x k (by omega) hc (key 0 k hk hpre)
  refine (all_pb 1 (L := fun φ n k => impl_ValidComplex.l0 (mkR (run E (φ 0))) (φ 0) n c (c.length : Int) k c) (len := c.length) 0 (by omega) (VCimpl c) (fun b => some ⟨o_impl_ValidComplex,(b && decide ((c.length : Int) ≤ 48),())⟩) (fun _ _ _ _ => rfl) (fun k h1 h2 hP hpre => ?_) (fun k r h1 h2 hP hpre ih => ?_) (fun _ => ?_)).to ?_
  · simp only [impl_ValidComplex.l0_succ _ mk_ok]
    refine ev_t (decide_eq_true (by omega)) (ev_bind (idx_lt h2) (ev_call (ValidSimplex_ret _ (sm_get hc h2)) ?_))
    refine ev_b (fun hv => ?_) fun hv => ?_
    · simp only [impl_ValidComplex.j1_eq _ mk_ok,cond_true]; (first | exact ev_rfl | exact Ev.of fun _ => trivial)
    · have hv : Vx c[k] := pb_iff.1 (by simpa using hv)
      have last : (1 ≤ k → cmpS (c.getD (k - 1) []) (c.getD k []) < 0) → Ev fun φ => impl_ValidComplex.j1 (mkR (run E (φ 0))) (φ 0) (φ 1) c[k] c (c.length : Int) (k : Int) false c (k : Int) = some ⟨o_impl_ValidComplex,(false,())⟩ := fun hcm => by
        simp only [impl_ValidComplex.j1_eq _ mk_ok,cond_false]
        refine ev_call (facesOf_ret _ (sm_get hc h2).1) (ev_call (hcon k h2 hpre) (ev_t ?_ ev_rfl))
        refine pb_true (Classical.byContradiction fun hn => hP ⟨⟨by rw [getD_lt h2]; exact hv,hcm⟩,fun f hf => Classical.byContradiction fun hnf => hn ⟨f,by rw [getD_lt h2] at hf; exact hf,pb_true hnf⟩⟩)
      refine ev_d (fun hk => ?_) fun hk => ?_
      · rw [w64_small (by omega) (by omega),show ((k : Int) - 1) = ((k - 1 : Nat) : Int) by omega]
        have hk1 : k - 1 < c.length := by omega
        refine ev_bind (idx_lt hk1) (ev_call (compareSimplices_ret _ _ (sm_get hc hk1)) ?_)
        by_cases hcm : cmpS c[k - 1] c[k] < 0
        · simp only [show decide (cmpS c[k - 1] c[k] ≥ 0) = false from decide_eq_false (by omega)]
          exact last fun _ => by rw [getD_lt hk1,getD_lt h2]; exact hcm
        · simp only [show decide (cmpS c[k - 1] c[k] ≥ 0) = true from decide_eq_true (by omega),impl_ValidComplex.j1_eq _ mk_ok,cond_true]
          (first | exact ev_rfl | exact Ev.of fun _ => trivial)
      · exact last fun h => absurd h (by omega)
  · simp only [impl_ValidComplex.l0_succ _ mk_ok]
    have hP' := hP
    obtain ⟨⟨hv,hcm⟩,hfc⟩ := hP'
    rw [getD_lt h2] at hv hfc
    refine ev_t (decide_eq_true (by omega)) (ev_bind (idx_lt h2) (ev_call (ValidSimplex_ret _ (sm_get hc h2)) (ev_f (by rw [pb_true hv]; rfl) ?_)))
    have last : Ev fun φ => impl_ValidComplex.j1 (mkR (run E (φ 0))) (φ 0) (φ 1) c[k] c (c.length : Int) (k : Int) false c (k : Int) = r := by
      simp only [impl_ValidComplex.j1_eq _ mk_ok,cond_false]
      refine ev_call (facesOf_ret _ (sm_get hc h2).1) (ev_call (hcon k h2 hpre) (ev_f ?_ ?_))
      · exact pb_false fun ⟨x,hx,hn⟩ => pb_iff.1 hn (hfc x hx)
      · rw [w64_succ (by omega)]; exact ih
    refine ev_d (fun hk => ?_) fun hk => last
    rw [w64_small (by omega) (by omega),show ((k : Int) - 1) = ((k - 1 : Nat) : Int) by omega]
    have hk1 : k - 1 < c.length := by omega
    have hcm := hcm (by omega)
    rw [getD_lt hk1,getD_lt h2] at hcm
    refine ev_bind (idx_lt hk1) (ev_call (compareSimplices_ret _ _ (sm_get hc hk1)) ?_)
    simp only [show decide (cmpS c[k - 1] c[k] ≥ 0) = false from decide_eq_false (by omega)]
    exact last
  · simp only [impl_ValidComplex.l0_succ _ mk_ok]
    exact ev_f (decide_eq_false (by omega)) (ev_some (by rw [Bool.true_and]))
  · have : (pb (∀ j,0 ≤ j → j < c.length → VCimpl c j) && decide ((c.length : Int) ≤ 48)) = pb (VC c) := eq_pb (by
      rw [Bool.and_eq_true,pb_iff,decide_eq_true_iff,← VC_impl]
      exact ⟨fun h => ⟨h.1,by omega⟩,fun h => ⟨h.1,by omega⟩⟩)
    rw [this]

def VCspec (c : List Sim) (k : Nat) : Prop := (Vx (c.getD k []) ∧ (1 ≤ k → cmpS (c.getD (k - 1) []) (c.getD k []) < 0)) ∧ ∀ f ∈ faces (c.getD k []),f ∈ c

theorem l05Ok_ret (c : Cpx) (hc : Sm yK c.1) : Ret E n_spec_l05Ok [dC c] ⟨o_spec_l05Ok,(pb (VC c.1),())⟩ := by
  have hc1 : c.1.length ≤ 1048576 := hc.1
  refine ret_of ?_
  simp only [run_spec_l05Ok,spec_l05Ok.ev]
  refine ev_d (fun h => ev_some ?_) fun h48 => ?_
  · rw [pb_false fun hv => by have := hv.1; omega]
  refine Ev.start (p := fun φ n => spec_l05Ok.l0 (mkR (run E (φ 0))) (φ 0) n c 0 = _) 1 ?_ (fun _ _ _ h => h)
  -- the inner loop
  have inner : ∀ (k : Nat) (h2 : k < c.1.length) (r : Option Dv),((∀ f ∈ faces c.1[k],f ∈ c.1) → Ev fun φ => spec_l05Ok.l0 (mkR (run E (φ 0))) (φ 0) (φ 1) c ((k + 1 : Nat) : Int) = r) → (¬ (∀ f ∈ faces c.1[k],f ∈ c.1) → r = some ⟨o_spec_l05Ok,(false,())⟩) → Ev fun φ => spec_l05Ok.l2 (mkR (run E (φ 0))) (φ 0) (φ 1) (φ 0) c (k : Int) c.1[k] 0 = r := fun k h2 r hgo hstop => by
    have hks : (c.1[k]).length ≤ 1048576 := (sm_get hc h2).1
    refine Ev.start (p := fun φ n => spec_l05Ok.l2 (mkR (run E (φ 0))) (φ 0) (φ 1) n c (k : Int) c.1[k] 0 = _) 2 ?_ (fun _ _ _ h => h)
    by_cases hlen : 1 < (c.1[k]).length
    · obtain ⟨t,f⟩ := all_loop 2 (L := fun φ n i => spec_l05Ok.l2 (mkR (run E (φ 0))) (φ 0) (φ 1) n c (k : Int) c.1[k] i) (len := (c.1[k]).length) 0 (by omega) (fun i => (c.1[k]).eraseIdx i ∈ c.1) (rt := r) (rf := some ⟨o_spec_l05Ok,(false,())⟩) (fun _ _ _ _ => rfl) (fun i _ hi hP _ => by
        simp only [spec_l05Ok.l2_succ _ mk_ok]
        refine ev_t (decide_eq_true (by omega)) ?_
        simp only [show decide (((c.1[k]).length : Int) > 1) = true from decide_eq_true (by omega),spec_l05Ok.j3_eq _ mk_ok,cond_true]
        refine ev_call (l05Drop_ret _ i hi hks) (ev_call (l05Find_ret c _ hc) (ev_t (decide_eq_true ?_) ev_rfl))
        have hq := mt (findI_nonneg (c := c.1) (s := (c.1[k]).eraseIdx i)).1 hP; simp only; exact Int.not_le.1 hq) (fun i q _ hi hP _ ih => by
        simp only [spec_l05Ok.l2_succ _ mk_ok]
        refine ev_t (decide_eq_true (by omega)) ?_
        simp only [show decide (((c.1[k]).length : Int) > 1) = true from decide_eq_true (by omega),spec_l05Ok.j3_eq _ mk_ok,cond_true]
        refine ev_call (l05Drop_ret _ i hi hks) (ev_call (l05Find_ret c _ hc) (ev_f (decide_eq_false ?_) ?_))
        · have hq := (findI_nonneg (c := c.1) (s := (c.1[k]).eraseIdx i)).2 hP; simp only; exact Int.not_lt.2 hq
        · rw [w64_succ (by omega)]; exact ih) (fun hall => by
        simp only [spec_l05Ok.l2_succ _ mk_ok]
        refine ev_f (decide_eq_false (by omega)) ?_
        simp only [spec_l05Ok.j3_eq _ mk_ok,cond_false]
        rw [w64_succ (by omega)]
        exact hgo fun f hf => by
          obtain ⟨_,i,hi,rfl⟩ := faces_mem.1 hf
          exact hall i (by omega) hi)
      by_cases hall : ∀ i,0 ≤ i → i < (c.1[k]).length → (c.1[k]).eraseIdx i ∈ c.1
      · exact t hall
      · rw [hstop fun hf => hall fun i _ hi => hf _ (faces_mem.2 ⟨hlen,i,hi,rfl⟩)]
        exact f hall
    · refine Ev.round 2 (L := fun φ n => spec_l05Ok.l2 (mkR (run E (φ 0))) (φ 0) (φ 1) n c (k : Int) c.1[k] 0) ?_ (fun _ _ _ => rfl)
      have hgo := hgo fun f hf => absurd (faces_mem.1 hf).1 hlen
      have hj : Ev fun φ => spec_l05Ok.j3 (mkR (run E (φ 0))) (φ 0) (φ 1) (φ 2) c (k : Int) c.1[k] 0 false = r := by
        simp only [spec_l05Ok.j3_eq _ mk_ok,cond_false]
        rw [w64_succ (by omega)]; exact hgo
      simp only [spec_l05Ok.l2_succ _ mk_ok]
      refine ev_d (fun _ => ?_) fun _ => hj
      simp only [show decide (((c.1[k]).length : Int) > 1) = false from decide_eq_false (by omega)]
      exact hj
  refine (all_pb 1 (L := fun φ n k => spec_l05Ok.l0 (mkR (run E (φ 0))) (φ 0) n c k) (len := c.1.length) 0 (by omega) (VCspec c.1) (fun b => some ⟨o_spec_l05Ok,(b,())⟩) (fun _ _ _ _ => rfl) (fun k h1 h2 hP hpre => ?_) (fun k r h1 h2 hP hpre ih => ?_) (fun _ => ?_)).to ?_
  · simp only [spec_l05Ok.l0_succ _ mk_ok]
    refine ev_t (decide_eq_true (by omega)) (ev_bind (idx_lt h2) (ev_call (l05Simplex_ret _ (sm_get hc h2)) ?_))
    refine ev_b (fun hv => ?_) fun hv => ?_
    · simp only [spec_l05Ok.j1_eq _ mk_ok,cond_true]; (first | exact ev_rfl | exact Ev.of fun _ => trivial)
    · have hv : Vx c.1[k] := pb_iff.1 (by simpa using hv)
      have last : (1 ≤ k → cmpS (c.1.getD (k - 1) []) (c.1.getD k []) < 0) → Ev fun φ => spec_l05Ok.j1 (mkR (run E (φ 0))) (φ 0) (φ 1) c (k : Int) c.1[k] false = some ⟨o_spec_l05Ok,(false,())⟩ := fun hcm => by
        simp only [spec_l05Ok.j1_eq _ mk_ok,cond_false]
        refine inner k h2 _ (fun hf => absurd ⟨⟨by rw [getD_lt h2]; exact hv,hcm⟩,by rw [getD_lt h2]; exact hf⟩ hP) fun _ => rfl
      refine ev_d (fun hk => ?_) fun hk => ?_
      · rw [w64_small (by omega) (by omega),show ((k : Int) - 1) = ((k - 1 : Nat) : Int) by omega]
        have hk1 : k - 1 < c.1.length := by omega
        refine ev_bind (idx_lt hk1) (ev_call (l05Before_ret _ _ (sm_get hc hk1)) ?_)
        by_cases hcm : cmpS c.1[k - 1] c.1[k] < 0
        · simp only [pb_true hcm]
          exact last fun _ => by rw [getD_lt hk1,getD_lt h2]; exact hcm
        · simp only [pb_false hcm,spec_l05Ok.j1_eq _ mk_ok,cond_true,Bool.not_false]
          (first | exact ev_rfl | exact Ev.of fun _ => trivial)
      · exact last fun h => absurd h (by omega)
  · simp only [spec_l05Ok.l0_succ _ mk_ok]
    obtain ⟨⟨hv,hcm⟩,hfc⟩ := hP
    rw [getD_lt h2] at hv hfc
    refine ev_t (decide_eq_true (by omega)) (ev_bind (idx_lt h2) (ev_call (l05Simplex_ret _ (sm_get hc h2)) (ev_f (by rw [pb_true hv]; rfl) ?_)))
    have last : Ev fun φ => spec_l05Ok.j1 (mkR (run E (φ 0))) (φ 0) (φ 1) c (k : Int) c.1[k] false = r := by
      simp only [spec_l05Ok.j1_eq _ mk_ok,cond_false]
      exact inner k h2 _ (fun _ => ih) fun hn => absurd hfc hn
    refine ev_d (fun hk => ?_) fun hk => last
    rw [w64_small (by omega) (by omega),show ((k : Int) - 1) = ((k - 1 : Nat) : Int) by omega]
    have hk1 : k - 1 < c.1.length := by omega
    have hcm := hcm (by omega)
    rw [getD_lt hk1,getD_lt h2] at hcm
    refine ev_bind (idx_lt hk1) (ev_call (l05Before_ret _ _ (sm_get hc hk1)) ?_)
    simp only [pb_true hcm,Bool.not_true]
    exact last
  · simp only [spec_l05Ok.l0_succ _ mk_ok]
    exact ev_f (decide_eq_false (by omega)) ev_rfl
  · have : pb (∀ j,0 ≤ j → j < c.1.length → VCspec c.1 j) = pb (VC c.1) := pb_congr
      ⟨fun h => ⟨by omega,fun k hk => (h k (by omega) hk).1.1,fun k h1 hk => (h k (by omega) hk).1.2 h1,fun k hk => (h k (by omega) hk).2⟩,
       fun h k _ hk => ⟨⟨h.2.1 k hk,fun h1 => h.2.2.1 k h1 hk⟩,h.2.2.2 k hk⟩⟩
    rw [this]

end VeT

open Go Go.Proofs Ve
set_option linter.unusedVariables false
set_option linter.unusedSimpArgs false
namespace VeT

/-- primes up to 251 -/
def Pr (p : Int) : Prop := 2 ≤ p ∧ p ≤ 251 ∧ ∀ k : Nat,2 ≤ k → (k : Int) * k ≤ p → p % k ≠ 0

theorem ValidPrime_ret (p : Int) : Ret E n_impl_ValidPrime [dI p] ⟨o_impl_ValidPrime,(pb (Pr p),())⟩ := by
  refine ret_of ?_
  simp only [run_impl_ValidPrime,impl_ValidPrime.ev]
  refine ev_call (within_ret _ _ _) (ev_b (fun h => ev_some ?_) fun h => ?_)
  · have h : ¬ (2 ≤ p ∧ p ≤ 251) := pb_not.1 (by simpa using h)
    rw [pb_false fun hp => h ⟨hp.1,hp.2.1⟩]
  have hr : 2 ≤ p ∧ p ≤ 251 := pb_iff.1 (by simpa using h)
  refine Ev.start (p := fun φ n => impl_ValidPrime.l0 (mkR (run E (φ 0))) (φ 0) n p 2 = _) 1 ?_ (fun _ _ _ h => h)
  refine loopR 1 (σ := Nat) (L := fun φ n k => impl_ValidPrime.l0 (mkR (run E (φ 0))) (φ 0) n p (k : Int)) (fun _ _ _ _ => rfl) (fun k => 2 ≤ k ∧ k ≤ 17 ∧ ∀ j : Nat,2 ≤ j → j < k → (j : Int) * j ≤ p → p % j ≠ 0) (fun _ => _) (fun k => 17 - k) (fun k ⟨h1,h2,h3⟩ ih => ?_) 2 ⟨by omega,by omega,fun j _ _ => by omega⟩
  simp only [impl_ValidPrime.l0_succ _ mk_ok]
  have hkk : 0 ≤ (k : Int) * k ∧ (k : Int) * k ≤ 289 := ⟨Int.mul_nonneg (by omega) (by omega),by have := Nat.mul_le_mul h2 h2; omega⟩
  have e : w64 ((k : Int) * k) = (k : Int) * k := w64_small (by omega) (by omega)
  simp only [e]
  refine ev_d (fun hle => ?_) fun hle => ev_some ?_
  · have hk16 : k < 16 := Classical.byContradiction fun hn => by
      have := Nat.mul_le_mul (show 16 ≤ k by omega) (show 16 ≤ k by omega); omega
    refine ev_chk (by simp; omega) ?_
    rw [Int.tmod_eq_emod_of_nonneg (by omega)]
    refine ev_b (fun h0 => ev_some ?_) fun h0 => ?_
    · rw [pb_false fun hp => hp.2.2 k h1 hle (by simpa using h0)]
    · rw [w64_succ (by omega)]
      refine ih (k + 1) ⟨by omega,by omega,fun j hj1 hj2 hj3 => ?_⟩ (by show 17 - (k + 1) < 17 - k; omega)
      by_cases hjk : j = k
      · subst hjk; simpa using h0
      · exact h3 j hj1 (by omega) hj3
  · rw [pb_true]
    refine ⟨hr.1,hr.2,fun j hj1 hj2 => ?_⟩
    by_cases hjk : j < k
    · exact h3 j hj1 hjk hj2
    · exfalso
      have := Nat.mul_le_mul (show k ≤ j by omega) (show k ≤ j by omega); omega

theorem l02Prime_ret (p : Int) : Ret E n_spec_l02Prime [dI p] ⟨o_spec_l02Prime,(pb (Pr p),())⟩ := by
  refine ret_of ?_
  simp only [run_spec_l02Prime,spec_l02Prime.ev]
  refine ev_call (l00In_ret _ _ _) (ev_b (fun h => ev_some ?_) fun h => ?_)
  · have h : ¬ (2 ≤ p ∧ p ≤ 251) := pb_not.1 (by simpa using h)
    rw [pb_false fun hp => h ⟨hp.1,hp.2.1⟩]
  have hr : 2 ≤ p ∧ p ≤ 251 := pb_iff.1 (by simpa using h)
  refine Ev.start (p := fun φ n => spec_l02Prime.l0 (mkR (run E (φ 0))) (φ 0) n p 2 = _) 1 ?_ (fun _ _ _ h => h)
  refine loopR 1 (σ := Nat) (L := fun φ n k => spec_l02Prime.l0 (mkR (run E (φ 0))) (φ 0) n p (k : Int)) (fun _ _ _ _ => rfl) (fun k => 2 ≤ k ∧ k ≤ 17 ∧ ∀ j : Nat,2 ≤ j → j < k → (j : Int) * j ≤ p → p % j ≠ 0) (fun _ => _) (fun k => 17 - k) (fun k ⟨h1,h2,h3⟩ ih => ?_) 2 ⟨by omega,by omega,fun j _ _ => by omega⟩
  simp only [spec_l02Prime.l0_succ _ mk_ok]
  have hkk : 0 ≤ (k : Int) * k ∧ (k : Int) * k ≤ 289 := ⟨Int.mul_nonneg (by omega) (by omega),by have := Nat.mul_le_mul h2 h2; omega⟩
  have e : w64 ((k : Int) * k) = (k : Int) * k := w64_small (by omega) (by omega)
  simp only [e]
  refine ev_d (fun hle => ?_) fun hle => ev_some ?_
  · have hk16 : k < 16 := Classical.byContradiction fun hn => by
      have := Nat.mul_le_mul (show 16 ≤ k by omega) (show 16 ≤ k by omega); omega
    refine ev_chk (by simp; omega) ?_
    rw [Int.tmod_eq_emod_of_nonneg (by omega)]
    refine ev_b (fun h0 => ev_some ?_) fun h0 => ?_
    · rw [pb_false fun hp => hp.2.2 k h1 hle (by simpa using h0)]
    · rw [w64_succ (by omega)]
      refine ih (k + 1) ⟨by omega,by omega,fun j hj1 hj2 hj3 => ?_⟩ (by show 17 - (k + 1) < 17 - k; omega)
      by_cases hjk : j = k
      · subst hjk; simpa using h0
      · exact h3 j hj1 (by omega) hj3
  · rw [pb_true]
    refine ⟨hr.1,hr.2,fun j hj1 hj2 => ?_⟩
    by_cases hjk : j < k
    · exact h3 j hj1 hjk hj2
    · exfalso
      have := Nat.mul_le_mul (show k ≤ j by omega) (show k ≤ j by omega); omega

theorem specValidPrime_ret (p : Int) : Ret E n_spec_ValidPrime [dI p] ⟨o_spec_ValidPrime,(pb (Pr p),())⟩ := by
  refine ret_of ?_
  simp only [run_spec_ValidPrime,spec_ValidPrime.ev]
  exact ev_call (l02Prime_ret p) ev_rfl

/-! matrices -/
def Elems (v : Sim) (p : Int) : Prop := ∀ x ∈ v,0 ≤ x ∧ x ≤ p - 1

theorem isElement_ret (a p : Int) (hp : 0 ≤ p ∧ p ≤ 1048576) : Ret E n_impl_isElement [dI a,dI p] ⟨o_impl_isElement,(pb (0 ≤ a ∧ a ≤ p - 1),())⟩ := by
  refine ret_of ?_
  simp only [run_impl_isElement,impl_isElement.ev]
  rw [w64_small (by omega) (by omega)]
  exact ev_call (within_ret _ _ _) ev_rfl

theorem areElements_1_ret (a p : Int) (hp : 0 ≤ p ∧ p ≤ 1048576) : Ret E n_impl_areElements_1 [dI a,⟨.ptr (.cons yI .nil),(p,())⟩] ⟨o_impl_areElements_1,(!pb (0 ≤ a ∧ a ≤ p - 1),())⟩ := by
  refine ret_of ?_
  simp only [run_impl_areElements_1,impl_areElements_1.ev]
  exact ev_call (isElement_ret _ _ hp) ev_rfl

theorem none_bad {α : Type} {s : List α} {P : α → Prop} : (!pb (∃ x ∈ s,(!pb (P x)) = true)) = pb (∀ x ∈ s,P x) := eq_pb (by
  simp only [Bool.not_eq_true',pb_not]
  exact ⟨fun h x hx => Classical.byContradiction fun hn => h ⟨x,hx,hn⟩,fun h ⟨x,hx,hn⟩ => hn (h x hx)⟩)

theorem areElements_ret (v : Sim) (p : Int) (hv : v.length ≤ 1048576) (hp : 0 ≤ p ∧ p ≤ 1048576) : Ret E n_impl_areElements [dL v,dI p] ⟨o_impl_areElements,(pb (Elems v p),())⟩ := by
  refine ret_of ?_
  simp only [run_impl_areElements,impl_areElements.ev]
  refine ev_call (ContainsFunc_Sint64_int64_impl_areElements_1_ret v ((p,()),()) _ hv fun x _ => areElements_1_ret x p hp) (ev_some ?_)
  simp only [none_bad]; rfl

theorem l03Column_ret (v : Sim) (n p : Int) (hv : v.length ≤ 1048576) (hp : 0 ≤ p ∧ p ≤ 1048576) : Ret E n_spec_l03Column [dL v,dI n,dI p] ⟨o_spec_l03Column,(pb (Elems v p ∧ (v.length : Int) = n),())⟩ := by
  have e : w64 (p - 1) = p - 1 := w64_small (by omega) (by omega)
  refine ret_of ?_
  simp only [run_spec_l03Column,spec_l03Column.ev]
  refine Ev.start (p := fun φ n' => spec_l03Column.l0 (mkR (run E (φ 0))) (φ 0) n' v n p 0 = _) 1 ?_ (fun _ _ _ h => h)
  refine (all_pb 1 (L := fun φ n' k => spec_l03Column.l0 (mkR (run E (φ 0))) (φ 0) n' v n p k) (len := v.length) 0 (by omega) (fun j => 0 ≤ v.getD j 0 ∧ v.getD j 0 ≤ p - 1) (fun b => some ⟨o_spec_l03Column,(b && ((v.length : Int) == n),())⟩) (fun _ _ _ _ => rfl) (fun k h1 h2 hP _ => ?_) (fun k r h1 h2 hP _ ih => ?_) (fun _ => ?_)).to ?_
  · simp only [spec_l03Column.l0_succ _ mk_ok,e]
    rw [getD_lt h2] at hP
    exact ev_t (decide_eq_true (by omega)) (ev_bind (idx_lt h2) (ev_call (l00In_ret _ _ _) (ev_t (by rw [pb_false hP]; rfl) ev_rfl)))
  · simp only [spec_l03Column.l0_succ _ mk_ok,e]
    rw [getD_lt h2] at hP
    refine ev_t (decide_eq_true (by omega)) (ev_bind (idx_lt h2) (ev_call (l00In_ret _ _ _) (ev_f (by rw [pb_true hP]; rfl) ?_)))
    rw [w64_succ (by omega)]; exact ih
  · simp only [spec_l03Column.l0_succ _ mk_ok]
    exact ev_f (decide_eq_false (by omega)) (ev_some (by rw [Bool.true_and]))
  · have : (pb (∀ j,0 ≤ j → j < v.length → 0 ≤ v.getD j 0 ∧ v.getD j 0 ≤ p - 1) && ((v.length : Int) == n)) = pb (Elems v p ∧ (v.length : Int) = n) := eq_pb (by
      rw [Bool.and_eq_true,pb_iff,beq_iff_eq]
      refine and_congr_left' ⟨fun h x hx => ?_,fun h j _ hj => ?_⟩
      · obtain ⟨j,hj,rfl⟩ := List.mem_iff_getElem.1 hx
        have := h j (by omega) hj
        rwa [getD_lt hj] at this
      · rw [getD_lt hj]; exact h _ (List.getElem_mem hj))
    rw [this]

theorem isSide_ret (n : Int) : Ret E n_impl_isSide [dI n] ⟨o_impl_isSide,(pb (0 ≤ n ∧ n ≤ 32),())⟩ := by
  refine ret_of ?_
  simp only [run_impl_isSide,impl_isSide.ev]
  exact ev_call (within_ret _ _ _) ev_rfl

theorem sizeI_ret (s : Sim) : Ret E n_impl_size_int64 [dL s] ⟨o_impl_size_int64,((s.length : Int),())⟩ := by
  refine ret_of ?_
  simp only [run_impl_size_int64,impl_size_int64.ev]
  (first | exact ev_rfl | exact Ev.of fun _ => trivial)

theorem sizeL_ret (s : List Sim) : Ret E n_impl_size_Sint64 [dLL s] ⟨o_impl_size_Sint64,((s.length : Int),())⟩ := by
  refine ret_of ?_
  simp only [run_impl_size_Sint64,impl_size_Sint64.ev]
  (first | exact ev_rfl | exact Ev.of fun _ => trivial)

/-- valid matrices -/
def VM (m : Mat) : Prop := Pr m.1 ∧ (0 ≤ m.2.1 ∧ m.2.1 ≤ 32) ∧ (0 ≤ m.2.2.1 ∧ m.2.2.1 ≤ 32) ∧ (m.2.2.2.1.length : Int) = m.2.1 * m.2.2.1 ∧ Elems m.2.2.2.1 m.1

theorem mul_side {a b : Int} (ha : 0 ≤ a ∧ a ≤ 32) (hb : 0 ≤ b ∧ b ≤ 32) : 0 ≤ a * b ∧ a * b ≤ 1024 := by
  obtain ⟨x,rfl⟩ := Int.eq_ofNat_of_zero_le ha.1
  obtain ⟨y,rfl⟩ := Int.eq_ofNat_of_zero_le hb.1
  have := Nat.mul_le_mul (show x ≤ 32 by omega) (show y ≤ 32 by omega)
  have e : (x : Int) * y = ((x * y : Nat) : Int) := by simp
  show 0 ≤ (x : Int) * y ∧ (x : Int) * y ≤ 1024
  rw [e]; omega

theorem ValidMatrix_ret (m : Mat) (hm : Sm (.st cM) m) : Ret E n_impl_ValidMatrix [dI m.1,dI m.2.1,dI m.2.2.1,dL m.2.2.2.1] ⟨o_impl_ValidMatrix,(pb (VM m),())⟩ := by
  have hl : m.2.2.2.1.length ≤ 1048576 := hm.2.2.2.1.1
  refine ret_of ?_
  simp only [run_impl_ValidMatrix,impl_ValidMatrix.ev]
  refine ev_call (ValidPrime_ret _) (ev_b (fun h1 => ev_call (isSide_ret _) (ev_b (fun h2 => ev_call (isSide_ret _) (ev_b (fun h3 => ev_call (sizeI_ret _) (ev_b (fun h4 => ?_) fun h4 => ev_some ?_)) fun h3 => ev_some ?_)) fun h2 => ev_some ?_)) fun h1 => ev_some ?_)
  · have h1 := pb_iff.1 h1; have h2 := pb_iff.1 h2; have h3 := pb_iff.1 h3
    have := mul_side h2 h3
    rw [w64_small (by omega) (by omega)] at h4
    refine ev_call (areElements_ret _ _ hl ⟨by have := h1.1; omega,by have := h1.2.1; omega⟩) (ev_some ?_)
    exact congrArg (fun b : Bool => some (⟨o_impl_ValidMatrix,(b,())⟩ : Dv)) (pb_congr ⟨fun h => ⟨h1,h2,h3,by simpa using h4,h⟩,fun h => h.2.2.2.2⟩)
  · have h2 := pb_iff.1 h2; have h3 := pb_iff.1 h3
    have := mul_side h2 h3
    rw [w64_small (by omega) (by omega)] at h4
    rw [pb_false fun h => by have := h.2.2.2.1; simp [this] at h4]
  · rw [pb_false fun h => pb_not.1 h3 h.2.2.1]
  · rw [pb_false fun h => pb_not.1 h2 h.2.1]
  · rw [pb_false fun h => pb_not.1 h1 h.1]

theorem l03Ok_ret (m : Mat) (hm : Sm (.st cM) m) : Ret E n_spec_l03Ok [dM m] ⟨o_spec_l03Ok,(pb (VM m),())⟩ := by
  have hl : m.2.2.2.1.length ≤ 1048576 := hm.2.2.2.1.1
  refine ret_of ?_
  simp only [run_spec_l03Ok,spec_l03Ok.ev]
  refine ev_call (specValidPrime_ret _) (ev_b (fun h1 => ev_call (l00In_ret _ _ _) (ev_b (fun h2 => ev_call (l00In_ret _ _ _) (ev_b (fun h3 => ?_) fun h3 => ev_some ?_)) fun h2 => ev_some ?_)) fun h1 => ev_some ?_)
  · have h1 := pb_iff.1 h1; have h2 := pb_iff.1 h2; have h3 := pb_iff.1 h3
    have := mul_side h2 h3
    rw [w64_small (by omega) (by omega)]
    refine ev_call (l03Column_ret _ _ _ hl ⟨by have := h1.1; omega,by have := h1.2.1; omega⟩) (ev_some ?_)
    exact congrArg (fun b : Bool => some (⟨o_spec_l03Ok,(b,())⟩ : Dv)) (pb_congr ⟨fun h => ⟨h1,h2,h3,h.2,h.1⟩,fun h => ⟨h.2.2.2.2,h.2.2.2.1⟩⟩)
  · rw [pb_false fun h => pb_not.1 h3 h.2.2.1]
  · rw [pb_false fun h => pb_not.1 h2 h.2.1]
  · rw [pb_false fun h => pb_not.1 h1 h.1]

def Bt (m : Mat) (p f t : Int) : Prop := VM m ∧ m.1 = p ∧ m.2.1 = t ∧ m.2.2.1 = f

theorem isBetween_ret (m : Mat) (p f t : Int) (hm : Sm (.st cM) m) : Ret E n_impl_isBetween [dI m.1,dI m.2.1,dI m.2.2.1,dL m.2.2.2.1,dI p,dI f,dI t] ⟨o_impl_isBetween,(pb (Bt m p f t),())⟩ := by
  refine ret_of ?_
  simp only [run_impl_isBetween,impl_isBetween.ev]
  refine ev_call (ValidMatrix_ret m hm) (ev_b (fun h1 => ev_b (fun h2 => ev_b (fun h3 => ev_some ?_) fun h3 => ev_some ?_) fun h2 => ev_some ?_) fun h1 => ev_some ?_)
  · have h1 := pb_iff.1 h1
    have : (m.2.2.1 == f) = pb (Bt m p f t) := eq_pb (by
      rw [beq_iff_eq]; exact ⟨fun h => ⟨h1,by simpa using h2,by simpa using h3,h⟩,fun h => h.2.2.2⟩)
    rw [this]
  · rw [pb_false fun h => by have := h.2.2.1; simp [this] at h3]
  · rw [pb_false fun h => by have := h.2.1; simp [this] at h2]
  · rw [pb_false fun h => pb_not.1 h1 h.1]

/-! stalks -/
def ofDim (c : List Sim) (d : Int) (k : Nat) : List Int := ((List.range k).filter fun i => decide (((c.getD i []).length : Int) = d + 1)).map Int.ofNat

theorem ofDim_succ (c : List Sim) (d : Int) (k : Nat) : ofDim c d (k + 1) = ofDim c d k ++ if ((c.getD k []).length : Int) = d + 1 then [(k : Int)] else [] := by
  unfold ofDim
  rw [List.range_succ,List.filter_append,List.map_append]
  congr 1
  by_cases h : ((c.getD k []).length : Int) = d + 1
  · rw [if_pos h,List.filter_cons_of_pos (by simpa using h)]; rfl
  · rw [if_neg h,List.filter_cons_of_neg (by simpa using h)]; rfl

theorem ofDim_length (c : List Sim) (d : Int) (k : Nat) : (ofDim c d k).length ≤ k := by
  unfold ofDim
  rw [List.length_map]
  exact Nat.le_trans (List.length_filter_le _ _) (by simp)

theorem ofDim_mem {c : List Sim} {d : Int} {k : Nat} {x : Int} (h : x ∈ ofDim c d k) : ∃ i : Nat,x = i ∧ i < k := by
  unfold ofDim at h
  rw [List.mem_map] at h
  obtain ⟨i,hi,rfl⟩ := h
  exact ⟨i,rfl,by have := (List.mem_filter.1 hi).1; simpa using this⟩

theorem simplicesOf_ret (c : List Sim) (d : Int) (hc : Sm yK c) (hd : -1 ≤ d ∧ d ≤ 1048576) : Ret E n_impl_simplicesOf [dLL c,dI d] ⟨o_impl_simplicesOf,(ofDim c d c.length,())⟩ := by
  have hc1 : c.length ≤ 1048576 := hc.1
  have hd1 : w64 (d + 1) = d + 1 := w64_small (by omega) (by omega)
  refine ret_of ?_
  simp only [run_impl_simplicesOf,impl_simplicesOf.ev]
  refine Ev.start (p := fun φ n => impl_simplicesOf.l0 (mkR (run E (φ 0))) (φ 0) n d c (c.length : Int) 0 [] = _) 1 ?_ (fun _ _ _ h => h)
  refine fold_loop 1 (L := fun φ n k a => impl_simplicesOf.l0 (mkR (run E (φ 0))) (φ 0) n d c (c.length : Int) k a) (len := c.length) (fun k => ofDim c d k) (fun _ _ _ _ _ => rfl) (fun k r hk ih => ?_) ?_
  · simp only [impl_simplicesOf.l0_succ _ mk_ok,hd1]
    rw [ofDim_succ,getD_lt hk] at ih
    have hlen := ofDim_length c d k
    refine ev_t (decide_eq_true (by omega)) (ev_bind (idx_lt hk) (ev_call (sizeI_ret _) ?_))
    rw [w64_succ (by omega)]
    refine ev_b (fun he => ev_chk (decide_eq_true (by simp only [List.length_cons,List.length_nil]; omega)) ?_) fun he => ?_
    · rw [if_pos (by simpa using he)] at ih; exact ih
    · rw [if_neg (by simpa using he),List.append_nil] at ih; exact ih
  · simp only [impl_simplicesOf.l0_succ _ mk_ok]
    exact ev_f (decide_eq_false (by omega)) ev_rfl

theorem l05Of_ret (c : List Sim) (d : Int) (hc : Sm yK c) (hd : -1 ≤ d ∧ d ≤ 1048576) : Ret E n_spec_l05Of [dC (c,()),dI d] ⟨o_spec_l05Of,(ofDim c d c.length,())⟩ := by
  have hc1 : c.length ≤ 1048576 := hc.1
  have hd1 : w64 (d + 1) = d + 1 := w64_small (by omega) (by omega)
  refine ret_of ?_
  simp only [run_spec_l05Of,spec_l05Of.ev]
  refine Ev.start (p := fun φ n => spec_l05Of.l0 (mkR (run E (φ 0))) (φ 0) n (c,()) d 0 [] = _) 1 ?_ (fun _ _ _ h => h)
  refine fold_loop 1 (L := fun φ n k a => spec_l05Of.l0 (mkR (run E (φ 0))) (φ 0) n (c,()) d k a) (len := c.length) (fun k => ofDim c d k) (fun _ _ _ _ _ => rfl) (fun k r hk ih => ?_) ?_
  · simp only [spec_l05Of.l0_succ _ mk_ok,hd1]
    rw [ofDim_succ,getD_lt hk] at ih
    have hlen := ofDim_length c d k
    refine ev_t (decide_eq_true (by omega)) (ev_bind (idx_lt hk) ?_)
    rw [w64_succ (by omega)]
    refine ev_b (fun he => ev_chk (decide_eq_true (by simp only [List.length_cons,List.length_nil]; omega)) ?_) fun he => ?_
    · rw [if_pos (by simpa using he)] at ih; exact ih
    · rw [if_neg (by simpa using he),List.append_nil] at ih; exact ih
  · simp only [spec_l05Of.l0_succ _ mk_ok]
    exact ev_f (decide_eq_false (by omega)) ev_rfl

/-- the sum of the stalks of a dimension -/
def sumD (c : List Sim) (st : Sim) (d : Int) (k : Nat) : Int := (((ofDim c d c.length).take k).map fun i => st.getD i.toNat 0).sum

theorem sumD_succ (c : List Sim) (st : Sim) (d : Int) (k : Nat) (h : k < (ofDim c d c.length).length) : sumD c st d (k + 1) = sumD c st d k + st.getD ((ofDim c d c.length)[k]).toNat 0 := by
  unfold sumD
  rw [List.take_succ_eq_append_getElem h,List.map_append,List.sum_append]
  simp

theorem sumD_le {c : List Sim} {st : Sim} (hst : ∀ x ∈ st,0 ≤ x ∧ x ≤ 3) (d : Int) (k : Nat) : 0 ≤ sumD c st d k ∧ sumD c st d k ≤ 3 * k := by
  induction k with
  | zero => simp [sumD]
  | succ k ih =>
    by_cases h : k < (ofDim c d c.length).length
    · rw [sumD_succ _ _ _ _ h]
      have : 0 ≤ st.getD ((ofDim c d c.length)[k]).toNat 0 ∧ st.getD ((ofDim c d c.length)[k]).toNat 0 ≤ 3 := by
        by_cases hl : ((ofDim c d c.length)[k]).toNat < st.length
        · rw [getD_lt hl]; exact hst _ (List.getElem_mem hl)
        · rw [List.getD_eq_getElem?_getD,List.getElem?_eq_none (by omega)]; simp
      omega
    · have : sumD c st d (k + 1) = sumD c st d k := by
        unfold sumD
        rw [List.take_of_length_le (by omega),List.take_of_length_le (by omega)]
      omega

theorem stalkSum_ret (c : List Sim) (st : Sim) (d : Int) (p : Int) (ms : List Mat) (hc : Sm yK c) (hl : st.length = c.length) (hst : ∀ x ∈ st,0 ≤ x ∧ x ≤ 3) (hd : -1 ≤ d ∧ d ≤ 1048576) :
    Ret E n_impl_stalkSum [dLL c,dI p,dL st,dMs ms,dI d] ⟨o_impl_stalkSum,(sumD c st d (ofDim c d c.length).length,())⟩ := by
  have hc1 : c.length ≤ 1048576 := hc.1
  have hol := ofDim_length c d c.length
  refine ret_of ?_
  simp only [run_impl_stalkSum,impl_stalkSum.ev]
  refine ev_call (simplicesOf_ret c d hc hd) ?_
  refine Ev.start (p := fun φ n => impl_stalkSum.l0 (mkR (run E (φ 0))) (φ 0) n 0 (ofDim c d c.length) ((ofDim c d c.length).length : Int) 0 c p st ms = _) 1 ?_ (fun _ _ _ h => h)
  refine fold_loop 1 (L := fun φ n k a => impl_stalkSum.l0 (mkR (run E (φ 0))) (φ 0) n a (ofDim c d c.length) ((ofDim c d c.length).length : Int) k c p st ms) (len := (ofDim c d c.length).length) (fun k => sumD c st d k) (fun _ _ _ _ _ => rfl) (fun k r hk ih => ?_) ?_
  · simp only [impl_stalkSum.l0_succ _ mk_ok]
    obtain ⟨i,hi,hik⟩ := ofDim_mem (List.getElem_mem hk)
    rw [sumD_succ _ _ _ _ hk,hi,Int.toNat_natCast,getD_lt (by omega)] at ih
    have hb := sumD_le hst d k (c := c)
    have hb2 := hst _ (List.getElem_mem (show i < st.length by omega))
    refine ev_t (decide_eq_true (by omega)) (ev_bind (idx_lt hk) ?_)
    simp only [hi]
    refine ev_bind (idx_lt (by omega)) ?_
    rw [w64_succ (by omega),w64_small (by omega) (by omega)]
    exact ih
  · simp only [impl_stalkSum.l0_succ _ mk_ok]
    exact ev_f (decide_eq_false (by omega)) ev_rfl

theorem l09Sum_ret (c : List Sim) (st : Sim) (d : Int) (hc : Sm yK c) (hl : st.length = c.length) (hst : ∀ x ∈ st,0 ≤ x ∧ x ≤ 3) (hd : -1 ≤ d ∧ d ≤ 1048576) :
    Ret E n_spec_l09Sum [dC (c,()),dL st,dI d] ⟨o_spec_l09Sum,(sumD c st d (ofDim c d c.length).length,())⟩ := by
  have hc1 : c.length ≤ 1048576 := hc.1
  have hol := ofDim_length c d c.length
  refine ret_of ?_
  simp only [run_spec_l09Sum,spec_l09Sum.ev]
  refine ev_call (l05Of_ret c d hc hd) ?_
  refine Ev.start (p := fun φ n => spec_l09Sum.l0 (mkR (run E (φ 0))) (φ 0) n st (ofDim c d c.length) 0 0 = _) 1 ?_ (fun _ _ _ h => h)
  refine fold_loop 1 (L := fun φ n k a => spec_l09Sum.l0 (mkR (run E (φ 0))) (φ 0) n st (ofDim c d c.length) a k) (len := (ofDim c d c.length).length) (fun k => sumD c st d k) (fun _ _ _ _ _ => rfl) (fun k r hk ih => ?_) ?_
  · simp only [spec_l09Sum.l0_succ _ mk_ok]
    obtain ⟨i,hi,hik⟩ := ofDim_mem (List.getElem_mem hk)
    rw [sumD_succ _ _ _ _ hk,hi,Int.toNat_natCast,getD_lt (by omega)] at ih
    have hb := sumD_le hst d k (c := c)
    have hb2 := hst _ (List.getElem_mem (show i < st.length by omega))
    refine ev_t (decide_eq_true (by omega)) (ev_bind (idx_lt hk) ?_)
    simp only [hi]
    refine ev_bind (idx_lt (by omega)) ?_
    rw [w64_succ (by omega),w64_small (by omega) (by omega)]
    exact ih
  · simp only [spec_l09Sum.l0_succ _ mk_ok]
    exact ev_f (decide_eq_false (by omega)) ev_rfl

end VeT

open Go Go.Proofs Ve
set_option linter.unusedVariables false
set_option linter.unusedSimpArgs false
namespace VeT

theorem sum_len_le {c : List Sim} {st : Sim} (hst : ∀ x ∈ st,0 ≤ x ∧ x ≤ 3) (d : Int) : 0 ≤ sumD c st d (ofDim c d c.length).length := (sumD_le hst d _).1

/-- the sum of a dimension's stalks -/
def SD (c : List Sim) (st : Sim) (d : Int) : Int := sumD c st d (ofDim c d c.length).length

/-- stalks -/
def SK (c : List Sim) (st : Sim) : Prop := st.length = c.length ∧ (∀ x ∈ st,0 ≤ x ∧ x ≤ 3) ∧ ∀ d : Nat,d < 4 → SD c st (d : Int) ≤ 32

theorem areStalks_1_ret (n : Int) : Ret E n_impl_areStalks_1 [dI n] ⟨o_impl_areStalks_1,(!pb (0 ≤ n ∧ n ≤ 3),())⟩ := by
  refine ret_of ?_
  simp only [run_impl_areStalks_1,impl_areStalks_1.ev]
  exact ev_call (within_ret _ _ _) ev_rfl

theorem areStalks_ret (c : List Sim) (st : Sim) (hc : Sm yK c) (hs : st.length ≤ 1048576) : Ret E n_impl_areStalks [dLL c,dL st] ⟨o_impl_areStalks,(pb (SK c st),())⟩ := by
  refine ret_of ?_
  simp only [run_impl_areStalks,impl_areStalks.ev]
  refine ev_b (fun h => ?_) fun h => ?_
  · simp only [impl_areStalks.j0_eq _ mk_ok,cond_true]
    have h : ¬ (st.length : Int) = c.length := by simpa using h
    rw [pb_false fun hk => h (by rw [hk.1])]; (first | exact ev_rfl | exact Ev.of fun _ => trivial)
  have hl : st.length = c.length := by have : (st.length : Int) = c.length := by simpa using h
                                       omega
  refine ev_call (ContainsFunc_Sint64_int64_impl_areStalks_1_ret st _ hs fun x _ => areStalks_1_ret x) ?_
  simp only [impl_areStalks.j0_eq _ mk_ok]
  have e := none_bad (s := st) (P := fun x => 0 ≤ x ∧ x ≤ 3)
  refine ev_b (fun h => ?_) fun h => ?_
  · simp only [h] at e
    rw [pb_false fun hk => pb_not.1 e.symm hk.2.1]; (first | exact ev_rfl | exact Ev.of fun _ => trivial)
  · simp only [h] at e
    have hst : ∀ x ∈ st,0 ≤ x ∧ x ≤ 3 := pb_iff.1 e.symm
    refine Ev.start (p := fun φ n => impl_areStalks.l1 (mkR (run E (φ 0))) (φ 0) n st 0 c = _) 1 ?_ (fun _ _ _ h => h)
    refine (all_pb 1 (L := fun φ n k => impl_areStalks.l1 (mkR (run E (φ 0))) (φ 0) n st k c) (len := 4) 0 (by omega) (fun d => SD c st (d : Int) ≤ 32) (fun b => some ⟨o_impl_areStalks,(b,())⟩) (fun _ _ _ _ => rfl) (fun k h1 h2 hP _ => ?_) (fun k r h1 h2 hP _ ih => ?_) (fun _ => ?_)).to ?_
    · simp only [impl_areStalks.l1_succ _ mk_ok]
      exact ev_t (decide_eq_true (by omega)) (ev_call (stalkSum_ret c st _ _ _ hc hl hst (by omega)) (ev_t (decide_eq_true (Int.not_le.1 hP)) ev_rfl))
    · simp only [impl_areStalks.l1_succ _ mk_ok]
      refine ev_t (decide_eq_true (by omega)) (ev_call (stalkSum_ret c st _ _ _ hc hl hst (by omega)) (ev_f (decide_eq_false (Int.not_lt.2 hP)) ?_))
      rw [w64_succ (by omega)]; exact ih
    · simp only [impl_areStalks.l1_succ _ mk_ok]
      exact ev_f (decide_eq_false (by omega)) ev_rfl
    · exact congrArg (fun b : Bool => some (⟨o_impl_areStalks,(b,())⟩ : Dv)) (pb_congr ⟨fun h => ⟨hl,hst,fun d hd => h d (by omega) hd⟩,fun h d _ hd => h.2.2 d hd⟩)

theorem l09Stalks_ret (c : List Sim) (st : Sim) (hc : Sm yK c) (hs : st.length ≤ 1048576) : Ret E n_spec_l09Stalks [dC (c,()),dL st] ⟨o_spec_l09Stalks,(pb (SK c st),())⟩ := by
  refine ret_of ?_
  simp only [run_spec_l09Stalks,spec_l09Stalks.ev]
  refine ev_call (l03Column_ret st _ _ hs (by omega)) (ev_b (fun h => ?_) fun h => ?_)
  · have h := pb_not.1 (show pb (Elems st 4 ∧ (st.length : Int) = c.length) = false by simpa using h)
    rw [pb_false fun hk => h ⟨hk.2.1,by rw [hk.1]⟩]; (first | exact ev_rfl | exact Ev.of fun _ => trivial)
  · have h := pb_iff.1 (show pb (Elems st 4 ∧ (st.length : Int) = c.length) = true by simpa using h)
    have hl : st.length = c.length := by have := h.2; omega
    have hst : ∀ x ∈ st,0 ≤ x ∧ x ≤ 3 := h.1
    refine Ev.start (p := fun φ n => spec_l09Stalks.l0 (mkR (run E (φ 0))) (φ 0) n (c,()) st 0 = _) 1 ?_ (fun _ _ _ h => h)
    refine (all_pb 1 (L := fun φ n k => spec_l09Stalks.l0 (mkR (run E (φ 0))) (φ 0) n (c,()) st k) (len := 4) 0 (by omega) (fun d => SD c st (d : Int) ≤ 32) (fun b => some ⟨o_spec_l09Stalks,(b,())⟩) (fun _ _ _ _ => rfl) (fun k h1 h2 hP _ => ?_) (fun k r h1 h2 hP _ ih => ?_) (fun _ => ?_)).to ?_
    · simp only [spec_l09Stalks.l0_succ _ mk_ok]
      exact ev_t (decide_eq_true (by omega)) (ev_call (l09Sum_ret c st _ hc hl hst (by omega)) (ev_t (decide_eq_true (Int.not_le.1 hP)) ev_rfl))
    · simp only [spec_l09Stalks.l0_succ _ mk_ok]
      refine ev_t (decide_eq_true (by omega)) (ev_call (l09Sum_ret c st _ hc hl hst (by omega)) (ev_f (decide_eq_false (Int.not_lt.2 hP)) ?_))
      rw [w64_succ (by omega)]; exact ih
    · simp only [spec_l09Stalks.l0_succ _ mk_ok]
      exact ev_f (decide_eq_false (by omega)) ev_rfl
    · exact congrArg (fun b : Bool => some (⟨o_spec_l09Stalks,(b,())⟩ : Dv)) (pb_congr ⟨fun h => ⟨hl,hst,fun d hd => h d (by omega) hd⟩,fun h d _ hd => h.2.2 d hd⟩)

/-! faces' indices -/
noncomputable def fIdx (c : List Sim) (k : Nat) : List Int := (faces (c.getD k [])).map (findI c)

theorem findI_lt {c : List Sim} {s : Sim} : findI c s < c.length ∧ -1 ≤ findI c s := by
  unfold findI idxf
  cases h : c.findIdx? (fun x => pb (x = s)) with
  | none => simp only [o2i]; omega
  | some k =>
    rw [List.findIdx?_eq_some_iff_getElem] at h
    obtain ⟨h,_⟩ := h
    simp only [o2i]; omega

theorem fIdx_length {c : List Sim} {k : Nat} : (fIdx c k).length = if 1 < (c.getD k []).length then (c.getD k []).length else 0 := by
  unfold fIdx faces
  rw [List.length_map]
  split <;> simp

theorem fIdx_mem {c : List Sim} (h : VC c) {k : Nat} (hk : k < c.length) {x : Int} (hx : x ∈ fIdx c k) : 0 ≤ x ∧ x < c.length := by
  unfold fIdx at hx
  rw [List.mem_map] at hx
  obtain ⟨f,hf,rfl⟩ := hx
  exact ⟨findI_nonneg.2 (h.2.2.2 k hk f hf),findI_lt.1⟩

theorem faceIndices_ret (c : List Sim) (k : Nat) (hk : k < c.length) (hc : Sm yK c) (hs : Srt c) : Ret E n_impl_faceIndices [dLL c,dI (k : Int)] ⟨o_impl_faceIndices,(fIdx c k,())⟩ := by
  have hks : (c[k]).length ≤ 1048576 := (sm_get hc hk).1
  have hfl := faces_length (s := c[k])
  refine ret_of ?_
  simp only [run_impl_faceIndices,impl_faceIndices.ev]
  refine ev_bind (idx_lt hk) (ev_call (facesOf_ret _ hks) ?_)
  refine Ev.start (p := fun φ n => impl_faceIndices.l0 (mkR (run E (φ 0))) (φ 0) n (faces c[k]) ((faces c[k]).length : Int) 0 c [] = _) 1 ?_ (fun _ _ _ h => h)
  refine fold_loop 1 (L := fun φ n j a => impl_faceIndices.l0 (mkR (run E (φ 0))) (φ 0) n (faces c[k]) ((faces c[k]).length : Int) j c a) (len := (faces c[k]).length) (fun j => ((faces c[k]).take j).map (findI c)) (fun _ _ _ _ _ => rfl) (fun j r hj ih => ?_) ?_
  · simp only [impl_faceIndices.l0_succ _ mk_ok]
    rw [List.take_succ_eq_append_getElem hj,List.map_append] at ih
    refine ev_t (decide_eq_true (by omega)) (ev_bind (idx_lt hj) (ev_call (indexOf_ret c _ hc hs) (ev_chk (by simp; omega) ?_)))
    rw [w64_succ (by omega)]; exact ih
  · simp only [impl_faceIndices.l0_succ _ mk_ok]
    refine ev_f (decide_eq_false (by omega)) (ev_some ?_)
    rw [List.take_of_length_le (Nat.le_refl _),fIdx,getD_lt hk]

theorem l05Faces_ret (c : List Sim) (k : Nat) (hk : k < c.length) (hc : Sm yK c) : Ret E n_spec_l05Faces [dC (c,()),dI (k : Int)] ⟨o_spec_l05Faces,(fIdx c k,())⟩ := by
  have hks : (c[k]).length ≤ 1048576 := (sm_get hc hk).1
  refine ret_of ?_
  simp only [run_spec_l05Faces,spec_l05Faces.ev]
  refine ev_bind (idx_lt hk) ?_
  refine Ev.start (p := fun φ n => spec_l05Faces.l0 (mkR (run E (φ 0))) (φ 0) n (c,()) c[k] 0 [] = _) 1 ?_ (fun _ _ _ h => h)
  by_cases hlen : 1 < (c[k]).length
  · refine fold_loop 1 (L := fun φ n j a => spec_l05Faces.l0 (mkR (run E (φ 0))) (φ 0) n (c,()) c[k] j a) (len := (c[k]).length) (fun j => (List.range j).map fun i => findI c ((c[k]).eraseIdx i)) (fun _ _ _ _ _ => rfl) (fun j r hj ih => ?_) ?_
    · simp only [spec_l05Faces.l0_succ _ mk_ok]
      rw [List.range_succ,List.map_append] at ih
      refine ev_t (decide_eq_true (by omega)) ?_
      simp only [show decide (((c[k]).length : Int) > 1) = true from decide_eq_true (by omega),spec_l05Faces.j1_eq _ mk_ok,cond_true]
      refine ev_call (l05Drop_ret _ j hj hks) (ev_call (l05Find_ret (c,()) _ hc) (ev_chk (by simp; omega) ?_))
      rw [w64_succ (by omega)]; exact ih
    · simp only [spec_l05Faces.l0_succ _ mk_ok]
      refine ev_f (decide_eq_false (by omega)) ?_
      simp only [spec_l05Faces.j1_eq _ mk_ok,cond_false]
      refine ev_some ?_
      rw [fIdx,getD_lt hk,faces,if_pos hlen,List.map_map]; rfl
  · refine Ev.round 1 (L := fun φ n => spec_l05Faces.l0 (mkR (run E (φ 0))) (φ 0) n (c,()) c[k] 0 []) ?_ (fun _ _ _ => rfl)
    have hj : Ev fun φ => spec_l05Faces.j1 (mkR (run E (φ 0))) (φ 0) (φ 1) (c,()) c[k] 0 false [] = some ⟨o_spec_l05Faces,(fIdx c k,())⟩ := by
      simp only [spec_l05Faces.j1_eq _ mk_ok,cond_false]
      refine ev_some ?_
      rw [fIdx,getD_lt hk,faces,if_neg hlen]; rfl
    simp only [spec_l05Faces.l0_succ _ mk_ok]
    refine ev_d (fun _ => ?_) fun _ => hj
    simp only [show decide (((c[k]).length : Int) > 1) = false from decide_eq_false (by omega)]
    exact hj

/-! arrows -/
abbrev Arw := Int × Int × Int × Unit
noncomputable def rowA (c : List Sim) (k i : Nat) : List Arw := (List.range i).map fun (j : Nat) => ((k : Int),(j : Int),(fIdx c k).getD j 0,())
noncomputable def arrs (c : List Sim) : Nat → List Arw
  | 0 => []
  | k + 1 => arrs c k ++ rowA c k (fIdx c k).length
noncomputable def plc (c : List Sim) (k : Nat) : Nat := (arrs c k).length

theorem rowA_length {c : List Sim} {k i : Nat} : (rowA c k i).length = i := by simp [rowA]

theorem plc_succ {c : List Sim} {k : Nat} : plc c (k + 1) = plc c k + (fIdx c k).length := by
  unfold plc; rw [arrs,List.length_append,rowA_length]

theorem VC.len4 {c : List Sim} (h : VC c) {k : Nat} (hk : k < c.length) : (c.getD k []).length ≤ 4 := (h.2.1 k hk).2.1

theorem VC.fIdx4 {c : List Sim} (h : VC c) {k : Nat} (hk : k < c.length) : (fIdx c k).length ≤ 4 := by
  have := h.len4 hk
  rw [fIdx_length]; split <;> omega

theorem VC.plc {c : List Sim} (h : VC c) : ∀ {k : Nat},k ≤ c.length → plc c k ≤ 4 * k
  | 0,_ => by simp [VeT.plc,arrs]
  | k + 1,hk => by
    have h1 := h.plc (k := k) (by omega)
    have h2 := h.fIdx4 (k := k) (by omega)
    rw [plc_succ]; omega

theorem arrs_get {c : List Sim} : ∀ {n k i : Nat},k < n → i < (fIdx c k).length → (arrs c n)[plc c k + i]? = some ((k : Int),(i : Int),(fIdx c k).getD i 0,())
  | 0,_,_,h,_ => by omega
  | n + 1,k,i,h,hi => by
    rw [arrs]
    by_cases hk : k < n
    · have := arrs_get hk hi
      have hl := (List.getElem?_eq_some_iff.1 this).1
      rw [List.getElem?_append_left hl]; exact this
    · obtain rfl : k = n := by omega
      rw [List.getElem?_append_right (by unfold plc; omega)]
      rw [show plc c k + i - (arrs c k).length = i by unfold plc; omega]
      simp [rowA,hi]

theorem arrs_ex {c : List Sim} : ∀ {n t : Nat},t < (arrs c n).length → ∃ k i,k < n ∧ i < (fIdx c k).length ∧ t = plc c k + i
  | 0,_,h => by simp [arrs] at h
  | n + 1,t,h => by
    by_cases ht : t < (arrs c n).length
    · obtain ⟨k,i,h1,h2,h3⟩ := arrs_ex ht
      exact ⟨k,i,by omega,h2,h3⟩
    · rw [arrs,List.length_append,rowA_length] at h
      exact ⟨n,t - (arrs c n).length,by omega,by omega,by unfold plc; omega⟩

theorem arrows_ret (c : List Sim) (hc : Sm yK c) (hv : VC c) : Ret E n_impl_arrows [dLL c] ⟨o_impl_arrows,(arrs c c.length,())⟩ := by
  have hs := hv.srt
  have h48 := hv.1
  refine ret_of ?_
  simp only [run_impl_arrows,impl_arrows.ev]
  refine ev_call (sizeL_ret _) ?_
  refine Ev.start (p := fun φ n => impl_arrows.l0 (mkR (run E (φ 0))) (φ 0) n (c.length : Int) 0 c [] = _) 1 ?_ (fun _ _ _ h => h)
  refine fold_loop 1 (L := fun φ n k a => impl_arrows.l0 (mkR (run E (φ 0))) (φ 0) n (c.length : Int) k c a) (len := c.length) (fun k => arrs c k) (fun _ _ _ _ _ => rfl) (fun k r hk ih => ?_) ?_
  · simp only [impl_arrows.l0_succ _ mk_ok]
    have hpl := hv.plc (k := k) (by omega)
    have hf4 := hv.fIdx4 hk
    refine ev_t (decide_eq_true (by omega)) (ev_call (faceIndices_ret c k hk hc hs) ?_)
    refine Ev.start (p := fun φ n => impl_arrows.l1 (mkR (run E (φ 0))) (φ 0) (φ 1) n (k : Int) (c.length : Int) (k : Int) (fIdx c k) ((fIdx c k).length : Int) 0 c (arrs c k) = _) 2 ?_ (fun _ _ _ h => h)
    have := fold_loop 2 (L := fun φ n j a => impl_arrows.l1 (mkR (run E (φ 0))) (φ 0) (φ 1) n (k : Int) (c.length : Int) (k : Int) (fIdx c k) ((fIdx c k).length : Int) j c a) (len := (fIdx c k).length) (fun j => arrs c k ++ rowA c k j) (r := r) (fun _ _ _ _ _ => rfl) (fun j r hj ih => ?_) ?_
    · simpa [rowA] using this
    · simp only [impl_arrows.l1_succ _ mk_ok]
      refine ev_t (decide_eq_true (by omega)) (ev_bind (idx_lt hj) (ev_chk (decide_eq_true ?_) ?_))
      · rw [List.length_append,rowA_length]; show (_ + _ + 1) * 24 ≤ _
        have : (arrs c k).length = plc c k := rfl
        omega
      · rw [w64_succ (by omega)]
        have e : rowA c k (j + 1) = rowA c k j ++ [((k : Int),(j : Int),(fIdx c k)[j],())] := by
          unfold rowA; rw [List.range_succ,List.map_append]; simp [List.getD_eq_getElem?_getD,hj]
        rw [e,← List.append_assoc] at ih
        exact ih
    · simp only [impl_arrows.l1_succ _ mk_ok]
      refine ev_f (decide_eq_false (by omega)) ?_
      rw [w64_succ (by omega)]; exact ih
  · simp only [impl_arrows.l0_succ _ mk_ok]
    exact ev_f (decide_eq_false (by omega)) ev_rfl

theorem l09Place_ret (c : List Sim) (k i : Nat) (hk : k ≤ c.length) (hi : i ≤ 1048576) (hv : VC c) : Ret E n_spec_l09Place [dC (c,()),dI (k : Int),dI (i : Int)] ⟨o_spec_l09Place,(((plc c k + i : Nat) : Int),())⟩ := by
  have h48 := hv.1
  refine ret_of ?_
  simp only [run_spec_l09Place,spec_l09Place.ev]
  refine Ev.start (p := fun φ n => spec_l09Place.l0 (mkR (run E (φ 0))) (φ 0) n (c,()) (k : Int) (i : Int) 0 0 = _) 1 ?_ (fun _ _ _ h => h)
  have := fold_loop 1 (L := fun φ n j a => spec_l09Place.l0 (mkR (run E (φ 0))) (φ 0) n (c,()) (k : Int) (i : Int) a j) (len := k) (fun j => ((plc c j : Nat) : Int)) (r := some ⟨o_spec_l09Place,(((plc c k + i : Nat) : Int),())⟩) (fun _ _ _ _ _ => rfl) (fun j r hj ih => ?_) ?_
  · exact this
  · simp only [spec_l09Place.l0_succ _ mk_ok]
    have hjc : j < c.length := by omega
    have hpl := hv.plc (k := j) (by omega)
    have h4 := hv.len4 hjc
    have e := plc_succ (c := c) (k := j)
    rw [fIdx_length] at e
    rw [getD_lt hjc] at e h4
    refine ev_t (decide_eq_true (by omega)) (ev_bind (idx_lt hjc) (ev_d (fun hl => ev_bind (idx_lt hjc) ?_) fun hl => ?_))
    · rw [if_pos (by omega)] at e
      rw [w64_succ (by omega),w64_small (by omega) (by omega)]
      rw [e] at ih
      simpa using ih
    · rw [if_neg (by omega)] at e
      rw [w64_succ (by omega)]
      rw [e] at ih; exact ih
  · simp only [spec_l09Place.l0_succ _ mk_ok]
    have hpl := hv.plc hk
    refine ev_f (decide_eq_false (by omega)) (ev_some ?_)
    rw [w64_small (by omega) (by omega)]
    simp

theorem l09Count_ret (c : List Sim) (hv : VC c) : Ret E n_spec_l09Count [dC (c,())] ⟨o_spec_l09Count,(((plc c c.length : Nat) : Int),())⟩ := by
  refine ret_of ?_
  simp only [run_spec_l09Count,spec_l09Count.ev]
  exact ev_call (l09Place_ret c c.length 0 (Nat.le_refl _) (by omega) hv) ev_rfl

end VeT

open Go Go.Proofs Ve
set_option linter.unusedVariables false
set_option linter.unusedSimpArgs false
namespace VeT

def mz : Mat := (0,0,0,[],())
/-- the map at a face -/
def QB (p : Int) (st : Sim) (ms : List Mat) (t k : Nat) (f : Int) : Prop := Bt (ms.getD t mz) p (st.getD f.toNat 0) (st.getD k 0)

/-- valid sheaves -/
def VS (c : List Sim) (p : Int) (st : Sim) (ms : List Mat) : Prop := VC c ∧ Pr p ∧ SK c st ∧ plc c c.length = ms.length ∧ ∀ k,k < c.length → ∀ i,i < (fIdx c k).length → QB p st ms (plc c k + i) k ((fIdx c k).getD i 0)

def az : Arw := (0,0,0,())
/-- an arrow's map -/
def QA (p : Int) (st : Sim) (ms : List Mat) (t : Nat) (a : Arw) : Prop := t < ms.length ∧ Bt (ms.getD t mz) p (st.getD a.2.2.1.toNat 0) (st.getD a.1.toNat 0)

theorem VS_impl {c : List Sim} {p : Int} {st : Sim} {ms : List Mat} (hl : plc c c.length = ms.length) :
    (∀ t,0 ≤ t → t < plc c c.length → QA p st ms t ((arrs c c.length).getD t az)) ↔ ∀ k,k < c.length → ∀ i,i < (fIdx c k).length → QB p st ms (plc c k + i) k ((fIdx c k).getD i 0) := by
  constructor
  · intro h k hk i hi
    have hg := arrs_get hk hi
    have hlt := (List.getElem?_eq_some_iff.1 hg).1
    have := h (plc c k + i) (by omega) hlt
    rw [List.getD_eq_getElem?_getD,hg] at this
    exact this.2
  · intro h t _ ht
    obtain ⟨k,i,hk,hi,rfl⟩ := arrs_ex ht
    have hg := arrs_get hk hi
    have := h k hk i hi
    rw [List.getD_eq_getElem?_getD,hg]
    exact ⟨by omega,this⟩

theorem sm_mat {ms : List Mat} (h : Sm (.sl (.st cM)) ms) {t : Nat} (ht : t < ms.length) : Sm (.st cM) ms[t] := h.2 _ (List.getElem_mem ht)

theorem implValidSheaf_ret (c : List Sim) (p : Int) (st : Sim) (ms : List Mat) (hc : Sm yK c) (hst : st.length ≤ 1048576) (hm : Sm (.sl (.st cM)) ms) :
    Ret E n_impl_ValidSheaf [dLL c,dI p,dL st,dMs ms] ⟨o_impl_ValidSheaf,(pb (VS c p st ms),())⟩ := by
  have hm1 : ms.length ≤ 1048576 := hm.1
  refine ret_of ?_
  simp only [run_impl_ValidSheaf,impl_ValidSheaf.ev]
  have no : ¬ VS c p st ms → Ev fun φ => impl_ValidSheaf.j0 (mkR (run E (φ 0))) (φ 0) true c p st ms = some ⟨o_impl_ValidSheaf,(pb (VS c p st ms),())⟩ := fun h => by
    simp only [impl_ValidSheaf.j0_eq _ mk_ok,cond_true]
    rw [pb_false h]; (first | exact ev_rfl | exact Ev.of fun _ => trivial)
  refine ev_call (ValidComplex_ret c hc) (ev_b (fun h => no fun hv => pb_not.1 (show pb (VC c) = false by simpa using h) hv.1) fun h => ?_)
  have hv : VC c := pb_iff.1 (by simpa using h)
  refine ev_call (ValidPrime_ret p) (ev_b (fun h => no fun hv => pb_not.1 (show pb (Pr p) = false by simpa using h) hv.2.1) fun h => ?_)
  have hp : Pr p := pb_iff.1 (by simpa using h)
  refine ev_call (areStalks_ret c st hc hst) ?_
  by_cases hk : SK c st
  · simp only [pb_true hk,Bool.not_true,impl_ValidSheaf.j0_eq _ mk_ok,cond_false]
    refine ev_call (arrows_ret c hc hv) ?_
    have hpl := hv.plc (Nat.le_refl _)
    have h48 := hv.1
    refine Ev.start (p := fun φ n => impl_ValidSheaf.l1 (mkR (run E (φ 0))) (φ 0) n (arrs c c.length) (arrs c c.length) ((arrs c c.length).length : Int) 0 c p st ms = _) 1 ?_ (fun _ _ _ h => h)
    have get : ∀ t (ht : t < plc c c.length),∃ k i,k < c.length ∧ i < (fIdx c k).length ∧ (arrs c c.length)[t]? = some ((k : Int),(i : Int),(fIdx c k).getD i 0,()) ∧ ((fIdx c k).getD i 0).toNat < st.length ∧ 0 ≤ (fIdx c k).getD i 0 := fun t ht => by
      obtain ⟨k,i,hk',hi,rfl⟩ := arrs_ex ht
      have hb := fIdx_mem hv hk' (List.getElem_mem hi)
      exact ⟨k,i,hk',hi,arrs_get hk' hi,by rw [getD_lt hi,hk.1]; omega,by rw [getD_lt hi]; omega⟩
    refine (all_pb 1 (L := fun φ n t => impl_ValidSheaf.l1 (mkR (run E (φ 0))) (φ 0) n (arrs c c.length) (arrs c c.length) ((arrs c c.length).length : Int) t c p st ms) (len := plc c c.length) 0 (by omega) (fun t => QA p st ms t ((arrs c c.length).getD t az)) (fun b => some ⟨o_impl_ValidSheaf,(b && ((plc c c.length : Int) == (ms.length : Int)),())⟩) (fun _ _ _ _ => rfl) (fun t h1 h2 hP _ => ?_) (fun t r h1 h2 hP _ ih => ?_) (fun _ => ?_)).to ?_
    · simp only [impl_ValidSheaf.l1_succ _ mk_ok]
      obtain ⟨k,i,hkc,hi,hg,hf,hf0⟩ := get t h2
      have hlt : t < (arrs c c.length).length := h2
      have hgt : (arrs c c.length)[t] = ((k : Int),(i : Int),(fIdx c k).getD i 0,()) := by
        rw [List.getElem?_eq_getElem hlt] at hg; exact Option.some.inj hg
      refine ev_t (decide_eq_true (by omega)) (ev_bind (idx_lt hlt) ?_)
      rw [getD_lt hlt] at hP
      rw [hgt] at hP ⊢
      refine ev_d (fun hge => ?_) fun hge => ?_
      · simp only [impl_ValidSheaf.j2_eq _ mk_ok,cond_true]; (first | exact ev_rfl | exact Ev.of fun _ => trivial)
      · have htm : t < ms.length := by omega
        refine ev_bind (idx_lt htm) ?_
        simp only
        rw [show (fIdx c k).getD i 0 = ((((fIdx c k).getD i 0).toNat : Nat) : Int) by omega]
        refine ev_bind (idx_lt hf) (ev_bind (idx_lt (show k < st.length by rw [hk.1]; exact hkc)) (ev_call (isBetween_ret _ _ _ _ (sm_mat hm htm)) ?_))
        have : ¬ Bt ms[t] p st[((fIdx c k).getD i 0).toNat] (st[k]'(by rw [hk.1]; exact hkc)) := fun hb => hP ⟨htm,by
          simp only [Int.toNat_natCast]
          rw [getD_lt htm,getD_lt hf,getD_lt (s := st) (k := k) (by rw [hk.1]; exact hkc)]; exact hb⟩
        simp only [pb_false this,Bool.not_false,impl_ValidSheaf.j2_eq _ mk_ok,cond_true]; (first | exact ev_rfl | exact Ev.of fun _ => trivial)
    · simp only [impl_ValidSheaf.l1_succ _ mk_ok]
      obtain ⟨k,i,hkc,hi,hg,hf,hf0⟩ := get t h2
      have hlt : t < (arrs c c.length).length := h2
      have hgt : (arrs c c.length)[t] = ((k : Int),(i : Int),(fIdx c k).getD i 0,()) := by
        rw [List.getElem?_eq_getElem hlt] at hg; exact Option.some.inj hg
      refine ev_t (decide_eq_true (by omega)) (ev_bind (idx_lt hlt) ?_)
      rw [getD_lt hlt] at hP
      rw [hgt] at hP ⊢
      obtain ⟨htm,hb⟩ := hP
      refine ev_f (decide_eq_false (by omega)) (ev_bind (idx_lt htm) ?_)
      simp only
      rw [show (fIdx c k).getD i 0 = ((((fIdx c k).getD i 0).toNat : Nat) : Int) by omega]
      refine ev_bind (idx_lt hf) (ev_bind (idx_lt (show k < st.length by rw [hk.1]; exact hkc)) (ev_call (isBetween_ret _ _ _ _ (sm_mat hm htm)) ?_))
      simp only [Int.toNat_natCast] at hb
      rw [getD_lt htm,getD_lt hf,getD_lt (s := st) (k := k) (by rw [hk.1]; exact hkc)] at hb
      simp only [pb_true hb,Bool.not_true,impl_ValidSheaf.j2_eq _ mk_ok,cond_false]
      rw [w64_succ (by omega)]; exact ih
    · simp only [impl_ValidSheaf.l1_succ _ mk_ok]
      exact ev_f (decide_eq_false (by show ¬ ((plc c c.length : Nat) : Int) < ((plc c c.length : Nat) : Int); omega)) (ev_some (by rw [Bool.true_and]; rfl))
    · have : (pb (∀ t,0 ≤ t → t < plc c c.length → QA p st ms t ((arrs c c.length).getD t az)) && ((plc c c.length : Int) == (ms.length : Int))) = pb (VS c p st ms) := eq_pb (by
        rw [Bool.and_eq_true,pb_iff,beq_iff_eq]
        constructor
        · rintro ⟨h1,h2⟩
          have h2 : plc c c.length = ms.length := by omega
          exact ⟨hv,hp,hk,h2,(VS_impl h2).1 h1⟩
        · rintro ⟨_,_,_,h2,h1⟩
          exact ⟨(VS_impl h2).2 h1,by omega⟩)
      rw [this]
  · simp only [pb_false hk,Bool.not_false]
    exact no fun hv => hk hv.2.2.1

theorem l09Map_ret (x : Shf) (k i : Nat) (m : Mat) (hv : VC x.1) (hk : SK x.1 x.2.2.1) (hkc : k < x.1.length) (hi : i < (fIdx x.1 k).length) (hc : Sm yK x.1) (hm : Sm (.st cM) m) :
    Ret E n_spec_l09Map [dS x,dI (k : Int),dI (i : Int),dM m] ⟨o_spec_l09Map,(pb (Bt m x.2.1 (x.2.2.1.getD ((fIdx x.1 k).getD i 0).toNat 0) (x.2.2.1.getD k 0)),())⟩ := by
  have hb := fIdx_mem hv hkc (List.getElem_mem hi)
  have hks : k < x.2.2.1.length := by rw [hk.1]; exact hkc
  have hfs : ((fIdx x.1 k)[i]).toNat < x.2.2.1.length := by rw [hk.1]; omega
  rw [getD_lt hi,getD_lt hks,getD_lt hfs]
  refine ret_of ?_
  simp only [run_spec_l09Map,spec_l09Map.ev]
  refine ev_call (l05Faces_ret x.1 k hkc hc) (ev_bind (idx_lt hi) (ev_call (l03Ok_ret m hm) (ev_b (fun h1 => ev_b (fun h2 => ev_bind (idx_lt hks) (ev_b (fun h3 => ?_) fun h3 => ev_some ?_)) fun h2 => ev_some ?_) fun h1 => ev_some ?_)))
  · have e : (fIdx x.1 k)[i] = ((((fIdx x.1 k)[i]).toNat : Nat) : Int) := by omega
    refine ev_bind ((congrArg (idx? x.2.2.1) e).trans (idx_lt hfs)) (ev_some ?_)
    have : (m.2.2.1 == x.2.2.1[((fIdx x.1 k)[i]).toNat]) = pb (Bt m x.2.1 x.2.2.1[((fIdx x.1 k)[i]).toNat] x.2.2.1[k]) := eq_pb (by
      rw [beq_iff_eq]; exact ⟨fun h => ⟨pb_iff.1 h1,by simpa using h2,by simpa using h3,h⟩,fun h => h.2.2.2⟩)
    simp only [this]
  · rw [pb_false fun h => by have := h.2.2.1; simp [this] at h3]
  · rw [pb_false fun h => by have := h.2.1; simp [this] at h2]
  · rw [pb_false fun h => pb_not.1 h1 h.1]

theorem l09Ok_ret (x : Shf) (hx : Sm (.st cS) x) : Ret E n_spec_l09Ok [dS x] ⟨o_spec_l09Ok,(pb (VS x.1 x.2.1 x.2.2.1 x.2.2.2.1),())⟩ := by
  have hc : Sm yK x.1 := hx.1
  have hm : Sm (.sl (.st cM)) x.2.2.2.1 := hx.2.2.2.1
  have hst : x.2.2.1.length ≤ 1048576 := hx.2.2.1.1
  refine ret_of ?_
  simp only [run_spec_l09Ok,spec_l09Ok.ev]
  have no : ¬ VS x.1 x.2.1 x.2.2.1 x.2.2.2.1 → Ev fun φ => spec_l09Ok.j0 (mkR (run E (φ 0))) (φ 0) x true = some ⟨o_spec_l09Ok,(pb (VS x.1 x.2.1 x.2.2.1 x.2.2.2.1),())⟩ := fun h => by
    simp only [spec_l09Ok.j0_eq _ mk_ok,cond_true]
    rw [pb_false h]; (first | exact ev_rfl | exact Ev.of fun _ => trivial)
  refine ev_call (l05Ok_ret (x.1,()) hc) (ev_b (fun h => no fun hv => pb_not.1 (show pb (VC x.1) = false by simpa using h) hv.1) fun h => ?_)
  have hv : VC x.1 := pb_iff.1 (show pb (VC x.1) = true by simpa using h)
  refine ev_call (specValidPrime_ret _) (ev_b (fun h => no fun hv => pb_not.1 (show pb (Pr x.2.1) = false by simpa using h) hv.2.1) fun h => ?_)
  have hp : Pr x.2.1 := pb_iff.1 (by simpa using h)
  refine ev_call (l09Stalks_ret x.1 x.2.2.1 hc hst) (ev_b (fun h => no fun hv => pb_not.1 (show pb (SK x.1 x.2.2.1) = false by simpa using h) hv.2.2.1) fun h => ?_)
  have hk : SK x.1 x.2.2.1 := pb_iff.1 (by simpa using h)
  refine ev_call (l09Count_ret x.1 hv) ?_
  by_cases hl : plc x.1 x.1.length = x.2.2.2.1.length
  · have h48 := hv.1
    simp only [show ((x.2.2.2.1.length : Int) != ((plc x.1 x.1.length : Nat) : Int)) = false by simp [hl],spec_l09Ok.j0_eq _ mk_ok,cond_false]
    refine Ev.start (p := fun φ n => spec_l09Ok.l1 (mkR (run E (φ 0))) (φ 0) n x 0 = _) 1 ?_ (fun _ _ _ h => h)
    let P : Nat → Prop := fun k => ∀ i,i < (fIdx x.1 k).length → QB x.2.1 x.2.2.1 x.2.2.2.1 (plc x.1 k + i) k ((fIdx x.1 k).getD i 0)
    have inner : ∀ (k : Nat) (h2 : k < x.1.length) (r : Option Dv),(P k → Ev fun φ => spec_l09Ok.l1 (mkR (run E (φ 0))) (φ 0) (φ 1) x ((k + 1 : Nat) : Int) = r) → (¬ P k → r = some ⟨o_spec_l09Ok,(false,())⟩) → Ev fun φ => spec_l09Ok.l2 (mkR (run E (φ 0))) (φ 0) (φ 1) (φ 0) x (k : Int) 0 = r := fun k h2 r hgo hstop => by
      have h4 := hv.len4 h2
      have hfl := fIdx_length (c := x.1) (k := k)
      rw [getD_lt h2] at h4 hfl
      refine Ev.start (p := fun φ n => spec_l09Ok.l2 (mkR (run E (φ 0))) (φ 0) (φ 1) n x (k : Int) 0 = _) 2 ?_ (fun _ _ _ h => h)
      by_cases hlen : 1 < (x.1[k]).length
      · rw [if_pos hlen] at hfl
        have mapAt : ∀ i (hi : i < (fIdx x.1 k).length),∃ ht : plc x.1 k + i < x.2.2.2.1.length,∀ R,(Ev fun φ => (bif (!pb (Bt x.2.2.2.1[plc x.1 k + i] x.2.1 (x.2.2.1.getD ((fIdx x.1 k).getD i 0).toNat 0) (x.2.2.1.getD k 0))) then some ⟨o_spec_l09Ok,(false,())⟩ else spec_l09Ok.l2 (mkR (run E (φ 0))) (φ 0) (φ 1) (φ 2) x (k : Int) (w64 ((i : Int) + 1))) = R) → Ev fun φ => spec_l09Ok.j3 (mkR (run E (φ 0))) (φ 0) (φ 1) (φ 2) x (k : Int) (i : Int) true = R := fun i hi => by
          have hg := arrs_get h2 hi
          have hlt := (List.getElem?_eq_some_iff.1 hg).1
          have ht : plc x.1 k + i < x.2.2.2.1.length := by rw [← hl]; exact hlt
          refine ⟨ht,fun R hR => ?_⟩
          simp only [spec_l09Ok.j3_eq _ mk_ok,cond_true]
          refine ev_call (l09Place_ret x.1 k i (by omega) (by omega) hv) (ev_bind (idx_lt ht) (ev_call (l09Map_ret x k i _ hv hk h2 hi hc (sm_mat hm ht)) hR))
        obtain ⟨t,f⟩ := all_loop 2 (L := fun φ n i => spec_l09Ok.l2 (mkR (run E (φ 0))) (φ 0) (φ 1) n x (k : Int) i) (len := (x.1[k]).length) 0 (by omega) (fun i => QB x.2.1 x.2.2.1 x.2.2.2.1 (plc x.1 k + i) k ((fIdx x.1 k).getD i 0)) (rt := r) (rf := some ⟨o_spec_l09Ok,(false,())⟩) (fun _ _ _ _ => rfl) (fun i _ hi hP _ => by
          obtain ⟨ht,hm'⟩ := mapAt i (by omega)
          simp only [spec_l09Ok.l2_succ _ mk_ok]
          refine ev_bind (idx_lt h2) (ev_t (decide_eq_true (by omega)) (ev_bind (idx_lt h2) ?_))
          simp only [show decide (((x.1[k]).length : Int) > 1) = true from decide_eq_true (by omega)]
          refine hm' _ (ev_t ?_ ev_rfl)
          rw [pb_false]; · rfl
          intro hb; refine hP ?_
          show Bt _ _ _ _
          rw [getD_lt ht]; exact hb) (fun i q _ hi hP _ ih => by
          obtain ⟨ht,hm'⟩ := mapAt i (by omega)
          simp only [spec_l09Ok.l2_succ _ mk_ok]
          refine ev_bind (idx_lt h2) (ev_t (decide_eq_true (by omega)) (ev_bind (idx_lt h2) ?_))
          simp only [show decide (((x.1[k]).length : Int) > 1) = true from decide_eq_true (by omega)]
          refine hm' _ (ev_f ?_ ?_)
          · have hP : Bt (x.2.2.2.1.getD (plc x.1 k + i) mz) _ _ _ := hP
            rw [getD_lt ht] at hP
            rw [pb_true hP]; rfl
          · rw [w64_succ (by omega)]; exact ih) (fun hall => by
          simp only [spec_l09Ok.l2_succ _ mk_ok]
          refine ev_bind (idx_lt h2) (ev_f (decide_eq_false (by omega)) ?_)
          simp only [spec_l09Ok.j3_eq _ mk_ok,cond_false]
          rw [w64_succ (by omega)]
          exact hgo fun i hi => hall i (by omega) (by omega))
        by_cases hall : ∀ i,0 ≤ i → i < (x.1[k]).length → QB x.2.1 x.2.2.1 x.2.2.2.1 (plc x.1 k + i) k ((fIdx x.1 k).getD i 0)
        · exact t hall
        · rw [hstop fun hf => hall fun i _ hi => hf i (by omega)]
          exact f hall
      · rw [if_neg hlen] at hfl
        refine Ev.round 2 (L := fun φ n => spec_l09Ok.l2 (mkR (run E (φ 0))) (φ 0) (φ 1) n x (k : Int) 0) ?_ (fun _ _ _ => rfl)
        have hgo := hgo fun i hi => by omega
        have hj : Ev fun φ => spec_l09Ok.j3 (mkR (run E (φ 0))) (φ 0) (φ 1) (φ 2) x (k : Int) 0 false = r := by
          simp only [spec_l09Ok.j3_eq _ mk_ok,cond_false]
          rw [w64_succ (by omega)]; exact hgo
        simp only [spec_l09Ok.l2_succ _ mk_ok]
        refine ev_bind (idx_lt h2) (ev_d (fun _ => ev_bind (idx_lt h2) ?_) fun _ => hj)
        simp only [show decide (((x.1[k]).length : Int) > 1) = false from decide_eq_false (by omega)]
        exact hj
    refine (all_pb 1 (L := fun φ n k => spec_l09Ok.l1 (mkR (run E (φ 0))) (φ 0) n x k) (len := x.1.length) 0 (by omega) P (fun b => some ⟨o_spec_l09Ok,(b,())⟩) (fun _ _ _ _ => rfl) (fun k h1 h2 hP hpre => ?_) (fun k r h1 h2 hP hpre ih => ?_) (fun _ => ?_)).to ?_
    · simp only [spec_l09Ok.l1_succ _ mk_ok]
      exact ev_t (decide_eq_true (by omega)) (inner k h2 _ (fun h => absurd h hP) fun _ => rfl)
    · simp only [spec_l09Ok.l1_succ _ mk_ok]
      exact ev_t (decide_eq_true (by omega)) (inner k h2 _ (fun _ => ih) fun h => absurd hP h)
    · simp only [spec_l09Ok.l1_succ _ mk_ok]
      exact ev_f (decide_eq_false (by omega)) ev_rfl
    · exact congrArg (fun b : Bool => some (⟨o_spec_l09Ok,(b,())⟩ : Dv)) (pb_congr ⟨fun h => ⟨hv,hp,hk,hl,fun k hk' => h k (by omega) hk'⟩,fun h k _ hk' => h.2.2.2.2 k hk'⟩)
  · simp only [show ((x.2.2.2.1.length : Int) != ((plc x.1 x.1.length : Nat) : Int)) = true by simp; omega]
    exact no fun h => hl h.2.2.2.1

end VeT

open Go Go.Proofs Ve
set_option linter.unusedVariables false
set_option linter.unusedSimpArgs false
namespace VeT

theorem implValid_ret (x : Shf) (hx : Sm (.st cS) x) : Ret E n_impl_ValidSheaf [dLL x.1,dI x.2.1,dL x.2.2.1,dMs x.2.2.2.1] ⟨o_impl_ValidSheaf,(pb (VS x.1 x.2.1 x.2.2.1 x.2.2.2.1),())⟩ :=
  implValidSheaf_ret x.1 x.2.1 x.2.2.1 x.2.2.2.1 hx.1 hx.2.2.1.1 hx.2.2.2.1

end VeT

open Go Go.Proofs Ve
set_option linter.unusedVariables false
set_option linter.unusedSimpArgs false
namespace VeT

/-! the program's matrices -/
theorem Mat_at_ret (p r : Int) (C : Nat) (cells : Sim) (i j : Nat) (h : i * C + j < cells.length) (hl : cells.length ≤ 1048576) : Ret E n_impl_Matrix_at [dI p,dI r,dI (C : Int),dL cells,dI (i : Int),dI (j : Int)] ⟨o_impl_Matrix_at,(cells[i * C + j],())⟩ := by
  refine ret_of ?_
  simp only [run_impl_Matrix_at,impl_Matrix_at.ev]
  rw [cast_mul,w64_small (n := ((i * C : Nat) : Int)) (by omega) (by omega),w64_small (by omega) (by omega),show ((i * C : Nat) : Int) + (j : Int) = ((i * C + j : Nat) : Int) by omega]
  exact ev_bind (idx_lt h) ev_rfl

theorem Mat_row_ret (p r : Int) (C : Nat) (cells : Sim) (i : Nat) (h : (i + 1) * C ≤ cells.length) (hi : i ≤ 1048576) (hl : cells.length ≤ 1048576) : Ret E n_impl_Matrix_row [dI p,dI r,dI (C : Int),dL cells,dI (i : Int)] ⟨o_impl_Matrix_row,((cells.take ((i + 1) * C)).drop (i * C),())⟩ := by
  refine ret_of ?_
  simp only [run_impl_Matrix_row,impl_Matrix_row.ev]
  have h1 : i * C ≤ (i + 1) * C := Nat.mul_le_mul_right _ (by omega)
  have e1 : w64 ((i : Int) * (C : Int)) = ((i * C : Nat) : Int) := by rw [cast_mul]; exact w64_small (by omega) (by omega)
  have e2 : w64 ((i : Int) + 1) = ((i + 1 : Nat) : Int) := w64_succ (by omega)
  have e3 : w64 (((i + 1 : Nat) : Int) * (C : Int)) = (((i + 1) * C : Nat) : Int) := by rw [cast_mul]; exact w64_small (by omega) (by omega)
  simp only [e1,e2,e3,Int.toNat_natCast]
  exact ev_chk (by simp only [Bool.and_eq_true,decide_eq_true_eq]; omega) ev_rfl

theorem Clone_ret (s : Sim) (hs : s.length ≤ 1048576) : Ret E n_slices_Clone_Sint64_int64 [dL s] ⟨o_slices_Clone_Sint64_int64,(s,())⟩ := by
  refine ret_of ?_
  simp only [run_slices_Clone_Sint64_int64,slices_Clone_Sint64_int64.ev,slices_Clone_Sint64_int64.j0_eq _ mk_ok,cond_true,cond_false]
  have h : Ev fun φ => (Option.bind (chk (decide ((List.length ([] : List Int) + List.length s) * 8 ≤ 70368744177664))) fun _ => some (⟨o_slices_Clone_Sint64_int64,((([] : List Int) ++ s),())⟩ : Dv)) = some ⟨o_slices_Clone_Sint64_int64,(s,())⟩ :=
    ev_chk (by simp; omega) (ev_some rfl)
  cases s with
  | nil => exact ev_t rfl (ev_both ev_rfl h)
  | cons a s => exact ev_f rfl h

theorem transpose_1_ret (m : Mat) (C : Nat) (i j : Nat) (hC : m.2.2.1 = (C : Int)) (h : j * C + i < m.2.2.2.1.length) (hl : m.2.2.2.1.length ≤ 1048576) : Ret E n_impl_transpose_1 [dI (i : Int),dI (j : Int),dM m] ⟨o_impl_transpose_1,(m.2.2.2.1.getD (j * C + i) 0,())⟩ := by
  rw [getD_lt h]
  refine ret_of ?_
  simp only [run_impl_transpose_1,impl_transpose_1.ev]
  rw [hC]
  exact ev_call (Mat_at_ret _ _ C _ j i h hl) ev_rfl

theorem dot_ret (a b : Sim) (p : Int) (hp : 2 ≤ p ∧ p ≤ 251) (ha : a.length ≤ 32) (hb : a.length ≤ b.length) (ea : ∀ x ∈ a,0 ≤ x ∧ x ≤ 250) (eb : ∀ x ∈ b,0 ≤ x ∧ x ≤ 250) :
    Ret E n_impl_dot [dL a,dL b,dI p] ⟨o_impl_dot,(dotN (fun l => a.getD l 0) (fun l => b.getD l 0) a.length % p,())⟩ := by
  refine ret_of ?_
  simp only [run_impl_dot,impl_dot.ev]
  refine Ev.start (p := fun φ n => impl_dot.l0 (mkR (run E (φ 0))) (φ 0) n a b p 0 (a.length : Int) 0 = _) 1 ?_ (fun _ _ _ h => h)
  have := fold_loop 1 (L := fun φ n k s => impl_dot.l0 (mkR (run E (φ 0))) (φ 0) n a b p s (a.length : Int) k) (len := a.length) (fun k => dotN (fun l => a.getD l 0) (fun l => b.getD l 0) k % p) (r := some ⟨o_impl_dot,(dotN (fun l => a.getD l 0) (fun l => b.getD l 0) a.length % p,())⟩) (fun _ _ _ _ _ => rfl) (fun k r hk ih => ?_) ?_
  · simpa [dotN] using this
  · simp only [impl_dot.l0_succ _ mk_ok]
    have hkb : k < b.length := by omega
    have hm := mul_in (ea _ (List.getElem_mem hk)) (eb _ (List.getElem_mem hkb))
    have h0 := Int.emod_nonneg (dotN (fun l => a.getD l 0) (fun l => b.getD l 0) k) (show p ≠ 0 by omega)
    have h1 := Int.emod_lt_of_pos (dotN (fun l => a.getD l 0) (fun l => b.getD l 0) k) (show 0 < p by omega)
    refine ev_t (decide_eq_true (by omega)) (ev_bind (idx_lt hk) (ev_bind (idx_lt hkb) (ev_chk (by simp; omega) ?_)))
    rw [w64_small (n := a[k] * b[k]) (by omega) (by omega),w64_small (by omega) (by omega),Int.tmod_eq_emod_of_nonneg (by omega),Int.emod_add_emod,w64_succ (by omega)]
    simp only [dotN] at ih
    rw [getD_lt hk,getD_lt hkb] at ih
    exact ih
  · simp only [impl_dot.l0_succ _ mk_ok]
    exact ev_f (decide_eq_false (by omega)) ev_rfl

theorem rowsOf_ret (p : Int) (R C : Nat) (cells : Sim) (hl : cells.length = R * C) (hR : R ≤ 32) (hC : C ≤ 32) : Ret E n_impl_rowsOf [dI p,dI (R : Int),dI (C : Int),dL cells] ⟨o_impl_rowsOf,((List.range R).map fun i => (cells.take ((i + 1) * C)).drop (i * C),())⟩ := by
  have h1024 := rc_le hR hC
  refine ret_of ?_
  simp only [run_impl_rowsOf,impl_rowsOf.ev]
  refine Ev.start (p := fun φ n => impl_rowsOf.l0 (mkR (run E (φ 0))) (φ 0) n (R : Int) 0 p (R : Int) (C : Int) cells [] = _) 1 ?_ (fun _ _ _ h => h)
  refine fold_loop 1 (L := fun φ n k a => impl_rowsOf.l0 (mkR (run E (φ 0))) (φ 0) n (R : Int) k p (R : Int) (C : Int) cells a) (len := R) (fun k => (List.range k).map fun i => (cells.take ((i + 1) * C)).drop (i * C)) (fun _ _ _ _ _ => rfl) (fun k r hk ih => ?_) ?_
  · simp only [impl_rowsOf.l0_succ _ mk_ok]
    have hle : (k + 1) * C ≤ R * C := Nat.mul_le_mul_right _ hk
    rw [List.range_succ,List.map_append] at ih
    refine ev_t (decide_eq_true (by omega)) (ev_call (Mat_row_ret p _ C cells k (by omega) (by omega) (by omega)) (ev_call (Clone_ret _ (by simp; omega)) (ev_chk (by simp; omega) ?_)))
    rw [w64_succ (by omega)]; exact ih
  · simp only [impl_rowsOf.l0_succ _ mk_ok]
    exact ev_f (decide_eq_false (by omega)) ev_rfl

end VeT

open Go Go.Proofs Ve
set_option linter.unusedVariables false
set_option linter.unusedSimpArgs false
namespace VeT

theorem Elems.get {v : Sim} {p : Int} (h : Elems v p) (hp : 2 ≤ p ∧ p ≤ 251) (i : Nat) : 0 ≤ v.getD i 0 ∧ v.getD i 0 ≤ 250 := by
  by_cases hi : i < v.length
  · rw [getD_lt hi]
    have := h _ (List.getElem_mem hi)
    omega
  · rw [List.getD_eq_getElem?_getD,List.getElem?_eq_none (by omega)]; simp

theorem Elems.mem {v : Sim} {p : Int} (h : Elems v p) (hp : 2 ≤ p ∧ p ≤ 251) : ∀ x ∈ v,0 ≤ x ∧ x ≤ 250 := fun x hx => by
  have := h x hx; omega

/-- an entry of a product -/
def mulE (p : Int) (ca cb : Sim) (K C i j : Nat) : Int := dotN (fun l => ca.getD (i * K + l) 0) (fun l => cb.getD (l * C + j) 0) K % p

/-- a product -/
def mulM (a b : Mat) : Mat := (a.1,a.2.1,b.2.2.1,flatF (mulE a.1 a.2.2.2.1 b.2.2.2.1 a.2.2.1.toNat b.2.2.1.toNat) b.2.2.1.toNat a.2.1.toNat,())

def colsL (K C : Nat) (cb : Sim) : List Sim := (List.range C).map fun i => (List.range K).map fun j => cb.getD (j * C + i) 0

theorem transpose_ret (q : Int) (K C : Nat) (cb : Sim) (hl : cb.length = K * C) (hK : K ≤ 32) (hC : C ≤ 32) : Ret E n_impl_transpose [dI q,dI (K : Int),dI (C : Int),dL cb] ⟨o_impl_transpose,(q,(C : Int),(K : Int),flatF (fun i j => cb.getD (j * C + i) 0) K C,())⟩ := by
  have h1 := rc_le hK hC
  have h2 := rc_le hC hK
  refine ret_of ?_
  simp only [run_impl_transpose,impl_transpose.ev]
  refine ev_call (filled_impl_transpose_1_ret q C K ((q,(K : Int),(C : Int),cb,()),()) (fun i j => cb.getD (j * C + i) 0) (by omega) (by omega) (by omega) fun i j hi hj => ?_) ev_rfl
  exact transpose_1_ret (q,(K : Int),(C : Int),cb,()) C i j rfl (by show _ < cb.length; rw [hl]; exact lt_rc hj hi) (by show cb.length ≤ _; omega)

theorem columnsOf_ret (q : Int) (K C : Nat) (cb : Sim) (hl : cb.length = K * C) (hK : K ≤ 32) (hC : C ≤ 32) : Ret E n_impl_columnsOf [dI q,dI (K : Int),dI (C : Int),dL cb] ⟨o_impl_columnsOf,(colsL K C cb,())⟩ := by
  refine ret_of ?_
  simp only [run_impl_columnsOf,impl_columnsOf.ev]
  refine ev_call (transpose_ret q K C cb hl hK hC) (ev_call (rowsOf_ret q C K _ flatF_length hC hK) (ev_some ?_))
  have : ((List.range C).map fun i => ((flatF (fun i j => cb.getD (j * C + i) 0) K C).take ((i + 1) * K)).drop (i * K)) = colsL K C cb :=
    List.map_congr_left fun i hi => flatF_row (List.mem_range.1 hi)
  rw [this]

theorem colsL_mem {K C : Nat} {cb : Sim} {q : Int} (hb : Elems cb q) (hq : 2 ≤ q ∧ q ≤ 251) {j : Nat} (hj : j < (colsL K C cb).length) : ∀ x ∈ (colsL K C cb)[j],0 ≤ x ∧ x ≤ 250 := by
  intro x hx
  have hm := List.getElem_mem hj
  generalize (colsL K C cb)[j] = y at hm hx
  unfold colsL at hm
  rw [List.mem_map] at hm
  obtain ⟨i,_,rfl⟩ := hm
  rw [List.mem_map] at hx
  obtain ⟨l,_,rfl⟩ := hx
  exact hb.get hq _

theorem product_1_ret (p : Int) (R K C : Nat) (ca cb : Sim) (i j : Nat) (hi : i < R) (hj : j < C) (hp : 2 ≤ p ∧ p ≤ 251) (hla : ca.length = R * K) (hR : R ≤ 32) (hK : K ≤ 32) (ea : Elems ca p) {q : Int} (hq : 2 ≤ q ∧ q ≤ 251) (eb : Elems cb q) :
    Ret E n_impl_product_1 [dI (i : Int),dI (j : Int),dM (p,(R : Int),(K : Int),ca,()),⟨.ptr (.cons yK .nil),(colsL K C cb,())⟩] ⟨o_impl_product_1,(mulE p ca cb K C i j,())⟩ := by
  have h1 := rc_le hR hK
  have hle : (i + 1) * K ≤ R * K := Nat.mul_le_mul_right _ hi
  have hjl : j < (colsL K C cb).length := by simp [colsL,hj]
  have hcl : ((colsL K C cb)[j]).length = K := by simp [colsL]
  have hrl : ((ca.take ((i + 1) * K)).drop (i * K)).length = K := by
    rw [List.length_drop,List.length_take,Nat.min_eq_left (by omega),Nat.add_mul]; omega
  refine ret_of ?_
  simp only [run_impl_product_1,impl_product_1.ev]
  refine ev_bind (idx_lt hjl) (ev_call (Mat_row_ret p _ K ca i (by omega) (by omega) (by omega)) (ev_call (dot_ret ((ca.take ((i + 1) * K)).drop (i * K)) ((colsL K C cb)[j]) p hp (by omega) (by omega) (fun x hx => ea.mem hp x (List.mem_of_mem_take (List.mem_of_mem_drop hx))) (colsL_mem eb hq hjl)) (ev_some ?_)))
  rw [hrl]
  have : dotN (fun l => ((ca.take ((i + 1) * K)).drop (i * K)).getD l 0) (fun l => ((colsL K C cb)[j]).getD l 0) K = dotN (fun l => ca.getD (i * K + l) 0) (fun l => cb.getD (l * C + j) 0) K := dotN_congr fun l hl => ⟨by
    rw [List.getD_eq_getElem?_getD,List.getD_eq_getElem?_getD,List.getElem?_drop,List.getElem?_take_of_lt (by rw [Nat.add_mul]; omega)],by
    simp [colsL,List.getD_eq_getElem?_getD,hl]⟩
  rw [this]; rfl

theorem VM.nat {m : Mat} (h : VM m) : ∃ R K : Nat,m = (m.1,(R : Int),(K : Int),m.2.2.2.1,()) ∧ R ≤ 32 ∧ K ≤ 32 ∧ m.2.2.2.1.length = R * K := by
  obtain ⟨p,r,k,c,⟨⟩⟩ := m
  obtain ⟨_,h2,h3,h4,_⟩ := h
  simp only at h2 h3 h4
  obtain ⟨R,rfl⟩ := Int.eq_ofNat_of_zero_le h2.1
  obtain ⟨K,rfl⟩ := Int.eq_ofNat_of_zero_le h3.1
  refine ⟨R,K,rfl,by omega,by omega,?_⟩
  rw [cast_mul] at h4; simp only; omega

theorem product_ret (a b : Mat) (ha : VM a) (hb : VM b) (hab : a.2.2.1 = b.2.1) : Ret E n_impl_product [dI a.1,dI a.2.1,dI a.2.2.1,dL a.2.2.2.1,dI b.1,dI b.2.1,dI b.2.2.1,dL b.2.2.2.1] ⟨o_impl_product,mulM a b⟩ := by
  obtain ⟨R,K,ea,hR,hK,hla⟩ := ha.nat
  obtain ⟨K',C,eb,hK',hC,hlb⟩ := hb.nat
  have pa : 2 ≤ a.1 ∧ a.1 ≤ 251 := ⟨ha.1.1,ha.1.2.1⟩
  have pb' : 2 ≤ b.1 ∧ b.1 ≤ 251 := ⟨hb.1.1,hb.1.2.1⟩
  have ela := ha.2.2.2.2
  have elb := hb.2.2.2.2
  rw [ea,eb] at hab
  obtain rfl : K = K' := by have hab : (K : Int) = (K' : Int) := hab
                            omega
  rw [ea,eb]
  simp only
  refine ret_of ?_
  simp only [run_impl_product,impl_product.ev]
  have hRC := rc_le hR hC
  refine ev_call (columnsOf_ret _ K C _ hlb hK hC) (ev_call (filled_impl_product_1_ret a.1 R C ((a.1,(R : Int),(K : Int),a.2.2.2.1,()),(colsL K C b.2.2.2.1,()),()) (mulE a.1 a.2.2.2.1 b.2.2.2.1 K C) (by omega) (by omega) (by omega) fun i j hi hj => ?_) (ev_some ?_))
  · exact product_1_ret a.1 R K C _ _ i j hi hj pa hla hR hK ela pb' elb
  · simp only [mulM,Int.toNat_natCast]

theorem l03Zero_ret (p : Int) (R C : Nat) (hR : R ≤ 32) (hC : C ≤ 32) : Ret E n_spec_l03Zero [dI p,dI (R : Int),dI (C : Int)] ⟨o_spec_l03Zero,(p,(R : Int),(C : Int),List.replicate (R * C) 0,())⟩ := by
  have h1 := rc_le hR hC
  have e1 : w64 ((R : Int) * (C : Int)) = ((R * C : Nat) : Int) := by rw [cast_mul]; exact w64_small (by omega) (by omega)
  refine ret_of ?_
  simp only [run_spec_l03Zero,spec_l03Zero.ev,e1,Int.toNat_natCast]
  exact ev_chk (by simp only [Bool.and_eq_true,decide_eq_true_eq]; omega) ev_rfl

theorem l03Times_ret (a b : Mat) (ha : VM a) (hb : VM b) (hab : a.2.2.1 = b.2.1) : Ret E n_spec_l03Times [dM a,dM b] ⟨o_spec_l03Times,mulM a b⟩ := by
  obtain ⟨R,K,ea,hR,hK,hla⟩ := ha.nat
  obtain ⟨K',C,eb,hK',hC,hlb⟩ := hb.nat
  have pa : 2 ≤ a.1 ∧ a.1 ≤ 251 := ⟨ha.1.1,ha.1.2.1⟩
  have pb' : 2 ≤ b.1 ∧ b.1 ≤ 251 := ⟨hb.1.1,hb.1.2.1⟩
  have ela := ha.2.2.2.2
  have elb := hb.2.2.2.2
  rw [ea,eb] at hab
  obtain rfl : K = K' := by have hab : (K : Int) = (K' : Int) := hab
                            omega
  obtain ⟨p,r,k,ca,⟨⟩⟩ := a
  obtain ⟨q,k',c,cb,⟨⟩⟩ := b
  simp only [Prod.mk.injEq,true_and,and_true] at ea eb pa pb' ela elb hla hlb
  obtain ⟨rfl,rfl⟩ := ea
  obtain ⟨rfl,rfl⟩ := eb
  have hRC := rc_le hR hC
  have hRK := rc_le hR hK
  have hKC := rc_le hK hC
  have hM : mulM (p,(R : Int),(K : Int),ca,()) (q,(K : Int),(C : Int),cb,()) = (p,(R : Int),(C : Int),flatF (mulE p ca cb K C) C R,()) := by simp [mulM]
  rw [hM]
  refine ret_of ?_
  simp only [run_spec_l03Times,spec_l03Times.ev,spec_l03Times.j0_eq _ mk_ok]
  suffices h : Ev fun φ => spec_l03Times.l1 (mkR (run E (φ 0))) (φ 0) (φ 0) (p,(R : Int),(K : Int),ca,()) (q,(K : Int),(C : Int),cb,()) 0 0 0 0 p (R : Int) (C : Int) (List.replicate (R * C) 0) = some ⟨o_spec_l03Times,(p,(R : Int),(C : Int),flatF (mulE p ca cb K C) C R,())⟩ by
    exact ev_both (ev_call (l03Zero_ret p R C hR hC) h) (ev_call (l03Zero_ret p R C hR hC) h)
  refine Ev.start (p := fun φ n => spec_l03Times.l1 (mkR (run E (φ 0))) (φ 0) n (p,(R : Int),(K : Int),ca,()) (q,(K : Int),(C : Int),cb,()) 0 0 0 0 p (R : Int) (C : Int) (List.replicate (R * C) 0) = _) 1 ?_ (fun _ _ _ h => h)
  have := fold_loop 1 (L := fun φ n i o => spec_l03Times.l1 (mkR (run E (φ 0))) (φ 0) n (p,(R : Int),(K : Int),ca,()) (q,(K : Int),(C : Int),cb,()) i 0 0 0 p (R : Int) (C : Int) o) (len := R) (fun i => flatF (mulE p ca cb K C) C i ++ List.replicate ((R - i) * C) 0) (r := some ⟨o_spec_l03Times,(p,(R : Int),(C : Int),flatF (mulE p ca cb K C) C R,())⟩) (fun _ _ _ _ _ => rfl) (fun i r hi ih => ?_) ?_
  · simpa [flatF] using this
  · simp only [spec_l03Times.l1_succ _ mk_ok]
    refine ev_t (decide_eq_true (by omega)) ?_
    refine Ev.start (p := fun φ n => spec_l03Times.l2 (mkR (run E (φ 0))) (φ 0) (φ 1) n (p,(R : Int),(K : Int),ca,()) (q,(K : Int),(C : Int),cb,()) (i : Int) 0 0 0 0 p (R : Int) (C : Int) (flatF (mulE p ca cb K C) C i ++ List.replicate ((R - i) * C) 0) = _) 2 ?_ (fun _ _ _ h => h)
    have hRi : (R - i) * C = (R - (i + 1)) * C + C := by
      rw [show R - i = (R - (i + 1)) + 1 by omega,Nat.add_mul]; omega
    have hiC : (i + 1) * C ≤ R * C := Nat.mul_le_mul_right _ hi
    have hiK : (i + 1) * K ≤ R * K := Nat.mul_le_mul_right _ hi
    rw [Nat.add_mul] at hiC hiK
    have := fold_loop 2 (L := fun φ n j o => spec_l03Times.l2 (mkR (run E (φ 0))) (φ 0) (φ 1) n (p,(R : Int),(K : Int),ca,()) (q,(K : Int),(C : Int),cb,()) (i : Int) j 0 0 0 p (R : Int) (C : Int) o) (len := C) (fun j => (flatF (mulE p ca cb K C) C i ++ (List.range j).map (mulE p ca cb K C i)) ++ List.replicate ((R - i) * C - j) 0) (r := r) (fun _ _ _ _ _ => rfl) (fun j r hj ih => ?_) ?_
    · simpa using this
    · simp only [spec_l03Times.l2_succ _ mk_ok]
      refine ev_t (decide_eq_true (by omega)) ?_
      have hpl : (flatF (mulE p ca cb K C) C i ++ (List.range j).map (mulE p ca cb K C i)).length = i * C + j := by simp [flatF_length]
      have hsp : (R - i) * C - j = ((R - i) * C - (j + 1)) + 1 := by omega
      generalize hO : (flatF (mulE p ca cb K C) C i ++ (List.range j).map (mulE p ca cb K C i)) ++ List.replicate ((R - i) * C - j) 0 = O
      have hOl : O.length = R * C := by
        rw [← hO,List.length_append,hpl,List.length_replicate,hRi]
        have : R * C = (R - (i + 1)) * C + (i * C + C) := by
          have e : R = (R - (i + 1)) + (i + 1) := by omega
          have := congrArg (· * C) e
          simp only [Nat.add_mul,Nat.one_mul] at this ⊢; omega
        omega
      refine Ev.start (p := fun φ n => spec_l03Times.l3 (mkR (run E (φ 0))) (φ 0) (φ 1) (φ 2) n (p,(R : Int),(K : Int),ca,()) (q,(K : Int),(C : Int),cb,()) (i : Int) (j : Int) 0 0 0 0 0 p (R : Int) (C : Int) O = _) 3 ?_ (fun _ _ _ h => h)
      refine fold_loop 3 (L := fun φ n l s => spec_l03Times.l3 (mkR (run E (φ 0))) (φ 0) (φ 1) (φ 2) n (p,(R : Int),(K : Int),ca,()) (q,(K : Int),(C : Int),cb,()) (i : Int) (j : Int) s l 0 0 0 p (R : Int) (C : Int) O) (len := K) (fun l => dotN (fun l => ca.getD (i * K + l) 0) (fun l => cb.getD (l * C + j) 0) l) (fun _ _ _ _ _ => rfl) (fun l r hl ih => ?_) ?_
      · simp only [spec_l03Times.l3_succ _ mk_ok]
        have b1 := dotN_le (f := fun l => ca.getD (i * K + l) 0) (g := fun l => cb.getD (l * C + j) 0) (n := l) fun l _ => ⟨ela.get pa _,elb.get pb' _⟩
        have b2 := mul_in (ela.get pa (i * K + l)) (elb.get pb' (l * C + j))
        have hlC : (l + 1) * C ≤ K * C := Nat.mul_le_mul_right _ hl
        rw [Nat.add_mul] at hlC
        have e1 : w64 (w64 ((i : Int) * (K : Int)) + (l : Int)) = ((i * K + l : Nat) : Int) := by
          rw [cast_mul,w64_small (n := ((i * K : Nat) : Int)) (by omega) (by omega),w64_small (by omega) (by omega)]; omega
        have e2 : w64 (w64 ((l : Int) * (C : Int)) + (j : Int)) = ((l * C + j : Nat) : Int) := by
          rw [cast_mul,w64_small (n := ((l * C : Nat) : Int)) (by omega) (by omega),w64_small (by omega) (by omega)]; omega
        simp only [e1,e2]
        have i1 : i * K + l < ca.length := by omega
        have i2 : l * C + j < cb.length := by omega
        refine ev_t (decide_eq_true (by omega)) (ev_bind (idx_lt i1) (ev_bind (idx_lt i2) ?_))
        simp only [dotN] at ih
        rw [getD_lt i1,getD_lt i2] at ih b2
        rw [w64_small (n := ca[i * K + l] * cb[l * C + j]) (by omega) (by omega),w64_small (by omega) (by omega),w64_succ (by omega)]
        exact ih
      · simp only [spec_l03Times.l3_succ _ mk_ok]
        have b1 := dotN_le (f := fun l => ca.getD (i * K + l) 0) (g := fun l => cb.getD (l * C + j) 0) (n := K) fun l _ => ⟨ela.get pa _,elb.get pb' _⟩
        have e1 : w64 (w64 ((i : Int) * (C : Int)) + (j : Int)) = ((i * C + j : Nat) : Int) := by
          rw [cast_mul,w64_small (n := ((i * C : Nat) : Int)) (by omega) (by omega),w64_small (by omega) (by omega)]; omega
        simp only [e1,Int.toNat_natCast]
        refine ev_f (decide_eq_false (by omega)) (ev_chk (by simp; omega) (ev_chk (by simp only [Bool.and_eq_true,decide_eq_true_eq]; omega) ?_))
        rw [Int.tmod_eq_emod_of_nonneg (by omega),w64_succ (by omega),← hO,hsp,← hpl,set_mid]
        rw [List.range_succ,List.map_append,← List.append_assoc] at ih
        exact ih
    · simp only [spec_l03Times.l2_succ _ mk_ok]
      refine ev_f (decide_eq_false (by omega)) ?_
      rw [w64_succ (by omega),hRi,Nat.add_sub_cancel]
      exact ih
  · simp only [spec_l03Times.l1_succ _ mk_ok]
    refine ev_f (decide_eq_false (by omega)) (ev_some ?_)
    simp

end VeT

open Go Go.Proofs Ve
set_option linter.unusedVariables false
set_option linter.unusedSimpArgs false
namespace VeT

theorem EqualP_ret (a b : Sim) (ha : a.length ≤ 1048576) : Ret E n_slices_Equal_Sint64_int64 [dL a,dL b] ⟨o_slices_Equal_Sint64_int64,(pb (a = b),())⟩ := by
  refine ret_of ?_
  simp only [run_slices_Equal_Sint64_int64,slices_Equal_Sint64_int64.ev]
  refine ev_b (fun h => ev_some ?_) fun h => ?_
  · have h : (a.length : Int) ≠ b.length := by simpa using h
    rw [pb_false fun e => h (by rw [e])]
  · have h : (a.length : Int) = b.length := by simpa using h
    refine Ev.start (p := fun φ n => slices_Equal_Sint64_int64.l0 (mkR (run E (φ 0))) (φ 0) n a b (a.length : Int) 0 = _) 1 ?_ (fun _ _ _ h => h)
    refine (all_pb 1 (L := fun φ n k => slices_Equal_Sint64_int64.l0 (mkR (run E (φ 0))) (φ 0) n a b (a.length : Int) k) (len := a.length) 0 (by omega) (fun j => a.getD j 0 = b.getD j 0) (fun b => some ⟨o_slices_Equal_Sint64_int64,(b,())⟩) (fun _ _ _ _ => rfl) (fun k h1 h2 hP _ => ?_) (fun k r h1 h2 hP _ ih => ?_) (fun _ => ?_)).to ?_
    · simp only [slices_Equal_Sint64_int64.l0_succ _ mk_ok]
      have hb : k < b.length := by omega
      rw [getD_lt h2,getD_lt hb] at hP
      exact ev_t (decide_eq_true (by omega)) (ev_bind (idx_lt h2) (ev_bind (idx_lt hb) (ev_t (by simpa using hP) ev_rfl)))
    · simp only [slices_Equal_Sint64_int64.l0_succ _ mk_ok]
      have hb : k < b.length := by omega
      rw [getD_lt h2,getD_lt hb] at hP
      refine ev_t (decide_eq_true (by omega)) (ev_bind (idx_lt h2) (ev_bind (idx_lt hb) (ev_f (by simpa using hP) ?_)))
      rw [w64_succ (by omega)]; exact ih
    · simp only [slices_Equal_Sint64_int64.l0_succ _ mk_ok]
      exact ev_f (decide_eq_false (by omega)) ev_rfl
    · refine congrArg (fun b : Bool => some (⟨o_slices_Equal_Sint64_int64,(b,())⟩ : Dv)) (pb_congr ⟨fun hh => List.ext_getElem (by omega) fun j h1 h2 => ?_,fun hh j _ _ => by rw [hh]⟩)
      have := hh j (by omega) h1
      rwa [getD_lt h1,getD_lt h2] at this

theorem mat_eq {a b : Mat} : a = b ↔ a.1 = b.1 ∧ a.2.1 = b.2.1 ∧ a.2.2.1 = b.2.2.1 ∧ a.2.2.2.1 = b.2.2.2.1 := by
  obtain ⟨p,r,k,c,⟨⟩⟩ := a
  obtain ⟨p',r',k',c',⟨⟩⟩ := b
  simp only [Prod.mk.injEq,and_true]

theorem SameMatrixP_ret (a b : Mat) (ha : a.2.2.2.1.length ≤ 1048576) : Ret E n_impl_SameMatrix [dI a.1,dI a.2.1,dI a.2.2.1,dL a.2.2.2.1,dI b.1,dI b.2.1,dI b.2.2.1,dL b.2.2.2.1] ⟨o_impl_SameMatrix,(pb (a = b),())⟩ := by
  refine ret_of ?_
  simp only [run_impl_SameMatrix,impl_SameMatrix.ev]
  refine ev_b (fun h1 => ev_b (fun h2 => ev_b (fun h3 => ev_call (EqualP_ret _ _ ha) (ev_some ?_)) fun h3 => ev_some ?_) fun h2 => ev_some ?_) fun h1 => ev_some ?_
  · exact congrArg (fun b : Bool => some (⟨o_impl_SameMatrix,(b,())⟩ : Dv)) (pb_congr ⟨fun h => mat_eq.2 ⟨by simpa using h1,by simpa using h2,by simpa using h3,h⟩,fun h => (mat_eq.1 h).2.2.2⟩)
  · rw [pb_false fun h => by have := (mat_eq.1 h).2.2.1; simp [this] at h3]
  · rw [pb_false fun h => by have := (mat_eq.1 h).2.1; simp [this] at h2]
  · rw [pb_false fun h => by have := (mat_eq.1 h).1; simp [this] at h1]

theorem l03SameP_ret (a b : Mat) (ha : a.2.2.2.1.length ≤ 1048576) : Ret E n_spec_l03Same [dM a,dM b] ⟨o_spec_l03Same,(pb (a = b),())⟩ := by
  refine ret_of ?_
  simp only [run_spec_l03Same,spec_l03Same.ev]
  have no : a ≠ b → Ev fun φ => spec_l03Same.j0 (mkR (run E (φ 0))) (φ 0) a b true = some ⟨o_spec_l03Same,(pb (a = b),())⟩ := fun h => by
    simp only [spec_l03Same.j0_eq _ mk_ok,cond_true]
    rw [pb_false h]; (first | exact ev_rfl | exact Ev.of fun _ => trivial)
  refine ev_b (fun h1 => no fun h => by simp [(mat_eq.1 h).1] at h1) fun h1 => ev_b (fun h2 => no fun h => by simp [(mat_eq.1 h).2.1] at h2) fun h2 => ev_b (fun h3 => no fun h => by simp [(mat_eq.1 h).2.2.1] at h3) fun h3 => ?_
  have h1 : a.1 = b.1 := by simpa using h1
  have h2 : a.2.1 = b.2.1 := by simpa using h2
  have h3 : a.2.2.1 = b.2.2.1 := by simpa using h3
  by_cases hl : a.2.2.2.1.length = b.2.2.2.1.length
  · simp only [show ((a.2.2.2.1.length : Int) != (b.2.2.2.1.length : Int)) = false by simp [hl],spec_l03Same.j0_eq _ mk_ok,cond_false]
    refine Ev.start (p := fun φ n => spec_l03Same.l1 (mkR (run E (φ 0))) (φ 0) n a b 0 = _) 1 ?_ (fun _ _ _ h => h)
    refine (all_pb 1 (L := fun φ n k => spec_l03Same.l1 (mkR (run E (φ 0))) (φ 0) n a b k) (len := a.2.2.2.1.length) 0 (by omega) (fun j => a.2.2.2.1.getD j 0 = b.2.2.2.1.getD j 0) (fun b => some ⟨o_spec_l03Same,(b,())⟩) (fun _ _ _ _ => rfl) (fun k k1 k2 hP _ => ?_) (fun k r k1 k2 hP _ ih => ?_) (fun _ => ?_)).to ?_
    · simp only [spec_l03Same.l1_succ _ mk_ok]
      have hb : k < b.2.2.2.1.length := by omega
      rw [getD_lt k2,getD_lt hb] at hP
      exact ev_t (decide_eq_true (by omega)) (ev_bind (idx_lt k2) (ev_bind (idx_lt hb) (ev_t (by simpa using hP) ev_rfl)))
    · simp only [spec_l03Same.l1_succ _ mk_ok]
      have hb : k < b.2.2.2.1.length := by omega
      rw [getD_lt k2,getD_lt hb] at hP
      refine ev_t (decide_eq_true (by omega)) (ev_bind (idx_lt k2) (ev_bind (idx_lt hb) (ev_f (by simpa using hP) ?_)))
      rw [w64_succ (by omega)]; exact ih
    · simp only [spec_l03Same.l1_succ _ mk_ok]
      exact ev_f (decide_eq_false (by omega)) ev_rfl
    · refine congrArg (fun b : Bool => some (⟨o_spec_l03Same,(b,())⟩ : Dv)) (pb_congr ⟨fun hh => mat_eq.2 ⟨h1,h2,h3,List.ext_getElem hl fun j g1 g2 => ?_⟩,fun hh j _ _ => by rw [hh]⟩)
      have := hh j (by omega) g1
      rwa [getD_lt g1,getD_lt g2] at this
  · simp only [show ((a.2.2.2.1.length : Int) != (b.2.2.2.1.length : Int)) = true by simp; omega]
    exact no fun h => hl (by rw [(mat_eq.1 h).2.2.2])

/-! the maps of a sheaf -/
noncomputable def mp (c : List Sim) (ms : List Mat) (k i : Nat) : Mat := ms.getD (plc c k + i) mz

noncomputable def fc (c : List Sim) (k i : Nat) : Nat := ((fIdx c k).getD i 0).toNat

theorem findI_get {c : List Sim} {s : Sim} (h : s ∈ c) : c.getD (findI c s).toNat [] = s := by
  have h0 := findI_nonneg.2 h
  unfold findI idxf at h0 ⊢
  cases hf : c.findIdx? (fun x => pb (x = s)) with
  | none => rw [hf] at h0; simp [o2i] at h0
  | some k =>
    rw [List.findIdx?_eq_some_iff_getElem] at hf
    obtain ⟨hk,hp,_⟩ := hf
    simp only [o2i,Int.toNat_natCast]
    rw [getD_lt hk]; exact pb_iff.1 hp

theorem fc_get {c : List Sim} (h : VC c) {k i : Nat} (hk : k < c.length) (hi : i < (fIdx c k).length) : idx? (fIdx c k) (i : Int) = some ((fc c k i : Nat) : Int) ∧ fc c k i < c.length ∧ c.getD (fc c k i) [] = (c.getD k []).eraseIdx i := by
  have hm := fIdx_mem h hk (List.getElem_mem hi)
  have hl := fIdx_length (c := c) (k := k)
  have h1 : 1 < (c.getD k []).length := Classical.byContradiction fun hn => by rw [if_neg hn] at hl; omega
  rw [if_pos h1] at hl
  have hfc : (fIdx c k)[i] = findI c ((c.getD k []).eraseIdx i) := by
    have : (fIdx c k)[i]? = some (findI c ((c.getD k []).eraseIdx i)) := by
      unfold fIdx faces
      rw [if_pos h1,List.map_map,List.getElem?_map,List.getElem?_range (by omega)]; rfl
    rw [List.getElem?_eq_getElem hi] at this
    exact Option.some.inj this
  have hin : (c.getD k []).eraseIdx i ∈ c := h.2.2.2 k hk _ (faces_mem.2 ⟨h1,i,by omega,rfl⟩)
  unfold fc
  rw [getD_lt hi]
  refine ⟨?_,by omega,?_⟩
  · rw [idx_lt hi]; congr 1; omega
  · rw [hfc]; exact findI_get hin

theorem VS.map {c : List Sim} {p : Int} {st : Sim} {ms : List Mat} (h : VS c p st ms) {k i : Nat} (hk : k < c.length) (hi : i < (fIdx c k).length) : plc c k + i < ms.length ∧ Bt (mp c ms k i) p (st.getD (fc c k i) 0) (st.getD k 0) := by
  have hg := arrs_get hk hi
  have hlt := (List.getElem?_eq_some_iff.1 hg).1
  exact ⟨by rw [← h.2.2.2.1]; exact hlt,h.2.2.2.2 k hk i hi⟩

theorem firstMap_ret (c : List Sim) (p : Int) (st : Sim) (ms : List Mat) (k : Nat) (hk : k ≤ c.length) (hv : VC c) : Ret E n_impl_firstMap [dLL c,dI p,dL st,dMs ms,dI (k : Int)] ⟨o_impl_firstMap,(((plc c k : Nat) : Int),())⟩ := by
  have h48 := hv.1
  have htl : (c.take k).length = k := by rw [List.length_take]; omega
  refine ret_of ?_
  simp only [run_impl_firstMap,impl_firstMap.ev,Int.toNat_natCast,htl]
  refine ev_chk (by simp; omega) ?_
  refine Ev.start (p := fun φ n => impl_firstMap.l0 (mkR (run E (φ 0))) (φ 0) n 0 (c.take k) (k : Int) 0 = _) 1 ?_ (fun _ _ _ h => h)
  have := fold_loop 1 (L := fun φ n j a => impl_firstMap.l0 (mkR (run E (φ 0))) (φ 0) n a (c.take k) (k : Int) j) (len := k) (fun j => ((plc c j : Nat) : Int)) (r := some ⟨o_impl_firstMap,(((plc c k : Nat) : Int),())⟩) (fun _ _ _ _ _ => rfl) (fun j r hj ih => ?_) ?_
  · exact this
  · simp only [impl_firstMap.l0_succ _ mk_ok]
    have hjc : j < c.length := by omega
    have hpl := hv.plc (k := j) (by omega)
    have h4 := hv.len4 hjc
    have e := plc_succ (c := c) (k := j)
    rw [fIdx_length] at e
    rw [getD_lt hjc] at e h4
    have hjt : j < (c.take k).length := by omega
    have hgt : (c.take k)[j] = c[j] := List.getElem_take
    refine ev_t (decide_eq_true (by omega)) (ev_bind (idx_lt hjt) ?_)
    rw [hgt]
    refine ev_d (fun hl => ev_call (sizeI_ret _) ?_) fun hl => ?_
    · rw [if_pos (by omega)] at e
      rw [w64_succ (by omega),w64_small (by omega) (by omega)]
      rw [e] at ih
      simpa using ih
    · rw [if_neg (by omega)] at e
      rw [w64_succ (by omega)]
      rw [e] at ih; exact ih
  · simp only [impl_firstMap.l0_succ _ mk_ok]
    exact ev_f (decide_eq_false (by omega)) ev_rfl

theorem direct_ret (c : List Sim) (p : Int) (st : Sim) (ms : List Mat) (k i : Nat) (hk : k < c.length) (hi : i < (fIdx c k).length) (h : VS c p st ms) : Ret E n_impl_direct [dLL c,dI p,dL st,dMs ms,dI (k : Int),dI (i : Int)] ⟨o_impl_direct,mp c ms k i⟩ := by
  have h48 := h.1.1
  have hpl := h.1.plc (k := k) (by omega)
  have h4 := h.1.fIdx4 hk
  obtain ⟨ht,_⟩ := h.map hk hi
  refine ret_of ?_
  simp only [run_impl_direct,impl_direct.ev]
  refine ev_call (firstMap_ret c p st ms k (by omega) h.1) ?_
  simp only
  rw [w64_small (by omega) (by omega),show ((plc c k : Nat) : Int) + (i : Int) = ((plc c k + i : Nat) : Int) by omega]
  refine ev_bind (idx_lt ht) (ev_some ?_)
  rw [mp,getD_lt ht]

theorem l09Get_ret (x : Shf) (k i : Nat) (hk : k < x.1.length) (hi : i < (fIdx x.1 k).length) (h : VS x.1 x.2.1 x.2.2.1 x.2.2.2.1) : Ret E n_spec_l09Get [dS x,dI (k : Int),dI (i : Int)] ⟨o_spec_l09Get,(mp x.1 x.2.2.2.1 k i,())⟩ := by
  have h4 := h.1.fIdx4 hk
  obtain ⟨ht,_⟩ := h.map hk hi
  refine ret_of ?_
  simp only [run_spec_l09Get,spec_l09Get.ev]
  refine ev_call (l09Place_ret x.1 k i (by omega) (by omega) h.1) (ev_bind (idx_lt ht) (ev_some ?_))
  rw [mp,getD_lt ht]

/-- a way over two faces -/
noncomputable def two (c : List Sim) (ms : List Mat) (k i j : Nat) : Mat := mulM (mp c ms k i) (mp c ms (fc c k i) j)

theorem mulM_len {a b : Mat} (ha : VM a) (hb : VM b) : (mulM a b).2.2.2.1.length ≤ 1048576 := by
  show (flatF _ _ _).length ≤ _
  rw [flatF_length]
  have h1 := ha.2.1
  have h2 := hb.2.2.1
  have := rc_le (R := a.2.1.toNat) (C := b.2.2.1.toNat) (by omega) (by omega)
  omega

structure Sq (c : List Sim) (p : Int) (st : Sim) (ms : List Mat) (k i j : Nat) : Prop where
  kl : k < c.length
  n3 : 3 ≤ (c.getD k []).length
  il : i < (c.getD k []).length
  jl : j + 1 < (c.getD k []).length
  v : VS c p st ms

theorem Sq.hi {c p st ms k i j} (h : Sq c p st ms k i j) : i < (fIdx c k).length := by
  have := h.n3; have := h.il
  rw [fIdx_length,if_pos (by omega)]; exact this

theorem Sq.fk {c p st ms k i j} (h : Sq c p st ms k i j) : fc c k i < c.length := (fc_get h.v.1 h.kl h.hi).2.1

theorem Sq.hj {c p st ms k i j} (h : Sq c p st ms k i j) : j < (fIdx c (fc c k i)).length := by
  have h1 := h.n3; have h2 := h.il; have h3 := h.jl
  have e := (fc_get h.v.1 h.kl h.hi).2.2
  rw [fIdx_length,e,List.length_eraseIdx,if_pos h2,if_pos (by omega)]; omega

theorem Sq.b1 {c p st ms k i j} (h : Sq c p st ms k i j) : VM (mp c ms k i) := ((h.v.map h.kl h.hi).2).1
theorem Sq.b2 {c p st ms k i j} (h : Sq c p st ms k i j) : VM (mp c ms (fc c k i) j) := ((h.v.map h.fk h.hj).2).1
theorem Sq.sh {c p st ms k i j} (h : Sq c p st ms k i j) : (mp c ms k i).2.2.1 = (mp c ms (fc c k i) j).2.1 := by
  rw [((h.v.map h.kl h.hi).2).2.2.2,((h.v.map h.fk h.hj).2).2.2.1]

theorem Sq.impl {c p st ms k i j} (h : Sq c p st ms k i j) : Ret E n_impl_product [dI (mp c ms k i).1,dI (mp c ms k i).2.1,dI (mp c ms k i).2.2.1,dL (mp c ms k i).2.2.2.1,dI (mp c ms (fc c k i) j).1,dI (mp c ms (fc c k i) j).2.1,dI (mp c ms (fc c k i) j).2.2.1,dL (mp c ms (fc c k i) j).2.2.2.1] ⟨o_impl_product,two c ms k i j⟩ :=
  product_ret _ _ h.b1 h.b2 h.sh

theorem l09Two_ret (x : Shf) (k i j : Nat) (hij : i ≠ j) (h : Sq x.1 x.2.1 x.2.2.1 x.2.2.2.1 k i (if i < j then j - 1 else j)) (hc : Sm yK x.1) (hj : j ≤ 1048576) : Ret E n_spec_l09Two [dS x,dI (k : Int),dI (i : Int),dI (j : Int)] ⟨o_spec_l09Two,two x.1 x.2.2.2.1 k i (if i < j then j - 1 else j)⟩ := by
  obtain ⟨hidx,hF,_⟩ := fc_get h.v.1 h.kl h.hi
  refine ret_of ?_
  simp only [run_spec_l09Two,spec_l09Two.ev]
  refine ev_call (l05Faces_ret x.1 k h.kl hc) (ev_bind hidx ?_)
  have tail : Ev fun φ => spec_l09Two.j0 (mkR (run E (φ 0))) (φ 0) x (k : Int) (i : Int) (((if i < j then j - 1 else j : Nat)) : Int) ((fc x.1 k i : Nat) : Int) 0 0 0 = some ⟨o_spec_l09Two,two x.1 x.2.2.2.1 k i (if i < j then j - 1 else j)⟩ := by
    simp only [spec_l09Two.j0_eq _ mk_ok]
    refine ev_call (l09Get_ret x k i h.kl h.hi h.v) (ev_call (l09Get_ret x _ _ h.fk h.hj h.v) (ev_call (l03Times_ret _ _ h.b1 h.b2 h.sh) ev_rfl))
  refine ev_d (fun hgt => ?_) fun hgt => ?_
  · rw [w64_small (by omega) (by omega),show (j : Int) - 1 = ((j - 1 : Nat) : Int) by omega]
    rw [if_pos (by omega)] at tail ⊢; exact tail
  · rw [if_neg (by omega)] at tail ⊢; exact tail

end VeT
