import Derived.Test.YtfmenipcipaobaaGreatT3
import Derived.Test.YtfmenipcipaobaaGreatV2
import Derived.Test.YtfmenipcipaobaaGreatProg
import Derived.KernelRfl
import Derived.WalkKit
import Derived.Lib.Walk
import Derived.Lib.SliceRun
import Derived.Lib.AppendZerosOnto
set_option linter.unusedVariables false
set_option linter.unusedSimpArgs false
open Go Go.Proofs Ve
set_option linter.unusedVariables false
set_option maxRecDepth 100000
namespace VeT
/-! slices.Compare[[]int64,int64] -/
noncomputable def slices_Compare_Sint64_int64.l0 (R : Run) (N : Nat) (n : Nat) (s1_1 : (List Int)) (s2_2 : (List Int)) (t9__3 : (List Int)) (t10__4 : Int) (t11__5 : Int) : Option Dv := R.w (some ⟨[.c (.d (.sl (.int .i64)) s1_1), .c (.d (.sl (.int .i64)) s2_2), V.dead, V.dead, V.dead, V.dead, V.dead, V.dead, V.dead, .c (.d (.sl (.int .i64)) t9__3), .c (.d (.int .i64) t10__4), .c (.d (.int .i64) t11__5), V.dead, V.dead, V.dead, V.dead, V.dead, V.dead, V.dead, V.dead, V.dead, V.dead, V.dead, V.dead, V.dead, V.dead, V.dead, V.dead, V.dead, V.dead, V.dead, V.dead, V.dead, V.dead, V.dead, V.dead], [none, none, none, none, none, none, none, none, none, none, none, none, none, none, none, none, none, none, none, none, none, none, none, none, none, none, none, none, none, none, none, none, none, none, none, none, none, none]⟩) fun st => loopC (evCode E R pol_slices_Compare_Sint64_int64 N (sub [1, 0, 1, 0, 0] (bodyOf F_slices_Compare_Sint64_int64))) (maskAt R pol_slices_Compare_Sint64_int64.loopM 2) n st (kBlk (maskAt R pol_slices_Compare_Sint64_int64.blkM 0) 0 (kSeq (maskAt R pol_slices_Compare_Sint64_int64.seqM 11) (evCode E R pol_slices_Compare_Sint64_int64 N (sub [1, 1] (bodyOf F_slices_Compare_Sint64_int64))) (kTop E sg_slices_Compare_Sint64_int64 F_slices_Compare_Sint64_int64)))
theorem slices_Compare_Sint64_int64.l0_zero (R : Run) (hw : R.ok) (N : Nat) (s1_1 : (List Int)) (s2_2 : (List Int)) (t9__3 : (List Int)) (t10__4 : Int) (t11__5 : Int) : slices_Compare_Sint64_int64.l0 R N 0 s1_1 s2_2 t9__3 t10__4 t11__5 = none := (hw _ _).trans (by kernel_rfl)
theorem slices_Compare_Sint64_int64.l0_succ (R : Run) (hw : R.ok) (N : Nat) (n : Nat) (s1_1 : (List Int)) (s2_2 : (List Int)) (t9__3 : (List Int)) (t10__4 : Int) (t11__5 : Int) : slices_Compare_Sint64_int64.l0 R N (n + 1) s1_1 s2_2 t9__3 t10__4 t11__5 = (bif (decide (t11__5 < t10__4)) then (Option.bind (idx? t9__3 t11__5) fun y6 => (bif (decide (t11__5 ≥ (List.length s2_2 : Int))) then some ⟨o_slices_Compare_Sint64_int64, ((1 : Int), ())⟩ else (Option.bind (idx? s2_2 t11__5) fun y7 => (Option.bind (callT R n_cmp_Compare_int64 o_cmp_Compare_int64 [⟨(.int .i64), (y6, ()).1⟩, ⟨(.int .i64), (y7, ()).1⟩]) fun r8 => (bif (r8.1 != (0 : Int)) then some ⟨o_slices_Compare_Sint64_int64, (r8.1, ())⟩ else (slices_Compare_Sint64_int64.l0 R N n s1_1 s2_2 t9__3 t10__4 (w64 (t11__5 + (1 : Int))))))))) else (bif (decide ((List.length s1_1 : Int) < (List.length s2_2 : Int))) then some ⟨o_slices_Compare_Sint64_int64, ((-1 : Int), ())⟩ else some ⟨o_slices_Compare_Sint64_int64, ((0 : Int), ())⟩)) := (hw _ _).trans (by kernel_rfl)
theorem slices_Compare_Sint64_int64.ev (R : Run) (N : Nat) (a0 : (List Int)) (a1 : (List Int)) : evFn E R sg_slices_Compare_Sint64_int64 pol_slices_Compare_Sint64_int64 F_slices_Compare_Sint64_int64 N [⟨(.sl (.int .i64)), a0⟩, ⟨(.sl (.int .i64)), a1⟩] = (slices_Compare_Sint64_int64.l0 R N N a0 a1 a0 (List.length a0 : Int) (0 : Int)) := by kernel_rfl
/-! cmp.Or[int] -/
noncomputable def cmp_Or_int.l0 (R : Run) (N : Nat) (n : Nat) (zero_1 : Int) (t6__2 : (List Int)) (t7__3 : Int) (t8__4 : Int) : Option Dv := R.w (some ⟨[V.dead, V.dead, V.dead, .c (.d (.int .i64) zero_1), V.dead, V.dead, .c (.d (.sl (.int .i64)) t6__2), .c (.d (.int .i64) t7__3), .c (.d (.int .i64) t8__4), V.dead, V.dead, V.dead, V.dead, V.dead, V.dead, V.dead, V.dead, V.dead], [none, none, none, none, none, none, none, none, none, none, none, none, none, none, none, none, none, none, none]⟩) fun st => loopC (evCode E R pol_cmp_Or_int N (sub [1, 1, 0, 1, 0, 0] (bodyOf F_cmp_Or_int))) (maskAt R pol_cmp_Or_int.loopM 3) n st (kBlk (maskAt R pol_cmp_Or_int.blkM 0) 0 (kSeq (maskAt R pol_cmp_Or_int.seqM 8) (evCode E R pol_cmp_Or_int N (sub [1, 1, 1] (bodyOf F_cmp_Or_int))) (kTop E sg_cmp_Or_int F_cmp_Or_int)))
theorem cmp_Or_int.l0_zero (R : Run) (hw : R.ok) (N : Nat) (zero_1 : Int) (t6__2 : (List Int)) (t7__3 : Int) (t8__4 : Int) : cmp_Or_int.l0 R N 0 zero_1 t6__2 t7__3 t8__4 = none := (hw _ _).trans (by kernel_rfl)
theorem cmp_Or_int.l0_succ (R : Run) (hw : R.ok) (N : Nat) (n : Nat) (zero_1 : Int) (t6__2 : (List Int)) (t7__3 : Int) (t8__4 : Int) : cmp_Or_int.l0 R N (n + 1) zero_1 t6__2 t7__3 t8__4 = (bif (decide (t8__4 < t7__3)) then (Option.bind (idx? t6__2 t8__4) fun y5 => (bif ((y5, ()).1 != zero_1) then some ⟨o_cmp_Or_int, ((y5, ()).1, ())⟩ else (cmp_Or_int.l0 R N n zero_1 t6__2 t7__3 (w64 (t8__4 + (1 : Int)))))) else some ⟨o_cmp_Or_int, (zero_1, ())⟩) := (hw _ _).trans (by kernel_rfl)
theorem cmp_Or_int.ev (R : Run) (N : Nat) (a0 : (List Int)) : evFn E R sg_cmp_Or_int pol_cmp_Or_int F_cmp_Or_int N [⟨(.sl (.int .i64)), a0⟩] = (cmp_Or_int.l0 R N N (0 : Int) a0 (List.length a0 : Int) (0 : Int)) := by kernel_rfl
/-! loop.example/g01005/impl.compareSimplices -/
theorem impl_compareSimplices.ev (R : Run) (N : Nat) (a0 : (List Int)) (a1 : (List Int)) : evFn E R sg_impl_compareSimplices pol_impl_compareSimplices F_impl_compareSimplices N [⟨(.sl (.int .i64)), a0⟩, ⟨(.sl (.int .i64)), a1⟩] = (Option.bind (callT R n_cmp_Compare_int o_cmp_Compare_int [⟨(.int .i64), (List.length a0 : Int)⟩, ⟨(.int .i64), (List.length a1 : Int)⟩]) fun r1 => (Option.bind (callT R n_slices_Compare_Sint64_int64 o_slices_Compare_Sint64_int64 [⟨(.sl (.int .i64)), a0⟩, ⟨(.sl (.int .i64)), a1⟩]) fun r2 => (Option.bind (callT R n_cmp_Or_int o_cmp_Or_int [⟨(.sl (.int .i64)), [r1.1, r2.1]⟩]) fun r3 => some ⟨o_impl_compareSimplices, (r3.1, ())⟩))) := by kernel_rfl
/-! slices.Concat[[]int64,int64] -/
noncomputable def slices_Concat_Sint64_int64.l1 (R : Run) (N : Nat) (n : Nat) (t25__13 : (List (List Int))) (t26__14 : Int) (t27__15 : Int) (o37_16 : (List Int)) : Option Dv := R.w (some ⟨[V.dead, V.dead, V.dead, V.dead, V.dead, V.dead, .c (.arr 37), V.dead, V.dead, V.dead, V.dead, V.dead, V.dead, V.dead, V.dead, V.dead, V.dead, V.dead, V.dead, V.dead, V.dead, V.dead, V.dead, V.dead, V.dead, .c (.d (.sl (.sl (.int .i64))) t25__13), .c (.d (.int .i64) t26__14), .c (.d (.int .i64) t27__15), V.dead, V.dead, V.dead, V.dead, V.dead, V.dead, V.dead, V.dead], [none, none, none, none, none, none, none, none, none, none, none, none, none, none, none, none, none, none, none, none, none, none, none, none, none, none, none, none, none, none, none, none, none, none, none, none, none, some (.arr (.int .i64) o37_16 true false false)]⟩) fun st => loopC (evCode E R pol_slices_Concat_Sint64_int64 N (sub [1, 1, 1, 1, 0, 1, 0, 0] (bodyOf F_slices_Concat_Sint64_int64))) (maskAt R pol_slices_Concat_Sint64_int64.loopM 11) n st (kBlk (maskAt R pol_slices_Concat_Sint64_int64.blkM 2) 2 (kSeq (maskAt R pol_slices_Concat_Sint64_int64.seqM 15) (evCode E R pol_slices_Concat_Sint64_int64 N (sub [1, 1, 1, 1, 1] (bodyOf F_slices_Concat_Sint64_int64))) (kTop E sg_slices_Concat_Sint64_int64 F_slices_Concat_Sint64_int64)))
noncomputable def slices_Concat_Sint64_int64.l0 (R : Run) (N : Nat) (n : Nat) (slices_1 : (List (List Int))) (size_2 : Int) (t9__3 : (List (List Int))) (t10__4 : Int) (t11__5 : Int) : Option Dv := R.w (some ⟨[.c (.d (.sl (.sl (.int .i64))) slices_1), V.dead, V.dead, .c (.d (.int .i64) size_2), V.dead, V.dead, V.dead, V.dead, V.dead, .c (.d (.sl (.sl (.int .i64))) t9__3), .c (.d (.int .i64) t10__4), .c (.d (.int .i64) t11__5), V.dead, V.dead, V.dead, V.dead, V.dead, V.dead, V.dead, V.dead, V.dead, V.dead, V.dead, V.dead, V.dead, V.dead, V.dead, V.dead, V.dead, V.dead, V.dead, V.dead, V.dead, V.dead, V.dead, V.dead], [none, none, none, none, none, none, none, none, none, none, none, none, none, none, none, none, none, none, none, none, none, none, none, none, none, none, none, none, none, none, none, none, none, none, none, none, none, none]⟩) fun st => loopC (evCode E R pol_slices_Concat_Sint64_int64 N (sub [1, 1, 0, 1, 0, 0] (bodyOf F_slices_Concat_Sint64_int64))) (maskAt R pol_slices_Concat_Sint64_int64.loopM 3) n st (kBlk (maskAt R pol_slices_Concat_Sint64_int64.blkM 0) 0 (kSeq (maskAt R pol_slices_Concat_Sint64_int64.seqM 9) (evCode E R pol_slices_Concat_Sint64_int64 N (sub [1, 1, 1] (bodyOf F_slices_Concat_Sint64_int64))) (kTop E sg_slices_Concat_Sint64_int64 F_slices_Concat_Sint64_int64)))
theorem slices_Concat_Sint64_int64.l1_zero (R : Run) (hw : R.ok) (N : Nat) (t25__13 : (List (List Int))) (t26__14 : Int) (t27__15 : Int) (o37_16 : (List Int)) : slices_Concat_Sint64_int64.l1 R N 0 t25__13 t26__14 t27__15 o37_16 = none := (hw _ _).trans (by kernel_rfl)
theorem slices_Concat_Sint64_int64.l1_succ (R : Run) (hw : R.ok) (N : Nat) (n : Nat) (t25__13 : (List (List Int))) (t26__14 : Int) (t27__15 : Int) (o37_16 : (List Int)) : slices_Concat_Sint64_int64.l1 R N (n + 1) t25__13 t26__14 t27__15 o37_16 = (bif (decide (t27__15 < t26__14)) then (Option.bind (idx? t25__13 t27__15) fun y17 => (Option.bind (chk (decide ((List.length o37_16 + List.length (y17, ()).1) * 8 ≤ 70368744177664))) fun _ => (slices_Concat_Sint64_int64.l1 R N n t25__13 t26__14 (w64 (t27__15 + (1 : Int))) (o37_16 ++ (y17, ()).1)))) else some ⟨o_slices_Concat_Sint64_int64, (o37_16, ())⟩) := (hw _ _).trans (by kernel_rfl)
theorem slices_Concat_Sint64_int64.l0_zero (R : Run) (hw : R.ok) (N : Nat) (slices_1 : (List (List Int))) (size_2 : Int) (t9__3 : (List (List Int))) (t10__4 : Int) (t11__5 : Int) : slices_Concat_Sint64_int64.l0 R N 0 slices_1 size_2 t9__3 t10__4 t11__5 = none := (hw _ _).trans (by kernel_rfl)
theorem slices_Concat_Sint64_int64.l0_succ (R : Run) (hw : R.ok) (N : Nat) (n : Nat) (slices_1 : (List (List Int))) (size_2 : Int) (t9__3 : (List (List Int))) (t10__4 : Int) (t11__5 : Int) : slices_Concat_Sint64_int64.l0 R N (n + 1) slices_1 size_2 t9__3 t10__4 t11__5 = (bif (decide (t11__5 < t10__4)) then (Option.bind (idx? t9__3 t11__5) fun y6 => (bif (decide ((w64 (size_2 + (List.length (y6, ()).1 : Int))) < (0 : Int))) then none else (slices_Concat_Sint64_int64.l0 R N n slices_1 (w64 (size_2 + (List.length (y6, ()).1 : Int))) t9__3 t10__4 (w64 (t11__5 + (1 : Int)))))) else (Option.bind (callT R n_slices_Grow_Sint64_int64 o_slices_Grow_Sint64_int64 [⟨(.sl (.int .i64)), ([] : List Int)⟩, ⟨(.int .i64), size_2⟩]) fun r12 => (slices_Concat_Sint64_int64.l1 R N N slices_1 (List.length slices_1 : Int) (0 : Int) r12.1))) := (hw _ _).trans (by kernel_rfl)
theorem slices_Concat_Sint64_int64.ev (R : Run) (N : Nat) (a0 : (List (List Int))) : evFn E R sg_slices_Concat_Sint64_int64 pol_slices_Concat_Sint64_int64 F_slices_Concat_Sint64_int64 N [⟨(.sl (.sl (.int .i64))), a0⟩] = (slices_Concat_Sint64_int64.l0 R N N a0 (0 : Int) a0 (List.length a0 : Int) (0 : Int)) := by kernel_rfl
/-! loop.example/g01005/impl.facesOf -/
noncomputable def impl_facesOf.l0 (R : Run) (N : Nat) (n : Nat) (s_1 : (List Int)) (t6__2 : Int) (t7__3 : Int) (o24_4 : (List (List Int))) : Option Dv := R.w (some ⟨[.c (.d (.sl (.int .i64)) s_1), V.dead, V.dead, .c (.arr 24), V.dead, V.dead, .c (.d (.int .i64) t6__2), .c (.d (.int .i64) t7__3), V.dead, V.dead, V.dead, V.dead, V.dead, V.dead, V.dead, V.dead, V.dead, V.dead, V.dead, V.dead, V.dead, V.dead, V.dead, V.dead, V.dead, V.dead, V.dead], [none, none, none, none, none, none, none, none, none, none, none, none, none, none, none, none, none, none, none, none, none, none, none, none, some (.arr (.sl (.int .i64)) o24_4 true false false), none, none, none, none]⟩) fun st => loopC (evCode E R pol_impl_facesOf N (sub [1, 1, 0, 1, 0, 0] (bodyOf F_impl_facesOf))) (maskAt R pol_impl_facesOf.loopM 3) n st (kBlk (maskAt R pol_impl_facesOf.blkM 0) 0 (kSeq (maskAt R pol_impl_facesOf.seqM 8) (evCode E R pol_impl_facesOf N (sub [1, 1, 1] (bodyOf F_impl_facesOf))) (kTop E sg_impl_facesOf F_impl_facesOf)))
theorem impl_facesOf.l0_zero (R : Run) (hw : R.ok) (N : Nat) (s_1 : (List Int)) (t6__2 : Int) (t7__3 : Int) (o24_4 : (List (List Int))) : impl_facesOf.l0 R N 0 s_1 t6__2 t7__3 o24_4 = none := (hw _ _).trans (by kernel_rfl)
theorem impl_facesOf.l0_succ (R : Run) (hw : R.ok) (N : Nat) (n : Nat) (s_1 : (List Int)) (t6__2 : Int) (t7__3 : Int) (o24_4 : (List (List Int))) : impl_facesOf.l0 R N (n + 1) s_1 t6__2 t7__3 o24_4 = (bif (decide (t7__3 < t6__2)) then (bif (decide ((List.length s_1 : Int) > (1 : Int))) then (Option.bind (chk (decide (0 ≤ t7__3) && decide (t7__3 ≤ (List.length s_1 : Int)))) fun _ => (Option.bind (chk (decide (0 ≤ (w64 (t7__3 + (1 : Int)))) && decide ((w64 (t7__3 + (1 : Int))) ≤ (List.length s_1 : Int)))) fun _ => (Option.bind (callT R n_slices_Concat_Sint64_int64 o_slices_Concat_Sint64_int64 [⟨(.sl (.sl (.int .i64))), [(List.take (Int.toNat t7__3) s_1), (List.drop (Int.toNat (w64 (t7__3 + (1 : Int)))) s_1)]⟩]) fun r5 => (Option.bind (chk (decide ((List.length o24_4 + List.length [r5.1]) * 24 ≤ 70368744177664))) fun _ => (impl_facesOf.l0 R N n s_1 t6__2 (w64 (t7__3 + (1 : Int))) (o24_4 ++ [r5.1])))))) else (impl_facesOf.l0 R N n s_1 t6__2 (w64 (t7__3 + (1 : Int))) o24_4)) else some ⟨o_impl_facesOf, (o24_4, ())⟩) := (hw _ _).trans (by kernel_rfl)
theorem impl_facesOf.ev (R : Run) (N : Nat) (a0 : (List Int)) : evFn E R sg_impl_facesOf pol_impl_facesOf F_impl_facesOf N [⟨(.sl (.int .i64)), a0⟩] = (impl_facesOf.l0 R N N a0 (List.length a0 : Int) (0 : Int) ([] : List (List Int))) := by kernel_rfl
/-! slices.BinarySearchFunc[[][]int64,[]int64,[]int64] -/
noncomputable def slices_BinarySearchFunc_SSint64_Sint64_Sint64_impl_compareSimplices.l0 (R : Run) (N : Nat) (n : Nat) (x_1 : (List (List Int))) (target_2 : (List Int)) (n_3 : Int) (i_4 : Int) (j_5 : Int) : Option Dv := R.w (some ⟨[.c (.d (.sl (.sl (.int .i64))) x_1), .c (.d (.sl (.int .i64)) target_2), .c (.d (.fn n_impl_compareSimplices .nil) ()), V.dead, V.dead, V.dead, V.dead, V.dead, .c (.d (.int .i64) n_3), .c (.d (.int .i64) i_4), .c (.d (.int .i64) j_5), V.dead, V.dead, V.dead, V.dead, V.dead, V.dead, V.dead, V.dead, V.dead, V.dead, V.dead, V.dead, V.dead, V.dead, V.dead, V.dead, V.dead, V.dead, V.dead, V.dead, V.dead, V.dead, V.dead, V.dead, V.dead, V.dead, V.dead, V.dead, V.dead, V.dead, V.dead, V.dead, V.dead, V.dead, V.dead, V.dead, V.dead, V.dead], [none, none, none, none, none, none, none, none, none, none, none, none, none, none, none, none, none, none, none, none, none, none, none, none, none, none, none, none, none, none, none, none, none, none, none, none, none, none, none, none, none, none, none, none, none, none, none, none, none, none, none, none]⟩) fun st => loopC (evCode E R pol_slices_BinarySearchFunc_SSint64_Sint64_Sint64 N (sub [1, 1, 1, 0, 0, 0] (bodyOf F_slices_BinarySearchFunc_SSint64_Sint64_Sint64))) (maskAt R pol_slices_BinarySearchFunc_SSint64_Sint64_Sint64.loopM 3) n st (kBlk (maskAt R pol_slices_BinarySearchFunc_SSint64_Sint64_Sint64.blkM 0) 0 (kSeq (maskAt R pol_slices_BinarySearchFunc_SSint64_Sint64_Sint64.seqM 8) (evCode E R pol_slices_BinarySearchFunc_SSint64_Sint64_Sint64 N (sub [1, 1, 1, 1] (bodyOf F_slices_BinarySearchFunc_SSint64_Sint64_Sint64))) (kTop E sg_slices_BinarySearchFunc_SSint64_Sint64_Sint64 F_slices_BinarySearchFunc_SSint64_Sint64_Sint64)))
theorem slices_BinarySearchFunc_SSint64_Sint64_Sint64_impl_compareSimplices.l0_zero (R : Run) (hw : R.ok) (N : Nat) (x_1 : (List (List Int))) (target_2 : (List Int)) (n_3 : Int) (i_4 : Int) (j_5 : Int) : slices_BinarySearchFunc_SSint64_Sint64_Sint64_impl_compareSimplices.l0 R N 0 x_1 target_2 n_3 i_4 j_5 = none := (hw _ _).trans (by kernel_rfl)
theorem slices_BinarySearchFunc_SSint64_Sint64_Sint64_impl_compareSimplices.l0_succ (R : Run) (hw : R.ok) (N : Nat) (n : Nat) (x_1 : (List (List Int))) (target_2 : (List Int)) (n_3 : Int) (i_4 : Int) (j_5 : Int) : slices_BinarySearchFunc_SSint64_Sint64_Sint64_impl_compareSimplices.l0 R N (n + 1) x_1 target_2 n_3 i_4 j_5 = (bif (decide (i_4 < j_5)) then (Option.bind (chk (decide (0 ≤ (1 : Int)))) fun _ => (Option.bind (idx? x_1 (w64 ((Int.fdiv (IntKind.wrap .u64 ((w64 (i_4 + j_5)))) (2 ^ (min (Int.toNat (1 : Int)) (IntKind.bits .u64))))))) fun y6 => (Option.bind (callT R n_impl_compareSimplices o_impl_compareSimplices [⟨(.sl (.int .i64)), (y6, ()).1⟩, ⟨(.sl (.int .i64)), target_2⟩]) fun r7 => (bif (decide (r7.1 < (0 : Int))) then (slices_BinarySearchFunc_SSint64_Sint64_Sint64_impl_compareSimplices.l0 R N n x_1 target_2 n_3 (w64 ((w64 ((Int.fdiv (IntKind.wrap .u64 ((w64 (i_4 + j_5)))) (2 ^ (min (Int.toNat (1 : Int)) (IntKind.bits .u64)))))) + (1 : Int))) j_5) else (slices_BinarySearchFunc_SSint64_Sint64_Sint64_impl_compareSimplices.l0 R N n x_1 target_2 n_3 i_4 (w64 ((Int.fdiv (IntKind.wrap .u64 ((w64 (i_4 + j_5)))) (2 ^ (min (Int.toNat (1 : Int)) (IntKind.bits .u64))))))))))) else (bif (decide (i_4 < n_3)) then (Option.bind (idx? x_1 i_4) fun y18 => (Option.bind (callT R n_impl_compareSimplices o_impl_compareSimplices [⟨(.sl (.int .i64)), (y18, ()).1⟩, ⟨(.sl (.int .i64)), target_2⟩]) fun r19 => some ⟨o_slices_BinarySearchFunc_SSint64_Sint64_Sint64, (i_4, (r19.1 == (0 : Int)), ())⟩)) else some ⟨o_slices_BinarySearchFunc_SSint64_Sint64_Sint64, (i_4, false, ())⟩)) := (hw _ _).trans (by kernel_rfl)
theorem slices_BinarySearchFunc_SSint64_Sint64_Sint64_impl_compareSimplices.ev (R : Run) (N : Nat) (a0 : (List (List Int))) (a1 : (List Int)) : evFn E R sg_slices_BinarySearchFunc_SSint64_Sint64_Sint64 pol_slices_BinarySearchFunc_SSint64_Sint64_Sint64 F_slices_BinarySearchFunc_SSint64_Sint64_Sint64 N [⟨(.sl (.sl (.int .i64))), a0⟩, ⟨(.sl (.int .i64)), a1⟩, ⟨(.fn n_impl_compareSimplices .nil), ()⟩] = (slices_BinarySearchFunc_SSint64_Sint64_Sint64_impl_compareSimplices.l0 R N N a0 a1 (List.length a0 : Int) (0 : Int) (List.length a0 : Int)) := by kernel_rfl
/-! loop.example/g01005/impl.indexOf -/
theorem impl_indexOf.ev (R : Run) (N : Nat) (a0 : (List (List Int))) (a1 : (List Int)) : evFn E R sg_impl_indexOf pol_impl_indexOf F_impl_indexOf N [⟨(.sl (.sl (.int .i64))), a0⟩, ⟨(.sl (.int .i64)), a1⟩] = (Option.bind (callT R n_slices_BinarySearchFunc_SSint64_Sint64_Sint64 o_slices_BinarySearchFunc_SSint64_Sint64_Sint64 [⟨(.sl (.sl (.int .i64))), a0⟩, ⟨(.sl (.int .i64)), a1⟩, ⟨(.fn n_impl_compareSimplices .nil), ()⟩]) fun r1 => (bif (!r1.2.1) then some ⟨o_impl_indexOf, ((-1 : Int), ())⟩ else some ⟨o_impl_indexOf, (r1.1, ())⟩)) := by kernel_rfl
/-! loop.example/g01005/impl.ValidComplex$1 -/
theorem impl_ValidComplex_1.ev (R : Run) (N : Nat) (a0 : (List Int)) (a1 : ((List (List Int)) × Unit)) (a2 : (Int × Unit)) : evFn E R sg_impl_ValidComplex_1 pol_impl_ValidComplex_1 F_impl_ValidComplex_1 N [⟨(.sl (.int .i64)), a0⟩, ⟨(.ptr (.cons (.sl (.sl (.int .i64))) .nil)), a1⟩, ⟨(.ptr (.cons (.int .i64) .nil)), a2⟩] = (Option.bind (chk (decide (0 ≤ a2.1) && decide (a2.1 ≤ (List.length a1.1 : Int)))) fun _ => (Option.bind (callT R n_impl_indexOf o_impl_indexOf [⟨(.sl (.sl (.int .i64))), (List.take (Int.toNat a2.1) a1.1)⟩, ⟨(.sl (.int .i64)), a0⟩]) fun r1 => some ⟨o_impl_ValidComplex_1, ((decide (r1.1 < (0 : Int))), ())⟩)) := by kernel_rfl
/-! slices.IndexFunc[[][]int64,[]int64] -/
noncomputable def slices_IndexFunc_SSint64_Sint64_impl_ValidComplex_1.l0 (R : Run) (N : Nat) (n : Nat) (s_1 : (List (List Int))) (f_2 : (((List (List Int)) × Unit) × (Int × Unit) × Unit)) (t7__3 : Int) (t8__4 : Int) : Option Dv := R.w (some ⟨[.c (.d (.sl (.sl (.int .i64))) s_1), .c (.d (.fn n_impl_ValidComplex_1 (.cons (.ptr (.cons (.sl (.sl (.int .i64))) .nil)) (.cons (.ptr (.cons (.int .i64) .nil)) .nil))) f_2), V.dead, V.dead, V.dead, V.dead, V.dead, .c (.d (.int .i64) t7__3), .c (.d (.int .i64) t8__4), V.dead, V.dead, V.dead, V.dead, V.dead, V.dead, V.dead, V.dead, V.dead, V.dead], [none, none, none, none, none, none, none, none, none, none, none, none, none, none, none, none, none, none, none, none, none]⟩) fun st => loopC (evCode E R pol_slices_IndexFunc_SSint64_Sint64 N (sub [1, 0, 1, 0, 0] (bodyOf F_slices_IndexFunc_SSint64_Sint64))) (maskAt R pol_slices_IndexFunc_SSint64_Sint64.loopM 2) n st (kBlk (maskAt R pol_slices_IndexFunc_SSint64_Sint64.blkM 0) 0 (kSeq (maskAt R pol_slices_IndexFunc_SSint64_Sint64.seqM 7) (evCode E R pol_slices_IndexFunc_SSint64_Sint64 N (sub [1, 1] (bodyOf F_slices_IndexFunc_SSint64_Sint64))) (kTop E sg_slices_IndexFunc_SSint64_Sint64 F_slices_IndexFunc_SSint64_Sint64)))
theorem slices_IndexFunc_SSint64_Sint64_impl_ValidComplex_1.l0_zero (R : Run) (hw : R.ok) (N : Nat) (s_1 : (List (List Int))) (f_2 : (((List (List Int)) × Unit) × (Int × Unit) × Unit)) (t7__3 : Int) (t8__4 : Int) : slices_IndexFunc_SSint64_Sint64_impl_ValidComplex_1.l0 R N 0 s_1 f_2 t7__3 t8__4 = none := (hw _ _).trans (by kernel_rfl)
theorem slices_IndexFunc_SSint64_Sint64_impl_ValidComplex_1.l0_succ (R : Run) (hw : R.ok) (N : Nat) (n : Nat) (s_1 : (List (List Int))) (f_2 : (((List (List Int)) × Unit) × (Int × Unit) × Unit)) (t7__3 : Int) (t8__4 : Int) : slices_IndexFunc_SSint64_Sint64_impl_ValidComplex_1.l0 R N (n + 1) s_1 f_2 t7__3 t8__4 = (bif (decide (t8__4 < t7__3)) then (Option.bind (idx? s_1 t8__4) fun y5 => (Option.bind (callT R n_impl_ValidComplex_1 o_impl_ValidComplex_1 [⟨(.sl (.int .i64)), (y5, ()).1⟩, ⟨(.ptr (.cons (.sl (.sl (.int .i64))) .nil)), f_2.1⟩, ⟨(.ptr (.cons (.int .i64) .nil)), f_2.2.1⟩]) fun r6 => (bif r6.1 then some ⟨o_slices_IndexFunc_SSint64_Sint64, (t8__4, ())⟩ else (slices_IndexFunc_SSint64_Sint64_impl_ValidComplex_1.l0 R N n s_1 f_2 t7__3 (w64 (t8__4 + (1 : Int))))))) else some ⟨o_slices_IndexFunc_SSint64_Sint64, ((-1 : Int), ())⟩) := (hw _ _).trans (by kernel_rfl)
theorem slices_IndexFunc_SSint64_Sint64_impl_ValidComplex_1.ev (R : Run) (N : Nat) (a0 : (List (List Int))) (a1 : (((List (List Int)) × Unit) × (Int × Unit) × Unit)) : evFn E R sg_slices_IndexFunc_SSint64_Sint64 pol_slices_IndexFunc_SSint64_Sint64 F_slices_IndexFunc_SSint64_Sint64 N [⟨(.sl (.sl (.int .i64))), a0⟩, ⟨(.fn n_impl_ValidComplex_1 (.cons (.ptr (.cons (.sl (.sl (.int .i64))) .nil)) (.cons (.ptr (.cons (.int .i64) .nil)) .nil))), a1⟩] = (slices_IndexFunc_SSint64_Sint64_impl_ValidComplex_1.l0 R N N a0 a1 (List.length a0 : Int) (0 : Int)) := by kernel_rfl
/-! slices.ContainsFunc[[][]int64,[]int64] -/
theorem slices_ContainsFunc_SSint64_Sint64_impl_ValidComplex_1.ev (R : Run) (N : Nat) (a0 : (List (List Int))) (a1 : (((List (List Int)) × Unit) × (Int × Unit) × Unit)) : evFn E R sg_slices_ContainsFunc_SSint64_Sint64 pol_slices_ContainsFunc_SSint64_Sint64 F_slices_ContainsFunc_SSint64_Sint64 N [⟨(.sl (.sl (.int .i64))), a0⟩, ⟨(.fn n_impl_ValidComplex_1 (.cons (.ptr (.cons (.sl (.sl (.int .i64))) .nil)) (.cons (.ptr (.cons (.int .i64) .nil)) .nil))), a1⟩] = (Option.bind (callT R n_slices_IndexFunc_SSint64_Sint64 o_slices_IndexFunc_SSint64_Sint64 [⟨(.sl (.sl (.int .i64))), a0⟩, ⟨(.fn n_impl_ValidComplex_1 (.cons (.ptr (.cons (.sl (.sl (.int .i64))) .nil)) (.cons (.ptr (.cons (.int .i64) .nil)) .nil))), a1⟩]) fun r1 => some ⟨o_slices_ContainsFunc_SSint64_Sint64, ((decide (r1.1 ≥ (0 : Int))), ())⟩) := by kernel_rfl
/-! loop.example/g01005/impl.ValidComplex -/
noncomputable def impl_ValidComplex.j1 (R : Run) (N : Nat) (n10100 : Nat) (s_7 : (List Int)) (t6__8 : (List (List Int))) (t7__9 : Int) (t8__10 : Int) (t30__11 : Bool) (c_12 : (List (List Int))) (k_13 : Int) : Option Dv := R.w (some ⟨[V.dead, .c (.box 1 0), V.dead, .c (.box 3 0), .c (.d (.sl (.int .i64)) s_7), V.dead, .c (.d (.sl (.sl (.int .i64))) t6__8), .c (.d (.int .i64) t7__9), .c (.d (.int .i64) t8__10), V.dead, V.dead, V.dead, V.dead, V.dead, V.dead, V.dead, V.dead, V.dead, V.dead, V.dead, V.dead, V.dead, V.dead, V.dead, V.dead, V.dead, V.dead, V.dead, V.dead, V.dead, .c (.d .bool t30__11), V.dead, V.dead, V.dead, V.dead, V.dead, V.dead, V.dead, V.dead, V.dead], [none, some (.box [.d (.sl (.sl (.int .i64))) c_12] true false), none, some (.box [.d (.int .i64) k_13] false false), none, none, none, none, none, none, none, none, none, none, none, none, none, none, none, none, none, none, none, none, none, none, none, none, none, none, none, none, none, none, none, none, none, none, none, none, none]⟩) fun st => evCode E R pol_impl_ValidComplex N (sub [1, 0, 1, 0, 0, 1, 1, 0, 0, 1, 0, 1] (bodyOf F_impl_ValidComplex)) st (kSeq (maskAt R pol_impl_ValidComplex.seqM 6) (evCode E R pol_impl_ValidComplex N (sub [1, 0, 1, 0, 0, 1, 1, 0, 0, 1, 1] (bodyOf F_impl_ValidComplex))) (kBlk (maskAt R pol_impl_ValidComplex.blkM 1) 1 (kSeq (maskAt R pol_impl_ValidComplex.seqM 8) (evCode E R pol_impl_ValidComplex N (sub [1, 0, 1, 0, 0, 1, 1, 1] (bodyOf F_impl_ValidComplex))) (kLoop (evCode E R pol_impl_ValidComplex N (sub [1, 0, 1, 0, 0] (bodyOf F_impl_ValidComplex))) (maskAt R pol_impl_ValidComplex.loopM 2) n10100 (kBlk (maskAt R pol_impl_ValidComplex.blkM 0) 0 (kSeq (maskAt R pol_impl_ValidComplex.seqM 9) (evCode E R pol_impl_ValidComplex N (sub [1, 1] (bodyOf F_impl_ValidComplex))) (kTop E sg_impl_ValidComplex F_impl_ValidComplex)))))))
noncomputable def impl_ValidComplex.l0 (R : Run) (N : Nat) (n : Nat) (t6__1 : (List (List Int))) (t7__2 : Int) (t8__3 : Int) (c_4 : (List (List Int))) : Option Dv := R.w (some ⟨[V.dead, .c (.box 1 0), V.dead, V.dead, V.dead, V.dead, .c (.d (.sl (.sl (.int .i64))) t6__1), .c (.d (.int .i64) t7__2), .c (.d (.int .i64) t8__3), V.dead, V.dead, V.dead, V.dead, V.dead, V.dead, V.dead, V.dead, V.dead, V.dead, V.dead, V.dead, V.dead, V.dead, V.dead, V.dead, V.dead, V.dead, V.dead, V.dead, V.dead, V.dead, V.dead, V.dead, V.dead, V.dead, V.dead, V.dead, V.dead, V.dead, V.dead], [none, some (.box [.d (.sl (.sl (.int .i64))) c_4] true false), none, none, none, none, none, none, none, none, none, none, none, none, none, none, none, none, none, none, none, none, none, none, none, none, none, none, none, none, none, none, none, none, none, none, none, none, none, none, none]⟩) fun st => loopC (evCode E R pol_impl_ValidComplex N (sub [1, 0, 1, 0, 0] (bodyOf F_impl_ValidComplex))) (maskAt R pol_impl_ValidComplex.loopM 2) n st (kBlk (maskAt R pol_impl_ValidComplex.blkM 0) 0 (kSeq (maskAt R pol_impl_ValidComplex.seqM 9) (evCode E R pol_impl_ValidComplex N (sub [1, 1] (bodyOf F_impl_ValidComplex))) (kTop E sg_impl_ValidComplex F_impl_ValidComplex)))
theorem impl_ValidComplex.j1_eq (R : Run) (hw : R.ok) (N : Nat) (n10100 : Nat) (s_7 : (List Int)) (t6__8 : (List (List Int))) (t7__9 : Int) (t8__10 : Int) (t30__11 : Bool) (c_12 : (List (List Int))) (k_13 : Int) : impl_ValidComplex.j1 R N n10100 s_7 t6__8 t7__9 t8__10 t30__11 c_12 k_13 = (bif t30__11 then some ⟨o_impl_ValidComplex, (false, ())⟩ else (Option.bind (callT R n_impl_facesOf o_impl_facesOf [⟨(.sl (.int .i64)), s_7⟩]) fun r14 => (Option.bind (callT R n_slices_ContainsFunc_SSint64_Sint64 o_slices_ContainsFunc_SSint64_Sint64 [⟨(.sl (.sl (.int .i64))), r14.1⟩, ⟨(.fn n_impl_ValidComplex_1 (.cons (.ptr (.cons (.sl (.sl (.int .i64))) .nil)) (.cons (.ptr (.cons (.int .i64) .nil)) .nil))), ((c_12, ()), (k_13, ()), ())⟩]) fun r15 => (bif r15.1 then some ⟨o_impl_ValidComplex, (false, ())⟩ else (impl_ValidComplex.l0 R N n10100 t6__8 t7__9 (w64 (t8__10 + (1 : Int))) c_12))))) := (hw _ _).trans (by kernel_rfl)
theorem impl_ValidComplex.l0_zero (R : Run) (hw : R.ok) (N : Nat) (t6__1 : (List (List Int))) (t7__2 : Int) (t8__3 : Int) (c_4 : (List (List Int))) : impl_ValidComplex.l0 R N 0 t6__1 t7__2 t8__3 c_4 = none := (hw _ _).trans (by kernel_rfl)
theorem impl_ValidComplex.l0_succ (R : Run) (hw : R.ok) (N : Nat) (n : Nat) (t6__1 : (List (List Int))) (t7__2 : Int) (t8__3 : Int) (c_4 : (List (List Int))) : impl_ValidComplex.l0 R N (n + 1) t6__1 t7__2 t8__3 c_4 = (bif (decide (t8__3 < t7__2)) then (Option.bind (idx? t6__1 t8__3) fun y5 => (Option.bind (callT R n_impl_ValidSimplex o_impl_ValidSimplex [⟨(.sl (.int .i64)), (y5, ()).1⟩]) fun r6 => (bif (!r6.1) then (impl_ValidComplex.j1 R N n ((y5, ()).1) t6__1 t7__2 t8__3 true c_4 t8__3) else (bif (decide (t8__3 > (0 : Int))) then (Option.bind (idx? c_4 (w64 (t8__3 - (1 : Int)))) fun y20 => (Option.bind (callT R n_impl_compareSimplices o_impl_compareSimplices [⟨(.sl (.int .i64)), (y20, ()).1⟩, ⟨(.sl (.int .i64)), (y5, ()).1⟩]) fun r21 => (impl_ValidComplex.j1 R N n ((y5, ()).1) t6__1 t7__2 t8__3 (decide (r21.1 ≥ (0 : Int))) c_4 t8__3))) else (impl_ValidComplex.j1 R N n ((y5, ()).1) t6__1 t7__2 t8__3 false c_4 t8__3))))) else some ⟨o_impl_ValidComplex, ((decide ((List.length c_4 : Int) ≤ (48 : Int))), ())⟩) := (hw _ _).trans (by kernel_rfl)
theorem impl_ValidComplex.ev (R : Run) (N : Nat) (a0 : (List (List Int))) : evFn E R sg_impl_ValidComplex pol_impl_ValidComplex F_impl_ValidComplex N [⟨(.sl (.sl (.int .i64))), a0⟩] = (impl_ValidComplex.l0 R N N a0 (List.length a0 : Int) (0 : Int) a0) := by kernel_rfl
/-! loop.example/g01005/impl.ValidPrime -/
noncomputable def impl_ValidPrime.l0 (R : Run) (N : Nat) (n : Nat) (p_2 : Int) (d_3 : Int) : Option Dv := R.w (some ⟨[.c (.d (.int .i64) p_2), V.dead, V.dead, .c (.d (.int .i64) d_3), V.dead, V.dead, V.dead, V.dead, V.dead, V.dead, V.dead, V.dead, V.dead, V.dead, V.dead, V.dead, V.dead, V.dead], [none, none, none, none, none, none, none, none, none, none, none, none, none, none, none, none, none, none, none]⟩) fun st => loopC (evCode E R pol_impl_ValidPrime N (sub [1, 1, 0, 1, 0, 0] (bodyOf F_impl_ValidPrime))) (maskAt R pol_impl_ValidPrime.loopM 4) n st (kBlk (maskAt R pol_impl_ValidPrime.blkM 0) 0 (kSeq (maskAt R pol_impl_ValidPrime.seqM 8) (evCode E R pol_impl_ValidPrime N (sub [1, 1, 1] (bodyOf F_impl_ValidPrime))) (kTop E sg_impl_ValidPrime F_impl_ValidPrime)))
theorem impl_ValidPrime.l0_zero (R : Run) (hw : R.ok) (N : Nat) (p_2 : Int) (d_3 : Int) : impl_ValidPrime.l0 R N 0 p_2 d_3 = none := (hw _ _).trans (by kernel_rfl)
theorem impl_ValidPrime.l0_succ (R : Run) (hw : R.ok) (N : Nat) (n : Nat) (p_2 : Int) (d_3 : Int) : impl_ValidPrime.l0 R N (n + 1) p_2 d_3 = (bif (decide ((w64 (d_3 * d_3)) ≤ p_2)) then (Option.bind (chk (d_3 != 0)) fun _ => (bif ((Int.tmod p_2 d_3) == (0 : Int)) then some ⟨o_impl_ValidPrime, (false, ())⟩ else (impl_ValidPrime.l0 R N n p_2 (w64 (d_3 + (1 : Int)))))) else some ⟨o_impl_ValidPrime, (true, ())⟩) := (hw _ _).trans (by kernel_rfl)
theorem impl_ValidPrime.ev (R : Run) (N : Nat) (a0 : Int) : evFn E R sg_impl_ValidPrime pol_impl_ValidPrime F_impl_ValidPrime N [⟨(.int .i64), a0⟩] = (Option.bind (callT R n_impl_within o_impl_within [⟨(.int .i64), a0⟩, ⟨(.int .i64), (2 : Int)⟩, ⟨(.int .i64), (251 : Int)⟩]) fun r1 => (bif (!r1.1) then some ⟨o_impl_ValidPrime, (false, ())⟩ else (impl_ValidPrime.l0 R N N a0 (2 : Int)))) := by kernel_rfl
/-! loop.example/g01005/impl.size[[]int64] -/
theorem impl_size_Sint64.ev (R : Run) (N : Nat) (a0 : (List (List Int))) : evFn E R sg_impl_size_Sint64 pol_impl_size_Sint64 F_impl_size_Sint64 N [⟨(.sl (.sl (.int .i64))), a0⟩] = some ⟨o_impl_size_Sint64, ((List.length a0 : Int), ())⟩ := by kernel_rfl
/-! loop.example/g01005/impl.faceIndices -/
noncomputable def impl_faceIndices.l0 (R : Run) (N : Nat) (n : Nat) (t13__3 : (List (List Int))) (t14__4 : Int) (t15__5 : Int) (c_6 : (List (List Int))) (o24_7 : (List Int)) : Option Dv := R.w (some ⟨[V.dead, V.dead, .c (.box 2 0), V.dead, V.dead, .c (.arr 24), V.dead, V.dead, V.dead, V.dead, V.dead, V.dead, V.dead, .c (.d (.sl (.sl (.int .i64))) t13__3), .c (.d (.int .i64) t14__4), .c (.d (.int .i64) t15__5), V.dead, V.dead, V.dead, V.dead, V.dead, V.dead, V.dead, V.dead, V.dead, V.dead, V.dead], [none, none, some (.box [.d (.sl (.sl (.int .i64))) c_6] false false), none, none, none, none, none, none, none, none, none, none, none, none, none, none, none, none, none, none, none, none, none, some (.arr (.int .i64) o24_7 true false false), none, none, none, none]⟩) fun st => loopC (evCode E R pol_impl_faceIndices N (sub [1, 1, 0, 1, 0, 0] (bodyOf F_impl_faceIndices))) (maskAt R pol_impl_faceIndices.loopM 3) n st (kBlk (maskAt R pol_impl_faceIndices.blkM 0) 0 (kSeq (maskAt R pol_impl_faceIndices.seqM 7) (evCode E R pol_impl_faceIndices N (sub [1, 1, 1] (bodyOf F_impl_faceIndices))) (kTop E sg_impl_faceIndices F_impl_faceIndices)))
theorem impl_faceIndices.l0_zero (R : Run) (hw : R.ok) (N : Nat) (t13__3 : (List (List Int))) (t14__4 : Int) (t15__5 : Int) (c_6 : (List (List Int))) (o24_7 : (List Int)) : impl_faceIndices.l0 R N 0 t13__3 t14__4 t15__5 c_6 o24_7 = none := (hw _ _).trans (by kernel_rfl)
theorem impl_faceIndices.l0_succ (R : Run) (hw : R.ok) (N : Nat) (n : Nat) (t13__3 : (List (List Int))) (t14__4 : Int) (t15__5 : Int) (c_6 : (List (List Int))) (o24_7 : (List Int)) : impl_faceIndices.l0 R N (n + 1) t13__3 t14__4 t15__5 c_6 o24_7 = (bif (decide (t15__5 < t14__4)) then (Option.bind (idx? t13__3 t15__5) fun y8 => (Option.bind (callT R n_impl_indexOf o_impl_indexOf [⟨(.sl (.sl (.int .i64))), c_6⟩, ⟨(.sl (.int .i64)), (y8, ()).1⟩]) fun r9 => (Option.bind (chk (decide ((List.length o24_7 + List.length [r9.1]) * 8 ≤ 70368744177664))) fun _ => (impl_faceIndices.l0 R N n t13__3 t14__4 (w64 (t15__5 + (1 : Int))) c_6 (o24_7 ++ [r9.1]))))) else some ⟨o_impl_faceIndices, (o24_7, ())⟩) := (hw _ _).trans (by kernel_rfl)
theorem impl_faceIndices.ev (R : Run) (N : Nat) (a0 : (List (List Int))) (a1 : Int) : evFn E R sg_impl_faceIndices pol_impl_faceIndices F_impl_faceIndices N [⟨(.sl (.sl (.int .i64))), a0⟩, ⟨(.int .i64), a1⟩] = (Option.bind (idx? a0 a1) fun y1 => (Option.bind (callT R n_impl_facesOf o_impl_facesOf [⟨(.sl (.int .i64)), (y1, ()).1⟩]) fun r2 => (impl_faceIndices.l0 R N N r2.1 (List.length r2.1 : Int) (0 : Int) a0 ([] : List Int)))) := by kernel_rfl
/-! loop.example/g01005/impl.arrows -/
noncomputable def impl_arrows.l1 (R : Run) (N : Nat) (n110100 : Nat) (n : Nat) (k_7 : Int) (t9__8 : Int) (t10__9 : Int) (t15__10 : (List Int)) (t16__11 : Int) (t17__12 : Int) (c_13 : (List (List Int))) (o28_14 : (List (Int × Int × Int × Unit))) : Option Dv := R.w (some ⟨[V.dead, .c (.box 1 0), V.dead, .c (.arr 28), .c (.d (.int .i64) k_7), V.dead, V.dead, V.dead, V.dead, .c (.d (.int .i64) t9__8), .c (.d (.int .i64) t10__9), V.dead, V.dead, V.dead, V.dead, .c (.d (.sl (.int .i64)) t15__10), .c (.d (.int .i64) t16__11), .c (.d (.int .i64) t17__12), V.dead, V.dead, V.dead, V.dead, V.dead, V.dead, V.dead, V.dead, V.dead, V.dead, V.dead, V.dead, V.dead, V.dead], [none, some (.box [.d (.sl (.sl (.int .i64))) c_13] false false), none, none, none, none, none, none, none, none, none, none, none, none, none, none, none, none, none, none, none, none, none, none, none, none, none, none, some (.arr (.st (.cons (.int .i64) (.cons (.int .i64) (.cons (.int .i64) .nil)))) o28_14 true false false), none, none, none, none]⟩) fun st => loopC (evCode E R pol_impl_arrows N (sub [1, 1, 0, 1, 0, 0, 1, 1, 0, 0, 1, 1, 0, 0] (bodyOf F_impl_arrows))) (maskAt R pol_impl_arrows.loopM 6) n st (kBlk (maskAt R pol_impl_arrows.blkM 2) 2 (kBlk (maskAt R pol_impl_arrows.blkM 1) 1 (kSeq (maskAt R pol_impl_arrows.seqM 10) (evCode E R pol_impl_arrows N (sub [1, 1, 0, 1, 0, 0, 1, 1, 1] (bodyOf F_impl_arrows))) (kLoop (evCode E R pol_impl_arrows N (sub [1, 1, 0, 1, 0, 0] (bodyOf F_impl_arrows))) (maskAt R pol_impl_arrows.loopM 3) n110100 (kBlk (maskAt R pol_impl_arrows.blkM 0) 0 (kSeq (maskAt R pol_impl_arrows.seqM 11) (evCode E R pol_impl_arrows N (sub [1, 1, 1] (bodyOf F_impl_arrows))) (kTop E sg_impl_arrows F_impl_arrows)))))))
noncomputable def impl_arrows.l0 (R : Run) (N : Nat) (n : Nat) (t9__2 : Int) (t10__3 : Int) (c_4 : (List (List Int))) (o28_5 : (List (Int × Int × Int × Unit))) : Option Dv := R.w (some ⟨[V.dead, .c (.box 1 0), V.dead, .c (.arr 28), V.dead, V.dead, V.dead, V.dead, V.dead, .c (.d (.int .i64) t9__2), .c (.d (.int .i64) t10__3), V.dead, V.dead, V.dead, V.dead, V.dead, V.dead, V.dead, V.dead, V.dead, V.dead, V.dead, V.dead, V.dead, V.dead, V.dead, V.dead, V.dead, V.dead, V.dead, V.dead, V.dead], [none, some (.box [.d (.sl (.sl (.int .i64))) c_4] false false), none, none, none, none, none, none, none, none, none, none, none, none, none, none, none, none, none, none, none, none, none, none, none, none, none, none, some (.arr (.st (.cons (.int .i64) (.cons (.int .i64) (.cons (.int .i64) .nil)))) o28_5 true false false), none, none, none, none]⟩) fun st => loopC (evCode E R pol_impl_arrows N (sub [1, 1, 0, 1, 0, 0] (bodyOf F_impl_arrows))) (maskAt R pol_impl_arrows.loopM 3) n st (kBlk (maskAt R pol_impl_arrows.blkM 0) 0 (kSeq (maskAt R pol_impl_arrows.seqM 11) (evCode E R pol_impl_arrows N (sub [1, 1, 1] (bodyOf F_impl_arrows))) (kTop E sg_impl_arrows F_impl_arrows)))
theorem impl_arrows.l1_zero (R : Run) (hw : R.ok) (N : Nat) (n110100 : Nat) (k_7 : Int) (t9__8 : Int) (t10__9 : Int) (t15__10 : (List Int)) (t16__11 : Int) (t17__12 : Int) (c_13 : (List (List Int))) (o28_14 : (List (Int × Int × Int × Unit))) : impl_arrows.l1 R N n110100 0 k_7 t9__8 t10__9 t15__10 t16__11 t17__12 c_13 o28_14 = none := (hw _ _).trans (by kernel_rfl)
theorem impl_arrows.l1_succ (R : Run) (hw : R.ok) (N : Nat) (n110100 : Nat) (n : Nat) (k_7 : Int) (t9__8 : Int) (t10__9 : Int) (t15__10 : (List Int)) (t16__11 : Int) (t17__12 : Int) (c_13 : (List (List Int))) (o28_14 : (List (Int × Int × Int × Unit))) : impl_arrows.l1 R N n110100 (n + 1) k_7 t9__8 t10__9 t15__10 t16__11 t17__12 c_13 o28_14 = (bif (decide (t17__12 < t16__11)) then (Option.bind (idx? t15__10 t17__12) fun y15 => (Option.bind (chk (decide ((List.length o28_14 + List.length [(k_7, t17__12, (y15, ()).1, ())]) * 24 ≤ 70368744177664))) fun _ => (impl_arrows.l1 R N n110100 n k_7 t9__8 t10__9 t15__10 t16__11 (w64 (t17__12 + (1 : Int))) c_13 (o28_14 ++ [(k_7, t17__12, (y15, ()).1, ())])))) else (impl_arrows.l0 R N n110100 t9__8 (w64 (t10__9 + (1 : Int))) c_13 o28_14)) := (hw _ _).trans (by kernel_rfl)
theorem impl_arrows.l0_zero (R : Run) (hw : R.ok) (N : Nat) (t9__2 : Int) (t10__3 : Int) (c_4 : (List (List Int))) (o28_5 : (List (Int × Int × Int × Unit))) : impl_arrows.l0 R N 0 t9__2 t10__3 c_4 o28_5 = none := (hw _ _).trans (by kernel_rfl)
theorem impl_arrows.l0_succ (R : Run) (hw : R.ok) (N : Nat) (n : Nat) (t9__2 : Int) (t10__3 : Int) (c_4 : (List (List Int))) (o28_5 : (List (Int × Int × Int × Unit))) : impl_arrows.l0 R N (n + 1) t9__2 t10__3 c_4 o28_5 = (bif (decide (t10__3 < t9__2)) then (Option.bind (callT R n_impl_faceIndices o_impl_faceIndices [⟨(.sl (.sl (.int .i64))), c_4⟩, ⟨(.int .i64), t10__3⟩]) fun r6 => (impl_arrows.l1 R N n N t10__3 t9__2 t10__3 r6.1 (List.length r6.1 : Int) (0 : Int) c_4 o28_5)) else some ⟨o_impl_arrows, (o28_5, ())⟩) := (hw _ _).trans (by kernel_rfl)
theorem impl_arrows.ev (R : Run) (N : Nat) (a0 : (List (List Int))) : evFn E R sg_impl_arrows pol_impl_arrows F_impl_arrows N [⟨(.sl (.sl (.int .i64))), a0⟩] = (Option.bind (callT R n_impl_size_Sint64 o_impl_size_Sint64 [⟨(.sl (.sl (.int .i64))), a0⟩]) fun r1 => (impl_arrows.l0 R N N r1.1 (0 : Int) a0 ([] : List (Int × Int × Int × Unit)))) := by kernel_rfl
/-! loop.example/g01005/impl.isSide -/
theorem impl_isSide.ev (R : Run) (N : Nat) (a0 : Int) : evFn E R sg_impl_isSide pol_impl_isSide F_impl_isSide N [⟨(.int .i64), a0⟩] = (Option.bind (callT R n_impl_within o_impl_within [⟨(.int .i64), a0⟩, ⟨(.int .i64), (0 : Int)⟩, ⟨(.int .i64), (32 : Int)⟩]) fun r1 => some ⟨o_impl_isSide, (r1.1, ())⟩) := by kernel_rfl
/-! loop.example/g01005/impl.size[int64] -/
theorem impl_size_int64.ev (R : Run) (N : Nat) (a0 : (List Int)) : evFn E R sg_impl_size_int64 pol_impl_size_int64 F_impl_size_int64 N [⟨(.sl (.int .i64)), a0⟩] = some ⟨o_impl_size_int64, ((List.length a0 : Int), ())⟩ := by kernel_rfl
/-! loop.example/g01005/impl.isElement -/
theorem impl_isElement.ev (R : Run) (N : Nat) (a0 : Int) (a1 : Int) : evFn E R sg_impl_isElement pol_impl_isElement F_impl_isElement N [⟨(.int .i64), a0⟩, ⟨(.int .i64), a1⟩] = (Option.bind (callT R n_impl_within o_impl_within [⟨(.int .i64), a0⟩, ⟨(.int .i64), (0 : Int)⟩, ⟨(.int .i64), (w64 (a1 - (1 : Int)))⟩]) fun r1 => some ⟨o_impl_isElement, (r1.1, ())⟩) := by kernel_rfl
/-! loop.example/g01005/impl.areElements$1 -/
theorem impl_areElements_1.ev (R : Run) (N : Nat) (a0 : Int) (a1 : (Int × Unit)) : evFn E R sg_impl_areElements_1 pol_impl_areElements_1 F_impl_areElements_1 N [⟨(.int .i64), a0⟩, ⟨(.ptr (.cons (.int .i64) .nil)), a1⟩] = (Option.bind (callT R n_impl_isElement o_impl_isElement [⟨(.int .i64), a0⟩, ⟨(.int .i64), a1.1⟩]) fun r1 => some ⟨o_impl_areElements_1, ((!r1.1), ())⟩) := by kernel_rfl
/-! slices.IndexFunc[[]int64,int64] -/
noncomputable def slices_IndexFunc_Sint64_int64_impl_areElements_1.l0 (R : Run) (N : Nat) (n : Nat) (s_1 : (List Int)) (f_2 : ((Int × Unit) × Unit)) (t7__3 : Int) (t8__4 : Int) : Option Dv := R.w (some ⟨[.c (.d (.sl (.int .i64)) s_1), .c (.d (.fn n_impl_areElements_1 (.cons (.ptr (.cons (.int .i64) .nil)) .nil)) f_2), V.dead, V.dead, V.dead, V.dead, V.dead, .c (.d (.int .i64) t7__3), .c (.d (.int .i64) t8__4), V.dead, V.dead, V.dead, V.dead, V.dead, V.dead, V.dead, V.dead, V.dead, V.dead], [none, none, none, none, none, none, none, none, none, none, none, none, none, none, none, none, none, none, none, none, none]⟩) fun st => loopC (evCode E R pol_slices_IndexFunc_Sint64_int64 N (sub [1, 0, 1, 0, 0] (bodyOf F_slices_IndexFunc_Sint64_int64))) (maskAt R pol_slices_IndexFunc_Sint64_int64.loopM 2) n st (kBlk (maskAt R pol_slices_IndexFunc_Sint64_int64.blkM 0) 0 (kSeq (maskAt R pol_slices_IndexFunc_Sint64_int64.seqM 7) (evCode E R pol_slices_IndexFunc_Sint64_int64 N (sub [1, 1] (bodyOf F_slices_IndexFunc_Sint64_int64))) (kTop E sg_slices_IndexFunc_Sint64_int64 F_slices_IndexFunc_Sint64_int64)))
theorem slices_IndexFunc_Sint64_int64_impl_areElements_1.l0_zero (R : Run) (hw : R.ok) (N : Nat) (s_1 : (List Int)) (f_2 : ((Int × Unit) × Unit)) (t7__3 : Int) (t8__4 : Int) : slices_IndexFunc_Sint64_int64_impl_areElements_1.l0 R N 0 s_1 f_2 t7__3 t8__4 = none := (hw _ _).trans (by kernel_rfl)
theorem slices_IndexFunc_Sint64_int64_impl_areElements_1.l0_succ (R : Run) (hw : R.ok) (N : Nat) (n : Nat) (s_1 : (List Int)) (f_2 : ((Int × Unit) × Unit)) (t7__3 : Int) (t8__4 : Int) : slices_IndexFunc_Sint64_int64_impl_areElements_1.l0 R N (n + 1) s_1 f_2 t7__3 t8__4 = (bif (decide (t8__4 < t7__3)) then (Option.bind (idx? s_1 t8__4) fun y5 => (Option.bind (callT R n_impl_areElements_1 o_impl_areElements_1 [⟨(.int .i64), (y5, ()).1⟩, ⟨(.ptr (.cons (.int .i64) .nil)), f_2.1⟩]) fun r6 => (bif r6.1 then some ⟨o_slices_IndexFunc_Sint64_int64, (t8__4, ())⟩ else (slices_IndexFunc_Sint64_int64_impl_areElements_1.l0 R N n s_1 f_2 t7__3 (w64 (t8__4 + (1 : Int))))))) else some ⟨o_slices_IndexFunc_Sint64_int64, ((-1 : Int), ())⟩) := (hw _ _).trans (by kernel_rfl)
theorem slices_IndexFunc_Sint64_int64_impl_areElements_1.ev (R : Run) (N : Nat) (a0 : (List Int)) (a1 : ((Int × Unit) × Unit)) : evFn E R sg_slices_IndexFunc_Sint64_int64 pol_slices_IndexFunc_Sint64_int64 F_slices_IndexFunc_Sint64_int64 N [⟨(.sl (.int .i64)), a0⟩, ⟨(.fn n_impl_areElements_1 (.cons (.ptr (.cons (.int .i64) .nil)) .nil)), a1⟩] = (slices_IndexFunc_Sint64_int64_impl_areElements_1.l0 R N N a0 a1 (List.length a0 : Int) (0 : Int)) := by kernel_rfl
/-! slices.ContainsFunc[[]int64,int64] -/
theorem slices_ContainsFunc_Sint64_int64_impl_areElements_1.ev (R : Run) (N : Nat) (a0 : (List Int)) (a1 : ((Int × Unit) × Unit)) : evFn E R sg_slices_ContainsFunc_Sint64_int64 pol_slices_ContainsFunc_Sint64_int64 F_slices_ContainsFunc_Sint64_int64 N [⟨(.sl (.int .i64)), a0⟩, ⟨(.fn n_impl_areElements_1 (.cons (.ptr (.cons (.int .i64) .nil)) .nil)), a1⟩] = (Option.bind (callT R n_slices_IndexFunc_Sint64_int64 o_slices_IndexFunc_Sint64_int64 [⟨(.sl (.int .i64)), a0⟩, ⟨(.fn n_impl_areElements_1 (.cons (.ptr (.cons (.int .i64) .nil)) .nil)), a1⟩]) fun r1 => some ⟨o_slices_ContainsFunc_Sint64_int64, ((decide (r1.1 ≥ (0 : Int))), ())⟩) := by kernel_rfl
/-! loop.example/g01005/impl.areElements -/
theorem impl_areElements.ev (R : Run) (N : Nat) (a0 : (List Int)) (a1 : Int) : evFn E R sg_impl_areElements pol_impl_areElements F_impl_areElements N [⟨(.sl (.int .i64)), a0⟩, ⟨(.int .i64), a1⟩] = (Option.bind (callT R n_slices_ContainsFunc_Sint64_int64 o_slices_ContainsFunc_Sint64_int64 [⟨(.sl (.int .i64)), a0⟩, ⟨(.fn n_impl_areElements_1 (.cons (.ptr (.cons (.int .i64) .nil)) .nil)), ((a1, ()), ())⟩]) fun r1 => some ⟨o_impl_areElements, ((!r1.1), ())⟩) := by kernel_rfl
/-! loop.example/g01005/impl.ValidMatrix -/
theorem impl_ValidMatrix.ev (R : Run) (N : Nat) (a0 : Int) (a1 : Int) (a2 : Int) (a3 : (List Int)) : evFn E R sg_impl_ValidMatrix pol_impl_ValidMatrix F_impl_ValidMatrix N [⟨(.int .i64), a0⟩, ⟨(.int .i64), a1⟩, ⟨(.int .i64), a2⟩, ⟨(.sl (.int .i64)), a3⟩] = (Option.bind (callT R n_impl_ValidPrime o_impl_ValidPrime [⟨(.int .i64), a0⟩]) fun r1 => (bif r1.1 then (Option.bind (callT R n_impl_isSide o_impl_isSide [⟨(.int .i64), a1⟩]) fun r2 => (bif r2.1 then (Option.bind (callT R n_impl_isSide o_impl_isSide [⟨(.int .i64), a2⟩]) fun r3 => (bif r3.1 then (Option.bind (callT R n_impl_size_int64 o_impl_size_int64 [⟨(.sl (.int .i64)), a3⟩]) fun r4 => (bif (r4.1 == (w64 (a1 * a2))) then (Option.bind (callT R n_impl_areElements o_impl_areElements [⟨(.sl (.int .i64)), a3⟩, ⟨(.int .i64), a0⟩]) fun r5 => some ⟨o_impl_ValidMatrix, (r5.1, ())⟩) else some ⟨o_impl_ValidMatrix, (false, ())⟩)) else some ⟨o_impl_ValidMatrix, (false, ())⟩)) else some ⟨o_impl_ValidMatrix, (false, ())⟩)) else some ⟨o_impl_ValidMatrix, (false, ())⟩)) := by kernel_rfl
/-! loop.example/g01005/impl.isBetween -/
theorem impl_isBetween.ev (R : Run) (N : Nat) (a0 : Int) (a1 : Int) (a2 : Int) (a3 : (List Int)) (a4 : Int) (a5 : Int) (a6 : Int) : evFn E R sg_impl_isBetween pol_impl_isBetween F_impl_isBetween N [⟨(.int .i64), a0⟩, ⟨(.int .i64), a1⟩, ⟨(.int .i64), a2⟩, ⟨(.sl (.int .i64)), a3⟩, ⟨(.int .i64), a4⟩, ⟨(.int .i64), a5⟩, ⟨(.int .i64), a6⟩] = (Option.bind (callT R n_impl_ValidMatrix o_impl_ValidMatrix [⟨(.int .i64), a0⟩, ⟨(.int .i64), a1⟩, ⟨(.int .i64), a2⟩, ⟨(.sl (.int .i64)), a3⟩]) fun r1 => (bif r1.1 then (bif (a0 == a4) then (bif (a1 == a6) then some ⟨o_impl_isBetween, ((a2 == a5), ())⟩ else some ⟨o_impl_isBetween, (false, ())⟩) else some ⟨o_impl_isBetween, (false, ())⟩) else some ⟨o_impl_isBetween, (false, ())⟩)) := by kernel_rfl
/-! loop.example/g01005/impl.areStalks$1 -/
theorem impl_areStalks_1.ev (R : Run) (N : Nat) (a0 : Int) : evFn E R sg_impl_areStalks_1 pol_impl_areStalks_1 F_impl_areStalks_1 N [⟨(.int .i64), a0⟩] = (Option.bind (callT R n_impl_within o_impl_within [⟨(.int .i64), a0⟩, ⟨(.int .i64), (0 : Int)⟩, ⟨(.int .i64), (3 : Int)⟩]) fun r1 => some ⟨o_impl_areStalks_1, ((!r1.1), ())⟩) := by kernel_rfl
/-! slices.IndexFunc[[]int64,int64] -/
noncomputable def slices_IndexFunc_Sint64_int64_impl_areStalks_1.l0 (R : Run) (N : Nat) (n : Nat) (s_1 : (List Int)) (t7__2 : Int) (t8__3 : Int) : Option Dv := R.w (some ⟨[.c (.d (.sl (.int .i64)) s_1), .c (.d (.fn n_impl_areStalks_1 .nil) ()), V.dead, V.dead, V.dead, V.dead, V.dead, .c (.d (.int .i64) t7__2), .c (.d (.int .i64) t8__3), V.dead, V.dead, V.dead, V.dead, V.dead, V.dead, V.dead, V.dead, V.dead, V.dead], [none, none, none, none, none, none, none, none, none, none, none, none, none, none, none, none, none, none, none, none, none]⟩) fun st => loopC (evCode E R pol_slices_IndexFunc_Sint64_int64 N (sub [1, 0, 1, 0, 0] (bodyOf F_slices_IndexFunc_Sint64_int64))) (maskAt R pol_slices_IndexFunc_Sint64_int64.loopM 2) n st (kBlk (maskAt R pol_slices_IndexFunc_Sint64_int64.blkM 0) 0 (kSeq (maskAt R pol_slices_IndexFunc_Sint64_int64.seqM 7) (evCode E R pol_slices_IndexFunc_Sint64_int64 N (sub [1, 1] (bodyOf F_slices_IndexFunc_Sint64_int64))) (kTop E sg_slices_IndexFunc_Sint64_int64 F_slices_IndexFunc_Sint64_int64)))
theorem slices_IndexFunc_Sint64_int64_impl_areStalks_1.l0_zero (R : Run) (hw : R.ok) (N : Nat) (s_1 : (List Int)) (t7__2 : Int) (t8__3 : Int) : slices_IndexFunc_Sint64_int64_impl_areStalks_1.l0 R N 0 s_1 t7__2 t8__3 = none := (hw _ _).trans (by kernel_rfl)
theorem slices_IndexFunc_Sint64_int64_impl_areStalks_1.l0_succ (R : Run) (hw : R.ok) (N : Nat) (n : Nat) (s_1 : (List Int)) (t7__2 : Int) (t8__3 : Int) : slices_IndexFunc_Sint64_int64_impl_areStalks_1.l0 R N (n + 1) s_1 t7__2 t8__3 = (bif (decide (t8__3 < t7__2)) then (Option.bind (idx? s_1 t8__3) fun y4 => (Option.bind (callT R n_impl_areStalks_1 o_impl_areStalks_1 [⟨(.int .i64), (y4, ()).1⟩]) fun r5 => (bif r5.1 then some ⟨o_slices_IndexFunc_Sint64_int64, (t8__3, ())⟩ else (slices_IndexFunc_Sint64_int64_impl_areStalks_1.l0 R N n s_1 t7__2 (w64 (t8__3 + (1 : Int))))))) else some ⟨o_slices_IndexFunc_Sint64_int64, ((-1 : Int), ())⟩) := (hw _ _).trans (by kernel_rfl)
theorem slices_IndexFunc_Sint64_int64_impl_areStalks_1.ev (R : Run) (N : Nat) (a0 : (List Int)) : evFn E R sg_slices_IndexFunc_Sint64_int64 pol_slices_IndexFunc_Sint64_int64 F_slices_IndexFunc_Sint64_int64 N [⟨(.sl (.int .i64)), a0⟩, ⟨(.fn n_impl_areStalks_1 .nil), ()⟩] = (slices_IndexFunc_Sint64_int64_impl_areStalks_1.l0 R N N a0 (List.length a0 : Int) (0 : Int)) := by kernel_rfl
/-! slices.ContainsFunc[[]int64,int64] -/
theorem slices_ContainsFunc_Sint64_int64_impl_areStalks_1.ev (R : Run) (N : Nat) (a0 : (List Int)) : evFn E R sg_slices_ContainsFunc_Sint64_int64 pol_slices_ContainsFunc_Sint64_int64 F_slices_ContainsFunc_Sint64_int64 N [⟨(.sl (.int .i64)), a0⟩, ⟨(.fn n_impl_areStalks_1 .nil), ()⟩] = (Option.bind (callT R n_slices_IndexFunc_Sint64_int64 o_slices_IndexFunc_Sint64_int64 [⟨(.sl (.int .i64)), a0⟩, ⟨(.fn n_impl_areStalks_1 .nil), ()⟩]) fun r1 => some ⟨o_slices_ContainsFunc_Sint64_int64, ((decide (r1.1 ≥ (0 : Int))), ())⟩) := by kernel_rfl
/-! loop.example/g01005/impl.simplicesOf -/
noncomputable def impl_simplicesOf.l0 (R : Run) (N : Nat) (n : Nat) (dimension_1 : Int) (t9__2 : (List (List Int))) (t10__3 : Int) (t11__4 : Int) (o24_5 : (List Int)) : Option Dv := R.w (some ⟨[V.dead, .c (.d (.int .i64) dimension_1), V.dead, V.dead, V.dead, .c (.arr 24), V.dead, V.dead, V.dead, .c (.d (.sl (.sl (.int .i64))) t9__2), .c (.d (.int .i64) t10__3), .c (.d (.int .i64) t11__4), V.dead, V.dead, V.dead, V.dead, V.dead, V.dead, V.dead, V.dead, V.dead, V.dead, V.dead, V.dead, V.dead, V.dead, V.dead], [none, none, none, none, none, none, none, none, none, none, none, none, none, none, none, none, none, none, none, none, none, none, none, none, some (.arr (.int .i64) o24_5 true false false), none, none, none, none]⟩) fun st => loopC (evCode E R pol_impl_simplicesOf N (sub [1, 1, 0, 1, 0, 0] (bodyOf F_impl_simplicesOf))) (maskAt R pol_impl_simplicesOf.loopM 3) n st (kBlk (maskAt R pol_impl_simplicesOf.blkM 0) 0 (kSeq (maskAt R pol_impl_simplicesOf.seqM 8) (evCode E R pol_impl_simplicesOf N (sub [1, 1, 1] (bodyOf F_impl_simplicesOf))) (kTop E sg_impl_simplicesOf F_impl_simplicesOf)))
theorem impl_simplicesOf.l0_zero (R : Run) (hw : R.ok) (N : Nat) (dimension_1 : Int) (t9__2 : (List (List Int))) (t10__3 : Int) (t11__4 : Int) (o24_5 : (List Int)) : impl_simplicesOf.l0 R N 0 dimension_1 t9__2 t10__3 t11__4 o24_5 = none := (hw _ _).trans (by kernel_rfl)
theorem impl_simplicesOf.l0_succ (R : Run) (hw : R.ok) (N : Nat) (n : Nat) (dimension_1 : Int) (t9__2 : (List (List Int))) (t10__3 : Int) (t11__4 : Int) (o24_5 : (List Int)) : impl_simplicesOf.l0 R N (n + 1) dimension_1 t9__2 t10__3 t11__4 o24_5 = (bif (decide (t11__4 < t10__3)) then (Option.bind (idx? t9__2 t11__4) fun y6 => (Option.bind (callT R n_impl_size_int64 o_impl_size_int64 [⟨(.sl (.int .i64)), (y6, ()).1⟩]) fun r7 => (bif (r7.1 == (w64 (dimension_1 + (1 : Int)))) then (Option.bind (chk (decide ((List.length o24_5 + List.length [t11__4]) * 8 ≤ 70368744177664))) fun _ => (impl_simplicesOf.l0 R N n dimension_1 t9__2 t10__3 (w64 (t11__4 + (1 : Int))) (o24_5 ++ [t11__4]))) else (impl_simplicesOf.l0 R N n dimension_1 t9__2 t10__3 (w64 (t11__4 + (1 : Int))) o24_5)))) else some ⟨o_impl_simplicesOf, (o24_5, ())⟩) := (hw _ _).trans (by kernel_rfl)
theorem impl_simplicesOf.ev (R : Run) (N : Nat) (a0 : (List (List Int))) (a1 : Int) : evFn E R sg_impl_simplicesOf pol_impl_simplicesOf F_impl_simplicesOf N [⟨(.sl (.sl (.int .i64))), a0⟩, ⟨(.int .i64), a1⟩] = (impl_simplicesOf.l0 R N N a1 a0 (List.length a0 : Int) (0 : Int) ([] : List Int)) := by kernel_rfl
/-! loop.example/g01005/impl.stalkSum -/
noncomputable def impl_stalkSum.l0 (R : Run) (N : Nat) (n : Nat) (sum_2 : Int) (t11__3 : (List Int)) (t12__4 : Int) (t13__5 : Int) (s_6 : (List (List Int))) (s_7 : Int) (s_8 : (List Int)) (s_9 : (List (Int × Int × Int × (List Int) × Unit))) : Option Dv := R.w (some ⟨[V.dead, V.dead, .c (.box 2 0), V.dead, V.dead, .c (.d (.int .i64) sum_2), V.dead, V.dead, V.dead, V.dead, V.dead, .c (.d (.sl (.int .i64)) t11__3), .c (.d (.int .i64) t12__4), .c (.d (.int .i64) t13__5), V.dead, V.dead, V.dead, V.dead, V.dead, V.dead, V.dead, V.dead, V.dead, V.dead, V.dead, V.dead], [none, none, some (.box [.d (.sl (.sl (.int .i64))) s_6, .d (.int .i64) s_7, .d (.sl (.int .i64)) s_8, .d (.sl (.st (.cons (.int .i64) (.cons (.int .i64) (.cons (.int .i64) (.cons (.sl (.int .i64)) .nil)))))) s_9] false false), none, none, none, none, none, none, none, none, none, none, none, none, none, none, none, none, none, none, none, none, none, none, none, none, none, none, none, none]⟩) fun st => loopC (evCode E R pol_impl_stalkSum N (sub [1, 1, 0, 1, 0, 0] (bodyOf F_impl_stalkSum))) (maskAt R pol_impl_stalkSum.loopM 3) n st (kBlk (maskAt R pol_impl_stalkSum.blkM 0) 0 (kSeq (maskAt R pol_impl_stalkSum.seqM 7) (evCode E R pol_impl_stalkSum N (sub [1, 1, 1] (bodyOf F_impl_stalkSum))) (kTop E sg_impl_stalkSum F_impl_stalkSum)))
theorem impl_stalkSum.l0_zero (R : Run) (hw : R.ok) (N : Nat) (sum_2 : Int) (t11__3 : (List Int)) (t12__4 : Int) (t13__5 : Int) (s_6 : (List (List Int))) (s_7 : Int) (s_8 : (List Int)) (s_9 : (List (Int × Int × Int × (List Int) × Unit))) : impl_stalkSum.l0 R N 0 sum_2 t11__3 t12__4 t13__5 s_6 s_7 s_8 s_9 = none := (hw _ _).trans (by kernel_rfl)
theorem impl_stalkSum.l0_succ (R : Run) (hw : R.ok) (N : Nat) (n : Nat) (sum_2 : Int) (t11__3 : (List Int)) (t12__4 : Int) (t13__5 : Int) (s_6 : (List (List Int))) (s_7 : Int) (s_8 : (List Int)) (s_9 : (List (Int × Int × Int × (List Int) × Unit))) : impl_stalkSum.l0 R N (n + 1) sum_2 t11__3 t12__4 t13__5 s_6 s_7 s_8 s_9 = (bif (decide (t13__5 < t12__4)) then (Option.bind (idx? t11__3 t13__5) fun y10 => (Option.bind (idx? s_8 (y10, ()).1) fun y11 => (impl_stalkSum.l0 R N n (w64 (sum_2 + (y11, ()).1)) t11__3 t12__4 (w64 (t13__5 + (1 : Int))) s_6 s_7 s_8 s_9))) else some ⟨o_impl_stalkSum, (sum_2, ())⟩) := (hw _ _).trans (by kernel_rfl)
theorem impl_stalkSum.ev (R : Run) (N : Nat) (a0 : (List (List Int))) (a1 : Int) (a2 : (List Int)) (a3 : (List (Int × Int × Int × (List Int) × Unit))) (a4 : Int) : evFn E R sg_impl_stalkSum pol_impl_stalkSum F_impl_stalkSum N [⟨(.sl (.sl (.int .i64))), a0⟩, ⟨(.int .i64), a1⟩, ⟨(.sl (.int .i64)), a2⟩, ⟨(.sl (.st (.cons (.int .i64) (.cons (.int .i64) (.cons (.int .i64) (.cons (.sl (.int .i64)) .nil)))))), a3⟩, ⟨(.int .i64), a4⟩] = (Option.bind (callT R n_impl_simplicesOf o_impl_simplicesOf [⟨(.sl (.sl (.int .i64))), a0⟩, ⟨(.int .i64), a4⟩]) fun r1 => (impl_stalkSum.l0 R N N (0 : Int) r1.1 (List.length r1.1 : Int) (0 : Int) a0 a1 a2 a3)) := by kernel_rfl
/-! loop.example/g01005/impl.areStalks -/
noncomputable def impl_areStalks.l1 (R : Run) (N : Nat) (n : Nat) (stalks_4 : (List Int)) (t16__5 : Int) (c_6 : (List (List Int))) : Option Dv := R.w (some ⟨[V.dead, .c (.d (.sl (.int .i64)) stalks_4), .c (.box 2 0), V.dead, V.dead, V.dead, V.dead, V.dead, V.dead, V.dead, V.dead, V.dead, V.dead, V.dead, V.dead, V.dead, .c (.d (.int .i64) t16__5), V.dead, V.dead, V.dead, V.dead, V.dead, V.dead, V.dead, V.dead, V.dead], [none, none, some (.box [.d (.sl (.sl (.int .i64))) c_6] false false), none, none, none, none, none, none, none, none, none, none, none, none, none, none, none, none, none, none, none, none, none, none, none, none, none]⟩) fun st => loopC (evCode E R pol_impl_areStalks N (sub [1, 1, 0, 1, 0, 0] (bodyOf F_impl_areStalks))) (maskAt R pol_impl_areStalks.loopM 4) n st (kBlk (maskAt R pol_impl_areStalks.blkM 0) 0 (kSeq (maskAt R pol_impl_areStalks.seqM 9) (evCode E R pol_impl_areStalks N (sub [1, 1, 1] (bodyOf F_impl_areStalks))) (kTop E sg_impl_areStalks F_impl_areStalks)))
noncomputable def impl_areStalks.j0 (R : Run) (N : Nat) (stalks_1 : (List Int)) (t15__2 : Bool) (c_3 : (List (List Int))) : Option Dv := R.w (some ⟨[V.dead, .c (.d (.sl (.int .i64)) stalks_1), .c (.box 2 0), V.dead, V.dead, V.dead, V.dead, V.dead, V.dead, V.dead, V.dead, V.dead, V.dead, V.dead, V.dead, .c (.d .bool t15__2), V.dead, V.dead, V.dead, V.dead, V.dead, V.dead, V.dead, V.dead, V.dead, V.dead], [none, none, some (.box [.d (.sl (.sl (.int .i64))) c_3] false false), none, none, none, none, none, none, none, none, none, none, none, none, none, none, none, none, none, none, none, none, none, none, none, none, none]⟩) fun st => evCode E R pol_impl_areStalks N (sub [1, 0, 1] (bodyOf F_impl_areStalks)) st (kSeq (maskAt R pol_impl_areStalks.seqM 3) (evCode E R pol_impl_areStalks N (sub [1, 1] (bodyOf F_impl_areStalks))) (kTop E sg_impl_areStalks F_impl_areStalks))
theorem impl_areStalks.l1_zero (R : Run) (hw : R.ok) (N : Nat) (stalks_4 : (List Int)) (t16__5 : Int) (c_6 : (List (List Int))) : impl_areStalks.l1 R N 0 stalks_4 t16__5 c_6 = none := (hw _ _).trans (by kernel_rfl)
theorem impl_areStalks.l1_succ (R : Run) (hw : R.ok) (N : Nat) (n : Nat) (stalks_4 : (List Int)) (t16__5 : Int) (c_6 : (List (List Int))) : impl_areStalks.l1 R N (n + 1) stalks_4 t16__5 c_6 = (bif (decide (t16__5 < (4 : Int))) then (Option.bind (callT R n_impl_stalkSum o_impl_stalkSum [⟨(.sl (.sl (.int .i64))), c_6⟩, ⟨(.int .i64), (0 : Int)⟩, ⟨(.sl (.int .i64)), stalks_4⟩, ⟨(.sl (.st (.cons (.int .i64) (.cons (.int .i64) (.cons (.int .i64) (.cons (.sl (.int .i64)) .nil)))))), ([] : List (Int × Int × Int × (List Int) × Unit))⟩, ⟨(.int .i64), t16__5⟩]) fun r7 => (bif (decide (r7.1 > (32 : Int))) then some ⟨o_impl_areStalks, (false, ())⟩ else (impl_areStalks.l1 R N n stalks_4 (w64 (t16__5 + (1 : Int))) c_6))) else some ⟨o_impl_areStalks, (true, ())⟩) := (hw _ _).trans (by kernel_rfl)
theorem impl_areStalks.j0_eq (R : Run) (hw : R.ok) (N : Nat) (stalks_1 : (List Int)) (t15__2 : Bool) (c_3 : (List (List Int))) : impl_areStalks.j0 R N stalks_1 t15__2 c_3 = (bif t15__2 then some ⟨o_impl_areStalks, (false, ())⟩ else (impl_areStalks.l1 R N N stalks_1 (0 : Int) c_3)) := (hw _ _).trans (by kernel_rfl)
theorem impl_areStalks.ev (R : Run) (N : Nat) (a0 : (List (List Int))) (a1 : (List Int)) : evFn E R sg_impl_areStalks pol_impl_areStalks F_impl_areStalks N [⟨(.sl (.sl (.int .i64))), a0⟩, ⟨(.sl (.int .i64)), a1⟩] = (bif ((List.length a1 : Int) != (List.length a0 : Int)) then (impl_areStalks.j0 R N a1 true a0) else (Option.bind (callT R n_slices_ContainsFunc_Sint64_int64 o_slices_ContainsFunc_Sint64_int64 [⟨(.sl (.int .i64)), a1⟩, ⟨(.fn n_impl_areStalks_1 .nil), ()⟩]) fun r11 => (impl_areStalks.j0 R N a1 r11.1 a0))) := by kernel_rfl
/-! loop.example/g01005/impl.ValidSheaf -/
noncomputable def impl_ValidSheaf.j2 (R : Run) (N : Nat) (n1110100 : Nat) (t3__17 : (List (Int × Int × Int × Unit))) (t27__18 : (List (Int × Int × Int × Unit))) (t28__19 : Int) (t29__20 : Int) (t61__21 : Bool) (o1_22 : (List (List Int))) (o1_23 : Int) (o1_24 : (List Int)) (o1_25 : (List (Int × Int × Int × (List Int) × Unit))) : Option Dv := R.w (some ⟨[V.dead, .c (.box 1 0), V.dead, .c (.d (.sl (.st (.cons (.int .i64) (.cons (.int .i64) (.cons (.int .i64) .nil))))) t3__17), V.dead, V.dead, V.dead, V.dead, V.dead, V.dead, V.dead, V.dead, V.dead, V.dead, V.dead, V.dead, V.dead, V.dead, V.dead, V.dead, V.dead, V.dead, V.dead, V.dead, V.dead, V.dead, V.dead, .c (.d (.sl (.st (.cons (.int .i64) (.cons (.int .i64) (.cons (.int .i64) .nil))))) t27__18), .c (.d (.int .i64) t28__19), .c (.d (.int .i64) t29__20), V.dead, V.dead, V.dead, V.dead, V.dead, V.dead, V.dead, V.dead, V.dead, V.dead, V.dead, V.dead, V.dead, V.dead, V.dead, V.dead, V.dead, V.dead, V.dead, V.dead, V.dead, V.dead, V.dead, V.dead, V.dead, V.dead, V.dead, V.dead, V.dead, V.dead, V.dead, .c (.d .bool t61__21), V.dead, V.dead, V.dead, V.dead, V.dead, V.dead, V.dead], [none, some (.box [.d (.sl (.sl (.int .i64))) o1_22, .d (.int .i64) o1_23, .d (.sl (.int .i64)) o1_24, .d (.sl (.st (.cons (.int .i64) (.cons (.int .i64) (.cons (.int .i64) (.cons (.sl (.int .i64)) .nil)))))) o1_25] false false), none, none, none, none, none, none, none, none, none, none, none, none, none, none, none, none, none, none, none, none, none, none, none, none, none, none, none, none, none, none, none, none, none, none, none, none, none, none, none, none, none, none, none, none, none, none, none, none, none, none, none, none, none, none, none, none, none, none, none, none, none, none, none, none, none, none, none, none, none, none, none]⟩) fun st => evCode E R pol_impl_ValidSheaf N (sub [1, 1, 1, 0, 1, 0, 0, 1, 1, 0, 0, 1, 1] (bodyOf F_impl_ValidSheaf)) st (kBlk (maskAt R pol_impl_ValidSheaf.blkM 1) 1 (kSeq (maskAt R pol_impl_ValidSheaf.seqM 9) (evCode E R pol_impl_ValidSheaf N (sub [1, 1, 1, 0, 1, 0, 0, 1, 1, 1] (bodyOf F_impl_ValidSheaf))) (kLoop (evCode E R pol_impl_ValidSheaf N (sub [1, 1, 1, 0, 1, 0, 0] (bodyOf F_impl_ValidSheaf))) (maskAt R pol_impl_ValidSheaf.loopM 5) n1110100 (kBlk (maskAt R pol_impl_ValidSheaf.blkM 0) 0 (kSeq (maskAt R pol_impl_ValidSheaf.seqM 10) (evCode E R pol_impl_ValidSheaf N (sub [1, 1, 1, 1] (bodyOf F_impl_ValidSheaf))) (kTop E sg_impl_ValidSheaf F_impl_ValidSheaf))))))
noncomputable def impl_ValidSheaf.l1 (R : Run) (N : Nat) (n : Nat) (t3__8 : (List (Int × Int × Int × Unit))) (t27__9 : (List (Int × Int × Int × Unit))) (t28__10 : Int) (t29__11 : Int) (o1_12 : (List (List Int))) (o1_13 : Int) (o1_14 : (List Int)) (o1_15 : (List (Int × Int × Int × (List Int) × Unit))) : Option Dv := R.w (some ⟨[V.dead, .c (.box 1 0), V.dead, .c (.d (.sl (.st (.cons (.int .i64) (.cons (.int .i64) (.cons (.int .i64) .nil))))) t3__8), V.dead, V.dead, V.dead, V.dead, V.dead, V.dead, V.dead, V.dead, V.dead, V.dead, V.dead, V.dead, V.dead, V.dead, V.dead, V.dead, V.dead, V.dead, V.dead, V.dead, V.dead, V.dead, V.dead, .c (.d (.sl (.st (.cons (.int .i64) (.cons (.int .i64) (.cons (.int .i64) .nil))))) t27__9), .c (.d (.int .i64) t28__10), .c (.d (.int .i64) t29__11), V.dead, V.dead, V.dead, V.dead, V.dead, V.dead, V.dead, V.dead, V.dead, V.dead, V.dead, V.dead, V.dead, V.dead, V.dead, V.dead, V.dead, V.dead, V.dead, V.dead, V.dead, V.dead, V.dead, V.dead, V.dead, V.dead, V.dead, V.dead, V.dead, V.dead, V.dead, V.dead, V.dead, V.dead, V.dead, V.dead, V.dead, V.dead, V.dead], [none, some (.box [.d (.sl (.sl (.int .i64))) o1_12, .d (.int .i64) o1_13, .d (.sl (.int .i64)) o1_14, .d (.sl (.st (.cons (.int .i64) (.cons (.int .i64) (.cons (.int .i64) (.cons (.sl (.int .i64)) .nil)))))) o1_15] false false), none, none, none, none, none, none, none, none, none, none, none, none, none, none, none, none, none, none, none, none, none, none, none, none, none, none, none, none, none, none, none, none, none, none, none, none, none, none, none, none, none, none, none, none, none, none, none, none, none, none, none, none, none, none, none, none, none, none, none, none, none, none, none, none, none, none, none, none, none, none, none]⟩) fun st => loopC (evCode E R pol_impl_ValidSheaf N (sub [1, 1, 1, 0, 1, 0, 0] (bodyOf F_impl_ValidSheaf))) (maskAt R pol_impl_ValidSheaf.loopM 5) n st (kBlk (maskAt R pol_impl_ValidSheaf.blkM 0) 0 (kSeq (maskAt R pol_impl_ValidSheaf.seqM 10) (evCode E R pol_impl_ValidSheaf N (sub [1, 1, 1, 1] (bodyOf F_impl_ValidSheaf))) (kTop E sg_impl_ValidSheaf F_impl_ValidSheaf)))
noncomputable def impl_ValidSheaf.j0 (R : Run) (N : Nat) (t23__2 : Bool) (o1_3 : (List (List Int))) (o1_4 : Int) (o1_5 : (List Int)) (o1_6 : (List (Int × Int × Int × (List Int) × Unit))) : Option Dv := R.w (some ⟨[V.dead, .c (.box 1 0), V.dead, V.dead, V.dead, V.dead, V.dead, V.dead, V.dead, V.dead, V.dead, V.dead, V.dead, V.dead, V.dead, V.dead, V.dead, V.dead, V.dead, V.dead, V.dead, V.dead, V.dead, .c (.d .bool t23__2), V.dead, V.dead, V.dead, V.dead, V.dead, V.dead, V.dead, V.dead, V.dead, V.dead, V.dead, V.dead, V.dead, V.dead, V.dead, V.dead, V.dead, V.dead, V.dead, V.dead, V.dead, V.dead, V.dead, V.dead, V.dead, V.dead, V.dead, V.dead, V.dead, V.dead, V.dead, V.dead, V.dead, V.dead, V.dead, V.dead, V.dead, V.dead, V.dead, V.dead, V.dead, V.dead, V.dead, V.dead, V.dead], [none, some (.box [.d (.sl (.sl (.int .i64))) o1_3, .d (.int .i64) o1_4, .d (.sl (.int .i64)) o1_5, .d (.sl (.st (.cons (.int .i64) (.cons (.int .i64) (.cons (.int .i64) (.cons (.sl (.int .i64)) .nil)))))) o1_6] false false), none, none, none, none, none, none, none, none, none, none, none, none, none, none, none, none, none, none, none, none, none, none, none, none, none, none, none, none, none, none, none, none, none, none, none, none, none, none, none, none, none, none, none, none, none, none, none, none, none, none, none, none, none, none, none, none, none, none, none, none, none, none, none, none, none, none, none, none, none, none, none]⟩) fun st => evCode E R pol_impl_ValidSheaf N (sub [1, 0, 1] (bodyOf F_impl_ValidSheaf)) st (kSeq (maskAt R pol_impl_ValidSheaf.seqM 3) (evCode E R pol_impl_ValidSheaf N (sub [1, 1] (bodyOf F_impl_ValidSheaf))) (kTop E sg_impl_ValidSheaf F_impl_ValidSheaf))
theorem impl_ValidSheaf.j2_eq (R : Run) (hw : R.ok) (N : Nat) (n1110100 : Nat) (t3__17 : (List (Int × Int × Int × Unit))) (t27__18 : (List (Int × Int × Int × Unit))) (t28__19 : Int) (t29__20 : Int) (t61__21 : Bool) (o1_22 : (List (List Int))) (o1_23 : Int) (o1_24 : (List Int)) (o1_25 : (List (Int × Int × Int × (List Int) × Unit))) : impl_ValidSheaf.j2 R N n1110100 t3__17 t27__18 t28__19 t29__20 t61__21 o1_22 o1_23 o1_24 o1_25 = (bif t61__21 then some ⟨o_impl_ValidSheaf, (false, ())⟩ else (impl_ValidSheaf.l1 R N n1110100 t3__17 t27__18 t28__19 (w64 (t29__20 + (1 : Int))) o1_22 o1_23 o1_24 o1_25)) := (hw _ _).trans (by kernel_rfl)
theorem impl_ValidSheaf.l1_zero (R : Run) (hw : R.ok) (N : Nat) (t3__8 : (List (Int × Int × Int × Unit))) (t27__9 : (List (Int × Int × Int × Unit))) (t28__10 : Int) (t29__11 : Int) (o1_12 : (List (List Int))) (o1_13 : Int) (o1_14 : (List Int)) (o1_15 : (List (Int × Int × Int × (List Int) × Unit))) : impl_ValidSheaf.l1 R N 0 t3__8 t27__9 t28__10 t29__11 o1_12 o1_13 o1_14 o1_15 = none := (hw _ _).trans (by kernel_rfl)
theorem impl_ValidSheaf.l1_succ (R : Run) (hw : R.ok) (N : Nat) (n : Nat) (t3__8 : (List (Int × Int × Int × Unit))) (t27__9 : (List (Int × Int × Int × Unit))) (t28__10 : Int) (t29__11 : Int) (o1_12 : (List (List Int))) (o1_13 : Int) (o1_14 : (List Int)) (o1_15 : (List (Int × Int × Int × (List Int) × Unit))) : impl_ValidSheaf.l1 R N (n + 1) t3__8 t27__9 t28__10 t29__11 o1_12 o1_13 o1_14 o1_15 = (bif (decide (t29__11 < t28__10)) then (Option.bind (idx? t27__9 t29__11) fun y16 => (bif (decide (t29__11 ≥ (List.length o1_15 : Int))) then (impl_ValidSheaf.j2 R N n t3__8 t27__9 t28__10 t29__11 true o1_12 o1_13 o1_14 o1_15) else (Option.bind (idx? o1_15 t29__11) fun y34 => (Option.bind (idx? o1_14 y16.2.2.1) fun y35 => (Option.bind (idx? o1_14 y16.1) fun y36 => (Option.bind (callT R n_impl_isBetween o_impl_isBetween [⟨(.int .i64), y34.1⟩, ⟨(.int .i64), y34.2.1⟩, ⟨(.int .i64), y34.2.2.1⟩, ⟨(.sl (.int .i64)), y34.2.2.2.1⟩, ⟨(.int .i64), o1_13⟩, ⟨(.int .i64), (y35, ()).1⟩, ⟨(.int .i64), (y36, ()).1⟩]) fun r37 => (impl_ValidSheaf.j2 R N n t3__8 t27__9 t28__10 t29__11 (!r37.1) o1_12 o1_13 o1_14 o1_15))))))) else some ⟨o_impl_ValidSheaf, (((List.length t3__8 : Int) == (List.length o1_15 : Int)), ())⟩) := (hw _ _).trans (by kernel_rfl)
theorem impl_ValidSheaf.j0_eq (R : Run) (hw : R.ok) (N : Nat) (t23__2 : Bool) (o1_3 : (List (List Int))) (o1_4 : Int) (o1_5 : (List Int)) (o1_6 : (List (Int × Int × Int × (List Int) × Unit))) : impl_ValidSheaf.j0 R N t23__2 o1_3 o1_4 o1_5 o1_6 = (bif t23__2 then some ⟨o_impl_ValidSheaf, (false, ())⟩ else (Option.bind (callT R n_impl_arrows o_impl_arrows [⟨(.sl (.sl (.int .i64))), o1_3⟩]) fun r7 => (impl_ValidSheaf.l1 R N N r7.1 r7.1 (List.length r7.1 : Int) (0 : Int) o1_3 o1_4 o1_5 o1_6))) := (hw _ _).trans (by kernel_rfl)
theorem impl_ValidSheaf.ev (R : Run) (N : Nat) (a0 : (List (List Int))) (a1 : Int) (a2 : (List Int)) (a3 : (List (Int × Int × Int × (List Int) × Unit))) : evFn E R sg_impl_ValidSheaf pol_impl_ValidSheaf F_impl_ValidSheaf N [⟨(.sl (.sl (.int .i64))), a0⟩, ⟨(.int .i64), a1⟩, ⟨(.sl (.int .i64)), a2⟩, ⟨(.sl (.st (.cons (.int .i64) (.cons (.int .i64) (.cons (.int .i64) (.cons (.sl (.int .i64)) .nil)))))), a3⟩] = (Option.bind (callT R n_impl_ValidComplex o_impl_ValidComplex [⟨(.sl (.sl (.int .i64))), a0⟩]) fun r1 => (bif (!r1.1) then (impl_ValidSheaf.j0 R N true a0 a1 a2 a3) else (Option.bind (callT R n_impl_ValidPrime o_impl_ValidPrime [⟨(.int .i64), a1⟩]) fun r47 => (bif (!r47.1) then (impl_ValidSheaf.j0 R N true a0 a1 a2 a3) else (Option.bind (callT R n_impl_areStalks o_impl_areStalks [⟨(.sl (.sl (.int .i64))), a0⟩, ⟨(.sl (.int .i64)), a2⟩]) fun r53 => (impl_ValidSheaf.j0 R N (!r53.1) a0 a1 a2 a3)))))) := by kernel_rfl
/-! loop.example/g01005/impl.isPlace -/
theorem impl_isPlace.ev (R : Run) (N : Nat) (a0 : (List (List Int))) (a1 : Int) (a2 : (List Int)) (a3 : (List (Int × Int × Int × (List Int) × Unit))) (a4 : Int) : evFn E R sg_impl_isPlace pol_impl_isPlace F_impl_isPlace N [⟨(.sl (.sl (.int .i64))), a0⟩, ⟨(.int .i64), a1⟩, ⟨(.sl (.int .i64)), a2⟩, ⟨(.sl (.st (.cons (.int .i64) (.cons (.int .i64) (.cons (.int .i64) (.cons (.sl (.int .i64)) .nil)))))), a3⟩, ⟨(.int .i64), a4⟩] = (Option.bind (callT R n_impl_size_Sint64 o_impl_size_Sint64 [⟨(.sl (.sl (.int .i64))), a0⟩]) fun r1 => (Option.bind (callT R n_impl_within o_impl_within [⟨(.int .i64), a4⟩, ⟨(.int .i64), (0 : Int)⟩, ⟨(.int .i64), (w64 (r1.1 - (1 : Int)))⟩]) fun r2 => some ⟨o_impl_isPlace, (r2.1, ())⟩)) := by kernel_rfl
/-! slices.Index[[]int64,int64] -/
noncomputable def slices_Index_Sint64_int64.l0 (R : Run) (N : Nat) (n : Nat) (s_1 : (List Int)) (v_2 : Int) (t7__3 : Int) (t8__4 : Int) : Option Dv := R.w (some ⟨[.c (.d (.sl (.int .i64)) s_1), .c (.d (.int .i64) v_2), V.dead, V.dead, V.dead, V.dead, V.dead, .c (.d (.int .i64) t7__3), .c (.d (.int .i64) t8__4), V.dead, V.dead, V.dead, V.dead, V.dead, V.dead, V.dead, V.dead, V.dead, V.dead], [none, none, none, none, none, none, none, none, none, none, none, none, none, none, none, none, none, none, none, none, none]⟩) fun st => loopC (evCode E R pol_slices_Index_Sint64_int64 N (sub [1, 0, 1, 0, 0] (bodyOf F_slices_Index_Sint64_int64))) (maskAt R pol_slices_Index_Sint64_int64.loopM 2) n st (kBlk (maskAt R pol_slices_Index_Sint64_int64.blkM 0) 0 (kSeq (maskAt R pol_slices_Index_Sint64_int64.seqM 7) (evCode E R pol_slices_Index_Sint64_int64 N (sub [1, 1] (bodyOf F_slices_Index_Sint64_int64))) (kTop E sg_slices_Index_Sint64_int64 F_slices_Index_Sint64_int64)))
theorem slices_Index_Sint64_int64.l0_zero (R : Run) (hw : R.ok) (N : Nat) (s_1 : (List Int)) (v_2 : Int) (t7__3 : Int) (t8__4 : Int) : slices_Index_Sint64_int64.l0 R N 0 s_1 v_2 t7__3 t8__4 = none := (hw _ _).trans (by kernel_rfl)
theorem slices_Index_Sint64_int64.l0_succ (R : Run) (hw : R.ok) (N : Nat) (n : Nat) (s_1 : (List Int)) (v_2 : Int) (t7__3 : Int) (t8__4 : Int) : slices_Index_Sint64_int64.l0 R N (n + 1) s_1 v_2 t7__3 t8__4 = (bif (decide (t8__4 < t7__3)) then (Option.bind (idx? s_1 t8__4) fun y5 => (bif (v_2 == (y5, ()).1) then some ⟨o_slices_Index_Sint64_int64, (t8__4, ())⟩ else (slices_Index_Sint64_int64.l0 R N n s_1 v_2 t7__3 (w64 (t8__4 + (1 : Int)))))) else some ⟨o_slices_Index_Sint64_int64, ((-1 : Int), ())⟩) := (hw _ _).trans (by kernel_rfl)
theorem slices_Index_Sint64_int64.ev (R : Run) (N : Nat) (a0 : (List Int)) (a1 : Int) : evFn E R sg_slices_Index_Sint64_int64 pol_slices_Index_Sint64_int64 F_slices_Index_Sint64_int64 N [⟨(.sl (.int .i64)), a0⟩, ⟨(.int .i64), a1⟩] = (slices_Index_Sint64_int64.l0 R N N a0 a1 (List.length a0 : Int) (0 : Int)) := by kernel_rfl
/-! slices.Contains[[]int64,int64] -/
theorem slices_Contains_Sint64_int64.ev (R : Run) (N : Nat) (a0 : (List Int)) (a1 : Int) : evFn E R sg_slices_Contains_Sint64_int64 pol_slices_Contains_Sint64_int64 F_slices_Contains_Sint64_int64 N [⟨(.sl (.int .i64)), a0⟩, ⟨(.int .i64), a1⟩] = (Option.bind (callT R n_slices_Index_Sint64_int64 o_slices_Index_Sint64_int64 [⟨(.sl (.int .i64)), a0⟩, ⟨(.int .i64), a1⟩]) fun r1 => some ⟨o_slices_Contains_Sint64_int64, ((decide (r1.1 ≥ (0 : Int))), ())⟩) := by kernel_rfl
/-! loop.example/g01005/impl.isFace$1 -/
theorem impl_isFace_1.ev (R : Run) (N : Nat) (a0 : Int) (a1 : ((List Int) × Unit)) : evFn E R sg_impl_isFace_1 pol_impl_isFace_1 F_impl_isFace_1 N [⟨(.int .i64), a0⟩, ⟨(.ptr (.cons (.sl (.int .i64)) .nil)), a1⟩] = (Option.bind (callT R n_slices_Contains_Sint64_int64 o_slices_Contains_Sint64_int64 [⟨(.sl (.int .i64)), a1.1⟩, ⟨(.int .i64), a0⟩]) fun r1 => some ⟨o_impl_isFace_1, ((!r1.1), ())⟩) := by kernel_rfl
/-! slices.IndexFunc[[]int64,int64] -/
noncomputable def slices_IndexFunc_Sint64_int64_impl_isFace_1.l0 (R : Run) (N : Nat) (n : Nat) (s_1 : (List Int)) (f_2 : (((List Int) × Unit) × Unit)) (t7__3 : Int) (t8__4 : Int) : Option Dv := R.w (some ⟨[.c (.d (.sl (.int .i64)) s_1), .c (.d (.fn n_impl_isFace_1 (.cons (.ptr (.cons (.sl (.int .i64)) .nil)) .nil)) f_2), V.dead, V.dead, V.dead, V.dead, V.dead, .c (.d (.int .i64) t7__3), .c (.d (.int .i64) t8__4), V.dead, V.dead, V.dead, V.dead, V.dead, V.dead, V.dead, V.dead, V.dead, V.dead], [none, none, none, none, none, none, none, none, none, none, none, none, none, none, none, none, none, none, none, none, none]⟩) fun st => loopC (evCode E R pol_slices_IndexFunc_Sint64_int64 N (sub [1, 0, 1, 0, 0] (bodyOf F_slices_IndexFunc_Sint64_int64))) (maskAt R pol_slices_IndexFunc_Sint64_int64.loopM 2) n st (kBlk (maskAt R pol_slices_IndexFunc_Sint64_int64.blkM 0) 0 (kSeq (maskAt R pol_slices_IndexFunc_Sint64_int64.seqM 7) (evCode E R pol_slices_IndexFunc_Sint64_int64 N (sub [1, 1] (bodyOf F_slices_IndexFunc_Sint64_int64))) (kTop E sg_slices_IndexFunc_Sint64_int64 F_slices_IndexFunc_Sint64_int64)))
theorem slices_IndexFunc_Sint64_int64_impl_isFace_1.l0_zero (R : Run) (hw : R.ok) (N : Nat) (s_1 : (List Int)) (f_2 : (((List Int) × Unit) × Unit)) (t7__3 : Int) (t8__4 : Int) : slices_IndexFunc_Sint64_int64_impl_isFace_1.l0 R N 0 s_1 f_2 t7__3 t8__4 = none := (hw _ _).trans (by kernel_rfl)
theorem slices_IndexFunc_Sint64_int64_impl_isFace_1.l0_succ (R : Run) (hw : R.ok) (N : Nat) (n : Nat) (s_1 : (List Int)) (f_2 : (((List Int) × Unit) × Unit)) (t7__3 : Int) (t8__4 : Int) : slices_IndexFunc_Sint64_int64_impl_isFace_1.l0 R N (n + 1) s_1 f_2 t7__3 t8__4 = (bif (decide (t8__4 < t7__3)) then (Option.bind (idx? s_1 t8__4) fun y5 => (Option.bind (callT R n_impl_isFace_1 o_impl_isFace_1 [⟨(.int .i64), (y5, ()).1⟩, ⟨(.ptr (.cons (.sl (.int .i64)) .nil)), f_2.1⟩]) fun r6 => (bif r6.1 then some ⟨o_slices_IndexFunc_Sint64_int64, (t8__4, ())⟩ else (slices_IndexFunc_Sint64_int64_impl_isFace_1.l0 R N n s_1 f_2 t7__3 (w64 (t8__4 + (1 : Int))))))) else some ⟨o_slices_IndexFunc_Sint64_int64, ((-1 : Int), ())⟩) := (hw _ _).trans (by kernel_rfl)
theorem slices_IndexFunc_Sint64_int64_impl_isFace_1.ev (R : Run) (N : Nat) (a0 : (List Int)) (a1 : (((List Int) × Unit) × Unit)) : evFn E R sg_slices_IndexFunc_Sint64_int64 pol_slices_IndexFunc_Sint64_int64 F_slices_IndexFunc_Sint64_int64 N [⟨(.sl (.int .i64)), a0⟩, ⟨(.fn n_impl_isFace_1 (.cons (.ptr (.cons (.sl (.int .i64)) .nil)) .nil)), a1⟩] = (slices_IndexFunc_Sint64_int64_impl_isFace_1.l0 R N N a0 a1 (List.length a0 : Int) (0 : Int)) := by kernel_rfl
/-! slices.ContainsFunc[[]int64,int64] -/
theorem slices_ContainsFunc_Sint64_int64_impl_isFace_1.ev (R : Run) (N : Nat) (a0 : (List Int)) (a1 : (((List Int) × Unit) × Unit)) : evFn E R sg_slices_ContainsFunc_Sint64_int64 pol_slices_ContainsFunc_Sint64_int64 F_slices_ContainsFunc_Sint64_int64 N [⟨(.sl (.int .i64)), a0⟩, ⟨(.fn n_impl_isFace_1 (.cons (.ptr (.cons (.sl (.int .i64)) .nil)) .nil)), a1⟩] = (Option.bind (callT R n_slices_IndexFunc_Sint64_int64 o_slices_IndexFunc_Sint64_int64 [⟨(.sl (.int .i64)), a0⟩, ⟨(.fn n_impl_isFace_1 (.cons (.ptr (.cons (.sl (.int .i64)) .nil)) .nil)), a1⟩]) fun r1 => some ⟨o_slices_ContainsFunc_Sint64_int64, ((decide (r1.1 ≥ (0 : Int))), ())⟩) := by kernel_rfl
/-! loop.example/g01005/impl.isFace -/
theorem impl_isFace.ev (R : Run) (N : Nat) (a0 : (List Int)) (a1 : (List Int)) : evFn E R sg_impl_isFace pol_impl_isFace F_impl_isFace N [⟨(.sl (.int .i64)), a0⟩, ⟨(.sl (.int .i64)), a1⟩] = (Option.bind (callT R n_slices_ContainsFunc_Sint64_int64 o_slices_ContainsFunc_Sint64_int64 [⟨(.sl (.int .i64)), a0⟩, ⟨(.fn n_impl_isFace_1 (.cons (.ptr (.cons (.sl (.int .i64)) .nil)) .nil)), ((a1, ()), ())⟩]) fun r1 => some ⟨o_impl_isFace, ((!r1.1), ())⟩) := by kernel_rfl
/-! loop.example/g01005/impl.unit$1 -/
theorem impl_unit_1.ev (R : Run) (N : Nat) (a0 : Int) (a1 : Int) : evFn E R sg_impl_unit_1 pol_impl_unit_1 F_impl_unit_1 N [⟨(.int .i64), a0⟩, ⟨(.int .i64), a1⟩] = (bif (a0 == a1) then some ⟨o_impl_unit_1, ((1 : Int), ())⟩ else some ⟨o_impl_unit_1, ((0 : Int), ())⟩) := by kernel_rfl
/-! loop.example/g01005/impl.filled -/
noncomputable def impl_filled_impl_unit_1.l1 (R : Run) (N : Nat) (n110100 : Nat) (n : Nat) (columns_11 : Int) (i_12 : Int) (t16__13 : Int) (t17__14 : Int) (t20__15 : Int) (t21__16 : Int) (o8_17 : Int) (o8_18 : Int) (o8_19 : Int) (m_20 : Int) (m_21 : Int) (m_22 : Int) (o31_23 : (List Int)) : Option Dv := R.w (some ⟨[V.dead, V.dead, .c (.d (.int .i64) columns_11), .c (.d (.fn n_impl_unit_1 .nil) ()), V.dead, V.dead, V.dead, V.dead, .c (.box 8 0), .c (.box 9 0), .c (.d (.int .i64) i_12), V.dead, V.dead, V.dead, V.dead, V.dead, .c (.d (.int .i64) t16__13), .c (.d (.int .i64) t17__14), V.dead, V.dead, .c (.d (.int .i64) t20__15), .c (.d (.int .i64) t21__16), V.dead, V.dead, V.dead, V.dead, V.dead, V.dead, V.dead, V.dead, V.dead, V.dead, V.dead, V.dead, V.dead, V.dead], [none, none, none, none, none, none, none, none, some (.box [.d (.int .i64) o8_17, .d (.int .i64) o8_18, .d (.int .i64) o8_19, .nils (.int .i64)] false false), some (.box [.d (.int .i64) m_20, .d (.int .i64) m_21, .d (.int .i64) m_22, .arr 31] false false), none, none, none, none, none, none, none, none, none, none, none, none, none, none, none, none, none, none, none, none, none, some (.arr (.int .i64) o31_23 true false false), none, none, none, none, none, none, none, none]⟩) fun st => loopC (evCode E R pol_impl_filled N (sub [1, 1, 0, 1, 0, 0, 1, 1, 0, 0, 1, 1, 0, 0] (bodyOf F_impl_filled))) (maskAt R pol_impl_filled.loopM 6) n st (kBlk (maskAt R pol_impl_filled.blkM 2) 2 (kBlk (maskAt R pol_impl_filled.blkM 1) 1 (kSeq (maskAt R pol_impl_filled.seqM 10) (evCode E R pol_impl_filled N (sub [1, 1, 0, 1, 0, 0, 1, 1, 1] (bodyOf F_impl_filled))) (kLoop (evCode E R pol_impl_filled N (sub [1, 1, 0, 1, 0, 0] (bodyOf F_impl_filled))) (maskAt R pol_impl_filled.loopM 3) n110100 (kBlk (maskAt R pol_impl_filled.blkM 0) 0 (kSeq (maskAt R pol_impl_filled.seqM 11) (evCode E R pol_impl_filled N (sub [1, 1, 1] (bodyOf F_impl_filled))) (kTop E sg_impl_filled F_impl_filled)))))))
noncomputable def impl_filled_impl_unit_1.l0 (R : Run) (N : Nat) (n : Nat) (columns_1 : Int) (t16__2 : Int) (t17__3 : Int) (o8_4 : Int) (o8_5 : Int) (o8_6 : Int) (m_7 : Int) (m_8 : Int) (m_9 : Int) (o31_10 : (List Int)) : Option Dv := R.w (some ⟨[V.dead, V.dead, .c (.d (.int .i64) columns_1), .c (.d (.fn n_impl_unit_1 .nil) ()), V.dead, V.dead, V.dead, V.dead, .c (.box 8 0), .c (.box 9 0), V.dead, V.dead, V.dead, V.dead, V.dead, V.dead, .c (.d (.int .i64) t16__2), .c (.d (.int .i64) t17__3), V.dead, V.dead, V.dead, V.dead, V.dead, V.dead, V.dead, V.dead, V.dead, V.dead, V.dead, V.dead, V.dead, V.dead, V.dead, V.dead, V.dead, V.dead], [none, none, none, none, none, none, none, none, some (.box [.d (.int .i64) o8_4, .d (.int .i64) o8_5, .d (.int .i64) o8_6, .nils (.int .i64)] false false), some (.box [.d (.int .i64) m_7, .d (.int .i64) m_8, .d (.int .i64) m_9, .arr 31] false false), none, none, none, none, none, none, none, none, none, none, none, none, none, none, none, none, none, none, none, none, none, some (.arr (.int .i64) o31_10 true false false), none, none, none, none, none, none, none, none]⟩) fun st => loopC (evCode E R pol_impl_filled N (sub [1, 1, 0, 1, 0, 0] (bodyOf F_impl_filled))) (maskAt R pol_impl_filled.loopM 3) n st (kBlk (maskAt R pol_impl_filled.blkM 0) 0 (kSeq (maskAt R pol_impl_filled.seqM 11) (evCode E R pol_impl_filled N (sub [1, 1, 1] (bodyOf F_impl_filled))) (kTop E sg_impl_filled F_impl_filled)))
theorem impl_filled_impl_unit_1.l1_zero (R : Run) (hw : R.ok) (N : Nat) (n110100 : Nat) (columns_11 : Int) (i_12 : Int) (t16__13 : Int) (t17__14 : Int) (t20__15 : Int) (t21__16 : Int) (o8_17 : Int) (o8_18 : Int) (o8_19 : Int) (m_20 : Int) (m_21 : Int) (m_22 : Int) (o31_23 : (List Int)) : impl_filled_impl_unit_1.l1 R N n110100 0 columns_11 i_12 t16__13 t17__14 t20__15 t21__16 o8_17 o8_18 o8_19 m_20 m_21 m_22 o31_23 = none := (hw _ _).trans (by kernel_rfl)
theorem impl_filled_impl_unit_1.l1_succ (R : Run) (hw : R.ok) (N : Nat) (n110100 : Nat) (n : Nat) (columns_11 : Int) (i_12 : Int) (t16__13 : Int) (t17__14 : Int) (t20__15 : Int) (t21__16 : Int) (o8_17 : Int) (o8_18 : Int) (o8_19 : Int) (m_20 : Int) (m_21 : Int) (m_22 : Int) (o31_23 : (List Int)) : impl_filled_impl_unit_1.l1 R N n110100 (n + 1) columns_11 i_12 t16__13 t17__14 t20__15 t21__16 o8_17 o8_18 o8_19 m_20 m_21 m_22 o31_23 = (bif (decide (t21__16 < t20__15)) then (Option.bind (callT R n_impl_unit_1 o_impl_unit_1 [⟨(.int .i64), i_12⟩, ⟨(.int .i64), t21__16⟩]) fun r24 => (Option.bind (chk (decide ((List.length o31_23 + List.length [r24.1]) * 8 ≤ 70368744177664))) fun _ => (impl_filled_impl_unit_1.l1 R N n110100 n columns_11 i_12 t16__13 t17__14 t20__15 (w64 (t21__16 + (1 : Int))) o8_17 o8_18 o8_19 m_20 m_21 m_22 (o31_23 ++ [r24.1])))) else (impl_filled_impl_unit_1.l0 R N n110100 columns_11 t16__13 (w64 (t17__14 + (1 : Int))) o8_17 o8_18 o8_19 m_20 m_21 m_22 o31_23)) := (hw _ _).trans (by kernel_rfl)
theorem impl_filled_impl_unit_1.l0_zero (R : Run) (hw : R.ok) (N : Nat) (columns_1 : Int) (t16__2 : Int) (t17__3 : Int) (o8_4 : Int) (o8_5 : Int) (o8_6 : Int) (m_7 : Int) (m_8 : Int) (m_9 : Int) (o31_10 : (List Int)) : impl_filled_impl_unit_1.l0 R N 0 columns_1 t16__2 t17__3 o8_4 o8_5 o8_6 m_7 m_8 m_9 o31_10 = none := (hw _ _).trans (by kernel_rfl)
theorem impl_filled_impl_unit_1.l0_succ (R : Run) (hw : R.ok) (N : Nat) (n : Nat) (columns_1 : Int) (t16__2 : Int) (t17__3 : Int) (o8_4 : Int) (o8_5 : Int) (o8_6 : Int) (m_7 : Int) (m_8 : Int) (m_9 : Int) (o31_10 : (List Int)) : impl_filled_impl_unit_1.l0 R N (n + 1) columns_1 t16__2 t17__3 o8_4 o8_5 o8_6 m_7 m_8 m_9 o31_10 = (bif (decide (t17__3 < t16__2)) then (impl_filled_impl_unit_1.l1 R N n N columns_1 t17__3 t16__2 t17__3 columns_1 (0 : Int) o8_4 o8_5 o8_6 m_7 m_8 m_9 o31_10) else some ⟨o_impl_filled, (m_7, m_8, m_9, o31_10, ())⟩) := (hw _ _).trans (by kernel_rfl)
theorem impl_filled_impl_unit_1.ev (R : Run) (N : Nat) (a0 : Int) (a1 : Int) (a2 : Int) : evFn E R sg_impl_filled pol_impl_filled F_impl_filled N [⟨(.int .i64), a0⟩, ⟨(.int .i64), a1⟩, ⟨(.int .i64), a2⟩, ⟨(.fn n_impl_unit_1 .nil), ()⟩] = (impl_filled_impl_unit_1.l0 R N N a2 a1 (0 : Int) (0 : Int) (0 : Int) (0 : Int) a0 a1 a2 ([] : List Int)) := by kernel_rfl
/-! loop.example/g01005/impl.unit -/
theorem impl_unit.ev (R : Run) (N : Nat) (a0 : Int) (a1 : Int) : evFn E R sg_impl_unit pol_impl_unit F_impl_unit N [⟨(.int .i64), a0⟩, ⟨(.int .i64), a1⟩] = (Option.bind (callT R n_impl_filled o_impl_filled [⟨(.int .i64), a0⟩, ⟨(.int .i64), a1⟩, ⟨(.int .i64), a1⟩, ⟨(.fn n_impl_unit_1 .nil), ()⟩]) fun r1 => some ⟨o_impl_unit, (r1.1, r1.2.1, r1.2.2.1, r1.2.2.2.1, ())⟩) := by kernel_rfl
/-! loop.example/g01005/impl.restriction$1 -/
theorem impl_restriction_1.ev (R : Run) (N : Nat) (a0 : Int) (a1 : ((List Int) × Unit)) : evFn E R sg_impl_restriction_1 pol_impl_restriction_1 F_impl_restriction_1 N [⟨(.int .i64), a0⟩, ⟨(.ptr (.cons (.sl (.int .i64)) .nil)), a1⟩] = (Option.bind (callT R n_slices_Contains_Sint64_int64 o_slices_Contains_Sint64_int64 [⟨(.sl (.int .i64)), a1.1⟩, ⟨(.int .i64), a0⟩]) fun r1 => some ⟨o_impl_restriction_1, ((!r1.1), ())⟩) := by kernel_rfl
/-! slices.IndexFunc[[]int64,int64] -/
noncomputable def slices_IndexFunc_Sint64_int64_impl_restriction_1.l0 (R : Run) (N : Nat) (n : Nat) (s_1 : (List Int)) (f_2 : (((List Int) × Unit) × Unit)) (t7__3 : Int) (t8__4 : Int) : Option Dv := R.w (some ⟨[.c (.d (.sl (.int .i64)) s_1), .c (.d (.fn n_impl_restriction_1 (.cons (.ptr (.cons (.sl (.int .i64)) .nil)) .nil)) f_2), V.dead, V.dead, V.dead, V.dead, V.dead, .c (.d (.int .i64) t7__3), .c (.d (.int .i64) t8__4), V.dead, V.dead, V.dead, V.dead, V.dead, V.dead, V.dead, V.dead, V.dead, V.dead], [none, none, none, none, none, none, none, none, none, none, none, none, none, none, none, none, none, none, none, none, none]⟩) fun st => loopC (evCode E R pol_slices_IndexFunc_Sint64_int64 N (sub [1, 0, 1, 0, 0] (bodyOf F_slices_IndexFunc_Sint64_int64))) (maskAt R pol_slices_IndexFunc_Sint64_int64.loopM 2) n st (kBlk (maskAt R pol_slices_IndexFunc_Sint64_int64.blkM 0) 0 (kSeq (maskAt R pol_slices_IndexFunc_Sint64_int64.seqM 7) (evCode E R pol_slices_IndexFunc_Sint64_int64 N (sub [1, 1] (bodyOf F_slices_IndexFunc_Sint64_int64))) (kTop E sg_slices_IndexFunc_Sint64_int64 F_slices_IndexFunc_Sint64_int64)))
theorem slices_IndexFunc_Sint64_int64_impl_restriction_1.l0_zero (R : Run) (hw : R.ok) (N : Nat) (s_1 : (List Int)) (f_2 : (((List Int) × Unit) × Unit)) (t7__3 : Int) (t8__4 : Int) : slices_IndexFunc_Sint64_int64_impl_restriction_1.l0 R N 0 s_1 f_2 t7__3 t8__4 = none := (hw _ _).trans (by kernel_rfl)
theorem slices_IndexFunc_Sint64_int64_impl_restriction_1.l0_succ (R : Run) (hw : R.ok) (N : Nat) (n : Nat) (s_1 : (List Int)) (f_2 : (((List Int) × Unit) × Unit)) (t7__3 : Int) (t8__4 : Int) : slices_IndexFunc_Sint64_int64_impl_restriction_1.l0 R N (n + 1) s_1 f_2 t7__3 t8__4 = (bif (decide (t8__4 < t7__3)) then (Option.bind (idx? s_1 t8__4) fun y5 => (Option.bind (callT R n_impl_restriction_1 o_impl_restriction_1 [⟨(.int .i64), (y5, ()).1⟩, ⟨(.ptr (.cons (.sl (.int .i64)) .nil)), f_2.1⟩]) fun r6 => (bif r6.1 then some ⟨o_slices_IndexFunc_Sint64_int64, (t8__4, ())⟩ else (slices_IndexFunc_Sint64_int64_impl_restriction_1.l0 R N n s_1 f_2 t7__3 (w64 (t8__4 + (1 : Int))))))) else some ⟨o_slices_IndexFunc_Sint64_int64, ((-1 : Int), ())⟩) := (hw _ _).trans (by kernel_rfl)
theorem slices_IndexFunc_Sint64_int64_impl_restriction_1.ev (R : Run) (N : Nat) (a0 : (List Int)) (a1 : (((List Int) × Unit) × Unit)) : evFn E R sg_slices_IndexFunc_Sint64_int64 pol_slices_IndexFunc_Sint64_int64 F_slices_IndexFunc_Sint64_int64 N [⟨(.sl (.int .i64)), a0⟩, ⟨(.fn n_impl_restriction_1 (.cons (.ptr (.cons (.sl (.int .i64)) .nil)) .nil)), a1⟩] = (slices_IndexFunc_Sint64_int64_impl_restriction_1.l0 R N N a0 a1 (List.length a0 : Int) (0 : Int)) := by kernel_rfl
/-! loop.example/g01005/impl.firstMap -/
noncomputable def impl_firstMap.l0 (R : Run) (N : Nat) (n : Nat) (n_1 : Int) (t12__2 : (List (List Int))) (t13__3 : Int) (t14__4 : Int) : Option Dv := R.w (some ⟨[V.dead, V.dead, V.dead, V.dead, V.dead, .c (.d (.int .i64) n_1), V.dead, V.dead, V.dead, V.dead, V.dead, V.dead, .c (.d (.sl (.sl (.int .i64))) t12__2), .c (.d (.int .i64) t13__3), .c (.d (.int .i64) t14__4), V.dead, V.dead, V.dead, V.dead, V.dead, V.dead, V.dead, V.dead, V.dead, V.dead, V.dead, V.dead], [none, none, none, none, none, none, none, none, none, none, none, none, none, none, none, none, none, none, none, none, none, none, none, none, none, none, none, none, none, none, none, none]⟩) fun st => loopC (evCode E R pol_impl_firstMap N (sub [1, 1, 0, 1, 0, 0] (bodyOf F_impl_firstMap))) (maskAt R pol_impl_firstMap.loopM 3) n st (kBlk (maskAt R pol_impl_firstMap.blkM 0) 0 (kSeq (maskAt R pol_impl_firstMap.seqM 8) (evCode E R pol_impl_firstMap N (sub [1, 1, 1] (bodyOf F_impl_firstMap))) (kTop E sg_impl_firstMap F_impl_firstMap)))
theorem impl_firstMap.l0_zero (R : Run) (hw : R.ok) (N : Nat) (n_1 : Int) (t12__2 : (List (List Int))) (t13__3 : Int) (t14__4 : Int) : impl_firstMap.l0 R N 0 n_1 t12__2 t13__3 t14__4 = none := (hw _ _).trans (by kernel_rfl)
theorem impl_firstMap.l0_succ (R : Run) (hw : R.ok) (N : Nat) (n : Nat) (n_1 : Int) (t12__2 : (List (List Int))) (t13__3 : Int) (t14__4 : Int) : impl_firstMap.l0 R N (n + 1) n_1 t12__2 t13__3 t14__4 = (bif (decide (t14__4 < t13__3)) then (Option.bind (idx? t12__2 t14__4) fun y5 => (bif (decide ((List.length (y5, ()).1 : Int) > (1 : Int))) then (Option.bind (callT R n_impl_size_int64 o_impl_size_int64 [⟨(.sl (.int .i64)), (y5, ()).1⟩]) fun r6 => (impl_firstMap.l0 R N n (w64 (n_1 + r6.1)) t12__2 t13__3 (w64 (t14__4 + (1 : Int))))) else (impl_firstMap.l0 R N n n_1 t12__2 t13__3 (w64 (t14__4 + (1 : Int)))))) else some ⟨o_impl_firstMap, (n_1, ())⟩) := (hw _ _).trans (by kernel_rfl)
theorem impl_firstMap.ev (R : Run) (N : Nat) (a0 : (List (List Int))) (a1 : Int) (a2 : (List Int)) (a3 : (List (Int × Int × Int × (List Int) × Unit))) (a4 : Int) : evFn E R sg_impl_firstMap pol_impl_firstMap F_impl_firstMap N [⟨(.sl (.sl (.int .i64))), a0⟩, ⟨(.int .i64), a1⟩, ⟨(.sl (.int .i64)), a2⟩, ⟨(.sl (.st (.cons (.int .i64) (.cons (.int .i64) (.cons (.int .i64) (.cons (.sl (.int .i64)) .nil)))))), a3⟩, ⟨(.int .i64), a4⟩] = (Option.bind (chk (decide (0 ≤ a4) && decide (a4 ≤ (List.length a0 : Int)))) fun _ => (impl_firstMap.l0 R N N (0 : Int) (List.take (Int.toNat a4) a0) (List.length (List.take (Int.toNat a4) a0) : Int) (0 : Int))) := by kernel_rfl
/-! loop.example/g01005/impl.direct -/
theorem impl_direct.ev (R : Run) (N : Nat) (a0 : (List (List Int))) (a1 : Int) (a2 : (List Int)) (a3 : (List (Int × Int × Int × (List Int) × Unit))) (a4 : Int) (a5 : Int) : evFn E R sg_impl_direct pol_impl_direct F_impl_direct N [⟨(.sl (.sl (.int .i64))), a0⟩, ⟨(.int .i64), a1⟩, ⟨(.sl (.int .i64)), a2⟩, ⟨(.sl (.st (.cons (.int .i64) (.cons (.int .i64) (.cons (.int .i64) (.cons (.sl (.int .i64)) .nil)))))), a3⟩, ⟨(.int .i64), a4⟩, ⟨(.int .i64), a5⟩] = (Option.bind (callT R n_impl_firstMap o_impl_firstMap [⟨(.sl (.sl (.int .i64))), a0⟩, ⟨(.int .i64), a1⟩, ⟨(.sl (.int .i64)), a2⟩, ⟨(.sl (.st (.cons (.int .i64) (.cons (.int .i64) (.cons (.int .i64) (.cons (.sl (.int .i64)) .nil)))))), a3⟩, ⟨(.int .i64), a4⟩]) fun r1 => (Option.bind (idx? a3 (w64 (r1.1 + a5))) fun y2 => some ⟨o_impl_direct, (y2.1, y2.2.1, y2.2.2.1, y2.2.2.2.1, ())⟩)) := by kernel_rfl
/-! (loop.example/g01005/impl.Matrix).at -/
theorem impl_Matrix_at.ev (R : Run) (N : Nat) (a0 : Int) (a1 : Int) (a2 : Int) (a3 : (List Int)) (a4 : Int) (a5 : Int) : evFn E R sg_impl_Matrix_at pol_impl_Matrix_at F_impl_Matrix_at N [⟨(.int .i64), a0⟩, ⟨(.int .i64), a1⟩, ⟨(.int .i64), a2⟩, ⟨(.sl (.int .i64)), a3⟩, ⟨(.int .i64), a4⟩, ⟨(.int .i64), a5⟩] = (Option.bind (idx? a3 (w64 ((w64 (a4 * a2)) + a5))) fun y1 => some ⟨o_impl_Matrix_at, ((y1, ()).1, ())⟩) := by kernel_rfl
/-! loop.example/g01005/impl.transpose$1 -/
theorem impl_transpose_1.ev (R : Run) (N : Nat) (a0 : Int) (a1 : Int) (a2 : (Int × Int × Int × (List Int) × Unit)) : evFn E R sg_impl_transpose_1 pol_impl_transpose_1 F_impl_transpose_1 N [⟨(.int .i64), a0⟩, ⟨(.int .i64), a1⟩, ⟨(.ptr (.cons (.int .i64) (.cons (.int .i64) (.cons (.int .i64) (.cons (.sl (.int .i64)) .nil))))), a2⟩] = (Option.bind (callT R n_impl_Matrix_at o_impl_Matrix_at [⟨(.int .i64), a2.1⟩, ⟨(.int .i64), a2.2.1⟩, ⟨(.int .i64), a2.2.2.1⟩, ⟨(.sl (.int .i64)), a2.2.2.2.1⟩, ⟨(.int .i64), a1⟩, ⟨(.int .i64), a0⟩]) fun r1 => some ⟨o_impl_transpose_1, (r1.1, ())⟩) := by kernel_rfl
/-! loop.example/g01005/impl.filled -/
noncomputable def impl_filled_impl_transpose_1.l1 (R : Run) (N : Nat) (n110100 : Nat) (n : Nat) (columns_12 : Int) (cell_13 : ((Int × Int × Int × (List Int) × Unit) × Unit)) (i_14 : Int) (t16__15 : Int) (t17__16 : Int) (t20__17 : Int) (t21__18 : Int) (o8_19 : Int) (o8_20 : Int) (o8_21 : Int) (m_22 : Int) (m_23 : Int) (m_24 : Int) (o31_25 : (List Int)) : Option Dv := R.w (some ⟨[V.dead, V.dead, .c (.d (.int .i64) columns_12), .c (.d (.fn n_impl_transpose_1 (.cons (.ptr (.cons (.int .i64) (.cons (.int .i64) (.cons (.int .i64) (.cons (.sl (.int .i64)) .nil))))) .nil)) cell_13), V.dead, V.dead, V.dead, V.dead, .c (.box 8 0), .c (.box 9 0), .c (.d (.int .i64) i_14), V.dead, V.dead, V.dead, V.dead, V.dead, .c (.d (.int .i64) t16__15), .c (.d (.int .i64) t17__16), V.dead, V.dead, .c (.d (.int .i64) t20__17), .c (.d (.int .i64) t21__18), V.dead, V.dead, V.dead, V.dead, V.dead, V.dead, V.dead, V.dead, V.dead, V.dead, V.dead, V.dead, V.dead, V.dead], [none, none, none, none, none, none, none, none, some (.box [.d (.int .i64) o8_19, .d (.int .i64) o8_20, .d (.int .i64) o8_21, .nils (.int .i64)] false false), some (.box [.d (.int .i64) m_22, .d (.int .i64) m_23, .d (.int .i64) m_24, .arr 31] false false), none, none, none, none, none, none, none, none, none, none, none, none, none, none, none, none, none, none, none, none, none, some (.arr (.int .i64) o31_25 true false false), none, none, none, none, none, none, none, none]⟩) fun st => loopC (evCode E R pol_impl_filled N (sub [1, 1, 0, 1, 0, 0, 1, 1, 0, 0, 1, 1, 0, 0] (bodyOf F_impl_filled))) (maskAt R pol_impl_filled.loopM 6) n st (kBlk (maskAt R pol_impl_filled.blkM 2) 2 (kBlk (maskAt R pol_impl_filled.blkM 1) 1 (kSeq (maskAt R pol_impl_filled.seqM 10) (evCode E R pol_impl_filled N (sub [1, 1, 0, 1, 0, 0, 1, 1, 1] (bodyOf F_impl_filled))) (kLoop (evCode E R pol_impl_filled N (sub [1, 1, 0, 1, 0, 0] (bodyOf F_impl_filled))) (maskAt R pol_impl_filled.loopM 3) n110100 (kBlk (maskAt R pol_impl_filled.blkM 0) 0 (kSeq (maskAt R pol_impl_filled.seqM 11) (evCode E R pol_impl_filled N (sub [1, 1, 1] (bodyOf F_impl_filled))) (kTop E sg_impl_filled F_impl_filled)))))))
noncomputable def impl_filled_impl_transpose_1.l0 (R : Run) (N : Nat) (n : Nat) (columns_1 : Int) (cell_2 : ((Int × Int × Int × (List Int) × Unit) × Unit)) (t16__3 : Int) (t17__4 : Int) (o8_5 : Int) (o8_6 : Int) (o8_7 : Int) (m_8 : Int) (m_9 : Int) (m_10 : Int) (o31_11 : (List Int)) : Option Dv := R.w (some ⟨[V.dead, V.dead, .c (.d (.int .i64) columns_1), .c (.d (.fn n_impl_transpose_1 (.cons (.ptr (.cons (.int .i64) (.cons (.int .i64) (.cons (.int .i64) (.cons (.sl (.int .i64)) .nil))))) .nil)) cell_2), V.dead, V.dead, V.dead, V.dead, .c (.box 8 0), .c (.box 9 0), V.dead, V.dead, V.dead, V.dead, V.dead, V.dead, .c (.d (.int .i64) t16__3), .c (.d (.int .i64) t17__4), V.dead, V.dead, V.dead, V.dead, V.dead, V.dead, V.dead, V.dead, V.dead, V.dead, V.dead, V.dead, V.dead, V.dead, V.dead, V.dead, V.dead, V.dead], [none, none, none, none, none, none, none, none, some (.box [.d (.int .i64) o8_5, .d (.int .i64) o8_6, .d (.int .i64) o8_7, .nils (.int .i64)] false false), some (.box [.d (.int .i64) m_8, .d (.int .i64) m_9, .d (.int .i64) m_10, .arr 31] false false), none, none, none, none, none, none, none, none, none, none, none, none, none, none, none, none, none, none, none, none, none, some (.arr (.int .i64) o31_11 true false false), none, none, none, none, none, none, none, none]⟩) fun st => loopC (evCode E R pol_impl_filled N (sub [1, 1, 0, 1, 0, 0] (bodyOf F_impl_filled))) (maskAt R pol_impl_filled.loopM 3) n st (kBlk (maskAt R pol_impl_filled.blkM 0) 0 (kSeq (maskAt R pol_impl_filled.seqM 11) (evCode E R pol_impl_filled N (sub [1, 1, 1] (bodyOf F_impl_filled))) (kTop E sg_impl_filled F_impl_filled)))
theorem impl_filled_impl_transpose_1.l1_zero (R : Run) (hw : R.ok) (N : Nat) (n110100 : Nat) (columns_12 : Int) (cell_13 : ((Int × Int × Int × (List Int) × Unit) × Unit)) (i_14 : Int) (t16__15 : Int) (t17__16 : Int) (t20__17 : Int) (t21__18 : Int) (o8_19 : Int) (o8_20 : Int) (o8_21 : Int) (m_22 : Int) (m_23 : Int) (m_24 : Int) (o31_25 : (List Int)) : impl_filled_impl_transpose_1.l1 R N n110100 0 columns_12 cell_13 i_14 t16__15 t17__16 t20__17 t21__18 o8_19 o8_20 o8_21 m_22 m_23 m_24 o31_25 = none := (hw _ _).trans (by kernel_rfl)
theorem impl_filled_impl_transpose_1.l1_succ (R : Run) (hw : R.ok) (N : Nat) (n110100 : Nat) (n : Nat) (columns_12 : Int) (cell_13 : ((Int × Int × Int × (List Int) × Unit) × Unit)) (i_14 : Int) (t16__15 : Int) (t17__16 : Int) (t20__17 : Int) (t21__18 : Int) (o8_19 : Int) (o8_20 : Int) (o8_21 : Int) (m_22 : Int) (m_23 : Int) (m_24 : Int) (o31_25 : (List Int)) : impl_filled_impl_transpose_1.l1 R N n110100 (n + 1) columns_12 cell_13 i_14 t16__15 t17__16 t20__17 t21__18 o8_19 o8_20 o8_21 m_22 m_23 m_24 o31_25 = (bif (decide (t21__18 < t20__17)) then (Option.bind (callT R n_impl_transpose_1 o_impl_transpose_1 [⟨(.int .i64), i_14⟩, ⟨(.int .i64), t21__18⟩, ⟨(.ptr (.cons (.int .i64) (.cons (.int .i64) (.cons (.int .i64) (.cons (.sl (.int .i64)) .nil))))), cell_13.1⟩]) fun r26 => (Option.bind (chk (decide ((List.length o31_25 + List.length [r26.1]) * 8 ≤ 70368744177664))) fun _ => (impl_filled_impl_transpose_1.l1 R N n110100 n columns_12 cell_13 i_14 t16__15 t17__16 t20__17 (w64 (t21__18 + (1 : Int))) o8_19 o8_20 o8_21 m_22 m_23 m_24 (o31_25 ++ [r26.1])))) else (impl_filled_impl_transpose_1.l0 R N n110100 columns_12 cell_13 t16__15 (w64 (t17__16 + (1 : Int))) o8_19 o8_20 o8_21 m_22 m_23 m_24 o31_25)) := (hw _ _).trans (by kernel_rfl)
theorem impl_filled_impl_transpose_1.l0_zero (R : Run) (hw : R.ok) (N : Nat) (columns_1 : Int) (cell_2 : ((Int × Int × Int × (List Int) × Unit) × Unit)) (t16__3 : Int) (t17__4 : Int) (o8_5 : Int) (o8_6 : Int) (o8_7 : Int) (m_8 : Int) (m_9 : Int) (m_10 : Int) (o31_11 : (List Int)) : impl_filled_impl_transpose_1.l0 R N 0 columns_1 cell_2 t16__3 t17__4 o8_5 o8_6 o8_7 m_8 m_9 m_10 o31_11 = none := (hw _ _).trans (by kernel_rfl)
theorem impl_filled_impl_transpose_1.l0_succ (R : Run) (hw : R.ok) (N : Nat) (n : Nat) (columns_1 : Int) (cell_2 : ((Int × Int × Int × (List Int) × Unit) × Unit)) (t16__3 : Int) (t17__4 : Int) (o8_5 : Int) (o8_6 : Int) (o8_7 : Int) (m_8 : Int) (m_9 : Int) (m_10 : Int) (o31_11 : (List Int)) : impl_filled_impl_transpose_1.l0 R N (n + 1) columns_1 cell_2 t16__3 t17__4 o8_5 o8_6 o8_7 m_8 m_9 m_10 o31_11 = (bif (decide (t17__4 < t16__3)) then (impl_filled_impl_transpose_1.l1 R N n N columns_1 cell_2 t17__4 t16__3 t17__4 columns_1 (0 : Int) o8_5 o8_6 o8_7 m_8 m_9 m_10 o31_11) else some ⟨o_impl_filled, (m_8, m_9, m_10, o31_11, ())⟩) := (hw _ _).trans (by kernel_rfl)
theorem impl_filled_impl_transpose_1.ev (R : Run) (N : Nat) (a0 : Int) (a1 : Int) (a2 : Int) (a3 : ((Int × Int × Int × (List Int) × Unit) × Unit)) : evFn E R sg_impl_filled pol_impl_filled F_impl_filled N [⟨(.int .i64), a0⟩, ⟨(.int .i64), a1⟩, ⟨(.int .i64), a2⟩, ⟨(.fn n_impl_transpose_1 (.cons (.ptr (.cons (.int .i64) (.cons (.int .i64) (.cons (.int .i64) (.cons (.sl (.int .i64)) .nil))))) .nil)), a3⟩] = (impl_filled_impl_transpose_1.l0 R N N a2 a3 a1 (0 : Int) (0 : Int) (0 : Int) (0 : Int) a0 a1 a2 ([] : List Int)) := by kernel_rfl
/-! loop.example/g01005/impl.transpose -/
theorem impl_transpose.ev (R : Run) (N : Nat) (a0 : Int) (a1 : Int) (a2 : Int) (a3 : (List Int)) : evFn E R sg_impl_transpose pol_impl_transpose F_impl_transpose N [⟨(.int .i64), a0⟩, ⟨(.int .i64), a1⟩, ⟨(.int .i64), a2⟩, ⟨(.sl (.int .i64)), a3⟩] = (Option.bind (callT R n_impl_filled o_impl_filled [⟨(.int .i64), a0⟩, ⟨(.int .i64), a2⟩, ⟨(.int .i64), a1⟩, ⟨(.fn n_impl_transpose_1 (.cons (.ptr (.cons (.int .i64) (.cons (.int .i64) (.cons (.int .i64) (.cons (.sl (.int .i64)) .nil))))) .nil)), ((a0, a1, a2, a3, ()), ())⟩]) fun r1 => some ⟨o_impl_transpose, (r1.1, r1.2.1, r1.2.2.1, r1.2.2.2.1, ())⟩) := by kernel_rfl
/-! (loop.example/g01005/impl.Matrix).row -/
theorem impl_Matrix_row.ev (R : Run) (N : Nat) (a0 : Int) (a1 : Int) (a2 : Int) (a3 : (List Int)) (a4 : Int) : evFn E R sg_impl_Matrix_row pol_impl_Matrix_row F_impl_Matrix_row N [⟨(.int .i64), a0⟩, ⟨(.int .i64), a1⟩, ⟨(.int .i64), a2⟩, ⟨(.sl (.int .i64)), a3⟩, ⟨(.int .i64), a4⟩] = (Option.bind (chk (decide (0 ≤ (w64 (a4 * a2))) && decide ((w64 (a4 * a2)) ≤ (w64 ((w64 (a4 + (1 : Int))) * a2))) && decide ((w64 ((w64 (a4 + (1 : Int))) * a2)) ≤ (List.length a3 : Int)))) fun _ => some ⟨o_impl_Matrix_row, ((List.drop (Int.toNat (w64 (a4 * a2))) (List.take (Int.toNat (w64 ((w64 (a4 + (1 : Int))) * a2))) a3)), ())⟩) := by kernel_rfl
/-! slices.Clone[[]int64,int64] -/
noncomputable def slices_Clone_Sint64_int64.j0 (R : Run) (N : Nat) (s_1 : (List Int)) (t4__2 : Bool) : Option Dv := R.w (some ⟨[.c (.d (.sl (.int .i64)) s_1), V.dead, V.dead, V.dead, .c (.d .bool t4__2), V.dead, V.dead, V.dead], [none, none, none, none, none, none, none, none, none]⟩) fun st => evCode E R pol_slices_Clone_Sint64_int64 N (sub [1, 0, 1] (bodyOf F_slices_Clone_Sint64_int64)) st (kSeq (maskAt R pol_slices_Clone_Sint64_int64.seqM 3) (evCode E R pol_slices_Clone_Sint64_int64 N (sub [1, 1] (bodyOf F_slices_Clone_Sint64_int64))) (kTop E sg_slices_Clone_Sint64_int64 F_slices_Clone_Sint64_int64))
theorem slices_Clone_Sint64_int64.j0_eq (R : Run) (hw : R.ok) (N : Nat) (s_1 : (List Int)) (t4__2 : Bool) : slices_Clone_Sint64_int64.j0 R N s_1 t4__2 = (bif t4__2 then some ⟨o_slices_Clone_Sint64_int64, (([] : List Int), ())⟩ else (Option.bind (chk (decide ((List.length ([] : List Int) + List.length s_1) * 8 ≤ 70368744177664))) fun _ => some ⟨o_slices_Clone_Sint64_int64, ((([] : List Int) ++ s_1), ())⟩)) := (hw _ _).trans (by kernel_rfl)
theorem slices_Clone_Sint64_int64.ev (R : Run) (N : Nat) (a0 : (List Int)) : evFn E R sg_slices_Clone_Sint64_int64 pol_slices_Clone_Sint64_int64 F_slices_Clone_Sint64_int64 N [⟨(.sl (.int .i64)), a0⟩] = (bif (List.isEmpty a0) then (both (slices_Clone_Sint64_int64.j0 R N a0 true) (slices_Clone_Sint64_int64.j0 R N a0 false)) else (slices_Clone_Sint64_int64.j0 R N a0 false)) := by kernel_rfl
/-! loop.example/g01005/impl.rowsOf -/
noncomputable def impl_rowsOf.l0 (R : Run) (N : Nat) (n : Nat) (t6__1 : Int) (t7__2 : Int) (m_3 : Int) (m_4 : Int) (m_5 : Int) (m_6 : (List Int)) (o16_7 : (List (List Int))) : Option Dv := R.w (some ⟨[V.dead, .c (.box 1 0), V.dead, .c (.arr 16), V.dead, V.dead, .c (.d (.int .i64) t6__1), .c (.d (.int .i64) t7__2), V.dead, V.dead, V.dead, V.dead, V.dead, V.dead, V.dead, V.dead, V.dead, V.dead, V.dead], [none, some (.box [.d (.int .i64) m_3, .d (.int .i64) m_4, .d (.int .i64) m_5, .d (.sl (.int .i64)) m_6] false false), none, none, none, none, none, none, none, none, none, none, none, none, none, none, some (.arr (.sl (.int .i64)) o16_7 true false false), none, none, none, none, none, none, none]⟩) fun st => loopC (evCode E R pol_impl_rowsOf N (sub [1, 1, 0, 1, 0, 0] (bodyOf F_impl_rowsOf))) (maskAt R pol_impl_rowsOf.loopM 3) n st (kBlk (maskAt R pol_impl_rowsOf.blkM 0) 0 (kSeq (maskAt R pol_impl_rowsOf.seqM 7) (evCode E R pol_impl_rowsOf N (sub [1, 1, 1] (bodyOf F_impl_rowsOf))) (kTop E sg_impl_rowsOf F_impl_rowsOf)))
theorem impl_rowsOf.l0_zero (R : Run) (hw : R.ok) (N : Nat) (t6__1 : Int) (t7__2 : Int) (m_3 : Int) (m_4 : Int) (m_5 : Int) (m_6 : (List Int)) (o16_7 : (List (List Int))) : impl_rowsOf.l0 R N 0 t6__1 t7__2 m_3 m_4 m_5 m_6 o16_7 = none := (hw _ _).trans (by kernel_rfl)
theorem impl_rowsOf.l0_succ (R : Run) (hw : R.ok) (N : Nat) (n : Nat) (t6__1 : Int) (t7__2 : Int) (m_3 : Int) (m_4 : Int) (m_5 : Int) (m_6 : (List Int)) (o16_7 : (List (List Int))) : impl_rowsOf.l0 R N (n + 1) t6__1 t7__2 m_3 m_4 m_5 m_6 o16_7 = (bif (decide (t7__2 < t6__1)) then (Option.bind (callT R n_impl_Matrix_row o_impl_Matrix_row [⟨(.int .i64), m_3⟩, ⟨(.int .i64), m_4⟩, ⟨(.int .i64), m_5⟩, ⟨(.sl (.int .i64)), m_6⟩, ⟨(.int .i64), t7__2⟩]) fun r8 => (Option.bind (callT R n_slices_Clone_Sint64_int64 o_slices_Clone_Sint64_int64 [⟨(.sl (.int .i64)), r8.1⟩]) fun r9 => (Option.bind (chk (decide ((List.length o16_7 + List.length [r9.1]) * 24 ≤ 70368744177664))) fun _ => (impl_rowsOf.l0 R N n t6__1 (w64 (t7__2 + (1 : Int))) m_3 m_4 m_5 m_6 (o16_7 ++ [r9.1]))))) else some ⟨o_impl_rowsOf, (o16_7, ())⟩) := (hw _ _).trans (by kernel_rfl)
theorem impl_rowsOf.ev (R : Run) (N : Nat) (a0 : Int) (a1 : Int) (a2 : Int) (a3 : (List Int)) : evFn E R sg_impl_rowsOf pol_impl_rowsOf F_impl_rowsOf N [⟨(.int .i64), a0⟩, ⟨(.int .i64), a1⟩, ⟨(.int .i64), a2⟩, ⟨(.sl (.int .i64)), a3⟩] = (impl_rowsOf.l0 R N N a1 (0 : Int) a0 a1 a2 a3 ([] : List (List Int))) := by kernel_rfl
/-! loop.example/g01005/impl.columnsOf -/
theorem impl_columnsOf.ev (R : Run) (N : Nat) (a0 : Int) (a1 : Int) (a2 : Int) (a3 : (List Int)) : evFn E R sg_impl_columnsOf pol_impl_columnsOf F_impl_columnsOf N [⟨(.int .i64), a0⟩, ⟨(.int .i64), a1⟩, ⟨(.int .i64), a2⟩, ⟨(.sl (.int .i64)), a3⟩] = (Option.bind (callT R n_impl_transpose o_impl_transpose [⟨(.int .i64), a0⟩, ⟨(.int .i64), a1⟩, ⟨(.int .i64), a2⟩, ⟨(.sl (.int .i64)), a3⟩]) fun r1 => (Option.bind (callT R n_impl_rowsOf o_impl_rowsOf [⟨(.int .i64), r1.1⟩, ⟨(.int .i64), r1.2.1⟩, ⟨(.int .i64), r1.2.2.1⟩, ⟨(.sl (.int .i64)), r1.2.2.2.1⟩]) fun r2 => some ⟨o_impl_columnsOf, (r2.1, ())⟩)) := by kernel_rfl
/-! loop.example/g01005/impl.dot -/
noncomputable def impl_dot.l0 (R : Run) (N : Nat) (n : Nat) (a_1 : (List Int)) (b_2 : (List Int)) (p_3 : Int) (sum_4 : Int) (t10__5 : Int) (t11__6 : Int) : Option Dv := R.w (some ⟨[.c (.d (.sl (.int .i64)) a_1), .c (.d (.sl (.int .i64)) b_2), .c (.d (.int .i64) p_3), V.dead, V.dead, V.dead, V.dead, .c (.d (.int .i64) sum_4), V.dead, V.dead, .c (.d (.int .i64) t10__5), .c (.d (.int .i64) t11__6), V.dead, V.dead, V.dead, V.dead, V.dead, V.dead, V.dead, V.dead, V.dead, V.dead, V.dead, V.dead, V.dead, V.dead, V.dead, V.dead, V.dead], [none, none, none, none, none, none, none, none, none, none, none, none, none, none, none, none, none, none, none, none, none, none, none, none, none, none, none, none, none, none, none, none]⟩) fun st => loopC (evCode E R pol_impl_dot N (sub [1, 1, 0, 1, 0, 0] (bodyOf F_impl_dot))) (maskAt R pol_impl_dot.loopM 3) n st (kBlk (maskAt R pol_impl_dot.blkM 0) 0 (kSeq (maskAt R pol_impl_dot.seqM 7) (evCode E R pol_impl_dot N (sub [1, 1, 1] (bodyOf F_impl_dot))) (kTop E sg_impl_dot F_impl_dot)))
theorem impl_dot.l0_zero (R : Run) (hw : R.ok) (N : Nat) (a_1 : (List Int)) (b_2 : (List Int)) (p_3 : Int) (sum_4 : Int) (t10__5 : Int) (t11__6 : Int) : impl_dot.l0 R N 0 a_1 b_2 p_3 sum_4 t10__5 t11__6 = none := (hw _ _).trans (by kernel_rfl)
theorem impl_dot.l0_succ (R : Run) (hw : R.ok) (N : Nat) (n : Nat) (a_1 : (List Int)) (b_2 : (List Int)) (p_3 : Int) (sum_4 : Int) (t10__5 : Int) (t11__6 : Int) : impl_dot.l0 R N (n + 1) a_1 b_2 p_3 sum_4 t10__5 t11__6 = (bif (decide (t11__6 < t10__5)) then (Option.bind (idx? a_1 t11__6) fun y7 => (Option.bind (idx? b_2 t11__6) fun y8 => (Option.bind (chk (p_3 != 0)) fun _ => (impl_dot.l0 R N n a_1 b_2 p_3 (Int.tmod (w64 (sum_4 + (w64 ((y7, ()).1 * (y8, ()).1)))) p_3) t10__5 (w64 (t11__6 + (1 : Int))))))) else some ⟨o_impl_dot, (sum_4, ())⟩) := (hw _ _).trans (by kernel_rfl)
theorem impl_dot.ev (R : Run) (N : Nat) (a0 : (List Int)) (a1 : (List Int)) (a2 : Int) : evFn E R sg_impl_dot pol_impl_dot F_impl_dot N [⟨(.sl (.int .i64)), a0⟩, ⟨(.sl (.int .i64)), a1⟩, ⟨(.int .i64), a2⟩] = (impl_dot.l0 R N N a0 a1 a2 (0 : Int) (List.length a0 : Int) (0 : Int)) := by kernel_rfl
/-! loop.example/g01005/impl.product$1 -/
theorem impl_product_1.ev (R : Run) (N : Nat) (a0 : Int) (a1 : Int) (a2 : (Int × Int × Int × (List Int) × Unit)) (a3 : ((List (List Int)) × Unit)) : evFn E R sg_impl_product_1 pol_impl_product_1 F_impl_product_1 N [⟨(.int .i64), a0⟩, ⟨(.int .i64), a1⟩, ⟨(.ptr (.cons (.int .i64) (.cons (.int .i64) (.cons (.int .i64) (.cons (.sl (.int .i64)) .nil))))), a2⟩, ⟨(.ptr (.cons (.sl (.sl (.int .i64))) .nil)), a3⟩] = (Option.bind (idx? a3.1 a1) fun y1 => (Option.bind (callT R n_impl_Matrix_row o_impl_Matrix_row [⟨(.int .i64), a2.1⟩, ⟨(.int .i64), a2.2.1⟩, ⟨(.int .i64), a2.2.2.1⟩, ⟨(.sl (.int .i64)), a2.2.2.2.1⟩, ⟨(.int .i64), a0⟩]) fun r2 => (Option.bind (callT R n_impl_dot o_impl_dot [⟨(.sl (.int .i64)), r2.1⟩, ⟨(.sl (.int .i64)), (y1, ()).1⟩, ⟨(.int .i64), a2.1⟩]) fun r3 => some ⟨o_impl_product_1, (r3.1, ())⟩))) := by kernel_rfl
/-! loop.example/g01005/impl.filled -/
noncomputable def impl_filled_impl_product_1.l1 (R : Run) (N : Nat) (n110100 : Nat) (n : Nat) (columns_12 : Int) (cell_13 : ((Int × Int × Int × (List Int) × Unit) × ((List (List Int)) × Unit) × Unit)) (i_14 : Int) (t16__15 : Int) (t17__16 : Int) (t20__17 : Int) (t21__18 : Int) (o8_19 : Int) (o8_20 : Int) (o8_21 : Int) (m_22 : Int) (m_23 : Int) (m_24 : Int) (o31_25 : (List Int)) : Option Dv := R.w (some ⟨[V.dead, V.dead, .c (.d (.int .i64) columns_12), .c (.d (.fn n_impl_product_1 (.cons (.ptr (.cons (.int .i64) (.cons (.int .i64) (.cons (.int .i64) (.cons (.sl (.int .i64)) .nil))))) (.cons (.ptr (.cons (.sl (.sl (.int .i64))) .nil)) .nil))) cell_13), V.dead, V.dead, V.dead, V.dead, .c (.box 8 0), .c (.box 9 0), .c (.d (.int .i64) i_14), V.dead, V.dead, V.dead, V.dead, V.dead, .c (.d (.int .i64) t16__15), .c (.d (.int .i64) t17__16), V.dead, V.dead, .c (.d (.int .i64) t20__17), .c (.d (.int .i64) t21__18), V.dead, V.dead, V.dead, V.dead, V.dead, V.dead, V.dead, V.dead, V.dead, V.dead, V.dead, V.dead, V.dead, V.dead], [none, none, none, none, none, none, none, none, some (.box [.d (.int .i64) o8_19, .d (.int .i64) o8_20, .d (.int .i64) o8_21, .nils (.int .i64)] false false), some (.box [.d (.int .i64) m_22, .d (.int .i64) m_23, .d (.int .i64) m_24, .arr 31] false false), none, none, none, none, none, none, none, none, none, none, none, none, none, none, none, none, none, none, none, none, none, some (.arr (.int .i64) o31_25 true false false), none, none, none, none, none, none, none, none]⟩) fun st => loopC (evCode E R pol_impl_filled N (sub [1, 1, 0, 1, 0, 0, 1, 1, 0, 0, 1, 1, 0, 0] (bodyOf F_impl_filled))) (maskAt R pol_impl_filled.loopM 6) n st (kBlk (maskAt R pol_impl_filled.blkM 2) 2 (kBlk (maskAt R pol_impl_filled.blkM 1) 1 (kSeq (maskAt R pol_impl_filled.seqM 10) (evCode E R pol_impl_filled N (sub [1, 1, 0, 1, 0, 0, 1, 1, 1] (bodyOf F_impl_filled))) (kLoop (evCode E R pol_impl_filled N (sub [1, 1, 0, 1, 0, 0] (bodyOf F_impl_filled))) (maskAt R pol_impl_filled.loopM 3) n110100 (kBlk (maskAt R pol_impl_filled.blkM 0) 0 (kSeq (maskAt R pol_impl_filled.seqM 11) (evCode E R pol_impl_filled N (sub [1, 1, 1] (bodyOf F_impl_filled))) (kTop E sg_impl_filled F_impl_filled)))))))
noncomputable def impl_filled_impl_product_1.l0 (R : Run) (N : Nat) (n : Nat) (columns_1 : Int) (cell_2 : ((Int × Int × Int × (List Int) × Unit) × ((List (List Int)) × Unit) × Unit)) (t16__3 : Int) (t17__4 : Int) (o8_5 : Int) (o8_6 : Int) (o8_7 : Int) (m_8 : Int) (m_9 : Int) (m_10 : Int) (o31_11 : (List Int)) : Option Dv := R.w (some ⟨[V.dead, V.dead, .c (.d (.int .i64) columns_1), .c (.d (.fn n_impl_product_1 (.cons (.ptr (.cons (.int .i64) (.cons (.int .i64) (.cons (.int .i64) (.cons (.sl (.int .i64)) .nil))))) (.cons (.ptr (.cons (.sl (.sl (.int .i64))) .nil)) .nil))) cell_2), V.dead, V.dead, V.dead, V.dead, .c (.box 8 0), .c (.box 9 0), V.dead, V.dead, V.dead, V.dead, V.dead, V.dead, .c (.d (.int .i64) t16__3), .c (.d (.int .i64) t17__4), V.dead, V.dead, V.dead, V.dead, V.dead, V.dead, V.dead, V.dead, V.dead, V.dead, V.dead, V.dead, V.dead, V.dead, V.dead, V.dead, V.dead, V.dead], [none, none, none, none, none, none, none, none, some (.box [.d (.int .i64) o8_5, .d (.int .i64) o8_6, .d (.int .i64) o8_7, .nils (.int .i64)] false false), some (.box [.d (.int .i64) m_8, .d (.int .i64) m_9, .d (.int .i64) m_10, .arr 31] false false), none, none, none, none, none, none, none, none, none, none, none, none, none, none, none, none, none, none, none, none, none, some (.arr (.int .i64) o31_11 true false false), none, none, none, none, none, none, none, none]⟩) fun st => loopC (evCode E R pol_impl_filled N (sub [1, 1, 0, 1, 0, 0] (bodyOf F_impl_filled))) (maskAt R pol_impl_filled.loopM 3) n st (kBlk (maskAt R pol_impl_filled.blkM 0) 0 (kSeq (maskAt R pol_impl_filled.seqM 11) (evCode E R pol_impl_filled N (sub [1, 1, 1] (bodyOf F_impl_filled))) (kTop E sg_impl_filled F_impl_filled)))
theorem impl_filled_impl_product_1.l1_zero (R : Run) (hw : R.ok) (N : Nat) (n110100 : Nat) (columns_12 : Int) (cell_13 : ((Int × Int × Int × (List Int) × Unit) × ((List (List Int)) × Unit) × Unit)) (i_14 : Int) (t16__15 : Int) (t17__16 : Int) (t20__17 : Int) (t21__18 : Int) (o8_19 : Int) (o8_20 : Int) (o8_21 : Int) (m_22 : Int) (m_23 : Int) (m_24 : Int) (o31_25 : (List Int)) : impl_filled_impl_product_1.l1 R N n110100 0 columns_12 cell_13 i_14 t16__15 t17__16 t20__17 t21__18 o8_19 o8_20 o8_21 m_22 m_23 m_24 o31_25 = none := (hw _ _).trans (by kernel_rfl)
theorem impl_filled_impl_product_1.l1_succ (R : Run) (hw : R.ok) (N : Nat) (n110100 : Nat) (n : Nat) (columns_12 : Int) (cell_13 : ((Int × Int × Int × (List Int) × Unit) × ((List (List Int)) × Unit) × Unit)) (i_14 : Int) (t16__15 : Int) (t17__16 : Int) (t20__17 : Int) (t21__18 : Int) (o8_19 : Int) (o8_20 : Int) (o8_21 : Int) (m_22 : Int) (m_23 : Int) (m_24 : Int) (o31_25 : (List Int)) : impl_filled_impl_product_1.l1 R N n110100 (n + 1) columns_12 cell_13 i_14 t16__15 t17__16 t20__17 t21__18 o8_19 o8_20 o8_21 m_22 m_23 m_24 o31_25 = (bif (decide (t21__18 < t20__17)) then (Option.bind (callT R n_impl_product_1 o_impl_product_1 [⟨(.int .i64), i_14⟩, ⟨(.int .i64), t21__18⟩, ⟨(.ptr (.cons (.int .i64) (.cons (.int .i64) (.cons (.int .i64) (.cons (.sl (.int .i64)) .nil))))), cell_13.1⟩, ⟨(.ptr (.cons (.sl (.sl (.int .i64))) .nil)), cell_13.2.1⟩]) fun r26 => (Option.bind (chk (decide ((List.length o31_25 + List.length [r26.1]) * 8 ≤ 70368744177664))) fun _ => (impl_filled_impl_product_1.l1 R N n110100 n columns_12 cell_13 i_14 t16__15 t17__16 t20__17 (w64 (t21__18 + (1 : Int))) o8_19 o8_20 o8_21 m_22 m_23 m_24 (o31_25 ++ [r26.1])))) else (impl_filled_impl_product_1.l0 R N n110100 columns_12 cell_13 t16__15 (w64 (t17__16 + (1 : Int))) o8_19 o8_20 o8_21 m_22 m_23 m_24 o31_25)) := (hw _ _).trans (by kernel_rfl)
theorem impl_filled_impl_product_1.l0_zero (R : Run) (hw : R.ok) (N : Nat) (columns_1 : Int) (cell_2 : ((Int × Int × Int × (List Int) × Unit) × ((List (List Int)) × Unit) × Unit)) (t16__3 : Int) (t17__4 : Int) (o8_5 : Int) (o8_6 : Int) (o8_7 : Int) (m_8 : Int) (m_9 : Int) (m_10 : Int) (o31_11 : (List Int)) : impl_filled_impl_product_1.l0 R N 0 columns_1 cell_2 t16__3 t17__4 o8_5 o8_6 o8_7 m_8 m_9 m_10 o31_11 = none := (hw _ _).trans (by kernel_rfl)
theorem impl_filled_impl_product_1.l0_succ (R : Run) (hw : R.ok) (N : Nat) (n : Nat) (columns_1 : Int) (cell_2 : ((Int × Int × Int × (List Int) × Unit) × ((List (List Int)) × Unit) × Unit)) (t16__3 : Int) (t17__4 : Int) (o8_5 : Int) (o8_6 : Int) (o8_7 : Int) (m_8 : Int) (m_9 : Int) (m_10 : Int) (o31_11 : (List Int)) : impl_filled_impl_product_1.l0 R N (n + 1) columns_1 cell_2 t16__3 t17__4 o8_5 o8_6 o8_7 m_8 m_9 m_10 o31_11 = (bif (decide (t17__4 < t16__3)) then (impl_filled_impl_product_1.l1 R N n N columns_1 cell_2 t17__4 t16__3 t17__4 columns_1 (0 : Int) o8_5 o8_6 o8_7 m_8 m_9 m_10 o31_11) else some ⟨o_impl_filled, (m_8, m_9, m_10, o31_11, ())⟩) := (hw _ _).trans (by kernel_rfl)
theorem impl_filled_impl_product_1.ev (R : Run) (N : Nat) (a0 : Int) (a1 : Int) (a2 : Int) (a3 : ((Int × Int × Int × (List Int) × Unit) × ((List (List Int)) × Unit) × Unit)) : evFn E R sg_impl_filled pol_impl_filled F_impl_filled N [⟨(.int .i64), a0⟩, ⟨(.int .i64), a1⟩, ⟨(.int .i64), a2⟩, ⟨(.fn n_impl_product_1 (.cons (.ptr (.cons (.int .i64) (.cons (.int .i64) (.cons (.int .i64) (.cons (.sl (.int .i64)) .nil))))) (.cons (.ptr (.cons (.sl (.sl (.int .i64))) .nil)) .nil))), a3⟩] = (impl_filled_impl_product_1.l0 R N N a2 a3 a1 (0 : Int) (0 : Int) (0 : Int) (0 : Int) a0 a1 a2 ([] : List Int)) := by kernel_rfl
/-! loop.example/g01005/impl.product -/
theorem impl_product.ev (R : Run) (N : Nat) (a0 : Int) (a1 : Int) (a2 : Int) (a3 : (List Int)) (a4 : Int) (a5 : Int) (a6 : Int) (a7 : (List Int)) : evFn E R sg_impl_product pol_impl_product F_impl_product N [⟨(.int .i64), a0⟩, ⟨(.int .i64), a1⟩, ⟨(.int .i64), a2⟩, ⟨(.sl (.int .i64)), a3⟩, ⟨(.int .i64), a4⟩, ⟨(.int .i64), a5⟩, ⟨(.int .i64), a6⟩, ⟨(.sl (.int .i64)), a7⟩] = (Option.bind (callT R n_impl_columnsOf o_impl_columnsOf [⟨(.int .i64), a4⟩, ⟨(.int .i64), a5⟩, ⟨(.int .i64), a6⟩, ⟨(.sl (.int .i64)), a7⟩]) fun r1 => (Option.bind (callT R n_impl_filled o_impl_filled [⟨(.int .i64), a0⟩, ⟨(.int .i64), a1⟩, ⟨(.int .i64), a6⟩, ⟨(.fn n_impl_product_1 (.cons (.ptr (.cons (.int .i64) (.cons (.int .i64) (.cons (.int .i64) (.cons (.sl (.int .i64)) .nil))))) (.cons (.ptr (.cons (.sl (.sl (.int .i64))) .nil)) .nil))), ((a0, a1, a2, a3, ()), (r1.1, ()), ())⟩]) fun r2 => some ⟨o_impl_product, (r2.1, r2.2.1, r2.2.2.1, r2.2.2.2.1, ())⟩)) := by kernel_rfl
/-! loop.example/g01005/impl.restriction -/
theorem impl_restriction.ev (R : Run) (N : Nat) (a0 : (List (List Int))) (a1 : Int) (a2 : (List Int)) (a3 : (List (Int × Int × Int × (List Int) × Unit))) (a4 : Int) (a5 : Int) : evFn E R sg_impl_restriction pol_impl_restriction F_impl_restriction N [⟨(.sl (.sl (.int .i64))), a0⟩, ⟨(.int .i64), a1⟩, ⟨(.sl (.int .i64)), a2⟩, ⟨(.sl (.st (.cons (.int .i64) (.cons (.int .i64) (.cons (.int .i64) (.cons (.sl (.int .i64)) .nil)))))), a3⟩, ⟨(.int .i64), a4⟩, ⟨(.int .i64), a5⟩] = (bif (a4 == a5) then (Option.bind (idx? a2 a4) fun y1 => (Option.bind (callT R n_impl_unit o_impl_unit [⟨(.int .i64), a1⟩, ⟨(.int .i64), (y1, ()).1⟩]) fun r2 => some ⟨o_impl_restriction, (r2.1, r2.2.1, r2.2.2.1, r2.2.2.2.1, ())⟩)) else (Option.bind (idx? a0 a4) fun y3 => (Option.bind (idx? a0 a5) fun y4 => (Option.bind (callT R n_slices_IndexFunc_Sint64_int64 o_slices_IndexFunc_Sint64_int64 [⟨(.sl (.int .i64)), (y4, ()).1⟩, ⟨(.fn n_impl_restriction_1 (.cons (.ptr (.cons (.sl (.int .i64)) .nil)) .nil)), (((y3, ()).1, ()), ())⟩]) fun r5 => (Option.bind (callT R n_impl_faceIndices o_impl_faceIndices [⟨(.sl (.sl (.int .i64))), a0⟩, ⟨(.int .i64), a5⟩]) fun r6 => (Option.bind (idx? r6.1 r5.1) fun y7 => (Option.bind (callT R n_impl_direct o_impl_direct [⟨(.sl (.sl (.int .i64))), a0⟩, ⟨(.int .i64), a1⟩, ⟨(.sl (.int .i64)), a2⟩, ⟨(.sl (.st (.cons (.int .i64) (.cons (.int .i64) (.cons (.int .i64) (.cons (.sl (.int .i64)) .nil)))))), a3⟩, ⟨(.int .i64), a5⟩, ⟨(.int .i64), r5.1⟩]) fun r8 => (Option.bind (callT R n_impl_restriction o_impl_restriction [⟨(.sl (.sl (.int .i64))), a0⟩, ⟨(.int .i64), a1⟩, ⟨(.sl (.int .i64)), a2⟩, ⟨(.sl (.st (.cons (.int .i64) (.cons (.int .i64) (.cons (.int .i64) (.cons (.sl (.int .i64)) .nil)))))), a3⟩, ⟨(.int .i64), a4⟩, ⟨(.int .i64), (y7, ()).1⟩]) fun r9 => (Option.bind (callT R n_impl_product o_impl_product [⟨(.int .i64), r8.1⟩, ⟨(.int .i64), r8.2.1⟩, ⟨(.int .i64), r8.2.2.1⟩, ⟨(.sl (.int .i64)), r8.2.2.2.1⟩, ⟨(.int .i64), r9.1⟩, ⟨(.int .i64), r9.2.1⟩, ⟨(.int .i64), r9.2.2.1⟩, ⟨(.sl (.int .i64)), r9.2.2.2.1⟩]) fun r10 => some ⟨o_impl_restriction, (r10.1, r10.2.1, r10.2.2.1, r10.2.2.2.1, ())⟩))))))))) := by kernel_rfl
end VeT

open Go Go.Proofs Ve
set_option linter.unusedVariables false
set_option maxRecDepth 100000
namespace VeT
/-! loop.example/g01005/impl.RestrictionOf -/
noncomputable def impl_RestrictionOf.j0 (R : Run) (N : Nat) (face_3 : Int) (simplex_4 : Int) (t13__5 : Bool) (s_6 : (List (List Int))) (s_7 : Int) (s_8 : (List Int)) (s_9 : (List (Int × Int × Int × (List Int) × Unit))) (o6_10 : Int) (o6_11 : Int) (o6_12 : Int) : Option Dv := R.w (some ⟨[V.dead, .c (.d (.int .i64) face_3), .c (.d (.int .i64) simplex_4), .c (.box 3 0), V.dead, V.dead, .c (.box 6 0), V.dead, V.dead, V.dead, V.dead, V.dead, V.dead, .c (.d .bool t13__5), V.dead, V.dead, V.dead, V.dead, V.dead, V.dead, V.dead, V.dead, V.dead, V.dead, V.dead, V.dead, V.dead, V.dead, V.dead, V.dead, V.dead, V.dead, V.dead, V.dead, V.dead, V.dead, V.dead, V.dead, V.dead, V.dead, V.dead, V.dead, V.dead, V.dead, V.dead], [none, none, none, some (.box [.d (.sl (.sl (.int .i64))) s_6, .d (.int .i64) s_7, .d (.sl (.int .i64)) s_8, .d (.sl (.st (.cons (.int .i64) (.cons (.int .i64) (.cons (.int .i64) (.cons (.sl (.int .i64)) .nil)))))) s_9] false false), none, none, some (.box [.d (.int .i64) o6_10, .d (.int .i64) o6_11, .d (.int .i64) o6_12, .nils (.int .i64)] false false), none, none, none, none, none, none, none, none, none, none, none, none, none, none, none, none, none, none, none, none, none, none, none, none, none, none, none, none, none, none, none, none, none, none, none, none, none, none, none, none, none, none, none, none, none]⟩) fun st => evCode E R pol_impl_RestrictionOf N (sub [1, 0, 0, 1, 1, 1] (bodyOf F_impl_RestrictionOf)) st (kBlk (maskAt R pol_impl_RestrictionOf.blkM 0) 0 (kSeq (maskAt R pol_impl_RestrictionOf.seqM 7) (evCode E R pol_impl_RestrictionOf N (sub [1, 1] (bodyOf F_impl_RestrictionOf))) (kTop E sg_impl_RestrictionOf F_impl_RestrictionOf)))
theorem impl_RestrictionOf.j0_eq (R : Run) (hw : R.ok) (N : Nat) (face_3 : Int) (simplex_4 : Int) (t13__5 : Bool) (s_6 : (List (List Int))) (s_7 : Int) (s_8 : (List Int)) (s_9 : (List (Int × Int × Int × (List Int) × Unit))) (o6_10 : Int) (o6_11 : Int) (o6_12 : Int) : impl_RestrictionOf.j0 R N face_3 simplex_4 t13__5 s_6 s_7 s_8 s_9 o6_10 o6_11 o6_12 = (bif t13__5 then some ⟨o_impl_RestrictionOf, ((0 : Int), (0 : Int), (0 : Int), ([] : List Int), (2 : Int), ())⟩ else (Option.bind (idx? s_6 face_3) fun y13 => (Option.bind (idx? s_6 simplex_4) fun y14 => (Option.bind (callT R n_impl_isFace o_impl_isFace [⟨(.sl (.int .i64)), (y13, ()).1⟩, ⟨(.sl (.int .i64)), (y14, ()).1⟩]) fun r15 => (bif (!r15.1) then some ⟨o_impl_RestrictionOf, ((0 : Int), (0 : Int), (0 : Int), ([] : List Int), (3 : Int), ())⟩ else (Option.bind (callT R n_impl_restriction o_impl_restriction [⟨(.sl (.sl (.int .i64))), s_6⟩, ⟨(.int .i64), s_7⟩, ⟨(.sl (.int .i64)), s_8⟩, ⟨(.sl (.st (.cons (.int .i64) (.cons (.int .i64) (.cons (.int .i64) (.cons (.sl (.int .i64)) .nil)))))), s_9⟩, ⟨(.int .i64), face_3⟩, ⟨(.int .i64), simplex_4⟩]) fun r16 => some ⟨o_impl_RestrictionOf, (r16.1, r16.2.1, r16.2.2.1, r16.2.2.2.1, (0 : Int), ())⟩)))))) := (hw _ _).trans (by kernel_rfl)
theorem impl_RestrictionOf.ev (R : Run) (N : Nat) (a0 : (List (List Int))) (a1 : Int) (a2 : (List Int)) (a3 : (List (Int × Int × Int × (List Int) × Unit))) (a4 : Int) (a5 : Int) : evFn E R sg_impl_RestrictionOf pol_impl_RestrictionOf F_impl_RestrictionOf N [⟨(.sl (.sl (.int .i64))), a0⟩, ⟨(.int .i64), a1⟩, ⟨(.sl (.int .i64)), a2⟩, ⟨(.sl (.st (.cons (.int .i64) (.cons (.int .i64) (.cons (.int .i64) (.cons (.sl (.int .i64)) .nil)))))), a3⟩, ⟨(.int .i64), a4⟩, ⟨(.int .i64), a5⟩] = (Option.bind (callT R n_impl_ValidSheaf o_impl_ValidSheaf [⟨(.sl (.sl (.int .i64))), a0⟩, ⟨(.int .i64), a1⟩, ⟨(.sl (.int .i64)), a2⟩, ⟨(.sl (.st (.cons (.int .i64) (.cons (.int .i64) (.cons (.int .i64) (.cons (.sl (.int .i64)) .nil)))))), a3⟩]) fun r1 => (bif (!r1.1) then some ⟨o_impl_RestrictionOf, ((0 : Int), (0 : Int), (0 : Int), ([] : List Int), (1 : Int), ())⟩ else (Option.bind (callT R n_impl_isPlace o_impl_isPlace [⟨(.sl (.sl (.int .i64))), a0⟩, ⟨(.int .i64), a1⟩, ⟨(.sl (.int .i64)), a2⟩, ⟨(.sl (.st (.cons (.int .i64) (.cons (.int .i64) (.cons (.int .i64) (.cons (.sl (.int .i64)) .nil)))))), a3⟩, ⟨(.int .i64), a4⟩]) fun r2 => (bif (!r2.1) then (impl_RestrictionOf.j0 R N a4 a5 true a0 a1 a2 a3 (0 : Int) (0 : Int) (0 : Int)) else (Option.bind (callT R n_impl_isPlace o_impl_isPlace [⟨(.sl (.sl (.int .i64))), a0⟩, ⟨(.int .i64), a1⟩, ⟨(.sl (.int .i64)), a2⟩, ⟨(.sl (.st (.cons (.int .i64) (.cons (.int .i64) (.cons (.int .i64) (.cons (.sl (.int .i64)) .nil)))))), a3⟩, ⟨(.int .i64), a5⟩]) fun r17 => (impl_RestrictionOf.j0 R N a4 a5 (!r17.1) a0 a1 a2 a3 (0 : Int) (0 : Int) (0 : Int))))))) := by kernel_rfl
/-! loop.example/g01005/laws.eqInt64S -/
noncomputable def laws_eqInt64S.l0 (R : Run) (N : Nat) (n : Nat) (a_1 : (List Int)) (b_2 : (List Int)) (i_3 : Int) : Option Dv := R.w (some ⟨[.c (.d (.sl (.int .i64)) a_1), .c (.d (.sl (.int .i64)) b_2), V.dead, V.dead, V.dead, .c (.d (.int .i64) i_3), V.dead, V.dead, V.dead, V.dead, V.dead, V.dead, V.dead, V.dead, V.dead, V.dead, V.dead, V.dead, V.dead, V.dead, V.dead, V.dead, V.dead, V.dead, V.dead, V.dead], [none, none, none, none, none, none, none, none, none, none, none, none, none, none, none, none, none, none, none, none, none, none, none, none, none, none, none, none]⟩) fun st => loopC (evCode E R pol_laws_eqInt64S N (sub [1, 1, 0, 1, 0, 0] (bodyOf F_laws_eqInt64S))) (maskAt R pol_laws_eqInt64S.loopM 4) n st (kBlk (maskAt R pol_laws_eqInt64S.blkM 0) 0 (kSeq (maskAt R pol_laws_eqInt64S.seqM 8) (evCode E R pol_laws_eqInt64S N (sub [1, 1, 1] (bodyOf F_laws_eqInt64S))) (kTop E sg_laws_eqInt64S F_laws_eqInt64S)))
theorem laws_eqInt64S.l0_zero (R : Run) (hw : R.ok) (N : Nat) (a_1 : (List Int)) (b_2 : (List Int)) (i_3 : Int) : laws_eqInt64S.l0 R N 0 a_1 b_2 i_3 = none := (hw _ _).trans (by kernel_rfl)
theorem laws_eqInt64S.l0_succ (R : Run) (hw : R.ok) (N : Nat) (n : Nat) (a_1 : (List Int)) (b_2 : (List Int)) (i_3 : Int) : laws_eqInt64S.l0 R N (n + 1) a_1 b_2 i_3 = (bif (decide (i_3 < (List.length a_1 : Int))) then (Option.bind (idx? a_1 i_3) fun y4 => (Option.bind (idx? b_2 i_3) fun y5 => (bif ((y4, ()).1 != (y5, ()).1) then some ⟨o_laws_eqInt64S, (false, ())⟩ else (laws_eqInt64S.l0 R N n a_1 b_2 (w64 (i_3 + (1 : Int))))))) else some ⟨o_laws_eqInt64S, (true, ())⟩) := (hw _ _).trans (by kernel_rfl)
theorem laws_eqInt64S.ev (R : Run) (N : Nat) (a0 : (List Int)) (a1 : (List Int)) : evFn E R sg_laws_eqInt64S pol_laws_eqInt64S F_laws_eqInt64S N [⟨(.sl (.int .i64)), a0⟩, ⟨(.sl (.int .i64)), a1⟩] = (bif ((List.length a0 : Int) != (List.length a1 : Int)) then some ⟨o_laws_eqInt64S, (false, ())⟩ else (laws_eqInt64S.l0 R N N a0 a1 (0 : Int))) := by kernel_rfl
/-! loop.example/g01005/laws.eqMatrix -/
theorem laws_eqMatrix.ev (R : Run) (N : Nat) (a0 : Int) (a1 : Int) (a2 : Int) (a3 : (List Int)) (a4 : Int) (a5 : Int) (a6 : Int) (a7 : (List Int)) : evFn E R sg_laws_eqMatrix pol_laws_eqMatrix F_laws_eqMatrix N [⟨(.int .i64), a0⟩, ⟨(.int .i64), a1⟩, ⟨(.int .i64), a2⟩, ⟨(.sl (.int .i64)), a3⟩, ⟨(.int .i64), a4⟩, ⟨(.int .i64), a5⟩, ⟨(.int .i64), a6⟩, ⟨(.sl (.int .i64)), a7⟩] = (bif (a0 != a4) then some ⟨o_laws_eqMatrix, (false, ())⟩ else (bif (a1 != a5) then some ⟨o_laws_eqMatrix, (false, ())⟩ else (bif (a2 != a6) then some ⟨o_laws_eqMatrix, (false, ())⟩ else (Option.bind (callT R n_laws_eqInt64S o_laws_eqInt64S [⟨(.sl (.int .i64)), a3⟩, ⟨(.sl (.int .i64)), a7⟩]) fun r1 => (bif (!r1.1) then some ⟨o_laws_eqMatrix, (false, ())⟩ else some ⟨o_laws_eqMatrix, (true, ())⟩))))) := by kernel_rfl
/-! loop.example/g01005/laws.eqInt64SS -/
noncomputable def laws_eqInt64SS.l0 (R : Run) (N : Nat) (n : Nat) (a_1 : (List (List Int))) (b_2 : (List (List Int))) (i_3 : Int) : Option Dv := R.w (some ⟨[.c (.d (.sl (.sl (.int .i64))) a_1), .c (.d (.sl (.sl (.int .i64))) b_2), V.dead, V.dead, V.dead, .c (.d (.int .i64) i_3), V.dead, V.dead, V.dead, V.dead, V.dead, V.dead, V.dead, V.dead, V.dead, V.dead, V.dead, V.dead, V.dead, V.dead, V.dead, V.dead, V.dead, V.dead, V.dead, V.dead, V.dead], [none, none, none, none, none, none, none, none, none, none, none, none, none, none, none, none, none, none, none, none, none, none, none, none, none, none, none, none, none]⟩) fun st => loopC (evCode E R pol_laws_eqInt64SS N (sub [1, 1, 0, 1, 0, 0] (bodyOf F_laws_eqInt64SS))) (maskAt R pol_laws_eqInt64SS.loopM 4) n st (kBlk (maskAt R pol_laws_eqInt64SS.blkM 0) 0 (kSeq (maskAt R pol_laws_eqInt64SS.seqM 8) (evCode E R pol_laws_eqInt64SS N (sub [1, 1, 1] (bodyOf F_laws_eqInt64SS))) (kTop E sg_laws_eqInt64SS F_laws_eqInt64SS)))
theorem laws_eqInt64SS.l0_zero (R : Run) (hw : R.ok) (N : Nat) (a_1 : (List (List Int))) (b_2 : (List (List Int))) (i_3 : Int) : laws_eqInt64SS.l0 R N 0 a_1 b_2 i_3 = none := (hw _ _).trans (by kernel_rfl)
theorem laws_eqInt64SS.l0_succ (R : Run) (hw : R.ok) (N : Nat) (n : Nat) (a_1 : (List (List Int))) (b_2 : (List (List Int))) (i_3 : Int) : laws_eqInt64SS.l0 R N (n + 1) a_1 b_2 i_3 = (bif (decide (i_3 < (List.length a_1 : Int))) then (Option.bind (idx? a_1 i_3) fun y4 => (Option.bind (idx? b_2 i_3) fun y5 => (Option.bind (callT R n_laws_eqInt64S o_laws_eqInt64S [⟨(.sl (.int .i64)), (y4, ()).1⟩, ⟨(.sl (.int .i64)), (y5, ()).1⟩]) fun r6 => (bif (!r6.1) then some ⟨o_laws_eqInt64SS, (false, ())⟩ else (laws_eqInt64SS.l0 R N n a_1 b_2 (w64 (i_3 + (1 : Int)))))))) else some ⟨o_laws_eqInt64SS, (true, ())⟩) := (hw _ _).trans (by kernel_rfl)
theorem laws_eqInt64SS.ev (R : Run) (N : Nat) (a0 : (List (List Int))) (a1 : (List (List Int))) : evFn E R sg_laws_eqInt64SS pol_laws_eqInt64SS F_laws_eqInt64SS N [⟨(.sl (.sl (.int .i64))), a0⟩, ⟨(.sl (.sl (.int .i64))), a1⟩] = (bif ((List.length a0 : Int) != (List.length a1 : Int)) then some ⟨o_laws_eqInt64SS, (false, ())⟩ else (laws_eqInt64SS.l0 R N N a0 a1 (0 : Int))) := by kernel_rfl
/-! loop.example/g01005/laws.eqComplex -/
theorem laws_eqComplex.ev (R : Run) (N : Nat) (a0 : (List (List Int))) (a1 : (List (List Int))) : evFn E R sg_laws_eqComplex pol_laws_eqComplex F_laws_eqComplex N [⟨(.sl (.sl (.int .i64))), a0⟩, ⟨(.sl (.sl (.int .i64))), a1⟩] = (Option.bind (callT R n_laws_eqInt64SS o_laws_eqInt64SS [⟨(.sl (.sl (.int .i64))), a0⟩, ⟨(.sl (.sl (.int .i64))), a1⟩]) fun r1 => (bif (!r1.1) then some ⟨o_laws_eqComplex, (false, ())⟩ else some ⟨o_laws_eqComplex, (true, ())⟩)) := by kernel_rfl
/-! loop.example/g01005/laws.eqMatrixS -/
noncomputable def laws_eqMatrixS.l0 (R : Run) (N : Nat) (n : Nat) (a_1 : (List (Int × Int × Int × (List Int) × Unit))) (b_2 : (List (Int × Int × Int × (List Int) × Unit))) (i_3 : Int) : Option Dv := R.w (some ⟨[.c (.d (.sl (.st (.cons (.int .i64) (.cons (.int .i64) (.cons (.int .i64) (.cons (.sl (.int .i64)) .nil)))))) a_1), .c (.d (.sl (.st (.cons (.int .i64) (.cons (.int .i64) (.cons (.int .i64) (.cons (.sl (.int .i64)) .nil)))))) b_2), V.dead, V.dead, V.dead, .c (.d (.int .i64) i_3), V.dead, V.dead, V.dead, V.dead, V.dead, V.dead, V.dead, V.dead, V.dead, V.dead, V.dead, V.dead, V.dead, V.dead, V.dead, V.dead, V.dead, V.dead, V.dead, V.dead, V.dead], [none, none, none, none, none, none, none, none, none, none, none, none, none, none, none, none, none, none, none, none, none, none, none, none, none, none, none, none, none]⟩) fun st => loopC (evCode E R pol_laws_eqMatrixS N (sub [1, 1, 0, 1, 0, 0] (bodyOf F_laws_eqMatrixS))) (maskAt R pol_laws_eqMatrixS.loopM 4) n st (kBlk (maskAt R pol_laws_eqMatrixS.blkM 0) 0 (kSeq (maskAt R pol_laws_eqMatrixS.seqM 8) (evCode E R pol_laws_eqMatrixS N (sub [1, 1, 1] (bodyOf F_laws_eqMatrixS))) (kTop E sg_laws_eqMatrixS F_laws_eqMatrixS)))
theorem laws_eqMatrixS.l0_zero (R : Run) (hw : R.ok) (N : Nat) (a_1 : (List (Int × Int × Int × (List Int) × Unit))) (b_2 : (List (Int × Int × Int × (List Int) × Unit))) (i_3 : Int) : laws_eqMatrixS.l0 R N 0 a_1 b_2 i_3 = none := (hw _ _).trans (by kernel_rfl)
theorem laws_eqMatrixS.l0_succ (R : Run) (hw : R.ok) (N : Nat) (n : Nat) (a_1 : (List (Int × Int × Int × (List Int) × Unit))) (b_2 : (List (Int × Int × Int × (List Int) × Unit))) (i_3 : Int) : laws_eqMatrixS.l0 R N (n + 1) a_1 b_2 i_3 = (bif (decide (i_3 < (List.length a_1 : Int))) then (Option.bind (idx? a_1 i_3) fun y4 => (Option.bind (idx? b_2 i_3) fun y5 => (Option.bind (callT R n_laws_eqMatrix o_laws_eqMatrix [⟨(.int .i64), y4.1⟩, ⟨(.int .i64), y4.2.1⟩, ⟨(.int .i64), y4.2.2.1⟩, ⟨(.sl (.int .i64)), y4.2.2.2.1⟩, ⟨(.int .i64), y5.1⟩, ⟨(.int .i64), y5.2.1⟩, ⟨(.int .i64), y5.2.2.1⟩, ⟨(.sl (.int .i64)), y5.2.2.2.1⟩]) fun r6 => (bif (!r6.1) then some ⟨o_laws_eqMatrixS, (false, ())⟩ else (laws_eqMatrixS.l0 R N n a_1 b_2 (w64 (i_3 + (1 : Int)))))))) else some ⟨o_laws_eqMatrixS, (true, ())⟩) := (hw _ _).trans (by kernel_rfl)
theorem laws_eqMatrixS.ev (R : Run) (N : Nat) (a0 : (List (Int × Int × Int × (List Int) × Unit))) (a1 : (List (Int × Int × Int × (List Int) × Unit))) : evFn E R sg_laws_eqMatrixS pol_laws_eqMatrixS F_laws_eqMatrixS N [⟨(.sl (.st (.cons (.int .i64) (.cons (.int .i64) (.cons (.int .i64) (.cons (.sl (.int .i64)) .nil)))))), a0⟩, ⟨(.sl (.st (.cons (.int .i64) (.cons (.int .i64) (.cons (.int .i64) (.cons (.sl (.int .i64)) .nil)))))), a1⟩] = (bif ((List.length a0 : Int) != (List.length a1 : Int)) then some ⟨o_laws_eqMatrixS, (false, ())⟩ else (laws_eqMatrixS.l0 R N N a0 a1 (0 : Int))) := by kernel_rfl
/-! loop.example/g01005/laws.eqSheaf -/
theorem laws_eqSheaf.ev (R : Run) (N : Nat) (a0 : (List (List Int))) (a1 : Int) (a2 : (List Int)) (a3 : (List (Int × Int × Int × (List Int) × Unit))) (a4 : (List (List Int))) (a5 : Int) (a6 : (List Int)) (a7 : (List (Int × Int × Int × (List Int) × Unit))) : evFn E R sg_laws_eqSheaf pol_laws_eqSheaf F_laws_eqSheaf N [⟨(.sl (.sl (.int .i64))), a0⟩, ⟨(.int .i64), a1⟩, ⟨(.sl (.int .i64)), a2⟩, ⟨(.sl (.st (.cons (.int .i64) (.cons (.int .i64) (.cons (.int .i64) (.cons (.sl (.int .i64)) .nil)))))), a3⟩, ⟨(.sl (.sl (.int .i64))), a4⟩, ⟨(.int .i64), a5⟩, ⟨(.sl (.int .i64)), a6⟩, ⟨(.sl (.st (.cons (.int .i64) (.cons (.int .i64) (.cons (.int .i64) (.cons (.sl (.int .i64)) .nil)))))), a7⟩] = (Option.bind (callT R n_laws_eqComplex o_laws_eqComplex [⟨(.sl (.sl (.int .i64))), a0⟩, ⟨(.sl (.sl (.int .i64))), a4⟩]) fun r1 => (bif (!r1.1) then some ⟨o_laws_eqSheaf, (false, ())⟩ else (bif (a1 != a5) then some ⟨o_laws_eqSheaf, (false, ())⟩ else (Option.bind (callT R n_laws_eqInt64S o_laws_eqInt64S [⟨(.sl (.int .i64)), a2⟩, ⟨(.sl (.int .i64)), a6⟩]) fun r2 => (bif (!r2.1) then some ⟨o_laws_eqSheaf, (false, ())⟩ else (Option.bind (callT R n_laws_eqMatrixS o_laws_eqMatrixS [⟨(.sl (.st (.cons (.int .i64) (.cons (.int .i64) (.cons (.int .i64) (.cons (.sl (.int .i64)) .nil)))))), a3⟩, ⟨(.sl (.st (.cons (.int .i64) (.cons (.int .i64) (.cons (.int .i64) (.cons (.sl (.int .i64)) .nil)))))), a7⟩]) fun r3 => (bif (!r3.1) then some ⟨o_laws_eqSheaf, (false, ())⟩ else some ⟨o_laws_eqSheaf, (true, ())⟩))))))) := by kernel_rfl
/-! loop.example/g01005/laws.markInt64S -/
noncomputable def laws_markInt64S.l0 (R : Run) (N : Nat) (n : Nat) (k_1 : Int) (i_2 : Int) (o19_3 : (List Int)) : Option Dv := R.w (some ⟨[.c (.arr 19), .c (.d (.int .i64) k_1), V.dead, V.dead, V.dead, .c (.d (.int .i64) i_2), V.dead, V.dead, V.dead, V.dead, V.dead, V.dead, V.dead, V.dead, V.dead, V.dead, V.dead, V.dead, V.dead], [none, none, none, none, none, none, none, none, none, none, none, none, none, none, none, none, none, none, none, some (.arr (.int .i64) o19_3 true false true), none]⟩) fun st => loopC (evCode E R pol_laws_markInt64S N (sub [1, 0, 1, 0, 0] (bodyOf F_laws_markInt64S))) (maskAt R pol_laws_markInt64S.loopM 2) n st (kBlk (maskAt R pol_laws_markInt64S.blkM 0) 0 (kSeq (maskAt R pol_laws_markInt64S.seqM 6) (evCode E R pol_laws_markInt64S N (sub [1, 1] (bodyOf F_laws_markInt64S))) (kTop E sg_laws_markInt64S F_laws_markInt64S)))
theorem laws_markInt64S.l0_zero (R : Run) (hw : R.ok) (N : Nat) (k_1 : Int) (i_2 : Int) (o19_3 : (List Int)) : laws_markInt64S.l0 R N 0 k_1 i_2 o19_3 = none := (hw _ _).trans (by kernel_rfl)
theorem laws_markInt64S.l0_succ (R : Run) (hw : R.ok) (N : Nat) (n : Nat) (k_1 : Int) (i_2 : Int) (o19_3 : (List Int)) : laws_markInt64S.l0 R N (n + 1) k_1 i_2 o19_3 = (bif (decide (i_2 < (List.length o19_3 : Int))) then (Option.bind (chk (decide (0 ≤ i_2) && decide (i_2 < (List.length o19_3 : Int)))) fun _ => (laws_markInt64S.l0 R N n (w64 (k_1 + (1 : Int))) (w64 (i_2 + (1 : Int))) (List.set o19_3 (Int.toNat i_2) k_1))) else some ⟨o_laws_markInt64S, (k_1, o19_3, ())⟩) := (hw _ _).trans (by kernel_rfl)
theorem laws_markInt64S.ev (R : Run) (N : Nat) (a0 : (List Int)) (a1 : Int) : evFn E R sg_laws_markInt64S pol_laws_markInt64S F_laws_markInt64S N [⟨(.sl (.int .i64)), a0⟩, ⟨(.int .i64), a1⟩] = (laws_markInt64S.l0 R N N a1 (0 : Int) a0) := by kernel_rfl
/-! loop.example/g01005/laws.markComplex -/
theorem laws_markComplex.ev (R : Run) (N : Nat) (a0 : (List (List Int))) (a1 : Int) : evFn E R sg_laws_markComplex pol_laws_markComplex F_laws_markComplex N [⟨(.sl (.sl (.int .i64))), a0⟩, ⟨(.int .i64), a1⟩] = (Option.bind (callT R n_laws_markInt64SS o_laws_markInt64SS [⟨(.sl (.sl (.int .i64))), a0⟩, ⟨(.int .i64), a1⟩]) fun r1 => some ⟨o_laws_markComplex, (r1.1, r1.2.1, ())⟩) := by kernel_rfl
/-! loop.example/g01005/laws.markSheaf -/
theorem laws_markSheaf.ev (R : Run) (N : Nat) (a0 : (List (List Int))) (a1 : Int) (a2 : (List Int)) (a3 : (List (Int × Int × Int × (List Int) × Unit))) (a4 : Int) : evFn E R sg_laws_markSheaf pol_laws_markSheaf F_laws_markSheaf N [⟨(.sl (.sl (.int .i64))), a0⟩, ⟨(.int .i64), a1⟩, ⟨(.sl (.int .i64)), a2⟩, ⟨(.sl (.st (.cons (.int .i64) (.cons (.int .i64) (.cons (.int .i64) (.cons (.sl (.int .i64)) .nil)))))), a3⟩, ⟨(.int .i64), a4⟩] = (Option.bind (callT R n_laws_markComplex o_laws_markComplex [⟨(.sl (.sl (.int .i64))), a0⟩, ⟨(.int .i64), a4⟩]) fun r1 => (Option.bind (callT R n_laws_markInt64S o_laws_markInt64S [⟨(.sl (.int .i64)), a2⟩, ⟨(.int .i64), r1.1⟩]) fun r2 => (Option.bind (callT R n_laws_markMatrixS o_laws_markMatrixS [⟨(.sl (.st (.cons (.int .i64) (.cons (.int .i64) (.cons (.int .i64) (.cons (.sl (.int .i64)) .nil)))))), a3⟩, ⟨(.int .i64), r2.1⟩]) fun r3 => some ⟨o_laws_markSheaf, (r3.1, r1.2.1, r2.2.1, r3.2.1, ())⟩))) := by kernel_rfl
/-! loop.example/g01005/laws.markMatrix -/
theorem laws_markMatrix.ev (R : Run) (N : Nat) (a0 : Int) (a1 : Int) (a2 : Int) (a3 : (List Int)) (a4 : Int) : evFn E R sg_laws_markMatrix pol_laws_markMatrix F_laws_markMatrix N [⟨(.int .i64), a0⟩, ⟨(.int .i64), a1⟩, ⟨(.int .i64), a2⟩, ⟨(.sl (.int .i64)), a3⟩, ⟨(.int .i64), a4⟩] = (Option.bind (callT R n_laws_markInt64S o_laws_markInt64S [⟨(.sl (.int .i64)), a3⟩, ⟨(.int .i64), a4⟩]) fun r1 => some ⟨o_laws_markMatrix, (r1.1, r1.2.1, ())⟩) := by kernel_rfl
/-! loop.example/g01005/laws.heldInt64S -/
noncomputable def laws_heldInt64S.l0 (R : Run) (N : Nat) (n : Nat) (a_1 : (List Int)) (k_2 : Int) (i_3 : Int) : Option Dv := R.w (some ⟨[.c (.d (.sl (.int .i64)) a_1), .c (.d (.int .i64) k_2), V.dead, V.dead, V.dead, .c (.d (.int .i64) i_3), V.dead, V.dead, V.dead, V.dead, V.dead, V.dead, V.dead, V.dead, V.dead, V.dead, V.dead, V.dead, V.dead, V.dead, V.dead], [none, none, none, none, none, none, none, none, none, none, none, none, none, none, none, none, none, none, none, none, none, none, none]⟩) fun st => loopC (evCode E R pol_laws_heldInt64S N (sub [1, 0, 1, 0, 0] (bodyOf F_laws_heldInt64S))) (maskAt R pol_laws_heldInt64S.loopM 2) n st (kBlk (maskAt R pol_laws_heldInt64S.blkM 0) 0 (kSeq (maskAt R pol_laws_heldInt64S.seqM 7) (evCode E R pol_laws_heldInt64S N (sub [1, 1] (bodyOf F_laws_heldInt64S))) (kTop E sg_laws_heldInt64S F_laws_heldInt64S)))
theorem laws_heldInt64S.l0_zero (R : Run) (hw : R.ok) (N : Nat) (a_1 : (List Int)) (k_2 : Int) (i_3 : Int) : laws_heldInt64S.l0 R N 0 a_1 k_2 i_3 = none := (hw _ _).trans (by kernel_rfl)
theorem laws_heldInt64S.l0_succ (R : Run) (hw : R.ok) (N : Nat) (n : Nat) (a_1 : (List Int)) (k_2 : Int) (i_3 : Int) : laws_heldInt64S.l0 R N (n + 1) a_1 k_2 i_3 = (bif (decide (i_3 < (List.length a_1 : Int))) then (Option.bind (idx? a_1 i_3) fun y4 => (bif ((y4, ()).1 != k_2) then some ⟨o_laws_heldInt64S, ((-1 : Int), ())⟩ else (laws_heldInt64S.l0 R N n a_1 (w64 (k_2 + (1 : Int))) (w64 (i_3 + (1 : Int)))))) else some ⟨o_laws_heldInt64S, (k_2, ())⟩) := (hw _ _).trans (by kernel_rfl)
theorem laws_heldInt64S.ev (R : Run) (N : Nat) (a0 : (List Int)) (a1 : Int) : evFn E R sg_laws_heldInt64S pol_laws_heldInt64S F_laws_heldInt64S N [⟨(.sl (.int .i64)), a0⟩, ⟨(.int .i64), a1⟩] = (laws_heldInt64S.l0 R N N a0 a1 (0 : Int)) := by kernel_rfl
/-! loop.example/g01005/laws.heldMatrix -/
theorem laws_heldMatrix.ev (R : Run) (N : Nat) (a0 : Int) (a1 : Int) (a2 : Int) (a3 : (List Int)) (a4 : Int) : evFn E R sg_laws_heldMatrix pol_laws_heldMatrix F_laws_heldMatrix N [⟨(.int .i64), a0⟩, ⟨(.int .i64), a1⟩, ⟨(.int .i64), a2⟩, ⟨(.sl (.int .i64)), a3⟩, ⟨(.int .i64), a4⟩] = (Option.bind (callT R n_laws_heldInt64S o_laws_heldInt64S [⟨(.sl (.int .i64)), a3⟩, ⟨(.int .i64), a4⟩]) fun r1 => (bif (decide (r1.1 < (0 : Int))) then some ⟨o_laws_heldMatrix, ((-1 : Int), ())⟩ else some ⟨o_laws_heldMatrix, (r1.1, ())⟩)) := by kernel_rfl
/-! loop.example/g01005/laws.FnExactRestrictionOf -/
noncomputable def laws_FnExactRestrictionOf.j2 (R : Run) (N : Nat) (t14__52 : Int) (t97__53 : Bool) (o11_54 : Int) (o11_55 : Int) (o11_56 : Int) (o115_57 : (List Int)) : Option Dv := R.w (some ⟨[V.dead, V.dead, V.dead, V.dead, V.dead, V.dead, V.dead, V.dead, V.dead, V.dead, V.dead, .c (.box 11 0), V.dead, V.dead, .c (.d (.int .i64) t14__52), V.dead, V.dead, V.dead, V.dead, V.dead, V.dead, V.dead, V.dead, V.dead, V.dead, V.dead, V.dead, V.dead, V.dead, V.dead, V.dead, V.dead, V.dead, V.dead, V.dead, V.dead, V.dead, V.dead, V.dead, V.dead, V.dead, V.dead, V.dead, V.dead, V.dead, V.dead, V.dead, V.dead, V.dead, V.dead, V.dead, V.dead, V.dead, V.dead, V.dead, V.dead, V.dead, V.dead, V.dead, V.dead, V.dead, V.dead, V.dead, V.dead, V.dead, V.dead, V.dead, V.dead, V.dead, V.dead, V.dead, V.dead, V.dead, V.dead, V.dead, V.dead, V.dead, V.dead, V.dead, V.dead, V.dead, V.dead, V.dead, V.dead, V.dead, V.dead, V.dead, V.dead, V.dead, V.dead, V.dead, V.dead, V.dead, V.dead, V.dead, V.dead, V.dead, .c (.d .bool t97__53), V.dead, V.dead, V.dead, V.dead, V.dead, V.dead, V.dead, V.dead], [none, none, none, none, none, none, none, none, none, none, none, some (.box [.d (.int .i64) o11_54, .d (.int .i64) o11_55, .d (.int .i64) o11_56, .arr 115] false false), none, none, none, none, none, none, none, none, none, none, none, none, none, none, none, none, none, none, none, none, none, none, none, none, none, none, none, none, none, none, none, none, none, none, none, none, none, none, none, none, none, none, none, none, none, none, none, none, none, none, none, none, none, none, none, none, none, none, none, none, none, none, none, none, none, none, none, none, none, none, none, none, none, none, none, none, none, none, none, none, none, none, none, none, none, none, none, none, none, none, none, none, none, none, none, none, none, none, none, none, none, none, none, some (.arr (.int .i64) o115_57 true false false)]⟩) fun st => evCode E R pol_laws_FnExactRestrictionOf N (sub [1, 1, 1, 1, 1, 1, 1, 1, 1, 1, 1, 1, 1, 1, 1, 1, 1, 1, 1, 0, 1] (bodyOf F_laws_FnExactRestrictionOf)) st (kSeq (maskAt R pol_laws_FnExactRestrictionOf.seqM 27) (evCode E R pol_laws_FnExactRestrictionOf N (sub [1, 1, 1, 1, 1, 1, 1, 1, 1, 1, 1, 1, 1, 1, 1, 1, 1, 1, 1, 1] (bodyOf F_laws_FnExactRestrictionOf))) (kTop E sg_laws_FnExactRestrictionOf F_laws_FnExactRestrictionOf))
noncomputable def laws_FnExactRestrictionOf.j1 (R : Run) (N : Nat) (t1__31 : Int) (t2__32 : Int) (t9__33 : Int) (t69__34 : Bool) (o3_35 : (List (List Int))) (o3_36 : Int) (o3_37 : (List Int)) (o3_38 : (List (Int × Int × Int × (List Int) × Unit))) (o8_39 : Int) (o8_40 : Int) (o8_41 : Int) (o8_42 : (List Int)) (o11_43 : Int) (o11_44 : Int) (o11_45 : Int) (o115_46 : (List Int)) : Option Dv := R.w (some ⟨[V.dead, .c (.d (.int .i64) t1__31), .c (.d (.int .i64) t2__32), .c (.box 3 0), V.dead, V.dead, V.dead, V.dead, .c (.box 8 0), .c (.d (.int .i64) t9__33), V.dead, .c (.box 11 0), V.dead, V.dead, V.dead, V.dead, V.dead, V.dead, V.dead, V.dead, V.dead, V.dead, V.dead, V.dead, V.dead, V.dead, V.dead, V.dead, V.dead, V.dead, V.dead, V.dead, V.dead, V.dead, V.dead, V.dead, V.dead, V.dead, V.dead, V.dead, V.dead, V.dead, V.dead, V.dead, V.dead, V.dead, V.dead, V.dead, V.dead, V.dead, V.dead, V.dead, V.dead, V.dead, V.dead, V.dead, V.dead, V.dead, V.dead, V.dead, V.dead, V.dead, V.dead, V.dead, V.dead, V.dead, V.dead, V.dead, V.dead, .c (.d .bool t69__34), V.dead, V.dead, V.dead, V.dead, V.dead, V.dead, V.dead, V.dead, V.dead, V.dead, V.dead, V.dead, V.dead, V.dead, V.dead, V.dead, V.dead, V.dead, V.dead, V.dead, V.dead, V.dead, V.dead, V.dead, V.dead, V.dead, V.dead, V.dead, V.dead, V.dead, V.dead, V.dead, V.dead, V.dead, V.dead, V.dead], [none, none, none, some (.box [.d (.sl (.sl (.int .i64))) o3_35, .d (.int .i64) o3_36, .d (.sl (.int .i64)) o3_37, .d (.sl (.st (.cons (.int .i64) (.cons (.int .i64) (.cons (.int .i64) (.cons (.sl (.int .i64)) .nil)))))) o3_38] false false), none, none, none, none, some (.box [.d (.int .i64) o8_39, .d (.int .i64) o8_40, .d (.int .i64) o8_41, .d (.sl (.int .i64)) o8_42] false false), none, none, some (.box [.d (.int .i64) o11_43, .d (.int .i64) o11_44, .d (.int .i64) o11_45, .arr 115] false false), none, none, none, none, none, none, none, none, none, none, none, none, none, none, none, none, none, none, none, none, none, none, none, none, none, none, none, none, none, none, none, none, none, none, none, none, none, none, none, none, none, none, none, none, none, none, none, none, none, none, none, none, none, none, none, none, none, none, none, none, none, none, none, none, none, none, none, none, none, none, none, none, none, none, none, none, none, none, none, none, none, none, none, none, none, none, none, none, none, none, none, none, none, none, none, none, none, none, none, none, none, none, none, some (.arr (.int .i64) o115_46 true false false)]⟩) fun st => evCode E R pol_laws_FnExactRestrictionOf N (sub [1, 1, 1, 1, 1, 1, 1, 1, 1, 1, 1, 0, 1] (bodyOf F_laws_FnExactRestrictionOf)) st (kSeq (maskAt R pol_laws_FnExactRestrictionOf.seqM 16) (evCode E R pol_laws_FnExactRestrictionOf N (sub [1, 1, 1, 1, 1, 1, 1, 1, 1, 1, 1, 1] (bodyOf F_laws_FnExactRestrictionOf))) (kTop E sg_laws_FnExactRestrictionOf F_laws_FnExactRestrictionOf))
noncomputable def laws_FnExactRestrictionOf.j0 (R : Run) (N : Nat) (t1__7 : Int) (t2__8 : Int) (t9__9 : Int) (t12__10 : Int) (t48__11 : Bool) (o3_12 : (List (List Int))) (o3_13 : Int) (o3_14 : (List Int)) (o3_15 : (List (Int × Int × Int × (List Int) × Unit))) (o8_16 : Int) (o8_17 : Int) (o8_18 : Int) (o8_19 : (List Int)) (o10_20 : Int) (o11_21 : Int) (o11_22 : Int) (o11_23 : Int) (o112_24 : (List (List Int))) (o113_25 : (List Int)) (o114_26 : (List (Int × Int × Int × (List Int) × Unit))) (o115_27 : (List Int)) : Option Dv := R.w (some ⟨[V.dead, .c (.d (.int .i64) t1__7), .c (.d (.int .i64) t2__8), .c (.box 3 0), V.dead, V.dead, V.dead, V.dead, .c (.box 8 0), .c (.d (.int .i64) t9__9), .c (.box 10 0), .c (.box 11 0), .c (.d (.int .i64) t12__10), V.dead, V.dead, V.dead, V.dead, V.dead, V.dead, V.dead, V.dead, V.dead, V.dead, V.dead, V.dead, V.dead, V.dead, V.dead, V.dead, V.dead, V.dead, V.dead, V.dead, V.dead, V.dead, V.dead, V.dead, V.dead, V.dead, V.dead, V.dead, V.dead, V.dead, V.dead, V.dead, V.dead, V.dead, V.dead, .c (.d .bool t48__11), V.dead, V.dead, V.dead, V.dead, V.dead, V.dead, V.dead, V.dead, V.dead, V.dead, V.dead, V.dead, V.dead, V.dead, V.dead, V.dead, V.dead, V.dead, V.dead, V.dead, V.dead, V.dead, V.dead, V.dead, V.dead, V.dead, V.dead, V.dead, V.dead, V.dead, V.dead, V.dead, V.dead, V.dead, V.dead, V.dead, V.dead, V.dead, V.dead, V.dead, V.dead, V.dead, V.dead, V.dead, V.dead, V.dead, V.dead, V.dead, V.dead, V.dead, V.dead, V.dead, V.dead, V.dead, V.dead, V.dead, V.dead], [none, none, none, some (.box [.d (.sl (.sl (.int .i64))) o3_12, .d (.int .i64) o3_13, .d (.sl (.int .i64)) o3_14, .d (.sl (.st (.cons (.int .i64) (.cons (.int .i64) (.cons (.int .i64) (.cons (.sl (.int .i64)) .nil)))))) o3_15] false false), none, none, none, none, some (.box [.d (.int .i64) o8_16, .d (.int .i64) o8_17, .d (.int .i64) o8_18, .d (.sl (.int .i64)) o8_19] false false), none, some (.box [.arr 112, .d (.int .i64) o10_20, .arr 113, .arr 114] false false), some (.box [.d (.int .i64) o11_21, .d (.int .i64) o11_22, .d (.int .i64) o11_23, .arr 115] false false), none, none, none, none, none, none, none, none, none, none, none, none, none, none, none, none, none, none, none, none, none, none, none, none, none, none, none, none, none, none, none, none, none, none, none, none, none, none, none, none, none, none, none, none, none, none, none, none, none, none, none, none, none, none, none, none, none, none, none, none, none, none, none, none, none, none, none, none, none, none, none, none, none, none, none, none, none, none, none, none, none, none, none, none, none, none, none, none, none, none, none, none, none, none, none, none, none, none, none, none, some (.arr (.sl (.int .i64)) o112_24 true false false), some (.arr (.int .i64) o113_25 true false false), some (.arr (.st (.cons (.int .i64) (.cons (.int .i64) (.cons (.int .i64) (.cons (.sl (.int .i64)) .nil))))) o114_26 true false false), some (.arr (.int .i64) o115_27 true false false)]⟩) fun st => evCode E R pol_laws_FnExactRestrictionOf N (sub [1, 1, 1, 1, 1, 1, 1, 0, 1] (bodyOf F_laws_FnExactRestrictionOf)) st (kSeq (maskAt R pol_laws_FnExactRestrictionOf.seqM 10) (evCode E R pol_laws_FnExactRestrictionOf N (sub [1, 1, 1, 1, 1, 1, 1, 1] (bodyOf F_laws_FnExactRestrictionOf))) (kTop E sg_laws_FnExactRestrictionOf F_laws_FnExactRestrictionOf))
theorem laws_FnExactRestrictionOf.j2_eq (R : Run) (hw : R.ok) (N : Nat) (t14__52 : Int) (t97__53 : Bool) (o11_54 : Int) (o11_55 : Int) (o11_56 : Int) (o115_57 : (List Int)) : laws_FnExactRestrictionOf.j2 R N t14__52 t97__53 o11_54 o11_55 o11_56 o115_57 = (bif t97__53 then some ⟨o_laws_FnExactRestrictionOf, (false, ())⟩ else (Option.bind (callT R n_laws_heldMatrix o_laws_heldMatrix [⟨(.int .i64), o11_54⟩, ⟨(.int .i64), o11_55⟩, ⟨(.int .i64), o11_56⟩, ⟨(.sl (.int .i64)), o115_57⟩, ⟨(.int .i64), (1 : Int)⟩]) fun r58 => (bif (decide (r58.1 < (0 : Int))) then some ⟨o_laws_FnExactRestrictionOf, (false, ())⟩ else (bif (r58.1 != t14__52) then some ⟨o_laws_FnExactRestrictionOf, (false, ())⟩ else some ⟨o_laws_FnExactRestrictionOf, (true, ())⟩)))) := (hw _ _).trans (by kernel_rfl)
theorem laws_FnExactRestrictionOf.j1_eq (R : Run) (hw : R.ok) (N : Nat) (t1__31 : Int) (t2__32 : Int) (t9__33 : Int) (t69__34 : Bool) (o3_35 : (List (List Int))) (o3_36 : Int) (o3_37 : (List Int)) (o3_38 : (List (Int × Int × Int × (List Int) × Unit))) (o8_39 : Int) (o8_40 : Int) (o8_41 : Int) (o8_42 : (List Int)) (o11_43 : Int) (o11_44 : Int) (o11_45 : Int) (o115_46 : (List Int)) : laws_FnExactRestrictionOf.j1 R N t1__31 t2__32 t9__33 t69__34 o3_35 o3_36 o3_37 o3_38 o8_39 o8_40 o8_41 o8_42 o11_43 o11_44 o11_45 o115_46 = (bif t69__34 then some ⟨o_laws_FnExactRestrictionOf, (false, ())⟩ else (Option.bind (callT R n_laws_markMatrix o_laws_markMatrix [⟨(.int .i64), o11_43⟩, ⟨(.int .i64), o11_44⟩, ⟨(.int .i64), o11_45⟩, ⟨(.sl (.int .i64)), o115_46⟩, ⟨(.int .i64), (1 : Int)⟩]) fun r47 => (Option.bind (callT R n_laws_heldMatrix o_laws_heldMatrix [⟨(.int .i64), o11_43⟩, ⟨(.int .i64), o11_44⟩, ⟨(.int .i64), o11_45⟩, ⟨(.sl (.int .i64)), r47.2.1⟩, ⟨(.int .i64), (1 : Int)⟩]) fun r48 => (bif (decide (r48.1 < (0 : Int))) then some ⟨o_laws_FnExactRestrictionOf, (false, ())⟩ else (bif (r48.1 != r47.1) then some ⟨o_laws_FnExactRestrictionOf, (false, ())⟩ else (Option.bind (callT R n_laws_toSheaf o_laws_toSheaf [⟨(.sl (.sl (.int .i64))), o3_35⟩, ⟨(.int .i64), o3_36⟩, ⟨(.sl (.int .i64)), o3_37⟩, ⟨(.sl (.st (.cons (.int .i64) (.cons (.int .i64) (.cons (.int .i64) (.cons (.sl (.int .i64)) .nil)))))), o3_38⟩]) fun r49 => (Option.bind (callT R n_impl_RestrictionOf o_impl_RestrictionOf [⟨(.sl (.sl (.int .i64))), r49.1⟩, ⟨(.int .i64), r49.2.1⟩, ⟨(.sl (.int .i64)), r49.2.2.1⟩, ⟨(.sl (.st (.cons (.int .i64) (.cons (.int .i64) (.cons (.int .i64) (.cons (.sl (.int .i64)) .nil)))))), r49.2.2.2.1⟩, ⟨(.int .i64), t1__31⟩, ⟨(.int .i64), t2__32⟩]) fun r50 => (Option.bind (callT R n_laws_eqMatrix o_laws_eqMatrix [⟨(.int .i64), r50.1⟩, ⟨(.int .i64), r50.2.1⟩, ⟨(.int .i64), r50.2.2.1⟩, ⟨(.sl (.int .i64)), r50.2.2.2.1⟩, ⟨(.int .i64), o8_39⟩, ⟨(.int .i64), o8_40⟩, ⟨(.int .i64), o8_41⟩, ⟨(.sl (.int .i64)), o8_42⟩]) fun r51 => (bif (!r51.1) then (laws_FnExactRestrictionOf.j2 R N r47.1 true o11_43 o11_44 o11_45 r47.2.1) else (laws_FnExactRestrictionOf.j2 R N r47.1 (r50.2.2.2.2.1 != t9__33) o11_43 o11_44 o11_45 r47.2.1)))))))))) := (hw _ _).trans (by kernel_rfl)
theorem laws_FnExactRestrictionOf.j0_eq (R : Run) (hw : R.ok) (N : Nat) (t1__7 : Int) (t2__8 : Int) (t9__9 : Int) (t12__10 : Int) (t48__11 : Bool) (o3_12 : (List (List Int))) (o3_13 : Int) (o3_14 : (List Int)) (o3_15 : (List (Int × Int × Int × (List Int) × Unit))) (o8_16 : Int) (o8_17 : Int) (o8_18 : Int) (o8_19 : (List Int)) (o10_20 : Int) (o11_21 : Int) (o11_22 : Int) (o11_23 : Int) (o112_24 : (List (List Int))) (o113_25 : (List Int)) (o114_26 : (List (Int × Int × Int × (List Int) × Unit))) (o115_27 : (List Int)) : laws_FnExactRestrictionOf.j0 R N t1__7 t2__8 t9__9 t12__10 t48__11 o3_12 o3_13 o3_14 o3_15 o8_16 o8_17 o8_18 o8_19 o10_20 o11_21 o11_22 o11_23 o112_24 o113_25 o114_26 o115_27 = (bif t48__11 then some ⟨o_laws_FnExactRestrictionOf, (false, ())⟩ else (Option.bind (callT R n_laws_toSheaf o_laws_toSheaf [⟨(.sl (.sl (.int .i64))), o3_12⟩, ⟨(.int .i64), o3_13⟩, ⟨(.sl (.int .i64)), o3_14⟩, ⟨(.sl (.st (.cons (.int .i64) (.cons (.int .i64) (.cons (.int .i64) (.cons (.sl (.int .i64)) .nil)))))), o3_15⟩]) fun r28 => (Option.bind (callT R n_laws_eqSheaf o_laws_eqSheaf [⟨(.sl (.sl (.int .i64))), o112_24⟩, ⟨(.int .i64), o10_20⟩, ⟨(.sl (.int .i64)), o113_25⟩, ⟨(.sl (.st (.cons (.int .i64) (.cons (.int .i64) (.cons (.int .i64) (.cons (.sl (.int .i64)) .nil)))))), o114_26⟩, ⟨(.sl (.sl (.int .i64))), r28.1⟩, ⟨(.int .i64), r28.2.1⟩, ⟨(.sl (.int .i64)), r28.2.2.1⟩, ⟨(.sl (.st (.cons (.int .i64) (.cons (.int .i64) (.cons (.int .i64) (.cons (.sl (.int .i64)) .nil)))))), r28.2.2.2.1⟩]) fun r29 => (bif (!r29.1) then some ⟨o_laws_FnExactRestrictionOf, (false, ())⟩ else (Option.bind (callT R n_laws_markSheaf o_laws_markSheaf [⟨(.sl (.sl (.int .i64))), o112_24⟩, ⟨(.int .i64), o10_20⟩, ⟨(.sl (.int .i64)), o113_25⟩, ⟨(.sl (.st (.cons (.int .i64) (.cons (.int .i64) (.cons (.int .i64) (.cons (.sl (.int .i64)) .nil)))))), o114_26⟩, ⟨(.int .i64), (1 : Int)⟩]) fun r30 => (bif (decide (r30.1 < (0 : Int))) then (laws_FnExactRestrictionOf.j1 R N t1__7 t2__8 t9__9 true o3_12 o3_13 o3_14 o3_15 o8_16 o8_17 o8_18 o8_19 o11_21 o11_22 o11_23 o115_27) else (Option.bind (callT R n_laws_eqMatrix o_laws_eqMatrix [⟨(.int .i64), o11_21⟩, ⟨(.int .i64), o11_22⟩, ⟨(.int .i64), o11_23⟩, ⟨(.sl (.int .i64)), o115_27⟩, ⟨(.int .i64), o8_16⟩, ⟨(.int .i64), o8_17⟩, ⟨(.int .i64), o8_18⟩, ⟨(.sl (.int .i64)), o8_19⟩]) fun r65 => (bif (!r65.1) then (laws_FnExactRestrictionOf.j1 R N t1__7 t2__8 t9__9 true o3_12 o3_13 o3_14 o3_15 o8_16 o8_17 o8_18 o8_19 o11_21 o11_22 o11_23 o115_27) else (laws_FnExactRestrictionOf.j1 R N t1__7 t2__8 t9__9 (t12__10 != t9__9) o3_12 o3_13 o3_14 o3_15 o8_16 o8_17 o8_18 o8_19 o11_21 o11_22 o11_23 o115_27))))))))) := (hw _ _).trans (by kernel_rfl)
theorem laws_FnExactRestrictionOf.ev (R : Run) (N : Nat) (a0 : (List (List Int))) (a1 : Int) (a2 : (List Int)) (a3 : (List (Int × Int × Int × (List Int) × Unit))) (a4 : Int) (a5 : Int) : evFn E R sg_laws_FnExactRestrictionOf pol_laws_FnExactRestrictionOf F_laws_FnExactRestrictionOf N [⟨(.sl (.sl (.int .i64))), a0⟩, ⟨(.int .i64), a1⟩, ⟨(.sl (.int .i64)), a2⟩, ⟨(.sl (.st (.cons (.int .i64) (.cons (.int .i64) (.cons (.int .i64) (.cons (.sl (.int .i64)) .nil)))))), a3⟩, ⟨(.int .i64), a4⟩, ⟨(.int .i64), a5⟩] = (Option.bind (callT R n_laws_szSheaf o_laws_szSheaf [⟨(.sl (.sl (.int .i64))), a0⟩, ⟨(.int .i64), a1⟩, ⟨(.sl (.int .i64)), a2⟩, ⟨(.sl (.st (.cons (.int .i64) (.cons (.int .i64) (.cons (.int .i64) (.cons (.sl (.int .i64)) .nil)))))), a3⟩, ⟨(.int .i64), (1048576 : Int)⟩]) fun r1 => (bif (decide (r1.1 < (0 : Int))) then some ⟨o_laws_FnExactRestrictionOf, (true, ())⟩ else (Option.bind (callT R n_laws_toSheaf o_laws_toSheaf [⟨(.sl (.sl (.int .i64))), a0⟩, ⟨(.int .i64), a1⟩, ⟨(.sl (.int .i64)), a2⟩, ⟨(.sl (.st (.cons (.int .i64) (.cons (.int .i64) (.cons (.int .i64) (.cons (.sl (.int .i64)) .nil)))))), a3⟩]) fun r2 => (Option.bind (callT R n_spec_RestrictionOf o_spec_RestrictionOf [⟨(.sl (.sl (.int .i64))), r2.1⟩, ⟨(.int .i64), r2.2.1⟩, ⟨(.sl (.int .i64)), r2.2.2.1⟩, ⟨(.sl (.st (.cons (.int .i64) (.cons (.int .i64) (.cons (.int .i64) (.cons (.sl (.int .i64)) .nil)))))), r2.2.2.2.1⟩, ⟨(.int .i64), a4⟩, ⟨(.int .i64), a5⟩]) fun r3 => (Option.bind (callT R n_laws_toSheaf o_laws_toSheaf [⟨(.sl (.sl (.int .i64))), a0⟩, ⟨(.int .i64), a1⟩, ⟨(.sl (.int .i64)), a2⟩, ⟨(.sl (.st (.cons (.int .i64) (.cons (.int .i64) (.cons (.int .i64) (.cons (.sl (.int .i64)) .nil)))))), a3⟩]) fun r4 => (Option.bind (callT R n_impl_RestrictionOf o_impl_RestrictionOf [⟨(.sl (.sl (.int .i64))), r4.1⟩, ⟨(.int .i64), r4.2.1⟩, ⟨(.sl (.int .i64)), r4.2.2.1⟩, ⟨(.sl (.st (.cons (.int .i64) (.cons (.int .i64) (.cons (.int .i64) (.cons (.sl (.int .i64)) .nil)))))), r4.2.2.2.1⟩, ⟨(.int .i64), a4⟩, ⟨(.int .i64), a5⟩]) fun r5 => (Option.bind (callT R n_laws_eqMatrix o_laws_eqMatrix [⟨(.int .i64), r5.1⟩, ⟨(.int .i64), r5.2.1⟩, ⟨(.int .i64), r5.2.2.1⟩, ⟨(.sl (.int .i64)), r5.2.2.2.1⟩, ⟨(.int .i64), r3.1⟩, ⟨(.int .i64), r3.2.1⟩, ⟨(.int .i64), r3.2.2.1⟩, ⟨(.sl (.int .i64)), r3.2.2.2.1⟩]) fun r6 => (bif (!r6.1) then (laws_FnExactRestrictionOf.j0 R N a4 a5 r3.2.2.2.2.1 r5.2.2.2.2.1 true a0 a1 a2 a3 r3.1 r3.2.1 r3.2.2.1 r3.2.2.2.1 r4.2.1 r5.1 r5.2.1 r5.2.2.1 r4.1 r4.2.2.1 r4.2.2.2.1 r5.2.2.2.1) else (laws_FnExactRestrictionOf.j0 R N a4 a5 r3.2.2.2.2.1 r5.2.2.2.2.1 (r5.2.2.2.2.1 != r3.2.2.2.2.1) a0 a1 a2 a3 r3.1 r3.2.1 r3.2.2.1 r3.2.2.2.1 r4.2.1 r5.1 r5.2.1 r5.2.2.1 r4.1 r4.2.2.1 r4.2.2.2.1 r5.2.2.2.1))))))))) := by kernel_rfl
end VeT


set_option linter.unusedVariables false
set_option linter.unusedSimpArgs false
namespace VeT
section
open Go Go.Proofs Go.RowKit Go.Lib
set_option maxHeartbeats 2000000 in
set_option maxRecDepth 100000 in
theorem mark38_walk (b n c : Nat) (A : Option Addr) (hA : 0 < n → A = some ⟨b, 0, none⟩) (hnc : n ≤ c) (hn : n ≤ 9223372036854775807) (Inv : Nat → Int → World → Prop) (k : Int) (w : World) (h0 : Inv 0 k w)
    (step : ∀ i k' wr, i < n → Inv i k' wr → ∃ u, wr.cell? ⟨b, i, none⟩ = some u ∧ Calls Tryz.prog 84 #[u, .int .i64 k'] wr fun e w' => ∃ k2, e = .returned (.int .i64 k2) ∧ Inv (i + 1) k2 w') :
    Calls Tryz.prog 38 #[.slice A n c, .int .i64 k] w fun e w' => ∃ k2, e = .returned (.int .i64 k2) ∧ Inv n k2 w' := by
  go_enter Tryz.func38, Tryz.ntmps38
  go_wp2
  go_loopw [1, 5] (fun kv iv wr => ∃ i : Nat, ∃ k' : Int, i ≤ n ∧ iv = .int .i64 i ∧ kv = .int .i64 k' ∧ Inv i k' wr) (fun _ iv _ => n - (RowKit.intOf iv).toNat)
  case atStart => exact ⟨0, k, Nat.zero_le _, rfl, rfl, h0⟩
  case round =>
    obtain ⟨i, k', hi, rfl, rfl, hInv⟩ := hrel
    by_cases hlt : i < n
    · obtain rfl := hA (by omega)
      obtain ⟨u, hu, hcall⟩ := step i k' _ hlt hInv
      go_wp2_with (go_at_call 84; refine hcall.mono ?_; rintro e w' ⟨k2, rfl, hI2⟩)
      go_roundw
      case rel => exact ⟨i + 1, k2, by omega, by simp, rfl, hI2⟩
      case measure => simp [RowKit.intOf]; omega
    · obtain rfl : i = n := by omega
      go_wp2
      go_ret
      exact ⟨k', rfl, hInv⟩
open Ve in
theorem mark38_contract {R : Run} (hR : ∀ args dv, R.r 84 args = some dv → Contract Tryz.prog ⟨[(false, 1), (false, 1)], [.io true, .imm], oM, [(false, 1)], [], []⟩ 84 args dv) {args : List Dv} {dv : Dv} (h : pMarkSS 84 R args = some dv) :
    Contract Tryz.prog ⟨[(false, 1), (false, 1)], [.io true, .imm], .cons tI (.cons (.sl tL) .nil), [(false, 1)], [], []⟩ 38 args dv :=
  mark_contract mark38_walk hR h

set_option maxHeartbeats 4000000 in
set_option maxRecDepth 100000 in
theorem mark92_walk (b n c : Nat) (A : Option Addr) (hA : 0 < n → A = some ⟨b, 0, none⟩) (hnc : n ≤ c) (hn : n ≤ 9223372036854775807) (Inv : Nat → Int → World → Prop) (k : Int) (w : World) (h0 : Inv 0 k w)
    (hk : ∀ i k' wr, i < n → Inv i k' wr → 0 ≤ k' ∧ k' ≤ 4611686018427387904)
    (step : ∀ i k' wr, i < n → Inv i k' wr → ∃ v0 v1 v2 u, wr.cell? ⟨b, i * 4, none⟩ = some v0 ∧ wr.cell? ⟨b, i * 4 + 1, none⟩ = some v1 ∧ wr.cell? ⟨b, i * 4 + 2, none⟩ = some v2 ∧ wr.cell? ⟨b, i * 4 + 3, none⟩ = some u ∧
      wr.frozen? ⟨b, i * 4, none⟩ = false ∧ wr.frozen? ⟨b, i * 4 + 1, none⟩ = false ∧ wr.frozen? ⟨b, i * 4 + 2, none⟩ = false ∧
      Calls Tryz.prog 84 #[u, .int .i64 (k' + 1 + 1 + 1)] (((wr.setCell ⟨b, i * 4, none⟩ (.int .i64 k')).setCell ⟨b, i * 4 + 1, none⟩ (.int .i64 (k' + 1))).setCell ⟨b, i * 4 + 2, none⟩ (.int .i64 (k' + 1 + 1))) fun e w' => ∃ k2, e = .returned (.int .i64 k2) ∧ Inv (i + 1) k2 w') :
    Calls Tryz.prog 92 #[.slice A n c, .int .i64 k] w fun e w' => ∃ k2, e = .returned (.int .i64 k2) ∧ Inv n k2 w' := by
  go_enter Tryz.func92, Tryz.ntmps92
  go_wp2
  go_loopw [1, 5] (fun kv iv wr => ∃ i : Nat, ∃ k' : Int, i ≤ n ∧ iv = .int .i64 i ∧ kv = .int .i64 k' ∧ Inv i k' wr) (fun _ iv _ => n - (RowKit.intOf iv).toNat)
  case atStart => exact ⟨0, k, Nat.zero_le _, rfl, rfl, h0⟩
  case round =>
    obtain ⟨i, k', hi, rfl, rfl, hInv⟩ := hrel
    by_cases hlt : i < n
    · obtain rfl := hA (by omega)
      obtain ⟨v0, v1, v2, u, c0, c1, c2, c3, f0, f1, f2, hcall⟩ := step i k' _ hlt hInv
      have hkb := hk i k' _ hlt hInv
      have w1 : wrap64 (k' + 1) = k' + 1 := by unfold wrap64; omega
      have w2 : wrap64 (k' + 1 + 1) = k' + 1 + 1 := by unfold wrap64; omega
      have w3 : wrap64 (k' + 1 + 1 + 1) = k' + 1 + 1 + 1 := by unfold wrap64; omega
      go_wp2_with (go_at_call 84; refine hcall.mono ?_; rintro e w' ⟨k2, rfl, hI2⟩)
      go_roundw
      case rel => exact ⟨i + 1, k2, by omega, by simp, rfl, hI2⟩
      case measure => simp [RowKit.intOf]; omega
    · obtain rfl : i = n := by omega
      go_wp2
      go_ret
      exact ⟨k', rfl, hInv⟩
open Ve in
theorem mark92_contract {R : Run} (hR : ∀ args dv, R.r 84 args = some dv → Contract Tryz.prog ⟨[(false, 1), (false, 1)], [.io true, .imm], oM, [(false, 1)], [], []⟩ 84 args dv) {args : List Dv} {dv : Dv} (h : pMarkMS 84 R args = some dv) :
    Contract Tryz.prog ⟨[(false, 1), (false, 1)], [.io true, .imm], .cons tI (.cons (.sl tM) .nil), [(false, 1)], [], []⟩ 92 args dv :=
  markM_contract mark92_walk hR h

set_option maxHeartbeats 2000000 in
set_option maxRecDepth 100000 in
theorem grow224_room (base : Option Addr) (l c n : Nat) (w : World) (hlc : l ≤ c) (hc63 : c ≤ 9223372036854775807) (hn63 : n ≤ 9223372036854775807) (hroom : l + n ≤ c) :
    Calls Tryz.prog 224 #[.slice base l c, .int .i64 n] w fun e w' => e = .returned (.slice base l c) ∧ w' = w := by
  have h1 : ¬ ((n : Int) < 0) := by omega
  have h2 : wrap64 ((c : Int) - (l : Int)) = (c : Int) - (l : Int) := by unfold wrap64; omega
  have h3 : wrap64 ((n : Int) - ((c : Int) - (l : Int))) = (n : Int) - ((c : Int) - (l : Int)) := by unfold wrap64; omega
  have h4 : ¬ ((n : Int) - ((c : Int) - (l : Int)) > 0) := by omega
  go_enter Tryz.func224, Tryz.ntmps224
  go_wp2
  go_ret
  exact ⟨rfl, rfl⟩

set_option maxHeartbeats 4000000 in
set_option maxRecDepth 100000 in
theorem grow224_grow (i0 : TypeInfo) (z : Value) (hi0 : Tryz.prog.info? 2 = some i0) (hz0 : i0.zero = some z) (hs0 : 0 < i0.size)
    (base : Option Addr) (l c n : Nat) (cs : List Value) (w : World) (hlc : l ≤ c) (hroom : c < l + n) (hbig : (l + n) * i0.bytes ≤ 140737488355328) (h63 : l + n ≤ 4611686018427387904)
    (hcl : cs.length = c * i0.size) (hnil : base = none → c = 0) (hcs : ∀ a, base = some a → ∀ (j : Nat) v, cs[j]? = some v → w.cell? (a.add j) = some v) :
    Calls Tryz.prog 224 #[.slice base l c, .int .i64 n] w fun e w' =>
      e = .returned (.slice (some ⟨w.heap.size, 0, none⟩) l (grownCap w (l + n) c 2)) ∧
      w' = w.drew.alloc (.cells (cs.toArray ++ Builtin.zeroCells z.cells (l + n - c) ++ Builtin.zeroCells z.cells (grownCap w (l + n) c 2 - (l + n))) 2) := by
  have h1 : ¬ ((n : Int) < 0) := by omega
  have h2 : wrap64 ((c : Int) - (l : Int)) = (c : Int) - (l : Int) := by unfold wrap64; omega
  have h3 : wrap64 ((n : Int) - ((c : Int) - (l : Int))) = (n : Int) - ((c : Int) - (l : Int)) := by unfold wrap64; omega
  have h4 : (n : Int) - ((c : Int) - (l : Int)) > 0 := by omega
  have z25 : ∀ w, (Go.sizeOf 2).run Tryz.prog w = .ok i0.size w := fun w => by simp [Go.sizeOf, typeInfo, hi0]
  have hck : c + (l + n - c) = l + n := by omega
  have hold : (Builtin.firstCells i0.size c (.slice base c c)).run Tryz.prog w.drew = .ok cs.toArray w.drew := by
    cases base with
    | none =>
      have h0 := hnil rfl
      subst h0
      have hc0 : cs = [] := List.length_eq_zero_iff.1 (by simpa using hcl)
      rw [hc0]
      exact run_firstCells_none w.drew i0.size 0 0 0
    | some a => exact run_firstCells_some w.drew i0.size c a c c cs hcl (fun j v hj => hcs a rfl j v hj)
  have hrz : ∀ ty, (Builtin.append_ #[25, 3] ty #[.slice base c c, .int .i64 ((n : Int) - ((c : Int) - (l : Int)))]).run Tryz.prog w =
      .ok (.slice (some ⟨w.heap.size, 0, none⟩) (l + n) (grownCap w (l + n) c 2)) (w.drew.alloc (.cells (cs.toArray ++ Builtin.zeroCells z.cells (l + n - c) ++ Builtin.zeroCells z.cells (grownCap w (l + n) c 2 - (l + n))) 2)) := fun ty => by
    have h := Lib.run_append_grow_zeros w 25 3 ty 2 i0 z .i64 .i64 Tryz.underlying25 Tryz.underlying3 hi0 hz0 base c c cs hold (l + n - c) (by omega) hs0 (by omega) (by omega)
      (by have : (l + n - c) * i0.bytes ≤ (l + n) * i0.bytes := Nat.mul_le_mul_right _ (by omega)
          omega)
      (by rw [hck]; exact growslice_fits hroom hbig)
    rw [hck] at h
    rw [show (n : Int) - ((c : Int) - (l : Int)) = ((l + n - c : Nat) : Int) by omega]
    exact h
  have hGn : l + n ≤ grownCap w (l + n) c 2 := grownCap_ge w _ _ _
  obtain ⟨G, hG⟩ : ∃ G, G = grownCap w (l + n) c 2 := ⟨_, rfl⟩
  rw [← hG] at hrz hGn ⊢
  have hG63 : G ≤ 9223372036854775807 := by
    have := grownCap_le_maxLen w (l + n) c 2 (by unfold maxLen; omega)
    rw [← hG] at this
    unfold maxLen at this
    omega
  clear hold hck hG hcs hcl
  go_enter Tryz.func224, Tryz.ntmps224
  cases base with
  | none =>
    have h0 := hnil rfl
    subst h0
    obtain rfl : l = 0 := by omega
    go_wp2_with (at_builtin; refine Lib.wpList_append_run _ rfl _ _ _ _ rfl _ _ rfl rfl _ _ (hrz _) ?_)
    all_goals (go_ret; exact ⟨rfl, rfl⟩)
  | some a =>
    obtain ⟨ab, ao, asp⟩ := a
    go_wp2_with (at_builtin; refine Lib.wpList_append_run _ rfl _ _ _ _ rfl _ _ rfl rfl _ _ (hrz _) ?_)
    all_goals (go_ret; exact ⟨rfl, rfl⟩)
theorem grow224_info : (Tryz.prog.info? 2).any (fun i => i.size == Ve.Ty.size (.int .i64) && i.zero.any (fun z => z.cells.size == Ve.Ty.size (.int .i64)) && decide (i.bytes ≤ 64 * Ve.Ty.size (.int .i64)) && decide (0 < i.bytes) && decide (0 < Ve.Ty.size (.int .i64))) = true := by kernel_rfl
open Ve in
theorem grow224_contract (R : Run) {args : List Dv} {dv : Dv} (h : pGrow (.int .i64) R args = some dv) :
    Contract Tryz.prog ⟨[(false, 1), (false, 1)], [.take true, .imm], .cons (.sl (.int .i64)) .nil, [(false, 1)], [.deep], []⟩ 224 args dv := by
  have hi := grow224_info
  cases hi0 : Tryz.prog.info? 2 with
  | none => rw [hi0] at hi; cases hi
  | some i0 =>
    rw [hi0] at hi
    simp only [Option.any_some, Bool.and_eq_true, decide_eq_true_eq, beq_iff_eq] at hi
    obtain ⟨⟨⟨⟨h1, h2⟩, h3⟩, h4⟩, h5⟩ := hi
    cases hz : i0.zero with
    | none => rw [hz] at h2; cases h2
    | some z =>
      rw [hz] at h2
      exact grow_contract h1 (by simpa using h2) h5 h3 h4 grow224_room (fun base l c n cs w a1 a2 a3 a4 a5 a6 a7 => grow224_grow i0 z hi0 hz (by rw [h1]; exact h5) base l c n cs w a1 a2 a3 a4 a5 a6 a7) R h

end
section
open Go Ve
theorem primL_eq : primL = (List.range 249).map fun i => bif Nat.beq i 38 then some (pMarkSS n_laws_markInt64S) else bif Nat.beq i 92 then some (pMarkMS n_laws_markInt64S) else bif Nat.beq i 224 then some (pGrow (.int .i64)) else none := by kernel_rfl
theorem prims_ok : ∀ f p, E.prim f = some p → ∀ r, RunOk E (mkR r) → ∀ args dv sg, E.sig f = some sg → p (mkR r) args = some dv → Contract E.P sg f args dv := by
  intro f p hp r hr args dv sg hsg h
  have hp : primL.getD f none = some p := hp
  rw [primL_eq, List.getD_eq_getElem?_getD, List.getElem?_map] at hp
  by_cases hf : f < 249
  · rw [List.getElem?_range hf] at hp
    simp only [Option.map_some, Option.getD_some] at hp
    by_cases h38 : f = 38
    · subst h38
      obtain rfl : (pMarkSS n_laws_markInt64S) = p := Option.some.inj hp
      obtain rfl : sg_laws_markInt64SS = sg := Option.some.inj (sig_laws_markInt64SS_eq.symm.trans hsg)
      exact mark38_contract (fun args dv h => hr _ args dv _ sig_laws_markInt64S_eq h) h
    rw [show Nat.beq f 38 = false from Bool.eq_false_iff.2 fun h => h38 (Nat.eq_of_beq_eq_true h), cond_false] at hp
    by_cases h92 : f = 92
    · subst h92
      obtain rfl : (pMarkMS n_laws_markInt64S) = p := Option.some.inj hp
      obtain rfl : sg_laws_markMatrixS = sg := Option.some.inj (sig_laws_markMatrixS_eq.symm.trans hsg)
      exact mark92_contract (fun args dv h => hr _ args dv _ sig_laws_markInt64S_eq h) h
    rw [show Nat.beq f 92 = false from Bool.eq_false_iff.2 fun h => h92 (Nat.eq_of_beq_eq_true h), cond_false] at hp
    by_cases h224 : f = 224
    · subst h224
      obtain rfl : (pGrow (.int .i64)) = p := Option.some.inj hp
      obtain rfl : sg_slices_Grow_Sint64_int64 = sg := Option.some.inj (sig_slices_Grow_Sint64_int64_eq.symm.trans hsg)
      exact grow224_contract _ h
    rw [show Nat.beq f 224 = false from Bool.eq_false_iff.2 fun h => h224 (Nat.eq_of_beq_eq_true h), cond_false] at hp
    cases hp
  · rw [List.getElem?_eq_none (by simpa using hf)] at hp
    cases hp
end
end VeT

open Go Go.Proofs Ve
set_option linter.unusedVariables false
set_option linter.unusedSimpArgs false
namespace VeT

theorem szInt64S_ret (x : (List Int)) (l : Int) (hx : Wf (.sl (.int .i64)) x) (h0 : 0 ≤ l) (h1 : l ≤ 1048576) :
    ∃ r : Int, Ret E n_laws_szInt64S [⟨(.sl (.int .i64)), x⟩, ⟨.int .i64, l⟩] ⟨o_laws_szInt64S, (r, ())⟩ ∧ (0 ≤ r → r ≤ l ∧ Sm (.sl (.int .i64)) x) := by
  have hx1 : x.length ≤ maxLen := hx.1
  rw [maxLen_eq] at hx1
  have hw : w64 (l - x.length) = l - x.length := w64_small (by omega) (by omega)
  by_cases hc : l - (x.length : Int) < 0
  · refine ⟨-1, Evt.succ (Evt.of fun n => ?_), fun h => by omega⟩
    rw [run_laws_szInt64S, laws_szInt64S.ev, hw, decide_eq_true hc]; rfl
  · refine ⟨l - x.length, Evt.succ (Evt.of fun n => ?_), fun h => ⟨by omega, by omega, fun x _ => trivial⟩⟩
    rw [run_laws_szInt64S, laws_szInt64S.ev, hw, decide_eq_false hc]; rfl

theorem toInt64S_ret (x : (List Int)) (hx : Sm (.sl (.int .i64)) x) : Ret E n_laws_toInt64S [⟨(.sl (.int .i64)), x⟩] ⟨o_laws_toInt64S, (x, ())⟩ := by
  have hx1 : x.length ≤ 1048576 := hx.1
  have hl := fill_loop (a := x) (L := fun m n i o => laws_toInt64S.l0 (mkR (run E m)) m n x i o) (z := List.replicate (Int.toNat (List.length x : Int)) (0 : Int)) (r := some ⟨o_laws_toInt64S, (x, ())⟩) (by simp) (fun k o hk ho => by
      refine Evt.of fun m n => ?_
      show laws_toInt64S.l0 _ _ _ _ _ _ = _
      rw [laws_toInt64S.l0_succ _ mk_ok, decide_eq_true (show (k : Int) < x.length by omega), cond_true, idx_lt hk]
      simp only [Option.bind_some]
      rw [chk_true (by simp; omega), w64_succ (by omega), Int.toNat_natCast]) (Evt.of fun m n => by
      show laws_toInt64S.l0 _ _ _ _ _ _ = _
      rw [laws_toInt64S.l0_succ _ mk_ok, decide_eq_false (by omega), cond_false])
  refine Evt.succ (hl.mono fun n h => ?_)
  rw [run_laws_toInt64S, laws_toInt64S.ev, chk_true (by simp; omega)]
  exact h

theorem eqInt64S_ret (x y : (List Int)) (hx : Sm (.sl (.int .i64)) x) : ∃ b : Bool, Ret E n_laws_eqInt64S [⟨(.sl (.int .i64)), x⟩, ⟨(.sl (.int .i64)), y⟩] ⟨o_laws_eqInt64S, (b, ())⟩ ∧ (b = true ↔ x = y) := by
  have hx1 : x.length ≤ 1048576 := hx.1
  by_cases hl : x.length = y.length
  · have hd : ((x.length : Int) != (y.length : Int)) = false := by simp [hl]
    obtain ⟨h1, h2⟩ := same_loop (a := x) (b := y) (L := fun m n i (_ : Unit) => laws_eqInt64S.l0 (mkR (run E m)) m n x y i) (fun u v => u = v) (rt := some ⟨o_laws_eqInt64S, (true, ())⟩) (rf := some ⟨o_laws_eqInt64S, (false, ())⟩) hl.symm
      (fun k h h' hne => Evt.of fun m n => by
      show laws_eqInt64S.l0 _ _ _ _ _ _ = _
      rw [laws_eqInt64S.l0_succ _ mk_ok, decide_eq_true (show (k : Int) < x.length by omega), cond_true, idx_lt h, idx_lt h']
      have : (x[k] != y[k]) = true := by simpa using hne
      simp only [Option.bind_some, this, cond_true])
      (fun k h h' he => Evt.of fun m n => by
      show laws_eqInt64S.l0 _ _ _ _ _ _ = _
      rw [laws_eqInt64S.l0_succ _ mk_ok, decide_eq_true (show (k : Int) < x.length by omega), cond_true, idx_lt h, idx_lt h']
      have : (x[k] != y[k]) = false := by simpa using he
      simp only [Option.bind_some, this, cond_false]
      rw [w64_succ (by omega)])
      (Evt.of fun m n => by
      show laws_eqInt64S.l0 _ _ _ _ _ _ = _
      rw [laws_eqInt64S.l0_succ _ mk_ok, decide_eq_false (by omega), cond_false])
    by_cases he : x = y
    · refine ⟨true, Evt.succ ((h1 (by subst he; intros; rfl)).mono fun n h => ?_), by simp [he]⟩
      rw [run_laws_eqInt64S, laws_eqInt64S.ev, hd, cond_false]
      exact h
    · refine ⟨false, Evt.succ ((h2 fun hh => he (List.ext_getElem hl hh)).mono fun n h => ?_), by simp [he]⟩
      rw [run_laws_eqInt64S, laws_eqInt64S.ev, hd, cond_false]
      exact h
  · have hd : ((x.length : Int) != (y.length : Int)) = true := by simp; omega
    refine ⟨false, Evt.succ (Evt.of fun n => ?_), ⟨fun h => (nomatch h), fun h => absurd (congrArg List.length h) hl⟩⟩
    rw [run_laws_eqInt64S, laws_eqInt64S.ev, hd, cond_true]

theorem szInt64SS_ret (x : (List (List Int))) (l : Int) (hx : Wf (.sl (.sl (.int .i64))) x) (h0 : 0 ≤ l) (h1 : l ≤ 1048576) :
    ∃ r : Int, Ret E n_laws_szInt64SS [⟨(.sl (.sl (.int .i64))), x⟩, ⟨.int .i64, l⟩] ⟨o_laws_szInt64SS, (r, ())⟩ ∧ (0 ≤ r → r ≤ l ∧ Sm (.sl (.sl (.int .i64))) x) := by
  have hx1 : x.length ≤ maxLen := hx.1
  rw [maxLen_eq] at hx1
  have hw : w64 (l - x.length) = l - x.length := w64_small (by omega) (by omega)
  by_cases hc : l - (x.length : Int) < 0
  · refine ⟨-1, Evt.succ (Evt.of fun n => ?_), fun h => by omega⟩
    rw [run_laws_szInt64SS, laws_szInt64SS.ev, hw, decide_eq_true hc]; rfl
  · obtain ⟨r, hr, hs⟩ := sz_loop (xs := x) (L := fun m n i left => laws_szInt64SS.l0 (mkR (run E m)) m n x left i) (ret := fun r => some ⟨o_laws_szInt64SS, (r, ())⟩) (fun x => Sm (.sl (.int .i64)) x) (fun k left hk hl0 hl1 => by
      obtain ⟨r, hr, hs⟩ := szInt64S_ret x[k] left (hx.2 _ (List.getElem_mem hk)) hl0 hl1
      refine ⟨r, hs, hr.mono fun m h n => ?_⟩
      show laws_szInt64SS.l0 _ _ _ _ _ _ = _
      rw [laws_szInt64SS.l0_succ _ mk_ok, decide_eq_true (show (k : Int) < x.length by omega), cond_true, idx_lt hk]
      simp only [Option.bind_some, callT_of h]
      rw [w64_succ (by omega)]) (fun left => Evt.of fun m n => by
      show laws_szInt64SS.l0 _ _ _ _ _ _ = _
      rw [laws_szInt64SS.l0_succ _ mk_ok, decide_eq_false (by omega), cond_false]) (l - x.length) (by omega) (by omega)
    refine ⟨r, Evt.succ (hr.mono fun n h => ?_), fun h => ⟨by have := (hs h).1; omega, by omega, (hs h).2⟩⟩
    rw [run_laws_szInt64SS, laws_szInt64SS.ev, hw, decide_eq_false hc]
    exact h

theorem toInt64SS_ret (x : (List (List Int))) (hx : Sm (.sl (.sl (.int .i64))) x) : Ret E n_laws_toInt64SS [⟨(.sl (.sl (.int .i64))), x⟩] ⟨o_laws_toInt64SS, (x, ())⟩ := by
  have hx1 : x.length ≤ 1048576 := hx.1
  have hl := fill_loop (a := x) (L := fun m n i o => laws_toInt64SS.l0 (mkR (run E m)) m n x i o) (z := List.replicate (Int.toNat (List.length x : Int)) ([] : List Int)) (r := some ⟨o_laws_toInt64SS, (x, ())⟩) (by simp) (fun k o hk ho => by
      have hr := toInt64S_ret x[k] (hx.2 _ (List.getElem_mem hk))
      refine hr.mono fun m h n => ?_
      show laws_toInt64SS.l0 _ _ _ _ _ _ = _
      rw [laws_toInt64SS.l0_succ _ mk_ok, decide_eq_true (show (k : Int) < x.length by omega), cond_true, idx_lt hk]
      simp only [Option.bind_some, callT_of h]
      rw [chk_true (by simp; omega), w64_succ (by omega), Int.toNat_natCast]) (Evt.of fun m n => by
      show laws_toInt64SS.l0 _ _ _ _ _ _ = _
      rw [laws_toInt64SS.l0_succ _ mk_ok, decide_eq_false (by omega), cond_false])
  refine Evt.succ (hl.mono fun n h => ?_)
  rw [run_laws_toInt64SS, laws_toInt64SS.ev, chk_true (by simp; omega)]
  exact h

theorem eqInt64SS_ret (x y : (List (List Int))) (hx : Sm (.sl (.sl (.int .i64))) x) : ∃ b : Bool, Ret E n_laws_eqInt64SS [⟨(.sl (.sl (.int .i64))), x⟩, ⟨(.sl (.sl (.int .i64))), y⟩] ⟨o_laws_eqInt64SS, (b, ())⟩ ∧ (b = true ↔ x = y) := by
  have hx1 : x.length ≤ 1048576 := hx.1
  by_cases hl : x.length = y.length
  · have hd : ((x.length : Int) != (y.length : Int)) = false := by simp [hl]
    obtain ⟨h1, h2⟩ := same_loop (a := x) (b := y) (L := fun m n i (_ : Unit) => laws_eqInt64SS.l0 (mkR (run E m)) m n x y i) (fun u v => u = v) (rt := some ⟨o_laws_eqInt64SS, (true, ())⟩) (rf := some ⟨o_laws_eqInt64SS, (false, ())⟩) hl.symm
      (fun k h h' hne => by
      obtain ⟨b, hb, hbe⟩ := eqInt64S_ret x[k] y[k] (hx.2 _ (List.getElem_mem h))
      have hb0 : b = false := by cases b <;> simp_all
      subst hb0
      refine hb.mono fun m hm n => ?_
      show laws_eqInt64SS.l0 _ _ _ _ _ _ = _
      rw [laws_eqInt64SS.l0_succ _ mk_ok, decide_eq_true (show (k : Int) < x.length by omega), cond_true, idx_lt h, idx_lt h']
      simp only [Option.bind_some, callT_of hm, Bool.not_false, Bool.not_true, cond_true, cond_false])
      (fun k h h' he => by
      obtain ⟨b, hb, hbe⟩ := eqInt64S_ret x[k] y[k] (hx.2 _ (List.getElem_mem h))
      have hb0 : b = true := by cases b <;> simp_all
      subst hb0
      refine hb.mono fun m hm n => ?_
      show laws_eqInt64SS.l0 _ _ _ _ _ _ = _
      rw [laws_eqInt64SS.l0_succ _ mk_ok, decide_eq_true (show (k : Int) < x.length by omega), cond_true, idx_lt h, idx_lt h']
      simp only [Option.bind_some, callT_of hm, Bool.not_false, Bool.not_true, cond_true, cond_false]
      rw [w64_succ (by omega)])
      (Evt.of fun m n => by
      show laws_eqInt64SS.l0 _ _ _ _ _ _ = _
      rw [laws_eqInt64SS.l0_succ _ mk_ok, decide_eq_false (by omega), cond_false])
    by_cases he : x = y
    · refine ⟨true, Evt.succ ((h1 (by subst he; intros; rfl)).mono fun n h => ?_), by simp [he]⟩
      rw [run_laws_eqInt64SS, laws_eqInt64SS.ev, hd, cond_false]
      exact h
    · refine ⟨false, Evt.succ ((h2 fun hh => he (List.ext_getElem hl hh)).mono fun n h => ?_), by simp [he]⟩
      rw [run_laws_eqInt64SS, laws_eqInt64SS.ev, hd, cond_false]
      exact h
  · have hd : ((x.length : Int) != (y.length : Int)) = true := by simp; omega
    refine ⟨false, Evt.succ (Evt.of fun n => ?_), ⟨fun h => (nomatch h), fun h => absurd (congrArg List.length h) hl⟩⟩
    rw [run_laws_eqInt64SS, laws_eqInt64SS.ev, hd, cond_true]

theorem szComplex_ret (x : ((List (List Int)) × Unit)) (l : Int) (hx : Wf (.st (.cons (.sl (.sl (.int .i64))) .nil)) x) (h0 : 0 ≤ l) (h1 : l ≤ 1048576) :
    ∃ r : Int, Ret E n_laws_szComplex [⟨(.sl (.sl (.int .i64))), x.1⟩, ⟨.int .i64, l⟩] ⟨o_laws_szComplex, (r, ())⟩ ∧ (0 ≤ r → r ≤ l ∧ Sm (.st (.cons (.sl (.sl (.int .i64))) .nil)) x) := by
  obtain ⟨r0, hr0, hs0⟩ := szInt64SS_ret x.1 l hx.1 (by omega) (by omega)
  by_cases hc0 : r0 < 0
  · refine ⟨-1, Evt.succ (hr0.mono fun n e0 => ?_), fun h => by omega⟩
    rw [run_laws_szComplex, laws_szComplex.ev]
    simp only [Option.bind_some, cond_true, cond_false, callT_of e0, decide_eq_true hc0]
  have hb0 := hs0 (by omega)
  refine ⟨r0, Evt.succ (hr0.mono fun n e0 => ?_), fun h => ⟨by omega, ?_⟩⟩
  · skip
    rw [run_laws_szComplex, laws_szComplex.ev]
    simp only [Option.bind_some, cond_true, cond_false, callT_of e0, decide_eq_false hc0]
  · exact ⟨hb0.2, trivial⟩

theorem toComplex_ret (x : ((List (List Int)) × Unit)) (hx : Sm (.st (.cons (.sl (.sl (.int .i64))) .nil)) x) : Ret E n_laws_toComplex [⟨(.sl (.sl (.int .i64))), x.1⟩] ⟨o_laws_toComplex, x⟩ := by
  have hr0 := toInt64SS_ret x.1 hx.1
  refine Evt.succ (hr0.mono fun n e0 => ?_)
  rw [run_laws_toComplex, laws_toComplex.ev]
  simp only [Option.bind_some, callT_of e0]

theorem eqComplex_ret (x y : ((List (List Int)) × Unit)) (hx : Sm (.st (.cons (.sl (.sl (.int .i64))) .nil)) x) : ∃ b : Bool, Ret E n_laws_eqComplex [⟨(.sl (.sl (.int .i64))), x.1⟩, ⟨(.sl (.sl (.int .i64))), y.1⟩] ⟨o_laws_eqComplex, (b, ())⟩ ∧ (b = true ↔ x = y) := by
  obtain ⟨b0, hr0, hb0⟩ := eqInt64SS_ret x.1 y.1 hx.1
  refine ⟨b0, Evt.succ (hr0.mono fun n e0 => ?_), ?_⟩
  · skip
    rw [run_laws_eqComplex, laws_eqComplex.ev]
    simp only [Option.bind_some, callT_of e0]
    clear hx hr0 e0 hb0
    cases b0 <;> rfl
  · obtain ⟨x0, _⟩ := x
    obtain ⟨y0, _⟩ := y
    simp only [Bool.and_eq_true, decide_eq_true_eq, hb0, Prod.mk.injEq, and_true]
    try simp only [and_assoc]

theorem szMatrix_ret (x : (Int × Int × Int × (List Int) × Unit)) (l : Int) (hx : Wf (.st (.cons (.int .i64) (.cons (.int .i64) (.cons (.int .i64) (.cons (.sl (.int .i64)) .nil))))) x) (h0 : 0 ≤ l) (h1 : l ≤ 1048576) :
    ∃ r : Int, Ret E n_laws_szMatrix [⟨(.int .i64), x.1⟩, ⟨(.int .i64), x.2.1⟩, ⟨(.int .i64), x.2.2.1⟩, ⟨(.sl (.int .i64)), x.2.2.2.1⟩, ⟨.int .i64, l⟩] ⟨o_laws_szMatrix, (r, ())⟩ ∧ (0 ≤ r → r ≤ l ∧ Sm (.st (.cons (.int .i64) (.cons (.int .i64) (.cons (.int .i64) (.cons (.sl (.int .i64)) .nil))))) x) := by
  obtain ⟨r0, hr0, hs0⟩ := szInt64S_ret x.2.2.2.1 l hx.2.2.2.1 (by omega) (by omega)
  by_cases hc0 : r0 < 0
  · refine ⟨-1, Evt.succ (hr0.mono fun n e0 => ?_), fun h => by omega⟩
    rw [run_laws_szMatrix, laws_szMatrix.ev]
    simp only [Option.bind_some, cond_true, cond_false, callT_of e0, decide_eq_true hc0]
  have hb0 := hs0 (by omega)
  refine ⟨r0, Evt.succ (hr0.mono fun n e0 => ?_), fun h => ⟨by omega, ?_⟩⟩
  · skip
    rw [run_laws_szMatrix, laws_szMatrix.ev]
    simp only [Option.bind_some, cond_true, cond_false, callT_of e0, decide_eq_false hc0]
  · exact ⟨trivial, trivial, trivial, hb0.2, trivial⟩

theorem toMatrix_ret (x : (Int × Int × Int × (List Int) × Unit)) (hx : Sm (.st (.cons (.int .i64) (.cons (.int .i64) (.cons (.int .i64) (.cons (.sl (.int .i64)) .nil))))) x) : Ret E n_laws_toMatrix [⟨(.int .i64), x.1⟩, ⟨(.int .i64), x.2.1⟩, ⟨(.int .i64), x.2.2.1⟩, ⟨(.sl (.int .i64)), x.2.2.2.1⟩] ⟨o_laws_toMatrix, x⟩ := by
  have hr0 := toInt64S_ret x.2.2.2.1 hx.2.2.2.1
  refine Evt.succ (hr0.mono fun n e0 => ?_)
  rw [run_laws_toMatrix, laws_toMatrix.ev]
  simp only [Option.bind_some, callT_of e0]

theorem eqMatrix_ret (x y : (Int × Int × Int × (List Int) × Unit)) (hx : Sm (.st (.cons (.int .i64) (.cons (.int .i64) (.cons (.int .i64) (.cons (.sl (.int .i64)) .nil))))) x) : ∃ b : Bool, Ret E n_laws_eqMatrix [⟨(.int .i64), x.1⟩, ⟨(.int .i64), x.2.1⟩, ⟨(.int .i64), x.2.2.1⟩, ⟨(.sl (.int .i64)), x.2.2.2.1⟩, ⟨(.int .i64), y.1⟩, ⟨(.int .i64), y.2.1⟩, ⟨(.int .i64), y.2.2.1⟩, ⟨(.sl (.int .i64)), y.2.2.2.1⟩] ⟨o_laws_eqMatrix, (b, ())⟩ ∧ (b = true ↔ x = y) := by
  obtain ⟨b0, hr0, hb0⟩ := eqInt64S_ret x.2.2.2.1 y.2.2.2.1 hx.2.2.2.1
  refine ⟨decide (x.1 = y.1) && decide (x.2.1 = y.2.1) && decide (x.2.2.1 = y.2.2.1) && b0, Evt.succ (hr0.mono fun n e0 => ?_), ?_⟩
  · skip
    rw [run_laws_eqMatrix, laws_eqMatrix.ev]
    simp only [Option.bind_some, callT_of e0]
    simp only [show (x.1 != y.1) = !decide (x.1 = y.1) from rfl]
    generalize decide (x.1 = y.1) = d0
    simp only [show (x.2.1 != y.2.1) = !decide (x.2.1 = y.2.1) from rfl]
    generalize decide (x.2.1 = y.2.1) = d1
    simp only [show (x.2.2.1 != y.2.2.1) = !decide (x.2.2.1 = y.2.2.1) from rfl]
    generalize decide (x.2.2.1 = y.2.2.1) = d2
    clear hx hr0 e0 hb0
    cases d0 <;> cases d1 <;> cases d2 <;> cases b0 <;> rfl
  · obtain ⟨x0, x1, x2, x3, _⟩ := x
    obtain ⟨y0, y1, y2, y3, _⟩ := y
    simp only [Bool.and_eq_true, decide_eq_true_eq, hb0, Prod.mk.injEq, and_true]
    try simp only [and_assoc]

theorem szMatrixS_ret (x : (List (Int × Int × Int × (List Int) × Unit))) (l : Int) (hx : Wf (.sl (.st (.cons (.int .i64) (.cons (.int .i64) (.cons (.int .i64) (.cons (.sl (.int .i64)) .nil)))))) x) (h0 : 0 ≤ l) (h1 : l ≤ 1048576) :
    ∃ r : Int, Ret E n_laws_szMatrixS [⟨(.sl (.st (.cons (.int .i64) (.cons (.int .i64) (.cons (.int .i64) (.cons (.sl (.int .i64)) .nil)))))), x⟩, ⟨.int .i64, l⟩] ⟨o_laws_szMatrixS, (r, ())⟩ ∧ (0 ≤ r → r ≤ l ∧ Sm (.sl (.st (.cons (.int .i64) (.cons (.int .i64) (.cons (.int .i64) (.cons (.sl (.int .i64)) .nil)))))) x) := by
  have hx1 : x.length ≤ maxLen := hx.1
  rw [maxLen_eq] at hx1
  have hw : w64 (l - x.length) = l - x.length := w64_small (by omega) (by omega)
  by_cases hc : l - (x.length : Int) < 0
  · refine ⟨-1, Evt.succ (Evt.of fun n => ?_), fun h => by omega⟩
    rw [run_laws_szMatrixS, laws_szMatrixS.ev, hw, decide_eq_true hc]; rfl
  · obtain ⟨r, hr, hs⟩ := sz_loop (xs := x) (L := fun m n i left => laws_szMatrixS.l0 (mkR (run E m)) m n x left i) (ret := fun r => some ⟨o_laws_szMatrixS, (r, ())⟩) (fun x => Sm (.st (.cons (.int .i64) (.cons (.int .i64) (.cons (.int .i64) (.cons (.sl (.int .i64)) .nil))))) x) (fun k left hk hl0 hl1 => by
      obtain ⟨r, hr, hs⟩ := szMatrix_ret x[k] left (hx.2 _ (List.getElem_mem hk)) hl0 hl1
      refine ⟨r, hs, hr.mono fun m h n => ?_⟩
      show laws_szMatrixS.l0 _ _ _ _ _ _ = _
      rw [laws_szMatrixS.l0_succ _ mk_ok, decide_eq_true (show (k : Int) < x.length by omega), cond_true, idx_lt hk]
      simp only [Option.bind_some, callT_of h]
      rw [w64_succ (by omega)]) (fun left => Evt.of fun m n => by
      show laws_szMatrixS.l0 _ _ _ _ _ _ = _
      rw [laws_szMatrixS.l0_succ _ mk_ok, decide_eq_false (by omega), cond_false]) (l - x.length) (by omega) (by omega)
    refine ⟨r, Evt.succ (hr.mono fun n h => ?_), fun h => ⟨by have := (hs h).1; omega, by omega, (hs h).2⟩⟩
    rw [run_laws_szMatrixS, laws_szMatrixS.ev, hw, decide_eq_false hc]
    exact h

theorem toMatrixS_ret (x : (List (Int × Int × Int × (List Int) × Unit))) (hx : Sm (.sl (.st (.cons (.int .i64) (.cons (.int .i64) (.cons (.int .i64) (.cons (.sl (.int .i64)) .nil)))))) x) : Ret E n_laws_toMatrixS [⟨(.sl (.st (.cons (.int .i64) (.cons (.int .i64) (.cons (.int .i64) (.cons (.sl (.int .i64)) .nil)))))), x⟩] ⟨o_laws_toMatrixS, (x, ())⟩ := by
  have hx1 : x.length ≤ 1048576 := hx.1
  have hl := fill_loop (a := x) (L := fun m n i o => laws_toMatrixS.l0 (mkR (run E m)) m n x i o) (z := List.replicate (Int.toNat (List.length x : Int)) ((0 : Int), (0 : Int), (0 : Int), ([] : List Int), ())) (r := some ⟨o_laws_toMatrixS, (x, ())⟩) (by simp) (fun k o hk ho => by
      have hr := toMatrix_ret x[k] (hx.2 _ (List.getElem_mem hk))
      refine hr.mono fun m h n => ?_
      show laws_toMatrixS.l0 _ _ _ _ _ _ = _
      rw [laws_toMatrixS.l0_succ _ mk_ok, decide_eq_true (show (k : Int) < x.length by omega), cond_true, idx_lt hk]
      simp only [Option.bind_some, callT_of h]
      rw [chk_true (by simp; omega), w64_succ (by omega), Int.toNat_natCast]) (Evt.of fun m n => by
      show laws_toMatrixS.l0 _ _ _ _ _ _ = _
      rw [laws_toMatrixS.l0_succ _ mk_ok, decide_eq_false (by omega), cond_false])
  refine Evt.succ (hl.mono fun n h => ?_)
  rw [run_laws_toMatrixS, laws_toMatrixS.ev, chk_true (by simp; omega)]
  exact h

theorem eqMatrixS_ret (x y : (List (Int × Int × Int × (List Int) × Unit))) (hx : Sm (.sl (.st (.cons (.int .i64) (.cons (.int .i64) (.cons (.int .i64) (.cons (.sl (.int .i64)) .nil)))))) x) : ∃ b : Bool, Ret E n_laws_eqMatrixS [⟨(.sl (.st (.cons (.int .i64) (.cons (.int .i64) (.cons (.int .i64) (.cons (.sl (.int .i64)) .nil)))))), x⟩, ⟨(.sl (.st (.cons (.int .i64) (.cons (.int .i64) (.cons (.int .i64) (.cons (.sl (.int .i64)) .nil)))))), y⟩] ⟨o_laws_eqMatrixS, (b, ())⟩ ∧ (b = true ↔ x = y) := by
  have hx1 : x.length ≤ 1048576 := hx.1
  by_cases hl : x.length = y.length
  · have hd : ((x.length : Int) != (y.length : Int)) = false := by simp [hl]
    obtain ⟨h1, h2⟩ := same_loop (a := x) (b := y) (L := fun m n i (_ : Unit) => laws_eqMatrixS.l0 (mkR (run E m)) m n x y i) (fun u v => u = v) (rt := some ⟨o_laws_eqMatrixS, (true, ())⟩) (rf := some ⟨o_laws_eqMatrixS, (false, ())⟩) hl.symm
      (fun k h h' hne => by
      obtain ⟨b, hb, hbe⟩ := eqMatrix_ret x[k] y[k] (hx.2 _ (List.getElem_mem h))
      have hb0 : b = false := by cases b <;> simp_all
      subst hb0
      refine hb.mono fun m hm n => ?_
      show laws_eqMatrixS.l0 _ _ _ _ _ _ = _
      rw [laws_eqMatrixS.l0_succ _ mk_ok, decide_eq_true (show (k : Int) < x.length by omega), cond_true, idx_lt h, idx_lt h']
      simp only [Option.bind_some, callT_of hm, Bool.not_false, Bool.not_true, cond_true, cond_false])
      (fun k h h' he => by
      obtain ⟨b, hb, hbe⟩ := eqMatrix_ret x[k] y[k] (hx.2 _ (List.getElem_mem h))
      have hb0 : b = true := by cases b <;> simp_all
      subst hb0
      refine hb.mono fun m hm n => ?_
      show laws_eqMatrixS.l0 _ _ _ _ _ _ = _
      rw [laws_eqMatrixS.l0_succ _ mk_ok, decide_eq_true (show (k : Int) < x.length by omega), cond_true, idx_lt h, idx_lt h']
      simp only [Option.bind_some, callT_of hm, Bool.not_false, Bool.not_true, cond_true, cond_false]
      rw [w64_succ (by omega)])
      (Evt.of fun m n => by
      show laws_eqMatrixS.l0 _ _ _ _ _ _ = _
      rw [laws_eqMatrixS.l0_succ _ mk_ok, decide_eq_false (by omega), cond_false])
    by_cases he : x = y
    · refine ⟨true, Evt.succ ((h1 (by subst he; intros; rfl)).mono fun n h => ?_), by simp [he]⟩
      rw [run_laws_eqMatrixS, laws_eqMatrixS.ev, hd, cond_false]
      exact h
    · refine ⟨false, Evt.succ ((h2 fun hh => he (List.ext_getElem hl hh)).mono fun n h => ?_), by simp [he]⟩
      rw [run_laws_eqMatrixS, laws_eqMatrixS.ev, hd, cond_false]
      exact h
  · have hd : ((x.length : Int) != (y.length : Int)) = true := by simp; omega
    refine ⟨false, Evt.succ (Evt.of fun n => ?_), ⟨fun h => (nomatch h), fun h => absurd (congrArg List.length h) hl⟩⟩
    rw [run_laws_eqMatrixS, laws_eqMatrixS.ev, hd, cond_true]

theorem szSheaf_ret (x : ((List (List Int)) × Int × (List Int) × (List (Int × Int × Int × (List Int) × Unit)) × Unit)) (l : Int) (hx : Wf (.st (.cons (.sl (.sl (.int .i64))) (.cons (.int .i64) (.cons (.sl (.int .i64)) (.cons (.sl (.st (.cons (.int .i64) (.cons (.int .i64) (.cons (.int .i64) (.cons (.sl (.int .i64)) .nil)))))) .nil))))) x) (h0 : 0 ≤ l) (h1 : l ≤ 1048576) :
    ∃ r : Int, Ret E n_laws_szSheaf [⟨(.sl (.sl (.int .i64))), x.1⟩, ⟨(.int .i64), x.2.1⟩, ⟨(.sl (.int .i64)), x.2.2.1⟩, ⟨(.sl (.st (.cons (.int .i64) (.cons (.int .i64) (.cons (.int .i64) (.cons (.sl (.int .i64)) .nil)))))), x.2.2.2.1⟩, ⟨.int .i64, l⟩] ⟨o_laws_szSheaf, (r, ())⟩ ∧ (0 ≤ r → r ≤ l ∧ Sm (.st (.cons (.sl (.sl (.int .i64))) (.cons (.int .i64) (.cons (.sl (.int .i64)) (.cons (.sl (.st (.cons (.int .i64) (.cons (.int .i64) (.cons (.int .i64) (.cons (.sl (.int .i64)) .nil)))))) .nil))))) x) := by
  obtain ⟨r0, hr0, hs0⟩ := szComplex_ret (x.1, ()) l ⟨hx.1, trivial⟩ (by omega) (by omega)
  by_cases hc0 : r0 < 0
  · refine ⟨-1, Evt.succ (hr0.mono fun n e0 => ?_), fun h => by omega⟩
    rw [run_laws_szSheaf, laws_szSheaf.ev]
    simp only [Option.bind_some, cond_true, cond_false, callT_of e0, decide_eq_true hc0]
  have hb0 := hs0 (by omega)
  obtain ⟨r1, hr1, hs1⟩ := szInt64S_ret x.2.2.1 r0 hx.2.2.1 (by omega) (by omega)
  by_cases hc1 : r1 < 0
  · refine ⟨-1, Evt.succ ((hr0.and hr1).mono fun n hh => ?_), fun h => by omega⟩
    obtain ⟨e0, e1⟩ := hh
    rw [run_laws_szSheaf, laws_szSheaf.ev]
    simp only [Option.bind_some, cond_true, cond_false, callT_of e0, callT_of e1, decide_eq_false hc0, decide_eq_true hc1]
  have hb1 := hs1 (by omega)
  obtain ⟨r2, hr2, hs2⟩ := szMatrixS_ret x.2.2.2.1 r1 hx.2.2.2.1 (by omega) (by omega)
  by_cases hc2 : r2 < 0
  · refine ⟨-1, Evt.succ (((hr0.and hr1).and hr2).mono fun n hh => ?_), fun h => by omega⟩
    obtain ⟨⟨e0, e1⟩, e2⟩ := hh
    rw [run_laws_szSheaf, laws_szSheaf.ev]
    simp only [Option.bind_some, cond_true, cond_false, callT_of e0, callT_of e1, callT_of e2, decide_eq_false hc0, decide_eq_false hc1, decide_eq_true hc2]
  have hb2 := hs2 (by omega)
  refine ⟨r2, Evt.succ (((hr0.and hr1).and hr2).mono fun n hh => ?_), fun h => ⟨by omega, ?_⟩⟩
  · obtain ⟨⟨e0, e1⟩, e2⟩ := hh
    rw [run_laws_szSheaf, laws_szSheaf.ev]
    simp only [Option.bind_some, cond_true, cond_false, callT_of e0, callT_of e1, callT_of e2, decide_eq_false hc0, decide_eq_false hc1, decide_eq_false hc2]
  · exact ⟨hb0.2.1, trivial, hb1.2, hb2.2, trivial⟩

theorem toSheaf_ret (x : ((List (List Int)) × Int × (List Int) × (List (Int × Int × Int × (List Int) × Unit)) × Unit)) (hx : Sm (.st (.cons (.sl (.sl (.int .i64))) (.cons (.int .i64) (.cons (.sl (.int .i64)) (.cons (.sl (.st (.cons (.int .i64) (.cons (.int .i64) (.cons (.int .i64) (.cons (.sl (.int .i64)) .nil)))))) .nil))))) x) : Ret E n_laws_toSheaf [⟨(.sl (.sl (.int .i64))), x.1⟩, ⟨(.int .i64), x.2.1⟩, ⟨(.sl (.int .i64)), x.2.2.1⟩, ⟨(.sl (.st (.cons (.int .i64) (.cons (.int .i64) (.cons (.int .i64) (.cons (.sl (.int .i64)) .nil)))))), x.2.2.2.1⟩] ⟨o_laws_toSheaf, x⟩ := by
  have hr0 := toComplex_ret (x.1, ()) ⟨hx.1, trivial⟩
  have hr1 := toInt64S_ret x.2.2.1 hx.2.2.1
  have hr2 := toMatrixS_ret x.2.2.2.1 hx.2.2.2.1
  refine Evt.succ (((hr0.and hr1).and hr2).mono fun n hh => ?_)
  obtain ⟨⟨e0, e1⟩, e2⟩ := hh
  rw [run_laws_toSheaf, laws_toSheaf.ev]
  simp only [Option.bind_some, callT_of e0, callT_of e1, callT_of e2]

theorem eqSheaf_ret (x y : ((List (List Int)) × Int × (List Int) × (List (Int × Int × Int × (List Int) × Unit)) × Unit)) (hx : Sm (.st (.cons (.sl (.sl (.int .i64))) (.cons (.int .i64) (.cons (.sl (.int .i64)) (.cons (.sl (.st (.cons (.int .i64) (.cons (.int .i64) (.cons (.int .i64) (.cons (.sl (.int .i64)) .nil)))))) .nil))))) x) : ∃ b : Bool, Ret E n_laws_eqSheaf [⟨(.sl (.sl (.int .i64))), x.1⟩, ⟨(.int .i64), x.2.1⟩, ⟨(.sl (.int .i64)), x.2.2.1⟩, ⟨(.sl (.st (.cons (.int .i64) (.cons (.int .i64) (.cons (.int .i64) (.cons (.sl (.int .i64)) .nil)))))), x.2.2.2.1⟩, ⟨(.sl (.sl (.int .i64))), y.1⟩, ⟨(.int .i64), y.2.1⟩, ⟨(.sl (.int .i64)), y.2.2.1⟩, ⟨(.sl (.st (.cons (.int .i64) (.cons (.int .i64) (.cons (.int .i64) (.cons (.sl (.int .i64)) .nil)))))), y.2.2.2.1⟩] ⟨o_laws_eqSheaf, (b, ())⟩ ∧ (b = true ↔ x = y) := by
  obtain ⟨b0, hr0, hb0⟩ := eqComplex_ret (x.1, ()) (y.1, ()) ⟨hx.1, trivial⟩
  obtain ⟨b1, hr1, hb1⟩ := eqInt64S_ret x.2.2.1 y.2.2.1 hx.2.2.1
  obtain ⟨b2, hr2, hb2⟩ := eqMatrixS_ret x.2.2.2.1 y.2.2.2.1 hx.2.2.2.1
  refine ⟨b0 && decide (x.2.1 = y.2.1) && b1 && b2, Evt.succ (((hr0.and hr1).and hr2).mono fun n hh => ?_), ?_⟩
  · obtain ⟨⟨e0, e1⟩, e2⟩ := hh
    rw [run_laws_eqSheaf, laws_eqSheaf.ev]
    simp only [Option.bind_some, callT_of e0, callT_of e1, callT_of e2]
    simp only [show (x.2.1 != y.2.1) = !decide (x.2.1 = y.2.1) from rfl]
    generalize decide (x.2.1 = y.2.1) = d1
    clear hx hr0 e0 hb0 hr1 e1 hb1 hr2 e2 hb2
    cases b0 <;> cases d1 <;> cases b1 <;> cases b2 <;> rfl
  · obtain ⟨x0, x1, x2, x3, _⟩ := x
    obtain ⟨y0, y1, y2, y3, _⟩ := y
    simp only [Bool.and_eq_true, decide_eq_true_eq, hb0, hb1, hb2, Prod.mk.injEq, and_true]
    try simp only [and_assoc]

end VeT

open Go Go.Proofs Ve
set_option linter.unusedVariables false
set_option linter.unusedSimpArgs false
namespace VeT

theorem IndexFunc_SSint64_Sint64_impl_ValidComplex_1_ret (s : List (List Int)) (c : (((List (List Int)) × Unit) × (Int × Unit) × Unit)) (p : (List Int) → Bool) (hs : s.length ≤ 1048576) (hp : ∀ x ∈ s, Ret E n_impl_ValidComplex_1 [⟨(.sl (.int .i64)), x⟩, ⟨(.ptr (.cons (.sl (.sl (.int .i64))) .nil)), c.1⟩, ⟨(.ptr (.cons (.int .i64) .nil)), c.2.1⟩] ⟨o_impl_ValidComplex_1, (p x, ())⟩) :
    Ret E n_slices_IndexFunc_SSint64_Sint64 [⟨(.sl (.sl (.int .i64))), s⟩, ⟨(.fn n_impl_ValidComplex_1 (.cons (.ptr (.cons (.sl (.sl (.int .i64))) .nil)) (.cons (.ptr (.cons (.int .i64) .nil)) .nil))), c⟩] ⟨o_slices_IndexFunc_SSint64_Sint64, (idxf p s, ())⟩ := by
  obtain ⟨o, h1, h2, h3⟩ := find_loop 1 (L := fun φ n k => slices_IndexFunc_SSint64_Sint64_impl_ValidComplex_1.l0 (mkR (run E (φ 0))) (φ 0) n s c (s.length : Int) k) (len := s.length) (fun k => ∃ h : k < s.length, p s[k] = true) (fun o => some ⟨o_slices_IndexFunc_SSint64_Sint64, (o2i o, ())⟩) (fun _ _ _ _ => rfl) (fun k hk hP => by
      obtain ⟨_, hP⟩ := hP
      simp only [slices_IndexFunc_SSint64_Sint64_impl_ValidComplex_1.l0_succ _ mk_ok]
      refine ev_t (decide_eq_true (by omega)) (ev_bind (idx_lt hk) (ev_call (hp _ (List.getElem_mem hk)) (ev_t hP ev_rfl)))) (fun k q hk hP ih => by
      simp only [slices_IndexFunc_SSint64_Sint64_impl_ValidComplex_1.l0_succ _ mk_ok]
      refine ev_t (decide_eq_true (by omega)) (ev_bind (idx_lt hk) (ev_call (hp _ (List.getElem_mem hk)) (ev_f (Bool.eq_false_iff.2 fun h => hP ⟨hk, h⟩) ?_)))
      rw [w64_succ (by omega)]; exact ih) (by
      simp only [slices_IndexFunc_SSint64_Sint64_impl_ValidComplex_1.l0_succ _ mk_ok]
      exact ev_f (decide_eq_false (by omega)) ev_rfl)
  rw [idxf_of h1 h2] at h3
  refine ret_of ?_
  simp only [run_slices_IndexFunc_SSint64_Sint64, slices_IndexFunc_SSint64_Sint64_impl_ValidComplex_1.ev]
  exact Ev.start (p := fun φ n => slices_IndexFunc_SSint64_Sint64_impl_ValidComplex_1.l0 (mkR (run E (φ 0))) (φ 0) n s c (s.length : Int) 0 = _) 1 h3 (fun _ _ _ h => h)

theorem IndexFunc_Sint64_int64_impl_ValidSimplex_1_ret (s : List Int) (p : Int → Bool) (hs : s.length ≤ 1048576) (hp : ∀ x ∈ s, Ret E n_impl_ValidSimplex_1 [⟨(.int .i64), x⟩] ⟨o_impl_ValidSimplex_1, (p x, ())⟩) :
    Ret E n_slices_IndexFunc_Sint64_int64 [⟨(.sl (.int .i64)), s⟩, ⟨(.fn n_impl_ValidSimplex_1 .nil), ()⟩] ⟨o_slices_IndexFunc_Sint64_int64, (idxf p s, ())⟩ := by
  obtain ⟨o, h1, h2, h3⟩ := find_loop 1 (L := fun φ n k => slices_IndexFunc_Sint64_int64_impl_ValidSimplex_1.l0 (mkR (run E (φ 0))) (φ 0) n s (s.length : Int) k) (len := s.length) (fun k => ∃ h : k < s.length, p s[k] = true) (fun o => some ⟨o_slices_IndexFunc_Sint64_int64, (o2i o, ())⟩) (fun _ _ _ _ => rfl) (fun k hk hP => by
      obtain ⟨_, hP⟩ := hP
      simp only [slices_IndexFunc_Sint64_int64_impl_ValidSimplex_1.l0_succ _ mk_ok]
      refine ev_t (decide_eq_true (by omega)) (ev_bind (idx_lt hk) (ev_call (hp _ (List.getElem_mem hk)) (ev_t hP ev_rfl)))) (fun k q hk hP ih => by
      simp only [slices_IndexFunc_Sint64_int64_impl_ValidSimplex_1.l0_succ _ mk_ok]
      refine ev_t (decide_eq_true (by omega)) (ev_bind (idx_lt hk) (ev_call (hp _ (List.getElem_mem hk)) (ev_f (Bool.eq_false_iff.2 fun h => hP ⟨hk, h⟩) ?_)))
      rw [w64_succ (by omega)]; exact ih) (by
      simp only [slices_IndexFunc_Sint64_int64_impl_ValidSimplex_1.l0_succ _ mk_ok]
      exact ev_f (decide_eq_false (by omega)) ev_rfl)
  rw [idxf_of h1 h2] at h3
  refine ret_of ?_
  simp only [run_slices_IndexFunc_Sint64_int64, slices_IndexFunc_Sint64_int64_impl_ValidSimplex_1.ev]
  exact Ev.start (p := fun φ n => slices_IndexFunc_Sint64_int64_impl_ValidSimplex_1.l0 (mkR (run E (φ 0))) (φ 0) n s (s.length : Int) 0 = _) 1 h3 (fun _ _ _ h => h)

theorem IndexFunc_Sint64_int64_impl_areElements_1_ret (s : List Int) (c : ((Int × Unit) × Unit)) (p : Int → Bool) (hs : s.length ≤ 1048576) (hp : ∀ x ∈ s, Ret E n_impl_areElements_1 [⟨(.int .i64), x⟩, ⟨(.ptr (.cons (.int .i64) .nil)), c.1⟩] ⟨o_impl_areElements_1, (p x, ())⟩) :
    Ret E n_slices_IndexFunc_Sint64_int64 [⟨(.sl (.int .i64)), s⟩, ⟨(.fn n_impl_areElements_1 (.cons (.ptr (.cons (.int .i64) .nil)) .nil)), c⟩] ⟨o_slices_IndexFunc_Sint64_int64, (idxf p s, ())⟩ := by
  obtain ⟨o, h1, h2, h3⟩ := find_loop 1 (L := fun φ n k => slices_IndexFunc_Sint64_int64_impl_areElements_1.l0 (mkR (run E (φ 0))) (φ 0) n s c (s.length : Int) k) (len := s.length) (fun k => ∃ h : k < s.length, p s[k] = true) (fun o => some ⟨o_slices_IndexFunc_Sint64_int64, (o2i o, ())⟩) (fun _ _ _ _ => rfl) (fun k hk hP => by
      obtain ⟨_, hP⟩ := hP
      simp only [slices_IndexFunc_Sint64_int64_impl_areElements_1.l0_succ _ mk_ok]
      refine ev_t (decide_eq_true (by omega)) (ev_bind (idx_lt hk) (ev_call (hp _ (List.getElem_mem hk)) (ev_t hP ev_rfl)))) (fun k q hk hP ih => by
      simp only [slices_IndexFunc_Sint64_int64_impl_areElements_1.l0_succ _ mk_ok]
      refine ev_t (decide_eq_true (by omega)) (ev_bind (idx_lt hk) (ev_call (hp _ (List.getElem_mem hk)) (ev_f (Bool.eq_false_iff.2 fun h => hP ⟨hk, h⟩) ?_)))
      rw [w64_succ (by omega)]; exact ih) (by
      simp only [slices_IndexFunc_Sint64_int64_impl_areElements_1.l0_succ _ mk_ok]
      exact ev_f (decide_eq_false (by omega)) ev_rfl)
  rw [idxf_of h1 h2] at h3
  refine ret_of ?_
  simp only [run_slices_IndexFunc_Sint64_int64, slices_IndexFunc_Sint64_int64_impl_areElements_1.ev]
  exact Ev.start (p := fun φ n => slices_IndexFunc_Sint64_int64_impl_areElements_1.l0 (mkR (run E (φ 0))) (φ 0) n s c (s.length : Int) 0 = _) 1 h3 (fun _ _ _ h => h)

theorem IndexFunc_Sint64_int64_impl_areStalks_1_ret (s : List Int) (p : Int → Bool) (hs : s.length ≤ 1048576) (hp : ∀ x ∈ s, Ret E n_impl_areStalks_1 [⟨(.int .i64), x⟩] ⟨o_impl_areStalks_1, (p x, ())⟩) :
    Ret E n_slices_IndexFunc_Sint64_int64 [⟨(.sl (.int .i64)), s⟩, ⟨(.fn n_impl_areStalks_1 .nil), ()⟩] ⟨o_slices_IndexFunc_Sint64_int64, (idxf p s, ())⟩ := by
  obtain ⟨o, h1, h2, h3⟩ := find_loop 1 (L := fun φ n k => slices_IndexFunc_Sint64_int64_impl_areStalks_1.l0 (mkR (run E (φ 0))) (φ 0) n s (s.length : Int) k) (len := s.length) (fun k => ∃ h : k < s.length, p s[k] = true) (fun o => some ⟨o_slices_IndexFunc_Sint64_int64, (o2i o, ())⟩) (fun _ _ _ _ => rfl) (fun k hk hP => by
      obtain ⟨_, hP⟩ := hP
      simp only [slices_IndexFunc_Sint64_int64_impl_areStalks_1.l0_succ _ mk_ok]
      refine ev_t (decide_eq_true (by omega)) (ev_bind (idx_lt hk) (ev_call (hp _ (List.getElem_mem hk)) (ev_t hP ev_rfl)))) (fun k q hk hP ih => by
      simp only [slices_IndexFunc_Sint64_int64_impl_areStalks_1.l0_succ _ mk_ok]
      refine ev_t (decide_eq_true (by omega)) (ev_bind (idx_lt hk) (ev_call (hp _ (List.getElem_mem hk)) (ev_f (Bool.eq_false_iff.2 fun h => hP ⟨hk, h⟩) ?_)))
      rw [w64_succ (by omega)]; exact ih) (by
      simp only [slices_IndexFunc_Sint64_int64_impl_areStalks_1.l0_succ _ mk_ok]
      exact ev_f (decide_eq_false (by omega)) ev_rfl)
  rw [idxf_of h1 h2] at h3
  refine ret_of ?_
  simp only [run_slices_IndexFunc_Sint64_int64, slices_IndexFunc_Sint64_int64_impl_areStalks_1.ev]
  exact Ev.start (p := fun φ n => slices_IndexFunc_Sint64_int64_impl_areStalks_1.l0 (mkR (run E (φ 0))) (φ 0) n s (s.length : Int) 0 = _) 1 h3 (fun _ _ _ h => h)

theorem IndexFunc_Sint64_int64_impl_isFace_1_ret (s : List Int) (c : (((List Int) × Unit) × Unit)) (p : Int → Bool) (hs : s.length ≤ 1048576) (hp : ∀ x ∈ s, Ret E n_impl_isFace_1 [⟨(.int .i64), x⟩, ⟨(.ptr (.cons (.sl (.int .i64)) .nil)), c.1⟩] ⟨o_impl_isFace_1, (p x, ())⟩) :
    Ret E n_slices_IndexFunc_Sint64_int64 [⟨(.sl (.int .i64)), s⟩, ⟨(.fn n_impl_isFace_1 (.cons (.ptr (.cons (.sl (.int .i64)) .nil)) .nil)), c⟩] ⟨o_slices_IndexFunc_Sint64_int64, (idxf p s, ())⟩ := by
  obtain ⟨o, h1, h2, h3⟩ := find_loop 1 (L := fun φ n k => slices_IndexFunc_Sint64_int64_impl_isFace_1.l0 (mkR (run E (φ 0))) (φ 0) n s c (s.length : Int) k) (len := s.length) (fun k => ∃ h : k < s.length, p s[k] = true) (fun o => some ⟨o_slices_IndexFunc_Sint64_int64, (o2i o, ())⟩) (fun _ _ _ _ => rfl) (fun k hk hP => by
      obtain ⟨_, hP⟩ := hP
      simp only [slices_IndexFunc_Sint64_int64_impl_isFace_1.l0_succ _ mk_ok]
      refine ev_t (decide_eq_true (by omega)) (ev_bind (idx_lt hk) (ev_call (hp _ (List.getElem_mem hk)) (ev_t hP ev_rfl)))) (fun k q hk hP ih => by
      simp only [slices_IndexFunc_Sint64_int64_impl_isFace_1.l0_succ _ mk_ok]
      refine ev_t (decide_eq_true (by omega)) (ev_bind (idx_lt hk) (ev_call (hp _ (List.getElem_mem hk)) (ev_f (Bool.eq_false_iff.2 fun h => hP ⟨hk, h⟩) ?_)))
      rw [w64_succ (by omega)]; exact ih) (by
      simp only [slices_IndexFunc_Sint64_int64_impl_isFace_1.l0_succ _ mk_ok]
      exact ev_f (decide_eq_false (by omega)) ev_rfl)
  rw [idxf_of h1 h2] at h3
  refine ret_of ?_
  simp only [run_slices_IndexFunc_Sint64_int64, slices_IndexFunc_Sint64_int64_impl_isFace_1.ev]
  exact Ev.start (p := fun φ n => slices_IndexFunc_Sint64_int64_impl_isFace_1.l0 (mkR (run E (φ 0))) (φ 0) n s c (s.length : Int) 0 = _) 1 h3 (fun _ _ _ h => h)

theorem IndexFunc_Sint64_int64_impl_restriction_1_ret (s : List Int) (c : (((List Int) × Unit) × Unit)) (p : Int → Bool) (hs : s.length ≤ 1048576) (hp : ∀ x ∈ s, Ret E n_impl_restriction_1 [⟨(.int .i64), x⟩, ⟨(.ptr (.cons (.sl (.int .i64)) .nil)), c.1⟩] ⟨o_impl_restriction_1, (p x, ())⟩) :
    Ret E n_slices_IndexFunc_Sint64_int64 [⟨(.sl (.int .i64)), s⟩, ⟨(.fn n_impl_restriction_1 (.cons (.ptr (.cons (.sl (.int .i64)) .nil)) .nil)), c⟩] ⟨o_slices_IndexFunc_Sint64_int64, (idxf p s, ())⟩ := by
  obtain ⟨o, h1, h2, h3⟩ := find_loop 1 (L := fun φ n k => slices_IndexFunc_Sint64_int64_impl_restriction_1.l0 (mkR (run E (φ 0))) (φ 0) n s c (s.length : Int) k) (len := s.length) (fun k => ∃ h : k < s.length, p s[k] = true) (fun o => some ⟨o_slices_IndexFunc_Sint64_int64, (o2i o, ())⟩) (fun _ _ _ _ => rfl) (fun k hk hP => by
      obtain ⟨_, hP⟩ := hP
      simp only [slices_IndexFunc_Sint64_int64_impl_restriction_1.l0_succ _ mk_ok]
      refine ev_t (decide_eq_true (by omega)) (ev_bind (idx_lt hk) (ev_call (hp _ (List.getElem_mem hk)) (ev_t hP ev_rfl)))) (fun k q hk hP ih => by
      simp only [slices_IndexFunc_Sint64_int64_impl_restriction_1.l0_succ _ mk_ok]
      refine ev_t (decide_eq_true (by omega)) (ev_bind (idx_lt hk) (ev_call (hp _ (List.getElem_mem hk)) (ev_f (Bool.eq_false_iff.2 fun h => hP ⟨hk, h⟩) ?_)))
      rw [w64_succ (by omega)]; exact ih) (by
      simp only [slices_IndexFunc_Sint64_int64_impl_restriction_1.l0_succ _ mk_ok]
      exact ev_f (decide_eq_false (by omega)) ev_rfl)
  rw [idxf_of h1 h2] at h3
  refine ret_of ?_
  simp only [run_slices_IndexFunc_Sint64_int64, slices_IndexFunc_Sint64_int64_impl_restriction_1.ev]
  exact Ev.start (p := fun φ n => slices_IndexFunc_Sint64_int64_impl_restriction_1.l0 (mkR (run E (φ 0))) (φ 0) n s c (s.length : Int) 0 = _) 1 h3 (fun _ _ _ h => h)

theorem ContainsFunc_SSint64_Sint64_impl_ValidComplex_1_ret (s : List (List Int)) (c : (((List (List Int)) × Unit) × (Int × Unit) × Unit)) (p : (List Int) → Bool) (hs : s.length ≤ 1048576) (hp : ∀ x ∈ s, Ret E n_impl_ValidComplex_1 [⟨(.sl (.int .i64)), x⟩, ⟨(.ptr (.cons (.sl (.sl (.int .i64))) .nil)), c.1⟩, ⟨(.ptr (.cons (.int .i64) .nil)), c.2.1⟩] ⟨o_impl_ValidComplex_1, (p x, ())⟩) :
    Ret E n_slices_ContainsFunc_SSint64_Sint64 [⟨(.sl (.sl (.int .i64))), s⟩, ⟨(.fn n_impl_ValidComplex_1 (.cons (.ptr (.cons (.sl (.sl (.int .i64))) .nil)) (.cons (.ptr (.cons (.int .i64) .nil)) .nil))), c⟩] ⟨o_slices_ContainsFunc_SSint64_Sint64, (pb (∃ x ∈ s, p x = true), ())⟩ := by
  refine ret_of ?_
  simp only [run_slices_ContainsFunc_SSint64_Sint64, slices_ContainsFunc_SSint64_Sint64_impl_ValidComplex_1.ev]
  refine ev_call (IndexFunc_SSint64_Sint64_impl_ValidComplex_1_ret s c p hs hp) (ev_some ?_)
  simp only [ge_iff_le, pb_dec, pb_congr idxf_nonneg]

theorem ContainsFunc_Sint64_int64_impl_ValidSimplex_1_ret (s : List Int) (p : Int → Bool) (hs : s.length ≤ 1048576) (hp : ∀ x ∈ s, Ret E n_impl_ValidSimplex_1 [⟨(.int .i64), x⟩] ⟨o_impl_ValidSimplex_1, (p x, ())⟩) :
    Ret E n_slices_ContainsFunc_Sint64_int64 [⟨(.sl (.int .i64)), s⟩, ⟨(.fn n_impl_ValidSimplex_1 .nil), ()⟩] ⟨o_slices_ContainsFunc_Sint64_int64, (pb (∃ x ∈ s, p x = true), ())⟩ := by
  refine ret_of ?_
  simp only [run_slices_ContainsFunc_Sint64_int64, slices_ContainsFunc_Sint64_int64_impl_ValidSimplex_1.ev]
  refine ev_call (IndexFunc_Sint64_int64_impl_ValidSimplex_1_ret s p hs hp) (ev_some ?_)
  simp only [ge_iff_le, pb_dec, pb_congr idxf_nonneg]

theorem ContainsFunc_Sint64_int64_impl_areElements_1_ret (s : List Int) (c : ((Int × Unit) × Unit)) (p : Int → Bool) (hs : s.length ≤ 1048576) (hp : ∀ x ∈ s, Ret E n_impl_areElements_1 [⟨(.int .i64), x⟩, ⟨(.ptr (.cons (.int .i64) .nil)), c.1⟩] ⟨o_impl_areElements_1, (p x, ())⟩) :
    Ret E n_slices_ContainsFunc_Sint64_int64 [⟨(.sl (.int .i64)), s⟩, ⟨(.fn n_impl_areElements_1 (.cons (.ptr (.cons (.int .i64) .nil)) .nil)), c⟩] ⟨o_slices_ContainsFunc_Sint64_int64, (pb (∃ x ∈ s, p x = true), ())⟩ := by
  refine ret_of ?_
  simp only [run_slices_ContainsFunc_Sint64_int64, slices_ContainsFunc_Sint64_int64_impl_areElements_1.ev]
  refine ev_call (IndexFunc_Sint64_int64_impl_areElements_1_ret s c p hs hp) (ev_some ?_)
  simp only [ge_iff_le, pb_dec, pb_congr idxf_nonneg]

theorem ContainsFunc_Sint64_int64_impl_areStalks_1_ret (s : List Int) (p : Int → Bool) (hs : s.length ≤ 1048576) (hp : ∀ x ∈ s, Ret E n_impl_areStalks_1 [⟨(.int .i64), x⟩] ⟨o_impl_areStalks_1, (p x, ())⟩) :
    Ret E n_slices_ContainsFunc_Sint64_int64 [⟨(.sl (.int .i64)), s⟩, ⟨(.fn n_impl_areStalks_1 .nil), ()⟩] ⟨o_slices_ContainsFunc_Sint64_int64, (pb (∃ x ∈ s, p x = true), ())⟩ := by
  refine ret_of ?_
  simp only [run_slices_ContainsFunc_Sint64_int64, slices_ContainsFunc_Sint64_int64_impl_areStalks_1.ev]
  refine ev_call (IndexFunc_Sint64_int64_impl_areStalks_1_ret s p hs hp) (ev_some ?_)
  simp only [ge_iff_le, pb_dec, pb_congr idxf_nonneg]

theorem ContainsFunc_Sint64_int64_impl_isFace_1_ret (s : List Int) (c : (((List Int) × Unit) × Unit)) (p : Int → Bool) (hs : s.length ≤ 1048576) (hp : ∀ x ∈ s, Ret E n_impl_isFace_1 [⟨(.int .i64), x⟩, ⟨(.ptr (.cons (.sl (.int .i64)) .nil)), c.1⟩] ⟨o_impl_isFace_1, (p x, ())⟩) :
    Ret E n_slices_ContainsFunc_Sint64_int64 [⟨(.sl (.int .i64)), s⟩, ⟨(.fn n_impl_isFace_1 (.cons (.ptr (.cons (.sl (.int .i64)) .nil)) .nil)), c⟩] ⟨o_slices_ContainsFunc_Sint64_int64, (pb (∃ x ∈ s, p x = true), ())⟩ := by
  refine ret_of ?_
  simp only [run_slices_ContainsFunc_Sint64_int64, slices_ContainsFunc_Sint64_int64_impl_isFace_1.ev]
  refine ev_call (IndexFunc_Sint64_int64_impl_isFace_1_ret s c p hs hp) (ev_some ?_)
  simp only [ge_iff_le, pb_dec, pb_congr idxf_nonneg]

theorem filled_impl_unit_1_ret (p : Int) (R C : Nat) (f : Nat → Nat → Int) (hR : R ≤ 1048576) (hC : C ≤ 1048576) (hRC : R * C ≤ 1048576) (hf : ∀ i j : Nat, i < R → j < C → Ret E n_impl_unit_1 [⟨(.int .i64), (i : Int)⟩, ⟨(.int .i64), (j : Int)⟩] ⟨o_impl_unit_1, (f i j, ())⟩) :
    Ret E n_impl_filled [⟨(.int .i64), p⟩, ⟨(.int .i64), (R : Int)⟩, ⟨(.int .i64), (C : Int)⟩, ⟨(.fn n_impl_unit_1 .nil), ()⟩] ⟨o_impl_filled, (p, (R : Int), (C : Int), flatF f C R, ())⟩ := by
  refine ret_of ?_
  simp only [run_impl_filled, impl_filled_impl_unit_1.ev]
  refine Ev.start (p := fun φ n => impl_filled_impl_unit_1.l0 (mkR (run E (φ 0))) (φ 0) n (C : Int) (R : Int) 0 0 0 0 p (R : Int) (C : Int) [] = _) 1 ?_ (fun _ _ _ h => h)
  refine fold_loop 1 (L := fun φ n k a => impl_filled_impl_unit_1.l0 (mkR (run E (φ 0))) (φ 0) n (C : Int) (R : Int) k 0 0 0 p (R : Int) (C : Int) a) (len := R) (fun k => flatF f C k) (fun _ _ _ _ _ => rfl) (fun k r hk ih => ?_) ?_
  · simp only [impl_filled_impl_unit_1.l0_succ _ mk_ok]
    refine ev_t (decide_eq_true (by omega)) ?_
    refine Ev.start (p := fun φ n => impl_filled_impl_unit_1.l1 (mkR (run E (φ 0))) (φ 0) (φ 1) n (C : Int) (k : Int) (R : Int) (k : Int) (C : Int) 0 0 0 0 p (R : Int) (C : Int) (flatF f C k) = _) 2 ?_ (fun _ _ _ h => h)
    have hle : (k + 1) * C ≤ R * C := Nat.mul_le_mul_right _ hk
    rw [Nat.add_mul] at hle
    have := fold_loop 2 (L := fun φ n j a => impl_filled_impl_unit_1.l1 (mkR (run E (φ 0))) (φ 0) (φ 1) n (C : Int) (k : Int) (R : Int) (k : Int) (C : Int) j 0 0 0 p (R : Int) (C : Int) a) (len := C) (fun j => flatF f C k ++ (List.range j).map (f k)) (r := r) (fun _ _ _ _ _ => rfl) (fun j r hj ih => ?_) ?_
    · simpa using this
    · simp only [impl_filled_impl_unit_1.l1_succ _ mk_ok]
      rw [List.range_succ, List.map_append, ← List.append_assoc] at ih
      refine ev_t (decide_eq_true (by omega)) (ev_call (hf k j hk hj) (ev_chk (by simp [flatF_length]; omega) ?_))
      rw [w64_succ (by omega)]; exact ih
    · simp only [impl_filled_impl_unit_1.l1_succ _ mk_ok]
      refine ev_f (decide_eq_false (by omega)) ?_
      rw [w64_succ (by omega)]; exact ih
  · simp only [impl_filled_impl_unit_1.l0_succ _ mk_ok]
    exact ev_f (decide_eq_false (by omega)) ev_rfl

theorem filled_impl_transpose_1_ret (p : Int) (R C : Nat) (c : ((Int × Int × Int × (List Int) × Unit) × Unit)) (f : Nat → Nat → Int) (hR : R ≤ 1048576) (hC : C ≤ 1048576) (hRC : R * C ≤ 1048576) (hf : ∀ i j : Nat, i < R → j < C → Ret E n_impl_transpose_1 [⟨(.int .i64), (i : Int)⟩, ⟨(.int .i64), (j : Int)⟩, ⟨(.ptr (.cons (.int .i64) (.cons (.int .i64) (.cons (.int .i64) (.cons (.sl (.int .i64)) .nil))))), c.1⟩] ⟨o_impl_transpose_1, (f i j, ())⟩) :
    Ret E n_impl_filled [⟨(.int .i64), p⟩, ⟨(.int .i64), (R : Int)⟩, ⟨(.int .i64), (C : Int)⟩, ⟨(.fn n_impl_transpose_1 (.cons (.ptr (.cons (.int .i64) (.cons (.int .i64) (.cons (.int .i64) (.cons (.sl (.int .i64)) .nil))))) .nil)), c⟩] ⟨o_impl_filled, (p, (R : Int), (C : Int), flatF f C R, ())⟩ := by
  refine ret_of ?_
  simp only [run_impl_filled, impl_filled_impl_transpose_1.ev]
  refine Ev.start (p := fun φ n => impl_filled_impl_transpose_1.l0 (mkR (run E (φ 0))) (φ 0) n (C : Int) c (R : Int) 0 0 0 0 p (R : Int) (C : Int) [] = _) 1 ?_ (fun _ _ _ h => h)
  refine fold_loop 1 (L := fun φ n k a => impl_filled_impl_transpose_1.l0 (mkR (run E (φ 0))) (φ 0) n (C : Int) c (R : Int) k 0 0 0 p (R : Int) (C : Int) a) (len := R) (fun k => flatF f C k) (fun _ _ _ _ _ => rfl) (fun k r hk ih => ?_) ?_
  · simp only [impl_filled_impl_transpose_1.l0_succ _ mk_ok]
    refine ev_t (decide_eq_true (by omega)) ?_
    refine Ev.start (p := fun φ n => impl_filled_impl_transpose_1.l1 (mkR (run E (φ 0))) (φ 0) (φ 1) n (C : Int) c (k : Int) (R : Int) (k : Int) (C : Int) 0 0 0 0 p (R : Int) (C : Int) (flatF f C k) = _) 2 ?_ (fun _ _ _ h => h)
    have hle : (k + 1) * C ≤ R * C := Nat.mul_le_mul_right _ hk
    rw [Nat.add_mul] at hle
    have := fold_loop 2 (L := fun φ n j a => impl_filled_impl_transpose_1.l1 (mkR (run E (φ 0))) (φ 0) (φ 1) n (C : Int) c (k : Int) (R : Int) (k : Int) (C : Int) j 0 0 0 p (R : Int) (C : Int) a) (len := C) (fun j => flatF f C k ++ (List.range j).map (f k)) (r := r) (fun _ _ _ _ _ => rfl) (fun j r hj ih => ?_) ?_
    · simpa using this
    · simp only [impl_filled_impl_transpose_1.l1_succ _ mk_ok]
      rw [List.range_succ, List.map_append, ← List.append_assoc] at ih
      refine ev_t (decide_eq_true (by omega)) (ev_call (hf k j hk hj) (ev_chk (by simp [flatF_length]; omega) ?_))
      rw [w64_succ (by omega)]; exact ih
    · simp only [impl_filled_impl_transpose_1.l1_succ _ mk_ok]
      refine ev_f (decide_eq_false (by omega)) ?_
      rw [w64_succ (by omega)]; exact ih
  · simp only [impl_filled_impl_transpose_1.l0_succ _ mk_ok]
    exact ev_f (decide_eq_false (by omega)) ev_rfl

theorem filled_impl_product_1_ret (p : Int) (R C : Nat) (c : ((Int × Int × Int × (List Int) × Unit) × ((List (List Int)) × Unit) × Unit)) (f : Nat → Nat → Int) (hR : R ≤ 1048576) (hC : C ≤ 1048576) (hRC : R * C ≤ 1048576) (hf : ∀ i j : Nat, i < R → j < C → Ret E n_impl_product_1 [⟨(.int .i64), (i : Int)⟩, ⟨(.int .i64), (j : Int)⟩, ⟨(.ptr (.cons (.int .i64) (.cons (.int .i64) (.cons (.int .i64) (.cons (.sl (.int .i64)) .nil))))), c.1⟩, ⟨(.ptr (.cons (.sl (.sl (.int .i64))) .nil)), c.2.1⟩] ⟨o_impl_product_1, (f i j, ())⟩) :
    Ret E n_impl_filled [⟨(.int .i64), p⟩, ⟨(.int .i64), (R : Int)⟩, ⟨(.int .i64), (C : Int)⟩, ⟨(.fn n_impl_product_1 (.cons (.ptr (.cons (.int .i64) (.cons (.int .i64) (.cons (.int .i64) (.cons (.sl (.int .i64)) .nil))))) (.cons (.ptr (.cons (.sl (.sl (.int .i64))) .nil)) .nil))), c⟩] ⟨o_impl_filled, (p, (R : Int), (C : Int), flatF f C R, ())⟩ := by
  refine ret_of ?_
  simp only [run_impl_filled, impl_filled_impl_product_1.ev]
  refine Ev.start (p := fun φ n => impl_filled_impl_product_1.l0 (mkR (run E (φ 0))) (φ 0) n (C : Int) c (R : Int) 0 0 0 0 p (R : Int) (C : Int) [] = _) 1 ?_ (fun _ _ _ h => h)
  refine fold_loop 1 (L := fun φ n k a => impl_filled_impl_product_1.l0 (mkR (run E (φ 0))) (φ 0) n (C : Int) c (R : Int) k 0 0 0 p (R : Int) (C : Int) a) (len := R) (fun k => flatF f C k) (fun _ _ _ _ _ => rfl) (fun k r hk ih => ?_) ?_
  · simp only [impl_filled_impl_product_1.l0_succ _ mk_ok]
    refine ev_t (decide_eq_true (by omega)) ?_
    refine Ev.start (p := fun φ n => impl_filled_impl_product_1.l1 (mkR (run E (φ 0))) (φ 0) (φ 1) n (C : Int) c (k : Int) (R : Int) (k : Int) (C : Int) 0 0 0 0 p (R : Int) (C : Int) (flatF f C k) = _) 2 ?_ (fun _ _ _ h => h)
    have hle : (k + 1) * C ≤ R * C := Nat.mul_le_mul_right _ hk
    rw [Nat.add_mul] at hle
    have := fold_loop 2 (L := fun φ n j a => impl_filled_impl_product_1.l1 (mkR (run E (φ 0))) (φ 0) (φ 1) n (C : Int) c (k : Int) (R : Int) (k : Int) (C : Int) j 0 0 0 p (R : Int) (C : Int) a) (len := C) (fun j => flatF f C k ++ (List.range j).map (f k)) (r := r) (fun _ _ _ _ _ => rfl) (fun j r hj ih => ?_) ?_
    · simpa using this
    · simp only [impl_filled_impl_product_1.l1_succ _ mk_ok]
      rw [List.range_succ, List.map_append, ← List.append_assoc] at ih
      refine ev_t (decide_eq_true (by omega)) (ev_call (hf k j hk hj) (ev_chk (by simp [flatF_length]; omega) ?_))
      rw [w64_succ (by omega)]; exact ih
    · simp only [impl_filled_impl_product_1.l1_succ _ mk_ok]
      refine ev_f (decide_eq_false (by omega)) ?_
      rw [w64_succ (by omega)]; exact ih
  · simp only [impl_filled_impl_product_1.l0_succ _ mk_ok]
    exact ev_f (decide_eq_false (by omega)) ev_rfl

end VeT

open Go Go.Proofs Ve
set_option linter.unusedVariables false
set_option linter.unusedSimpArgs false
namespace VeT

abbrev cM : Ty := .cons (.int .i64) (.cons (.int .i64) (.cons (.int .i64) (.cons (.sl (.int .i64)) .nil)))
abbrev cC : Ty := .cons (.sl (.sl (.int .i64))) .nil
abbrev cS : Ty := .cons (.sl (.sl (.int .i64))) (.cons (.int .i64) (.cons (.sl (.int .i64)) (.cons (.sl (.st cM)) .nil)))
abbrev Mat := Int × Int × Int × List Int × Unit
abbrev Cpx := List (List Int) × Unit
abbrev Shf := List (List Int) × Int × List Int × List Mat × Unit
abbrev Sim := List Int
abbrev dI (x : Int) : Dv := ⟨.int .i64, x⟩
abbrev dL (x : List Int) : Dv := ⟨.sl (.int .i64), x⟩
abbrev dLL (x : List (List Int)) : Dv := ⟨.sl (.sl (.int .i64)), x⟩
abbrev dC (x : Cpx) : Dv := ⟨.ptr cC, x⟩
abbrev dM (x : Mat) : Dv := ⟨.ptr cM, x⟩
abbrev dS (x : Shf) : Dv := ⟨.ptr cS, x⟩
abbrev dMs (x : List Mat) : Dv := ⟨.sl (.st cM), x⟩

theorem within_ret (n lo hi : Int) : Ret E n_impl_within [dI n, dI lo, dI hi] ⟨o_impl_within, (pb (lo ≤ n ∧ n ≤ hi), ())⟩ := by
  refine ret_of ?_
  simp only [run_impl_within, impl_within.ev]
  refine ev_d (fun h => ev_some ?_) fun h => ev_some ?_
  · rw [pb_dec, pb_congr (show n ≤ hi ↔ lo ≤ n ∧ n ≤ hi by omega)]
  · rw [pb_false (by omega)]

theorem l00In_ret (n lo hi : Int) : Ret E n_spec_l00In [dI n, dI lo, dI hi] ⟨o_spec_l00In, (pb (lo ≤ n ∧ n ≤ hi), ())⟩ := by
  refine ret_of ?_
  simp only [run_spec_l00In, spec_l00In.ev]
  refine ev_d (fun h => ev_some ?_) fun h => ev_some ?_
  · rw [pb_dec, pb_congr (show n ≤ hi ↔ lo ≤ n ∧ n ≤ hi by omega)]
  · rw [pb_false (by omega)]

theorem isVertex_ret (n : Int) : Ret E n_impl_isVertex [dI n] ⟨o_impl_isVertex, (pb (0 ≤ n ∧ n ≤ 9), ())⟩ := by
  refine ret_of ?_
  simp only [run_impl_isVertex, impl_isVertex.ev]
  exact ev_call (within_ret _ _ _) ev_rfl

theorem ValidSimplex_1_ret (n : Int) : Ret E n_impl_ValidSimplex_1 [dI n] ⟨o_impl_ValidSimplex_1, (!pb (0 ≤ n ∧ n ≤ 9), ())⟩ := by
  refine ret_of ?_
  simp only [run_impl_ValidSimplex_1, impl_ValidSimplex_1.ev]
  exact ev_call (isVertex_ret _) ev_rfl

/-- the list rises -/
def Rises (s : Sim) : Prop := ∀ j, 1 ≤ j → j < s.length → s.getD (j - 1) 0 < s.getD j 0

theorem isRising_ret (s : Sim) (hs : Sm (.sl (.int .i64)) s) : Ret E n_impl_isRising [dL s] ⟨o_impl_isRising, (pb (Rises s), ())⟩ := by
  have hs1 : s.length ≤ 1048576 := hs.1
  refine ret_of ?_
  simp only [run_impl_isRising, impl_isRising.ev]
  by_cases h0 : s.length = 0
  · refine Ev.start (p := fun φ n => impl_isRising.l0 (mkR (run E (φ 0))) (φ 0) n s 1 = _) 1 ?_ (fun _ _ _ h => h)
    refine loopR 1 (σ := Unit) (L := fun φ n _ => impl_isRising.l0 (mkR (run E (φ 0))) (φ 0) n s 1) (fun _ _ _ _ => rfl) (fun _ => True) (fun _ => _) (fun _ => 0) (fun _ _ _ => ?_) () trivial
    simp only [impl_isRising.l0_succ _ mk_ok]
    refine ev_f (decide_eq_false (by omega)) (ev_some ?_)
    rw [pb_true]
    intro j h1 h2; omega
  · refine Ev.start (p := fun φ n => impl_isRising.l0 (mkR (run E (φ 0))) (φ 0) n s 1 = _) 1 ?_ (fun _ _ _ h => h)
    refine all_pb 1 (L := fun φ n k => impl_isRising.l0 (mkR (run E (φ 0))) (φ 0) n s k) (len := s.length) 1 (by omega) (fun j => s.getD (j - 1) 0 < s.getD j 0) (fun b => some ⟨o_impl_isRising, (b, ())⟩) (fun _ _ _ _ => rfl) (fun k h1 h2 hP _ => ?_) (fun k r h1 h2 hP _ ih => ?_) (fun _ => ?_)
    · simp only [impl_isRising.l0_succ _ mk_ok]
      refine ev_t (decide_eq_true (by omega)) ?_
      rw [w64_small (by omega) (by omega), show ((k : Int) - 1) = ((k - 1 : Nat) : Int) by omega]
      refine ev_bind (idx_lt (by omega)) (ev_bind (idx_lt h2) (ev_t (decide_eq_true ?_) ev_rfl))
      simpa [List.getD_eq_getElem?_getD, h2, show k - 1 < s.length by omega] using hP
    · simp only [impl_isRising.l0_succ _ mk_ok]
      refine ev_t (decide_eq_true (by omega)) ?_
      rw [w64_small (by omega) (by omega), show ((k : Int) - 1) = ((k - 1 : Nat) : Int) by omega]
      refine ev_bind (idx_lt (by omega)) (ev_bind (idx_lt h2) (ev_f (decide_eq_false ?_) ?_))
      · simpa [List.getD_eq_getElem?_getD, h2, show k - 1 < s.length by omega] using hP
      · rw [w64_succ (by omega)]; exact ih
    · simp only [impl_isRising.l0_succ _ mk_ok]
      exact ev_f (decide_eq_false (by omega)) ev_rfl

end VeT

open Go Go.Proofs Ve
set_option linter.unusedVariables false
set_option linter.unusedSimpArgs false
namespace VeT

def Vx (s : Sim) : Prop := 1 ≤ s.length ∧ s.length ≤ 4 ∧ Rises s ∧ ∀ x ∈ s, 0 ≤ x ∧ x ≤ 9

theorem ValidSimplex_ret (s : Sim) (hs : Sm (.sl (.int .i64)) s) : Ret E n_impl_ValidSimplex [dL s] ⟨o_impl_ValidSimplex, (pb (Vx s), ())⟩ := by
  refine ret_of ?_
  simp only [run_impl_ValidSimplex, impl_ValidSimplex.ev]
  refine ev_d (fun h1 => ev_d (fun h2 => ev_call (isRising_ret s hs) (ev_b (fun h3 => ev_call (ContainsFunc_Sint64_int64_impl_ValidSimplex_1_ret s _ hs.1 fun x _ => ValidSimplex_1_ret x) (ev_some ?_)) fun h3 => ev_some ?_)) fun h2 => ev_some ?_) fun h1 => ev_some ?_
  · have h3 := pb_iff.1 h3
    have : (!pb (∃ x ∈ s, (!pb (0 ≤ x ∧ x ≤ 9)) = true)) = pb (Vx s) := eq_pb (by
      simp only [Bool.not_eq_true', pb_not]
      exact ⟨fun h => ⟨by omega, by omega, h3, fun x hx => Classical.byContradiction fun hn => h ⟨x, hx, hn⟩⟩, fun h ⟨x, hx, hn⟩ => hn (h.2.2.2 x hx)⟩)
    rw [this]
  · rw [pb_false fun h => pb_not.1 h3 h.2.2.1]
  · rw [pb_false fun h => h2 (by have := h.2.1; omega)]
  · rw [pb_false fun h => h1 (by have := h.1; omega)]

theorem l00Rises_ret (s : Sim) (lo hi : Int) (hs : Sm (.sl (.int .i64)) s) : Ret E n_spec_l00Rises [dL s, dI lo, dI hi] ⟨o_spec_l00Rises, (pb (Rises s ∧ ∀ x ∈ s, lo ≤ x ∧ x ≤ hi), ())⟩ := by
  have hs1 : s.length ≤ 1048576 := hs.1
  refine ret_of ?_
  simp only [run_spec_l00Rises, spec_l00Rises.ev]
  refine Ev.start (p := fun φ n => spec_l00Rises.l0 (mkR (run E (φ 0))) (φ 0) n s lo hi 0 = _) 1 ?_ (fun _ _ _ h => h)
  refine (all_pb 1 (L := fun φ n k => spec_l00Rises.l0 (mkR (run E (φ 0))) (φ 0) n s lo hi k) (len := s.length) 0 (by omega) (fun j => (lo ≤ s.getD j 0 ∧ s.getD j 0 ≤ hi) ∧ (1 ≤ j → s.getD (j - 1) 0 < s.getD j 0)) (fun b => some ⟨o_spec_l00Rises, (b, ())⟩) (fun _ _ _ _ => rfl) (fun k h1 h2 hP _ => ?_) (fun k r h1 h2 hP _ ih => ?_) (fun _ => ?_)).to ?_
  · simp only [spec_l00Rises.l0_succ _ mk_ok]
    refine ev_t (decide_eq_true (by omega)) (ev_bind (idx_lt h2) (ev_call (l00In_ret _ _ _) ?_))
    have e : s.getD k 0 = s[k] := by simp [List.getD_eq_getElem?_getD, h2]
    rw [e] at hP
    refine ev_b (fun _ => ?_) (fun hin => ?_)
    · simp only [spec_l00Rises.j1_eq _ mk_ok, cond_true]; (first | exact ev_rfl | exact Ev.of fun _ => trivial)
    · have hin : lo ≤ s[k] ∧ s[k] ≤ hi := pb_iff.1 (by simpa using hin)
      have hk : 1 ≤ k := Classical.byContradiction fun h => hP ⟨hin, fun h' => absurd h' h⟩
      refine ev_t (decide_eq_true (by omega)) ?_
      rw [w64_small (by omega) (by omega), show ((k : Int) - 1) = ((k - 1 : Nat) : Int) by omega]
      refine ev_bind (idx_lt (by omega)) (ev_bind (idx_lt h2) ?_)
      have e' : s.getD (k - 1) 0 = s[k - 1] := by simp [List.getD_eq_getElem?_getD, show k - 1 < s.length by omega]
      rw [e'] at hP
      have : decide (s[k-1] ≥ s[k]) = true := decide_eq_true (Classical.byContradiction fun h => hP ⟨hin, fun _ => by omega⟩)
      simp only [this, spec_l00Rises.j1_eq _ mk_ok, cond_true]; (first | exact ev_rfl | exact Ev.of fun _ => trivial)
  · simp only [spec_l00Rises.l0_succ _ mk_ok]
    refine ev_t (decide_eq_true (by omega)) (ev_bind (idx_lt h2) (ev_call (l00In_ret _ _ _) ?_))
    have e : s.getD k 0 = s[k] := by simp [List.getD_eq_getElem?_getD, h2]
    rw [e] at hP
    refine ev_f (by rw [pb_true hP.1]; rfl) ?_
    refine ev_d (fun hk => ?_) fun hk => ?_
    · rw [w64_small (by omega) (by omega), show ((k : Int) - 1) = ((k - 1 : Nat) : Int) by omega]
      refine ev_bind (idx_lt (by omega)) (ev_bind (idx_lt h2) ?_)
      have e' : s.getD (k - 1) 0 = s[k - 1] := by simp [List.getD_eq_getElem?_getD, show k - 1 < s.length by omega]
      rw [e'] at hP
      have : decide (s[k-1] ≥ s[k]) = false := decide_eq_false (by have := hP.2 (by omega); omega)
      simp only [this, spec_l00Rises.j1_eq _ mk_ok, cond_false]
      rw [w64_succ (by omega)]; exact ih
    · simp only [spec_l00Rises.j1_eq _ mk_ok, cond_false]
      rw [w64_succ (by omega)]; exact ih
  · simp only [spec_l00Rises.l0_succ _ mk_ok]
    exact ev_f (decide_eq_false (by omega)) ev_rfl
  · refine congrArg (fun b : Bool => some (⟨o_spec_l00Rises, (b, ())⟩ : Dv)) (pb_congr ⟨fun h => ⟨fun j h1 h2 => (h j (by omega) h2).2 h1, fun x hx => ?_⟩, fun ⟨h1, h2⟩ j _ hj => ⟨?_, fun h3 => h1 j h3 hj⟩⟩)
    · obtain ⟨j, hj, rfl⟩ := List.mem_iff_getElem.1 hx
      simpa [List.getD_eq_getElem?_getD, hj] using (h j (by omega) hj).1
    · simpa [List.getD_eq_getElem?_getD, hj] using h2 _ (List.getElem_mem hj)

theorem l05Simplex_ret (s : Sim) (hs : Sm (.sl (.int .i64)) s) : Ret E n_spec_l05Simplex [dL s] ⟨o_spec_l05Simplex, (pb (Vx s), ())⟩ := by
  refine ret_of ?_
  simp only [run_spec_l05Simplex, spec_l05Simplex.ev]
  refine ev_call (l00In_ret _ _ _) (ev_b (fun h1 => ev_call (l00Rises_ret s _ _ hs) (ev_some ?_)) fun h1 => ev_some ?_)
  · have h1 := pb_iff.1 h1
    exact congrArg (fun b : Bool => some (⟨o_spec_l05Simplex, (b, ())⟩ : Dv)) (pb_congr ⟨fun h => ⟨by omega, by omega, h.1, h.2⟩, fun h => ⟨h.2.2.1, h.2.2.2⟩⟩)
  · rw [pb_false fun h => pb_not.1 h1 ⟨by have := h.1; omega, by have := h.2.1; omega⟩]

/-! comparing -/
def cmp3 (a b : Int) : Int := if a < b then -1 else if b < a then 1 else 0
def lexc : Sim → Sim → Int
  | [], [] => 0
  | [], _ :: _ => -1
  | _ :: _, [] => 1
  | x :: xs, y :: ys => if x < y then -1 else if y < x then 1 else lexc xs ys
def cmpS (a b : Sim) : Int := if cmp3 a.length b.length ≠ 0 then cmp3 a.length b.length else lexc a b

theorem cmp3_zero {a b : Int} : cmp3 a b = 0 ↔ a = b := by unfold cmp3; split <;> (try split) <;> omega
theorem cmp3_neg {a b : Int} : cmp3 b a = - cmp3 a b := by unfold cmp3; split <;> split <;> (try split) <;> omega
theorem cmp3_lt {a b : Int} : cmp3 a b < 0 ↔ a < b := by unfold cmp3; split <;> (try split) <;> omega
theorem lexc_eq : ∀ {a b : Sim}, lexc a b = 0 ↔ a = b
  | [], [] => by simp [lexc]
  | [], _ :: _ => by simp [lexc]
  | _ :: _, [] => by simp [lexc]
  | x :: xs, y :: ys => by
    have := @lexc_eq xs ys
    simp only [lexc, List.cons.injEq]
    split
    · constructor
      · intro h; omega
      · rintro ⟨rfl, _⟩; omega
    · split
      · constructor
        · intro h; omega
        · rintro ⟨rfl, _⟩; omega
      · rw [this]; constructor
        · intro h; exact ⟨by omega, h⟩
        · exact fun h => h.2
theorem lexc_neg : ∀ {a b : Sim}, lexc b a = - lexc a b
  | [], [] => by simp [lexc]
  | [], _ :: _ => by simp [lexc]
  | _ :: _, [] => by simp [lexc]
  | x :: xs, y :: ys => by
    have := @lexc_neg xs ys
    simp only [lexc]
    split <;> split <;> (try split) <;> omega
theorem lexc_trans : ∀ {a b c : Sim}, lexc a b < 0 → lexc b c < 0 → lexc a c < 0
  | [], [], c, h, _ => by simp [lexc] at h
  | [], _ :: _, [], _, h => by simp [lexc] at h
  | [], _ :: _, _ :: _, _, _ => by simp [lexc]
  | _ :: _, [], _, h, _ => by simp [lexc] at h
  | _ :: _, _ :: _, [], _, h => by simp [lexc] at h
  | x :: xs, y :: ys, z :: zs, h1, h2 => by
    have := @lexc_trans xs ys zs
    simp only [lexc] at h1 h2 ⊢
    split at h1 <;> split at h2 <;> (try split at h1) <;> (try split at h2) <;> (try split) <;> (try split) <;> first | omega | (exact this h1 h2)
theorem cmpS_zero {a b : Sim} : cmpS a b = 0 ↔ a = b := by
  unfold cmpS
  split
  · rename_i h
    exact ⟨fun h' => absurd h' h, fun h' => absurd (cmp3_zero.2 (by rw [h'])) h⟩
  · exact lexc_eq
theorem cmpS_neg {a b : Sim} : cmpS b a = - cmpS a b := by
  unfold cmpS
  rw [@cmp3_neg a.length b.length]
  split <;> split <;> first | omega | exact lexc_neg
theorem cmpS_lt {a b : Sim} : cmpS a b < 0 ↔ a.length < b.length ∨ a.length = b.length ∧ lexc a b < 0 := by
  unfold cmpS
  split
  · rename_i h
    rw [cmp3_lt]
    rw [Ne, cmp3_zero] at h
    omega
  · rename_i h
    rw [Classical.not_not, cmp3_zero] at h
    omega
theorem cmpS_trans {a b c : Sim} (h1 : cmpS a b < 0) (h2 : cmpS b c < 0) : cmpS a c < 0 := by
  rw [cmpS_lt] at *
  rcases h1 with h1 | ⟨h1, h1'⟩ <;> rcases h2 with h2 | ⟨h2, h2'⟩
  · left; omega
  · left; omega
  · left; omega
  · right; exact ⟨by omega, lexc_trans h1' h2'⟩

theorem isNaNi_ret (a : Int) : Ret E n_cmp_isNaN_int [dI a] ⟨o_cmp_isNaN_int, (false, ())⟩ := by
  refine ret_of ?_
  simp only [run_cmp_isNaN_int, cmp_isNaN_int.ev]
  exact ev_some (by simp)
theorem isNaN_ret (a : Int) : Ret E n_cmp_isNaN_int64 [dI a] ⟨o_cmp_isNaN_int64, (false, ())⟩ := by
  refine ret_of ?_
  simp only [run_cmp_isNaN_int64, cmp_isNaN_int64.ev]
  exact ev_some (by simp)

theorem Comparei_ret (a b : Int) : Ret E n_cmp_Compare_int [dI a, dI b] ⟨o_cmp_Compare_int, (cmp3 a b, ())⟩ := by
  refine ret_of ?_
  simp only [run_cmp_Compare_int, cmp_Compare_int.ev]
  refine ev_call (isNaNi_ret _) (ev_call (isNaNi_ret _) (ev_f rfl (ev_f rfl (ev_d (fun h => ev_some ?_) fun h => ev_d (fun h2 => ev_some ?_) fun h2 => ev_some ?_))))
  · rw [cmp3, if_pos h]
  · rw [cmp3, if_neg h, if_pos h2]
  · rw [cmp3, if_neg h, if_neg h2]
theorem Compare_ret (a b : Int) : Ret E n_cmp_Compare_int64 [dI a, dI b] ⟨o_cmp_Compare_int64, (cmp3 a b, ())⟩ := by
  refine ret_of ?_
  simp only [run_cmp_Compare_int64, cmp_Compare_int64.ev]
  refine ev_call (isNaN_ret _) (ev_call (isNaN_ret _) (ev_f rfl (ev_f rfl (ev_d (fun h => ev_some ?_) fun h => ev_d (fun h2 => ev_some ?_) fun h2 => ev_some ?_))))
  · rw [cmp3, if_pos h]
  · rw [cmp3, if_neg h, if_pos h2]
  · rw [cmp3, if_neg h, if_neg h2]

theorem lexc_step {a b : Sim} {k : Nat} (h : k < a.length) (h' : k < b.length) : lexc (a.drop k) (b.drop k) = if cmp3 a[k] b[k] ≠ 0 then cmp3 a[k] b[k] else lexc (a.drop (k + 1)) (b.drop (k + 1)) := by
  rw [List.drop_eq_getElem_cons h, List.drop_eq_getElem_cons h', lexc]
  unfold cmp3
  split
  · simp
  · split
    · simp
    · simp

theorem SliceCompare_ret (a b : Sim) (ha : Sm (.sl (.int .i64)) a) : Ret E n_slices_Compare_Sint64_int64 [dL a, dL b] ⟨o_slices_Compare_Sint64_int64, (lexc a b, ())⟩ := by
  have ha1 : a.length ≤ 1048576 := ha.1
  refine ret_of ?_
  simp only [run_slices_Compare_Sint64_int64, slices_Compare_Sint64_int64.ev]
  refine Ev.start (p := fun φ n => slices_Compare_Sint64_int64.l0 (mkR (run E (φ 0))) (φ 0) n a b a (a.length : Int) 0 = _) 1 ?_ (fun _ _ _ h => h)
  refine loopR 1 (σ := Nat) (L := fun φ n k => slices_Compare_Sint64_int64.l0 (mkR (run E (φ 0))) (φ 0) n a b a (a.length : Int) (k : Int)) (fun _ _ _ _ => rfl) (fun k => k ≤ a.length ∧ k ≤ b.length) (fun k => some ⟨o_slices_Compare_Sint64_int64, (lexc (a.drop k) (b.drop k), ())⟩) (fun k => a.length - k) (fun k ⟨hk, hkb⟩ ih => ?_) 0 ⟨Nat.zero_le _, Nat.zero_le _⟩
  simp only [slices_Compare_Sint64_int64.l0_succ _ mk_ok]
  refine ev_d (fun h => ?_) fun h => ?_
  · have hka : k < a.length := by omega
    refine ev_bind (idx_lt hka) (ev_d (fun h2 => ev_some ?_) fun h2 => ?_)
    · rw [List.drop_eq_getElem_cons hka, List.drop_of_length_le (l := b) (by omega), lexc]
    · have hkb : k < b.length := by omega
      refine ev_bind (idx_lt hkb) (ev_call (Compare_ret _ _) (ev_b (fun h3 => ev_some ?_) fun h3 => ?_))
      · rw [lexc_step hka hkb, if_pos (by simpa using h3)]
      · rw [w64_succ (by omega)]
        refine (ih (k + 1) ⟨by omega, by omega⟩ (by omega)).to ?_
        rw [lexc_step hka hkb, if_neg (by simpa using h3)]
  · have e : k = a.length := by omega
    subst e
    refine ev_d (fun h2 => ev_some ?_) fun h2 => ev_some ?_
    · rw [List.drop_of_length_le (l := a) (by omega), List.drop_eq_getElem_cons (l := b) (by omega), lexc]
    · rw [List.drop_of_length_le (l := a) (by omega), List.drop_of_length_le (l := b) (by omega), lexc]

theorem Or2_ret (a b : Int) : Ret E n_cmp_Or_int [dL [a, b]] ⟨o_cmp_Or_int, (if a ≠ 0 then a else b, ())⟩ := by
  refine ret_of ?_
  simp only [run_cmp_Or_int, cmp_Or_int.ev]
  refine Ev.start (p := fun φ n => cmp_Or_int.l0 (mkR (run E (φ 0))) (φ 0) n 0 [a, b] ([a, b].length : Int) 0 = _) 1 ?_ (fun _ _ _ h => h)
  refine Ev.round 1 (L := fun φ n => cmp_Or_int.l0 (mkR (run E (φ 0))) (φ 0) n 0 [a, b] ([a, b].length : Int) 0) ?_ (fun _ _ _ => rfl)
  simp only [cmp_Or_int.l0_succ _ mk_ok]
  refine ev_t (by simp) (ev_bind (x := a) rfl (ev_b (fun h => ev_some ?_) fun h => ?_))
  · rw [if_pos (by simpa using h)]
  · rw [if_neg (by simpa using h)]
    rw [show w64 ((0 : Int) + 1) = 1 by decide]
    refine Ev.round 1 (L := fun φ n => cmp_Or_int.l0 (mkR (run E (φ 0))) (φ 0) n 0 [a, b] ([a, b].length : Int) 1) ?_ (fun _ _ _ => rfl)
    simp only [cmp_Or_int.l0_succ _ mk_ok]
    refine ev_t (by simp) (ev_bind (x := b) rfl (ev_b (fun h => ev_rfl) fun h => ?_))
    rw [show w64 ((1 : Int) + 1) = 2 by decide]
    refine Ev.round 1 (L := fun φ n => cmp_Or_int.l0 (mkR (run E (φ 0))) (φ 0) n 0 [a, b] ([a, b].length : Int) 2) ?_ (fun _ _ _ => rfl)
    simp only [cmp_Or_int.l0_succ _ mk_ok]
    refine ev_f (by simp) (ev_some ?_)
    have : b = 0 := by simpa using h
    rw [this]

theorem compareSimplices_ret (a b : Sim) (ha : Sm (.sl (.int .i64)) a) : Ret E n_impl_compareSimplices [dL a, dL b] ⟨o_impl_compareSimplices, (cmpS a b, ())⟩ := by
  refine ret_of ?_
  simp only [run_impl_compareSimplices, impl_compareSimplices.ev]
  exact ev_call (Comparei_ret _ _) (ev_call (SliceCompare_ret a b ha) (ev_call (Or2_ret _ _) ev_rfl))

theorem l05Before_ret (a b : Sim) (ha : Sm (.sl (.int .i64)) a) : Ret E n_spec_l05Before [dL a, dL b] ⟨o_spec_l05Before, (pb (cmpS a b < 0), ())⟩ := by
  have ha1 : a.length ≤ 1048576 := ha.1
  refine ret_of ?_
  simp only [run_spec_l05Before, spec_l05Before.ev]
  refine ev_b (fun h => ev_some ?_) fun h => ?_
  · have h : (a.length : Int) ≠ b.length := by simpa using h
    rw [pb_dec, pb_congr (show (a.length : Int) < b.length ↔ cmpS a b < 0 by rw [cmpS_lt]; omega)]
  · have h : a.length = b.length := by have : (a.length : Int) = b.length := by simpa using h
                                       omega
    refine Ev.start (p := fun φ n => spec_l05Before.l0 (mkR (run E (φ 0))) (φ 0) n a b 0 = _) 1 ?_ (fun _ _ _ h => h)
    refine (loopR 1 (σ := Nat) (L := fun φ n k => spec_l05Before.l0 (mkR (run E (φ 0))) (φ 0) n a b (k : Int)) (fun _ _ _ _ => rfl) (fun k => k ≤ a.length) (fun k => some ⟨o_spec_l05Before, (pb (lexc (a.drop k) (b.drop k) < 0), ())⟩) (fun k => a.length - k) (fun k hk ih => ?_) 0 (Nat.zero_le _)).to ?_
    · simp only [spec_l05Before.l0_succ _ mk_ok]
      refine ev_d (fun h1 => ?_) fun h1 => ?_
      · have hka : k < a.length := by omega
        have hkb : k < b.length := by omega
        have e := lexc_step hka hkb
        refine ev_bind (idx_lt hka) (ev_bind (idx_lt hkb) (ev_b (fun h3 => ?_) fun h3 => ?_))
        · refine ev_bind (idx_lt hka) (ev_bind (idx_lt hkb) (ev_some ?_))
          have h3 : a[k] ≠ b[k] := by simpa using h3
          rw [if_pos (by rw [Ne, cmp3_zero]; exact h3)] at e
          rw [e, pb_dec, pb_congr cmp3_lt]
        · have h3 : a[k] = b[k] := by simpa using h3
          rw [if_neg (by rw [Classical.not_not, cmp3_zero]; exact h3)] at e
          rw [w64_succ (by omega), e]
          exact ih (k + 1) (by show k + 1 ≤ _; omega) (by show a.length - (k + 1) < _; omega)
      · refine ev_some ?_
        have hk : k ≤ a.length := hk
        have e : k = a.length := by omega
        subst e
        rw [List.drop_of_length_le (l := a) (by omega), List.drop_of_length_le (l := b) (by omega), lexc, pb_false (by omega)]
    · refine congrArg (fun b : Bool => some (⟨o_spec_l05Before, (b, ())⟩ : Dv)) (pb_congr ?_)
      simp only [List.drop_zero]; rw [cmpS_lt]; omega

end VeT

open Go Go.Proofs Ve
set_option linter.unusedVariables false
set_option linter.unusedSimpArgs false
namespace VeT

theorem getD_lt {α : Type} {s : List α} {k : Nat} {d : α} (h : k < s.length) : s.getD k d = s[k] := by simp [List.getD_eq_getElem?_getD, h]
theorem sm_get {t : Ty} {s : List t.T} (h : Sm (.sl t) s) {k : Nat} (hk : k < s.length) : Sm t s[k] := h.2 _ (List.getElem_mem hk)
theorem sm_ints {s : Sim} (h : s.length ≤ 1048576) : Sm (.sl (.int .i64)) s := ⟨h, fun _ _ => trivial⟩

theorem l00Own_ret (s : Sim) (hs : s.length ≤ 1048576) : Ret E n_spec_l00Own [dL s] ⟨o_spec_l00Own, (s, ())⟩ := by
  refine ret_of ?_
  simp only [run_spec_l00Own, spec_l00Own.ev]
  exact ev_chk (by simp; omega) (ev_some rfl)

theorem l05Drop_ret (s : Sim) (k : Nat) (hk : k < s.length) (hs : s.length ≤ 1048576) : Ret E n_spec_l05Drop [dL s, dI (k : Int)] ⟨o_spec_l05Drop, (s.eraseIdx k, ())⟩ := by
  refine ret_of ?_
  simp only [run_spec_l05Drop, spec_l05Drop.ev]
  rw [w64_succ (by omega)]
  simp only [Int.toNat_natCast]
  refine ev_chk (by simp; omega) (ev_call (l00Own_ret _ (by simp; omega)) (ev_chk (by simp; omega) (ev_chk (by simp; omega) (ev_some ?_))))
  rw [List.eraseIdx_eq_take_drop_succ]

theorem l00SameP_ret (a b : Sim) (ha : a.length ≤ 1048576) : Ret E n_spec_l00Same [dL a, dL b] ⟨o_spec_l00Same, (pb (a = b), ())⟩ := by
  refine ret_of ?_
  simp only [run_spec_l00Same, spec_l00Same.ev]
  refine ev_b (fun h => ev_some ?_) fun h => ?_
  · have h : (a.length : Int) ≠ b.length := by simpa using h
    rw [pb_false fun e => h (by rw [e])]
  · have h : (a.length : Int) = b.length := by simpa using h
    refine Ev.start (p := fun φ n => spec_l00Same.l0 (mkR (run E (φ 0))) (φ 0) n a b 0 = _) 1 ?_ (fun _ _ _ h => h)
    refine (all_pb 1 (L := fun φ n k => spec_l00Same.l0 (mkR (run E (φ 0))) (φ 0) n a b k) (len := a.length) 0 (by omega) (fun j => a.getD j 0 = b.getD j 0) (fun b => some ⟨o_spec_l00Same, (b, ())⟩) (fun _ _ _ _ => rfl) (fun k h1 h2 hP _ => ?_) (fun k r h1 h2 hP _ ih => ?_) (fun _ => ?_)).to ?_
    · simp only [spec_l00Same.l0_succ _ mk_ok]
      have hb : k < b.length := by omega
      rw [getD_lt h2, getD_lt hb] at hP
      exact ev_t (decide_eq_true (by omega)) (ev_bind (idx_lt h2) (ev_bind (idx_lt hb) (ev_t (by simpa using hP) ev_rfl)))
    · simp only [spec_l00Same.l0_succ _ mk_ok]
      have hb : k < b.length := by omega
      rw [getD_lt h2, getD_lt hb] at hP
      refine ev_t (decide_eq_true (by omega)) (ev_bind (idx_lt h2) (ev_bind (idx_lt hb) (ev_f (by simpa using hP) ?_)))
      rw [w64_succ (by omega)]; exact ih
    · simp only [spec_l00Same.l0_succ _ mk_ok]
      exact ev_f (decide_eq_false (by omega)) ev_rfl
    · refine congrArg (fun b : Bool => some (⟨o_spec_l00Same, (b, ())⟩ : Dv)) (pb_congr ⟨fun hh => List.ext_getElem (by omega) fun j h1 h2 => ?_, fun hh j _ _ => by rw [hh]⟩)
      have := hh j (by omega) h1
      rwa [getD_lt h1, getD_lt h2] at this

noncomputable def findI (c : List Sim) (s : Sim) : Int := idxf (fun x => pb (x = s)) c
theorem findI_nonneg {c : List Sim} {s : Sim} : 0 ≤ findI c s ↔ s ∈ c := by
  unfold findI
  rw [idxf_nonneg]
  simp only [pb_iff]
  exact ⟨fun ⟨x, h, e⟩ => e ▸ h, fun h => ⟨s, h, rfl⟩⟩

theorem l05Find_ret (c : Cpx) (s : Sim) (hc : Sm (.sl (.sl (.int .i64))) c.1) : Ret E n_spec_l05Find [dC c, dL s] ⟨o_spec_l05Find, (findI c.1 s, ())⟩ := by
  have hc1 : c.1.length ≤ 1048576 := hc.1
  obtain ⟨o, h1, h2, h3⟩ := find_loop 1 (L := fun φ n k => spec_l05Find.l0 (mkR (run E (φ 0))) (φ 0) n c s k) (len := c.1.length) (fun k => ∃ h : k < c.1.length, pb (c.1[k] = s) = true) (fun o => some ⟨o_spec_l05Find, (o2i o, ())⟩) (fun _ _ _ _ => rfl) (fun k hk hP => by
      obtain ⟨_, hP⟩ := hP
      simp only [spec_l05Find.l0_succ _ mk_ok]
      refine ev_t (decide_eq_true (by omega)) (ev_bind (idx_lt hk) (ev_call (l00SameP_ret _ _ (sm_get hc hk).1) (ev_t hP ev_rfl)))) (fun k q hk hP ih => by
      simp only [spec_l05Find.l0_succ _ mk_ok]
      refine ev_t (decide_eq_true (by omega)) (ev_bind (idx_lt hk) (ev_call (l00SameP_ret _ _ (sm_get hc hk).1) (ev_f (Bool.eq_false_iff.2 fun h => hP ⟨hk, h⟩) ?_)))
      rw [w64_succ (by omega)]; exact ih) (by
      simp only [spec_l05Find.l0_succ _ mk_ok]
      exact ev_f (decide_eq_false (by omega)) ev_rfl)
  rw [idxf_of (p := fun x => pb (x = s)) h1 h2] at h3
  refine ret_of ?_
  simp only [run_spec_l05Find, spec_l05Find.ev]
  exact Ev.start (p := fun φ n => spec_l05Find.l0 (mkR (run E (φ 0))) (φ 0) n c s 0 = _) 1 h3 (fun _ _ _ h => h)

/-! joining, faces -/
theorem run_Grow (n : Nat) (args : List Dv) : run E (n + 1) n_slices_Grow_Sint64_int64 args = pGrow (.int .i64) (mkR (run E n)) args := rfl

theorem Grow_ret (s : Sim) (n : Int) (h0 : 0 ≤ n) (h1 : n ≤ 1048576) (hs : s.length ≤ 1048576) : Ret E n_slices_Grow_Sint64_int64 [dL s, dI n] ⟨o_slices_Grow_Sint64_int64, (s, ())⟩ := by
  refine ret_of ?_
  simp only [run_Grow]
  refine ev_some ((if_pos (show 0 ≤ n ∧ ((List.length s : Int) + n) * (64 * (Ty.size (Ty.int IntKind.i64) : Int)) ≤ 70368744177664 from ⟨h0, ?_⟩)).trans rfl)
  have : (Ty.size (Ty.int IntKind.i64)) = 1 := rfl
  rw [this]; omega

theorem Concat_ret (ll : List Sim) (hl : ll.length ≤ 1048576) (hf : ll.flatten.length ≤ 1048576) : Ret E n_slices_Concat_Sint64_int64 [dLL ll] ⟨o_slices_Concat_Sint64_int64, (ll.flatten, ())⟩ := by
  have hle : ∀ k, (ll.take k).flatten.length ≤ ll.flatten.length := fun k => by
    have := congrArg List.length (congrArg List.flatten (List.take_append_drop k ll))
    rw [List.flatten_append, List.length_append] at this; omega
  have hst : ∀ k (h : k < ll.length), (ll.take (k + 1)).flatten = (ll.take k).flatten ++ ll[k] := fun k h => by
    rw [List.take_succ_eq_append_getElem h, List.flatten_append]; simp
  refine ret_of ?_
  simp only [run_slices_Concat_Sint64_int64, slices_Concat_Sint64_int64.ev]
  refine Ev.start (p := fun φ n => slices_Concat_Sint64_int64.l0 (mkR (run E (φ 0))) (φ 0) n ll 0 ll (ll.length : Int) 0 = _) 1 ?_ (fun _ _ _ h => h)
  refine fold_loop 1 (L := fun φ n k a => slices_Concat_Sint64_int64.l0 (mkR (run E (φ 0))) (φ 0) n ll a ll (ll.length : Int) k) (len := ll.length) (fun k => (((ll.take k).flatten.length : Nat) : Int)) (fun _ _ _ _ _ => rfl) (fun k r hk ih => ?_) ?_
  · simp only [slices_Concat_Sint64_int64.l0_succ _ mk_ok]
    have := hle (k + 1)
    have e := hst k hk
    have e2 : w64 (((ll.take k).flatten.length : Nat) + (List.length (ll[k]) : Int)) = (((ll.take (k + 1)).flatten.length : Nat) : Int) := by
      rw [w64_small (by omega) (by rw [e, List.length_append] at this; omega), e, List.length_append]; omega
    refine ev_t (decide_eq_true (by omega)) (ev_bind (idx_lt hk) ?_)
    show Ev fun φ => (bif decide (w64 (((ll.take k).flatten.length : Nat) + (List.length (ll[k]) : Int)) < 0) then none else slices_Concat_Sint64_int64.l0 (mkR (run E (φ 0))) (φ 0) (φ 1) ll (w64 (((ll.take k).flatten.length : Nat) + (List.length (ll[k]) : Int))) ll (ll.length : Int) (w64 ((k : Int) + 1))) = r
    rw [e2, w64_succ (by omega)]
    exact ev_f (decide_eq_false (by omega)) ih
  · simp only [slices_Concat_Sint64_int64.l0_succ _ mk_ok]
    refine ev_f (decide_eq_false (by omega)) (ev_call (Grow_ret [] _ (by omega) (by have := hle ll.length; omega) (by simp)) ?_)
    refine Ev.start (p := fun φ n => slices_Concat_Sint64_int64.l1 (mkR (run E (φ 0))) (φ 0) n ll (ll.length : Int) 0 [] = _) 2 ?_ (fun _ _ _ h => h)
    refine fold_loop 2 (L := fun φ n k a => slices_Concat_Sint64_int64.l1 (mkR (run E (φ 0))) (φ 0) n ll (ll.length : Int) k a) (len := ll.length) (fun k => (ll.take k).flatten) (fun _ _ _ _ _ => rfl) (fun k r hk ih => ?_) ?_
    · simp only [slices_Concat_Sint64_int64.l1_succ _ mk_ok]
      have := hle (k + 1)
      have e := hst k hk
      rw [e] at ih this
      rw [List.length_append] at this
      refine ev_t (decide_eq_true (by omega)) (ev_bind (idx_lt hk) (ev_chk (decide_eq_true (by show (_ + List.length ll[k]) * 8 ≤ _; omega)) ?_))
      rw [w64_succ (by omega)]
      exact ih
    · simp only [slices_Concat_Sint64_int64.l1_succ _ mk_ok]
      refine ev_f (decide_eq_false (by omega)) (ev_some ?_)
      rw [List.take_of_length_le (Nat.le_refl _)]

def faces (s : Sim) : List Sim := if 1 < s.length then (List.range s.length).map (s.eraseIdx ·) else []

theorem faces_mem {s f : Sim} : f ∈ faces s ↔ 1 < s.length ∧ ∃ i, i < s.length ∧ f = s.eraseIdx i := by
  unfold faces
  split
  · rename_i h
    simp only [List.mem_map, List.mem_range, h, true_and]
    exact ⟨fun ⟨i, h1, h2⟩ => ⟨i, h1, h2.symm⟩, fun ⟨i, h1, h2⟩ => ⟨i, h1, h2.symm⟩⟩
  · rename_i h
    simp [h]

theorem faces_len {s f : Sim} (h : f ∈ faces s) : f.length + 1 = s.length := by
  obtain ⟨h1, i, h2, rfl⟩ := faces_mem.1 h
  rw [List.length_eraseIdx, if_pos h2]; omega

theorem faces_length {s : Sim} : (faces s).length ≤ s.length := by
  unfold faces; split <;> simp

theorem facesOf_ret (s : Sim) (hs : s.length ≤ 1048576) : Ret E n_impl_facesOf [dL s] ⟨o_impl_facesOf, (faces s, ())⟩ := by
  refine ret_of ?_
  simp only [run_impl_facesOf, impl_facesOf.ev]
  refine Ev.start (p := fun φ n => impl_facesOf.l0 (mkR (run E (φ 0))) (φ 0) n s (s.length : Int) 0 [] = _) 1 ?_ (fun _ _ _ h => h)
  by_cases h1 : 1 < s.length
  · refine fold_loop 1 (L := fun φ n k a => impl_facesOf.l0 (mkR (run E (φ 0))) (φ 0) n s (s.length : Int) k a) (len := s.length) (fun k => (List.range k).map (s.eraseIdx ·)) (fun _ _ _ _ _ => rfl) (fun k r hk ih => ?_) ?_
    · simp only [impl_facesOf.l0_succ _ mk_ok]
      rw [List.range_succ, List.map_append] at ih
      rw [w64_succ (by omega)]
      simp only [Int.toNat_natCast]
      refine ev_t (decide_eq_true (by omega)) (ev_t (decide_eq_true (by omega)) (ev_chk (by simp; omega) (ev_chk (by simp; omega) (ev_call (Concat_ret _ (by simp) (by simp; omega)) (ev_chk (by simp; omega) ?_)))))
      rw [show [s.take k, s.drop (k + 1)].flatten = s.eraseIdx k by simp [List.eraseIdx_eq_take_drop_succ]]
      exact ih
    · simp only [impl_facesOf.l0_succ _ mk_ok]
      exact ev_f (decide_eq_false (by omega)) (ev_some (by rw [faces, if_pos h1]))
  · refine fold_loop 1 (L := fun φ n k a => impl_facesOf.l0 (mkR (run E (φ 0))) (φ 0) n s (s.length : Int) k a) (len := s.length) (fun k => []) (fun _ _ _ _ _ => rfl) (fun k r hk ih => ?_) ?_
    · simp only [impl_facesOf.l0_succ _ mk_ok]
      rw [w64_succ (by omega)]
      exact ev_t (decide_eq_true (by omega)) (ev_f (decide_eq_false (by omega)) ih)
    · simp only [impl_facesOf.l0_succ _ mk_ok]
      exact ev_f (decide_eq_false (by omega)) (ev_some (by rw [faces, if_neg h1]))

/-! searching -/
def Srt (c : List Sim) : Prop := ∀ i j (h : j < c.length) (hij : i < j), cmpS c[i] c[j] < 0

theorem srt_of {c : List Sim} (h : ∀ k, 1 ≤ k → k < c.length → cmpS (c.getD (k - 1) []) (c.getD k []) < 0) : Srt c := by
  intro i j
  induction j with
  | zero => intro _ h; omega
  | succ j ih =>
    intro hj hij
    have := h (j + 1) (by omega) hj
    rw [Nat.add_sub_cancel, getD_lt (by omega), getD_lt hj] at this
    by_cases e : i = j
    · subst e; exact this
    · exact cmpS_trans (ih (by omega) (by omega)) this

theorem Srt.take {c : List Sim} (h : Srt c) (k : Nat) : Srt (c.take k) := by
  intro i j hj hij
  rw [List.getElem_take, List.getElem_take]
  exact h i j (by rw [List.length_take] at hj; omega) hij

def bs (c : List Sim) (s : Sim) : Nat := c.findIdx (fun x => !decide (cmpS x s < 0))

theorem bs_le {c : List Sim} {s : Sim} : bs c s ≤ c.length := List.findIdx_le_length
theorem bs_lt {c : List Sim} {s : Sim} (hc : Srt c) {t : Nat} (h : t < c.length) : t < bs c s ↔ cmpS c[t] s < 0 := by
  constructor
  · intro ht
    have := List.not_of_lt_findIdx ht
    simpa using this
  · intro ht
    refine Classical.byContradiction fun hn => ?_
    have hb : bs c s < c.length := by omega
    have h1 : cmpS c[bs c s] s < 0 := by
      by_cases e : bs c s = t
      · simp only [e]; exact ht
      · exact cmpS_trans (hc _ _ h (by omega)) ht
    have := List.findIdx_getElem (w := hb)
    simp only [Bool.not_eq_true', decide_eq_false_iff_not] at this
    exact this h1

theorem bs_find {c : List Sim} {s : Sim} (hc : Srt c) : findI c s = if h : bs c s < c.length ∧ c.getD (bs c s) [] = s then (bs c s : Int) else -1 := by
  have e : c.findIdx? (fun x => pb (x = s)) = if bs c s < c.length ∧ c.getD (bs c s) [] = s then some (bs c s) else none := by
    split
    · rename_i h
      obtain ⟨h1, h2⟩ := h
      rw [List.findIdx?_eq_some_iff_getElem]
      rw [getD_lt h1] at h2
      refine ⟨h1, pb_true h2, fun j hj => ?_⟩
      rw [pb_iff]
      intro he
      have := (bs_lt (s := s) hc (show j < c.length by omega)).1 hj
      rw [he, cmpS_zero.2 rfl] at this
      omega
    · rename_i h
      rw [List.findIdx?_eq_none_iff]
      intro x hx
      rw [pb_not]
      rintro rfl
      obtain ⟨j, hj, rfl⟩ := List.mem_iff_getElem.1 hx
      have h0 : ¬ j < bs c c[j] := fun hlt => by
        have := (bs_lt hc hj).1 hlt
        rw [cmpS_zero.2 rfl] at this; omega
      by_cases hjb : bs c c[j] = j
      · exact h ⟨by omega, by rw [hjb, getD_lt hj]⟩
      · have hb : bs c c[j] < c.length := by omega
        have := (bs_lt (s := c[j]) hc hb).2 (hc _ _ hj (by omega))
        omega
  unfold findI idxf
  rw [e]
  split <;> rfl

theorem BinarySearch_ret (c : List Sim) (s : Sim) (hc : Sm (.sl (.sl (.int .i64))) c) (hs : Srt c) : Ret E n_slices_BinarySearchFunc_SSint64_Sint64_Sint64 [dLL c, dL s, ⟨.fn n_impl_compareSimplices .nil, ()⟩] ⟨o_slices_BinarySearchFunc_SSint64_Sint64_Sint64, ((bs c s : Int), pb (bs c s < c.length ∧ c.getD (bs c s) [] = s), ())⟩ := by
  have hc1 : c.length ≤ 1048576 := hc.1
  refine ret_of ?_
  simp only [run_slices_BinarySearchFunc_SSint64_Sint64_Sint64, slices_BinarySearchFunc_SSint64_Sint64_Sint64_impl_compareSimplices.ev]
  refine Ev.start (p := fun φ n => slices_BinarySearchFunc_SSint64_Sint64_Sint64_impl_compareSimplices.l0 (mkR (run E (φ 0))) (φ 0) n c s (c.length : Int) 0 (c.length : Int) = _) 1 ?_ (fun _ _ _ h => h)
  refine loopR 1 (σ := Nat × Nat) (L := fun φ n st => slices_BinarySearchFunc_SSint64_Sint64_Sint64_impl_compareSimplices.l0 (mkR (run E (φ 0))) (φ 0) n c s (c.length : Int) (st.1 : Int) (st.2 : Int)) (fun _ _ _ _ => rfl) (fun st => st.1 ≤ bs c s ∧ bs c s ≤ st.2 ∧ st.2 ≤ c.length) (fun _ => _) (fun st => st.2 - st.1) (fun st hi ih => ?_) (0, c.length) ⟨Nat.zero_le _, bs_le, Nat.le_refl _⟩
  obtain ⟨i, j⟩ := st
  obtain ⟨h1, h2, h3⟩ := hi
  simp only at h1 h2 h3 ih
  simp only [slices_BinarySearchFunc_SSint64_Sint64_Sint64_impl_compareSimplices.l0_succ _ mk_ok]
  rw [half (by omega)]
  refine ev_d (fun hij => ?_) fun hij => ?_
  · have hh : (i + j) / 2 < c.length := by omega
    refine ev_chk (by decide) (ev_bind (idx_lt hh) (ev_call (compareSimplices_ret _ _ (sm_get hc hh)) (ev_d (fun hlt => ?_) fun hlt => ?_)))
    · rw [w64_succ (by omega)]
      have := (bs_lt hs hh).2 hlt
      exact ih ((i + j) / 2 + 1, j) ⟨this, h2, h3⟩ (by simp only; omega)
    · have : ¬ (i + j) / 2 < bs c s := fun h => hlt ((bs_lt hs hh).1 h)
      exact ih (i, (i + j) / 2) ⟨h1, by simp only; omega, by simp only; omega⟩ (by simp only; omega)
  · have e : i = bs c s := by omega
    subst e
    refine ev_d (fun hl => ?_) fun hl => ev_some ?_
    · have hh : bs c s < c.length := by omega
      refine ev_bind (idx_lt hh) (ev_call (compareSimplices_ret _ _ (sm_get hc hh)) (ev_some ?_))
      have : (cmpS c[bs c s] s == 0) = pb (bs c s < c.length ∧ c.getD (bs c s) [] = s) := eq_pb (by
        rw [getD_lt hh, beq_iff_eq, cmpS_zero]; exact ⟨fun h => ⟨hh, h⟩, fun h => h.2⟩)
      rw [this]
    · rw [pb_false fun h => hl (by omega)]

theorem indexOf_ret (c : List Sim) (s : Sim) (hc : Sm (.sl (.sl (.int .i64))) c) (hs : Srt c) : Ret E n_impl_indexOf [dLL c, dL s] ⟨o_impl_indexOf, (findI c s, ())⟩ := by
  refine ret_of ?_
  simp only [run_impl_indexOf, impl_indexOf.ev]
  refine ev_call (BinarySearch_ret c s hc hs) (ev_b (fun h => ev_some ?_) fun h => ev_some ?_)
  · rw [bs_find hs, dif_neg (pb_not.1 (by simpa using h))]
  · rw [bs_find hs, dif_pos (pb_iff.1 (by simpa using h))]

end VeT
