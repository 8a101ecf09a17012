import Derived.Test.YtlaicaaelnaigaaGreatT3
import Derived.Test.YtlaicaaelnaigaaGreatV2
import Derived.Test.YtlaicaaelnaigaaGreatProg
import Derived.KernelRfl
import Derived.WalkKit
import Derived.Lib.Walk
import Derived.Lib.SliceRun
import Derived.Lib.AppendZerosOnto
set_option linter.unusedVariables false
set_option linter.unusedSimpArgs false
open Go Go.Proofs Ve
set_option linter.unusedVariables false
set_option maxRecDepth 100000
namespace VeT
/-! slices.IndexFunc[[]int64,int64] -/
noncomputable def slices_IndexFunc_Sint64_int64_impl_ValidSimplex_1.l0 (R : Run) (N : Nat) (n : Nat) (s_1 : (List Int)) (t7__2 : Int) (t8__3 : Int) : Option Dv := R.w (some ⟨(.c (.d yL s_1) :: (.c (.d (.fn n_impl_ValidSimplex_1 .nil) ()) :: (zd 5 (.c (.d yI t7__2) :: (.c (.d yI t8__3) :: (zd 10 [])))))), (zo 21 [])⟩) fun st => loopC (evCode E R pol_slices_IndexFunc_Sint64_int64 N (sub [1, 0, 1, 0, 0] (bodyOf F_slices_IndexFunc_Sint64_int64))) (maskAt R pol_slices_IndexFunc_Sint64_int64.loopM 2) n st (kBlk (maskAt R pol_slices_IndexFunc_Sint64_int64.blkM 0) 0 (kSeq (maskAt R pol_slices_IndexFunc_Sint64_int64.seqM 7) (evCode E R pol_slices_IndexFunc_Sint64_int64 N (sub [1, 1] (bodyOf F_slices_IndexFunc_Sint64_int64))) (kTop E sg_slices_IndexFunc_Sint64_int64 F_slices_IndexFunc_Sint64_int64)))
theorem slices_IndexFunc_Sint64_int64_impl_ValidSimplex_1.l0_succ (R : Run) (hw : R.ok) (N : Nat) (n : Nat) (s_1 : (List Int)) (t7__2 : Int) (t8__3 : Int) : slices_IndexFunc_Sint64_int64_impl_ValidSimplex_1.l0 R N (n + 1) s_1 t7__2 t8__3 = (bif (decide (t8__3 < t7__2)) then (Option.bind (idx? s_1 t8__3) fun y4 => (Option.bind (callT R n_impl_ValidSimplex_1 o_impl_ValidSimplex_1 [⟨yI, (y4, ()).1⟩]) fun r5 => (bif r5.1 then some ⟨o_slices_IndexFunc_Sint64_int64, (t8__3, ())⟩ else (slices_IndexFunc_Sint64_int64_impl_ValidSimplex_1.l0 R N n s_1 t7__2 (w64 (t8__3 + (1 : Int))))))) else some ⟨o_slices_IndexFunc_Sint64_int64, ((-1 : Int), ())⟩) := (hw _ _).trans (by kernel_rfl)
theorem slices_IndexFunc_Sint64_int64_impl_ValidSimplex_1.ev (R : Run) (N : Nat) (a0 : (List Int)) : evFn E R sg_slices_IndexFunc_Sint64_int64 pol_slices_IndexFunc_Sint64_int64 F_slices_IndexFunc_Sint64_int64 N [⟨yL, a0⟩, ⟨(.fn n_impl_ValidSimplex_1 .nil), ()⟩] = (slices_IndexFunc_Sint64_int64_impl_ValidSimplex_1.l0 R N N a0 (List.length a0 : Int) (0 : Int)) := by kernel_rfl
/-! slices.ContainsFunc[[]int64,int64] -/
theorem slices_ContainsFunc_Sint64_int64_impl_ValidSimplex_1.ev (R : Run) (N : Nat) (a0 : (List Int)) : evFn E R sg_slices_ContainsFunc_Sint64_int64 pol_slices_ContainsFunc_Sint64_int64 F_slices_ContainsFunc_Sint64_int64 N [⟨yL, a0⟩, ⟨(.fn n_impl_ValidSimplex_1 .nil), ()⟩] = (Option.bind (callT R n_slices_IndexFunc_Sint64_int64 o_slices_IndexFunc_Sint64_int64 [⟨yL, a0⟩, ⟨(.fn n_impl_ValidSimplex_1 .nil), ()⟩]) fun r1 => some ⟨o_slices_ContainsFunc_Sint64_int64, ((decide (r1.1 ≥ (0 : Int))), ())⟩) := by kernel_rfl
/-! loop.example/g01005/impl.ValidSimplex -/
theorem impl_ValidSimplex.ev (R : Run) (N : Nat) (a0 : (List Int)) : evFn E R sg_impl_ValidSimplex pol_impl_ValidSimplex F_impl_ValidSimplex N [⟨yL, a0⟩] = (bif (decide ((List.length a0 : Int) ≥ (1 : Int))) then (bif (decide ((List.length a0 : Int) ≤ (4 : Int))) then (Option.bind (callT R n_impl_isRising o_impl_isRising [⟨yL, a0⟩]) fun r1 => (bif r1.1 then (Option.bind (callT R n_slices_ContainsFunc_Sint64_int64 o_slices_ContainsFunc_Sint64_int64 [⟨yL, a0⟩, ⟨(.fn n_impl_ValidSimplex_1 .nil), ()⟩]) fun r2 => some ⟨o_impl_ValidSimplex, ((!r2.1), ())⟩) else some ⟨o_impl_ValidSimplex, (false, ())⟩)) else some ⟨o_impl_ValidSimplex, (false, ())⟩) else some ⟨o_impl_ValidSimplex, (false, ())⟩) := by kernel_rfl
/-! cmp.isNaN[int] -/
theorem cmp_isNaN_int.ev (R : Run) (N : Nat) (a0 : Int) : evFn E R sg_cmp_isNaN_int pol_cmp_isNaN_int F_cmp_isNaN_int N [⟨yI, a0⟩] = some ⟨o_cmp_isNaN_int, ((a0 != a0), ())⟩ := by kernel_rfl
/-! cmp.Compare[int] -/
theorem cmp_Compare_int.ev (R : Run) (N : Nat) (a0 : Int) (a1 : Int) : evFn E R sg_cmp_Compare_int pol_cmp_Compare_int F_cmp_Compare_int N [⟨yI, a0⟩, ⟨yI, a1⟩] = (Option.bind (callT R n_cmp_isNaN_int o_cmp_isNaN_int [⟨yI, a0⟩]) fun r1 => (Option.bind (callT R n_cmp_isNaN_int o_cmp_isNaN_int [⟨yI, a1⟩]) fun r2 => (bif r1.1 then (bif r2.1 then some ⟨o_cmp_Compare_int, ((0 : Int), ())⟩ else some ⟨o_cmp_Compare_int, ((-1 : Int), ())⟩) else (bif r2.1 then some ⟨o_cmp_Compare_int, ((1 : Int), ())⟩ else (bif (decide (a0 < a1)) then some ⟨o_cmp_Compare_int, ((-1 : Int), ())⟩ else (bif (decide (a0 > a1)) then some ⟨o_cmp_Compare_int, ((1 : Int), ())⟩ else some ⟨o_cmp_Compare_int, ((0 : Int), ())⟩)))))) := by kernel_rfl
/-! cmp.isNaN[int64] -/
theorem cmp_isNaN_int64.ev (R : Run) (N : Nat) (a0 : Int) : evFn E R sg_cmp_isNaN_int64 pol_cmp_isNaN_int64 F_cmp_isNaN_int64 N [⟨yI, a0⟩] = some ⟨o_cmp_isNaN_int64, ((a0 != a0), ())⟩ := by kernel_rfl
/-! cmp.Compare[int64] -/
theorem cmp_Compare_int64.ev (R : Run) (N : Nat) (a0 : Int) (a1 : Int) : evFn E R sg_cmp_Compare_int64 pol_cmp_Compare_int64 F_cmp_Compare_int64 N [⟨yI, a0⟩, ⟨yI, a1⟩] = (Option.bind (callT R n_cmp_isNaN_int64 o_cmp_isNaN_int64 [⟨yI, a0⟩]) fun r1 => (Option.bind (callT R n_cmp_isNaN_int64 o_cmp_isNaN_int64 [⟨yI, a1⟩]) fun r2 => (bif r1.1 then (bif r2.1 then some ⟨o_cmp_Compare_int64, ((0 : Int), ())⟩ else some ⟨o_cmp_Compare_int64, ((-1 : Int), ())⟩) else (bif r2.1 then some ⟨o_cmp_Compare_int64, ((1 : Int), ())⟩ else (bif (decide (a0 < a1)) then some ⟨o_cmp_Compare_int64, ((-1 : Int), ())⟩ else (bif (decide (a0 > a1)) then some ⟨o_cmp_Compare_int64, ((1 : Int), ())⟩ else some ⟨o_cmp_Compare_int64, ((0 : Int), ())⟩)))))) := by kernel_rfl
/-! slices.Compare[[]int64,int64] -/
noncomputable def slices_Compare_Sint64_int64.l0 (R : Run) (N : Nat) (n : Nat) (s1_1 : (List Int)) (s2_2 : (List Int)) (t9__3 : (List Int)) (t10__4 : Int) (t11__5 : Int) : Option Dv := R.w (some ⟨(.c (.d yL s1_1) :: (.c (.d yL s2_2) :: (zd 7 (.c (.d yL t9__3) :: (.c (.d yI t10__4) :: (.c (.d yI t11__5) :: (zd 24 []))))))), (zo 38 [])⟩) fun st => loopC (evCode E R pol_slices_Compare_Sint64_int64 N (sub [1, 0, 1, 0, 0] (bodyOf F_slices_Compare_Sint64_int64))) (maskAt R pol_slices_Compare_Sint64_int64.loopM 2) n st (kBlk (maskAt R pol_slices_Compare_Sint64_int64.blkM 0) 0 (kSeq (maskAt R pol_slices_Compare_Sint64_int64.seqM 11) (evCode E R pol_slices_Compare_Sint64_int64 N (sub [1, 1] (bodyOf F_slices_Compare_Sint64_int64))) (kTop E sg_slices_Compare_Sint64_int64 F_slices_Compare_Sint64_int64)))
theorem slices_Compare_Sint64_int64.l0_succ (R : Run) (hw : R.ok) (N : Nat) (n : Nat) (s1_1 : (List Int)) (s2_2 : (List Int)) (t9__3 : (List Int)) (t10__4 : Int) (t11__5 : Int) : slices_Compare_Sint64_int64.l0 R N (n + 1) s1_1 s2_2 t9__3 t10__4 t11__5 = (bif (decide (t11__5 < t10__4)) then (Option.bind (idx? t9__3 t11__5) fun y6 => (bif (decide (t11__5 ≥ (List.length s2_2 : Int))) then some ⟨o_slices_Compare_Sint64_int64, ((1 : Int), ())⟩ else (Option.bind (idx? s2_2 t11__5) fun y7 => (Option.bind (callT R n_cmp_Compare_int64 o_cmp_Compare_int64 [⟨yI, (y6, ()).1⟩, ⟨yI, (y7, ()).1⟩]) fun r8 => (bif (r8.1 != (0 : Int)) then some ⟨o_slices_Compare_Sint64_int64, (r8.1, ())⟩ else (slices_Compare_Sint64_int64.l0 R N n s1_1 s2_2 t9__3 t10__4 (w64 (t11__5 + (1 : Int))))))))) else (bif (decide ((List.length s1_1 : Int) < (List.length s2_2 : Int))) then some ⟨o_slices_Compare_Sint64_int64, ((-1 : Int), ())⟩ else some ⟨o_slices_Compare_Sint64_int64, ((0 : Int), ())⟩)) := (hw _ _).trans (by kernel_rfl)
theorem slices_Compare_Sint64_int64.ev (R : Run) (N : Nat) (a0 : (List Int)) (a1 : (List Int)) : evFn E R sg_slices_Compare_Sint64_int64 pol_slices_Compare_Sint64_int64 F_slices_Compare_Sint64_int64 N [⟨yL, a0⟩, ⟨yL, a1⟩] = (slices_Compare_Sint64_int64.l0 R N N a0 a1 a0 (List.length a0 : Int) (0 : Int)) := by kernel_rfl
/-! cmp.Or[int] -/
noncomputable def cmp_Or_int.l0 (R : Run) (N : Nat) (n : Nat) (zero_1 : Int) (t6__2 : (List Int)) (t7__3 : Int) (t8__4 : Int) : Option Dv := R.w (some ⟨(zd 3 (.c (.d yI zero_1) :: (V.dead :: (V.dead :: (.c (.d yL t6__2) :: (.c (.d yI t7__3) :: (.c (.d yI t8__4) :: (zd 9 [])))))))), (zo 19 [])⟩) fun st => loopC (evCode E R pol_cmp_Or_int N (sub [1, 1, 0, 1, 0, 0] (bodyOf F_cmp_Or_int))) (maskAt R pol_cmp_Or_int.loopM 3) n st (kBlk (maskAt R pol_cmp_Or_int.blkM 0) 0 (kSeq (maskAt R pol_cmp_Or_int.seqM 8) (evCode E R pol_cmp_Or_int N (sub [1, 1, 1] (bodyOf F_cmp_Or_int))) (kTop E sg_cmp_Or_int F_cmp_Or_int)))
theorem cmp_Or_int.l0_succ (R : Run) (hw : R.ok) (N : Nat) (n : Nat) (zero_1 : Int) (t6__2 : (List Int)) (t7__3 : Int) (t8__4 : Int) : cmp_Or_int.l0 R N (n + 1) zero_1 t6__2 t7__3 t8__4 = (bif (decide (t8__4 < t7__3)) then (Option.bind (idx? t6__2 t8__4) fun y5 => (bif ((y5, ()).1 != zero_1) then some ⟨o_cmp_Or_int, ((y5, ()).1, ())⟩ else (cmp_Or_int.l0 R N n zero_1 t6__2 t7__3 (w64 (t8__4 + (1 : Int)))))) else some ⟨o_cmp_Or_int, (zero_1, ())⟩) := (hw _ _).trans (by kernel_rfl)
theorem cmp_Or_int.ev (R : Run) (N : Nat) (a0 : (List Int)) : evFn E R sg_cmp_Or_int pol_cmp_Or_int F_cmp_Or_int N [⟨yL, a0⟩] = (cmp_Or_int.l0 R N N (0 : Int) a0 (List.length a0 : Int) (0 : Int)) := by kernel_rfl
/-! loop.example/g01005/impl.compareSimplices -/
theorem impl_compareSimplices.ev (R : Run) (N : Nat) (a0 : (List Int)) (a1 : (List Int)) : evFn E R sg_impl_compareSimplices pol_impl_compareSimplices F_impl_compareSimplices N [⟨yL, a0⟩, ⟨yL, a1⟩] = (Option.bind (callT R n_cmp_Compare_int o_cmp_Compare_int [⟨yI, (List.length a0 : Int)⟩, ⟨yI, (List.length a1 : Int)⟩]) fun r1 => (Option.bind (callT R n_slices_Compare_Sint64_int64 o_slices_Compare_Sint64_int64 [⟨yL, a0⟩, ⟨yL, a1⟩]) fun r2 => (Option.bind (callT R n_cmp_Or_int o_cmp_Or_int [⟨yL, [r1.1, r2.1]⟩]) fun r3 => some ⟨o_impl_compareSimplices, (r3.1, ())⟩))) := by kernel_rfl
/-! slices.Concat[[]int64,int64] -/
noncomputable def slices_Concat_Sint64_int64.l1 (R : Run) (N : Nat) (n : Nat) (t25__13 : vK) (t26__14 : Int) (t27__15 : Int) (o37_16 : (List Int)) : Option Dv := R.w (some ⟨(zd 6 (.c (.arr 37) :: (zd 18 (.c (.d yK t25__13) :: (.c (.d yI t26__14) :: (.c (.d yI t27__15) :: (zd 8 []))))))), (zo 37 (some (.arr yI o37_16 true false false) :: []))⟩) fun st => loopC (evCode E R pol_slices_Concat_Sint64_int64 N (sub [1, 1, 1, 1, 0, 1, 0, 0] (bodyOf F_slices_Concat_Sint64_int64))) (maskAt R pol_slices_Concat_Sint64_int64.loopM 11) n st (kBlk (maskAt R pol_slices_Concat_Sint64_int64.blkM 2) 2 (kSeq (maskAt R pol_slices_Concat_Sint64_int64.seqM 15) (evCode E R pol_slices_Concat_Sint64_int64 N (sub [1, 1, 1, 1, 1] (bodyOf F_slices_Concat_Sint64_int64))) (kTop E sg_slices_Concat_Sint64_int64 F_slices_Concat_Sint64_int64)))
noncomputable def slices_Concat_Sint64_int64.l0 (R : Run) (N : Nat) (n : Nat) (slices_1 : vK) (size_2 : Int) (t9__3 : vK) (t10__4 : Int) (t11__5 : Int) : Option Dv := R.w (some ⟨(.c (.d yK slices_1) :: (V.dead :: (V.dead :: (.c (.d yI size_2) :: (zd 5 (.c (.d yK t9__3) :: (.c (.d yI t10__4) :: (.c (.d yI t11__5) :: (zd 24 []))))))))), (zo 38 [])⟩) fun st => loopC (evCode E R pol_slices_Concat_Sint64_int64 N (sub [1, 1, 0, 1, 0, 0] (bodyOf F_slices_Concat_Sint64_int64))) (maskAt R pol_slices_Concat_Sint64_int64.loopM 3) n st (kBlk (maskAt R pol_slices_Concat_Sint64_int64.blkM 0) 0 (kSeq (maskAt R pol_slices_Concat_Sint64_int64.seqM 9) (evCode E R pol_slices_Concat_Sint64_int64 N (sub [1, 1, 1] (bodyOf F_slices_Concat_Sint64_int64))) (kTop E sg_slices_Concat_Sint64_int64 F_slices_Concat_Sint64_int64)))
theorem slices_Concat_Sint64_int64.l1_succ (R : Run) (hw : R.ok) (N : Nat) (n : Nat) (t25__13 : vK) (t26__14 : Int) (t27__15 : Int) (o37_16 : (List Int)) : slices_Concat_Sint64_int64.l1 R N (n + 1) t25__13 t26__14 t27__15 o37_16 = (bif (decide (t27__15 < t26__14)) then (Option.bind (idx? t25__13 t27__15) fun y17 => (Option.bind (chk (decide ((List.length o37_16 + List.length (y17, ()).1) * 8 ≤ 70368744177664))) fun _ => (slices_Concat_Sint64_int64.l1 R N n t25__13 t26__14 (w64 (t27__15 + (1 : Int))) (o37_16 ++ (y17, ()).1)))) else some ⟨o_slices_Concat_Sint64_int64, (o37_16, ())⟩) := (hw _ _).trans (by kernel_rfl)
theorem slices_Concat_Sint64_int64.l0_succ (R : Run) (hw : R.ok) (N : Nat) (n : Nat) (slices_1 : vK) (size_2 : Int) (t9__3 : vK) (t10__4 : Int) (t11__5 : Int) : slices_Concat_Sint64_int64.l0 R N (n + 1) slices_1 size_2 t9__3 t10__4 t11__5 = (bif (decide (t11__5 < t10__4)) then (Option.bind (idx? t9__3 t11__5) fun y6 => (bif (decide ((w64 (size_2 + (List.length (y6, ()).1 : Int))) < (0 : Int))) then none else (slices_Concat_Sint64_int64.l0 R N n slices_1 (w64 (size_2 + (List.length (y6, ()).1 : Int))) t9__3 t10__4 (w64 (t11__5 + (1 : Int)))))) else (Option.bind (callT R n_slices_Grow_Sint64_int64 o_slices_Grow_Sint64_int64 [⟨yL, ([] : List Int)⟩, ⟨yI, size_2⟩]) fun r12 => (slices_Concat_Sint64_int64.l1 R N N slices_1 (List.length slices_1 : Int) (0 : Int) r12.1))) := (hw _ _).trans (by kernel_rfl)
theorem slices_Concat_Sint64_int64.ev (R : Run) (N : Nat) (a0 : vK) : evFn E R sg_slices_Concat_Sint64_int64 pol_slices_Concat_Sint64_int64 F_slices_Concat_Sint64_int64 N [⟨yK, a0⟩] = (slices_Concat_Sint64_int64.l0 R N N a0 (0 : Int) a0 (List.length a0 : Int) (0 : Int)) := by kernel_rfl
/-! loop.example/g01005/impl.facesOf -/
noncomputable def impl_facesOf.l0 (R : Run) (N : Nat) (n : Nat) (s_1 : (List Int)) (t6__2 : Int) (t7__3 : Int) (o24_4 : vK) : Option Dv := R.w (some ⟨(.c (.d yL s_1) :: (V.dead :: (V.dead :: (.c (.arr 24) :: (V.dead :: (V.dead :: (.c (.d yI t6__2) :: (.c (.d yI t7__3) :: (zd 19 []))))))))), (zo 24 (some (.arr yL o24_4 true false false) :: (zo 4 [])))⟩) fun st => loopC (evCode E R pol_impl_facesOf N (sub [1, 1, 0, 1, 0, 0] (bodyOf F_impl_facesOf))) (maskAt R pol_impl_facesOf.loopM 3) n st (kBlk (maskAt R pol_impl_facesOf.blkM 0) 0 (kSeq (maskAt R pol_impl_facesOf.seqM 8) (evCode E R pol_impl_facesOf N (sub [1, 1, 1] (bodyOf F_impl_facesOf))) (kTop E sg_impl_facesOf F_impl_facesOf)))
theorem impl_facesOf.l0_succ (R : Run) (hw : R.ok) (N : Nat) (n : Nat) (s_1 : (List Int)) (t6__2 : Int) (t7__3 : Int) (o24_4 : vK) : impl_facesOf.l0 R N (n + 1) s_1 t6__2 t7__3 o24_4 = (bif (decide (t7__3 < t6__2)) then (bif (decide ((List.length s_1 : Int) > (1 : Int))) then (Option.bind (chk (decide (0 ≤ t7__3) && decide (t7__3 ≤ (List.length s_1 : Int)))) fun _ => (Option.bind (chk (decide (0 ≤ (w64 (t7__3 + (1 : Int)))) && decide ((w64 (t7__3 + (1 : Int))) ≤ (List.length s_1 : Int)))) fun _ => (Option.bind (callT R n_slices_Concat_Sint64_int64 o_slices_Concat_Sint64_int64 [⟨yK, [(List.take (Int.toNat t7__3) s_1), (List.drop (Int.toNat (w64 (t7__3 + (1 : Int)))) s_1)]⟩]) fun r5 => (Option.bind (chk (decide ((List.length o24_4 + List.length [r5.1]) * 24 ≤ 70368744177664))) fun _ => (impl_facesOf.l0 R N n s_1 t6__2 (w64 (t7__3 + (1 : Int))) (o24_4 ++ [r5.1])))))) else (impl_facesOf.l0 R N n s_1 t6__2 (w64 (t7__3 + (1 : Int))) o24_4)) else some ⟨o_impl_facesOf, (o24_4, ())⟩) := (hw _ _).trans (by kernel_rfl)
theorem impl_facesOf.ev (R : Run) (N : Nat) (a0 : (List Int)) : evFn E R sg_impl_facesOf pol_impl_facesOf F_impl_facesOf N [⟨yL, a0⟩] = (impl_facesOf.l0 R N N a0 (List.length a0 : Int) (0 : Int) ([] : List (List Int))) := by kernel_rfl
/-! slices.BinarySearchFunc[[][]int64,[]int64,[]int64] -/
noncomputable def slices_BinarySearchFunc_SSint64_Sint64_Sint64_impl_compareSimplices.l0 (R : Run) (N : Nat) (n : Nat) (x_1 : vK) (target_2 : (List Int)) (n_3 : Int) (i_4 : Int) (j_5 : Int) : Option Dv := R.w (some ⟨(.c (.d yK x_1) :: (.c (.d yL target_2) :: (.c (.d (.fn n_impl_compareSimplices .nil) ()) :: (zd 5 (.c (.d yI n_3) :: (.c (.d yI i_4) :: (.c (.d yI j_5) :: (zd 38 [])))))))), (zo 52 [])⟩) fun st => loopC (evCode E R pol_slices_BinarySearchFunc_SSint64_Sint64_Sint64 N (sub [1, 1, 1, 0, 0, 0] (bodyOf F_slices_BinarySearchFunc_SSint64_Sint64_Sint64))) (maskAt R pol_slices_BinarySearchFunc_SSint64_Sint64_Sint64.loopM 3) n st (kBlk (maskAt R pol_slices_BinarySearchFunc_SSint64_Sint64_Sint64.blkM 0) 0 (kSeq (maskAt R pol_slices_BinarySearchFunc_SSint64_Sint64_Sint64.seqM 8) (evCode E R pol_slices_BinarySearchFunc_SSint64_Sint64_Sint64 N (sub [1, 1, 1, 1] (bodyOf F_slices_BinarySearchFunc_SSint64_Sint64_Sint64))) (kTop E sg_slices_BinarySearchFunc_SSint64_Sint64_Sint64 F_slices_BinarySearchFunc_SSint64_Sint64_Sint64)))
theorem slices_BinarySearchFunc_SSint64_Sint64_Sint64_impl_compareSimplices.l0_succ (R : Run) (hw : R.ok) (N : Nat) (n : Nat) (x_1 : vK) (target_2 : (List Int)) (n_3 : Int) (i_4 : Int) (j_5 : Int) : slices_BinarySearchFunc_SSint64_Sint64_Sint64_impl_compareSimplices.l0 R N (n + 1) x_1 target_2 n_3 i_4 j_5 = (bif (decide (i_4 < j_5)) then (Option.bind (chk (decide (0 ≤ (1 : Int)))) fun _ => (Option.bind (idx? x_1 (w64 ((Int.fdiv (IntKind.wrap .u64 ((w64 (i_4 + j_5)))) (2 ^ (min (Int.toNat (1 : Int)) (IntKind.bits .u64))))))) fun y6 => (Option.bind (callT R n_impl_compareSimplices o_impl_compareSimplices [⟨yL, (y6, ()).1⟩, ⟨yL, target_2⟩]) fun r7 => (bif (decide (r7.1 < (0 : Int))) then (slices_BinarySearchFunc_SSint64_Sint64_Sint64_impl_compareSimplices.l0 R N n x_1 target_2 n_3 (w64 ((w64 ((Int.fdiv (IntKind.wrap .u64 ((w64 (i_4 + j_5)))) (2 ^ (min (Int.toNat (1 : Int)) (IntKind.bits .u64)))))) + (1 : Int))) j_5) else (slices_BinarySearchFunc_SSint64_Sint64_Sint64_impl_compareSimplices.l0 R N n x_1 target_2 n_3 i_4 (w64 ((Int.fdiv (IntKind.wrap .u64 ((w64 (i_4 + j_5)))) (2 ^ (min (Int.toNat (1 : Int)) (IntKind.bits .u64))))))))))) else (bif (decide (i_4 < n_3)) then (Option.bind (idx? x_1 i_4) fun y18 => (Option.bind (callT R n_impl_compareSimplices o_impl_compareSimplices [⟨yL, (y18, ()).1⟩, ⟨yL, target_2⟩]) fun r19 => some ⟨o_slices_BinarySearchFunc_SSint64_Sint64_Sint64, (i_4, (r19.1 == (0 : Int)), ())⟩)) else some ⟨o_slices_BinarySearchFunc_SSint64_Sint64_Sint64, (i_4, false, ())⟩)) := (hw _ _).trans (by kernel_rfl)
theorem slices_BinarySearchFunc_SSint64_Sint64_Sint64_impl_compareSimplices.ev (R : Run) (N : Nat) (a0 : vK) (a1 : (List Int)) : evFn E R sg_slices_BinarySearchFunc_SSint64_Sint64_Sint64 pol_slices_BinarySearchFunc_SSint64_Sint64_Sint64 F_slices_BinarySearchFunc_SSint64_Sint64_Sint64 N [⟨yK, a0⟩, ⟨yL, a1⟩, ⟨(.fn n_impl_compareSimplices .nil), ()⟩] = (slices_BinarySearchFunc_SSint64_Sint64_Sint64_impl_compareSimplices.l0 R N N a0 a1 (List.length a0 : Int) (0 : Int) (List.length a0 : Int)) := by kernel_rfl
/-! loop.example/g01005/impl.indexOf -/
theorem impl_indexOf.ev (R : Run) (N : Nat) (a0 : vK) (a1 : (List Int)) : evFn E R sg_impl_indexOf pol_impl_indexOf F_impl_indexOf N [⟨yK, a0⟩, ⟨yL, a1⟩] = (Option.bind (callT R n_slices_BinarySearchFunc_SSint64_Sint64_Sint64 o_slices_BinarySearchFunc_SSint64_Sint64_Sint64 [⟨yK, a0⟩, ⟨yL, a1⟩, ⟨(.fn n_impl_compareSimplices .nil), ()⟩]) fun r1 => (bif (!r1.2.1) then some ⟨o_impl_indexOf, ((-1 : Int), ())⟩ else some ⟨o_impl_indexOf, (r1.1, ())⟩)) := by kernel_rfl
/-! loop.example/g01005/impl.ValidComplex$1 -/
theorem impl_ValidComplex_1.ev (R : Run) (N : Nat) (a0 : (List Int)) (a1 : (vK × Unit)) (a2 : (Int × Unit)) : evFn E R sg_impl_ValidComplex_1 pol_impl_ValidComplex_1 F_impl_ValidComplex_1 N [⟨yL, a0⟩, ⟨(.ptr (.cons yK .nil)), a1⟩, ⟨(.ptr (.cons yI .nil)), a2⟩] = (Option.bind (chk (decide (0 ≤ a2.1) && decide (a2.1 ≤ (List.length a1.1 : Int)))) fun _ => (Option.bind (callT R n_impl_indexOf o_impl_indexOf [⟨yK, (List.take (Int.toNat a2.1) a1.1)⟩, ⟨yL, a0⟩]) fun r1 => some ⟨o_impl_ValidComplex_1, ((decide (r1.1 < (0 : Int))), ())⟩)) := by kernel_rfl
/-! slices.IndexFunc[[][]int64,[]int64] -/
noncomputable def slices_IndexFunc_SSint64_Sint64_impl_ValidComplex_1.l0 (R : Run) (N : Nat) (n : Nat) (s_1 : vK) (f_2 : ((vK × Unit) × (Int × Unit) × Unit)) (t7__3 : Int) (t8__4 : Int) : Option Dv := R.w (some ⟨(.c (.d yK s_1) :: (.c (.d (.fn n_impl_ValidComplex_1 (.cons (.ptr (.cons yK .nil)) (.cons (.ptr (.cons yI .nil)) .nil))) f_2) :: (zd 5 (.c (.d yI t7__3) :: (.c (.d yI t8__4) :: (zd 10 [])))))), (zo 21 [])⟩) fun st => loopC (evCode E R pol_slices_IndexFunc_SSint64_Sint64 N (sub [1, 0, 1, 0, 0] (bodyOf F_slices_IndexFunc_SSint64_Sint64))) (maskAt R pol_slices_IndexFunc_SSint64_Sint64.loopM 2) n st (kBlk (maskAt R pol_slices_IndexFunc_SSint64_Sint64.blkM 0) 0 (kSeq (maskAt R pol_slices_IndexFunc_SSint64_Sint64.seqM 7) (evCode E R pol_slices_IndexFunc_SSint64_Sint64 N (sub [1, 1] (bodyOf F_slices_IndexFunc_SSint64_Sint64))) (kTop E sg_slices_IndexFunc_SSint64_Sint64 F_slices_IndexFunc_SSint64_Sint64)))
theorem slices_IndexFunc_SSint64_Sint64_impl_ValidComplex_1.l0_succ (R : Run) (hw : R.ok) (N : Nat) (n : Nat) (s_1 : vK) (f_2 : ((vK × Unit) × (Int × Unit) × Unit)) (t7__3 : Int) (t8__4 : Int) : slices_IndexFunc_SSint64_Sint64_impl_ValidComplex_1.l0 R N (n + 1) s_1 f_2 t7__3 t8__4 = (bif (decide (t8__4 < t7__3)) then (Option.bind (idx? s_1 t8__4) fun y5 => (Option.bind (callT R n_impl_ValidComplex_1 o_impl_ValidComplex_1 [⟨yL, (y5, ()).1⟩, ⟨(.ptr (.cons yK .nil)), f_2.1⟩, ⟨(.ptr (.cons yI .nil)), f_2.2.1⟩]) fun r6 => (bif r6.1 then some ⟨o_slices_IndexFunc_SSint64_Sint64, (t8__4, ())⟩ else (slices_IndexFunc_SSint64_Sint64_impl_ValidComplex_1.l0 R N n s_1 f_2 t7__3 (w64 (t8__4 + (1 : Int))))))) else some ⟨o_slices_IndexFunc_SSint64_Sint64, ((-1 : Int), ())⟩) := (hw _ _).trans (by kernel_rfl)
theorem slices_IndexFunc_SSint64_Sint64_impl_ValidComplex_1.ev (R : Run) (N : Nat) (a0 : vK) (a1 : ((vK × Unit) × (Int × Unit) × Unit)) : evFn E R sg_slices_IndexFunc_SSint64_Sint64 pol_slices_IndexFunc_SSint64_Sint64 F_slices_IndexFunc_SSint64_Sint64 N [⟨yK, a0⟩, ⟨(.fn n_impl_ValidComplex_1 (.cons (.ptr (.cons yK .nil)) (.cons (.ptr (.cons yI .nil)) .nil))), a1⟩] = (slices_IndexFunc_SSint64_Sint64_impl_ValidComplex_1.l0 R N N a0 a1 (List.length a0 : Int) (0 : Int)) := by kernel_rfl
/-! slices.ContainsFunc[[][]int64,[]int64] -/
theorem slices_ContainsFunc_SSint64_Sint64_impl_ValidComplex_1.ev (R : Run) (N : Nat) (a0 : vK) (a1 : ((vK × Unit) × (Int × Unit) × Unit)) : evFn E R sg_slices_ContainsFunc_SSint64_Sint64 pol_slices_ContainsFunc_SSint64_Sint64 F_slices_ContainsFunc_SSint64_Sint64 N [⟨yK, a0⟩, ⟨(.fn n_impl_ValidComplex_1 (.cons (.ptr (.cons yK .nil)) (.cons (.ptr (.cons yI .nil)) .nil))), a1⟩] = (Option.bind (callT R n_slices_IndexFunc_SSint64_Sint64 o_slices_IndexFunc_SSint64_Sint64 [⟨yK, a0⟩, ⟨(.fn n_impl_ValidComplex_1 (.cons (.ptr (.cons yK .nil)) (.cons (.ptr (.cons yI .nil)) .nil))), a1⟩]) fun r1 => some ⟨o_slices_ContainsFunc_SSint64_Sint64, ((decide (r1.1 ≥ (0 : Int))), ())⟩) := by kernel_rfl
/-! loop.example/g01005/impl.ValidComplex -/
noncomputable def impl_ValidComplex.j1 (R : Run) (N : Nat) (n10100 : Nat) (s_7 : (List Int)) (t6__8 : vK) (t7__9 : Int) (t8__10 : Int) (t30__11 : Bool) (c_12 : vK) (k_13 : Int) : Option Dv := R.w (some ⟨(V.dead :: (.c (.box 1 0) :: (V.dead :: (.c (.box 3 0) :: (.c (.d yL s_7) :: (V.dead :: (.c (.d yK t6__8) :: (.c (.d yI t7__9) :: (.c (.d yI t8__10) :: (zd 21 (.c (.d .bool t30__11) :: (zd 9 [])))))))))))), (none :: (some (.box [.d yK c_12] true false) :: (none :: (some (.box [.d yI k_13] false false) :: (zo 37 [])))))⟩) fun st => evCode E R pol_impl_ValidComplex N (sub [1, 0, 1, 0, 0, 1, 1, 0, 0, 1, 0, 1] (bodyOf F_impl_ValidComplex)) st (kSeq (maskAt R pol_impl_ValidComplex.seqM 6) (evCode E R pol_impl_ValidComplex N (sub [1, 0, 1, 0, 0, 1, 1, 0, 0, 1, 1] (bodyOf F_impl_ValidComplex))) (kBlk (maskAt R pol_impl_ValidComplex.blkM 1) 1 (kSeq (maskAt R pol_impl_ValidComplex.seqM 8) (evCode E R pol_impl_ValidComplex N (sub [1, 0, 1, 0, 0, 1, 1, 1] (bodyOf F_impl_ValidComplex))) (kLoop (evCode E R pol_impl_ValidComplex N (sub [1, 0, 1, 0, 0] (bodyOf F_impl_ValidComplex))) (maskAt R pol_impl_ValidComplex.loopM 2) n10100 (kBlk (maskAt R pol_impl_ValidComplex.blkM 0) 0 (kSeq (maskAt R pol_impl_ValidComplex.seqM 9) (evCode E R pol_impl_ValidComplex N (sub [1, 1] (bodyOf F_impl_ValidComplex))) (kTop E sg_impl_ValidComplex F_impl_ValidComplex)))))))
noncomputable def impl_ValidComplex.l0 (R : Run) (N : Nat) (n : Nat) (t6__1 : vK) (t7__2 : Int) (t8__3 : Int) (c_4 : vK) : Option Dv := R.w (some ⟨(V.dead :: (.c (.box 1 0) :: (zd 4 (.c (.d yK t6__1) :: (.c (.d yI t7__2) :: (.c (.d yI t8__3) :: (zd 31 []))))))), (none :: (some (.box [.d yK c_4] true false) :: (zo 39 [])))⟩) fun st => loopC (evCode E R pol_impl_ValidComplex N (sub [1, 0, 1, 0, 0] (bodyOf F_impl_ValidComplex))) (maskAt R pol_impl_ValidComplex.loopM 2) n st (kBlk (maskAt R pol_impl_ValidComplex.blkM 0) 0 (kSeq (maskAt R pol_impl_ValidComplex.seqM 9) (evCode E R pol_impl_ValidComplex N (sub [1, 1] (bodyOf F_impl_ValidComplex))) (kTop E sg_impl_ValidComplex F_impl_ValidComplex)))
theorem impl_ValidComplex.j1_eq (R : Run) (hw : R.ok) (N : Nat) (n10100 : Nat) (s_7 : (List Int)) (t6__8 : vK) (t7__9 : Int) (t8__10 : Int) (t30__11 : Bool) (c_12 : vK) (k_13 : Int) : impl_ValidComplex.j1 R N n10100 s_7 t6__8 t7__9 t8__10 t30__11 c_12 k_13 = (bif t30__11 then some ⟨o_impl_ValidComplex, (false, ())⟩ else (Option.bind (callT R n_impl_facesOf o_impl_facesOf [⟨yL, s_7⟩]) fun r14 => (Option.bind (callT R n_slices_ContainsFunc_SSint64_Sint64 o_slices_ContainsFunc_SSint64_Sint64 [⟨yK, r14.1⟩, ⟨(.fn n_impl_ValidComplex_1 (.cons (.ptr (.cons yK .nil)) (.cons (.ptr (.cons yI .nil)) .nil))), ((c_12, ()), (k_13, ()), ())⟩]) fun r15 => (bif r15.1 then some ⟨o_impl_ValidComplex, (false, ())⟩ else (impl_ValidComplex.l0 R N n10100 t6__8 t7__9 (w64 (t8__10 + (1 : Int))) c_12))))) := (hw _ _).trans (by kernel_rfl)
theorem impl_ValidComplex.l0_succ (R : Run) (hw : R.ok) (N : Nat) (n : Nat) (t6__1 : vK) (t7__2 : Int) (t8__3 : Int) (c_4 : vK) : impl_ValidComplex.l0 R N (n + 1) t6__1 t7__2 t8__3 c_4 = (bif (decide (t8__3 < t7__2)) then (Option.bind (idx? t6__1 t8__3) fun y5 => (Option.bind (callT R n_impl_ValidSimplex o_impl_ValidSimplex [⟨yL, (y5, ()).1⟩]) fun r6 => (bif (!r6.1) then (impl_ValidComplex.j1 R N n ((y5, ()).1) t6__1 t7__2 t8__3 true c_4 t8__3) else (bif (decide (t8__3 > (0 : Int))) then (Option.bind (idx? c_4 (w64 (t8__3 - (1 : Int)))) fun y20 => (Option.bind (callT R n_impl_compareSimplices o_impl_compareSimplices [⟨yL, (y20, ()).1⟩, ⟨yL, (y5, ()).1⟩]) fun r21 => (impl_ValidComplex.j1 R N n ((y5, ()).1) t6__1 t7__2 t8__3 (decide (r21.1 ≥ (0 : Int))) c_4 t8__3))) else (impl_ValidComplex.j1 R N n ((y5, ()).1) t6__1 t7__2 t8__3 false c_4 t8__3))))) else some ⟨o_impl_ValidComplex, ((decide ((List.length c_4 : Int) ≤ (48 : Int))), ())⟩) := (hw _ _).trans (by kernel_rfl)
theorem impl_ValidComplex.ev (R : Run) (N : Nat) (a0 : vK) : evFn E R sg_impl_ValidComplex pol_impl_ValidComplex F_impl_ValidComplex N [⟨yK, a0⟩] = (impl_ValidComplex.l0 R N N a0 (List.length a0 : Int) (0 : Int) a0) := by kernel_rfl
/-! loop.example/g01005/impl.ValidPrime -/
noncomputable def impl_ValidPrime.l0 (R : Run) (N : Nat) (n : Nat) (p_2 : Int) (d_3 : Int) : Option Dv := R.w (some ⟨(.c (.d yI p_2) :: (V.dead :: (V.dead :: (.c (.d yI d_3) :: (zd 14 []))))), (zo 19 [])⟩) fun st => loopC (evCode E R pol_impl_ValidPrime N (sub [1, 1, 0, 1, 0, 0] (bodyOf F_impl_ValidPrime))) (maskAt R pol_impl_ValidPrime.loopM 4) n st (kBlk (maskAt R pol_impl_ValidPrime.blkM 0) 0 (kSeq (maskAt R pol_impl_ValidPrime.seqM 8) (evCode E R pol_impl_ValidPrime N (sub [1, 1, 1] (bodyOf F_impl_ValidPrime))) (kTop E sg_impl_ValidPrime F_impl_ValidPrime)))
theorem impl_ValidPrime.l0_succ (R : Run) (hw : R.ok) (N : Nat) (n : Nat) (p_2 : Int) (d_3 : Int) : impl_ValidPrime.l0 R N (n + 1) p_2 d_3 = (bif (decide ((w64 (d_3 * d_3)) ≤ p_2)) then (Option.bind (chk (d_3 != 0)) fun _ => (bif ((Int.tmod p_2 d_3) == (0 : Int)) then some ⟨o_impl_ValidPrime, (false, ())⟩ else (impl_ValidPrime.l0 R N n p_2 (w64 (d_3 + (1 : Int)))))) else some ⟨o_impl_ValidPrime, (true, ())⟩) := (hw _ _).trans (by kernel_rfl)
theorem impl_ValidPrime.ev (R : Run) (N : Nat) (a0 : Int) : evFn E R sg_impl_ValidPrime pol_impl_ValidPrime F_impl_ValidPrime N [⟨yI, a0⟩] = (Option.bind (callT R n_impl_within o_impl_within [⟨yI, a0⟩, ⟨yI, (2 : Int)⟩, ⟨yI, (251 : Int)⟩]) fun r1 => (bif (!r1.1) then some ⟨o_impl_ValidPrime, (false, ())⟩ else (impl_ValidPrime.l0 R N N a0 (2 : Int)))) := by kernel_rfl
/-! loop.example/g01005/impl.size[[]int64] -/
theorem impl_size_Sint64.ev (R : Run) (N : Nat) (a0 : vK) : evFn E R sg_impl_size_Sint64 pol_impl_size_Sint64 F_impl_size_Sint64 N [⟨yK, a0⟩] = some ⟨o_impl_size_Sint64, ((List.length a0 : Int), ())⟩ := by kernel_rfl
/-! loop.example/g01005/impl.faceIndices -/
noncomputable def impl_faceIndices.l0 (R : Run) (N : Nat) (n : Nat) (t13__3 : vK) (t14__4 : Int) (t15__5 : Int) (c_6 : vK) (o24_7 : (List Int)) : Option Dv := R.w (some ⟨(V.dead :: (V.dead :: (.c (.box 2 0) :: (V.dead :: (V.dead :: (.c (.arr 24) :: (zd 7 (.c (.d yK t13__3) :: (.c (.d yI t14__4) :: (.c (.d yI t15__5) :: (zd 11 []))))))))))), (none :: (none :: (some (.box [.d yK c_6] false false) :: (zo 21 (some (.arr yI o24_7 true false false) :: (zo 4 []))))))⟩) fun st => loopC (evCode E R pol_impl_faceIndices N (sub [1, 1, 0, 1, 0, 0] (bodyOf F_impl_faceIndices))) (maskAt R pol_impl_faceIndices.loopM 3) n st (kBlk (maskAt R pol_impl_faceIndices.blkM 0) 0 (kSeq (maskAt R pol_impl_faceIndices.seqM 7) (evCode E R pol_impl_faceIndices N (sub [1, 1, 1] (bodyOf F_impl_faceIndices))) (kTop E sg_impl_faceIndices F_impl_faceIndices)))
theorem impl_faceIndices.l0_succ (R : Run) (hw : R.ok) (N : Nat) (n : Nat) (t13__3 : vK) (t14__4 : Int) (t15__5 : Int) (c_6 : vK) (o24_7 : (List Int)) : impl_faceIndices.l0 R N (n + 1) t13__3 t14__4 t15__5 c_6 o24_7 = (bif (decide (t15__5 < t14__4)) then (Option.bind (idx? t13__3 t15__5) fun y8 => (Option.bind (callT R n_impl_indexOf o_impl_indexOf [⟨yK, c_6⟩, ⟨yL, (y8, ()).1⟩]) fun r9 => (Option.bind (chk (decide ((List.length o24_7 + List.length [r9.1]) * 8 ≤ 70368744177664))) fun _ => (impl_faceIndices.l0 R N n t13__3 t14__4 (w64 (t15__5 + (1 : Int))) c_6 (o24_7 ++ [r9.1]))))) else some ⟨o_impl_faceIndices, (o24_7, ())⟩) := (hw _ _).trans (by kernel_rfl)
theorem impl_faceIndices.ev (R : Run) (N : Nat) (a0 : vK) (a1 : Int) : evFn E R sg_impl_faceIndices pol_impl_faceIndices F_impl_faceIndices N [⟨yK, a0⟩, ⟨yI, a1⟩] = (Option.bind (idx? a0 a1) fun y1 => (Option.bind (callT R n_impl_facesOf o_impl_facesOf [⟨yL, (y1, ()).1⟩]) fun r2 => (impl_faceIndices.l0 R N N r2.1 (List.length r2.1 : Int) (0 : Int) a0 ([] : List Int)))) := by kernel_rfl
/-! loop.example/g01005/impl.arrows -/
noncomputable def impl_arrows.l1 (R : Run) (N : Nat) (n110100 : Nat) (n : Nat) (k_7 : Int) (t9__8 : Int) (t10__9 : Int) (t15__10 : (List Int)) (t16__11 : Int) (t17__12 : Int) (c_13 : vK) (o28_14 : (List (Int × Int × Int × Unit))) : Option Dv := R.w (some ⟨(V.dead :: (.c (.box 1 0) :: (V.dead :: (.c (.arr 28) :: (.c (.d yI k_7) :: (zd 4 (.c (.d yI t9__8) :: (.c (.d yI t10__9) :: (zd 4 (.c (.d yL t15__10) :: (.c (.d yI t16__11) :: (.c (.d yI t17__12) :: (zd 14 []))))))))))))), (none :: (some (.box [.d yK c_13] false false) :: (zo 26 (some (.arr (.st (.cons yI (.cons yI (.cons yI .nil)))) o28_14 true false false) :: (zo 4 [])))))⟩) fun st => loopC (evCode E R pol_impl_arrows N (sub [1, 1, 0, 1, 0, 0, 1, 1, 0, 0, 1, 1, 0, 0] (bodyOf F_impl_arrows))) (maskAt R pol_impl_arrows.loopM 6) n st (kBlk (maskAt R pol_impl_arrows.blkM 2) 2 (kBlk (maskAt R pol_impl_arrows.blkM 1) 1 (kSeq (maskAt R pol_impl_arrows.seqM 10) (evCode E R pol_impl_arrows N (sub [1, 1, 0, 1, 0, 0, 1, 1, 1] (bodyOf F_impl_arrows))) (kLoop (evCode E R pol_impl_arrows N (sub [1, 1, 0, 1, 0, 0] (bodyOf F_impl_arrows))) (maskAt R pol_impl_arrows.loopM 3) n110100 (kBlk (maskAt R pol_impl_arrows.blkM 0) 0 (kSeq (maskAt R pol_impl_arrows.seqM 11) (evCode E R pol_impl_arrows N (sub [1, 1, 1] (bodyOf F_impl_arrows))) (kTop E sg_impl_arrows F_impl_arrows)))))))
noncomputable def impl_arrows.l0 (R : Run) (N : Nat) (n : Nat) (t9__2 : Int) (t10__3 : Int) (c_4 : vK) (o28_5 : (List (Int × Int × Int × Unit))) : Option Dv := R.w (some ⟨(V.dead :: (.c (.box 1 0) :: (V.dead :: (.c (.arr 28) :: (zd 5 (.c (.d yI t9__2) :: (.c (.d yI t10__3) :: (zd 21 [])))))))), (none :: (some (.box [.d yK c_4] false false) :: (zo 26 (some (.arr (.st (.cons yI (.cons yI (.cons yI .nil)))) o28_5 true false false) :: (zo 4 [])))))⟩) fun st => loopC (evCode E R pol_impl_arrows N (sub [1, 1, 0, 1, 0, 0] (bodyOf F_impl_arrows))) (maskAt R pol_impl_arrows.loopM 3) n st (kBlk (maskAt R pol_impl_arrows.blkM 0) 0 (kSeq (maskAt R pol_impl_arrows.seqM 11) (evCode E R pol_impl_arrows N (sub [1, 1, 1] (bodyOf F_impl_arrows))) (kTop E sg_impl_arrows F_impl_arrows)))
theorem impl_arrows.l1_succ (R : Run) (hw : R.ok) (N : Nat) (n110100 : Nat) (n : Nat) (k_7 : Int) (t9__8 : Int) (t10__9 : Int) (t15__10 : (List Int)) (t16__11 : Int) (t17__12 : Int) (c_13 : vK) (o28_14 : (List (Int × Int × Int × Unit))) : impl_arrows.l1 R N n110100 (n + 1) k_7 t9__8 t10__9 t15__10 t16__11 t17__12 c_13 o28_14 = (bif (decide (t17__12 < t16__11)) then (Option.bind (idx? t15__10 t17__12) fun y15 => (Option.bind (chk (decide ((List.length o28_14 + List.length [(k_7, t17__12, (y15, ()).1, ())]) * 24 ≤ 70368744177664))) fun _ => (impl_arrows.l1 R N n110100 n k_7 t9__8 t10__9 t15__10 t16__11 (w64 (t17__12 + (1 : Int))) c_13 (o28_14 ++ [(k_7, t17__12, (y15, ()).1, ())])))) else (impl_arrows.l0 R N n110100 t9__8 (w64 (t10__9 + (1 : Int))) c_13 o28_14)) := (hw _ _).trans (by kernel_rfl)
theorem impl_arrows.l0_succ (R : Run) (hw : R.ok) (N : Nat) (n : Nat) (t9__2 : Int) (t10__3 : Int) (c_4 : vK) (o28_5 : (List (Int × Int × Int × Unit))) : impl_arrows.l0 R N (n + 1) t9__2 t10__3 c_4 o28_5 = (bif (decide (t10__3 < t9__2)) then (Option.bind (callT R n_impl_faceIndices o_impl_faceIndices [⟨yK, c_4⟩, ⟨yI, t10__3⟩]) fun r6 => (impl_arrows.l1 R N n N t10__3 t9__2 t10__3 r6.1 (List.length r6.1 : Int) (0 : Int) c_4 o28_5)) else some ⟨o_impl_arrows, (o28_5, ())⟩) := (hw _ _).trans (by kernel_rfl)
theorem impl_arrows.ev (R : Run) (N : Nat) (a0 : vK) : evFn E R sg_impl_arrows pol_impl_arrows F_impl_arrows N [⟨yK, a0⟩] = (Option.bind (callT R n_impl_size_Sint64 o_impl_size_Sint64 [⟨yK, a0⟩]) fun r1 => (impl_arrows.l0 R N N r1.1 (0 : Int) a0 ([] : List (Int × Int × Int × Unit)))) := by kernel_rfl
/-! loop.example/g01005/impl.isSide -/
theorem impl_isSide.ev (R : Run) (N : Nat) (a0 : Int) : evFn E R sg_impl_isSide pol_impl_isSide F_impl_isSide N [⟨yI, a0⟩] = (Option.bind (callT R n_impl_within o_impl_within [⟨yI, a0⟩, ⟨yI, (0 : Int)⟩, ⟨yI, (32 : Int)⟩]) fun r1 => some ⟨o_impl_isSide, (r1.1, ())⟩) := by kernel_rfl
/-! loop.example/g01005/impl.size[int64] -/
theorem impl_size_int64.ev (R : Run) (N : Nat) (a0 : (List Int)) : evFn E R sg_impl_size_int64 pol_impl_size_int64 F_impl_size_int64 N [⟨yL, a0⟩] = some ⟨o_impl_size_int64, ((List.length a0 : Int), ())⟩ := by kernel_rfl
/-! loop.example/g01005/impl.isElement -/
theorem impl_isElement.ev (R : Run) (N : Nat) (a0 : Int) (a1 : Int) : evFn E R sg_impl_isElement pol_impl_isElement F_impl_isElement N [⟨yI, a0⟩, ⟨yI, a1⟩] = (Option.bind (callT R n_impl_within o_impl_within [⟨yI, a0⟩, ⟨yI, (0 : Int)⟩, ⟨yI, (w64 (a1 - (1 : Int)))⟩]) fun r1 => some ⟨o_impl_isElement, (r1.1, ())⟩) := by kernel_rfl
/-! loop.example/g01005/impl.areElements$1 -/
theorem impl_areElements_1.ev (R : Run) (N : Nat) (a0 : Int) (a1 : (Int × Unit)) : evFn E R sg_impl_areElements_1 pol_impl_areElements_1 F_impl_areElements_1 N [⟨yI, a0⟩, ⟨(.ptr (.cons yI .nil)), a1⟩] = (Option.bind (callT R n_impl_isElement o_impl_isElement [⟨yI, a0⟩, ⟨yI, a1.1⟩]) fun r1 => some ⟨o_impl_areElements_1, ((!r1.1), ())⟩) := by kernel_rfl
/-! slices.IndexFunc[[]int64,int64] -/
noncomputable def slices_IndexFunc_Sint64_int64_impl_areElements_1.l0 (R : Run) (N : Nat) (n : Nat) (s_1 : (List Int)) (f_2 : ((Int × Unit) × Unit)) (t7__3 : Int) (t8__4 : Int) : Option Dv := R.w (some ⟨(.c (.d yL s_1) :: (.c (.d (.fn n_impl_areElements_1 (.cons (.ptr (.cons yI .nil)) .nil)) f_2) :: (zd 5 (.c (.d yI t7__3) :: (.c (.d yI t8__4) :: (zd 10 [])))))), (zo 21 [])⟩) fun st => loopC (evCode E R pol_slices_IndexFunc_Sint64_int64 N (sub [1, 0, 1, 0, 0] (bodyOf F_slices_IndexFunc_Sint64_int64))) (maskAt R pol_slices_IndexFunc_Sint64_int64.loopM 2) n st (kBlk (maskAt R pol_slices_IndexFunc_Sint64_int64.blkM 0) 0 (kSeq (maskAt R pol_slices_IndexFunc_Sint64_int64.seqM 7) (evCode E R pol_slices_IndexFunc_Sint64_int64 N (sub [1, 1] (bodyOf F_slices_IndexFunc_Sint64_int64))) (kTop E sg_slices_IndexFunc_Sint64_int64 F_slices_IndexFunc_Sint64_int64)))
theorem slices_IndexFunc_Sint64_int64_impl_areElements_1.l0_succ (R : Run) (hw : R.ok) (N : Nat) (n : Nat) (s_1 : (List Int)) (f_2 : ((Int × Unit) × Unit)) (t7__3 : Int) (t8__4 : Int) : slices_IndexFunc_Sint64_int64_impl_areElements_1.l0 R N (n + 1) s_1 f_2 t7__3 t8__4 = (bif (decide (t8__4 < t7__3)) then (Option.bind (idx? s_1 t8__4) fun y5 => (Option.bind (callT R n_impl_areElements_1 o_impl_areElements_1 [⟨yI, (y5, ()).1⟩, ⟨(.ptr (.cons yI .nil)), f_2.1⟩]) fun r6 => (bif r6.1 then some ⟨o_slices_IndexFunc_Sint64_int64, (t8__4, ())⟩ else (slices_IndexFunc_Sint64_int64_impl_areElements_1.l0 R N n s_1 f_2 t7__3 (w64 (t8__4 + (1 : Int))))))) else some ⟨o_slices_IndexFunc_Sint64_int64, ((-1 : Int), ())⟩) := (hw _ _).trans (by kernel_rfl)
theorem slices_IndexFunc_Sint64_int64_impl_areElements_1.ev (R : Run) (N : Nat) (a0 : (List Int)) (a1 : ((Int × Unit) × Unit)) : evFn E R sg_slices_IndexFunc_Sint64_int64 pol_slices_IndexFunc_Sint64_int64 F_slices_IndexFunc_Sint64_int64 N [⟨yL, a0⟩, ⟨(.fn n_impl_areElements_1 (.cons (.ptr (.cons yI .nil)) .nil)), a1⟩] = (slices_IndexFunc_Sint64_int64_impl_areElements_1.l0 R N N a0 a1 (List.length a0 : Int) (0 : Int)) := by kernel_rfl
/-! slices.ContainsFunc[[]int64,int64] -/
theorem slices_ContainsFunc_Sint64_int64_impl_areElements_1.ev (R : Run) (N : Nat) (a0 : (List Int)) (a1 : ((Int × Unit) × Unit)) : evFn E R sg_slices_ContainsFunc_Sint64_int64 pol_slices_ContainsFunc_Sint64_int64 F_slices_ContainsFunc_Sint64_int64 N [⟨yL, a0⟩, ⟨(.fn n_impl_areElements_1 (.cons (.ptr (.cons yI .nil)) .nil)), a1⟩] = (Option.bind (callT R n_slices_IndexFunc_Sint64_int64 o_slices_IndexFunc_Sint64_int64 [⟨yL, a0⟩, ⟨(.fn n_impl_areElements_1 (.cons (.ptr (.cons yI .nil)) .nil)), a1⟩]) fun r1 => some ⟨o_slices_ContainsFunc_Sint64_int64, ((decide (r1.1 ≥ (0 : Int))), ())⟩) := by kernel_rfl
/-! loop.example/g01005/impl.areElements -/
theorem impl_areElements.ev (R : Run) (N : Nat) (a0 : (List Int)) (a1 : Int) : evFn E R sg_impl_areElements pol_impl_areElements F_impl_areElements N [⟨yL, a0⟩, ⟨yI, a1⟩] = (Option.bind (callT R n_slices_ContainsFunc_Sint64_int64 o_slices_ContainsFunc_Sint64_int64 [⟨yL, a0⟩, ⟨(.fn n_impl_areElements_1 (.cons (.ptr (.cons yI .nil)) .nil)), ((a1, ()), ())⟩]) fun r1 => some ⟨o_impl_areElements, ((!r1.1), ())⟩) := by kernel_rfl
/-! loop.example/g01005/impl.ValidMatrix -/
theorem impl_ValidMatrix.ev (R : Run) (N : Nat) (a0 : Int) (a1 : Int) (a2 : Int) (a3 : (List Int)) : evFn E R sg_impl_ValidMatrix pol_impl_ValidMatrix F_impl_ValidMatrix N [⟨yI, a0⟩, ⟨yI, a1⟩, ⟨yI, a2⟩, ⟨yL, a3⟩] = (Option.bind (callT R n_impl_ValidPrime o_impl_ValidPrime [⟨yI, a0⟩]) fun r1 => (bif r1.1 then (Option.bind (callT R n_impl_isSide o_impl_isSide [⟨yI, a1⟩]) fun r2 => (bif r2.1 then (Option.bind (callT R n_impl_isSide o_impl_isSide [⟨yI, a2⟩]) fun r3 => (bif r3.1 then (Option.bind (callT R n_impl_size_int64 o_impl_size_int64 [⟨yL, a3⟩]) fun r4 => (bif (r4.1 == (w64 (a1 * a2))) then (Option.bind (callT R n_impl_areElements o_impl_areElements [⟨yL, a3⟩, ⟨yI, a0⟩]) fun r5 => some ⟨o_impl_ValidMatrix, (r5.1, ())⟩) else some ⟨o_impl_ValidMatrix, (false, ())⟩)) else some ⟨o_impl_ValidMatrix, (false, ())⟩)) else some ⟨o_impl_ValidMatrix, (false, ())⟩)) else some ⟨o_impl_ValidMatrix, (false, ())⟩)) := by kernel_rfl
/-! loop.example/g01005/impl.isBetween -/
theorem impl_isBetween.ev (R : Run) (N : Nat) (a0 : Int) (a1 : Int) (a2 : Int) (a3 : (List Int)) (a4 : Int) (a5 : Int) (a6 : Int) : evFn E R sg_impl_isBetween pol_impl_isBetween F_impl_isBetween N [⟨yI, a0⟩, ⟨yI, a1⟩, ⟨yI, a2⟩, ⟨yL, a3⟩, ⟨yI, a4⟩, ⟨yI, a5⟩, ⟨yI, a6⟩] = (Option.bind (callT R n_impl_ValidMatrix o_impl_ValidMatrix [⟨yI, a0⟩, ⟨yI, a1⟩, ⟨yI, a2⟩, ⟨yL, a3⟩]) fun r1 => (bif r1.1 then (bif (a0 == a4) then (bif (a1 == a6) then some ⟨o_impl_isBetween, ((a2 == a5), ())⟩ else some ⟨o_impl_isBetween, (false, ())⟩) else some ⟨o_impl_isBetween, (false, ())⟩) else some ⟨o_impl_isBetween, (false, ())⟩)) := by kernel_rfl
/-! loop.example/g01005/impl.areStalks$1 -/
theorem impl_areStalks_1.ev (R : Run) (N : Nat) (a0 : Int) : evFn E R sg_impl_areStalks_1 pol_impl_areStalks_1 F_impl_areStalks_1 N [⟨yI, a0⟩] = (Option.bind (callT R n_impl_within o_impl_within [⟨yI, a0⟩, ⟨yI, (0 : Int)⟩, ⟨yI, (3 : Int)⟩]) fun r1 => some ⟨o_impl_areStalks_1, ((!r1.1), ())⟩) := by kernel_rfl
/-! slices.IndexFunc[[]int64,int64] -/
noncomputable def slices_IndexFunc_Sint64_int64_impl_areStalks_1.l0 (R : Run) (N : Nat) (n : Nat) (s_1 : (List Int)) (t7__2 : Int) (t8__3 : Int) : Option Dv := R.w (some ⟨(.c (.d yL s_1) :: (.c (.d (.fn n_impl_areStalks_1 .nil) ()) :: (zd 5 (.c (.d yI t7__2) :: (.c (.d yI t8__3) :: (zd 10 [])))))), (zo 21 [])⟩) fun st => loopC (evCode E R pol_slices_IndexFunc_Sint64_int64 N (sub [1, 0, 1, 0, 0] (bodyOf F_slices_IndexFunc_Sint64_int64))) (maskAt R pol_slices_IndexFunc_Sint64_int64.loopM 2) n st (kBlk (maskAt R pol_slices_IndexFunc_Sint64_int64.blkM 0) 0 (kSeq (maskAt R pol_slices_IndexFunc_Sint64_int64.seqM 7) (evCode E R pol_slices_IndexFunc_Sint64_int64 N (sub [1, 1] (bodyOf F_slices_IndexFunc_Sint64_int64))) (kTop E sg_slices_IndexFunc_Sint64_int64 F_slices_IndexFunc_Sint64_int64)))
theorem slices_IndexFunc_Sint64_int64_impl_areStalks_1.l0_succ (R : Run) (hw : R.ok) (N : Nat) (n : Nat) (s_1 : (List Int)) (t7__2 : Int) (t8__3 : Int) : slices_IndexFunc_Sint64_int64_impl_areStalks_1.l0 R N (n + 1) s_1 t7__2 t8__3 = (bif (decide (t8__3 < t7__2)) then (Option.bind (idx? s_1 t8__3) fun y4 => (Option.bind (callT R n_impl_areStalks_1 o_impl_areStalks_1 [⟨yI, (y4, ()).1⟩]) fun r5 => (bif r5.1 then some ⟨o_slices_IndexFunc_Sint64_int64, (t8__3, ())⟩ else (slices_IndexFunc_Sint64_int64_impl_areStalks_1.l0 R N n s_1 t7__2 (w64 (t8__3 + (1 : Int))))))) else some ⟨o_slices_IndexFunc_Sint64_int64, ((-1 : Int), ())⟩) := (hw _ _).trans (by kernel_rfl)
theorem slices_IndexFunc_Sint64_int64_impl_areStalks_1.ev (R : Run) (N : Nat) (a0 : (List Int)) : evFn E R sg_slices_IndexFunc_Sint64_int64 pol_slices_IndexFunc_Sint64_int64 F_slices_IndexFunc_Sint64_int64 N [⟨yL, a0⟩, ⟨(.fn n_impl_areStalks_1 .nil), ()⟩] = (slices_IndexFunc_Sint64_int64_impl_areStalks_1.l0 R N N a0 (List.length a0 : Int) (0 : Int)) := by kernel_rfl
/-! slices.ContainsFunc[[]int64,int64] -/
theorem slices_ContainsFunc_Sint64_int64_impl_areStalks_1.ev (R : Run) (N : Nat) (a0 : (List Int)) : evFn E R sg_slices_ContainsFunc_Sint64_int64 pol_slices_ContainsFunc_Sint64_int64 F_slices_ContainsFunc_Sint64_int64 N [⟨yL, a0⟩, ⟨(.fn n_impl_areStalks_1 .nil), ()⟩] = (Option.bind (callT R n_slices_IndexFunc_Sint64_int64 o_slices_IndexFunc_Sint64_int64 [⟨yL, a0⟩, ⟨(.fn n_impl_areStalks_1 .nil), ()⟩]) fun r1 => some ⟨o_slices_ContainsFunc_Sint64_int64, ((decide (r1.1 ≥ (0 : Int))), ())⟩) := by kernel_rfl
/-! loop.example/g01005/impl.simplicesOf -/
noncomputable def impl_simplicesOf.l0 (R : Run) (N : Nat) (n : Nat) (dimension_1 : Int) (t9__2 : vK) (t10__3 : Int) (t11__4 : Int) (o24_5 : (List Int)) : Option Dv := R.w (some ⟨(V.dead :: (.c (.d yI dimension_1) :: (zd 3 (.c (.arr 24) :: (zd 3 (.c (.d yK t9__2) :: (.c (.d yI t10__3) :: (.c (.d yI t11__4) :: (zd 15 []))))))))), (zo 24 (some (.arr yI o24_5 true false false) :: (zo 4 [])))⟩) fun st => loopC (evCode E R pol_impl_simplicesOf N (sub [1, 1, 0, 1, 0, 0] (bodyOf F_impl_simplicesOf))) (maskAt R pol_impl_simplicesOf.loopM 3) n st (kBlk (maskAt R pol_impl_simplicesOf.blkM 0) 0 (kSeq (maskAt R pol_impl_simplicesOf.seqM 8) (evCode E R pol_impl_simplicesOf N (sub [1, 1, 1] (bodyOf F_impl_simplicesOf))) (kTop E sg_impl_simplicesOf F_impl_simplicesOf)))
theorem impl_simplicesOf.l0_succ (R : Run) (hw : R.ok) (N : Nat) (n : Nat) (dimension_1 : Int) (t9__2 : vK) (t10__3 : Int) (t11__4 : Int) (o24_5 : (List Int)) : impl_simplicesOf.l0 R N (n + 1) dimension_1 t9__2 t10__3 t11__4 o24_5 = (bif (decide (t11__4 < t10__3)) then (Option.bind (idx? t9__2 t11__4) fun y6 => (Option.bind (callT R n_impl_size_int64 o_impl_size_int64 [⟨yL, (y6, ()).1⟩]) fun r7 => (bif (r7.1 == (w64 (dimension_1 + (1 : Int)))) then (Option.bind (chk (decide ((List.length o24_5 + List.length [t11__4]) * 8 ≤ 70368744177664))) fun _ => (impl_simplicesOf.l0 R N n dimension_1 t9__2 t10__3 (w64 (t11__4 + (1 : Int))) (o24_5 ++ [t11__4]))) else (impl_simplicesOf.l0 R N n dimension_1 t9__2 t10__3 (w64 (t11__4 + (1 : Int))) o24_5)))) else some ⟨o_impl_simplicesOf, (o24_5, ())⟩) := (hw _ _).trans (by kernel_rfl)
theorem impl_simplicesOf.ev (R : Run) (N : Nat) (a0 : vK) (a1 : Int) : evFn E R sg_impl_simplicesOf pol_impl_simplicesOf F_impl_simplicesOf N [⟨yK, a0⟩, ⟨yI, a1⟩] = (impl_simplicesOf.l0 R N N a1 a0 (List.length a0 : Int) (0 : Int) ([] : List Int)) := by kernel_rfl
/-! loop.example/g01005/impl.stalkSum -/
noncomputable def impl_stalkSum.l0 (R : Run) (N : Nat) (n : Nat) (sum_2 : Int) (t11__3 : (List Int)) (t12__4 : Int) (t13__5 : Int) (s_6 : vK) (s_7 : Int) (s_8 : (List Int)) (s_9 : vN) : Option Dv := R.w (some ⟨(V.dead :: (V.dead :: (.c (.box 2 0) :: (V.dead :: (V.dead :: (.c (.d yI sum_2) :: (zd 5 (.c (.d yL t11__3) :: (.c (.d yI t12__4) :: (.c (.d yI t13__5) :: (zd 12 []))))))))))), (none :: (none :: (some (.box [.d yK s_6, .d yI s_7, .d yL s_8, .d yN s_9] false false) :: (zo 28 []))))⟩) fun st => loopC (evCode E R pol_impl_stalkSum N (sub [1, 1, 0, 1, 0, 0] (bodyOf F_impl_stalkSum))) (maskAt R pol_impl_stalkSum.loopM 3) n st (kBlk (maskAt R pol_impl_stalkSum.blkM 0) 0 (kSeq (maskAt R pol_impl_stalkSum.seqM 7) (evCode E R pol_impl_stalkSum N (sub [1, 1, 1] (bodyOf F_impl_stalkSum))) (kTop E sg_impl_stalkSum F_impl_stalkSum)))
theorem impl_stalkSum.l0_succ (R : Run) (hw : R.ok) (N : Nat) (n : Nat) (sum_2 : Int) (t11__3 : (List Int)) (t12__4 : Int) (t13__5 : Int) (s_6 : vK) (s_7 : Int) (s_8 : (List Int)) (s_9 : vN) : impl_stalkSum.l0 R N (n + 1) sum_2 t11__3 t12__4 t13__5 s_6 s_7 s_8 s_9 = (bif (decide (t13__5 < t12__4)) then (Option.bind (idx? t11__3 t13__5) fun y10 => (Option.bind (idx? s_8 (y10, ()).1) fun y11 => (impl_stalkSum.l0 R N n (w64 (sum_2 + (y11, ()).1)) t11__3 t12__4 (w64 (t13__5 + (1 : Int))) s_6 s_7 s_8 s_9))) else some ⟨o_impl_stalkSum, (sum_2, ())⟩) := (hw _ _).trans (by kernel_rfl)
theorem impl_stalkSum.ev (R : Run) (N : Nat) (a0 : vK) (a1 : Int) (a2 : (List Int)) (a3 : vN) (a4 : Int) : evFn E R sg_impl_stalkSum pol_impl_stalkSum F_impl_stalkSum N [⟨yK, a0⟩, ⟨yI, a1⟩, ⟨yL, a2⟩, ⟨yN, a3⟩, ⟨yI, a4⟩] = (Option.bind (callT R n_impl_simplicesOf o_impl_simplicesOf [⟨yK, a0⟩, ⟨yI, a4⟩]) fun r1 => (impl_stalkSum.l0 R N N (0 : Int) r1.1 (List.length r1.1 : Int) (0 : Int) a0 a1 a2 a3)) := by kernel_rfl
/-! loop.example/g01005/impl.areStalks -/
noncomputable def impl_areStalks.l1 (R : Run) (N : Nat) (n : Nat) (stalks_4 : (List Int)) (t16__5 : Int) (c_6 : vK) : Option Dv := R.w (some ⟨(V.dead :: (.c (.d yL stalks_4) :: (.c (.box 2 0) :: (zd 13 (.c (.d yI t16__5) :: (zd 9 [])))))), (none :: (none :: (some (.box [.d yK c_6] false false) :: (zo 25 []))))⟩) fun st => loopC (evCode E R pol_impl_areStalks N (sub [1, 1, 0, 1, 0, 0] (bodyOf F_impl_areStalks))) (maskAt R pol_impl_areStalks.loopM 4) n st (kBlk (maskAt R pol_impl_areStalks.blkM 0) 0 (kSeq (maskAt R pol_impl_areStalks.seqM 9) (evCode E R pol_impl_areStalks N (sub [1, 1, 1] (bodyOf F_impl_areStalks))) (kTop E sg_impl_areStalks F_impl_areStalks)))
noncomputable def impl_areStalks.j0 (R : Run) (N : Nat) (stalks_1 : (List Int)) (t15__2 : Bool) (c_3 : vK) : Option Dv := R.w (some ⟨(V.dead :: (.c (.d yL stalks_1) :: (.c (.box 2 0) :: (zd 12 (.c (.d .bool t15__2) :: (zd 10 [])))))), (none :: (none :: (some (.box [.d yK c_3] false false) :: (zo 25 []))))⟩) fun st => evCode E R pol_impl_areStalks N (sub [1, 0, 1] (bodyOf F_impl_areStalks)) st (kSeq (maskAt R pol_impl_areStalks.seqM 3) (evCode E R pol_impl_areStalks N (sub [1, 1] (bodyOf F_impl_areStalks))) (kTop E sg_impl_areStalks F_impl_areStalks))
theorem impl_areStalks.l1_succ (R : Run) (hw : R.ok) (N : Nat) (n : Nat) (stalks_4 : (List Int)) (t16__5 : Int) (c_6 : vK) : impl_areStalks.l1 R N (n + 1) stalks_4 t16__5 c_6 = (bif (decide (t16__5 < (4 : Int))) then (Option.bind (callT R n_impl_stalkSum o_impl_stalkSum [⟨yK, c_6⟩, ⟨yI, (0 : Int)⟩, ⟨yL, stalks_4⟩, ⟨yN, ([] : List vM)⟩, ⟨yI, t16__5⟩]) fun r7 => (bif (decide (r7.1 > (32 : Int))) then some ⟨o_impl_areStalks, (false, ())⟩ else (impl_areStalks.l1 R N n stalks_4 (w64 (t16__5 + (1 : Int))) c_6))) else some ⟨o_impl_areStalks, (true, ())⟩) := (hw _ _).trans (by kernel_rfl)
theorem impl_areStalks.j0_eq (R : Run) (hw : R.ok) (N : Nat) (stalks_1 : (List Int)) (t15__2 : Bool) (c_3 : vK) : impl_areStalks.j0 R N stalks_1 t15__2 c_3 = (bif t15__2 then some ⟨o_impl_areStalks, (false, ())⟩ else (impl_areStalks.l1 R N N stalks_1 (0 : Int) c_3)) := (hw _ _).trans (by kernel_rfl)
theorem impl_areStalks.ev (R : Run) (N : Nat) (a0 : vK) (a1 : (List Int)) : evFn E R sg_impl_areStalks pol_impl_areStalks F_impl_areStalks N [⟨yK, a0⟩, ⟨yL, a1⟩] = (bif ((List.length a1 : Int) != (List.length a0 : Int)) then (impl_areStalks.j0 R N a1 true a0) else (Option.bind (callT R n_slices_ContainsFunc_Sint64_int64 o_slices_ContainsFunc_Sint64_int64 [⟨yL, a1⟩, ⟨(.fn n_impl_areStalks_1 .nil), ()⟩]) fun r11 => (impl_areStalks.j0 R N a1 r11.1 a0))) := by kernel_rfl
/-! loop.example/g01005/impl.ValidSheaf -/
noncomputable def impl_ValidSheaf.j2 (R : Run) (N : Nat) (n1110100 : Nat) (t3__17 : (List (Int × Int × Int × Unit))) (t27__18 : (List (Int × Int × Int × Unit))) (t28__19 : Int) (t29__20 : Int) (t61__21 : Bool) (o1_22 : vK) (o1_23 : Int) (o1_24 : (List Int)) (o1_25 : vN) : Option Dv := R.w (some ⟨(V.dead :: (.c (.box 1 0) :: (V.dead :: (.c (.d (.sl (.st (.cons yI (.cons yI (.cons yI .nil))))) t3__17) :: (zd 23 (.c (.d (.sl (.st (.cons yI (.cons yI (.cons yI .nil))))) t27__18) :: (.c (.d yI t28__19) :: (.c (.d yI t29__20) :: (zd 31 (.c (.d .bool t61__21) :: (zd 7 []))))))))))), (none :: (some (.box [.d yK o1_22, .d yI o1_23, .d yL o1_24, .d yN o1_25] false false) :: (zo 71 [])))⟩) fun st => evCode E R pol_impl_ValidSheaf N (sub [1, 1, 1, 0, 1, 0, 0, 1, 1, 0, 0, 1, 1] (bodyOf F_impl_ValidSheaf)) st (kBlk (maskAt R pol_impl_ValidSheaf.blkM 1) 1 (kSeq (maskAt R pol_impl_ValidSheaf.seqM 9) (evCode E R pol_impl_ValidSheaf N (sub [1, 1, 1, 0, 1, 0, 0, 1, 1, 1] (bodyOf F_impl_ValidSheaf))) (kLoop (evCode E R pol_impl_ValidSheaf N (sub [1, 1, 1, 0, 1, 0, 0] (bodyOf F_impl_ValidSheaf))) (maskAt R pol_impl_ValidSheaf.loopM 5) n1110100 (kBlk (maskAt R pol_impl_ValidSheaf.blkM 0) 0 (kSeq (maskAt R pol_impl_ValidSheaf.seqM 10) (evCode E R pol_impl_ValidSheaf N (sub [1, 1, 1, 1] (bodyOf F_impl_ValidSheaf))) (kTop E sg_impl_ValidSheaf F_impl_ValidSheaf))))))
noncomputable def impl_ValidSheaf.l1 (R : Run) (N : Nat) (n : Nat) (t3__8 : (List (Int × Int × Int × Unit))) (t27__9 : (List (Int × Int × Int × Unit))) (t28__10 : Int) (t29__11 : Int) (o1_12 : vK) (o1_13 : Int) (o1_14 : (List Int)) (o1_15 : vN) : Option Dv := R.w (some ⟨(V.dead :: (.c (.box 1 0) :: (V.dead :: (.c (.d (.sl (.st (.cons yI (.cons yI (.cons yI .nil))))) t3__8) :: (zd 23 (.c (.d (.sl (.st (.cons yI (.cons yI (.cons yI .nil))))) t27__9) :: (.c (.d yI t28__10) :: (.c (.d yI t29__11) :: (zd 39 []))))))))), (none :: (some (.box [.d yK o1_12, .d yI o1_13, .d yL o1_14, .d yN o1_15] false false) :: (zo 71 [])))⟩) fun st => loopC (evCode E R pol_impl_ValidSheaf N (sub [1, 1, 1, 0, 1, 0, 0] (bodyOf F_impl_ValidSheaf))) (maskAt R pol_impl_ValidSheaf.loopM 5) n st (kBlk (maskAt R pol_impl_ValidSheaf.blkM 0) 0 (kSeq (maskAt R pol_impl_ValidSheaf.seqM 10) (evCode E R pol_impl_ValidSheaf N (sub [1, 1, 1, 1] (bodyOf F_impl_ValidSheaf))) (kTop E sg_impl_ValidSheaf F_impl_ValidSheaf)))
noncomputable def impl_ValidSheaf.j0 (R : Run) (N : Nat) (t23__2 : Bool) (o1_3 : vK) (o1_4 : Int) (o1_5 : (List Int)) (o1_6 : vN) : Option Dv := R.w (some ⟨(V.dead :: (.c (.box 1 0) :: (zd 21 (.c (.d .bool t23__2) :: (zd 45 []))))), (none :: (some (.box [.d yK o1_3, .d yI o1_4, .d yL o1_5, .d yN o1_6] false false) :: (zo 71 [])))⟩) fun st => evCode E R pol_impl_ValidSheaf N (sub [1, 0, 1] (bodyOf F_impl_ValidSheaf)) st (kSeq (maskAt R pol_impl_ValidSheaf.seqM 3) (evCode E R pol_impl_ValidSheaf N (sub [1, 1] (bodyOf F_impl_ValidSheaf))) (kTop E sg_impl_ValidSheaf F_impl_ValidSheaf))
theorem impl_ValidSheaf.j2_eq (R : Run) (hw : R.ok) (N : Nat) (n1110100 : Nat) (t3__17 : (List (Int × Int × Int × Unit))) (t27__18 : (List (Int × Int × Int × Unit))) (t28__19 : Int) (t29__20 : Int) (t61__21 : Bool) (o1_22 : vK) (o1_23 : Int) (o1_24 : (List Int)) (o1_25 : vN) : impl_ValidSheaf.j2 R N n1110100 t3__17 t27__18 t28__19 t29__20 t61__21 o1_22 o1_23 o1_24 o1_25 = (bif t61__21 then some ⟨o_impl_ValidSheaf, (false, ())⟩ else (impl_ValidSheaf.l1 R N n1110100 t3__17 t27__18 t28__19 (w64 (t29__20 + (1 : Int))) o1_22 o1_23 o1_24 o1_25)) := (hw _ _).trans (by kernel_rfl)
theorem impl_ValidSheaf.l1_succ (R : Run) (hw : R.ok) (N : Nat) (n : Nat) (t3__8 : (List (Int × Int × Int × Unit))) (t27__9 : (List (Int × Int × Int × Unit))) (t28__10 : Int) (t29__11 : Int) (o1_12 : vK) (o1_13 : Int) (o1_14 : (List Int)) (o1_15 : vN) : impl_ValidSheaf.l1 R N (n + 1) t3__8 t27__9 t28__10 t29__11 o1_12 o1_13 o1_14 o1_15 = (bif (decide (t29__11 < t28__10)) then (Option.bind (idx? t27__9 t29__11) fun y16 => (bif (decide (t29__11 ≥ (List.length o1_15 : Int))) then (impl_ValidSheaf.j2 R N n t3__8 t27__9 t28__10 t29__11 true o1_12 o1_13 o1_14 o1_15) else (Option.bind (idx? o1_15 t29__11) fun y34 => (Option.bind (idx? o1_14 y16.2.2.1) fun y35 => (Option.bind (idx? o1_14 y16.1) fun y36 => (Option.bind (callT R n_impl_isBetween o_impl_isBetween [⟨yI, y34.1⟩, ⟨yI, y34.2.1⟩, ⟨yI, y34.2.2.1⟩, ⟨yL, y34.2.2.2.1⟩, ⟨yI, o1_13⟩, ⟨yI, (y35, ()).1⟩, ⟨yI, (y36, ()).1⟩]) fun r37 => (impl_ValidSheaf.j2 R N n t3__8 t27__9 t28__10 t29__11 (!r37.1) o1_12 o1_13 o1_14 o1_15))))))) else some ⟨o_impl_ValidSheaf, (((List.length t3__8 : Int) == (List.length o1_15 : Int)), ())⟩) := (hw _ _).trans (by kernel_rfl)
theorem impl_ValidSheaf.j0_eq (R : Run) (hw : R.ok) (N : Nat) (t23__2 : Bool) (o1_3 : vK) (o1_4 : Int) (o1_5 : (List Int)) (o1_6 : vN) : impl_ValidSheaf.j0 R N t23__2 o1_3 o1_4 o1_5 o1_6 = (bif t23__2 then some ⟨o_impl_ValidSheaf, (false, ())⟩ else (Option.bind (callT R n_impl_arrows o_impl_arrows [⟨yK, o1_3⟩]) fun r7 => (impl_ValidSheaf.l1 R N N r7.1 r7.1 (List.length r7.1 : Int) (0 : Int) o1_3 o1_4 o1_5 o1_6))) := (hw _ _).trans (by kernel_rfl)
theorem impl_ValidSheaf.ev (R : Run) (N : Nat) (a0 : vK) (a1 : Int) (a2 : (List Int)) (a3 : vN) : evFn E R sg_impl_ValidSheaf pol_impl_ValidSheaf F_impl_ValidSheaf N [⟨yK, a0⟩, ⟨yI, a1⟩, ⟨yL, a2⟩, ⟨yN, a3⟩] = (Option.bind (callT R n_impl_ValidComplex o_impl_ValidComplex [⟨yK, a0⟩]) fun r1 => (bif (!r1.1) then (impl_ValidSheaf.j0 R N true a0 a1 a2 a3) else (Option.bind (callT R n_impl_ValidPrime o_impl_ValidPrime [⟨yI, a1⟩]) fun r47 => (bif (!r47.1) then (impl_ValidSheaf.j0 R N true a0 a1 a2 a3) else (Option.bind (callT R n_impl_areStalks o_impl_areStalks [⟨yK, a0⟩, ⟨yL, a2⟩]) fun r53 => (impl_ValidSheaf.j0 R N (!r53.1) a0 a1 a2 a3)))))) := by kernel_rfl
/-! loop.example/g01005/impl.firstMap -/
noncomputable def impl_firstMap.l0 (R : Run) (N : Nat) (n : Nat) (n_1 : Int) (t12__2 : vK) (t13__3 : Int) (t14__4 : Int) : Option Dv := R.w (some ⟨(zd 5 (.c (.d yI n_1) :: (zd 6 (.c (.d yK t12__2) :: (.c (.d yI t13__3) :: (.c (.d yI t14__4) :: (zd 12 []))))))), (zo 32 [])⟩) fun st => loopC (evCode E R pol_impl_firstMap N (sub [1, 1, 0, 1, 0, 0] (bodyOf F_impl_firstMap))) (maskAt R pol_impl_firstMap.loopM 3) n st (kBlk (maskAt R pol_impl_firstMap.blkM 0) 0 (kSeq (maskAt R pol_impl_firstMap.seqM 8) (evCode E R pol_impl_firstMap N (sub [1, 1, 1] (bodyOf F_impl_firstMap))) (kTop E sg_impl_firstMap F_impl_firstMap)))
theorem impl_firstMap.l0_succ (R : Run) (hw : R.ok) (N : Nat) (n : Nat) (n_1 : Int) (t12__2 : vK) (t13__3 : Int) (t14__4 : Int) : impl_firstMap.l0 R N (n + 1) n_1 t12__2 t13__3 t14__4 = (bif (decide (t14__4 < t13__3)) then (Option.bind (idx? t12__2 t14__4) fun y5 => (bif (decide ((List.length (y5, ()).1 : Int) > (1 : Int))) then (Option.bind (callT R n_impl_size_int64 o_impl_size_int64 [⟨yL, (y5, ()).1⟩]) fun r6 => (impl_firstMap.l0 R N n (w64 (n_1 + r6.1)) t12__2 t13__3 (w64 (t14__4 + (1 : Int))))) else (impl_firstMap.l0 R N n n_1 t12__2 t13__3 (w64 (t14__4 + (1 : Int)))))) else some ⟨o_impl_firstMap, (n_1, ())⟩) := (hw _ _).trans (by kernel_rfl)
theorem impl_firstMap.ev (R : Run) (N : Nat) (a0 : vK) (a1 : Int) (a2 : (List Int)) (a3 : vN) (a4 : Int) : evFn E R sg_impl_firstMap pol_impl_firstMap F_impl_firstMap N [⟨yK, a0⟩, ⟨yI, a1⟩, ⟨yL, a2⟩, ⟨yN, a3⟩, ⟨yI, a4⟩] = (Option.bind (chk (decide (0 ≤ a4) && decide (a4 ≤ (List.length a0 : Int)))) fun _ => (impl_firstMap.l0 R N N (0 : Int) (List.take (Int.toNat a4) a0) (List.length (List.take (Int.toNat a4) a0) : Int) (0 : Int))) := by kernel_rfl
/-! loop.example/g01005/impl.direct -/
theorem impl_direct.ev (R : Run) (N : Nat) (a0 : vK) (a1 : Int) (a2 : (List Int)) (a3 : vN) (a4 : Int) (a5 : Int) : evFn E R sg_impl_direct pol_impl_direct F_impl_direct N [⟨yK, a0⟩, ⟨yI, a1⟩, ⟨yL, a2⟩, ⟨yN, a3⟩, ⟨yI, a4⟩, ⟨yI, a5⟩] = (Option.bind (callT R n_impl_firstMap o_impl_firstMap [⟨yK, a0⟩, ⟨yI, a1⟩, ⟨yL, a2⟩, ⟨yN, a3⟩, ⟨yI, a4⟩]) fun r1 => (Option.bind (idx? a3 (w64 (r1.1 + a5))) fun y2 => some ⟨o_impl_direct, (y2.1, y2.2.1, y2.2.2.1, y2.2.2.2.1, ())⟩)) := by kernel_rfl
/-! (loop.example/g01005/impl.Matrix).at -/
theorem impl_Matrix_at.ev (R : Run) (N : Nat) (a0 : Int) (a1 : Int) (a2 : Int) (a3 : (List Int)) (a4 : Int) (a5 : Int) : evFn E R sg_impl_Matrix_at pol_impl_Matrix_at F_impl_Matrix_at N [⟨yI, a0⟩, ⟨yI, a1⟩, ⟨yI, a2⟩, ⟨yL, a3⟩, ⟨yI, a4⟩, ⟨yI, a5⟩] = (Option.bind (idx? a3 (w64 ((w64 (a4 * a2)) + a5))) fun y1 => some ⟨o_impl_Matrix_at, ((y1, ()).1, ())⟩) := by kernel_rfl
/-! loop.example/g01005/impl.transpose$1 -/
theorem impl_transpose_1.ev (R : Run) (N : Nat) (a0 : Int) (a1 : Int) (a2 : vM) : evFn E R sg_impl_transpose_1 pol_impl_transpose_1 F_impl_transpose_1 N [⟨yI, a0⟩, ⟨yI, a1⟩, ⟨(.ptr yM), a2⟩] = (Option.bind (callT R n_impl_Matrix_at o_impl_Matrix_at [⟨yI, a2.1⟩, ⟨yI, a2.2.1⟩, ⟨yI, a2.2.2.1⟩, ⟨yL, a2.2.2.2.1⟩, ⟨yI, a1⟩, ⟨yI, a0⟩]) fun r1 => some ⟨o_impl_transpose_1, (r1.1, ())⟩) := by kernel_rfl
/-! loop.example/g01005/impl.filled -/
noncomputable def impl_filled_impl_transpose_1.l1 (R : Run) (N : Nat) (n110100 : Nat) (n : Nat) (columns_12 : Int) (cell_13 : (vM × Unit)) (i_14 : Int) (t16__15 : Int) (t17__16 : Int) (t20__17 : Int) (t21__18 : Int) (o8_19 : Int) (o8_20 : Int) (o8_21 : Int) (m_22 : Int) (m_23 : Int) (m_24 : Int) (o31_25 : (List Int)) : Option Dv := R.w (some ⟨(V.dead :: (V.dead :: (.c (.d yI columns_12) :: (.c (.d (.fn n_impl_transpose_1 (.cons (.ptr yM) .nil)) cell_13) :: (zd 4 (.c (.box 8 0) :: (.c (.box 9 0) :: (.c (.d yI i_14) :: (zd 5 (.c (.d yI t16__15) :: (.c (.d yI t17__16) :: (V.dead :: (V.dead :: (.c (.d yI t20__17) :: (.c (.d yI t21__18) :: (zd 14 [])))))))))))))))), (zo 8 (some (.box [.d yI o8_19, .d yI o8_20, .d yI o8_21, .nils yI] false false) :: (some (.box [.d yI m_22, .d yI m_23, .d yI m_24, .arr 31] false false) :: (zo 21 (some (.arr yI o31_25 true false false) :: (zo 8 []))))))⟩) fun st => loopC (evCode E R pol_impl_filled N (sub [1, 1, 0, 1, 0, 0, 1, 1, 0, 0, 1, 1, 0, 0] (bodyOf F_impl_filled))) (maskAt R pol_impl_filled.loopM 6) n st (kBlk (maskAt R pol_impl_filled.blkM 2) 2 (kBlk (maskAt R pol_impl_filled.blkM 1) 1 (kSeq (maskAt R pol_impl_filled.seqM 10) (evCode E R pol_impl_filled N (sub [1, 1, 0, 1, 0, 0, 1, 1, 1] (bodyOf F_impl_filled))) (kLoop (evCode E R pol_impl_filled N (sub [1, 1, 0, 1, 0, 0] (bodyOf F_impl_filled))) (maskAt R pol_impl_filled.loopM 3) n110100 (kBlk (maskAt R pol_impl_filled.blkM 0) 0 (kSeq (maskAt R pol_impl_filled.seqM 11) (evCode E R pol_impl_filled N (sub [1, 1, 1] (bodyOf F_impl_filled))) (kTop E sg_impl_filled F_impl_filled)))))))
noncomputable def impl_filled_impl_transpose_1.l0 (R : Run) (N : Nat) (n : Nat) (columns_1 : Int) (cell_2 : (vM × Unit)) (t16__3 : Int) (t17__4 : Int) (o8_5 : Int) (o8_6 : Int) (o8_7 : Int) (m_8 : Int) (m_9 : Int) (m_10 : Int) (o31_11 : (List Int)) : Option Dv := R.w (some ⟨(V.dead :: (V.dead :: (.c (.d yI columns_1) :: (.c (.d (.fn n_impl_transpose_1 (.cons (.ptr yM) .nil)) cell_2) :: (zd 4 (.c (.box 8 0) :: (.c (.box 9 0) :: (zd 6 (.c (.d yI t16__3) :: (.c (.d yI t17__4) :: (zd 18 []))))))))))), (zo 8 (some (.box [.d yI o8_5, .d yI o8_6, .d yI o8_7, .nils yI] false false) :: (some (.box [.d yI m_8, .d yI m_9, .d yI m_10, .arr 31] false false) :: (zo 21 (some (.arr yI o31_11 true false false) :: (zo 8 []))))))⟩) fun st => loopC (evCode E R pol_impl_filled N (sub [1, 1, 0, 1, 0, 0] (bodyOf F_impl_filled))) (maskAt R pol_impl_filled.loopM 3) n st (kBlk (maskAt R pol_impl_filled.blkM 0) 0 (kSeq (maskAt R pol_impl_filled.seqM 11) (evCode E R pol_impl_filled N (sub [1, 1, 1] (bodyOf F_impl_filled))) (kTop E sg_impl_filled F_impl_filled)))
theorem impl_filled_impl_transpose_1.l1_succ (R : Run) (hw : R.ok) (N : Nat) (n110100 : Nat) (n : Nat) (columns_12 : Int) (cell_13 : (vM × Unit)) (i_14 : Int) (t16__15 : Int) (t17__16 : Int) (t20__17 : Int) (t21__18 : Int) (o8_19 : Int) (o8_20 : Int) (o8_21 : Int) (m_22 : Int) (m_23 : Int) (m_24 : Int) (o31_25 : (List Int)) : impl_filled_impl_transpose_1.l1 R N n110100 (n + 1) columns_12 cell_13 i_14 t16__15 t17__16 t20__17 t21__18 o8_19 o8_20 o8_21 m_22 m_23 m_24 o31_25 = (bif (decide (t21__18 < t20__17)) then (Option.bind (callT R n_impl_transpose_1 o_impl_transpose_1 [⟨yI, i_14⟩, ⟨yI, t21__18⟩, ⟨(.ptr yM), cell_13.1⟩]) fun r26 => (Option.bind (chk (decide ((List.length o31_25 + List.length [r26.1]) * 8 ≤ 70368744177664))) fun _ => (impl_filled_impl_transpose_1.l1 R N n110100 n columns_12 cell_13 i_14 t16__15 t17__16 t20__17 (w64 (t21__18 + (1 : Int))) o8_19 o8_20 o8_21 m_22 m_23 m_24 (o31_25 ++ [r26.1])))) else (impl_filled_impl_transpose_1.l0 R N n110100 columns_12 cell_13 t16__15 (w64 (t17__16 + (1 : Int))) o8_19 o8_20 o8_21 m_22 m_23 m_24 o31_25)) := (hw _ _).trans (by kernel_rfl)
theorem impl_filled_impl_transpose_1.l0_succ (R : Run) (hw : R.ok) (N : Nat) (n : Nat) (columns_1 : Int) (cell_2 : (vM × Unit)) (t16__3 : Int) (t17__4 : Int) (o8_5 : Int) (o8_6 : Int) (o8_7 : Int) (m_8 : Int) (m_9 : Int) (m_10 : Int) (o31_11 : (List Int)) : impl_filled_impl_transpose_1.l0 R N (n + 1) columns_1 cell_2 t16__3 t17__4 o8_5 o8_6 o8_7 m_8 m_9 m_10 o31_11 = (bif (decide (t17__4 < t16__3)) then (impl_filled_impl_transpose_1.l1 R N n N columns_1 cell_2 t17__4 t16__3 t17__4 columns_1 (0 : Int) o8_5 o8_6 o8_7 m_8 m_9 m_10 o31_11) else some ⟨o_impl_filled, (m_8, m_9, m_10, o31_11, ())⟩) := (hw _ _).trans (by kernel_rfl)
theorem impl_filled_impl_transpose_1.ev (R : Run) (N : Nat) (a0 : Int) (a1 : Int) (a2 : Int) (a3 : (vM × Unit)) : evFn E R sg_impl_filled pol_impl_filled F_impl_filled N [⟨yI, a0⟩, ⟨yI, a1⟩, ⟨yI, a2⟩, ⟨(.fn n_impl_transpose_1 (.cons (.ptr yM) .nil)), a3⟩] = (impl_filled_impl_transpose_1.l0 R N N a2 a3 a1 (0 : Int) (0 : Int) (0 : Int) (0 : Int) a0 a1 a2 ([] : List Int)) := by kernel_rfl
/-! loop.example/g01005/impl.transpose -/
theorem impl_transpose.ev (R : Run) (N : Nat) (a0 : Int) (a1 : Int) (a2 : Int) (a3 : (List Int)) : evFn E R sg_impl_transpose pol_impl_transpose F_impl_transpose N [⟨yI, a0⟩, ⟨yI, a1⟩, ⟨yI, a2⟩, ⟨yL, a3⟩] = (Option.bind (callT R n_impl_filled o_impl_filled [⟨yI, a0⟩, ⟨yI, a2⟩, ⟨yI, a1⟩, ⟨(.fn n_impl_transpose_1 (.cons (.ptr yM) .nil)), ((a0, a1, a2, a3, ()), ())⟩]) fun r1 => some ⟨o_impl_transpose, (r1.1, r1.2.1, r1.2.2.1, r1.2.2.2.1, ())⟩) := by kernel_rfl
/-! (loop.example/g01005/impl.Matrix).row -/
theorem impl_Matrix_row.ev (R : Run) (N : Nat) (a0 : Int) (a1 : Int) (a2 : Int) (a3 : (List Int)) (a4 : Int) : evFn E R sg_impl_Matrix_row pol_impl_Matrix_row F_impl_Matrix_row N [⟨yI, a0⟩, ⟨yI, a1⟩, ⟨yI, a2⟩, ⟨yL, a3⟩, ⟨yI, a4⟩] = (Option.bind (chk (decide (0 ≤ (w64 (a4 * a2))) && decide ((w64 (a4 * a2)) ≤ (w64 ((w64 (a4 + (1 : Int))) * a2))) && decide ((w64 ((w64 (a4 + (1 : Int))) * a2)) ≤ (List.length a3 : Int)))) fun _ => some ⟨o_impl_Matrix_row, ((List.drop (Int.toNat (w64 (a4 * a2))) (List.take (Int.toNat (w64 ((w64 (a4 + (1 : Int))) * a2))) a3)), ())⟩) := by kernel_rfl
/-! slices.Clone[[]int64,int64] -/
noncomputable def slices_Clone_Sint64_int64.j0 (R : Run) (N : Nat) (s_1 : (List Int)) (t4__2 : Bool) : Option Dv := R.w (some ⟨(.c (.d yL s_1) :: (zd 3 (.c (.d .bool t4__2) :: (zd 3 [])))), (zo 9 [])⟩) fun st => evCode E R pol_slices_Clone_Sint64_int64 N (sub [1, 0, 1] (bodyOf F_slices_Clone_Sint64_int64)) st (kSeq (maskAt R pol_slices_Clone_Sint64_int64.seqM 3) (evCode E R pol_slices_Clone_Sint64_int64 N (sub [1, 1] (bodyOf F_slices_Clone_Sint64_int64))) (kTop E sg_slices_Clone_Sint64_int64 F_slices_Clone_Sint64_int64))
theorem slices_Clone_Sint64_int64.j0_eq (R : Run) (hw : R.ok) (N : Nat) (s_1 : (List Int)) (t4__2 : Bool) : slices_Clone_Sint64_int64.j0 R N s_1 t4__2 = (bif t4__2 then some ⟨o_slices_Clone_Sint64_int64, (([] : List Int), ())⟩ else (Option.bind (chk (decide ((List.length ([] : List Int) + List.length s_1) * 8 ≤ 70368744177664))) fun _ => some ⟨o_slices_Clone_Sint64_int64, ((([] : List Int) ++ s_1), ())⟩)) := (hw _ _).trans (by kernel_rfl)
theorem slices_Clone_Sint64_int64.ev (R : Run) (N : Nat) (a0 : (List Int)) : evFn E R sg_slices_Clone_Sint64_int64 pol_slices_Clone_Sint64_int64 F_slices_Clone_Sint64_int64 N [⟨yL, a0⟩] = (bif (List.isEmpty a0) then (both (slices_Clone_Sint64_int64.j0 R N a0 true) (slices_Clone_Sint64_int64.j0 R N a0 false)) else (slices_Clone_Sint64_int64.j0 R N a0 false)) := by kernel_rfl
/-! loop.example/g01005/impl.rowsOf -/
noncomputable def impl_rowsOf.l0 (R : Run) (N : Nat) (n : Nat) (t6__1 : Int) (t7__2 : Int) (m_3 : Int) (m_4 : Int) (m_5 : Int) (m_6 : (List Int)) (o16_7 : vK) : Option Dv := R.w (some ⟨(V.dead :: (.c (.box 1 0) :: (V.dead :: (.c (.arr 16) :: (V.dead :: (V.dead :: (.c (.d yI t6__1) :: (.c (.d yI t7__2) :: (zd 11 []))))))))), (none :: (some (.box [.d yI m_3, .d yI m_4, .d yI m_5, .d yL m_6] false false) :: (zo 14 (some (.arr yL o16_7 true false false) :: (zo 7 [])))))⟩) fun st => loopC (evCode E R pol_impl_rowsOf N (sub [1, 1, 0, 1, 0, 0] (bodyOf F_impl_rowsOf))) (maskAt R pol_impl_rowsOf.loopM 3) n st (kBlk (maskAt R pol_impl_rowsOf.blkM 0) 0 (kSeq (maskAt R pol_impl_rowsOf.seqM 7) (evCode E R pol_impl_rowsOf N (sub [1, 1, 1] (bodyOf F_impl_rowsOf))) (kTop E sg_impl_rowsOf F_impl_rowsOf)))
theorem impl_rowsOf.l0_succ (R : Run) (hw : R.ok) (N : Nat) (n : Nat) (t6__1 : Int) (t7__2 : Int) (m_3 : Int) (m_4 : Int) (m_5 : Int) (m_6 : (List Int)) (o16_7 : vK) : impl_rowsOf.l0 R N (n + 1) t6__1 t7__2 m_3 m_4 m_5 m_6 o16_7 = (bif (decide (t7__2 < t6__1)) then (Option.bind (callT R n_impl_Matrix_row o_impl_Matrix_row [⟨yI, m_3⟩, ⟨yI, m_4⟩, ⟨yI, m_5⟩, ⟨yL, m_6⟩, ⟨yI, t7__2⟩]) fun r8 => (Option.bind (callT R n_slices_Clone_Sint64_int64 o_slices_Clone_Sint64_int64 [⟨yL, r8.1⟩]) fun r9 => (Option.bind (chk (decide ((List.length o16_7 + List.length [r9.1]) * 24 ≤ 70368744177664))) fun _ => (impl_rowsOf.l0 R N n t6__1 (w64 (t7__2 + (1 : Int))) m_3 m_4 m_5 m_6 (o16_7 ++ [r9.1]))))) else some ⟨o_impl_rowsOf, (o16_7, ())⟩) := (hw _ _).trans (by kernel_rfl)
theorem impl_rowsOf.ev (R : Run) (N : Nat) (a0 : Int) (a1 : Int) (a2 : Int) (a3 : (List Int)) : evFn E R sg_impl_rowsOf pol_impl_rowsOf F_impl_rowsOf N [⟨yI, a0⟩, ⟨yI, a1⟩, ⟨yI, a2⟩, ⟨yL, a3⟩] = (impl_rowsOf.l0 R N N a1 (0 : Int) a0 a1 a2 a3 ([] : List (List Int))) := by kernel_rfl
/-! loop.example/g01005/impl.columnsOf -/
theorem impl_columnsOf.ev (R : Run) (N : Nat) (a0 : Int) (a1 : Int) (a2 : Int) (a3 : (List Int)) : evFn E R sg_impl_columnsOf pol_impl_columnsOf F_impl_columnsOf N [⟨yI, a0⟩, ⟨yI, a1⟩, ⟨yI, a2⟩, ⟨yL, a3⟩] = (Option.bind (callT R n_impl_transpose o_impl_transpose [⟨yI, a0⟩, ⟨yI, a1⟩, ⟨yI, a2⟩, ⟨yL, a3⟩]) fun r1 => (Option.bind (callT R n_impl_rowsOf o_impl_rowsOf [⟨yI, r1.1⟩, ⟨yI, r1.2.1⟩, ⟨yI, r1.2.2.1⟩, ⟨yL, r1.2.2.2.1⟩]) fun r2 => some ⟨o_impl_columnsOf, (r2.1, ())⟩)) := by kernel_rfl
/-! loop.example/g01005/impl.dot -/
noncomputable def impl_dot.l0 (R : Run) (N : Nat) (n : Nat) (a_1 : (List Int)) (b_2 : (List Int)) (p_3 : Int) (sum_4 : Int) (t10__5 : Int) (t11__6 : Int) : Option Dv := R.w (some ⟨(.c (.d yL a_1) :: (.c (.d yL b_2) :: (.c (.d yI p_3) :: (zd 4 (.c (.d yI sum_4) :: (V.dead :: (V.dead :: (.c (.d yI t10__5) :: (.c (.d yI t11__6) :: (zd 17 [])))))))))), (zo 32 [])⟩) fun st => loopC (evCode E R pol_impl_dot N (sub [1, 1, 0, 1, 0, 0] (bodyOf F_impl_dot))) (maskAt R pol_impl_dot.loopM 3) n st (kBlk (maskAt R pol_impl_dot.blkM 0) 0 (kSeq (maskAt R pol_impl_dot.seqM 7) (evCode E R pol_impl_dot N (sub [1, 1, 1] (bodyOf F_impl_dot))) (kTop E sg_impl_dot F_impl_dot)))
theorem impl_dot.l0_succ (R : Run) (hw : R.ok) (N : Nat) (n : Nat) (a_1 : (List Int)) (b_2 : (List Int)) (p_3 : Int) (sum_4 : Int) (t10__5 : Int) (t11__6 : Int) : impl_dot.l0 R N (n + 1) a_1 b_2 p_3 sum_4 t10__5 t11__6 = (bif (decide (t11__6 < t10__5)) then (Option.bind (idx? a_1 t11__6) fun y7 => (Option.bind (idx? b_2 t11__6) fun y8 => (Option.bind (chk (p_3 != 0)) fun _ => (impl_dot.l0 R N n a_1 b_2 p_3 (Int.tmod (w64 (sum_4 + (w64 ((y7, ()).1 * (y8, ()).1)))) p_3) t10__5 (w64 (t11__6 + (1 : Int))))))) else some ⟨o_impl_dot, (sum_4, ())⟩) := (hw _ _).trans (by kernel_rfl)
theorem impl_dot.ev (R : Run) (N : Nat) (a0 : (List Int)) (a1 : (List Int)) (a2 : Int) : evFn E R sg_impl_dot pol_impl_dot F_impl_dot N [⟨yL, a0⟩, ⟨yL, a1⟩, ⟨yI, a2⟩] = (impl_dot.l0 R N N a0 a1 a2 (0 : Int) (List.length a0 : Int) (0 : Int)) := by kernel_rfl
/-! loop.example/g01005/impl.product$1 -/
theorem impl_product_1.ev (R : Run) (N : Nat) (a0 : Int) (a1 : Int) (a2 : vM) (a3 : (vK × Unit)) : evFn E R sg_impl_product_1 pol_impl_product_1 F_impl_product_1 N [⟨yI, a0⟩, ⟨yI, a1⟩, ⟨(.ptr yM), a2⟩, ⟨(.ptr (.cons yK .nil)), a3⟩] = (Option.bind (idx? a3.1 a1) fun y1 => (Option.bind (callT R n_impl_Matrix_row o_impl_Matrix_row [⟨yI, a2.1⟩, ⟨yI, a2.2.1⟩, ⟨yI, a2.2.2.1⟩, ⟨yL, a2.2.2.2.1⟩, ⟨yI, a0⟩]) fun r2 => (Option.bind (callT R n_impl_dot o_impl_dot [⟨yL, r2.1⟩, ⟨yL, (y1, ()).1⟩, ⟨yI, a2.1⟩]) fun r3 => some ⟨o_impl_product_1, (r3.1, ())⟩))) := by kernel_rfl
/-! loop.example/g01005/impl.filled -/
noncomputable def impl_filled_impl_product_1.l1 (R : Run) (N : Nat) (n110100 : Nat) (n : Nat) (columns_12 : Int) (cell_13 : (vM × (vK × Unit) × Unit)) (i_14 : Int) (t16__15 : Int) (t17__16 : Int) (t20__17 : Int) (t21__18 : Int) (o8_19 : Int) (o8_20 : Int) (o8_21 : Int) (m_22 : Int) (m_23 : Int) (m_24 : Int) (o31_25 : (List Int)) : Option Dv := R.w (some ⟨(V.dead :: (V.dead :: (.c (.d yI columns_12) :: (.c (.d (.fn n_impl_product_1 (.cons (.ptr yM) (.cons (.ptr (.cons yK .nil)) .nil))) cell_13) :: (zd 4 (.c (.box 8 0) :: (.c (.box 9 0) :: (.c (.d yI i_14) :: (zd 5 (.c (.d yI t16__15) :: (.c (.d yI t17__16) :: (V.dead :: (V.dead :: (.c (.d yI t20__17) :: (.c (.d yI t21__18) :: (zd 14 [])))))))))))))))), (zo 8 (some (.box [.d yI o8_19, .d yI o8_20, .d yI o8_21, .nils yI] false false) :: (some (.box [.d yI m_22, .d yI m_23, .d yI m_24, .arr 31] false false) :: (zo 21 (some (.arr yI o31_25 true false false) :: (zo 8 []))))))⟩) fun st => loopC (evCode E R pol_impl_filled N (sub [1, 1, 0, 1, 0, 0, 1, 1, 0, 0, 1, 1, 0, 0] (bodyOf F_impl_filled))) (maskAt R pol_impl_filled.loopM 6) n st (kBlk (maskAt R pol_impl_filled.blkM 2) 2 (kBlk (maskAt R pol_impl_filled.blkM 1) 1 (kSeq (maskAt R pol_impl_filled.seqM 10) (evCode E R pol_impl_filled N (sub [1, 1, 0, 1, 0, 0, 1, 1, 1] (bodyOf F_impl_filled))) (kLoop (evCode E R pol_impl_filled N (sub [1, 1, 0, 1, 0, 0] (bodyOf F_impl_filled))) (maskAt R pol_impl_filled.loopM 3) n110100 (kBlk (maskAt R pol_impl_filled.blkM 0) 0 (kSeq (maskAt R pol_impl_filled.seqM 11) (evCode E R pol_impl_filled N (sub [1, 1, 1] (bodyOf F_impl_filled))) (kTop E sg_impl_filled F_impl_filled)))))))
noncomputable def impl_filled_impl_product_1.l0 (R : Run) (N : Nat) (n : Nat) (columns_1 : Int) (cell_2 : (vM × (vK × Unit) × Unit)) (t16__3 : Int) (t17__4 : Int) (o8_5 : Int) (o8_6 : Int) (o8_7 : Int) (m_8 : Int) (m_9 : Int) (m_10 : Int) (o31_11 : (List Int)) : Option Dv := R.w (some ⟨(V.dead :: (V.dead :: (.c (.d yI columns_1) :: (.c (.d (.fn n_impl_product_1 (.cons (.ptr yM) (.cons (.ptr (.cons yK .nil)) .nil))) cell_2) :: (zd 4 (.c (.box 8 0) :: (.c (.box 9 0) :: (zd 6 (.c (.d yI t16__3) :: (.c (.d yI t17__4) :: (zd 18 []))))))))))), (zo 8 (some (.box [.d yI o8_5, .d yI o8_6, .d yI o8_7, .nils yI] false false) :: (some (.box [.d yI m_8, .d yI m_9, .d yI m_10, .arr 31] false false) :: (zo 21 (some (.arr yI o31_11 true false false) :: (zo 8 []))))))⟩) fun st => loopC (evCode E R pol_impl_filled N (sub [1, 1, 0, 1, 0, 0] (bodyOf F_impl_filled))) (maskAt R pol_impl_filled.loopM 3) n st (kBlk (maskAt R pol_impl_filled.blkM 0) 0 (kSeq (maskAt R pol_impl_filled.seqM 11) (evCode E R pol_impl_filled N (sub [1, 1, 1] (bodyOf F_impl_filled))) (kTop E sg_impl_filled F_impl_filled)))
theorem impl_filled_impl_product_1.l1_succ (R : Run) (hw : R.ok) (N : Nat) (n110100 : Nat) (n : Nat) (columns_12 : Int) (cell_13 : (vM × (vK × Unit) × Unit)) (i_14 : Int) (t16__15 : Int) (t17__16 : Int) (t20__17 : Int) (t21__18 : Int) (o8_19 : Int) (o8_20 : Int) (o8_21 : Int) (m_22 : Int) (m_23 : Int) (m_24 : Int) (o31_25 : (List Int)) : impl_filled_impl_product_1.l1 R N n110100 (n + 1) columns_12 cell_13 i_14 t16__15 t17__16 t20__17 t21__18 o8_19 o8_20 o8_21 m_22 m_23 m_24 o31_25 = (bif (decide (t21__18 < t20__17)) then (Option.bind (callT R n_impl_product_1 o_impl_product_1 [⟨yI, i_14⟩, ⟨yI, t21__18⟩, ⟨(.ptr yM), cell_13.1⟩, ⟨(.ptr (.cons yK .nil)), cell_13.2.1⟩]) fun r26 => (Option.bind (chk (decide ((List.length o31_25 + List.length [r26.1]) * 8 ≤ 70368744177664))) fun _ => (impl_filled_impl_product_1.l1 R N n110100 n columns_12 cell_13 i_14 t16__15 t17__16 t20__17 (w64 (t21__18 + (1 : Int))) o8_19 o8_20 o8_21 m_22 m_23 m_24 (o31_25 ++ [r26.1])))) else (impl_filled_impl_product_1.l0 R N n110100 columns_12 cell_13 t16__15 (w64 (t17__16 + (1 : Int))) o8_19 o8_20 o8_21 m_22 m_23 m_24 o31_25)) := (hw _ _).trans (by kernel_rfl)
theorem impl_filled_impl_product_1.l0_succ (R : Run) (hw : R.ok) (N : Nat) (n : Nat) (columns_1 : Int) (cell_2 : (vM × (vK × Unit) × Unit)) (t16__3 : Int) (t17__4 : Int) (o8_5 : Int) (o8_6 : Int) (o8_7 : Int) (m_8 : Int) (m_9 : Int) (m_10 : Int) (o31_11 : (List Int)) : impl_filled_impl_product_1.l0 R N (n + 1) columns_1 cell_2 t16__3 t17__4 o8_5 o8_6 o8_7 m_8 m_9 m_10 o31_11 = (bif (decide (t17__4 < t16__3)) then (impl_filled_impl_product_1.l1 R N n N columns_1 cell_2 t17__4 t16__3 t17__4 columns_1 (0 : Int) o8_5 o8_6 o8_7 m_8 m_9 m_10 o31_11) else some ⟨o_impl_filled, (m_8, m_9, m_10, o31_11, ())⟩) := (hw _ _).trans (by kernel_rfl)
theorem impl_filled_impl_product_1.ev (R : Run) (N : Nat) (a0 : Int) (a1 : Int) (a2 : Int) (a3 : (vM × (vK × Unit) × Unit)) : evFn E R sg_impl_filled pol_impl_filled F_impl_filled N [⟨yI, a0⟩, ⟨yI, a1⟩, ⟨yI, a2⟩, ⟨(.fn n_impl_product_1 (.cons (.ptr yM) (.cons (.ptr (.cons yK .nil)) .nil))), a3⟩] = (impl_filled_impl_product_1.l0 R N N a2 a3 a1 (0 : Int) (0 : Int) (0 : Int) (0 : Int) a0 a1 a2 ([] : List Int)) := by kernel_rfl
/-! loop.example/g01005/impl.product -/
theorem impl_product.ev (R : Run) (N : Nat) (a0 : Int) (a1 : Int) (a2 : Int) (a3 : (List Int)) (a4 : Int) (a5 : Int) (a6 : Int) (a7 : (List Int)) : evFn E R sg_impl_product pol_impl_product F_impl_product N [⟨yI, a0⟩, ⟨yI, a1⟩, ⟨yI, a2⟩, ⟨yL, a3⟩, ⟨yI, a4⟩, ⟨yI, a5⟩, ⟨yI, a6⟩, ⟨yL, a7⟩] = (Option.bind (callT R n_impl_columnsOf o_impl_columnsOf [⟨yI, a4⟩, ⟨yI, a5⟩, ⟨yI, a6⟩, ⟨yL, a7⟩]) fun r1 => (Option.bind (callT R n_impl_filled o_impl_filled [⟨yI, a0⟩, ⟨yI, a1⟩, ⟨yI, a6⟩, ⟨(.fn n_impl_product_1 (.cons (.ptr yM) (.cons (.ptr (.cons yK .nil)) .nil))), ((a0, a1, a2, a3, ()), (r1.1, ()), ())⟩]) fun r2 => some ⟨o_impl_product, (r2.1, r2.2.1, r2.2.2.1, r2.2.2.2.1, ())⟩)) := by kernel_rfl
/-! slices.Equal[[]int64,int64] -/
noncomputable def slices_Equal_Sint64_int64.l0 (R : Run) (N : Nat) (n : Nat) (s1_1 : (List Int)) (s2_2 : (List Int)) (t12__3 : Int) (t13__4 : Int) : Option Dv := R.w (some ⟨(.c (.d yL s1_1) :: (.c (.d yL s2_2) :: (zd 10 (.c (.d yI t12__3) :: (.c (.d yI t13__4) :: (zd 12 [])))))), (zo 28 [])⟩) fun st => loopC (evCode E R pol_slices_Equal_Sint64_int64 N (sub [1, 1, 0, 1, 0, 0] (bodyOf F_slices_Equal_Sint64_int64))) (maskAt R pol_slices_Equal_Sint64_int64.loopM 4) n st (kBlk (maskAt R pol_slices_Equal_Sint64_int64.blkM 0) 0 (kSeq (maskAt R pol_slices_Equal_Sint64_int64.seqM 9) (evCode E R pol_slices_Equal_Sint64_int64 N (sub [1, 1, 1] (bodyOf F_slices_Equal_Sint64_int64))) (kTop E sg_slices_Equal_Sint64_int64 F_slices_Equal_Sint64_int64)))
theorem slices_Equal_Sint64_int64.l0_succ (R : Run) (hw : R.ok) (N : Nat) (n : Nat) (s1_1 : (List Int)) (s2_2 : (List Int)) (t12__3 : Int) (t13__4 : Int) : slices_Equal_Sint64_int64.l0 R N (n + 1) s1_1 s2_2 t12__3 t13__4 = (bif (decide (t13__4 < t12__3)) then (Option.bind (idx? s1_1 t13__4) fun y5 => (Option.bind (idx? s2_2 t13__4) fun y6 => (bif ((y5, ()).1 != (y6, ()).1) then some ⟨o_slices_Equal_Sint64_int64, (false, ())⟩ else (slices_Equal_Sint64_int64.l0 R N n s1_1 s2_2 t12__3 (w64 (t13__4 + (1 : Int))))))) else some ⟨o_slices_Equal_Sint64_int64, (true, ())⟩) := (hw _ _).trans (by kernel_rfl)
theorem slices_Equal_Sint64_int64.ev (R : Run) (N : Nat) (a0 : (List Int)) (a1 : (List Int)) : evFn E R sg_slices_Equal_Sint64_int64 pol_slices_Equal_Sint64_int64 F_slices_Equal_Sint64_int64 N [⟨yL, a0⟩, ⟨yL, a1⟩] = (bif ((List.length a0 : Int) != (List.length a1 : Int)) then some ⟨o_slices_Equal_Sint64_int64, (false, ())⟩ else (slices_Equal_Sint64_int64.l0 R N N a0 a1 (List.length a0 : Int) (0 : Int))) := by kernel_rfl
/-! loop.example/g01005/impl.SameMatrix -/
theorem impl_SameMatrix.ev (R : Run) (N : Nat) (a0 : Int) (a1 : Int) (a2 : Int) (a3 : (List Int)) (a4 : Int) (a5 : Int) (a6 : Int) (a7 : (List Int)) : evFn E R sg_impl_SameMatrix pol_impl_SameMatrix F_impl_SameMatrix N [⟨yI, a0⟩, ⟨yI, a1⟩, ⟨yI, a2⟩, ⟨yL, a3⟩, ⟨yI, a4⟩, ⟨yI, a5⟩, ⟨yI, a6⟩, ⟨yL, a7⟩] = (bif (a0 == a4) then (bif (a1 == a5) then (bif (a2 == a6) then (Option.bind (callT R n_slices_Equal_Sint64_int64 o_slices_Equal_Sint64_int64 [⟨yL, a3⟩, ⟨yL, a7⟩]) fun r1 => some ⟨o_impl_SameMatrix, (r1.1, ())⟩) else some ⟨o_impl_SameMatrix, (false, ())⟩) else some ⟨o_impl_SameMatrix, (false, ())⟩) else some ⟨o_impl_SameMatrix, (false, ())⟩) := by kernel_rfl
/-! loop.example/g01005/impl.wrongSquare -/
noncomputable def impl_wrongSquare.j4 (R : Run) (N : Nat) (n10100 : Nat) (n1010011001111100 : Nat) (n101001100111110011001100 : Nat) (t6__69 : (List Int)) (t7__70 : Int) (t8__71 : (List Int)) (t9__72 : Int) (t10__73 : Int) (t15__74 : vK) (t16__75 : Int) (t17__76 : Int) (t31__77 : Int) (t32__78 : Int) (o1_79 : vK) (o1_80 : Int) (o1_81 : (List Int)) (o1_82 : vN) (o11_83 : Int) (o11_84 : Int) (o11_85 : Int) (o11_86 : (List Int)) (o12_87 : Int) (o12_88 : Int) (o12_89 : Int) (o12_90 : (List Int)) : Option Dv := R.w (some ⟨(V.dead :: (.c (.box 1 0) :: (zd 4 (.c (.d yL t6__69) :: (.c (.d yI t7__70) :: (.c (.d yL t8__71) :: (.c (.d yI t9__72) :: (.c (.d yI t10__73) :: (.c (.box 11 0) :: (.c (.box 12 0) :: (V.dead :: (V.dead :: (.c (.d yK t15__74) :: (.c (.d yI t16__75) :: (.c (.d yI t17__76) :: (zd 13 (.c (.d yI t31__77) :: (.c (.d yI t32__78) :: (zd 53 []))))))))))))))))))), (none :: (some (.box [.d yK o1_79, .d yI o1_80, .d yL o1_81, .d yN o1_82] false false) :: (zo 9 (some (.box [.d yI o11_83, .d yI o11_84, .d yI o11_85, .d yL o11_86] false false) :: (some (.box [.d yI o12_87, .d yI o12_88, .d yI o12_89, .d yL o12_90] false false) :: (zo 77 []))))))⟩) fun st => evCode E R pol_impl_wrongSquare N (sub [1, 0, 1, 0, 0, 1, 1, 0, 0, 1, 1, 1, 1, 1, 0, 0, 1, 1, 0, 0, 1, 1, 0, 0, 1, 0, 0, 1, 1] (bodyOf F_impl_wrongSquare)) st (kBlk (maskAt R pol_impl_wrongSquare.blkM 5) 5 (kSeq (maskAt R pol_impl_wrongSquare.seqM 12) (evCode E R pol_impl_wrongSquare N (sub [1, 0, 1, 0, 0, 1, 1, 0, 0, 1, 1, 1, 1, 1, 0, 0, 1, 1, 0, 0, 1, 1, 0, 0, 1, 1] (bodyOf F_impl_wrongSquare))) (kLoop (evCode E R pol_impl_wrongSquare N (sub [1, 0, 1, 0, 0, 1, 1, 0, 0, 1, 1, 1, 1, 1, 0, 0, 1, 1, 0, 0, 1, 1, 0, 0] (bodyOf F_impl_wrongSquare))) (maskAt R pol_impl_wrongSquare.loopM 11) n101001100111110011001100 (kBlk (maskAt R pol_impl_wrongSquare.blkM 4) 4 (kBlk (maskAt R pol_impl_wrongSquare.blkM 3) 3 (kSeq (maskAt R pol_impl_wrongSquare.seqM 17) (evCode E R pol_impl_wrongSquare N (sub [1, 0, 1, 0, 0, 1, 1, 0, 0, 1, 1, 1, 1, 1, 0, 0, 1, 1, 1] (bodyOf F_impl_wrongSquare))) (kLoop (evCode E R pol_impl_wrongSquare N (sub [1, 0, 1, 0, 0, 1, 1, 0, 0, 1, 1, 1, 1, 1, 0, 0] (bodyOf F_impl_wrongSquare))) (maskAt R pol_impl_wrongSquare.loopM 8) n1010011001111100 (kBlk (maskAt R pol_impl_wrongSquare.blkM 2) 2 (kBlk (maskAt R pol_impl_wrongSquare.blkM 1) 1 (kSeq (maskAt R pol_impl_wrongSquare.seqM 18) (evCode E R pol_impl_wrongSquare N (sub [1, 0, 1, 0, 0, 1, 1, 1] (bodyOf F_impl_wrongSquare))) (kLoop (evCode E R pol_impl_wrongSquare N (sub [1, 0, 1, 0, 0] (bodyOf F_impl_wrongSquare))) (maskAt R pol_impl_wrongSquare.loopM 2) n10100 (kBlk (maskAt R pol_impl_wrongSquare.blkM 0) 0 (kSeq (maskAt R pol_impl_wrongSquare.seqM 19) (evCode E R pol_impl_wrongSquare N (sub [1, 1] (bodyOf F_impl_wrongSquare))) (kTop E sg_impl_wrongSquare F_impl_wrongSquare))))))))))))))
noncomputable def impl_wrongSquare.j3 (R : Run) (N : Nat) (n10100 : Nat) (n1010011001111100 : Nat) (n101001100111110011001100 : Nat) (t6__47 : (List Int)) (t7__48 : Int) (t8__49 : (List Int)) (t9__50 : Int) (t10__51 : Int) (t15__52 : vK) (t16__53 : Int) (t17__54 : Int) (t31__55 : Int) (t32__56 : Int) (o1_57 : vK) (o1_58 : Int) (o1_59 : (List Int)) (o1_60 : vN) (o11_61 : Int) (o11_62 : Int) (o11_63 : Int) (o11_64 : (List Int)) : Option Dv := R.w (some ⟨(V.dead :: (.c (.box 1 0) :: (zd 4 (.c (.d yL t6__47) :: (.c (.d yI t7__48) :: (.c (.d yL t8__49) :: (.c (.d yI t9__50) :: (.c (.d yI t10__51) :: (.c (.box 11 0) :: (zd 3 (.c (.d yK t15__52) :: (.c (.d yI t16__53) :: (.c (.d yI t17__54) :: (zd 13 (.c (.d yI t31__55) :: (.c (.d yI t32__56) :: (zd 53 []))))))))))))))))), (none :: (some (.box [.d yK o1_57, .d yI o1_58, .d yL o1_59, .d yN o1_60] false false) :: (zo 9 (some (.box [.d yI o11_61, .d yI o11_62, .d yI o11_63, .d yL o11_64] false false) :: (zo 78 [])))))⟩) fun st => evCode E R pol_impl_wrongSquare N (sub [1, 0, 1, 0, 0, 1, 1, 0, 0, 1, 1, 1, 1, 1, 0, 0, 1, 1, 0, 0, 1, 1, 0, 0, 1, 0, 0, 1] (bodyOf F_impl_wrongSquare)) st (kBlk (maskAt R pol_impl_wrongSquare.blkM 5) 5 (kSeq (maskAt R pol_impl_wrongSquare.seqM 12) (evCode E R pol_impl_wrongSquare N (sub [1, 0, 1, 0, 0, 1, 1, 0, 0, 1, 1, 1, 1, 1, 0, 0, 1, 1, 0, 0, 1, 1, 0, 0, 1, 1] (bodyOf F_impl_wrongSquare))) (kLoop (evCode E R pol_impl_wrongSquare N (sub [1, 0, 1, 0, 0, 1, 1, 0, 0, 1, 1, 1, 1, 1, 0, 0, 1, 1, 0, 0, 1, 1, 0, 0] (bodyOf F_impl_wrongSquare))) (maskAt R pol_impl_wrongSquare.loopM 11) n101001100111110011001100 (kBlk (maskAt R pol_impl_wrongSquare.blkM 4) 4 (kBlk (maskAt R pol_impl_wrongSquare.blkM 3) 3 (kSeq (maskAt R pol_impl_wrongSquare.seqM 17) (evCode E R pol_impl_wrongSquare N (sub [1, 0, 1, 0, 0, 1, 1, 0, 0, 1, 1, 1, 1, 1, 0, 0, 1, 1, 1] (bodyOf F_impl_wrongSquare))) (kLoop (evCode E R pol_impl_wrongSquare N (sub [1, 0, 1, 0, 0, 1, 1, 0, 0, 1, 1, 1, 1, 1, 0, 0] (bodyOf F_impl_wrongSquare))) (maskAt R pol_impl_wrongSquare.loopM 8) n1010011001111100 (kBlk (maskAt R pol_impl_wrongSquare.blkM 2) 2 (kBlk (maskAt R pol_impl_wrongSquare.blkM 1) 1 (kSeq (maskAt R pol_impl_wrongSquare.seqM 18) (evCode E R pol_impl_wrongSquare N (sub [1, 0, 1, 0, 0, 1, 1, 1] (bodyOf F_impl_wrongSquare))) (kLoop (evCode E R pol_impl_wrongSquare N (sub [1, 0, 1, 0, 0] (bodyOf F_impl_wrongSquare))) (maskAt R pol_impl_wrongSquare.loopM 2) n10100 (kBlk (maskAt R pol_impl_wrongSquare.blkM 0) 0 (kSeq (maskAt R pol_impl_wrongSquare.seqM 19) (evCode E R pol_impl_wrongSquare N (sub [1, 1] (bodyOf F_impl_wrongSquare))) (kTop E sg_impl_wrongSquare F_impl_wrongSquare))))))))))))))
noncomputable def impl_wrongSquare.l2 (R : Run) (N : Nat) (n10100 : Nat) (n1010011001111100 : Nat) (n : Nat) (t6__29 : (List Int)) (t7__30 : Int) (t8__31 : (List Int)) (t9__32 : Int) (t10__33 : Int) (t15__34 : vK) (t16__35 : Int) (t17__36 : Int) (t31__37 : Int) (t32__38 : Int) (o1_39 : vK) (o1_40 : Int) (o1_41 : (List Int)) (o1_42 : vN) : Option Dv := R.w (some ⟨(V.dead :: (.c (.box 1 0) :: (zd 4 (.c (.d yL t6__29) :: (.c (.d yI t7__30) :: (.c (.d yL t8__31) :: (.c (.d yI t9__32) :: (.c (.d yI t10__33) :: (zd 4 (.c (.d yK t15__34) :: (.c (.d yI t16__35) :: (.c (.d yI t17__36) :: (zd 13 (.c (.d yI t31__37) :: (.c (.d yI t32__38) :: (zd 53 [])))))))))))))))), (none :: (some (.box [.d yK o1_39, .d yI o1_40, .d yL o1_41, .d yN o1_42] false false) :: (zo 88 [])))⟩) fun st => loopC (evCode E R pol_impl_wrongSquare N (sub [1, 0, 1, 0, 0, 1, 1, 0, 0, 1, 1, 1, 1, 1, 0, 0, 1, 1, 0, 0, 1, 1, 0, 0] (bodyOf F_impl_wrongSquare))) (maskAt R pol_impl_wrongSquare.loopM 11) n st (kBlk (maskAt R pol_impl_wrongSquare.blkM 4) 4 (kBlk (maskAt R pol_impl_wrongSquare.blkM 3) 3 (kSeq (maskAt R pol_impl_wrongSquare.seqM 17) (evCode E R pol_impl_wrongSquare N (sub [1, 0, 1, 0, 0, 1, 1, 0, 0, 1, 1, 1, 1, 1, 0, 0, 1, 1, 1] (bodyOf F_impl_wrongSquare))) (kLoop (evCode E R pol_impl_wrongSquare N (sub [1, 0, 1, 0, 0, 1, 1, 0, 0, 1, 1, 1, 1, 1, 0, 0] (bodyOf F_impl_wrongSquare))) (maskAt R pol_impl_wrongSquare.loopM 8) n1010011001111100 (kBlk (maskAt R pol_impl_wrongSquare.blkM 2) 2 (kBlk (maskAt R pol_impl_wrongSquare.blkM 1) 1 (kSeq (maskAt R pol_impl_wrongSquare.seqM 18) (evCode E R pol_impl_wrongSquare N (sub [1, 0, 1, 0, 0, 1, 1, 1] (bodyOf F_impl_wrongSquare))) (kLoop (evCode E R pol_impl_wrongSquare N (sub [1, 0, 1, 0, 0] (bodyOf F_impl_wrongSquare))) (maskAt R pol_impl_wrongSquare.loopM 2) n10100 (kBlk (maskAt R pol_impl_wrongSquare.blkM 0) 0 (kSeq (maskAt R pol_impl_wrongSquare.seqM 19) (evCode E R pol_impl_wrongSquare N (sub [1, 1] (bodyOf F_impl_wrongSquare))) (kTop E sg_impl_wrongSquare F_impl_wrongSquare)))))))))))
noncomputable def impl_wrongSquare.l1 (R : Run) (N : Nat) (n10100 : Nat) (n : Nat) (t6__17 : (List Int)) (t7__18 : Int) (t8__19 : (List Int)) (t15__20 : vK) (t16__21 : Int) (t17__22 : Int) (t31__23 : Int) (t32__24 : Int) (o1_25 : vK) (o1_26 : Int) (o1_27 : (List Int)) (o1_28 : vN) : Option Dv := R.w (some ⟨(V.dead :: (.c (.box 1 0) :: (zd 4 (.c (.d yL t6__17) :: (.c (.d yI t7__18) :: (.c (.d yL t8__19) :: (zd 6 (.c (.d yK t15__20) :: (.c (.d yI t16__21) :: (.c (.d yI t17__22) :: (zd 13 (.c (.d yI t31__23) :: (.c (.d yI t32__24) :: (zd 53 [])))))))))))))), (none :: (some (.box [.d yK o1_25, .d yI o1_26, .d yL o1_27, .d yN o1_28] false false) :: (zo 88 [])))⟩) fun st => loopC (evCode E R pol_impl_wrongSquare N (sub [1, 0, 1, 0, 0, 1, 1, 0, 0, 1, 1, 1, 1, 1, 0, 0] (bodyOf F_impl_wrongSquare))) (maskAt R pol_impl_wrongSquare.loopM 8) n st (kBlk (maskAt R pol_impl_wrongSquare.blkM 2) 2 (kBlk (maskAt R pol_impl_wrongSquare.blkM 1) 1 (kSeq (maskAt R pol_impl_wrongSquare.seqM 18) (evCode E R pol_impl_wrongSquare N (sub [1, 0, 1, 0, 0, 1, 1, 1] (bodyOf F_impl_wrongSquare))) (kLoop (evCode E R pol_impl_wrongSquare N (sub [1, 0, 1, 0, 0] (bodyOf F_impl_wrongSquare))) (maskAt R pol_impl_wrongSquare.loopM 2) n10100 (kBlk (maskAt R pol_impl_wrongSquare.blkM 0) 0 (kSeq (maskAt R pol_impl_wrongSquare.seqM 19) (evCode E R pol_impl_wrongSquare N (sub [1, 1] (bodyOf F_impl_wrongSquare))) (kTop E sg_impl_wrongSquare F_impl_wrongSquare)))))))
noncomputable def impl_wrongSquare.l0 (R : Run) (N : Nat) (n : Nat) (t15__1 : vK) (t16__2 : Int) (t17__3 : Int) (o1_4 : vK) (o1_5 : Int) (o1_6 : (List Int)) (o1_7 : vN) : Option Dv := R.w (some ⟨(V.dead :: (.c (.box 1 0) :: (zd 13 (.c (.d yK t15__1) :: (.c (.d yI t16__2) :: (.c (.d yI t17__3) :: (zd 68 []))))))), (none :: (some (.box [.d yK o1_4, .d yI o1_5, .d yL o1_6, .d yN o1_7] false false) :: (zo 88 [])))⟩) fun st => loopC (evCode E R pol_impl_wrongSquare N (sub [1, 0, 1, 0, 0] (bodyOf F_impl_wrongSquare))) (maskAt R pol_impl_wrongSquare.loopM 2) n st (kBlk (maskAt R pol_impl_wrongSquare.blkM 0) 0 (kSeq (maskAt R pol_impl_wrongSquare.seqM 19) (evCode E R pol_impl_wrongSquare N (sub [1, 1] (bodyOf F_impl_wrongSquare))) (kTop E sg_impl_wrongSquare F_impl_wrongSquare)))
theorem impl_wrongSquare.j4_eq (R : Run) (hw : R.ok) (N : Nat) (n10100 : Nat) (n1010011001111100 : Nat) (n101001100111110011001100 : Nat) (t6__69 : (List Int)) (t7__70 : Int) (t8__71 : (List Int)) (t9__72 : Int) (t10__73 : Int) (t15__74 : vK) (t16__75 : Int) (t17__76 : Int) (t31__77 : Int) (t32__78 : Int) (o1_79 : vK) (o1_80 : Int) (o1_81 : (List Int)) (o1_82 : vN) (o11_83 : Int) (o11_84 : Int) (o11_85 : Int) (o11_86 : (List Int)) (o12_87 : Int) (o12_88 : Int) (o12_89 : Int) (o12_90 : (List Int)) : impl_wrongSquare.j4 R N n10100 n1010011001111100 n101001100111110011001100 t6__69 t7__70 t8__71 t9__72 t10__73 t15__74 t16__75 t17__76 t31__77 t32__78 o1_79 o1_80 o1_81 o1_82 o11_83 o11_84 o11_85 o11_86 o12_87 o12_88 o12_89 o12_90 = (Option.bind (callT R n_impl_SameMatrix o_impl_SameMatrix [⟨yI, o11_83⟩, ⟨yI, o11_84⟩, ⟨yI, o11_85⟩, ⟨yL, o11_86⟩, ⟨yI, o12_87⟩, ⟨yI, o12_88⟩, ⟨yI, o12_89⟩, ⟨yL, o12_90⟩]) fun r91 => (bif (!r91.1) then (Option.bind (idx? t8__71 t9__72) fun y92 => (Option.bind (callT R n_impl_faceIndices o_impl_faceIndices [⟨yK, o1_79⟩, ⟨yI, (y92, ()).1⟩]) fun r93 => (Option.bind (idx? r93.1 (w64 (t10__73 - (1 : Int)))) fun y94 => some ⟨o_impl_wrongSquare, (t7__70, (y94, ()).1, true, ())⟩))) else (impl_wrongSquare.l2 R N n10100 n1010011001111100 n101001100111110011001100 t6__69 t7__70 t8__71 t9__72 (w64 (t10__73 + (1 : Int))) t15__74 t16__75 t17__76 t31__77 t32__78 o1_79 o1_80 o1_81 o1_82))) := (hw _ _).trans (by kernel_rfl)
theorem impl_wrongSquare.j3_eq (R : Run) (hw : R.ok) (N : Nat) (n10100 : Nat) (n1010011001111100 : Nat) (n101001100111110011001100 : Nat) (t6__47 : (List Int)) (t7__48 : Int) (t8__49 : (List Int)) (t9__50 : Int) (t10__51 : Int) (t15__52 : vK) (t16__53 : Int) (t17__54 : Int) (t31__55 : Int) (t32__56 : Int) (o1_57 : vK) (o1_58 : Int) (o1_59 : (List Int)) (o1_60 : vN) (o11_61 : Int) (o11_62 : Int) (o11_63 : Int) (o11_64 : (List Int)) : impl_wrongSquare.j3 R N n10100 n1010011001111100 n101001100111110011001100 t6__47 t7__48 t8__49 t9__50 t10__51 t15__52 t16__53 t17__54 t31__55 t32__56 o1_57 o1_58 o1_59 o1_60 o11_61 o11_62 o11_63 o11_64 = (Option.bind (idx? t8__49 t10__51) fun y65 => (both (Option.bind (callT R n_impl_direct o_impl_direct [⟨yK, o1_57⟩, ⟨yI, o1_58⟩, ⟨yL, o1_59⟩, ⟨yN, o1_60⟩, ⟨yI, t7__48⟩, ⟨yI, t10__51⟩]) fun r66 => (both (Option.bind (callT R n_impl_direct o_impl_direct [⟨yK, o1_57⟩, ⟨yI, o1_58⟩, ⟨yL, o1_59⟩, ⟨yN, o1_60⟩, ⟨yI, (y65, ()).1⟩, ⟨yI, t9__50⟩]) fun r67 => (both (Option.bind (callT R n_impl_product o_impl_product [⟨yI, r66.1⟩, ⟨yI, r66.2.1⟩, ⟨yI, r66.2.2.1⟩, ⟨yL, r66.2.2.2.1⟩, ⟨yI, r67.1⟩, ⟨yI, r67.2.1⟩, ⟨yI, r67.2.2.1⟩, ⟨yL, r67.2.2.2.1⟩]) fun r68 => (impl_wrongSquare.j4 R N n10100 n1010011001111100 n101001100111110011001100 t6__47 t7__48 t8__49 t9__50 t10__51 t15__52 t16__53 t17__54 t31__55 t32__56 o1_57 o1_58 o1_59 o1_60 o11_61 o11_62 o11_63 o11_64 r68.1 r68.2.1 r68.2.2.1 r68.2.2.2.1)) (Option.bind (callT R n_impl_product o_impl_product [⟨yI, r66.1⟩, ⟨yI, r66.2.1⟩, ⟨yI, r66.2.2.1⟩, ⟨yL, r66.2.2.2.1⟩, ⟨yI, r67.1⟩, ⟨yI, r67.2.1⟩, ⟨yI, r67.2.2.1⟩, ⟨yL, r67.2.2.2.1⟩]) fun r109 => (impl_wrongSquare.j4 R N n10100 n1010011001111100 n101001100111110011001100 t6__47 t7__48 t8__49 t9__50 t10__51 t15__52 t16__53 t17__54 t31__55 t32__56 o1_57 o1_58 o1_59 o1_60 o11_61 o11_62 o11_63 o11_64 r109.1 r109.2.1 r109.2.2.1 r109.2.2.2.1)))) (Option.bind (callT R n_impl_direct o_impl_direct [⟨yK, o1_57⟩, ⟨yI, o1_58⟩, ⟨yL, o1_59⟩, ⟨yN, o1_60⟩, ⟨yI, (y65, ()).1⟩, ⟨yI, t9__50⟩]) fun r132 => (Option.bind (callT R n_impl_product o_impl_product [⟨yI, r66.1⟩, ⟨yI, r66.2.1⟩, ⟨yI, r66.2.2.1⟩, ⟨yL, r66.2.2.2.1⟩, ⟨yI, r132.1⟩, ⟨yI, r132.2.1⟩, ⟨yI, r132.2.2.1⟩, ⟨yL, r132.2.2.2.1⟩]) fun r133 => (impl_wrongSquare.j4 R N n10100 n1010011001111100 n101001100111110011001100 t6__47 t7__48 t8__49 t9__50 t10__51 t15__52 t16__53 t17__54 t31__55 t32__56 o1_57 o1_58 o1_59 o1_60 o11_61 o11_62 o11_63 o11_64 r133.1 r133.2.1 r133.2.2.1 r133.2.2.2.1))))) (Option.bind (callT R n_impl_direct o_impl_direct [⟨yK, o1_57⟩, ⟨yI, o1_58⟩, ⟨yL, o1_59⟩, ⟨yN, o1_60⟩, ⟨yI, t7__48⟩, ⟨yI, t10__51⟩]) fun r156 => (Option.bind (callT R n_impl_direct o_impl_direct [⟨yK, o1_57⟩, ⟨yI, o1_58⟩, ⟨yL, o1_59⟩, ⟨yN, o1_60⟩, ⟨yI, (y65, ()).1⟩, ⟨yI, t9__50⟩]) fun r157 => (Option.bind (callT R n_impl_product o_impl_product [⟨yI, r156.1⟩, ⟨yI, r156.2.1⟩, ⟨yI, r156.2.2.1⟩, ⟨yL, r156.2.2.2.1⟩, ⟨yI, r157.1⟩, ⟨yI, r157.2.1⟩, ⟨yI, r157.2.2.1⟩, ⟨yL, r157.2.2.2.1⟩]) fun r158 => (impl_wrongSquare.j4 R N n10100 n1010011001111100 n101001100111110011001100 t6__47 t7__48 t8__49 t9__50 t10__51 t15__52 t16__53 t17__54 t31__55 t32__56 o1_57 o1_58 o1_59 o1_60 o11_61 o11_62 o11_63 o11_64 r158.1 r158.2.1 r158.2.2.1 r158.2.2.2.1)))))) := (hw _ _).trans (by kernel_rfl)
theorem impl_wrongSquare.l2_succ (R : Run) (hw : R.ok) (N : Nat) (n10100 : Nat) (n1010011001111100 : Nat) (n : Nat) (t6__29 : (List Int)) (t7__30 : Int) (t8__31 : (List Int)) (t9__32 : Int) (t10__33 : Int) (t15__34 : vK) (t16__35 : Int) (t17__36 : Int) (t31__37 : Int) (t32__38 : Int) (o1_39 : vK) (o1_40 : Int) (o1_41 : (List Int)) (o1_42 : vN) : impl_wrongSquare.l2 R N n10100 n1010011001111100 (n + 1) t6__29 t7__30 t8__31 t9__32 t10__33 t15__34 t16__35 t17__36 t31__37 t32__38 o1_39 o1_40 o1_41 o1_42 = (bif (decide (t10__33 < (List.length t6__29 : Int))) then (Option.bind (idx? t8__31 t9__32) fun y43 => (both (Option.bind (callT R n_impl_direct o_impl_direct [⟨yK, o1_39⟩, ⟨yI, o1_40⟩, ⟨yL, o1_41⟩, ⟨yN, o1_42⟩, ⟨yI, t7__30⟩, ⟨yI, t9__32⟩]) fun r44 => (both (Option.bind (callT R n_impl_direct o_impl_direct [⟨yK, o1_39⟩, ⟨yI, o1_40⟩, ⟨yL, o1_41⟩, ⟨yN, o1_42⟩, ⟨yI, (y43, ()).1⟩, ⟨yI, (w64 (t10__33 - (1 : Int)))⟩]) fun r45 => (both (Option.bind (callT R n_impl_product o_impl_product [⟨yI, r44.1⟩, ⟨yI, r44.2.1⟩, ⟨yI, r44.2.2.1⟩, ⟨yL, r44.2.2.2.1⟩, ⟨yI, r45.1⟩, ⟨yI, r45.2.1⟩, ⟨yI, r45.2.2.1⟩, ⟨yL, r45.2.2.2.1⟩]) fun r46 => (impl_wrongSquare.j3 R N n10100 n1010011001111100 n t6__29 t7__30 t8__31 t9__32 t10__33 t15__34 t16__35 t17__36 t31__37 t32__38 o1_39 o1_40 o1_41 o1_42 r46.1 r46.2.1 r46.2.2.1 r46.2.2.2.1)) (Option.bind (callT R n_impl_product o_impl_product [⟨yI, r44.1⟩, ⟨yI, r44.2.1⟩, ⟨yI, r44.2.2.1⟩, ⟨yL, r44.2.2.2.1⟩, ⟨yI, r45.1⟩, ⟨yI, r45.2.1⟩, ⟨yI, r45.2.2.1⟩, ⟨yL, r45.2.2.2.1⟩]) fun r181 => (impl_wrongSquare.j3 R N n10100 n1010011001111100 n t6__29 t7__30 t8__31 t9__32 t10__33 t15__34 t16__35 t17__36 t31__37 t32__38 o1_39 o1_40 o1_41 o1_42 r181.1 r181.2.1 r181.2.2.1 r181.2.2.2.1)))) (Option.bind (callT R n_impl_direct o_impl_direct [⟨yK, o1_39⟩, ⟨yI, o1_40⟩, ⟨yL, o1_41⟩, ⟨yN, o1_42⟩, ⟨yI, (y43, ()).1⟩, ⟨yI, (w64 (t10__33 - (1 : Int)))⟩]) fun r200 => (Option.bind (callT R n_impl_product o_impl_product [⟨yI, r44.1⟩, ⟨yI, r44.2.1⟩, ⟨yI, r44.2.2.1⟩, ⟨yL, r44.2.2.2.1⟩, ⟨yI, r200.1⟩, ⟨yI, r200.2.1⟩, ⟨yI, r200.2.2.1⟩, ⟨yL, r200.2.2.2.1⟩]) fun r201 => (impl_wrongSquare.j3 R N n10100 n1010011001111100 n t6__29 t7__30 t8__31 t9__32 t10__33 t15__34 t16__35 t17__36 t31__37 t32__38 o1_39 o1_40 o1_41 o1_42 r201.1 r201.2.1 r201.2.2.1 r201.2.2.2.1))))) (Option.bind (callT R n_impl_direct o_impl_direct [⟨yK, o1_39⟩, ⟨yI, o1_40⟩, ⟨yL, o1_41⟩, ⟨yN, o1_42⟩, ⟨yI, t7__30⟩, ⟨yI, t9__32⟩]) fun r220 => (Option.bind (callT R n_impl_direct o_impl_direct [⟨yK, o1_39⟩, ⟨yI, o1_40⟩, ⟨yL, o1_41⟩, ⟨yN, o1_42⟩, ⟨yI, (y43, ()).1⟩, ⟨yI, (w64 (t10__33 - (1 : Int)))⟩]) fun r221 => (Option.bind (callT R n_impl_product o_impl_product [⟨yI, r220.1⟩, ⟨yI, r220.2.1⟩, ⟨yI, r220.2.2.1⟩, ⟨yL, r220.2.2.2.1⟩, ⟨yI, r221.1⟩, ⟨yI, r221.2.1⟩, ⟨yI, r221.2.2.1⟩, ⟨yL, r221.2.2.2.1⟩]) fun r222 => (impl_wrongSquare.j3 R N n10100 n1010011001111100 n t6__29 t7__30 t8__31 t9__32 t10__33 t15__34 t16__35 t17__36 t31__37 t32__38 o1_39 o1_40 o1_41 o1_42 r222.1 r222.2.1 r222.2.2.1 r222.2.2.2.1)))))) else (impl_wrongSquare.l1 R N n10100 n1010011001111100 t6__29 t7__30 t8__31 t15__34 t16__35 t17__36 t31__37 (w64 (t32__38 + (1 : Int))) o1_39 o1_40 o1_41 o1_42)) := (hw _ _).trans (by kernel_rfl)
theorem impl_wrongSquare.l1_succ (R : Run) (hw : R.ok) (N : Nat) (n10100 : Nat) (n : Nat) (t6__17 : (List Int)) (t7__18 : Int) (t8__19 : (List Int)) (t15__20 : vK) (t16__21 : Int) (t17__22 : Int) (t31__23 : Int) (t32__24 : Int) (o1_25 : vK) (o1_26 : Int) (o1_27 : (List Int)) (o1_28 : vN) : impl_wrongSquare.l1 R N n10100 (n + 1) t6__17 t7__18 t8__19 t15__20 t16__21 t17__22 t31__23 t32__24 o1_25 o1_26 o1_27 o1_28 = (bif (decide (t32__24 < t31__23)) then (impl_wrongSquare.l2 R N n10100 n N t6__17 t7__18 t8__19 t32__24 (w64 (t32__24 + (1 : Int))) t15__20 t16__21 t17__22 t31__23 t32__24 o1_25 o1_26 o1_27 o1_28) else (impl_wrongSquare.l0 R N n10100 t15__20 t16__21 (w64 (t17__22 + (1 : Int))) o1_25 o1_26 o1_27 o1_28)) := (hw _ _).trans (by kernel_rfl)
theorem impl_wrongSquare.l0_succ (R : Run) (hw : R.ok) (N : Nat) (n : Nat) (t15__1 : vK) (t16__2 : Int) (t17__3 : Int) (o1_4 : vK) (o1_5 : Int) (o1_6 : (List Int)) (o1_7 : vN) : impl_wrongSquare.l0 R N (n + 1) t15__1 t16__2 t17__3 o1_4 o1_5 o1_6 o1_7 = (bif (decide (t17__3 < t16__2)) then (Option.bind (idx? t15__1 t17__3) fun y8 => (bif (decide ((List.length (y8, ()).1 : Int) < (3 : Int))) then (impl_wrongSquare.l0 R N n t15__1 t16__2 (w64 (t17__3 + (1 : Int))) o1_4 o1_5 o1_6 o1_7) else (Option.bind (callT R n_impl_faceIndices o_impl_faceIndices [⟨yK, o1_4⟩, ⟨yI, t17__3⟩]) fun r16 => (impl_wrongSquare.l1 R N n N ((y8, ()).1) t17__3 r16.1 t15__1 t16__2 t17__3 (List.length (y8, ()).1 : Int) (0 : Int) o1_4 o1_5 o1_6 o1_7)))) else some ⟨o_impl_wrongSquare, ((0 : Int), (0 : Int), false, ())⟩) := (hw _ _).trans (by kernel_rfl)
theorem impl_wrongSquare.ev (R : Run) (N : Nat) (a0 : vK) (a1 : Int) (a2 : (List Int)) (a3 : vN) : evFn E R sg_impl_wrongSquare pol_impl_wrongSquare F_impl_wrongSquare N [⟨yK, a0⟩, ⟨yI, a1⟩, ⟨yL, a2⟩, ⟨yN, a3⟩] = (impl_wrongSquare.l0 R N N a0 (List.length a0 : Int) (0 : Int) a0 a1 a2 a3) := by kernel_rfl
/-! loop.example/g01005/impl.IsSheaf -/
theorem impl_IsSheaf.ev (R : Run) (N : Nat) (a0 : vK) (a1 : Int) (a2 : (List Int)) (a3 : vN) : evFn E R sg_impl_IsSheaf pol_impl_IsSheaf F_impl_IsSheaf N [⟨yK, a0⟩, ⟨yI, a1⟩, ⟨yL, a2⟩, ⟨yN, a3⟩] = (Option.bind (callT R n_impl_ValidSheaf o_impl_ValidSheaf [⟨yK, a0⟩, ⟨yI, a1⟩, ⟨yL, a2⟩, ⟨yN, a3⟩]) fun r1 => (bif (!r1.1) then some ⟨o_impl_IsSheaf, (false, ())⟩ else (Option.bind (callT R n_impl_wrongSquare o_impl_wrongSquare [⟨yK, a0⟩, ⟨yI, a1⟩, ⟨yL, a2⟩, ⟨yN, a3⟩]) fun r2 => some ⟨o_impl_IsSheaf, ((!r2.2.2.1), ())⟩))) := by kernel_rfl
/-! loop.example/g01005/impl.arePlaces -/
theorem impl_arePlaces.ev (R : Run) (N : Nat) (a0 : vK) (a1 : Int) (a2 : (List Int)) (a3 : vN) (a4 : (List Int)) : evFn E R sg_impl_arePlaces pol_impl_arePlaces F_impl_arePlaces N [⟨yK, a0⟩, ⟨yI, a1⟩, ⟨yL, a2⟩, ⟨yN, a3⟩, ⟨yL, a4⟩] = (Option.bind (callT R n_impl_isRising o_impl_isRising [⟨yL, a4⟩]) fun r1 => (bif r1.1 then (Option.bind (callT R n_impl_size_Sint64 o_impl_size_Sint64 [⟨yK, a0⟩]) fun r2 => (Option.bind (callT R n_impl_areElements o_impl_areElements [⟨yL, a4⟩, ⟨yI, r2.1⟩]) fun r3 => some ⟨o_impl_arePlaces, (r3.1, ())⟩)) else some ⟨o_impl_arePlaces, (false, ())⟩)) := by kernel_rfl
/-! loop.example/g01005/impl.placed -/
theorem impl_placed.ev (R : Run) (N : Nat) (a0 : vK) (a1 : Int) (a2 : (List Int)) (a3 : vN) (a4 : (List Int)) : evFn E R sg_impl_placed pol_impl_placed F_impl_placed N [⟨yK, a0⟩, ⟨yI, a1⟩, ⟨yL, a2⟩, ⟨yN, a3⟩, ⟨yL, a4⟩] = (Option.bind (callT R n_impl_IsSheaf o_impl_IsSheaf [⟨yK, a0⟩, ⟨yI, a1⟩, ⟨yL, a2⟩, ⟨yN, a3⟩]) fun r1 => (bif (!r1.1) then some ⟨o_impl_placed, ((1 : Int), ())⟩ else (Option.bind (callT R n_impl_arePlaces o_impl_arePlaces [⟨yK, a0⟩, ⟨yI, a1⟩, ⟨yL, a2⟩, ⟨yN, a3⟩, ⟨yL, a4⟩]) fun r2 => (bif (!r2.1) then some ⟨o_impl_placed, ((2 : Int), ())⟩ else some ⟨o_impl_placed, ((0 : Int), ())⟩)))) := by kernel_rfl
/-! loop.example/g01005/impl.offsets -/
noncomputable def impl_offsets.l0 (R : Run) (N : Nat) (n : Nat) (n_1 : Int) (t10__2 : (List Int)) (t11__3 : Int) (t12__4 : Int) (s_5 : vK) (s_6 : Int) (s_7 : (List Int)) (s_8 : vN) (o19_9 : (List Int)) : Option Dv := R.w (some ⟨(V.dead :: (V.dead :: (.c (.box 2 0) :: (zd 3 (.c (.arr 19) :: (.c (.d yI n_1) :: (V.dead :: (V.dead :: (.c (.d yL t10__2) :: (.c (.d yI t11__3) :: (.c (.d yI t12__4) :: (zd 17 [])))))))))))), (none :: (none :: (some (.box [.d yK s_5, .d yI s_6, .d yL s_7, .d yN s_8] false false) :: (zo 16 (some (.arr yI o19_9 true false false) :: (zo 15 []))))))⟩) fun st => loopC (evCode E R pol_impl_offsets N (sub [1, 1, 1, 0, 1, 0, 0] (bodyOf F_impl_offsets))) (maskAt R pol_impl_offsets.loopM 4) n st (kBlk (maskAt R pol_impl_offsets.blkM 0) 0 (kSeq (maskAt R pol_impl_offsets.seqM 9) (evCode E R pol_impl_offsets N (sub [1, 1, 1, 1] (bodyOf F_impl_offsets))) (kTop E sg_impl_offsets F_impl_offsets)))
theorem impl_offsets.l0_succ (R : Run) (hw : R.ok) (N : Nat) (n : Nat) (n_1 : Int) (t10__2 : (List Int)) (t11__3 : Int) (t12__4 : Int) (s_5 : vK) (s_6 : Int) (s_7 : (List Int)) (s_8 : vN) (o19_9 : (List Int)) : impl_offsets.l0 R N (n + 1) n_1 t10__2 t11__3 t12__4 s_5 s_6 s_7 s_8 o19_9 = (bif (decide (t12__4 < t11__3)) then (Option.bind (idx? t10__2 t12__4) fun y10 => (Option.bind (chk (decide ((List.length o19_9 + List.length [n_1]) * 8 ≤ 70368744177664))) fun _ => (Option.bind (idx? s_7 (y10, ()).1) fun y11 => (impl_offsets.l0 R N n (w64 (n_1 + (y11, ()).1)) t10__2 t11__3 (w64 (t12__4 + (1 : Int))) s_5 s_6 s_7 s_8 (o19_9 ++ [n_1]))))) else some ⟨o_impl_offsets, (o19_9, n_1, ())⟩) := (hw _ _).trans (by kernel_rfl)
theorem impl_offsets.ev (R : Run) (N : Nat) (a0 : vK) (a1 : Int) (a2 : (List Int)) (a3 : vN) (a4 : (List Int)) : evFn E R sg_impl_offsets pol_impl_offsets F_impl_offsets N [⟨yK, a0⟩, ⟨yI, a1⟩, ⟨yL, a2⟩, ⟨yN, a3⟩, ⟨yL, a4⟩] = (impl_offsets.l0 R N N (0 : Int) a4 (List.length a4 : Int) (0 : Int) a0 a1 a2 a3 ([] : List Int)) := by kernel_rfl
/-! loop.example/g01005/impl.isVector -/
theorem impl_isVector.ev (R : Run) (N : Nat) (a0 : (List Int)) (a1 : Int) (a2 : Int) : evFn E R sg_impl_isVector pol_impl_isVector F_impl_isVector N [⟨yL, a0⟩, ⟨yI, a1⟩, ⟨yI, a2⟩] = (Option.bind (callT R n_impl_size_int64 o_impl_size_int64 [⟨yL, a0⟩]) fun r1 => (bif (r1.1 == a1) then (Option.bind (callT R n_impl_areElements o_impl_areElements [⟨yL, a0⟩, ⟨yI, a2⟩]) fun r2 => some ⟨o_impl_isVector, (r2.1, ())⟩) else some ⟨o_impl_isVector, (false, ())⟩)) := by kernel_rfl
/-! loop.example/g01005/impl.localized -/
theorem impl_localized.ev (R : Run) (N : Nat) (a0 : vK) (a1 : Int) (a2 : (List Int)) (a3 : vN) (a4 : (List Int)) (a5 : (List Int)) : evFn E R sg_impl_localized pol_impl_localized F_impl_localized N [⟨yK, a0⟩, ⟨yI, a1⟩, ⟨yL, a2⟩, ⟨yN, a3⟩, ⟨yL, a4⟩, ⟨yL, a5⟩] = (Option.bind (callT R n_impl_placed o_impl_placed [⟨yK, a0⟩, ⟨yI, a1⟩, ⟨yL, a2⟩, ⟨yN, a3⟩, ⟨yL, a4⟩]) fun r1 => (bif (r1.1 != (0 : Int)) then some ⟨o_impl_localized, (r1.1, ())⟩ else (Option.bind (callT R n_impl_offsets o_impl_offsets [⟨yK, a0⟩, ⟨yI, a1⟩, ⟨yL, a2⟩, ⟨yN, a3⟩, ⟨yL, a4⟩]) fun r2 => (Option.bind (callT R n_impl_isVector o_impl_isVector [⟨yL, a5⟩, ⟨yI, r2.2.1⟩, ⟨yI, a1⟩]) fun r3 => (bif (!r3.1) then some ⟨o_impl_localized, ((7 : Int), ())⟩ else some ⟨o_impl_localized, ((0 : Int), ())⟩))))) := by kernel_rfl
end VeT

open Go Go.Proofs Ve
set_option linter.unusedVariables false
set_option maxRecDepth 100000
namespace VeT
/-! slices.Index[[]int64,int64] -/
noncomputable def slices_Index_Sint64_int64.l0 (R : Run) (N : Nat) (n : Nat) (s_1 : (List Int)) (v_2 : Int) (t7__3 : Int) (t8__4 : Int) : Option Dv := R.w (some ⟨(.c (.d yL s_1) :: (.c (.d yI v_2) :: (zd 5 (.c (.d yI t7__3) :: (.c (.d yI t8__4) :: (zd 10 [])))))), (zo 21 [])⟩) fun st => loopC (evCode E R pol_slices_Index_Sint64_int64 N (sub [1, 0, 1, 0, 0] (bodyOf F_slices_Index_Sint64_int64))) (maskAt R pol_slices_Index_Sint64_int64.loopM 2) n st (kBlk (maskAt R pol_slices_Index_Sint64_int64.blkM 0) 0 (kSeq (maskAt R pol_slices_Index_Sint64_int64.seqM 7) (evCode E R pol_slices_Index_Sint64_int64 N (sub [1, 1] (bodyOf F_slices_Index_Sint64_int64))) (kTop E sg_slices_Index_Sint64_int64 F_slices_Index_Sint64_int64)))
theorem slices_Index_Sint64_int64.l0_succ (R : Run) (hw : R.ok) (N : Nat) (n : Nat) (s_1 : (List Int)) (v_2 : Int) (t7__3 : Int) (t8__4 : Int) : slices_Index_Sint64_int64.l0 R N (n + 1) s_1 v_2 t7__3 t8__4 = (bif (decide (t8__4 < t7__3)) then (Option.bind (idx? s_1 t8__4) fun y5 => (bif (v_2 == (y5, ()).1) then some ⟨o_slices_Index_Sint64_int64, (t8__4, ())⟩ else (slices_Index_Sint64_int64.l0 R N n s_1 v_2 t7__3 (w64 (t8__4 + (1 : Int)))))) else some ⟨o_slices_Index_Sint64_int64, ((-1 : Int), ())⟩) := (hw _ _).trans (by kernel_rfl)
theorem slices_Index_Sint64_int64.ev (R : Run) (N : Nat) (a0 : (List Int)) (a1 : Int) : evFn E R sg_slices_Index_Sint64_int64 pol_slices_Index_Sint64_int64 F_slices_Index_Sint64_int64 N [⟨yL, a0⟩, ⟨yI, a1⟩] = (slices_Index_Sint64_int64.l0 R N N a0 a1 (List.length a0 : Int) (0 : Int)) := by kernel_rfl
/-! slices.Contains[[]int64,int64] -/
theorem slices_Contains_Sint64_int64.ev (R : Run) (N : Nat) (a0 : (List Int)) (a1 : Int) : evFn E R sg_slices_Contains_Sint64_int64 pol_slices_Contains_Sint64_int64 F_slices_Contains_Sint64_int64 N [⟨yL, a0⟩, ⟨yI, a1⟩] = (Option.bind (callT R n_slices_Index_Sint64_int64 o_slices_Index_Sint64_int64 [⟨yL, a0⟩, ⟨yI, a1⟩]) fun r1 => some ⟨o_slices_Contains_Sint64_int64, ((decide (r1.1 ≥ (0 : Int))), ())⟩) := by kernel_rfl
/-! loop.example/g01005/impl.isFace$1 -/
theorem impl_isFace_1.ev (R : Run) (N : Nat) (a0 : Int) (a1 : ((List Int) × Unit)) : evFn E R sg_impl_isFace_1 pol_impl_isFace_1 F_impl_isFace_1 N [⟨yI, a0⟩, ⟨(.ptr (.cons yL .nil)), a1⟩] = (Option.bind (callT R n_slices_Contains_Sint64_int64 o_slices_Contains_Sint64_int64 [⟨yL, a1.1⟩, ⟨yI, a0⟩]) fun r1 => some ⟨o_impl_isFace_1, ((!r1.1), ())⟩) := by kernel_rfl
/-! slices.IndexFunc[[]int64,int64] -/
noncomputable def slices_IndexFunc_Sint64_int64_impl_isFace_1.l0 (R : Run) (N : Nat) (n : Nat) (s_1 : (List Int)) (f_2 : (((List Int) × Unit) × Unit)) (t7__3 : Int) (t8__4 : Int) : Option Dv := R.w (some ⟨(.c (.d yL s_1) :: (.c (.d (.fn n_impl_isFace_1 (.cons (.ptr (.cons yL .nil)) .nil)) f_2) :: (zd 5 (.c (.d yI t7__3) :: (.c (.d yI t8__4) :: (zd 10 [])))))), (zo 21 [])⟩) fun st => loopC (evCode E R pol_slices_IndexFunc_Sint64_int64 N (sub [1, 0, 1, 0, 0] (bodyOf F_slices_IndexFunc_Sint64_int64))) (maskAt R pol_slices_IndexFunc_Sint64_int64.loopM 2) n st (kBlk (maskAt R pol_slices_IndexFunc_Sint64_int64.blkM 0) 0 (kSeq (maskAt R pol_slices_IndexFunc_Sint64_int64.seqM 7) (evCode E R pol_slices_IndexFunc_Sint64_int64 N (sub [1, 1] (bodyOf F_slices_IndexFunc_Sint64_int64))) (kTop E sg_slices_IndexFunc_Sint64_int64 F_slices_IndexFunc_Sint64_int64)))
theorem slices_IndexFunc_Sint64_int64_impl_isFace_1.l0_succ (R : Run) (hw : R.ok) (N : Nat) (n : Nat) (s_1 : (List Int)) (f_2 : (((List Int) × Unit) × Unit)) (t7__3 : Int) (t8__4 : Int) : slices_IndexFunc_Sint64_int64_impl_isFace_1.l0 R N (n + 1) s_1 f_2 t7__3 t8__4 = (bif (decide (t8__4 < t7__3)) then (Option.bind (idx? s_1 t8__4) fun y5 => (Option.bind (callT R n_impl_isFace_1 o_impl_isFace_1 [⟨yI, (y5, ()).1⟩, ⟨(.ptr (.cons yL .nil)), f_2.1⟩]) fun r6 => (bif r6.1 then some ⟨o_slices_IndexFunc_Sint64_int64, (t8__4, ())⟩ else (slices_IndexFunc_Sint64_int64_impl_isFace_1.l0 R N n s_1 f_2 t7__3 (w64 (t8__4 + (1 : Int))))))) else some ⟨o_slices_IndexFunc_Sint64_int64, ((-1 : Int), ())⟩) := (hw _ _).trans (by kernel_rfl)
theorem slices_IndexFunc_Sint64_int64_impl_isFace_1.ev (R : Run) (N : Nat) (a0 : (List Int)) (a1 : (((List Int) × Unit) × Unit)) : evFn E R sg_slices_IndexFunc_Sint64_int64 pol_slices_IndexFunc_Sint64_int64 F_slices_IndexFunc_Sint64_int64 N [⟨yL, a0⟩, ⟨(.fn n_impl_isFace_1 (.cons (.ptr (.cons yL .nil)) .nil)), a1⟩] = (slices_IndexFunc_Sint64_int64_impl_isFace_1.l0 R N N a0 a1 (List.length a0 : Int) (0 : Int)) := by kernel_rfl
/-! slices.ContainsFunc[[]int64,int64] -/
theorem slices_ContainsFunc_Sint64_int64_impl_isFace_1.ev (R : Run) (N : Nat) (a0 : (List Int)) (a1 : (((List Int) × Unit) × Unit)) : evFn E R sg_slices_ContainsFunc_Sint64_int64 pol_slices_ContainsFunc_Sint64_int64 F_slices_ContainsFunc_Sint64_int64 N [⟨yL, a0⟩, ⟨(.fn n_impl_isFace_1 (.cons (.ptr (.cons yL .nil)) .nil)), a1⟩] = (Option.bind (callT R n_slices_IndexFunc_Sint64_int64 o_slices_IndexFunc_Sint64_int64 [⟨yL, a0⟩, ⟨(.fn n_impl_isFace_1 (.cons (.ptr (.cons yL .nil)) .nil)), a1⟩]) fun r1 => some ⟨o_slices_ContainsFunc_Sint64_int64, ((decide (r1.1 ≥ (0 : Int))), ())⟩) := by kernel_rfl
/-! loop.example/g01005/impl.isFace -/
theorem impl_isFace.ev (R : Run) (N : Nat) (a0 : (List Int)) (a1 : (List Int)) : evFn E R sg_impl_isFace pol_impl_isFace F_impl_isFace N [⟨yL, a0⟩, ⟨yL, a1⟩] = (Option.bind (callT R n_slices_ContainsFunc_Sint64_int64 o_slices_ContainsFunc_Sint64_int64 [⟨yL, a0⟩, ⟨(.fn n_impl_isFace_1 (.cons (.ptr (.cons yL .nil)) .nil)), ((a1, ()), ())⟩]) fun r1 => some ⟨o_impl_isFace, ((!r1.1), ())⟩) := by kernel_rfl
/-! loop.example/g01005/impl.unit$1 -/
theorem impl_unit_1.ev (R : Run) (N : Nat) (a0 : Int) (a1 : Int) : evFn E R sg_impl_unit_1 pol_impl_unit_1 F_impl_unit_1 N [⟨yI, a0⟩, ⟨yI, a1⟩] = (bif (a0 == a1) then some ⟨o_impl_unit_1, ((1 : Int), ())⟩ else some ⟨o_impl_unit_1, ((0 : Int), ())⟩) := by kernel_rfl
/-! loop.example/g01005/impl.filled -/
noncomputable def impl_filled_impl_unit_1.l1 (R : Run) (N : Nat) (n110100 : Nat) (n : Nat) (columns_11 : Int) (i_12 : Int) (t16__13 : Int) (t17__14 : Int) (t20__15 : Int) (t21__16 : Int) (o8_17 : Int) (o8_18 : Int) (o8_19 : Int) (m_20 : Int) (m_21 : Int) (m_22 : Int) (o31_23 : (List Int)) : Option Dv := R.w (some ⟨(V.dead :: (V.dead :: (.c (.d yI columns_11) :: (.c (.d (.fn n_impl_unit_1 .nil) ()) :: (zd 4 (.c (.box 8 0) :: (.c (.box 9 0) :: (.c (.d yI i_12) :: (zd 5 (.c (.d yI t16__13) :: (.c (.d yI t17__14) :: (V.dead :: (V.dead :: (.c (.d yI t20__15) :: (.c (.d yI t21__16) :: (zd 14 [])))))))))))))))), (zo 8 (some (.box [.d yI o8_17, .d yI o8_18, .d yI o8_19, .nils yI] false false) :: (some (.box [.d yI m_20, .d yI m_21, .d yI m_22, .arr 31] false false) :: (zo 21 (some (.arr yI o31_23 true false false) :: (zo 8 []))))))⟩) fun st => loopC (evCode E R pol_impl_filled N (sub [1, 1, 0, 1, 0, 0, 1, 1, 0, 0, 1, 1, 0, 0] (bodyOf F_impl_filled))) (maskAt R pol_impl_filled.loopM 6) n st (kBlk (maskAt R pol_impl_filled.blkM 2) 2 (kBlk (maskAt R pol_impl_filled.blkM 1) 1 (kSeq (maskAt R pol_impl_filled.seqM 10) (evCode E R pol_impl_filled N (sub [1, 1, 0, 1, 0, 0, 1, 1, 1] (bodyOf F_impl_filled))) (kLoop (evCode E R pol_impl_filled N (sub [1, 1, 0, 1, 0, 0] (bodyOf F_impl_filled))) (maskAt R pol_impl_filled.loopM 3) n110100 (kBlk (maskAt R pol_impl_filled.blkM 0) 0 (kSeq (maskAt R pol_impl_filled.seqM 11) (evCode E R pol_impl_filled N (sub [1, 1, 1] (bodyOf F_impl_filled))) (kTop E sg_impl_filled F_impl_filled)))))))
noncomputable def impl_filled_impl_unit_1.l0 (R : Run) (N : Nat) (n : Nat) (columns_1 : Int) (t16__2 : Int) (t17__3 : Int) (o8_4 : Int) (o8_5 : Int) (o8_6 : Int) (m_7 : Int) (m_8 : Int) (m_9 : Int) (o31_10 : (List Int)) : Option Dv := R.w (some ⟨(V.dead :: (V.dead :: (.c (.d yI columns_1) :: (.c (.d (.fn n_impl_unit_1 .nil) ()) :: (zd 4 (.c (.box 8 0) :: (.c (.box 9 0) :: (zd 6 (.c (.d yI t16__2) :: (.c (.d yI t17__3) :: (zd 18 []))))))))))), (zo 8 (some (.box [.d yI o8_4, .d yI o8_5, .d yI o8_6, .nils yI] false false) :: (some (.box [.d yI m_7, .d yI m_8, .d yI m_9, .arr 31] false false) :: (zo 21 (some (.arr yI o31_10 true false false) :: (zo 8 []))))))⟩) fun st => loopC (evCode E R pol_impl_filled N (sub [1, 1, 0, 1, 0, 0] (bodyOf F_impl_filled))) (maskAt R pol_impl_filled.loopM 3) n st (kBlk (maskAt R pol_impl_filled.blkM 0) 0 (kSeq (maskAt R pol_impl_filled.seqM 11) (evCode E R pol_impl_filled N (sub [1, 1, 1] (bodyOf F_impl_filled))) (kTop E sg_impl_filled F_impl_filled)))
theorem impl_filled_impl_unit_1.l1_succ (R : Run) (hw : R.ok) (N : Nat) (n110100 : Nat) (n : Nat) (columns_11 : Int) (i_12 : Int) (t16__13 : Int) (t17__14 : Int) (t20__15 : Int) (t21__16 : Int) (o8_17 : Int) (o8_18 : Int) (o8_19 : Int) (m_20 : Int) (m_21 : Int) (m_22 : Int) (o31_23 : (List Int)) : impl_filled_impl_unit_1.l1 R N n110100 (n + 1) columns_11 i_12 t16__13 t17__14 t20__15 t21__16 o8_17 o8_18 o8_19 m_20 m_21 m_22 o31_23 = (bif (decide (t21__16 < t20__15)) then (Option.bind (callT R n_impl_unit_1 o_impl_unit_1 [⟨yI, i_12⟩, ⟨yI, t21__16⟩]) fun r24 => (Option.bind (chk (decide ((List.length o31_23 + List.length [r24.1]) * 8 ≤ 70368744177664))) fun _ => (impl_filled_impl_unit_1.l1 R N n110100 n columns_11 i_12 t16__13 t17__14 t20__15 (w64 (t21__16 + (1 : Int))) o8_17 o8_18 o8_19 m_20 m_21 m_22 (o31_23 ++ [r24.1])))) else (impl_filled_impl_unit_1.l0 R N n110100 columns_11 t16__13 (w64 (t17__14 + (1 : Int))) o8_17 o8_18 o8_19 m_20 m_21 m_22 o31_23)) := (hw _ _).trans (by kernel_rfl)
theorem impl_filled_impl_unit_1.l0_succ (R : Run) (hw : R.ok) (N : Nat) (n : Nat) (columns_1 : Int) (t16__2 : Int) (t17__3 : Int) (o8_4 : Int) (o8_5 : Int) (o8_6 : Int) (m_7 : Int) (m_8 : Int) (m_9 : Int) (o31_10 : (List Int)) : impl_filled_impl_unit_1.l0 R N (n + 1) columns_1 t16__2 t17__3 o8_4 o8_5 o8_6 m_7 m_8 m_9 o31_10 = (bif (decide (t17__3 < t16__2)) then (impl_filled_impl_unit_1.l1 R N n N columns_1 t17__3 t16__2 t17__3 columns_1 (0 : Int) o8_4 o8_5 o8_6 m_7 m_8 m_9 o31_10) else some ⟨o_impl_filled, (m_7, m_8, m_9, o31_10, ())⟩) := (hw _ _).trans (by kernel_rfl)
theorem impl_filled_impl_unit_1.ev (R : Run) (N : Nat) (a0 : Int) (a1 : Int) (a2 : Int) : evFn E R sg_impl_filled pol_impl_filled F_impl_filled N [⟨yI, a0⟩, ⟨yI, a1⟩, ⟨yI, a2⟩, ⟨(.fn n_impl_unit_1 .nil), ()⟩] = (impl_filled_impl_unit_1.l0 R N N a2 a1 (0 : Int) (0 : Int) (0 : Int) (0 : Int) a0 a1 a2 ([] : List Int)) := by kernel_rfl
/-! loop.example/g01005/impl.unit -/
theorem impl_unit.ev (R : Run) (N : Nat) (a0 : Int) (a1 : Int) : evFn E R sg_impl_unit pol_impl_unit F_impl_unit N [⟨yI, a0⟩, ⟨yI, a1⟩] = (Option.bind (callT R n_impl_filled o_impl_filled [⟨yI, a0⟩, ⟨yI, a1⟩, ⟨yI, a1⟩, ⟨(.fn n_impl_unit_1 .nil), ()⟩]) fun r1 => some ⟨o_impl_unit, (r1.1, r1.2.1, r1.2.2.1, r1.2.2.2.1, ())⟩) := by kernel_rfl
/-! loop.example/g01005/impl.restriction$1 -/
theorem impl_restriction_1.ev (R : Run) (N : Nat) (a0 : Int) (a1 : ((List Int) × Unit)) : evFn E R sg_impl_restriction_1 pol_impl_restriction_1 F_impl_restriction_1 N [⟨yI, a0⟩, ⟨(.ptr (.cons yL .nil)), a1⟩] = (Option.bind (callT R n_slices_Contains_Sint64_int64 o_slices_Contains_Sint64_int64 [⟨yL, a1.1⟩, ⟨yI, a0⟩]) fun r1 => some ⟨o_impl_restriction_1, ((!r1.1), ())⟩) := by kernel_rfl
/-! slices.IndexFunc[[]int64,int64] -/
noncomputable def slices_IndexFunc_Sint64_int64_impl_restriction_1.l0 (R : Run) (N : Nat) (n : Nat) (s_1 : (List Int)) (f_2 : (((List Int) × Unit) × Unit)) (t7__3 : Int) (t8__4 : Int) : Option Dv := R.w (some ⟨(.c (.d yL s_1) :: (.c (.d (.fn n_impl_restriction_1 (.cons (.ptr (.cons yL .nil)) .nil)) f_2) :: (zd 5 (.c (.d yI t7__3) :: (.c (.d yI t8__4) :: (zd 10 [])))))), (zo 21 [])⟩) fun st => loopC (evCode E R pol_slices_IndexFunc_Sint64_int64 N (sub [1, 0, 1, 0, 0] (bodyOf F_slices_IndexFunc_Sint64_int64))) (maskAt R pol_slices_IndexFunc_Sint64_int64.loopM 2) n st (kBlk (maskAt R pol_slices_IndexFunc_Sint64_int64.blkM 0) 0 (kSeq (maskAt R pol_slices_IndexFunc_Sint64_int64.seqM 7) (evCode E R pol_slices_IndexFunc_Sint64_int64 N (sub [1, 1] (bodyOf F_slices_IndexFunc_Sint64_int64))) (kTop E sg_slices_IndexFunc_Sint64_int64 F_slices_IndexFunc_Sint64_int64)))
theorem slices_IndexFunc_Sint64_int64_impl_restriction_1.l0_succ (R : Run) (hw : R.ok) (N : Nat) (n : Nat) (s_1 : (List Int)) (f_2 : (((List Int) × Unit) × Unit)) (t7__3 : Int) (t8__4 : Int) : slices_IndexFunc_Sint64_int64_impl_restriction_1.l0 R N (n + 1) s_1 f_2 t7__3 t8__4 = (bif (decide (t8__4 < t7__3)) then (Option.bind (idx? s_1 t8__4) fun y5 => (Option.bind (callT R n_impl_restriction_1 o_impl_restriction_1 [⟨yI, (y5, ()).1⟩, ⟨(.ptr (.cons yL .nil)), f_2.1⟩]) fun r6 => (bif r6.1 then some ⟨o_slices_IndexFunc_Sint64_int64, (t8__4, ())⟩ else (slices_IndexFunc_Sint64_int64_impl_restriction_1.l0 R N n s_1 f_2 t7__3 (w64 (t8__4 + (1 : Int))))))) else some ⟨o_slices_IndexFunc_Sint64_int64, ((-1 : Int), ())⟩) := (hw _ _).trans (by kernel_rfl)
theorem slices_IndexFunc_Sint64_int64_impl_restriction_1.ev (R : Run) (N : Nat) (a0 : (List Int)) (a1 : (((List Int) × Unit) × Unit)) : evFn E R sg_slices_IndexFunc_Sint64_int64 pol_slices_IndexFunc_Sint64_int64 F_slices_IndexFunc_Sint64_int64 N [⟨yL, a0⟩, ⟨(.fn n_impl_restriction_1 (.cons (.ptr (.cons yL .nil)) .nil)), a1⟩] = (slices_IndexFunc_Sint64_int64_impl_restriction_1.l0 R N N a0 a1 (List.length a0 : Int) (0 : Int)) := by kernel_rfl
/-! loop.example/g01005/impl.restriction -/
theorem impl_restriction.ev (R : Run) (N : Nat) (a0 : vK) (a1 : Int) (a2 : (List Int)) (a3 : vN) (a4 : Int) (a5 : Int) : evFn E R sg_impl_restriction pol_impl_restriction F_impl_restriction N [⟨yK, a0⟩, ⟨yI, a1⟩, ⟨yL, a2⟩, ⟨yN, a3⟩, ⟨yI, a4⟩, ⟨yI, a5⟩] = (bif (a4 == a5) then (Option.bind (idx? a2 a4) fun y1 => (Option.bind (callT R n_impl_unit o_impl_unit [⟨yI, a1⟩, ⟨yI, (y1, ()).1⟩]) fun r2 => some ⟨o_impl_restriction, (r2.1, r2.2.1, r2.2.2.1, r2.2.2.2.1, ())⟩)) else (Option.bind (idx? a0 a4) fun y3 => (Option.bind (idx? a0 a5) fun y4 => (Option.bind (callT R n_slices_IndexFunc_Sint64_int64 o_slices_IndexFunc_Sint64_int64 [⟨yL, (y4, ()).1⟩, ⟨(.fn n_impl_restriction_1 (.cons (.ptr (.cons yL .nil)) .nil)), (((y3, ()).1, ()), ())⟩]) fun r5 => (Option.bind (callT R n_impl_faceIndices o_impl_faceIndices [⟨yK, a0⟩, ⟨yI, a5⟩]) fun r6 => (Option.bind (idx? r6.1 r5.1) fun y7 => (Option.bind (callT R n_impl_direct o_impl_direct [⟨yK, a0⟩, ⟨yI, a1⟩, ⟨yL, a2⟩, ⟨yN, a3⟩, ⟨yI, a5⟩, ⟨yI, r5.1⟩]) fun r8 => (Option.bind (callT R n_impl_restriction o_impl_restriction [⟨yK, a0⟩, ⟨yI, a1⟩, ⟨yL, a2⟩, ⟨yN, a3⟩, ⟨yI, a4⟩, ⟨yI, (y7, ()).1⟩]) fun r9 => (Option.bind (callT R n_impl_product o_impl_product [⟨yI, r8.1⟩, ⟨yI, r8.2.1⟩, ⟨yI, r8.2.2.1⟩, ⟨yL, r8.2.2.2.1⟩, ⟨yI, r9.1⟩, ⟨yI, r9.2.1⟩, ⟨yI, r9.2.2.1⟩, ⟨yL, r9.2.2.2.1⟩]) fun r10 => some ⟨o_impl_restriction, (r10.1, r10.2.1, r10.2.2.1, r10.2.2.2.1, ())⟩))))))))) := by kernel_rfl
/-! loop.example/g01005/impl.conflict$1 -/
theorem impl_conflict_1.ev (R : Run) (N : Nat) (a0 : Int) (a1 : ((List Int) × Unit)) (a2 : ((List Int) × Unit)) (a3 : vS) (a4 : ((List Int) × Unit)) : evFn E R sg_impl_conflict_1 pol_impl_conflict_1 F_impl_conflict_1 N [⟨yI, a0⟩, ⟨(.ptr (.cons yL .nil)), a1⟩, ⟨(.ptr (.cons yL .nil)), a2⟩, ⟨(.ptr yS), a3⟩, ⟨(.ptr (.cons yL .nil)), a4⟩] = (Option.bind (idx? a2.1 a0) fun y1 => (Option.bind (idx? a2.1 a0) fun y2 => (Option.bind (idx? a4.1 a0) fun y3 => (Option.bind (idx? a3.2.2.1 (y3, ()).1) fun y4 => (Option.bind (chk (decide (0 ≤ (y1, ()).1) && decide ((y1, ()).1 ≤ (w64 ((y2, ()).1 + (y4, ()).1))) && decide ((w64 ((y2, ()).1 + (y4, ()).1)) ≤ (List.length a1.1 : Int)))) fun _ => some ⟨o_impl_conflict_1, ((List.drop (Int.toNat (y1, ()).1) (List.take (Int.toNat (w64 ((y2, ()).1 + (y4, ()).1))) a1.1)), ())⟩))))) := by kernel_rfl
/-! loop.example/g01005/impl.apply -/
noncomputable def impl_apply.l0 (R : Run) (N : Nat) (n : Nat) (v_1 : (List Int)) (t8__2 : Int) (t9__3 : Int) (m_4 : Int) (m_5 : Int) (m_6 : Int) (m_7 : (List Int)) (o21_8 : (List Int)) : Option Dv := R.w (some ⟨(V.dead :: (.c (.d yL v_1) :: (.c (.box 2 0) :: (V.dead :: (V.dead :: (.c (.arr 21) :: (V.dead :: (V.dead :: (.c (.d yI t8__2) :: (.c (.d yI t9__3) :: (zd 14 []))))))))))), (none :: (none :: (some (.box [.d yI m_4, .d yI m_5, .d yI m_6, .d yL m_7] false false) :: (zo 18 (some (.arr yI o21_8 true false false) :: (zo 7 []))))))⟩) fun st => loopC (evCode E R pol_impl_apply N (sub [1, 1, 0, 1, 0, 0] (bodyOf F_impl_apply))) (maskAt R pol_impl_apply.loopM 3) n st (kBlk (maskAt R pol_impl_apply.blkM 0) 0 (kSeq (maskAt R pol_impl_apply.seqM 7) (evCode E R pol_impl_apply N (sub [1, 1, 1] (bodyOf F_impl_apply))) (kTop E sg_impl_apply F_impl_apply)))
theorem impl_apply.l0_succ (R : Run) (hw : R.ok) (N : Nat) (n : Nat) (v_1 : (List Int)) (t8__2 : Int) (t9__3 : Int) (m_4 : Int) (m_5 : Int) (m_6 : Int) (m_7 : (List Int)) (o21_8 : (List Int)) : impl_apply.l0 R N (n + 1) v_1 t8__2 t9__3 m_4 m_5 m_6 m_7 o21_8 = (bif (decide (t9__3 < t8__2)) then (Option.bind (callT R n_impl_Matrix_row o_impl_Matrix_row [⟨yI, m_4⟩, ⟨yI, m_5⟩, ⟨yI, m_6⟩, ⟨yL, m_7⟩, ⟨yI, t9__3⟩]) fun r9 => (Option.bind (callT R n_impl_dot o_impl_dot [⟨yL, r9.1⟩, ⟨yL, v_1⟩, ⟨yI, m_4⟩]) fun r10 => (Option.bind (chk (decide ((List.length o21_8 + List.length [r10.1]) * 8 ≤ 70368744177664))) fun _ => (impl_apply.l0 R N n v_1 t8__2 (w64 (t9__3 + (1 : Int))) m_4 m_5 m_6 m_7 (o21_8 ++ [r10.1]))))) else some ⟨o_impl_apply, (o21_8, ())⟩) := (hw _ _).trans (by kernel_rfl)
theorem impl_apply.ev (R : Run) (N : Nat) (a0 : Int) (a1 : Int) (a2 : Int) (a3 : (List Int)) (a4 : (List Int)) : evFn E R sg_impl_apply pol_impl_apply F_impl_apply N [⟨yI, a0⟩, ⟨yI, a1⟩, ⟨yI, a2⟩, ⟨yL, a3⟩, ⟨yL, a4⟩] = (impl_apply.l0 R N N a4 a1 (0 : Int) a0 a1 a2 a3 ([] : List Int)) := by kernel_rfl
/-! loop.example/g01005/impl.conflict -/
noncomputable def impl_conflict.j2 (R : Run) (N : Nat) (n1110100 : Nat) (n111010011001100 : Nat) (t11__27 : (((List Int) × Unit) × ((List Int) × Unit) × vS × ((List Int) × Unit) × Unit)) (t12__28 : Int) (t13__29 : Int) (t14__30 : Int) (t15__31 : Int) (t23__32 : (List Int)) (t24__33 : Int) (t25__34 : Int) (t30__35 : (List Int)) (t31__36 : Int) (t32__37 : Int) (t55__38 : Bool) (o3_39 : vK) (o3_40 : Int) (o3_41 : (List Int)) (o3_42 : vN) (o4_43 : (List Int)) : Option Dv := R.w (some ⟨(zd 3 (.c (.box 3 0) :: (.c (.box 4 0) :: (zd 6 (.c (.d (.fn n_impl_conflict_1 (.cons (.ptr (.cons yL .nil)) (.cons (.ptr (.cons yL .nil)) (.cons (.ptr yS) (.cons (.ptr (.cons yL .nil)) .nil))))) t11__27) :: (.c (.d yI t12__28) :: (.c (.d yI t13__29) :: (.c (.d yI t14__30) :: (.c (.d yI t15__31) :: (zd 7 (.c (.d yL t23__32) :: (.c (.d yI t24__33) :: (.c (.d yI t25__34) :: (zd 4 (.c (.d yL t30__35) :: (.c (.d yI t31__36) :: (.c (.d yI t32__37) :: (zd 22 (.c (.d .bool t55__38) :: (zd 17 [])))))))))))))))))))), (zo 3 (some (.box [.d yK o3_39, .d yI o3_40, .d yL o3_41, .d yN o3_42] true false) :: (some (.box [.d yL o4_43] true false) :: (zo 74 []))))⟩) fun st => evCode E R pol_impl_conflict N (sub [1, 1, 1, 0, 1, 0, 0, 1, 1, 0, 0, 1, 1, 0, 0, 1, 1, 0, 0, 1, 0, 1] (bodyOf F_impl_conflict)) st (kSeq (maskAt R pol_impl_conflict.seqM 10) (evCode E R pol_impl_conflict N (sub [1, 1, 1, 0, 1, 0, 0, 1, 1, 0, 0, 1, 1, 0, 0, 1, 1, 0, 0, 1, 1] (bodyOf F_impl_conflict))) (kBlk (maskAt R pol_impl_conflict.blkM 3) 3 (kSeq (maskAt R pol_impl_conflict.seqM 12) (evCode E R pol_impl_conflict N (sub [1, 1, 1, 0, 1, 0, 0, 1, 1, 0, 0, 1, 1, 0, 0, 1, 1, 1] (bodyOf F_impl_conflict))) (kLoop (evCode E R pol_impl_conflict N (sub [1, 1, 1, 0, 1, 0, 0, 1, 1, 0, 0, 1, 1, 0, 0] (bodyOf F_impl_conflict))) (maskAt R pol_impl_conflict.loopM 7) n111010011001100 (kBlk (maskAt R pol_impl_conflict.blkM 2) 2 (kBlk (maskAt R pol_impl_conflict.blkM 1) 1 (kSeq (maskAt R pol_impl_conflict.seqM 13) (evCode E R pol_impl_conflict N (sub [1, 1, 1, 0, 1, 0, 0, 1, 1, 1] (bodyOf F_impl_conflict))) (kLoop (evCode E R pol_impl_conflict N (sub [1, 1, 1, 0, 1, 0, 0] (bodyOf F_impl_conflict))) (maskAt R pol_impl_conflict.loopM 4) n1110100 (kBlk (maskAt R pol_impl_conflict.blkM 0) 0 (kSeq (maskAt R pol_impl_conflict.seqM 14) (evCode E R pol_impl_conflict N (sub [1, 1, 1, 1] (bodyOf F_impl_conflict))) (kTop E sg_impl_conflict F_impl_conflict)))))))))))
noncomputable def impl_conflict.l1 (R : Run) (N : Nat) (n1110100 : Nat) (n : Nat) (t11__12 : (((List Int) × Unit) × ((List Int) × Unit) × vS × ((List Int) × Unit) × Unit)) (t12__13 : Int) (t13__14 : Int) (t23__15 : (List Int)) (t24__16 : Int) (t25__17 : Int) (t30__18 : (List Int)) (t31__19 : Int) (t32__20 : Int) (o3_21 : vK) (o3_22 : Int) (o3_23 : (List Int)) (o3_24 : vN) (o4_25 : (List Int)) : Option Dv := R.w (some ⟨(zd 3 (.c (.box 3 0) :: (.c (.box 4 0) :: (zd 6 (.c (.d (.fn n_impl_conflict_1 (.cons (.ptr (.cons yL .nil)) (.cons (.ptr (.cons yL .nil)) (.cons (.ptr yS) (.cons (.ptr (.cons yL .nil)) .nil))))) t11__12) :: (.c (.d yI t12__13) :: (.c (.d yI t13__14) :: (zd 9 (.c (.d yL t23__15) :: (.c (.d yI t24__16) :: (.c (.d yI t25__17) :: (zd 4 (.c (.d yL t30__18) :: (.c (.d yI t31__19) :: (.c (.d yI t32__20) :: (zd 40 [])))))))))))))))), (zo 3 (some (.box [.d yK o3_21, .d yI o3_22, .d yL o3_23, .d yN o3_24] true false) :: (some (.box [.d yL o4_25] true false) :: (zo 74 []))))⟩) fun st => loopC (evCode E R pol_impl_conflict N (sub [1, 1, 1, 0, 1, 0, 0, 1, 1, 0, 0, 1, 1, 0, 0] (bodyOf F_impl_conflict))) (maskAt R pol_impl_conflict.loopM 7) n st (kBlk (maskAt R pol_impl_conflict.blkM 2) 2 (kBlk (maskAt R pol_impl_conflict.blkM 1) 1 (kSeq (maskAt R pol_impl_conflict.seqM 13) (evCode E R pol_impl_conflict N (sub [1, 1, 1, 0, 1, 0, 0, 1, 1, 1] (bodyOf F_impl_conflict))) (kLoop (evCode E R pol_impl_conflict N (sub [1, 1, 1, 0, 1, 0, 0] (bodyOf F_impl_conflict))) (maskAt R pol_impl_conflict.loopM 4) n1110100 (kBlk (maskAt R pol_impl_conflict.blkM 0) 0 (kSeq (maskAt R pol_impl_conflict.seqM 14) (evCode E R pol_impl_conflict N (sub [1, 1, 1, 1] (bodyOf F_impl_conflict))) (kTop E sg_impl_conflict F_impl_conflict)))))))
noncomputable def impl_conflict.l0 (R : Run) (N : Nat) (n : Nat) (t11__2 : (((List Int) × Unit) × ((List Int) × Unit) × vS × ((List Int) × Unit) × Unit)) (t23__3 : (List Int)) (t24__4 : Int) (t25__5 : Int) (o3_6 : vK) (o3_7 : Int) (o3_8 : (List Int)) (o3_9 : vN) (o4_10 : (List Int)) : Option Dv := R.w (some ⟨(zd 3 (.c (.box 3 0) :: (.c (.box 4 0) :: (zd 6 (.c (.d (.fn n_impl_conflict_1 (.cons (.ptr (.cons yL .nil)) (.cons (.ptr (.cons yL .nil)) (.cons (.ptr yS) (.cons (.ptr (.cons yL .nil)) .nil))))) t11__2) :: (zd 11 (.c (.d yL t23__3) :: (.c (.d yI t24__4) :: (.c (.d yI t25__5) :: (zd 47 [])))))))))), (zo 3 (some (.box [.d yK o3_6, .d yI o3_7, .d yL o3_8, .d yN o3_9] true false) :: (some (.box [.d yL o4_10] true false) :: (zo 74 []))))⟩) fun st => loopC (evCode E R pol_impl_conflict N (sub [1, 1, 1, 0, 1, 0, 0] (bodyOf F_impl_conflict))) (maskAt R pol_impl_conflict.loopM 4) n st (kBlk (maskAt R pol_impl_conflict.blkM 0) 0 (kSeq (maskAt R pol_impl_conflict.seqM 14) (evCode E R pol_impl_conflict N (sub [1, 1, 1, 1] (bodyOf F_impl_conflict))) (kTop E sg_impl_conflict F_impl_conflict)))
theorem impl_conflict.j2_eq (R : Run) (hw : R.ok) (N : Nat) (n1110100 : Nat) (n111010011001100 : Nat) (t11__27 : (((List Int) × Unit) × ((List Int) × Unit) × vS × ((List Int) × Unit) × Unit)) (t12__28 : Int) (t13__29 : Int) (t14__30 : Int) (t15__31 : Int) (t23__32 : (List Int)) (t24__33 : Int) (t25__34 : Int) (t30__35 : (List Int)) (t31__36 : Int) (t32__37 : Int) (t55__38 : Bool) (o3_39 : vK) (o3_40 : Int) (o3_41 : (List Int)) (o3_42 : vN) (o4_43 : (List Int)) : impl_conflict.j2 R N n1110100 n111010011001100 t11__27 t12__28 t13__29 t14__30 t15__31 t23__32 t24__33 t25__34 t30__35 t31__36 t32__37 t55__38 o3_39 o3_40 o3_41 o3_42 o4_43 = (bif t55__38 then (impl_conflict.l1 R N n1110100 n111010011001100 t11__27 t12__28 t13__29 t23__32 t24__33 t25__34 t30__35 t31__36 (w64 (t32__37 + (1 : Int))) o3_39 o3_40 o3_41 o3_42 o4_43) else (Option.bind (callT R n_impl_restriction o_impl_restriction [⟨yK, o3_39⟩, ⟨yI, o3_40⟩, ⟨yL, o3_41⟩, ⟨yN, o3_42⟩, ⟨yI, t15__31⟩, ⟨yI, t13__29⟩]) fun r58 => (Option.bind (callT R n_impl_conflict_1 o_impl_conflict_1 [⟨yI, t14__30⟩, ⟨(.ptr (.cons yL .nil)), t11__27.1⟩, ⟨(.ptr (.cons yL .nil)), t11__27.2.1⟩, ⟨(.ptr yS), t11__27.2.2.1⟩, ⟨(.ptr (.cons yL .nil)), t11__27.2.2.2.1⟩]) fun r59 => (Option.bind (callT R n_impl_apply o_impl_apply [⟨yI, r58.1⟩, ⟨yI, r58.2.1⟩, ⟨yI, r58.2.2.1⟩, ⟨yL, r58.2.2.2.1⟩, ⟨yL, r59.1⟩]) fun r60 => (Option.bind (callT R n_impl_conflict_1 o_impl_conflict_1 [⟨yI, t12__28⟩, ⟨(.ptr (.cons yL .nil)), t11__27.1⟩, ⟨(.ptr (.cons yL .nil)), t11__27.2.1⟩, ⟨(.ptr yS), t11__27.2.2.1⟩, ⟨(.ptr (.cons yL .nil)), t11__27.2.2.2.1⟩]) fun r61 => (Option.bind (callT R n_slices_Equal_Sint64_int64 o_slices_Equal_Sint64_int64 [⟨yL, r60.1⟩, ⟨yL, r61.1⟩]) fun r62 => (bif (!r62.1) then some ⟨o_impl_conflict, (t15__31, t13__29, true, ())⟩ else (impl_conflict.l1 R N n1110100 n111010011001100 t11__27 t12__28 t13__29 t23__32 t24__33 t25__34 t30__35 t31__36 (w64 (t32__37 + (1 : Int))) o3_39 o3_40 o3_41 o3_42 o4_43)))))))) := (hw _ _).trans (by kernel_rfl)
theorem impl_conflict.l1_succ (R : Run) (hw : R.ok) (N : Nat) (n1110100 : Nat) (n : Nat) (t11__12 : (((List Int) × Unit) × ((List Int) × Unit) × vS × ((List Int) × Unit) × Unit)) (t12__13 : Int) (t13__14 : Int) (t23__15 : (List Int)) (t24__16 : Int) (t25__17 : Int) (t30__18 : (List Int)) (t31__19 : Int) (t32__20 : Int) (o3_21 : vK) (o3_22 : Int) (o3_23 : (List Int)) (o3_24 : vN) (o4_25 : (List Int)) : impl_conflict.l1 R N n1110100 (n + 1) t11__12 t12__13 t13__14 t23__15 t24__16 t25__17 t30__18 t31__19 t32__20 o3_21 o3_22 o3_23 o3_24 o4_25 = (bif (decide (t32__20 < t31__19)) then (Option.bind (idx? t30__18 t32__20) fun y26 => (bif ((y26, ()).1 == t13__14) then (impl_conflict.j2 R N n1110100 n t11__12 t12__13 t13__14 t32__20 ((y26, ()).1) t23__15 t24__16 t25__17 t30__18 t31__19 t32__20 true o3_21 o3_22 o3_23 o3_24 o4_25) else (Option.bind (idx? o3_21 (y26, ()).1) fun y77 => (Option.bind (idx? o3_21 t13__14) fun y78 => (Option.bind (callT R n_impl_isFace o_impl_isFace [⟨yL, (y77, ()).1⟩, ⟨yL, (y78, ()).1⟩]) fun r79 => (impl_conflict.j2 R N n1110100 n t11__12 t12__13 t13__14 t32__20 ((y26, ()).1) t23__15 t24__16 t25__17 t30__18 t31__19 t32__20 (!r79.1) o3_21 o3_22 o3_23 o3_24 o4_25)))))) else (impl_conflict.l0 R N n1110100 t11__12 t23__15 t24__16 (w64 (t25__17 + (1 : Int))) o3_21 o3_22 o3_23 o3_24 o4_25)) := (hw _ _).trans (by kernel_rfl)
theorem impl_conflict.l0_succ (R : Run) (hw : R.ok) (N : Nat) (n : Nat) (t11__2 : (((List Int) × Unit) × ((List Int) × Unit) × vS × ((List Int) × Unit) × Unit)) (t23__3 : (List Int)) (t24__4 : Int) (t25__5 : Int) (o3_6 : vK) (o3_7 : Int) (o3_8 : (List Int)) (o3_9 : vN) (o4_10 : (List Int)) : impl_conflict.l0 R N (n + 1) t11__2 t23__3 t24__4 t25__5 o3_6 o3_7 o3_8 o3_9 o4_10 = (bif (decide (t25__5 < t24__4)) then (Option.bind (idx? t23__3 t25__5) fun y11 => (impl_conflict.l1 R N n N t11__2 t25__5 ((y11, ()).1) t23__3 t24__4 t25__5 o4_10 (List.length o4_10 : Int) (0 : Int) o3_6 o3_7 o3_8 o3_9 o4_10)) else some ⟨o_impl_conflict, ((0 : Int), (0 : Int), false, ())⟩) := (hw _ _).trans (by kernel_rfl)
theorem impl_conflict.ev (R : Run) (N : Nat) (a0 : vK) (a1 : Int) (a2 : (List Int)) (a3 : vN) (a4 : (List Int)) (a5 : (List Int)) : evFn E R sg_impl_conflict pol_impl_conflict F_impl_conflict N [⟨yK, a0⟩, ⟨yI, a1⟩, ⟨yL, a2⟩, ⟨yN, a3⟩, ⟨yL, a4⟩, ⟨yL, a5⟩] = (Option.bind (callT R n_impl_offsets o_impl_offsets [⟨yK, a0⟩, ⟨yI, a1⟩, ⟨yL, a2⟩, ⟨yN, a3⟩, ⟨yL, a4⟩]) fun r1 => (impl_conflict.l0 R N N ((a5, ()), (r1.1, ()), (a0, a1, a2, a3, ()), (a4, ()), ()) a4 (List.length a4 : Int) (0 : Int) a0 a1 a2 a3 a4)) := by kernel_rfl
/-! loop.example/g01005/impl.IsLocalSection -/
theorem impl_IsLocalSection.ev (R : Run) (N : Nat) (a0 : vK) (a1 : Int) (a2 : (List Int)) (a3 : vN) (a4 : (List Int)) (a5 : (List Int)) : evFn E R sg_impl_IsLocalSection pol_impl_IsLocalSection F_impl_IsLocalSection N [⟨yK, a0⟩, ⟨yI, a1⟩, ⟨yL, a2⟩, ⟨yN, a3⟩, ⟨yL, a4⟩, ⟨yL, a5⟩] = (Option.bind (callT R n_impl_localized o_impl_localized [⟨yK, a0⟩, ⟨yI, a1⟩, ⟨yL, a2⟩, ⟨yN, a3⟩, ⟨yL, a4⟩, ⟨yL, a5⟩]) fun r1 => (bif (r1.1 != (0 : Int)) then some ⟨o_impl_IsLocalSection, (false, ())⟩ else (Option.bind (callT R n_impl_conflict o_impl_conflict [⟨yK, a0⟩, ⟨yI, a1⟩, ⟨yL, a2⟩, ⟨yN, a3⟩, ⟨yL, a4⟩, ⟨yL, a5⟩]) fun r2 => some ⟨o_impl_IsLocalSection, ((!r2.2.2.1), ())⟩))) := by kernel_rfl
/-! loop.example/g01005/laws.eqInt64S -/
noncomputable def laws_eqInt64S.l0 (R : Run) (N : Nat) (n : Nat) (a_1 : (List Int)) (b_2 : (List Int)) (i_3 : Int) : Option Dv := R.w (some ⟨(.c (.d yL a_1) :: (.c (.d yL b_2) :: (zd 3 (.c (.d yI i_3) :: (zd 20 []))))), (zo 28 [])⟩) fun st => loopC (evCode E R pol_laws_eqInt64S N (sub [1, 1, 0, 1, 0, 0] (bodyOf F_laws_eqInt64S))) (maskAt R pol_laws_eqInt64S.loopM 4) n st (kBlk (maskAt R pol_laws_eqInt64S.blkM 0) 0 (kSeq (maskAt R pol_laws_eqInt64S.seqM 8) (evCode E R pol_laws_eqInt64S N (sub [1, 1, 1] (bodyOf F_laws_eqInt64S))) (kTop E sg_laws_eqInt64S F_laws_eqInt64S)))
theorem laws_eqInt64S.l0_succ (R : Run) (hw : R.ok) (N : Nat) (n : Nat) (a_1 : (List Int)) (b_2 : (List Int)) (i_3 : Int) : laws_eqInt64S.l0 R N (n + 1) a_1 b_2 i_3 = (bif (decide (i_3 < (List.length a_1 : Int))) then (Option.bind (idx? a_1 i_3) fun y4 => (Option.bind (idx? b_2 i_3) fun y5 => (bif ((y4, ()).1 != (y5, ()).1) then some ⟨o_laws_eqInt64S, (false, ())⟩ else (laws_eqInt64S.l0 R N n a_1 b_2 (w64 (i_3 + (1 : Int))))))) else some ⟨o_laws_eqInt64S, (true, ())⟩) := (hw _ _).trans (by kernel_rfl)
theorem laws_eqInt64S.ev (R : Run) (N : Nat) (a0 : (List Int)) (a1 : (List Int)) : evFn E R sg_laws_eqInt64S pol_laws_eqInt64S F_laws_eqInt64S N [⟨yL, a0⟩, ⟨yL, a1⟩] = (bif ((List.length a0 : Int) != (List.length a1 : Int)) then some ⟨o_laws_eqInt64S, (false, ())⟩ else (laws_eqInt64S.l0 R N N a0 a1 (0 : Int))) := by kernel_rfl
/-! loop.example/g01005/laws.eqInt64SS -/
noncomputable def laws_eqInt64SS.l0 (R : Run) (N : Nat) (n : Nat) (a_1 : vK) (b_2 : vK) (i_3 : Int) : Option Dv := R.w (some ⟨(.c (.d yK a_1) :: (.c (.d yK b_2) :: (zd 3 (.c (.d yI i_3) :: (zd 21 []))))), (zo 29 [])⟩) fun st => loopC (evCode E R pol_laws_eqInt64SS N (sub [1, 1, 0, 1, 0, 0] (bodyOf F_laws_eqInt64SS))) (maskAt R pol_laws_eqInt64SS.loopM 4) n st (kBlk (maskAt R pol_laws_eqInt64SS.blkM 0) 0 (kSeq (maskAt R pol_laws_eqInt64SS.seqM 8) (evCode E R pol_laws_eqInt64SS N (sub [1, 1, 1] (bodyOf F_laws_eqInt64SS))) (kTop E sg_laws_eqInt64SS F_laws_eqInt64SS)))
theorem laws_eqInt64SS.l0_succ (R : Run) (hw : R.ok) (N : Nat) (n : Nat) (a_1 : vK) (b_2 : vK) (i_3 : Int) : laws_eqInt64SS.l0 R N (n + 1) a_1 b_2 i_3 = (bif (decide (i_3 < (List.length a_1 : Int))) then (Option.bind (idx? a_1 i_3) fun y4 => (Option.bind (idx? b_2 i_3) fun y5 => (Option.bind (callT R n_laws_eqInt64S o_laws_eqInt64S [⟨yL, (y4, ()).1⟩, ⟨yL, (y5, ()).1⟩]) fun r6 => (bif (!r6.1) then some ⟨o_laws_eqInt64SS, (false, ())⟩ else (laws_eqInt64SS.l0 R N n a_1 b_2 (w64 (i_3 + (1 : Int)))))))) else some ⟨o_laws_eqInt64SS, (true, ())⟩) := (hw _ _).trans (by kernel_rfl)
theorem laws_eqInt64SS.ev (R : Run) (N : Nat) (a0 : vK) (a1 : vK) : evFn E R sg_laws_eqInt64SS pol_laws_eqInt64SS F_laws_eqInt64SS N [⟨yK, a0⟩, ⟨yK, a1⟩] = (bif ((List.length a0 : Int) != (List.length a1 : Int)) then some ⟨o_laws_eqInt64SS, (false, ())⟩ else (laws_eqInt64SS.l0 R N N a0 a1 (0 : Int))) := by kernel_rfl
/-! loop.example/g01005/laws.eqComplex -/
theorem laws_eqComplex.ev (R : Run) (N : Nat) (a0 : vK) (a1 : vK) : evFn E R sg_laws_eqComplex pol_laws_eqComplex F_laws_eqComplex N [⟨yK, a0⟩, ⟨yK, a1⟩] = (Option.bind (callT R n_laws_eqInt64SS o_laws_eqInt64SS [⟨yK, a0⟩, ⟨yK, a1⟩]) fun r1 => (bif (!r1.1) then some ⟨o_laws_eqComplex, (false, ())⟩ else some ⟨o_laws_eqComplex, (true, ())⟩)) := by kernel_rfl
/-! loop.example/g01005/laws.eqMatrix -/
theorem laws_eqMatrix.ev (R : Run) (N : Nat) (a0 : Int) (a1 : Int) (a2 : Int) (a3 : (List Int)) (a4 : Int) (a5 : Int) (a6 : Int) (a7 : (List Int)) : evFn E R sg_laws_eqMatrix pol_laws_eqMatrix F_laws_eqMatrix N [⟨yI, a0⟩, ⟨yI, a1⟩, ⟨yI, a2⟩, ⟨yL, a3⟩, ⟨yI, a4⟩, ⟨yI, a5⟩, ⟨yI, a6⟩, ⟨yL, a7⟩] = (bif (a0 != a4) then some ⟨o_laws_eqMatrix, (false, ())⟩ else (bif (a1 != a5) then some ⟨o_laws_eqMatrix, (false, ())⟩ else (bif (a2 != a6) then some ⟨o_laws_eqMatrix, (false, ())⟩ else (Option.bind (callT R n_laws_eqInt64S o_laws_eqInt64S [⟨yL, a3⟩, ⟨yL, a7⟩]) fun r1 => (bif (!r1.1) then some ⟨o_laws_eqMatrix, (false, ())⟩ else some ⟨o_laws_eqMatrix, (true, ())⟩))))) := by kernel_rfl
/-! loop.example/g01005/laws.eqMatrixS -/
noncomputable def laws_eqMatrixS.l0 (R : Run) (N : Nat) (n : Nat) (a_1 : vN) (b_2 : vN) (i_3 : Int) : Option Dv := R.w (some ⟨(.c (.d yN a_1) :: (.c (.d yN b_2) :: (zd 3 (.c (.d yI i_3) :: (zd 21 []))))), (zo 29 [])⟩) fun st => loopC (evCode E R pol_laws_eqMatrixS N (sub [1, 1, 0, 1, 0, 0] (bodyOf F_laws_eqMatrixS))) (maskAt R pol_laws_eqMatrixS.loopM 4) n st (kBlk (maskAt R pol_laws_eqMatrixS.blkM 0) 0 (kSeq (maskAt R pol_laws_eqMatrixS.seqM 8) (evCode E R pol_laws_eqMatrixS N (sub [1, 1, 1] (bodyOf F_laws_eqMatrixS))) (kTop E sg_laws_eqMatrixS F_laws_eqMatrixS)))
theorem laws_eqMatrixS.l0_succ (R : Run) (hw : R.ok) (N : Nat) (n : Nat) (a_1 : vN) (b_2 : vN) (i_3 : Int) : laws_eqMatrixS.l0 R N (n + 1) a_1 b_2 i_3 = (bif (decide (i_3 < (List.length a_1 : Int))) then (Option.bind (idx? a_1 i_3) fun y4 => (Option.bind (idx? b_2 i_3) fun y5 => (Option.bind (callT R n_laws_eqMatrix o_laws_eqMatrix [⟨yI, y4.1⟩, ⟨yI, y4.2.1⟩, ⟨yI, y4.2.2.1⟩, ⟨yL, y4.2.2.2.1⟩, ⟨yI, y5.1⟩, ⟨yI, y5.2.1⟩, ⟨yI, y5.2.2.1⟩, ⟨yL, y5.2.2.2.1⟩]) fun r6 => (bif (!r6.1) then some ⟨o_laws_eqMatrixS, (false, ())⟩ else (laws_eqMatrixS.l0 R N n a_1 b_2 (w64 (i_3 + (1 : Int)))))))) else some ⟨o_laws_eqMatrixS, (true, ())⟩) := (hw _ _).trans (by kernel_rfl)
theorem laws_eqMatrixS.ev (R : Run) (N : Nat) (a0 : vN) (a1 : vN) : evFn E R sg_laws_eqMatrixS pol_laws_eqMatrixS F_laws_eqMatrixS N [⟨yN, a0⟩, ⟨yN, a1⟩] = (bif ((List.length a0 : Int) != (List.length a1 : Int)) then some ⟨o_laws_eqMatrixS, (false, ())⟩ else (laws_eqMatrixS.l0 R N N a0 a1 (0 : Int))) := by kernel_rfl
/-! loop.example/g01005/laws.eqSheaf -/
theorem laws_eqSheaf.ev (R : Run) (N : Nat) (a0 : vK) (a1 : Int) (a2 : (List Int)) (a3 : vN) (a4 : vK) (a5 : Int) (a6 : (List Int)) (a7 : vN) : evFn E R sg_laws_eqSheaf pol_laws_eqSheaf F_laws_eqSheaf N [⟨yK, a0⟩, ⟨yI, a1⟩, ⟨yL, a2⟩, ⟨yN, a3⟩, ⟨yK, a4⟩, ⟨yI, a5⟩, ⟨yL, a6⟩, ⟨yN, a7⟩] = (Option.bind (callT R n_laws_eqComplex o_laws_eqComplex [⟨yK, a0⟩, ⟨yK, a4⟩]) fun r1 => (bif (!r1.1) then some ⟨o_laws_eqSheaf, (false, ())⟩ else (bif (a1 != a5) then some ⟨o_laws_eqSheaf, (false, ())⟩ else (Option.bind (callT R n_laws_eqInt64S o_laws_eqInt64S [⟨yL, a2⟩, ⟨yL, a6⟩]) fun r2 => (bif (!r2.1) then some ⟨o_laws_eqSheaf, (false, ())⟩ else (Option.bind (callT R n_laws_eqMatrixS o_laws_eqMatrixS [⟨yN, a3⟩, ⟨yN, a7⟩]) fun r3 => (bif (!r3.1) then some ⟨o_laws_eqSheaf, (false, ())⟩ else some ⟨o_laws_eqSheaf, (true, ())⟩))))))) := by kernel_rfl
/-! loop.example/g01005/laws.FnExactIsLocalSection -/
theorem laws_FnExactIsLocalSection.ev (R : Run) (N : Nat) (a0 : vK) (a1 : Int) (a2 : (List Int)) (a3 : vN) (a4 : (List Int)) (a5 : (List Int)) : evFn E R sg_laws_FnExactIsLocalSection pol_laws_FnExactIsLocalSection F_laws_FnExactIsLocalSection N [⟨yK, a0⟩, ⟨yI, a1⟩, ⟨yL, a2⟩, ⟨yN, a3⟩, ⟨yL, a4⟩, ⟨yL, a5⟩] = (bif (decide ((List.length a4 : Int) > (1048576 : Int))) then some ⟨o_laws_FnExactIsLocalSection, (true, ())⟩ else (bif (decide ((List.length a5 : Int) > (1048576 : Int))) then some ⟨o_laws_FnExactIsLocalSection, (true, ())⟩ else (Option.bind (callT R n_laws_szSheaf o_laws_szSheaf [⟨yK, a0⟩, ⟨yI, a1⟩, ⟨yL, a2⟩, ⟨yN, a3⟩, ⟨yI, (1048576 : Int)⟩]) fun r1 => (bif (decide (r1.1 < (0 : Int))) then some ⟨o_laws_FnExactIsLocalSection, (true, ())⟩ else (Option.bind (callT R n_laws_toSheaf o_laws_toSheaf [⟨yK, a0⟩, ⟨yI, a1⟩, ⟨yL, a2⟩, ⟨yN, a3⟩]) fun r2 => (Option.bind (callT R n_laws_toInt64S o_laws_toInt64S [⟨yL, a4⟩]) fun r3 => (Option.bind (callT R n_laws_toInt64S o_laws_toInt64S [⟨yL, a5⟩]) fun r4 => (Option.bind (callT R n_spec_IsLocalSection o_spec_IsLocalSection [⟨yK, r2.1⟩, ⟨yI, r2.2.1⟩, ⟨yL, r2.2.2.1⟩, ⟨yN, r2.2.2.2.1⟩, ⟨yL, r3.1⟩, ⟨yL, r4.1⟩]) fun r5 => (Option.bind (callT R n_laws_toSheaf o_laws_toSheaf [⟨yK, a0⟩, ⟨yI, a1⟩, ⟨yL, a2⟩, ⟨yN, a3⟩]) fun r6 => (Option.bind (callT R n_laws_toInt64S o_laws_toInt64S [⟨yL, a4⟩]) fun r7 => (Option.bind (callT R n_laws_toInt64S o_laws_toInt64S [⟨yL, a5⟩]) fun r8 => (Option.bind (callT R n_impl_IsLocalSection o_impl_IsLocalSection [⟨yK, r6.1⟩, ⟨yI, r6.2.1⟩, ⟨yL, r6.2.2.1⟩, ⟨yN, r6.2.2.2.1⟩, ⟨yL, r7.1⟩, ⟨yL, r8.1⟩]) fun r9 => (bif (r9.1 != r5.1) then some ⟨o_laws_FnExactIsLocalSection, (false, ())⟩ else (Option.bind (callT R n_laws_toSheaf o_laws_toSheaf [⟨yK, a0⟩, ⟨yI, a1⟩, ⟨yL, a2⟩, ⟨yN, a3⟩]) fun r10 => (Option.bind (callT R n_laws_eqSheaf o_laws_eqSheaf [⟨yK, r6.1⟩, ⟨yI, r6.2.1⟩, ⟨yL, r6.2.2.1⟩, ⟨yN, r6.2.2.2.1⟩, ⟨yK, r10.1⟩, ⟨yI, r10.2.1⟩, ⟨yL, r10.2.2.1⟩, ⟨yN, r10.2.2.2.1⟩]) fun r11 => (bif (!r11.1) then some ⟨o_laws_FnExactIsLocalSection, (false, ())⟩ else (Option.bind (callT R n_laws_toInt64S o_laws_toInt64S [⟨yL, a4⟩]) fun r12 => (Option.bind (callT R n_laws_eqInt64S o_laws_eqInt64S [⟨yL, r7.1⟩, ⟨yL, r12.1⟩]) fun r13 => (bif (!r13.1) then some ⟨o_laws_FnExactIsLocalSection, (false, ())⟩ else (Option.bind (callT R n_laws_toInt64S o_laws_toInt64S [⟨yL, a5⟩]) fun r14 => (Option.bind (callT R n_laws_eqInt64S o_laws_eqInt64S [⟨yL, r8.1⟩, ⟨yL, r14.1⟩]) fun r15 => (bif (!r15.1) then some ⟨o_laws_FnExactIsLocalSection, (false, ())⟩ else some ⟨o_laws_FnExactIsLocalSection, (true, ())⟩)))))))))))))))))))))) := by kernel_rfl
/-! loop.example/g01005/spec.FirstConflict -/
theorem spec_FirstConflict.ev (R : Run) (N : Nat) (a0 : vK) (a1 : Int) (a2 : (List Int)) (a3 : vN) (a4 : (List Int)) (a5 : (List Int)) : evFn E R sg_spec_FirstConflict pol_spec_FirstConflict F_spec_FirstConflict N [⟨yK, a0⟩, ⟨yI, a1⟩, ⟨yL, a2⟩, ⟨yN, a3⟩, ⟨yL, a4⟩, ⟨yL, a5⟩] = (Option.bind (callT R n_spec_l10Ask o_spec_l10Ask [⟨(.ptr yS), (a0, a1, a2, a3, ())⟩, ⟨yL, a4⟩, ⟨yL, a5⟩]) fun r1 => (bif (r1.1 != (0 : Int)) then some ⟨o_spec_FirstConflict, ((0 : Int), (0 : Int), r1.1, ())⟩ else (Option.bind (callT R n_spec_l10Conflict o_spec_l10Conflict [⟨(.ptr yS), (a0, a1, a2, a3, ())⟩, ⟨yL, a4⟩, ⟨yL, a5⟩]) fun r2 => (bif (decide (r2.1 < (0 : Int))) then some ⟨o_spec_FirstConflict, ((0 : Int), (0 : Int), (3 : Int), ())⟩ else (Option.bind (idx? a4 r2.1) fun y3 => (Option.bind (idx? a4 r2.2.1) fun y4 => some ⟨o_spec_FirstConflict, ((y3, ()).1, (y4, ()).1, (0 : Int), ())⟩)))))) := by kernel_rfl
/-! loop.example/g01005/impl.FirstConflict -/
theorem impl_FirstConflict.ev (R : Run) (N : Nat) (a0 : vK) (a1 : Int) (a2 : (List Int)) (a3 : vN) (a4 : (List Int)) (a5 : (List Int)) : evFn E R sg_impl_FirstConflict pol_impl_FirstConflict F_impl_FirstConflict N [⟨yK, a0⟩, ⟨yI, a1⟩, ⟨yL, a2⟩, ⟨yN, a3⟩, ⟨yL, a4⟩, ⟨yL, a5⟩] = (Option.bind (callT R n_impl_localized o_impl_localized [⟨yK, a0⟩, ⟨yI, a1⟩, ⟨yL, a2⟩, ⟨yN, a3⟩, ⟨yL, a4⟩, ⟨yL, a5⟩]) fun r1 => (bif (r1.1 != (0 : Int)) then some ⟨o_impl_FirstConflict, ((0 : Int), (0 : Int), r1.1, ())⟩ else (Option.bind (callT R n_impl_conflict o_impl_conflict [⟨yK, a0⟩, ⟨yI, a1⟩, ⟨yL, a2⟩, ⟨yN, a3⟩, ⟨yL, a4⟩, ⟨yL, a5⟩]) fun r2 => (bif (!r2.2.2.1) then some ⟨o_impl_FirstConflict, ((0 : Int), (0 : Int), (3 : Int), ())⟩ else some ⟨o_impl_FirstConflict, (r2.1, r2.2.1, (0 : Int), ())⟩)))) := by kernel_rfl
/-! loop.example/g01005/laws.FnExactFirstConflict -/
noncomputable def laws_FnExactFirstConflict.j0 (R : Run) (N : Nat) (t1__10 : (List Int)) (t2__11 : (List Int)) (t12__12 : (List Int)) (t13__13 : (List Int)) (t65__14 : Bool) (o3_15 : vK) (o3_16 : Int) (o3_17 : (List Int)) (o3_18 : vN) (o11_19 : vK) (o11_20 : Int) (o11_21 : (List Int)) (o11_22 : vN) : Option Dv := R.w (some ⟨(V.dead :: (.c (.d yL t1__10) :: (.c (.d yL t2__11) :: (.c (.box 3 0) :: (zd 7 (.c (.box 11 0) :: (.c (.d yL t12__12) :: (.c (.d yL t13__13) :: (zd 51 (.c (.d .bool t65__14) :: (zd 15 []))))))))))), (zo 3 (some (.box [.d yK o3_15, .d yI o3_16, .d yL o3_17, .d yN o3_18] false false) :: (zo 7 (some (.box [.d yK o11_19, .d yI o11_20, .d yL o11_21, .d yN o11_22] false false) :: (zo 75 [])))))⟩) fun st => evCode E R pol_laws_FnExactFirstConflict N (sub [1, 1, 1, 1, 1, 1, 1, 1, 1, 1, 1, 0, 1] (bodyOf F_laws_FnExactFirstConflict)) st (kSeq (maskAt R pol_laws_FnExactFirstConflict.seqM 16) (evCode E R pol_laws_FnExactFirstConflict N (sub [1, 1, 1, 1, 1, 1, 1, 1, 1, 1, 1, 1] (bodyOf F_laws_FnExactFirstConflict))) (kTop E sg_laws_FnExactFirstConflict F_laws_FnExactFirstConflict))
theorem laws_FnExactFirstConflict.j0_eq (R : Run) (hw : R.ok) (N : Nat) (t1__10 : (List Int)) (t2__11 : (List Int)) (t12__12 : (List Int)) (t13__13 : (List Int)) (t65__14 : Bool) (o3_15 : vK) (o3_16 : Int) (o3_17 : (List Int)) (o3_18 : vN) (o11_19 : vK) (o11_20 : Int) (o11_21 : (List Int)) (o11_22 : vN) : laws_FnExactFirstConflict.j0 R N t1__10 t2__11 t12__12 t13__13 t65__14 o3_15 o3_16 o3_17 o3_18 o11_19 o11_20 o11_21 o11_22 = (bif t65__14 then some ⟨o_laws_FnExactFirstConflict, (false, ())⟩ else (Option.bind (callT R n_laws_toSheaf o_laws_toSheaf [⟨yK, o3_15⟩, ⟨yI, o3_16⟩, ⟨yL, o3_17⟩, ⟨yN, o3_18⟩]) fun r23 => (Option.bind (callT R n_laws_eqSheaf o_laws_eqSheaf [⟨yK, o11_19⟩, ⟨yI, o11_20⟩, ⟨yL, o11_21⟩, ⟨yN, o11_22⟩, ⟨yK, r23.1⟩, ⟨yI, r23.2.1⟩, ⟨yL, r23.2.2.1⟩, ⟨yN, r23.2.2.2.1⟩]) fun r24 => (bif (!r24.1) then some ⟨o_laws_FnExactFirstConflict, (false, ())⟩ else (Option.bind (callT R n_laws_toInt64S o_laws_toInt64S [⟨yL, t1__10⟩]) fun r25 => (Option.bind (callT R n_laws_eqInt64S o_laws_eqInt64S [⟨yL, t12__12⟩, ⟨yL, r25.1⟩]) fun r26 => (bif (!r26.1) then some ⟨o_laws_FnExactFirstConflict, (false, ())⟩ else (Option.bind (callT R n_laws_toInt64S o_laws_toInt64S [⟨yL, t2__11⟩]) fun r27 => (Option.bind (callT R n_laws_eqInt64S o_laws_eqInt64S [⟨yL, t13__13⟩, ⟨yL, r27.1⟩]) fun r28 => (bif (!r28.1) then some ⟨o_laws_FnExactFirstConflict, (false, ())⟩ else some ⟨o_laws_FnExactFirstConflict, (true, ())⟩)))))))))) := (hw _ _).trans (by kernel_rfl)
theorem laws_FnExactFirstConflict.ev (R : Run) (N : Nat) (a0 : vK) (a1 : Int) (a2 : (List Int)) (a3 : vN) (a4 : (List Int)) (a5 : (List Int)) : evFn E R sg_laws_FnExactFirstConflict pol_laws_FnExactFirstConflict F_laws_FnExactFirstConflict N [⟨yK, a0⟩, ⟨yI, a1⟩, ⟨yL, a2⟩, ⟨yN, a3⟩, ⟨yL, a4⟩, ⟨yL, a5⟩] = (bif (decide ((List.length a4 : Int) > (1048576 : Int))) then some ⟨o_laws_FnExactFirstConflict, (true, ())⟩ else (bif (decide ((List.length a5 : Int) > (1048576 : Int))) then some ⟨o_laws_FnExactFirstConflict, (true, ())⟩ else (Option.bind (callT R n_laws_szSheaf o_laws_szSheaf [⟨yK, a0⟩, ⟨yI, a1⟩, ⟨yL, a2⟩, ⟨yN, a3⟩, ⟨yI, (1048576 : Int)⟩]) fun r1 => (bif (decide (r1.1 < (0 : Int))) then some ⟨o_laws_FnExactFirstConflict, (true, ())⟩ else (Option.bind (callT R n_laws_toSheaf o_laws_toSheaf [⟨yK, a0⟩, ⟨yI, a1⟩, ⟨yL, a2⟩, ⟨yN, a3⟩]) fun r2 => (Option.bind (callT R n_laws_toInt64S o_laws_toInt64S [⟨yL, a4⟩]) fun r3 => (Option.bind (callT R n_laws_toInt64S o_laws_toInt64S [⟨yL, a5⟩]) fun r4 => (Option.bind (callT R n_spec_FirstConflict o_spec_FirstConflict [⟨yK, r2.1⟩, ⟨yI, r2.2.1⟩, ⟨yL, r2.2.2.1⟩, ⟨yN, r2.2.2.2.1⟩, ⟨yL, r3.1⟩, ⟨yL, r4.1⟩]) fun r5 => (Option.bind (callT R n_laws_toSheaf o_laws_toSheaf [⟨yK, a0⟩, ⟨yI, a1⟩, ⟨yL, a2⟩, ⟨yN, a3⟩]) fun r6 => (Option.bind (callT R n_laws_toInt64S o_laws_toInt64S [⟨yL, a4⟩]) fun r7 => (Option.bind (callT R n_laws_toInt64S o_laws_toInt64S [⟨yL, a5⟩]) fun r8 => (Option.bind (callT R n_impl_FirstConflict o_impl_FirstConflict [⟨yK, r6.1⟩, ⟨yI, r6.2.1⟩, ⟨yL, r6.2.2.1⟩, ⟨yN, r6.2.2.2.1⟩, ⟨yL, r7.1⟩, ⟨yL, r8.1⟩]) fun r9 => (bif (r9.1 != r5.1) then (laws_FnExactFirstConflict.j0 R N a4 a5 r7.1 r8.1 true a0 a1 a2 a3 r6.1 r6.2.1 r6.2.2.1 r6.2.2.2.1) else (bif (r9.2.1 != r5.2.1) then (laws_FnExactFirstConflict.j0 R N a4 a5 r7.1 r8.1 true a0 a1 a2 a3 r6.1 r6.2.1 r6.2.2.1 r6.2.2.2.1) else (laws_FnExactFirstConflict.j0 R N a4 a5 r7.1 r8.1 (r9.2.2.1 != r5.2.2.1) a0 a1 a2 a3 r6.1 r6.2.1 r6.2.2.1 r6.2.2.2.1))))))))))))))) := by kernel_rfl
end VeT


set_option linter.unusedVariables false
set_option linter.unusedSimpArgs false
namespace VeT
section
open Go Go.Proofs Go.RowKit Go.Lib
set_option maxHeartbeats 2000000 in
set_option maxRecDepth 100000 in
theorem grow236_room (base : Option Addr) (l c n : Nat) (w : World) (hlc : l ≤ c) (hc63 : c ≤ 9223372036854775807) (hn63 : n ≤ 9223372036854775807) (hroom : l + n ≤ c) :
    Calls Tryz.prog 236 #[.slice base l c, .int .i64 n] w fun e w' => e = .returned (.slice base l c) ∧ w' = w := by
  have h1 : ¬ ((n : Int) < 0) := by omega
  have h2 : wrap64 ((c : Int) - (l : Int)) = (c : Int) - (l : Int) := by unfold wrap64; omega
  have h3 : wrap64 ((n : Int) - ((c : Int) - (l : Int))) = (n : Int) - ((c : Int) - (l : Int)) := by unfold wrap64; omega
  have h4 : ¬ ((n : Int) - ((c : Int) - (l : Int)) > 0) := by omega
  go_enter Tryz.func236, Tryz.ntmps236
  go_wp2
  go_ret
  exact ⟨rfl, rfl⟩

set_option maxHeartbeats 4000000 in
set_option maxRecDepth 100000 in
theorem grow236_grow (i0 : TypeInfo) (z : Value) (hi0 : Tryz.prog.info? 2 = some i0) (hz0 : i0.zero = some z) (hs0 : 0 < i0.size)
    (base : Option Addr) (l c n : Nat) (cs : List Value) (w : World) (hlc : l ≤ c) (hroom : c < l + n) (hbig : (l + n) * i0.bytes ≤ 140737488355328) (h63 : l + n ≤ 4611686018427387904)
    (hcl : cs.length = c * i0.size) (hnil : base = none → c = 0) (hcs : ∀ a, base = some a → ∀ (j : Nat) v, cs[j]? = some v → w.cell? (a.add j) = some v) :
    Calls Tryz.prog 236 #[.slice base l c, .int .i64 n] w fun e w' =>
      e = .returned (.slice (some ⟨w.heap.size, 0, none⟩) l (grownCap w (l + n) c 2)) ∧
      w' = w.drew.alloc (.cells (cs.toArray ++ Builtin.zeroCells z.cells (l + n - c) ++ Builtin.zeroCells z.cells (grownCap w (l + n) c 2 - (l + n))) 2) := by
  have h1 : ¬ ((n : Int) < 0) := by omega
  have h2 : wrap64 ((c : Int) - (l : Int)) = (c : Int) - (l : Int) := by unfold wrap64; omega
  have h3 : wrap64 ((n : Int) - ((c : Int) - (l : Int))) = (n : Int) - ((c : Int) - (l : Int)) := by unfold wrap64; omega
  have h4 : (n : Int) - ((c : Int) - (l : Int)) > 0 := by omega
  have z25 : ∀ w, (Go.sizeOf 2).run Tryz.prog w = .ok i0.size w := fun w => by simp [Go.sizeOf, typeInfo, hi0]
  have hck : c + (l + n - c) = l + n := by omega
  have hold : (Builtin.firstCells i0.size c (.slice base c c)).run Tryz.prog w.drew = .ok cs.toArray w.drew := by
    cases base with
    | none =>
      have h0 := hnil rfl
      subst h0
      have hc0 : cs = [] := List.length_eq_zero_iff.1 (by simpa using hcl)
      rw [hc0]
      exact run_firstCells_none w.drew i0.size 0 0 0
    | some a => exact run_firstCells_some w.drew i0.size c a c c cs hcl (fun j v hj => hcs a rfl j v hj)
  have hrz : ∀ ty, (Builtin.append_ #[25, 3] ty #[.slice base c c, .int .i64 ((n : Int) - ((c : Int) - (l : Int)))]).run Tryz.prog w =
      .ok (.slice (some ⟨w.heap.size, 0, none⟩) (l + n) (grownCap w (l + n) c 2)) (w.drew.alloc (.cells (cs.toArray ++ Builtin.zeroCells z.cells (l + n - c) ++ Builtin.zeroCells z.cells (grownCap w (l + n) c 2 - (l + n))) 2)) := fun ty => by
    have h := Lib.run_append_grow_zeros w 25 3 ty 2 i0 z .i64 .i64 Tryz.underlying25 Tryz.underlying3 hi0 hz0 base c c cs hold (l + n - c) (by omega) hs0 (by omega) (by omega)
      (by have : (l + n - c) * i0.bytes ≤ (l + n) * i0.bytes := Nat.mul_le_mul_right _ (by omega)
          omega)
      (by rw [hck]; exact growslice_fits hroom hbig)
    rw [hck] at h
    rw [show (n : Int) - ((c : Int) - (l : Int)) = ((l + n - c : Nat) : Int) by omega]
    exact h
  have hGn : l + n ≤ grownCap w (l + n) c 2 := grownCap_ge w _ _ _
  obtain ⟨G, hG⟩ : ∃ G, G = grownCap w (l + n) c 2 := ⟨_, rfl⟩
  rw [← hG] at hrz hGn ⊢
  have hG63 : G ≤ 9223372036854775807 := by
    have := grownCap_le_maxLen w (l + n) c 2 (by unfold maxLen; omega)
    rw [← hG] at this
    unfold maxLen at this
    omega
  clear hold hck hG hcs hcl
  go_enter Tryz.func236, Tryz.ntmps236
  cases base with
  | none =>
    have h0 := hnil rfl
    subst h0
    obtain rfl : l = 0 := by omega
    go_wp2_with (at_builtin; refine Lib.wpList_append_run _ rfl _ _ _ _ rfl _ _ rfl rfl _ _ (hrz _) ?_)
    all_goals (go_ret; exact ⟨rfl, rfl⟩)
  | some a =>
    obtain ⟨ab, ao, asp⟩ := a
    go_wp2_with (at_builtin; refine Lib.wpList_append_run _ rfl _ _ _ _ rfl _ _ rfl rfl _ _ (hrz _) ?_)
    all_goals (go_ret; exact ⟨rfl, rfl⟩)
theorem grow236_info : (Tryz.prog.info? 2).any (fun i => i.size == Ve.Ty.size yI && i.zero.any (fun z => z.cells.size == Ve.Ty.size yI) && decide (i.bytes ≤ 64 * Ve.Ty.size yI) && decide (0 < i.bytes) && decide (0 < Ve.Ty.size yI)) = true := by kernel_rfl
open Ve in
theorem grow236_contract (R : Run) {args : List Dv} {dv : Dv} (h : pGrow yI R args = some dv) :
    Contract Tryz.prog ⟨[(false, 1), (false, 1)], [.take true, .imm], .cons yL .nil, [(false, 1)], [.deep], []⟩ 236 args dv := by
  have hi := grow236_info
  cases hi0 : Tryz.prog.info? 2 with
  | none => rw [hi0] at hi; cases hi
  | some i0 =>
    rw [hi0] at hi
    simp only [Option.any_some, Bool.and_eq_true, decide_eq_true_eq, beq_iff_eq] at hi
    obtain ⟨⟨⟨⟨h1, h2⟩, h3⟩, h4⟩, h5⟩ := hi
    cases hz : i0.zero with
    | none => rw [hz] at h2; cases h2
    | some z =>
      rw [hz] at h2
      exact grow_contract h1 (by simpa using h2) h5 h3 h4 grow236_room (fun base l c n cs w a1 a2 a3 a4 a5 a6 a7 => grow236_grow i0 z hi0 hz (by rw [h1]; exact h5) base l c n cs w a1 a2 a3 a4 a5 a6 a7) R h

end
section
open Go Ve
theorem primL_eq : primL = (List.range 263).map fun i => bif Nat.beq i 236 then some (pGrow yI) else none := by kernel_rfl
theorem prims_ok : ∀ f p, E.prim f = some p → ∀ r, RunOk E (mkR r) → ∀ args dv sg, E.sig f = some sg → p (mkR r) args = some dv → Contract E.P sg f args dv := by
  intro f p hp r hr args dv sg hsg h
  have hp : primL.getD f none = some p := hp
  rw [primL_eq, List.getD_eq_getElem?_getD, List.getElem?_map] at hp
  by_cases hf : f < 263
  · rw [List.getElem?_range hf] at hp
    simp only [Option.map_some, Option.getD_some] at hp
    by_cases h236 : f = 236
    · subst h236
      obtain rfl : (pGrow yI) = p := Option.some.inj hp
      obtain rfl : sg_slices_Grow_Sint64_int64 = sg := Option.some.inj (sig_slices_Grow_Sint64_int64_eq.symm.trans hsg)
      exact grow236_contract _ h
    rw [show Nat.beq f 236 = false from Bool.eq_false_iff.2 fun h => h236 (Nat.eq_of_beq_eq_true h), cond_false] at hp
    cases hp
  · rw [List.getElem?_eq_none (by simpa using hf)] at hp
    cases hp
end
end VeT

open Go Go.Proofs Ve
set_option linter.unusedVariables false
set_option linter.unusedSimpArgs false
namespace VeT

theorem szInt64S_ret (x : (List Int)) (l : Int) (hx : Wf yL x) (h0 : 0 ≤ l) (h1 : l ≤ 1048576) :
    ∃ r : Int, Ret E n_laws_szInt64S [⟨yL, x⟩, ⟨.int .i64, l⟩] ⟨o_laws_szInt64S, (r, ())⟩ ∧ (0 ≤ r → r ≤ l ∧ Sm yL x) := by
  have hx1 : x.length ≤ maxLen := hx.1
  rw [maxLen_eq] at hx1
  have hw : w64 (l - x.length) = l - x.length := w64_small (by omega) (by omega)
  by_cases hc : l - (x.length : Int) < 0
  · refine ⟨-1, Evt.succ (Evt.of fun n => ?_), fun h => by omega⟩
    rw [run_laws_szInt64S, laws_szInt64S.ev, hw, decide_eq_true hc]; rfl
  · refine ⟨l - x.length, Evt.succ (Evt.of fun n => ?_), fun h => ⟨by omega, by omega, fun x _ => trivial⟩⟩
    rw [run_laws_szInt64S, laws_szInt64S.ev, hw, decide_eq_false hc]; rfl

theorem toInt64S_ret (x : (List Int)) (hx : Sm yL x) : Ret E n_laws_toInt64S [⟨yL, x⟩] ⟨o_laws_toInt64S, (x, ())⟩ := by
  have hx1 : x.length ≤ 1048576 := hx.1
  have hl := fill_loop (a := x) (L := fun m n i o => laws_toInt64S.l0 (mkR (run E m)) m n x i o) (z := List.replicate (Int.toNat (List.length x : Int)) (0 : Int)) (r := some ⟨o_laws_toInt64S, (x, ())⟩) (by simp) (fun k o hk ho => by
      refine Evt.of fun m n => ?_
      show laws_toInt64S.l0 _ _ _ _ _ _ = _
      rw [laws_toInt64S.l0_succ _ mk_ok, decide_eq_true (show (k : Int) < x.length by omega), cond_true, idx_lt hk]
      simp only [Option.bind_some]
      rw [chk_true (by simp; omega), w64_succ (by omega), Int.toNat_natCast]) (Evt.of fun m n => by
      show laws_toInt64S.l0 _ _ _ _ _ _ = _
      rw [laws_toInt64S.l0_succ _ mk_ok, decide_eq_false (by omega), cond_false])
  refine Evt.succ (hl.mono fun n h => ?_)
  rw [run_laws_toInt64S, laws_toInt64S.ev, chk_true (by simp; omega)]
  exact h

theorem eqInt64S_ret (x y : (List Int)) (hx : Sm yL x) : ∃ b : Bool, Ret E n_laws_eqInt64S [⟨yL, x⟩, ⟨yL, y⟩] ⟨o_laws_eqInt64S, (b, ())⟩ ∧ (b = true ↔ x = y) := by
  have hx1 : x.length ≤ 1048576 := hx.1
  by_cases hl : x.length = y.length
  · have hd : ((x.length : Int) != (y.length : Int)) = false := by simp [hl]
    obtain ⟨h1, h2⟩ := same_loop (a := x) (b := y) (L := fun m n i (_ : Unit) => laws_eqInt64S.l0 (mkR (run E m)) m n x y i) (fun u v => u = v) (rt := some ⟨o_laws_eqInt64S, (true, ())⟩) (rf := some ⟨o_laws_eqInt64S, (false, ())⟩) hl.symm
      (fun k h h' hne => Evt.of fun m n => by
      show laws_eqInt64S.l0 _ _ _ _ _ _ = _
      rw [laws_eqInt64S.l0_succ _ mk_ok, decide_eq_true (show (k : Int) < x.length by omega), cond_true, idx_lt h, idx_lt h']
      have : (x[k] != y[k]) = true := by simpa using hne
      simp only [Option.bind_some, this, cond_true])
      (fun k h h' he => Evt.of fun m n => by
      show laws_eqInt64S.l0 _ _ _ _ _ _ = _
      rw [laws_eqInt64S.l0_succ _ mk_ok, decide_eq_true (show (k : Int) < x.length by omega), cond_true, idx_lt h, idx_lt h']
      have : (x[k] != y[k]) = false := by simpa using he
      simp only [Option.bind_some, this, cond_false]
      rw [w64_succ (by omega)])
      (Evt.of fun m n => by
      show laws_eqInt64S.l0 _ _ _ _ _ _ = _
      rw [laws_eqInt64S.l0_succ _ mk_ok, decide_eq_false (by omega), cond_false])
    by_cases he : x = y
    · refine ⟨true, Evt.succ ((h1 (by subst he; intros; rfl)).mono fun n h => ?_), by simp [he]⟩
      rw [run_laws_eqInt64S, laws_eqInt64S.ev, hd, cond_false]
      exact h
    · refine ⟨false, Evt.succ ((h2 fun hh => he (List.ext_getElem hl hh)).mono fun n h => ?_), by simp [he]⟩
      rw [run_laws_eqInt64S, laws_eqInt64S.ev, hd, cond_false]
      exact h
  · have hd : ((x.length : Int) != (y.length : Int)) = true := by simp; omega
    refine ⟨false, Evt.succ (Evt.of fun n => ?_), ⟨fun h => (nomatch h), fun h => absurd (congrArg List.length h) hl⟩⟩
    rw [run_laws_eqInt64S, laws_eqInt64S.ev, hd, cond_true]

theorem szInt64SS_ret (x : vK) (l : Int) (hx : Wf yK x) (h0 : 0 ≤ l) (h1 : l ≤ 1048576) :
    ∃ r : Int, Ret E n_laws_szInt64SS [⟨yK, x⟩, ⟨.int .i64, l⟩] ⟨o_laws_szInt64SS, (r, ())⟩ ∧ (0 ≤ r → r ≤ l ∧ Sm yK x) := by
  have hx1 : x.length ≤ maxLen := hx.1
  rw [maxLen_eq] at hx1
  have hw : w64 (l - x.length) = l - x.length := w64_small (by omega) (by omega)
  by_cases hc : l - (x.length : Int) < 0
  · refine ⟨-1, Evt.succ (Evt.of fun n => ?_), fun h => by omega⟩
    rw [run_laws_szInt64SS, laws_szInt64SS.ev, hw, decide_eq_true hc]; rfl
  · obtain ⟨r, hr, hs⟩ := sz_loop (xs := x) (L := fun m n i left => laws_szInt64SS.l0 (mkR (run E m)) m n x left i) (ret := fun r => some ⟨o_laws_szInt64SS, (r, ())⟩) (fun x => Sm yL x) (fun k left hk hl0 hl1 => by
      obtain ⟨r, hr, hs⟩ := szInt64S_ret x[k] left (hx.2 _ (List.getElem_mem hk)) hl0 hl1
      refine ⟨r, hs, hr.mono fun m h n => ?_⟩
      show laws_szInt64SS.l0 _ _ _ _ _ _ = _
      rw [laws_szInt64SS.l0_succ _ mk_ok, decide_eq_true (show (k : Int) < x.length by omega), cond_true, idx_lt hk]
      simp only [Option.bind_some, callT_of h]
      rw [w64_succ (by omega)]) (fun left => Evt.of fun m n => by
      show laws_szInt64SS.l0 _ _ _ _ _ _ = _
      rw [laws_szInt64SS.l0_succ _ mk_ok, decide_eq_false (by omega), cond_false]) (l - x.length) (by omega) (by omega)
    refine ⟨r, Evt.succ (hr.mono fun n h => ?_), fun h => ⟨by have := (hs h).1; omega, by omega, (hs h).2⟩⟩
    rw [run_laws_szInt64SS, laws_szInt64SS.ev, hw, decide_eq_false hc]
    exact h

theorem toInt64SS_ret (x : vK) (hx : Sm yK x) : Ret E n_laws_toInt64SS [⟨yK, x⟩] ⟨o_laws_toInt64SS, (x, ())⟩ := by
  have hx1 : x.length ≤ 1048576 := hx.1
  have hl := fill_loop (a := x) (L := fun m n i o => laws_toInt64SS.l0 (mkR (run E m)) m n x i o) (z := List.replicate (Int.toNat (List.length x : Int)) ([] : List Int)) (r := some ⟨o_laws_toInt64SS, (x, ())⟩) (by simp) (fun k o hk ho => by
      have hr := toInt64S_ret x[k] (hx.2 _ (List.getElem_mem hk))
      refine hr.mono fun m h n => ?_
      show laws_toInt64SS.l0 _ _ _ _ _ _ = _
      rw [laws_toInt64SS.l0_succ _ mk_ok, decide_eq_true (show (k : Int) < x.length by omega), cond_true, idx_lt hk]
      simp only [Option.bind_some, callT_of h]
      rw [chk_true (by simp; omega), w64_succ (by omega), Int.toNat_natCast]) (Evt.of fun m n => by
      show laws_toInt64SS.l0 _ _ _ _ _ _ = _
      rw [laws_toInt64SS.l0_succ _ mk_ok, decide_eq_false (by omega), cond_false])
  refine Evt.succ (hl.mono fun n h => ?_)
  rw [run_laws_toInt64SS, laws_toInt64SS.ev, chk_true (by simp; omega)]
  exact h

theorem eqInt64SS_ret (x y : vK) (hx : Sm yK x) : ∃ b : Bool, Ret E n_laws_eqInt64SS [⟨yK, x⟩, ⟨yK, y⟩] ⟨o_laws_eqInt64SS, (b, ())⟩ ∧ (b = true ↔ x = y) := by
  have hx1 : x.length ≤ 1048576 := hx.1
  by_cases hl : x.length = y.length
  · have hd : ((x.length : Int) != (y.length : Int)) = false := by simp [hl]
    obtain ⟨h1, h2⟩ := same_loop (a := x) (b := y) (L := fun m n i (_ : Unit) => laws_eqInt64SS.l0 (mkR (run E m)) m n x y i) (fun u v => u = v) (rt := some ⟨o_laws_eqInt64SS, (true, ())⟩) (rf := some ⟨o_laws_eqInt64SS, (false, ())⟩) hl.symm
      (fun k h h' hne => by
      obtain ⟨b, hb, hbe⟩ := eqInt64S_ret x[k] y[k] (hx.2 _ (List.getElem_mem h))
      have hb0 : b = false := by cases b <;> simp_all
      subst hb0
      refine hb.mono fun m hm n => ?_
      show laws_eqInt64SS.l0 _ _ _ _ _ _ = _
      rw [laws_eqInt64SS.l0_succ _ mk_ok, decide_eq_true (show (k : Int) < x.length by omega), cond_true, idx_lt h, idx_lt h']
      simp only [Option.bind_some, callT_of hm, Bool.not_false, Bool.not_true, cond_true, cond_false])
      (fun k h h' he => by
      obtain ⟨b, hb, hbe⟩ := eqInt64S_ret x[k] y[k] (hx.2 _ (List.getElem_mem h))
      have hb0 : b = true := by cases b <;> simp_all
      subst hb0
      refine hb.mono fun m hm n => ?_
      show laws_eqInt64SS.l0 _ _ _ _ _ _ = _
      rw [laws_eqInt64SS.l0_succ _ mk_ok, decide_eq_true (show (k : Int) < x.length by omega), cond_true, idx_lt h, idx_lt h']
      simp only [Option.bind_some, callT_of hm, Bool.not_false, Bool.not_true, cond_true, cond_false]
      rw [w64_succ (by omega)])
      (Evt.of fun m n => by
      show laws_eqInt64SS.l0 _ _ _ _ _ _ = _
      rw [laws_eqInt64SS.l0_succ _ mk_ok, decide_eq_false (by omega), cond_false])
    by_cases he : x = y
    · refine ⟨true, Evt.succ ((h1 (by subst he; intros; rfl)).mono fun n h => ?_), by simp [he]⟩
      rw [run_laws_eqInt64SS, laws_eqInt64SS.ev, hd, cond_false]
      exact h
    · refine ⟨false, Evt.succ ((h2 fun hh => he (List.ext_getElem hl hh)).mono fun n h => ?_), by simp [he]⟩
      rw [run_laws_eqInt64SS, laws_eqInt64SS.ev, hd, cond_false]
      exact h
  · have hd : ((x.length : Int) != (y.length : Int)) = true := by simp; omega
    refine ⟨false, Evt.succ (Evt.of fun n => ?_), ⟨fun h => (nomatch h), fun h => absurd (congrArg List.length h) hl⟩⟩
    rw [run_laws_eqInt64SS, laws_eqInt64SS.ev, hd, cond_true]

theorem szComplex_ret (x : (vK × Unit)) (l : Int) (hx : Wf (.st (.cons yK .nil)) x) (h0 : 0 ≤ l) (h1 : l ≤ 1048576) :
    ∃ r : Int, Ret E n_laws_szComplex [⟨yK, x.1⟩, ⟨.int .i64, l⟩] ⟨o_laws_szComplex, (r, ())⟩ ∧ (0 ≤ r → r ≤ l ∧ Sm (.st (.cons yK .nil)) x) := by
  obtain ⟨r0, hr0, hs0⟩ := szInt64SS_ret x.1 l hx.1 (by omega) (by omega)
  by_cases hc0 : r0 < 0
  · refine ⟨-1, Evt.succ (hr0.mono fun n e0 => ?_), fun h => by omega⟩
    rw [run_laws_szComplex, laws_szComplex.ev]
    simp only [Option.bind_some, cond_true, cond_false, callT_of e0, decide_eq_true hc0]
  have hb0 := hs0 (by omega)
  refine ⟨r0, Evt.succ (hr0.mono fun n e0 => ?_), fun h => ⟨by omega, ?_⟩⟩
  · skip
    rw [run_laws_szComplex, laws_szComplex.ev]
    simp only [Option.bind_some, cond_true, cond_false, callT_of e0, decide_eq_false hc0]
  · exact ⟨hb0.2, trivial⟩

theorem toComplex_ret (x : (vK × Unit)) (hx : Sm (.st (.cons yK .nil)) x) : Ret E n_laws_toComplex [⟨yK, x.1⟩] ⟨o_laws_toComplex, x⟩ := by
  have hr0 := toInt64SS_ret x.1 hx.1
  refine Evt.succ (hr0.mono fun n e0 => ?_)
  rw [run_laws_toComplex, laws_toComplex.ev]
  simp only [Option.bind_some, callT_of e0]

theorem eqComplex_ret (x y : (vK × Unit)) (hx : Sm (.st (.cons yK .nil)) x) : ∃ b : Bool, Ret E n_laws_eqComplex [⟨yK, x.1⟩, ⟨yK, y.1⟩] ⟨o_laws_eqComplex, (b, ())⟩ ∧ (b = true ↔ x = y) := by
  obtain ⟨b0, hr0, hb0⟩ := eqInt64SS_ret x.1 y.1 hx.1
  refine ⟨b0, Evt.succ (hr0.mono fun n e0 => ?_), ?_⟩
  · skip
    rw [run_laws_eqComplex, laws_eqComplex.ev]
    simp only [Option.bind_some, callT_of e0]
    clear hx hr0 e0 hb0
    cases b0 <;> rfl
  · obtain ⟨x0, _⟩ := x
    obtain ⟨y0, _⟩ := y
    simp only [Bool.and_eq_true, decide_eq_true_eq, hb0, Prod.mk.injEq, and_true]
    try simp only [and_assoc]

theorem szMatrix_ret (x : vM) (l : Int) (hx : Wf (.st yM) x) (h0 : 0 ≤ l) (h1 : l ≤ 1048576) :
    ∃ r : Int, Ret E n_laws_szMatrix [⟨yI, x.1⟩, ⟨yI, x.2.1⟩, ⟨yI, x.2.2.1⟩, ⟨yL, x.2.2.2.1⟩, ⟨.int .i64, l⟩] ⟨o_laws_szMatrix, (r, ())⟩ ∧ (0 ≤ r → r ≤ l ∧ Sm (.st yM) x) := by
  obtain ⟨r0, hr0, hs0⟩ := szInt64S_ret x.2.2.2.1 l hx.2.2.2.1 (by omega) (by omega)
  by_cases hc0 : r0 < 0
  · refine ⟨-1, Evt.succ (hr0.mono fun n e0 => ?_), fun h => by omega⟩
    rw [run_laws_szMatrix, laws_szMatrix.ev]
    simp only [Option.bind_some, cond_true, cond_false, callT_of e0, decide_eq_true hc0]
  have hb0 := hs0 (by omega)
  refine ⟨r0, Evt.succ (hr0.mono fun n e0 => ?_), fun h => ⟨by omega, ?_⟩⟩
  · skip
    rw [run_laws_szMatrix, laws_szMatrix.ev]
    simp only [Option.bind_some, cond_true, cond_false, callT_of e0, decide_eq_false hc0]
  · exact ⟨trivial, trivial, trivial, hb0.2, trivial⟩

theorem toMatrix_ret (x : vM) (hx : Sm (.st yM) x) : Ret E n_laws_toMatrix [⟨yI, x.1⟩, ⟨yI, x.2.1⟩, ⟨yI, x.2.2.1⟩, ⟨yL, x.2.2.2.1⟩] ⟨o_laws_toMatrix, x⟩ := by
  have hr0 := toInt64S_ret x.2.2.2.1 hx.2.2.2.1
  refine Evt.succ (hr0.mono fun n e0 => ?_)
  rw [run_laws_toMatrix, laws_toMatrix.ev]
  simp only [Option.bind_some, callT_of e0]

theorem eqMatrix_ret (x y : vM) (hx : Sm (.st yM) x) : ∃ b : Bool, Ret E n_laws_eqMatrix [⟨yI, x.1⟩, ⟨yI, x.2.1⟩, ⟨yI, x.2.2.1⟩, ⟨yL, x.2.2.2.1⟩, ⟨yI, y.1⟩, ⟨yI, y.2.1⟩, ⟨yI, y.2.2.1⟩, ⟨yL, y.2.2.2.1⟩] ⟨o_laws_eqMatrix, (b, ())⟩ ∧ (b = true ↔ x = y) := by
  obtain ⟨b0, hr0, hb0⟩ := eqInt64S_ret x.2.2.2.1 y.2.2.2.1 hx.2.2.2.1
  refine ⟨decide (x.1 = y.1) && decide (x.2.1 = y.2.1) && decide (x.2.2.1 = y.2.2.1) && b0, Evt.succ (hr0.mono fun n e0 => ?_), ?_⟩
  · skip
    rw [run_laws_eqMatrix, laws_eqMatrix.ev]
    simp only [Option.bind_some, callT_of e0]
    simp only [show (x.1 != y.1) = !decide (x.1 = y.1) from rfl]
    generalize decide (x.1 = y.1) = d0
    simp only [show (x.2.1 != y.2.1) = !decide (x.2.1 = y.2.1) from rfl]
    generalize decide (x.2.1 = y.2.1) = d1
    simp only [show (x.2.2.1 != y.2.2.1) = !decide (x.2.2.1 = y.2.2.1) from rfl]
    generalize decide (x.2.2.1 = y.2.2.1) = d2
    clear hx hr0 e0 hb0
    cases d0 <;> cases d1 <;> cases d2 <;> cases b0 <;> rfl
  · obtain ⟨x0, x1, x2, x3, _⟩ := x
    obtain ⟨y0, y1, y2, y3, _⟩ := y
    simp only [Bool.and_eq_true, decide_eq_true_eq, hb0, Prod.mk.injEq, and_true]
    try simp only [and_assoc]

theorem szMatrixS_ret (x : vN) (l : Int) (hx : Wf yN x) (h0 : 0 ≤ l) (h1 : l ≤ 1048576) :
    ∃ r : Int, Ret E n_laws_szMatrixS [⟨yN, x⟩, ⟨.int .i64, l⟩] ⟨o_laws_szMatrixS, (r, ())⟩ ∧ (0 ≤ r → r ≤ l ∧ Sm yN x) := by
  have hx1 : x.length ≤ maxLen := hx.1
  rw [maxLen_eq] at hx1
  have hw : w64 (l - x.length) = l - x.length := w64_small (by omega) (by omega)
  by_cases hc : l - (x.length : Int) < 0
  · refine ⟨-1, Evt.succ (Evt.of fun n => ?_), fun h => by omega⟩
    rw [run_laws_szMatrixS, laws_szMatrixS.ev, hw, decide_eq_true hc]; rfl
  · obtain ⟨r, hr, hs⟩ := sz_loop (xs := x) (L := fun m n i left => laws_szMatrixS.l0 (mkR (run E m)) m n x left i) (ret := fun r => some ⟨o_laws_szMatrixS, (r, ())⟩) (fun x => Sm (.st yM) x) (fun k left hk hl0 hl1 => by
      obtain ⟨r, hr, hs⟩ := szMatrix_ret x[k] left (hx.2 _ (List.getElem_mem hk)) hl0 hl1
      refine ⟨r, hs, hr.mono fun m h n => ?_⟩
      show laws_szMatrixS.l0 _ _ _ _ _ _ = _
      rw [laws_szMatrixS.l0_succ _ mk_ok, decide_eq_true (show (k : Int) < x.length by omega), cond_true, idx_lt hk]
      simp only [Option.bind_some, callT_of h]
      rw [w64_succ (by omega)]) (fun left => Evt.of fun m n => by
      show laws_szMatrixS.l0 _ _ _ _ _ _ = _
      rw [laws_szMatrixS.l0_succ _ mk_ok, decide_eq_false (by omega), cond_false]) (l - x.length) (by omega) (by omega)
    refine ⟨r, Evt.succ (hr.mono fun n h => ?_), fun h => ⟨by have := (hs h).1; omega, by omega, (hs h).2⟩⟩
    rw [run_laws_szMatrixS, laws_szMatrixS.ev, hw, decide_eq_false hc]
    exact h

theorem toMatrixS_ret (x : vN) (hx : Sm yN x) : Ret E n_laws_toMatrixS [⟨yN, x⟩] ⟨o_laws_toMatrixS, (x, ())⟩ := by
  have hx1 : x.length ≤ 1048576 := hx.1
  have hl := fill_loop (a := x) (L := fun m n i o => laws_toMatrixS.l0 (mkR (run E m)) m n x i o) (z := List.replicate (Int.toNat (List.length x : Int)) ((0 : Int), (0 : Int), (0 : Int), ([] : List Int), ())) (r := some ⟨o_laws_toMatrixS, (x, ())⟩) (by simp) (fun k o hk ho => by
      have hr := toMatrix_ret x[k] (hx.2 _ (List.getElem_mem hk))
      refine hr.mono fun m h n => ?_
      show laws_toMatrixS.l0 _ _ _ _ _ _ = _
      rw [laws_toMatrixS.l0_succ _ mk_ok, decide_eq_true (show (k : Int) < x.length by omega), cond_true, idx_lt hk]
      simp only [Option.bind_some, callT_of h]
      rw [chk_true (by simp; omega), w64_succ (by omega), Int.toNat_natCast]) (Evt.of fun m n => by
      show laws_toMatrixS.l0 _ _ _ _ _ _ = _
      rw [laws_toMatrixS.l0_succ _ mk_ok, decide_eq_false (by omega), cond_false])
  refine Evt.succ (hl.mono fun n h => ?_)
  rw [run_laws_toMatrixS, laws_toMatrixS.ev, chk_true (by simp; omega)]
  exact h

theorem eqMatrixS_ret (x y : vN) (hx : Sm yN x) : ∃ b : Bool, Ret E n_laws_eqMatrixS [⟨yN, x⟩, ⟨yN, y⟩] ⟨o_laws_eqMatrixS, (b, ())⟩ ∧ (b = true ↔ x = y) := by
  have hx1 : x.length ≤ 1048576 := hx.1
  by_cases hl : x.length = y.length
  · have hd : ((x.length : Int) != (y.length : Int)) = false := by simp [hl]
    obtain ⟨h1, h2⟩ := same_loop (a := x) (b := y) (L := fun m n i (_ : Unit) => laws_eqMatrixS.l0 (mkR (run E m)) m n x y i) (fun u v => u = v) (rt := some ⟨o_laws_eqMatrixS, (true, ())⟩) (rf := some ⟨o_laws_eqMatrixS, (false, ())⟩) hl.symm
      (fun k h h' hne => by
      obtain ⟨b, hb, hbe⟩ := eqMatrix_ret x[k] y[k] (hx.2 _ (List.getElem_mem h))
      have hb0 : b = false := by cases b <;> simp_all
      subst hb0
      refine hb.mono fun m hm n => ?_
      show laws_eqMatrixS.l0 _ _ _ _ _ _ = _
      rw [laws_eqMatrixS.l0_succ _ mk_ok, decide_eq_true (show (k : Int) < x.length by omega), cond_true, idx_lt h, idx_lt h']
      simp only [Option.bind_some, callT_of hm, Bool.not_false, Bool.not_true, cond_true, cond_false])
      (fun k h h' he => by
      obtain ⟨b, hb, hbe⟩ := eqMatrix_ret x[k] y[k] (hx.2 _ (List.getElem_mem h))
      have hb0 : b = true := by cases b <;> simp_all
      subst hb0
      refine hb.mono fun m hm n => ?_
      show laws_eqMatrixS.l0 _ _ _ _ _ _ = _
      rw [laws_eqMatrixS.l0_succ _ mk_ok, decide_eq_true (show (k : Int) < x.length by omega), cond_true, idx_lt h, idx_lt h']
      simp only [Option.bind_some, callT_of hm, Bool.not_false, Bool.not_true, cond_true, cond_false]
      rw [w64_succ (by omega)])
      (Evt.of fun m n => by
      show laws_eqMatrixS.l0 _ _ _ _ _ _ = _
      rw [laws_eqMatrixS.l0_succ _ mk_ok, decide_eq_false (by omega), cond_false])
    by_cases he : x = y
    · refine ⟨true, Evt.succ ((h1 (by subst he; intros; rfl)).mono fun n h => ?_), by simp [he]⟩
      rw [run_laws_eqMatrixS, laws_eqMatrixS.ev, hd, cond_false]
      exact h
    · refine ⟨false, Evt.succ ((h2 fun hh => he (List.ext_getElem hl hh)).mono fun n h => ?_), by simp [he]⟩
      rw [run_laws_eqMatrixS, laws_eqMatrixS.ev, hd, cond_false]
      exact h
  · have hd : ((x.length : Int) != (y.length : Int)) = true := by simp; omega
    refine ⟨false, Evt.succ (Evt.of fun n => ?_), ⟨fun h => (nomatch h), fun h => absurd (congrArg List.length h) hl⟩⟩
    rw [run_laws_eqMatrixS, laws_eqMatrixS.ev, hd, cond_true]

theorem szSheaf_ret (x : vS) (l : Int) (hx : Wf (.st yS) x) (h0 : 0 ≤ l) (h1 : l ≤ 1048576) :
    ∃ r : Int, Ret E n_laws_szSheaf [⟨yK, x.1⟩, ⟨yI, x.2.1⟩, ⟨yL, x.2.2.1⟩, ⟨yN, x.2.2.2.1⟩, ⟨.int .i64, l⟩] ⟨o_laws_szSheaf, (r, ())⟩ ∧ (0 ≤ r → r ≤ l ∧ Sm (.st yS) x) := by
  obtain ⟨r0, hr0, hs0⟩ := szComplex_ret (x.1, ()) l ⟨hx.1, trivial⟩ (by omega) (by omega)
  by_cases hc0 : r0 < 0
  · refine ⟨-1, Evt.succ (hr0.mono fun n e0 => ?_), fun h => by omega⟩
    rw [run_laws_szSheaf, laws_szSheaf.ev]
    simp only [Option.bind_some, cond_true, cond_false, callT_of e0, decide_eq_true hc0]
  have hb0 := hs0 (by omega)
  obtain ⟨r1, hr1, hs1⟩ := szInt64S_ret x.2.2.1 r0 hx.2.2.1 (by omega) (by omega)
  by_cases hc1 : r1 < 0
  · refine ⟨-1, Evt.succ ((hr0.and hr1).mono fun n hh => ?_), fun h => by omega⟩
    obtain ⟨e0, e1⟩ := hh
    rw [run_laws_szSheaf, laws_szSheaf.ev]
    simp only [Option.bind_some, cond_true, cond_false, callT_of e0, callT_of e1, decide_eq_false hc0, decide_eq_true hc1]
  have hb1 := hs1 (by omega)
  obtain ⟨r2, hr2, hs2⟩ := szMatrixS_ret x.2.2.2.1 r1 hx.2.2.2.1 (by omega) (by omega)
  by_cases hc2 : r2 < 0
  · refine ⟨-1, Evt.succ (((hr0.and hr1).and hr2).mono fun n hh => ?_), fun h => by omega⟩
    obtain ⟨⟨e0, e1⟩, e2⟩ := hh
    rw [run_laws_szSheaf, laws_szSheaf.ev]
    simp only [Option.bind_some, cond_true, cond_false, callT_of e0, callT_of e1, callT_of e2, decide_eq_false hc0, decide_eq_false hc1, decide_eq_true hc2]
  have hb2 := hs2 (by omega)
  refine ⟨r2, Evt.succ (((hr0.and hr1).and hr2).mono fun n hh => ?_), fun h => ⟨by omega, ?_⟩⟩
  · obtain ⟨⟨e0, e1⟩, e2⟩ := hh
    rw [run_laws_szSheaf, laws_szSheaf.ev]
    simp only [Option.bind_some, cond_true, cond_false, callT_of e0, callT_of e1, callT_of e2, decide_eq_false hc0, decide_eq_false hc1, decide_eq_false hc2]
  · exact ⟨hb0.2.1, trivial, hb1.2, hb2.2, trivial⟩

theorem toSheaf_ret (x : vS) (hx : Sm (.st yS) x) : Ret E n_laws_toSheaf [⟨yK, x.1⟩, ⟨yI, x.2.1⟩, ⟨yL, x.2.2.1⟩, ⟨yN, x.2.2.2.1⟩] ⟨o_laws_toSheaf, x⟩ := by
  have hr0 := toComplex_ret (x.1, ()) ⟨hx.1, trivial⟩
  have hr1 := toInt64S_ret x.2.2.1 hx.2.2.1
  have hr2 := toMatrixS_ret x.2.2.2.1 hx.2.2.2.1
  refine Evt.succ (((hr0.and hr1).and hr2).mono fun n hh => ?_)
  obtain ⟨⟨e0, e1⟩, e2⟩ := hh
  rw [run_laws_toSheaf, laws_toSheaf.ev]
  simp only [Option.bind_some, callT_of e0, callT_of e1, callT_of e2]

theorem eqSheaf_ret (x y : vS) (hx : Sm (.st yS) x) : ∃ b : Bool, Ret E n_laws_eqSheaf [⟨yK, x.1⟩, ⟨yI, x.2.1⟩, ⟨yL, x.2.2.1⟩, ⟨yN, x.2.2.2.1⟩, ⟨yK, y.1⟩, ⟨yI, y.2.1⟩, ⟨yL, y.2.2.1⟩, ⟨yN, y.2.2.2.1⟩] ⟨o_laws_eqSheaf, (b, ())⟩ ∧ (b = true ↔ x = y) := by
  obtain ⟨b0, hr0, hb0⟩ := eqComplex_ret (x.1, ()) (y.1, ()) ⟨hx.1, trivial⟩
  obtain ⟨b1, hr1, hb1⟩ := eqInt64S_ret x.2.2.1 y.2.2.1 hx.2.2.1
  obtain ⟨b2, hr2, hb2⟩ := eqMatrixS_ret x.2.2.2.1 y.2.2.2.1 hx.2.2.2.1
  refine ⟨b0 && decide (x.2.1 = y.2.1) && b1 && b2, Evt.succ (((hr0.and hr1).and hr2).mono fun n hh => ?_), ?_⟩
  · obtain ⟨⟨e0, e1⟩, e2⟩ := hh
    rw [run_laws_eqSheaf, laws_eqSheaf.ev]
    simp only [Option.bind_some, callT_of e0, callT_of e1, callT_of e2]
    simp only [show (x.2.1 != y.2.1) = !decide (x.2.1 = y.2.1) from rfl]
    generalize decide (x.2.1 = y.2.1) = d1
    clear hx hr0 e0 hb0 hr1 e1 hb1 hr2 e2 hb2
    cases b0 <;> cases d1 <;> cases b1 <;> cases b2 <;> rfl
  · obtain ⟨x0, x1, x2, x3, _⟩ := x
    obtain ⟨y0, y1, y2, y3, _⟩ := y
    simp only [Bool.and_eq_true, decide_eq_true_eq, hb0, hb1, hb2, Prod.mk.injEq, and_true]
    try simp only [and_assoc]

end VeT

open Go Go.Proofs Ve
set_option linter.unusedVariables false
set_option linter.unusedSimpArgs false
namespace VeT

theorem IndexFunc_SSint64_Sint64_impl_ValidComplex_1_ret (s : List (List Int)) (c : ((vK × Unit) × (Int × Unit) × Unit)) (p : (List Int) → Bool) (hs : s.length ≤ 1048576) (hp : ∀ x ∈ s, Ret E n_impl_ValidComplex_1 [⟨yL, x⟩, ⟨(.ptr (.cons yK .nil)), c.1⟩, ⟨(.ptr (.cons yI .nil)), c.2.1⟩] ⟨o_impl_ValidComplex_1, (p x, ())⟩) :
    Ret E n_slices_IndexFunc_SSint64_Sint64 [⟨yK, s⟩, ⟨(.fn n_impl_ValidComplex_1 (.cons (.ptr (.cons yK .nil)) (.cons (.ptr (.cons yI .nil)) .nil))), c⟩] ⟨o_slices_IndexFunc_SSint64_Sint64, (idxf p s, ())⟩ := by
  obtain ⟨o, h1, h2, h3⟩ := find_loop 1 (L := fun φ n k => slices_IndexFunc_SSint64_Sint64_impl_ValidComplex_1.l0 (mkR (run E (φ 0))) (φ 0) n s c (s.length : Int) k) (len := s.length) (fun k => ∃ h : k < s.length, p s[k] = true) (fun o => some ⟨o_slices_IndexFunc_SSint64_Sint64, (o2i o, ())⟩) (fun _ _ _ _ => rfl) (fun k hk hP => by
      obtain ⟨_, hP⟩ := hP
      simp only [slices_IndexFunc_SSint64_Sint64_impl_ValidComplex_1.l0_succ _ mk_ok]
      refine ev_t (decide_eq_true (by omega)) (ev_bind (idx_lt hk) (ev_call (hp _ (List.getElem_mem hk)) (ev_t hP ev_rfl)))) (fun k q hk hP ih => by
      simp only [slices_IndexFunc_SSint64_Sint64_impl_ValidComplex_1.l0_succ _ mk_ok]
      refine ev_t (decide_eq_true (by omega)) (ev_bind (idx_lt hk) (ev_call (hp _ (List.getElem_mem hk)) (ev_f (Bool.eq_false_iff.2 fun h => hP ⟨hk, h⟩) ?_)))
      rw [w64_succ (by omega)]; exact ih) (by
      simp only [slices_IndexFunc_SSint64_Sint64_impl_ValidComplex_1.l0_succ _ mk_ok]
      exact ev_f (decide_eq_false (by omega)) ev_rfl)
  rw [idxf_of h1 h2] at h3
  refine ret_of ?_
  simp only [run_slices_IndexFunc_SSint64_Sint64, slices_IndexFunc_SSint64_Sint64_impl_ValidComplex_1.ev]
  exact Ev.start (p := fun φ n => slices_IndexFunc_SSint64_Sint64_impl_ValidComplex_1.l0 (mkR (run E (φ 0))) (φ 0) n s c (s.length : Int) 0 = _) 1 h3 (fun _ _ _ h => h)

theorem IndexFunc_Sint64_int64_impl_ValidSimplex_1_ret (s : List Int) (p : Int → Bool) (hs : s.length ≤ 1048576) (hp : ∀ x ∈ s, Ret E n_impl_ValidSimplex_1 [⟨yI, x⟩] ⟨o_impl_ValidSimplex_1, (p x, ())⟩) :
    Ret E n_slices_IndexFunc_Sint64_int64 [⟨yL, s⟩, ⟨(.fn n_impl_ValidSimplex_1 .nil), ()⟩] ⟨o_slices_IndexFunc_Sint64_int64, (idxf p s, ())⟩ := by
  obtain ⟨o, h1, h2, h3⟩ := find_loop 1 (L := fun φ n k => slices_IndexFunc_Sint64_int64_impl_ValidSimplex_1.l0 (mkR (run E (φ 0))) (φ 0) n s (s.length : Int) k) (len := s.length) (fun k => ∃ h : k < s.length, p s[k] = true) (fun o => some ⟨o_slices_IndexFunc_Sint64_int64, (o2i o, ())⟩) (fun _ _ _ _ => rfl) (fun k hk hP => by
      obtain ⟨_, hP⟩ := hP
      simp only [slices_IndexFunc_Sint64_int64_impl_ValidSimplex_1.l0_succ _ mk_ok]
      refine ev_t (decide_eq_true (by omega)) (ev_bind (idx_lt hk) (ev_call (hp _ (List.getElem_mem hk)) (ev_t hP ev_rfl)))) (fun k q hk hP ih => by
      simp only [slices_IndexFunc_Sint64_int64_impl_ValidSimplex_1.l0_succ _ mk_ok]
      refine ev_t (decide_eq_true (by omega)) (ev_bind (idx_lt hk) (ev_call (hp _ (List.getElem_mem hk)) (ev_f (Bool.eq_false_iff.2 fun h => hP ⟨hk, h⟩) ?_)))
      rw [w64_succ (by omega)]; exact ih) (by
      simp only [slices_IndexFunc_Sint64_int64_impl_ValidSimplex_1.l0_succ _ mk_ok]
      exact ev_f (decide_eq_false (by omega)) ev_rfl)
  rw [idxf_of h1 h2] at h3
  refine ret_of ?_
  simp only [run_slices_IndexFunc_Sint64_int64, slices_IndexFunc_Sint64_int64_impl_ValidSimplex_1.ev]
  exact Ev.start (p := fun φ n => slices_IndexFunc_Sint64_int64_impl_ValidSimplex_1.l0 (mkR (run E (φ 0))) (φ 0) n s (s.length : Int) 0 = _) 1 h3 (fun _ _ _ h => h)

theorem IndexFunc_Sint64_int64_impl_areElements_1_ret (s : List Int) (c : ((Int × Unit) × Unit)) (p : Int → Bool) (hs : s.length ≤ 1048576) (hp : ∀ x ∈ s, Ret E n_impl_areElements_1 [⟨yI, x⟩, ⟨(.ptr (.cons yI .nil)), c.1⟩] ⟨o_impl_areElements_1, (p x, ())⟩) :
    Ret E n_slices_IndexFunc_Sint64_int64 [⟨yL, s⟩, ⟨(.fn n_impl_areElements_1 (.cons (.ptr (.cons yI .nil)) .nil)), c⟩] ⟨o_slices_IndexFunc_Sint64_int64, (idxf p s, ())⟩ := by
  obtain ⟨o, h1, h2, h3⟩ := find_loop 1 (L := fun φ n k => slices_IndexFunc_Sint64_int64_impl_areElements_1.l0 (mkR (run E (φ 0))) (φ 0) n s c (s.length : Int) k) (len := s.length) (fun k => ∃ h : k < s.length, p s[k] = true) (fun o => some ⟨o_slices_IndexFunc_Sint64_int64, (o2i o, ())⟩) (fun _ _ _ _ => rfl) (fun k hk hP => by
      obtain ⟨_, hP⟩ := hP
      simp only [slices_IndexFunc_Sint64_int64_impl_areElements_1.l0_succ _ mk_ok]
      refine ev_t (decide_eq_true (by omega)) (ev_bind (idx_lt hk) (ev_call (hp _ (List.getElem_mem hk)) (ev_t hP ev_rfl)))) (fun k q hk hP ih => by
      simp only [slices_IndexFunc_Sint64_int64_impl_areElements_1.l0_succ _ mk_ok]
      refine ev_t (decide_eq_true (by omega)) (ev_bind (idx_lt hk) (ev_call (hp _ (List.getElem_mem hk)) (ev_f (Bool.eq_false_iff.2 fun h => hP ⟨hk, h⟩) ?_)))
      rw [w64_succ (by omega)]; exact ih) (by
      simp only [slices_IndexFunc_Sint64_int64_impl_areElements_1.l0_succ _ mk_ok]
      exact ev_f (decide_eq_false (by omega)) ev_rfl)
  rw [idxf_of h1 h2] at h3
  refine ret_of ?_
  simp only [run_slices_IndexFunc_Sint64_int64, slices_IndexFunc_Sint64_int64_impl_areElements_1.ev]
  exact Ev.start (p := fun φ n => slices_IndexFunc_Sint64_int64_impl_areElements_1.l0 (mkR (run E (φ 0))) (φ 0) n s c (s.length : Int) 0 = _) 1 h3 (fun _ _ _ h => h)

theorem IndexFunc_Sint64_int64_impl_areStalks_1_ret (s : List Int) (p : Int → Bool) (hs : s.length ≤ 1048576) (hp : ∀ x ∈ s, Ret E n_impl_areStalks_1 [⟨yI, x⟩] ⟨o_impl_areStalks_1, (p x, ())⟩) :
    Ret E n_slices_IndexFunc_Sint64_int64 [⟨yL, s⟩, ⟨(.fn n_impl_areStalks_1 .nil), ()⟩] ⟨o_slices_IndexFunc_Sint64_int64, (idxf p s, ())⟩ := by
  obtain ⟨o, h1, h2, h3⟩ := find_loop 1 (L := fun φ n k => slices_IndexFunc_Sint64_int64_impl_areStalks_1.l0 (mkR (run E (φ 0))) (φ 0) n s (s.length : Int) k) (len := s.length) (fun k => ∃ h : k < s.length, p s[k] = true) (fun o => some ⟨o_slices_IndexFunc_Sint64_int64, (o2i o, ())⟩) (fun _ _ _ _ => rfl) (fun k hk hP => by
      obtain ⟨_, hP⟩ := hP
      simp only [slices_IndexFunc_Sint64_int64_impl_areStalks_1.l0_succ _ mk_ok]
      refine ev_t (decide_eq_true (by omega)) (ev_bind (idx_lt hk) (ev_call (hp _ (List.getElem_mem hk)) (ev_t hP ev_rfl)))) (fun k q hk hP ih => by
      simp only [slices_IndexFunc_Sint64_int64_impl_areStalks_1.l0_succ _ mk_ok]
      refine ev_t (decide_eq_true (by omega)) (ev_bind (idx_lt hk) (ev_call (hp _ (List.getElem_mem hk)) (ev_f (Bool.eq_false_iff.2 fun h => hP ⟨hk, h⟩) ?_)))
      rw [w64_succ (by omega)]; exact ih) (by
      simp only [slices_IndexFunc_Sint64_int64_impl_areStalks_1.l0_succ _ mk_ok]
      exact ev_f (decide_eq_false (by omega)) ev_rfl)
  rw [idxf_of h1 h2] at h3
  refine ret_of ?_
  simp only [run_slices_IndexFunc_Sint64_int64, slices_IndexFunc_Sint64_int64_impl_areStalks_1.ev]
  exact Ev.start (p := fun φ n => slices_IndexFunc_Sint64_int64_impl_areStalks_1.l0 (mkR (run E (φ 0))) (φ 0) n s (s.length : Int) 0 = _) 1 h3 (fun _ _ _ h => h)

theorem IndexFunc_Sint64_int64_impl_isFace_1_ret (s : List Int) (c : (((List Int) × Unit) × Unit)) (p : Int → Bool) (hs : s.length ≤ 1048576) (hp : ∀ x ∈ s, Ret E n_impl_isFace_1 [⟨yI, x⟩, ⟨(.ptr (.cons yL .nil)), c.1⟩] ⟨o_impl_isFace_1, (p x, ())⟩) :
    Ret E n_slices_IndexFunc_Sint64_int64 [⟨yL, s⟩, ⟨(.fn n_impl_isFace_1 (.cons (.ptr (.cons yL .nil)) .nil)), c⟩] ⟨o_slices_IndexFunc_Sint64_int64, (idxf p s, ())⟩ := by
  obtain ⟨o, h1, h2, h3⟩ := find_loop 1 (L := fun φ n k => slices_IndexFunc_Sint64_int64_impl_isFace_1.l0 (mkR (run E (φ 0))) (φ 0) n s c (s.length : Int) k) (len := s.length) (fun k => ∃ h : k < s.length, p s[k] = true) (fun o => some ⟨o_slices_IndexFunc_Sint64_int64, (o2i o, ())⟩) (fun _ _ _ _ => rfl) (fun k hk hP => by
      obtain ⟨_, hP⟩ := hP
      simp only [slices_IndexFunc_Sint64_int64_impl_isFace_1.l0_succ _ mk_ok]
      refine ev_t (decide_eq_true (by omega)) (ev_bind (idx_lt hk) (ev_call (hp _ (List.getElem_mem hk)) (ev_t hP ev_rfl)))) (fun k q hk hP ih => by
      simp only [slices_IndexFunc_Sint64_int64_impl_isFace_1.l0_succ _ mk_ok]
      refine ev_t (decide_eq_true (by omega)) (ev_bind (idx_lt hk) (ev_call (hp _ (List.getElem_mem hk)) (ev_f (Bool.eq_false_iff.2 fun h => hP ⟨hk, h⟩) ?_)))
      rw [w64_succ (by omega)]; exact ih) (by
      simp only [slices_IndexFunc_Sint64_int64_impl_isFace_1.l0_succ _ mk_ok]
      exact ev_f (decide_eq_false (by omega)) ev_rfl)
  rw [idxf_of h1 h2] at h3
  refine ret_of ?_
  simp only [run_slices_IndexFunc_Sint64_int64, slices_IndexFunc_Sint64_int64_impl_isFace_1.ev]
  exact Ev.start (p := fun φ n => slices_IndexFunc_Sint64_int64_impl_isFace_1.l0 (mkR (run E (φ 0))) (φ 0) n s c (s.length : Int) 0 = _) 1 h3 (fun _ _ _ h => h)

theorem IndexFunc_Sint64_int64_impl_restriction_1_ret (s : List Int) (c : (((List Int) × Unit) × Unit)) (p : Int → Bool) (hs : s.length ≤ 1048576) (hp : ∀ x ∈ s, Ret E n_impl_restriction_1 [⟨yI, x⟩, ⟨(.ptr (.cons yL .nil)), c.1⟩] ⟨o_impl_restriction_1, (p x, ())⟩) :
    Ret E n_slices_IndexFunc_Sint64_int64 [⟨yL, s⟩, ⟨(.fn n_impl_restriction_1 (.cons (.ptr (.cons yL .nil)) .nil)), c⟩] ⟨o_slices_IndexFunc_Sint64_int64, (idxf p s, ())⟩ := by
  obtain ⟨o, h1, h2, h3⟩ := find_loop 1 (L := fun φ n k => slices_IndexFunc_Sint64_int64_impl_restriction_1.l0 (mkR (run E (φ 0))) (φ 0) n s c (s.length : Int) k) (len := s.length) (fun k => ∃ h : k < s.length, p s[k] = true) (fun o => some ⟨o_slices_IndexFunc_Sint64_int64, (o2i o, ())⟩) (fun _ _ _ _ => rfl) (fun k hk hP => by
      obtain ⟨_, hP⟩ := hP
      simp only [slices_IndexFunc_Sint64_int64_impl_restriction_1.l0_succ _ mk_ok]
      refine ev_t (decide_eq_true (by omega)) (ev_bind (idx_lt hk) (ev_call (hp _ (List.getElem_mem hk)) (ev_t hP ev_rfl)))) (fun k q hk hP ih => by
      simp only [slices_IndexFunc_Sint64_int64_impl_restriction_1.l0_succ _ mk_ok]
      refine ev_t (decide_eq_true (by omega)) (ev_bind (idx_lt hk) (ev_call (hp _ (List.getElem_mem hk)) (ev_f (Bool.eq_false_iff.2 fun h => hP ⟨hk, h⟩) ?_)))
      rw [w64_succ (by omega)]; exact ih) (by
      simp only [slices_IndexFunc_Sint64_int64_impl_restriction_1.l0_succ _ mk_ok]
      exact ev_f (decide_eq_false (by omega)) ev_rfl)
  rw [idxf_of h1 h2] at h3
  refine ret_of ?_
  simp only [run_slices_IndexFunc_Sint64_int64, slices_IndexFunc_Sint64_int64_impl_restriction_1.ev]
  exact Ev.start (p := fun φ n => slices_IndexFunc_Sint64_int64_impl_restriction_1.l0 (mkR (run E (φ 0))) (φ 0) n s c (s.length : Int) 0 = _) 1 h3 (fun _ _ _ h => h)

theorem ContainsFunc_SSint64_Sint64_impl_ValidComplex_1_ret (s : List (List Int)) (c : ((vK × Unit) × (Int × Unit) × Unit)) (p : (List Int) → Bool) (hs : s.length ≤ 1048576) (hp : ∀ x ∈ s, Ret E n_impl_ValidComplex_1 [⟨yL, x⟩, ⟨(.ptr (.cons yK .nil)), c.1⟩, ⟨(.ptr (.cons yI .nil)), c.2.1⟩] ⟨o_impl_ValidComplex_1, (p x, ())⟩) :
    Ret E n_slices_ContainsFunc_SSint64_Sint64 [⟨yK, s⟩, ⟨(.fn n_impl_ValidComplex_1 (.cons (.ptr (.cons yK .nil)) (.cons (.ptr (.cons yI .nil)) .nil))), c⟩] ⟨o_slices_ContainsFunc_SSint64_Sint64, (pb (∃ x ∈ s, p x = true), ())⟩ := by
  refine ret_of ?_
  simp only [run_slices_ContainsFunc_SSint64_Sint64, slices_ContainsFunc_SSint64_Sint64_impl_ValidComplex_1.ev]
  refine ev_call (IndexFunc_SSint64_Sint64_impl_ValidComplex_1_ret s c p hs hp) (ev_some ?_)
  simp only [ge_iff_le, pb_dec, pb_congr idxf_nonneg]

theorem ContainsFunc_Sint64_int64_impl_ValidSimplex_1_ret (s : List Int) (p : Int → Bool) (hs : s.length ≤ 1048576) (hp : ∀ x ∈ s, Ret E n_impl_ValidSimplex_1 [⟨yI, x⟩] ⟨o_impl_ValidSimplex_1, (p x, ())⟩) :
    Ret E n_slices_ContainsFunc_Sint64_int64 [⟨yL, s⟩, ⟨(.fn n_impl_ValidSimplex_1 .nil), ()⟩] ⟨o_slices_ContainsFunc_Sint64_int64, (pb (∃ x ∈ s, p x = true), ())⟩ := by
  refine ret_of ?_
  simp only [run_slices_ContainsFunc_Sint64_int64, slices_ContainsFunc_Sint64_int64_impl_ValidSimplex_1.ev]
  refine ev_call (IndexFunc_Sint64_int64_impl_ValidSimplex_1_ret s p hs hp) (ev_some ?_)
  simp only [ge_iff_le, pb_dec, pb_congr idxf_nonneg]

theorem ContainsFunc_Sint64_int64_impl_areElements_1_ret (s : List Int) (c : ((Int × Unit) × Unit)) (p : Int → Bool) (hs : s.length ≤ 1048576) (hp : ∀ x ∈ s, Ret E n_impl_areElements_1 [⟨yI, x⟩, ⟨(.ptr (.cons yI .nil)), c.1⟩] ⟨o_impl_areElements_1, (p x, ())⟩) :
    Ret E n_slices_ContainsFunc_Sint64_int64 [⟨yL, s⟩, ⟨(.fn n_impl_areElements_1 (.cons (.ptr (.cons yI .nil)) .nil)), c⟩] ⟨o_slices_ContainsFunc_Sint64_int64, (pb (∃ x ∈ s, p x = true), ())⟩ := by
  refine ret_of ?_
  simp only [run_slices_ContainsFunc_Sint64_int64, slices_ContainsFunc_Sint64_int64_impl_areElements_1.ev]
  refine ev_call (IndexFunc_Sint64_int64_impl_areElements_1_ret s c p hs hp) (ev_some ?_)
  simp only [ge_iff_le, pb_dec, pb_congr idxf_nonneg]

theorem ContainsFunc_Sint64_int64_impl_areStalks_1_ret (s : List Int) (p : Int → Bool) (hs : s.length ≤ 1048576) (hp : ∀ x ∈ s, Ret E n_impl_areStalks_1 [⟨yI, x⟩] ⟨o_impl_areStalks_1, (p x, ())⟩) :
    Ret E n_slices_ContainsFunc_Sint64_int64 [⟨yL, s⟩, ⟨(.fn n_impl_areStalks_1 .nil), ()⟩] ⟨o_slices_ContainsFunc_Sint64_int64, (pb (∃ x ∈ s, p x = true), ())⟩ := by
  refine ret_of ?_
  simp only [run_slices_ContainsFunc_Sint64_int64, slices_ContainsFunc_Sint64_int64_impl_areStalks_1.ev]
  refine ev_call (IndexFunc_Sint64_int64_impl_areStalks_1_ret s p hs hp) (ev_some ?_)
  simp only [ge_iff_le, pb_dec, pb_congr idxf_nonneg]

theorem ContainsFunc_Sint64_int64_impl_isFace_1_ret (s : List Int) (c : (((List Int) × Unit) × Unit)) (p : Int → Bool) (hs : s.length ≤ 1048576) (hp : ∀ x ∈ s, Ret E n_impl_isFace_1 [⟨yI, x⟩, ⟨(.ptr (.cons yL .nil)), c.1⟩] ⟨o_impl_isFace_1, (p x, ())⟩) :
    Ret E n_slices_ContainsFunc_Sint64_int64 [⟨yL, s⟩, ⟨(.fn n_impl_isFace_1 (.cons (.ptr (.cons yL .nil)) .nil)), c⟩] ⟨o_slices_ContainsFunc_Sint64_int64, (pb (∃ x ∈ s, p x = true), ())⟩ := by
  refine ret_of ?_
  simp only [run_slices_ContainsFunc_Sint64_int64, slices_ContainsFunc_Sint64_int64_impl_isFace_1.ev]
  refine ev_call (IndexFunc_Sint64_int64_impl_isFace_1_ret s c p hs hp) (ev_some ?_)
  simp only [ge_iff_le, pb_dec, pb_congr idxf_nonneg]

theorem filled_impl_transpose_1_ret (p : Int) (R C : Nat) (c : (vM × Unit)) (f : Nat → Nat → Int) (hR : R ≤ 1048576) (hC : C ≤ 1048576) (hRC : R * C ≤ 1048576) (hf : ∀ i j : Nat, i < R → j < C → Ret E n_impl_transpose_1 [⟨yI, (i : Int)⟩, ⟨yI, (j : Int)⟩, ⟨(.ptr yM), c.1⟩] ⟨o_impl_transpose_1, (f i j, ())⟩) :
    Ret E n_impl_filled [⟨yI, p⟩, ⟨yI, (R : Int)⟩, ⟨yI, (C : Int)⟩, ⟨(.fn n_impl_transpose_1 (.cons (.ptr yM) .nil)), c⟩] ⟨o_impl_filled, (p, (R : Int), (C : Int), flatF f C R, ())⟩ := by
  refine ret_of ?_
  simp only [run_impl_filled, impl_filled_impl_transpose_1.ev]
  refine Ev.start (p := fun φ n => impl_filled_impl_transpose_1.l0 (mkR (run E (φ 0))) (φ 0) n (C : Int) c (R : Int) 0 0 0 0 p (R : Int) (C : Int) [] = _) 1 ?_ (fun _ _ _ h => h)
  refine fold_loop 1 (L := fun φ n k a => impl_filled_impl_transpose_1.l0 (mkR (run E (φ 0))) (φ 0) n (C : Int) c (R : Int) k 0 0 0 p (R : Int) (C : Int) a) (len := R) (fun k => flatF f C k) (fun _ _ _ _ _ => rfl) (fun k r hk ih => ?_) ?_
  · simp only [impl_filled_impl_transpose_1.l0_succ _ mk_ok]
    refine ev_t (decide_eq_true (by omega)) ?_
    refine Ev.start (p := fun φ n => impl_filled_impl_transpose_1.l1 (mkR (run E (φ 0))) (φ 0) (φ 1) n (C : Int) c (k : Int) (R : Int) (k : Int) (C : Int) 0 0 0 0 p (R : Int) (C : Int) (flatF f C k) = _) 2 ?_ (fun _ _ _ h => h)
    have hle : (k + 1) * C ≤ R * C := Nat.mul_le_mul_right _ hk
    rw [Nat.add_mul] at hle
    have := fold_loop 2 (L := fun φ n j a => impl_filled_impl_transpose_1.l1 (mkR (run E (φ 0))) (φ 0) (φ 1) n (C : Int) c (k : Int) (R : Int) (k : Int) (C : Int) j 0 0 0 p (R : Int) (C : Int) a) (len := C) (fun j => flatF f C k ++ (List.range j).map (f k)) (r := r) (fun _ _ _ _ _ => rfl) (fun j r hj ih => ?_) ?_
    · simpa using this
    · simp only [impl_filled_impl_transpose_1.l1_succ _ mk_ok]
      rw [List.range_succ, List.map_append, ← List.append_assoc] at ih
      refine ev_t (decide_eq_true (by omega)) (ev_call (hf k j hk hj) (ev_chk (by simp [flatF_length]; omega) ?_))
      rw [w64_succ (by omega)]; exact ih
    · simp only [impl_filled_impl_transpose_1.l1_succ _ mk_ok]
      refine ev_f (decide_eq_false (by omega)) ?_
      rw [w64_succ (by omega)]; exact ih
  · simp only [impl_filled_impl_transpose_1.l0_succ _ mk_ok]
    exact ev_f (decide_eq_false (by omega)) ev_rfl

theorem filled_impl_product_1_ret (p : Int) (R C : Nat) (c : (vM × (vK × Unit) × Unit)) (f : Nat → Nat → Int) (hR : R ≤ 1048576) (hC : C ≤ 1048576) (hRC : R * C ≤ 1048576) (hf : ∀ i j : Nat, i < R → j < C → Ret E n_impl_product_1 [⟨yI, (i : Int)⟩, ⟨yI, (j : Int)⟩, ⟨(.ptr yM), c.1⟩, ⟨(.ptr (.cons yK .nil)), c.2.1⟩] ⟨o_impl_product_1, (f i j, ())⟩) :
    Ret E n_impl_filled [⟨yI, p⟩, ⟨yI, (R : Int)⟩, ⟨yI, (C : Int)⟩, ⟨(.fn n_impl_product_1 (.cons (.ptr yM) (.cons (.ptr (.cons yK .nil)) .nil))), c⟩] ⟨o_impl_filled, (p, (R : Int), (C : Int), flatF f C R, ())⟩ := by
  refine ret_of ?_
  simp only [run_impl_filled, impl_filled_impl_product_1.ev]
  refine Ev.start (p := fun φ n => impl_filled_impl_product_1.l0 (mkR (run E (φ 0))) (φ 0) n (C : Int) c (R : Int) 0 0 0 0 p (R : Int) (C : Int) [] = _) 1 ?_ (fun _ _ _ h => h)
  refine fold_loop 1 (L := fun φ n k a => impl_filled_impl_product_1.l0 (mkR (run E (φ 0))) (φ 0) n (C : Int) c (R : Int) k 0 0 0 p (R : Int) (C : Int) a) (len := R) (fun k => flatF f C k) (fun _ _ _ _ _ => rfl) (fun k r hk ih => ?_) ?_
  · simp only [impl_filled_impl_product_1.l0_succ _ mk_ok]
    refine ev_t (decide_eq_true (by omega)) ?_
    refine Ev.start (p := fun φ n => impl_filled_impl_product_1.l1 (mkR (run E (φ 0))) (φ 0) (φ 1) n (C : Int) c (k : Int) (R : Int) (k : Int) (C : Int) 0 0 0 0 p (R : Int) (C : Int) (flatF f C k) = _) 2 ?_ (fun _ _ _ h => h)
    have hle : (k + 1) * C ≤ R * C := Nat.mul_le_mul_right _ hk
    rw [Nat.add_mul] at hle
    have := fold_loop 2 (L := fun φ n j a => impl_filled_impl_product_1.l1 (mkR (run E (φ 0))) (φ 0) (φ 1) n (C : Int) c (k : Int) (R : Int) (k : Int) (C : Int) j 0 0 0 p (R : Int) (C : Int) a) (len := C) (fun j => flatF f C k ++ (List.range j).map (f k)) (r := r) (fun _ _ _ _ _ => rfl) (fun j r hj ih => ?_) ?_
    · simpa using this
    · simp only [impl_filled_impl_product_1.l1_succ _ mk_ok]
      rw [List.range_succ, List.map_append, ← List.append_assoc] at ih
      refine ev_t (decide_eq_true (by omega)) (ev_call (hf k j hk hj) (ev_chk (by simp [flatF_length]; omega) ?_))
      rw [w64_succ (by omega)]; exact ih
    · simp only [impl_filled_impl_product_1.l1_succ _ mk_ok]
      refine ev_f (decide_eq_false (by omega)) ?_
      rw [w64_succ (by omega)]; exact ih
  · simp only [impl_filled_impl_product_1.l0_succ _ mk_ok]
    exact ev_f (decide_eq_false (by omega)) ev_rfl

theorem filled_impl_unit_1_ret (p : Int) (R C : Nat) (f : Nat → Nat → Int) (hR : R ≤ 1048576) (hC : C ≤ 1048576) (hRC : R * C ≤ 1048576) (hf : ∀ i j : Nat, i < R → j < C → Ret E n_impl_unit_1 [⟨yI, (i : Int)⟩, ⟨yI, (j : Int)⟩] ⟨o_impl_unit_1, (f i j, ())⟩) :
    Ret E n_impl_filled [⟨yI, p⟩, ⟨yI, (R : Int)⟩, ⟨yI, (C : Int)⟩, ⟨(.fn n_impl_unit_1 .nil), ()⟩] ⟨o_impl_filled, (p, (R : Int), (C : Int), flatF f C R, ())⟩ := by
  refine ret_of ?_
  simp only [run_impl_filled, impl_filled_impl_unit_1.ev]
  refine Ev.start (p := fun φ n => impl_filled_impl_unit_1.l0 (mkR (run E (φ 0))) (φ 0) n (C : Int) (R : Int) 0 0 0 0 p (R : Int) (C : Int) [] = _) 1 ?_ (fun _ _ _ h => h)
  refine fold_loop 1 (L := fun φ n k a => impl_filled_impl_unit_1.l0 (mkR (run E (φ 0))) (φ 0) n (C : Int) (R : Int) k 0 0 0 p (R : Int) (C : Int) a) (len := R) (fun k => flatF f C k) (fun _ _ _ _ _ => rfl) (fun k r hk ih => ?_) ?_
  · simp only [impl_filled_impl_unit_1.l0_succ _ mk_ok]
    refine ev_t (decide_eq_true (by omega)) ?_
    refine Ev.start (p := fun φ n => impl_filled_impl_unit_1.l1 (mkR (run E (φ 0))) (φ 0) (φ 1) n (C : Int) (k : Int) (R : Int) (k : Int) (C : Int) 0 0 0 0 p (R : Int) (C : Int) (flatF f C k) = _) 2 ?_ (fun _ _ _ h => h)
    have hle : (k + 1) * C ≤ R * C := Nat.mul_le_mul_right _ hk
    rw [Nat.add_mul] at hle
    have := fold_loop 2 (L := fun φ n j a => impl_filled_impl_unit_1.l1 (mkR (run E (φ 0))) (φ 0) (φ 1) n (C : Int) (k : Int) (R : Int) (k : Int) (C : Int) j 0 0 0 p (R : Int) (C : Int) a) (len := C) (fun j => flatF f C k ++ (List.range j).map (f k)) (r := r) (fun _ _ _ _ _ => rfl) (fun j r hj ih => ?_) ?_
    · simpa using this
    · simp only [impl_filled_impl_unit_1.l1_succ _ mk_ok]
      rw [List.range_succ, List.map_append, ← List.append_assoc] at ih
      refine ev_t (decide_eq_true (by omega)) (ev_call (hf k j hk hj) (ev_chk (by simp [flatF_length]; omega) ?_))
      rw [w64_succ (by omega)]; exact ih
    · simp only [impl_filled_impl_unit_1.l1_succ _ mk_ok]
      refine ev_f (decide_eq_false (by omega)) ?_
      rw [w64_succ (by omega)]; exact ih
  · simp only [impl_filled_impl_unit_1.l0_succ _ mk_ok]
    exact ev_f (decide_eq_false (by omega)) ev_rfl

end VeT

open Go Go.Proofs Ve
set_option linter.unusedVariables false
set_option linter.unusedSimpArgs false
namespace VeT

abbrev cM : Ty := .cons yI (.cons yI (.cons yI (.cons yL .nil)))
abbrev cC : Ty := .cons yK .nil
abbrev cS : Ty := .cons yK (.cons yI (.cons yL (.cons (.sl (.st cM)) .nil)))
abbrev Mat := Int × Int × Int × List Int × Unit
abbrev Cpx := List (List Int) × Unit
abbrev Shf := List (List Int) × Int × List Int × List Mat × Unit
abbrev Sim := List Int
abbrev dI (x : Int) : Dv := ⟨.int .i64, x⟩
abbrev dL (x : List Int) : Dv := ⟨.sl yI, x⟩
abbrev dLL (x : List (List Int)) : Dv := ⟨.sl yL, x⟩
abbrev dC (x : Cpx) : Dv := ⟨.ptr cC, x⟩
abbrev dM (x : Mat) : Dv := ⟨.ptr cM, x⟩
abbrev dS (x : Shf) : Dv := ⟨.ptr cS, x⟩
abbrev dMs (x : List Mat) : Dv := ⟨.sl (.st cM), x⟩

theorem within_ret (n lo hi : Int) : Ret E n_impl_within [dI n, dI lo, dI hi] ⟨o_impl_within, (pb (lo ≤ n ∧ n ≤ hi), ())⟩ := by
  refine ret_of ?_
  simp only [run_impl_within, impl_within.ev]
  refine ev_d (fun h => ev_some ?_) fun h => ev_some ?_
  · rw [pb_dec, pb_congr (show n ≤ hi ↔ lo ≤ n ∧ n ≤ hi by omega)]
  · rw [pb_false (by omega)]

theorem l00In_ret (n lo hi : Int) : Ret E n_spec_l00In [dI n, dI lo, dI hi] ⟨o_spec_l00In, (pb (lo ≤ n ∧ n ≤ hi), ())⟩ := by
  refine ret_of ?_
  simp only [run_spec_l00In, spec_l00In.ev]
  refine ev_d (fun h => ev_some ?_) fun h => ev_some ?_
  · rw [pb_dec, pb_congr (show n ≤ hi ↔ lo ≤ n ∧ n ≤ hi by omega)]
  · rw [pb_false (by omega)]

theorem isVertex_ret (n : Int) : Ret E n_impl_isVertex [dI n] ⟨o_impl_isVertex, (pb (0 ≤ n ∧ n ≤ 9), ())⟩ := by
  refine ret_of ?_
  simp only [run_impl_isVertex, impl_isVertex.ev]
  exact ev_call (within_ret _ _ _) ev_rfl

theorem ValidSimplex_1_ret (n : Int) : Ret E n_impl_ValidSimplex_1 [dI n] ⟨o_impl_ValidSimplex_1, (!pb (0 ≤ n ∧ n ≤ 9), ())⟩ := by
  refine ret_of ?_
  simp only [run_impl_ValidSimplex_1, impl_ValidSimplex_1.ev]
  exact ev_call (isVertex_ret _) ev_rfl

/-- the list rises -/
def Rises (s : Sim) : Prop := ∀ j, 1 ≤ j → j < s.length → s.getD (j - 1) 0 < s.getD j 0

theorem isRising_ret (s : Sim) (hs : Sm yL s) : Ret E n_impl_isRising [dL s] ⟨o_impl_isRising, (pb (Rises s), ())⟩ := by
  have hs1 : s.length ≤ 1048576 := hs.1
  refine ret_of ?_
  simp only [run_impl_isRising, impl_isRising.ev]
  by_cases h0 : s.length = 0
  · refine Ev.start (p := fun φ n => impl_isRising.l0 (mkR (run E (φ 0))) (φ 0) n s 1 = _) 1 ?_ (fun _ _ _ h => h)
    refine loopR 1 (σ := Unit) (L := fun φ n _ => impl_isRising.l0 (mkR (run E (φ 0))) (φ 0) n s 1) (fun _ _ _ _ => rfl) (fun _ => True) (fun _ => _) (fun _ => 0) (fun _ _ _ => ?_) () trivial
    simp only [impl_isRising.l0_succ _ mk_ok]
    refine ev_f (decide_eq_false (by omega)) (ev_some ?_)
    rw [pb_true]
    intro j h1 h2; omega
  · refine Ev.start (p := fun φ n => impl_isRising.l0 (mkR (run E (φ 0))) (φ 0) n s 1 = _) 1 ?_ (fun _ _ _ h => h)
    refine all_pb 1 (L := fun φ n k => impl_isRising.l0 (mkR (run E (φ 0))) (φ 0) n s k) (len := s.length) 1 (by omega) (fun j => s.getD (j - 1) 0 < s.getD j 0) (fun b => some ⟨o_impl_isRising, (b, ())⟩) (fun _ _ _ _ => rfl) (fun k h1 h2 hP _ => ?_) (fun k r h1 h2 hP _ ih => ?_) (fun _ => ?_)
    · simp only [impl_isRising.l0_succ _ mk_ok]
      refine ev_t (decide_eq_true (by omega)) ?_
      rw [w64_small (by omega) (by omega), show ((k : Int) - 1) = ((k - 1 : Nat) : Int) by omega]
      refine ev_bind (idx_lt (by omega)) (ev_bind (idx_lt h2) (ev_t (decide_eq_true ?_) ev_rfl))
      simpa [List.getD_eq_getElem?_getD, h2, show k - 1 < s.length by omega] using hP
    · simp only [impl_isRising.l0_succ _ mk_ok]
      refine ev_t (decide_eq_true (by omega)) ?_
      rw [w64_small (by omega) (by omega), show ((k : Int) - 1) = ((k - 1 : Nat) : Int) by omega]
      refine ev_bind (idx_lt (by omega)) (ev_bind (idx_lt h2) (ev_f (decide_eq_false ?_) ?_))
      · simpa [List.getD_eq_getElem?_getD, h2, show k - 1 < s.length by omega] using hP
      · rw [w64_succ (by omega)]; exact ih
    · simp only [impl_isRising.l0_succ _ mk_ok]
      exact ev_f (decide_eq_false (by omega)) ev_rfl

end VeT

open Go Go.Proofs Ve
set_option linter.unusedVariables false
set_option linter.unusedSimpArgs false
namespace VeT

def Vx (s : Sim) : Prop := 1 ≤ s.length ∧ s.length ≤ 4 ∧ Rises s ∧ ∀ x ∈ s, 0 ≤ x ∧ x ≤ 9

theorem ValidSimplex_ret (s : Sim) (hs : Sm yL s) : Ret E n_impl_ValidSimplex [dL s] ⟨o_impl_ValidSimplex, (pb (Vx s), ())⟩ := by
  refine ret_of ?_
  simp only [run_impl_ValidSimplex, impl_ValidSimplex.ev]
  refine ev_d (fun h1 => ev_d (fun h2 => ev_call (isRising_ret s hs) (ev_b (fun h3 => ev_call (ContainsFunc_Sint64_int64_impl_ValidSimplex_1_ret s _ hs.1 fun x _ => ValidSimplex_1_ret x) (ev_some ?_)) fun h3 => ev_some ?_)) fun h2 => ev_some ?_) fun h1 => ev_some ?_
  · have h3 := pb_iff.1 h3
    have : (!pb (∃ x ∈ s, (!pb (0 ≤ x ∧ x ≤ 9)) = true)) = pb (Vx s) := eq_pb (by
      simp only [Bool.not_eq_true', pb_not]
      exact ⟨fun h => ⟨by omega, by omega, h3, fun x hx => Classical.byContradiction fun hn => h ⟨x, hx, hn⟩⟩, fun h ⟨x, hx, hn⟩ => hn (h.2.2.2 x hx)⟩)
    rw [this]
  · rw [pb_false fun h => pb_not.1 h3 h.2.2.1]
  · rw [pb_false fun h => h2 (by have := h.2.1; omega)]
  · rw [pb_false fun h => h1 (by have := h.1; omega)]

theorem l00Rises_ret (s : Sim) (lo hi : Int) (hs : Sm yL s) : Ret E n_spec_l00Rises [dL s, dI lo, dI hi] ⟨o_spec_l00Rises, (pb (Rises s ∧ ∀ x ∈ s, lo ≤ x ∧ x ≤ hi), ())⟩ := by
  have hs1 : s.length ≤ 1048576 := hs.1
  refine ret_of ?_
  simp only [run_spec_l00Rises, spec_l00Rises.ev]
  refine Ev.start (p := fun φ n => spec_l00Rises.l0 (mkR (run E (φ 0))) (φ 0) n s lo hi 0 = _) 1 ?_ (fun _ _ _ h => h)
  refine (all_pb 1 (L := fun φ n k => spec_l00Rises.l0 (mkR (run E (φ 0))) (φ 0) n s lo hi k) (len := s.length) 0 (by omega) (fun j => (lo ≤ s.getD j 0 ∧ s.getD j 0 ≤ hi) ∧ (1 ≤ j → s.getD (j - 1) 0 < s.getD j 0)) (fun b => some ⟨o_spec_l00Rises, (b, ())⟩) (fun _ _ _ _ => rfl) (fun k h1 h2 hP _ => ?_) (fun k r h1 h2 hP _ ih => ?_) (fun _ => ?_)).to ?_
  · simp only [spec_l00Rises.l0_succ _ mk_ok]
    refine ev_t (decide_eq_true (by omega)) (ev_bind (idx_lt h2) (ev_call (l00In_ret _ _ _) ?_))
    have e : s.getD k 0 = s[k] := by simp [List.getD_eq_getElem?_getD, h2]
    rw [e] at hP
    refine ev_b (fun _ => ?_) (fun hin => ?_)
    · simp only [spec_l00Rises.j1_eq _ mk_ok, cond_true]; (first | exact ev_rfl | exact Ev.of fun _ => trivial)
    · have hin : lo ≤ s[k] ∧ s[k] ≤ hi := pb_iff.1 (by simpa using hin)
      have hk : 1 ≤ k := Classical.byContradiction fun h => hP ⟨hin, fun h' => absurd h' h⟩
      refine ev_t (decide_eq_true (by omega)) ?_
      rw [w64_small (by omega) (by omega), show ((k : Int) - 1) = ((k - 1 : Nat) : Int) by omega]
      refine ev_bind (idx_lt (by omega)) (ev_bind (idx_lt h2) ?_)
      have e' : s.getD (k - 1) 0 = s[k - 1] := by simp [List.getD_eq_getElem?_getD, show k - 1 < s.length by omega]
      rw [e'] at hP
      have : decide (s[k-1] ≥ s[k]) = true := decide_eq_true (Classical.byContradiction fun h => hP ⟨hin, fun _ => by omega⟩)
      simp only [this, spec_l00Rises.j1_eq _ mk_ok, cond_true]; (first | exact ev_rfl | exact Ev.of fun _ => trivial)
  · simp only [spec_l00Rises.l0_succ _ mk_ok]
    refine ev_t (decide_eq_true (by omega)) (ev_bind (idx_lt h2) (ev_call (l00In_ret _ _ _) ?_))
    have e : s.getD k 0 = s[k] := by simp [List.getD_eq_getElem?_getD, h2]
    rw [e] at hP
    refine ev_f (by rw [pb_true hP.1]; rfl) ?_
    refine ev_d (fun hk => ?_) fun hk => ?_
    · rw [w64_small (by omega) (by omega), show ((k : Int) - 1) = ((k - 1 : Nat) : Int) by omega]
      refine ev_bind (idx_lt (by omega)) (ev_bind (idx_lt h2) ?_)
      have e' : s.getD (k - 1) 0 = s[k - 1] := by simp [List.getD_eq_getElem?_getD, show k - 1 < s.length by omega]
      rw [e'] at hP
      have : decide (s[k-1] ≥ s[k]) = false := decide_eq_false (by have := hP.2 (by omega); omega)
      simp only [this, spec_l00Rises.j1_eq _ mk_ok, cond_false]
      rw [w64_succ (by omega)]; exact ih
    · simp only [spec_l00Rises.j1_eq _ mk_ok, cond_false]
      rw [w64_succ (by omega)]; exact ih
  · simp only [spec_l00Rises.l0_succ _ mk_ok]
    exact ev_f (decide_eq_false (by omega)) ev_rfl
  · refine congrArg (fun b : Bool => some (⟨o_spec_l00Rises, (b, ())⟩ : Dv)) (pb_congr ⟨fun h => ⟨fun j h1 h2 => (h j (by omega) h2).2 h1, fun x hx => ?_⟩, fun ⟨h1, h2⟩ j _ hj => ⟨?_, fun h3 => h1 j h3 hj⟩⟩)
    · obtain ⟨j, hj, rfl⟩ := List.mem_iff_getElem.1 hx
      simpa [List.getD_eq_getElem?_getD, hj] using (h j (by omega) hj).1
    · simpa [List.getD_eq_getElem?_getD, hj] using h2 _ (List.getElem_mem hj)

theorem l05Simplex_ret (s : Sim) (hs : Sm yL s) : Ret E n_spec_l05Simplex [dL s] ⟨o_spec_l05Simplex, (pb (Vx s), ())⟩ := by
  refine ret_of ?_
  simp only [run_spec_l05Simplex, spec_l05Simplex.ev]
  refine ev_call (l00In_ret _ _ _) (ev_b (fun h1 => ev_call (l00Rises_ret s _ _ hs) (ev_some ?_)) fun h1 => ev_some ?_)
  · have h1 := pb_iff.1 h1
    exact congrArg (fun b : Bool => some (⟨o_spec_l05Simplex, (b, ())⟩ : Dv)) (pb_congr ⟨fun h => ⟨by omega, by omega, h.1, h.2⟩, fun h => ⟨h.2.2.1, h.2.2.2⟩⟩)
  · rw [pb_false fun h => pb_not.1 h1 ⟨by have := h.1; omega, by have := h.2.1; omega⟩]

/-! comparing -/
def cmp3 (a b : Int) : Int := if a < b then -1 else if b < a then 1 else 0
def lexc : Sim → Sim → Int
  | [], [] => 0
  | [], _ :: _ => -1
  | _ :: _, [] => 1
  | x :: xs, y :: ys => if x < y then -1 else if y < x then 1 else lexc xs ys
def cmpS (a b : Sim) : Int := if cmp3 a.length b.length ≠ 0 then cmp3 a.length b.length else lexc a b

theorem cmp3_zero {a b : Int} : cmp3 a b = 0 ↔ a = b := by unfold cmp3; split <;> (try split) <;> omega
theorem cmp3_neg {a b : Int} : cmp3 b a = - cmp3 a b := by unfold cmp3; split <;> split <;> (try split) <;> omega
theorem cmp3_lt {a b : Int} : cmp3 a b < 0 ↔ a < b := by unfold cmp3; split <;> (try split) <;> omega
theorem lexc_eq : ∀ {a b : Sim}, lexc a b = 0 ↔ a = b
  | [], [] => by simp [lexc]
  | [], _ :: _ => by simp [lexc]
  | _ :: _, [] => by simp [lexc]
  | x :: xs, y :: ys => by
    have := @lexc_eq xs ys
    simp only [lexc, List.cons.injEq]
    split
    · constructor
      · intro h; omega
      · rintro ⟨rfl, _⟩; omega
    · split
      · constructor
        · intro h; omega
        · rintro ⟨rfl, _⟩; omega
      · rw [this]; constructor
        · intro h; exact ⟨by omega, h⟩
        · exact fun h => h.2
theorem lexc_neg : ∀ {a b : Sim}, lexc b a = - lexc a b
  | [], [] => by simp [lexc]
  | [], _ :: _ => by simp [lexc]
  | _ :: _, [] => by simp [lexc]
  | x :: xs, y :: ys => by
    have := @lexc_neg xs ys
    simp only [lexc]
    split <;> split <;> (try split) <;> omega
theorem lexc_trans : ∀ {a b c : Sim}, lexc a b < 0 → lexc b c < 0 → lexc a c < 0
  | [], [], c, h, _ => by simp [lexc] at h
  | [], _ :: _, [], _, h => by simp [lexc] at h
  | [], _ :: _, _ :: _, _, _ => by simp [lexc]
  | _ :: _, [], _, h, _ => by simp [lexc] at h
  | _ :: _, _ :: _, [], _, h => by simp [lexc] at h
  | x :: xs, y :: ys, z :: zs, h1, h2 => by
    have := @lexc_trans xs ys zs
    simp only [lexc] at h1 h2 ⊢
    split at h1 <;> split at h2 <;> (try split at h1) <;> (try split at h2) <;> (try split) <;> (try split) <;> first | omega | (exact this h1 h2)
theorem cmpS_zero {a b : Sim} : cmpS a b = 0 ↔ a = b := by
  unfold cmpS
  split
  · rename_i h
    exact ⟨fun h' => absurd h' h, fun h' => absurd (cmp3_zero.2 (by rw [h'])) h⟩
  · exact lexc_eq
theorem cmpS_neg {a b : Sim} : cmpS b a = - cmpS a b := by
  unfold cmpS
  rw [@cmp3_neg a.length b.length]
  split <;> split <;> first | omega | exact lexc_neg
theorem cmpS_lt {a b : Sim} : cmpS a b < 0 ↔ a.length < b.length ∨ a.length = b.length ∧ lexc a b < 0 := by
  unfold cmpS
  split
  · rename_i h
    rw [cmp3_lt]
    rw [Ne, cmp3_zero] at h
    omega
  · rename_i h
    rw [Classical.not_not, cmp3_zero] at h
    omega
theorem cmpS_trans {a b c : Sim} (h1 : cmpS a b < 0) (h2 : cmpS b c < 0) : cmpS a c < 0 := by
  rw [cmpS_lt] at *
  rcases h1 with h1 | ⟨h1, h1'⟩ <;> rcases h2 with h2 | ⟨h2, h2'⟩
  · left; omega
  · left; omega
  · left; omega
  · right; exact ⟨by omega, lexc_trans h1' h2'⟩

theorem isNaNi_ret (a : Int) : Ret E n_cmp_isNaN_int [dI a] ⟨o_cmp_isNaN_int, (false, ())⟩ := by
  refine ret_of ?_
  simp only [run_cmp_isNaN_int, cmp_isNaN_int.ev]
  exact ev_some (by simp)
theorem isNaN_ret (a : Int) : Ret E n_cmp_isNaN_int64 [dI a] ⟨o_cmp_isNaN_int64, (false, ())⟩ := by
  refine ret_of ?_
  simp only [run_cmp_isNaN_int64, cmp_isNaN_int64.ev]
  exact ev_some (by simp)

theorem Comparei_ret (a b : Int) : Ret E n_cmp_Compare_int [dI a, dI b] ⟨o_cmp_Compare_int, (cmp3 a b, ())⟩ := by
  refine ret_of ?_
  simp only [run_cmp_Compare_int, cmp_Compare_int.ev]
  refine ev_call (isNaNi_ret _) (ev_call (isNaNi_ret _) (ev_f rfl (ev_f rfl (ev_d (fun h => ev_some ?_) fun h => ev_d (fun h2 => ev_some ?_) fun h2 => ev_some ?_))))
  · rw [cmp3, if_pos h]
  · rw [cmp3, if_neg h, if_pos h2]
  · rw [cmp3, if_neg h, if_neg h2]
theorem Compare_ret (a b : Int) : Ret E n_cmp_Compare_int64 [dI a, dI b] ⟨o_cmp_Compare_int64, (cmp3 a b, ())⟩ := by
  refine ret_of ?_
  simp only [run_cmp_Compare_int64, cmp_Compare_int64.ev]
  refine ev_call (isNaN_ret _) (ev_call (isNaN_ret _) (ev_f rfl (ev_f rfl (ev_d (fun h => ev_some ?_) fun h => ev_d (fun h2 => ev_some ?_) fun h2 => ev_some ?_))))
  · rw [cmp3, if_pos h]
  · rw [cmp3, if_neg h, if_pos h2]
  · rw [cmp3, if_neg h, if_neg h2]

theorem lexc_step {a b : Sim} {k : Nat} (h : k < a.length) (h' : k < b.length) : lexc (a.drop k) (b.drop k) = if cmp3 a[k] b[k] ≠ 0 then cmp3 a[k] b[k] else lexc (a.drop (k + 1)) (b.drop (k + 1)) := by
  rw [List.drop_eq_getElem_cons h, List.drop_eq_getElem_cons h', lexc]
  unfold cmp3
  split
  · simp
  · split
    · simp
    · simp

theorem SliceCompare_ret (a b : Sim) (ha : Sm yL a) : Ret E n_slices_Compare_Sint64_int64 [dL a, dL b] ⟨o_slices_Compare_Sint64_int64, (lexc a b, ())⟩ := by
  have ha1 : a.length ≤ 1048576 := ha.1
  refine ret_of ?_
  simp only [run_slices_Compare_Sint64_int64, slices_Compare_Sint64_int64.ev]
  refine Ev.start (p := fun φ n => slices_Compare_Sint64_int64.l0 (mkR (run E (φ 0))) (φ 0) n a b a (a.length : Int) 0 = _) 1 ?_ (fun _ _ _ h => h)
  refine loopR 1 (σ := Nat) (L := fun φ n k => slices_Compare_Sint64_int64.l0 (mkR (run E (φ 0))) (φ 0) n a b a (a.length : Int) (k : Int)) (fun _ _ _ _ => rfl) (fun k => k ≤ a.length ∧ k ≤ b.length) (fun k => some ⟨o_slices_Compare_Sint64_int64, (lexc (a.drop k) (b.drop k), ())⟩) (fun k => a.length - k) (fun k ⟨hk, hkb⟩ ih => ?_) 0 ⟨Nat.zero_le _, Nat.zero_le _⟩
  simp only [slices_Compare_Sint64_int64.l0_succ _ mk_ok]
  refine ev_d (fun h => ?_) fun h => ?_
  · have hka : k < a.length := by omega
    refine ev_bind (idx_lt hka) (ev_d (fun h2 => ev_some ?_) fun h2 => ?_)
    · rw [List.drop_eq_getElem_cons hka, List.drop_of_length_le (l := b) (by omega), lexc]
    · have hkb : k < b.length := by omega
      refine ev_bind (idx_lt hkb) (ev_call (Compare_ret _ _) (ev_b (fun h3 => ev_some ?_) fun h3 => ?_))
      · rw [lexc_step hka hkb, if_pos (by simpa using h3)]
      · rw [w64_succ (by omega)]
        refine (ih (k + 1) ⟨by omega, by omega⟩ (by omega)).to ?_
        rw [lexc_step hka hkb, if_neg (by simpa using h3)]
  · have e : k = a.length := by omega
    subst e
    refine ev_d (fun h2 => ev_some ?_) fun h2 => ev_some ?_
    · rw [List.drop_of_length_le (l := a) (by omega), List.drop_eq_getElem_cons (l := b) (by omega), lexc]
    · rw [List.drop_of_length_le (l := a) (by omega), List.drop_of_length_le (l := b) (by omega), lexc]

theorem Or2_ret (a b : Int) : Ret E n_cmp_Or_int [dL [a, b]] ⟨o_cmp_Or_int, (if a ≠ 0 then a else b, ())⟩ := by
  refine ret_of ?_
  simp only [run_cmp_Or_int, cmp_Or_int.ev]
  refine Ev.start (p := fun φ n => cmp_Or_int.l0 (mkR (run E (φ 0))) (φ 0) n 0 [a, b] ([a, b].length : Int) 0 = _) 1 ?_ (fun _ _ _ h => h)
  refine Ev.round 1 (L := fun φ n => cmp_Or_int.l0 (mkR (run E (φ 0))) (φ 0) n 0 [a, b] ([a, b].length : Int) 0) ?_ (fun _ _ _ => rfl)
  simp only [cmp_Or_int.l0_succ _ mk_ok]
  refine ev_t (by simp) (ev_bind (x := a) rfl (ev_b (fun h => ev_some ?_) fun h => ?_))
  · rw [if_pos (by simpa using h)]
  · rw [if_neg (by simpa using h)]
    rw [show w64 ((0 : Int) + 1) = 1 by decide]
    refine Ev.round 1 (L := fun φ n => cmp_Or_int.l0 (mkR (run E (φ 0))) (φ 0) n 0 [a, b] ([a, b].length : Int) 1) ?_ (fun _ _ _ => rfl)
    simp only [cmp_Or_int.l0_succ _ mk_ok]
    refine ev_t (by simp) (ev_bind (x := b) rfl (ev_b (fun h => ev_rfl) fun h => ?_))
    rw [show w64 ((1 : Int) + 1) = 2 by decide]
    refine Ev.round 1 (L := fun φ n => cmp_Or_int.l0 (mkR (run E (φ 0))) (φ 0) n 0 [a, b] ([a, b].length : Int) 2) ?_ (fun _ _ _ => rfl)
    simp only [cmp_Or_int.l0_succ _ mk_ok]
    refine ev_f (by simp) (ev_some ?_)
    have : b = 0 := by simpa using h
    rw [this]

theorem compareSimplices_ret (a b : Sim) (ha : Sm yL a) : Ret E n_impl_compareSimplices [dL a, dL b] ⟨o_impl_compareSimplices, (cmpS a b, ())⟩ := by
  refine ret_of ?_
  simp only [run_impl_compareSimplices, impl_compareSimplices.ev]
  exact ev_call (Comparei_ret _ _) (ev_call (SliceCompare_ret a b ha) (ev_call (Or2_ret _ _) ev_rfl))

theorem l05Before_ret (a b : Sim) (ha : Sm yL a) : Ret E n_spec_l05Before [dL a, dL b] ⟨o_spec_l05Before, (pb (cmpS a b < 0), ())⟩ := by
  have ha1 : a.length ≤ 1048576 := ha.1
  refine ret_of ?_
  simp only [run_spec_l05Before, spec_l05Before.ev]
  refine ev_b (fun h => ev_some ?_) fun h => ?_
  · have h : (a.length : Int) ≠ b.length := by simpa using h
    rw [pb_dec, pb_congr (show (a.length : Int) < b.length ↔ cmpS a b < 0 by rw [cmpS_lt]; omega)]
  · have h : a.length = b.length := by have : (a.length : Int) = b.length := by simpa using h
                                       omega
    refine Ev.start (p := fun φ n => spec_l05Before.l0 (mkR (run E (φ 0))) (φ 0) n a b 0 = _) 1 ?_ (fun _ _ _ h => h)
    refine (loopR 1 (σ := Nat) (L := fun φ n k => spec_l05Before.l0 (mkR (run E (φ 0))) (φ 0) n a b (k : Int)) (fun _ _ _ _ => rfl) (fun k => k ≤ a.length) (fun k => some ⟨o_spec_l05Before, (pb (lexc (a.drop k) (b.drop k) < 0), ())⟩) (fun k => a.length - k) (fun k hk ih => ?_) 0 (Nat.zero_le _)).to ?_
    · simp only [spec_l05Before.l0_succ _ mk_ok]
      refine ev_d (fun h1 => ?_) fun h1 => ?_
      · have hka : k < a.length := by omega
        have hkb : k < b.length := by omega
        have e := lexc_step hka hkb
        refine ev_bind (idx_lt hka) (ev_bind (idx_lt hkb) (ev_b (fun h3 => ?_) fun h3 => ?_))
        · refine ev_bind (idx_lt hka) (ev_bind (idx_lt hkb) (ev_some ?_))
          have h3 : a[k] ≠ b[k] := by simpa using h3
          rw [if_pos (by rw [Ne, cmp3_zero]; exact h3)] at e
          rw [e, pb_dec, pb_congr cmp3_lt]
        · have h3 : a[k] = b[k] := by simpa using h3
          rw [if_neg (by rw [Classical.not_not, cmp3_zero]; exact h3)] at e
          rw [w64_succ (by omega), e]
          exact ih (k + 1) (by show k + 1 ≤ _; omega) (by show a.length - (k + 1) < _; omega)
      · refine ev_some ?_
        have hk : k ≤ a.length := hk
        have e : k = a.length := by omega
        subst e
        rw [List.drop_of_length_le (l := a) (by omega), List.drop_of_length_le (l := b) (by omega), lexc, pb_false (by omega)]
    · refine congrArg (fun b : Bool => some (⟨o_spec_l05Before, (b, ())⟩ : Dv)) (pb_congr ?_)
      simp only [List.drop_zero]; rw [cmpS_lt]; omega

end VeT
