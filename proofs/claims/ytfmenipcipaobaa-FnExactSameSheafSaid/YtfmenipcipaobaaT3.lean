import Derived.Test.YtfmenipcipaobaaV2
import Derived.Test.YtfmenipcipaobaaProg
import Derived.KernelRfl
set_option linter.unusedVariables false
set_option linter.unusedSimpArgs false
open Go Go.Proofs Ve
set_option linter.unusedVariables false
set_option maxRecDepth 100000
namespace VeT
noncomputable def bodyOf (f : Func) : Code := f.body.getD .skip
@[reducible] def n_laws_FnExactSameSheaf : Nat := 3
@[reducible] def n_laws_szSheaf : Nat := 9
@[reducible] def n_spec_SameSheaf : Nat := 10
@[reducible] def n_laws_toSheaf : Nat := 11
@[reducible] def n_impl_SameSheaf : Nat := 12
@[reducible] def n_laws_eqSheaf : Nat := 13
@[reducible] def n_laws_szComplex : Nat := 14
@[reducible] def n_laws_toComplex : Nat := 16
@[reducible] def n_laws_eqInt64SS : Nat := 18
@[reducible] def n_laws_eqComplex : Nat := 19
@[reducible] def n_laws_toInt64S : Nat := 28
@[reducible] def n_laws_eqInt64S : Nat := 30
@[reducible] def n_laws_szInt64S : Nat := 33
@[reducible] def n_laws_szMatrixS : Nat := 34
@[reducible] def n_spec_l09Same : Nat := 35
@[reducible] def n_laws_toMatrixS : Nat := 36
@[reducible] def n_impl_SameComplex : Nat := 37
@[reducible] def n_slices_Equal_Sint64_int64 : Nat := 38
@[reducible] def n_slices_EqualFunc_Simpl_Matrix_Simpl_Matrix_impl_Matrix_impl_Matrix : Nat := 39
@[reducible] def n_impl_SameMatrix : Nat := 40
@[reducible] def n_laws_eqMatrixS : Nat := 41
@[reducible] def n_laws_szInt64SS : Nat := 42
@[reducible] def n_laws_toInt64SS : Nat := 45
@[reducible] def n_laws_szMatrix : Nat := 69
@[reducible] def n_spec_l05Same : Nat := 70
@[reducible] def n_spec_l00Same : Nat := 71
@[reducible] def n_spec_l03Same : Nat := 72
@[reducible] def n_laws_toMatrix : Nat := 73
@[reducible] def n_impl_areSame : Nat := 74
@[reducible] def n_laws_eqMatrix : Nat := 75
@[reducible] def n_slices_EqualFunc_SSint64_SSint64_Sint64_Sint64 : Nat := 107
@[reducible] noncomputable def F_laws_FnExactSameSheaf : Func := Try.f3
@[reducible] noncomputable def F_laws_szSheaf : Func := Try.f9
@[reducible] noncomputable def F_spec_SameSheaf : Func := Try.f10
@[reducible] noncomputable def F_laws_toSheaf : Func := Try.f11
@[reducible] noncomputable def F_impl_SameSheaf : Func := Try.f12
@[reducible] noncomputable def F_laws_eqSheaf : Func := Try.f13
@[reducible] noncomputable def F_laws_szComplex : Func := Try.f14
@[reducible] noncomputable def F_laws_toComplex : Func := Try.f16
@[reducible] noncomputable def F_laws_eqInt64SS : Func := Try.f18
@[reducible] noncomputable def F_laws_eqComplex : Func := Try.f19
@[reducible] noncomputable def F_laws_toInt64S : Func := Try.f28
@[reducible] noncomputable def F_laws_eqInt64S : Func := Try.f30
@[reducible] noncomputable def F_laws_szInt64S : Func := Try.f33
@[reducible] noncomputable def F_laws_szMatrixS : Func := Try.f34
@[reducible] noncomputable def F_spec_l09Same : Func := Try.f35
@[reducible] noncomputable def F_laws_toMatrixS : Func := Try.f36
@[reducible] noncomputable def F_impl_SameComplex : Func := Try.f37
@[reducible] noncomputable def F_slices_Equal_Sint64_int64 : Func := Try.f38
@[reducible] noncomputable def F_slices_EqualFunc_Simpl_Matrix_Simpl_Matrix_impl_Matrix_impl_Matrix : Func := Try.f39
@[reducible] noncomputable def F_impl_SameMatrix : Func := Try.f40
@[reducible] noncomputable def F_laws_eqMatrixS : Func := Try.f41
@[reducible] noncomputable def F_laws_szInt64SS : Func := Try.f42
@[reducible] noncomputable def F_laws_toInt64SS : Func := Try.f45
@[reducible] noncomputable def F_laws_szMatrix : Func := Try.f69
@[reducible] noncomputable def F_spec_l05Same : Func := Try.f70
@[reducible] noncomputable def F_spec_l00Same : Func := Try.f71
@[reducible] noncomputable def F_spec_l03Same : Func := Try.f72
@[reducible] noncomputable def F_laws_toMatrix : Func := Try.f73
@[reducible] noncomputable def F_impl_areSame : Func := Try.f74
@[reducible] noncomputable def F_laws_eqMatrix : Func := Try.f75
@[reducible] noncomputable def F_slices_EqualFunc_SSint64_SSint64_Sint64_Sint64 : Func := Try.f107
@[reducible] def o_laws_FnExactSameSheaf : Ty := (.cons .bool .nil)
noncomputable def sg_laws_FnExactSameSheaf : Sig := ⟨[(true, 4), (true, 4)], [], o_laws_FnExactSameSheaf, [(false, 1)], [], []⟩
@[reducible] def o_laws_szSheaf : Ty := (.cons (.int .i64) .nil)
noncomputable def sg_laws_szSheaf : Sig := ⟨[(true, 4), (false, 1)], [], o_laws_szSheaf, [(false, 1)], [], []⟩
@[reducible] def o_spec_SameSheaf : Ty := (.cons .bool .nil)
noncomputable def sg_spec_SameSheaf : Sig := ⟨[(true, 4), (true, 4)], [], o_spec_SameSheaf, [(false, 1)], [], []⟩
@[reducible] def o_laws_toSheaf : Ty := (.cons (.sl (.sl (.int .i64))) (.cons (.int .i64) (.cons (.sl (.int .i64)) (.cons (.sl (.st (.cons (.int .i64) (.cons (.int .i64) (.cons (.int .i64) (.cons (.sl (.int .i64)) .nil)))))) .nil))))
noncomputable def sg_laws_toSheaf : Sig := ⟨[(true, 4)], [], o_laws_toSheaf, [(true, 4)], [.deep, .imm, .deep, .deep], []⟩
@[reducible] def o_impl_SameSheaf : Ty := (.cons .bool .nil)
noncomputable def sg_impl_SameSheaf : Sig := ⟨[(true, 4), (true, 4)], [], o_impl_SameSheaf, [(false, 1)], [], []⟩
@[reducible] def o_laws_eqSheaf : Ty := (.cons .bool .nil)
noncomputable def sg_laws_eqSheaf : Sig := ⟨[(true, 4), (true, 4)], [], o_laws_eqSheaf, [(false, 1)], [], []⟩
@[reducible] def o_laws_szComplex : Ty := (.cons (.int .i64) .nil)
noncomputable def sg_laws_szComplex : Sig := ⟨[(true, 1), (false, 1)], [], o_laws_szComplex, [(false, 1)], [], []⟩
@[reducible] def o_laws_toComplex : Ty := (.cons (.sl (.sl (.int .i64))) .nil)
noncomputable def sg_laws_toComplex : Sig := ⟨[(true, 1)], [], o_laws_toComplex, [(true, 1)], [.deep], []⟩
@[reducible] def o_laws_eqInt64SS : Ty := (.cons .bool .nil)
noncomputable def sg_laws_eqInt64SS : Sig := ⟨[(false, 1), (false, 1)], [], o_laws_eqInt64SS, [(false, 1)], [], []⟩
@[reducible] def o_laws_eqComplex : Ty := (.cons .bool .nil)
noncomputable def sg_laws_eqComplex : Sig := ⟨[(true, 1), (true, 1)], [], o_laws_eqComplex, [(false, 1)], [], []⟩
@[reducible] def o_laws_toInt64S : Ty := (.cons (.sl (.int .i64)) .nil)
noncomputable def sg_laws_toInt64S : Sig := ⟨[(false, 1)], [], o_laws_toInt64S, [(false, 1)], [.deep], []⟩
@[reducible] def o_laws_eqInt64S : Ty := (.cons .bool .nil)
noncomputable def sg_laws_eqInt64S : Sig := ⟨[(false, 1), (false, 1)], [], o_laws_eqInt64S, [(false, 1)], [], []⟩
@[reducible] def o_laws_szInt64S : Ty := (.cons (.int .i64) .nil)
noncomputable def sg_laws_szInt64S : Sig := ⟨[(false, 1), (false, 1)], [], o_laws_szInt64S, [(false, 1)], [], []⟩
@[reducible] def o_laws_szMatrixS : Ty := (.cons (.int .i64) .nil)
noncomputable def sg_laws_szMatrixS : Sig := ⟨[(false, 1), (false, 1)], [], o_laws_szMatrixS, [(false, 1)], [], []⟩
@[reducible] def o_spec_l09Same : Ty := (.cons .bool .nil)
noncomputable def sg_spec_l09Same : Sig := ⟨[(false, 1), (false, 1)], [], o_spec_l09Same, [(false, 1)], [], [(.ptr (.cons (.sl (.sl (.int .i64))) (.cons (.int .i64) (.cons (.sl (.int .i64)) (.cons (.sl (.st (.cons (.int .i64) (.cons (.int .i64) (.cons (.int .i64) (.cons (.sl (.int .i64)) .nil)))))) .nil))))), (.ptr (.cons (.sl (.sl (.int .i64))) (.cons (.int .i64) (.cons (.sl (.int .i64)) (.cons (.sl (.st (.cons (.int .i64) (.cons (.int .i64) (.cons (.int .i64) (.cons (.sl (.int .i64)) .nil)))))) .nil)))))]⟩
@[reducible] def o_laws_toMatrixS : Ty := (.cons (.sl (.st (.cons (.int .i64) (.cons (.int .i64) (.cons (.int .i64) (.cons (.sl (.int .i64)) .nil)))))) .nil)
noncomputable def sg_laws_toMatrixS : Sig := ⟨[(false, 1)], [], o_laws_toMatrixS, [(false, 1)], [.deep], []⟩
@[reducible] def o_impl_SameComplex : Ty := (.cons .bool .nil)
noncomputable def sg_impl_SameComplex : Sig := ⟨[(true, 1), (true, 1)], [], o_impl_SameComplex, [(false, 1)], [], []⟩
@[reducible] def o_slices_Equal_Sint64_int64 : Ty := (.cons .bool .nil)
noncomputable def sg_slices_Equal_Sint64_int64 : Sig := ⟨[(false, 1), (false, 1)], [], o_slices_Equal_Sint64_int64, [(false, 1)], [], []⟩
@[reducible] def o_slices_EqualFunc_Simpl_Matrix_Simpl_Matrix_impl_Matrix_impl_Matrix : Ty := (.cons .bool .nil)
noncomputable def sg_slices_EqualFunc_Simpl_Matrix_Simpl_Matrix_impl_Matrix_impl_Matrix : Sig := ⟨[(false, 1), (false, 1), (false, 1)], [], o_slices_EqualFunc_Simpl_Matrix_Simpl_Matrix_impl_Matrix_impl_Matrix, [(false, 1)], [], []⟩
@[reducible] def o_impl_SameMatrix : Ty := (.cons .bool .nil)
noncomputable def sg_impl_SameMatrix : Sig := ⟨[(true, 4), (true, 4)], [], o_impl_SameMatrix, [(false, 1)], [], []⟩
@[reducible] def o_laws_eqMatrixS : Ty := (.cons .bool .nil)
noncomputable def sg_laws_eqMatrixS : Sig := ⟨[(false, 1), (false, 1)], [], o_laws_eqMatrixS, [(false, 1)], [], []⟩
@[reducible] def o_laws_szInt64SS : Ty := (.cons (.int .i64) .nil)
noncomputable def sg_laws_szInt64SS : Sig := ⟨[(false, 1), (false, 1)], [], o_laws_szInt64SS, [(false, 1)], [], []⟩
@[reducible] def o_laws_toInt64SS : Ty := (.cons (.sl (.sl (.int .i64))) .nil)
noncomputable def sg_laws_toInt64SS : Sig := ⟨[(false, 1)], [], o_laws_toInt64SS, [(false, 1)], [.deep], []⟩
@[reducible] def o_laws_szMatrix : Ty := (.cons (.int .i64) .nil)
noncomputable def sg_laws_szMatrix : Sig := ⟨[(true, 4), (false, 1)], [], o_laws_szMatrix, [(false, 1)], [], []⟩
@[reducible] def o_spec_l05Same : Ty := (.cons .bool .nil)
noncomputable def sg_spec_l05Same : Sig := ⟨[(false, 1), (false, 1)], [], o_spec_l05Same, [(false, 1)], [], [(.ptr (.cons (.sl (.sl (.int .i64))) .nil)), (.ptr (.cons (.sl (.sl (.int .i64))) .nil))]⟩
@[reducible] def o_spec_l00Same : Ty := (.cons .bool .nil)
noncomputable def sg_spec_l00Same : Sig := ⟨[(false, 1), (false, 1)], [], o_spec_l00Same, [(false, 1)], [], []⟩
@[reducible] def o_spec_l03Same : Ty := (.cons .bool .nil)
noncomputable def sg_spec_l03Same : Sig := ⟨[(false, 1), (false, 1)], [], o_spec_l03Same, [(false, 1)], [], [(.ptr (.cons (.int .i64) (.cons (.int .i64) (.cons (.int .i64) (.cons (.sl (.int .i64)) .nil))))), (.ptr (.cons (.int .i64) (.cons (.int .i64) (.cons (.int .i64) (.cons (.sl (.int .i64)) .nil)))))]⟩
@[reducible] def o_laws_toMatrix : Ty := (.cons (.int .i64) (.cons (.int .i64) (.cons (.int .i64) (.cons (.sl (.int .i64)) .nil))))
noncomputable def sg_laws_toMatrix : Sig := ⟨[(true, 4)], [], o_laws_toMatrix, [(true, 4)], [.imm, .imm, .imm, .deep], []⟩
@[reducible] def o_impl_areSame : Ty := (.cons .bool .nil)
noncomputable def sg_impl_areSame : Sig := ⟨[(false, 1), (false, 1)], [], o_impl_areSame, [(false, 1)], [], []⟩
@[reducible] def o_laws_eqMatrix : Ty := (.cons .bool .nil)
noncomputable def sg_laws_eqMatrix : Sig := ⟨[(true, 4), (true, 4)], [], o_laws_eqMatrix, [(false, 1)], [], []⟩
@[reducible] def o_slices_EqualFunc_SSint64_SSint64_Sint64_Sint64 : Ty := (.cons .bool .nil)
noncomputable def sg_slices_EqualFunc_SSint64_SSint64_Sint64_Sint64 : Sig := ⟨[(false, 1), (false, 1), (false, 1)], [], o_slices_EqualFunc_SSint64_SSint64_Sint64_Sint64, [(false, 1)], [], []⟩
noncomputable def pol_laws_FnExactSameSheaf : Pol := ⟨53, [], [], [], [], []⟩
noncomputable def pol_laws_szSheaf : Pol := ⟨29, [], [], [], [], []⟩
noncomputable def pol_spec_SameSheaf : Pol := ⟨14, [], [], [], [], []⟩
noncomputable def pol_laws_toSheaf : Pol := ⟨27, [(6, [some 24]), (13, [some 25]), (17, [some 26])], [], [], [], []⟩
noncomputable def pol_impl_SameSheaf : Pol := ⟨39, [], [], [], [], []⟩
noncomputable def pol_laws_eqSheaf : Pol := ⟨36, [], [], [], [], []⟩
noncomputable def pol_laws_szComplex : Pol := ⟨14, [], [], [], [], []⟩
noncomputable def pol_laws_toComplex : Pol := ⟨11, [(6, [some 10])], [], [], [], []⟩
noncomputable def pol_laws_eqInt64SS : Pol := ⟨29, [], [(4, ⟨[0, 1, 5], [], [], [], [], [], []⟩)], [], [], []⟩
noncomputable def pol_laws_eqComplex : Pol := ⟨13, [], [], [], [], []⟩
noncomputable def pol_laws_toInt64S : Pol := ⟨23, [], [(3, ⟨[0, 3, 4], [7], [], [], [], [], []⟩)], [], [], []⟩
noncomputable def pol_laws_eqInt64S : Pol := ⟨28, [], [(4, ⟨[0, 1, 5], [], [], [], [], [], []⟩)], [], [], []⟩
noncomputable def pol_laws_szInt64S : Pol := ⟨14, [], [], [], [], []⟩
noncomputable def pol_laws_szMatrixS : Pol := ⟨29, [], [(5, ⟨[0, 1, 5], [], [], [], [], [], []⟩)], [], [], []⟩
noncomputable def pol_spec_l09Same : Pol := ⟨75, [], [(4, ⟨[0, 1, 5], [], [], [], [], [], []⟩)], [], [(1000049, ⟨[0, 1, 49], [], [], [], [], [], []⟩)], []⟩
noncomputable def pol_laws_toMatrixS : Pol := ⟨25, [(20, [none, none, none, some 24])], [(3, ⟨[0, 3, 4], [7], [], [], [], [], []⟩)], [], [], []⟩
noncomputable def pol_impl_SameComplex : Pol := ⟨12, [], [], [], [], []⟩
noncomputable def pol_slices_Equal_Sint64_int64 : Pol := ⟨28, [], [(4, ⟨[0, 1, 12, 13], [], [], [], [], [], []⟩)], [], [], []⟩
noncomputable def pol_slices_EqualFunc_Simpl_Matrix_Simpl_Matrix_impl_Matrix_impl_Matrix : Pol := ⟨35, [], [(4, ⟨[1, 2, 15, 16, 17], [], [], [], [], [], []⟩)], [], [], []⟩
noncomputable def pol_impl_SameMatrix : Pol := ⟨39, [], [], [], [], []⟩
noncomputable def pol_laws_eqMatrixS : Pol := ⟨29, [], [(4, ⟨[0, 1, 5], [], [], [], [], [], []⟩)], [], [], []⟩
noncomputable def pol_laws_szInt64SS : Pol := ⟨29, [], [(5, ⟨[0, 1, 5], [], [], [], [], [], []⟩)], [], [], []⟩
noncomputable def pol_laws_toInt64SS : Pol := ⟨25, [(20, [some 24])], [(3, ⟨[0, 3, 4], [7], [], [], [], [], []⟩)], [], [], []⟩
noncomputable def pol_laws_szMatrix : Pol := ⟨17, [], [], [], [], []⟩
noncomputable def pol_spec_l05Same : Pol := ⟨44, [], [(4, ⟨[0, 1, 5], [], [], [], [], [], []⟩)], [], [], []⟩
noncomputable def pol_spec_l00Same : Pol := ⟨28, [], [(4, ⟨[0, 1, 5], [], [], [], [], [], []⟩)], [], [], []⟩
noncomputable def pol_spec_l03Same : Pol := ⟨76, [], [(4, ⟨[0, 1, 5], [], [], [], [], [], []⟩)], [], [(1000049, ⟨[0, 1, 49], [], [], [], [], [], []⟩)], []⟩
noncomputable def pol_laws_toMatrix : Pol := ⟨23, [(15, [some 22])], [], [], [], []⟩
noncomputable def pol_impl_areSame : Pol := ⟨10, [], [], [], [], []⟩
noncomputable def pol_laws_eqMatrix : Pol := ⟨34, [], [], [], [], []⟩
noncomputable def pol_slices_EqualFunc_SSint64_SSint64_Sint64_Sint64 : Pol := ⟨35, [], [(4, ⟨[1, 2, 15, 16, 17], [], [], [], [], [], []⟩)], [], [], []⟩
noncomputable def sigL : List (Option Sig) := [none, none, none, some sg_laws_FnExactSameSheaf, none, none, none, none, none, some sg_laws_szSheaf, some sg_spec_SameSheaf, some sg_laws_toSheaf, some sg_impl_SameSheaf, some sg_laws_eqSheaf, some sg_laws_szComplex, none, some sg_laws_toComplex, none, some sg_laws_eqInt64SS, some sg_laws_eqComplex, none, none, none, none, none, none, none, none, some sg_laws_toInt64S, none, some sg_laws_eqInt64S, none, none, some sg_laws_szInt64S, some sg_laws_szMatrixS, some sg_spec_l09Same, some sg_laws_toMatrixS, some sg_impl_SameComplex, some sg_slices_Equal_Sint64_int64, some sg_slices_EqualFunc_Simpl_Matrix_Simpl_Matrix_impl_Matrix_impl_Matrix, some sg_impl_SameMatrix, some sg_laws_eqMatrixS, some sg_laws_szInt64SS, none, none, some sg_laws_toInt64SS, none, none, none, none, none, none, none, none, none, none, none, none, none, none, none, none, none, none, none, none, none, none, none, some sg_laws_szMatrix, some sg_spec_l05Same, some sg_spec_l00Same, some sg_spec_l03Same, some sg_laws_toMatrix, some sg_impl_areSame, some sg_laws_eqMatrix, none, none, none, none, none, none, none, none, none, none, none, none, none, none, none, none, none, none, none, none, none, none, none, none, none, none, none, none, none, none, none, some sg_slices_EqualFunc_SSint64_SSint64_Sint64_Sint64, none, none, none, none, none, none, none, none, none, none, none, none, none, none, none, none, none, none, none, none, none, none, none, none, none, none, none, none, none, none, none, none, none, none, none, none, none, none, none, none, none, none, none, none, none, none, none, none, none, none, none, none, none, none, none, none, none, none, none, none, none, none, none, none, none, none, none]
noncomputable def fnL : List (Option (Func × Pol)) := [none, none, none, some (F_laws_FnExactSameSheaf, pol_laws_FnExactSameSheaf), none, none, none, none, none, some (F_laws_szSheaf, pol_laws_szSheaf), some (F_spec_SameSheaf, pol_spec_SameSheaf), some (F_laws_toSheaf, pol_laws_toSheaf), some (F_impl_SameSheaf, pol_impl_SameSheaf), some (F_laws_eqSheaf, pol_laws_eqSheaf), some (F_laws_szComplex, pol_laws_szComplex), none, some (F_laws_toComplex, pol_laws_toComplex), none, some (F_laws_eqInt64SS, pol_laws_eqInt64SS), some (F_laws_eqComplex, pol_laws_eqComplex), none, none, none, none, none, none, none, none, some (F_laws_toInt64S, pol_laws_toInt64S), none, some (F_laws_eqInt64S, pol_laws_eqInt64S), none, none, some (F_laws_szInt64S, pol_laws_szInt64S), some (F_laws_szMatrixS, pol_laws_szMatrixS), some (F_spec_l09Same, pol_spec_l09Same), some (F_laws_toMatrixS, pol_laws_toMatrixS), some (F_impl_SameComplex, pol_impl_SameComplex), some (F_slices_Equal_Sint64_int64, pol_slices_Equal_Sint64_int64), some (F_slices_EqualFunc_Simpl_Matrix_Simpl_Matrix_impl_Matrix_impl_Matrix, pol_slices_EqualFunc_Simpl_Matrix_Simpl_Matrix_impl_Matrix_impl_Matrix), some (F_impl_SameMatrix, pol_impl_SameMatrix), some (F_laws_eqMatrixS, pol_laws_eqMatrixS), some (F_laws_szInt64SS, pol_laws_szInt64SS), none, none, some (F_laws_toInt64SS, pol_laws_toInt64SS), none, none, none, none, none, none, none, none, none, none, none, none, none, none, none, none, none, none, none, none, none, none, none, some (F_laws_szMatrix, pol_laws_szMatrix), some (F_spec_l05Same, pol_spec_l05Same), some (F_spec_l00Same, pol_spec_l00Same), some (F_spec_l03Same, pol_spec_l03Same), some (F_laws_toMatrix, pol_laws_toMatrix), some (F_impl_areSame, pol_impl_areSame), some (F_laws_eqMatrix, pol_laws_eqMatrix), none, none, none, none, none, none, none, none, none, none, none, none, none, none, none, none, none, none, none, none, none, none, none, none, none, none, none, none, none, none, none, some (F_slices_EqualFunc_SSint64_SSint64_Sint64_Sint64, pol_slices_EqualFunc_SSint64_SSint64_Sint64_Sint64), none, none, none, none, none, none, none, none, none, none, none, none, none, none, none, none, none, none, none, none, none, none, none, none, none, none, none, none, none, none, none, none, none, none, none, none, none, none, none, none, none, none, none, none, none, none, none, none, none, none, none, none, none, none, none, none, none, none, none, none, none, none, none, none, none, none, none]
noncomputable def primL : List (Option (Run → List Dv → Option Dv)) := [none, none, none, none, none, none, none, none, none, none, none, none, none, none, none, none, none, none, none, none, none, none, none, none, none, none, none, none, none, none, none, none, none, none, none, none, none, none, none, none, none, none, none, none, none, none, none, none, none, none, none, none, none, none, none, none, none, none, none, none, none, none, none, none, none, none, none, none, none, none, none, none, none, none, none, none, none, none, none, none, none, none, none, none, none, none, none, none, none, none, none, none, none, none, none, none, none, none, none, none, none, none, none, none, none, none, none, none, none, none, none, none, none, none, none, none, none, none, none, none, none, none, none, none, none, none, none, none, none, none, none, none, none, none, none, none, none, none, none, none, none, none, none, none, none, none, none, none, none, none, none, none, none, none, none, none, none, none, none, none, none, none, none, none, none, none, none, none, none, none, none, none, none, none, none]
noncomputable def E : Env := { P := Try.prog, fn := fun f => fnL.getD f none, prim := fun f => primL.getD f none, sig := fun f => sigL.getD f none }
theorem sig_laws_FnExactSameSheaf_eq : E.sig n_laws_FnExactSameSheaf = some sg_laws_FnExactSameSheaf := rfl
theorem run_laws_FnExactSameSheaf (n : Nat) (args : List Dv) : run E (n + 1) n_laws_FnExactSameSheaf args = evFn E (mkR (run E n)) sg_laws_FnExactSameSheaf pol_laws_FnExactSameSheaf F_laws_FnExactSameSheaf n args := rfl
theorem sig_laws_szSheaf_eq : E.sig n_laws_szSheaf = some sg_laws_szSheaf := rfl
theorem run_laws_szSheaf (n : Nat) (args : List Dv) : run E (n + 1) n_laws_szSheaf args = evFn E (mkR (run E n)) sg_laws_szSheaf pol_laws_szSheaf F_laws_szSheaf n args := rfl
theorem sig_spec_SameSheaf_eq : E.sig n_spec_SameSheaf = some sg_spec_SameSheaf := rfl
theorem run_spec_SameSheaf (n : Nat) (args : List Dv) : run E (n + 1) n_spec_SameSheaf args = evFn E (mkR (run E n)) sg_spec_SameSheaf pol_spec_SameSheaf F_spec_SameSheaf n args := rfl
theorem sig_laws_toSheaf_eq : E.sig n_laws_toSheaf = some sg_laws_toSheaf := rfl
theorem run_laws_toSheaf (n : Nat) (args : List Dv) : run E (n + 1) n_laws_toSheaf args = evFn E (mkR (run E n)) sg_laws_toSheaf pol_laws_toSheaf F_laws_toSheaf n args := rfl
theorem sig_impl_SameSheaf_eq : E.sig n_impl_SameSheaf = some sg_impl_SameSheaf := rfl
theorem run_impl_SameSheaf (n : Nat) (args : List Dv) : run E (n + 1) n_impl_SameSheaf args = evFn E (mkR (run E n)) sg_impl_SameSheaf pol_impl_SameSheaf F_impl_SameSheaf n args := rfl
theorem sig_laws_eqSheaf_eq : E.sig n_laws_eqSheaf = some sg_laws_eqSheaf := rfl
theorem run_laws_eqSheaf (n : Nat) (args : List Dv) : run E (n + 1) n_laws_eqSheaf args = evFn E (mkR (run E n)) sg_laws_eqSheaf pol_laws_eqSheaf F_laws_eqSheaf n args := rfl
theorem sig_laws_szComplex_eq : E.sig n_laws_szComplex = some sg_laws_szComplex := rfl
theorem run_laws_szComplex (n : Nat) (args : List Dv) : run E (n + 1) n_laws_szComplex args = evFn E (mkR (run E n)) sg_laws_szComplex pol_laws_szComplex F_laws_szComplex n args := rfl
theorem sig_laws_toComplex_eq : E.sig n_laws_toComplex = some sg_laws_toComplex := rfl
theorem run_laws_toComplex (n : Nat) (args : List Dv) : run E (n + 1) n_laws_toComplex args = evFn E (mkR (run E n)) sg_laws_toComplex pol_laws_toComplex F_laws_toComplex n args := rfl
theorem sig_laws_eqInt64SS_eq : E.sig n_laws_eqInt64SS = some sg_laws_eqInt64SS := rfl
theorem run_laws_eqInt64SS (n : Nat) (args : List Dv) : run E (n + 1) n_laws_eqInt64SS args = evFn E (mkR (run E n)) sg_laws_eqInt64SS pol_laws_eqInt64SS F_laws_eqInt64SS n args := rfl
theorem sig_laws_eqComplex_eq : E.sig n_laws_eqComplex = some sg_laws_eqComplex := rfl
theorem run_laws_eqComplex (n : Nat) (args : List Dv) : run E (n + 1) n_laws_eqComplex args = evFn E (mkR (run E n)) sg_laws_eqComplex pol_laws_eqComplex F_laws_eqComplex n args := rfl
theorem sig_laws_toInt64S_eq : E.sig n_laws_toInt64S = some sg_laws_toInt64S := rfl
theorem run_laws_toInt64S (n : Nat) (args : List Dv) : run E (n + 1) n_laws_toInt64S args = evFn E (mkR (run E n)) sg_laws_toInt64S pol_laws_toInt64S F_laws_toInt64S n args := rfl
theorem sig_laws_eqInt64S_eq : E.sig n_laws_eqInt64S = some sg_laws_eqInt64S := rfl
theorem run_laws_eqInt64S (n : Nat) (args : List Dv) : run E (n + 1) n_laws_eqInt64S args = evFn E (mkR (run E n)) sg_laws_eqInt64S pol_laws_eqInt64S F_laws_eqInt64S n args := rfl
theorem sig_laws_szInt64S_eq : E.sig n_laws_szInt64S = some sg_laws_szInt64S := rfl
theorem run_laws_szInt64S (n : Nat) (args : List Dv) : run E (n + 1) n_laws_szInt64S args = evFn E (mkR (run E n)) sg_laws_szInt64S pol_laws_szInt64S F_laws_szInt64S n args := rfl
theorem sig_laws_szMatrixS_eq : E.sig n_laws_szMatrixS = some sg_laws_szMatrixS := rfl
theorem run_laws_szMatrixS (n : Nat) (args : List Dv) : run E (n + 1) n_laws_szMatrixS args = evFn E (mkR (run E n)) sg_laws_szMatrixS pol_laws_szMatrixS F_laws_szMatrixS n args := rfl
theorem sig_spec_l09Same_eq : E.sig n_spec_l09Same = some sg_spec_l09Same := rfl
theorem run_spec_l09Same (n : Nat) (args : List Dv) : run E (n + 1) n_spec_l09Same args = evFn E (mkR (run E n)) sg_spec_l09Same pol_spec_l09Same F_spec_l09Same n args := rfl
theorem sig_laws_toMatrixS_eq : E.sig n_laws_toMatrixS = some sg_laws_toMatrixS := rfl
theorem run_laws_toMatrixS (n : Nat) (args : List Dv) : run E (n + 1) n_laws_toMatrixS args = evFn E (mkR (run E n)) sg_laws_toMatrixS pol_laws_toMatrixS F_laws_toMatrixS n args := rfl
theorem sig_impl_SameComplex_eq : E.sig n_impl_SameComplex = some sg_impl_SameComplex := rfl
theorem run_impl_SameComplex (n : Nat) (args : List Dv) : run E (n + 1) n_impl_SameComplex args = evFn E (mkR (run E n)) sg_impl_SameComplex pol_impl_SameComplex F_impl_SameComplex n args := rfl
theorem sig_slices_Equal_Sint64_int64_eq : E.sig n_slices_Equal_Sint64_int64 = some sg_slices_Equal_Sint64_int64 := rfl
theorem run_slices_Equal_Sint64_int64 (n : Nat) (args : List Dv) : run E (n + 1) n_slices_Equal_Sint64_int64 args = evFn E (mkR (run E n)) sg_slices_Equal_Sint64_int64 pol_slices_Equal_Sint64_int64 F_slices_Equal_Sint64_int64 n args := rfl
theorem sig_slices_EqualFunc_Simpl_Matrix_Simpl_Matrix_impl_Matrix_impl_Matrix_eq : E.sig n_slices_EqualFunc_Simpl_Matrix_Simpl_Matrix_impl_Matrix_impl_Matrix = some sg_slices_EqualFunc_Simpl_Matrix_Simpl_Matrix_impl_Matrix_impl_Matrix := rfl
theorem run_slices_EqualFunc_Simpl_Matrix_Simpl_Matrix_impl_Matrix_impl_Matrix (n : Nat) (args : List Dv) : run E (n + 1) n_slices_EqualFunc_Simpl_Matrix_Simpl_Matrix_impl_Matrix_impl_Matrix args = evFn E (mkR (run E n)) sg_slices_EqualFunc_Simpl_Matrix_Simpl_Matrix_impl_Matrix_impl_Matrix pol_slices_EqualFunc_Simpl_Matrix_Simpl_Matrix_impl_Matrix_impl_Matrix F_slices_EqualFunc_Simpl_Matrix_Simpl_Matrix_impl_Matrix_impl_Matrix n args := rfl
theorem sig_impl_SameMatrix_eq : E.sig n_impl_SameMatrix = some sg_impl_SameMatrix := rfl
theorem run_impl_SameMatrix (n : Nat) (args : List Dv) : run E (n + 1) n_impl_SameMatrix args = evFn E (mkR (run E n)) sg_impl_SameMatrix pol_impl_SameMatrix F_impl_SameMatrix n args := rfl
theorem sig_laws_eqMatrixS_eq : E.sig n_laws_eqMatrixS = some sg_laws_eqMatrixS := rfl
theorem run_laws_eqMatrixS (n : Nat) (args : List Dv) : run E (n + 1) n_laws_eqMatrixS args = evFn E (mkR (run E n)) sg_laws_eqMatrixS pol_laws_eqMatrixS F_laws_eqMatrixS n args := rfl
theorem sig_laws_szInt64SS_eq : E.sig n_laws_szInt64SS = some sg_laws_szInt64SS := rfl
theorem run_laws_szInt64SS (n : Nat) (args : List Dv) : run E (n + 1) n_laws_szInt64SS args = evFn E (mkR (run E n)) sg_laws_szInt64SS pol_laws_szInt64SS F_laws_szInt64SS n args := rfl
theorem sig_laws_toInt64SS_eq : E.sig n_laws_toInt64SS = some sg_laws_toInt64SS := rfl
theorem run_laws_toInt64SS (n : Nat) (args : List Dv) : run E (n + 1) n_laws_toInt64SS args = evFn E (mkR (run E n)) sg_laws_toInt64SS pol_laws_toInt64SS F_laws_toInt64SS n args := rfl
theorem sig_laws_szMatrix_eq : E.sig n_laws_szMatrix = some sg_laws_szMatrix := rfl
theorem run_laws_szMatrix (n : Nat) (args : List Dv) : run E (n + 1) n_laws_szMatrix args = evFn E (mkR (run E n)) sg_laws_szMatrix pol_laws_szMatrix F_laws_szMatrix n args := rfl
theorem sig_spec_l05Same_eq : E.sig n_spec_l05Same = some sg_spec_l05Same := rfl
theorem run_spec_l05Same (n : Nat) (args : List Dv) : run E (n + 1) n_spec_l05Same args = evFn E (mkR (run E n)) sg_spec_l05Same pol_spec_l05Same F_spec_l05Same n args := rfl
theorem sig_spec_l00Same_eq : E.sig n_spec_l00Same = some sg_spec_l00Same := rfl
theorem run_spec_l00Same (n : Nat) (args : List Dv) : run E (n + 1) n_spec_l00Same args = evFn E (mkR (run E n)) sg_spec_l00Same pol_spec_l00Same F_spec_l00Same n args := rfl
theorem sig_spec_l03Same_eq : E.sig n_spec_l03Same = some sg_spec_l03Same := rfl
theorem run_spec_l03Same (n : Nat) (args : List Dv) : run E (n + 1) n_spec_l03Same args = evFn E (mkR (run E n)) sg_spec_l03Same pol_spec_l03Same F_spec_l03Same n args := rfl
theorem sig_laws_toMatrix_eq : E.sig n_laws_toMatrix = some sg_laws_toMatrix := rfl
theorem run_laws_toMatrix (n : Nat) (args : List Dv) : run E (n + 1) n_laws_toMatrix args = evFn E (mkR (run E n)) sg_laws_toMatrix pol_laws_toMatrix F_laws_toMatrix n args := rfl
theorem sig_impl_areSame_eq : E.sig n_impl_areSame = some sg_impl_areSame := rfl
theorem run_impl_areSame (n : Nat) (args : List Dv) : run E (n + 1) n_impl_areSame args = evFn E (mkR (run E n)) sg_impl_areSame pol_impl_areSame F_impl_areSame n args := rfl
theorem sig_laws_eqMatrix_eq : E.sig n_laws_eqMatrix = some sg_laws_eqMatrix := rfl
theorem run_laws_eqMatrix (n : Nat) (args : List Dv) : run E (n + 1) n_laws_eqMatrix args = evFn E (mkR (run E n)) sg_laws_eqMatrix pol_laws_eqMatrix F_laws_eqMatrix n args := rfl
theorem sig_slices_EqualFunc_SSint64_SSint64_Sint64_Sint64_eq : E.sig n_slices_EqualFunc_SSint64_SSint64_Sint64_Sint64 = some sg_slices_EqualFunc_SSint64_SSint64_Sint64_Sint64 := rfl
theorem run_slices_EqualFunc_SSint64_SSint64_Sint64_Sint64 (n : Nat) (args : List Dv) : run E (n + 1) n_slices_EqualFunc_SSint64_SSint64_Sint64_Sint64 args = evFn E (mkR (run E n)) sg_slices_EqualFunc_SSint64_SSint64_Sint64_Sint64 pol_slices_EqualFunc_SSint64_SSint64_Sint64_Sint64 F_slices_EqualFunc_SSint64_SSint64_Sint64_Sint64 n args := rfl
end VeT

open Go Go.Proofs Ve
set_option linter.unusedVariables false
set_option maxRecDepth 100000
namespace VeT
/-! loop.example/g01005/laws.szInt64S -/
theorem laws_szInt64S.ev (R : Run) (N : Nat) (a0 : (List Int)) (a1 : Int) : evFn E R sg_laws_szInt64S pol_laws_szInt64S F_laws_szInt64S N [⟨(.sl (.int .i64)), a0⟩, ⟨(.int .i64), a1⟩] = (bif (decide ((w64 (a1 - (List.length a0 : Int))) < (0 : Int))) then some ⟨o_laws_szInt64S, ((-1 : Int), ())⟩ else some ⟨o_laws_szInt64S, ((w64 (a1 - (List.length a0 : Int))), ())⟩) := by kernel_rfl
/-! loop.example/g01005/laws.szInt64SS -/
noncomputable def laws_szInt64SS.l0 (R : Run) (N : Nat) (n : Nat) (a_1 : (List (List Int))) (left_2 : Int) (i_3 : Int) : Option Dv := R.w (some ⟨[.c (.d (.sl (.sl (.int .i64))) a_1), .c (.d (.int .i64) left_2), V.dead, V.dead, V.dead, .c (.d (.int .i64) i_3), V.dead, V.dead, V.dead, V.dead, V.dead, V.dead, V.dead, V.dead, V.dead, V.dead, V.dead, V.dead, V.dead, V.dead, V.dead, V.dead, V.dead, V.dead, V.dead, V.dead, V.dead], [none, none, none, none, none, none, none, none, none, none, none, none, none, none, none, none, none, none, none, none, none, none, none, none, none, none, none, none, none]⟩) fun st => loopC (evCode E R pol_laws_szInt64SS N (sub [1, 1, 1, 0, 1, 0, 0] (bodyOf F_laws_szInt64SS))) (maskAt R pol_laws_szInt64SS.loopM 5) n st (kBlk (maskAt R pol_laws_szInt64SS.blkM 0) 0 (kSeq (maskAt R pol_laws_szInt64SS.seqM 10) (evCode E R pol_laws_szInt64SS N (sub [1, 1, 1, 1] (bodyOf F_laws_szInt64SS))) (kTop E sg_laws_szInt64SS F_laws_szInt64SS)))
theorem laws_szInt64SS.l0_zero (R : Run) (hw : R.ok) (N : Nat) (a_1 : (List (List Int))) (left_2 : Int) (i_3 : Int) : laws_szInt64SS.l0 R N 0 a_1 left_2 i_3 = none := (hw _ _).trans (by kernel_rfl)
theorem laws_szInt64SS.l0_succ (R : Run) (hw : R.ok) (N : Nat) (n : Nat) (a_1 : (List (List Int))) (left_2 : Int) (i_3 : Int) : laws_szInt64SS.l0 R N (n + 1) a_1 left_2 i_3 = (bif (decide (i_3 < (List.length a_1 : Int))) then (Option.bind (idx? a_1 i_3) fun y4 => (Option.bind (callT R n_laws_szInt64S o_laws_szInt64S [⟨(.sl (.int .i64)), (y4, ()).1⟩, ⟨(.int .i64), left_2⟩]) fun r5 => (bif (decide (r5.1 < (0 : Int))) then some ⟨o_laws_szInt64SS, ((-1 : Int), ())⟩ else (laws_szInt64SS.l0 R N n a_1 r5.1 (w64 (i_3 + (1 : Int))))))) else some ⟨o_laws_szInt64SS, (left_2, ())⟩) := (hw _ _).trans (by kernel_rfl)
theorem laws_szInt64SS.ev (R : Run) (N : Nat) (a0 : (List (List Int))) (a1 : Int) : evFn E R sg_laws_szInt64SS pol_laws_szInt64SS F_laws_szInt64SS N [⟨(.sl (.sl (.int .i64))), a0⟩, ⟨(.int .i64), a1⟩] = (bif (decide ((w64 (a1 - (List.length a0 : Int))) < (0 : Int))) then some ⟨o_laws_szInt64SS, ((-1 : Int), ())⟩ else (laws_szInt64SS.l0 R N N a0 (w64 (a1 - (List.length a0 : Int))) (0 : Int))) := by kernel_rfl
/-! loop.example/g01005/laws.szComplex -/
theorem laws_szComplex.ev (R : Run) (N : Nat) (a0 : (List (List Int))) (a1 : Int) : evFn E R sg_laws_szComplex pol_laws_szComplex F_laws_szComplex N [⟨(.sl (.sl (.int .i64))), a0⟩, ⟨(.int .i64), a1⟩] = (Option.bind (callT R n_laws_szInt64SS o_laws_szInt64SS [⟨(.sl (.sl (.int .i64))), a0⟩, ⟨(.int .i64), a1⟩]) fun r1 => (bif (decide (r1.1 < (0 : Int))) then some ⟨o_laws_szComplex, ((-1 : Int), ())⟩ else some ⟨o_laws_szComplex, (r1.1, ())⟩)) := by kernel_rfl
/-! loop.example/g01005/laws.szMatrix -/
theorem laws_szMatrix.ev (R : Run) (N : Nat) (a0 : Int) (a1 : Int) (a2 : Int) (a3 : (List Int)) (a4 : Int) : evFn E R sg_laws_szMatrix pol_laws_szMatrix F_laws_szMatrix N [⟨(.int .i64), a0⟩, ⟨(.int .i64), a1⟩, ⟨(.int .i64), a2⟩, ⟨(.sl (.int .i64)), a3⟩, ⟨(.int .i64), a4⟩] = (Option.bind (callT R n_laws_szInt64S o_laws_szInt64S [⟨(.sl (.int .i64)), a3⟩, ⟨(.int .i64), a4⟩]) fun r1 => (bif (decide (r1.1 < (0 : Int))) then some ⟨o_laws_szMatrix, ((-1 : Int), ())⟩ else some ⟨o_laws_szMatrix, (r1.1, ())⟩)) := by kernel_rfl
/-! loop.example/g01005/laws.szMatrixS -/
noncomputable def laws_szMatrixS.l0 (R : Run) (N : Nat) (n : Nat) (a_1 : (List (Int × Int × Int × (List Int) × Unit))) (left_2 : Int) (i_3 : Int) : Option Dv := R.w (some ⟨[.c (.d (.sl (.st (.cons (.int .i64) (.cons (.int .i64) (.cons (.int .i64) (.cons (.sl (.int .i64)) .nil)))))) a_1), .c (.d (.int .i64) left_2), V.dead, V.dead, V.dead, .c (.d (.int .i64) i_3), V.dead, V.dead, V.dead, V.dead, V.dead, V.dead, V.dead, V.dead, V.dead, V.dead, V.dead, V.dead, V.dead, V.dead, V.dead, V.dead, V.dead, V.dead, V.dead, V.dead, V.dead], [none, none, none, none, none, none, none, none, none, none, none, none, none, none, none, none, none, none, none, none, none, none, none, none, none, none, none, none, none]⟩) fun st => loopC (evCode E R pol_laws_szMatrixS N (sub [1, 1, 1, 0, 1, 0, 0] (bodyOf F_laws_szMatrixS))) (maskAt R pol_laws_szMatrixS.loopM 5) n st (kBlk (maskAt R pol_laws_szMatrixS.blkM 0) 0 (kSeq (maskAt R pol_laws_szMatrixS.seqM 10) (evCode E R pol_laws_szMatrixS N (sub [1, 1, 1, 1] (bodyOf F_laws_szMatrixS))) (kTop E sg_laws_szMatrixS F_laws_szMatrixS)))
theorem laws_szMatrixS.l0_zero (R : Run) (hw : R.ok) (N : Nat) (a_1 : (List (Int × Int × Int × (List Int) × Unit))) (left_2 : Int) (i_3 : Int) : laws_szMatrixS.l0 R N 0 a_1 left_2 i_3 = none := (hw _ _).trans (by kernel_rfl)
theorem laws_szMatrixS.l0_succ (R : Run) (hw : R.ok) (N : Nat) (n : Nat) (a_1 : (List (Int × Int × Int × (List Int) × Unit))) (left_2 : Int) (i_3 : Int) : laws_szMatrixS.l0 R N (n + 1) a_1 left_2 i_3 = (bif (decide (i_3 < (List.length a_1 : Int))) then (Option.bind (idx? a_1 i_3) fun y4 => (Option.bind (callT R n_laws_szMatrix o_laws_szMatrix [⟨(.int .i64), y4.1⟩, ⟨(.int .i64), y4.2.1⟩, ⟨(.int .i64), y4.2.2.1⟩, ⟨(.sl (.int .i64)), y4.2.2.2.1⟩, ⟨(.int .i64), left_2⟩]) fun r5 => (bif (decide (r5.1 < (0 : Int))) then some ⟨o_laws_szMatrixS, ((-1 : Int), ())⟩ else (laws_szMatrixS.l0 R N n a_1 r5.1 (w64 (i_3 + (1 : Int))))))) else some ⟨o_laws_szMatrixS, (left_2, ())⟩) := (hw _ _).trans (by kernel_rfl)
theorem laws_szMatrixS.ev (R : Run) (N : Nat) (a0 : (List (Int × Int × Int × (List Int) × Unit))) (a1 : Int) : evFn E R sg_laws_szMatrixS pol_laws_szMatrixS F_laws_szMatrixS N [⟨(.sl (.st (.cons (.int .i64) (.cons (.int .i64) (.cons (.int .i64) (.cons (.sl (.int .i64)) .nil)))))), a0⟩, ⟨(.int .i64), a1⟩] = (bif (decide ((w64 (a1 - (List.length a0 : Int))) < (0 : Int))) then some ⟨o_laws_szMatrixS, ((-1 : Int), ())⟩ else (laws_szMatrixS.l0 R N N a0 (w64 (a1 - (List.length a0 : Int))) (0 : Int))) := by kernel_rfl
/-! loop.example/g01005/laws.szSheaf -/
theorem laws_szSheaf.ev (R : Run) (N : Nat) (a0 : (List (List Int))) (a1 : Int) (a2 : (List Int)) (a3 : (List (Int × Int × Int × (List Int) × Unit))) (a4 : Int) : evFn E R sg_laws_szSheaf pol_laws_szSheaf F_laws_szSheaf N [⟨(.sl (.sl (.int .i64))), a0⟩, ⟨(.int .i64), a1⟩, ⟨(.sl (.int .i64)), a2⟩, ⟨(.sl (.st (.cons (.int .i64) (.cons (.int .i64) (.cons (.int .i64) (.cons (.sl (.int .i64)) .nil)))))), a3⟩, ⟨(.int .i64), a4⟩] = (Option.bind (callT R n_laws_szComplex o_laws_szComplex [⟨(.sl (.sl (.int .i64))), a0⟩, ⟨(.int .i64), a4⟩]) fun r1 => (bif (decide (r1.1 < (0 : Int))) then some ⟨o_laws_szSheaf, ((-1 : Int), ())⟩ else (Option.bind (callT R n_laws_szInt64S o_laws_szInt64S [⟨(.sl (.int .i64)), a2⟩, ⟨(.int .i64), r1.1⟩]) fun r2 => (bif (decide (r2.1 < (0 : Int))) then some ⟨o_laws_szSheaf, ((-1 : Int), ())⟩ else (Option.bind (callT R n_laws_szMatrixS o_laws_szMatrixS [⟨(.sl (.st (.cons (.int .i64) (.cons (.int .i64) (.cons (.int .i64) (.cons (.sl (.int .i64)) .nil)))))), a3⟩, ⟨(.int .i64), r2.1⟩]) fun r3 => (bif (decide (r3.1 < (0 : Int))) then some ⟨o_laws_szSheaf, ((-1 : Int), ())⟩ else some ⟨o_laws_szSheaf, (r3.1, ())⟩)))))) := by kernel_rfl
/-! loop.example/g01005/laws.toInt64S -/
noncomputable def laws_toInt64S.l0 (R : Run) (N : Nat) (n : Nat) (a_1 : (List Int)) (i_2 : Int) (o7_3 : (List Int)) : Option Dv := R.w (some ⟨[.c (.d (.sl (.int .i64)) a_1), V.dead, V.dead, .c (.arr 7), .c (.d (.int .i64) i_2), V.dead, V.dead, V.dead, V.dead, V.dead, V.dead, V.dead, V.dead, V.dead, V.dead, V.dead, V.dead, V.dead, V.dead, V.dead, V.dead, V.dead], [none, none, none, none, none, none, none, some (.arr (.int .i64) o7_3 true false false), none, none, none, none, none, none, none, none, none, none, none, none, none, none, none]⟩) fun st => loopC (evCode E R pol_laws_toInt64S N (sub [1, 1, 0, 1, 0, 0] (bodyOf F_laws_toInt64S))) (maskAt R pol_laws_toInt64S.loopM 3) n st (kBlk (maskAt R pol_laws_toInt64S.blkM 0) 0 (kSeq (maskAt R pol_laws_toInt64S.seqM 6) (evCode E R pol_laws_toInt64S N (sub [1, 1, 1] (bodyOf F_laws_toInt64S))) (kTop E sg_laws_toInt64S F_laws_toInt64S)))
theorem laws_toInt64S.l0_zero (R : Run) (hw : R.ok) (N : Nat) (a_1 : (List Int)) (i_2 : Int) (o7_3 : (List Int)) : laws_toInt64S.l0 R N 0 a_1 i_2 o7_3 = none := (hw _ _).trans (by kernel_rfl)
theorem laws_toInt64S.l0_succ (R : Run) (hw : R.ok) (N : Nat) (n : Nat) (a_1 : (List Int)) (i_2 : Int) (o7_3 : (List Int)) : laws_toInt64S.l0 R N (n + 1) a_1 i_2 o7_3 = (bif (decide (i_2 < (List.length a_1 : Int))) then (Option.bind (idx? a_1 i_2) fun y4 => (Option.bind (chk (decide (0 ≤ i_2) && decide (i_2 < (List.length o7_3 : Int)))) fun _ => (laws_toInt64S.l0 R N n a_1 (w64 (i_2 + (1 : Int))) (List.set o7_3 (Int.toNat i_2) (y4, ()).1)))) else some ⟨o_laws_toInt64S, (o7_3, ())⟩) := (hw _ _).trans (by kernel_rfl)
theorem laws_toInt64S.ev (R : Run) (N : Nat) (a0 : (List Int)) : evFn E R sg_laws_toInt64S pol_laws_toInt64S F_laws_toInt64S N [⟨(.sl (.int .i64)), a0⟩] = (Option.bind (chk (decide (0 ≤ (List.length a0 : Int)) && decide ((List.length a0 : Int) * 8 ≤ 70368744177664))) fun _ => (laws_toInt64S.l0 R N N a0 (0 : Int) (List.replicate (Int.toNat (List.length a0 : Int)) (0 : Int)))) := by kernel_rfl
/-! loop.example/g01005/laws.toInt64SS -/
noncomputable def laws_toInt64SS.l0 (R : Run) (N : Nat) (n : Nat) (a_1 : (List (List Int))) (i_2 : Int) (o7_3 : (List (List Int))) : Option Dv := R.w (some ⟨[.c (.d (.sl (.sl (.int .i64))) a_1), V.dead, V.dead, .c (.arr 7), .c (.d (.int .i64) i_2), V.dead, V.dead, V.dead, V.dead, V.dead, V.dead, V.dead, V.dead, V.dead, V.dead, V.dead, V.dead, V.dead, V.dead, V.dead, V.dead, V.dead, V.dead], [none, none, none, none, none, none, none, some (.arr (.sl (.int .i64)) o7_3 true false false), none, none, none, none, none, none, none, none, none, none, none, none, none, none, none, none, none]⟩) fun st => loopC (evCode E R pol_laws_toInt64SS N (sub [1, 1, 0, 1, 0, 0] (bodyOf F_laws_toInt64SS))) (maskAt R pol_laws_toInt64SS.loopM 3) n st (kBlk (maskAt R pol_laws_toInt64SS.blkM 0) 0 (kSeq (maskAt R pol_laws_toInt64SS.seqM 6) (evCode E R pol_laws_toInt64SS N (sub [1, 1, 1] (bodyOf F_laws_toInt64SS))) (kTop E sg_laws_toInt64SS F_laws_toInt64SS)))
theorem laws_toInt64SS.l0_zero (R : Run) (hw : R.ok) (N : Nat) (a_1 : (List (List Int))) (i_2 : Int) (o7_3 : (List (List Int))) : laws_toInt64SS.l0 R N 0 a_1 i_2 o7_3 = none := (hw _ _).trans (by kernel_rfl)
theorem laws_toInt64SS.l0_succ (R : Run) (hw : R.ok) (N : Nat) (n : Nat) (a_1 : (List (List Int))) (i_2 : Int) (o7_3 : (List (List Int))) : laws_toInt64SS.l0 R N (n + 1) a_1 i_2 o7_3 = (bif (decide (i_2 < (List.length a_1 : Int))) then (Option.bind (idx? a_1 i_2) fun y4 => (Option.bind (callT R n_laws_toInt64S o_laws_toInt64S [⟨(.sl (.int .i64)), (y4, ()).1⟩]) fun r5 => (Option.bind (chk (decide (0 ≤ i_2) && decide (i_2 < (List.length o7_3 : Int)))) fun _ => (laws_toInt64SS.l0 R N n a_1 (w64 (i_2 + (1 : Int))) (List.set o7_3 (Int.toNat i_2) r5.1))))) else some ⟨o_laws_toInt64SS, (o7_3, ())⟩) := (hw _ _).trans (by kernel_rfl)
theorem laws_toInt64SS.ev (R : Run) (N : Nat) (a0 : (List (List Int))) : evFn E R sg_laws_toInt64SS pol_laws_toInt64SS F_laws_toInt64SS N [⟨(.sl (.sl (.int .i64))), a0⟩] = (Option.bind (chk (decide (0 ≤ (List.length a0 : Int)) && decide ((List.length a0 : Int) * 24 ≤ 70368744177664))) fun _ => (laws_toInt64SS.l0 R N N a0 (0 : Int) (List.replicate (Int.toNat (List.length a0 : Int)) ([] : List Int)))) := by kernel_rfl
/-! loop.example/g01005/laws.toComplex -/
theorem laws_toComplex.ev (R : Run) (N : Nat) (a0 : (List (List Int))) : evFn E R sg_laws_toComplex pol_laws_toComplex F_laws_toComplex N [⟨(.sl (.sl (.int .i64))), a0⟩] = (Option.bind (callT R n_laws_toInt64SS o_laws_toInt64SS [⟨(.sl (.sl (.int .i64))), a0⟩]) fun r1 => some ⟨o_laws_toComplex, (r1.1, ())⟩) := by kernel_rfl
/-! loop.example/g01005/laws.toMatrix -/
theorem laws_toMatrix.ev (R : Run) (N : Nat) (a0 : Int) (a1 : Int) (a2 : Int) (a3 : (List Int)) : evFn E R sg_laws_toMatrix pol_laws_toMatrix F_laws_toMatrix N [⟨(.int .i64), a0⟩, ⟨(.int .i64), a1⟩, ⟨(.int .i64), a2⟩, ⟨(.sl (.int .i64)), a3⟩] = (Option.bind (callT R n_laws_toInt64S o_laws_toInt64S [⟨(.sl (.int .i64)), a3⟩]) fun r1 => some ⟨o_laws_toMatrix, (a0, a1, a2, r1.1, ())⟩) := by kernel_rfl
/-! loop.example/g01005/laws.toMatrixS -/
noncomputable def laws_toMatrixS.l0 (R : Run) (N : Nat) (n : Nat) (a_1 : (List (Int × Int × Int × (List Int) × Unit))) (i_2 : Int) (o7_3 : (List (Int × Int × Int × (List Int) × Unit))) : Option Dv := R.w (some ⟨[.c (.d (.sl (.st (.cons (.int .i64) (.cons (.int .i64) (.cons (.int .i64) (.cons (.sl (.int .i64)) .nil)))))) a_1), V.dead, V.dead, .c (.arr 7), .c (.d (.int .i64) i_2), V.dead, V.dead, V.dead, V.dead, V.dead, V.dead, V.dead, V.dead, V.dead, V.dead, V.dead, V.dead, V.dead, V.dead, V.dead, V.dead, V.dead, V.dead], [none, none, none, none, none, none, none, some (.arr (.st (.cons (.int .i64) (.cons (.int .i64) (.cons (.int .i64) (.cons (.sl (.int .i64)) .nil))))) o7_3 true false false), none, none, none, none, none, none, none, none, none, none, none, none, none, none, none, none, none]⟩) fun st => loopC (evCode E R pol_laws_toMatrixS N (sub [1, 1, 0, 1, 0, 0] (bodyOf F_laws_toMatrixS))) (maskAt R pol_laws_toMatrixS.loopM 3) n st (kBlk (maskAt R pol_laws_toMatrixS.blkM 0) 0 (kSeq (maskAt R pol_laws_toMatrixS.seqM 6) (evCode E R pol_laws_toMatrixS N (sub [1, 1, 1] (bodyOf F_laws_toMatrixS))) (kTop E sg_laws_toMatrixS F_laws_toMatrixS)))
theorem laws_toMatrixS.l0_zero (R : Run) (hw : R.ok) (N : Nat) (a_1 : (List (Int × Int × Int × (List Int) × Unit))) (i_2 : Int) (o7_3 : (List (Int × Int × Int × (List Int) × Unit))) : laws_toMatrixS.l0 R N 0 a_1 i_2 o7_3 = none := (hw _ _).trans (by kernel_rfl)
theorem laws_toMatrixS.l0_succ (R : Run) (hw : R.ok) (N : Nat) (n : Nat) (a_1 : (List (Int × Int × Int × (List Int) × Unit))) (i_2 : Int) (o7_3 : (List (Int × Int × Int × (List Int) × Unit))) : laws_toMatrixS.l0 R N (n + 1) a_1 i_2 o7_3 = (bif (decide (i_2 < (List.length a_1 : Int))) then (Option.bind (idx? a_1 i_2) fun y4 => (Option.bind (callT R n_laws_toMatrix o_laws_toMatrix [⟨(.int .i64), y4.1⟩, ⟨(.int .i64), y4.2.1⟩, ⟨(.int .i64), y4.2.2.1⟩, ⟨(.sl (.int .i64)), y4.2.2.2.1⟩]) fun r5 => (Option.bind (chk (decide (0 ≤ i_2) && decide (i_2 < (List.length o7_3 : Int)))) fun _ => (laws_toMatrixS.l0 R N n a_1 (w64 (i_2 + (1 : Int))) (List.set o7_3 (Int.toNat i_2) (r5.1, r5.2.1, r5.2.2.1, r5.2.2.2.1, ())))))) else some ⟨o_laws_toMatrixS, (o7_3, ())⟩) := (hw _ _).trans (by kernel_rfl)
theorem laws_toMatrixS.ev (R : Run) (N : Nat) (a0 : (List (Int × Int × Int × (List Int) × Unit))) : evFn E R sg_laws_toMatrixS pol_laws_toMatrixS F_laws_toMatrixS N [⟨(.sl (.st (.cons (.int .i64) (.cons (.int .i64) (.cons (.int .i64) (.cons (.sl (.int .i64)) .nil)))))), a0⟩] = (Option.bind (chk (decide (0 ≤ (List.length a0 : Int)) && decide ((List.length a0 : Int) * 48 ≤ 70368744177664))) fun _ => (laws_toMatrixS.l0 R N N a0 (0 : Int) (List.replicate (Int.toNat (List.length a0 : Int)) ((0 : Int), (0 : Int), (0 : Int), ([] : List Int), ())))) := by kernel_rfl
/-! loop.example/g01005/laws.toSheaf -/
theorem laws_toSheaf.ev (R : Run) (N : Nat) (a0 : (List (List Int))) (a1 : Int) (a2 : (List Int)) (a3 : (List (Int × Int × Int × (List Int) × Unit))) : evFn E R sg_laws_toSheaf pol_laws_toSheaf F_laws_toSheaf N [⟨(.sl (.sl (.int .i64))), a0⟩, ⟨(.int .i64), a1⟩, ⟨(.sl (.int .i64)), a2⟩, ⟨(.sl (.st (.cons (.int .i64) (.cons (.int .i64) (.cons (.int .i64) (.cons (.sl (.int .i64)) .nil)))))), a3⟩] = (Option.bind (callT R n_laws_toComplex o_laws_toComplex [⟨(.sl (.sl (.int .i64))), a0⟩]) fun r1 => (Option.bind (callT R n_laws_toInt64S o_laws_toInt64S [⟨(.sl (.int .i64)), a2⟩]) fun r2 => (Option.bind (callT R n_laws_toMatrixS o_laws_toMatrixS [⟨(.sl (.st (.cons (.int .i64) (.cons (.int .i64) (.cons (.int .i64) (.cons (.sl (.int .i64)) .nil)))))), a3⟩]) fun r3 => some ⟨o_laws_toSheaf, (r1.1, a1, r2.1, r3.1, ())⟩))) := by kernel_rfl
/-! loop.example/g01005/spec.l00Same -/
noncomputable def spec_l00Same.l0 (R : Run) (N : Nat) (n : Nat) (a_1 : (List Int)) (b_2 : (List Int)) (i_3 : Int) : Option Dv := R.w (some ⟨[.c (.d (.sl (.int .i64)) a_1), .c (.d (.sl (.int .i64)) b_2), V.dead, V.dead, V.dead, .c (.d (.int .i64) i_3), V.dead, V.dead, V.dead, V.dead, V.dead, V.dead, V.dead, V.dead, V.dead, V.dead, V.dead, V.dead, V.dead, V.dead, V.dead, V.dead, V.dead, V.dead, V.dead, V.dead], [none, none, none, none, none, none, none, none, none, none, none, none, none, none, none, none, none, none, none, none, none, none, none, none, none, none, none, none]⟩) fun st => loopC (evCode E R pol_spec_l00Same N (sub [1, 1, 0, 1, 0, 0] (bodyOf F_spec_l00Same))) (maskAt R pol_spec_l00Same.loopM 4) n st (kBlk (maskAt R pol_spec_l00Same.blkM 0) 0 (kSeq (maskAt R pol_spec_l00Same.seqM 8) (evCode E R pol_spec_l00Same N (sub [1, 1, 1] (bodyOf F_spec_l00Same))) (kTop E sg_spec_l00Same F_spec_l00Same)))
theorem spec_l00Same.l0_zero (R : Run) (hw : R.ok) (N : Nat) (a_1 : (List Int)) (b_2 : (List Int)) (i_3 : Int) : spec_l00Same.l0 R N 0 a_1 b_2 i_3 = none := (hw _ _).trans (by kernel_rfl)
theorem spec_l00Same.l0_succ (R : Run) (hw : R.ok) (N : Nat) (n : Nat) (a_1 : (List Int)) (b_2 : (List Int)) (i_3 : Int) : spec_l00Same.l0 R N (n + 1) a_1 b_2 i_3 = (bif (decide (i_3 < (List.length a_1 : Int))) then (Option.bind (idx? a_1 i_3) fun y4 => (Option.bind (idx? b_2 i_3) fun y5 => (bif ((y4, ()).1 != (y5, ()).1) then some ⟨o_spec_l00Same, (false, ())⟩ else (spec_l00Same.l0 R N n a_1 b_2 (w64 (i_3 + (1 : Int))))))) else some ⟨o_spec_l00Same, (true, ())⟩) := (hw _ _).trans (by kernel_rfl)
theorem spec_l00Same.ev (R : Run) (N : Nat) (a0 : (List Int)) (a1 : (List Int)) : evFn E R sg_spec_l00Same pol_spec_l00Same F_spec_l00Same N [⟨(.sl (.int .i64)), a0⟩, ⟨(.sl (.int .i64)), a1⟩] = (bif ((List.length a0 : Int) != (List.length a1 : Int)) then some ⟨o_spec_l00Same, (false, ())⟩ else (spec_l00Same.l0 R N N a0 a1 (0 : Int))) := by kernel_rfl
/-! loop.example/g01005/spec.l05Same -/
noncomputable def spec_l05Same.l0 (R : Run) (N : Nat) (n : Nat) (a_1 : ((List (List Int)) × Unit)) (b_2 : ((List (List Int)) × Unit)) (i_3 : Int) : Option Dv := R.w (some ⟨[.c (.ip (.cons (.sl (.sl (.int .i64))) .nil) a_1 0), .c (.ip (.cons (.sl (.sl (.int .i64))) .nil) b_2 0), V.dead, V.dead, V.dead, .c (.d (.int .i64) i_3), V.dead, V.dead, V.dead, V.dead, V.dead, V.dead, V.dead, V.dead, V.dead, V.dead, V.dead, V.dead, V.dead, V.dead, V.dead, V.dead, V.dead, V.dead, V.dead, V.dead, V.dead, V.dead, V.dead, V.dead, V.dead, V.dead, V.dead, V.dead, V.dead, V.dead, V.dead, V.dead, V.dead, V.dead, V.dead, V.dead], [none, none, none, none, none, none, none, none, none, none, none, none, none, none, none, none, none, none, none, none, none, none, none, none, none, none, none, none, none, none, none, none, none, none, none, none, none, none, none, none, none, none, none, none]⟩) fun st => loopC (evCode E R pol_spec_l05Same N (sub [1, 1, 0, 1, 0, 0] (bodyOf F_spec_l05Same))) (maskAt R pol_spec_l05Same.loopM 4) n st (kBlk (maskAt R pol_spec_l05Same.blkM 0) 0 (kSeq (maskAt R pol_spec_l05Same.seqM 8) (evCode E R pol_spec_l05Same N (sub [1, 1, 1] (bodyOf F_spec_l05Same))) (kTop E sg_spec_l05Same F_spec_l05Same)))
theorem spec_l05Same.l0_zero (R : Run) (hw : R.ok) (N : Nat) (a_1 : ((List (List Int)) × Unit)) (b_2 : ((List (List Int)) × Unit)) (i_3 : Int) : spec_l05Same.l0 R N 0 a_1 b_2 i_3 = none := (hw _ _).trans (by kernel_rfl)
theorem spec_l05Same.l0_succ (R : Run) (hw : R.ok) (N : Nat) (n : Nat) (a_1 : ((List (List Int)) × Unit)) (b_2 : ((List (List Int)) × Unit)) (i_3 : Int) : spec_l05Same.l0 R N (n + 1) a_1 b_2 i_3 = (bif (decide (i_3 < (List.length a_1.1 : Int))) then (Option.bind (idx? a_1.1 i_3) fun y4 => (Option.bind (idx? b_2.1 i_3) fun y5 => (Option.bind (callT R n_spec_l00Same o_spec_l00Same [⟨(.sl (.int .i64)), (y4, ()).1⟩, ⟨(.sl (.int .i64)), (y5, ()).1⟩]) fun r6 => (bif (!r6.1) then some ⟨o_spec_l05Same, (false, ())⟩ else (spec_l05Same.l0 R N n a_1 b_2 (w64 (i_3 + (1 : Int)))))))) else some ⟨o_spec_l05Same, (true, ())⟩) := (hw _ _).trans (by kernel_rfl)
theorem spec_l05Same.ev (R : Run) (N : Nat) (a0 : ((List (List Int)) × Unit)) (a1 : ((List (List Int)) × Unit)) : evFn E R sg_spec_l05Same pol_spec_l05Same F_spec_l05Same N [⟨(.ptr (.cons (.sl (.sl (.int .i64))) .nil)), a0⟩, ⟨(.ptr (.cons (.sl (.sl (.int .i64))) .nil)), a1⟩] = (bif ((List.length a0.1 : Int) != (List.length a1.1 : Int)) then some ⟨o_spec_l05Same, (false, ())⟩ else (spec_l05Same.l0 R N N a0 a1 (0 : Int))) := by kernel_rfl
/-! loop.example/g01005/spec.l03Same -/
noncomputable def spec_l03Same.l1 (R : Run) (N : Nat) (n : Nat) (t0__4 : (Int × Int × Int × (List Int) × Unit)) (t1__5 : (Int × Int × Int × (List Int) × Unit)) (t5__6 : Int) : Option Dv := R.w (some ⟨[.c (.ip (.cons (.int .i64) (.cons (.int .i64) (.cons (.int .i64) (.cons (.sl (.int .i64)) .nil)))) t0__4 0), .c (.ip (.cons (.int .i64) (.cons (.int .i64) (.cons (.int .i64) (.cons (.sl (.int .i64)) .nil)))) t1__5 0), V.dead, V.dead, V.dead, .c (.d (.int .i64) t5__6), V.dead, V.dead, V.dead, V.dead, V.dead, V.dead, V.dead, V.dead, V.dead, V.dead, V.dead, V.dead, V.dead, V.dead, V.dead, V.dead, V.dead, V.dead, V.dead, V.dead, V.dead, V.dead, V.dead, V.dead, V.dead, V.dead, V.dead, V.dead, V.dead, V.dead, V.dead, V.dead, V.dead, V.dead, V.dead, V.dead, V.dead, V.dead, V.dead, V.dead, V.dead, V.dead, V.dead, V.dead, V.dead, V.dead, V.dead, V.dead, V.dead, V.dead, V.dead, V.dead, V.dead, V.dead, V.dead, V.dead, V.dead, V.dead, V.dead, V.dead, V.dead, V.dead, V.dead, V.dead, V.dead, V.dead, V.dead, V.dead], [none, none, none, none, none, none, none, none, none, none, none, none, none, none, none, none, none, none, none, none, none, none, none, none, none, none, none, none, none, none, none, none, none, none, none, none, none, none, none, none, none, none, none, none, none, none, none, none, none, none, none, none, none, none, none, none, none, none, none, none, none, none, none, none, none, none, none, none, none, none, none, none, none, none, none, none]⟩) fun st => loopC (evCode E R pol_spec_l03Same N (sub [1, 1, 0, 1, 0, 0] (bodyOf F_spec_l03Same))) (maskAt R pol_spec_l03Same.loopM 4) n st (kBlk (maskAt R pol_spec_l03Same.blkM 0) 0 (kSeq (maskAt R pol_spec_l03Same.seqM 8) (evCode E R pol_spec_l03Same N (sub [1, 1, 1] (bodyOf F_spec_l03Same))) (kTop E sg_spec_l03Same F_spec_l03Same)))
noncomputable def spec_l03Same.j0 (R : Run) (N : Nat) (t0__1 : (Int × Int × Int × (List Int) × Unit)) (t1__2 : (Int × Int × Int × (List Int) × Unit)) (t49__3 : Bool) : Option Dv := R.w (some ⟨[.c (.ip (.cons (.int .i64) (.cons (.int .i64) (.cons (.int .i64) (.cons (.sl (.int .i64)) .nil)))) t0__1 0), .c (.ip (.cons (.int .i64) (.cons (.int .i64) (.cons (.int .i64) (.cons (.sl (.int .i64)) .nil)))) t1__2 0), V.dead, V.dead, V.dead, V.dead, V.dead, V.dead, V.dead, V.dead, V.dead, V.dead, V.dead, V.dead, V.dead, V.dead, V.dead, V.dead, V.dead, V.dead, V.dead, V.dead, V.dead, V.dead, V.dead, V.dead, V.dead, V.dead, V.dead, V.dead, V.dead, V.dead, V.dead, V.dead, V.dead, V.dead, V.dead, V.dead, V.dead, V.dead, V.dead, V.dead, V.dead, V.dead, V.dead, V.dead, V.dead, V.dead, V.dead, .c (.d .bool t49__3), V.dead, V.dead, V.dead, V.dead, V.dead, V.dead, V.dead, V.dead, V.dead, V.dead, V.dead, V.dead, V.dead, V.dead, V.dead, V.dead, V.dead, V.dead, V.dead, V.dead, V.dead, V.dead, V.dead, V.dead], [none, none, none, none, none, none, none, none, none, none, none, none, none, none, none, none, none, none, none, none, none, none, none, none, none, none, none, none, none, none, none, none, none, none, none, none, none, none, none, none, none, none, none, none, none, none, none, none, none, none, none, none, none, none, none, none, none, none, none, none, none, none, none, none, none, none, none, none, none, none, none, none, none, none, none, none]⟩) fun st => evCode E R pol_spec_l03Same N (sub [1, 0, 1] (bodyOf F_spec_l03Same)) st (kSeq (maskAt R pol_spec_l03Same.seqM 3) (evCode E R pol_spec_l03Same N (sub [1, 1] (bodyOf F_spec_l03Same))) (kTop E sg_spec_l03Same F_spec_l03Same))
theorem spec_l03Same.l1_zero (R : Run) (hw : R.ok) (N : Nat) (t0__4 : (Int × Int × Int × (List Int) × Unit)) (t1__5 : (Int × Int × Int × (List Int) × Unit)) (t5__6 : Int) : spec_l03Same.l1 R N 0 t0__4 t1__5 t5__6 = none := (hw _ _).trans (by kernel_rfl)
theorem spec_l03Same.l1_succ (R : Run) (hw : R.ok) (N : Nat) (n : Nat) (t0__4 : (Int × Int × Int × (List Int) × Unit)) (t1__5 : (Int × Int × Int × (List Int) × Unit)) (t5__6 : Int) : spec_l03Same.l1 R N (n + 1) t0__4 t1__5 t5__6 = (bif (decide (t5__6 < (List.length t0__4.2.2.2.1 : Int))) then (Option.bind (idx? t0__4.2.2.2.1 t5__6) fun y7 => (Option.bind (idx? t1__5.2.2.2.1 t5__6) fun y8 => (bif ((y7, ()).1 != (y8, ()).1) then some ⟨o_spec_l03Same, (false, ())⟩ else (spec_l03Same.l1 R N n t0__4 t1__5 (w64 (t5__6 + (1 : Int))))))) else some ⟨o_spec_l03Same, (true, ())⟩) := (hw _ _).trans (by kernel_rfl)
theorem spec_l03Same.j0_eq (R : Run) (hw : R.ok) (N : Nat) (t0__1 : (Int × Int × Int × (List Int) × Unit)) (t1__2 : (Int × Int × Int × (List Int) × Unit)) (t49__3 : Bool) : spec_l03Same.j0 R N t0__1 t1__2 t49__3 = (bif t49__3 then some ⟨o_spec_l03Same, (false, ())⟩ else (spec_l03Same.l1 R N N t0__1 t1__2 (0 : Int))) := (hw _ _).trans (by kernel_rfl)
theorem spec_l03Same.ev (R : Run) (N : Nat) (a0 : (Int × Int × Int × (List Int) × Unit)) (a1 : (Int × Int × Int × (List Int) × Unit)) : evFn E R sg_spec_l03Same pol_spec_l03Same F_spec_l03Same N [⟨(.ptr (.cons (.int .i64) (.cons (.int .i64) (.cons (.int .i64) (.cons (.sl (.int .i64)) .nil))))), a0⟩, ⟨(.ptr (.cons (.int .i64) (.cons (.int .i64) (.cons (.int .i64) (.cons (.sl (.int .i64)) .nil))))), a1⟩] = (bif (a0.1 != a1.1) then (spec_l03Same.j0 R N a0 a1 true) else (bif (a0.2.1 != a1.2.1) then (spec_l03Same.j0 R N a0 a1 true) else (bif (a0.2.2.1 != a1.2.2.1) then (spec_l03Same.j0 R N a0 a1 true) else (spec_l03Same.j0 R N a0 a1 ((List.length a0.2.2.2.1 : Int) != (List.length a1.2.2.2.1 : Int)))))) := by kernel_rfl
/-! loop.example/g01005/spec.l09Same -/
noncomputable def spec_l09Same.l1 (R : Run) (N : Nat) (n : Nat) (t0__5 : ((List (List Int)) × Int × (List Int) × (List (Int × Int × Int × (List Int) × Unit)) × Unit)) (t1__6 : ((List (List Int)) × Int × (List Int) × (List (Int × Int × Int × (List Int) × Unit)) × Unit)) (t5__7 : Int) : Option Dv := R.w (some ⟨[.c (.ip (.cons (.sl (.sl (.int .i64))) (.cons (.int .i64) (.cons (.sl (.int .i64)) (.cons (.sl (.st (.cons (.int .i64) (.cons (.int .i64) (.cons (.int .i64) (.cons (.sl (.int .i64)) .nil)))))) .nil)))) t0__5 0), .c (.ip (.cons (.sl (.sl (.int .i64))) (.cons (.int .i64) (.cons (.sl (.int .i64)) (.cons (.sl (.st (.cons (.int .i64) (.cons (.int .i64) (.cons (.int .i64) (.cons (.sl (.int .i64)) .nil)))))) .nil)))) t1__6 0), V.dead, V.dead, V.dead, .c (.d (.int .i64) t5__7), V.dead, V.dead, V.dead, V.dead, V.dead, V.dead, V.dead, V.dead, V.dead, V.dead, V.dead, V.dead, V.dead, V.dead, V.dead, V.dead, V.dead, V.dead, V.dead, V.dead, V.dead, V.dead, V.dead, V.dead, V.dead, V.dead, V.dead, V.dead, V.dead, V.dead, V.dead, V.dead, V.dead, V.dead, V.dead, V.dead, V.dead, V.dead, V.dead, V.dead, V.dead, V.dead, V.dead, V.dead, V.dead, V.dead, V.dead, V.dead, V.dead, V.dead, V.dead, V.dead, V.dead, V.dead, V.dead, V.dead, V.dead, V.dead, V.dead, V.dead, V.dead, V.dead, V.dead, V.dead, V.dead, V.dead, V.dead], [none, none, none, none, none, none, none, none, none, none, none, none, none, none, none, none, none, none, none, none, none, none, none, none, none, none, none, none, none, none, none, none, none, none, none, none, none, none, none, none, none, none, none, none, none, none, none, none, none, none, none, none, none, none, none, none, none, none, none, none, none, none, none, none, none, none, none, none, none, none, none, none, none, none, none]⟩) fun st => loopC (evCode E R pol_spec_l09Same N (sub [1, 1, 0, 1, 0, 0] (bodyOf F_spec_l09Same))) (maskAt R pol_spec_l09Same.loopM 4) n st (kBlk (maskAt R pol_spec_l09Same.blkM 0) 0 (kSeq (maskAt R pol_spec_l09Same.seqM 8) (evCode E R pol_spec_l09Same N (sub [1, 1, 1] (bodyOf F_spec_l09Same))) (kTop E sg_spec_l09Same F_spec_l09Same)))
noncomputable def spec_l09Same.j0 (R : Run) (N : Nat) (t0__2 : ((List (List Int)) × Int × (List Int) × (List (Int × Int × Int × (List Int) × Unit)) × Unit)) (t1__3 : ((List (List Int)) × Int × (List Int) × (List (Int × Int × Int × (List Int) × Unit)) × Unit)) (t49__4 : Bool) : Option Dv := R.w (some ⟨[.c (.ip (.cons (.sl (.sl (.int .i64))) (.cons (.int .i64) (.cons (.sl (.int .i64)) (.cons (.sl (.st (.cons (.int .i64) (.cons (.int .i64) (.cons (.int .i64) (.cons (.sl (.int .i64)) .nil)))))) .nil)))) t0__2 0), .c (.ip (.cons (.sl (.sl (.int .i64))) (.cons (.int .i64) (.cons (.sl (.int .i64)) (.cons (.sl (.st (.cons (.int .i64) (.cons (.int .i64) (.cons (.int .i64) (.cons (.sl (.int .i64)) .nil)))))) .nil)))) t1__3 0), V.dead, V.dead, V.dead, V.dead, V.dead, V.dead, V.dead, V.dead, V.dead, V.dead, V.dead, V.dead, V.dead, V.dead, V.dead, V.dead, V.dead, V.dead, V.dead, V.dead, V.dead, V.dead, V.dead, V.dead, V.dead, V.dead, V.dead, V.dead, V.dead, V.dead, V.dead, V.dead, V.dead, V.dead, V.dead, V.dead, V.dead, V.dead, V.dead, V.dead, V.dead, V.dead, V.dead, V.dead, V.dead, V.dead, V.dead, .c (.d .bool t49__4), V.dead, V.dead, V.dead, V.dead, V.dead, V.dead, V.dead, V.dead, V.dead, V.dead, V.dead, V.dead, V.dead, V.dead, V.dead, V.dead, V.dead, V.dead, V.dead, V.dead, V.dead, V.dead, V.dead], [none, none, none, none, none, none, none, none, none, none, none, none, none, none, none, none, none, none, none, none, none, none, none, none, none, none, none, none, none, none, none, none, none, none, none, none, none, none, none, none, none, none, none, none, none, none, none, none, none, none, none, none, none, none, none, none, none, none, none, none, none, none, none, none, none, none, none, none, none, none, none, none, none, none, none]⟩) fun st => evCode E R pol_spec_l09Same N (sub [1, 0, 1] (bodyOf F_spec_l09Same)) st (kSeq (maskAt R pol_spec_l09Same.seqM 3) (evCode E R pol_spec_l09Same N (sub [1, 1] (bodyOf F_spec_l09Same))) (kTop E sg_spec_l09Same F_spec_l09Same))
theorem spec_l09Same.l1_zero (R : Run) (hw : R.ok) (N : Nat) (t0__5 : ((List (List Int)) × Int × (List Int) × (List (Int × Int × Int × (List Int) × Unit)) × Unit)) (t1__6 : ((List (List Int)) × Int × (List Int) × (List (Int × Int × Int × (List Int) × Unit)) × Unit)) (t5__7 : Int) : spec_l09Same.l1 R N 0 t0__5 t1__6 t5__7 = none := (hw _ _).trans (by kernel_rfl)
theorem spec_l09Same.l1_succ (R : Run) (hw : R.ok) (N : Nat) (n : Nat) (t0__5 : ((List (List Int)) × Int × (List Int) × (List (Int × Int × Int × (List Int) × Unit)) × Unit)) (t1__6 : ((List (List Int)) × Int × (List Int) × (List (Int × Int × Int × (List Int) × Unit)) × Unit)) (t5__7 : Int) : spec_l09Same.l1 R N (n + 1) t0__5 t1__6 t5__7 = (bif (decide (t5__7 < (List.length t0__5.2.2.2.1 : Int))) then (Option.bind (idx? t0__5.2.2.2.1 t5__7) fun y8 => (Option.bind (idx? t1__6.2.2.2.1 t5__7) fun y9 => (Option.bind (callT R n_spec_l03Same o_spec_l03Same [⟨(.ptr (.cons (.int .i64) (.cons (.int .i64) (.cons (.int .i64) (.cons (.sl (.int .i64)) .nil))))), y8⟩, ⟨(.ptr (.cons (.int .i64) (.cons (.int .i64) (.cons (.int .i64) (.cons (.sl (.int .i64)) .nil))))), y9⟩]) fun r10 => (bif (!r10.1) then some ⟨o_spec_l09Same, (false, ())⟩ else (spec_l09Same.l1 R N n t0__5 t1__6 (w64 (t5__7 + (1 : Int)))))))) else some ⟨o_spec_l09Same, (true, ())⟩) := (hw _ _).trans (by kernel_rfl)
theorem spec_l09Same.j0_eq (R : Run) (hw : R.ok) (N : Nat) (t0__2 : ((List (List Int)) × Int × (List Int) × (List (Int × Int × Int × (List Int) × Unit)) × Unit)) (t1__3 : ((List (List Int)) × Int × (List Int) × (List (Int × Int × Int × (List Int) × Unit)) × Unit)) (t49__4 : Bool) : spec_l09Same.j0 R N t0__2 t1__3 t49__4 = (bif t49__4 then some ⟨o_spec_l09Same, (false, ())⟩ else (spec_l09Same.l1 R N N t0__2 t1__3 (0 : Int))) := (hw _ _).trans (by kernel_rfl)
theorem spec_l09Same.ev (R : Run) (N : Nat) (a0 : ((List (List Int)) × Int × (List Int) × (List (Int × Int × Int × (List Int) × Unit)) × Unit)) (a1 : ((List (List Int)) × Int × (List Int) × (List (Int × Int × Int × (List Int) × Unit)) × Unit)) : evFn E R sg_spec_l09Same pol_spec_l09Same F_spec_l09Same N [⟨(.ptr (.cons (.sl (.sl (.int .i64))) (.cons (.int .i64) (.cons (.sl (.int .i64)) (.cons (.sl (.st (.cons (.int .i64) (.cons (.int .i64) (.cons (.int .i64) (.cons (.sl (.int .i64)) .nil)))))) .nil))))), a0⟩, ⟨(.ptr (.cons (.sl (.sl (.int .i64))) (.cons (.int .i64) (.cons (.sl (.int .i64)) (.cons (.sl (.st (.cons (.int .i64) (.cons (.int .i64) (.cons (.int .i64) (.cons (.sl (.int .i64)) .nil)))))) .nil))))), a1⟩] = (Option.bind (callT R n_spec_l05Same o_spec_l05Same [⟨(.ptr (.cons (.sl (.sl (.int .i64))) .nil)), (a0.1, ())⟩, ⟨(.ptr (.cons (.sl (.sl (.int .i64))) .nil)), (a1.1, ())⟩]) fun r1 => (bif (!r1.1) then (spec_l09Same.j0 R N a0 a1 true) else (bif (a0.2.1 != a1.2.1) then (spec_l09Same.j0 R N a0 a1 true) else (Option.bind (callT R n_spec_l00Same o_spec_l00Same [⟨(.sl (.int .i64)), a0.2.2.1⟩, ⟨(.sl (.int .i64)), a1.2.2.1⟩]) fun r17 => (bif (!r17.1) then (spec_l09Same.j0 R N a0 a1 true) else (spec_l09Same.j0 R N a0 a1 ((List.length a0.2.2.2.1 : Int) != (List.length a1.2.2.2.1 : Int)))))))) := by kernel_rfl
/-! loop.example/g01005/spec.SameSheaf -/
theorem spec_SameSheaf.ev (R : Run) (N : Nat) (a0 : (List (List Int))) (a1 : Int) (a2 : (List Int)) (a3 : (List (Int × Int × Int × (List Int) × Unit))) (a4 : (List (List Int))) (a5 : Int) (a6 : (List Int)) (a7 : (List (Int × Int × Int × (List Int) × Unit))) : evFn E R sg_spec_SameSheaf pol_spec_SameSheaf F_spec_SameSheaf N [⟨(.sl (.sl (.int .i64))), a0⟩, ⟨(.int .i64), a1⟩, ⟨(.sl (.int .i64)), a2⟩, ⟨(.sl (.st (.cons (.int .i64) (.cons (.int .i64) (.cons (.int .i64) (.cons (.sl (.int .i64)) .nil)))))), a3⟩, ⟨(.sl (.sl (.int .i64))), a4⟩, ⟨(.int .i64), a5⟩, ⟨(.sl (.int .i64)), a6⟩, ⟨(.sl (.st (.cons (.int .i64) (.cons (.int .i64) (.cons (.int .i64) (.cons (.sl (.int .i64)) .nil)))))), a7⟩] = (Option.bind (callT R n_spec_l09Same o_spec_l09Same [⟨(.ptr (.cons (.sl (.sl (.int .i64))) (.cons (.int .i64) (.cons (.sl (.int .i64)) (.cons (.sl (.st (.cons (.int .i64) (.cons (.int .i64) (.cons (.int .i64) (.cons (.sl (.int .i64)) .nil)))))) .nil))))), (a0, a1, a2, a3, ())⟩, ⟨(.ptr (.cons (.sl (.sl (.int .i64))) (.cons (.int .i64) (.cons (.sl (.int .i64)) (.cons (.sl (.st (.cons (.int .i64) (.cons (.int .i64) (.cons (.int .i64) (.cons (.sl (.int .i64)) .nil)))))) .nil))))), (a4, a5, a6, a7, ())⟩]) fun r1 => some ⟨o_spec_SameSheaf, (r1.1, ())⟩) := by kernel_rfl
/-! slices.Equal[[]int64,int64] -/
noncomputable def slices_Equal_Sint64_int64.l0 (R : Run) (N : Nat) (n : Nat) (s1_1 : (List Int)) (s2_2 : (List Int)) (t12__3 : Int) (t13__4 : Int) : Option Dv := R.w (some ⟨[.c (.d (.sl (.int .i64)) s1_1), .c (.d (.sl (.int .i64)) s2_2), V.dead, V.dead, V.dead, V.dead, V.dead, V.dead, V.dead, V.dead, V.dead, V.dead, .c (.d (.int .i64) t12__3), .c (.d (.int .i64) t13__4), V.dead, V.dead, V.dead, V.dead, V.dead, V.dead, V.dead, V.dead, V.dead, V.dead, V.dead, V.dead], [none, none, none, none, none, none, none, none, none, none, none, none, none, none, none, none, none, none, none, none, none, none, none, none, none, none, none, none]⟩) fun st => loopC (evCode E R pol_slices_Equal_Sint64_int64 N (sub [1, 1, 0, 1, 0, 0] (bodyOf F_slices_Equal_Sint64_int64))) (maskAt R pol_slices_Equal_Sint64_int64.loopM 4) n st (kBlk (maskAt R pol_slices_Equal_Sint64_int64.blkM 0) 0 (kSeq (maskAt R pol_slices_Equal_Sint64_int64.seqM 9) (evCode E R pol_slices_Equal_Sint64_int64 N (sub [1, 1, 1] (bodyOf F_slices_Equal_Sint64_int64))) (kTop E sg_slices_Equal_Sint64_int64 F_slices_Equal_Sint64_int64)))
theorem slices_Equal_Sint64_int64.l0_zero (R : Run) (hw : R.ok) (N : Nat) (s1_1 : (List Int)) (s2_2 : (List Int)) (t12__3 : Int) (t13__4 : Int) : slices_Equal_Sint64_int64.l0 R N 0 s1_1 s2_2 t12__3 t13__4 = none := (hw _ _).trans (by kernel_rfl)
theorem slices_Equal_Sint64_int64.l0_succ (R : Run) (hw : R.ok) (N : Nat) (n : Nat) (s1_1 : (List Int)) (s2_2 : (List Int)) (t12__3 : Int) (t13__4 : Int) : slices_Equal_Sint64_int64.l0 R N (n + 1) s1_1 s2_2 t12__3 t13__4 = (bif (decide (t13__4 < t12__3)) then (Option.bind (idx? s1_1 t13__4) fun y5 => (Option.bind (idx? s2_2 t13__4) fun y6 => (bif ((y5, ()).1 != (y6, ()).1) then some ⟨o_slices_Equal_Sint64_int64, (false, ())⟩ else (slices_Equal_Sint64_int64.l0 R N n s1_1 s2_2 t12__3 (w64 (t13__4 + (1 : Int))))))) else some ⟨o_slices_Equal_Sint64_int64, (true, ())⟩) := (hw _ _).trans (by kernel_rfl)
theorem slices_Equal_Sint64_int64.ev (R : Run) (N : Nat) (a0 : (List Int)) (a1 : (List Int)) : evFn E R sg_slices_Equal_Sint64_int64 pol_slices_Equal_Sint64_int64 F_slices_Equal_Sint64_int64 N [⟨(.sl (.int .i64)), a0⟩, ⟨(.sl (.int .i64)), a1⟩] = (bif ((List.length a0 : Int) != (List.length a1 : Int)) then some ⟨o_slices_Equal_Sint64_int64, (false, ())⟩ else (slices_Equal_Sint64_int64.l0 R N N a0 a1 (List.length a0 : Int) (0 : Int))) := by kernel_rfl
/-! slices.EqualFunc[[][]int64,[][]int64,[]int64,[]int64] -/
noncomputable def slices_EqualFunc_SSint64_SSint64_Sint64_Sint64_slices_Equal_Sint64_int64.l0 (R : Run) (N : Nat) (n : Nat) (s2_1 : (List (List Int))) (t15__2 : (List (List Int))) (t16__3 : Int) (t17__4 : Int) : Option Dv := R.w (some ⟨[V.dead, .c (.d (.sl (.sl (.int .i64))) s2_1), .c (.d (.fn n_slices_Equal_Sint64_int64 .nil) ()), V.dead, V.dead, V.dead, V.dead, V.dead, V.dead, V.dead, V.dead, V.dead, V.dead, V.dead, V.dead, .c (.d (.sl (.sl (.int .i64))) t15__2), .c (.d (.int .i64) t16__3), .c (.d (.int .i64) t17__4), V.dead, V.dead, V.dead, V.dead, V.dead, V.dead, V.dead, V.dead, V.dead, V.dead, V.dead, V.dead, V.dead, V.dead], [none, none, none, none, none, none, none, none, none, none, none, none, none, none, none, none, none, none, none, none, none, none, none, none, none, none, none, none, none, none, none, none, none, none, none]⟩) fun st => loopC (evCode E R pol_slices_EqualFunc_SSint64_SSint64_Sint64_Sint64 N (sub [1, 1, 0, 1, 0, 0] (bodyOf F_slices_EqualFunc_SSint64_SSint64_Sint64_Sint64))) (maskAt R pol_slices_EqualFunc_SSint64_SSint64_Sint64_Sint64.loopM 4) n st (kBlk (maskAt R pol_slices_EqualFunc_SSint64_SSint64_Sint64_Sint64.blkM 0) 0 (kSeq (maskAt R pol_slices_EqualFunc_SSint64_SSint64_Sint64_Sint64.seqM 10) (evCode E R pol_slices_EqualFunc_SSint64_SSint64_Sint64_Sint64 N (sub [1, 1, 1] (bodyOf F_slices_EqualFunc_SSint64_SSint64_Sint64_Sint64))) (kTop E sg_slices_EqualFunc_SSint64_SSint64_Sint64_Sint64 F_slices_EqualFunc_SSint64_SSint64_Sint64_Sint64)))
theorem slices_EqualFunc_SSint64_SSint64_Sint64_Sint64_slices_Equal_Sint64_int64.l0_zero (R : Run) (hw : R.ok) (N : Nat) (s2_1 : (List (List Int))) (t15__2 : (List (List Int))) (t16__3 : Int) (t17__4 : Int) : slices_EqualFunc_SSint64_SSint64_Sint64_Sint64_slices_Equal_Sint64_int64.l0 R N 0 s2_1 t15__2 t16__3 t17__4 = none := (hw _ _).trans (by kernel_rfl)
theorem slices_EqualFunc_SSint64_SSint64_Sint64_Sint64_slices_Equal_Sint64_int64.l0_succ (R : Run) (hw : R.ok) (N : Nat) (n : Nat) (s2_1 : (List (List Int))) (t15__2 : (List (List Int))) (t16__3 : Int) (t17__4 : Int) : slices_EqualFunc_SSint64_SSint64_Sint64_Sint64_slices_Equal_Sint64_int64.l0 R N (n + 1) s2_1 t15__2 t16__3 t17__4 = (bif (decide (t17__4 < t16__3)) then (Option.bind (idx? t15__2 t17__4) fun y5 => (Option.bind (idx? s2_1 t17__4) fun y6 => (Option.bind (callT R n_slices_Equal_Sint64_int64 o_slices_Equal_Sint64_int64 [⟨(.sl (.int .i64)), (y5, ()).1⟩, ⟨(.sl (.int .i64)), (y6, ()).1⟩]) fun r7 => (bif (!r7.1) then some ⟨o_slices_EqualFunc_SSint64_SSint64_Sint64_Sint64, (false, ())⟩ else (slices_EqualFunc_SSint64_SSint64_Sint64_Sint64_slices_Equal_Sint64_int64.l0 R N n s2_1 t15__2 t16__3 (w64 (t17__4 + (1 : Int)))))))) else some ⟨o_slices_EqualFunc_SSint64_SSint64_Sint64_Sint64, (true, ())⟩) := (hw _ _).trans (by kernel_rfl)
theorem slices_EqualFunc_SSint64_SSint64_Sint64_Sint64_slices_Equal_Sint64_int64.ev (R : Run) (N : Nat) (a0 : (List (List Int))) (a1 : (List (List Int))) : evFn E R sg_slices_EqualFunc_SSint64_SSint64_Sint64_Sint64 pol_slices_EqualFunc_SSint64_SSint64_Sint64_Sint64 F_slices_EqualFunc_SSint64_SSint64_Sint64_Sint64 N [⟨(.sl (.sl (.int .i64))), a0⟩, ⟨(.sl (.sl (.int .i64))), a1⟩, ⟨(.fn n_slices_Equal_Sint64_int64 .nil), ()⟩] = (bif ((List.length a0 : Int) != (List.length a1 : Int)) then some ⟨o_slices_EqualFunc_SSint64_SSint64_Sint64_Sint64, (false, ())⟩ else (slices_EqualFunc_SSint64_SSint64_Sint64_Sint64_slices_Equal_Sint64_int64.l0 R N N a1 a0 (List.length a0 : Int) (0 : Int))) := by kernel_rfl
/-! loop.example/g01005/impl.areSame -/
theorem impl_areSame.ev (R : Run) (N : Nat) (a0 : (List (List Int))) (a1 : (List (List Int))) : evFn E R sg_impl_areSame pol_impl_areSame F_impl_areSame N [⟨(.sl (.sl (.int .i64))), a0⟩, ⟨(.sl (.sl (.int .i64))), a1⟩] = (Option.bind (callT R n_slices_EqualFunc_SSint64_SSint64_Sint64_Sint64 o_slices_EqualFunc_SSint64_SSint64_Sint64_Sint64 [⟨(.sl (.sl (.int .i64))), a0⟩, ⟨(.sl (.sl (.int .i64))), a1⟩, ⟨(.fn n_slices_Equal_Sint64_int64 .nil), ()⟩]) fun r1 => some ⟨o_impl_areSame, (r1.1, ())⟩) := by kernel_rfl
/-! loop.example/g01005/impl.SameComplex -/
theorem impl_SameComplex.ev (R : Run) (N : Nat) (a0 : (List (List Int))) (a1 : (List (List Int))) : evFn E R sg_impl_SameComplex pol_impl_SameComplex F_impl_SameComplex N [⟨(.sl (.sl (.int .i64))), a0⟩, ⟨(.sl (.sl (.int .i64))), a1⟩] = (Option.bind (callT R n_impl_areSame o_impl_areSame [⟨(.sl (.sl (.int .i64))), a0⟩, ⟨(.sl (.sl (.int .i64))), a1⟩]) fun r1 => some ⟨o_impl_SameComplex, (r1.1, ())⟩) := by kernel_rfl
/-! loop.example/g01005/impl.SameMatrix -/
theorem impl_SameMatrix.ev (R : Run) (N : Nat) (a0 : Int) (a1 : Int) (a2 : Int) (a3 : (List Int)) (a4 : Int) (a5 : Int) (a6 : Int) (a7 : (List Int)) : evFn E R sg_impl_SameMatrix pol_impl_SameMatrix F_impl_SameMatrix N [⟨(.int .i64), a0⟩, ⟨(.int .i64), a1⟩, ⟨(.int .i64), a2⟩, ⟨(.sl (.int .i64)), a3⟩, ⟨(.int .i64), a4⟩, ⟨(.int .i64), a5⟩, ⟨(.int .i64), a6⟩, ⟨(.sl (.int .i64)), a7⟩] = (bif (a0 == a4) then (bif (a1 == a5) then (bif (a2 == a6) then (Option.bind (callT R n_slices_Equal_Sint64_int64 o_slices_Equal_Sint64_int64 [⟨(.sl (.int .i64)), a3⟩, ⟨(.sl (.int .i64)), a7⟩]) fun r1 => some ⟨o_impl_SameMatrix, (r1.1, ())⟩) else some ⟨o_impl_SameMatrix, (false, ())⟩) else some ⟨o_impl_SameMatrix, (false, ())⟩) else some ⟨o_impl_SameMatrix, (false, ())⟩) := by kernel_rfl
/-! slices.EqualFunc[[]loop.example/g01005/impl.Matrix,[]loop.example/g01005/impl.Matrix,loop.example/g01005/impl.Matrix,loop.example/g01005/impl.Matrix] -/
noncomputable def slices_EqualFunc_Simpl_Matrix_Simpl_Matrix_impl_Matrix_impl_Matrix_impl_SameMatrix.l0 (R : Run) (N : Nat) (n : Nat) (s2_1 : (List (Int × Int × Int × (List Int) × Unit))) (t15__2 : (List (Int × Int × Int × (List Int) × Unit))) (t16__3 : Int) (t17__4 : Int) : Option Dv := R.w (some ⟨[V.dead, .c (.d (.sl (.st (.cons (.int .i64) (.cons (.int .i64) (.cons (.int .i64) (.cons (.sl (.int .i64)) .nil)))))) s2_1), .c (.d (.fn n_impl_SameMatrix .nil) ()), V.dead, V.dead, V.dead, V.dead, V.dead, V.dead, V.dead, V.dead, V.dead, V.dead, V.dead, V.dead, .c (.d (.sl (.st (.cons (.int .i64) (.cons (.int .i64) (.cons (.int .i64) (.cons (.sl (.int .i64)) .nil)))))) t15__2), .c (.d (.int .i64) t16__3), .c (.d (.int .i64) t17__4), V.dead, V.dead, V.dead, V.dead, V.dead, V.dead, V.dead, V.dead, V.dead, V.dead, V.dead, V.dead, V.dead, V.dead], [none, none, none, none, none, none, none, none, none, none, none, none, none, none, none, none, none, none, none, none, none, none, none, none, none, none, none, none, none, none, none, none, none, none, none]⟩) fun st => loopC (evCode E R pol_slices_EqualFunc_Simpl_Matrix_Simpl_Matrix_impl_Matrix_impl_Matrix N (sub [1, 1, 0, 1, 0, 0] (bodyOf F_slices_EqualFunc_Simpl_Matrix_Simpl_Matrix_impl_Matrix_impl_Matrix))) (maskAt R pol_slices_EqualFunc_Simpl_Matrix_Simpl_Matrix_impl_Matrix_impl_Matrix.loopM 4) n st (kBlk (maskAt R pol_slices_EqualFunc_Simpl_Matrix_Simpl_Matrix_impl_Matrix_impl_Matrix.blkM 0) 0 (kSeq (maskAt R pol_slices_EqualFunc_Simpl_Matrix_Simpl_Matrix_impl_Matrix_impl_Matrix.seqM 10) (evCode E R pol_slices_EqualFunc_Simpl_Matrix_Simpl_Matrix_impl_Matrix_impl_Matrix N (sub [1, 1, 1] (bodyOf F_slices_EqualFunc_Simpl_Matrix_Simpl_Matrix_impl_Matrix_impl_Matrix))) (kTop E sg_slices_EqualFunc_Simpl_Matrix_Simpl_Matrix_impl_Matrix_impl_Matrix F_slices_EqualFunc_Simpl_Matrix_Simpl_Matrix_impl_Matrix_impl_Matrix)))
theorem slices_EqualFunc_Simpl_Matrix_Simpl_Matrix_impl_Matrix_impl_Matrix_impl_SameMatrix.l0_zero (R : Run) (hw : R.ok) (N : Nat) (s2_1 : (List (Int × Int × Int × (List Int) × Unit))) (t15__2 : (List (Int × Int × Int × (List Int) × Unit))) (t16__3 : Int) (t17__4 : Int) : slices_EqualFunc_Simpl_Matrix_Simpl_Matrix_impl_Matrix_impl_Matrix_impl_SameMatrix.l0 R N 0 s2_1 t15__2 t16__3 t17__4 = none := (hw _ _).trans (by kernel_rfl)
theorem slices_EqualFunc_Simpl_Matrix_Simpl_Matrix_impl_Matrix_impl_Matrix_impl_SameMatrix.l0_succ (R : Run) (hw : R.ok) (N : Nat) (n : Nat) (s2_1 : (List (Int × Int × Int × (List Int) × Unit))) (t15__2 : (List (Int × Int × Int × (List Int) × Unit))) (t16__3 : Int) (t17__4 : Int) : slices_EqualFunc_Simpl_Matrix_Simpl_Matrix_impl_Matrix_impl_Matrix_impl_SameMatrix.l0 R N (n + 1) s2_1 t15__2 t16__3 t17__4 = (bif (decide (t17__4 < t16__3)) then (Option.bind (idx? t15__2 t17__4) fun y5 => (Option.bind (idx? s2_1 t17__4) fun y6 => (Option.bind (callT R n_impl_SameMatrix o_impl_SameMatrix [⟨(.int .i64), y5.1⟩, ⟨(.int .i64), y5.2.1⟩, ⟨(.int .i64), y5.2.2.1⟩, ⟨(.sl (.int .i64)), y5.2.2.2.1⟩, ⟨(.int .i64), y6.1⟩, ⟨(.int .i64), y6.2.1⟩, ⟨(.int .i64), y6.2.2.1⟩, ⟨(.sl (.int .i64)), y6.2.2.2.1⟩]) fun r7 => (bif (!r7.1) then some ⟨o_slices_EqualFunc_Simpl_Matrix_Simpl_Matrix_impl_Matrix_impl_Matrix, (false, ())⟩ else (slices_EqualFunc_Simpl_Matrix_Simpl_Matrix_impl_Matrix_impl_Matrix_impl_SameMatrix.l0 R N n s2_1 t15__2 t16__3 (w64 (t17__4 + (1 : Int)))))))) else some ⟨o_slices_EqualFunc_Simpl_Matrix_Simpl_Matrix_impl_Matrix_impl_Matrix, (true, ())⟩) := (hw _ _).trans (by kernel_rfl)
theorem slices_EqualFunc_Simpl_Matrix_Simpl_Matrix_impl_Matrix_impl_Matrix_impl_SameMatrix.ev (R : Run) (N : Nat) (a0 : (List (Int × Int × Int × (List Int) × Unit))) (a1 : (List (Int × Int × Int × (List Int) × Unit))) : evFn E R sg_slices_EqualFunc_Simpl_Matrix_Simpl_Matrix_impl_Matrix_impl_Matrix pol_slices_EqualFunc_Simpl_Matrix_Simpl_Matrix_impl_Matrix_impl_Matrix F_slices_EqualFunc_Simpl_Matrix_Simpl_Matrix_impl_Matrix_impl_Matrix N [⟨(.sl (.st (.cons (.int .i64) (.cons (.int .i64) (.cons (.int .i64) (.cons (.sl (.int .i64)) .nil)))))), a0⟩, ⟨(.sl (.st (.cons (.int .i64) (.cons (.int .i64) (.cons (.int .i64) (.cons (.sl (.int .i64)) .nil)))))), a1⟩, ⟨(.fn n_impl_SameMatrix .nil), ()⟩] = (bif ((List.length a0 : Int) != (List.length a1 : Int)) then some ⟨o_slices_EqualFunc_Simpl_Matrix_Simpl_Matrix_impl_Matrix_impl_Matrix, (false, ())⟩ else (slices_EqualFunc_Simpl_Matrix_Simpl_Matrix_impl_Matrix_impl_Matrix_impl_SameMatrix.l0 R N N a1 a0 (List.length a0 : Int) (0 : Int))) := by kernel_rfl
/-! loop.example/g01005/impl.SameSheaf -/
theorem impl_SameSheaf.ev (R : Run) (N : Nat) (a0 : (List (List Int))) (a1 : Int) (a2 : (List Int)) (a3 : (List (Int × Int × Int × (List Int) × Unit))) (a4 : (List (List Int))) (a5 : Int) (a6 : (List Int)) (a7 : (List (Int × Int × Int × (List Int) × Unit))) : evFn E R sg_impl_SameSheaf pol_impl_SameSheaf F_impl_SameSheaf N [⟨(.sl (.sl (.int .i64))), a0⟩, ⟨(.int .i64), a1⟩, ⟨(.sl (.int .i64)), a2⟩, ⟨(.sl (.st (.cons (.int .i64) (.cons (.int .i64) (.cons (.int .i64) (.cons (.sl (.int .i64)) .nil)))))), a3⟩, ⟨(.sl (.sl (.int .i64))), a4⟩, ⟨(.int .i64), a5⟩, ⟨(.sl (.int .i64)), a6⟩, ⟨(.sl (.st (.cons (.int .i64) (.cons (.int .i64) (.cons (.int .i64) (.cons (.sl (.int .i64)) .nil)))))), a7⟩] = (Option.bind (callT R n_impl_SameComplex o_impl_SameComplex [⟨(.sl (.sl (.int .i64))), a0⟩, ⟨(.sl (.sl (.int .i64))), a4⟩]) fun r1 => (bif r1.1 then (bif (a1 == a5) then (Option.bind (callT R n_slices_Equal_Sint64_int64 o_slices_Equal_Sint64_int64 [⟨(.sl (.int .i64)), a2⟩, ⟨(.sl (.int .i64)), a6⟩]) fun r2 => (bif r2.1 then (Option.bind (callT R n_slices_EqualFunc_Simpl_Matrix_Simpl_Matrix_impl_Matrix_impl_Matrix o_slices_EqualFunc_Simpl_Matrix_Simpl_Matrix_impl_Matrix_impl_Matrix [⟨(.sl (.st (.cons (.int .i64) (.cons (.int .i64) (.cons (.int .i64) (.cons (.sl (.int .i64)) .nil)))))), a3⟩, ⟨(.sl (.st (.cons (.int .i64) (.cons (.int .i64) (.cons (.int .i64) (.cons (.sl (.int .i64)) .nil)))))), a7⟩, ⟨(.fn n_impl_SameMatrix .nil), ()⟩]) fun r3 => some ⟨o_impl_SameSheaf, (r3.1, ())⟩) else some ⟨o_impl_SameSheaf, (false, ())⟩)) else some ⟨o_impl_SameSheaf, (false, ())⟩) else some ⟨o_impl_SameSheaf, (false, ())⟩)) := by kernel_rfl
/-! loop.example/g01005/laws.eqInt64S -/
noncomputable def laws_eqInt64S.l0 (R : Run) (N : Nat) (n : Nat) (a_1 : (List Int)) (b_2 : (List Int)) (i_3 : Int) : Option Dv := R.w (some ⟨[.c (.d (.sl (.int .i64)) a_1), .c (.d (.sl (.int .i64)) b_2), V.dead, V.dead, V.dead, .c (.d (.int .i64) i_3), V.dead, V.dead, V.dead, V.dead, V.dead, V.dead, V.dead, V.dead, V.dead, V.dead, V.dead, V.dead, V.dead, V.dead, V.dead, V.dead, V.dead, V.dead, V.dead, V.dead], [none, none, none, none, none, none, none, none, none, none, none, none, none, none, none, none, none, none, none, none, none, none, none, none, none, none, none, none]⟩) fun st => loopC (evCode E R pol_laws_eqInt64S N (sub [1, 1, 0, 1, 0, 0] (bodyOf F_laws_eqInt64S))) (maskAt R pol_laws_eqInt64S.loopM 4) n st (kBlk (maskAt R pol_laws_eqInt64S.blkM 0) 0 (kSeq (maskAt R pol_laws_eqInt64S.seqM 8) (evCode E R pol_laws_eqInt64S N (sub [1, 1, 1] (bodyOf F_laws_eqInt64S))) (kTop E sg_laws_eqInt64S F_laws_eqInt64S)))
theorem laws_eqInt64S.l0_zero (R : Run) (hw : R.ok) (N : Nat) (a_1 : (List Int)) (b_2 : (List Int)) (i_3 : Int) : laws_eqInt64S.l0 R N 0 a_1 b_2 i_3 = none := (hw _ _).trans (by kernel_rfl)
theorem laws_eqInt64S.l0_succ (R : Run) (hw : R.ok) (N : Nat) (n : Nat) (a_1 : (List Int)) (b_2 : (List Int)) (i_3 : Int) : laws_eqInt64S.l0 R N (n + 1) a_1 b_2 i_3 = (bif (decide (i_3 < (List.length a_1 : Int))) then (Option.bind (idx? a_1 i_3) fun y4 => (Option.bind (idx? b_2 i_3) fun y5 => (bif ((y4, ()).1 != (y5, ()).1) then some ⟨o_laws_eqInt64S, (false, ())⟩ else (laws_eqInt64S.l0 R N n a_1 b_2 (w64 (i_3 + (1 : Int))))))) else some ⟨o_laws_eqInt64S, (true, ())⟩) := (hw _ _).trans (by kernel_rfl)
theorem laws_eqInt64S.ev (R : Run) (N : Nat) (a0 : (List Int)) (a1 : (List Int)) : evFn E R sg_laws_eqInt64S pol_laws_eqInt64S F_laws_eqInt64S N [⟨(.sl (.int .i64)), a0⟩, ⟨(.sl (.int .i64)), a1⟩] = (bif ((List.length a0 : Int) != (List.length a1 : Int)) then some ⟨o_laws_eqInt64S, (false, ())⟩ else (laws_eqInt64S.l0 R N N a0 a1 (0 : Int))) := by kernel_rfl
/-! loop.example/g01005/laws.eqInt64SS -/
noncomputable def laws_eqInt64SS.l0 (R : Run) (N : Nat) (n : Nat) (a_1 : (List (List Int))) (b_2 : (List (List Int))) (i_3 : Int) : Option Dv := R.w (some ⟨[.c (.d (.sl (.sl (.int .i64))) a_1), .c (.d (.sl (.sl (.int .i64))) b_2), V.dead, V.dead, V.dead, .c (.d (.int .i64) i_3), V.dead, V.dead, V.dead, V.dead, V.dead, V.dead, V.dead, V.dead, V.dead, V.dead, V.dead, V.dead, V.dead, V.dead, V.dead, V.dead, V.dead, V.dead, V.dead, V.dead, V.dead], [none, none, none, none, none, none, none, none, none, none, none, none, none, none, none, none, none, none, none, none, none, none, none, none, none, none, none, none, none]⟩) fun st => loopC (evCode E R pol_laws_eqInt64SS N (sub [1, 1, 0, 1, 0, 0] (bodyOf F_laws_eqInt64SS))) (maskAt R pol_laws_eqInt64SS.loopM 4) n st (kBlk (maskAt R pol_laws_eqInt64SS.blkM 0) 0 (kSeq (maskAt R pol_laws_eqInt64SS.seqM 8) (evCode E R pol_laws_eqInt64SS N (sub [1, 1, 1] (bodyOf F_laws_eqInt64SS))) (kTop E sg_laws_eqInt64SS F_laws_eqInt64SS)))
theorem laws_eqInt64SS.l0_zero (R : Run) (hw : R.ok) (N : Nat) (a_1 : (List (List Int))) (b_2 : (List (List Int))) (i_3 : Int) : laws_eqInt64SS.l0 R N 0 a_1 b_2 i_3 = none := (hw _ _).trans (by kernel_rfl)
theorem laws_eqInt64SS.l0_succ (R : Run) (hw : R.ok) (N : Nat) (n : Nat) (a_1 : (List (List Int))) (b_2 : (List (List Int))) (i_3 : Int) : laws_eqInt64SS.l0 R N (n + 1) a_1 b_2 i_3 = (bif (decide (i_3 < (List.length a_1 : Int))) then (Option.bind (idx? a_1 i_3) fun y4 => (Option.bind (idx? b_2 i_3) fun y5 => (Option.bind (callT R n_laws_eqInt64S o_laws_eqInt64S [⟨(.sl (.int .i64)), (y4, ()).1⟩, ⟨(.sl (.int .i64)), (y5, ()).1⟩]) fun r6 => (bif (!r6.1) then some ⟨o_laws_eqInt64SS, (false, ())⟩ else (laws_eqInt64SS.l0 R N n a_1 b_2 (w64 (i_3 + (1 : Int)))))))) else some ⟨o_laws_eqInt64SS, (true, ())⟩) := (hw _ _).trans (by kernel_rfl)
theorem laws_eqInt64SS.ev (R : Run) (N : Nat) (a0 : (List (List Int))) (a1 : (List (List Int))) : evFn E R sg_laws_eqInt64SS pol_laws_eqInt64SS F_laws_eqInt64SS N [⟨(.sl (.sl (.int .i64))), a0⟩, ⟨(.sl (.sl (.int .i64))), a1⟩] = (bif ((List.length a0 : Int) != (List.length a1 : Int)) then some ⟨o_laws_eqInt64SS, (false, ())⟩ else (laws_eqInt64SS.l0 R N N a0 a1 (0 : Int))) := by kernel_rfl
/-! loop.example/g01005/laws.eqComplex -/
theorem laws_eqComplex.ev (R : Run) (N : Nat) (a0 : (List (List Int))) (a1 : (List (List Int))) : evFn E R sg_laws_eqComplex pol_laws_eqComplex F_laws_eqComplex N [⟨(.sl (.sl (.int .i64))), a0⟩, ⟨(.sl (.sl (.int .i64))), a1⟩] = (Option.bind (callT R n_laws_eqInt64SS o_laws_eqInt64SS [⟨(.sl (.sl (.int .i64))), a0⟩, ⟨(.sl (.sl (.int .i64))), a1⟩]) fun r1 => (bif (!r1.1) then some ⟨o_laws_eqComplex, (false, ())⟩ else some ⟨o_laws_eqComplex, (true, ())⟩)) := by kernel_rfl
/-! loop.example/g01005/laws.eqMatrix -/
theorem laws_eqMatrix.ev (R : Run) (N : Nat) (a0 : Int) (a1 : Int) (a2 : Int) (a3 : (List Int)) (a4 : Int) (a5 : Int) (a6 : Int) (a7 : (List Int)) : evFn E R sg_laws_eqMatrix pol_laws_eqMatrix F_laws_eqMatrix N [⟨(.int .i64), a0⟩, ⟨(.int .i64), a1⟩, ⟨(.int .i64), a2⟩, ⟨(.sl (.int .i64)), a3⟩, ⟨(.int .i64), a4⟩, ⟨(.int .i64), a5⟩, ⟨(.int .i64), a6⟩, ⟨(.sl (.int .i64)), a7⟩] = (bif (a0 != a4) then some ⟨o_laws_eqMatrix, (false, ())⟩ else (bif (a1 != a5) then some ⟨o_laws_eqMatrix, (false, ())⟩ else (bif (a2 != a6) then some ⟨o_laws_eqMatrix, (false, ())⟩ else (Option.bind (callT R n_laws_eqInt64S o_laws_eqInt64S [⟨(.sl (.int .i64)), a3⟩, ⟨(.sl (.int .i64)), a7⟩]) fun r1 => (bif (!r1.1) then some ⟨o_laws_eqMatrix, (false, ())⟩ else some ⟨o_laws_eqMatrix, (true, ())⟩))))) := by kernel_rfl
/-! loop.example/g01005/laws.eqMatrixS -/
noncomputable def laws_eqMatrixS.l0 (R : Run) (N : Nat) (n : Nat) (a_1 : (List (Int × Int × Int × (List Int) × Unit))) (b_2 : (List (Int × Int × Int × (List Int) × Unit))) (i_3 : Int) : Option Dv := R.w (some ⟨[.c (.d (.sl (.st (.cons (.int .i64) (.cons (.int .i64) (.cons (.int .i64) (.cons (.sl (.int .i64)) .nil)))))) a_1), .c (.d (.sl (.st (.cons (.int .i64) (.cons (.int .i64) (.cons (.int .i64) (.cons (.sl (.int .i64)) .nil)))))) b_2), V.dead, V.dead, V.dead, .c (.d (.int .i64) i_3), V.dead, V.dead, V.dead, V.dead, V.dead, V.dead, V.dead, V.dead, V.dead, V.dead, V.dead, V.dead, V.dead, V.dead, V.dead, V.dead, V.dead, V.dead, V.dead, V.dead, V.dead], [none, none, none, none, none, none, none, none, none, none, none, none, none, none, none, none, none, none, none, none, none, none, none, none, none, none, none, none, none]⟩) fun st => loopC (evCode E R pol_laws_eqMatrixS N (sub [1, 1, 0, 1, 0, 0] (bodyOf F_laws_eqMatrixS))) (maskAt R pol_laws_eqMatrixS.loopM 4) n st (kBlk (maskAt R pol_laws_eqMatrixS.blkM 0) 0 (kSeq (maskAt R pol_laws_eqMatrixS.seqM 8) (evCode E R pol_laws_eqMatrixS N (sub [1, 1, 1] (bodyOf F_laws_eqMatrixS))) (kTop E sg_laws_eqMatrixS F_laws_eqMatrixS)))
theorem laws_eqMatrixS.l0_zero (R : Run) (hw : R.ok) (N : Nat) (a_1 : (List (Int × Int × Int × (List Int) × Unit))) (b_2 : (List (Int × Int × Int × (List Int) × Unit))) (i_3 : Int) : laws_eqMatrixS.l0 R N 0 a_1 b_2 i_3 = none := (hw _ _).trans (by kernel_rfl)
theorem laws_eqMatrixS.l0_succ (R : Run) (hw : R.ok) (N : Nat) (n : Nat) (a_1 : (List (Int × Int × Int × (List Int) × Unit))) (b_2 : (List (Int × Int × Int × (List Int) × Unit))) (i_3 : Int) : laws_eqMatrixS.l0 R N (n + 1) a_1 b_2 i_3 = (bif (decide (i_3 < (List.length a_1 : Int))) then (Option.bind (idx? a_1 i_3) fun y4 => (Option.bind (idx? b_2 i_3) fun y5 => (Option.bind (callT R n_laws_eqMatrix o_laws_eqMatrix [⟨(.int .i64), y4.1⟩, ⟨(.int .i64), y4.2.1⟩, ⟨(.int .i64), y4.2.2.1⟩, ⟨(.sl (.int .i64)), y4.2.2.2.1⟩, ⟨(.int .i64), y5.1⟩, ⟨(.int .i64), y5.2.1⟩, ⟨(.int .i64), y5.2.2.1⟩, ⟨(.sl (.int .i64)), y5.2.2.2.1⟩]) fun r6 => (bif (!r6.1) then some ⟨o_laws_eqMatrixS, (false, ())⟩ else (laws_eqMatrixS.l0 R N n a_1 b_2 (w64 (i_3 + (1 : Int)))))))) else some ⟨o_laws_eqMatrixS, (true, ())⟩) := (hw _ _).trans (by kernel_rfl)
theorem laws_eqMatrixS.ev (R : Run) (N : Nat) (a0 : (List (Int × Int × Int × (List Int) × Unit))) (a1 : (List (Int × Int × Int × (List Int) × Unit))) : evFn E R sg_laws_eqMatrixS pol_laws_eqMatrixS F_laws_eqMatrixS N [⟨(.sl (.st (.cons (.int .i64) (.cons (.int .i64) (.cons (.int .i64) (.cons (.sl (.int .i64)) .nil)))))), a0⟩, ⟨(.sl (.st (.cons (.int .i64) (.cons (.int .i64) (.cons (.int .i64) (.cons (.sl (.int .i64)) .nil)))))), a1⟩] = (bif ((List.length a0 : Int) != (List.length a1 : Int)) then some ⟨o_laws_eqMatrixS, (false, ())⟩ else (laws_eqMatrixS.l0 R N N a0 a1 (0 : Int))) := by kernel_rfl
/-! loop.example/g01005/laws.eqSheaf -/
theorem laws_eqSheaf.ev (R : Run) (N : Nat) (a0 : (List (List Int))) (a1 : Int) (a2 : (List Int)) (a3 : (List (Int × Int × Int × (List Int) × Unit))) (a4 : (List (List Int))) (a5 : Int) (a6 : (List Int)) (a7 : (List (Int × Int × Int × (List Int) × Unit))) : evFn E R sg_laws_eqSheaf pol_laws_eqSheaf F_laws_eqSheaf N [⟨(.sl (.sl (.int .i64))), a0⟩, ⟨(.int .i64), a1⟩, ⟨(.sl (.int .i64)), a2⟩, ⟨(.sl (.st (.cons (.int .i64) (.cons (.int .i64) (.cons (.int .i64) (.cons (.sl (.int .i64)) .nil)))))), a3⟩, ⟨(.sl (.sl (.int .i64))), a4⟩, ⟨(.int .i64), a5⟩, ⟨(.sl (.int .i64)), a6⟩, ⟨(.sl (.st (.cons (.int .i64) (.cons (.int .i64) (.cons (.int .i64) (.cons (.sl (.int .i64)) .nil)))))), a7⟩] = (Option.bind (callT R n_laws_eqComplex o_laws_eqComplex [⟨(.sl (.sl (.int .i64))), a0⟩, ⟨(.sl (.sl (.int .i64))), a4⟩]) fun r1 => (bif (!r1.1) then some ⟨o_laws_eqSheaf, (false, ())⟩ else (bif (a1 != a5) then some ⟨o_laws_eqSheaf, (false, ())⟩ else (Option.bind (callT R n_laws_eqInt64S o_laws_eqInt64S [⟨(.sl (.int .i64)), a2⟩, ⟨(.sl (.int .i64)), a6⟩]) fun r2 => (bif (!r2.1) then some ⟨o_laws_eqSheaf, (false, ())⟩ else (Option.bind (callT R n_laws_eqMatrixS o_laws_eqMatrixS [⟨(.sl (.st (.cons (.int .i64) (.cons (.int .i64) (.cons (.int .i64) (.cons (.sl (.int .i64)) .nil)))))), a3⟩, ⟨(.sl (.st (.cons (.int .i64) (.cons (.int .i64) (.cons (.int .i64) (.cons (.sl (.int .i64)) .nil)))))), a7⟩]) fun r3 => (bif (!r3.1) then some ⟨o_laws_eqSheaf, (false, ())⟩ else some ⟨o_laws_eqSheaf, (true, ())⟩))))))) := by kernel_rfl
/-! loop.example/g01005/laws.FnExactSameSheaf -/
theorem laws_FnExactSameSheaf.ev (R : Run) (N : Nat) (a0 : (List (List Int))) (a1 : Int) (a2 : (List Int)) (a3 : (List (Int × Int × Int × (List Int) × Unit))) (a4 : (List (List Int))) (a5 : Int) (a6 : (List Int)) (a7 : (List (Int × Int × Int × (List Int) × Unit))) : evFn E R sg_laws_FnExactSameSheaf pol_laws_FnExactSameSheaf F_laws_FnExactSameSheaf N [⟨(.sl (.sl (.int .i64))), a0⟩, ⟨(.int .i64), a1⟩, ⟨(.sl (.int .i64)), a2⟩, ⟨(.sl (.st (.cons (.int .i64) (.cons (.int .i64) (.cons (.int .i64) (.cons (.sl (.int .i64)) .nil)))))), a3⟩, ⟨(.sl (.sl (.int .i64))), a4⟩, ⟨(.int .i64), a5⟩, ⟨(.sl (.int .i64)), a6⟩, ⟨(.sl (.st (.cons (.int .i64) (.cons (.int .i64) (.cons (.int .i64) (.cons (.sl (.int .i64)) .nil)))))), a7⟩] = (Option.bind (callT R n_laws_szSheaf o_laws_szSheaf [⟨(.sl (.sl (.int .i64))), a0⟩, ⟨(.int .i64), a1⟩, ⟨(.sl (.int .i64)), a2⟩, ⟨(.sl (.st (.cons (.int .i64) (.cons (.int .i64) (.cons (.int .i64) (.cons (.sl (.int .i64)) .nil)))))), a3⟩, ⟨(.int .i64), (1048576 : Int)⟩]) fun r1 => (bif (decide (r1.1 < (0 : Int))) then some ⟨o_laws_FnExactSameSheaf, (true, ())⟩ else (Option.bind (callT R n_laws_szSheaf o_laws_szSheaf [⟨(.sl (.sl (.int .i64))), a4⟩, ⟨(.int .i64), a5⟩, ⟨(.sl (.int .i64)), a6⟩, ⟨(.sl (.st (.cons (.int .i64) (.cons (.int .i64) (.cons (.int .i64) (.cons (.sl (.int .i64)) .nil)))))), a7⟩, ⟨(.int .i64), r1.1⟩]) fun r2 => (bif (decide (r2.1 < (0 : Int))) then some ⟨o_laws_FnExactSameSheaf, (true, ())⟩ else (Option.bind (callT R n_laws_toSheaf o_laws_toSheaf [⟨(.sl (.sl (.int .i64))), a0⟩, ⟨(.int .i64), a1⟩, ⟨(.sl (.int .i64)), a2⟩, ⟨(.sl (.st (.cons (.int .i64) (.cons (.int .i64) (.cons (.int .i64) (.cons (.sl (.int .i64)) .nil)))))), a3⟩]) fun r3 => (Option.bind (callT R n_laws_toSheaf o_laws_toSheaf [⟨(.sl (.sl (.int .i64))), a4⟩, ⟨(.int .i64), a5⟩, ⟨(.sl (.int .i64)), a6⟩, ⟨(.sl (.st (.cons (.int .i64) (.cons (.int .i64) (.cons (.int .i64) (.cons (.sl (.int .i64)) .nil)))))), a7⟩]) fun r4 => (Option.bind (callT R n_spec_SameSheaf o_spec_SameSheaf [⟨(.sl (.sl (.int .i64))), r3.1⟩, ⟨(.int .i64), r3.2.1⟩, ⟨(.sl (.int .i64)), r3.2.2.1⟩, ⟨(.sl (.st (.cons (.int .i64) (.cons (.int .i64) (.cons (.int .i64) (.cons (.sl (.int .i64)) .nil)))))), r3.2.2.2.1⟩, ⟨(.sl (.sl (.int .i64))), r4.1⟩, ⟨(.int .i64), r4.2.1⟩, ⟨(.sl (.int .i64)), r4.2.2.1⟩, ⟨(.sl (.st (.cons (.int .i64) (.cons (.int .i64) (.cons (.int .i64) (.cons (.sl (.int .i64)) .nil)))))), r4.2.2.2.1⟩]) fun r5 => (Option.bind (callT R n_laws_toSheaf o_laws_toSheaf [⟨(.sl (.sl (.int .i64))), a0⟩, ⟨(.int .i64), a1⟩, ⟨(.sl (.int .i64)), a2⟩, ⟨(.sl (.st (.cons (.int .i64) (.cons (.int .i64) (.cons (.int .i64) (.cons (.sl (.int .i64)) .nil)))))), a3⟩]) fun r6 => (Option.bind (callT R n_laws_toSheaf o_laws_toSheaf [⟨(.sl (.sl (.int .i64))), a4⟩, ⟨(.int .i64), a5⟩, ⟨(.sl (.int .i64)), a6⟩, ⟨(.sl (.st (.cons (.int .i64) (.cons (.int .i64) (.cons (.int .i64) (.cons (.sl (.int .i64)) .nil)))))), a7⟩]) fun r7 => (Option.bind (callT R n_impl_SameSheaf o_impl_SameSheaf [⟨(.sl (.sl (.int .i64))), r6.1⟩, ⟨(.int .i64), r6.2.1⟩, ⟨(.sl (.int .i64)), r6.2.2.1⟩, ⟨(.sl (.st (.cons (.int .i64) (.cons (.int .i64) (.cons (.int .i64) (.cons (.sl (.int .i64)) .nil)))))), r6.2.2.2.1⟩, ⟨(.sl (.sl (.int .i64))), r7.1⟩, ⟨(.int .i64), r7.2.1⟩, ⟨(.sl (.int .i64)), r7.2.2.1⟩, ⟨(.sl (.st (.cons (.int .i64) (.cons (.int .i64) (.cons (.int .i64) (.cons (.sl (.int .i64)) .nil)))))), r7.2.2.2.1⟩]) fun r8 => (bif (r8.1 != r5.1) then some ⟨o_laws_FnExactSameSheaf, (false, ())⟩ else (Option.bind (callT R n_laws_toSheaf o_laws_toSheaf [⟨(.sl (.sl (.int .i64))), a0⟩, ⟨(.int .i64), a1⟩, ⟨(.sl (.int .i64)), a2⟩, ⟨(.sl (.st (.cons (.int .i64) (.cons (.int .i64) (.cons (.int .i64) (.cons (.sl (.int .i64)) .nil)))))), a3⟩]) fun r9 => (Option.bind (callT R n_laws_eqSheaf o_laws_eqSheaf [⟨(.sl (.sl (.int .i64))), r6.1⟩, ⟨(.int .i64), r6.2.1⟩, ⟨(.sl (.int .i64)), r6.2.2.1⟩, ⟨(.sl (.st (.cons (.int .i64) (.cons (.int .i64) (.cons (.int .i64) (.cons (.sl (.int .i64)) .nil)))))), r6.2.2.2.1⟩, ⟨(.sl (.sl (.int .i64))), r9.1⟩, ⟨(.int .i64), r9.2.1⟩, ⟨(.sl (.int .i64)), r9.2.2.1⟩, ⟨(.sl (.st (.cons (.int .i64) (.cons (.int .i64) (.cons (.int .i64) (.cons (.sl (.int .i64)) .nil)))))), r9.2.2.2.1⟩]) fun r10 => (bif (!r10.1) then some ⟨o_laws_FnExactSameSheaf, (false, ())⟩ else (Option.bind (callT R n_laws_toSheaf o_laws_toSheaf [⟨(.sl (.sl (.int .i64))), a4⟩, ⟨(.int .i64), a5⟩, ⟨(.sl (.int .i64)), a6⟩, ⟨(.sl (.st (.cons (.int .i64) (.cons (.int .i64) (.cons (.int .i64) (.cons (.sl (.int .i64)) .nil)))))), a7⟩]) fun r11 => (Option.bind (callT R n_laws_eqSheaf o_laws_eqSheaf [⟨(.sl (.sl (.int .i64))), r7.1⟩, ⟨(.int .i64), r7.2.1⟩, ⟨(.sl (.int .i64)), r7.2.2.1⟩, ⟨(.sl (.st (.cons (.int .i64) (.cons (.int .i64) (.cons (.int .i64) (.cons (.sl (.int .i64)) .nil)))))), r7.2.2.2.1⟩, ⟨(.sl (.sl (.int .i64))), r11.1⟩, ⟨(.int .i64), r11.2.1⟩, ⟨(.sl (.int .i64)), r11.2.2.1⟩, ⟨(.sl (.st (.cons (.int .i64) (.cons (.int .i64) (.cons (.int .i64) (.cons (.sl (.int .i64)) .nil)))))), r11.2.2.2.1⟩]) fun r12 => (bif (!r12.1) then some ⟨o_laws_FnExactSameSheaf, (false, ())⟩ else some ⟨o_laws_FnExactSameSheaf, (true, ())⟩))))))))))))))))) := by kernel_rfl
end VeT

open Go Go.Proofs Ve
set_option linter.unusedVariables false
set_option linter.unusedSimpArgs false
namespace VeT

theorem szInt64S_ret (x : (List Int)) (l : Int) (hx : Wf (.sl (.int .i64)) x) (h0 : 0 ≤ l) (h1 : l ≤ 1048576) :
    ∃ r : Int, Ret E n_laws_szInt64S [⟨(.sl (.int .i64)), x⟩, ⟨.int .i64, l⟩] ⟨o_laws_szInt64S, (r, ())⟩ ∧ (0 ≤ r → r ≤ l ∧ Sm (.sl (.int .i64)) x) := by
  have hx1 : x.length ≤ maxLen := hx.1
  rw [maxLen_eq] at hx1
  have hw : w64 (l - x.length) = l - x.length := w64_small (by omega) (by omega)
  by_cases hc : l - (x.length : Int) < 0
  · refine ⟨-1, Evt.succ (Evt.of fun n => ?_), fun h => by omega⟩
    rw [run_laws_szInt64S, laws_szInt64S.ev, hw, decide_eq_true hc]; rfl
  · refine ⟨l - x.length, Evt.succ (Evt.of fun n => ?_), fun h => ⟨by omega, by omega, fun x _ => trivial⟩⟩
    rw [run_laws_szInt64S, laws_szInt64S.ev, hw, decide_eq_false hc]; rfl

theorem toInt64S_ret (x : (List Int)) (hx : Sm (.sl (.int .i64)) x) : Ret E n_laws_toInt64S [⟨(.sl (.int .i64)), x⟩] ⟨o_laws_toInt64S, (x, ())⟩ := by
  have hx1 : x.length ≤ 1048576 := hx.1
  have hl := fill_loop (a := x) (L := fun m n i o => laws_toInt64S.l0 (mkR (run E m)) m n x i o) (z := List.replicate (Int.toNat (List.length x : Int)) (0 : Int)) (r := some ⟨o_laws_toInt64S, (x, ())⟩) (by simp) (fun k o hk ho => by
      refine Evt.of fun m n => ?_
      show laws_toInt64S.l0 _ _ _ _ _ _ = _
      rw [laws_toInt64S.l0_succ _ mk_ok, decide_eq_true (show (k : Int) < x.length by omega), cond_true, idx_lt hk]
      simp only [Option.bind_some]
      rw [chk_true (by simp; omega), w64_succ (by omega), Int.toNat_natCast]) (Evt.of fun m n => by
      show laws_toInt64S.l0 _ _ _ _ _ _ = _
      rw [laws_toInt64S.l0_succ _ mk_ok, decide_eq_false (by omega), cond_false])
  refine Evt.succ (hl.mono fun n h => ?_)
  rw [run_laws_toInt64S, laws_toInt64S.ev, chk_true (by simp; omega)]
  exact h

theorem eqInt64S_ret (x y : (List Int)) (hx : Sm (.sl (.int .i64)) x) : ∃ b : Bool, Ret E n_laws_eqInt64S [⟨(.sl (.int .i64)), x⟩, ⟨(.sl (.int .i64)), y⟩] ⟨o_laws_eqInt64S, (b, ())⟩ ∧ (b = true ↔ x = y) := by
  have hx1 : x.length ≤ 1048576 := hx.1
  by_cases hl : x.length = y.length
  · have hd : ((x.length : Int) != (y.length : Int)) = false := by simp [hl]
    obtain ⟨h1, h2⟩ := same_loop (a := x) (b := y) (L := fun m n i (_ : Unit) => laws_eqInt64S.l0 (mkR (run E m)) m n x y i) (fun u v => u = v) (rt := some ⟨o_laws_eqInt64S, (true, ())⟩) (rf := some ⟨o_laws_eqInt64S, (false, ())⟩) hl.symm
      (fun k h h' hne => Evt.of fun m n => by
      show laws_eqInt64S.l0 _ _ _ _ _ _ = _
      rw [laws_eqInt64S.l0_succ _ mk_ok, decide_eq_true (show (k : Int) < x.length by omega), cond_true, idx_lt h, idx_lt h']
      have : (x[k] != y[k]) = true := by simpa using hne
      simp only [Option.bind_some, this, cond_true])
      (fun k h h' he => Evt.of fun m n => by
      show laws_eqInt64S.l0 _ _ _ _ _ _ = _
      rw [laws_eqInt64S.l0_succ _ mk_ok, decide_eq_true (show (k : Int) < x.length by omega), cond_true, idx_lt h, idx_lt h']
      have : (x[k] != y[k]) = false := by simpa using he
      simp only [Option.bind_some, this, cond_false]
      rw [w64_succ (by omega)])
      (Evt.of fun m n => by
      show laws_eqInt64S.l0 _ _ _ _ _ _ = _
      rw [laws_eqInt64S.l0_succ _ mk_ok, decide_eq_false (by omega), cond_false])
    by_cases he : x = y
    · refine ⟨true, Evt.succ ((h1 (by subst he; intros; rfl)).mono fun n h => ?_), by simp [he]⟩
      rw [run_laws_eqInt64S, laws_eqInt64S.ev, hd, cond_false]
      exact h
    · refine ⟨false, Evt.succ ((h2 fun hh => he (List.ext_getElem hl hh)).mono fun n h => ?_), by simp [he]⟩
      rw [run_laws_eqInt64S, laws_eqInt64S.ev, hd, cond_false]
      exact h
  · have hd : ((x.length : Int) != (y.length : Int)) = true := by simp; omega
    refine ⟨false, Evt.succ (Evt.of fun n => ?_), ⟨fun h => (nomatch h), fun h => absurd (congrArg List.length h) hl⟩⟩
    rw [run_laws_eqInt64S, laws_eqInt64S.ev, hd, cond_true]

theorem szInt64SS_ret (x : (List (List Int))) (l : Int) (hx : Wf (.sl (.sl (.int .i64))) x) (h0 : 0 ≤ l) (h1 : l ≤ 1048576) :
    ∃ r : Int, Ret E n_laws_szInt64SS [⟨(.sl (.sl (.int .i64))), x⟩, ⟨.int .i64, l⟩] ⟨o_laws_szInt64SS, (r, ())⟩ ∧ (0 ≤ r → r ≤ l ∧ Sm (.sl (.sl (.int .i64))) x) := by
  have hx1 : x.length ≤ maxLen := hx.1
  rw [maxLen_eq] at hx1
  have hw : w64 (l - x.length) = l - x.length := w64_small (by omega) (by omega)
  by_cases hc : l - (x.length : Int) < 0
  · refine ⟨-1, Evt.succ (Evt.of fun n => ?_), fun h => by omega⟩
    rw [run_laws_szInt64SS, laws_szInt64SS.ev, hw, decide_eq_true hc]; rfl
  · obtain ⟨r, hr, hs⟩ := sz_loop (xs := x) (L := fun m n i left => laws_szInt64SS.l0 (mkR (run E m)) m n x left i) (ret := fun r => some ⟨o_laws_szInt64SS, (r, ())⟩) (fun x => Sm (.sl (.int .i64)) x) (fun k left hk hl0 hl1 => by
      obtain ⟨r, hr, hs⟩ := szInt64S_ret x[k] left (hx.2 _ (List.getElem_mem hk)) hl0 hl1
      refine ⟨r, hs, hr.mono fun m h n => ?_⟩
      show laws_szInt64SS.l0 _ _ _ _ _ _ = _
      rw [laws_szInt64SS.l0_succ _ mk_ok, decide_eq_true (show (k : Int) < x.length by omega), cond_true, idx_lt hk]
      simp only [Option.bind_some, callT_of h]
      rw [w64_succ (by omega)]) (fun left => Evt.of fun m n => by
      show laws_szInt64SS.l0 _ _ _ _ _ _ = _
      rw [laws_szInt64SS.l0_succ _ mk_ok, decide_eq_false (by omega), cond_false]) (l - x.length) (by omega) (by omega)
    refine ⟨r, Evt.succ (hr.mono fun n h => ?_), fun h => ⟨by have := (hs h).1; omega, by omega, (hs h).2⟩⟩
    rw [run_laws_szInt64SS, laws_szInt64SS.ev, hw, decide_eq_false hc]
    exact h

theorem toInt64SS_ret (x : (List (List Int))) (hx : Sm (.sl (.sl (.int .i64))) x) : Ret E n_laws_toInt64SS [⟨(.sl (.sl (.int .i64))), x⟩] ⟨o_laws_toInt64SS, (x, ())⟩ := by
  have hx1 : x.length ≤ 1048576 := hx.1
  have hl := fill_loop (a := x) (L := fun m n i o => laws_toInt64SS.l0 (mkR (run E m)) m n x i o) (z := List.replicate (Int.toNat (List.length x : Int)) ([] : List Int)) (r := some ⟨o_laws_toInt64SS, (x, ())⟩) (by simp) (fun k o hk ho => by
      have hr := toInt64S_ret x[k] (hx.2 _ (List.getElem_mem hk))
      refine hr.mono fun m h n => ?_
      show laws_toInt64SS.l0 _ _ _ _ _ _ = _
      rw [laws_toInt64SS.l0_succ _ mk_ok, decide_eq_true (show (k : Int) < x.length by omega), cond_true, idx_lt hk]
      simp only [Option.bind_some, callT_of h]
      rw [chk_true (by simp; omega), w64_succ (by omega), Int.toNat_natCast]) (Evt.of fun m n => by
      show laws_toInt64SS.l0 _ _ _ _ _ _ = _
      rw [laws_toInt64SS.l0_succ _ mk_ok, decide_eq_false (by omega), cond_false])
  refine Evt.succ (hl.mono fun n h => ?_)
  rw [run_laws_toInt64SS, laws_toInt64SS.ev, chk_true (by simp; omega)]
  exact h

theorem eqInt64SS_ret (x y : (List (List Int))) (hx : Sm (.sl (.sl (.int .i64))) x) : ∃ b : Bool, Ret E n_laws_eqInt64SS [⟨(.sl (.sl (.int .i64))), x⟩, ⟨(.sl (.sl (.int .i64))), y⟩] ⟨o_laws_eqInt64SS, (b, ())⟩ ∧ (b = true ↔ x = y) := by
  have hx1 : x.length ≤ 1048576 := hx.1
  by_cases hl : x.length = y.length
  · have hd : ((x.length : Int) != (y.length : Int)) = false := by simp [hl]
    obtain ⟨h1, h2⟩ := same_loop (a := x) (b := y) (L := fun m n i (_ : Unit) => laws_eqInt64SS.l0 (mkR (run E m)) m n x y i) (fun u v => u = v) (rt := some ⟨o_laws_eqInt64SS, (true, ())⟩) (rf := some ⟨o_laws_eqInt64SS, (false, ())⟩) hl.symm
      (fun k h h' hne => by
      obtain ⟨b, hb, hbe⟩ := eqInt64S_ret x[k] y[k] (hx.2 _ (List.getElem_mem h))
      have hb0 : b = false := by cases b <;> simp_all
      subst hb0
      refine hb.mono fun m hm n => ?_
      show laws_eqInt64SS.l0 _ _ _ _ _ _ = _
      rw [laws_eqInt64SS.l0_succ _ mk_ok, decide_eq_true (show (k : Int) < x.length by omega), cond_true, idx_lt h, idx_lt h']
      simp only [Option.bind_some, callT_of hm, Bool.not_false, Bool.not_true, cond_true, cond_false])
      (fun k h h' he => by
      obtain ⟨b, hb, hbe⟩ := eqInt64S_ret x[k] y[k] (hx.2 _ (List.getElem_mem h))
      have hb0 : b = true := by cases b <;> simp_all
      subst hb0
      refine hb.mono fun m hm n => ?_
      show laws_eqInt64SS.l0 _ _ _ _ _ _ = _
      rw [laws_eqInt64SS.l0_succ _ mk_ok, decide_eq_true (show (k : Int) < x.length by omega), cond_true, idx_lt h, idx_lt h']
      simp only [Option.bind_some, callT_of hm, Bool.not_false, Bool.not_true, cond_true, cond_false]
      rw [w64_succ (by omega)])
      (Evt.of fun m n => by
      show laws_eqInt64SS.l0 _ _ _ _ _ _ = _
      rw [laws_eqInt64SS.l0_succ _ mk_ok, decide_eq_false (by omega), cond_false])
    by_cases he : x = y
    · refine ⟨true, Evt.succ ((h1 (by subst he; intros; rfl)).mono fun n h => ?_), by simp [he]⟩
      rw [run_laws_eqInt64SS, laws_eqInt64SS.ev, hd, cond_false]
      exact h
    · refine ⟨false, Evt.succ ((h2 fun hh => he (List.ext_getElem hl hh)).mono fun n h => ?_), by simp [he]⟩
      rw [run_laws_eqInt64SS, laws_eqInt64SS.ev, hd, cond_false]
      exact h
  · have hd : ((x.length : Int) != (y.length : Int)) = true := by simp; omega
    refine ⟨false, Evt.succ (Evt.of fun n => ?_), ⟨fun h => (nomatch h), fun h => absurd (congrArg List.length h) hl⟩⟩
    rw [run_laws_eqInt64SS, laws_eqInt64SS.ev, hd, cond_true]

theorem szComplex_ret (x : ((List (List Int)) × Unit)) (l : Int) (hx : Wf (.st (.cons (.sl (.sl (.int .i64))) .nil)) x) (h0 : 0 ≤ l) (h1 : l ≤ 1048576) :
    ∃ r : Int, Ret E n_laws_szComplex [⟨(.sl (.sl (.int .i64))), x.1⟩, ⟨.int .i64, l⟩] ⟨o_laws_szComplex, (r, ())⟩ ∧ (0 ≤ r → r ≤ l ∧ Sm (.st (.cons (.sl (.sl (.int .i64))) .nil)) x) := by
  obtain ⟨r0, hr0, hs0⟩ := szInt64SS_ret x.1 l hx.1 (by omega) (by omega)
  by_cases hc0 : r0 < 0
  · refine ⟨-1, Evt.succ (hr0.mono fun n e0 => ?_), fun h => by omega⟩
    rw [run_laws_szComplex, laws_szComplex.ev]
    simp only [Option.bind_some, cond_true, cond_false, callT_of e0, decide_eq_true hc0]
  have hb0 := hs0 (by omega)
  refine ⟨r0, Evt.succ (hr0.mono fun n e0 => ?_), fun h => ⟨by omega, ?_⟩⟩
  · skip
    rw [run_laws_szComplex, laws_szComplex.ev]
    simp only [Option.bind_some, cond_true, cond_false, callT_of e0, decide_eq_false hc0]
  · exact ⟨hb0.2, trivial⟩

theorem toComplex_ret (x : ((List (List Int)) × Unit)) (hx : Sm (.st (.cons (.sl (.sl (.int .i64))) .nil)) x) : Ret E n_laws_toComplex [⟨(.sl (.sl (.int .i64))), x.1⟩] ⟨o_laws_toComplex, x⟩ := by
  have hr0 := toInt64SS_ret x.1 hx.1
  refine Evt.succ (hr0.mono fun n e0 => ?_)
  rw [run_laws_toComplex, laws_toComplex.ev]
  simp only [Option.bind_some, callT_of e0]

theorem eqComplex_ret (x y : ((List (List Int)) × Unit)) (hx : Sm (.st (.cons (.sl (.sl (.int .i64))) .nil)) x) : ∃ b : Bool, Ret E n_laws_eqComplex [⟨(.sl (.sl (.int .i64))), x.1⟩, ⟨(.sl (.sl (.int .i64))), y.1⟩] ⟨o_laws_eqComplex, (b, ())⟩ ∧ (b = true ↔ x = y) := by
  obtain ⟨b0, hr0, hb0⟩ := eqInt64SS_ret x.1 y.1 hx.1
  refine ⟨b0, Evt.succ (hr0.mono fun n e0 => ?_), ?_⟩
  · skip
    rw [run_laws_eqComplex, laws_eqComplex.ev]
    simp only [Option.bind_some, callT_of e0]
    clear hx hr0 e0 hb0
    cases b0 <;> rfl
  · obtain ⟨x0, _⟩ := x
    obtain ⟨y0, _⟩ := y
    simp only [Bool.and_eq_true, decide_eq_true_eq, hb0, Prod.mk.injEq, and_true]
    try simp only [and_assoc]

theorem szMatrix_ret (x : (Int × Int × Int × (List Int) × Unit)) (l : Int) (hx : Wf (.st (.cons (.int .i64) (.cons (.int .i64) (.cons (.int .i64) (.cons (.sl (.int .i64)) .nil))))) x) (h0 : 0 ≤ l) (h1 : l ≤ 1048576) :
    ∃ r : Int, Ret E n_laws_szMatrix [⟨(.int .i64), x.1⟩, ⟨(.int .i64), x.2.1⟩, ⟨(.int .i64), x.2.2.1⟩, ⟨(.sl (.int .i64)), x.2.2.2.1⟩, ⟨.int .i64, l⟩] ⟨o_laws_szMatrix, (r, ())⟩ ∧ (0 ≤ r → r ≤ l ∧ Sm (.st (.cons (.int .i64) (.cons (.int .i64) (.cons (.int .i64) (.cons (.sl (.int .i64)) .nil))))) x) := by
  obtain ⟨r0, hr0, hs0⟩ := szInt64S_ret x.2.2.2.1 l hx.2.2.2.1 (by omega) (by omega)
  by_cases hc0 : r0 < 0
  · refine ⟨-1, Evt.succ (hr0.mono fun n e0 => ?_), fun h => by omega⟩
    rw [run_laws_szMatrix, laws_szMatrix.ev]
    simp only [Option.bind_some, cond_true, cond_false, callT_of e0, decide_eq_true hc0]
  have hb0 := hs0 (by omega)
  refine ⟨r0, Evt.succ (hr0.mono fun n e0 => ?_), fun h => ⟨by omega, ?_⟩⟩
  · skip
    rw [run_laws_szMatrix, laws_szMatrix.ev]
    simp only [Option.bind_some, cond_true, cond_false, callT_of e0, decide_eq_false hc0]
  · exact ⟨trivial, trivial, trivial, hb0.2, trivial⟩

theorem toMatrix_ret (x : (Int × Int × Int × (List Int) × Unit)) (hx : Sm (.st (.cons (.int .i64) (.cons (.int .i64) (.cons (.int .i64) (.cons (.sl (.int .i64)) .nil))))) x) : Ret E n_laws_toMatrix [⟨(.int .i64), x.1⟩, ⟨(.int .i64), x.2.1⟩, ⟨(.int .i64), x.2.2.1⟩, ⟨(.sl (.int .i64)), x.2.2.2.1⟩] ⟨o_laws_toMatrix, x⟩ := by
  have hr0 := toInt64S_ret x.2.2.2.1 hx.2.2.2.1
  refine Evt.succ (hr0.mono fun n e0 => ?_)
  rw [run_laws_toMatrix, laws_toMatrix.ev]
  simp only [Option.bind_some, callT_of e0]

theorem eqMatrix_ret (x y : (Int × Int × Int × (List Int) × Unit)) (hx : Sm (.st (.cons (.int .i64) (.cons (.int .i64) (.cons (.int .i64) (.cons (.sl (.int .i64)) .nil))))) x) : ∃ b : Bool, Ret E n_laws_eqMatrix [⟨(.int .i64), x.1⟩, ⟨(.int .i64), x.2.1⟩, ⟨(.int .i64), x.2.2.1⟩, ⟨(.sl (.int .i64)), x.2.2.2.1⟩, ⟨(.int .i64), y.1⟩, ⟨(.int .i64), y.2.1⟩, ⟨(.int .i64), y.2.2.1⟩, ⟨(.sl (.int .i64)), y.2.2.2.1⟩] ⟨o_laws_eqMatrix, (b, ())⟩ ∧ (b = true ↔ x = y) := by
  obtain ⟨b0, hr0, hb0⟩ := eqInt64S_ret x.2.2.2.1 y.2.2.2.1 hx.2.2.2.1
  refine ⟨decide (x.1 = y.1) && decide (x.2.1 = y.2.1) && decide (x.2.2.1 = y.2.2.1) && b0, Evt.succ (hr0.mono fun n e0 => ?_), ?_⟩
  · skip
    rw [run_laws_eqMatrix, laws_eqMatrix.ev]
    simp only [Option.bind_some, callT_of e0]
    simp only [show (x.1 != y.1) = !decide (x.1 = y.1) from rfl]
    generalize decide (x.1 = y.1) = d0
    simp only [show (x.2.1 != y.2.1) = !decide (x.2.1 = y.2.1) from rfl]
    generalize decide (x.2.1 = y.2.1) = d1
    simp only [show (x.2.2.1 != y.2.2.1) = !decide (x.2.2.1 = y.2.2.1) from rfl]
    generalize decide (x.2.2.1 = y.2.2.1) = d2
    clear hx hr0 e0 hb0
    cases d0 <;> cases d1 <;> cases d2 <;> cases b0 <;> rfl
  · obtain ⟨x0, x1, x2, x3, _⟩ := x
    obtain ⟨y0, y1, y2, y3, _⟩ := y
    simp only [Bool.and_eq_true, decide_eq_true_eq, hb0, Prod.mk.injEq, and_true]
    try simp only [and_assoc]

theorem szMatrixS_ret (x : (List (Int × Int × Int × (List Int) × Unit))) (l : Int) (hx : Wf (.sl (.st (.cons (.int .i64) (.cons (.int .i64) (.cons (.int .i64) (.cons (.sl (.int .i64)) .nil)))))) x) (h0 : 0 ≤ l) (h1 : l ≤ 1048576) :
    ∃ r : Int, Ret E n_laws_szMatrixS [⟨(.sl (.st (.cons (.int .i64) (.cons (.int .i64) (.cons (.int .i64) (.cons (.sl (.int .i64)) .nil)))))), x⟩, ⟨.int .i64, l⟩] ⟨o_laws_szMatrixS, (r, ())⟩ ∧ (0 ≤ r → r ≤ l ∧ Sm (.sl (.st (.cons (.int .i64) (.cons (.int .i64) (.cons (.int .i64) (.cons (.sl (.int .i64)) .nil)))))) x) := by
  have hx1 : x.length ≤ maxLen := hx.1
  rw [maxLen_eq] at hx1
  have hw : w64 (l - x.length) = l - x.length := w64_small (by omega) (by omega)
  by_cases hc : l - (x.length : Int) < 0
  · refine ⟨-1, Evt.succ (Evt.of fun n => ?_), fun h => by omega⟩
    rw [run_laws_szMatrixS, laws_szMatrixS.ev, hw, decide_eq_true hc]; rfl
  · obtain ⟨r, hr, hs⟩ := sz_loop (xs := x) (L := fun m n i left => laws_szMatrixS.l0 (mkR (run E m)) m n x left i) (ret := fun r => some ⟨o_laws_szMatrixS, (r, ())⟩) (fun x => Sm (.st (.cons (.int .i64) (.cons (.int .i64) (.cons (.int .i64) (.cons (.sl (.int .i64)) .nil))))) x) (fun k left hk hl0 hl1 => by
      obtain ⟨r, hr, hs⟩ := szMatrix_ret x[k] left (hx.2 _ (List.getElem_mem hk)) hl0 hl1
      refine ⟨r, hs, hr.mono fun m h n => ?_⟩
      show laws_szMatrixS.l0 _ _ _ _ _ _ = _
      rw [laws_szMatrixS.l0_succ _ mk_ok, decide_eq_true (show (k : Int) < x.length by omega), cond_true, idx_lt hk]
      simp only [Option.bind_some, callT_of h]
      rw [w64_succ (by omega)]) (fun left => Evt.of fun m n => by
      show laws_szMatrixS.l0 _ _ _ _ _ _ = _
      rw [laws_szMatrixS.l0_succ _ mk_ok, decide_eq_false (by omega), cond_false]) (l - x.length) (by omega) (by omega)
    refine ⟨r, Evt.succ (hr.mono fun n h => ?_), fun h => ⟨by have := (hs h).1; omega, by omega, (hs h).2⟩⟩
    rw [run_laws_szMatrixS, laws_szMatrixS.ev, hw, decide_eq_false hc]
    exact h

theorem toMatrixS_ret (x : (List (Int × Int × Int × (List Int) × Unit))) (hx : Sm (.sl (.st (.cons (.int .i64) (.cons (.int .i64) (.cons (.int .i64) (.cons (.sl (.int .i64)) .nil)))))) x) : Ret E n_laws_toMatrixS [⟨(.sl (.st (.cons (.int .i64) (.cons (.int .i64) (.cons (.int .i64) (.cons (.sl (.int .i64)) .nil)))))), x⟩] ⟨o_laws_toMatrixS, (x, ())⟩ := by
  have hx1 : x.length ≤ 1048576 := hx.1
  have hl := fill_loop (a := x) (L := fun m n i o => laws_toMatrixS.l0 (mkR (run E m)) m n x i o) (z := List.replicate (Int.toNat (List.length x : Int)) ((0 : Int), (0 : Int), (0 : Int), ([] : List Int), ())) (r := some ⟨o_laws_toMatrixS, (x, ())⟩) (by simp) (fun k o hk ho => by
      have hr := toMatrix_ret x[k] (hx.2 _ (List.getElem_mem hk))
      refine hr.mono fun m h n => ?_
      show laws_toMatrixS.l0 _ _ _ _ _ _ = _
      rw [laws_toMatrixS.l0_succ _ mk_ok, decide_eq_true (show (k : Int) < x.length by omega), cond_true, idx_lt hk]
      simp only [Option.bind_some, callT_of h]
      rw [chk_true (by simp; omega), w64_succ (by omega), Int.toNat_natCast]) (Evt.of fun m n => by
      show laws_toMatrixS.l0 _ _ _ _ _ _ = _
      rw [laws_toMatrixS.l0_succ _ mk_ok, decide_eq_false (by omega), cond_false])
  refine Evt.succ (hl.mono fun n h => ?_)
  rw [run_laws_toMatrixS, laws_toMatrixS.ev, chk_true (by simp; omega)]
  exact h

theorem eqMatrixS_ret (x y : (List (Int × Int × Int × (List Int) × Unit))) (hx : Sm (.sl (.st (.cons (.int .i64) (.cons (.int .i64) (.cons (.int .i64) (.cons (.sl (.int .i64)) .nil)))))) x) : ∃ b : Bool, Ret E n_laws_eqMatrixS [⟨(.sl (.st (.cons (.int .i64) (.cons (.int .i64) (.cons (.int .i64) (.cons (.sl (.int .i64)) .nil)))))), x⟩, ⟨(.sl (.st (.cons (.int .i64) (.cons (.int .i64) (.cons (.int .i64) (.cons (.sl (.int .i64)) .nil)))))), y⟩] ⟨o_laws_eqMatrixS, (b, ())⟩ ∧ (b = true ↔ x = y) := by
  have hx1 : x.length ≤ 1048576 := hx.1
  by_cases hl : x.length = y.length
  · have hd : ((x.length : Int) != (y.length : Int)) = false := by simp [hl]
    obtain ⟨h1, h2⟩ := same_loop (a := x) (b := y) (L := fun m n i (_ : Unit) => laws_eqMatrixS.l0 (mkR (run E m)) m n x y i) (fun u v => u = v) (rt := some ⟨o_laws_eqMatrixS, (true, ())⟩) (rf := some ⟨o_laws_eqMatrixS, (false, ())⟩) hl.symm
      (fun k h h' hne => by
      obtain ⟨b, hb, hbe⟩ := eqMatrix_ret x[k] y[k] (hx.2 _ (List.getElem_mem h))
      have hb0 : b = false := by cases b <;> simp_all
      subst hb0
      refine hb.mono fun m hm n => ?_
      show laws_eqMatrixS.l0 _ _ _ _ _ _ = _
      rw [laws_eqMatrixS.l0_succ _ mk_ok, decide_eq_true (show (k : Int) < x.length by omega), cond_true, idx_lt h, idx_lt h']
      simp only [Option.bind_some, callT_of hm, Bool.not_false, Bool.not_true, cond_true, cond_false])
      (fun k h h' he => by
      obtain ⟨b, hb, hbe⟩ := eqMatrix_ret x[k] y[k] (hx.2 _ (List.getElem_mem h))
      have hb0 : b = true := by cases b <;> simp_all
      subst hb0
      refine hb.mono fun m hm n => ?_
      show laws_eqMatrixS.l0 _ _ _ _ _ _ = _
      rw [laws_eqMatrixS.l0_succ _ mk_ok, decide_eq_true (show (k : Int) < x.length by omega), cond_true, idx_lt h, idx_lt h']
      simp only [Option.bind_some, callT_of hm, Bool.not_false, Bool.not_true, cond_true, cond_false]
      rw [w64_succ (by omega)])
      (Evt.of fun m n => by
      show laws_eqMatrixS.l0 _ _ _ _ _ _ = _
      rw [laws_eqMatrixS.l0_succ _ mk_ok, decide_eq_false (by omega), cond_false])
    by_cases he : x = y
    · refine ⟨true, Evt.succ ((h1 (by subst he; intros; rfl)).mono fun n h => ?_), by simp [he]⟩
      rw [run_laws_eqMatrixS, laws_eqMatrixS.ev, hd, cond_false]
      exact h
    · refine ⟨false, Evt.succ ((h2 fun hh => he (List.ext_getElem hl hh)).mono fun n h => ?_), by simp [he]⟩
      rw [run_laws_eqMatrixS, laws_eqMatrixS.ev, hd, cond_false]
      exact h
  · have hd : ((x.length : Int) != (y.length : Int)) = true := by simp; omega
    refine ⟨false, Evt.succ (Evt.of fun n => ?_), ⟨fun h => (nomatch h), fun h => absurd (congrArg List.length h) hl⟩⟩
    rw [run_laws_eqMatrixS, laws_eqMatrixS.ev, hd, cond_true]

theorem szSheaf_ret (x : ((List (List Int)) × Int × (List Int) × (List (Int × Int × Int × (List Int) × Unit)) × Unit)) (l : Int) (hx : Wf (.st (.cons (.sl (.sl (.int .i64))) (.cons (.int .i64) (.cons (.sl (.int .i64)) (.cons (.sl (.st (.cons (.int .i64) (.cons (.int .i64) (.cons (.int .i64) (.cons (.sl (.int .i64)) .nil)))))) .nil))))) x) (h0 : 0 ≤ l) (h1 : l ≤ 1048576) :
    ∃ r : Int, Ret E n_laws_szSheaf [⟨(.sl (.sl (.int .i64))), x.1⟩, ⟨(.int .i64), x.2.1⟩, ⟨(.sl (.int .i64)), x.2.2.1⟩, ⟨(.sl (.st (.cons (.int .i64) (.cons (.int .i64) (.cons (.int .i64) (.cons (.sl (.int .i64)) .nil)))))), x.2.2.2.1⟩, ⟨.int .i64, l⟩] ⟨o_laws_szSheaf, (r, ())⟩ ∧ (0 ≤ r → r ≤ l ∧ Sm (.st (.cons (.sl (.sl (.int .i64))) (.cons (.int .i64) (.cons (.sl (.int .i64)) (.cons (.sl (.st (.cons (.int .i64) (.cons (.int .i64) (.cons (.int .i64) (.cons (.sl (.int .i64)) .nil)))))) .nil))))) x) := by
  obtain ⟨r0, hr0, hs0⟩ := szComplex_ret (x.1, ()) l ⟨hx.1, trivial⟩ (by omega) (by omega)
  by_cases hc0 : r0 < 0
  · refine ⟨-1, Evt.succ (hr0.mono fun n e0 => ?_), fun h => by omega⟩
    rw [run_laws_szSheaf, laws_szSheaf.ev]
    simp only [Option.bind_some, cond_true, cond_false, callT_of e0, decide_eq_true hc0]
  have hb0 := hs0 (by omega)
  obtain ⟨r1, hr1, hs1⟩ := szInt64S_ret x.2.2.1 r0 hx.2.2.1 (by omega) (by omega)
  by_cases hc1 : r1 < 0
  · refine ⟨-1, Evt.succ ((hr0.and hr1).mono fun n hh => ?_), fun h => by omega⟩
    obtain ⟨e0, e1⟩ := hh
    rw [run_laws_szSheaf, laws_szSheaf.ev]
    simp only [Option.bind_some, cond_true, cond_false, callT_of e0, callT_of e1, decide_eq_false hc0, decide_eq_true hc1]
  have hb1 := hs1 (by omega)
  obtain ⟨r2, hr2, hs2⟩ := szMatrixS_ret x.2.2.2.1 r1 hx.2.2.2.1 (by omega) (by omega)
  by_cases hc2 : r2 < 0
  · refine ⟨-1, Evt.succ (((hr0.and hr1).and hr2).mono fun n hh => ?_), fun h => by omega⟩
    obtain ⟨⟨e0, e1⟩, e2⟩ := hh
    rw [run_laws_szSheaf, laws_szSheaf.ev]
    simp only [Option.bind_some, cond_true, cond_false, callT_of e0, callT_of e1, callT_of e2, decide_eq_false hc0, decide_eq_false hc1, decide_eq_true hc2]
  have hb2 := hs2 (by omega)
  refine ⟨r2, Evt.succ (((hr0.and hr1).and hr2).mono fun n hh => ?_), fun h => ⟨by omega, ?_⟩⟩
  · obtain ⟨⟨e0, e1⟩, e2⟩ := hh
    rw [run_laws_szSheaf, laws_szSheaf.ev]
    simp only [Option.bind_some, cond_true, cond_false, callT_of e0, callT_of e1, callT_of e2, decide_eq_false hc0, decide_eq_false hc1, decide_eq_false hc2]
  · exact ⟨hb0.2.1, trivial, hb1.2, hb2.2, trivial⟩

theorem toSheaf_ret (x : ((List (List Int)) × Int × (List Int) × (List (Int × Int × Int × (List Int) × Unit)) × Unit)) (hx : Sm (.st (.cons (.sl (.sl (.int .i64))) (.cons (.int .i64) (.cons (.sl (.int .i64)) (.cons (.sl (.st (.cons (.int .i64) (.cons (.int .i64) (.cons (.int .i64) (.cons (.sl (.int .i64)) .nil)))))) .nil))))) x) : Ret E n_laws_toSheaf [⟨(.sl (.sl (.int .i64))), x.1⟩, ⟨(.int .i64), x.2.1⟩, ⟨(.sl (.int .i64)), x.2.2.1⟩, ⟨(.sl (.st (.cons (.int .i64) (.cons (.int .i64) (.cons (.int .i64) (.cons (.sl (.int .i64)) .nil)))))), x.2.2.2.1⟩] ⟨o_laws_toSheaf, x⟩ := by
  have hr0 := toComplex_ret (x.1, ()) ⟨hx.1, trivial⟩
  have hr1 := toInt64S_ret x.2.2.1 hx.2.2.1
  have hr2 := toMatrixS_ret x.2.2.2.1 hx.2.2.2.1
  refine Evt.succ (((hr0.and hr1).and hr2).mono fun n hh => ?_)
  obtain ⟨⟨e0, e1⟩, e2⟩ := hh
  rw [run_laws_toSheaf, laws_toSheaf.ev]
  simp only [Option.bind_some, callT_of e0, callT_of e1, callT_of e2]

theorem eqSheaf_ret (x y : ((List (List Int)) × Int × (List Int) × (List (Int × Int × Int × (List Int) × Unit)) × Unit)) (hx : Sm (.st (.cons (.sl (.sl (.int .i64))) (.cons (.int .i64) (.cons (.sl (.int .i64)) (.cons (.sl (.st (.cons (.int .i64) (.cons (.int .i64) (.cons (.int .i64) (.cons (.sl (.int .i64)) .nil)))))) .nil))))) x) : ∃ b : Bool, Ret E n_laws_eqSheaf [⟨(.sl (.sl (.int .i64))), x.1⟩, ⟨(.int .i64), x.2.1⟩, ⟨(.sl (.int .i64)), x.2.2.1⟩, ⟨(.sl (.st (.cons (.int .i64) (.cons (.int .i64) (.cons (.int .i64) (.cons (.sl (.int .i64)) .nil)))))), x.2.2.2.1⟩, ⟨(.sl (.sl (.int .i64))), y.1⟩, ⟨(.int .i64), y.2.1⟩, ⟨(.sl (.int .i64)), y.2.2.1⟩, ⟨(.sl (.st (.cons (.int .i64) (.cons (.int .i64) (.cons (.int .i64) (.cons (.sl (.int .i64)) .nil)))))), y.2.2.2.1⟩] ⟨o_laws_eqSheaf, (b, ())⟩ ∧ (b = true ↔ x = y) := by
  obtain ⟨b0, hr0, hb0⟩ := eqComplex_ret (x.1, ()) (y.1, ()) ⟨hx.1, trivial⟩
  obtain ⟨b1, hr1, hb1⟩ := eqInt64S_ret x.2.2.1 y.2.2.1 hx.2.2.1
  obtain ⟨b2, hr2, hb2⟩ := eqMatrixS_ret x.2.2.2.1 y.2.2.2.1 hx.2.2.2.1
  refine ⟨b0 && decide (x.2.1 = y.2.1) && b1 && b2, Evt.succ (((hr0.and hr1).and hr2).mono fun n hh => ?_), ?_⟩
  · obtain ⟨⟨e0, e1⟩, e2⟩ := hh
    rw [run_laws_eqSheaf, laws_eqSheaf.ev]
    simp only [Option.bind_some, callT_of e0, callT_of e1, callT_of e2]
    simp only [show (x.2.1 != y.2.1) = !decide (x.2.1 = y.2.1) from rfl]
    generalize decide (x.2.1 = y.2.1) = d1
    clear hx hr0 e0 hb0 hr1 e1 hb1 hr2 e2 hb2
    cases b0 <;> cases d1 <;> cases b1 <;> cases b2 <;> rfl
  · obtain ⟨x0, x1, x2, x3, _⟩ := x
    obtain ⟨y0, y1, y2, y3, _⟩ := y
    simp only [Bool.and_eq_true, decide_eq_true_eq, hb0, hb1, hb2, Prod.mk.injEq, and_true]
    try simp only [and_assoc]

end VeT

open Go Go.Proofs Ve
set_option linter.unusedVariables false
set_option linter.unusedSimpArgs false
namespace VeT

theorem equal_ret (x y : (List Int)) (hx : Sm (.sl (.int .i64)) x) : ∃ b : Bool, Ret E n_slices_Equal_Sint64_int64 [⟨(.sl (.int .i64)), x⟩, ⟨(.sl (.int .i64)), y⟩] ⟨o_slices_Equal_Sint64_int64, (b, ())⟩ ∧ (b = true ↔ x = y) := by
  have hx1 : x.length ≤ 1048576 := hx.1
  by_cases hl : x.length = y.length
  · have hd : ((x.length : Int) != (y.length : Int)) = false := by simp [hl]
    obtain ⟨h1, h2⟩ := same_loop (a := x) (b := y) (L := fun m n i (_ : Unit) => slices_Equal_Sint64_int64.l0 (mkR (run E m)) m n x y (x.length:Int) i) (fun u v => u = v) (rt := some ⟨o_slices_Equal_Sint64_int64, (true, ())⟩) (rf := some ⟨o_slices_Equal_Sint64_int64, (false, ())⟩) hl.symm
      (fun k h h' hne => Evt.of fun m n => by
      show slices_Equal_Sint64_int64.l0 _ _ _ _ _ _ _ = _
      rw [slices_Equal_Sint64_int64.l0_succ _ mk_ok, decide_eq_true (show (k : Int) < x.length by omega), cond_true, idx_lt h, idx_lt h']
      have : (x[k] != y[k]) = true := by simpa using hne
      simp only [Option.bind_some, this, cond_true, cond_false])
      (fun k h h' he => Evt.of fun m n => by
      show slices_Equal_Sint64_int64.l0 _ _ _ _ _ _ _ = _
      rw [slices_Equal_Sint64_int64.l0_succ _ mk_ok, decide_eq_true (show (k : Int) < x.length by omega), cond_true, idx_lt h, idx_lt h']
      have : (x[k] != y[k]) = false := by simpa using he
      simp only [Option.bind_some, this, cond_true, cond_false]
      rw [w64_succ (by omega)])
      (Evt.of fun m n => by
      show slices_Equal_Sint64_int64.l0 _ _ _ _ _ _ _ = _
      rw [slices_Equal_Sint64_int64.l0_succ _ mk_ok, decide_eq_false (by omega), cond_false])
    by_cases he : x = y
    · refine ⟨true, Evt.succ ((h1 (by subst he; intros; rfl)).mono fun n h => ?_), by simp [he]⟩
      rw [run_slices_Equal_Sint64_int64, slices_Equal_Sint64_int64.ev, hd, cond_false]
      exact h
    · refine ⟨false, Evt.succ ((h2 fun hh => he (List.ext_getElem hl hh)).mono fun n h => ?_), by simp [he]⟩
      rw [run_slices_Equal_Sint64_int64, slices_Equal_Sint64_int64.ev, hd, cond_false]
      exact h
  · have hd : ((x.length : Int) != (y.length : Int)) = true := by simp; omega
    refine ⟨false, Evt.succ (Evt.of fun n => ?_), ⟨fun h => (nomatch h), fun h => absurd (congrArg List.length h) hl⟩⟩
    rw [run_slices_Equal_Sint64_int64, slices_Equal_Sint64_int64.ev, hd, cond_true]

theorem equalFuncLL_ret (x y : (List (List Int))) (hx : Sm (.sl (.sl (.int .i64))) x) : ∃ b : Bool, Ret E n_slices_EqualFunc_SSint64_SSint64_Sint64_Sint64 [⟨(.sl (.sl (.int .i64))), x⟩, ⟨(.sl (.sl (.int .i64))), y⟩, ⟨(.fn n_slices_Equal_Sint64_int64 .nil), ()⟩] ⟨o_slices_EqualFunc_SSint64_SSint64_Sint64_Sint64, (b, ())⟩ ∧ (b = true ↔ x = y) := by
  have hx1 : x.length ≤ 1048576 := hx.1
  by_cases hl : x.length = y.length
  · have hd : ((x.length : Int) != (y.length : Int)) = false := by simp [hl]
    obtain ⟨h1, h2⟩ := same_loop (a := x) (b := y) (L := fun m n i (_ : Unit) => slices_EqualFunc_SSint64_SSint64_Sint64_Sint64_slices_Equal_Sint64_int64.l0 (mkR (run E m)) m n y x (x.length:Int) i) (fun u v => u = v) (rt := some ⟨o_slices_EqualFunc_SSint64_SSint64_Sint64_Sint64, (true, ())⟩) (rf := some ⟨o_slices_EqualFunc_SSint64_SSint64_Sint64_Sint64, (false, ())⟩) hl.symm
      (fun k h h' hne => by
      obtain ⟨b, hb, hbe⟩ := equal_ret x[k] y[k] (hx.2 _ (List.getElem_mem h))
      have hb0 : b = false := by cases b <;> simp_all
      subst hb0
      refine hb.mono fun m hm n => ?_
      show slices_EqualFunc_SSint64_SSint64_Sint64_Sint64_slices_Equal_Sint64_int64.l0 _ _ _ _ _ _ _ = _
      rw [slices_EqualFunc_SSint64_SSint64_Sint64_Sint64_slices_Equal_Sint64_int64.l0_succ _ mk_ok, decide_eq_true (show (k : Int) < x.length by omega), cond_true, idx_lt h, idx_lt h']
      simp only [Option.bind_some, callT_of hm, Bool.not_false, Bool.not_true, cond_true, cond_false])
      (fun k h h' he => by
      obtain ⟨b, hb, hbe⟩ := equal_ret x[k] y[k] (hx.2 _ (List.getElem_mem h))
      have hb0 : b = true := by cases b <;> simp_all
      subst hb0
      refine hb.mono fun m hm n => ?_
      show slices_EqualFunc_SSint64_SSint64_Sint64_Sint64_slices_Equal_Sint64_int64.l0 _ _ _ _ _ _ _ = _
      rw [slices_EqualFunc_SSint64_SSint64_Sint64_Sint64_slices_Equal_Sint64_int64.l0_succ _ mk_ok, decide_eq_true (show (k : Int) < x.length by omega), cond_true, idx_lt h, idx_lt h']
      simp only [Option.bind_some, callT_of hm, Bool.not_false, Bool.not_true, cond_true, cond_false]
      rw [w64_succ (by omega)])
      (Evt.of fun m n => by
      show slices_EqualFunc_SSint64_SSint64_Sint64_Sint64_slices_Equal_Sint64_int64.l0 _ _ _ _ _ _ _ = _
      rw [slices_EqualFunc_SSint64_SSint64_Sint64_Sint64_slices_Equal_Sint64_int64.l0_succ _ mk_ok, decide_eq_false (by omega), cond_false])
    by_cases he : x = y
    · refine ⟨true, Evt.succ ((h1 (by subst he; intros; rfl)).mono fun n h => ?_), by simp [he]⟩
      rw [run_slices_EqualFunc_SSint64_SSint64_Sint64_Sint64, slices_EqualFunc_SSint64_SSint64_Sint64_Sint64_slices_Equal_Sint64_int64.ev, hd, cond_false]
      exact h
    · refine ⟨false, Evt.succ ((h2 fun hh => he (List.ext_getElem hl hh)).mono fun n h => ?_), by simp [he]⟩
      rw [run_slices_EqualFunc_SSint64_SSint64_Sint64_Sint64, slices_EqualFunc_SSint64_SSint64_Sint64_Sint64_slices_Equal_Sint64_int64.ev, hd, cond_false]
      exact h
  · have hd : ((x.length : Int) != (y.length : Int)) = true := by simp; omega
    refine ⟨false, Evt.succ (Evt.of fun n => ?_), ⟨fun h => (nomatch h), fun h => absurd (congrArg List.length h) hl⟩⟩
    rw [run_slices_EqualFunc_SSint64_SSint64_Sint64_Sint64, slices_EqualFunc_SSint64_SSint64_Sint64_Sint64_slices_Equal_Sint64_int64.ev, hd, cond_true]

theorem l00Same_ret (x y : (List Int)) (hx : Sm (.sl (.int .i64)) x) : ∃ b : Bool, Ret E n_spec_l00Same [⟨(.sl (.int .i64)), x⟩, ⟨(.sl (.int .i64)), y⟩] ⟨o_spec_l00Same, (b, ())⟩ ∧ (b = true ↔ x = y) := by
  have hx1 : x.length ≤ 1048576 := hx.1
  by_cases hl : x.length = y.length
  · have hd : ((x.length : Int) != (y.length : Int)) = false := by simp [hl]
    obtain ⟨h1, h2⟩ := same_loop (a := x) (b := y) (L := fun m n i (_ : Unit) => spec_l00Same.l0 (mkR (run E m)) m n x y i) (fun u v => u = v) (rt := some ⟨o_spec_l00Same, (true, ())⟩) (rf := some ⟨o_spec_l00Same, (false, ())⟩) hl.symm
      (fun k h h' hne => Evt.of fun m n => by
      show spec_l00Same.l0 _ _ _ _ _ _ = _
      rw [spec_l00Same.l0_succ _ mk_ok, decide_eq_true (show (k : Int) < x.length by omega), cond_true, idx_lt h, idx_lt h']
      have : (x[k] != y[k]) = true := by simpa using hne
      simp only [Option.bind_some, this, cond_true, cond_false])
      (fun k h h' he => Evt.of fun m n => by
      show spec_l00Same.l0 _ _ _ _ _ _ = _
      rw [spec_l00Same.l0_succ _ mk_ok, decide_eq_true (show (k : Int) < x.length by omega), cond_true, idx_lt h, idx_lt h']
      have : (x[k] != y[k]) = false := by simpa using he
      simp only [Option.bind_some, this, cond_true, cond_false]
      rw [w64_succ (by omega)])
      (Evt.of fun m n => by
      show spec_l00Same.l0 _ _ _ _ _ _ = _
      rw [spec_l00Same.l0_succ _ mk_ok, decide_eq_false (by omega), cond_false])
    by_cases he : x = y
    · refine ⟨true, Evt.succ ((h1 (by subst he; intros; rfl)).mono fun n h => ?_), by simp [he]⟩
      rw [run_spec_l00Same, spec_l00Same.ev, hd, cond_false]
      exact h
    · refine ⟨false, Evt.succ ((h2 fun hh => he (List.ext_getElem hl hh)).mono fun n h => ?_), by simp [he]⟩
      rw [run_spec_l00Same, spec_l00Same.ev, hd, cond_false]
      exact h
  · have hd : ((x.length : Int) != (y.length : Int)) = true := by simp; omega
    refine ⟨false, Evt.succ (Evt.of fun n => ?_), ⟨fun h => (nomatch h), fun h => absurd (congrArg List.length h) hl⟩⟩
    rw [run_spec_l00Same, spec_l00Same.ev, hd, cond_true]

end VeT

open Go Go.Proofs Ve
set_option linter.unusedVariables false
set_option linter.unusedSimpArgs false
namespace VeT
abbrev cM : Ty := .cons (.int .i64) (.cons (.int .i64) (.cons (.int .i64) (.cons (.sl (.int .i64)) .nil)))
abbrev cC : Ty := .cons (.sl (.sl (.int .i64))) .nil
abbrev cS : Ty := .cons (.sl (.sl (.int .i64))) (.cons (.int .i64) (.cons (.sl (.int .i64)) (.cons (.sl (.st cM)) .nil)))
abbrev Mat := Int × Int × Int × List Int × Unit
abbrev Cpx := List (List Int) × Unit
abbrev Shf := List (List Int) × Int × List Int × List Mat × Unit

theorem bne_dec (a b : Int) : (a != b) = !decide (a = b) := rfl
theorem beq_dec (a b : Int) : (a == b) = decide (a = b) := rfl

theorem len_eq {α : Type} {x y : List α} (h : ((x.length : Int) != (y.length : Int)) = false) : x.length = y.length := by
  have h2 : (x.length : Int) = (y.length : Int) := by simpa using h
  omega

/-! ### the reference -/
theorem l05Same_ret (x y : Cpx) (hx : Sm (.st cC) x) : ∃ b : Bool, Ret E n_spec_l05Same [⟨.ptr cC, x⟩, ⟨.ptr cC, y⟩] ⟨o_spec_l05Same, (b, ())⟩ ∧ (b = true ↔ x = y) := by
  obtain ⟨x, ⟨⟩⟩ := x
  obtain ⟨y, ⟨⟩⟩ := y
  have hx' : Sm (.sl (.sl (.int .i64))) x := hx.1
  have hx1 : x.length ≤ 1048576 := hx'.1
  by_cases hl : x.length = y.length
  · have hd : ((x.length : Int) != (y.length : Int)) = false := by simp [hl]
    have stepb : ∀ k (h : k < x.length) (h' : k < y.length), ∃ b : Bool, (Evt fun m => ∀ n, spec_l05Same.l0 (mkR (run E m)) m (n + 1) (x, ()) (y, ()) (k : Int) = bif !b then some ⟨o_spec_l05Same, (false, ())⟩ else spec_l05Same.l0 (mkR (run E m)) m n (x, ()) (y, ()) ((k + 1 : Nat) : Int)) ∧ (b = true ↔ x[k] = y[k]) := by
      intro k h h'
      obtain ⟨b, hb, hbe⟩ := l00Same_ret x[k] y[k] (hx'.2 _ (List.getElem_mem h))
      refine ⟨b, hb.mono fun m hm n => ?_, hbe⟩
      rw [spec_l05Same.l0_succ _ mk_ok, decide_eq_true (show (k : Int) < x.length by omega), cond_true, idx_lt h, idx_lt h']
      simp only [Option.bind_some, callT_of hm]
      rw [w64_succ (by omega)]
    obtain ⟨h1, h2⟩ := same_loop (a := x) (b := y) (L := fun m n i (_ : Unit) => spec_l05Same.l0 (mkR (run E m)) m n (x, ()) (y, ()) i) (fun u v => u = v) (rt := some ⟨o_spec_l05Same, (true, ())⟩) (rf := some ⟨o_spec_l05Same, (false, ())⟩) hl.symm
      (fun k h h' hne => by
        obtain ⟨b, hb, hbe⟩ := stepb k h h'
        have : b = false := by cases b <;> simp_all
        subst this
        exact hb)
      (fun k h h' he => by
        obtain ⟨b, hb, hbe⟩ := stepb k h h'
        have : b = true := by cases b <;> simp_all
        subst this
        exact hb)
      (Evt.of fun m n => by
        show spec_l05Same.l0 _ _ _ _ _ _ = _
        rw [spec_l05Same.l0_succ _ mk_ok, decide_eq_false (by show ¬ ((x.length : Int) < (x.length : Int)); omega), cond_false])
    by_cases he : x = y
    · refine ⟨true, Evt.succ ((h1 (by subst he; intros; rfl)).mono fun n h => ?_), by simp [he]⟩
      rw [run_spec_l05Same, spec_l05Same.ev, hd, cond_false]
      exact h
    · refine ⟨false, Evt.succ ((h2 fun hh => he (List.ext_getElem hl hh)).mono fun n h => ?_), by simp [he]⟩
      rw [run_spec_l05Same, spec_l05Same.ev, hd, cond_false]
      exact h
  · have hd : ((x.length : Int) != (y.length : Int)) = true := by simp; omega
    refine ⟨false, Evt.succ (Evt.of fun n => ?_), ⟨fun h => (nomatch h), fun h => absurd (congrArg (fun z : Cpx => z.1.length) h) hl⟩⟩
    rw [run_spec_l05Same, spec_l05Same.ev, hd, cond_true]

theorem l03Same_ret (x y : Mat) (hx : Sm (.st cM) x) : ∃ b : Bool, Ret E n_spec_l03Same [⟨.ptr cM, x⟩, ⟨.ptr cM, y⟩] ⟨o_spec_l03Same, (b, ())⟩ ∧ (b = true ↔ x = y) := by
  obtain ⟨p, r, c, x, ⟨⟩⟩ := x
  obtain ⟨p', r', c', y, ⟨⟩⟩ := y
  have hx' : Sm (.sl (.int .i64)) x := hx.2.2.2.1
  have hx1 : x.length ≤ 1048576 := hx'.1
  have main : ∀ t : Bool, (t = false → x.length = y.length) → ∃ b : Bool, (Evt fun m => spec_l03Same.j0 (mkR (run E m)) m (p, r, c, x, ()) (p', r', c', y, ()) t = some ⟨o_spec_l03Same, (b, ())⟩) ∧ (b = true ↔ (t = false ∧ x = y)) := by
    intro t ht
    cases t with
    | true => exact ⟨false, Evt.of fun m => by rw [spec_l03Same.j0_eq _ mk_ok, cond_true], by simp⟩
    | false =>
      have hl := ht rfl
      obtain ⟨h1, h2⟩ := same_loop (a := x) (b := y) (L := fun m n i (_ : Unit) => spec_l03Same.l1 (mkR (run E m)) m n (p, r, c, x, ()) (p', r', c', y, ()) i) (fun u v => u = v) (rt := some ⟨o_spec_l03Same, (true, ())⟩) (rf := some ⟨o_spec_l03Same, (false, ())⟩) hl.symm
        (fun k h h' hne => Evt.of fun m n => by
          show spec_l03Same.l1 _ _ _ _ _ _ = _
          rw [spec_l03Same.l1_succ _ mk_ok, decide_eq_true (show (k : Int) < x.length by omega), cond_true, idx_lt h, idx_lt h']
          have : (x[k] != y[k]) = true := by simpa using hne
          simp only [Option.bind_some, this, cond_true])
        (fun k h h' he => Evt.of fun m n => by
          show spec_l03Same.l1 _ _ _ _ _ _ = _
          rw [spec_l03Same.l1_succ _ mk_ok, decide_eq_true (show (k : Int) < x.length by omega), cond_true, idx_lt h, idx_lt h']
          have : (x[k] != y[k]) = false := by simpa using he
          simp only [Option.bind_some, this, cond_false]
          rw [w64_succ (by omega)])
        (Evt.of fun m n => by
          show spec_l03Same.l1 _ _ _ _ _ _ = _
          rw [spec_l03Same.l1_succ _ mk_ok, decide_eq_false (by show ¬ ((x.length : Int) < (x.length : Int)); omega), cond_false])
      by_cases he : x = y
      · refine ⟨true, (h1 (by subst he; intros; rfl)).mono fun n h => ?_, by simp [he]⟩
        rw [spec_l03Same.j0_eq _ mk_ok, cond_false]; exact h
      · refine ⟨false, (h2 fun hh => he (List.ext_getElem hl hh)).mono fun n h => ?_, by simp [he]⟩
        rw [spec_l03Same.j0_eq _ mk_ok, cond_false]; exact h
  obtain ⟨b1, hb1, e1⟩ := main true (fun h => (nomatch h))
  obtain ⟨b2, hb2, e2⟩ := main ((x.length : Int) != (y.length : Int)) len_eq
  have hb1f : b1 = false := by cases b1 <;> simp_all
  subst hb1f
  refine ⟨decide (p = p') && decide (r = r') && decide (c = c') && b2, Evt.succ ((hb1.and hb2).mono fun n hh => ?_), ?_⟩
  · obtain ⟨h1, h2⟩ := hh
    rw [run_spec_l03Same, spec_l03Same.ev]
    simp only [h1, h2, bne_dec p, bne_dec r, bne_dec c]
    cases decide (p = p') <;> cases decide (r = r') <;> cases decide (c = c') <;> cases b2 <;> rfl
  · simp only [Bool.and_eq_true, decide_eq_true_eq, e2, Prod.mk.injEq, and_true, and_assoc]
    constructor
    · rintro ⟨h1, h2, h3, _, h4⟩; exact ⟨h1, h2, h3, h4⟩
    · rintro ⟨h1, h2, h3, h4⟩; exact ⟨h1, h2, h3, by simp [h4], h4⟩

theorem l09Same_ret (x y : Shf) (hx : Sm (.st cS) x) : ∃ b : Bool, Ret E n_spec_l09Same [⟨.ptr cS, x⟩, ⟨.ptr cS, y⟩] ⟨o_spec_l09Same, (b, ())⟩ ∧ (b = true ↔ x = y) := by
  obtain ⟨c, p, s, x, ⟨⟩⟩ := x
  obtain ⟨c', p', s', y, ⟨⟩⟩ := y
  have hx' : Sm (.sl (.st cM)) x := hx.2.2.2.1
  have hx1 : x.length ≤ 1048576 := hx'.1
  have main : ∀ t : Bool, (t = false → x.length = y.length) → ∃ b : Bool, (Evt fun m => spec_l09Same.j0 (mkR (run E m)) m (c, p, s, x, ()) (c', p', s', y, ()) t = some ⟨o_spec_l09Same, (b, ())⟩) ∧ (b = true ↔ (t = false ∧ x = y)) := by
    intro t ht
    cases t with
    | true => exact ⟨false, Evt.of fun m => by rw [spec_l09Same.j0_eq _ mk_ok, cond_true], by simp⟩
    | false =>
      have hl := ht rfl
      have stepb : ∀ k (h : k < x.length) (h' : k < y.length), ∃ b : Bool, (Evt fun m => ∀ n, spec_l09Same.l1 (mkR (run E m)) m (n + 1) (c, p, s, x, ()) (c', p', s', y, ()) (k : Int) = bif !b then some ⟨o_spec_l09Same, (false, ())⟩ else spec_l09Same.l1 (mkR (run E m)) m n (c, p, s, x, ()) (c', p', s', y, ()) ((k + 1 : Nat) : Int)) ∧ (b = true ↔ x[k] = y[k]) := by
        intro k h h'
        obtain ⟨b, hb, hbe⟩ := l03Same_ret x[k] y[k] (hx'.2 _ (List.getElem_mem h))
        refine ⟨b, hb.mono fun m hm n => ?_, hbe⟩
        rw [spec_l09Same.l1_succ _ mk_ok, decide_eq_true (show (k : Int) < x.length by omega), cond_true, idx_lt h, idx_lt h']
        simp only [Option.bind_some, callT_of hm]
        rw [w64_succ (by omega)]
      obtain ⟨h1, h2⟩ := same_loop (a := x) (b := y) (L := fun m n i (_ : Unit) => spec_l09Same.l1 (mkR (run E m)) m n (c, p, s, x, ()) (c', p', s', y, ()) i) (fun u v => u = v) (rt := some ⟨o_spec_l09Same, (true, ())⟩) (rf := some ⟨o_spec_l09Same, (false, ())⟩) hl.symm
        (fun k h h' hne => by
          obtain ⟨b, hb, hbe⟩ := stepb k h h'
          have : b = false := by cases b <;> simp_all
          subst this
          exact hb)
        (fun k h h' he => by
          obtain ⟨b, hb, hbe⟩ := stepb k h h'
          have : b = true := by cases b <;> simp_all
          subst this
          exact hb)
        (Evt.of fun m n => by
          show spec_l09Same.l1 _ _ _ _ _ _ = _
          rw [spec_l09Same.l1_succ _ mk_ok, decide_eq_false (by show ¬ ((x.length : Int) < (x.length : Int)); omega), cond_false])
      by_cases he : x = y
      · refine ⟨true, (h1 (by subst he; intros; rfl)).mono fun n h => ?_, by simp [he]⟩
        rw [spec_l09Same.j0_eq _ mk_ok, cond_false]; exact h
      · refine ⟨false, (h2 fun hh => he (List.ext_getElem hl hh)).mono fun n h => ?_, by simp [he]⟩
        rw [spec_l09Same.j0_eq _ mk_ok, cond_false]; exact h
  obtain ⟨b1, hb1, e1⟩ := main true (fun h => (nomatch h))
  obtain ⟨b2, hb2, e2⟩ := main ((x.length : Int) != (y.length : Int)) len_eq
  obtain ⟨b3, hb3, e3⟩ := l05Same_ret (c, ()) (c', ()) ⟨hx.1, trivial⟩
  obtain ⟨b4, hb4, e4⟩ := l00Same_ret s s' hx.2.2.1
  have hb1f : b1 = false := by cases b1 <;> simp_all
  subst hb1f
  refine ⟨b3 && decide (p = p') && b4 && b2, Evt.succ ((((hb1.and hb2).and hb3).and hb4).mono fun n hh => ?_), ?_⟩
  · obtain ⟨⟨⟨h1, h2⟩, h3⟩, h4⟩ := hh
    rw [run_spec_l09Same, spec_l09Same.ev]
    simp only [h1, h2, callT_of h3, callT_of h4, Option.bind_some, bne_dec p]
    cases decide (p = p') <;> cases b3 <;> cases b4 <;> cases b2 <;> rfl
  · simp only [Bool.and_eq_true, decide_eq_true_eq, e2, e3, e4, Prod.mk.injEq, and_true, and_assoc]
    constructor
    · rintro ⟨h1, h2, h3, _, h4⟩; exact ⟨h1, h2, h3, h4⟩
    · rintro ⟨h1, h2, h3, h4⟩; exact ⟨h1, h2, h3, by simp [h4], h4⟩

theorem specSameSheaf_ret (x y : Shf) (hx : Sm (.st cS) x) : ∃ b : Bool, Ret E n_spec_SameSheaf [⟨.sl (.sl (.int .i64)), x.1⟩, ⟨.int .i64, x.2.1⟩, ⟨.sl (.int .i64), x.2.2.1⟩, ⟨.sl (.st cM), x.2.2.2.1⟩, ⟨.sl (.sl (.int .i64)), y.1⟩, ⟨.int .i64, y.2.1⟩, ⟨.sl (.int .i64), y.2.2.1⟩, ⟨.sl (.st cM), y.2.2.2.1⟩] ⟨o_spec_SameSheaf, (b, ())⟩ ∧ (b = true ↔ x = y) := by
  obtain ⟨b, hb, e⟩ := l09Same_ret x y hx
  refine ⟨b, Evt.succ (hb.mono fun n h => ?_), e⟩
  rw [run_spec_SameSheaf, spec_SameSheaf.ev]
  simp only [callT_of h, Option.bind_some]

/-! ### the program -/
theorem areSame_ret (x y : List (List Int)) (hx : Sm (.sl (.sl (.int .i64))) x) : ∃ b : Bool, Ret E n_impl_areSame [⟨.sl (.sl (.int .i64)), x⟩, ⟨.sl (.sl (.int .i64)), y⟩] ⟨o_impl_areSame, (b, ())⟩ ∧ (b = true ↔ x = y) := by
  obtain ⟨b, hb, e⟩ := equalFuncLL_ret x y hx
  refine ⟨b, Evt.succ (hb.mono fun n h => ?_), e⟩
  rw [run_impl_areSame, impl_areSame.ev]
  simp only [callT_of h, Option.bind_some]

theorem sameComplex_ret (x y : List (List Int)) (hx : Sm (.sl (.sl (.int .i64))) x) : ∃ b : Bool, Ret E n_impl_SameComplex [⟨.sl (.sl (.int .i64)), x⟩, ⟨.sl (.sl (.int .i64)), y⟩] ⟨o_impl_SameComplex, (b, ())⟩ ∧ (b = true ↔ x = y) := by
  obtain ⟨b, hb, e⟩ := areSame_ret x y hx
  refine ⟨b, Evt.succ (hb.mono fun n h => ?_), e⟩
  rw [run_impl_SameComplex, impl_SameComplex.ev]
  simp only [callT_of h, Option.bind_some]

theorem sameMatrix_ret (x y : Mat) (hx : Sm (.st cM) x) : ∃ b : Bool, Ret E n_impl_SameMatrix [⟨.int .i64, x.1⟩, ⟨.int .i64, x.2.1⟩, ⟨.int .i64, x.2.2.1⟩, ⟨.sl (.int .i64), x.2.2.2.1⟩, ⟨.int .i64, y.1⟩, ⟨.int .i64, y.2.1⟩, ⟨.int .i64, y.2.2.1⟩, ⟨.sl (.int .i64), y.2.2.2.1⟩] ⟨o_impl_SameMatrix, (b, ())⟩ ∧ (b = true ↔ x = y) := by
  obtain ⟨p, r, c, x, ⟨⟩⟩ := x
  obtain ⟨p', r', c', y, ⟨⟩⟩ := y
  obtain ⟨b, hb, e⟩ := equal_ret x y hx.2.2.2.1
  refine ⟨decide (p = p') && decide (r = r') && decide (c = c') && b, Evt.succ (hb.mono fun n h => ?_), ?_⟩
  · rw [run_impl_SameMatrix, impl_SameMatrix.ev]
    simp only [callT_of h, Option.bind_some, beq_dec]
    cases decide (p = p') <;> cases decide (r = r') <;> cases decide (c = c') <;> rfl
  · simp only [Bool.and_eq_true, decide_eq_true_eq, e, Prod.mk.injEq, and_true, and_assoc]

end VeT

open Go Go.Proofs Ve
set_option linter.unusedVariables false
set_option linter.unusedSimpArgs false
namespace VeT

theorem equalFuncM_ret (x y : (List (Int × Int × Int × (List Int) × Unit))) (hx : Sm (.sl (.st (.cons (.int .i64) (.cons (.int .i64) (.cons (.int .i64) (.cons (.sl (.int .i64)) .nil)))))) x) : ∃ b : Bool, Ret E n_slices_EqualFunc_Simpl_Matrix_Simpl_Matrix_impl_Matrix_impl_Matrix [⟨(.sl (.st (.cons (.int .i64) (.cons (.int .i64) (.cons (.int .i64) (.cons (.sl (.int .i64)) .nil)))))), x⟩, ⟨(.sl (.st (.cons (.int .i64) (.cons (.int .i64) (.cons (.int .i64) (.cons (.sl (.int .i64)) .nil)))))), y⟩, ⟨(.fn n_impl_SameMatrix .nil), ()⟩] ⟨o_slices_EqualFunc_Simpl_Matrix_Simpl_Matrix_impl_Matrix_impl_Matrix, (b, ())⟩ ∧ (b = true ↔ x = y) := by
  have hx1 : x.length ≤ 1048576 := hx.1
  by_cases hl : x.length = y.length
  · have hd : ((x.length : Int) != (y.length : Int)) = false := by simp [hl]
    obtain ⟨h1, h2⟩ := same_loop (a := x) (b := y) (L := fun m n i (_ : Unit) => slices_EqualFunc_Simpl_Matrix_Simpl_Matrix_impl_Matrix_impl_Matrix_impl_SameMatrix.l0 (mkR (run E m)) m n y x (x.length:Int) i) (fun u v => u = v) (rt := some ⟨o_slices_EqualFunc_Simpl_Matrix_Simpl_Matrix_impl_Matrix_impl_Matrix, (true, ())⟩) (rf := some ⟨o_slices_EqualFunc_Simpl_Matrix_Simpl_Matrix_impl_Matrix_impl_Matrix, (false, ())⟩) hl.symm
      (fun k h h' hne => by
      obtain ⟨b, hb, hbe⟩ := sameMatrix_ret x[k] y[k] (hx.2 _ (List.getElem_mem h))
      have hb0 : b = false := by cases b <;> simp_all
      subst hb0
      refine hb.mono fun m hm n => ?_
      show slices_EqualFunc_Simpl_Matrix_Simpl_Matrix_impl_Matrix_impl_Matrix_impl_SameMatrix.l0 _ _ _ _ _ _ _ = _
      rw [slices_EqualFunc_Simpl_Matrix_Simpl_Matrix_impl_Matrix_impl_Matrix_impl_SameMatrix.l0_succ _ mk_ok, decide_eq_true (show (k : Int) < x.length by omega), cond_true, idx_lt h, idx_lt h']
      simp only [Option.bind_some, callT_of hm, Bool.not_false, Bool.not_true, cond_true, cond_false])
      (fun k h h' he => by
      obtain ⟨b, hb, hbe⟩ := sameMatrix_ret x[k] y[k] (hx.2 _ (List.getElem_mem h))
      have hb0 : b = true := by cases b <;> simp_all
      subst hb0
      refine hb.mono fun m hm n => ?_
      show slices_EqualFunc_Simpl_Matrix_Simpl_Matrix_impl_Matrix_impl_Matrix_impl_SameMatrix.l0 _ _ _ _ _ _ _ = _
      rw [slices_EqualFunc_Simpl_Matrix_Simpl_Matrix_impl_Matrix_impl_Matrix_impl_SameMatrix.l0_succ _ mk_ok, decide_eq_true (show (k : Int) < x.length by omega), cond_true, idx_lt h, idx_lt h']
      simp only [Option.bind_some, callT_of hm, Bool.not_false, Bool.not_true, cond_true, cond_false]
      rw [w64_succ (by omega)])
      (Evt.of fun m n => by
      show slices_EqualFunc_Simpl_Matrix_Simpl_Matrix_impl_Matrix_impl_Matrix_impl_SameMatrix.l0 _ _ _ _ _ _ _ = _
      rw [slices_EqualFunc_Simpl_Matrix_Simpl_Matrix_impl_Matrix_impl_Matrix_impl_SameMatrix.l0_succ _ mk_ok, decide_eq_false (by omega), cond_false])
    by_cases he : x = y
    · refine ⟨true, Evt.succ ((h1 (by subst he; intros; rfl)).mono fun n h => ?_), by simp [he]⟩
      rw [run_slices_EqualFunc_Simpl_Matrix_Simpl_Matrix_impl_Matrix_impl_Matrix, slices_EqualFunc_Simpl_Matrix_Simpl_Matrix_impl_Matrix_impl_Matrix_impl_SameMatrix.ev, hd, cond_false]
      exact h
    · refine ⟨false, Evt.succ ((h2 fun hh => he (List.ext_getElem hl hh)).mono fun n h => ?_), by simp [he]⟩
      rw [run_slices_EqualFunc_Simpl_Matrix_Simpl_Matrix_impl_Matrix_impl_Matrix, slices_EqualFunc_Simpl_Matrix_Simpl_Matrix_impl_Matrix_impl_Matrix_impl_SameMatrix.ev, hd, cond_false]
      exact h
  · have hd : ((x.length : Int) != (y.length : Int)) = true := by simp; omega
    refine ⟨false, Evt.succ (Evt.of fun n => ?_), ⟨fun h => (nomatch h), fun h => absurd (congrArg List.length h) hl⟩⟩
    rw [run_slices_EqualFunc_Simpl_Matrix_Simpl_Matrix_impl_Matrix_impl_Matrix, slices_EqualFunc_Simpl_Matrix_Simpl_Matrix_impl_Matrix_impl_Matrix_impl_SameMatrix.ev, hd, cond_true]

theorem implSameSheaf_ret (x y : Shf) (hx : Sm (.st cS) x) : ∃ b : Bool, Ret E n_impl_SameSheaf [⟨.sl (.sl (.int .i64)), x.1⟩, ⟨.int .i64, x.2.1⟩, ⟨.sl (.int .i64), x.2.2.1⟩, ⟨.sl (.st cM), x.2.2.2.1⟩, ⟨.sl (.sl (.int .i64)), y.1⟩, ⟨.int .i64, y.2.1⟩, ⟨.sl (.int .i64), y.2.2.1⟩, ⟨.sl (.st cM), y.2.2.2.1⟩] ⟨o_impl_SameSheaf, (b, ())⟩ ∧ (b = true ↔ x = y) := by
  obtain ⟨c, p, s, x, ⟨⟩⟩ := x
  obtain ⟨c', p', s', y, ⟨⟩⟩ := y
  obtain ⟨b1, hb1, e1⟩ := sameComplex_ret c c' hx.1
  obtain ⟨b2, hb2, e2⟩ := equal_ret s s' hx.2.2.1
  obtain ⟨b3, hb3, e3⟩ := equalFuncM_ret x y hx.2.2.2.1
  refine ⟨b1 && decide (p = p') && b2 && b3, Evt.succ (((hb1.and hb2).and hb3).mono fun n hh => ?_), ?_⟩
  · obtain ⟨⟨h1, h2⟩, h3⟩ := hh
    rw [run_impl_SameSheaf, impl_SameSheaf.ev]
    simp only [callT_of h1, callT_of h2, callT_of h3, Option.bind_some, beq_dec]
    cases decide (p = p') <;> cases b1 <;> cases b2 <;> cases b3 <;> rfl
  · simp only [Bool.and_eq_true, decide_eq_true_eq, e1, e2, e3, Prod.mk.injEq, and_true, and_assoc]

/-- the law -/
theorem law_SameSheaf (x y : Shf) (hx : Wf (.st cS) x) (hy : Wf (.st cS) y) : Ret E n_laws_FnExactSameSheaf [⟨.sl (.sl (.int .i64)), x.1⟩, ⟨.int .i64, x.2.1⟩, ⟨.sl (.int .i64), x.2.2.1⟩, ⟨.sl (.st cM), x.2.2.2.1⟩, ⟨.sl (.sl (.int .i64)), y.1⟩, ⟨.int .i64, y.2.1⟩, ⟨.sl (.int .i64), y.2.2.1⟩, ⟨.sl (.st cM), y.2.2.2.1⟩] ⟨.cons .bool .nil, (true, ())⟩ := by
  obtain ⟨r1, h1, s1⟩ := szSheaf_ret x 1048576 hx (by omega) (by omega)
  by_cases c1 : r1 < 0
  · refine Evt.succ (h1.mono fun n h1 => ?_)
    rw [run_laws_FnExactSameSheaf, laws_FnExactSameSheaf.ev]
    simp only [callT_of h1, Option.bind_some, decide_eq_true c1, cond_true]
  · obtain ⟨b1, m1⟩ := s1 (by omega)
    obtain ⟨r2, h2, s2⟩ := szSheaf_ret y r1 hy (by omega) (by omega)
    by_cases c2 : r2 < 0
    · refine Evt.succ ((h1.and h2).mono fun n hh => ?_)
      rw [run_laws_FnExactSameSheaf, laws_FnExactSameSheaf.ev]
      simp only [callT_of hh.1, callT_of hh.2, Option.bind_some, decide_eq_true c2, decide_eq_false c1, cond_true, cond_false]
    · obtain ⟨b2, m2⟩ := s2 (by omega)
      have t1 := toSheaf_ret x m1
      have t2 := toSheaf_ret y m2
      obtain ⟨u, hu, eu⟩ := specSameSheaf_ret x y m1
      obtain ⟨v, hv, ev⟩ := implSameSheaf_ret x y m1
      obtain ⟨q1, hq1, eq1⟩ := eqSheaf_ret x x m1
      obtain ⟨q2, hq2, eq2⟩ := eqSheaf_ret y y m2
      have hq1' : q1 = true := eq1.2 rfl
      have hq2' : q2 = true := eq2.2 rfl
      have huv : u = v := by rw [Bool.eq_iff_iff, eu, ev]
      subst hq1' hq2' huv
      refine Evt.succ ((((((((h1.and h2).and t1).and t2).and hu).and hv).and hq1).and hq2).mono fun n hh => ?_)
      obtain ⟨⟨⟨⟨⟨⟨⟨h1, h2⟩, t1⟩, t2⟩, hu⟩, hv⟩, hq1⟩, hq2⟩ := hh
      rw [run_laws_FnExactSameSheaf, laws_FnExactSameSheaf.ev]
      simp only [callT_of h1, callT_of h2, callT_of t1, callT_of t2, callT_of hu, callT_of hv, callT_of hq1, callT_of hq2, Option.bind_some, decide_eq_false c2, decide_eq_false c1, cond_true, cond_false, bne_self_eq_false, Bool.not_true]

theorem rowSameSheaf (z : (Ty.cons (.sl (.sl (.int .i64))) (.cons (.int .i64) (.cons (.sl (.int .i64)) (.cons (.sl (.st cM)) (.cons (.sl (.sl (.int .i64))) (.cons (.int .i64) (.cons (.sl (.int .i64)) (.cons (.sl (.st cM)) .nil)))))))).T)
    (h : Wf (.cons (.sl (.sl (.int .i64))) (.cons (.int .i64) (.cons (.sl (.int .i64)) (.cons (.sl (.st cM)) (.cons (.sl (.sl (.int .i64))) (.cons (.int .i64) (.cons (.sl (.int .i64)) (.cons (.sl (.st cM)) .nil)))))))) z) :
    Evt fun n => run E n n_laws_FnExactSameSheaf (unpack _ z) = some ⟨.cons .bool .nil, (true, ())⟩ :=
  law_SameSheaf (z.1, z.2.1, z.2.2.1, z.2.2.2.1, ()) (z.2.2.2.2.1, z.2.2.2.2.2.1, z.2.2.2.2.2.2.1, z.2.2.2.2.2.2.2.1, ()) ⟨h.1, h.2.1, h.2.2.1, h.2.2.2.1, trivial⟩ ⟨h.2.2.2.2.1, h.2.2.2.2.2.1, h.2.2.2.2.2.2.1, h.2.2.2.2.2.2.2.1, trivial⟩

end VeT
