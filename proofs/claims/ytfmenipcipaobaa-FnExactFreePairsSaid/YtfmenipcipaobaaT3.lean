import Derived.Test.YtfmenipcipaobaaV2
import Derived.Test.YtfmenipcipaobaaProg
import Derived.KernelRfl
import Derived.WalkKit
import Derived.Lib.Walk
import Derived.Lib.SliceRun
import Derived.Lib.AppendZerosOnto
set_option linter.unusedVariables false
set_option linter.unusedSimpArgs false
open Go Go.Proofs Ve
set_option linter.unusedVariables false
set_option maxRecDepth 100000
namespace VeT
noncomputable def bodyOf (f : Func) : Code := f.body.getD .skip
@[reducible] def n_laws_FnExactFreePairs : Nat := 4
@[reducible] def n_laws_szComplex : Nat := 14
@[reducible] def n_spec_FreePairs : Nat := 15
@[reducible] def n_laws_toComplex : Nat := 16
@[reducible] def n_impl_FreePairs : Nat := 17
@[reducible] def n_laws_eqInt64SS : Nat := 18
@[reducible] def n_laws_eqComplex : Nat := 19
@[reducible] def n_laws_markComplex : Nat := 20
@[reducible] def n_laws_markInt64SS : Nat := 21
@[reducible] def n_laws_heldInt64SS : Nat := 22
@[reducible] def n_laws_toInt64S : Nat := 28
@[reducible] def n_laws_eqInt64S : Nat := 30
@[reducible] def n_laws_szInt64S : Nat := 33
@[reducible] def n_laws_szInt64SS : Nat := 42
@[reducible] def n_spec_l05Ok : Nat := 43
@[reducible] def n_spec_l08Free : Nat := 44
@[reducible] def n_laws_toInt64SS : Nat := 45
@[reducible] def n_impl_ValidComplex : Nat := 46
@[reducible] def n_impl_freePairs : Nat := 47
@[reducible] def n_laws_markInt64S : Nat := 48
@[reducible] def n_laws_heldInt64S : Nat := 49
@[reducible] def n_spec_l00In : Nat := 62
@[reducible] def n_impl_within : Nat := 65
@[reducible] def n_impl_size_Sint64 : Nat := 66
@[reducible] def n_impl_indexOf : Nat := 67
@[reducible] def n_spec_l00Same : Nat := 71
@[reducible] def n_spec_l05Simplex : Nat := 76
@[reducible] def n_spec_l05Before : Nat := 77
@[reducible] def n_spec_l05Find : Nat := 78
@[reducible] def n_spec_l05Drop : Nat := 79
@[reducible] def n_spec_l05Star : Nat := 80
@[reducible] def n_impl_ValidSimplex : Nat := 81
@[reducible] def n_impl_compareSimplices : Nat := 82
@[reducible] def n_slices_ContainsFunc_SSint64_Sint64 : Nat := 83
@[reducible] def n_impl_facesOf : Nat := 84
@[reducible] def n_impl_ValidComplex_1 : Nat := 85
@[reducible] def n_impl_starOf : Nat := 86
@[reducible] def n_slices_ContainsFunc_Sint64_int64 : Nat := 92
@[reducible] def n_slices_BinarySearchFunc_SSint64_Sint64_Sint64 : Nat := 103
@[reducible] def n_slices_Index_Sint64_int64 : Nat := 104
@[reducible] def n_spec_l00Rises : Nat := 108
@[reducible] def n_spec_l00Own : Nat := 109
@[reducible] def n_spec_l05Part : Nat := 110
@[reducible] def n_impl_isRising : Nat := 111
@[reducible] def n_impl_ValidSimplex_1 : Nat := 112
@[reducible] def n_impl_isVertex : Nat := 113
@[reducible] def n_cmp_Or_int : Nat := 114
@[reducible] def n_cmp_Compare_int : Nat := 115
@[reducible] def n_slices_Compare_Sint64_int64 : Nat := 116
@[reducible] def n_slices_IndexFunc_SSint64_Sint64 : Nat := 117
@[reducible] def n_slices_Concat_Sint64_int64 : Nat := 118
@[reducible] def n_impl_isFace : Nat := 119
@[reducible] def n_slices_IndexFunc_Sint64_int64 : Nat := 124
@[reducible] def n_spec_l00Has : Nat := 132
@[reducible] def n_cmp_isNaN_int : Nat := 133
@[reducible] def n_cmp_Compare_int64 : Nat := 134
@[reducible] def n_slices_Grow_Sint64_int64 : Nat := 135
@[reducible] def n_impl_isFace_1 : Nat := 136
@[reducible] def n_slices_Contains_Sint64_int64 : Nat := 137
@[reducible] def n_cmp_isNaN_int64 : Nat := 151
@[reducible] noncomputable def F_laws_FnExactFreePairs : Func := Try.f4
@[reducible] noncomputable def F_laws_szComplex : Func := Try.f14
@[reducible] noncomputable def F_spec_FreePairs : Func := Try.f15
@[reducible] noncomputable def F_laws_toComplex : Func := Try.f16
@[reducible] noncomputable def F_impl_FreePairs : Func := Try.f17
@[reducible] noncomputable def F_laws_eqInt64SS : Func := Try.f18
@[reducible] noncomputable def F_laws_eqComplex : Func := Try.f19
@[reducible] noncomputable def F_laws_markComplex : Func := Try.f20
@[reducible] noncomputable def F_laws_markInt64SS : Func := Try.f21
@[reducible] noncomputable def F_laws_heldInt64SS : Func := Try.f22
@[reducible] noncomputable def F_laws_toInt64S : Func := Try.f28
@[reducible] noncomputable def F_laws_eqInt64S : Func := Try.f30
@[reducible] noncomputable def F_laws_szInt64S : Func := Try.f33
@[reducible] noncomputable def F_laws_szInt64SS : Func := Try.f42
@[reducible] noncomputable def F_spec_l05Ok : Func := Try.f43
@[reducible] noncomputable def F_spec_l08Free : Func := Try.f44
@[reducible] noncomputable def F_laws_toInt64SS : Func := Try.f45
@[reducible] noncomputable def F_impl_ValidComplex : Func := Try.f46
@[reducible] noncomputable def F_impl_freePairs : Func := Try.f47
@[reducible] noncomputable def F_laws_markInt64S : Func := Try.f48
@[reducible] noncomputable def F_laws_heldInt64S : Func := Try.f49
@[reducible] noncomputable def F_spec_l00In : Func := Try.f62
@[reducible] noncomputable def F_impl_within : Func := Try.f65
@[reducible] noncomputable def F_impl_size_Sint64 : Func := Try.f66
@[reducible] noncomputable def F_impl_indexOf : Func := Try.f67
@[reducible] noncomputable def F_spec_l00Same : Func := Try.f71
@[reducible] noncomputable def F_spec_l05Simplex : Func := Try.f76
@[reducible] noncomputable def F_spec_l05Before : Func := Try.f77
@[reducible] noncomputable def F_spec_l05Find : Func := Try.f78
@[reducible] noncomputable def F_spec_l05Drop : Func := Try.f79
@[reducible] noncomputable def F_spec_l05Star : Func := Try.f80
@[reducible] noncomputable def F_impl_ValidSimplex : Func := Try.f81
@[reducible] noncomputable def F_impl_compareSimplices : Func := Try.f82
@[reducible] noncomputable def F_slices_ContainsFunc_SSint64_Sint64 : Func := Try.f83
@[reducible] noncomputable def F_impl_facesOf : Func := Try.f84
@[reducible] noncomputable def F_impl_ValidComplex_1 : Func := Try.f85
@[reducible] noncomputable def F_impl_starOf : Func := Try.f86
@[reducible] noncomputable def F_slices_ContainsFunc_Sint64_int64 : Func := Try.f92
@[reducible] noncomputable def F_slices_BinarySearchFunc_SSint64_Sint64_Sint64 : Func := Try.f103
@[reducible] noncomputable def F_slices_Index_Sint64_int64 : Func := Try.f104
@[reducible] noncomputable def F_spec_l00Rises : Func := Try.f108
@[reducible] noncomputable def F_spec_l00Own : Func := Try.f109
@[reducible] noncomputable def F_spec_l05Part : Func := Try.f110
@[reducible] noncomputable def F_impl_isRising : Func := Try.f111
@[reducible] noncomputable def F_impl_ValidSimplex_1 : Func := Try.f112
@[reducible] noncomputable def F_impl_isVertex : Func := Try.f113
@[reducible] noncomputable def F_cmp_Or_int : Func := Try.f114
@[reducible] noncomputable def F_cmp_Compare_int : Func := Try.f115
@[reducible] noncomputable def F_slices_Compare_Sint64_int64 : Func := Try.f116
@[reducible] noncomputable def F_slices_IndexFunc_SSint64_Sint64 : Func := Try.f117
@[reducible] noncomputable def F_slices_Concat_Sint64_int64 : Func := Try.f118
@[reducible] noncomputable def F_impl_isFace : Func := Try.f119
@[reducible] noncomputable def F_slices_IndexFunc_Sint64_int64 : Func := Try.f124
@[reducible] noncomputable def F_spec_l00Has : Func := Try.f132
@[reducible] noncomputable def F_cmp_isNaN_int : Func := Try.f133
@[reducible] noncomputable def F_cmp_Compare_int64 : Func := Try.f134
@[reducible] noncomputable def F_slices_Grow_Sint64_int64 : Func := Try.f135
@[reducible] noncomputable def F_impl_isFace_1 : Func := Try.f136
@[reducible] noncomputable def F_slices_Contains_Sint64_int64 : Func := Try.f137
@[reducible] noncomputable def F_cmp_isNaN_int64 : Func := Try.f151
@[reducible] def o_laws_FnExactFreePairs : Ty := (.cons .bool .nil)
noncomputable def sg_laws_FnExactFreePairs : Sig := ⟨[(true, 1)], [], o_laws_FnExactFreePairs, [(false, 1)], [], []⟩
@[reducible] def o_laws_szComplex : Ty := (.cons (.int .i64) .nil)
noncomputable def sg_laws_szComplex : Sig := ⟨[(true, 1), (false, 1)], [], o_laws_szComplex, [(false, 1)], [], []⟩
@[reducible] def o_spec_FreePairs : Ty := (.cons (.sl (.sl (.int .i64))) (.cons (.int .i64) .nil))
noncomputable def sg_spec_FreePairs : Sig := ⟨[(true, 1)], [], o_spec_FreePairs, [(false, 1), (false, 1)], [.deep, .imm], []⟩
@[reducible] def o_laws_toComplex : Ty := (.cons (.sl (.sl (.int .i64))) .nil)
noncomputable def sg_laws_toComplex : Sig := ⟨[(true, 1)], [], o_laws_toComplex, [(true, 1)], [.deep], []⟩
@[reducible] def o_impl_FreePairs : Ty := (.cons (.sl (.sl (.int .i64))) (.cons (.int .i64) .nil))
noncomputable def sg_impl_FreePairs : Sig := ⟨[(true, 1)], [], o_impl_FreePairs, [(false, 1), (false, 1)], [.deep, .imm], []⟩
@[reducible] def o_laws_eqInt64SS : Ty := (.cons .bool .nil)
noncomputable def sg_laws_eqInt64SS : Sig := ⟨[(false, 1), (false, 1)], [], o_laws_eqInt64SS, [(false, 1)], [], []⟩
@[reducible] def o_laws_eqComplex : Ty := (.cons .bool .nil)
noncomputable def sg_laws_eqComplex : Sig := ⟨[(true, 1), (true, 1)], [], o_laws_eqComplex, [(false, 1)], [], []⟩
@[reducible] def o_laws_markComplex : Ty := (.cons (.int .i64) (.cons (.sl (.sl (.int .i64))) .nil))
noncomputable def sg_laws_markComplex : Sig := ⟨[(true, 1), (false, 1)], [.io true, .imm], o_laws_markComplex, [(false, 1)], [], []⟩
@[reducible] def o_laws_markInt64SS : Ty := (.cons (.int .i64) (.cons (.sl (.sl (.int .i64))) .nil))
noncomputable def sg_laws_markInt64SS : Sig := ⟨[(false, 1), (false, 1)], [.io true, .imm], o_laws_markInt64SS, [(false, 1)], [], []⟩
@[reducible] def o_laws_heldInt64SS : Ty := (.cons (.int .i64) .nil)
noncomputable def sg_laws_heldInt64SS : Sig := ⟨[(false, 1), (false, 1)], [], o_laws_heldInt64SS, [(false, 1)], [], []⟩
@[reducible] def o_laws_toInt64S : Ty := (.cons (.sl (.int .i64)) .nil)
noncomputable def sg_laws_toInt64S : Sig := ⟨[(false, 1)], [], o_laws_toInt64S, [(false, 1)], [.deep], []⟩
@[reducible] def o_laws_eqInt64S : Ty := (.cons .bool .nil)
noncomputable def sg_laws_eqInt64S : Sig := ⟨[(false, 1), (false, 1)], [], o_laws_eqInt64S, [(false, 1)], [], []⟩
@[reducible] def o_laws_szInt64S : Ty := (.cons (.int .i64) .nil)
noncomputable def sg_laws_szInt64S : Sig := ⟨[(false, 1), (false, 1)], [], o_laws_szInt64S, [(false, 1)], [], []⟩
@[reducible] def o_laws_szInt64SS : Ty := (.cons (.int .i64) .nil)
noncomputable def sg_laws_szInt64SS : Sig := ⟨[(false, 1), (false, 1)], [], o_laws_szInt64SS, [(false, 1)], [], []⟩
@[reducible] def o_spec_l05Ok : Ty := (.cons .bool .nil)
noncomputable def sg_spec_l05Ok : Sig := ⟨[(false, 1)], [], o_spec_l05Ok, [(false, 1)], [], [(.ptr (.cons (.sl (.sl (.int .i64))) .nil))]⟩
@[reducible] def o_spec_l08Free : Ty := (.cons (.sl (.sl (.int .i64))) .nil)
noncomputable def sg_spec_l08Free : Sig := ⟨[(false, 1)], [], o_spec_l08Free, [(false, 1)], [.deep], [(.ptr (.cons (.sl (.sl (.int .i64))) .nil))]⟩
@[reducible] def o_laws_toInt64SS : Ty := (.cons (.sl (.sl (.int .i64))) .nil)
noncomputable def sg_laws_toInt64SS : Sig := ⟨[(false, 1)], [], o_laws_toInt64SS, [(false, 1)], [.deep], []⟩
@[reducible] def o_impl_ValidComplex : Ty := (.cons .bool .nil)
noncomputable def sg_impl_ValidComplex : Sig := ⟨[(true, 1)], [], o_impl_ValidComplex, [(false, 1)], [], []⟩
@[reducible] def o_impl_freePairs : Ty := (.cons (.sl (.sl (.int .i64))) .nil)
noncomputable def sg_impl_freePairs : Sig := ⟨[(true, 1)], [], o_impl_freePairs, [(false, 1)], [.deep], []⟩
@[reducible] def o_laws_markInt64S : Ty := (.cons (.int .i64) (.cons (.sl (.int .i64)) .nil))
noncomputable def sg_laws_markInt64S : Sig := ⟨[(false, 1), (false, 1)], [.io true, .imm], o_laws_markInt64S, [(false, 1)], [], []⟩
@[reducible] def o_laws_heldInt64S : Ty := (.cons (.int .i64) .nil)
noncomputable def sg_laws_heldInt64S : Sig := ⟨[(false, 1), (false, 1)], [], o_laws_heldInt64S, [(false, 1)], [], []⟩
@[reducible] def o_spec_l00In : Ty := (.cons .bool .nil)
noncomputable def sg_spec_l00In : Sig := ⟨[(false, 1), (false, 1), (false, 1)], [], o_spec_l00In, [(false, 1)], [], []⟩
@[reducible] def o_impl_within : Ty := (.cons .bool .nil)
noncomputable def sg_impl_within : Sig := ⟨[(false, 1), (false, 1), (false, 1)], [], o_impl_within, [(false, 1)], [], []⟩
@[reducible] def o_impl_size_Sint64 : Ty := (.cons (.int .i64) .nil)
noncomputable def sg_impl_size_Sint64 : Sig := ⟨[(false, 1)], [], o_impl_size_Sint64, [(false, 1)], [], []⟩
@[reducible] def o_impl_indexOf : Ty := (.cons (.int .i64) .nil)
noncomputable def sg_impl_indexOf : Sig := ⟨[(true, 1), (false, 1)], [], o_impl_indexOf, [(false, 1)], [], []⟩
@[reducible] def o_spec_l00Same : Ty := (.cons .bool .nil)
noncomputable def sg_spec_l00Same : Sig := ⟨[(false, 1), (false, 1)], [], o_spec_l00Same, [(false, 1)], [], []⟩
@[reducible] def o_spec_l05Simplex : Ty := (.cons .bool .nil)
noncomputable def sg_spec_l05Simplex : Sig := ⟨[(false, 1)], [], o_spec_l05Simplex, [(false, 1)], [], []⟩
@[reducible] def o_spec_l05Before : Ty := (.cons .bool .nil)
noncomputable def sg_spec_l05Before : Sig := ⟨[(false, 1), (false, 1)], [], o_spec_l05Before, [(false, 1)], [], []⟩
@[reducible] def o_spec_l05Find : Ty := (.cons (.int .i64) .nil)
noncomputable def sg_spec_l05Find : Sig := ⟨[(false, 1), (false, 1)], [], o_spec_l05Find, [(false, 1)], [], [(.ptr (.cons (.sl (.sl (.int .i64))) .nil))]⟩
@[reducible] def o_spec_l05Drop : Ty := (.cons (.sl (.int .i64)) .nil)
noncomputable def sg_spec_l05Drop : Sig := ⟨[(false, 1), (false, 1)], [], o_spec_l05Drop, [(false, 1)], [.deep], []⟩
@[reducible] def o_spec_l05Star : Ty := (.cons (.sl (.int .i64)) .nil)
noncomputable def sg_spec_l05Star : Sig := ⟨[(false, 1), (false, 1)], [], o_spec_l05Star, [(false, 1)], [.deep], [(.ptr (.cons (.sl (.sl (.int .i64))) .nil))]⟩
@[reducible] def o_impl_ValidSimplex : Ty := (.cons .bool .nil)
noncomputable def sg_impl_ValidSimplex : Sig := ⟨[(false, 1)], [], o_impl_ValidSimplex, [(false, 1)], [], []⟩
@[reducible] def o_impl_compareSimplices : Ty := (.cons (.int .i64) .nil)
noncomputable def sg_impl_compareSimplices : Sig := ⟨[(false, 1), (false, 1)], [], o_impl_compareSimplices, [(false, 1)], [], []⟩
@[reducible] def o_slices_ContainsFunc_SSint64_Sint64 : Ty := (.cons .bool .nil)
noncomputable def sg_slices_ContainsFunc_SSint64_Sint64 : Sig := ⟨[(false, 1), (false, 1)], [], o_slices_ContainsFunc_SSint64_Sint64, [(false, 1)], [], []⟩
@[reducible] def o_impl_facesOf : Ty := (.cons (.sl (.sl (.int .i64))) .nil)
noncomputable def sg_impl_facesOf : Sig := ⟨[(false, 1)], [], o_impl_facesOf, [(false, 1)], [.deep], []⟩
@[reducible] def o_impl_ValidComplex_1 : Ty := (.cons .bool .nil)
noncomputable def sg_impl_ValidComplex_1 : Sig := ⟨[(false, 1), (false, 1), (false, 1)], [], o_impl_ValidComplex_1, [(false, 1)], [], [.nil, (.ptr (.cons (.sl (.sl (.int .i64))) .nil)), (.ptr (.cons (.int .i64) .nil))]⟩
@[reducible] def o_impl_starOf : Ty := (.cons (.sl (.int .i64)) .nil)
noncomputable def sg_impl_starOf : Sig := ⟨[(true, 1), (false, 1)], [], o_impl_starOf, [(false, 1)], [.deep], []⟩
@[reducible] def o_slices_ContainsFunc_Sint64_int64 : Ty := (.cons .bool .nil)
noncomputable def sg_slices_ContainsFunc_Sint64_int64 : Sig := ⟨[(false, 1), (false, 1)], [], o_slices_ContainsFunc_Sint64_int64, [(false, 1)], [], []⟩
@[reducible] def o_slices_BinarySearchFunc_SSint64_Sint64_Sint64 : Ty := (.cons (.int .i64) (.cons .bool .nil))
noncomputable def sg_slices_BinarySearchFunc_SSint64_Sint64_Sint64 : Sig := ⟨[(false, 1), (false, 1), (false, 1)], [], o_slices_BinarySearchFunc_SSint64_Sint64_Sint64, [(false, 1), (false, 1)], [], []⟩
@[reducible] def o_slices_Index_Sint64_int64 : Ty := (.cons (.int .i64) .nil)
noncomputable def sg_slices_Index_Sint64_int64 : Sig := ⟨[(false, 1), (false, 1)], [], o_slices_Index_Sint64_int64, [(false, 1)], [], []⟩
@[reducible] def o_spec_l00Rises : Ty := (.cons .bool .nil)
noncomputable def sg_spec_l00Rises : Sig := ⟨[(false, 1), (false, 1), (false, 1)], [], o_spec_l00Rises, [(false, 1)], [], []⟩
@[reducible] def o_spec_l00Own : Ty := (.cons (.sl (.int .i64)) .nil)
noncomputable def sg_spec_l00Own : Sig := ⟨[(false, 1)], [], o_spec_l00Own, [(false, 1)], [.deep], []⟩
@[reducible] def o_spec_l05Part : Ty := (.cons .bool .nil)
noncomputable def sg_spec_l05Part : Sig := ⟨[(false, 1), (false, 1)], [], o_spec_l05Part, [(false, 1)], [], []⟩
@[reducible] def o_impl_isRising : Ty := (.cons .bool .nil)
noncomputable def sg_impl_isRising : Sig := ⟨[(false, 1)], [], o_impl_isRising, [(false, 1)], [], []⟩
@[reducible] def o_impl_ValidSimplex_1 : Ty := (.cons .bool .nil)
noncomputable def sg_impl_ValidSimplex_1 : Sig := ⟨[(false, 1)], [], o_impl_ValidSimplex_1, [(false, 1)], [], []⟩
@[reducible] def o_impl_isVertex : Ty := (.cons .bool .nil)
noncomputable def sg_impl_isVertex : Sig := ⟨[(false, 1)], [], o_impl_isVertex, [(false, 1)], [], []⟩
@[reducible] def o_cmp_Or_int : Ty := (.cons (.int .i64) .nil)
noncomputable def sg_cmp_Or_int : Sig := ⟨[(false, 1)], [], o_cmp_Or_int, [(false, 1)], [], []⟩
@[reducible] def o_cmp_Compare_int : Ty := (.cons (.int .i64) .nil)
noncomputable def sg_cmp_Compare_int : Sig := ⟨[(false, 1), (false, 1)], [], o_cmp_Compare_int, [(false, 1)], [], []⟩
@[reducible] def o_slices_Compare_Sint64_int64 : Ty := (.cons (.int .i64) .nil)
noncomputable def sg_slices_Compare_Sint64_int64 : Sig := ⟨[(false, 1), (false, 1)], [], o_slices_Compare_Sint64_int64, [(false, 1)], [], []⟩
@[reducible] def o_slices_IndexFunc_SSint64_Sint64 : Ty := (.cons (.int .i64) .nil)
noncomputable def sg_slices_IndexFunc_SSint64_Sint64 : Sig := ⟨[(false, 1), (false, 1)], [], o_slices_IndexFunc_SSint64_Sint64, [(false, 1)], [], []⟩
@[reducible] def o_slices_Concat_Sint64_int64 : Ty := (.cons (.sl (.int .i64)) .nil)
noncomputable def sg_slices_Concat_Sint64_int64 : Sig := ⟨[(false, 1)], [], o_slices_Concat_Sint64_int64, [(false, 1)], [.deep], []⟩
@[reducible] def o_impl_isFace : Ty := (.cons .bool .nil)
noncomputable def sg_impl_isFace : Sig := ⟨[(false, 1), (false, 1)], [], o_impl_isFace, [(false, 1)], [], []⟩
@[reducible] def o_slices_IndexFunc_Sint64_int64 : Ty := (.cons (.int .i64) .nil)
noncomputable def sg_slices_IndexFunc_Sint64_int64 : Sig := ⟨[(false, 1), (false, 1)], [], o_slices_IndexFunc_Sint64_int64, [(false, 1)], [], []⟩
@[reducible] def o_spec_l00Has : Ty := (.cons .bool .nil)
noncomputable def sg_spec_l00Has : Sig := ⟨[(false, 1), (false, 1)], [], o_spec_l00Has, [(false, 1)], [], []⟩
@[reducible] def o_cmp_isNaN_int : Ty := (.cons .bool .nil)
noncomputable def sg_cmp_isNaN_int : Sig := ⟨[(false, 1)], [], o_cmp_isNaN_int, [(false, 1)], [], []⟩
@[reducible] def o_cmp_Compare_int64 : Ty := (.cons (.int .i64) .nil)
noncomputable def sg_cmp_Compare_int64 : Sig := ⟨[(false, 1), (false, 1)], [], o_cmp_Compare_int64, [(false, 1)], [], []⟩
@[reducible] def o_slices_Grow_Sint64_int64 : Ty := (.cons (.sl (.int .i64)) .nil)
noncomputable def sg_slices_Grow_Sint64_int64 : Sig := ⟨[(false, 1), (false, 1)], [.take true, .imm], o_slices_Grow_Sint64_int64, [(false, 1)], [.deep], []⟩
@[reducible] def o_impl_isFace_1 : Ty := (.cons .bool .nil)
noncomputable def sg_impl_isFace_1 : Sig := ⟨[(false, 1), (false, 1)], [], o_impl_isFace_1, [(false, 1)], [], [.nil, (.ptr (.cons (.sl (.int .i64)) .nil))]⟩
@[reducible] def o_slices_Contains_Sint64_int64 : Ty := (.cons .bool .nil)
noncomputable def sg_slices_Contains_Sint64_int64 : Sig := ⟨[(false, 1), (false, 1)], [], o_slices_Contains_Sint64_int64, [(false, 1)], [], []⟩
@[reducible] def o_cmp_isNaN_int64 : Ty := (.cons .bool .nil)
noncomputable def sg_cmp_isNaN_int64 : Sig := ⟨[(false, 1)], [], o_cmp_isNaN_int64, [(false, 1)], [], []⟩
noncomputable def pol_laws_FnExactFreePairs : Pol := ⟨99, [(26, [some 97]), (29, [some 98])], [], [], [(1000040, ⟨[1, 4, 5, 6, 7, 8, 40], [1, 6, 97, 98], [], [], [], [], []⟩), (1000061, ⟨[1, 4, 5, 7, 61], [1, 98], [], [], [], [], []⟩), (1000087, ⟨[7, 10, 87], [98], [], [], [], [], []⟩)], []⟩
noncomputable def pol_laws_szComplex : Pol := ⟨14, [], [], [], [], []⟩
noncomputable def pol_spec_FreePairs : Pol := ⟨9, [(6, [some 8])], [], [], [], []⟩
noncomputable def pol_laws_toComplex : Pol := ⟨11, [(6, [some 10])], [], [], [], []⟩
noncomputable def pol_impl_FreePairs : Pol := ⟨11, [(8, [some 10])], [], [], [], []⟩
noncomputable def pol_laws_eqInt64SS : Pol := ⟨29, [], [(4, ⟨[0, 1, 5], [], [], [], [], [], []⟩)], [], [], []⟩
noncomputable def pol_laws_eqComplex : Pol := ⟨13, [], [], [], [], []⟩
noncomputable def pol_laws_markComplex : Pol := ⟨12, [], [], [], [], []⟩
noncomputable def pol_laws_heldInt64SS : Pol := ⟨23, [], [(2, ⟨[0, 1, 5], [], [], [], [], [], []⟩)], [], [], []⟩
noncomputable def pol_laws_toInt64S : Pol := ⟨23, [], [(3, ⟨[0, 3, 4], [7], [], [], [], [], []⟩)], [], [], []⟩
noncomputable def pol_laws_eqInt64S : Pol := ⟨28, [], [(4, ⟨[0, 1, 5], [], [], [], [], [], []⟩)], [], [], []⟩
noncomputable def pol_laws_szInt64S : Pol := ⟨14, [], [], [], [], []⟩
noncomputable def pol_laws_szInt64SS : Pol := ⟨29, [], [(5, ⟨[0, 1, 5], [], [], [], [], [], []⟩)], [], [], []⟩
noncomputable def pol_spec_l05Ok : Pol := ⟨66, [], [(4, ⟨[0, 3], [], [], [], [], [], []⟩), (10, ⟨[0, 3, 4, 5], [], [], [], [], [], []⟩)], [], [(1000047, ⟨[0, 3, 4, 47], [], [], [], [], [], []⟩), (1000056, ⟨[0, 3, 4, 5, 56], [], [], [], [], [], []⟩)], []⟩
noncomputable def pol_spec_l08Free : Pol := ⟨38, [], [(3, ⟨[0, 3, 4], [6], [], [], [], [], []⟩)], [], [], []⟩
noncomputable def pol_laws_toInt64SS : Pol := ⟨25, [(20, [some 24])], [(3, ⟨[0, 3, 4], [7], [], [], [], [], []⟩)], [], [], []⟩
noncomputable def pol_impl_ValidComplex : Pol := ⟨41, [], [(2, ⟨[1, 6, 7, 8], [1], [], [], [1], [], []⟩)], [], [(1000030, ⟨[1, 3, 4, 6, 7, 8, 30], [1, 3], [], [], [], [], []⟩)], []⟩
noncomputable def pol_impl_freePairs : Pol := ⟨29, [], [(3, ⟨[1, 3, 8, 9], [1, 25], [(3, 25, (.sl (.int .i64)), true)], [], [], [], []⟩)], [], [], []⟩
noncomputable def pol_laws_markInt64S : Pol := ⟨21, [], [(2, ⟨[0, 1, 5], [19], [], [], [], [], []⟩)], [], [], []⟩
noncomputable def pol_laws_heldInt64S : Pol := ⟨23, [], [(2, ⟨[0, 1, 5], [], [], [], [], [], []⟩)], [], [], []⟩
noncomputable def pol_spec_l00In : Pol := ⟨18, [], [], [], [], []⟩
noncomputable def pol_impl_within : Pol := ⟨18, [], [], [], [], []⟩
noncomputable def pol_impl_size_Sint64 : Pol := ⟨6, [], [], [], [], []⟩
noncomputable def pol_impl_indexOf : Pol := ⟨19, [], [], [], [], []⟩
noncomputable def pol_spec_l00Same : Pol := ⟨28, [], [(4, ⟨[0, 1, 5], [], [], [], [], [], []⟩)], [], [], []⟩
noncomputable def pol_spec_l05Simplex : Pol := ⟨11, [], [], [], [], []⟩
noncomputable def pol_spec_l05Before : Pol := ⟨42, [], [(4, ⟨[0, 1, 5], [], [], [], [], [], []⟩)], [], [], []⟩
noncomputable def pol_spec_l05Find : Pol := ⟨27, [], [(2, ⟨[0, 1, 5], [], [], [], [], [], []⟩)], [], [], []⟩
noncomputable def pol_spec_l05Drop : Pol := ⟨19, [(9, [some 18])], [], [], [], []⟩
noncomputable def pol_spec_l05Star : Pol := ⟨33, [], [(3, ⟨[0, 1, 5, 6], [7], [], [], [], [], []⟩)], [], [], []⟩
noncomputable def pol_impl_ValidSimplex : Pol := ⟨21, [], [], [], [], []⟩
noncomputable def pol_impl_compareSimplices : Pol := ⟨17, [], [], [], [], []⟩
noncomputable def pol_slices_ContainsFunc_SSint64_Sint64 : Pol := ⟨11, [], [], [], [], []⟩
noncomputable def pol_impl_facesOf : Pol := ⟨29, [(22, [some 28])], [(3, ⟨[0, 3, 6, 7], [24], [(3, 24, (.sl (.int .i64)), true)], [], [], [], []⟩)], [], [], []⟩
noncomputable def pol_impl_ValidComplex_1 : Pol := ⟨16, [], [], [], [], []⟩
noncomputable def pol_impl_starOf : Pol := ⟨31, [], [(3, ⟨[1, 2, 5, 9, 10, 11], [2, 26], [(5, 26, (.int .i64), true)], [], [], [], []⟩)], [], [], []⟩
noncomputable def pol_slices_ContainsFunc_Sint64_int64 : Pol := ⟨11, [], [], [], [], []⟩
noncomputable def pol_slices_BinarySearchFunc_SSint64_Sint64_Sint64 : Pol := ⟨52, [], [(3, ⟨[0, 1, 2, 8, 9, 10], [], [], [], [], [], []⟩)], [], [], []⟩
noncomputable def pol_slices_Index_Sint64_int64 : Pol := ⟨21, [], [(2, ⟨[0, 1, 7, 8], [], [], [], [], [], []⟩)], [], [], []⟩
noncomputable def pol_spec_l00Rises : Pol := ⟨41, [], [(2, ⟨[0, 1, 2, 7], [], [], [], [], [], []⟩)], [], [(1000037, ⟨[0, 1, 2, 7, 37], [], [], [], [], [], []⟩)], []⟩
noncomputable def pol_spec_l00Own : Pol := ⟨7, [], [], [], [], []⟩
noncomputable def pol_spec_l05Part : Pol := ⟨21, [], [(2, ⟨[0, 1, 5], [], [], [], [], [], []⟩)], [], [], []⟩
noncomputable def pol_impl_isRising : Pol := ⟨21, [], [(2, ⟨[0, 3], [], [], [], [], [], []⟩)], [], [], []⟩
noncomputable def pol_impl_ValidSimplex_1 : Pol := ⟨7, [], [], [], [], []⟩
noncomputable def pol_impl_isVertex : Pol := ⟨6, [], [], [], [], []⟩
noncomputable def pol_cmp_Or_int : Pol := ⟨19, [], [(3, ⟨[3, 6, 7, 8], [], [], [], [], [], []⟩)], [], [], []⟩
noncomputable def pol_cmp_Compare_int : Pol := ⟨22, [], [], [], [], []⟩
noncomputable def pol_slices_Compare_Sint64_int64 : Pol := ⟨38, [], [(2, ⟨[0, 1, 9, 10, 11], [], [], [], [], [], []⟩)], [], [], []⟩
noncomputable def pol_slices_IndexFunc_SSint64_Sint64 : Pol := ⟨21, [], [(2, ⟨[0, 1, 7, 8], [], [], [], [], [], []⟩)], [], [], []⟩
noncomputable def pol_slices_Concat_Sint64_int64 : Pol := ⟨38, [(24, [some 37])], [(3, ⟨[0, 3, 9, 10, 11], [], [], [], [], [], []⟩), (11, ⟨[6, 25, 26, 27], [37], [], [], [], [], []⟩)], [], [], []⟩
noncomputable def pol_impl_isFace : Pol := ⟨11, [], [], [], [], []⟩
noncomputable def pol_slices_IndexFunc_Sint64_int64 : Pol := ⟨21, [], [(2, ⟨[0, 1, 7, 8], [], [], [], [], [], []⟩)], [], [], []⟩
noncomputable def pol_spec_l00Has : Pol := ⟨20, [], [(2, ⟨[0, 1, 5], [], [], [], [], [], []⟩)], [], [], []⟩
noncomputable def pol_cmp_isNaN_int : Pol := ⟨7, [], [], [], [], []⟩
noncomputable def pol_cmp_Compare_int64 : Pol := ⟨22, [], [], [], [], []⟩
noncomputable def pol_impl_isFace_1 : Pol := ⟨10, [], [], [], [], []⟩
noncomputable def pol_slices_Contains_Sint64_int64 : Pol := ⟨11, [], [], [], [], []⟩
noncomputable def pol_cmp_isNaN_int64 : Pol := ⟨7, [], [], [], [], []⟩
noncomputable def sigL : List (Option Sig) := [none, none, none, none, some sg_laws_FnExactFreePairs, none, none, none, none, none, none, none, none, none, some sg_laws_szComplex, some sg_spec_FreePairs, some sg_laws_toComplex, some sg_impl_FreePairs, some sg_laws_eqInt64SS, some sg_laws_eqComplex, some sg_laws_markComplex, some sg_laws_markInt64SS, some sg_laws_heldInt64SS, none, none, none, none, none, some sg_laws_toInt64S, none, some sg_laws_eqInt64S, none, none, some sg_laws_szInt64S, none, none, none, none, none, none, none, none, some sg_laws_szInt64SS, some sg_spec_l05Ok, some sg_spec_l08Free, some sg_laws_toInt64SS, some sg_impl_ValidComplex, some sg_impl_freePairs, some sg_laws_markInt64S, some sg_laws_heldInt64S, none, none, none, none, none, none, none, none, none, none, none, none, some sg_spec_l00In, none, none, some sg_impl_within, some sg_impl_size_Sint64, some sg_impl_indexOf, none, none, none, some sg_spec_l00Same, none, none, none, none, some sg_spec_l05Simplex, some sg_spec_l05Before, some sg_spec_l05Find, some sg_spec_l05Drop, some sg_spec_l05Star, some sg_impl_ValidSimplex, some sg_impl_compareSimplices, some sg_slices_ContainsFunc_SSint64_Sint64, some sg_impl_facesOf, some sg_impl_ValidComplex_1, some sg_impl_starOf, none, none, none, none, none, some sg_slices_ContainsFunc_Sint64_int64, none, none, none, none, none, none, none, none, none, none, some sg_slices_BinarySearchFunc_SSint64_Sint64_Sint64, some sg_slices_Index_Sint64_int64, none, none, none, some sg_spec_l00Rises, some sg_spec_l00Own, some sg_spec_l05Part, some sg_impl_isRising, some sg_impl_ValidSimplex_1, some sg_impl_isVertex, some sg_cmp_Or_int, some sg_cmp_Compare_int, some sg_slices_Compare_Sint64_int64, some sg_slices_IndexFunc_SSint64_Sint64, some sg_slices_Concat_Sint64_int64, some sg_impl_isFace, none, none, none, none, some sg_slices_IndexFunc_Sint64_int64, none, none, none, none, none, none, none, some sg_spec_l00Has, some sg_cmp_isNaN_int, some sg_cmp_Compare_int64, some sg_slices_Grow_Sint64_int64, some sg_impl_isFace_1, some sg_slices_Contains_Sint64_int64, none, none, none, none, none, none, none, none, none, none, none, none, none, some sg_cmp_isNaN_int64, none, none, none, none, none, none, none, none, none, none, none, none, none, none, none, none, none, none, none, none, none, none, none]
noncomputable def fnL : List (Option (Func × Pol)) := [none, none, none, none, some (F_laws_FnExactFreePairs, pol_laws_FnExactFreePairs), none, none, none, none, none, none, none, none, none, some (F_laws_szComplex, pol_laws_szComplex), some (F_spec_FreePairs, pol_spec_FreePairs), some (F_laws_toComplex, pol_laws_toComplex), some (F_impl_FreePairs, pol_impl_FreePairs), some (F_laws_eqInt64SS, pol_laws_eqInt64SS), some (F_laws_eqComplex, pol_laws_eqComplex), some (F_laws_markComplex, pol_laws_markComplex), none, some (F_laws_heldInt64SS, pol_laws_heldInt64SS), none, none, none, none, none, some (F_laws_toInt64S, pol_laws_toInt64S), none, some (F_laws_eqInt64S, pol_laws_eqInt64S), none, none, some (F_laws_szInt64S, pol_laws_szInt64S), none, none, none, none, none, none, none, none, some (F_laws_szInt64SS, pol_laws_szInt64SS), some (F_spec_l05Ok, pol_spec_l05Ok), some (F_spec_l08Free, pol_spec_l08Free), some (F_laws_toInt64SS, pol_laws_toInt64SS), some (F_impl_ValidComplex, pol_impl_ValidComplex), some (F_impl_freePairs, pol_impl_freePairs), some (F_laws_markInt64S, pol_laws_markInt64S), some (F_laws_heldInt64S, pol_laws_heldInt64S), none, none, none, none, none, none, none, none, none, none, none, none, some (F_spec_l00In, pol_spec_l00In), none, none, some (F_impl_within, pol_impl_within), some (F_impl_size_Sint64, pol_impl_size_Sint64), some (F_impl_indexOf, pol_impl_indexOf), none, none, none, some (F_spec_l00Same, pol_spec_l00Same), none, none, none, none, some (F_spec_l05Simplex, pol_spec_l05Simplex), some (F_spec_l05Before, pol_spec_l05Before), some (F_spec_l05Find, pol_spec_l05Find), some (F_spec_l05Drop, pol_spec_l05Drop), some (F_spec_l05Star, pol_spec_l05Star), some (F_impl_ValidSimplex, pol_impl_ValidSimplex), some (F_impl_compareSimplices, pol_impl_compareSimplices), some (F_slices_ContainsFunc_SSint64_Sint64, pol_slices_ContainsFunc_SSint64_Sint64), some (F_impl_facesOf, pol_impl_facesOf), some (F_impl_ValidComplex_1, pol_impl_ValidComplex_1), some (F_impl_starOf, pol_impl_starOf), none, none, none, none, none, some (F_slices_ContainsFunc_Sint64_int64, pol_slices_ContainsFunc_Sint64_int64), none, none, none, none, none, none, none, none, none, none, some (F_slices_BinarySearchFunc_SSint64_Sint64_Sint64, pol_slices_BinarySearchFunc_SSint64_Sint64_Sint64), some (F_slices_Index_Sint64_int64, pol_slices_Index_Sint64_int64), none, none, none, some (F_spec_l00Rises, pol_spec_l00Rises), some (F_spec_l00Own, pol_spec_l00Own), some (F_spec_l05Part, pol_spec_l05Part), some (F_impl_isRising, pol_impl_isRising), some (F_impl_ValidSimplex_1, pol_impl_ValidSimplex_1), some (F_impl_isVertex, pol_impl_isVertex), some (F_cmp_Or_int, pol_cmp_Or_int), some (F_cmp_Compare_int, pol_cmp_Compare_int), some (F_slices_Compare_Sint64_int64, pol_slices_Compare_Sint64_int64), some (F_slices_IndexFunc_SSint64_Sint64, pol_slices_IndexFunc_SSint64_Sint64), some (F_slices_Concat_Sint64_int64, pol_slices_Concat_Sint64_int64), some (F_impl_isFace, pol_impl_isFace), none, none, none, none, some (F_slices_IndexFunc_Sint64_int64, pol_slices_IndexFunc_Sint64_int64), none, none, none, none, none, none, none, some (F_spec_l00Has, pol_spec_l00Has), some (F_cmp_isNaN_int, pol_cmp_isNaN_int), some (F_cmp_Compare_int64, pol_cmp_Compare_int64), none, some (F_impl_isFace_1, pol_impl_isFace_1), some (F_slices_Contains_Sint64_int64, pol_slices_Contains_Sint64_int64), none, none, none, none, none, none, none, none, none, none, none, none, none, some (F_cmp_isNaN_int64, pol_cmp_isNaN_int64), none, none, none, none, none, none, none, none, none, none, none, none, none, none, none, none, none, none, none, none, none, none, none]
noncomputable def primL : List (Option (Run → List Dv → Option Dv)) := [none, none, none, none, none, none, none, none, none, none, none, none, none, none, none, none, none, none, none, none, none, some (pMarkSS n_laws_markInt64S), none, none, none, none, none, none, none, none, none, none, none, none, none, none, none, none, none, none, none, none, none, none, none, none, none, none, none, none, none, none, none, none, none, none, none, none, none, none, none, none, none, none, none, none, none, none, none, none, none, none, none, none, none, none, none, none, none, none, none, none, none, none, none, none, none, none, none, none, none, none, none, none, none, none, none, none, none, none, none, none, none, none, none, none, none, none, none, none, none, none, none, none, none, none, none, none, none, none, none, none, none, none, none, none, none, none, none, none, none, none, none, none, none, some (pGrow (.int .i64)), none, none, none, none, none, none, none, none, none, none, none, none, none, none, none, none, none, none, none, none, none, none, none, none, none, none, none, none, none, none, none, none, none, none, none, none, none, none, none]
noncomputable def E : Env := { P := Try.prog, fn := fun f => fnL.getD f none, prim := fun f => primL.getD f none, sig := fun f => sigL.getD f none }
theorem sig_laws_FnExactFreePairs_eq : E.sig n_laws_FnExactFreePairs = some sg_laws_FnExactFreePairs := rfl
theorem run_laws_FnExactFreePairs (n : Nat) (args : List Dv) : run E (n + 1) n_laws_FnExactFreePairs args = evFn E (mkR (run E n)) sg_laws_FnExactFreePairs pol_laws_FnExactFreePairs F_laws_FnExactFreePairs n args := rfl
theorem sig_laws_szComplex_eq : E.sig n_laws_szComplex = some sg_laws_szComplex := rfl
theorem run_laws_szComplex (n : Nat) (args : List Dv) : run E (n + 1) n_laws_szComplex args = evFn E (mkR (run E n)) sg_laws_szComplex pol_laws_szComplex F_laws_szComplex n args := rfl
theorem sig_spec_FreePairs_eq : E.sig n_spec_FreePairs = some sg_spec_FreePairs := rfl
theorem run_spec_FreePairs (n : Nat) (args : List Dv) : run E (n + 1) n_spec_FreePairs args = evFn E (mkR (run E n)) sg_spec_FreePairs pol_spec_FreePairs F_spec_FreePairs n args := rfl
theorem sig_laws_toComplex_eq : E.sig n_laws_toComplex = some sg_laws_toComplex := rfl
theorem run_laws_toComplex (n : Nat) (args : List Dv) : run E (n + 1) n_laws_toComplex args = evFn E (mkR (run E n)) sg_laws_toComplex pol_laws_toComplex F_laws_toComplex n args := rfl
theorem sig_impl_FreePairs_eq : E.sig n_impl_FreePairs = some sg_impl_FreePairs := rfl
theorem run_impl_FreePairs (n : Nat) (args : List Dv) : run E (n + 1) n_impl_FreePairs args = evFn E (mkR (run E n)) sg_impl_FreePairs pol_impl_FreePairs F_impl_FreePairs n args := rfl
theorem sig_laws_eqInt64SS_eq : E.sig n_laws_eqInt64SS = some sg_laws_eqInt64SS := rfl
theorem run_laws_eqInt64SS (n : Nat) (args : List Dv) : run E (n + 1) n_laws_eqInt64SS args = evFn E (mkR (run E n)) sg_laws_eqInt64SS pol_laws_eqInt64SS F_laws_eqInt64SS n args := rfl
theorem sig_laws_eqComplex_eq : E.sig n_laws_eqComplex = some sg_laws_eqComplex := rfl
theorem run_laws_eqComplex (n : Nat) (args : List Dv) : run E (n + 1) n_laws_eqComplex args = evFn E (mkR (run E n)) sg_laws_eqComplex pol_laws_eqComplex F_laws_eqComplex n args := rfl
theorem sig_laws_markComplex_eq : E.sig n_laws_markComplex = some sg_laws_markComplex := rfl
theorem run_laws_markComplex (n : Nat) (args : List Dv) : run E (n + 1) n_laws_markComplex args = evFn E (mkR (run E n)) sg_laws_markComplex pol_laws_markComplex F_laws_markComplex n args := rfl
theorem sig_laws_markInt64SS_eq : E.sig n_laws_markInt64SS = some sg_laws_markInt64SS := rfl
theorem sig_laws_heldInt64SS_eq : E.sig n_laws_heldInt64SS = some sg_laws_heldInt64SS := rfl
theorem run_laws_heldInt64SS (n : Nat) (args : List Dv) : run E (n + 1) n_laws_heldInt64SS args = evFn E (mkR (run E n)) sg_laws_heldInt64SS pol_laws_heldInt64SS F_laws_heldInt64SS n args := rfl
theorem sig_laws_toInt64S_eq : E.sig n_laws_toInt64S = some sg_laws_toInt64S := rfl
theorem run_laws_toInt64S (n : Nat) (args : List Dv) : run E (n + 1) n_laws_toInt64S args = evFn E (mkR (run E n)) sg_laws_toInt64S pol_laws_toInt64S F_laws_toInt64S n args := rfl
theorem sig_laws_eqInt64S_eq : E.sig n_laws_eqInt64S = some sg_laws_eqInt64S := rfl
theorem run_laws_eqInt64S (n : Nat) (args : List Dv) : run E (n + 1) n_laws_eqInt64S args = evFn E (mkR (run E n)) sg_laws_eqInt64S pol_laws_eqInt64S F_laws_eqInt64S n args := rfl
theorem sig_laws_szInt64S_eq : E.sig n_laws_szInt64S = some sg_laws_szInt64S := rfl
theorem run_laws_szInt64S (n : Nat) (args : List Dv) : run E (n + 1) n_laws_szInt64S args = evFn E (mkR (run E n)) sg_laws_szInt64S pol_laws_szInt64S F_laws_szInt64S n args := rfl
theorem sig_laws_szInt64SS_eq : E.sig n_laws_szInt64SS = some sg_laws_szInt64SS := rfl
theorem run_laws_szInt64SS (n : Nat) (args : List Dv) : run E (n + 1) n_laws_szInt64SS args = evFn E (mkR (run E n)) sg_laws_szInt64SS pol_laws_szInt64SS F_laws_szInt64SS n args := rfl
theorem sig_spec_l05Ok_eq : E.sig n_spec_l05Ok = some sg_spec_l05Ok := rfl
theorem run_spec_l05Ok (n : Nat) (args : List Dv) : run E (n + 1) n_spec_l05Ok args = evFn E (mkR (run E n)) sg_spec_l05Ok pol_spec_l05Ok F_spec_l05Ok n args := rfl
theorem sig_spec_l08Free_eq : E.sig n_spec_l08Free = some sg_spec_l08Free := rfl
theorem run_spec_l08Free (n : Nat) (args : List Dv) : run E (n + 1) n_spec_l08Free args = evFn E (mkR (run E n)) sg_spec_l08Free pol_spec_l08Free F_spec_l08Free n args := rfl
theorem sig_laws_toInt64SS_eq : E.sig n_laws_toInt64SS = some sg_laws_toInt64SS := rfl
theorem run_laws_toInt64SS (n : Nat) (args : List Dv) : run E (n + 1) n_laws_toInt64SS args = evFn E (mkR (run E n)) sg_laws_toInt64SS pol_laws_toInt64SS F_laws_toInt64SS n args := rfl
theorem sig_impl_ValidComplex_eq : E.sig n_impl_ValidComplex = some sg_impl_ValidComplex := rfl
theorem run_impl_ValidComplex (n : Nat) (args : List Dv) : run E (n + 1) n_impl_ValidComplex args = evFn E (mkR (run E n)) sg_impl_ValidComplex pol_impl_ValidComplex F_impl_ValidComplex n args := rfl
theorem sig_impl_freePairs_eq : E.sig n_impl_freePairs = some sg_impl_freePairs := rfl
theorem run_impl_freePairs (n : Nat) (args : List Dv) : run E (n + 1) n_impl_freePairs args = evFn E (mkR (run E n)) sg_impl_freePairs pol_impl_freePairs F_impl_freePairs n args := rfl
theorem sig_laws_markInt64S_eq : E.sig n_laws_markInt64S = some sg_laws_markInt64S := rfl
theorem run_laws_markInt64S (n : Nat) (args : List Dv) : run E (n + 1) n_laws_markInt64S args = evFn E (mkR (run E n)) sg_laws_markInt64S pol_laws_markInt64S F_laws_markInt64S n args := rfl
theorem sig_laws_heldInt64S_eq : E.sig n_laws_heldInt64S = some sg_laws_heldInt64S := rfl
theorem run_laws_heldInt64S (n : Nat) (args : List Dv) : run E (n + 1) n_laws_heldInt64S args = evFn E (mkR (run E n)) sg_laws_heldInt64S pol_laws_heldInt64S F_laws_heldInt64S n args := rfl
theorem sig_spec_l00In_eq : E.sig n_spec_l00In = some sg_spec_l00In := rfl
theorem run_spec_l00In (n : Nat) (args : List Dv) : run E (n + 1) n_spec_l00In args = evFn E (mkR (run E n)) sg_spec_l00In pol_spec_l00In F_spec_l00In n args := rfl
theorem sig_impl_within_eq : E.sig n_impl_within = some sg_impl_within := rfl
theorem run_impl_within (n : Nat) (args : List Dv) : run E (n + 1) n_impl_within args = evFn E (mkR (run E n)) sg_impl_within pol_impl_within F_impl_within n args := rfl
theorem sig_impl_size_Sint64_eq : E.sig n_impl_size_Sint64 = some sg_impl_size_Sint64 := rfl
theorem run_impl_size_Sint64 (n : Nat) (args : List Dv) : run E (n + 1) n_impl_size_Sint64 args = evFn E (mkR (run E n)) sg_impl_size_Sint64 pol_impl_size_Sint64 F_impl_size_Sint64 n args := rfl
theorem sig_impl_indexOf_eq : E.sig n_impl_indexOf = some sg_impl_indexOf := rfl
theorem run_impl_indexOf (n : Nat) (args : List Dv) : run E (n + 1) n_impl_indexOf args = evFn E (mkR (run E n)) sg_impl_indexOf pol_impl_indexOf F_impl_indexOf n args := rfl
theorem sig_spec_l00Same_eq : E.sig n_spec_l00Same = some sg_spec_l00Same := rfl
theorem run_spec_l00Same (n : Nat) (args : List Dv) : run E (n + 1) n_spec_l00Same args = evFn E (mkR (run E n)) sg_spec_l00Same pol_spec_l00Same F_spec_l00Same n args := rfl
theorem sig_spec_l05Simplex_eq : E.sig n_spec_l05Simplex = some sg_spec_l05Simplex := rfl
theorem run_spec_l05Simplex (n : Nat) (args : List Dv) : run E (n + 1) n_spec_l05Simplex args = evFn E (mkR (run E n)) sg_spec_l05Simplex pol_spec_l05Simplex F_spec_l05Simplex n args := rfl
theorem sig_spec_l05Before_eq : E.sig n_spec_l05Before = some sg_spec_l05Before := rfl
theorem run_spec_l05Before (n : Nat) (args : List Dv) : run E (n + 1) n_spec_l05Before args = evFn E (mkR (run E n)) sg_spec_l05Before pol_spec_l05Before F_spec_l05Before n args := rfl
theorem sig_spec_l05Find_eq : E.sig n_spec_l05Find = some sg_spec_l05Find := rfl
theorem run_spec_l05Find (n : Nat) (args : List Dv) : run E (n + 1) n_spec_l05Find args = evFn E (mkR (run E n)) sg_spec_l05Find pol_spec_l05Find F_spec_l05Find n args := rfl
theorem sig_spec_l05Drop_eq : E.sig n_spec_l05Drop = some sg_spec_l05Drop := rfl
theorem run_spec_l05Drop (n : Nat) (args : List Dv) : run E (n + 1) n_spec_l05Drop args = evFn E (mkR (run E n)) sg_spec_l05Drop pol_spec_l05Drop F_spec_l05Drop n args := rfl
theorem sig_spec_l05Star_eq : E.sig n_spec_l05Star = some sg_spec_l05Star := rfl
theorem run_spec_l05Star (n : Nat) (args : List Dv) : run E (n + 1) n_spec_l05Star args = evFn E (mkR (run E n)) sg_spec_l05Star pol_spec_l05Star F_spec_l05Star n args := rfl
theorem sig_impl_ValidSimplex_eq : E.sig n_impl_ValidSimplex = some sg_impl_ValidSimplex := rfl
theorem run_impl_ValidSimplex (n : Nat) (args : List Dv) : run E (n + 1) n_impl_ValidSimplex args = evFn E (mkR (run E n)) sg_impl_ValidSimplex pol_impl_ValidSimplex F_impl_ValidSimplex n args := rfl
theorem sig_impl_compareSimplices_eq : E.sig n_impl_compareSimplices = some sg_impl_compareSimplices := rfl
theorem run_impl_compareSimplices (n : Nat) (args : List Dv) : run E (n + 1) n_impl_compareSimplices args = evFn E (mkR (run E n)) sg_impl_compareSimplices pol_impl_compareSimplices F_impl_compareSimplices n args := rfl
theorem sig_slices_ContainsFunc_SSint64_Sint64_eq : E.sig n_slices_ContainsFunc_SSint64_Sint64 = some sg_slices_ContainsFunc_SSint64_Sint64 := rfl
theorem run_slices_ContainsFunc_SSint64_Sint64 (n : Nat) (args : List Dv) : run E (n + 1) n_slices_ContainsFunc_SSint64_Sint64 args = evFn E (mkR (run E n)) sg_slices_ContainsFunc_SSint64_Sint64 pol_slices_ContainsFunc_SSint64_Sint64 F_slices_ContainsFunc_SSint64_Sint64 n args := rfl
theorem sig_impl_facesOf_eq : E.sig n_impl_facesOf = some sg_impl_facesOf := rfl
theorem run_impl_facesOf (n : Nat) (args : List Dv) : run E (n + 1) n_impl_facesOf args = evFn E (mkR (run E n)) sg_impl_facesOf pol_impl_facesOf F_impl_facesOf n args := rfl
theorem sig_impl_ValidComplex_1_eq : E.sig n_impl_ValidComplex_1 = some sg_impl_ValidComplex_1 := rfl
theorem run_impl_ValidComplex_1 (n : Nat) (args : List Dv) : run E (n + 1) n_impl_ValidComplex_1 args = evFn E (mkR (run E n)) sg_impl_ValidComplex_1 pol_impl_ValidComplex_1 F_impl_ValidComplex_1 n args := rfl
theorem sig_impl_starOf_eq : E.sig n_impl_starOf = some sg_impl_starOf := rfl
theorem run_impl_starOf (n : Nat) (args : List Dv) : run E (n + 1) n_impl_starOf args = evFn E (mkR (run E n)) sg_impl_starOf pol_impl_starOf F_impl_starOf n args := rfl
theorem sig_slices_ContainsFunc_Sint64_int64_eq : E.sig n_slices_ContainsFunc_Sint64_int64 = some sg_slices_ContainsFunc_Sint64_int64 := rfl
theorem run_slices_ContainsFunc_Sint64_int64 (n : Nat) (args : List Dv) : run E (n + 1) n_slices_ContainsFunc_Sint64_int64 args = evFn E (mkR (run E n)) sg_slices_ContainsFunc_Sint64_int64 pol_slices_ContainsFunc_Sint64_int64 F_slices_ContainsFunc_Sint64_int64 n args := rfl
theorem sig_slices_BinarySearchFunc_SSint64_Sint64_Sint64_eq : E.sig n_slices_BinarySearchFunc_SSint64_Sint64_Sint64 = some sg_slices_BinarySearchFunc_SSint64_Sint64_Sint64 := rfl
theorem run_slices_BinarySearchFunc_SSint64_Sint64_Sint64 (n : Nat) (args : List Dv) : run E (n + 1) n_slices_BinarySearchFunc_SSint64_Sint64_Sint64 args = evFn E (mkR (run E n)) sg_slices_BinarySearchFunc_SSint64_Sint64_Sint64 pol_slices_BinarySearchFunc_SSint64_Sint64_Sint64 F_slices_BinarySearchFunc_SSint64_Sint64_Sint64 n args := rfl
theorem sig_slices_Index_Sint64_int64_eq : E.sig n_slices_Index_Sint64_int64 = some sg_slices_Index_Sint64_int64 := rfl
theorem run_slices_Index_Sint64_int64 (n : Nat) (args : List Dv) : run E (n + 1) n_slices_Index_Sint64_int64 args = evFn E (mkR (run E n)) sg_slices_Index_Sint64_int64 pol_slices_Index_Sint64_int64 F_slices_Index_Sint64_int64 n args := rfl
theorem sig_spec_l00Rises_eq : E.sig n_spec_l00Rises = some sg_spec_l00Rises := rfl
theorem run_spec_l00Rises (n : Nat) (args : List Dv) : run E (n + 1) n_spec_l00Rises args = evFn E (mkR (run E n)) sg_spec_l00Rises pol_spec_l00Rises F_spec_l00Rises n args := rfl
theorem sig_spec_l00Own_eq : E.sig n_spec_l00Own = some sg_spec_l00Own := rfl
theorem run_spec_l00Own (n : Nat) (args : List Dv) : run E (n + 1) n_spec_l00Own args = evFn E (mkR (run E n)) sg_spec_l00Own pol_spec_l00Own F_spec_l00Own n args := rfl
theorem sig_spec_l05Part_eq : E.sig n_spec_l05Part = some sg_spec_l05Part := rfl
theorem run_spec_l05Part (n : Nat) (args : List Dv) : run E (n + 1) n_spec_l05Part args = evFn E (mkR (run E n)) sg_spec_l05Part pol_spec_l05Part F_spec_l05Part n args := rfl
theorem sig_impl_isRising_eq : E.sig n_impl_isRising = some sg_impl_isRising := rfl
theorem run_impl_isRising (n : Nat) (args : List Dv) : run E (n + 1) n_impl_isRising args = evFn E (mkR (run E n)) sg_impl_isRising pol_impl_isRising F_impl_isRising n args := rfl
theorem sig_impl_ValidSimplex_1_eq : E.sig n_impl_ValidSimplex_1 = some sg_impl_ValidSimplex_1 := rfl
theorem run_impl_ValidSimplex_1 (n : Nat) (args : List Dv) : run E (n + 1) n_impl_ValidSimplex_1 args = evFn E (mkR (run E n)) sg_impl_ValidSimplex_1 pol_impl_ValidSimplex_1 F_impl_ValidSimplex_1 n args := rfl
theorem sig_impl_isVertex_eq : E.sig n_impl_isVertex = some sg_impl_isVertex := rfl
theorem run_impl_isVertex (n : Nat) (args : List Dv) : run E (n + 1) n_impl_isVertex args = evFn E (mkR (run E n)) sg_impl_isVertex pol_impl_isVertex F_impl_isVertex n args := rfl
theorem sig_cmp_Or_int_eq : E.sig n_cmp_Or_int = some sg_cmp_Or_int := rfl
theorem run_cmp_Or_int (n : Nat) (args : List Dv) : run E (n + 1) n_cmp_Or_int args = evFn E (mkR (run E n)) sg_cmp_Or_int pol_cmp_Or_int F_cmp_Or_int n args := rfl
theorem sig_cmp_Compare_int_eq : E.sig n_cmp_Compare_int = some sg_cmp_Compare_int := rfl
theorem run_cmp_Compare_int (n : Nat) (args : List Dv) : run E (n + 1) n_cmp_Compare_int args = evFn E (mkR (run E n)) sg_cmp_Compare_int pol_cmp_Compare_int F_cmp_Compare_int n args := rfl
theorem sig_slices_Compare_Sint64_int64_eq : E.sig n_slices_Compare_Sint64_int64 = some sg_slices_Compare_Sint64_int64 := rfl
theorem run_slices_Compare_Sint64_int64 (n : Nat) (args : List Dv) : run E (n + 1) n_slices_Compare_Sint64_int64 args = evFn E (mkR (run E n)) sg_slices_Compare_Sint64_int64 pol_slices_Compare_Sint64_int64 F_slices_Compare_Sint64_int64 n args := rfl
theorem sig_slices_IndexFunc_SSint64_Sint64_eq : E.sig n_slices_IndexFunc_SSint64_Sint64 = some sg_slices_IndexFunc_SSint64_Sint64 := rfl
theorem run_slices_IndexFunc_SSint64_Sint64 (n : Nat) (args : List Dv) : run E (n + 1) n_slices_IndexFunc_SSint64_Sint64 args = evFn E (mkR (run E n)) sg_slices_IndexFunc_SSint64_Sint64 pol_slices_IndexFunc_SSint64_Sint64 F_slices_IndexFunc_SSint64_Sint64 n args := rfl
theorem sig_slices_Concat_Sint64_int64_eq : E.sig n_slices_Concat_Sint64_int64 = some sg_slices_Concat_Sint64_int64 := rfl
theorem run_slices_Concat_Sint64_int64 (n : Nat) (args : List Dv) : run E (n + 1) n_slices_Concat_Sint64_int64 args = evFn E (mkR (run E n)) sg_slices_Concat_Sint64_int64 pol_slices_Concat_Sint64_int64 F_slices_Concat_Sint64_int64 n args := rfl
theorem sig_impl_isFace_eq : E.sig n_impl_isFace = some sg_impl_isFace := rfl
theorem run_impl_isFace (n : Nat) (args : List Dv) : run E (n + 1) n_impl_isFace args = evFn E (mkR (run E n)) sg_impl_isFace pol_impl_isFace F_impl_isFace n args := rfl
theorem sig_slices_IndexFunc_Sint64_int64_eq : E.sig n_slices_IndexFunc_Sint64_int64 = some sg_slices_IndexFunc_Sint64_int64 := rfl
theorem run_slices_IndexFunc_Sint64_int64 (n : Nat) (args : List Dv) : run E (n + 1) n_slices_IndexFunc_Sint64_int64 args = evFn E (mkR (run E n)) sg_slices_IndexFunc_Sint64_int64 pol_slices_IndexFunc_Sint64_int64 F_slices_IndexFunc_Sint64_int64 n args := rfl
theorem sig_spec_l00Has_eq : E.sig n_spec_l00Has = some sg_spec_l00Has := rfl
theorem run_spec_l00Has (n : Nat) (args : List Dv) : run E (n + 1) n_spec_l00Has args = evFn E (mkR (run E n)) sg_spec_l00Has pol_spec_l00Has F_spec_l00Has n args := rfl
theorem sig_cmp_isNaN_int_eq : E.sig n_cmp_isNaN_int = some sg_cmp_isNaN_int := rfl
theorem run_cmp_isNaN_int (n : Nat) (args : List Dv) : run E (n + 1) n_cmp_isNaN_int args = evFn E (mkR (run E n)) sg_cmp_isNaN_int pol_cmp_isNaN_int F_cmp_isNaN_int n args := rfl
theorem sig_cmp_Compare_int64_eq : E.sig n_cmp_Compare_int64 = some sg_cmp_Compare_int64 := rfl
theorem run_cmp_Compare_int64 (n : Nat) (args : List Dv) : run E (n + 1) n_cmp_Compare_int64 args = evFn E (mkR (run E n)) sg_cmp_Compare_int64 pol_cmp_Compare_int64 F_cmp_Compare_int64 n args := rfl
theorem sig_slices_Grow_Sint64_int64_eq : E.sig n_slices_Grow_Sint64_int64 = some sg_slices_Grow_Sint64_int64 := rfl
theorem sig_impl_isFace_1_eq : E.sig n_impl_isFace_1 = some sg_impl_isFace_1 := rfl
theorem run_impl_isFace_1 (n : Nat) (args : List Dv) : run E (n + 1) n_impl_isFace_1 args = evFn E (mkR (run E n)) sg_impl_isFace_1 pol_impl_isFace_1 F_impl_isFace_1 n args := rfl
theorem sig_slices_Contains_Sint64_int64_eq : E.sig n_slices_Contains_Sint64_int64 = some sg_slices_Contains_Sint64_int64 := rfl
theorem run_slices_Contains_Sint64_int64 (n : Nat) (args : List Dv) : run E (n + 1) n_slices_Contains_Sint64_int64 args = evFn E (mkR (run E n)) sg_slices_Contains_Sint64_int64 pol_slices_Contains_Sint64_int64 F_slices_Contains_Sint64_int64 n args := rfl
theorem sig_cmp_isNaN_int64_eq : E.sig n_cmp_isNaN_int64 = some sg_cmp_isNaN_int64 := rfl
theorem run_cmp_isNaN_int64 (n : Nat) (args : List Dv) : run E (n + 1) n_cmp_isNaN_int64 args = evFn E (mkR (run E n)) sg_cmp_isNaN_int64 pol_cmp_isNaN_int64 F_cmp_isNaN_int64 n args := rfl
end VeT

open Go Go.Proofs Ve
set_option linter.unusedVariables false
set_option maxRecDepth 100000
namespace VeT
/-! loop.example/g01005/laws.szInt64S -/
theorem laws_szInt64S.ev (R : Run) (N : Nat) (a0 : (List Int)) (a1 : Int) : evFn E R sg_laws_szInt64S pol_laws_szInt64S F_laws_szInt64S N [⟨(.sl (.int .i64)), a0⟩, ⟨(.int .i64), a1⟩] = (bif (decide ((w64 (a1 - (List.length a0 : Int))) < (0 : Int))) then some ⟨o_laws_szInt64S, ((-1 : Int), ())⟩ else some ⟨o_laws_szInt64S, ((w64 (a1 - (List.length a0 : Int))), ())⟩) := by kernel_rfl
/-! loop.example/g01005/laws.szInt64SS -/
noncomputable def laws_szInt64SS.l0 (R : Run) (N : Nat) (n : Nat) (a_1 : (List (List Int))) (left_2 : Int) (i_3 : Int) : Option Dv := R.w (some ⟨[.c (.d (.sl (.sl (.int .i64))) a_1), .c (.d (.int .i64) left_2), V.dead, V.dead, V.dead, .c (.d (.int .i64) i_3), V.dead, V.dead, V.dead, V.dead, V.dead, V.dead, V.dead, V.dead, V.dead, V.dead, V.dead, V.dead, V.dead, V.dead, V.dead, V.dead, V.dead, V.dead, V.dead, V.dead, V.dead], [none, none, none, none, none, none, none, none, none, none, none, none, none, none, none, none, none, none, none, none, none, none, none, none, none, none, none, none, none]⟩) fun st => loopC (evCode E R pol_laws_szInt64SS N (sub [1, 1, 1, 0, 1, 0, 0] (bodyOf F_laws_szInt64SS))) (maskAt R pol_laws_szInt64SS.loopM 5) n st (kBlk (maskAt R pol_laws_szInt64SS.blkM 0) 0 (kSeq (maskAt R pol_laws_szInt64SS.seqM 10) (evCode E R pol_laws_szInt64SS N (sub [1, 1, 1, 1] (bodyOf F_laws_szInt64SS))) (kTop E sg_laws_szInt64SS F_laws_szInt64SS)))
theorem laws_szInt64SS.l0_zero (R : Run) (hw : R.ok) (N : Nat) (a_1 : (List (List Int))) (left_2 : Int) (i_3 : Int) : laws_szInt64SS.l0 R N 0 a_1 left_2 i_3 = none := (hw _ _).trans (by kernel_rfl)
theorem laws_szInt64SS.l0_succ (R : Run) (hw : R.ok) (N : Nat) (n : Nat) (a_1 : (List (List Int))) (left_2 : Int) (i_3 : Int) : laws_szInt64SS.l0 R N (n + 1) a_1 left_2 i_3 = (bif (decide (i_3 < (List.length a_1 : Int))) then (Option.bind (idx? a_1 i_3) fun y4 => (Option.bind (callT R n_laws_szInt64S o_laws_szInt64S [⟨(.sl (.int .i64)), (y4, ()).1⟩, ⟨(.int .i64), left_2⟩]) fun r5 => (bif (decide (r5.1 < (0 : Int))) then some ⟨o_laws_szInt64SS, ((-1 : Int), ())⟩ else (laws_szInt64SS.l0 R N n a_1 r5.1 (w64 (i_3 + (1 : Int))))))) else some ⟨o_laws_szInt64SS, (left_2, ())⟩) := (hw _ _).trans (by kernel_rfl)
theorem laws_szInt64SS.ev (R : Run) (N : Nat) (a0 : (List (List Int))) (a1 : Int) : evFn E R sg_laws_szInt64SS pol_laws_szInt64SS F_laws_szInt64SS N [⟨(.sl (.sl (.int .i64))), a0⟩, ⟨(.int .i64), a1⟩] = (bif (decide ((w64 (a1 - (List.length a0 : Int))) < (0 : Int))) then some ⟨o_laws_szInt64SS, ((-1 : Int), ())⟩ else (laws_szInt64SS.l0 R N N a0 (w64 (a1 - (List.length a0 : Int))) (0 : Int))) := by kernel_rfl
/-! loop.example/g01005/laws.szComplex -/
theorem laws_szComplex.ev (R : Run) (N : Nat) (a0 : (List (List Int))) (a1 : Int) : evFn E R sg_laws_szComplex pol_laws_szComplex F_laws_szComplex N [⟨(.sl (.sl (.int .i64))), a0⟩, ⟨(.int .i64), a1⟩] = (Option.bind (callT R n_laws_szInt64SS o_laws_szInt64SS [⟨(.sl (.sl (.int .i64))), a0⟩, ⟨(.int .i64), a1⟩]) fun r1 => (bif (decide (r1.1 < (0 : Int))) then some ⟨o_laws_szComplex, ((-1 : Int), ())⟩ else some ⟨o_laws_szComplex, (r1.1, ())⟩)) := by kernel_rfl
/-! loop.example/g01005/laws.toInt64S -/
noncomputable def laws_toInt64S.l0 (R : Run) (N : Nat) (n : Nat) (a_1 : (List Int)) (i_2 : Int) (o7_3 : (List Int)) : Option Dv := R.w (some ⟨[.c (.d (.sl (.int .i64)) a_1), V.dead, V.dead, .c (.arr 7), .c (.d (.int .i64) i_2), V.dead, V.dead, V.dead, V.dead, V.dead, V.dead, V.dead, V.dead, V.dead, V.dead, V.dead, V.dead, V.dead, V.dead, V.dead, V.dead, V.dead], [none, none, none, none, none, none, none, some (.arr (.int .i64) o7_3 true false false), none, none, none, none, none, none, none, none, none, none, none, none, none, none, none]⟩) fun st => loopC (evCode E R pol_laws_toInt64S N (sub [1, 1, 0, 1, 0, 0] (bodyOf F_laws_toInt64S))) (maskAt R pol_laws_toInt64S.loopM 3) n st (kBlk (maskAt R pol_laws_toInt64S.blkM 0) 0 (kSeq (maskAt R pol_laws_toInt64S.seqM 6) (evCode E R pol_laws_toInt64S N (sub [1, 1, 1] (bodyOf F_laws_toInt64S))) (kTop E sg_laws_toInt64S F_laws_toInt64S)))
theorem laws_toInt64S.l0_zero (R : Run) (hw : R.ok) (N : Nat) (a_1 : (List Int)) (i_2 : Int) (o7_3 : (List Int)) : laws_toInt64S.l0 R N 0 a_1 i_2 o7_3 = none := (hw _ _).trans (by kernel_rfl)
theorem laws_toInt64S.l0_succ (R : Run) (hw : R.ok) (N : Nat) (n : Nat) (a_1 : (List Int)) (i_2 : Int) (o7_3 : (List Int)) : laws_toInt64S.l0 R N (n + 1) a_1 i_2 o7_3 = (bif (decide (i_2 < (List.length a_1 : Int))) then (Option.bind (idx? a_1 i_2) fun y4 => (Option.bind (chk (decide (0 ≤ i_2) && decide (i_2 < (List.length o7_3 : Int)))) fun _ => (laws_toInt64S.l0 R N n a_1 (w64 (i_2 + (1 : Int))) (List.set o7_3 (Int.toNat i_2) (y4, ()).1)))) else some ⟨o_laws_toInt64S, (o7_3, ())⟩) := (hw _ _).trans (by kernel_rfl)
theorem laws_toInt64S.ev (R : Run) (N : Nat) (a0 : (List Int)) : evFn E R sg_laws_toInt64S pol_laws_toInt64S F_laws_toInt64S N [⟨(.sl (.int .i64)), a0⟩] = (Option.bind (chk (decide (0 ≤ (List.length a0 : Int)) && decide ((List.length a0 : Int) * 8 ≤ 70368744177664))) fun _ => (laws_toInt64S.l0 R N N a0 (0 : Int) (List.replicate (Int.toNat (List.length a0 : Int)) (0 : Int)))) := by kernel_rfl
/-! loop.example/g01005/laws.toInt64SS -/
noncomputable def laws_toInt64SS.l0 (R : Run) (N : Nat) (n : Nat) (a_1 : (List (List Int))) (i_2 : Int) (o7_3 : (List (List Int))) : Option Dv := R.w (some ⟨[.c (.d (.sl (.sl (.int .i64))) a_1), V.dead, V.dead, .c (.arr 7), .c (.d (.int .i64) i_2), V.dead, V.dead, V.dead, V.dead, V.dead, V.dead, V.dead, V.dead, V.dead, V.dead, V.dead, V.dead, V.dead, V.dead, V.dead, V.dead, V.dead, V.dead], [none, none, none, none, none, none, none, some (.arr (.sl (.int .i64)) o7_3 true false false), none, none, none, none, none, none, none, none, none, none, none, none, none, none, none, none, none]⟩) fun st => loopC (evCode E R pol_laws_toInt64SS N (sub [1, 1, 0, 1, 0, 0] (bodyOf F_laws_toInt64SS))) (maskAt R pol_laws_toInt64SS.loopM 3) n st (kBlk (maskAt R pol_laws_toInt64SS.blkM 0) 0 (kSeq (maskAt R pol_laws_toInt64SS.seqM 6) (evCode E R pol_laws_toInt64SS N (sub [1, 1, 1] (bodyOf F_laws_toInt64SS))) (kTop E sg_laws_toInt64SS F_laws_toInt64SS)))
theorem laws_toInt64SS.l0_zero (R : Run) (hw : R.ok) (N : Nat) (a_1 : (List (List Int))) (i_2 : Int) (o7_3 : (List (List Int))) : laws_toInt64SS.l0 R N 0 a_1 i_2 o7_3 = none := (hw _ _).trans (by kernel_rfl)
theorem laws_toInt64SS.l0_succ (R : Run) (hw : R.ok) (N : Nat) (n : Nat) (a_1 : (List (List Int))) (i_2 : Int) (o7_3 : (List (List Int))) : laws_toInt64SS.l0 R N (n + 1) a_1 i_2 o7_3 = (bif (decide (i_2 < (List.length a_1 : Int))) then (Option.bind (idx? a_1 i_2) fun y4 => (Option.bind (callT R n_laws_toInt64S o_laws_toInt64S [⟨(.sl (.int .i64)), (y4, ()).1⟩]) fun r5 => (Option.bind (chk (decide (0 ≤ i_2) && decide (i_2 < (List.length o7_3 : Int)))) fun _ => (laws_toInt64SS.l0 R N n a_1 (w64 (i_2 + (1 : Int))) (List.set o7_3 (Int.toNat i_2) r5.1))))) else some ⟨o_laws_toInt64SS, (o7_3, ())⟩) := (hw _ _).trans (by kernel_rfl)
theorem laws_toInt64SS.ev (R : Run) (N : Nat) (a0 : (List (List Int))) : evFn E R sg_laws_toInt64SS pol_laws_toInt64SS F_laws_toInt64SS N [⟨(.sl (.sl (.int .i64))), a0⟩] = (Option.bind (chk (decide (0 ≤ (List.length a0 : Int)) && decide ((List.length a0 : Int) * 24 ≤ 70368744177664))) fun _ => (laws_toInt64SS.l0 R N N a0 (0 : Int) (List.replicate (Int.toNat (List.length a0 : Int)) ([] : List Int)))) := by kernel_rfl
/-! loop.example/g01005/laws.toComplex -/
theorem laws_toComplex.ev (R : Run) (N : Nat) (a0 : (List (List Int))) : evFn E R sg_laws_toComplex pol_laws_toComplex F_laws_toComplex N [⟨(.sl (.sl (.int .i64))), a0⟩] = (Option.bind (callT R n_laws_toInt64SS o_laws_toInt64SS [⟨(.sl (.sl (.int .i64))), a0⟩]) fun r1 => some ⟨o_laws_toComplex, (r1.1, ())⟩) := by kernel_rfl
/-! loop.example/g01005/spec.l00In -/
theorem spec_l00In.ev (R : Run) (N : Nat) (a0 : Int) (a1 : Int) (a2 : Int) : evFn E R sg_spec_l00In pol_spec_l00In F_spec_l00In N [⟨(.int .i64), a0⟩, ⟨(.int .i64), a1⟩, ⟨(.int .i64), a2⟩] = (bif (decide (a0 ≥ a1)) then some ⟨o_spec_l00In, ((decide (a0 ≤ a2)), ())⟩ else some ⟨o_spec_l00In, (false, ())⟩) := by kernel_rfl
/-! loop.example/g01005/spec.l00Rises -/
noncomputable def spec_l00Rises.j1 (R : Run) (N : Nat) (n10100 : Nat) (list_7 : (List Int)) (low_8 : Int) (high_9 : Int) (i_10 : Int) (t37__11 : Bool) : Option Dv := R.w (some ⟨[.c (.d (.sl (.int .i64)) list_7), .c (.d (.int .i64) low_8), .c (.d (.int .i64) high_9), V.dead, V.dead, V.dead, V.dead, .c (.d (.int .i64) i_10), V.dead, V.dead, V.dead, V.dead, V.dead, V.dead, V.dead, V.dead, V.dead, V.dead, V.dead, V.dead, V.dead, V.dead, V.dead, V.dead, V.dead, V.dead, V.dead, V.dead, V.dead, V.dead, V.dead, V.dead, V.dead, V.dead, V.dead, V.dead, V.dead, .c (.d .bool t37__11)], [none, none, none, none, none, none, none, none, none, none, none, none, none, none, none, none, none, none, none, none, none, none, none, none, none, none, none, none, none, none, none, none, none, none, none, none, none, none, none, none, none]⟩) fun st => evCode E R pol_spec_l00Rises N (sub [1, 0, 1, 0, 0, 1, 0, 0, 1] (bodyOf F_spec_l00Rises)) st (kBlk (maskAt R pol_spec_l00Rises.blkM 1) 1 (kSeq (maskAt R pol_spec_l00Rises.seqM 3) (evCode E R pol_spec_l00Rises N (sub [1, 0, 1, 0, 0, 1, 1] (bodyOf F_spec_l00Rises))) (kLoop (evCode E R pol_spec_l00Rises N (sub [1, 0, 1, 0, 0] (bodyOf F_spec_l00Rises))) (maskAt R pol_spec_l00Rises.loopM 2) n10100 (kBlk (maskAt R pol_spec_l00Rises.blkM 0) 0 (kSeq (maskAt R pol_spec_l00Rises.seqM 6) (evCode E R pol_spec_l00Rises N (sub [1, 1] (bodyOf F_spec_l00Rises))) (kTop E sg_spec_l00Rises F_spec_l00Rises))))))
noncomputable def spec_l00Rises.l0 (R : Run) (N : Nat) (n : Nat) (list_1 : (List Int)) (low_2 : Int) (high_3 : Int) (i_4 : Int) : Option Dv := R.w (some ⟨[.c (.d (.sl (.int .i64)) list_1), .c (.d (.int .i64) low_2), .c (.d (.int .i64) high_3), V.dead, V.dead, V.dead, V.dead, .c (.d (.int .i64) i_4), V.dead, V.dead, V.dead, V.dead, V.dead, V.dead, V.dead, V.dead, V.dead, V.dead, V.dead, V.dead, V.dead, V.dead, V.dead, V.dead, V.dead, V.dead, V.dead, V.dead, V.dead, V.dead, V.dead, V.dead, V.dead, V.dead, V.dead, V.dead, V.dead, V.dead], [none, none, none, none, none, none, none, none, none, none, none, none, none, none, none, none, none, none, none, none, none, none, none, none, none, none, none, none, none, none, none, none, none, none, none, none, none, none, none, none, none]⟩) fun st => loopC (evCode E R pol_spec_l00Rises N (sub [1, 0, 1, 0, 0] (bodyOf F_spec_l00Rises))) (maskAt R pol_spec_l00Rises.loopM 2) n st (kBlk (maskAt R pol_spec_l00Rises.blkM 0) 0 (kSeq (maskAt R pol_spec_l00Rises.seqM 6) (evCode E R pol_spec_l00Rises N (sub [1, 1] (bodyOf F_spec_l00Rises))) (kTop E sg_spec_l00Rises F_spec_l00Rises)))
theorem spec_l00Rises.j1_eq (R : Run) (hw : R.ok) (N : Nat) (n10100 : Nat) (list_7 : (List Int)) (low_8 : Int) (high_9 : Int) (i_10 : Int) (t37__11 : Bool) : spec_l00Rises.j1 R N n10100 list_7 low_8 high_9 i_10 t37__11 = (bif t37__11 then some ⟨o_spec_l00Rises, (false, ())⟩ else (spec_l00Rises.l0 R N n10100 list_7 low_8 high_9 (w64 (i_10 + (1 : Int))))) := (hw _ _).trans (by kernel_rfl)
theorem spec_l00Rises.l0_zero (R : Run) (hw : R.ok) (N : Nat) (list_1 : (List Int)) (low_2 : Int) (high_3 : Int) (i_4 : Int) : spec_l00Rises.l0 R N 0 list_1 low_2 high_3 i_4 = none := (hw _ _).trans (by kernel_rfl)
theorem spec_l00Rises.l0_succ (R : Run) (hw : R.ok) (N : Nat) (n : Nat) (list_1 : (List Int)) (low_2 : Int) (high_3 : Int) (i_4 : Int) : spec_l00Rises.l0 R N (n + 1) list_1 low_2 high_3 i_4 = (bif (decide (i_4 < (List.length list_1 : Int))) then (Option.bind (idx? list_1 i_4) fun y5 => (Option.bind (callT R n_spec_l00In o_spec_l00In [⟨(.int .i64), (y5, ()).1⟩, ⟨(.int .i64), low_2⟩, ⟨(.int .i64), high_3⟩]) fun r6 => (bif (!r6.1) then (spec_l00Rises.j1 R N n list_1 low_2 high_3 i_4 true) else (bif (decide (i_4 > (0 : Int))) then (Option.bind (idx? list_1 (w64 (i_4 - (1 : Int)))) fun y16 => (Option.bind (idx? list_1 i_4) fun y17 => (spec_l00Rises.j1 R N n list_1 low_2 high_3 i_4 (decide ((y16, ()).1 ≥ (y17, ()).1))))) else (spec_l00Rises.j1 R N n list_1 low_2 high_3 i_4 false))))) else some ⟨o_spec_l00Rises, (true, ())⟩) := (hw _ _).trans (by kernel_rfl)
theorem spec_l00Rises.ev (R : Run) (N : Nat) (a0 : (List Int)) (a1 : Int) (a2 : Int) : evFn E R sg_spec_l00Rises pol_spec_l00Rises F_spec_l00Rises N [⟨(.sl (.int .i64)), a0⟩, ⟨(.int .i64), a1⟩, ⟨(.int .i64), a2⟩] = (spec_l00Rises.l0 R N N a0 a1 a2 (0 : Int)) := by kernel_rfl
/-! loop.example/g01005/spec.l05Simplex -/
theorem spec_l05Simplex.ev (R : Run) (N : Nat) (a0 : (List Int)) : evFn E R sg_spec_l05Simplex pol_spec_l05Simplex F_spec_l05Simplex N [⟨(.sl (.int .i64)), a0⟩] = (Option.bind (callT R n_spec_l00In o_spec_l00In [⟨(.int .i64), (List.length a0 : Int)⟩, ⟨(.int .i64), (1 : Int)⟩, ⟨(.int .i64), (4 : Int)⟩]) fun r1 => (bif r1.1 then (Option.bind (callT R n_spec_l00Rises o_spec_l00Rises [⟨(.sl (.int .i64)), a0⟩, ⟨(.int .i64), (0 : Int)⟩, ⟨(.int .i64), (9 : Int)⟩]) fun r2 => some ⟨o_spec_l05Simplex, (r2.1, ())⟩) else some ⟨o_spec_l05Simplex, (false, ())⟩)) := by kernel_rfl
/-! loop.example/g01005/spec.l05Before -/
noncomputable def spec_l05Before.l0 (R : Run) (N : Nat) (n : Nat) (a_1 : (List Int)) (b_2 : (List Int)) (i_3 : Int) : Option Dv := R.w (some ⟨[.c (.d (.sl (.int .i64)) a_1), .c (.d (.sl (.int .i64)) b_2), V.dead, V.dead, V.dead, .c (.d (.int .i64) i_3), V.dead, V.dead, V.dead, V.dead, V.dead, V.dead, V.dead, V.dead, V.dead, V.dead, V.dead, V.dead, V.dead, V.dead, V.dead, V.dead, V.dead, V.dead, V.dead, V.dead, V.dead, V.dead, V.dead, V.dead, V.dead, V.dead, V.dead, V.dead, V.dead, V.dead, V.dead, V.dead, V.dead, V.dead], [none, none, none, none, none, none, none, none, none, none, none, none, none, none, none, none, none, none, none, none, none, none, none, none, none, none, none, none, none, none, none, none, none, none, none, none, none, none, none, none, none, none]⟩) fun st => loopC (evCode E R pol_spec_l05Before N (sub [1, 1, 0, 1, 0, 0] (bodyOf F_spec_l05Before))) (maskAt R pol_spec_l05Before.loopM 4) n st (kBlk (maskAt R pol_spec_l05Before.blkM 0) 0 (kSeq (maskAt R pol_spec_l05Before.seqM 8) (evCode E R pol_spec_l05Before N (sub [1, 1, 1] (bodyOf F_spec_l05Before))) (kTop E sg_spec_l05Before F_spec_l05Before)))
theorem spec_l05Before.l0_zero (R : Run) (hw : R.ok) (N : Nat) (a_1 : (List Int)) (b_2 : (List Int)) (i_3 : Int) : spec_l05Before.l0 R N 0 a_1 b_2 i_3 = none := (hw _ _).trans (by kernel_rfl)
theorem spec_l05Before.l0_succ (R : Run) (hw : R.ok) (N : Nat) (n : Nat) (a_1 : (List Int)) (b_2 : (List Int)) (i_3 : Int) : spec_l05Before.l0 R N (n + 1) a_1 b_2 i_3 = (bif (decide (i_3 < (List.length a_1 : Int))) then (Option.bind (idx? a_1 i_3) fun y4 => (Option.bind (idx? b_2 i_3) fun y5 => (bif ((y4, ()).1 != (y5, ()).1) then (Option.bind (idx? a_1 i_3) fun y6 => (Option.bind (idx? b_2 i_3) fun y7 => some ⟨o_spec_l05Before, ((decide ((y6, ()).1 < (y7, ()).1)), ())⟩)) else (spec_l05Before.l0 R N n a_1 b_2 (w64 (i_3 + (1 : Int))))))) else some ⟨o_spec_l05Before, (false, ())⟩) := (hw _ _).trans (by kernel_rfl)
theorem spec_l05Before.ev (R : Run) (N : Nat) (a0 : (List Int)) (a1 : (List Int)) : evFn E R sg_spec_l05Before pol_spec_l05Before F_spec_l05Before N [⟨(.sl (.int .i64)), a0⟩, ⟨(.sl (.int .i64)), a1⟩] = (bif ((List.length a0 : Int) != (List.length a1 : Int)) then some ⟨o_spec_l05Before, ((decide ((List.length a0 : Int) < (List.length a1 : Int))), ())⟩ else (spec_l05Before.l0 R N N a0 a1 (0 : Int))) := by kernel_rfl
/-! loop.example/g01005/spec.l00Own -/
theorem spec_l00Own.ev (R : Run) (N : Nat) (a0 : (List Int)) : evFn E R sg_spec_l00Own pol_spec_l00Own F_spec_l00Own N [⟨(.sl (.int .i64)), a0⟩] = (Option.bind (chk (decide ((List.length ([] : List Int) + List.length a0) * 8 ≤ 70368744177664))) fun _ => some ⟨o_spec_l00Own, ((([] : List Int) ++ a0), ())⟩) := by kernel_rfl
/-! loop.example/g01005/spec.l05Drop -/
theorem spec_l05Drop.ev (R : Run) (N : Nat) (a0 : (List Int)) (a1 : Int) : evFn E R sg_spec_l05Drop pol_spec_l05Drop F_spec_l05Drop N [⟨(.sl (.int .i64)), a0⟩, ⟨(.int .i64), a1⟩] = (Option.bind (chk (decide (0 ≤ a1) && decide (a1 ≤ (List.length a0 : Int)))) fun _ => (Option.bind (callT R n_spec_l00Own o_spec_l00Own [⟨(.sl (.int .i64)), (List.take (Int.toNat a1) a0)⟩]) fun r1 => (Option.bind (chk (decide (0 ≤ (w64 (a1 + (1 : Int)))) && decide ((w64 (a1 + (1 : Int))) ≤ (List.length a0 : Int)))) fun _ => (Option.bind (chk (decide ((List.length r1.1 + List.length (List.drop (Int.toNat (w64 (a1 + (1 : Int)))) a0)) * 8 ≤ 70368744177664))) fun _ => some ⟨o_spec_l05Drop, ((r1.1 ++ (List.drop (Int.toNat (w64 (a1 + (1 : Int)))) a0)), ())⟩)))) := by kernel_rfl
/-! loop.example/g01005/spec.l00Same -/
noncomputable def spec_l00Same.l0 (R : Run) (N : Nat) (n : Nat) (a_1 : (List Int)) (b_2 : (List Int)) (i_3 : Int) : Option Dv := R.w (some ⟨[.c (.d (.sl (.int .i64)) a_1), .c (.d (.sl (.int .i64)) b_2), V.dead, V.dead, V.dead, .c (.d (.int .i64) i_3), V.dead, V.dead, V.dead, V.dead, V.dead, V.dead, V.dead, V.dead, V.dead, V.dead, V.dead, V.dead, V.dead, V.dead, V.dead, V.dead, V.dead, V.dead, V.dead, V.dead], [none, none, none, none, none, none, none, none, none, none, none, none, none, none, none, none, none, none, none, none, none, none, none, none, none, none, none, none]⟩) fun st => loopC (evCode E R pol_spec_l00Same N (sub [1, 1, 0, 1, 0, 0] (bodyOf F_spec_l00Same))) (maskAt R pol_spec_l00Same.loopM 4) n st (kBlk (maskAt R pol_spec_l00Same.blkM 0) 0 (kSeq (maskAt R pol_spec_l00Same.seqM 8) (evCode E R pol_spec_l00Same N (sub [1, 1, 1] (bodyOf F_spec_l00Same))) (kTop E sg_spec_l00Same F_spec_l00Same)))
theorem spec_l00Same.l0_zero (R : Run) (hw : R.ok) (N : Nat) (a_1 : (List Int)) (b_2 : (List Int)) (i_3 : Int) : spec_l00Same.l0 R N 0 a_1 b_2 i_3 = none := (hw _ _).trans (by kernel_rfl)
theorem spec_l00Same.l0_succ (R : Run) (hw : R.ok) (N : Nat) (n : Nat) (a_1 : (List Int)) (b_2 : (List Int)) (i_3 : Int) : spec_l00Same.l0 R N (n + 1) a_1 b_2 i_3 = (bif (decide (i_3 < (List.length a_1 : Int))) then (Option.bind (idx? a_1 i_3) fun y4 => (Option.bind (idx? b_2 i_3) fun y5 => (bif ((y4, ()).1 != (y5, ()).1) then some ⟨o_spec_l00Same, (false, ())⟩ else (spec_l00Same.l0 R N n a_1 b_2 (w64 (i_3 + (1 : Int))))))) else some ⟨o_spec_l00Same, (true, ())⟩) := (hw _ _).trans (by kernel_rfl)
theorem spec_l00Same.ev (R : Run) (N : Nat) (a0 : (List Int)) (a1 : (List Int)) : evFn E R sg_spec_l00Same pol_spec_l00Same F_spec_l00Same N [⟨(.sl (.int .i64)), a0⟩, ⟨(.sl (.int .i64)), a1⟩] = (bif ((List.length a0 : Int) != (List.length a1 : Int)) then some ⟨o_spec_l00Same, (false, ())⟩ else (spec_l00Same.l0 R N N a0 a1 (0 : Int))) := by kernel_rfl
/-! loop.example/g01005/spec.l05Find -/
noncomputable def spec_l05Find.l0 (R : Run) (N : Nat) (n : Nat) (c_1 : ((List (List Int)) × Unit)) (s_2 : (List Int)) (i_3 : Int) : Option Dv := R.w (some ⟨[.c (.ip (.cons (.sl (.sl (.int .i64))) .nil) c_1 0), .c (.d (.sl (.int .i64)) s_2), V.dead, V.dead, V.dead, .c (.d (.int .i64) i_3), V.dead, V.dead, V.dead, V.dead, V.dead, V.dead, V.dead, V.dead, V.dead, V.dead, V.dead, V.dead, V.dead, V.dead, V.dead, V.dead, V.dead, V.dead, V.dead], [none, none, none, none, none, none, none, none, none, none, none, none, none, none, none, none, none, none, none, none, none, none, none, none, none, none, none]⟩) fun st => loopC (evCode E R pol_spec_l05Find N (sub [1, 0, 1, 0, 0] (bodyOf F_spec_l05Find))) (maskAt R pol_spec_l05Find.loopM 2) n st (kBlk (maskAt R pol_spec_l05Find.blkM 0) 0 (kSeq (maskAt R pol_spec_l05Find.seqM 6) (evCode E R pol_spec_l05Find N (sub [1, 1] (bodyOf F_spec_l05Find))) (kTop E sg_spec_l05Find F_spec_l05Find)))
theorem spec_l05Find.l0_zero (R : Run) (hw : R.ok) (N : Nat) (c_1 : ((List (List Int)) × Unit)) (s_2 : (List Int)) (i_3 : Int) : spec_l05Find.l0 R N 0 c_1 s_2 i_3 = none := (hw _ _).trans (by kernel_rfl)
theorem spec_l05Find.l0_succ (R : Run) (hw : R.ok) (N : Nat) (n : Nat) (c_1 : ((List (List Int)) × Unit)) (s_2 : (List Int)) (i_3 : Int) : spec_l05Find.l0 R N (n + 1) c_1 s_2 i_3 = (bif (decide (i_3 < (List.length c_1.1 : Int))) then (Option.bind (idx? c_1.1 i_3) fun y4 => (Option.bind (callT R n_spec_l00Same o_spec_l00Same [⟨(.sl (.int .i64)), (y4, ()).1⟩, ⟨(.sl (.int .i64)), s_2⟩]) fun r5 => (bif r5.1 then some ⟨o_spec_l05Find, (i_3, ())⟩ else (spec_l05Find.l0 R N n c_1 s_2 (w64 (i_3 + (1 : Int))))))) else some ⟨o_spec_l05Find, ((-1 : Int), ())⟩) := (hw _ _).trans (by kernel_rfl)
theorem spec_l05Find.ev (R : Run) (N : Nat) (a0 : ((List (List Int)) × Unit)) (a1 : (List Int)) : evFn E R sg_spec_l05Find pol_spec_l05Find F_spec_l05Find N [⟨(.ptr (.cons (.sl (.sl (.int .i64))) .nil)), a0⟩, ⟨(.sl (.int .i64)), a1⟩] = (spec_l05Find.l0 R N N a0 a1 (0 : Int)) := by kernel_rfl
/-! loop.example/g01005/spec.l05Ok -/
noncomputable def spec_l05Ok.j3 (R : Run) (N : Nat) (n110100 : Nat) (n11010010011100 : Nat) (t0__13 : ((List (List Int)) × Unit)) (t3__14 : Int) (t4__15 : (List Int)) (t5__16 : Int) (t56__17 : Bool) : Option Dv := R.w (some ⟨[.c (.ip (.cons (.sl (.sl (.int .i64))) .nil) t0__13 0), V.dead, V.dead, .c (.d (.int .i64) t3__14), .c (.d (.sl (.int .i64)) t4__15), .c (.d (.int .i64) t5__16), V.dead, V.dead, V.dead, V.dead, V.dead, V.dead, V.dead, V.dead, V.dead, V.dead, V.dead, V.dead, V.dead, V.dead, V.dead, V.dead, V.dead, V.dead, V.dead, V.dead, V.dead, V.dead, V.dead, V.dead, V.dead, V.dead, V.dead, V.dead, V.dead, V.dead, V.dead, V.dead, V.dead, V.dead, V.dead, V.dead, V.dead, V.dead, V.dead, V.dead, V.dead, V.dead, V.dead, V.dead, V.dead, V.dead, V.dead, V.dead, V.dead, V.dead, .c (.d .bool t56__17), V.dead, V.dead, V.dead, V.dead, V.dead, V.dead, V.dead, V.dead], [none, none, none, none, none, none, none, none, none, none, none, none, none, none, none, none, none, none, none, none, none, none, none, none, none, none, none, none, none, none, none, none, none, none, none, none, none, none, none, none, none, none, none, none, none, none, none, none, none, none, none, none, none, none, none, none, none, none, none, none, none, none, none, none, none, none]⟩) fun st => evCode E R pol_spec_l05Ok N (sub [1, 1, 0, 1, 0, 0, 1, 0, 0, 1, 1, 1, 0, 0, 0, 1] (bodyOf F_spec_l05Ok)) st (kSeq (maskAt R pol_spec_l05Ok.seqM 12) (evCode E R pol_spec_l05Ok N (sub [1, 1, 0, 1, 0, 0, 1, 0, 0, 1, 1, 1, 0, 0, 1] (bodyOf F_spec_l05Ok))) (kLoop (evCode E R pol_spec_l05Ok N (sub [1, 1, 0, 1, 0, 0, 1, 0, 0, 1, 1, 1, 0, 0] (bodyOf F_spec_l05Ok))) (maskAt R pol_spec_l05Ok.loopM 10) n11010010011100 (kBlk (maskAt R pol_spec_l05Ok.blkM 2) 2 (kBlk (maskAt R pol_spec_l05Ok.blkM 1) 1 (kSeq (maskAt R pol_spec_l05Ok.seqM 5) (evCode E R pol_spec_l05Ok N (sub [1, 1, 0, 1, 0, 0, 1, 1] (bodyOf F_spec_l05Ok))) (kLoop (evCode E R pol_spec_l05Ok N (sub [1, 1, 0, 1, 0, 0] (bodyOf F_spec_l05Ok))) (maskAt R pol_spec_l05Ok.loopM 4) n110100 (kBlk (maskAt R pol_spec_l05Ok.blkM 0) 0 (kSeq (maskAt R pol_spec_l05Ok.seqM 14) (evCode E R pol_spec_l05Ok N (sub [1, 1, 1] (bodyOf F_spec_l05Ok))) (kTop E sg_spec_l05Ok F_spec_l05Ok)))))))))
noncomputable def spec_l05Ok.l2 (R : Run) (N : Nat) (n110100 : Nat) (n : Nat) (t0__9 : ((List (List Int)) × Unit)) (t3__10 : Int) (t4__11 : (List Int)) (t5__12 : Int) : Option Dv := R.w (some ⟨[.c (.ip (.cons (.sl (.sl (.int .i64))) .nil) t0__9 0), V.dead, V.dead, .c (.d (.int .i64) t3__10), .c (.d (.sl (.int .i64)) t4__11), .c (.d (.int .i64) t5__12), V.dead, V.dead, V.dead, V.dead, V.dead, V.dead, V.dead, V.dead, V.dead, V.dead, V.dead, V.dead, V.dead, V.dead, V.dead, V.dead, V.dead, V.dead, V.dead, V.dead, V.dead, V.dead, V.dead, V.dead, V.dead, V.dead, V.dead, V.dead, V.dead, V.dead, V.dead, V.dead, V.dead, V.dead, V.dead, V.dead, V.dead, V.dead, V.dead, V.dead, V.dead, V.dead, V.dead, V.dead, V.dead, V.dead, V.dead, V.dead, V.dead, V.dead, V.dead, V.dead, V.dead, V.dead, V.dead, V.dead, V.dead, V.dead, V.dead], [none, none, none, none, none, none, none, none, none, none, none, none, none, none, none, none, none, none, none, none, none, none, none, none, none, none, none, none, none, none, none, none, none, none, none, none, none, none, none, none, none, none, none, none, none, none, none, none, none, none, none, none, none, none, none, none, none, none, none, none, none, none, none, none, none, none]⟩) fun st => loopC (evCode E R pol_spec_l05Ok N (sub [1, 1, 0, 1, 0, 0, 1, 0, 0, 1, 1, 1, 0, 0] (bodyOf F_spec_l05Ok))) (maskAt R pol_spec_l05Ok.loopM 10) n st (kBlk (maskAt R pol_spec_l05Ok.blkM 2) 2 (kBlk (maskAt R pol_spec_l05Ok.blkM 1) 1 (kSeq (maskAt R pol_spec_l05Ok.seqM 5) (evCode E R pol_spec_l05Ok N (sub [1, 1, 0, 1, 0, 0, 1, 1] (bodyOf F_spec_l05Ok))) (kLoop (evCode E R pol_spec_l05Ok N (sub [1, 1, 0, 1, 0, 0] (bodyOf F_spec_l05Ok))) (maskAt R pol_spec_l05Ok.loopM 4) n110100 (kBlk (maskAt R pol_spec_l05Ok.blkM 0) 0 (kSeq (maskAt R pol_spec_l05Ok.seqM 14) (evCode E R pol_spec_l05Ok N (sub [1, 1, 1] (bodyOf F_spec_l05Ok))) (kTop E sg_spec_l05Ok F_spec_l05Ok)))))))
noncomputable def spec_l05Ok.j1 (R : Run) (N : Nat) (n110100 : Nat) (t0__5 : ((List (List Int)) × Unit)) (t3__6 : Int) (t4__7 : (List Int)) (t47__8 : Bool) : Option Dv := R.w (some ⟨[.c (.ip (.cons (.sl (.sl (.int .i64))) .nil) t0__5 0), V.dead, V.dead, .c (.d (.int .i64) t3__6), .c (.d (.sl (.int .i64)) t4__7), V.dead, V.dead, V.dead, V.dead, V.dead, V.dead, V.dead, V.dead, V.dead, V.dead, V.dead, V.dead, V.dead, V.dead, V.dead, V.dead, V.dead, V.dead, V.dead, V.dead, V.dead, V.dead, V.dead, V.dead, V.dead, V.dead, V.dead, V.dead, V.dead, V.dead, V.dead, V.dead, V.dead, V.dead, V.dead, V.dead, V.dead, V.dead, V.dead, V.dead, V.dead, V.dead, .c (.d .bool t47__8), V.dead, V.dead, V.dead, V.dead, V.dead, V.dead, V.dead, V.dead, V.dead, V.dead, V.dead, V.dead, V.dead, V.dead, V.dead, V.dead, V.dead], [none, none, none, none, none, none, none, none, none, none, none, none, none, none, none, none, none, none, none, none, none, none, none, none, none, none, none, none, none, none, none, none, none, none, none, none, none, none, none, none, none, none, none, none, none, none, none, none, none, none, none, none, none, none, none, none, none, none, none, none, none, none, none, none, none, none]⟩) fun st => evCode E R pol_spec_l05Ok N (sub [1, 1, 0, 1, 0, 0, 1, 0, 0, 1, 0, 1] (bodyOf F_spec_l05Ok)) st (kSeq (maskAt R pol_spec_l05Ok.seqM 9) (evCode E R pol_spec_l05Ok N (sub [1, 1, 0, 1, 0, 0, 1, 0, 0, 1, 1] (bodyOf F_spec_l05Ok))) (kBlk (maskAt R pol_spec_l05Ok.blkM 1) 1 (kSeq (maskAt R pol_spec_l05Ok.seqM 5) (evCode E R pol_spec_l05Ok N (sub [1, 1, 0, 1, 0, 0, 1, 1] (bodyOf F_spec_l05Ok))) (kLoop (evCode E R pol_spec_l05Ok N (sub [1, 1, 0, 1, 0, 0] (bodyOf F_spec_l05Ok))) (maskAt R pol_spec_l05Ok.loopM 4) n110100 (kBlk (maskAt R pol_spec_l05Ok.blkM 0) 0 (kSeq (maskAt R pol_spec_l05Ok.seqM 14) (evCode E R pol_spec_l05Ok N (sub [1, 1, 1] (bodyOf F_spec_l05Ok))) (kTop E sg_spec_l05Ok F_spec_l05Ok)))))))
noncomputable def spec_l05Ok.l0 (R : Run) (N : Nat) (n : Nat) (t0__1 : ((List (List Int)) × Unit)) (t3__2 : Int) : Option Dv := R.w (some ⟨[.c (.ip (.cons (.sl (.sl (.int .i64))) .nil) t0__1 0), V.dead, V.dead, .c (.d (.int .i64) t3__2), V.dead, V.dead, V.dead, V.dead, V.dead, V.dead, V.dead, V.dead, V.dead, V.dead, V.dead, V.dead, V.dead, V.dead, V.dead, V.dead, V.dead, V.dead, V.dead, V.dead, V.dead, V.dead, V.dead, V.dead, V.dead, V.dead, V.dead, V.dead, V.dead, V.dead, V.dead, V.dead, V.dead, V.dead, V.dead, V.dead, V.dead, V.dead, V.dead, V.dead, V.dead, V.dead, V.dead, V.dead, V.dead, V.dead, V.dead, V.dead, V.dead, V.dead, V.dead, V.dead, V.dead, V.dead, V.dead, V.dead, V.dead, V.dead, V.dead, V.dead, V.dead], [none, none, none, none, none, none, none, none, none, none, none, none, none, none, none, none, none, none, none, none, none, none, none, none, none, none, none, none, none, none, none, none, none, none, none, none, none, none, none, none, none, none, none, none, none, none, none, none, none, none, none, none, none, none, none, none, none, none, none, none, none, none, none, none, none, none]⟩) fun st => loopC (evCode E R pol_spec_l05Ok N (sub [1, 1, 0, 1, 0, 0] (bodyOf F_spec_l05Ok))) (maskAt R pol_spec_l05Ok.loopM 4) n st (kBlk (maskAt R pol_spec_l05Ok.blkM 0) 0 (kSeq (maskAt R pol_spec_l05Ok.seqM 14) (evCode E R pol_spec_l05Ok N (sub [1, 1, 1] (bodyOf F_spec_l05Ok))) (kTop E sg_spec_l05Ok F_spec_l05Ok)))
theorem spec_l05Ok.j3_eq (R : Run) (hw : R.ok) (N : Nat) (n110100 : Nat) (n11010010011100 : Nat) (t0__13 : ((List (List Int)) × Unit)) (t3__14 : Int) (t4__15 : (List Int)) (t5__16 : Int) (t56__17 : Bool) : spec_l05Ok.j3 R N n110100 n11010010011100 t0__13 t3__14 t4__15 t5__16 t56__17 = (bif t56__17 then (Option.bind (callT R n_spec_l05Drop o_spec_l05Drop [⟨(.sl (.int .i64)), t4__15⟩, ⟨(.int .i64), t5__16⟩]) fun r18 => (Option.bind (callT R n_spec_l05Find o_spec_l05Find [⟨(.ptr (.cons (.sl (.sl (.int .i64))) .nil)), t0__13⟩, ⟨(.sl (.int .i64)), r18.1⟩]) fun r19 => (bif (decide (r19.1 < (0 : Int))) then some ⟨o_spec_l05Ok, (false, ())⟩ else (spec_l05Ok.l2 R N n110100 n11010010011100 t0__13 t3__14 t4__15 (w64 (t5__16 + (1 : Int))))))) else (spec_l05Ok.l0 R N n110100 t0__13 (w64 (t3__14 + (1 : Int))))) := (hw _ _).trans (by kernel_rfl)
theorem spec_l05Ok.l2_zero (R : Run) (hw : R.ok) (N : Nat) (n110100 : Nat) (t0__9 : ((List (List Int)) × Unit)) (t3__10 : Int) (t4__11 : (List Int)) (t5__12 : Int) : spec_l05Ok.l2 R N n110100 0 t0__9 t3__10 t4__11 t5__12 = none := (hw _ _).trans (by kernel_rfl)
theorem spec_l05Ok.l2_succ (R : Run) (hw : R.ok) (N : Nat) (n110100 : Nat) (n : Nat) (t0__9 : ((List (List Int)) × Unit)) (t3__10 : Int) (t4__11 : (List Int)) (t5__12 : Int) : spec_l05Ok.l2 R N n110100 (n + 1) t0__9 t3__10 t4__11 t5__12 = (bif (decide (t5__12 < (List.length t4__11 : Int))) then (spec_l05Ok.j3 R N n110100 n t0__9 t3__10 t4__11 t5__12 (decide ((List.length t4__11 : Int) > (1 : Int)))) else (spec_l05Ok.j3 R N n110100 n t0__9 t3__10 t4__11 t5__12 false)) := (hw _ _).trans (by kernel_rfl)
theorem spec_l05Ok.j1_eq (R : Run) (hw : R.ok) (N : Nat) (n110100 : Nat) (t0__5 : ((List (List Int)) × Unit)) (t3__6 : Int) (t4__7 : (List Int)) (t47__8 : Bool) : spec_l05Ok.j1 R N n110100 t0__5 t3__6 t4__7 t47__8 = (bif t47__8 then some ⟨o_spec_l05Ok, (false, ())⟩ else (spec_l05Ok.l2 R N n110100 N t0__5 t3__6 t4__7 (0 : Int))) := (hw _ _).trans (by kernel_rfl)
theorem spec_l05Ok.l0_zero (R : Run) (hw : R.ok) (N : Nat) (t0__1 : ((List (List Int)) × Unit)) (t3__2 : Int) : spec_l05Ok.l0 R N 0 t0__1 t3__2 = none := (hw _ _).trans (by kernel_rfl)
theorem spec_l05Ok.l0_succ (R : Run) (hw : R.ok) (N : Nat) (n : Nat) (t0__1 : ((List (List Int)) × Unit)) (t3__2 : Int) : spec_l05Ok.l0 R N (n + 1) t0__1 t3__2 = (bif (decide (t3__2 < (List.length t0__1.1 : Int))) then (Option.bind (idx? t0__1.1 t3__2) fun y3 => (Option.bind (callT R n_spec_l05Simplex o_spec_l05Simplex [⟨(.sl (.int .i64)), (y3, ()).1⟩]) fun r4 => (bif (!r4.1) then (spec_l05Ok.j1 R N n t0__1 t3__2 ((y3, ()).1) true) else (bif (decide (t3__2 > (0 : Int))) then (Option.bind (idx? t0__1.1 (w64 (t3__2 - (1 : Int)))) fun y31 => (Option.bind (callT R n_spec_l05Before o_spec_l05Before [⟨(.sl (.int .i64)), (y31, ()).1⟩, ⟨(.sl (.int .i64)), (y3, ()).1⟩]) fun r32 => (spec_l05Ok.j1 R N n t0__1 t3__2 ((y3, ()).1) (!r32.1)))) else (spec_l05Ok.j1 R N n t0__1 t3__2 ((y3, ()).1) false))))) else some ⟨o_spec_l05Ok, (true, ())⟩) := (hw _ _).trans (by kernel_rfl)
theorem spec_l05Ok.ev (R : Run) (N : Nat) (a0 : ((List (List Int)) × Unit)) : evFn E R sg_spec_l05Ok pol_spec_l05Ok F_spec_l05Ok N [⟨(.ptr (.cons (.sl (.sl (.int .i64))) .nil)), a0⟩] = (bif (decide ((List.length a0.1 : Int) > (48 : Int))) then some ⟨o_spec_l05Ok, (false, ())⟩ else (spec_l05Ok.l0 R N N a0 (0 : Int))) := by kernel_rfl
/-! loop.example/g01005/spec.l00Has -/
noncomputable def spec_l00Has.l0 (R : Run) (N : Nat) (n : Nat) (list_1 : (List Int)) (n_2 : Int) (i_3 : Int) : Option Dv := R.w (some ⟨[.c (.d (.sl (.int .i64)) list_1), .c (.d (.int .i64) n_2), V.dead, V.dead, V.dead, .c (.d (.int .i64) i_3), V.dead, V.dead, V.dead, V.dead, V.dead, V.dead, V.dead, V.dead, V.dead, V.dead, V.dead, V.dead], [none, none, none, none, none, none, none, none, none, none, none, none, none, none, none, none, none, none, none, none]⟩) fun st => loopC (evCode E R pol_spec_l00Has N (sub [1, 0, 1, 0, 0] (bodyOf F_spec_l00Has))) (maskAt R pol_spec_l00Has.loopM 2) n st (kBlk (maskAt R pol_spec_l00Has.blkM 0) 0 (kSeq (maskAt R pol_spec_l00Has.seqM 6) (evCode E R pol_spec_l00Has N (sub [1, 1] (bodyOf F_spec_l00Has))) (kTop E sg_spec_l00Has F_spec_l00Has)))
theorem spec_l00Has.l0_zero (R : Run) (hw : R.ok) (N : Nat) (list_1 : (List Int)) (n_2 : Int) (i_3 : Int) : spec_l00Has.l0 R N 0 list_1 n_2 i_3 = none := (hw _ _).trans (by kernel_rfl)
theorem spec_l00Has.l0_succ (R : Run) (hw : R.ok) (N : Nat) (n : Nat) (list_1 : (List Int)) (n_2 : Int) (i_3 : Int) : spec_l00Has.l0 R N (n + 1) list_1 n_2 i_3 = (bif (decide (i_3 < (List.length list_1 : Int))) then (Option.bind (idx? list_1 i_3) fun y4 => (bif ((y4, ()).1 == n_2) then some ⟨o_spec_l00Has, (true, ())⟩ else (spec_l00Has.l0 R N n list_1 n_2 (w64 (i_3 + (1 : Int)))))) else some ⟨o_spec_l00Has, (false, ())⟩) := (hw _ _).trans (by kernel_rfl)
theorem spec_l00Has.ev (R : Run) (N : Nat) (a0 : (List Int)) (a1 : Int) : evFn E R sg_spec_l00Has pol_spec_l00Has F_spec_l00Has N [⟨(.sl (.int .i64)), a0⟩, ⟨(.int .i64), a1⟩] = (spec_l00Has.l0 R N N a0 a1 (0 : Int)) := by kernel_rfl
/-! loop.example/g01005/spec.l05Part -/
noncomputable def spec_l05Part.l0 (R : Run) (N : Nat) (n : Nat) (a_1 : (List Int)) (b_2 : (List Int)) (i_3 : Int) : Option Dv := R.w (some ⟨[.c (.d (.sl (.int .i64)) a_1), .c (.d (.sl (.int .i64)) b_2), V.dead, V.dead, V.dead, .c (.d (.int .i64) i_3), V.dead, V.dead, V.dead, V.dead, V.dead, V.dead, V.dead, V.dead, V.dead, V.dead, V.dead, V.dead, V.dead], [none, none, none, none, none, none, none, none, none, none, none, none, none, none, none, none, none, none, none, none, none]⟩) fun st => loopC (evCode E R pol_spec_l05Part N (sub [1, 0, 1, 0, 0] (bodyOf F_spec_l05Part))) (maskAt R pol_spec_l05Part.loopM 2) n st (kBlk (maskAt R pol_spec_l05Part.blkM 0) 0 (kSeq (maskAt R pol_spec_l05Part.seqM 6) (evCode E R pol_spec_l05Part N (sub [1, 1] (bodyOf F_spec_l05Part))) (kTop E sg_spec_l05Part F_spec_l05Part)))
theorem spec_l05Part.l0_zero (R : Run) (hw : R.ok) (N : Nat) (a_1 : (List Int)) (b_2 : (List Int)) (i_3 : Int) : spec_l05Part.l0 R N 0 a_1 b_2 i_3 = none := (hw _ _).trans (by kernel_rfl)
theorem spec_l05Part.l0_succ (R : Run) (hw : R.ok) (N : Nat) (n : Nat) (a_1 : (List Int)) (b_2 : (List Int)) (i_3 : Int) : spec_l05Part.l0 R N (n + 1) a_1 b_2 i_3 = (bif (decide (i_3 < (List.length a_1 : Int))) then (Option.bind (idx? a_1 i_3) fun y4 => (Option.bind (callT R n_spec_l00Has o_spec_l00Has [⟨(.sl (.int .i64)), b_2⟩, ⟨(.int .i64), (y4, ()).1⟩]) fun r5 => (bif (!r5.1) then some ⟨o_spec_l05Part, (false, ())⟩ else (spec_l05Part.l0 R N n a_1 b_2 (w64 (i_3 + (1 : Int))))))) else some ⟨o_spec_l05Part, (true, ())⟩) := (hw _ _).trans (by kernel_rfl)
theorem spec_l05Part.ev (R : Run) (N : Nat) (a0 : (List Int)) (a1 : (List Int)) : evFn E R sg_spec_l05Part pol_spec_l05Part F_spec_l05Part N [⟨(.sl (.int .i64)), a0⟩, ⟨(.sl (.int .i64)), a1⟩] = (spec_l05Part.l0 R N N a0 a1 (0 : Int)) := by kernel_rfl
/-! loop.example/g01005/spec.l05Star -/
noncomputable def spec_l05Star.l0 (R : Run) (N : Nat) (n : Nat) (c_1 : ((List (List Int)) × Unit)) (s_2 : (List Int)) (i_3 : Int) (o7_4 : (List Int)) : Option Dv := R.w (some ⟨[.c (.ip (.cons (.sl (.sl (.int .i64))) .nil) c_1 0), .c (.d (.sl (.int .i64)) s_2), V.dead, V.dead, V.dead, .c (.arr 7), .c (.d (.int .i64) i_3), V.dead, V.dead, V.dead, V.dead, V.dead, V.dead, V.dead, V.dead, V.dead, V.dead, V.dead, V.dead, V.dead, V.dead, V.dead, V.dead, V.dead, V.dead, V.dead, V.dead, V.dead, V.dead, V.dead, V.dead], [none, none, none, none, none, none, none, some (.arr (.int .i64) o7_4 true false false), none, none, none, none, none, none, none, none, none, none, none, none, none, none, none, none, none, none, none, none, none, none, none, none, none]⟩) fun st => loopC (evCode E R pol_spec_l05Star N (sub [1, 1, 0, 1, 0, 0] (bodyOf F_spec_l05Star))) (maskAt R pol_spec_l05Star.loopM 3) n st (kBlk (maskAt R pol_spec_l05Star.blkM 0) 0 (kSeq (maskAt R pol_spec_l05Star.seqM 7) (evCode E R pol_spec_l05Star N (sub [1, 1, 1] (bodyOf F_spec_l05Star))) (kTop E sg_spec_l05Star F_spec_l05Star)))
theorem spec_l05Star.l0_zero (R : Run) (hw : R.ok) (N : Nat) (c_1 : ((List (List Int)) × Unit)) (s_2 : (List Int)) (i_3 : Int) (o7_4 : (List Int)) : spec_l05Star.l0 R N 0 c_1 s_2 i_3 o7_4 = none := (hw _ _).trans (by kernel_rfl)
theorem spec_l05Star.l0_succ (R : Run) (hw : R.ok) (N : Nat) (n : Nat) (c_1 : ((List (List Int)) × Unit)) (s_2 : (List Int)) (i_3 : Int) (o7_4 : (List Int)) : spec_l05Star.l0 R N (n + 1) c_1 s_2 i_3 o7_4 = (bif (decide (i_3 < (List.length c_1.1 : Int))) then (Option.bind (idx? c_1.1 i_3) fun y5 => (Option.bind (callT R n_spec_l05Part o_spec_l05Part [⟨(.sl (.int .i64)), s_2⟩, ⟨(.sl (.int .i64)), (y5, ()).1⟩]) fun r6 => (bif r6.1 then (Option.bind (chk (decide ((List.length o7_4 + List.length [i_3]) * 8 ≤ 70368744177664))) fun _ => (spec_l05Star.l0 R N n c_1 s_2 (w64 (i_3 + (1 : Int))) (o7_4 ++ [i_3]))) else (spec_l05Star.l0 R N n c_1 s_2 (w64 (i_3 + (1 : Int))) o7_4)))) else some ⟨o_spec_l05Star, (o7_4, ())⟩) := (hw _ _).trans (by kernel_rfl)
theorem spec_l05Star.ev (R : Run) (N : Nat) (a0 : ((List (List Int)) × Unit)) (a1 : (List Int)) : evFn E R sg_spec_l05Star pol_spec_l05Star F_spec_l05Star N [⟨(.ptr (.cons (.sl (.sl (.int .i64))) .nil)), a0⟩, ⟨(.sl (.int .i64)), a1⟩] = (spec_l05Star.l0 R N N a0 a1 (0 : Int) ([] : List Int)) := by kernel_rfl
/-! loop.example/g01005/spec.l08Free -/
noncomputable def spec_l08Free.l0 (R : Run) (N : Nat) (n : Nat) (c_1 : ((List (List Int)) × Unit)) (k_2 : Int) (o6_3 : (List (List Int))) : Option Dv := R.w (some ⟨[.c (.ip (.cons (.sl (.sl (.int .i64))) .nil) c_1 0), V.dead, V.dead, .c (.arr 6), .c (.d (.int .i64) k_2), V.dead, V.dead, V.dead, V.dead, V.dead, V.dead, V.dead, V.dead, V.dead, V.dead, V.dead, V.dead, V.dead, V.dead, V.dead, V.dead, V.dead, V.dead, V.dead, V.dead, V.dead, V.dead, V.dead, V.dead, V.dead, V.dead, V.dead, V.dead, V.dead, V.dead, V.dead, V.dead], [none, none, none, none, none, none, some (.arr (.sl (.int .i64)) o6_3 true false false), none, none, none, none, none, none, none, none, none, none, none, none, none, none, none, none, none, none, none, none, none, none, none, none, none, none, none, none, none, none, none]⟩) fun st => loopC (evCode E R pol_spec_l08Free N (sub [1, 1, 0, 1, 0, 0] (bodyOf F_spec_l08Free))) (maskAt R pol_spec_l08Free.loopM 3) n st (kBlk (maskAt R pol_spec_l08Free.blkM 0) 0 (kSeq (maskAt R pol_spec_l08Free.seqM 8) (evCode E R pol_spec_l08Free N (sub [1, 1, 1] (bodyOf F_spec_l08Free))) (kTop E sg_spec_l08Free F_spec_l08Free)))
theorem spec_l08Free.l0_zero (R : Run) (hw : R.ok) (N : Nat) (c_1 : ((List (List Int)) × Unit)) (k_2 : Int) (o6_3 : (List (List Int))) : spec_l08Free.l0 R N 0 c_1 k_2 o6_3 = none := (hw _ _).trans (by kernel_rfl)
theorem spec_l08Free.l0_succ (R : Run) (hw : R.ok) (N : Nat) (n : Nat) (c_1 : ((List (List Int)) × Unit)) (k_2 : Int) (o6_3 : (List (List Int))) : spec_l08Free.l0 R N (n + 1) c_1 k_2 o6_3 = (bif (decide (k_2 < (List.length c_1.1 : Int))) then (Option.bind (idx? c_1.1 k_2) fun y4 => (Option.bind (callT R n_spec_l05Star o_spec_l05Star [⟨(.ptr (.cons (.sl (.sl (.int .i64))) .nil)), c_1⟩, ⟨(.sl (.int .i64)), (y4, ()).1⟩]) fun r5 => (bif ((List.length r5.1 : Int) == (2 : Int)) then (Option.bind (idx? r5.1 (1 : Int)) fun y6 => (Option.bind (chk (decide ((List.length o6_3 + List.length [[k_2, (y6, ()).1]]) * 24 ≤ 70368744177664))) fun _ => (spec_l08Free.l0 R N n c_1 (w64 (k_2 + (1 : Int))) (o6_3 ++ [[k_2, (y6, ()).1]])))) else (spec_l08Free.l0 R N n c_1 (w64 (k_2 + (1 : Int))) o6_3)))) else some ⟨o_spec_l08Free, (o6_3, ())⟩) := (hw _ _).trans (by kernel_rfl)
theorem spec_l08Free.ev (R : Run) (N : Nat) (a0 : ((List (List Int)) × Unit)) : evFn E R sg_spec_l08Free pol_spec_l08Free F_spec_l08Free N [⟨(.ptr (.cons (.sl (.sl (.int .i64))) .nil)), a0⟩] = (spec_l08Free.l0 R N N a0 (0 : Int) ([] : List (List Int))) := by kernel_rfl
/-! loop.example/g01005/spec.FreePairs -/
theorem spec_FreePairs.ev (R : Run) (N : Nat) (a0 : (List (List Int))) : evFn E R sg_spec_FreePairs pol_spec_FreePairs F_spec_FreePairs N [⟨(.sl (.sl (.int .i64))), a0⟩] = (Option.bind (callT R n_spec_l05Ok o_spec_l05Ok [⟨(.ptr (.cons (.sl (.sl (.int .i64))) .nil)), (a0, ())⟩]) fun r1 => (bif (!r1.1) then some ⟨o_spec_FreePairs, (([] : List (List Int)), (1 : Int), ())⟩ else (Option.bind (callT R n_spec_l08Free o_spec_l08Free [⟨(.ptr (.cons (.sl (.sl (.int .i64))) .nil)), (a0, ())⟩]) fun r2 => some ⟨o_spec_FreePairs, (r2.1, (0 : Int), ())⟩))) := by kernel_rfl
/-! loop.example/g01005/impl.isRising -/
noncomputable def impl_isRising.l0 (R : Run) (N : Nat) (n : Nat) (list_1 : (List Int)) (k_2 : Int) : Option Dv := R.w (some ⟨[.c (.d (.sl (.int .i64)) list_1), V.dead, V.dead, .c (.d (.int .i64) k_2), V.dead, V.dead, V.dead, V.dead, V.dead, V.dead, V.dead, V.dead, V.dead, V.dead, V.dead, V.dead, V.dead, V.dead, V.dead, V.dead], [none, none, none, none, none, none, none, none, none, none, none, none, none, none, none, none, none, none, none, none, none]⟩) fun st => loopC (evCode E R pol_impl_isRising N (sub [1, 0, 1, 0, 0] (bodyOf F_impl_isRising))) (maskAt R pol_impl_isRising.loopM 2) n st (kBlk (maskAt R pol_impl_isRising.blkM 0) 0 (kSeq (maskAt R pol_impl_isRising.seqM 6) (evCode E R pol_impl_isRising N (sub [1, 1] (bodyOf F_impl_isRising))) (kTop E sg_impl_isRising F_impl_isRising)))
theorem impl_isRising.l0_zero (R : Run) (hw : R.ok) (N : Nat) (list_1 : (List Int)) (k_2 : Int) : impl_isRising.l0 R N 0 list_1 k_2 = none := (hw _ _).trans (by kernel_rfl)
theorem impl_isRising.l0_succ (R : Run) (hw : R.ok) (N : Nat) (n : Nat) (list_1 : (List Int)) (k_2 : Int) : impl_isRising.l0 R N (n + 1) list_1 k_2 = (bif (decide (k_2 < (List.length list_1 : Int))) then (Option.bind (idx? list_1 (w64 (k_2 - (1 : Int)))) fun y3 => (Option.bind (idx? list_1 k_2) fun y4 => (bif (decide ((y3, ()).1 ≥ (y4, ()).1)) then some ⟨o_impl_isRising, (false, ())⟩ else (impl_isRising.l0 R N n list_1 (w64 (k_2 + (1 : Int))))))) else some ⟨o_impl_isRising, (true, ())⟩) := (hw _ _).trans (by kernel_rfl)
theorem impl_isRising.ev (R : Run) (N : Nat) (a0 : (List Int)) : evFn E R sg_impl_isRising pol_impl_isRising F_impl_isRising N [⟨(.sl (.int .i64)), a0⟩] = (impl_isRising.l0 R N N a0 (1 : Int)) := by kernel_rfl
/-! loop.example/g01005/impl.within -/
theorem impl_within.ev (R : Run) (N : Nat) (a0 : Int) (a1 : Int) (a2 : Int) : evFn E R sg_impl_within pol_impl_within F_impl_within N [⟨(.int .i64), a0⟩, ⟨(.int .i64), a1⟩, ⟨(.int .i64), a2⟩] = (bif (decide (a0 ≥ a1)) then some ⟨o_impl_within, ((decide (a0 ≤ a2)), ())⟩ else some ⟨o_impl_within, (false, ())⟩) := by kernel_rfl
/-! loop.example/g01005/impl.isVertex -/
theorem impl_isVertex.ev (R : Run) (N : Nat) (a0 : Int) : evFn E R sg_impl_isVertex pol_impl_isVertex F_impl_isVertex N [⟨(.int .i64), a0⟩] = (Option.bind (callT R n_impl_within o_impl_within [⟨(.int .i64), a0⟩, ⟨(.int .i64), (0 : Int)⟩, ⟨(.int .i64), (9 : Int)⟩]) fun r1 => some ⟨o_impl_isVertex, (r1.1, ())⟩) := by kernel_rfl
/-! loop.example/g01005/impl.ValidSimplex$1 -/
theorem impl_ValidSimplex_1.ev (R : Run) (N : Nat) (a0 : Int) : evFn E R sg_impl_ValidSimplex_1 pol_impl_ValidSimplex_1 F_impl_ValidSimplex_1 N [⟨(.int .i64), a0⟩] = (Option.bind (callT R n_impl_isVertex o_impl_isVertex [⟨(.int .i64), a0⟩]) fun r1 => some ⟨o_impl_ValidSimplex_1, ((!r1.1), ())⟩) := by kernel_rfl
/-! slices.IndexFunc[[]int64,int64] -/
noncomputable def slices_IndexFunc_Sint64_int64_impl_ValidSimplex_1.l0 (R : Run) (N : Nat) (n : Nat) (s_1 : (List Int)) (t7__2 : Int) (t8__3 : Int) : Option Dv := R.w (some ⟨[.c (.d (.sl (.int .i64)) s_1), .c (.d (.fn n_impl_ValidSimplex_1 .nil) ()), V.dead, V.dead, V.dead, V.dead, V.dead, .c (.d (.int .i64) t7__2), .c (.d (.int .i64) t8__3), V.dead, V.dead, V.dead, V.dead, V.dead, V.dead, V.dead, V.dead, V.dead, V.dead], [none, none, none, none, none, none, none, none, none, none, none, none, none, none, none, none, none, none, none, none, none]⟩) fun st => loopC (evCode E R pol_slices_IndexFunc_Sint64_int64 N (sub [1, 0, 1, 0, 0] (bodyOf F_slices_IndexFunc_Sint64_int64))) (maskAt R pol_slices_IndexFunc_Sint64_int64.loopM 2) n st (kBlk (maskAt R pol_slices_IndexFunc_Sint64_int64.blkM 0) 0 (kSeq (maskAt R pol_slices_IndexFunc_Sint64_int64.seqM 7) (evCode E R pol_slices_IndexFunc_Sint64_int64 N (sub [1, 1] (bodyOf F_slices_IndexFunc_Sint64_int64))) (kTop E sg_slices_IndexFunc_Sint64_int64 F_slices_IndexFunc_Sint64_int64)))
theorem slices_IndexFunc_Sint64_int64_impl_ValidSimplex_1.l0_zero (R : Run) (hw : R.ok) (N : Nat) (s_1 : (List Int)) (t7__2 : Int) (t8__3 : Int) : slices_IndexFunc_Sint64_int64_impl_ValidSimplex_1.l0 R N 0 s_1 t7__2 t8__3 = none := (hw _ _).trans (by kernel_rfl)
theorem slices_IndexFunc_Sint64_int64_impl_ValidSimplex_1.l0_succ (R : Run) (hw : R.ok) (N : Nat) (n : Nat) (s_1 : (List Int)) (t7__2 : Int) (t8__3 : Int) : slices_IndexFunc_Sint64_int64_impl_ValidSimplex_1.l0 R N (n + 1) s_1 t7__2 t8__3 = (bif (decide (t8__3 < t7__2)) then (Option.bind (idx? s_1 t8__3) fun y4 => (Option.bind (callT R n_impl_ValidSimplex_1 o_impl_ValidSimplex_1 [⟨(.int .i64), (y4, ()).1⟩]) fun r5 => (bif r5.1 then some ⟨o_slices_IndexFunc_Sint64_int64, (t8__3, ())⟩ else (slices_IndexFunc_Sint64_int64_impl_ValidSimplex_1.l0 R N n s_1 t7__2 (w64 (t8__3 + (1 : Int))))))) else some ⟨o_slices_IndexFunc_Sint64_int64, ((-1 : Int), ())⟩) := (hw _ _).trans (by kernel_rfl)
theorem slices_IndexFunc_Sint64_int64_impl_ValidSimplex_1.ev (R : Run) (N : Nat) (a0 : (List Int)) : evFn E R sg_slices_IndexFunc_Sint64_int64 pol_slices_IndexFunc_Sint64_int64 F_slices_IndexFunc_Sint64_int64 N [⟨(.sl (.int .i64)), a0⟩, ⟨(.fn n_impl_ValidSimplex_1 .nil), ()⟩] = (slices_IndexFunc_Sint64_int64_impl_ValidSimplex_1.l0 R N N a0 (List.length a0 : Int) (0 : Int)) := by kernel_rfl
/-! slices.ContainsFunc[[]int64,int64] -/
theorem slices_ContainsFunc_Sint64_int64_impl_ValidSimplex_1.ev (R : Run) (N : Nat) (a0 : (List Int)) : evFn E R sg_slices_ContainsFunc_Sint64_int64 pol_slices_ContainsFunc_Sint64_int64 F_slices_ContainsFunc_Sint64_int64 N [⟨(.sl (.int .i64)), a0⟩, ⟨(.fn n_impl_ValidSimplex_1 .nil), ()⟩] = (Option.bind (callT R n_slices_IndexFunc_Sint64_int64 o_slices_IndexFunc_Sint64_int64 [⟨(.sl (.int .i64)), a0⟩, ⟨(.fn n_impl_ValidSimplex_1 .nil), ()⟩]) fun r1 => some ⟨o_slices_ContainsFunc_Sint64_int64, ((decide (r1.1 ≥ (0 : Int))), ())⟩) := by kernel_rfl
/-! loop.example/g01005/impl.ValidSimplex -/
theorem impl_ValidSimplex.ev (R : Run) (N : Nat) (a0 : (List Int)) : evFn E R sg_impl_ValidSimplex pol_impl_ValidSimplex F_impl_ValidSimplex N [⟨(.sl (.int .i64)), a0⟩] = (bif (decide ((List.length a0 : Int) ≥ (1 : Int))) then (bif (decide ((List.length a0 : Int) ≤ (4 : Int))) then (Option.bind (callT R n_impl_isRising o_impl_isRising [⟨(.sl (.int .i64)), a0⟩]) fun r1 => (bif r1.1 then (Option.bind (callT R n_slices_ContainsFunc_Sint64_int64 o_slices_ContainsFunc_Sint64_int64 [⟨(.sl (.int .i64)), a0⟩, ⟨(.fn n_impl_ValidSimplex_1 .nil), ()⟩]) fun r2 => some ⟨o_impl_ValidSimplex, ((!r2.1), ())⟩) else some ⟨o_impl_ValidSimplex, (false, ())⟩)) else some ⟨o_impl_ValidSimplex, (false, ())⟩) else some ⟨o_impl_ValidSimplex, (false, ())⟩) := by kernel_rfl
/-! cmp.isNaN[int] -/
theorem cmp_isNaN_int.ev (R : Run) (N : Nat) (a0 : Int) : evFn E R sg_cmp_isNaN_int pol_cmp_isNaN_int F_cmp_isNaN_int N [⟨(.int .i64), a0⟩] = some ⟨o_cmp_isNaN_int, ((a0 != a0), ())⟩ := by kernel_rfl
/-! cmp.Compare[int] -/
theorem cmp_Compare_int.ev (R : Run) (N : Nat) (a0 : Int) (a1 : Int) : evFn E R sg_cmp_Compare_int pol_cmp_Compare_int F_cmp_Compare_int N [⟨(.int .i64), a0⟩, ⟨(.int .i64), a1⟩] = (Option.bind (callT R n_cmp_isNaN_int o_cmp_isNaN_int [⟨(.int .i64), a0⟩]) fun r1 => (Option.bind (callT R n_cmp_isNaN_int o_cmp_isNaN_int [⟨(.int .i64), a1⟩]) fun r2 => (bif r1.1 then (bif r2.1 then some ⟨o_cmp_Compare_int, ((0 : Int), ())⟩ else some ⟨o_cmp_Compare_int, ((-1 : Int), ())⟩) else (bif r2.1 then some ⟨o_cmp_Compare_int, ((1 : Int), ())⟩ else (bif (decide (a0 < a1)) then some ⟨o_cmp_Compare_int, ((-1 : Int), ())⟩ else (bif (decide (a0 > a1)) then some ⟨o_cmp_Compare_int, ((1 : Int), ())⟩ else some ⟨o_cmp_Compare_int, ((0 : Int), ())⟩)))))) := by kernel_rfl
/-! cmp.isNaN[int64] -/
theorem cmp_isNaN_int64.ev (R : Run) (N : Nat) (a0 : Int) : evFn E R sg_cmp_isNaN_int64 pol_cmp_isNaN_int64 F_cmp_isNaN_int64 N [⟨(.int .i64), a0⟩] = some ⟨o_cmp_isNaN_int64, ((a0 != a0), ())⟩ := by kernel_rfl
/-! cmp.Compare[int64] -/
theorem cmp_Compare_int64.ev (R : Run) (N : Nat) (a0 : Int) (a1 : Int) : evFn E R sg_cmp_Compare_int64 pol_cmp_Compare_int64 F_cmp_Compare_int64 N [⟨(.int .i64), a0⟩, ⟨(.int .i64), a1⟩] = (Option.bind (callT R n_cmp_isNaN_int64 o_cmp_isNaN_int64 [⟨(.int .i64), a0⟩]) fun r1 => (Option.bind (callT R n_cmp_isNaN_int64 o_cmp_isNaN_int64 [⟨(.int .i64), a1⟩]) fun r2 => (bif r1.1 then (bif r2.1 then some ⟨o_cmp_Compare_int64, ((0 : Int), ())⟩ else some ⟨o_cmp_Compare_int64, ((-1 : Int), ())⟩) else (bif r2.1 then some ⟨o_cmp_Compare_int64, ((1 : Int), ())⟩ else (bif (decide (a0 < a1)) then some ⟨o_cmp_Compare_int64, ((-1 : Int), ())⟩ else (bif (decide (a0 > a1)) then some ⟨o_cmp_Compare_int64, ((1 : Int), ())⟩ else some ⟨o_cmp_Compare_int64, ((0 : Int), ())⟩)))))) := by kernel_rfl
/-! slices.Compare[[]int64,int64] -/
noncomputable def slices_Compare_Sint64_int64.l0 (R : Run) (N : Nat) (n : Nat) (s1_1 : (List Int)) (s2_2 : (List Int)) (t9__3 : (List Int)) (t10__4 : Int) (t11__5 : Int) : Option Dv := R.w (some ⟨[.c (.d (.sl (.int .i64)) s1_1), .c (.d (.sl (.int .i64)) s2_2), V.dead, V.dead, V.dead, V.dead, V.dead, V.dead, V.dead, .c (.d (.sl (.int .i64)) t9__3), .c (.d (.int .i64) t10__4), .c (.d (.int .i64) t11__5), V.dead, V.dead, V.dead, V.dead, V.dead, V.dead, V.dead, V.dead, V.dead, V.dead, V.dead, V.dead, V.dead, V.dead, V.dead, V.dead, V.dead, V.dead, V.dead, V.dead, V.dead, V.dead, V.dead, V.dead], [none, none, none, none, none, none, none, none, none, none, none, none, none, none, none, none, none, none, none, none, none, none, none, none, none, none, none, none, none, none, none, none, none, none, none, none, none, none]⟩) fun st => loopC (evCode E R pol_slices_Compare_Sint64_int64 N (sub [1, 0, 1, 0, 0] (bodyOf F_slices_Compare_Sint64_int64))) (maskAt R pol_slices_Compare_Sint64_int64.loopM 2) n st (kBlk (maskAt R pol_slices_Compare_Sint64_int64.blkM 0) 0 (kSeq (maskAt R pol_slices_Compare_Sint64_int64.seqM 11) (evCode E R pol_slices_Compare_Sint64_int64 N (sub [1, 1] (bodyOf F_slices_Compare_Sint64_int64))) (kTop E sg_slices_Compare_Sint64_int64 F_slices_Compare_Sint64_int64)))
theorem slices_Compare_Sint64_int64.l0_zero (R : Run) (hw : R.ok) (N : Nat) (s1_1 : (List Int)) (s2_2 : (List Int)) (t9__3 : (List Int)) (t10__4 : Int) (t11__5 : Int) : slices_Compare_Sint64_int64.l0 R N 0 s1_1 s2_2 t9__3 t10__4 t11__5 = none := (hw _ _).trans (by kernel_rfl)
theorem slices_Compare_Sint64_int64.l0_succ (R : Run) (hw : R.ok) (N : Nat) (n : Nat) (s1_1 : (List Int)) (s2_2 : (List Int)) (t9__3 : (List Int)) (t10__4 : Int) (t11__5 : Int) : slices_Compare_Sint64_int64.l0 R N (n + 1) s1_1 s2_2 t9__3 t10__4 t11__5 = (bif (decide (t11__5 < t10__4)) then (Option.bind (idx? t9__3 t11__5) fun y6 => (bif (decide (t11__5 ≥ (List.length s2_2 : Int))) then some ⟨o_slices_Compare_Sint64_int64, ((1 : Int), ())⟩ else (Option.bind (idx? s2_2 t11__5) fun y7 => (Option.bind (callT R n_cmp_Compare_int64 o_cmp_Compare_int64 [⟨(.int .i64), (y6, ()).1⟩, ⟨(.int .i64), (y7, ()).1⟩]) fun r8 => (bif (r8.1 != (0 : Int)) then some ⟨o_slices_Compare_Sint64_int64, (r8.1, ())⟩ else (slices_Compare_Sint64_int64.l0 R N n s1_1 s2_2 t9__3 t10__4 (w64 (t11__5 + (1 : Int))))))))) else (bif (decide ((List.length s1_1 : Int) < (List.length s2_2 : Int))) then some ⟨o_slices_Compare_Sint64_int64, ((-1 : Int), ())⟩ else some ⟨o_slices_Compare_Sint64_int64, ((0 : Int), ())⟩)) := (hw _ _).trans (by kernel_rfl)
theorem slices_Compare_Sint64_int64.ev (R : Run) (N : Nat) (a0 : (List Int)) (a1 : (List Int)) : evFn E R sg_slices_Compare_Sint64_int64 pol_slices_Compare_Sint64_int64 F_slices_Compare_Sint64_int64 N [⟨(.sl (.int .i64)), a0⟩, ⟨(.sl (.int .i64)), a1⟩] = (slices_Compare_Sint64_int64.l0 R N N a0 a1 a0 (List.length a0 : Int) (0 : Int)) := by kernel_rfl
/-! cmp.Or[int] -/
noncomputable def cmp_Or_int.l0 (R : Run) (N : Nat) (n : Nat) (zero_1 : Int) (t6__2 : (List Int)) (t7__3 : Int) (t8__4 : Int) : Option Dv := R.w (some ⟨[V.dead, V.dead, V.dead, .c (.d (.int .i64) zero_1), V.dead, V.dead, .c (.d (.sl (.int .i64)) t6__2), .c (.d (.int .i64) t7__3), .c (.d (.int .i64) t8__4), V.dead, V.dead, V.dead, V.dead, V.dead, V.dead, V.dead, V.dead, V.dead], [none, none, none, none, none, none, none, none, none, none, none, none, none, none, none, none, none, none, none]⟩) fun st => loopC (evCode E R pol_cmp_Or_int N (sub [1, 1, 0, 1, 0, 0] (bodyOf F_cmp_Or_int))) (maskAt R pol_cmp_Or_int.loopM 3) n st (kBlk (maskAt R pol_cmp_Or_int.blkM 0) 0 (kSeq (maskAt R pol_cmp_Or_int.seqM 8) (evCode E R pol_cmp_Or_int N (sub [1, 1, 1] (bodyOf F_cmp_Or_int))) (kTop E sg_cmp_Or_int F_cmp_Or_int)))
theorem cmp_Or_int.l0_zero (R : Run) (hw : R.ok) (N : Nat) (zero_1 : Int) (t6__2 : (List Int)) (t7__3 : Int) (t8__4 : Int) : cmp_Or_int.l0 R N 0 zero_1 t6__2 t7__3 t8__4 = none := (hw _ _).trans (by kernel_rfl)
theorem cmp_Or_int.l0_succ (R : Run) (hw : R.ok) (N : Nat) (n : Nat) (zero_1 : Int) (t6__2 : (List Int)) (t7__3 : Int) (t8__4 : Int) : cmp_Or_int.l0 R N (n + 1) zero_1 t6__2 t7__3 t8__4 = (bif (decide (t8__4 < t7__3)) then (Option.bind (idx? t6__2 t8__4) fun y5 => (bif ((y5, ()).1 != zero_1) then some ⟨o_cmp_Or_int, ((y5, ()).1, ())⟩ else (cmp_Or_int.l0 R N n zero_1 t6__2 t7__3 (w64 (t8__4 + (1 : Int)))))) else some ⟨o_cmp_Or_int, (zero_1, ())⟩) := (hw _ _).trans (by kernel_rfl)
theorem cmp_Or_int.ev (R : Run) (N : Nat) (a0 : (List Int)) : evFn E R sg_cmp_Or_int pol_cmp_Or_int F_cmp_Or_int N [⟨(.sl (.int .i64)), a0⟩] = (cmp_Or_int.l0 R N N (0 : Int) a0 (List.length a0 : Int) (0 : Int)) := by kernel_rfl
/-! loop.example/g01005/impl.compareSimplices -/
theorem impl_compareSimplices.ev (R : Run) (N : Nat) (a0 : (List Int)) (a1 : (List Int)) : evFn E R sg_impl_compareSimplices pol_impl_compareSimplices F_impl_compareSimplices N [⟨(.sl (.int .i64)), a0⟩, ⟨(.sl (.int .i64)), a1⟩] = (Option.bind (callT R n_cmp_Compare_int o_cmp_Compare_int [⟨(.int .i64), (List.length a0 : Int)⟩, ⟨(.int .i64), (List.length a1 : Int)⟩]) fun r1 => (Option.bind (callT R n_slices_Compare_Sint64_int64 o_slices_Compare_Sint64_int64 [⟨(.sl (.int .i64)), a0⟩, ⟨(.sl (.int .i64)), a1⟩]) fun r2 => (Option.bind (callT R n_cmp_Or_int o_cmp_Or_int [⟨(.sl (.int .i64)), [r1.1, r2.1]⟩]) fun r3 => some ⟨o_impl_compareSimplices, (r3.1, ())⟩))) := by kernel_rfl
/-! slices.Concat[[]int64,int64] -/
noncomputable def slices_Concat_Sint64_int64.l1 (R : Run) (N : Nat) (n : Nat) (t25__13 : (List (List Int))) (t26__14 : Int) (t27__15 : Int) (o37_16 : (List Int)) : Option Dv := R.w (some ⟨[V.dead, V.dead, V.dead, V.dead, V.dead, V.dead, .c (.arr 37), V.dead, V.dead, V.dead, V.dead, V.dead, V.dead, V.dead, V.dead, V.dead, V.dead, V.dead, V.dead, V.dead, V.dead, V.dead, V.dead, V.dead, V.dead, .c (.d (.sl (.sl (.int .i64))) t25__13), .c (.d (.int .i64) t26__14), .c (.d (.int .i64) t27__15), V.dead, V.dead, V.dead, V.dead, V.dead, V.dead, V.dead, V.dead], [none, none, none, none, none, none, none, none, none, none, none, none, none, none, none, none, none, none, none, none, none, none, none, none, none, none, none, none, none, none, none, none, none, none, none, none, none, some (.arr (.int .i64) o37_16 true false false)]⟩) fun st => loopC (evCode E R pol_slices_Concat_Sint64_int64 N (sub [1, 1, 1, 1, 0, 1, 0, 0] (bodyOf F_slices_Concat_Sint64_int64))) (maskAt R pol_slices_Concat_Sint64_int64.loopM 11) n st (kBlk (maskAt R pol_slices_Concat_Sint64_int64.blkM 2) 2 (kSeq (maskAt R pol_slices_Concat_Sint64_int64.seqM 15) (evCode E R pol_slices_Concat_Sint64_int64 N (sub [1, 1, 1, 1, 1] (bodyOf F_slices_Concat_Sint64_int64))) (kTop E sg_slices_Concat_Sint64_int64 F_slices_Concat_Sint64_int64)))
noncomputable def slices_Concat_Sint64_int64.l0 (R : Run) (N : Nat) (n : Nat) (slices_1 : (List (List Int))) (size_2 : Int) (t9__3 : (List (List Int))) (t10__4 : Int) (t11__5 : Int) : Option Dv := R.w (some ⟨[.c (.d (.sl (.sl (.int .i64))) slices_1), V.dead, V.dead, .c (.d (.int .i64) size_2), V.dead, V.dead, V.dead, V.dead, V.dead, .c (.d (.sl (.sl (.int .i64))) t9__3), .c (.d (.int .i64) t10__4), .c (.d (.int .i64) t11__5), V.dead, V.dead, V.dead, V.dead, V.dead, V.dead, V.dead, V.dead, V.dead, V.dead, V.dead, V.dead, V.dead, V.dead, V.dead, V.dead, V.dead, V.dead, V.dead, V.dead, V.dead, V.dead, V.dead, V.dead], [none, none, none, none, none, none, none, none, none, none, none, none, none, none, none, none, none, none, none, none, none, none, none, none, none, none, none, none, none, none, none, none, none, none, none, none, none, none]⟩) fun st => loopC (evCode E R pol_slices_Concat_Sint64_int64 N (sub [1, 1, 0, 1, 0, 0] (bodyOf F_slices_Concat_Sint64_int64))) (maskAt R pol_slices_Concat_Sint64_int64.loopM 3) n st (kBlk (maskAt R pol_slices_Concat_Sint64_int64.blkM 0) 0 (kSeq (maskAt R pol_slices_Concat_Sint64_int64.seqM 9) (evCode E R pol_slices_Concat_Sint64_int64 N (sub [1, 1, 1] (bodyOf F_slices_Concat_Sint64_int64))) (kTop E sg_slices_Concat_Sint64_int64 F_slices_Concat_Sint64_int64)))
theorem slices_Concat_Sint64_int64.l1_zero (R : Run) (hw : R.ok) (N : Nat) (t25__13 : (List (List Int))) (t26__14 : Int) (t27__15 : Int) (o37_16 : (List Int)) : slices_Concat_Sint64_int64.l1 R N 0 t25__13 t26__14 t27__15 o37_16 = none := (hw _ _).trans (by kernel_rfl)
theorem slices_Concat_Sint64_int64.l1_succ (R : Run) (hw : R.ok) (N : Nat) (n : Nat) (t25__13 : (List (List Int))) (t26__14 : Int) (t27__15 : Int) (o37_16 : (List Int)) : slices_Concat_Sint64_int64.l1 R N (n + 1) t25__13 t26__14 t27__15 o37_16 = (bif (decide (t27__15 < t26__14)) then (Option.bind (idx? t25__13 t27__15) fun y17 => (Option.bind (chk (decide ((List.length o37_16 + List.length (y17, ()).1) * 8 ≤ 70368744177664))) fun _ => (slices_Concat_Sint64_int64.l1 R N n t25__13 t26__14 (w64 (t27__15 + (1 : Int))) (o37_16 ++ (y17, ()).1)))) else some ⟨o_slices_Concat_Sint64_int64, (o37_16, ())⟩) := (hw _ _).trans (by kernel_rfl)
theorem slices_Concat_Sint64_int64.l0_zero (R : Run) (hw : R.ok) (N : Nat) (slices_1 : (List (List Int))) (size_2 : Int) (t9__3 : (List (List Int))) (t10__4 : Int) (t11__5 : Int) : slices_Concat_Sint64_int64.l0 R N 0 slices_1 size_2 t9__3 t10__4 t11__5 = none := (hw _ _).trans (by kernel_rfl)
theorem slices_Concat_Sint64_int64.l0_succ (R : Run) (hw : R.ok) (N : Nat) (n : Nat) (slices_1 : (List (List Int))) (size_2 : Int) (t9__3 : (List (List Int))) (t10__4 : Int) (t11__5 : Int) : slices_Concat_Sint64_int64.l0 R N (n + 1) slices_1 size_2 t9__3 t10__4 t11__5 = (bif (decide (t11__5 < t10__4)) then (Option.bind (idx? t9__3 t11__5) fun y6 => (bif (decide ((w64 (size_2 + (List.length (y6, ()).1 : Int))) < (0 : Int))) then none else (slices_Concat_Sint64_int64.l0 R N n slices_1 (w64 (size_2 + (List.length (y6, ()).1 : Int))) t9__3 t10__4 (w64 (t11__5 + (1 : Int)))))) else (Option.bind (callT R n_slices_Grow_Sint64_int64 o_slices_Grow_Sint64_int64 [⟨(.sl (.int .i64)), ([] : List Int)⟩, ⟨(.int .i64), size_2⟩]) fun r12 => (slices_Concat_Sint64_int64.l1 R N N slices_1 (List.length slices_1 : Int) (0 : Int) r12.1))) := (hw _ _).trans (by kernel_rfl)
theorem slices_Concat_Sint64_int64.ev (R : Run) (N : Nat) (a0 : (List (List Int))) : evFn E R sg_slices_Concat_Sint64_int64 pol_slices_Concat_Sint64_int64 F_slices_Concat_Sint64_int64 N [⟨(.sl (.sl (.int .i64))), a0⟩] = (slices_Concat_Sint64_int64.l0 R N N a0 (0 : Int) a0 (List.length a0 : Int) (0 : Int)) := by kernel_rfl
/-! loop.example/g01005/impl.facesOf -/
noncomputable def impl_facesOf.l0 (R : Run) (N : Nat) (n : Nat) (s_1 : (List Int)) (t6__2 : Int) (t7__3 : Int) (o24_4 : (List (List Int))) : Option Dv := R.w (some ⟨[.c (.d (.sl (.int .i64)) s_1), V.dead, V.dead, .c (.arr 24), V.dead, V.dead, .c (.d (.int .i64) t6__2), .c (.d (.int .i64) t7__3), V.dead, V.dead, V.dead, V.dead, V.dead, V.dead, V.dead, V.dead, V.dead, V.dead, V.dead, V.dead, V.dead, V.dead, V.dead, V.dead, V.dead, V.dead, V.dead], [none, none, none, none, none, none, none, none, none, none, none, none, none, none, none, none, none, none, none, none, none, none, none, none, some (.arr (.sl (.int .i64)) o24_4 true false false), none, none, none, none]⟩) fun st => loopC (evCode E R pol_impl_facesOf N (sub [1, 1, 0, 1, 0, 0] (bodyOf F_impl_facesOf))) (maskAt R pol_impl_facesOf.loopM 3) n st (kBlk (maskAt R pol_impl_facesOf.blkM 0) 0 (kSeq (maskAt R pol_impl_facesOf.seqM 8) (evCode E R pol_impl_facesOf N (sub [1, 1, 1] (bodyOf F_impl_facesOf))) (kTop E sg_impl_facesOf F_impl_facesOf)))
theorem impl_facesOf.l0_zero (R : Run) (hw : R.ok) (N : Nat) (s_1 : (List Int)) (t6__2 : Int) (t7__3 : Int) (o24_4 : (List (List Int))) : impl_facesOf.l0 R N 0 s_1 t6__2 t7__3 o24_4 = none := (hw _ _).trans (by kernel_rfl)
theorem impl_facesOf.l0_succ (R : Run) (hw : R.ok) (N : Nat) (n : Nat) (s_1 : (List Int)) (t6__2 : Int) (t7__3 : Int) (o24_4 : (List (List Int))) : impl_facesOf.l0 R N (n + 1) s_1 t6__2 t7__3 o24_4 = (bif (decide (t7__3 < t6__2)) then (bif (decide ((List.length s_1 : Int) > (1 : Int))) then (Option.bind (chk (decide (0 ≤ t7__3) && decide (t7__3 ≤ (List.length s_1 : Int)))) fun _ => (Option.bind (chk (decide (0 ≤ (w64 (t7__3 + (1 : Int)))) && decide ((w64 (t7__3 + (1 : Int))) ≤ (List.length s_1 : Int)))) fun _ => (Option.bind (callT R n_slices_Concat_Sint64_int64 o_slices_Concat_Sint64_int64 [⟨(.sl (.sl (.int .i64))), [(List.take (Int.toNat t7__3) s_1), (List.drop (Int.toNat (w64 (t7__3 + (1 : Int)))) s_1)]⟩]) fun r5 => (Option.bind (chk (decide ((List.length o24_4 + List.length [r5.1]) * 24 ≤ 70368744177664))) fun _ => (impl_facesOf.l0 R N n s_1 t6__2 (w64 (t7__3 + (1 : Int))) (o24_4 ++ [r5.1])))))) else (impl_facesOf.l0 R N n s_1 t6__2 (w64 (t7__3 + (1 : Int))) o24_4)) else some ⟨o_impl_facesOf, (o24_4, ())⟩) := (hw _ _).trans (by kernel_rfl)
theorem impl_facesOf.ev (R : Run) (N : Nat) (a0 : (List Int)) : evFn E R sg_impl_facesOf pol_impl_facesOf F_impl_facesOf N [⟨(.sl (.int .i64)), a0⟩] = (impl_facesOf.l0 R N N a0 (List.length a0 : Int) (0 : Int) ([] : List (List Int))) := by kernel_rfl
/-! slices.BinarySearchFunc[[][]int64,[]int64,[]int64] -/
noncomputable def slices_BinarySearchFunc_SSint64_Sint64_Sint64_impl_compareSimplices.l0 (R : Run) (N : Nat) (n : Nat) (x_1 : (List (List Int))) (target_2 : (List Int)) (n_3 : Int) (i_4 : Int) (j_5 : Int) : Option Dv := R.w (some ⟨[.c (.d (.sl (.sl (.int .i64))) x_1), .c (.d (.sl (.int .i64)) target_2), .c (.d (.fn n_impl_compareSimplices .nil) ()), V.dead, V.dead, V.dead, V.dead, V.dead, .c (.d (.int .i64) n_3), .c (.d (.int .i64) i_4), .c (.d (.int .i64) j_5), V.dead, V.dead, V.dead, V.dead, V.dead, V.dead, V.dead, V.dead, V.dead, V.dead, V.dead, V.dead, V.dead, V.dead, V.dead, V.dead, V.dead, V.dead, V.dead, V.dead, V.dead, V.dead, V.dead, V.dead, V.dead, V.dead, V.dead, V.dead, V.dead, V.dead, V.dead, V.dead, V.dead, V.dead, V.dead, V.dead, V.dead, V.dead], [none, none, none, none, none, none, none, none, none, none, none, none, none, none, none, none, none, none, none, none, none, none, none, none, none, none, none, none, none, none, none, none, none, none, none, none, none, none, none, none, none, none, none, none, none, none, none, none, none, none, none, none]⟩) fun st => loopC (evCode E R pol_slices_BinarySearchFunc_SSint64_Sint64_Sint64 N (sub [1, 1, 1, 0, 0, 0] (bodyOf F_slices_BinarySearchFunc_SSint64_Sint64_Sint64))) (maskAt R pol_slices_BinarySearchFunc_SSint64_Sint64_Sint64.loopM 3) n st (kBlk (maskAt R pol_slices_BinarySearchFunc_SSint64_Sint64_Sint64.blkM 0) 0 (kSeq (maskAt R pol_slices_BinarySearchFunc_SSint64_Sint64_Sint64.seqM 8) (evCode E R pol_slices_BinarySearchFunc_SSint64_Sint64_Sint64 N (sub [1, 1, 1, 1] (bodyOf F_slices_BinarySearchFunc_SSint64_Sint64_Sint64))) (kTop E sg_slices_BinarySearchFunc_SSint64_Sint64_Sint64 F_slices_BinarySearchFunc_SSint64_Sint64_Sint64)))
theorem slices_BinarySearchFunc_SSint64_Sint64_Sint64_impl_compareSimplices.l0_zero (R : Run) (hw : R.ok) (N : Nat) (x_1 : (List (List Int))) (target_2 : (List Int)) (n_3 : Int) (i_4 : Int) (j_5 : Int) : slices_BinarySearchFunc_SSint64_Sint64_Sint64_impl_compareSimplices.l0 R N 0 x_1 target_2 n_3 i_4 j_5 = none := (hw _ _).trans (by kernel_rfl)
theorem slices_BinarySearchFunc_SSint64_Sint64_Sint64_impl_compareSimplices.l0_succ (R : Run) (hw : R.ok) (N : Nat) (n : Nat) (x_1 : (List (List Int))) (target_2 : (List Int)) (n_3 : Int) (i_4 : Int) (j_5 : Int) : slices_BinarySearchFunc_SSint64_Sint64_Sint64_impl_compareSimplices.l0 R N (n + 1) x_1 target_2 n_3 i_4 j_5 = (bif (decide (i_4 < j_5)) then (Option.bind (chk (decide (0 ≤ (1 : Int)))) fun _ => (Option.bind (idx? x_1 (w64 ((Int.fdiv (IntKind.wrap .u64 ((w64 (i_4 + j_5)))) (2 ^ (min (Int.toNat (1 : Int)) (IntKind.bits .u64))))))) fun y6 => (Option.bind (callT R n_impl_compareSimplices o_impl_compareSimplices [⟨(.sl (.int .i64)), (y6, ()).1⟩, ⟨(.sl (.int .i64)), target_2⟩]) fun r7 => (bif (decide (r7.1 < (0 : Int))) then (slices_BinarySearchFunc_SSint64_Sint64_Sint64_impl_compareSimplices.l0 R N n x_1 target_2 n_3 (w64 ((w64 ((Int.fdiv (IntKind.wrap .u64 ((w64 (i_4 + j_5)))) (2 ^ (min (Int.toNat (1 : Int)) (IntKind.bits .u64)))))) + (1 : Int))) j_5) else (slices_BinarySearchFunc_SSint64_Sint64_Sint64_impl_compareSimplices.l0 R N n x_1 target_2 n_3 i_4 (w64 ((Int.fdiv (IntKind.wrap .u64 ((w64 (i_4 + j_5)))) (2 ^ (min (Int.toNat (1 : Int)) (IntKind.bits .u64))))))))))) else (bif (decide (i_4 < n_3)) then (Option.bind (idx? x_1 i_4) fun y18 => (Option.bind (callT R n_impl_compareSimplices o_impl_compareSimplices [⟨(.sl (.int .i64)), (y18, ()).1⟩, ⟨(.sl (.int .i64)), target_2⟩]) fun r19 => some ⟨o_slices_BinarySearchFunc_SSint64_Sint64_Sint64, (i_4, (r19.1 == (0 : Int)), ())⟩)) else some ⟨o_slices_BinarySearchFunc_SSint64_Sint64_Sint64, (i_4, false, ())⟩)) := (hw _ _).trans (by kernel_rfl)
theorem slices_BinarySearchFunc_SSint64_Sint64_Sint64_impl_compareSimplices.ev (R : Run) (N : Nat) (a0 : (List (List Int))) (a1 : (List Int)) : evFn E R sg_slices_BinarySearchFunc_SSint64_Sint64_Sint64 pol_slices_BinarySearchFunc_SSint64_Sint64_Sint64 F_slices_BinarySearchFunc_SSint64_Sint64_Sint64 N [⟨(.sl (.sl (.int .i64))), a0⟩, ⟨(.sl (.int .i64)), a1⟩, ⟨(.fn n_impl_compareSimplices .nil), ()⟩] = (slices_BinarySearchFunc_SSint64_Sint64_Sint64_impl_compareSimplices.l0 R N N a0 a1 (List.length a0 : Int) (0 : Int) (List.length a0 : Int)) := by kernel_rfl
/-! loop.example/g01005/impl.indexOf -/
theorem impl_indexOf.ev (R : Run) (N : Nat) (a0 : (List (List Int))) (a1 : (List Int)) : evFn E R sg_impl_indexOf pol_impl_indexOf F_impl_indexOf N [⟨(.sl (.sl (.int .i64))), a0⟩, ⟨(.sl (.int .i64)), a1⟩] = (Option.bind (callT R n_slices_BinarySearchFunc_SSint64_Sint64_Sint64 o_slices_BinarySearchFunc_SSint64_Sint64_Sint64 [⟨(.sl (.sl (.int .i64))), a0⟩, ⟨(.sl (.int .i64)), a1⟩, ⟨(.fn n_impl_compareSimplices .nil), ()⟩]) fun r1 => (bif (!r1.2.1) then some ⟨o_impl_indexOf, ((-1 : Int), ())⟩ else some ⟨o_impl_indexOf, (r1.1, ())⟩)) := by kernel_rfl
/-! loop.example/g01005/impl.ValidComplex$1 -/
theorem impl_ValidComplex_1.ev (R : Run) (N : Nat) (a0 : (List Int)) (a1 : ((List (List Int)) × Unit)) (a2 : (Int × Unit)) : evFn E R sg_impl_ValidComplex_1 pol_impl_ValidComplex_1 F_impl_ValidComplex_1 N [⟨(.sl (.int .i64)), a0⟩, ⟨(.ptr (.cons (.sl (.sl (.int .i64))) .nil)), a1⟩, ⟨(.ptr (.cons (.int .i64) .nil)), a2⟩] = (Option.bind (chk (decide (0 ≤ a2.1) && decide (a2.1 ≤ (List.length a1.1 : Int)))) fun _ => (Option.bind (callT R n_impl_indexOf o_impl_indexOf [⟨(.sl (.sl (.int .i64))), (List.take (Int.toNat a2.1) a1.1)⟩, ⟨(.sl (.int .i64)), a0⟩]) fun r1 => some ⟨o_impl_ValidComplex_1, ((decide (r1.1 < (0 : Int))), ())⟩)) := by kernel_rfl
/-! slices.IndexFunc[[][]int64,[]int64] -/
noncomputable def slices_IndexFunc_SSint64_Sint64_impl_ValidComplex_1.l0 (R : Run) (N : Nat) (n : Nat) (s_1 : (List (List Int))) (f_2 : (((List (List Int)) × Unit) × (Int × Unit) × Unit)) (t7__3 : Int) (t8__4 : Int) : Option Dv := R.w (some ⟨[.c (.d (.sl (.sl (.int .i64))) s_1), .c (.d (.fn n_impl_ValidComplex_1 (.cons (.ptr (.cons (.sl (.sl (.int .i64))) .nil)) (.cons (.ptr (.cons (.int .i64) .nil)) .nil))) f_2), V.dead, V.dead, V.dead, V.dead, V.dead, .c (.d (.int .i64) t7__3), .c (.d (.int .i64) t8__4), V.dead, V.dead, V.dead, V.dead, V.dead, V.dead, V.dead, V.dead, V.dead, V.dead], [none, none, none, none, none, none, none, none, none, none, none, none, none, none, none, none, none, none, none, none, none]⟩) fun st => loopC (evCode E R pol_slices_IndexFunc_SSint64_Sint64 N (sub [1, 0, 1, 0, 0] (bodyOf F_slices_IndexFunc_SSint64_Sint64))) (maskAt R pol_slices_IndexFunc_SSint64_Sint64.loopM 2) n st (kBlk (maskAt R pol_slices_IndexFunc_SSint64_Sint64.blkM 0) 0 (kSeq (maskAt R pol_slices_IndexFunc_SSint64_Sint64.seqM 7) (evCode E R pol_slices_IndexFunc_SSint64_Sint64 N (sub [1, 1] (bodyOf F_slices_IndexFunc_SSint64_Sint64))) (kTop E sg_slices_IndexFunc_SSint64_Sint64 F_slices_IndexFunc_SSint64_Sint64)))
theorem slices_IndexFunc_SSint64_Sint64_impl_ValidComplex_1.l0_zero (R : Run) (hw : R.ok) (N : Nat) (s_1 : (List (List Int))) (f_2 : (((List (List Int)) × Unit) × (Int × Unit) × Unit)) (t7__3 : Int) (t8__4 : Int) : slices_IndexFunc_SSint64_Sint64_impl_ValidComplex_1.l0 R N 0 s_1 f_2 t7__3 t8__4 = none := (hw _ _).trans (by kernel_rfl)
theorem slices_IndexFunc_SSint64_Sint64_impl_ValidComplex_1.l0_succ (R : Run) (hw : R.ok) (N : Nat) (n : Nat) (s_1 : (List (List Int))) (f_2 : (((List (List Int)) × Unit) × (Int × Unit) × Unit)) (t7__3 : Int) (t8__4 : Int) : slices_IndexFunc_SSint64_Sint64_impl_ValidComplex_1.l0 R N (n + 1) s_1 f_2 t7__3 t8__4 = (bif (decide (t8__4 < t7__3)) then (Option.bind (idx? s_1 t8__4) fun y5 => (Option.bind (callT R n_impl_ValidComplex_1 o_impl_ValidComplex_1 [⟨(.sl (.int .i64)), (y5, ()).1⟩, ⟨(.ptr (.cons (.sl (.sl (.int .i64))) .nil)), f_2.1⟩, ⟨(.ptr (.cons (.int .i64) .nil)), f_2.2.1⟩]) fun r6 => (bif r6.1 then some ⟨o_slices_IndexFunc_SSint64_Sint64, (t8__4, ())⟩ else (slices_IndexFunc_SSint64_Sint64_impl_ValidComplex_1.l0 R N n s_1 f_2 t7__3 (w64 (t8__4 + (1 : Int))))))) else some ⟨o_slices_IndexFunc_SSint64_Sint64, ((-1 : Int), ())⟩) := (hw _ _).trans (by kernel_rfl)
theorem slices_IndexFunc_SSint64_Sint64_impl_ValidComplex_1.ev (R : Run) (N : Nat) (a0 : (List (List Int))) (a1 : (((List (List Int)) × Unit) × (Int × Unit) × Unit)) : evFn E R sg_slices_IndexFunc_SSint64_Sint64 pol_slices_IndexFunc_SSint64_Sint64 F_slices_IndexFunc_SSint64_Sint64 N [⟨(.sl (.sl (.int .i64))), a0⟩, ⟨(.fn n_impl_ValidComplex_1 (.cons (.ptr (.cons (.sl (.sl (.int .i64))) .nil)) (.cons (.ptr (.cons (.int .i64) .nil)) .nil))), a1⟩] = (slices_IndexFunc_SSint64_Sint64_impl_ValidComplex_1.l0 R N N a0 a1 (List.length a0 : Int) (0 : Int)) := by kernel_rfl
/-! slices.ContainsFunc[[][]int64,[]int64] -/
theorem slices_ContainsFunc_SSint64_Sint64_impl_ValidComplex_1.ev (R : Run) (N : Nat) (a0 : (List (List Int))) (a1 : (((List (List Int)) × Unit) × (Int × Unit) × Unit)) : evFn E R sg_slices_ContainsFunc_SSint64_Sint64 pol_slices_ContainsFunc_SSint64_Sint64 F_slices_ContainsFunc_SSint64_Sint64 N [⟨(.sl (.sl (.int .i64))), a0⟩, ⟨(.fn n_impl_ValidComplex_1 (.cons (.ptr (.cons (.sl (.sl (.int .i64))) .nil)) (.cons (.ptr (.cons (.int .i64) .nil)) .nil))), a1⟩] = (Option.bind (callT R n_slices_IndexFunc_SSint64_Sint64 o_slices_IndexFunc_SSint64_Sint64 [⟨(.sl (.sl (.int .i64))), a0⟩, ⟨(.fn n_impl_ValidComplex_1 (.cons (.ptr (.cons (.sl (.sl (.int .i64))) .nil)) (.cons (.ptr (.cons (.int .i64) .nil)) .nil))), a1⟩]) fun r1 => some ⟨o_slices_ContainsFunc_SSint64_Sint64, ((decide (r1.1 ≥ (0 : Int))), ())⟩) := by kernel_rfl
/-! loop.example/g01005/impl.ValidComplex -/
noncomputable def impl_ValidComplex.j1 (R : Run) (N : Nat) (n10100 : Nat) (s_7 : (List Int)) (t6__8 : (List (List Int))) (t7__9 : Int) (t8__10 : Int) (t30__11 : Bool) (c_12 : (List (List Int))) (k_13 : Int) : Option Dv := R.w (some ⟨[V.dead, .c (.box 1 0), V.dead, .c (.box 3 0), .c (.d (.sl (.int .i64)) s_7), V.dead, .c (.d (.sl (.sl (.int .i64))) t6__8), .c (.d (.int .i64) t7__9), .c (.d (.int .i64) t8__10), V.dead, V.dead, V.dead, V.dead, V.dead, V.dead, V.dead, V.dead, V.dead, V.dead, V.dead, V.dead, V.dead, V.dead, V.dead, V.dead, V.dead, V.dead, V.dead, V.dead, V.dead, .c (.d .bool t30__11), V.dead, V.dead, V.dead, V.dead, V.dead, V.dead, V.dead, V.dead, V.dead], [none, some (.box [.d (.sl (.sl (.int .i64))) c_12] true false), none, some (.box [.d (.int .i64) k_13] false false), none, none, none, none, none, none, none, none, none, none, none, none, none, none, none, none, none, none, none, none, none, none, none, none, none, none, none, none, none, none, none, none, none, none, none, none, none]⟩) fun st => evCode E R pol_impl_ValidComplex N (sub [1, 0, 1, 0, 0, 1, 1, 0, 0, 1, 0, 1] (bodyOf F_impl_ValidComplex)) st (kSeq (maskAt R pol_impl_ValidComplex.seqM 6) (evCode E R pol_impl_ValidComplex N (sub [1, 0, 1, 0, 0, 1, 1, 0, 0, 1, 1] (bodyOf F_impl_ValidComplex))) (kBlk (maskAt R pol_impl_ValidComplex.blkM 1) 1 (kSeq (maskAt R pol_impl_ValidComplex.seqM 8) (evCode E R pol_impl_ValidComplex N (sub [1, 0, 1, 0, 0, 1, 1, 1] (bodyOf F_impl_ValidComplex))) (kLoop (evCode E R pol_impl_ValidComplex N (sub [1, 0, 1, 0, 0] (bodyOf F_impl_ValidComplex))) (maskAt R pol_impl_ValidComplex.loopM 2) n10100 (kBlk (maskAt R pol_impl_ValidComplex.blkM 0) 0 (kSeq (maskAt R pol_impl_ValidComplex.seqM 9) (evCode E R pol_impl_ValidComplex N (sub [1, 1] (bodyOf F_impl_ValidComplex))) (kTop E sg_impl_ValidComplex F_impl_ValidComplex)))))))
noncomputable def impl_ValidComplex.l0 (R : Run) (N : Nat) (n : Nat) (t6__1 : (List (List Int))) (t7__2 : Int) (t8__3 : Int) (c_4 : (List (List Int))) : Option Dv := R.w (some ⟨[V.dead, .c (.box 1 0), V.dead, V.dead, V.dead, V.dead, .c (.d (.sl (.sl (.int .i64))) t6__1), .c (.d (.int .i64) t7__2), .c (.d (.int .i64) t8__3), V.dead, V.dead, V.dead, V.dead, V.dead, V.dead, V.dead, V.dead, V.dead, V.dead, V.dead, V.dead, V.dead, V.dead, V.dead, V.dead, V.dead, V.dead, V.dead, V.dead, V.dead, V.dead, V.dead, V.dead, V.dead, V.dead, V.dead, V.dead, V.dead, V.dead, V.dead], [none, some (.box [.d (.sl (.sl (.int .i64))) c_4] true false), none, none, none, none, none, none, none, none, none, none, none, none, none, none, none, none, none, none, none, none, none, none, none, none, none, none, none, none, none, none, none, none, none, none, none, none, none, none, none]⟩) fun st => loopC (evCode E R pol_impl_ValidComplex N (sub [1, 0, 1, 0, 0] (bodyOf F_impl_ValidComplex))) (maskAt R pol_impl_ValidComplex.loopM 2) n st (kBlk (maskAt R pol_impl_ValidComplex.blkM 0) 0 (kSeq (maskAt R pol_impl_ValidComplex.seqM 9) (evCode E R pol_impl_ValidComplex N (sub [1, 1] (bodyOf F_impl_ValidComplex))) (kTop E sg_impl_ValidComplex F_impl_ValidComplex)))
theorem impl_ValidComplex.j1_eq (R : Run) (hw : R.ok) (N : Nat) (n10100 : Nat) (s_7 : (List Int)) (t6__8 : (List (List Int))) (t7__9 : Int) (t8__10 : Int) (t30__11 : Bool) (c_12 : (List (List Int))) (k_13 : Int) : impl_ValidComplex.j1 R N n10100 s_7 t6__8 t7__9 t8__10 t30__11 c_12 k_13 = (bif t30__11 then some ⟨o_impl_ValidComplex, (false, ())⟩ else (Option.bind (callT R n_impl_facesOf o_impl_facesOf [⟨(.sl (.int .i64)), s_7⟩]) fun r14 => (Option.bind (callT R n_slices_ContainsFunc_SSint64_Sint64 o_slices_ContainsFunc_SSint64_Sint64 [⟨(.sl (.sl (.int .i64))), r14.1⟩, ⟨(.fn n_impl_ValidComplex_1 (.cons (.ptr (.cons (.sl (.sl (.int .i64))) .nil)) (.cons (.ptr (.cons (.int .i64) .nil)) .nil))), ((c_12, ()), (k_13, ()), ())⟩]) fun r15 => (bif r15.1 then some ⟨o_impl_ValidComplex, (false, ())⟩ else (impl_ValidComplex.l0 R N n10100 t6__8 t7__9 (w64 (t8__10 + (1 : Int))) c_12))))) := (hw _ _).trans (by kernel_rfl)
theorem impl_ValidComplex.l0_zero (R : Run) (hw : R.ok) (N : Nat) (t6__1 : (List (List Int))) (t7__2 : Int) (t8__3 : Int) (c_4 : (List (List Int))) : impl_ValidComplex.l0 R N 0 t6__1 t7__2 t8__3 c_4 = none := (hw _ _).trans (by kernel_rfl)
theorem impl_ValidComplex.l0_succ (R : Run) (hw : R.ok) (N : Nat) (n : Nat) (t6__1 : (List (List Int))) (t7__2 : Int) (t8__3 : Int) (c_4 : (List (List Int))) : impl_ValidComplex.l0 R N (n + 1) t6__1 t7__2 t8__3 c_4 = (bif (decide (t8__3 < t7__2)) then (Option.bind (idx? t6__1 t8__3) fun y5 => (Option.bind (callT R n_impl_ValidSimplex o_impl_ValidSimplex [⟨(.sl (.int .i64)), (y5, ()).1⟩]) fun r6 => (bif (!r6.1) then (impl_ValidComplex.j1 R N n ((y5, ()).1) t6__1 t7__2 t8__3 true c_4 t8__3) else (bif (decide (t8__3 > (0 : Int))) then (Option.bind (idx? c_4 (w64 (t8__3 - (1 : Int)))) fun y20 => (Option.bind (callT R n_impl_compareSimplices o_impl_compareSimplices [⟨(.sl (.int .i64)), (y20, ()).1⟩, ⟨(.sl (.int .i64)), (y5, ()).1⟩]) fun r21 => (impl_ValidComplex.j1 R N n ((y5, ()).1) t6__1 t7__2 t8__3 (decide (r21.1 ≥ (0 : Int))) c_4 t8__3))) else (impl_ValidComplex.j1 R N n ((y5, ()).1) t6__1 t7__2 t8__3 false c_4 t8__3))))) else some ⟨o_impl_ValidComplex, ((decide ((List.length c_4 : Int) ≤ (48 : Int))), ())⟩) := (hw _ _).trans (by kernel_rfl)
theorem impl_ValidComplex.ev (R : Run) (N : Nat) (a0 : (List (List Int))) : evFn E R sg_impl_ValidComplex pol_impl_ValidComplex F_impl_ValidComplex N [⟨(.sl (.sl (.int .i64))), a0⟩] = (impl_ValidComplex.l0 R N N a0 (List.length a0 : Int) (0 : Int) a0) := by kernel_rfl
/-! loop.example/g01005/impl.size[[]int64] -/
theorem impl_size_Sint64.ev (R : Run) (N : Nat) (a0 : (List (List Int))) : evFn E R sg_impl_size_Sint64 pol_impl_size_Sint64 F_impl_size_Sint64 N [⟨(.sl (.sl (.int .i64))), a0⟩] = some ⟨o_impl_size_Sint64, ((List.length a0 : Int), ())⟩ := by kernel_rfl
/-! slices.Index[[]int64,int64] -/
noncomputable def slices_Index_Sint64_int64.l0 (R : Run) (N : Nat) (n : Nat) (s_1 : (List Int)) (v_2 : Int) (t7__3 : Int) (t8__4 : Int) : Option Dv := R.w (some ⟨[.c (.d (.sl (.int .i64)) s_1), .c (.d (.int .i64) v_2), V.dead, V.dead, V.dead, V.dead, V.dead, .c (.d (.int .i64) t7__3), .c (.d (.int .i64) t8__4), V.dead, V.dead, V.dead, V.dead, V.dead, V.dead, V.dead, V.dead, V.dead, V.dead], [none, none, none, none, none, none, none, none, none, none, none, none, none, none, none, none, none, none, none, none, none]⟩) fun st => loopC (evCode E R pol_slices_Index_Sint64_int64 N (sub [1, 0, 1, 0, 0] (bodyOf F_slices_Index_Sint64_int64))) (maskAt R pol_slices_Index_Sint64_int64.loopM 2) n st (kBlk (maskAt R pol_slices_Index_Sint64_int64.blkM 0) 0 (kSeq (maskAt R pol_slices_Index_Sint64_int64.seqM 7) (evCode E R pol_slices_Index_Sint64_int64 N (sub [1, 1] (bodyOf F_slices_Index_Sint64_int64))) (kTop E sg_slices_Index_Sint64_int64 F_slices_Index_Sint64_int64)))
theorem slices_Index_Sint64_int64.l0_zero (R : Run) (hw : R.ok) (N : Nat) (s_1 : (List Int)) (v_2 : Int) (t7__3 : Int) (t8__4 : Int) : slices_Index_Sint64_int64.l0 R N 0 s_1 v_2 t7__3 t8__4 = none := (hw _ _).trans (by kernel_rfl)
theorem slices_Index_Sint64_int64.l0_succ (R : Run) (hw : R.ok) (N : Nat) (n : Nat) (s_1 : (List Int)) (v_2 : Int) (t7__3 : Int) (t8__4 : Int) : slices_Index_Sint64_int64.l0 R N (n + 1) s_1 v_2 t7__3 t8__4 = (bif (decide (t8__4 < t7__3)) then (Option.bind (idx? s_1 t8__4) fun y5 => (bif (v_2 == (y5, ()).1) then some ⟨o_slices_Index_Sint64_int64, (t8__4, ())⟩ else (slices_Index_Sint64_int64.l0 R N n s_1 v_2 t7__3 (w64 (t8__4 + (1 : Int)))))) else some ⟨o_slices_Index_Sint64_int64, ((-1 : Int), ())⟩) := (hw _ _).trans (by kernel_rfl)
theorem slices_Index_Sint64_int64.ev (R : Run) (N : Nat) (a0 : (List Int)) (a1 : Int) : evFn E R sg_slices_Index_Sint64_int64 pol_slices_Index_Sint64_int64 F_slices_Index_Sint64_int64 N [⟨(.sl (.int .i64)), a0⟩, ⟨(.int .i64), a1⟩] = (slices_Index_Sint64_int64.l0 R N N a0 a1 (List.length a0 : Int) (0 : Int)) := by kernel_rfl
/-! slices.Contains[[]int64,int64] -/
theorem slices_Contains_Sint64_int64.ev (R : Run) (N : Nat) (a0 : (List Int)) (a1 : Int) : evFn E R sg_slices_Contains_Sint64_int64 pol_slices_Contains_Sint64_int64 F_slices_Contains_Sint64_int64 N [⟨(.sl (.int .i64)), a0⟩, ⟨(.int .i64), a1⟩] = (Option.bind (callT R n_slices_Index_Sint64_int64 o_slices_Index_Sint64_int64 [⟨(.sl (.int .i64)), a0⟩, ⟨(.int .i64), a1⟩]) fun r1 => some ⟨o_slices_Contains_Sint64_int64, ((decide (r1.1 ≥ (0 : Int))), ())⟩) := by kernel_rfl
/-! loop.example/g01005/impl.isFace$1 -/
theorem impl_isFace_1.ev (R : Run) (N : Nat) (a0 : Int) (a1 : ((List Int) × Unit)) : evFn E R sg_impl_isFace_1 pol_impl_isFace_1 F_impl_isFace_1 N [⟨(.int .i64), a0⟩, ⟨(.ptr (.cons (.sl (.int .i64)) .nil)), a1⟩] = (Option.bind (callT R n_slices_Contains_Sint64_int64 o_slices_Contains_Sint64_int64 [⟨(.sl (.int .i64)), a1.1⟩, ⟨(.int .i64), a0⟩]) fun r1 => some ⟨o_impl_isFace_1, ((!r1.1), ())⟩) := by kernel_rfl
/-! slices.IndexFunc[[]int64,int64] -/
noncomputable def slices_IndexFunc_Sint64_int64_impl_isFace_1.l0 (R : Run) (N : Nat) (n : Nat) (s_1 : (List Int)) (f_2 : (((List Int) × Unit) × Unit)) (t7__3 : Int) (t8__4 : Int) : Option Dv := R.w (some ⟨[.c (.d (.sl (.int .i64)) s_1), .c (.d (.fn n_impl_isFace_1 (.cons (.ptr (.cons (.sl (.int .i64)) .nil)) .nil)) f_2), V.dead, V.dead, V.dead, V.dead, V.dead, .c (.d (.int .i64) t7__3), .c (.d (.int .i64) t8__4), V.dead, V.dead, V.dead, V.dead, V.dead, V.dead, V.dead, V.dead, V.dead, V.dead], [none, none, none, none, none, none, none, none, none, none, none, none, none, none, none, none, none, none, none, none, none]⟩) fun st => loopC (evCode E R pol_slices_IndexFunc_Sint64_int64 N (sub [1, 0, 1, 0, 0] (bodyOf F_slices_IndexFunc_Sint64_int64))) (maskAt R pol_slices_IndexFunc_Sint64_int64.loopM 2) n st (kBlk (maskAt R pol_slices_IndexFunc_Sint64_int64.blkM 0) 0 (kSeq (maskAt R pol_slices_IndexFunc_Sint64_int64.seqM 7) (evCode E R pol_slices_IndexFunc_Sint64_int64 N (sub [1, 1] (bodyOf F_slices_IndexFunc_Sint64_int64))) (kTop E sg_slices_IndexFunc_Sint64_int64 F_slices_IndexFunc_Sint64_int64)))
theorem slices_IndexFunc_Sint64_int64_impl_isFace_1.l0_zero (R : Run) (hw : R.ok) (N : Nat) (s_1 : (List Int)) (f_2 : (((List Int) × Unit) × Unit)) (t7__3 : Int) (t8__4 : Int) : slices_IndexFunc_Sint64_int64_impl_isFace_1.l0 R N 0 s_1 f_2 t7__3 t8__4 = none := (hw _ _).trans (by kernel_rfl)
theorem slices_IndexFunc_Sint64_int64_impl_isFace_1.l0_succ (R : Run) (hw : R.ok) (N : Nat) (n : Nat) (s_1 : (List Int)) (f_2 : (((List Int) × Unit) × Unit)) (t7__3 : Int) (t8__4 : Int) : slices_IndexFunc_Sint64_int64_impl_isFace_1.l0 R N (n + 1) s_1 f_2 t7__3 t8__4 = (bif (decide (t8__4 < t7__3)) then (Option.bind (idx? s_1 t8__4) fun y5 => (Option.bind (callT R n_impl_isFace_1 o_impl_isFace_1 [⟨(.int .i64), (y5, ()).1⟩, ⟨(.ptr (.cons (.sl (.int .i64)) .nil)), f_2.1⟩]) fun r6 => (bif r6.1 then some ⟨o_slices_IndexFunc_Sint64_int64, (t8__4, ())⟩ else (slices_IndexFunc_Sint64_int64_impl_isFace_1.l0 R N n s_1 f_2 t7__3 (w64 (t8__4 + (1 : Int))))))) else some ⟨o_slices_IndexFunc_Sint64_int64, ((-1 : Int), ())⟩) := (hw _ _).trans (by kernel_rfl)
theorem slices_IndexFunc_Sint64_int64_impl_isFace_1.ev (R : Run) (N : Nat) (a0 : (List Int)) (a1 : (((List Int) × Unit) × Unit)) : evFn E R sg_slices_IndexFunc_Sint64_int64 pol_slices_IndexFunc_Sint64_int64 F_slices_IndexFunc_Sint64_int64 N [⟨(.sl (.int .i64)), a0⟩, ⟨(.fn n_impl_isFace_1 (.cons (.ptr (.cons (.sl (.int .i64)) .nil)) .nil)), a1⟩] = (slices_IndexFunc_Sint64_int64_impl_isFace_1.l0 R N N a0 a1 (List.length a0 : Int) (0 : Int)) := by kernel_rfl
/-! slices.ContainsFunc[[]int64,int64] -/
theorem slices_ContainsFunc_Sint64_int64_impl_isFace_1.ev (R : Run) (N : Nat) (a0 : (List Int)) (a1 : (((List Int) × Unit) × Unit)) : evFn E R sg_slices_ContainsFunc_Sint64_int64 pol_slices_ContainsFunc_Sint64_int64 F_slices_ContainsFunc_Sint64_int64 N [⟨(.sl (.int .i64)), a0⟩, ⟨(.fn n_impl_isFace_1 (.cons (.ptr (.cons (.sl (.int .i64)) .nil)) .nil)), a1⟩] = (Option.bind (callT R n_slices_IndexFunc_Sint64_int64 o_slices_IndexFunc_Sint64_int64 [⟨(.sl (.int .i64)), a0⟩, ⟨(.fn n_impl_isFace_1 (.cons (.ptr (.cons (.sl (.int .i64)) .nil)) .nil)), a1⟩]) fun r1 => some ⟨o_slices_ContainsFunc_Sint64_int64, ((decide (r1.1 ≥ (0 : Int))), ())⟩) := by kernel_rfl
/-! loop.example/g01005/impl.isFace -/
theorem impl_isFace.ev (R : Run) (N : Nat) (a0 : (List Int)) (a1 : (List Int)) : evFn E R sg_impl_isFace pol_impl_isFace F_impl_isFace N [⟨(.sl (.int .i64)), a0⟩, ⟨(.sl (.int .i64)), a1⟩] = (Option.bind (callT R n_slices_ContainsFunc_Sint64_int64 o_slices_ContainsFunc_Sint64_int64 [⟨(.sl (.int .i64)), a0⟩, ⟨(.fn n_impl_isFace_1 (.cons (.ptr (.cons (.sl (.int .i64)) .nil)) .nil)), ((a1, ()), ())⟩]) fun r1 => some ⟨o_impl_isFace, ((!r1.1), ())⟩) := by kernel_rfl
/-! loop.example/g01005/impl.starOf -/
noncomputable def impl_starOf.l0 (R : Run) (N : Nat) (n : Nat) (k_1 : Int) (t9__2 : (List (List Int))) (t10__3 : Int) (t11__4 : Int) (c_5 : (List (List Int))) (o26_6 : (List Int)) : Option Dv := R.w (some ⟨[V.dead, .c (.d (.int .i64) k_1), .c (.box 2 0), V.dead, V.dead, .c (.arr 26), V.dead, V.dead, V.dead, .c (.d (.sl (.sl (.int .i64))) t9__2), .c (.d (.int .i64) t10__3), .c (.d (.int .i64) t11__4), V.dead, V.dead, V.dead, V.dead, V.dead, V.dead, V.dead, V.dead, V.dead, V.dead, V.dead, V.dead, V.dead, V.dead, V.dead, V.dead, V.dead], [none, none, some (.box [.d (.sl (.sl (.int .i64))) c_5] false false), none, none, none, none, none, none, none, none, none, none, none, none, none, none, none, none, none, none, none, none, none, none, none, some (.arr (.int .i64) o26_6 true false false), none, none, none, none]⟩) fun st => loopC (evCode E R pol_impl_starOf N (sub [1, 1, 0, 1, 0, 0] (bodyOf F_impl_starOf))) (maskAt R pol_impl_starOf.loopM 3) n st (kBlk (maskAt R pol_impl_starOf.blkM 0) 0 (kSeq (maskAt R pol_impl_starOf.seqM 8) (evCode E R pol_impl_starOf N (sub [1, 1, 1] (bodyOf F_impl_starOf))) (kTop E sg_impl_starOf F_impl_starOf)))
theorem impl_starOf.l0_zero (R : Run) (hw : R.ok) (N : Nat) (k_1 : Int) (t9__2 : (List (List Int))) (t10__3 : Int) (t11__4 : Int) (c_5 : (List (List Int))) (o26_6 : (List Int)) : impl_starOf.l0 R N 0 k_1 t9__2 t10__3 t11__4 c_5 o26_6 = none := (hw _ _).trans (by kernel_rfl)
theorem impl_starOf.l0_succ (R : Run) (hw : R.ok) (N : Nat) (n : Nat) (k_1 : Int) (t9__2 : (List (List Int))) (t10__3 : Int) (t11__4 : Int) (c_5 : (List (List Int))) (o26_6 : (List Int)) : impl_starOf.l0 R N (n + 1) k_1 t9__2 t10__3 t11__4 c_5 o26_6 = (bif (decide (t11__4 < t10__3)) then (Option.bind (idx? t9__2 t11__4) fun y7 => (Option.bind (idx? c_5 k_1) fun y8 => (Option.bind (callT R n_impl_isFace o_impl_isFace [⟨(.sl (.int .i64)), (y8, ()).1⟩, ⟨(.sl (.int .i64)), (y7, ()).1⟩]) fun r9 => (bif r9.1 then (Option.bind (chk (decide ((List.length o26_6 + List.length [t11__4]) * 8 ≤ 70368744177664))) fun _ => (impl_starOf.l0 R N n k_1 t9__2 t10__3 (w64 (t11__4 + (1 : Int))) c_5 (o26_6 ++ [t11__4]))) else (impl_starOf.l0 R N n k_1 t9__2 t10__3 (w64 (t11__4 + (1 : Int))) c_5 o26_6))))) else some ⟨o_impl_starOf, (o26_6, ())⟩) := (hw _ _).trans (by kernel_rfl)
theorem impl_starOf.ev (R : Run) (N : Nat) (a0 : (List (List Int))) (a1 : Int) : evFn E R sg_impl_starOf pol_impl_starOf F_impl_starOf N [⟨(.sl (.sl (.int .i64))), a0⟩, ⟨(.int .i64), a1⟩] = (impl_starOf.l0 R N N a1 a0 (List.length a0 : Int) (0 : Int) a0 ([] : List Int)) := by kernel_rfl
/-! loop.example/g01005/impl.freePairs -/
noncomputable def impl_freePairs.l0 (R : Run) (N : Nat) (n : Nat) (t8__2 : Int) (t9__3 : Int) (c_4 : (List (List Int))) (o25_5 : (List (List Int))) : Option Dv := R.w (some ⟨[V.dead, .c (.box 1 0), V.dead, .c (.arr 25), V.dead, V.dead, V.dead, V.dead, .c (.d (.int .i64) t8__2), .c (.d (.int .i64) t9__3), V.dead, V.dead, V.dead, V.dead, V.dead, V.dead, V.dead, V.dead, V.dead, V.dead, V.dead, V.dead, V.dead, V.dead, V.dead, V.dead, V.dead, V.dead], [none, some (.box [.d (.sl (.sl (.int .i64))) c_4] false false), none, none, none, none, none, none, none, none, none, none, none, none, none, none, none, none, none, none, none, none, none, none, none, some (.arr (.sl (.int .i64)) o25_5 true false false), none, none, none]⟩) fun st => loopC (evCode E R pol_impl_freePairs N (sub [1, 1, 0, 1, 0, 0] (bodyOf F_impl_freePairs))) (maskAt R pol_impl_freePairs.loopM 3) n st (kBlk (maskAt R pol_impl_freePairs.blkM 0) 0 (kSeq (maskAt R pol_impl_freePairs.seqM 9) (evCode E R pol_impl_freePairs N (sub [1, 1, 1] (bodyOf F_impl_freePairs))) (kTop E sg_impl_freePairs F_impl_freePairs)))
theorem impl_freePairs.l0_zero (R : Run) (hw : R.ok) (N : Nat) (t8__2 : Int) (t9__3 : Int) (c_4 : (List (List Int))) (o25_5 : (List (List Int))) : impl_freePairs.l0 R N 0 t8__2 t9__3 c_4 o25_5 = none := (hw _ _).trans (by kernel_rfl)
theorem impl_freePairs.l0_succ (R : Run) (hw : R.ok) (N : Nat) (n : Nat) (t8__2 : Int) (t9__3 : Int) (c_4 : (List (List Int))) (o25_5 : (List (List Int))) : impl_freePairs.l0 R N (n + 1) t8__2 t9__3 c_4 o25_5 = (bif (decide (t9__3 < t8__2)) then (Option.bind (callT R n_impl_starOf o_impl_starOf [⟨(.sl (.sl (.int .i64))), c_4⟩, ⟨(.int .i64), t9__3⟩]) fun r6 => (bif ((List.length r6.1 : Int) == (2 : Int)) then (Option.bind (idx? r6.1 (1 : Int)) fun y7 => (Option.bind (chk (decide ((List.length o25_5 + List.length [[t9__3, (y7, ()).1]]) * 24 ≤ 70368744177664))) fun _ => (impl_freePairs.l0 R N n t8__2 (w64 (t9__3 + (1 : Int))) c_4 (o25_5 ++ [[t9__3, (y7, ()).1]])))) else (impl_freePairs.l0 R N n t8__2 (w64 (t9__3 + (1 : Int))) c_4 o25_5))) else some ⟨o_impl_freePairs, (o25_5, ())⟩) := (hw _ _).trans (by kernel_rfl)
theorem impl_freePairs.ev (R : Run) (N : Nat) (a0 : (List (List Int))) : evFn E R sg_impl_freePairs pol_impl_freePairs F_impl_freePairs N [⟨(.sl (.sl (.int .i64))), a0⟩] = (Option.bind (callT R n_impl_size_Sint64 o_impl_size_Sint64 [⟨(.sl (.sl (.int .i64))), a0⟩]) fun r1 => (impl_freePairs.l0 R N N r1.1 (0 : Int) a0 ([] : List (List Int)))) := by kernel_rfl
/-! loop.example/g01005/impl.FreePairs -/
theorem impl_FreePairs.ev (R : Run) (N : Nat) (a0 : (List (List Int))) : evFn E R sg_impl_FreePairs pol_impl_FreePairs F_impl_FreePairs N [⟨(.sl (.sl (.int .i64))), a0⟩] = (Option.bind (callT R n_impl_ValidComplex o_impl_ValidComplex [⟨(.sl (.sl (.int .i64))), a0⟩]) fun r1 => (bif (!r1.1) then some ⟨o_impl_FreePairs, (([] : List (List Int)), (1 : Int), ())⟩ else (Option.bind (callT R n_impl_freePairs o_impl_freePairs [⟨(.sl (.sl (.int .i64))), a0⟩]) fun r2 => some ⟨o_impl_FreePairs, (r2.1, (0 : Int), ())⟩))) := by kernel_rfl
/-! loop.example/g01005/laws.eqInt64S -/
noncomputable def laws_eqInt64S.l0 (R : Run) (N : Nat) (n : Nat) (a_1 : (List Int)) (b_2 : (List Int)) (i_3 : Int) : Option Dv := R.w (some ⟨[.c (.d (.sl (.int .i64)) a_1), .c (.d (.sl (.int .i64)) b_2), V.dead, V.dead, V.dead, .c (.d (.int .i64) i_3), V.dead, V.dead, V.dead, V.dead, V.dead, V.dead, V.dead, V.dead, V.dead, V.dead, V.dead, V.dead, V.dead, V.dead, V.dead, V.dead, V.dead, V.dead, V.dead, V.dead], [none, none, none, none, none, none, none, none, none, none, none, none, none, none, none, none, none, none, none, none, none, none, none, none, none, none, none, none]⟩) fun st => loopC (evCode E R pol_laws_eqInt64S N (sub [1, 1, 0, 1, 0, 0] (bodyOf F_laws_eqInt64S))) (maskAt R pol_laws_eqInt64S.loopM 4) n st (kBlk (maskAt R pol_laws_eqInt64S.blkM 0) 0 (kSeq (maskAt R pol_laws_eqInt64S.seqM 8) (evCode E R pol_laws_eqInt64S N (sub [1, 1, 1] (bodyOf F_laws_eqInt64S))) (kTop E sg_laws_eqInt64S F_laws_eqInt64S)))
theorem laws_eqInt64S.l0_zero (R : Run) (hw : R.ok) (N : Nat) (a_1 : (List Int)) (b_2 : (List Int)) (i_3 : Int) : laws_eqInt64S.l0 R N 0 a_1 b_2 i_3 = none := (hw _ _).trans (by kernel_rfl)
theorem laws_eqInt64S.l0_succ (R : Run) (hw : R.ok) (N : Nat) (n : Nat) (a_1 : (List Int)) (b_2 : (List Int)) (i_3 : Int) : laws_eqInt64S.l0 R N (n + 1) a_1 b_2 i_3 = (bif (decide (i_3 < (List.length a_1 : Int))) then (Option.bind (idx? a_1 i_3) fun y4 => (Option.bind (idx? b_2 i_3) fun y5 => (bif ((y4, ()).1 != (y5, ()).1) then some ⟨o_laws_eqInt64S, (false, ())⟩ else (laws_eqInt64S.l0 R N n a_1 b_2 (w64 (i_3 + (1 : Int))))))) else some ⟨o_laws_eqInt64S, (true, ())⟩) := (hw _ _).trans (by kernel_rfl)
theorem laws_eqInt64S.ev (R : Run) (N : Nat) (a0 : (List Int)) (a1 : (List Int)) : evFn E R sg_laws_eqInt64S pol_laws_eqInt64S F_laws_eqInt64S N [⟨(.sl (.int .i64)), a0⟩, ⟨(.sl (.int .i64)), a1⟩] = (bif ((List.length a0 : Int) != (List.length a1 : Int)) then some ⟨o_laws_eqInt64S, (false, ())⟩ else (laws_eqInt64S.l0 R N N a0 a1 (0 : Int))) := by kernel_rfl
/-! loop.example/g01005/laws.eqInt64SS -/
noncomputable def laws_eqInt64SS.l0 (R : Run) (N : Nat) (n : Nat) (a_1 : (List (List Int))) (b_2 : (List (List Int))) (i_3 : Int) : Option Dv := R.w (some ⟨[.c (.d (.sl (.sl (.int .i64))) a_1), .c (.d (.sl (.sl (.int .i64))) b_2), V.dead, V.dead, V.dead, .c (.d (.int .i64) i_3), V.dead, V.dead, V.dead, V.dead, V.dead, V.dead, V.dead, V.dead, V.dead, V.dead, V.dead, V.dead, V.dead, V.dead, V.dead, V.dead, V.dead, V.dead, V.dead, V.dead, V.dead], [none, none, none, none, none, none, none, none, none, none, none, none, none, none, none, none, none, none, none, none, none, none, none, none, none, none, none, none, none]⟩) fun st => loopC (evCode E R pol_laws_eqInt64SS N (sub [1, 1, 0, 1, 0, 0] (bodyOf F_laws_eqInt64SS))) (maskAt R pol_laws_eqInt64SS.loopM 4) n st (kBlk (maskAt R pol_laws_eqInt64SS.blkM 0) 0 (kSeq (maskAt R pol_laws_eqInt64SS.seqM 8) (evCode E R pol_laws_eqInt64SS N (sub [1, 1, 1] (bodyOf F_laws_eqInt64SS))) (kTop E sg_laws_eqInt64SS F_laws_eqInt64SS)))
theorem laws_eqInt64SS.l0_zero (R : Run) (hw : R.ok) (N : Nat) (a_1 : (List (List Int))) (b_2 : (List (List Int))) (i_3 : Int) : laws_eqInt64SS.l0 R N 0 a_1 b_2 i_3 = none := (hw _ _).trans (by kernel_rfl)
theorem laws_eqInt64SS.l0_succ (R : Run) (hw : R.ok) (N : Nat) (n : Nat) (a_1 : (List (List Int))) (b_2 : (List (List Int))) (i_3 : Int) : laws_eqInt64SS.l0 R N (n + 1) a_1 b_2 i_3 = (bif (decide (i_3 < (List.length a_1 : Int))) then (Option.bind (idx? a_1 i_3) fun y4 => (Option.bind (idx? b_2 i_3) fun y5 => (Option.bind (callT R n_laws_eqInt64S o_laws_eqInt64S [⟨(.sl (.int .i64)), (y4, ()).1⟩, ⟨(.sl (.int .i64)), (y5, ()).1⟩]) fun r6 => (bif (!r6.1) then some ⟨o_laws_eqInt64SS, (false, ())⟩ else (laws_eqInt64SS.l0 R N n a_1 b_2 (w64 (i_3 + (1 : Int)))))))) else some ⟨o_laws_eqInt64SS, (true, ())⟩) := (hw _ _).trans (by kernel_rfl)
theorem laws_eqInt64SS.ev (R : Run) (N : Nat) (a0 : (List (List Int))) (a1 : (List (List Int))) : evFn E R sg_laws_eqInt64SS pol_laws_eqInt64SS F_laws_eqInt64SS N [⟨(.sl (.sl (.int .i64))), a0⟩, ⟨(.sl (.sl (.int .i64))), a1⟩] = (bif ((List.length a0 : Int) != (List.length a1 : Int)) then some ⟨o_laws_eqInt64SS, (false, ())⟩ else (laws_eqInt64SS.l0 R N N a0 a1 (0 : Int))) := by kernel_rfl
/-! loop.example/g01005/laws.eqComplex -/
theorem laws_eqComplex.ev (R : Run) (N : Nat) (a0 : (List (List Int))) (a1 : (List (List Int))) : evFn E R sg_laws_eqComplex pol_laws_eqComplex F_laws_eqComplex N [⟨(.sl (.sl (.int .i64))), a0⟩, ⟨(.sl (.sl (.int .i64))), a1⟩] = (Option.bind (callT R n_laws_eqInt64SS o_laws_eqInt64SS [⟨(.sl (.sl (.int .i64))), a0⟩, ⟨(.sl (.sl (.int .i64))), a1⟩]) fun r1 => (bif (!r1.1) then some ⟨o_laws_eqComplex, (false, ())⟩ else some ⟨o_laws_eqComplex, (true, ())⟩)) := by kernel_rfl
/-! loop.example/g01005/laws.markInt64S -/
noncomputable def laws_markInt64S.l0 (R : Run) (N : Nat) (n : Nat) (k_1 : Int) (i_2 : Int) (o19_3 : (List Int)) : Option Dv := R.w (some ⟨[.c (.arr 19), .c (.d (.int .i64) k_1), V.dead, V.dead, V.dead, .c (.d (.int .i64) i_2), V.dead, V.dead, V.dead, V.dead, V.dead, V.dead, V.dead, V.dead, V.dead, V.dead, V.dead, V.dead, V.dead], [none, none, none, none, none, none, none, none, none, none, none, none, none, none, none, none, none, none, none, some (.arr (.int .i64) o19_3 true false true), none]⟩) fun st => loopC (evCode E R pol_laws_markInt64S N (sub [1, 0, 1, 0, 0] (bodyOf F_laws_markInt64S))) (maskAt R pol_laws_markInt64S.loopM 2) n st (kBlk (maskAt R pol_laws_markInt64S.blkM 0) 0 (kSeq (maskAt R pol_laws_markInt64S.seqM 6) (evCode E R pol_laws_markInt64S N (sub [1, 1] (bodyOf F_laws_markInt64S))) (kTop E sg_laws_markInt64S F_laws_markInt64S)))
theorem laws_markInt64S.l0_zero (R : Run) (hw : R.ok) (N : Nat) (k_1 : Int) (i_2 : Int) (o19_3 : (List Int)) : laws_markInt64S.l0 R N 0 k_1 i_2 o19_3 = none := (hw _ _).trans (by kernel_rfl)
theorem laws_markInt64S.l0_succ (R : Run) (hw : R.ok) (N : Nat) (n : Nat) (k_1 : Int) (i_2 : Int) (o19_3 : (List Int)) : laws_markInt64S.l0 R N (n + 1) k_1 i_2 o19_3 = (bif (decide (i_2 < (List.length o19_3 : Int))) then (Option.bind (chk (decide (0 ≤ i_2) && decide (i_2 < (List.length o19_3 : Int)))) fun _ => (laws_markInt64S.l0 R N n (w64 (k_1 + (1 : Int))) (w64 (i_2 + (1 : Int))) (List.set o19_3 (Int.toNat i_2) k_1))) else some ⟨o_laws_markInt64S, (k_1, o19_3, ())⟩) := (hw _ _).trans (by kernel_rfl)
theorem laws_markInt64S.ev (R : Run) (N : Nat) (a0 : (List Int)) (a1 : Int) : evFn E R sg_laws_markInt64S pol_laws_markInt64S F_laws_markInt64S N [⟨(.sl (.int .i64)), a0⟩, ⟨(.int .i64), a1⟩] = (laws_markInt64S.l0 R N N a1 (0 : Int) a0) := by kernel_rfl
/-! loop.example/g01005/laws.markComplex -/
theorem laws_markComplex.ev (R : Run) (N : Nat) (a0 : (List (List Int))) (a1 : Int) : evFn E R sg_laws_markComplex pol_laws_markComplex F_laws_markComplex N [⟨(.sl (.sl (.int .i64))), a0⟩, ⟨(.int .i64), a1⟩] = (Option.bind (callT R n_laws_markInt64SS o_laws_markInt64SS [⟨(.sl (.sl (.int .i64))), a0⟩, ⟨(.int .i64), a1⟩]) fun r1 => some ⟨o_laws_markComplex, (r1.1, r1.2.1, ())⟩) := by kernel_rfl
/-! loop.example/g01005/laws.heldInt64S -/
noncomputable def laws_heldInt64S.l0 (R : Run) (N : Nat) (n : Nat) (a_1 : (List Int)) (k_2 : Int) (i_3 : Int) : Option Dv := R.w (some ⟨[.c (.d (.sl (.int .i64)) a_1), .c (.d (.int .i64) k_2), V.dead, V.dead, V.dead, .c (.d (.int .i64) i_3), V.dead, V.dead, V.dead, V.dead, V.dead, V.dead, V.dead, V.dead, V.dead, V.dead, V.dead, V.dead, V.dead, V.dead, V.dead], [none, none, none, none, none, none, none, none, none, none, none, none, none, none, none, none, none, none, none, none, none, none, none]⟩) fun st => loopC (evCode E R pol_laws_heldInt64S N (sub [1, 0, 1, 0, 0] (bodyOf F_laws_heldInt64S))) (maskAt R pol_laws_heldInt64S.loopM 2) n st (kBlk (maskAt R pol_laws_heldInt64S.blkM 0) 0 (kSeq (maskAt R pol_laws_heldInt64S.seqM 7) (evCode E R pol_laws_heldInt64S N (sub [1, 1] (bodyOf F_laws_heldInt64S))) (kTop E sg_laws_heldInt64S F_laws_heldInt64S)))
theorem laws_heldInt64S.l0_zero (R : Run) (hw : R.ok) (N : Nat) (a_1 : (List Int)) (k_2 : Int) (i_3 : Int) : laws_heldInt64S.l0 R N 0 a_1 k_2 i_3 = none := (hw _ _).trans (by kernel_rfl)
theorem laws_heldInt64S.l0_succ (R : Run) (hw : R.ok) (N : Nat) (n : Nat) (a_1 : (List Int)) (k_2 : Int) (i_3 : Int) : laws_heldInt64S.l0 R N (n + 1) a_1 k_2 i_3 = (bif (decide (i_3 < (List.length a_1 : Int))) then (Option.bind (idx? a_1 i_3) fun y4 => (bif ((y4, ()).1 != k_2) then some ⟨o_laws_heldInt64S, ((-1 : Int), ())⟩ else (laws_heldInt64S.l0 R N n a_1 (w64 (k_2 + (1 : Int))) (w64 (i_3 + (1 : Int)))))) else some ⟨o_laws_heldInt64S, (k_2, ())⟩) := (hw _ _).trans (by kernel_rfl)
theorem laws_heldInt64S.ev (R : Run) (N : Nat) (a0 : (List Int)) (a1 : Int) : evFn E R sg_laws_heldInt64S pol_laws_heldInt64S F_laws_heldInt64S N [⟨(.sl (.int .i64)), a0⟩, ⟨(.int .i64), a1⟩] = (laws_heldInt64S.l0 R N N a0 a1 (0 : Int)) := by kernel_rfl
/-! loop.example/g01005/laws.heldInt64SS -/
noncomputable def laws_heldInt64SS.l0 (R : Run) (N : Nat) (n : Nat) (a_1 : (List (List Int))) (k_2 : Int) (i_3 : Int) : Option Dv := R.w (some ⟨[.c (.d (.sl (.sl (.int .i64))) a_1), .c (.d (.int .i64) k_2), V.dead, V.dead, V.dead, .c (.d (.int .i64) i_3), V.dead, V.dead, V.dead, V.dead, V.dead, V.dead, V.dead, V.dead, V.dead, V.dead, V.dead, V.dead, V.dead, V.dead, V.dead], [none, none, none, none, none, none, none, none, none, none, none, none, none, none, none, none, none, none, none, none, none, none, none]⟩) fun st => loopC (evCode E R pol_laws_heldInt64SS N (sub [1, 0, 1, 0, 0] (bodyOf F_laws_heldInt64SS))) (maskAt R pol_laws_heldInt64SS.loopM 2) n st (kBlk (maskAt R pol_laws_heldInt64SS.blkM 0) 0 (kSeq (maskAt R pol_laws_heldInt64SS.seqM 7) (evCode E R pol_laws_heldInt64SS N (sub [1, 1] (bodyOf F_laws_heldInt64SS))) (kTop E sg_laws_heldInt64SS F_laws_heldInt64SS)))
theorem laws_heldInt64SS.l0_zero (R : Run) (hw : R.ok) (N : Nat) (a_1 : (List (List Int))) (k_2 : Int) (i_3 : Int) : laws_heldInt64SS.l0 R N 0 a_1 k_2 i_3 = none := (hw _ _).trans (by kernel_rfl)
theorem laws_heldInt64SS.l0_succ (R : Run) (hw : R.ok) (N : Nat) (n : Nat) (a_1 : (List (List Int))) (k_2 : Int) (i_3 : Int) : laws_heldInt64SS.l0 R N (n + 1) a_1 k_2 i_3 = (bif (decide (i_3 < (List.length a_1 : Int))) then (Option.bind (idx? a_1 i_3) fun y4 => (Option.bind (callT R n_laws_heldInt64S o_laws_heldInt64S [⟨(.sl (.int .i64)), (y4, ()).1⟩, ⟨(.int .i64), k_2⟩]) fun r5 => (bif (decide (r5.1 < (0 : Int))) then some ⟨o_laws_heldInt64SS, ((-1 : Int), ())⟩ else (laws_heldInt64SS.l0 R N n a_1 r5.1 (w64 (i_3 + (1 : Int))))))) else some ⟨o_laws_heldInt64SS, (k_2, ())⟩) := (hw _ _).trans (by kernel_rfl)
theorem laws_heldInt64SS.ev (R : Run) (N : Nat) (a0 : (List (List Int))) (a1 : Int) : evFn E R sg_laws_heldInt64SS pol_laws_heldInt64SS F_laws_heldInt64SS N [⟨(.sl (.sl (.int .i64))), a0⟩, ⟨(.int .i64), a1⟩] = (laws_heldInt64SS.l0 R N N a0 a1 (0 : Int)) := by kernel_rfl
/-! loop.example/g01005/laws.FnExactFreePairs -/
noncomputable def laws_FnExactFreePairs.j2 (R : Run) (N : Nat) (t10__27 : Int) (t87__28 : Bool) (o98_29 : (List (List Int))) : Option Dv := R.w (some ⟨[V.dead, V.dead, V.dead, V.dead, V.dead, V.dead, V.dead, .c (.arr 98), V.dead, V.dead, .c (.d (.int .i64) t10__27), V.dead, V.dead, V.dead, V.dead, V.dead, V.dead, V.dead, V.dead, V.dead, V.dead, V.dead, V.dead, V.dead, V.dead, V.dead, V.dead, V.dead, V.dead, V.dead, V.dead, V.dead, V.dead, V.dead, V.dead, V.dead, V.dead, V.dead, V.dead, V.dead, V.dead, V.dead, V.dead, V.dead, V.dead, V.dead, V.dead, V.dead, V.dead, V.dead, V.dead, V.dead, V.dead, V.dead, V.dead, V.dead, V.dead, V.dead, V.dead, V.dead, V.dead, V.dead, V.dead, V.dead, V.dead, V.dead, V.dead, V.dead, V.dead, V.dead, V.dead, V.dead, V.dead, V.dead, V.dead, V.dead, V.dead, V.dead, V.dead, V.dead, V.dead, V.dead, V.dead, V.dead, V.dead, V.dead, V.dead, .c (.d .bool t87__28), V.dead, V.dead, V.dead, V.dead, V.dead, V.dead, V.dead, V.dead], [none, none, none, none, none, none, none, none, none, none, none, none, none, none, none, none, none, none, none, none, none, none, none, none, none, none, none, none, none, none, none, none, none, none, none, none, none, none, none, none, none, none, none, none, none, none, none, none, none, none, none, none, none, none, none, none, none, none, none, none, none, none, none, none, none, none, none, none, none, none, none, none, none, none, none, none, none, none, none, none, none, none, none, none, none, none, none, none, none, none, none, none, none, none, none, none, none, none, some (.arr (.sl (.int .i64)) o98_29 true false false)]⟩) fun st => evCode E R pol_laws_FnExactFreePairs N (sub [1, 1, 1, 1, 1, 1, 1, 1, 1, 1, 1, 1, 1, 1, 1, 1, 1, 1, 1, 0, 1] (bodyOf F_laws_FnExactFreePairs)) st (kSeq (maskAt R pol_laws_FnExactFreePairs.seqM 27) (evCode E R pol_laws_FnExactFreePairs N (sub [1, 1, 1, 1, 1, 1, 1, 1, 1, 1, 1, 1, 1, 1, 1, 1, 1, 1, 1, 1] (bodyOf F_laws_FnExactFreePairs))) (kTop E sg_laws_FnExactFreePairs F_laws_FnExactFreePairs))
noncomputable def laws_FnExactFreePairs.j1 (R : Run) (N : Nat) (t4__17 : (List (List Int))) (t5__18 : Int) (t61__19 : Bool) (o1_20 : (List (List Int))) (o98_21 : (List (List Int))) : Option Dv := R.w (some ⟨[V.dead, .c (.box 1 0), V.dead, V.dead, .c (.d (.sl (.sl (.int .i64))) t4__17), .c (.d (.int .i64) t5__18), V.dead, .c (.arr 98), V.dead, V.dead, V.dead, V.dead, V.dead, V.dead, V.dead, V.dead, V.dead, V.dead, V.dead, V.dead, V.dead, V.dead, V.dead, V.dead, V.dead, V.dead, V.dead, V.dead, V.dead, V.dead, V.dead, V.dead, V.dead, V.dead, V.dead, V.dead, V.dead, V.dead, V.dead, V.dead, V.dead, V.dead, V.dead, V.dead, V.dead, V.dead, V.dead, V.dead, V.dead, V.dead, V.dead, V.dead, V.dead, V.dead, V.dead, V.dead, V.dead, V.dead, V.dead, V.dead, V.dead, .c (.d .bool t61__19), V.dead, V.dead, V.dead, V.dead, V.dead, V.dead, V.dead, V.dead, V.dead, V.dead, V.dead, V.dead, V.dead, V.dead, V.dead, V.dead, V.dead, V.dead, V.dead, V.dead, V.dead, V.dead, V.dead, V.dead, V.dead, V.dead, V.dead, V.dead, V.dead, V.dead, V.dead, V.dead, V.dead, V.dead], [none, some (.box [.d (.sl (.sl (.int .i64))) o1_20] false false), none, none, none, none, none, none, none, none, none, none, none, none, none, none, none, none, none, none, none, none, none, none, none, none, none, none, none, none, none, none, none, none, none, none, none, none, none, none, none, none, none, none, none, none, none, none, none, none, none, none, none, none, none, none, none, none, none, none, none, none, none, none, none, none, none, none, none, none, none, none, none, none, none, none, none, none, none, none, none, none, none, none, none, none, none, none, none, none, none, none, none, none, none, none, none, none, some (.arr (.sl (.int .i64)) o98_21 true false false)]⟩) fun st => evCode E R pol_laws_FnExactFreePairs N (sub [1, 1, 1, 1, 1, 1, 1, 1, 1, 1, 1, 0, 1] (bodyOf F_laws_FnExactFreePairs)) st (kSeq (maskAt R pol_laws_FnExactFreePairs.seqM 16) (evCode E R pol_laws_FnExactFreePairs N (sub [1, 1, 1, 1, 1, 1, 1, 1, 1, 1, 1, 1] (bodyOf F_laws_FnExactFreePairs))) (kTop E sg_laws_FnExactFreePairs F_laws_FnExactFreePairs))
noncomputable def laws_FnExactFreePairs.j0 (R : Run) (N : Nat) (t4__7 : (List (List Int))) (t5__8 : Int) (t8__9 : Int) (t40__10 : Bool) (o1_11 : (List (List Int))) (o97_12 : (List (List Int))) (o98_13 : (List (List Int))) : Option Dv := R.w (some ⟨[V.dead, .c (.box 1 0), V.dead, V.dead, .c (.d (.sl (.sl (.int .i64))) t4__7), .c (.d (.int .i64) t5__8), .c (.box 6 0), .c (.arr 98), .c (.d (.int .i64) t8__9), V.dead, V.dead, V.dead, V.dead, V.dead, V.dead, V.dead, V.dead, V.dead, V.dead, V.dead, V.dead, V.dead, V.dead, V.dead, V.dead, V.dead, V.dead, V.dead, V.dead, V.dead, V.dead, V.dead, V.dead, V.dead, V.dead, V.dead, V.dead, V.dead, V.dead, V.dead, .c (.d .bool t40__10), V.dead, V.dead, V.dead, V.dead, V.dead, V.dead, V.dead, V.dead, V.dead, V.dead, V.dead, V.dead, V.dead, V.dead, V.dead, V.dead, V.dead, V.dead, V.dead, V.dead, V.dead, V.dead, V.dead, V.dead, V.dead, V.dead, V.dead, V.dead, V.dead, V.dead, V.dead, V.dead, V.dead, V.dead, V.dead, V.dead, V.dead, V.dead, V.dead, V.dead, V.dead, V.dead, V.dead, V.dead, V.dead, V.dead, V.dead, V.dead, V.dead, V.dead, V.dead, V.dead, V.dead, V.dead, V.dead], [none, some (.box [.d (.sl (.sl (.int .i64))) o1_11] false false), none, none, none, none, some (.box [.arr 97] false false), none, none, none, none, none, none, none, none, none, none, none, none, none, none, none, none, none, none, none, none, none, none, none, none, none, none, none, none, none, none, none, none, none, none, none, none, none, none, none, none, none, none, none, none, none, none, none, none, none, none, none, none, none, none, none, none, none, none, none, none, none, none, none, none, none, none, none, none, none, none, none, none, none, none, none, none, none, none, none, none, none, none, none, none, none, none, none, none, none, none, some (.arr (.sl (.int .i64)) o97_12 true false false), some (.arr (.sl (.int .i64)) o98_13 true false false)]⟩) fun st => evCode E R pol_laws_FnExactFreePairs N (sub [1, 1, 1, 1, 1, 1, 1, 0, 1] (bodyOf F_laws_FnExactFreePairs)) st (kSeq (maskAt R pol_laws_FnExactFreePairs.seqM 10) (evCode E R pol_laws_FnExactFreePairs N (sub [1, 1, 1, 1, 1, 1, 1, 1] (bodyOf F_laws_FnExactFreePairs))) (kTop E sg_laws_FnExactFreePairs F_laws_FnExactFreePairs))
theorem laws_FnExactFreePairs.j2_eq (R : Run) (hw : R.ok) (N : Nat) (t10__27 : Int) (t87__28 : Bool) (o98_29 : (List (List Int))) : laws_FnExactFreePairs.j2 R N t10__27 t87__28 o98_29 = (bif t87__28 then some ⟨o_laws_FnExactFreePairs, (false, ())⟩ else (Option.bind (callT R n_laws_heldInt64SS o_laws_heldInt64SS [⟨(.sl (.sl (.int .i64))), o98_29⟩, ⟨(.int .i64), (1 : Int)⟩]) fun r30 => (bif (decide (r30.1 < (0 : Int))) then some ⟨o_laws_FnExactFreePairs, (false, ())⟩ else (bif (r30.1 != t10__27) then some ⟨o_laws_FnExactFreePairs, (false, ())⟩ else some ⟨o_laws_FnExactFreePairs, (true, ())⟩)))) := (hw _ _).trans (by kernel_rfl)
theorem laws_FnExactFreePairs.j1_eq (R : Run) (hw : R.ok) (N : Nat) (t4__17 : (List (List Int))) (t5__18 : Int) (t61__19 : Bool) (o1_20 : (List (List Int))) (o98_21 : (List (List Int))) : laws_FnExactFreePairs.j1 R N t4__17 t5__18 t61__19 o1_20 o98_21 = (bif t61__19 then some ⟨o_laws_FnExactFreePairs, (false, ())⟩ else (Option.bind (callT R n_laws_markInt64SS o_laws_markInt64SS [⟨(.sl (.sl (.int .i64))), o98_21⟩, ⟨(.int .i64), (1 : Int)⟩]) fun r22 => (Option.bind (callT R n_laws_heldInt64SS o_laws_heldInt64SS [⟨(.sl (.sl (.int .i64))), r22.2.1⟩, ⟨(.int .i64), (1 : Int)⟩]) fun r23 => (bif (decide (r23.1 < (0 : Int))) then some ⟨o_laws_FnExactFreePairs, (false, ())⟩ else (bif (r23.1 != r22.1) then some ⟨o_laws_FnExactFreePairs, (false, ())⟩ else (Option.bind (callT R n_laws_toComplex o_laws_toComplex [⟨(.sl (.sl (.int .i64))), o1_20⟩]) fun r24 => (Option.bind (callT R n_impl_FreePairs o_impl_FreePairs [⟨(.sl (.sl (.int .i64))), r24.1⟩]) fun r25 => (Option.bind (callT R n_laws_eqInt64SS o_laws_eqInt64SS [⟨(.sl (.sl (.int .i64))), r25.1⟩, ⟨(.sl (.sl (.int .i64))), t4__17⟩]) fun r26 => (bif (!r26.1) then (laws_FnExactFreePairs.j2 R N r22.1 true r22.2.1) else (laws_FnExactFreePairs.j2 R N r22.1 (r25.2.1 != t5__18) r22.2.1)))))))))) := (hw _ _).trans (by kernel_rfl)
theorem laws_FnExactFreePairs.j0_eq (R : Run) (hw : R.ok) (N : Nat) (t4__7 : (List (List Int))) (t5__8 : Int) (t8__9 : Int) (t40__10 : Bool) (o1_11 : (List (List Int))) (o97_12 : (List (List Int))) (o98_13 : (List (List Int))) : laws_FnExactFreePairs.j0 R N t4__7 t5__8 t8__9 t40__10 o1_11 o97_12 o98_13 = (bif t40__10 then some ⟨o_laws_FnExactFreePairs, (false, ())⟩ else (Option.bind (callT R n_laws_toComplex o_laws_toComplex [⟨(.sl (.sl (.int .i64))), o1_11⟩]) fun r14 => (Option.bind (callT R n_laws_eqComplex o_laws_eqComplex [⟨(.sl (.sl (.int .i64))), o97_12⟩, ⟨(.sl (.sl (.int .i64))), r14.1⟩]) fun r15 => (bif (!r15.1) then some ⟨o_laws_FnExactFreePairs, (false, ())⟩ else (Option.bind (callT R n_laws_markComplex o_laws_markComplex [⟨(.sl (.sl (.int .i64))), o97_12⟩, ⟨(.int .i64), (1 : Int)⟩]) fun r16 => (bif (decide (r16.1 < (0 : Int))) then (laws_FnExactFreePairs.j1 R N t4__7 t5__8 true o1_11 o98_13) else (Option.bind (callT R n_laws_eqInt64SS o_laws_eqInt64SS [⟨(.sl (.sl (.int .i64))), o98_13⟩, ⟨(.sl (.sl (.int .i64))), t4__7⟩]) fun r34 => (bif (!r34.1) then (laws_FnExactFreePairs.j1 R N t4__7 t5__8 true o1_11 o98_13) else (laws_FnExactFreePairs.j1 R N t4__7 t5__8 (t8__9 != t5__8) o1_11 o98_13))))))))) := (hw _ _).trans (by kernel_rfl)
theorem laws_FnExactFreePairs.ev (R : Run) (N : Nat) (a0 : (List (List Int))) : evFn E R sg_laws_FnExactFreePairs pol_laws_FnExactFreePairs F_laws_FnExactFreePairs N [⟨(.sl (.sl (.int .i64))), a0⟩] = (Option.bind (callT R n_laws_szComplex o_laws_szComplex [⟨(.sl (.sl (.int .i64))), a0⟩, ⟨(.int .i64), (1048576 : Int)⟩]) fun r1 => (bif (decide (r1.1 < (0 : Int))) then some ⟨o_laws_FnExactFreePairs, (true, ())⟩ else (Option.bind (callT R n_laws_toComplex o_laws_toComplex [⟨(.sl (.sl (.int .i64))), a0⟩]) fun r2 => (Option.bind (callT R n_spec_FreePairs o_spec_FreePairs [⟨(.sl (.sl (.int .i64))), r2.1⟩]) fun r3 => (Option.bind (callT R n_laws_toComplex o_laws_toComplex [⟨(.sl (.sl (.int .i64))), a0⟩]) fun r4 => (Option.bind (callT R n_impl_FreePairs o_impl_FreePairs [⟨(.sl (.sl (.int .i64))), r4.1⟩]) fun r5 => (Option.bind (callT R n_laws_eqInt64SS o_laws_eqInt64SS [⟨(.sl (.sl (.int .i64))), r5.1⟩, ⟨(.sl (.sl (.int .i64))), r3.1⟩]) fun r6 => (bif (!r6.1) then (laws_FnExactFreePairs.j0 R N r3.1 r3.2.1 r5.2.1 true a0 r4.1 r5.1) else (laws_FnExactFreePairs.j0 R N r3.1 r3.2.1 r5.2.1 (r5.2.1 != r3.2.1) a0 r4.1 r5.1))))))))) := by kernel_rfl
end VeT


set_option linter.unusedVariables false
set_option linter.unusedSimpArgs false
namespace VeT
section
open Go Go.Proofs Go.RowKit Go.Lib
set_option maxHeartbeats 2000000 in
set_option maxRecDepth 100000 in
theorem mark21_walk (b n c : Nat) (A : Option Addr) (hA : 0 < n → A = some ⟨b, 0, none⟩) (hnc : n ≤ c) (hn : n ≤ 9223372036854775807) (Inv : Nat → Int → World → Prop) (k : Int) (w : World) (h0 : Inv 0 k w)
    (step : ∀ i k' wr, i < n → Inv i k' wr → ∃ u, wr.cell? ⟨b, i, none⟩ = some u ∧ Calls Try.prog 48 #[u, .int .i64 k'] wr fun e w' => ∃ k2, e = .returned (.int .i64 k2) ∧ Inv (i + 1) k2 w') :
    Calls Try.prog 21 #[.slice A n c, .int .i64 k] w fun e w' => ∃ k2, e = .returned (.int .i64 k2) ∧ Inv n k2 w' := by
  go_enter Try.func21, Try.ntmps21
  go_wp2
  go_loopw [1, 5] (fun kv iv wr => ∃ i : Nat, ∃ k' : Int, i ≤ n ∧ iv = .int .i64 i ∧ kv = .int .i64 k' ∧ Inv i k' wr) (fun _ iv _ => n - (RowKit.intOf iv).toNat)
  case atStart => exact ⟨0, k, Nat.zero_le _, rfl, rfl, h0⟩
  case round =>
    obtain ⟨i, k', hi, rfl, rfl, hInv⟩ := hrel
    by_cases hlt : i < n
    · obtain rfl := hA (by omega)
      obtain ⟨u, hu, hcall⟩ := step i k' _ hlt hInv
      go_wp2_with (go_at_call 48; refine hcall.mono ?_; rintro e w' ⟨k2, rfl, hI2⟩)
      go_roundw
      case rel => exact ⟨i + 1, k2, by omega, by simp, rfl, hI2⟩
      case measure => simp [RowKit.intOf]; omega
    · obtain rfl : i = n := by omega
      go_wp2
      go_ret
      exact ⟨k', rfl, hInv⟩
open Ve in
theorem mark21_contract {R : Run} (hR : ∀ args dv, R.r 48 args = some dv → Contract Try.prog ⟨[(false, 1), (false, 1)], [.io true, .imm], oM, [(false, 1)], [], []⟩ 48 args dv) {args : List Dv} {dv : Dv} (h : pMarkSS 48 R args = some dv) :
    Contract Try.prog ⟨[(false, 1), (false, 1)], [.io true, .imm], .cons tI (.cons (.sl tL) .nil), [(false, 1)], [], []⟩ 21 args dv :=
  mark_contract mark21_walk hR h

set_option maxHeartbeats 2000000 in
set_option maxRecDepth 100000 in
theorem grow135_room (base : Option Addr) (l c n : Nat) (w : World) (hlc : l ≤ c) (hc63 : c ≤ 9223372036854775807) (hn63 : n ≤ 9223372036854775807) (hroom : l + n ≤ c) :
    Calls Try.prog 135 #[.slice base l c, .int .i64 n] w fun e w' => e = .returned (.slice base l c) ∧ w' = w := by
  have h1 : ¬ ((n : Int) < 0) := by omega
  have h2 : wrap64 ((c : Int) - (l : Int)) = (c : Int) - (l : Int) := by unfold wrap64; omega
  have h3 : wrap64 ((n : Int) - ((c : Int) - (l : Int))) = (n : Int) - ((c : Int) - (l : Int)) := by unfold wrap64; omega
  have h4 : ¬ ((n : Int) - ((c : Int) - (l : Int)) > 0) := by omega
  go_enter Try.func135, Try.ntmps135
  go_wp2
  go_ret
  exact ⟨rfl, rfl⟩

set_option maxHeartbeats 4000000 in
set_option maxRecDepth 100000 in
theorem grow135_grow (i0 : TypeInfo) (z : Value) (hi0 : Try.prog.info? 2 = some i0) (hz0 : i0.zero = some z) (hs0 : 0 < i0.size)
    (base : Option Addr) (l c n : Nat) (cs : List Value) (w : World) (hlc : l ≤ c) (hroom : c < l + n) (hbig : (l + n) * i0.bytes ≤ 140737488355328) (h63 : l + n ≤ 4611686018427387904)
    (hcl : cs.length = c * i0.size) (hnil : base = none → c = 0) (hcs : ∀ a, base = some a → ∀ (j : Nat) v, cs[j]? = some v → w.cell? (a.add j) = some v) :
    Calls Try.prog 135 #[.slice base l c, .int .i64 n] w fun e w' =>
      e = .returned (.slice (some ⟨w.heap.size, 0, none⟩) l (grownCap w (l + n) c 2)) ∧
      w' = w.drew.alloc (.cells (cs.toArray ++ Builtin.zeroCells z.cells (l + n - c) ++ Builtin.zeroCells z.cells (grownCap w (l + n) c 2 - (l + n))) 2) := by
  have h1 : ¬ ((n : Int) < 0) := by omega
  have h2 : wrap64 ((c : Int) - (l : Int)) = (c : Int) - (l : Int) := by unfold wrap64; omega
  have h3 : wrap64 ((n : Int) - ((c : Int) - (l : Int))) = (n : Int) - ((c : Int) - (l : Int)) := by unfold wrap64; omega
  have h4 : (n : Int) - ((c : Int) - (l : Int)) > 0 := by omega
  have z25 : ∀ w, (Go.sizeOf 2).run Try.prog w = .ok i0.size w := fun w => by simp [Go.sizeOf, typeInfo, hi0]
  have hck : c + (l + n - c) = l + n := by omega
  have hold : (Builtin.firstCells i0.size c (.slice base c c)).run Try.prog w.drew = .ok cs.toArray w.drew := by
    cases base with
    | none =>
      have h0 := hnil rfl
      subst h0
      have hc0 : cs = [] := List.length_eq_zero_iff.1 (by simpa using hcl)
      rw [hc0]
      exact run_firstCells_none w.drew i0.size 0 0 0
    | some a => exact run_firstCells_some w.drew i0.size c a c c cs hcl (fun j v hj => hcs a rfl j v hj)
  have hrz : ∀ ty, (Builtin.append_ #[25, 3] ty #[.slice base c c, .int .i64 ((n : Int) - ((c : Int) - (l : Int)))]).run Try.prog w =
      .ok (.slice (some ⟨w.heap.size, 0, none⟩) (l + n) (grownCap w (l + n) c 2)) (w.drew.alloc (.cells (cs.toArray ++ Builtin.zeroCells z.cells (l + n - c) ++ Builtin.zeroCells z.cells (grownCap w (l + n) c 2 - (l + n))) 2)) := fun ty => by
    have h := Lib.run_append_grow_zeros w 25 3 ty 2 i0 z .i64 .i64 Try.underlying25 Try.underlying3 hi0 hz0 base c c cs hold (l + n - c) (by omega) hs0 (by omega) (by omega)
      (by have : (l + n - c) * i0.bytes ≤ (l + n) * i0.bytes := Nat.mul_le_mul_right _ (by omega)
          omega)
      (by rw [hck]; exact growslice_fits hroom hbig)
    rw [hck] at h
    rw [show (n : Int) - ((c : Int) - (l : Int)) = ((l + n - c : Nat) : Int) by omega]
    exact h
  have hGn : l + n ≤ grownCap w (l + n) c 2 := grownCap_ge w _ _ _
  obtain ⟨G, hG⟩ : ∃ G, G = grownCap w (l + n) c 2 := ⟨_, rfl⟩
  rw [← hG] at hrz hGn ⊢
  have hG63 : G ≤ 9223372036854775807 := by
    have := grownCap_le_maxLen w (l + n) c 2 (by unfold maxLen; omega)
    rw [← hG] at this
    unfold maxLen at this
    omega
  clear hold hck hG hcs hcl
  go_enter Try.func135, Try.ntmps135
  cases base with
  | none =>
    have h0 := hnil rfl
    subst h0
    obtain rfl : l = 0 := by omega
    go_wp2_with (at_builtin; refine Lib.wpList_append_run _ rfl _ _ _ _ rfl _ _ rfl rfl _ _ (hrz _) ?_)
    all_goals (go_ret; exact ⟨rfl, rfl⟩)
  | some a =>
    obtain ⟨ab, ao, asp⟩ := a
    go_wp2_with (at_builtin; refine Lib.wpList_append_run _ rfl _ _ _ _ rfl _ _ rfl rfl _ _ (hrz _) ?_)
    all_goals (go_ret; exact ⟨rfl, rfl⟩)
theorem grow135_info : (Try.prog.info? 2).any (fun i => i.size == Ve.Ty.size (.int .i64) && i.zero.any (fun z => z.cells.size == Ve.Ty.size (.int .i64)) && decide (i.bytes ≤ 64 * Ve.Ty.size (.int .i64)) && decide (0 < i.bytes) && decide (0 < Ve.Ty.size (.int .i64))) = true := by kernel_rfl
open Ve in
theorem grow135_contract (R : Run) {args : List Dv} {dv : Dv} (h : pGrow (.int .i64) R args = some dv) :
    Contract Try.prog ⟨[(false, 1), (false, 1)], [.take true, .imm], .cons (.sl (.int .i64)) .nil, [(false, 1)], [.deep], []⟩ 135 args dv := by
  have hi := grow135_info
  cases hi0 : Try.prog.info? 2 with
  | none => rw [hi0] at hi; cases hi
  | some i0 =>
    rw [hi0] at hi
    simp only [Option.any_some, Bool.and_eq_true, decide_eq_true_eq, beq_iff_eq] at hi
    obtain ⟨⟨⟨⟨h1, h2⟩, h3⟩, h4⟩, h5⟩ := hi
    cases hz : i0.zero with
    | none => rw [hz] at h2; cases h2
    | some z =>
      rw [hz] at h2
      exact grow_contract h1 (by simpa using h2) h5 h3 h4 grow135_room (fun base l c n cs w a1 a2 a3 a4 a5 a6 a7 => grow135_grow i0 z hi0 hz (by rw [h1]; exact h5) base l c n cs w a1 a2 a3 a4 a5 a6 a7) R h

end
section
open Go Ve
theorem primL_eq : primL = (List.range 175).map fun i => bif Nat.beq i 21 then some (pMarkSS n_laws_markInt64S) else bif Nat.beq i 135 then some (pGrow (.int .i64)) else none := by kernel_rfl
theorem prims_ok : ∀ f p, E.prim f = some p → ∀ r, RunOk E (mkR r) → ∀ args dv sg, E.sig f = some sg → p (mkR r) args = some dv → Contract E.P sg f args dv := by
  intro f p hp r hr args dv sg hsg h
  have hp : primL.getD f none = some p := hp
  rw [primL_eq, List.getD_eq_getElem?_getD, List.getElem?_map] at hp
  by_cases hf : f < 175
  · rw [List.getElem?_range hf] at hp
    simp only [Option.map_some, Option.getD_some] at hp
    by_cases h21 : f = 21
    · subst h21
      obtain rfl : (pMarkSS n_laws_markInt64S) = p := Option.some.inj hp
      obtain rfl : sg_laws_markInt64SS = sg := Option.some.inj (sig_laws_markInt64SS_eq.symm.trans hsg)
      exact mark21_contract (fun args dv h => hr _ args dv _ sig_laws_markInt64S_eq h) h
    rw [show Nat.beq f 21 = false from Bool.eq_false_iff.2 fun h => h21 (Nat.eq_of_beq_eq_true h), cond_false] at hp
    by_cases h135 : f = 135
    · subst h135
      obtain rfl : (pGrow (.int .i64)) = p := Option.some.inj hp
      obtain rfl : sg_slices_Grow_Sint64_int64 = sg := Option.some.inj (sig_slices_Grow_Sint64_int64_eq.symm.trans hsg)
      exact grow135_contract _ h
    rw [show Nat.beq f 135 = false from Bool.eq_false_iff.2 fun h => h135 (Nat.eq_of_beq_eq_true h), cond_false] at hp
    cases hp
  · rw [List.getElem?_eq_none (by simpa using hf)] at hp
    cases hp
end
end VeT

open Go Go.Proofs Ve
set_option linter.unusedVariables false
set_option linter.unusedSimpArgs false
namespace VeT

theorem szInt64S_ret (x : (List Int)) (l : Int) (hx : Wf (.sl (.int .i64)) x) (h0 : 0 ≤ l) (h1 : l ≤ 1048576) :
    ∃ r : Int, Ret E n_laws_szInt64S [⟨(.sl (.int .i64)), x⟩, ⟨.int .i64, l⟩] ⟨o_laws_szInt64S, (r, ())⟩ ∧ (0 ≤ r → r ≤ l ∧ Sm (.sl (.int .i64)) x) := by
  have hx1 : x.length ≤ maxLen := hx.1
  rw [maxLen_eq] at hx1
  have hw : w64 (l - x.length) = l - x.length := w64_small (by omega) (by omega)
  by_cases hc : l - (x.length : Int) < 0
  · refine ⟨-1, Evt.succ (Evt.of fun n => ?_), fun h => by omega⟩
    rw [run_laws_szInt64S, laws_szInt64S.ev, hw, decide_eq_true hc]; rfl
  · refine ⟨l - x.length, Evt.succ (Evt.of fun n => ?_), fun h => ⟨by omega, by omega, fun x _ => trivial⟩⟩
    rw [run_laws_szInt64S, laws_szInt64S.ev, hw, decide_eq_false hc]; rfl

theorem toInt64S_ret (x : (List Int)) (hx : Sm (.sl (.int .i64)) x) : Ret E n_laws_toInt64S [⟨(.sl (.int .i64)), x⟩] ⟨o_laws_toInt64S, (x, ())⟩ := by
  have hx1 : x.length ≤ 1048576 := hx.1
  have hl := fill_loop (a := x) (L := fun m n i o => laws_toInt64S.l0 (mkR (run E m)) m n x i o) (z := List.replicate (Int.toNat (List.length x : Int)) (0 : Int)) (r := some ⟨o_laws_toInt64S, (x, ())⟩) (by simp) (fun k o hk ho => by
      refine Evt.of fun m n => ?_
      show laws_toInt64S.l0 _ _ _ _ _ _ = _
      rw [laws_toInt64S.l0_succ _ mk_ok, decide_eq_true (show (k : Int) < x.length by omega), cond_true, idx_lt hk]
      simp only [Option.bind_some]
      rw [chk_true (by simp; omega), w64_succ (by omega), Int.toNat_natCast]) (Evt.of fun m n => by
      show laws_toInt64S.l0 _ _ _ _ _ _ = _
      rw [laws_toInt64S.l0_succ _ mk_ok, decide_eq_false (by omega), cond_false])
  refine Evt.succ (hl.mono fun n h => ?_)
  rw [run_laws_toInt64S, laws_toInt64S.ev, chk_true (by simp; omega)]
  exact h

theorem eqInt64S_ret (x y : (List Int)) (hx : Sm (.sl (.int .i64)) x) : ∃ b : Bool, Ret E n_laws_eqInt64S [⟨(.sl (.int .i64)), x⟩, ⟨(.sl (.int .i64)), y⟩] ⟨o_laws_eqInt64S, (b, ())⟩ ∧ (b = true ↔ x = y) := by
  have hx1 : x.length ≤ 1048576 := hx.1
  by_cases hl : x.length = y.length
  · have hd : ((x.length : Int) != (y.length : Int)) = false := by simp [hl]
    obtain ⟨h1, h2⟩ := same_loop (a := x) (b := y) (L := fun m n i (_ : Unit) => laws_eqInt64S.l0 (mkR (run E m)) m n x y i) (fun u v => u = v) (rt := some ⟨o_laws_eqInt64S, (true, ())⟩) (rf := some ⟨o_laws_eqInt64S, (false, ())⟩) hl.symm
      (fun k h h' hne => Evt.of fun m n => by
      show laws_eqInt64S.l0 _ _ _ _ _ _ = _
      rw [laws_eqInt64S.l0_succ _ mk_ok, decide_eq_true (show (k : Int) < x.length by omega), cond_true, idx_lt h, idx_lt h']
      have : (x[k] != y[k]) = true := by simpa using hne
      simp only [Option.bind_some, this, cond_true])
      (fun k h h' he => Evt.of fun m n => by
      show laws_eqInt64S.l0 _ _ _ _ _ _ = _
      rw [laws_eqInt64S.l0_succ _ mk_ok, decide_eq_true (show (k : Int) < x.length by omega), cond_true, idx_lt h, idx_lt h']
      have : (x[k] != y[k]) = false := by simpa using he
      simp only [Option.bind_some, this, cond_false]
      rw [w64_succ (by omega)])
      (Evt.of fun m n => by
      show laws_eqInt64S.l0 _ _ _ _ _ _ = _
      rw [laws_eqInt64S.l0_succ _ mk_ok, decide_eq_false (by omega), cond_false])
    by_cases he : x = y
    · refine ⟨true, Evt.succ ((h1 (by subst he; intros; rfl)).mono fun n h => ?_), by simp [he]⟩
      rw [run_laws_eqInt64S, laws_eqInt64S.ev, hd, cond_false]
      exact h
    · refine ⟨false, Evt.succ ((h2 fun hh => he (List.ext_getElem hl hh)).mono fun n h => ?_), by simp [he]⟩
      rw [run_laws_eqInt64S, laws_eqInt64S.ev, hd, cond_false]
      exact h
  · have hd : ((x.length : Int) != (y.length : Int)) = true := by simp; omega
    refine ⟨false, Evt.succ (Evt.of fun n => ?_), ⟨fun h => (nomatch h), fun h => absurd (congrArg List.length h) hl⟩⟩
    rw [run_laws_eqInt64S, laws_eqInt64S.ev, hd, cond_true]

theorem szInt64SS_ret (x : (List (List Int))) (l : Int) (hx : Wf (.sl (.sl (.int .i64))) x) (h0 : 0 ≤ l) (h1 : l ≤ 1048576) :
    ∃ r : Int, Ret E n_laws_szInt64SS [⟨(.sl (.sl (.int .i64))), x⟩, ⟨.int .i64, l⟩] ⟨o_laws_szInt64SS, (r, ())⟩ ∧ (0 ≤ r → r ≤ l ∧ Sm (.sl (.sl (.int .i64))) x) := by
  have hx1 : x.length ≤ maxLen := hx.1
  rw [maxLen_eq] at hx1
  have hw : w64 (l - x.length) = l - x.length := w64_small (by omega) (by omega)
  by_cases hc : l - (x.length : Int) < 0
  · refine ⟨-1, Evt.succ (Evt.of fun n => ?_), fun h => by omega⟩
    rw [run_laws_szInt64SS, laws_szInt64SS.ev, hw, decide_eq_true hc]; rfl
  · obtain ⟨r, hr, hs⟩ := sz_loop (xs := x) (L := fun m n i left => laws_szInt64SS.l0 (mkR (run E m)) m n x left i) (ret := fun r => some ⟨o_laws_szInt64SS, (r, ())⟩) (fun x => Sm (.sl (.int .i64)) x) (fun k left hk hl0 hl1 => by
      obtain ⟨r, hr, hs⟩ := szInt64S_ret x[k] left (hx.2 _ (List.getElem_mem hk)) hl0 hl1
      refine ⟨r, hs, hr.mono fun m h n => ?_⟩
      show laws_szInt64SS.l0 _ _ _ _ _ _ = _
      rw [laws_szInt64SS.l0_succ _ mk_ok, decide_eq_true (show (k : Int) < x.length by omega), cond_true, idx_lt hk]
      simp only [Option.bind_some, callT_of h]
      rw [w64_succ (by omega)]) (fun left => Evt.of fun m n => by
      show laws_szInt64SS.l0 _ _ _ _ _ _ = _
      rw [laws_szInt64SS.l0_succ _ mk_ok, decide_eq_false (by omega), cond_false]) (l - x.length) (by omega) (by omega)
    refine ⟨r, Evt.succ (hr.mono fun n h => ?_), fun h => ⟨by have := (hs h).1; omega, by omega, (hs h).2⟩⟩
    rw [run_laws_szInt64SS, laws_szInt64SS.ev, hw, decide_eq_false hc]
    exact h

theorem toInt64SS_ret (x : (List (List Int))) (hx : Sm (.sl (.sl (.int .i64))) x) : Ret E n_laws_toInt64SS [⟨(.sl (.sl (.int .i64))), x⟩] ⟨o_laws_toInt64SS, (x, ())⟩ := by
  have hx1 : x.length ≤ 1048576 := hx.1
  have hl := fill_loop (a := x) (L := fun m n i o => laws_toInt64SS.l0 (mkR (run E m)) m n x i o) (z := List.replicate (Int.toNat (List.length x : Int)) ([] : List Int)) (r := some ⟨o_laws_toInt64SS, (x, ())⟩) (by simp) (fun k o hk ho => by
      have hr := toInt64S_ret x[k] (hx.2 _ (List.getElem_mem hk))
      refine hr.mono fun m h n => ?_
      show laws_toInt64SS.l0 _ _ _ _ _ _ = _
      rw [laws_toInt64SS.l0_succ _ mk_ok, decide_eq_true (show (k : Int) < x.length by omega), cond_true, idx_lt hk]
      simp only [Option.bind_some, callT_of h]
      rw [chk_true (by simp; omega), w64_succ (by omega), Int.toNat_natCast]) (Evt.of fun m n => by
      show laws_toInt64SS.l0 _ _ _ _ _ _ = _
      rw [laws_toInt64SS.l0_succ _ mk_ok, decide_eq_false (by omega), cond_false])
  refine Evt.succ (hl.mono fun n h => ?_)
  rw [run_laws_toInt64SS, laws_toInt64SS.ev, chk_true (by simp; omega)]
  exact h

theorem eqInt64SS_ret (x y : (List (List Int))) (hx : Sm (.sl (.sl (.int .i64))) x) : ∃ b : Bool, Ret E n_laws_eqInt64SS [⟨(.sl (.sl (.int .i64))), x⟩, ⟨(.sl (.sl (.int .i64))), y⟩] ⟨o_laws_eqInt64SS, (b, ())⟩ ∧ (b = true ↔ x = y) := by
  have hx1 : x.length ≤ 1048576 := hx.1
  by_cases hl : x.length = y.length
  · have hd : ((x.length : Int) != (y.length : Int)) = false := by simp [hl]
    obtain ⟨h1, h2⟩ := same_loop (a := x) (b := y) (L := fun m n i (_ : Unit) => laws_eqInt64SS.l0 (mkR (run E m)) m n x y i) (fun u v => u = v) (rt := some ⟨o_laws_eqInt64SS, (true, ())⟩) (rf := some ⟨o_laws_eqInt64SS, (false, ())⟩) hl.symm
      (fun k h h' hne => by
      obtain ⟨b, hb, hbe⟩ := eqInt64S_ret x[k] y[k] (hx.2 _ (List.getElem_mem h))
      have hb0 : b = false := by cases b <;> simp_all
      subst hb0
      refine hb.mono fun m hm n => ?_
      show laws_eqInt64SS.l0 _ _ _ _ _ _ = _
      rw [laws_eqInt64SS.l0_succ _ mk_ok, decide_eq_true (show (k : Int) < x.length by omega), cond_true, idx_lt h, idx_lt h']
      simp only [Option.bind_some, callT_of hm, Bool.not_false, Bool.not_true, cond_true, cond_false])
      (fun k h h' he => by
      obtain ⟨b, hb, hbe⟩ := eqInt64S_ret x[k] y[k] (hx.2 _ (List.getElem_mem h))
      have hb0 : b = true := by cases b <;> simp_all
      subst hb0
      refine hb.mono fun m hm n => ?_
      show laws_eqInt64SS.l0 _ _ _ _ _ _ = _
      rw [laws_eqInt64SS.l0_succ _ mk_ok, decide_eq_true (show (k : Int) < x.length by omega), cond_true, idx_lt h, idx_lt h']
      simp only [Option.bind_some, callT_of hm, Bool.not_false, Bool.not_true, cond_true, cond_false]
      rw [w64_succ (by omega)])
      (Evt.of fun m n => by
      show laws_eqInt64SS.l0 _ _ _ _ _ _ = _
      rw [laws_eqInt64SS.l0_succ _ mk_ok, decide_eq_false (by omega), cond_false])
    by_cases he : x = y
    · refine ⟨true, Evt.succ ((h1 (by subst he; intros; rfl)).mono fun n h => ?_), by simp [he]⟩
      rw [run_laws_eqInt64SS, laws_eqInt64SS.ev, hd, cond_false]
      exact h
    · refine ⟨false, Evt.succ ((h2 fun hh => he (List.ext_getElem hl hh)).mono fun n h => ?_), by simp [he]⟩
      rw [run_laws_eqInt64SS, laws_eqInt64SS.ev, hd, cond_false]
      exact h
  · have hd : ((x.length : Int) != (y.length : Int)) = true := by simp; omega
    refine ⟨false, Evt.succ (Evt.of fun n => ?_), ⟨fun h => (nomatch h), fun h => absurd (congrArg List.length h) hl⟩⟩
    rw [run_laws_eqInt64SS, laws_eqInt64SS.ev, hd, cond_true]

theorem szComplex_ret (x : ((List (List Int)) × Unit)) (l : Int) (hx : Wf (.st (.cons (.sl (.sl (.int .i64))) .nil)) x) (h0 : 0 ≤ l) (h1 : l ≤ 1048576) :
    ∃ r : Int, Ret E n_laws_szComplex [⟨(.sl (.sl (.int .i64))), x.1⟩, ⟨.int .i64, l⟩] ⟨o_laws_szComplex, (r, ())⟩ ∧ (0 ≤ r → r ≤ l ∧ Sm (.st (.cons (.sl (.sl (.int .i64))) .nil)) x) := by
  obtain ⟨r0, hr0, hs0⟩ := szInt64SS_ret x.1 l hx.1 (by omega) (by omega)
  by_cases hc0 : r0 < 0
  · refine ⟨-1, Evt.succ (hr0.mono fun n e0 => ?_), fun h => by omega⟩
    rw [run_laws_szComplex, laws_szComplex.ev]
    simp only [Option.bind_some, cond_true, cond_false, callT_of e0, decide_eq_true hc0]
  have hb0 := hs0 (by omega)
  refine ⟨r0, Evt.succ (hr0.mono fun n e0 => ?_), fun h => ⟨by omega, ?_⟩⟩
  · skip
    rw [run_laws_szComplex, laws_szComplex.ev]
    simp only [Option.bind_some, cond_true, cond_false, callT_of e0, decide_eq_false hc0]
  · exact ⟨hb0.2, trivial⟩

theorem toComplex_ret (x : ((List (List Int)) × Unit)) (hx : Sm (.st (.cons (.sl (.sl (.int .i64))) .nil)) x) : Ret E n_laws_toComplex [⟨(.sl (.sl (.int .i64))), x.1⟩] ⟨o_laws_toComplex, x⟩ := by
  have hr0 := toInt64SS_ret x.1 hx.1
  refine Evt.succ (hr0.mono fun n e0 => ?_)
  rw [run_laws_toComplex, laws_toComplex.ev]
  simp only [Option.bind_some, callT_of e0]

theorem eqComplex_ret (x y : ((List (List Int)) × Unit)) (hx : Sm (.st (.cons (.sl (.sl (.int .i64))) .nil)) x) : ∃ b : Bool, Ret E n_laws_eqComplex [⟨(.sl (.sl (.int .i64))), x.1⟩, ⟨(.sl (.sl (.int .i64))), y.1⟩] ⟨o_laws_eqComplex, (b, ())⟩ ∧ (b = true ↔ x = y) := by
  obtain ⟨b0, hr0, hb0⟩ := eqInt64SS_ret x.1 y.1 hx.1
  refine ⟨b0, Evt.succ (hr0.mono fun n e0 => ?_), ?_⟩
  · skip
    rw [run_laws_eqComplex, laws_eqComplex.ev]
    simp only [Option.bind_some, callT_of e0]
    clear hx hr0 e0 hb0
    cases b0 <;> rfl
  · obtain ⟨x0, _⟩ := x
    obtain ⟨y0, _⟩ := y
    simp only [Bool.and_eq_true, decide_eq_true_eq, hb0, Prod.mk.injEq, and_true]
    try simp only [and_assoc]

end VeT

open Go Go.Proofs Ve
set_option linter.unusedVariables false
set_option linter.unusedSimpArgs false
namespace VeT

theorem IndexFunc_SSint64_Sint64_impl_ValidComplex_1_ret (s : List (List Int)) (c : (((List (List Int)) × Unit) × (Int × Unit) × Unit)) (p : (List Int) → Bool) (hs : s.length ≤ 1048576) (hp : ∀ x ∈ s, Ret E n_impl_ValidComplex_1 [⟨(.sl (.int .i64)), x⟩, ⟨(.ptr (.cons (.sl (.sl (.int .i64))) .nil)), c.1⟩, ⟨(.ptr (.cons (.int .i64) .nil)), c.2.1⟩] ⟨o_impl_ValidComplex_1, (p x, ())⟩) :
    Ret E n_slices_IndexFunc_SSint64_Sint64 [⟨(.sl (.sl (.int .i64))), s⟩, ⟨(.fn n_impl_ValidComplex_1 (.cons (.ptr (.cons (.sl (.sl (.int .i64))) .nil)) (.cons (.ptr (.cons (.int .i64) .nil)) .nil))), c⟩] ⟨o_slices_IndexFunc_SSint64_Sint64, (idxf p s, ())⟩ := by
  obtain ⟨o, h1, h2, h3⟩ := find_loop 1 (L := fun φ n k => slices_IndexFunc_SSint64_Sint64_impl_ValidComplex_1.l0 (mkR (run E (φ 0))) (φ 0) n s c (s.length : Int) k) (len := s.length) (fun k => ∃ h : k < s.length, p s[k] = true) (fun o => some ⟨o_slices_IndexFunc_SSint64_Sint64, (o2i o, ())⟩) (fun _ _ _ _ => rfl) (fun k hk hP => by
      obtain ⟨_, hP⟩ := hP
      simp only [slices_IndexFunc_SSint64_Sint64_impl_ValidComplex_1.l0_succ _ mk_ok]
      refine ev_t (decide_eq_true (by omega)) (ev_bind (idx_lt hk) (ev_call (hp _ (List.getElem_mem hk)) (ev_t hP ev_rfl)))) (fun k q hk hP ih => by
      simp only [slices_IndexFunc_SSint64_Sint64_impl_ValidComplex_1.l0_succ _ mk_ok]
      refine ev_t (decide_eq_true (by omega)) (ev_bind (idx_lt hk) (ev_call (hp _ (List.getElem_mem hk)) (ev_f (Bool.eq_false_iff.2 fun h => hP ⟨hk, h⟩) ?_)))
      rw [w64_succ (by omega)]; exact ih) (by
      simp only [slices_IndexFunc_SSint64_Sint64_impl_ValidComplex_1.l0_succ _ mk_ok]
      exact ev_f (decide_eq_false (by omega)) ev_rfl)
  rw [idxf_of h1 h2] at h3
  refine ret_of ?_
  simp only [run_slices_IndexFunc_SSint64_Sint64, slices_IndexFunc_SSint64_Sint64_impl_ValidComplex_1.ev]
  exact Ev.start (p := fun φ n => slices_IndexFunc_SSint64_Sint64_impl_ValidComplex_1.l0 (mkR (run E (φ 0))) (φ 0) n s c (s.length : Int) 0 = _) 1 h3 (fun _ _ _ h => h)

theorem IndexFunc_Sint64_int64_impl_ValidSimplex_1_ret (s : List Int) (p : Int → Bool) (hs : s.length ≤ 1048576) (hp : ∀ x ∈ s, Ret E n_impl_ValidSimplex_1 [⟨(.int .i64), x⟩] ⟨o_impl_ValidSimplex_1, (p x, ())⟩) :
    Ret E n_slices_IndexFunc_Sint64_int64 [⟨(.sl (.int .i64)), s⟩, ⟨(.fn n_impl_ValidSimplex_1 .nil), ()⟩] ⟨o_slices_IndexFunc_Sint64_int64, (idxf p s, ())⟩ := by
  obtain ⟨o, h1, h2, h3⟩ := find_loop 1 (L := fun φ n k => slices_IndexFunc_Sint64_int64_impl_ValidSimplex_1.l0 (mkR (run E (φ 0))) (φ 0) n s (s.length : Int) k) (len := s.length) (fun k => ∃ h : k < s.length, p s[k] = true) (fun o => some ⟨o_slices_IndexFunc_Sint64_int64, (o2i o, ())⟩) (fun _ _ _ _ => rfl) (fun k hk hP => by
      obtain ⟨_, hP⟩ := hP
      simp only [slices_IndexFunc_Sint64_int64_impl_ValidSimplex_1.l0_succ _ mk_ok]
      refine ev_t (decide_eq_true (by omega)) (ev_bind (idx_lt hk) (ev_call (hp _ (List.getElem_mem hk)) (ev_t hP ev_rfl)))) (fun k q hk hP ih => by
      simp only [slices_IndexFunc_Sint64_int64_impl_ValidSimplex_1.l0_succ _ mk_ok]
      refine ev_t (decide_eq_true (by omega)) (ev_bind (idx_lt hk) (ev_call (hp _ (List.getElem_mem hk)) (ev_f (Bool.eq_false_iff.2 fun h => hP ⟨hk, h⟩) ?_)))
      rw [w64_succ (by omega)]; exact ih) (by
      simp only [slices_IndexFunc_Sint64_int64_impl_ValidSimplex_1.l0_succ _ mk_ok]
      exact ev_f (decide_eq_false (by omega)) ev_rfl)
  rw [idxf_of h1 h2] at h3
  refine ret_of ?_
  simp only [run_slices_IndexFunc_Sint64_int64, slices_IndexFunc_Sint64_int64_impl_ValidSimplex_1.ev]
  exact Ev.start (p := fun φ n => slices_IndexFunc_Sint64_int64_impl_ValidSimplex_1.l0 (mkR (run E (φ 0))) (φ 0) n s (s.length : Int) 0 = _) 1 h3 (fun _ _ _ h => h)

theorem IndexFunc_Sint64_int64_impl_isFace_1_ret (s : List Int) (c : (((List Int) × Unit) × Unit)) (p : Int → Bool) (hs : s.length ≤ 1048576) (hp : ∀ x ∈ s, Ret E n_impl_isFace_1 [⟨(.int .i64), x⟩, ⟨(.ptr (.cons (.sl (.int .i64)) .nil)), c.1⟩] ⟨o_impl_isFace_1, (p x, ())⟩) :
    Ret E n_slices_IndexFunc_Sint64_int64 [⟨(.sl (.int .i64)), s⟩, ⟨(.fn n_impl_isFace_1 (.cons (.ptr (.cons (.sl (.int .i64)) .nil)) .nil)), c⟩] ⟨o_slices_IndexFunc_Sint64_int64, (idxf p s, ())⟩ := by
  obtain ⟨o, h1, h2, h3⟩ := find_loop 1 (L := fun φ n k => slices_IndexFunc_Sint64_int64_impl_isFace_1.l0 (mkR (run E (φ 0))) (φ 0) n s c (s.length : Int) k) (len := s.length) (fun k => ∃ h : k < s.length, p s[k] = true) (fun o => some ⟨o_slices_IndexFunc_Sint64_int64, (o2i o, ())⟩) (fun _ _ _ _ => rfl) (fun k hk hP => by
      obtain ⟨_, hP⟩ := hP
      simp only [slices_IndexFunc_Sint64_int64_impl_isFace_1.l0_succ _ mk_ok]
      refine ev_t (decide_eq_true (by omega)) (ev_bind (idx_lt hk) (ev_call (hp _ (List.getElem_mem hk)) (ev_t hP ev_rfl)))) (fun k q hk hP ih => by
      simp only [slices_IndexFunc_Sint64_int64_impl_isFace_1.l0_succ _ mk_ok]
      refine ev_t (decide_eq_true (by omega)) (ev_bind (idx_lt hk) (ev_call (hp _ (List.getElem_mem hk)) (ev_f (Bool.eq_false_iff.2 fun h => hP ⟨hk, h⟩) ?_)))
      rw [w64_succ (by omega)]; exact ih) (by
      simp only [slices_IndexFunc_Sint64_int64_impl_isFace_1.l0_succ _ mk_ok]
      exact ev_f (decide_eq_false (by omega)) ev_rfl)
  rw [idxf_of h1 h2] at h3
  refine ret_of ?_
  simp only [run_slices_IndexFunc_Sint64_int64, slices_IndexFunc_Sint64_int64_impl_isFace_1.ev]
  exact Ev.start (p := fun φ n => slices_IndexFunc_Sint64_int64_impl_isFace_1.l0 (mkR (run E (φ 0))) (φ 0) n s c (s.length : Int) 0 = _) 1 h3 (fun _ _ _ h => h)

theorem ContainsFunc_SSint64_Sint64_impl_ValidComplex_1_ret (s : List (List Int)) (c : (((List (List Int)) × Unit) × (Int × Unit) × Unit)) (p : (List Int) → Bool) (hs : s.length ≤ 1048576) (hp : ∀ x ∈ s, Ret E n_impl_ValidComplex_1 [⟨(.sl (.int .i64)), x⟩, ⟨(.ptr (.cons (.sl (.sl (.int .i64))) .nil)), c.1⟩, ⟨(.ptr (.cons (.int .i64) .nil)), c.2.1⟩] ⟨o_impl_ValidComplex_1, (p x, ())⟩) :
    Ret E n_slices_ContainsFunc_SSint64_Sint64 [⟨(.sl (.sl (.int .i64))), s⟩, ⟨(.fn n_impl_ValidComplex_1 (.cons (.ptr (.cons (.sl (.sl (.int .i64))) .nil)) (.cons (.ptr (.cons (.int .i64) .nil)) .nil))), c⟩] ⟨o_slices_ContainsFunc_SSint64_Sint64, (pb (∃ x ∈ s, p x = true), ())⟩ := by
  refine ret_of ?_
  simp only [run_slices_ContainsFunc_SSint64_Sint64, slices_ContainsFunc_SSint64_Sint64_impl_ValidComplex_1.ev]
  refine ev_call (IndexFunc_SSint64_Sint64_impl_ValidComplex_1_ret s c p hs hp) (ev_some ?_)
  simp only [ge_iff_le, pb_dec, pb_congr idxf_nonneg]

theorem ContainsFunc_Sint64_int64_impl_ValidSimplex_1_ret (s : List Int) (p : Int → Bool) (hs : s.length ≤ 1048576) (hp : ∀ x ∈ s, Ret E n_impl_ValidSimplex_1 [⟨(.int .i64), x⟩] ⟨o_impl_ValidSimplex_1, (p x, ())⟩) :
    Ret E n_slices_ContainsFunc_Sint64_int64 [⟨(.sl (.int .i64)), s⟩, ⟨(.fn n_impl_ValidSimplex_1 .nil), ()⟩] ⟨o_slices_ContainsFunc_Sint64_int64, (pb (∃ x ∈ s, p x = true), ())⟩ := by
  refine ret_of ?_
  simp only [run_slices_ContainsFunc_Sint64_int64, slices_ContainsFunc_Sint64_int64_impl_ValidSimplex_1.ev]
  refine ev_call (IndexFunc_Sint64_int64_impl_ValidSimplex_1_ret s p hs hp) (ev_some ?_)
  simp only [ge_iff_le, pb_dec, pb_congr idxf_nonneg]

theorem ContainsFunc_Sint64_int64_impl_isFace_1_ret (s : List Int) (c : (((List Int) × Unit) × Unit)) (p : Int → Bool) (hs : s.length ≤ 1048576) (hp : ∀ x ∈ s, Ret E n_impl_isFace_1 [⟨(.int .i64), x⟩, ⟨(.ptr (.cons (.sl (.int .i64)) .nil)), c.1⟩] ⟨o_impl_isFace_1, (p x, ())⟩) :
    Ret E n_slices_ContainsFunc_Sint64_int64 [⟨(.sl (.int .i64)), s⟩, ⟨(.fn n_impl_isFace_1 (.cons (.ptr (.cons (.sl (.int .i64)) .nil)) .nil)), c⟩] ⟨o_slices_ContainsFunc_Sint64_int64, (pb (∃ x ∈ s, p x = true), ())⟩ := by
  refine ret_of ?_
  simp only [run_slices_ContainsFunc_Sint64_int64, slices_ContainsFunc_Sint64_int64_impl_isFace_1.ev]
  refine ev_call (IndexFunc_Sint64_int64_impl_isFace_1_ret s c p hs hp) (ev_some ?_)
  simp only [ge_iff_le, pb_dec, pb_congr idxf_nonneg]

end VeT

open Go Go.Proofs Ve
set_option linter.unusedVariables false
set_option linter.unusedSimpArgs false
namespace VeT

abbrev cM : Ty := .cons (.int .i64) (.cons (.int .i64) (.cons (.int .i64) (.cons (.sl (.int .i64)) .nil)))
abbrev cC : Ty := .cons (.sl (.sl (.int .i64))) .nil
abbrev cS : Ty := .cons (.sl (.sl (.int .i64))) (.cons (.int .i64) (.cons (.sl (.int .i64)) (.cons (.sl (.st cM)) .nil)))
abbrev Mat := Int × Int × Int × List Int × Unit
abbrev Cpx := List (List Int) × Unit
abbrev Shf := List (List Int) × Int × List Int × List Mat × Unit
abbrev Sim := List Int
abbrev dI (x : Int) : Dv := ⟨.int .i64, x⟩
abbrev dL (x : List Int) : Dv := ⟨.sl (.int .i64), x⟩
abbrev dLL (x : List (List Int)) : Dv := ⟨.sl (.sl (.int .i64)), x⟩
abbrev dC (x : Cpx) : Dv := ⟨.ptr cC, x⟩
abbrev dM (x : Mat) : Dv := ⟨.ptr cM, x⟩
abbrev dS (x : Shf) : Dv := ⟨.ptr cS, x⟩
abbrev dMs (x : List Mat) : Dv := ⟨.sl (.st cM), x⟩

theorem within_ret (n lo hi : Int) : Ret E n_impl_within [dI n, dI lo, dI hi] ⟨o_impl_within, (pb (lo ≤ n ∧ n ≤ hi), ())⟩ := by
  refine ret_of ?_
  simp only [run_impl_within, impl_within.ev]
  refine ev_d (fun h => ev_some ?_) fun h => ev_some ?_
  · rw [pb_dec, pb_congr (show n ≤ hi ↔ lo ≤ n ∧ n ≤ hi by omega)]
  · rw [pb_false (by omega)]

theorem l00In_ret (n lo hi : Int) : Ret E n_spec_l00In [dI n, dI lo, dI hi] ⟨o_spec_l00In, (pb (lo ≤ n ∧ n ≤ hi), ())⟩ := by
  refine ret_of ?_
  simp only [run_spec_l00In, spec_l00In.ev]
  refine ev_d (fun h => ev_some ?_) fun h => ev_some ?_
  · rw [pb_dec, pb_congr (show n ≤ hi ↔ lo ≤ n ∧ n ≤ hi by omega)]
  · rw [pb_false (by omega)]

theorem isVertex_ret (n : Int) : Ret E n_impl_isVertex [dI n] ⟨o_impl_isVertex, (pb (0 ≤ n ∧ n ≤ 9), ())⟩ := by
  refine ret_of ?_
  simp only [run_impl_isVertex, impl_isVertex.ev]
  exact ev_call (within_ret _ _ _) ev_rfl

theorem ValidSimplex_1_ret (n : Int) : Ret E n_impl_ValidSimplex_1 [dI n] ⟨o_impl_ValidSimplex_1, (!pb (0 ≤ n ∧ n ≤ 9), ())⟩ := by
  refine ret_of ?_
  simp only [run_impl_ValidSimplex_1, impl_ValidSimplex_1.ev]
  exact ev_call (isVertex_ret _) ev_rfl

/-- the list rises -/
def Rises (s : Sim) : Prop := ∀ j, 1 ≤ j → j < s.length → s.getD (j - 1) 0 < s.getD j 0

theorem isRising_ret (s : Sim) (hs : Sm (.sl (.int .i64)) s) : Ret E n_impl_isRising [dL s] ⟨o_impl_isRising, (pb (Rises s), ())⟩ := by
  have hs1 : s.length ≤ 1048576 := hs.1
  refine ret_of ?_
  simp only [run_impl_isRising, impl_isRising.ev]
  by_cases h0 : s.length = 0
  · refine Ev.start (p := fun φ n => impl_isRising.l0 (mkR (run E (φ 0))) (φ 0) n s 1 = _) 1 ?_ (fun _ _ _ h => h)
    refine loopR 1 (σ := Unit) (L := fun φ n _ => impl_isRising.l0 (mkR (run E (φ 0))) (φ 0) n s 1) (fun _ _ _ _ => rfl) (fun _ => True) (fun _ => _) (fun _ => 0) (fun _ _ _ => ?_) () trivial
    simp only [impl_isRising.l0_succ _ mk_ok]
    refine ev_f (decide_eq_false (by omega)) (ev_some ?_)
    rw [pb_true]
    intro j h1 h2; omega
  · refine Ev.start (p := fun φ n => impl_isRising.l0 (mkR (run E (φ 0))) (φ 0) n s 1 = _) 1 ?_ (fun _ _ _ h => h)
    refine all_pb 1 (L := fun φ n k => impl_isRising.l0 (mkR (run E (φ 0))) (φ 0) n s k) (len := s.length) 1 (by omega) (fun j => s.getD (j - 1) 0 < s.getD j 0) (fun b => some ⟨o_impl_isRising, (b, ())⟩) (fun _ _ _ _ => rfl) (fun k h1 h2 hP _ => ?_) (fun k r h1 h2 hP _ ih => ?_) (fun _ => ?_)
    · simp only [impl_isRising.l0_succ _ mk_ok]
      refine ev_t (decide_eq_true (by omega)) ?_
      rw [w64_small (by omega) (by omega), show ((k : Int) - 1) = ((k - 1 : Nat) : Int) by omega]
      refine ev_bind (idx_lt (by omega)) (ev_bind (idx_lt h2) (ev_t (decide_eq_true ?_) ev_rfl))
      simpa [List.getD_eq_getElem?_getD, h2, show k - 1 < s.length by omega] using hP
    · simp only [impl_isRising.l0_succ _ mk_ok]
      refine ev_t (decide_eq_true (by omega)) ?_
      rw [w64_small (by omega) (by omega), show ((k : Int) - 1) = ((k - 1 : Nat) : Int) by omega]
      refine ev_bind (idx_lt (by omega)) (ev_bind (idx_lt h2) (ev_f (decide_eq_false ?_) ?_))
      · simpa [List.getD_eq_getElem?_getD, h2, show k - 1 < s.length by omega] using hP
      · rw [w64_succ (by omega)]; exact ih
    · simp only [impl_isRising.l0_succ _ mk_ok]
      exact ev_f (decide_eq_false (by omega)) ev_rfl

end VeT

open Go Go.Proofs Ve
set_option linter.unusedVariables false
set_option linter.unusedSimpArgs false
namespace VeT

def Vx (s : Sim) : Prop := 1 ≤ s.length ∧ s.length ≤ 4 ∧ Rises s ∧ ∀ x ∈ s, 0 ≤ x ∧ x ≤ 9

theorem ValidSimplex_ret (s : Sim) (hs : Sm (.sl (.int .i64)) s) : Ret E n_impl_ValidSimplex [dL s] ⟨o_impl_ValidSimplex, (pb (Vx s), ())⟩ := by
  refine ret_of ?_
  simp only [run_impl_ValidSimplex, impl_ValidSimplex.ev]
  refine ev_d (fun h1 => ev_d (fun h2 => ev_call (isRising_ret s hs) (ev_b (fun h3 => ev_call (ContainsFunc_Sint64_int64_impl_ValidSimplex_1_ret s _ hs.1 fun x _ => ValidSimplex_1_ret x) (ev_some ?_)) fun h3 => ev_some ?_)) fun h2 => ev_some ?_) fun h1 => ev_some ?_
  · have h3 := pb_iff.1 h3
    have : (!pb (∃ x ∈ s, (!pb (0 ≤ x ∧ x ≤ 9)) = true)) = pb (Vx s) := eq_pb (by
      simp only [Bool.not_eq_true', pb_not]
      exact ⟨fun h => ⟨by omega, by omega, h3, fun x hx => Classical.byContradiction fun hn => h ⟨x, hx, hn⟩⟩, fun h ⟨x, hx, hn⟩ => hn (h.2.2.2 x hx)⟩)
    rw [this]
  · rw [pb_false fun h => pb_not.1 h3 h.2.2.1]
  · rw [pb_false fun h => h2 (by have := h.2.1; omega)]
  · rw [pb_false fun h => h1 (by have := h.1; omega)]

theorem l00Rises_ret (s : Sim) (lo hi : Int) (hs : Sm (.sl (.int .i64)) s) : Ret E n_spec_l00Rises [dL s, dI lo, dI hi] ⟨o_spec_l00Rises, (pb (Rises s ∧ ∀ x ∈ s, lo ≤ x ∧ x ≤ hi), ())⟩ := by
  have hs1 : s.length ≤ 1048576 := hs.1
  refine ret_of ?_
  simp only [run_spec_l00Rises, spec_l00Rises.ev]
  refine Ev.start (p := fun φ n => spec_l00Rises.l0 (mkR (run E (φ 0))) (φ 0) n s lo hi 0 = _) 1 ?_ (fun _ _ _ h => h)
  refine (all_pb 1 (L := fun φ n k => spec_l00Rises.l0 (mkR (run E (φ 0))) (φ 0) n s lo hi k) (len := s.length) 0 (by omega) (fun j => (lo ≤ s.getD j 0 ∧ s.getD j 0 ≤ hi) ∧ (1 ≤ j → s.getD (j - 1) 0 < s.getD j 0)) (fun b => some ⟨o_spec_l00Rises, (b, ())⟩) (fun _ _ _ _ => rfl) (fun k h1 h2 hP _ => ?_) (fun k r h1 h2 hP _ ih => ?_) (fun _ => ?_)).to ?_
  · simp only [spec_l00Rises.l0_succ _ mk_ok]
    refine ev_t (decide_eq_true (by omega)) (ev_bind (idx_lt h2) (ev_call (l00In_ret _ _ _) ?_))
    have e : s.getD k 0 = s[k] := by simp [List.getD_eq_getElem?_getD, h2]
    rw [e] at hP
    refine ev_b (fun _ => ?_) (fun hin => ?_)
    · simp only [spec_l00Rises.j1_eq _ mk_ok, cond_true]; (first | exact ev_rfl | exact Ev.of fun _ => trivial)
    · have hin : lo ≤ s[k] ∧ s[k] ≤ hi := pb_iff.1 (by simpa using hin)
      have hk : 1 ≤ k := Classical.byContradiction fun h => hP ⟨hin, fun h' => absurd h' h⟩
      refine ev_t (decide_eq_true (by omega)) ?_
      rw [w64_small (by omega) (by omega), show ((k : Int) - 1) = ((k - 1 : Nat) : Int) by omega]
      refine ev_bind (idx_lt (by omega)) (ev_bind (idx_lt h2) ?_)
      have e' : s.getD (k - 1) 0 = s[k - 1] := by simp [List.getD_eq_getElem?_getD, show k - 1 < s.length by omega]
      rw [e'] at hP
      have : decide (s[k-1] ≥ s[k]) = true := decide_eq_true (Classical.byContradiction fun h => hP ⟨hin, fun _ => by omega⟩)
      simp only [this, spec_l00Rises.j1_eq _ mk_ok, cond_true]; (first | exact ev_rfl | exact Ev.of fun _ => trivial)
  · simp only [spec_l00Rises.l0_succ _ mk_ok]
    refine ev_t (decide_eq_true (by omega)) (ev_bind (idx_lt h2) (ev_call (l00In_ret _ _ _) ?_))
    have e : s.getD k 0 = s[k] := by simp [List.getD_eq_getElem?_getD, h2]
    rw [e] at hP
    refine ev_f (by rw [pb_true hP.1]; rfl) ?_
    refine ev_d (fun hk => ?_) fun hk => ?_
    · rw [w64_small (by omega) (by omega), show ((k : Int) - 1) = ((k - 1 : Nat) : Int) by omega]
      refine ev_bind (idx_lt (by omega)) (ev_bind (idx_lt h2) ?_)
      have e' : s.getD (k - 1) 0 = s[k - 1] := by simp [List.getD_eq_getElem?_getD, show k - 1 < s.length by omega]
      rw [e'] at hP
      have : decide (s[k-1] ≥ s[k]) = false := decide_eq_false (by have := hP.2 (by omega); omega)
      simp only [this, spec_l00Rises.j1_eq _ mk_ok, cond_false]
      rw [w64_succ (by omega)]; exact ih
    · simp only [spec_l00Rises.j1_eq _ mk_ok, cond_false]
      rw [w64_succ (by omega)]; exact ih
  · simp only [spec_l00Rises.l0_succ _ mk_ok]
    exact ev_f (decide_eq_false (by omega)) ev_rfl
  · refine congrArg (fun b : Bool => some (⟨o_spec_l00Rises, (b, ())⟩ : Dv)) (pb_congr ⟨fun h => ⟨fun j h1 h2 => (h j (by omega) h2).2 h1, fun x hx => ?_⟩, fun ⟨h1, h2⟩ j _ hj => ⟨?_, fun h3 => h1 j h3 hj⟩⟩)
    · obtain ⟨j, hj, rfl⟩ := List.mem_iff_getElem.1 hx
      simpa [List.getD_eq_getElem?_getD, hj] using (h j (by omega) hj).1
    · simpa [List.getD_eq_getElem?_getD, hj] using h2 _ (List.getElem_mem hj)

theorem l05Simplex_ret (s : Sim) (hs : Sm (.sl (.int .i64)) s) : Ret E n_spec_l05Simplex [dL s] ⟨o_spec_l05Simplex, (pb (Vx s), ())⟩ := by
  refine ret_of ?_
  simp only [run_spec_l05Simplex, spec_l05Simplex.ev]
  refine ev_call (l00In_ret _ _ _) (ev_b (fun h1 => ev_call (l00Rises_ret s _ _ hs) (ev_some ?_)) fun h1 => ev_some ?_)
  · have h1 := pb_iff.1 h1
    exact congrArg (fun b : Bool => some (⟨o_spec_l05Simplex, (b, ())⟩ : Dv)) (pb_congr ⟨fun h => ⟨by omega, by omega, h.1, h.2⟩, fun h => ⟨h.2.2.1, h.2.2.2⟩⟩)
  · rw [pb_false fun h => pb_not.1 h1 ⟨by have := h.1; omega, by have := h.2.1; omega⟩]

/-! comparing -/
def cmp3 (a b : Int) : Int := if a < b then -1 else if b < a then 1 else 0
def lexc : Sim → Sim → Int
  | [], [] => 0
  | [], _ :: _ => -1
  | _ :: _, [] => 1
  | x :: xs, y :: ys => if x < y then -1 else if y < x then 1 else lexc xs ys
def cmpS (a b : Sim) : Int := if cmp3 a.length b.length ≠ 0 then cmp3 a.length b.length else lexc a b

theorem cmp3_zero {a b : Int} : cmp3 a b = 0 ↔ a = b := by unfold cmp3; split <;> (try split) <;> omega
theorem cmp3_neg {a b : Int} : cmp3 b a = - cmp3 a b := by unfold cmp3; split <;> split <;> (try split) <;> omega
theorem cmp3_lt {a b : Int} : cmp3 a b < 0 ↔ a < b := by unfold cmp3; split <;> (try split) <;> omega
theorem lexc_eq : ∀ {a b : Sim}, lexc a b = 0 ↔ a = b
  | [], [] => by simp [lexc]
  | [], _ :: _ => by simp [lexc]
  | _ :: _, [] => by simp [lexc]
  | x :: xs, y :: ys => by
    have := @lexc_eq xs ys
    simp only [lexc, List.cons.injEq]
    split
    · constructor
      · intro h; omega
      · rintro ⟨rfl, _⟩; omega
    · split
      · constructor
        · intro h; omega
        · rintro ⟨rfl, _⟩; omega
      · rw [this]; constructor
        · intro h; exact ⟨by omega, h⟩
        · exact fun h => h.2
theorem lexc_neg : ∀ {a b : Sim}, lexc b a = - lexc a b
  | [], [] => by simp [lexc]
  | [], _ :: _ => by simp [lexc]
  | _ :: _, [] => by simp [lexc]
  | x :: xs, y :: ys => by
    have := @lexc_neg xs ys
    simp only [lexc]
    split <;> split <;> (try split) <;> omega
theorem lexc_trans : ∀ {a b c : Sim}, lexc a b < 0 → lexc b c < 0 → lexc a c < 0
  | [], [], c, h, _ => by simp [lexc] at h
  | [], _ :: _, [], _, h => by simp [lexc] at h
  | [], _ :: _, _ :: _, _, _ => by simp [lexc]
  | _ :: _, [], _, h, _ => by simp [lexc] at h
  | _ :: _, _ :: _, [], _, h => by simp [lexc] at h
  | x :: xs, y :: ys, z :: zs, h1, h2 => by
    have := @lexc_trans xs ys zs
    simp only [lexc] at h1 h2 ⊢
    split at h1 <;> split at h2 <;> (try split at h1) <;> (try split at h2) <;> (try split) <;> (try split) <;> first | omega | (exact this h1 h2)
theorem cmpS_zero {a b : Sim} : cmpS a b = 0 ↔ a = b := by
  unfold cmpS
  split
  · rename_i h
    exact ⟨fun h' => absurd h' h, fun h' => absurd (cmp3_zero.2 (by rw [h'])) h⟩
  · exact lexc_eq
theorem cmpS_neg {a b : Sim} : cmpS b a = - cmpS a b := by
  unfold cmpS
  rw [@cmp3_neg a.length b.length]
  split <;> split <;> first | omega | exact lexc_neg
theorem cmpS_lt {a b : Sim} : cmpS a b < 0 ↔ a.length < b.length ∨ a.length = b.length ∧ lexc a b < 0 := by
  unfold cmpS
  split
  · rename_i h
    rw [cmp3_lt]
    rw [Ne, cmp3_zero] at h
    omega
  · rename_i h
    rw [Classical.not_not, cmp3_zero] at h
    omega
theorem cmpS_trans {a b c : Sim} (h1 : cmpS a b < 0) (h2 : cmpS b c < 0) : cmpS a c < 0 := by
  rw [cmpS_lt] at *
  rcases h1 with h1 | ⟨h1, h1'⟩ <;> rcases h2 with h2 | ⟨h2, h2'⟩
  · left; omega
  · left; omega
  · left; omega
  · right; exact ⟨by omega, lexc_trans h1' h2'⟩

theorem isNaNi_ret (a : Int) : Ret E n_cmp_isNaN_int [dI a] ⟨o_cmp_isNaN_int, (false, ())⟩ := by
  refine ret_of ?_
  simp only [run_cmp_isNaN_int, cmp_isNaN_int.ev]
  exact ev_some (by simp)
theorem isNaN_ret (a : Int) : Ret E n_cmp_isNaN_int64 [dI a] ⟨o_cmp_isNaN_int64, (false, ())⟩ := by
  refine ret_of ?_
  simp only [run_cmp_isNaN_int64, cmp_isNaN_int64.ev]
  exact ev_some (by simp)

theorem Comparei_ret (a b : Int) : Ret E n_cmp_Compare_int [dI a, dI b] ⟨o_cmp_Compare_int, (cmp3 a b, ())⟩ := by
  refine ret_of ?_
  simp only [run_cmp_Compare_int, cmp_Compare_int.ev]
  refine ev_call (isNaNi_ret _) (ev_call (isNaNi_ret _) (ev_f rfl (ev_f rfl (ev_d (fun h => ev_some ?_) fun h => ev_d (fun h2 => ev_some ?_) fun h2 => ev_some ?_))))
  · rw [cmp3, if_pos h]
  · rw [cmp3, if_neg h, if_pos h2]
  · rw [cmp3, if_neg h, if_neg h2]
theorem Compare_ret (a b : Int) : Ret E n_cmp_Compare_int64 [dI a, dI b] ⟨o_cmp_Compare_int64, (cmp3 a b, ())⟩ := by
  refine ret_of ?_
  simp only [run_cmp_Compare_int64, cmp_Compare_int64.ev]
  refine ev_call (isNaN_ret _) (ev_call (isNaN_ret _) (ev_f rfl (ev_f rfl (ev_d (fun h => ev_some ?_) fun h => ev_d (fun h2 => ev_some ?_) fun h2 => ev_some ?_))))
  · rw [cmp3, if_pos h]
  · rw [cmp3, if_neg h, if_pos h2]
  · rw [cmp3, if_neg h, if_neg h2]

theorem lexc_step {a b : Sim} {k : Nat} (h : k < a.length) (h' : k < b.length) : lexc (a.drop k) (b.drop k) = if cmp3 a[k] b[k] ≠ 0 then cmp3 a[k] b[k] else lexc (a.drop (k + 1)) (b.drop (k + 1)) := by
  rw [List.drop_eq_getElem_cons h, List.drop_eq_getElem_cons h', lexc]
  unfold cmp3
  split
  · simp
  · split
    · simp
    · simp

theorem SliceCompare_ret (a b : Sim) (ha : Sm (.sl (.int .i64)) a) : Ret E n_slices_Compare_Sint64_int64 [dL a, dL b] ⟨o_slices_Compare_Sint64_int64, (lexc a b, ())⟩ := by
  have ha1 : a.length ≤ 1048576 := ha.1
  refine ret_of ?_
  simp only [run_slices_Compare_Sint64_int64, slices_Compare_Sint64_int64.ev]
  refine Ev.start (p := fun φ n => slices_Compare_Sint64_int64.l0 (mkR (run E (φ 0))) (φ 0) n a b a (a.length : Int) 0 = _) 1 ?_ (fun _ _ _ h => h)
  refine loopR 1 (σ := Nat) (L := fun φ n k => slices_Compare_Sint64_int64.l0 (mkR (run E (φ 0))) (φ 0) n a b a (a.length : Int) (k : Int)) (fun _ _ _ _ => rfl) (fun k => k ≤ a.length ∧ k ≤ b.length) (fun k => some ⟨o_slices_Compare_Sint64_int64, (lexc (a.drop k) (b.drop k), ())⟩) (fun k => a.length - k) (fun k ⟨hk, hkb⟩ ih => ?_) 0 ⟨Nat.zero_le _, Nat.zero_le _⟩
  simp only [slices_Compare_Sint64_int64.l0_succ _ mk_ok]
  refine ev_d (fun h => ?_) fun h => ?_
  · have hka : k < a.length := by omega
    refine ev_bind (idx_lt hka) (ev_d (fun h2 => ev_some ?_) fun h2 => ?_)
    · rw [List.drop_eq_getElem_cons hka, List.drop_of_length_le (l := b) (by omega), lexc]
    · have hkb : k < b.length := by omega
      refine ev_bind (idx_lt hkb) (ev_call (Compare_ret _ _) (ev_b (fun h3 => ev_some ?_) fun h3 => ?_))
      · rw [lexc_step hka hkb, if_pos (by simpa using h3)]
      · rw [w64_succ (by omega)]
        refine (ih (k + 1) ⟨by omega, by omega⟩ (by omega)).to ?_
        rw [lexc_step hka hkb, if_neg (by simpa using h3)]
  · have e : k = a.length := by omega
    subst e
    refine ev_d (fun h2 => ev_some ?_) fun h2 => ev_some ?_
    · rw [List.drop_of_length_le (l := a) (by omega), List.drop_eq_getElem_cons (l := b) (by omega), lexc]
    · rw [List.drop_of_length_le (l := a) (by omega), List.drop_of_length_le (l := b) (by omega), lexc]

theorem Or2_ret (a b : Int) : Ret E n_cmp_Or_int [dL [a, b]] ⟨o_cmp_Or_int, (if a ≠ 0 then a else b, ())⟩ := by
  refine ret_of ?_
  simp only [run_cmp_Or_int, cmp_Or_int.ev]
  refine Ev.start (p := fun φ n => cmp_Or_int.l0 (mkR (run E (φ 0))) (φ 0) n 0 [a, b] ([a, b].length : Int) 0 = _) 1 ?_ (fun _ _ _ h => h)
  refine Ev.round 1 (L := fun φ n => cmp_Or_int.l0 (mkR (run E (φ 0))) (φ 0) n 0 [a, b] ([a, b].length : Int) 0) ?_ (fun _ _ _ => rfl)
  simp only [cmp_Or_int.l0_succ _ mk_ok]
  refine ev_t (by simp) (ev_bind (x := a) rfl (ev_b (fun h => ev_some ?_) fun h => ?_))
  · rw [if_pos (by simpa using h)]
  · rw [if_neg (by simpa using h)]
    rw [show w64 ((0 : Int) + 1) = 1 by decide]
    refine Ev.round 1 (L := fun φ n => cmp_Or_int.l0 (mkR (run E (φ 0))) (φ 0) n 0 [a, b] ([a, b].length : Int) 1) ?_ (fun _ _ _ => rfl)
    simp only [cmp_Or_int.l0_succ _ mk_ok]
    refine ev_t (by simp) (ev_bind (x := b) rfl (ev_b (fun h => ev_rfl) fun h => ?_))
    rw [show w64 ((1 : Int) + 1) = 2 by decide]
    refine Ev.round 1 (L := fun φ n => cmp_Or_int.l0 (mkR (run E (φ 0))) (φ 0) n 0 [a, b] ([a, b].length : Int) 2) ?_ (fun _ _ _ => rfl)
    simp only [cmp_Or_int.l0_succ _ mk_ok]
    refine ev_f (by simp) (ev_some ?_)
    have : b = 0 := by simpa using h
    rw [this]

theorem compareSimplices_ret (a b : Sim) (ha : Sm (.sl (.int .i64)) a) : Ret E n_impl_compareSimplices [dL a, dL b] ⟨o_impl_compareSimplices, (cmpS a b, ())⟩ := by
  refine ret_of ?_
  simp only [run_impl_compareSimplices, impl_compareSimplices.ev]
  exact ev_call (Comparei_ret _ _) (ev_call (SliceCompare_ret a b ha) (ev_call (Or2_ret _ _) ev_rfl))

theorem l05Before_ret (a b : Sim) (ha : Sm (.sl (.int .i64)) a) : Ret E n_spec_l05Before [dL a, dL b] ⟨o_spec_l05Before, (pb (cmpS a b < 0), ())⟩ := by
  have ha1 : a.length ≤ 1048576 := ha.1
  refine ret_of ?_
  simp only [run_spec_l05Before, spec_l05Before.ev]
  refine ev_b (fun h => ev_some ?_) fun h => ?_
  · have h : (a.length : Int) ≠ b.length := by simpa using h
    rw [pb_dec, pb_congr (show (a.length : Int) < b.length ↔ cmpS a b < 0 by rw [cmpS_lt]; omega)]
  · have h : a.length = b.length := by have : (a.length : Int) = b.length := by simpa using h
                                       omega
    refine Ev.start (p := fun φ n => spec_l05Before.l0 (mkR (run E (φ 0))) (φ 0) n a b 0 = _) 1 ?_ (fun _ _ _ h => h)
    refine (loopR 1 (σ := Nat) (L := fun φ n k => spec_l05Before.l0 (mkR (run E (φ 0))) (φ 0) n a b (k : Int)) (fun _ _ _ _ => rfl) (fun k => k ≤ a.length) (fun k => some ⟨o_spec_l05Before, (pb (lexc (a.drop k) (b.drop k) < 0), ())⟩) (fun k => a.length - k) (fun k hk ih => ?_) 0 (Nat.zero_le _)).to ?_
    · simp only [spec_l05Before.l0_succ _ mk_ok]
      refine ev_d (fun h1 => ?_) fun h1 => ?_
      · have hka : k < a.length := by omega
        have hkb : k < b.length := by omega
        have e := lexc_step hka hkb
        refine ev_bind (idx_lt hka) (ev_bind (idx_lt hkb) (ev_b (fun h3 => ?_) fun h3 => ?_))
        · refine ev_bind (idx_lt hka) (ev_bind (idx_lt hkb) (ev_some ?_))
          have h3 : a[k] ≠ b[k] := by simpa using h3
          rw [if_pos (by rw [Ne, cmp3_zero]; exact h3)] at e
          rw [e, pb_dec, pb_congr cmp3_lt]
        · have h3 : a[k] = b[k] := by simpa using h3
          rw [if_neg (by rw [Classical.not_not, cmp3_zero]; exact h3)] at e
          rw [w64_succ (by omega), e]
          exact ih (k + 1) (by show k + 1 ≤ _; omega) (by show a.length - (k + 1) < _; omega)
      · refine ev_some ?_
        have hk : k ≤ a.length := hk
        have e : k = a.length := by omega
        subst e
        rw [List.drop_of_length_le (l := a) (by omega), List.drop_of_length_le (l := b) (by omega), lexc, pb_false (by omega)]
    · refine congrArg (fun b : Bool => some (⟨o_spec_l05Before, (b, ())⟩ : Dv)) (pb_congr ?_)
      simp only [List.drop_zero]; rw [cmpS_lt]; omega

end VeT

open Go Go.Proofs Ve
set_option linter.unusedVariables false
set_option linter.unusedSimpArgs false
namespace VeT

theorem getD_lt {α : Type} {s : List α} {k : Nat} {d : α} (h : k < s.length) : s.getD k d = s[k] := by simp [List.getD_eq_getElem?_getD, h]
theorem sm_get {t : Ty} {s : List t.T} (h : Sm (.sl t) s) {k : Nat} (hk : k < s.length) : Sm t s[k] := h.2 _ (List.getElem_mem hk)
theorem sm_ints {s : Sim} (h : s.length ≤ 1048576) : Sm (.sl (.int .i64)) s := ⟨h, fun _ _ => trivial⟩

theorem l00Own_ret (s : Sim) (hs : s.length ≤ 1048576) : Ret E n_spec_l00Own [dL s] ⟨o_spec_l00Own, (s, ())⟩ := by
  refine ret_of ?_
  simp only [run_spec_l00Own, spec_l00Own.ev]
  exact ev_chk (by simp; omega) (ev_some rfl)

theorem l05Drop_ret (s : Sim) (k : Nat) (hk : k < s.length) (hs : s.length ≤ 1048576) : Ret E n_spec_l05Drop [dL s, dI (k : Int)] ⟨o_spec_l05Drop, (s.eraseIdx k, ())⟩ := by
  refine ret_of ?_
  simp only [run_spec_l05Drop, spec_l05Drop.ev]
  rw [w64_succ (by omega)]
  simp only [Int.toNat_natCast]
  refine ev_chk (by simp; omega) (ev_call (l00Own_ret _ (by simp; omega)) (ev_chk (by simp; omega) (ev_chk (by simp; omega) (ev_some ?_))))
  rw [List.eraseIdx_eq_take_drop_succ]

theorem l00SameP_ret (a b : Sim) (ha : a.length ≤ 1048576) : Ret E n_spec_l00Same [dL a, dL b] ⟨o_spec_l00Same, (pb (a = b), ())⟩ := by
  refine ret_of ?_
  simp only [run_spec_l00Same, spec_l00Same.ev]
  refine ev_b (fun h => ev_some ?_) fun h => ?_
  · have h : (a.length : Int) ≠ b.length := by simpa using h
    rw [pb_false fun e => h (by rw [e])]
  · have h : (a.length : Int) = b.length := by simpa using h
    refine Ev.start (p := fun φ n => spec_l00Same.l0 (mkR (run E (φ 0))) (φ 0) n a b 0 = _) 1 ?_ (fun _ _ _ h => h)
    refine (all_pb 1 (L := fun φ n k => spec_l00Same.l0 (mkR (run E (φ 0))) (φ 0) n a b k) (len := a.length) 0 (by omega) (fun j => a.getD j 0 = b.getD j 0) (fun b => some ⟨o_spec_l00Same, (b, ())⟩) (fun _ _ _ _ => rfl) (fun k h1 h2 hP _ => ?_) (fun k r h1 h2 hP _ ih => ?_) (fun _ => ?_)).to ?_
    · simp only [spec_l00Same.l0_succ _ mk_ok]
      have hb : k < b.length := by omega
      rw [getD_lt h2, getD_lt hb] at hP
      exact ev_t (decide_eq_true (by omega)) (ev_bind (idx_lt h2) (ev_bind (idx_lt hb) (ev_t (by simpa using hP) ev_rfl)))
    · simp only [spec_l00Same.l0_succ _ mk_ok]
      have hb : k < b.length := by omega
      rw [getD_lt h2, getD_lt hb] at hP
      refine ev_t (decide_eq_true (by omega)) (ev_bind (idx_lt h2) (ev_bind (idx_lt hb) (ev_f (by simpa using hP) ?_)))
      rw [w64_succ (by omega)]; exact ih
    · simp only [spec_l00Same.l0_succ _ mk_ok]
      exact ev_f (decide_eq_false (by omega)) ev_rfl
    · refine congrArg (fun b : Bool => some (⟨o_spec_l00Same, (b, ())⟩ : Dv)) (pb_congr ⟨fun hh => List.ext_getElem (by omega) fun j h1 h2 => ?_, fun hh j _ _ => by rw [hh]⟩)
      have := hh j (by omega) h1
      rwa [getD_lt h1, getD_lt h2] at this

noncomputable def findI (c : List Sim) (s : Sim) : Int := idxf (fun x => pb (x = s)) c
theorem findI_nonneg {c : List Sim} {s : Sim} : 0 ≤ findI c s ↔ s ∈ c := by
  unfold findI
  rw [idxf_nonneg]
  simp only [pb_iff]
  exact ⟨fun ⟨x, h, e⟩ => e ▸ h, fun h => ⟨s, h, rfl⟩⟩

theorem l05Find_ret (c : Cpx) (s : Sim) (hc : Sm (.sl (.sl (.int .i64))) c.1) : Ret E n_spec_l05Find [dC c, dL s] ⟨o_spec_l05Find, (findI c.1 s, ())⟩ := by
  have hc1 : c.1.length ≤ 1048576 := hc.1
  obtain ⟨o, h1, h2, h3⟩ := find_loop 1 (L := fun φ n k => spec_l05Find.l0 (mkR (run E (φ 0))) (φ 0) n c s k) (len := c.1.length) (fun k => ∃ h : k < c.1.length, pb (c.1[k] = s) = true) (fun o => some ⟨o_spec_l05Find, (o2i o, ())⟩) (fun _ _ _ _ => rfl) (fun k hk hP => by
      obtain ⟨_, hP⟩ := hP
      simp only [spec_l05Find.l0_succ _ mk_ok]
      refine ev_t (decide_eq_true (by omega)) (ev_bind (idx_lt hk) (ev_call (l00SameP_ret _ _ (sm_get hc hk).1) (ev_t hP ev_rfl)))) (fun k q hk hP ih => by
      simp only [spec_l05Find.l0_succ _ mk_ok]
      refine ev_t (decide_eq_true (by omega)) (ev_bind (idx_lt hk) (ev_call (l00SameP_ret _ _ (sm_get hc hk).1) (ev_f (Bool.eq_false_iff.2 fun h => hP ⟨hk, h⟩) ?_)))
      rw [w64_succ (by omega)]; exact ih) (by
      simp only [spec_l05Find.l0_succ _ mk_ok]
      exact ev_f (decide_eq_false (by omega)) ev_rfl)
  rw [idxf_of (p := fun x => pb (x = s)) h1 h2] at h3
  refine ret_of ?_
  simp only [run_spec_l05Find, spec_l05Find.ev]
  exact Ev.start (p := fun φ n => spec_l05Find.l0 (mkR (run E (φ 0))) (φ 0) n c s 0 = _) 1 h3 (fun _ _ _ h => h)

/-! joining, faces -/
theorem run_Grow (n : Nat) (args : List Dv) : run E (n + 1) n_slices_Grow_Sint64_int64 args = pGrow (.int .i64) (mkR (run E n)) args := rfl

theorem Grow_ret (s : Sim) (n : Int) (h0 : 0 ≤ n) (h1 : n ≤ 1048576) (hs : s.length ≤ 1048576) : Ret E n_slices_Grow_Sint64_int64 [dL s, dI n] ⟨o_slices_Grow_Sint64_int64, (s, ())⟩ := by
  refine ret_of ?_
  simp only [run_Grow]
  refine ev_some ((if_pos (show 0 ≤ n ∧ ((List.length s : Int) + n) * (64 * (Ty.size (Ty.int IntKind.i64) : Int)) ≤ 70368744177664 from ⟨h0, ?_⟩)).trans rfl)
  have : (Ty.size (Ty.int IntKind.i64)) = 1 := rfl
  rw [this]; omega

theorem Concat_ret (ll : List Sim) (hl : ll.length ≤ 1048576) (hf : ll.flatten.length ≤ 1048576) : Ret E n_slices_Concat_Sint64_int64 [dLL ll] ⟨o_slices_Concat_Sint64_int64, (ll.flatten, ())⟩ := by
  have hle : ∀ k, (ll.take k).flatten.length ≤ ll.flatten.length := fun k => by
    have := congrArg List.length (congrArg List.flatten (List.take_append_drop k ll))
    rw [List.flatten_append, List.length_append] at this; omega
  have hst : ∀ k (h : k < ll.length), (ll.take (k + 1)).flatten = (ll.take k).flatten ++ ll[k] := fun k h => by
    rw [List.take_succ_eq_append_getElem h, List.flatten_append]; simp
  refine ret_of ?_
  simp only [run_slices_Concat_Sint64_int64, slices_Concat_Sint64_int64.ev]
  refine Ev.start (p := fun φ n => slices_Concat_Sint64_int64.l0 (mkR (run E (φ 0))) (φ 0) n ll 0 ll (ll.length : Int) 0 = _) 1 ?_ (fun _ _ _ h => h)
  refine fold_loop 1 (L := fun φ n k a => slices_Concat_Sint64_int64.l0 (mkR (run E (φ 0))) (φ 0) n ll a ll (ll.length : Int) k) (len := ll.length) (fun k => (((ll.take k).flatten.length : Nat) : Int)) (fun _ _ _ _ _ => rfl) (fun k r hk ih => ?_) ?_
  · simp only [slices_Concat_Sint64_int64.l0_succ _ mk_ok]
    have := hle (k + 1)
    have e := hst k hk
    have e2 : w64 (((ll.take k).flatten.length : Nat) + (List.length (ll[k]) : Int)) = (((ll.take (k + 1)).flatten.length : Nat) : Int) := by
      rw [w64_small (by omega) (by rw [e, List.length_append] at this; omega), e, List.length_append]; omega
    refine ev_t (decide_eq_true (by omega)) (ev_bind (idx_lt hk) ?_)
    show Ev fun φ => (bif decide (w64 (((ll.take k).flatten.length : Nat) + (List.length (ll[k]) : Int)) < 0) then none else slices_Concat_Sint64_int64.l0 (mkR (run E (φ 0))) (φ 0) (φ 1) ll (w64 (((ll.take k).flatten.length : Nat) + (List.length (ll[k]) : Int))) ll (ll.length : Int) (w64 ((k : Int) + 1))) = r
    rw [e2, w64_succ (by omega)]
    exact ev_f (decide_eq_false (by omega)) ih
  · simp only [slices_Concat_Sint64_int64.l0_succ _ mk_ok]
    refine ev_f (decide_eq_false (by omega)) (ev_call (Grow_ret [] _ (by omega) (by have := hle ll.length; omega) (by simp)) ?_)
    refine Ev.start (p := fun φ n => slices_Concat_Sint64_int64.l1 (mkR (run E (φ 0))) (φ 0) n ll (ll.length : Int) 0 [] = _) 2 ?_ (fun _ _ _ h => h)
    refine fold_loop 2 (L := fun φ n k a => slices_Concat_Sint64_int64.l1 (mkR (run E (φ 0))) (φ 0) n ll (ll.length : Int) k a) (len := ll.length) (fun k => (ll.take k).flatten) (fun _ _ _ _ _ => rfl) (fun k r hk ih => ?_) ?_
    · simp only [slices_Concat_Sint64_int64.l1_succ _ mk_ok]
      have := hle (k + 1)
      have e := hst k hk
      rw [e] at ih this
      rw [List.length_append] at this
      refine ev_t (decide_eq_true (by omega)) (ev_bind (idx_lt hk) (ev_chk (decide_eq_true (by show (_ + List.length ll[k]) * 8 ≤ _; omega)) ?_))
      rw [w64_succ (by omega)]
      exact ih
    · simp only [slices_Concat_Sint64_int64.l1_succ _ mk_ok]
      refine ev_f (decide_eq_false (by omega)) (ev_some ?_)
      rw [List.take_of_length_le (Nat.le_refl _)]

def faces (s : Sim) : List Sim := if 1 < s.length then (List.range s.length).map (s.eraseIdx ·) else []

theorem faces_mem {s f : Sim} : f ∈ faces s ↔ 1 < s.length ∧ ∃ i, i < s.length ∧ f = s.eraseIdx i := by
  unfold faces
  split
  · rename_i h
    simp only [List.mem_map, List.mem_range, h, true_and]
    exact ⟨fun ⟨i, h1, h2⟩ => ⟨i, h1, h2.symm⟩, fun ⟨i, h1, h2⟩ => ⟨i, h1, h2.symm⟩⟩
  · rename_i h
    simp [h]

theorem faces_len {s f : Sim} (h : f ∈ faces s) : f.length + 1 = s.length := by
  obtain ⟨h1, i, h2, rfl⟩ := faces_mem.1 h
  rw [List.length_eraseIdx, if_pos h2]; omega

theorem faces_length {s : Sim} : (faces s).length ≤ s.length := by
  unfold faces; split <;> simp

theorem facesOf_ret (s : Sim) (hs : s.length ≤ 1048576) : Ret E n_impl_facesOf [dL s] ⟨o_impl_facesOf, (faces s, ())⟩ := by
  refine ret_of ?_
  simp only [run_impl_facesOf, impl_facesOf.ev]
  refine Ev.start (p := fun φ n => impl_facesOf.l0 (mkR (run E (φ 0))) (φ 0) n s (s.length : Int) 0 [] = _) 1 ?_ (fun _ _ _ h => h)
  by_cases h1 : 1 < s.length
  · refine fold_loop 1 (L := fun φ n k a => impl_facesOf.l0 (mkR (run E (φ 0))) (φ 0) n s (s.length : Int) k a) (len := s.length) (fun k => (List.range k).map (s.eraseIdx ·)) (fun _ _ _ _ _ => rfl) (fun k r hk ih => ?_) ?_
    · simp only [impl_facesOf.l0_succ _ mk_ok]
      rw [List.range_succ, List.map_append] at ih
      rw [w64_succ (by omega)]
      simp only [Int.toNat_natCast]
      refine ev_t (decide_eq_true (by omega)) (ev_t (decide_eq_true (by omega)) (ev_chk (by simp; omega) (ev_chk (by simp; omega) (ev_call (Concat_ret _ (by simp) (by simp; omega)) (ev_chk (by simp; omega) ?_)))))
      rw [show [s.take k, s.drop (k + 1)].flatten = s.eraseIdx k by simp [List.eraseIdx_eq_take_drop_succ]]
      exact ih
    · simp only [impl_facesOf.l0_succ _ mk_ok]
      exact ev_f (decide_eq_false (by omega)) (ev_some (by rw [faces, if_pos h1]))
  · refine fold_loop 1 (L := fun φ n k a => impl_facesOf.l0 (mkR (run E (φ 0))) (φ 0) n s (s.length : Int) k a) (len := s.length) (fun k => []) (fun _ _ _ _ _ => rfl) (fun k r hk ih => ?_) ?_
    · simp only [impl_facesOf.l0_succ _ mk_ok]
      rw [w64_succ (by omega)]
      exact ev_t (decide_eq_true (by omega)) (ev_f (decide_eq_false (by omega)) ih)
    · simp only [impl_facesOf.l0_succ _ mk_ok]
      exact ev_f (decide_eq_false (by omega)) (ev_some (by rw [faces, if_neg h1]))

/-! searching -/
def Srt (c : List Sim) : Prop := ∀ i j (h : j < c.length) (hij : i < j), cmpS c[i] c[j] < 0

theorem srt_of {c : List Sim} (h : ∀ k, 1 ≤ k → k < c.length → cmpS (c.getD (k - 1) []) (c.getD k []) < 0) : Srt c := by
  intro i j
  induction j with
  | zero => intro _ h; omega
  | succ j ih =>
    intro hj hij
    have := h (j + 1) (by omega) hj
    rw [Nat.add_sub_cancel, getD_lt (by omega), getD_lt hj] at this
    by_cases e : i = j
    · subst e; exact this
    · exact cmpS_trans (ih (by omega) (by omega)) this

theorem Srt.take {c : List Sim} (h : Srt c) (k : Nat) : Srt (c.take k) := by
  intro i j hj hij
  rw [List.getElem_take, List.getElem_take]
  exact h i j (by rw [List.length_take] at hj; omega) hij

def bs (c : List Sim) (s : Sim) : Nat := c.findIdx (fun x => !decide (cmpS x s < 0))

theorem bs_le {c : List Sim} {s : Sim} : bs c s ≤ c.length := List.findIdx_le_length
theorem bs_lt {c : List Sim} {s : Sim} (hc : Srt c) {t : Nat} (h : t < c.length) : t < bs c s ↔ cmpS c[t] s < 0 := by
  constructor
  · intro ht
    have := List.not_of_lt_findIdx ht
    simpa using this
  · intro ht
    refine Classical.byContradiction fun hn => ?_
    have hb : bs c s < c.length := by omega
    have h1 : cmpS c[bs c s] s < 0 := by
      by_cases e : bs c s = t
      · simp only [e]; exact ht
      · exact cmpS_trans (hc _ _ h (by omega)) ht
    have := List.findIdx_getElem (w := hb)
    simp only [Bool.not_eq_true', decide_eq_false_iff_not] at this
    exact this h1

theorem bs_find {c : List Sim} {s : Sim} (hc : Srt c) : findI c s = if h : bs c s < c.length ∧ c.getD (bs c s) [] = s then (bs c s : Int) else -1 := by
  have e : c.findIdx? (fun x => pb (x = s)) = if bs c s < c.length ∧ c.getD (bs c s) [] = s then some (bs c s) else none := by
    split
    · rename_i h
      obtain ⟨h1, h2⟩ := h
      rw [List.findIdx?_eq_some_iff_getElem]
      rw [getD_lt h1] at h2
      refine ⟨h1, pb_true h2, fun j hj => ?_⟩
      rw [pb_iff]
      intro he
      have := (bs_lt (s := s) hc (show j < c.length by omega)).1 hj
      rw [he, cmpS_zero.2 rfl] at this
      omega
    · rename_i h
      rw [List.findIdx?_eq_none_iff]
      intro x hx
      rw [pb_not]
      rintro rfl
      obtain ⟨j, hj, rfl⟩ := List.mem_iff_getElem.1 hx
      have h0 : ¬ j < bs c c[j] := fun hlt => by
        have := (bs_lt hc hj).1 hlt
        rw [cmpS_zero.2 rfl] at this; omega
      by_cases hjb : bs c c[j] = j
      · exact h ⟨by omega, by rw [hjb, getD_lt hj]⟩
      · have hb : bs c c[j] < c.length := by omega
        have := (bs_lt (s := c[j]) hc hb).2 (hc _ _ hj (by omega))
        omega
  unfold findI idxf
  rw [e]
  split <;> rfl

theorem BinarySearch_ret (c : List Sim) (s : Sim) (hc : Sm (.sl (.sl (.int .i64))) c) (hs : Srt c) : Ret E n_slices_BinarySearchFunc_SSint64_Sint64_Sint64 [dLL c, dL s, ⟨.fn n_impl_compareSimplices .nil, ()⟩] ⟨o_slices_BinarySearchFunc_SSint64_Sint64_Sint64, ((bs c s : Int), pb (bs c s < c.length ∧ c.getD (bs c s) [] = s), ())⟩ := by
  have hc1 : c.length ≤ 1048576 := hc.1
  refine ret_of ?_
  simp only [run_slices_BinarySearchFunc_SSint64_Sint64_Sint64, slices_BinarySearchFunc_SSint64_Sint64_Sint64_impl_compareSimplices.ev]
  refine Ev.start (p := fun φ n => slices_BinarySearchFunc_SSint64_Sint64_Sint64_impl_compareSimplices.l0 (mkR (run E (φ 0))) (φ 0) n c s (c.length : Int) 0 (c.length : Int) = _) 1 ?_ (fun _ _ _ h => h)
  refine loopR 1 (σ := Nat × Nat) (L := fun φ n st => slices_BinarySearchFunc_SSint64_Sint64_Sint64_impl_compareSimplices.l0 (mkR (run E (φ 0))) (φ 0) n c s (c.length : Int) (st.1 : Int) (st.2 : Int)) (fun _ _ _ _ => rfl) (fun st => st.1 ≤ bs c s ∧ bs c s ≤ st.2 ∧ st.2 ≤ c.length) (fun _ => _) (fun st => st.2 - st.1) (fun st hi ih => ?_) (0, c.length) ⟨Nat.zero_le _, bs_le, Nat.le_refl _⟩
  obtain ⟨i, j⟩ := st
  obtain ⟨h1, h2, h3⟩ := hi
  simp only at h1 h2 h3 ih
  simp only [slices_BinarySearchFunc_SSint64_Sint64_Sint64_impl_compareSimplices.l0_succ _ mk_ok]
  rw [half (by omega)]
  refine ev_d (fun hij => ?_) fun hij => ?_
  · have hh : (i + j) / 2 < c.length := by omega
    refine ev_chk (by decide) (ev_bind (idx_lt hh) (ev_call (compareSimplices_ret _ _ (sm_get hc hh)) (ev_d (fun hlt => ?_) fun hlt => ?_)))
    · rw [w64_succ (by omega)]
      have := (bs_lt hs hh).2 hlt
      exact ih ((i + j) / 2 + 1, j) ⟨this, h2, h3⟩ (by simp only; omega)
    · have : ¬ (i + j) / 2 < bs c s := fun h => hlt ((bs_lt hs hh).1 h)
      exact ih (i, (i + j) / 2) ⟨h1, by simp only; omega, by simp only; omega⟩ (by simp only; omega)
  · have e : i = bs c s := by omega
    subst e
    refine ev_d (fun hl => ?_) fun hl => ev_some ?_
    · have hh : bs c s < c.length := by omega
      refine ev_bind (idx_lt hh) (ev_call (compareSimplices_ret _ _ (sm_get hc hh)) (ev_some ?_))
      have : (cmpS c[bs c s] s == 0) = pb (bs c s < c.length ∧ c.getD (bs c s) [] = s) := eq_pb (by
        rw [getD_lt hh, beq_iff_eq, cmpS_zero]; exact ⟨fun h => ⟨hh, h⟩, fun h => h.2⟩)
      rw [this]
    · rw [pb_false fun h => hl (by omega)]

theorem indexOf_ret (c : List Sim) (s : Sim) (hc : Sm (.sl (.sl (.int .i64))) c) (hs : Srt c) : Ret E n_impl_indexOf [dLL c, dL s] ⟨o_impl_indexOf, (findI c s, ())⟩ := by
  refine ret_of ?_
  simp only [run_impl_indexOf, impl_indexOf.ev]
  refine ev_call (BinarySearch_ret c s hc hs) (ev_b (fun h => ev_some ?_) fun h => ev_some ?_)
  · rw [bs_find hs, dif_neg (pb_not.1 (by simpa using h))]
  · rw [bs_find hs, dif_pos (pb_iff.1 (by simpa using h))]

end VeT

open Go Go.Proofs Ve
set_option linter.unusedVariables false
set_option linter.unusedSimpArgs false
namespace VeT

/-- valid complexes -/
def VC (c : List Sim) : Prop := c.length ≤ 48 ∧ (∀ k, k < c.length → Vx (c.getD k [])) ∧ (∀ k, 1 ≤ k → k < c.length → cmpS (c.getD (k - 1) []) (c.getD k []) < 0) ∧ ∀ k, k < c.length → ∀ f ∈ faces (c.getD k []), f ∈ c

theorem VC.srt {c : List Sim} (h : VC c) : Srt c := srt_of h.2.2.1

def VCimpl (c : List Sim) (k : Nat) : Prop := (Vx (c.getD k []) ∧ (1 ≤ k → cmpS (c.getD (k - 1) []) (c.getD k []) < 0)) ∧ ∀ f ∈ faces (c.getD k []), f ∈ c.take k

theorem VC_impl {c : List Sim} : ((∀ k, 0 ≤ k → k < c.length → VCimpl c k) ∧ c.length ≤ 48) ↔ VC c := by
  constructor
  · rintro ⟨h, hl⟩
    exact ⟨hl, fun k hk => (h k (by omega) hk).1.1, fun k h1 hk => (h k (by omega) hk).1.2 h1, fun k hk f hf => List.mem_of_mem_take ((h k (by omega) hk).2 f hf)⟩
  · intro h
    have hs := h.srt
    obtain ⟨hl, h1, h2, h3⟩ := h
    refine ⟨fun k _ hk => ⟨⟨h1 k hk, fun hk1 => h2 k hk1 hk⟩, fun f hf => ?_⟩, hl⟩
    have hm := h3 k hk f hf
    have hlen := faces_len hf
    rw [getD_lt hk] at hlen
    obtain ⟨i, hi, rfl⟩ := List.mem_iff_getElem.1 hm
    have hlt : cmpS c[i] c[k] < 0 := cmpS_lt.2 (.inl (by omega))
    have hik : i < k := Classical.byContradiction fun hn => by
      by_cases e : i = k
      · subst e; omega
      · have := hs k i hi (by omega)
        rw [cmpS_neg] at this; omega
    exact List.mem_iff_getElem.2 ⟨i, by rw [List.length_take]; omega, by rw [List.getElem_take]⟩

theorem sm_take {t : Ty} {s : List t.T} (h : Sm (.sl t) s) (k : Nat) : Sm (.sl t) (s.take k) := ⟨by have h1 : s.length ≤ 1048576 := h.1; show (s.take k).length ≤ _; rw [List.length_take]; omega, fun x hx => h.2 x (List.mem_of_mem_take hx)⟩

theorem ValidComplex_1_ret (c : List Sim) (f : Sim) (k : Nat) (hk : k ≤ c.length) (hc : Sm (.sl (.sl (.int .i64))) c) (hs : Srt (c.take k)) :
    Ret E n_impl_ValidComplex_1 [dL f, dC (c, ()), ⟨.ptr (.cons (.int .i64) .nil), ((k : Int), ())⟩] ⟨o_impl_ValidComplex_1, (pb (¬ f ∈ c.take k), ())⟩ := by
  refine ret_of ?_
  simp only [run_impl_ValidComplex_1, impl_ValidComplex_1.ev]
  simp only [Int.toNat_natCast]
  refine ev_chk (by simp; omega) (ev_call (indexOf_ret _ f (sm_take hc k) hs) (ev_some ?_))
  simp only [pb_dec, pb_congr (show findI (c.take k) f < 0 ↔ ¬ f ∈ c.take k by rw [← findI_nonneg]; omega)]

theorem ValidComplex_ret (c : List Sim) (hc : Sm (.sl (.sl (.int .i64))) c) : Ret E n_impl_ValidComplex [dLL c] ⟨o_impl_ValidComplex, (pb (VC c), ())⟩ := by
  have hc1 : c.length ≤ 1048576 := hc.1
  refine ret_of ?_
  simp only [run_impl_ValidComplex, impl_ValidComplex.ev]
  refine Ev.start (p := fun φ n => impl_ValidComplex.l0 (mkR (run E (φ 0))) (φ 0) n c (c.length : Int) 0 c = _) 1 ?_ (fun _ _ _ h => h)
  have key : ∀ (n : Nat) (k : Nat) (hk : k < c.length) (hpre : ∀ j, 0 ≤ j → j < k → VCimpl c j), Srt (c.take k) := fun n k hk hpre => srt_of fun j h1 h2 => by
    rw [List.length_take] at h2
    have := (hpre j (by omega) (by omega)).1.2 h1
    rw [getD_lt (by omega), getD_lt (by omega)] at this
    rw [getD_lt (by rw [List.length_take]; omega), getD_lt (by rw [List.length_take]; omega), List.getElem_take, List.getElem_take]
    exact this
  have hcon : ∀ (k : Nat) (hk : k < c.length) (hpre : ∀ j, 0 ≤ j → j < k → VCimpl c j), Ret E n_slices_ContainsFunc_SSint64_Sint64 [dLL (faces c[k]), ⟨.fn n_impl_ValidComplex_1 (.cons (.ptr (.cons (.sl (.sl (.int .i64))) .nil)) (.cons (.ptr (.cons (.int .i64) .nil)) .nil)), ((c, ()), ((k : Int), ()), ())⟩] ⟨o_slices_ContainsFunc_SSint64_Sint64, (pb (∃ x ∈ faces c[k], pb (¬ x ∈ c.take k) = true), ())⟩ := fun k hk hpre =>
    ContainsFunc_SSint64_Sint64_impl_ValidComplex_1_ret (faces c[k]) ((c, ()), ((k : Int), ()), ()) _ (Nat.le_trans faces_length (sm_get hc hk).1) fun x hx => ValidComplex_1_ret c x k (by omega) hc (key 0 k hk hpre)
  refine (all_pb 1 (L := fun φ n k => impl_ValidComplex.l0 (mkR (run E (φ 0))) (φ 0) n c (c.length : Int) k c) (len := c.length) 0 (by omega) (VCimpl c) (fun b => some ⟨o_impl_ValidComplex, (b && decide ((c.length : Int) ≤ 48), ())⟩) (fun _ _ _ _ => rfl) (fun k h1 h2 hP hpre => ?_) (fun k r h1 h2 hP hpre ih => ?_) (fun _ => ?_)).to ?_
  · simp only [impl_ValidComplex.l0_succ _ mk_ok]
    refine ev_t (decide_eq_true (by omega)) (ev_bind (idx_lt h2) (ev_call (ValidSimplex_ret _ (sm_get hc h2)) ?_))
    refine ev_b (fun hv => ?_) fun hv => ?_
    · simp only [impl_ValidComplex.j1_eq _ mk_ok, cond_true]; (first | exact ev_rfl | exact Ev.of fun _ => trivial)
    · have hv : Vx c[k] := pb_iff.1 (by simpa using hv)
      have last : (1 ≤ k → cmpS (c.getD (k - 1) []) (c.getD k []) < 0) → Ev fun φ => impl_ValidComplex.j1 (mkR (run E (φ 0))) (φ 0) (φ 1) c[k] c (c.length : Int) (k : Int) false c (k : Int) = some ⟨o_impl_ValidComplex, (false, ())⟩ := fun hcm => by
        simp only [impl_ValidComplex.j1_eq _ mk_ok, cond_false]
        refine ev_call (facesOf_ret _ (sm_get hc h2).1) (ev_call (hcon k h2 hpre) (ev_t ?_ ev_rfl))
        refine pb_true (Classical.byContradiction fun hn => hP ⟨⟨by rw [getD_lt h2]; exact hv, hcm⟩, fun f hf => Classical.byContradiction fun hnf => hn ⟨f, by rw [getD_lt h2] at hf; exact hf, pb_true hnf⟩⟩)
      refine ev_d (fun hk => ?_) fun hk => ?_
      · rw [w64_small (by omega) (by omega), show ((k : Int) - 1) = ((k - 1 : Nat) : Int) by omega]
        have hk1 : k - 1 < c.length := by omega
        refine ev_bind (idx_lt hk1) (ev_call (compareSimplices_ret _ _ (sm_get hc hk1)) ?_)
        by_cases hcm : cmpS c[k - 1] c[k] < 0
        · simp only [show decide (cmpS c[k - 1] c[k] ≥ 0) = false from decide_eq_false (by omega)]
          exact last fun _ => by rw [getD_lt hk1, getD_lt h2]; exact hcm
        · simp only [show decide (cmpS c[k - 1] c[k] ≥ 0) = true from decide_eq_true (by omega), impl_ValidComplex.j1_eq _ mk_ok, cond_true]
          (first | exact ev_rfl | exact Ev.of fun _ => trivial)
      · exact last fun h => absurd h (by omega)
  · simp only [impl_ValidComplex.l0_succ _ mk_ok]
    have hP' := hP
    obtain ⟨⟨hv, hcm⟩, hfc⟩ := hP'
    rw [getD_lt h2] at hv hfc
    refine ev_t (decide_eq_true (by omega)) (ev_bind (idx_lt h2) (ev_call (ValidSimplex_ret _ (sm_get hc h2)) (ev_f (by rw [pb_true hv]; rfl) ?_)))
    have last : Ev fun φ => impl_ValidComplex.j1 (mkR (run E (φ 0))) (φ 0) (φ 1) c[k] c (c.length : Int) (k : Int) false c (k : Int) = r := by
      simp only [impl_ValidComplex.j1_eq _ mk_ok, cond_false]
      refine ev_call (facesOf_ret _ (sm_get hc h2).1) (ev_call (hcon k h2 hpre) (ev_f ?_ ?_))
      · exact pb_false fun ⟨x, hx, hn⟩ => pb_iff.1 hn (hfc x hx)
      · rw [w64_succ (by omega)]; exact ih
    refine ev_d (fun hk => ?_) fun hk => last
    rw [w64_small (by omega) (by omega), show ((k : Int) - 1) = ((k - 1 : Nat) : Int) by omega]
    have hk1 : k - 1 < c.length := by omega
    have hcm := hcm (by omega)
    rw [getD_lt hk1, getD_lt h2] at hcm
    refine ev_bind (idx_lt hk1) (ev_call (compareSimplices_ret _ _ (sm_get hc hk1)) ?_)
    simp only [show decide (cmpS c[k - 1] c[k] ≥ 0) = false from decide_eq_false (by omega)]
    exact last
  · simp only [impl_ValidComplex.l0_succ _ mk_ok]
    exact ev_f (decide_eq_false (by omega)) (ev_some (by rw [Bool.true_and]))
  · have : (pb (∀ j, 0 ≤ j → j < c.length → VCimpl c j) && decide ((c.length : Int) ≤ 48)) = pb (VC c) := eq_pb (by
      rw [Bool.and_eq_true, pb_iff, decide_eq_true_iff, ← VC_impl]
      exact ⟨fun h => ⟨h.1, by omega⟩, fun h => ⟨h.1, by omega⟩⟩)
    rw [this]

def VCspec (c : List Sim) (k : Nat) : Prop := (Vx (c.getD k []) ∧ (1 ≤ k → cmpS (c.getD (k - 1) []) (c.getD k []) < 0)) ∧ ∀ f ∈ faces (c.getD k []), f ∈ c

theorem l05Ok_ret (c : Cpx) (hc : Sm (.sl (.sl (.int .i64))) c.1) : Ret E n_spec_l05Ok [dC c] ⟨o_spec_l05Ok, (pb (VC c.1), ())⟩ := by
  have hc1 : c.1.length ≤ 1048576 := hc.1
  refine ret_of ?_
  simp only [run_spec_l05Ok, spec_l05Ok.ev]
  refine ev_d (fun h => ev_some ?_) fun h48 => ?_
  · rw [pb_false fun hv => by have := hv.1; omega]
  refine Ev.start (p := fun φ n => spec_l05Ok.l0 (mkR (run E (φ 0))) (φ 0) n c 0 = _) 1 ?_ (fun _ _ _ h => h)
  -- the inner loop
  have inner : ∀ (k : Nat) (h2 : k < c.1.length) (r : Option Dv), ((∀ f ∈ faces c.1[k], f ∈ c.1) → Ev fun φ => spec_l05Ok.l0 (mkR (run E (φ 0))) (φ 0) (φ 1) c ((k + 1 : Nat) : Int) = r) → (¬ (∀ f ∈ faces c.1[k], f ∈ c.1) → r = some ⟨o_spec_l05Ok, (false, ())⟩) → Ev fun φ => spec_l05Ok.l2 (mkR (run E (φ 0))) (φ 0) (φ 1) (φ 0) c (k : Int) c.1[k] 0 = r := fun k h2 r hgo hstop => by
    have hks : (c.1[k]).length ≤ 1048576 := (sm_get hc h2).1
    refine Ev.start (p := fun φ n => spec_l05Ok.l2 (mkR (run E (φ 0))) (φ 0) (φ 1) n c (k : Int) c.1[k] 0 = _) 2 ?_ (fun _ _ _ h => h)
    by_cases hlen : 1 < (c.1[k]).length
    · obtain ⟨t, f⟩ := all_loop 2 (L := fun φ n i => spec_l05Ok.l2 (mkR (run E (φ 0))) (φ 0) (φ 1) n c (k : Int) c.1[k] i) (len := (c.1[k]).length) 0 (by omega) (fun i => (c.1[k]).eraseIdx i ∈ c.1) (rt := r) (rf := some ⟨o_spec_l05Ok, (false, ())⟩) (fun _ _ _ _ => rfl) (fun i _ hi hP _ => by
        simp only [spec_l05Ok.l2_succ _ mk_ok]
        refine ev_t (decide_eq_true (by omega)) ?_
        simp only [show decide (((c.1[k]).length : Int) > 1) = true from decide_eq_true (by omega), spec_l05Ok.j3_eq _ mk_ok, cond_true]
        refine ev_call (l05Drop_ret _ i hi hks) (ev_call (l05Find_ret c _ hc) (ev_t (decide_eq_true ?_) ev_rfl))
        have hq := mt (findI_nonneg (c := c.1) (s := (c.1[k]).eraseIdx i)).1 hP; simp only; exact Int.not_le.1 hq) (fun i q _ hi hP _ ih => by
        simp only [spec_l05Ok.l2_succ _ mk_ok]
        refine ev_t (decide_eq_true (by omega)) ?_
        simp only [show decide (((c.1[k]).length : Int) > 1) = true from decide_eq_true (by omega), spec_l05Ok.j3_eq _ mk_ok, cond_true]
        refine ev_call (l05Drop_ret _ i hi hks) (ev_call (l05Find_ret c _ hc) (ev_f (decide_eq_false ?_) ?_))
        · have hq := (findI_nonneg (c := c.1) (s := (c.1[k]).eraseIdx i)).2 hP; simp only; exact Int.not_lt.2 hq
        · rw [w64_succ (by omega)]; exact ih) (fun hall => by
        simp only [spec_l05Ok.l2_succ _ mk_ok]
        refine ev_f (decide_eq_false (by omega)) ?_
        simp only [spec_l05Ok.j3_eq _ mk_ok, cond_false]
        rw [w64_succ (by omega)]
        exact hgo fun f hf => by
          obtain ⟨_, i, hi, rfl⟩ := faces_mem.1 hf
          exact hall i (by omega) hi)
      by_cases hall : ∀ i, 0 ≤ i → i < (c.1[k]).length → (c.1[k]).eraseIdx i ∈ c.1
      · exact t hall
      · rw [hstop fun hf => hall fun i _ hi => hf _ (faces_mem.2 ⟨hlen, i, hi, rfl⟩)]
        exact f hall
    · refine Ev.round 2 (L := fun φ n => spec_l05Ok.l2 (mkR (run E (φ 0))) (φ 0) (φ 1) n c (k : Int) c.1[k] 0) ?_ (fun _ _ _ => rfl)
      have hgo := hgo fun f hf => absurd (faces_mem.1 hf).1 hlen
      have hj : Ev fun φ => spec_l05Ok.j3 (mkR (run E (φ 0))) (φ 0) (φ 1) (φ 2) c (k : Int) c.1[k] 0 false = r := by
        simp only [spec_l05Ok.j3_eq _ mk_ok, cond_false]
        rw [w64_succ (by omega)]; exact hgo
      simp only [spec_l05Ok.l2_succ _ mk_ok]
      refine ev_d (fun _ => ?_) fun _ => hj
      simp only [show decide (((c.1[k]).length : Int) > 1) = false from decide_eq_false (by omega)]
      exact hj
  refine (all_pb 1 (L := fun φ n k => spec_l05Ok.l0 (mkR (run E (φ 0))) (φ 0) n c k) (len := c.1.length) 0 (by omega) (VCspec c.1) (fun b => some ⟨o_spec_l05Ok, (b, ())⟩) (fun _ _ _ _ => rfl) (fun k h1 h2 hP hpre => ?_) (fun k r h1 h2 hP hpre ih => ?_) (fun _ => ?_)).to ?_
  · simp only [spec_l05Ok.l0_succ _ mk_ok]
    refine ev_t (decide_eq_true (by omega)) (ev_bind (idx_lt h2) (ev_call (l05Simplex_ret _ (sm_get hc h2)) ?_))
    refine ev_b (fun hv => ?_) fun hv => ?_
    · simp only [spec_l05Ok.j1_eq _ mk_ok, cond_true]; (first | exact ev_rfl | exact Ev.of fun _ => trivial)
    · have hv : Vx c.1[k] := pb_iff.1 (by simpa using hv)
      have last : (1 ≤ k → cmpS (c.1.getD (k - 1) []) (c.1.getD k []) < 0) → Ev fun φ => spec_l05Ok.j1 (mkR (run E (φ 0))) (φ 0) (φ 1) c (k : Int) c.1[k] false = some ⟨o_spec_l05Ok, (false, ())⟩ := fun hcm => by
        simp only [spec_l05Ok.j1_eq _ mk_ok, cond_false]
        refine inner k h2 _ (fun hf => absurd ⟨⟨by rw [getD_lt h2]; exact hv, hcm⟩, by rw [getD_lt h2]; exact hf⟩ hP) fun _ => rfl
      refine ev_d (fun hk => ?_) fun hk => ?_
      · rw [w64_small (by omega) (by omega), show ((k : Int) - 1) = ((k - 1 : Nat) : Int) by omega]
        have hk1 : k - 1 < c.1.length := by omega
        refine ev_bind (idx_lt hk1) (ev_call (l05Before_ret _ _ (sm_get hc hk1)) ?_)
        by_cases hcm : cmpS c.1[k - 1] c.1[k] < 0
        · simp only [pb_true hcm]
          exact last fun _ => by rw [getD_lt hk1, getD_lt h2]; exact hcm
        · simp only [pb_false hcm, spec_l05Ok.j1_eq _ mk_ok, cond_true, Bool.not_false]
          (first | exact ev_rfl | exact Ev.of fun _ => trivial)
      · exact last fun h => absurd h (by omega)
  · simp only [spec_l05Ok.l0_succ _ mk_ok]
    obtain ⟨⟨hv, hcm⟩, hfc⟩ := hP
    rw [getD_lt h2] at hv hfc
    refine ev_t (decide_eq_true (by omega)) (ev_bind (idx_lt h2) (ev_call (l05Simplex_ret _ (sm_get hc h2)) (ev_f (by rw [pb_true hv]; rfl) ?_)))
    have last : Ev fun φ => spec_l05Ok.j1 (mkR (run E (φ 0))) (φ 0) (φ 1) c (k : Int) c.1[k] false = r := by
      simp only [spec_l05Ok.j1_eq _ mk_ok, cond_false]
      exact inner k h2 _ (fun _ => ih) fun hn => absurd hfc hn
    refine ev_d (fun hk => ?_) fun hk => last
    rw [w64_small (by omega) (by omega), show ((k : Int) - 1) = ((k - 1 : Nat) : Int) by omega]
    have hk1 : k - 1 < c.1.length := by omega
    have hcm := hcm (by omega)
    rw [getD_lt hk1, getD_lt h2] at hcm
    refine ev_bind (idx_lt hk1) (ev_call (l05Before_ret _ _ (sm_get hc hk1)) ?_)
    simp only [pb_true hcm, Bool.not_true]
    exact last
  · simp only [spec_l05Ok.l0_succ _ mk_ok]
    exact ev_f (decide_eq_false (by omega)) ev_rfl
  · have : pb (∀ j, 0 ≤ j → j < c.1.length → VCspec c.1 j) = pb (VC c.1) := pb_congr
      ⟨fun h => ⟨by omega, fun k hk => (h k (by omega) hk).1.1, fun k h1 hk => (h k (by omega) hk).1.2 h1, fun k hk => (h k (by omega) hk).2⟩,
       fun h k _ hk => ⟨⟨h.2.1 k hk, fun h1 => h.2.2.1 k h1 hk⟩, h.2.2.2 k hk⟩⟩
    rw [this]

end VeT

open Go Go.Proofs Ve
set_option linter.unusedVariables false
set_option linter.unusedSimpArgs false
namespace VeT

/-- primes up to 251 -/
def Pr (p : Int) : Prop := 2 ≤ p ∧ p ≤ 251 ∧ ∀ k : Nat, 2 ≤ k → (k : Int) * k ≤ p → p % k ≠ 0

/-! matrices -/
def Elems (v : Sim) (p : Int) : Prop := ∀ x ∈ v, 0 ≤ x ∧ x ≤ p - 1

theorem none_bad {α : Type} {s : List α} {P : α → Prop} : (!pb (∃ x ∈ s, (!pb (P x)) = true)) = pb (∀ x ∈ s, P x) := eq_pb (by
  simp only [Bool.not_eq_true', pb_not]
  exact ⟨fun h x hx => Classical.byContradiction fun hn => h ⟨x, hx, hn⟩, fun h ⟨x, hx, hn⟩ => hn (h x hx)⟩)

theorem sizeL_ret (s : List Sim) : Ret E n_impl_size_Sint64 [dLL s] ⟨o_impl_size_Sint64, ((s.length : Int), ())⟩ := by
  refine ret_of ?_
  simp only [run_impl_size_Sint64, impl_size_Sint64.ev]
  (first | exact ev_rfl | exact Ev.of fun _ => trivial)

/-- valid matrices -/
def VM (m : Mat) : Prop := Pr m.1 ∧ (0 ≤ m.2.1 ∧ m.2.1 ≤ 32) ∧ (0 ≤ m.2.2.1 ∧ m.2.2.1 ≤ 32) ∧ (m.2.2.2.1.length : Int) = m.2.1 * m.2.2.1 ∧ Elems m.2.2.2.1 m.1

theorem mul_side {a b : Int} (ha : 0 ≤ a ∧ a ≤ 32) (hb : 0 ≤ b ∧ b ≤ 32) : 0 ≤ a * b ∧ a * b ≤ 1024 := by
  obtain ⟨x, rfl⟩ := Int.eq_ofNat_of_zero_le ha.1
  obtain ⟨y, rfl⟩ := Int.eq_ofNat_of_zero_le hb.1
  have := Nat.mul_le_mul (show x ≤ 32 by omega) (show y ≤ 32 by omega)
  have e : (x : Int) * y = ((x * y : Nat) : Int) := by simp
  show 0 ≤ (x : Int) * y ∧ (x : Int) * y ≤ 1024
  rw [e]; omega

def Bt (m : Mat) (p f t : Int) : Prop := VM m ∧ m.1 = p ∧ m.2.1 = t ∧ m.2.2.1 = f

/-! stalks -/
def ofDim (c : List Sim) (d : Int) (k : Nat) : List Int := ((List.range k).filter fun i => decide (((c.getD i []).length : Int) = d + 1)).map Int.ofNat

theorem ofDim_succ (c : List Sim) (d : Int) (k : Nat) : ofDim c d (k + 1) = ofDim c d k ++ if ((c.getD k []).length : Int) = d + 1 then [(k : Int)] else [] := by
  unfold ofDim
  rw [List.range_succ, List.filter_append, List.map_append]
  congr 1
  by_cases h : ((c.getD k []).length : Int) = d + 1
  · rw [if_pos h, List.filter_cons_of_pos (by simpa using h)]; rfl
  · rw [if_neg h, List.filter_cons_of_neg (by simpa using h)]; rfl

theorem ofDim_length (c : List Sim) (d : Int) (k : Nat) : (ofDim c d k).length ≤ k := by
  unfold ofDim
  rw [List.length_map]
  exact Nat.le_trans (List.length_filter_le _ _) (by simp)

theorem ofDim_mem {c : List Sim} {d : Int} {k : Nat} {x : Int} (h : x ∈ ofDim c d k) : ∃ i : Nat, x = i ∧ i < k := by
  unfold ofDim at h
  rw [List.mem_map] at h
  obtain ⟨i, hi, rfl⟩ := h
  exact ⟨i, rfl, by have := (List.mem_filter.1 hi).1; simpa using this⟩

/-- the sum of the stalks of a dimension -/
def sumD (c : List Sim) (st : Sim) (d : Int) (k : Nat) : Int := (((ofDim c d c.length).take k).map fun i => st.getD i.toNat 0).sum

theorem sumD_succ (c : List Sim) (st : Sim) (d : Int) (k : Nat) (h : k < (ofDim c d c.length).length) : sumD c st d (k + 1) = sumD c st d k + st.getD ((ofDim c d c.length)[k]).toNat 0 := by
  unfold sumD
  rw [List.take_succ_eq_append_getElem h, List.map_append, List.sum_append]
  simp

theorem sumD_le {c : List Sim} {st : Sim} (hst : ∀ x ∈ st, 0 ≤ x ∧ x ≤ 3) (d : Int) (k : Nat) : 0 ≤ sumD c st d k ∧ sumD c st d k ≤ 3 * k := by
  induction k with
  | zero => simp [sumD]
  | succ k ih =>
    by_cases h : k < (ofDim c d c.length).length
    · rw [sumD_succ _ _ _ _ h]
      have : 0 ≤ st.getD ((ofDim c d c.length)[k]).toNat 0 ∧ st.getD ((ofDim c d c.length)[k]).toNat 0 ≤ 3 := by
        by_cases hl : ((ofDim c d c.length)[k]).toNat < st.length
        · rw [getD_lt hl]; exact hst _ (List.getElem_mem hl)
        · rw [List.getD_eq_getElem?_getD, List.getElem?_eq_none (by omega)]; simp
      omega
    · have : sumD c st d (k + 1) = sumD c st d k := by
        unfold sumD
        rw [List.take_of_length_le (by omega), List.take_of_length_le (by omega)]
      omega

end VeT

open Go Go.Proofs Ve
set_option linter.unusedVariables false
set_option linter.unusedSimpArgs false
namespace VeT

theorem Index_ret (s : Sim) (v : Int) (hs : s.length ≤ 1048576) : Ret E n_slices_Index_Sint64_int64 [dL s, dI v] ⟨o_slices_Index_Sint64_int64, (idxf (fun x => pb (x = v)) s, ())⟩ := by
  obtain ⟨o, h1, h2, h3⟩ := find_loop 1 (L := fun φ n k => slices_Index_Sint64_int64.l0 (mkR (run E (φ 0))) (φ 0) n s v (s.length : Int) k) (len := s.length) (fun k => ∃ h : k < s.length, pb (s[k] = v) = true) (fun o => some ⟨o_slices_Index_Sint64_int64, (o2i o, ())⟩) (fun _ _ _ _ => rfl) (fun k hk hP => by
      obtain ⟨_, hP⟩ := hP
      have hP := pb_iff.1 hP
      simp only [slices_Index_Sint64_int64.l0_succ _ mk_ok]
      exact ev_t (decide_eq_true (by omega)) (ev_bind (idx_lt hk) (ev_t (by simp [hP]) ev_rfl))) (fun k q hk hP ih => by
      simp only [slices_Index_Sint64_int64.l0_succ _ mk_ok]
      refine ev_t (decide_eq_true (by omega)) (ev_bind (idx_lt hk) (ev_f (by simp only [beq_eq_false_iff_ne]; exact fun e => hP ⟨hk, pb_true e.symm⟩) ?_))
      rw [w64_succ (by omega)]; exact ih) (by
      simp only [slices_Index_Sint64_int64.l0_succ _ mk_ok]
      exact ev_f (decide_eq_false (by omega)) ev_rfl)
  rw [idxf_of (p := fun x => pb (x = v)) h1 h2] at h3
  refine ret_of ?_
  simp only [run_slices_Index_Sint64_int64, slices_Index_Sint64_int64.ev]
  exact Ev.start (p := fun φ n => slices_Index_Sint64_int64.l0 (mkR (run E (φ 0))) (φ 0) n s v (s.length : Int) 0 = _) 1 h3 (fun _ _ _ h => h)

theorem Contains_ret (s : Sim) (v : Int) (hs : s.length ≤ 1048576) : Ret E n_slices_Contains_Sint64_int64 [dL s, dI v] ⟨o_slices_Contains_Sint64_int64, (pb (v ∈ s), ())⟩ := by
  refine ret_of ?_
  simp only [run_slices_Contains_Sint64_int64, slices_Contains_Sint64_int64.ev]
  refine ev_call (Index_ret s v hs) (ev_some ?_)
  have : decide (idxf (fun x => pb (x = v)) s ≥ 0) = pb (v ∈ s) := eq_pb (by
    rw [decide_eq_true_iff, ge_iff_le, idxf_nonneg]
    exact ⟨fun ⟨x, h, e⟩ => pb_iff.1 e ▸ h, fun h => ⟨v, h, pb_true rfl⟩⟩)
  simp only [this]

theorem l00Has_ret (s : Sim) (v : Int) (hs : s.length ≤ 1048576) : Ret E n_spec_l00Has [dL s, dI v] ⟨o_spec_l00Has, (pb (v ∈ s), ())⟩ := by
  obtain ⟨o, h1, h2, h3⟩ := find_loop 1 (L := fun φ n k => spec_l00Has.l0 (mkR (run E (φ 0))) (φ 0) n s v k) (len := s.length) (fun k => ∃ h : k < s.length, s[k] = v) (fun o => some ⟨o_spec_l00Has, (o.isSome, ())⟩) (fun _ _ _ _ => rfl) (fun k hk hP => by
      obtain ⟨_, hP⟩ := hP
      simp only [spec_l00Has.l0_succ _ mk_ok]
      exact ev_t (decide_eq_true (by omega)) (ev_bind (idx_lt hk) (ev_t (by simp [hP]) ev_rfl))) (fun k q hk hP ih => by
      simp only [spec_l00Has.l0_succ _ mk_ok]
      refine ev_t (decide_eq_true (by omega)) (ev_bind (idx_lt hk) (ev_f (by simp only [beq_eq_false_iff_ne]; exact fun e => hP ⟨hk, e⟩) ?_))
      rw [w64_succ (by omega)]; exact ih) (by
      simp only [spec_l00Has.l0_succ _ mk_ok]
      exact ev_f (decide_eq_false (by omega)) ev_rfl)
  have : o.isSome = pb (v ∈ s) := eq_pb (by
    cases o with
    | none =>
      simp only [Option.isSome_none, Bool.false_eq_true, false_iff]
      intro hm
      obtain ⟨j, hj, e⟩ := List.mem_iff_getElem.1 hm
      exact h2 rfl j hj ⟨hj, e⟩
    | some k =>
      obtain ⟨_, ⟨hk, e⟩, _⟩ := h1 k rfl
      simp only [Option.isSome_some, true_iff]
      exact e ▸ List.getElem_mem hk)
  rw [this] at h3
  refine ret_of ?_
  simp only [run_spec_l00Has, spec_l00Has.ev]
  exact Ev.start (p := fun φ n => spec_l00Has.l0 (mkR (run E (φ 0))) (φ 0) n s v 0 = _) 1 h3 (fun _ _ _ h => h)

/-- a part of a simplex -/
def Part (a b : Sim) : Prop := ∀ x ∈ a, x ∈ b

theorem isFace_1_ret (x : Int) (b : Sim) (hb : b.length ≤ 1048576) : Ret E n_impl_isFace_1 [dI x, ⟨.ptr (.cons (.sl (.int .i64)) .nil), (b, ())⟩] ⟨o_impl_isFace_1, (!pb (x ∈ b), ())⟩ := by
  refine ret_of ?_
  simp only [run_impl_isFace_1, impl_isFace_1.ev]
  exact ev_call (Contains_ret b x hb) ev_rfl

theorem isFace_ret (a b : Sim) (ha : a.length ≤ 1048576) (hb : b.length ≤ 1048576) : Ret E n_impl_isFace [dL a, dL b] ⟨o_impl_isFace, (pb (Part a b), ())⟩ := by
  refine ret_of ?_
  simp only [run_impl_isFace, impl_isFace.ev]
  refine ev_call (ContainsFunc_Sint64_int64_impl_isFace_1_ret a ((b, ()), ()) _ ha fun x _ => isFace_1_ret x b hb) (ev_some ?_)
  simp only [none_bad]; rfl

theorem l05Part_ret (a b : Sim) (ha : a.length ≤ 1048576) (hb : b.length ≤ 1048576) : Ret E n_spec_l05Part [dL a, dL b] ⟨o_spec_l05Part, (pb (Part a b), ())⟩ := by
  refine ret_of ?_
  simp only [run_spec_l05Part, spec_l05Part.ev]
  refine Ev.start (p := fun φ n => spec_l05Part.l0 (mkR (run E (φ 0))) (φ 0) n a b 0 = _) 1 ?_ (fun _ _ _ h => h)
  refine (all_pb 1 (L := fun φ n k => spec_l05Part.l0 (mkR (run E (φ 0))) (φ 0) n a b k) (len := a.length) 0 (by omega) (fun j => a.getD j 0 ∈ b) (fun b => some ⟨o_spec_l05Part, (b, ())⟩) (fun _ _ _ _ => rfl) (fun k h1 h2 hP _ => ?_) (fun k r h1 h2 hP _ ih => ?_) (fun _ => ?_)).to ?_
  · simp only [spec_l05Part.l0_succ _ mk_ok]
    rw [getD_lt h2] at hP
    exact ev_t (decide_eq_true (by omega)) (ev_bind (idx_lt h2) (ev_call (l00Has_ret b _ hb) (ev_t (by rw [pb_false hP]; rfl) ev_rfl)))
  · simp only [spec_l05Part.l0_succ _ mk_ok]
    rw [getD_lt h2] at hP
    refine ev_t (decide_eq_true (by omega)) (ev_bind (idx_lt h2) (ev_call (l00Has_ret b _ hb) (ev_f (by rw [pb_true hP]; rfl) ?_)))
    rw [w64_succ (by omega)]; exact ih
  · simp only [spec_l05Part.l0_succ _ mk_ok]
    exact ev_f (decide_eq_false (by omega)) ev_rfl
  · refine congrArg (fun b : Bool => some (⟨o_spec_l05Part, (b, ())⟩ : Dv)) (pb_congr ⟨fun h x hx => ?_, fun h j _ hj => by rw [getD_lt hj]; exact h _ (List.getElem_mem hj)⟩)
    obtain ⟨j, hj, rfl⟩ := List.mem_iff_getElem.1 hx
    have := h j (by omega) hj
    rwa [getD_lt hj] at this

open Classical in
/-- the star's indices below k -/
noncomputable def star (c : List Sim) (s : Sim) : Nat → List Int
  | 0 => []
  | k + 1 => star c s k ++ if Part s (c.getD k []) then [(k : Int)] else []

theorem star_length {c : List Sim} {s : Sim} : ∀ {k : Nat}, (star c s k).length ≤ k
  | 0 => by simp [star]
  | k + 1 => by
    have := star_length (c := c) (s := s) (k := k)
    rw [star, List.length_append]; split <;> simp <;> omega

theorem starOf_ret (c : List Sim) (k : Nat) (hk : k < c.length) (hc : Sm (.sl (.sl (.int .i64))) c) : Ret E n_impl_starOf [dLL c, dI (k : Int)] ⟨o_impl_starOf, (star c c[k] c.length, ())⟩ := by
  have hc1 : c.length ≤ 1048576 := hc.1
  refine ret_of ?_
  simp only [run_impl_starOf, impl_starOf.ev]
  refine Ev.start (p := fun φ n => impl_starOf.l0 (mkR (run E (φ 0))) (φ 0) n (k : Int) c (c.length : Int) 0 c [] = _) 1 ?_ (fun _ _ _ h => h)
  refine fold_loop 1 (L := fun φ n j a => impl_starOf.l0 (mkR (run E (φ 0))) (φ 0) n (k : Int) c (c.length : Int) j c a) (len := c.length) (fun j => star c c[k] j) (fun _ _ _ _ _ => rfl) (fun j r hj ih => ?_) ?_
  · simp only [impl_starOf.l0_succ _ mk_ok]
    have hl := star_length (c := c) (s := c[k]) (k := j)
    rw [star, getD_lt hj] at ih
    rw [w64_succ (by omega)]
    refine ev_t (decide_eq_true (by omega)) (ev_bind (idx_lt hj) (ev_bind (idx_lt hk) (ev_call (isFace_ret _ _ (sm_get hc hk).1 (sm_get hc hj).1) (ev_b (fun h => ev_chk (decide_eq_true (by simp only [List.length_cons, List.length_nil]; omega)) ?_) fun h => ?_))))
    · rw [if_pos (pb_iff.1 h)] at ih; exact ih
    · rw [if_neg (pb_not.1 h), List.append_nil] at ih; exact ih
  · simp only [impl_starOf.l0_succ _ mk_ok]
    exact ev_f (decide_eq_false (by omega)) ev_rfl

theorem l05Star_ret (c : Cpx) (s : Sim) (hs : s.length ≤ 1048576) (hc : Sm (.sl (.sl (.int .i64))) c.1) : Ret E n_spec_l05Star [dC c, dL s] ⟨o_spec_l05Star, (star c.1 s c.1.length, ())⟩ := by
  have hc1 : c.1.length ≤ 1048576 := hc.1
  refine ret_of ?_
  simp only [run_spec_l05Star, spec_l05Star.ev]
  refine Ev.start (p := fun φ n => spec_l05Star.l0 (mkR (run E (φ 0))) (φ 0) n c s 0 [] = _) 1 ?_ (fun _ _ _ h => h)
  refine fold_loop 1 (L := fun φ n j a => spec_l05Star.l0 (mkR (run E (φ 0))) (φ 0) n c s j a) (len := c.1.length) (fun j => star c.1 s j) (fun _ _ _ _ _ => rfl) (fun j r hj ih => ?_) ?_
  · simp only [spec_l05Star.l0_succ _ mk_ok]
    have hl := star_length (c := c.1) (s := s) (k := j)
    rw [star, getD_lt hj] at ih
    rw [w64_succ (by omega)]
    refine ev_t (decide_eq_true (by omega)) (ev_bind (idx_lt hj) (ev_call (l05Part_ret _ _ hs (sm_get hc hj).1) (ev_b (fun h => ev_chk (decide_eq_true (by simp only [List.length_cons, List.length_nil]; omega)) ?_) fun h => ?_)))
    · rw [if_pos (pb_iff.1 h)] at ih; exact ih
    · rw [if_neg (pb_not.1 h), List.append_nil] at ih; exact ih
  · simp only [spec_l05Star.l0_succ _ mk_ok]
    exact ev_f (decide_eq_false (by omega)) ev_rfl

/-- the free pairs below k -/
noncomputable def frees (c : List Sim) : Nat → List Sim
  | 0 => []
  | k + 1 => frees c k ++ if (star c (c.getD k []) c.length).length = 2 then [[(k : Int), (star c (c.getD k []) c.length).getD 1 0]] else []

theorem frees_length {c : List Sim} : ∀ {k : Nat}, (frees c k).length ≤ k
  | 0 => by simp [frees]
  | k + 1 => by
    have := frees_length (c := c) (k := k)
    rw [frees, List.length_append]; split <;> simp <;> omega

theorem frees_mem {c : List Sim} : ∀ {k : Nat} {x : Sim}, x ∈ frees c k → x.length = 2
  | 0, x, h => by simp [frees] at h
  | k + 1, x, h => by
    rw [frees, List.mem_append] at h
    rcases h with h | h
    · exact frees_mem h
    · split at h
      · rw [List.mem_singleton] at h; rw [h]; rfl
      · simp at h

theorem freePairs_ret (c : List Sim) (hc : Sm (.sl (.sl (.int .i64))) c) : Ret E n_impl_freePairs [dLL c] ⟨o_impl_freePairs, (frees c c.length, ())⟩ := by
  have hc1 : c.length ≤ 1048576 := hc.1
  refine ret_of ?_
  simp only [run_impl_freePairs, impl_freePairs.ev]
  refine ev_call (sizeL_ret _) ?_
  refine Ev.start (p := fun φ n => impl_freePairs.l0 (mkR (run E (φ 0))) (φ 0) n (c.length : Int) 0 c [] = _) 1 ?_ (fun _ _ _ h => h)
  refine fold_loop 1 (L := fun φ n j a => impl_freePairs.l0 (mkR (run E (φ 0))) (φ 0) n (c.length : Int) j c a) (len := c.length) (fun j => frees c j) (fun _ _ _ _ _ => rfl) (fun j r hj ih => ?_) ?_
  · simp only [impl_freePairs.l0_succ _ mk_ok]
    have hl := frees_length (c := c) (k := j)
    rw [frees, getD_lt hj] at ih
    rw [w64_succ (by omega)]
    refine ev_t (decide_eq_true (by omega)) (ev_call (starOf_ret c j hj hc) (ev_b (fun h => ?_) fun h => ?_))
    · have h : (star c c[j] c.length).length = 2 := by have : ((star c c[j] c.length).length : Int) = 2 := by simpa using h
                                                       omega
      have h1 : 1 < (star c c[j] c.length).length := by omega
      rw [if_pos h, getD_lt h1] at ih
      exact ev_bind (idx_lt (k := 1) h1) (ev_chk (decide_eq_true (by simp only [List.length_cons, List.length_nil]; omega)) ih)
    · rw [if_neg (fun e => by simp [e] at h), List.append_nil] at ih; exact ih
  · simp only [impl_freePairs.l0_succ _ mk_ok]
    exact ev_f (decide_eq_false (by omega)) ev_rfl

theorem l08Free_ret (c : Cpx) (hc : Sm (.sl (.sl (.int .i64))) c.1) : Ret E n_spec_l08Free [dC c] ⟨o_spec_l08Free, (frees c.1 c.1.length, ())⟩ := by
  have hc1 : c.1.length ≤ 1048576 := hc.1
  refine ret_of ?_
  simp only [run_spec_l08Free, spec_l08Free.ev]
  refine Ev.start (p := fun φ n => spec_l08Free.l0 (mkR (run E (φ 0))) (φ 0) n c 0 [] = _) 1 ?_ (fun _ _ _ h => h)
  refine fold_loop 1 (L := fun φ n j a => spec_l08Free.l0 (mkR (run E (φ 0))) (φ 0) n c j a) (len := c.1.length) (fun j => frees c.1 j) (fun _ _ _ _ _ => rfl) (fun j r hj ih => ?_) ?_
  · simp only [spec_l08Free.l0_succ _ mk_ok]
    have hl := frees_length (c := c.1) (k := j)
    rw [frees, getD_lt hj] at ih
    rw [w64_succ (by omega)]
    refine ev_t (decide_eq_true (by omega)) (ev_bind (idx_lt hj) (ev_call (l05Star_ret c _ (sm_get hc hj).1 hc) (ev_b (fun h => ?_) fun h => ?_)))
    · have h : (star c.1 c.1[j] c.1.length).length = 2 := by have : ((star c.1 c.1[j] c.1.length).length : Int) = 2 := by simpa using h
                                                             omega
      have h1 : 1 < (star c.1 c.1[j] c.1.length).length := by omega
      rw [if_pos h, getD_lt h1] at ih
      exact ev_bind (idx_lt (k := 1) h1) (ev_chk (decide_eq_true (by simp only [List.length_cons, List.length_nil]; omega)) ih)
    · rw [if_neg (fun e => by simp [e] at h), List.append_nil] at ih; exact ih
  · simp only [spec_l08Free.l0_succ _ mk_ok]
    exact ev_f (decide_eq_false (by omega)) ev_rfl

open Classical in
noncomputable def FreeV (c : List Sim) : List Sim × Int × Unit := if VC c then (frees c c.length, 0, ()) else ([], 1, ())

theorem implFree_ret (c : List Sim) (hc : Sm (.sl (.sl (.int .i64))) c) : Ret E n_impl_FreePairs [dLL c] ⟨o_impl_FreePairs, FreeV c⟩ := by
  refine ret_of ?_
  simp only [run_impl_FreePairs, impl_FreePairs.ev]
  refine ev_call (ValidComplex_ret c hc) (ev_b (fun h => ev_some ?_) fun h => ev_call (freePairs_ret c hc) (ev_some ?_))
  · rw [FreeV, if_neg (pb_not.1 (show pb (VC c) = false by simpa using h))]
  · rw [FreeV, if_pos (pb_iff.1 (show pb (VC c) = true by simpa using h))]

theorem specFree_ret (c : List Sim) (hc : Sm (.sl (.sl (.int .i64))) c) : Ret E n_spec_FreePairs [dLL c] ⟨o_spec_FreePairs, FreeV c⟩ := by
  refine ret_of ?_
  simp only [run_spec_FreePairs, spec_FreePairs.ev]
  refine ev_call (l05Ok_ret (c, ()) hc) (ev_b (fun h => ev_some ?_) fun h => ev_call (l08Free_ret (c, ()) hc) (ev_some ?_))
  · rw [FreeV, if_neg (pb_not.1 (show pb (VC c) = false by simpa using h))]
  · rw [FreeV, if_pos (pb_iff.1 (show pb (VC c) = true by simpa using h))]

end VeT
