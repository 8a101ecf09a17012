import Derived.Test.YtmedfcilbiogmaaGreatV2
import Derived.Test.YtmedfcilbiogmaaGreatProg
import Derived.KernelRfl
set_option linter.unusedVariables false
set_option linter.unusedSimpArgs false
open Go Go.Proofs Ve
set_option linter.unusedVariables false
set_option maxRecDepth 100000
namespace VeT
abbrev yM : Ty := .cons (.int .i64) (.cons (.int .i64) (.cons (.int .i64) (.cons (.sl (.int .i64)) .nil)))
abbrev yI : Ty := .int .i64
abbrev yL : Ty := .sl yI
abbrev yK : Ty := .sl yL
abbrev yN : Ty := .sl (.st yM)
abbrev yS : Ty := .cons yK (.cons yI (.cons yL (.cons yN .nil)))
abbrev vM := Int × Int × Int × List Int × Unit
abbrev vK := List (List Int)
abbrev vN := List vM
abbrev vS := vK × Int × List Int × vN × Unit
noncomputable def bodyOf (f:Func):Code := f.body.getD .skip
def zd:Nat → List Ve.V → List Ve.V
  | 0,t => t
  | n + 1,t => V.dead::zd n t
def zo:Nat → List (Option Ve.Obj) → List (Option Ve.Obj)
  | 0,t => t
  | n + 1,t => none::zo n t
@[reducible] def n_laws_FnExactExtendSection:Nat := 11
@[reducible] def n_laws_szSheaf:Nat := 15
@[reducible] def n_laws_toSheaf:Nat := 17
@[reducible] def n_laws_toInt64S:Nat := 18
@[reducible] def n_laws_eqInt64S:Nat := 20
@[reducible] def n_laws_eqSheaf:Nat := 21
@[reducible] def n_laws_markSheaf:Nat := 22
@[reducible] def n_laws_markInt64S:Nat := 23
@[reducible] def n_laws_heldInt64S:Nat := 24
@[reducible] def n_laws_eqInt64SS:Nat := 27
@[reducible] def n_laws_markInt64SS:Nat := 28
@[reducible] def n_spec_ExtendSection:Nat := 42
@[reducible] def n_impl_ExtendSection:Nat := 43
@[reducible] def n_laws_szComplex:Nat := 48
@[reducible] def n_laws_toComplex:Nat := 50
@[reducible] def n_laws_eqComplex:Nat := 52
@[reducible] def n_laws_markComplex:Nat := 53
@[reducible] def n_laws_szInt64S:Nat := 54
@[reducible] def n_laws_szMatrixS:Nat := 55
@[reducible] def n_spec_l09Is:Nat := 56
@[reducible] def n_spec_l10Places:Nat := 57
@[reducible] def n_laws_toMatrixS:Nat := 60
@[reducible] def n_impl_placed:Nat := 61
@[reducible] def n_laws_eqMatrixS:Nat := 64
@[reducible] def n_laws_markMatrixS:Nat := 65
@[reducible] def n_impl_coboundaryMatrix:Nat := 71
@[reducible] def n_spec_l10All:Nat := 73
@[reducible] def n_spec_l10Conditions:Nat := 74
@[reducible] def n_impl_IsSheaf:Nat := 75
@[reducible] def n_impl_addTimes:Nat := 83
@[reducible] def n_spec_l10Many:Nat := 86
@[reducible] def n_spec_l09Restrict:Nat := 88
@[reducible] def n_spec_l03Unit:Nat := 89
@[reducible] def n_spec_l10Rows:Nat := 90
@[reducible] def n_spec_l10Sum:Nat := 91
@[reducible] def n_impl_offsets:Nat := 92
@[reducible] def n_impl_rowsOf:Nat := 94
@[reducible] def n_impl_restriction:Nat := 95
@[reducible] def n_impl_matrixOf:Nat := 96
@[reducible] def n_spec_l10Ask:Nat := 97
@[reducible] def n_spec_l10Given:Nat := 98
@[reducible] def n_spec_l04Rows:Nat := 99
@[reducible] def n_spec_l03Solve:Nat := 100
@[reducible] def n_spec_l00Own:Nat := 101
@[reducible] def n_impl_localized:Nat := 102
@[reducible] def n_impl_solve:Nat := 103
@[reducible] def n_impl_conditions:Nat := 104
@[reducible] def n_slices_Concat_Sint64_int64:Nat := 105
@[reducible] def n_impl_stalkSum:Nat := 106
@[reducible] def n_spec_l00In:Nat := 107
@[reducible] def n_spec_l05Of:Nat := 108
@[reducible] def n_impl_size_int64:Nat := 111
@[reducible] def n_laws_szInt64SS:Nat := 118
@[reducible] def n_laws_toInt64SS:Nat := 121
@[reducible] def n_laws_szMatrix:Nat := 124
@[reducible] def n_spec_l09Ok:Nat := 125
@[reducible] def n_spec_l09Wrong:Nat := 126
@[reducible] def n_spec_l00Rises:Nat := 127
@[reducible] def n_spec_l10First:Nat := 130
@[reducible] def n_spec_l10Start:Nat := 131
@[reducible] def n_laws_toMatrix:Nat := 133
@[reducible] def n_impl_arePlaces:Nat := 134
@[reducible] def n_impl_isVector:Nat := 135
@[reducible] def n_laws_eqMatrix:Nat := 139
@[reducible] def n_spec_l03Zero:Nat := 141
@[reducible] def n_spec_l09Sum:Nat := 142
@[reducible] def n_spec_l05Faces:Nat := 143
@[reducible] def n_spec_l09Get:Nat := 145
@[reducible] def n_spec_l03Reduced:Nat := 147
@[reducible] def n_spec_l00Has:Nat := 148
@[reducible] def n_spec_l03Mod:Nat := 149
@[reducible] def n_impl_eliminate:Nat := 151
@[reducible] def n_slices_Contains_Sint64_int64:Nat := 152
@[reducible] def n_impl_reduce:Nat := 153
@[reducible] def n_impl_zero:Nat := 154
@[reducible] def n_impl_simplicesOf:Nat := 155
@[reducible] def n_impl_faceIndices:Nat := 156
@[reducible] def n_impl_direct:Nat := 157
@[reducible] def n_impl_firstColumn:Nat := 158
@[reducible] def n_impl_Matrix_at:Nat := 159
@[reducible] def n_impl_alternating:Nat := 160
@[reducible] def n_impl_ValidSheaf:Nat := 161
@[reducible] def n_impl_wrongSquare:Nat := 162
@[reducible] def n_spec_l03Column:Nat := 163
@[reducible] def n_impl_size_Sint64:Nat := 165
@[reducible] def n_spec_l03Times:Nat := 166
@[reducible] def n_spec_l02Add:Nat := 167
@[reducible] def n_slices_ContainsFunc_Sint64_int64:Nat := 168
@[reducible] def n_slices_Clone_Sint64_int64:Nat := 170
@[reducible] def n_impl_Matrix_row:Nat := 171
@[reducible] def n_impl_unit:Nat := 172
@[reducible] def n_slices_IndexFunc_Sint64_int64:Nat := 173
@[reducible] def n_impl_restriction_1:Nat := 174
@[reducible] def n_impl_product:Nat := 175
@[reducible] def n_spec_l10Data:Nat := 176
@[reducible] def n_spec_l03Join:Nat := 177
@[reducible] def n_impl_firstVertex:Nat := 178
@[reducible] def n_slices_Grow_Sint64_int64:Nat := 179
@[reducible] def n_impl_within:Nat := 180
@[reducible] def n_spec_l05Ok:Nat := 184
@[reducible] def n_spec_ValidPrime:Nat := 185
@[reducible] def n_impl_ValidComplex:Nat := 187
@[reducible] def n_impl_ValidPrime:Nat := 188
@[reducible] def n_spec_l09Stalks:Nat := 191
@[reducible] def n_spec_l09Count:Nat := 192
@[reducible] def n_spec_l09Map:Nat := 193
@[reducible] def n_spec_l09Place:Nat := 194
@[reducible] def n_spec_l09Two:Nat := 195
@[reducible] def n_spec_l03Same:Nat := 196
@[reducible] def n_spec_l05Find:Nat := 198
@[reducible] def n_impl_isRising:Nat := 199
@[reducible] def n_impl_areElements:Nat := 200
@[reducible] def n_impl_dot:Nat := 202
@[reducible] def n_spec_l05Drop:Nat := 204
@[reducible] def n_spec_l03Inverse:Nat := 205
@[reducible] def n_slices_IndexFunc_SSint64_Sint64:Nat := 206
@[reducible] def n_impl_eliminate_1:Nat := 207
@[reducible] def n_impl_inverseOf:Nat := 208
@[reducible] def n_slices_Index_Sint64_int64:Nat := 209
@[reducible] def n_impl_filled:Nat := 210
@[reducible] def n_impl_zero_1:Nat := 211
@[reducible] def n_impl_facesOf:Nat := 212
@[reducible] def n_impl_indexOf:Nat := 213
@[reducible] def n_impl_firstMap:Nat := 214
@[reducible] def n_impl_areStalks:Nat := 215
@[reducible] def n_impl_arrows:Nat := 216
@[reducible] def n_impl_isBetween:Nat := 217
@[reducible] def n_impl_SameMatrix:Nat := 218
@[reducible] def n_impl_unit_1:Nat := 219
@[reducible] def n_impl_columnsOf:Nat := 220
@[reducible] def n_impl_product_1:Nat := 221
@[reducible] def n_spec_l05Simplex:Nat := 227
@[reducible] def n_spec_l05Before:Nat := 228
@[reducible] def n_spec_l02Prime:Nat := 229
@[reducible] def n_impl_ValidSimplex:Nat := 230
@[reducible] def n_impl_compareSimplices:Nat := 231
@[reducible] def n_slices_ContainsFunc_SSint64_Sint64:Nat := 232
@[reducible] def n_impl_ValidComplex_1:Nat := 233
@[reducible] def n_spec_l03Ok:Nat := 234
@[reducible] def n_spec_l00Same:Nat := 235
@[reducible] def n_impl_areElements_1:Nat := 236
@[reducible] def n_impl_isElement:Nat := 237
@[reducible] def n_impl_powerOf:Nat := 238
@[reducible] def n_slices_BinarySearchFunc_SSint64_Sint64_Sint64:Nat := 239
@[reducible] def n_impl_areStalks_1:Nat := 240
@[reducible] def n_impl_ValidMatrix:Nat := 241
@[reducible] def n_slices_Equal_Sint64_int64:Nat := 242
@[reducible] def n_impl_transpose:Nat := 243
@[reducible] def n_impl_ValidSimplex_1:Nat := 245
@[reducible] def n_impl_isVertex:Nat := 246
@[reducible] def n_cmp_Or_int:Nat := 247
@[reducible] def n_cmp_Compare_int:Nat := 248
@[reducible] def n_slices_Compare_Sint64_int64:Nat := 249
@[reducible] def n_impl_isSide:Nat := 250
@[reducible] def n_impl_transpose_1:Nat := 251
@[reducible] def n_cmp_isNaN_int:Nat := 253
@[reducible] def n_cmp_Compare_int64:Nat := 254
@[reducible] def n_cmp_isNaN_int64:Nat := 256
@[reducible] noncomputable def F_laws_FnExactExtendSection:Func := Tryz.f11
@[reducible] noncomputable def F_laws_szSheaf:Func := Tryz.f15
@[reducible] noncomputable def F_laws_toSheaf:Func := Tryz.f17
@[reducible] noncomputable def F_laws_toInt64S:Func := Tryz.f18
@[reducible] noncomputable def F_laws_eqInt64S:Func := Tryz.f20
@[reducible] noncomputable def F_laws_eqSheaf:Func := Tryz.f21
@[reducible] noncomputable def F_laws_markSheaf:Func := Tryz.f22
@[reducible] noncomputable def F_laws_markInt64S:Func := Tryz.f23
@[reducible] noncomputable def F_laws_heldInt64S:Func := Tryz.f24
@[reducible] noncomputable def F_laws_eqInt64SS:Func := Tryz.f27
@[reducible] noncomputable def F_laws_markInt64SS:Func := Tryz.f28
@[reducible] noncomputable def F_spec_ExtendSection:Func := Tryz.f42
@[reducible] noncomputable def F_impl_ExtendSection:Func := Tryz.f43
@[reducible] noncomputable def F_laws_szComplex:Func := Tryz.f48
@[reducible] noncomputable def F_laws_toComplex:Func := Tryz.f50
@[reducible] noncomputable def F_laws_eqComplex:Func := Tryz.f52
@[reducible] noncomputable def F_laws_markComplex:Func := Tryz.f53
@[reducible] noncomputable def F_laws_szInt64S:Func := Tryz.f54
@[reducible] noncomputable def F_laws_szMatrixS:Func := Tryz.f55
@[reducible] noncomputable def F_spec_l09Is:Func := Tryz.f56
@[reducible] noncomputable def F_spec_l10Places:Func := Tryz.f57
@[reducible] noncomputable def F_laws_toMatrixS:Func := Tryz.f60
@[reducible] noncomputable def F_impl_placed:Func := Tryz.f61
@[reducible] noncomputable def F_laws_eqMatrixS:Func := Tryz.f64
@[reducible] noncomputable def F_laws_markMatrixS:Func := Tryz.f65
@[reducible] noncomputable def F_impl_coboundaryMatrix:Func := Tryz.f71
@[reducible] noncomputable def F_spec_l10All:Func := Tryz.f73
@[reducible] noncomputable def F_spec_l10Conditions:Func := Tryz.f74
@[reducible] noncomputable def F_impl_IsSheaf:Func := Tryz.f75
@[reducible] noncomputable def F_impl_addTimes:Func := Tryz.f83
@[reducible] noncomputable def F_spec_l10Many:Func := Tryz.f86
@[reducible] noncomputable def F_spec_l09Restrict:Func := Tryz.f88
@[reducible] noncomputable def F_spec_l03Unit:Func := Tryz.f89
@[reducible] noncomputable def F_spec_l10Rows:Func := Tryz.f90
@[reducible] noncomputable def F_spec_l10Sum:Func := Tryz.f91
@[reducible] noncomputable def F_impl_offsets:Func := Tryz.f92
@[reducible] noncomputable def F_impl_rowsOf:Func := Tryz.f94
@[reducible] noncomputable def F_impl_restriction:Func := Tryz.f95
@[reducible] noncomputable def F_impl_matrixOf:Func := Tryz.f96
@[reducible] noncomputable def F_spec_l10Ask:Func := Tryz.f97
@[reducible] noncomputable def F_spec_l10Given:Func := Tryz.f98
@[reducible] noncomputable def F_spec_l04Rows:Func := Tryz.f99
@[reducible] noncomputable def F_spec_l03Solve:Func := Tryz.f100
@[reducible] noncomputable def F_spec_l00Own:Func := Tryz.f101
@[reducible] noncomputable def F_impl_localized:Func := Tryz.f102
@[reducible] noncomputable def F_impl_solve:Func := Tryz.f103
@[reducible] noncomputable def F_impl_conditions:Func := Tryz.f104
@[reducible] noncomputable def F_slices_Concat_Sint64_int64:Func := Tryz.f105
@[reducible] noncomputable def F_impl_stalkSum:Func := Tryz.f106
@[reducible] noncomputable def F_spec_l00In:Func := Tryz.f107
@[reducible] noncomputable def F_spec_l05Of:Func := Tryz.f108
@[reducible] noncomputable def F_impl_size_int64:Func := Tryz.f111
@[reducible] noncomputable def F_laws_szInt64SS:Func := Tryz.f118
@[reducible] noncomputable def F_laws_toInt64SS:Func := Tryz.f121
@[reducible] noncomputable def F_laws_szMatrix:Func := Tryz.f124
@[reducible] noncomputable def F_spec_l09Ok:Func := Tryz.f125
@[reducible] noncomputable def F_spec_l09Wrong:Func := Tryz.f126
@[reducible] noncomputable def F_spec_l00Rises:Func := Tryz.f127
@[reducible] noncomputable def F_spec_l10First:Func := Tryz.f130
@[reducible] noncomputable def F_spec_l10Start:Func := Tryz.f131
@[reducible] noncomputable def F_laws_toMatrix:Func := Tryz.f133
@[reducible] noncomputable def F_impl_arePlaces:Func := Tryz.f134
@[reducible] noncomputable def F_impl_isVector:Func := Tryz.f135
@[reducible] noncomputable def F_laws_eqMatrix:Func := Tryz.f139
@[reducible] noncomputable def F_spec_l03Zero:Func := Tryz.f141
@[reducible] noncomputable def F_spec_l09Sum:Func := Tryz.f142
@[reducible] noncomputable def F_spec_l05Faces:Func := Tryz.f143
@[reducible] noncomputable def F_spec_l09Get:Func := Tryz.f145
@[reducible] noncomputable def F_spec_l03Reduced:Func := Tryz.f147
@[reducible] noncomputable def F_spec_l00Has:Func := Tryz.f148
@[reducible] noncomputable def F_spec_l03Mod:Func := Tryz.f149
@[reducible] noncomputable def F_impl_eliminate:Func := Tryz.f151
@[reducible] noncomputable def F_slices_Contains_Sint64_int64:Func := Tryz.f152
@[reducible] noncomputable def F_impl_reduce:Func := Tryz.f153
@[reducible] noncomputable def F_impl_zero:Func := Tryz.f154
@[reducible] noncomputable def F_impl_simplicesOf:Func := Tryz.f155
@[reducible] noncomputable def F_impl_faceIndices:Func := Tryz.f156
@[reducible] noncomputable def F_impl_direct:Func := Tryz.f157
@[reducible] noncomputable def F_impl_firstColumn:Func := Tryz.f158
@[reducible] noncomputable def F_impl_Matrix_at:Func := Tryz.f159
@[reducible] noncomputable def F_impl_alternating:Func := Tryz.f160
@[reducible] noncomputable def F_impl_ValidSheaf:Func := Tryz.f161
@[reducible] noncomputable def F_impl_wrongSquare:Func := Tryz.f162
@[reducible] noncomputable def F_spec_l03Column:Func := Tryz.f163
@[reducible] noncomputable def F_impl_size_Sint64:Func := Tryz.f165
@[reducible] noncomputable def F_spec_l03Times:Func := Tryz.f166
@[reducible] noncomputable def F_spec_l02Add:Func := Tryz.f167
@[reducible] noncomputable def F_slices_ContainsFunc_Sint64_int64:Func := Tryz.f168
@[reducible] noncomputable def F_slices_Clone_Sint64_int64:Func := Tryz.f170
@[reducible] noncomputable def F_impl_Matrix_row:Func := Tryz.f171
@[reducible] noncomputable def F_impl_unit:Func := Tryz.f172
@[reducible] noncomputable def F_slices_IndexFunc_Sint64_int64:Func := Tryz.f173
@[reducible] noncomputable def F_impl_restriction_1:Func := Tryz.f174
@[reducible] noncomputable def F_impl_product:Func := Tryz.f175
@[reducible] noncomputable def F_spec_l10Data:Func := Tryz.f176
@[reducible] noncomputable def F_spec_l03Join:Func := Tryz.f177
@[reducible] noncomputable def F_impl_firstVertex:Func := Tryz.f178
@[reducible] noncomputable def F_slices_Grow_Sint64_int64:Func := Tryz.f179
@[reducible] noncomputable def F_impl_within:Func := Tryz.f180
@[reducible] noncomputable def F_spec_l05Ok:Func := Tryz.f184
@[reducible] noncomputable def F_spec_ValidPrime:Func := Tryz.f185
@[reducible] noncomputable def F_impl_ValidComplex:Func := Tryz.f187
@[reducible] noncomputable def F_impl_ValidPrime:Func := Tryz.f188
@[reducible] noncomputable def F_spec_l09Stalks:Func := Tryz.f191
@[reducible] noncomputable def F_spec_l09Count:Func := Tryz.f192
@[reducible] noncomputable def F_spec_l09Map:Func := Tryz.f193
@[reducible] noncomputable def F_spec_l09Place:Func := Tryz.f194
@[reducible] noncomputable def F_spec_l09Two:Func := Tryz.f195
@[reducible] noncomputable def F_spec_l03Same:Func := Tryz.f196
@[reducible] noncomputable def F_spec_l05Find:Func := Tryz.f198
@[reducible] noncomputable def F_impl_isRising:Func := Tryz.f199
@[reducible] noncomputable def F_impl_areElements:Func := Tryz.f200
@[reducible] noncomputable def F_impl_dot:Func := Tryz.f202
@[reducible] noncomputable def F_spec_l05Drop:Func := Tryz.f204
@[reducible] noncomputable def F_spec_l03Inverse:Func := Tryz.f205
@[reducible] noncomputable def F_slices_IndexFunc_SSint64_Sint64:Func := Tryz.f206
@[reducible] noncomputable def F_impl_eliminate_1:Func := Tryz.f207
@[reducible] noncomputable def F_impl_inverseOf:Func := Tryz.f208
@[reducible] noncomputable def F_slices_Index_Sint64_int64:Func := Tryz.f209
@[reducible] noncomputable def F_impl_filled:Func := Tryz.f210
@[reducible] noncomputable def F_impl_zero_1:Func := Tryz.f211
@[reducible] noncomputable def F_impl_facesOf:Func := Tryz.f212
@[reducible] noncomputable def F_impl_indexOf:Func := Tryz.f213
@[reducible] noncomputable def F_impl_firstMap:Func := Tryz.f214
@[reducible] noncomputable def F_impl_areStalks:Func := Tryz.f215
@[reducible] noncomputable def F_impl_arrows:Func := Tryz.f216
@[reducible] noncomputable def F_impl_isBetween:Func := Tryz.f217
@[reducible] noncomputable def F_impl_SameMatrix:Func := Tryz.f218
@[reducible] noncomputable def F_impl_unit_1:Func := Tryz.f219
@[reducible] noncomputable def F_impl_columnsOf:Func := Tryz.f220
@[reducible] noncomputable def F_impl_product_1:Func := Tryz.f221
@[reducible] noncomputable def F_spec_l05Simplex:Func := Tryz.f227
@[reducible] noncomputable def F_spec_l05Before:Func := Tryz.f228
@[reducible] noncomputable def F_spec_l02Prime:Func := Tryz.f229
@[reducible] noncomputable def F_impl_ValidSimplex:Func := Tryz.f230
@[reducible] noncomputable def F_impl_compareSimplices:Func := Tryz.f231
@[reducible] noncomputable def F_slices_ContainsFunc_SSint64_Sint64:Func := Tryz.f232
@[reducible] noncomputable def F_impl_ValidComplex_1:Func := Tryz.f233
@[reducible] noncomputable def F_spec_l03Ok:Func := Tryz.f234
@[reducible] noncomputable def F_spec_l00Same:Func := Tryz.f235
@[reducible] noncomputable def F_impl_areElements_1:Func := Tryz.f236
@[reducible] noncomputable def F_impl_isElement:Func := Tryz.f237
@[reducible] noncomputable def F_impl_powerOf:Func := Tryz.f238
@[reducible] noncomputable def F_slices_BinarySearchFunc_SSint64_Sint64_Sint64:Func := Tryz.f239
@[reducible] noncomputable def F_impl_areStalks_1:Func := Tryz.f240
@[reducible] noncomputable def F_impl_ValidMatrix:Func := Tryz.f241
@[reducible] noncomputable def F_slices_Equal_Sint64_int64:Func := Tryz.f242
@[reducible] noncomputable def F_impl_transpose:Func := Tryz.f243
@[reducible] noncomputable def F_impl_ValidSimplex_1:Func := Tryz.f245
@[reducible] noncomputable def F_impl_isVertex:Func := Tryz.f246
@[reducible] noncomputable def F_cmp_Or_int:Func := Tryz.f247
@[reducible] noncomputable def F_cmp_Compare_int:Func := Tryz.f248
@[reducible] noncomputable def F_slices_Compare_Sint64_int64:Func := Tryz.f249
@[reducible] noncomputable def F_impl_isSide:Func := Tryz.f250
@[reducible] noncomputable def F_impl_transpose_1:Func := Tryz.f251
@[reducible] noncomputable def F_cmp_isNaN_int:Func := Tryz.f253
@[reducible] noncomputable def F_cmp_Compare_int64:Func := Tryz.f254
@[reducible] noncomputable def F_cmp_isNaN_int64:Func := Tryz.f256
@[reducible] def o_laws_FnExactExtendSection:Ty := (.cons .bool .nil)
noncomputable def sg_laws_FnExactExtendSection:Sig := ⟨[(true,4),(false,1),(false,1)],[],o_laws_FnExactExtendSection,[(false,1)],[],[]⟩
@[reducible] def o_laws_szSheaf:Ty := (.cons yI .nil)
noncomputable def sg_laws_szSheaf:Sig := ⟨[(true,4),(false,1)],[],o_laws_szSheaf,[(false,1)],[],[]⟩
@[reducible] def o_laws_toSheaf:Ty := yS
noncomputable def sg_laws_toSheaf:Sig := ⟨[(true,4)],[],o_laws_toSheaf,[(true,4)],[.deep,.imm,.deep,.deep],[]⟩
@[reducible] def o_laws_toInt64S:Ty := (.cons yL .nil)
noncomputable def sg_laws_toInt64S:Sig := ⟨[(false,1)],[],o_laws_toInt64S,[(false,1)],[.deep],[]⟩
@[reducible] def o_laws_eqInt64S:Ty := (.cons .bool .nil)
noncomputable def sg_laws_eqInt64S:Sig := ⟨[(false,1),(false,1)],[],o_laws_eqInt64S,[(false,1)],[],[]⟩
@[reducible] def o_laws_eqSheaf:Ty := (.cons .bool .nil)
noncomputable def sg_laws_eqSheaf:Sig := ⟨[(true,4),(true,4)],[],o_laws_eqSheaf,[(false,1)],[],[]⟩
@[reducible] def o_laws_markSheaf:Ty := (.cons yI (.cons yK (.cons yL (.cons yN .nil))))
noncomputable def sg_laws_markSheaf:Sig := ⟨[(true,4),(false,1)],[.io true,.imm,.io true,.io true,.imm],o_laws_markSheaf,[(false,1)],[],[]⟩
@[reducible] def o_laws_markInt64S:Ty := (.cons yI (.cons yL .nil))
noncomputable def sg_laws_markInt64S:Sig := ⟨[(false,1),(false,1)],[.io true,.imm],o_laws_markInt64S,[(false,1)],[],[]⟩
@[reducible] def o_laws_heldInt64S:Ty := (.cons yI .nil)
noncomputable def sg_laws_heldInt64S:Sig := ⟨[(false,1),(false,1)],[],o_laws_heldInt64S,[(false,1)],[],[]⟩
@[reducible] def o_laws_eqInt64SS:Ty := (.cons .bool .nil)
noncomputable def sg_laws_eqInt64SS:Sig := ⟨[(false,1),(false,1)],[],o_laws_eqInt64SS,[(false,1)],[],[]⟩
@[reducible] def o_laws_markInt64SS:Ty := (.cons yI (.cons yK .nil))
noncomputable def sg_laws_markInt64SS:Sig := ⟨[(false,1),(false,1)],[.io true,.imm],o_laws_markInt64SS,[(false,1)],[],[]⟩
@[reducible] def o_spec_ExtendSection:Ty := (.cons yL (.cons yI .nil))
noncomputable def sg_spec_ExtendSection:Sig := ⟨[(true,4),(false,1),(false,1)],[],o_spec_ExtendSection,[(false,1),(false,1)],[.deep,.imm],[]⟩
@[reducible] def o_impl_ExtendSection:Ty := (.cons yL (.cons yI .nil))
noncomputable def sg_impl_ExtendSection:Sig := ⟨[(true,4),(false,1),(false,1)],[],o_impl_ExtendSection,[(false,1),(false,1)],[.deep,.imm],[]⟩
@[reducible] def o_laws_szComplex:Ty := (.cons yI .nil)
noncomputable def sg_laws_szComplex:Sig := ⟨[(true,1),(false,1)],[],o_laws_szComplex,[(false,1)],[],[]⟩
@[reducible] def o_laws_toComplex:Ty := (.cons yK .nil)
noncomputable def sg_laws_toComplex:Sig := ⟨[(true,1)],[],o_laws_toComplex,[(true,1)],[.deep],[]⟩
@[reducible] def o_laws_eqComplex:Ty := (.cons .bool .nil)
noncomputable def sg_laws_eqComplex:Sig := ⟨[(true,1),(true,1)],[],o_laws_eqComplex,[(false,1)],[],[]⟩
@[reducible] def o_laws_markComplex:Ty := (.cons yI (.cons yK .nil))
noncomputable def sg_laws_markComplex:Sig := ⟨[(true,1),(false,1)],[.io true,.imm],o_laws_markComplex,[(false,1)],[],[]⟩
@[reducible] def o_laws_szInt64S:Ty := (.cons yI .nil)
noncomputable def sg_laws_szInt64S:Sig := ⟨[(false,1),(false,1)],[],o_laws_szInt64S,[(false,1)],[],[]⟩
@[reducible] def o_laws_szMatrixS:Ty := (.cons yI .nil)
noncomputable def sg_laws_szMatrixS:Sig := ⟨[(false,1),(false,1)],[],o_laws_szMatrixS,[(false,1)],[],[]⟩
@[reducible] def o_spec_l09Is:Ty := (.cons .bool .nil)
noncomputable def sg_spec_l09Is:Sig := ⟨[(false,1)],[],o_spec_l09Is,[(false,1)],[],[(.ptr yS)]⟩
@[reducible] def o_spec_l10Places:Ty := (.cons .bool .nil)
noncomputable def sg_spec_l10Places:Sig := ⟨[(false,1),(false,1)],[],o_spec_l10Places,[(false,1)],[],[(.ptr yS)]⟩
@[reducible] def o_laws_toMatrixS:Ty := (.cons yN .nil)
noncomputable def sg_laws_toMatrixS:Sig := ⟨[(false,1)],[],o_laws_toMatrixS,[(false,1)],[.deep],[]⟩
@[reducible] def o_impl_placed:Ty := (.cons yI .nil)
noncomputable def sg_impl_placed:Sig := ⟨[(true,4),(false,1)],[],o_impl_placed,[(false,1)],[],[]⟩
@[reducible] def o_laws_eqMatrixS:Ty := (.cons .bool .nil)
noncomputable def sg_laws_eqMatrixS:Sig := ⟨[(false,1),(false,1)],[],o_laws_eqMatrixS,[(false,1)],[],[]⟩
@[reducible] def o_laws_markMatrixS:Ty := (.cons yI (.cons yN .nil))
noncomputable def sg_laws_markMatrixS:Sig := ⟨[(false,1),(false,1)],[.io true,.imm],o_laws_markMatrixS,[(false,1)],[],[]⟩
@[reducible] def o_impl_coboundaryMatrix:Ty := yM
noncomputable def sg_impl_coboundaryMatrix:Sig := ⟨[(true,4),(false,1)],[],o_impl_coboundaryMatrix,[(true,4)],[.imm,.imm,.imm,.deep],[]⟩
@[reducible] def o_spec_l10All:Ty := (.cons yI .nil)
noncomputable def sg_spec_l10All:Sig := ⟨[(false,1)],[],o_spec_l10All,[(false,1)],[],[(.ptr yS)]⟩
@[reducible] def o_spec_l10Conditions:Ty := (.cons yK .nil)
noncomputable def sg_spec_l10Conditions:Sig := ⟨[(false,1)],[],o_spec_l10Conditions,[(false,1)],[.deep],[(.ptr yS)]⟩
@[reducible] def o_impl_IsSheaf:Ty := (.cons .bool .nil)
noncomputable def sg_impl_IsSheaf:Sig := ⟨[(true,4)],[],o_impl_IsSheaf,[(false,1)],[],[]⟩
@[reducible] def o_impl_addTimes:Ty := (.cons yL .nil)
noncomputable def sg_impl_addTimes:Sig := ⟨[(false,1),(false,1),(false,1),(false,1)],[],o_impl_addTimes,[(false,1)],[.deep],[]⟩
@[reducible] def o_spec_l10Many:Ty := (.cons yI .nil)
noncomputable def sg_spec_l10Many:Sig := ⟨[(false,1),(false,1)],[],o_spec_l10Many,[(false,1)],[],[(.ptr yS)]⟩
@[reducible] def o_spec_l09Restrict:Ty := yM
noncomputable def sg_spec_l09Restrict:Sig := ⟨[(false,1),(false,1),(false,1)],[],o_spec_l09Restrict,[(true,4)],[.imm,.imm,.imm,.deep],[(.ptr yS)]⟩
@[reducible] def o_spec_l03Unit:Ty := yM
noncomputable def sg_spec_l03Unit:Sig := ⟨[(false,1),(false,1)],[],o_spec_l03Unit,[(true,4)],[.imm,.imm,.imm,.deep],[]⟩
@[reducible] def o_spec_l10Rows:Ty := (.cons yK .nil)
noncomputable def sg_spec_l10Rows:Sig := ⟨[(false,1),(false,1),(false,1),(false,1)],[],o_spec_l10Rows,[(false,1)],[.deep],[(.ptr yM)]⟩
@[reducible] def o_spec_l10Sum:Ty := (.cons yK .nil)
noncomputable def sg_spec_l10Sum:Sig := ⟨[(false,1),(false,1),(false,1)],[],o_spec_l10Sum,[(false,1)],[.deep],[]⟩
@[reducible] def o_impl_offsets:Ty := (.cons yL (.cons yI .nil))
noncomputable def sg_impl_offsets:Sig := ⟨[(true,4),(false,1)],[],o_impl_offsets,[(false,1),(false,1)],[.deep,.imm],[]⟩
@[reducible] def o_impl_rowsOf:Ty := (.cons yK .nil)
noncomputable def sg_impl_rowsOf:Sig := ⟨[(true,4)],[],o_impl_rowsOf,[(false,1)],[.deep],[]⟩
@[reducible] def o_impl_restriction:Ty := yM
noncomputable def sg_impl_restriction:Sig := ⟨[(true,4),(false,1),(false,1)],[],o_impl_restriction,[(true,4)],[.imm,.imm,.imm,.deep],[]⟩
@[reducible] def o_impl_matrixOf:Ty := yM
noncomputable def sg_impl_matrixOf:Sig := ⟨[(false,1),(false,1),(false,1)],[],o_impl_matrixOf,[(true,4)],[.imm,.imm,.imm,.deep],[]⟩
@[reducible] def o_spec_l10Ask:Ty := (.cons yI .nil)
noncomputable def sg_spec_l10Ask:Sig := ⟨[(false,1),(false,1),(false,1)],[],o_spec_l10Ask,[(false,1)],[],[(.ptr yS)]⟩
@[reducible] def o_spec_l10Given:Ty := (.cons yK .nil)
noncomputable def sg_spec_l10Given:Sig := ⟨[(false,1),(false,1)],[],o_spec_l10Given,[(false,1)],[.deep],[(.ptr yS)]⟩
@[reducible] def o_spec_l04Rows:Ty := yM
noncomputable def sg_spec_l04Rows:Sig := ⟨[(false,1),(false,1),(false,1)],[],o_spec_l04Rows,[(true,4)],[.imm,.imm,.imm,.deep],[]⟩
@[reducible] def o_spec_l03Solve:Ty := (.cons yL (.cons .bool .nil))
noncomputable def sg_spec_l03Solve:Sig := ⟨[(false,1),(false,1)],[],o_spec_l03Solve,[(false,1),(false,1)],[.deep,.imm],[(.ptr yM)]⟩
@[reducible] def o_spec_l00Own:Ty := (.cons yL .nil)
noncomputable def sg_spec_l00Own:Sig := ⟨[(false,1)],[],o_spec_l00Own,[(false,1)],[.deep],[]⟩
@[reducible] def o_impl_localized:Ty := (.cons yI .nil)
noncomputable def sg_impl_localized:Sig := ⟨[(true,4),(false,1),(false,1)],[],o_impl_localized,[(false,1)],[],[]⟩
@[reducible] def o_impl_solve:Ty := (.cons yL (.cons .bool .nil))
noncomputable def sg_impl_solve:Sig := ⟨[(true,4),(false,1)],[],o_impl_solve,[(false,1),(false,1)],[.deep,.imm],[]⟩
@[reducible] def o_impl_conditions:Ty := yM
noncomputable def sg_impl_conditions:Sig := ⟨[(true,4),(false,1)],[],o_impl_conditions,[(true,4)],[.imm,.imm,.imm,.deep],[]⟩
@[reducible] def o_slices_Concat_Sint64_int64:Ty := (.cons yL .nil)
noncomputable def sg_slices_Concat_Sint64_int64:Sig := ⟨[(false,1)],[],o_slices_Concat_Sint64_int64,[(false,1)],[.deep],[]⟩
@[reducible] def o_impl_stalkSum:Ty := (.cons yI .nil)
noncomputable def sg_impl_stalkSum:Sig := ⟨[(true,4),(false,1)],[],o_impl_stalkSum,[(false,1)],[],[]⟩
@[reducible] def o_spec_l00In:Ty := (.cons .bool .nil)
noncomputable def sg_spec_l00In:Sig := ⟨[(false,1),(false,1),(false,1)],[],o_spec_l00In,[(false,1)],[],[]⟩
@[reducible] def o_spec_l05Of:Ty := (.cons yL .nil)
noncomputable def sg_spec_l05Of:Sig := ⟨[(false,1),(false,1)],[],o_spec_l05Of,[(false,1)],[.deep],[(.ptr (.cons yK .nil))]⟩
@[reducible] def o_impl_size_int64:Ty := (.cons yI .nil)
noncomputable def sg_impl_size_int64:Sig := ⟨[(false,1)],[],o_impl_size_int64,[(false,1)],[],[]⟩
@[reducible] def o_laws_szInt64SS:Ty := (.cons yI .nil)
noncomputable def sg_laws_szInt64SS:Sig := ⟨[(false,1),(false,1)],[],o_laws_szInt64SS,[(false,1)],[],[]⟩
@[reducible] def o_laws_toInt64SS:Ty := (.cons yK .nil)
noncomputable def sg_laws_toInt64SS:Sig := ⟨[(false,1)],[],o_laws_toInt64SS,[(false,1)],[.deep],[]⟩
@[reducible] def o_laws_szMatrix:Ty := (.cons yI .nil)
noncomputable def sg_laws_szMatrix:Sig := ⟨[(true,4),(false,1)],[],o_laws_szMatrix,[(false,1)],[],[]⟩
@[reducible] def o_spec_l09Ok:Ty := (.cons .bool .nil)
noncomputable def sg_spec_l09Ok:Sig := ⟨[(false,1)],[],o_spec_l09Ok,[(false,1)],[],[(.ptr yS)]⟩
@[reducible] def o_spec_l09Wrong:Ty := (.cons yI (.cons yI (.cons yI .nil)))
noncomputable def sg_spec_l09Wrong:Sig := ⟨[(false,1)],[],o_spec_l09Wrong,[(false,1),(false,1),(false,1)],[],[(.ptr yS)]⟩
@[reducible] def o_spec_l00Rises:Ty := (.cons .bool .nil)
noncomputable def sg_spec_l00Rises:Sig := ⟨[(false,1),(false,1),(false,1)],[],o_spec_l00Rises,[(false,1)],[],[]⟩
@[reducible] def o_spec_l10First:Ty := (.cons yI .nil)
noncomputable def sg_spec_l10First:Sig := ⟨[(false,1),(false,1)],[],o_spec_l10First,[(false,1)],[],[(.ptr yS)]⟩
@[reducible] def o_spec_l10Start:Ty := (.cons yI .nil)
noncomputable def sg_spec_l10Start:Sig := ⟨[(false,1),(false,1)],[],o_spec_l10Start,[(false,1)],[],[(.ptr yS)]⟩
@[reducible] def o_laws_toMatrix:Ty := yM
noncomputable def sg_laws_toMatrix:Sig := ⟨[(true,4)],[],o_laws_toMatrix,[(true,4)],[.imm,.imm,.imm,.deep],[]⟩
@[reducible] def o_impl_arePlaces:Ty := (.cons .bool .nil)
noncomputable def sg_impl_arePlaces:Sig := ⟨[(true,4),(false,1)],[],o_impl_arePlaces,[(false,1)],[],[]⟩
@[reducible] def o_impl_isVector:Ty := (.cons .bool .nil)
noncomputable def sg_impl_isVector:Sig := ⟨[(false,1),(false,1),(false,1)],[],o_impl_isVector,[(false,1)],[],[]⟩
@[reducible] def o_laws_eqMatrix:Ty := (.cons .bool .nil)
noncomputable def sg_laws_eqMatrix:Sig := ⟨[(true,4),(true,4)],[],o_laws_eqMatrix,[(false,1)],[],[]⟩
@[reducible] def o_spec_l03Zero:Ty := yM
noncomputable def sg_spec_l03Zero:Sig := ⟨[(false,1),(false,1),(false,1)],[],o_spec_l03Zero,[(true,4)],[.imm,.imm,.imm,.deep],[]⟩
@[reducible] def o_spec_l09Sum:Ty := (.cons yI .nil)
noncomputable def sg_spec_l09Sum:Sig := ⟨[(false,1),(false,1),(false,1)],[],o_spec_l09Sum,[(false,1)],[],[(.ptr (.cons yK .nil))]⟩
@[reducible] def o_spec_l05Faces:Ty := (.cons yL .nil)
noncomputable def sg_spec_l05Faces:Sig := ⟨[(false,1),(false,1)],[],o_spec_l05Faces,[(false,1)],[.deep],[(.ptr (.cons yK .nil))]⟩
@[reducible] def o_spec_l09Get:Ty := (.cons (.ptr yM) .nil)
noncomputable def sg_spec_l09Get:Sig := ⟨[(false,1),(false,1),(false,1)],[],o_spec_l09Get,[(false,1)],[],[(.ptr yS)]⟩
@[reducible] def o_spec_l03Reduced:Ty := (.cons yI (.cons yI (.cons yI (.cons yL (.cons yL (.cons yI .nil))))))
noncomputable def sg_spec_l03Reduced:Sig := ⟨[(false,1)],[],o_spec_l03Reduced,[(true,4),(false,1),(false,1)],[.imm,.imm,.imm,.deep,.deep,.imm],[(.ptr yM)]⟩
@[reducible] def o_spec_l00Has:Ty := (.cons .bool .nil)
noncomputable def sg_spec_l00Has:Sig := ⟨[(false,1),(false,1)],[],o_spec_l00Has,[(false,1)],[],[]⟩
@[reducible] def o_spec_l03Mod:Ty := (.cons yI .nil)
noncomputable def sg_spec_l03Mod:Sig := ⟨[(false,1),(false,1)],[],o_spec_l03Mod,[(false,1)],[],[]⟩
@[reducible] def o_impl_eliminate:Ty := (.cons yL (.cons yI (.cons yK .nil)))
noncomputable def sg_impl_eliminate:Sig := ⟨[(false,1),(false,1),(false,1)],[.io false,.imm,.imm],o_impl_eliminate,[(false,1),(false,1)],[.deep,.imm],[]⟩
@[reducible] def o_slices_Contains_Sint64_int64:Ty := (.cons .bool .nil)
noncomputable def sg_slices_Contains_Sint64_int64:Sig := ⟨[(false,1),(false,1)],[],o_slices_Contains_Sint64_int64,[(false,1)],[],[]⟩
@[reducible] def o_impl_reduce:Ty := (.cons yI .nil)
noncomputable def sg_impl_reduce:Sig := ⟨[(false,1),(false,1)],[],o_impl_reduce,[(false,1)],[],[]⟩
@[reducible] def o_impl_zero:Ty := yM
noncomputable def sg_impl_zero:Sig := ⟨[(false,1),(false,1),(false,1)],[],o_impl_zero,[(true,4)],[.imm,.imm,.imm,.deep],[]⟩
@[reducible] def o_impl_simplicesOf:Ty := (.cons yL .nil)
noncomputable def sg_impl_simplicesOf:Sig := ⟨[(true,1),(false,1)],[],o_impl_simplicesOf,[(false,1)],[.deep],[]⟩
@[reducible] def o_impl_faceIndices:Ty := (.cons yL .nil)
noncomputable def sg_impl_faceIndices:Sig := ⟨[(true,1),(false,1)],[],o_impl_faceIndices,[(false,1)],[.deep],[]⟩
@[reducible] def o_impl_direct:Ty := yM
noncomputable def sg_impl_direct:Sig := ⟨[(true,4),(false,1),(false,1)],[],o_impl_direct,[(true,4)],[],[]⟩
@[reducible] def o_impl_firstColumn:Ty := (.cons yI .nil)
noncomputable def sg_impl_firstColumn:Sig := ⟨[(true,4),(false,1)],[],o_impl_firstColumn,[(false,1)],[],[]⟩
@[reducible] def o_impl_Matrix_at:Ty := (.cons yI .nil)
noncomputable def sg_impl_Matrix_at:Sig := ⟨[(true,4),(false,1),(false,1)],[],o_impl_Matrix_at,[(false,1)],[],[]⟩
@[reducible] def o_impl_alternating:Ty := (.cons yI .nil)
noncomputable def sg_impl_alternating:Sig := ⟨[(false,1),(false,1)],[],o_impl_alternating,[(false,1)],[],[]⟩
@[reducible] def o_impl_ValidSheaf:Ty := (.cons .bool .nil)
noncomputable def sg_impl_ValidSheaf:Sig := ⟨[(true,4)],[],o_impl_ValidSheaf,[(false,1)],[],[]⟩
@[reducible] def o_impl_wrongSquare:Ty := (.cons yI (.cons yI (.cons .bool .nil)))
noncomputable def sg_impl_wrongSquare:Sig := ⟨[(true,4)],[],o_impl_wrongSquare,[(false,1),(false,1),(false,1)],[],[]⟩
@[reducible] def o_spec_l03Column:Ty := (.cons .bool .nil)
noncomputable def sg_spec_l03Column:Sig := ⟨[(false,1),(false,1),(false,1)],[],o_spec_l03Column,[(false,1)],[],[]⟩
@[reducible] def o_impl_size_Sint64:Ty := (.cons yI .nil)
noncomputable def sg_impl_size_Sint64:Sig := ⟨[(false,1)],[],o_impl_size_Sint64,[(false,1)],[],[]⟩
@[reducible] def o_spec_l03Times:Ty := yM
noncomputable def sg_spec_l03Times:Sig := ⟨[(false,1),(false,1)],[],o_spec_l03Times,[(true,4)],[.imm,.imm,.imm,.deep],[(.ptr yM),(.ptr yM)]⟩
@[reducible] def o_spec_l02Add:Ty := (.cons yL .nil)
noncomputable def sg_spec_l02Add:Sig := ⟨[(false,1),(false,1),(false,1),(false,1)],[],o_spec_l02Add,[(false,1)],[.deep],[]⟩
@[reducible] def o_slices_ContainsFunc_Sint64_int64:Ty := (.cons .bool .nil)
noncomputable def sg_slices_ContainsFunc_Sint64_int64:Sig := ⟨[(false,1),(false,1)],[],o_slices_ContainsFunc_Sint64_int64,[(false,1)],[],[]⟩
@[reducible] def o_slices_Clone_Sint64_int64:Ty := (.cons yL .nil)
noncomputable def sg_slices_Clone_Sint64_int64:Sig := ⟨[(false,1)],[],o_slices_Clone_Sint64_int64,[(false,1)],[.deep],[]⟩
@[reducible] def o_impl_Matrix_row:Ty := (.cons yL .nil)
noncomputable def sg_impl_Matrix_row:Sig := ⟨[(true,4),(false,1)],[],o_impl_Matrix_row,[(false,1)],[],[]⟩
@[reducible] def o_impl_unit:Ty := yM
noncomputable def sg_impl_unit:Sig := ⟨[(false,1),(false,1)],[],o_impl_unit,[(true,4)],[.imm,.imm,.imm,.deep],[]⟩
@[reducible] def o_slices_IndexFunc_Sint64_int64:Ty := (.cons yI .nil)
noncomputable def sg_slices_IndexFunc_Sint64_int64:Sig := ⟨[(false,1),(false,1)],[],o_slices_IndexFunc_Sint64_int64,[(false,1)],[],[]⟩
@[reducible] def o_impl_restriction_1:Ty := (.cons .bool .nil)
noncomputable def sg_impl_restriction_1:Sig := ⟨[(false,1),(false,1)],[],o_impl_restriction_1,[(false,1)],[],[.nil,(.ptr (.cons yL .nil))]⟩
@[reducible] def o_impl_product:Ty := yM
noncomputable def sg_impl_product:Sig := ⟨[(true,4),(true,4)],[],o_impl_product,[(true,4)],[.imm,.imm,.imm,.deep],[]⟩
@[reducible] def o_spec_l10Data:Ty := (.cons .bool .nil)
noncomputable def sg_spec_l10Data:Sig := ⟨[(false,1),(false,1),(false,1)],[],o_spec_l10Data,[(false,1)],[],[(.ptr yS)]⟩
@[reducible] def o_spec_l03Join:Ty := yM
noncomputable def sg_spec_l03Join:Sig := ⟨[(false,1),(false,1)],[],o_spec_l03Join,[(true,4)],[.imm,.imm,.imm,.deep],[(.ptr yM),(.ptr yM)]⟩
@[reducible] def o_impl_firstVertex:Ty := (.cons yI .nil)
noncomputable def sg_impl_firstVertex:Sig := ⟨[(true,4),(false,1)],[],o_impl_firstVertex,[(false,1)],[],[]⟩
@[reducible] def o_slices_Grow_Sint64_int64:Ty := (.cons yL .nil)
noncomputable def sg_slices_Grow_Sint64_int64:Sig := ⟨[(false,1),(false,1)],[.take true,.imm],o_slices_Grow_Sint64_int64,[(false,1)],[.deep],[]⟩
@[reducible] def o_impl_within:Ty := (.cons .bool .nil)
noncomputable def sg_impl_within:Sig := ⟨[(false,1),(false,1),(false,1)],[],o_impl_within,[(false,1)],[],[]⟩
@[reducible] def o_spec_l05Ok:Ty := (.cons .bool .nil)
noncomputable def sg_spec_l05Ok:Sig := ⟨[(false,1)],[],o_spec_l05Ok,[(false,1)],[],[(.ptr (.cons yK .nil))]⟩
@[reducible] def o_spec_ValidPrime:Ty := (.cons .bool .nil)
noncomputable def sg_spec_ValidPrime:Sig := ⟨[(false,1)],[],o_spec_ValidPrime,[(false,1)],[],[]⟩
@[reducible] def o_impl_ValidComplex:Ty := (.cons .bool .nil)
noncomputable def sg_impl_ValidComplex:Sig := ⟨[(true,1)],[],o_impl_ValidComplex,[(false,1)],[],[]⟩
@[reducible] def o_impl_ValidPrime:Ty := (.cons .bool .nil)
noncomputable def sg_impl_ValidPrime:Sig := ⟨[(false,1)],[],o_impl_ValidPrime,[(false,1)],[],[]⟩
@[reducible] def o_spec_l09Stalks:Ty := (.cons .bool .nil)
noncomputable def sg_spec_l09Stalks:Sig := ⟨[(false,1),(false,1)],[],o_spec_l09Stalks,[(false,1)],[],[(.ptr (.cons yK .nil))]⟩
@[reducible] def o_spec_l09Count:Ty := (.cons yI .nil)
noncomputable def sg_spec_l09Count:Sig := ⟨[(false,1)],[],o_spec_l09Count,[(false,1)],[],[(.ptr (.cons yK .nil))]⟩
@[reducible] def o_spec_l09Map:Ty := (.cons .bool .nil)
noncomputable def sg_spec_l09Map:Sig := ⟨[(false,1),(false,1),(false,1),(false,1)],[],o_spec_l09Map,[(false,1)],[],[(.ptr yS),.nil,.nil,(.ptr yM)]⟩
@[reducible] def o_spec_l09Place:Ty := (.cons yI .nil)
noncomputable def sg_spec_l09Place:Sig := ⟨[(false,1),(false,1),(false,1)],[],o_spec_l09Place,[(false,1)],[],[(.ptr (.cons yK .nil))]⟩
@[reducible] def o_spec_l09Two:Ty := yM
noncomputable def sg_spec_l09Two:Sig := ⟨[(false,1),(false,1),(false,1),(false,1)],[],o_spec_l09Two,[(true,4)],[.imm,.imm,.imm,.deep],[(.ptr yS)]⟩
@[reducible] def o_spec_l03Same:Ty := (.cons .bool .nil)
noncomputable def sg_spec_l03Same:Sig := ⟨[(false,1),(false,1)],[],o_spec_l03Same,[(false,1)],[],[(.ptr yM),(.ptr yM)]⟩
@[reducible] def o_spec_l05Find:Ty := (.cons yI .nil)
noncomputable def sg_spec_l05Find:Sig := ⟨[(false,1),(false,1)],[],o_spec_l05Find,[(false,1)],[],[(.ptr (.cons yK .nil))]⟩
@[reducible] def o_impl_isRising:Ty := (.cons .bool .nil)
noncomputable def sg_impl_isRising:Sig := ⟨[(false,1)],[],o_impl_isRising,[(false,1)],[],[]⟩
@[reducible] def o_impl_areElements:Ty := (.cons .bool .nil)
noncomputable def sg_impl_areElements:Sig := ⟨[(false,1),(false,1)],[],o_impl_areElements,[(false,1)],[],[]⟩
@[reducible] def o_impl_dot:Ty := (.cons yI .nil)
noncomputable def sg_impl_dot:Sig := ⟨[(false,1),(false,1),(false,1)],[],o_impl_dot,[(false,1)],[],[]⟩
@[reducible] def o_spec_l05Drop:Ty := (.cons yL .nil)
noncomputable def sg_spec_l05Drop:Sig := ⟨[(false,1),(false,1)],[],o_spec_l05Drop,[(false,1)],[.deep],[]⟩
@[reducible] def o_spec_l03Inverse:Ty := (.cons yI .nil)
noncomputable def sg_spec_l03Inverse:Sig := ⟨[(false,1),(false,1)],[],o_spec_l03Inverse,[(false,1)],[],[]⟩
@[reducible] def o_slices_IndexFunc_SSint64_Sint64:Ty := (.cons yI .nil)
noncomputable def sg_slices_IndexFunc_SSint64_Sint64:Sig := ⟨[(false,1),(false,1)],[],o_slices_IndexFunc_SSint64_Sint64,[(false,1)],[],[]⟩
@[reducible] def o_impl_eliminate_1:Ty := (.cons .bool .nil)
noncomputable def sg_impl_eliminate_1:Sig := ⟨[(false,1),(false,1)],[],o_impl_eliminate_1,[(false,1)],[],[.nil,(.ptr (.cons yI .nil))]⟩
@[reducible] def o_impl_inverseOf:Ty := (.cons yI .nil)
noncomputable def sg_impl_inverseOf:Sig := ⟨[(false,1),(false,1)],[],o_impl_inverseOf,[(false,1)],[],[]⟩
@[reducible] def o_slices_Index_Sint64_int64:Ty := (.cons yI .nil)
noncomputable def sg_slices_Index_Sint64_int64:Sig := ⟨[(false,1),(false,1)],[],o_slices_Index_Sint64_int64,[(false,1)],[],[]⟩
@[reducible] def o_impl_filled:Ty := yM
noncomputable def sg_impl_filled:Sig := ⟨[(false,1),(false,1),(false,1),(false,1)],[],o_impl_filled,[(true,4)],[.imm,.imm,.imm,.deep],[]⟩
@[reducible] def o_impl_zero_1:Ty := (.cons yI .nil)
noncomputable def sg_impl_zero_1:Sig := ⟨[(false,1),(false,1)],[],o_impl_zero_1,[(false,1)],[],[]⟩
@[reducible] def o_impl_facesOf:Ty := (.cons yK .nil)
noncomputable def sg_impl_facesOf:Sig := ⟨[(false,1)],[],o_impl_facesOf,[(false,1)],[.deep],[]⟩
@[reducible] def o_impl_indexOf:Ty := (.cons yI .nil)
noncomputable def sg_impl_indexOf:Sig := ⟨[(true,1),(false,1)],[],o_impl_indexOf,[(false,1)],[],[]⟩
@[reducible] def o_impl_firstMap:Ty := (.cons yI .nil)
noncomputable def sg_impl_firstMap:Sig := ⟨[(true,4),(false,1)],[],o_impl_firstMap,[(false,1)],[],[]⟩
@[reducible] def o_impl_areStalks:Ty := (.cons .bool .nil)
noncomputable def sg_impl_areStalks:Sig := ⟨[(true,1),(false,1)],[],o_impl_areStalks,[(false,1)],[],[]⟩
@[reducible] def o_impl_arrows:Ty := (.cons (.sl (.st (.cons yI (.cons yI (.cons yI .nil))))) .nil)
noncomputable def sg_impl_arrows:Sig := ⟨[(true,1)],[],o_impl_arrows,[(false,1)],[.deep],[]⟩
@[reducible] def o_impl_isBetween:Ty := (.cons .bool .nil)
noncomputable def sg_impl_isBetween:Sig := ⟨[(true,4),(false,1),(false,1),(false,1)],[],o_impl_isBetween,[(false,1)],[],[]⟩
@[reducible] def o_impl_SameMatrix:Ty := (.cons .bool .nil)
noncomputable def sg_impl_SameMatrix:Sig := ⟨[(true,4),(true,4)],[],o_impl_SameMatrix,[(false,1)],[],[]⟩
@[reducible] def o_impl_unit_1:Ty := (.cons yI .nil)
noncomputable def sg_impl_unit_1:Sig := ⟨[(false,1),(false,1)],[],o_impl_unit_1,[(false,1)],[],[]⟩
@[reducible] def o_impl_columnsOf:Ty := (.cons yK .nil)
noncomputable def sg_impl_columnsOf:Sig := ⟨[(true,4)],[],o_impl_columnsOf,[(false,1)],[.deep],[]⟩
@[reducible] def o_impl_product_1:Ty := (.cons yI .nil)
noncomputable def sg_impl_product_1:Sig := ⟨[(false,1),(false,1),(false,1),(false,1)],[],o_impl_product_1,[(false,1)],[],[.nil,.nil,(.ptr yM),(.ptr (.cons yK .nil))]⟩
@[reducible] def o_spec_l05Simplex:Ty := (.cons .bool .nil)
noncomputable def sg_spec_l05Simplex:Sig := ⟨[(false,1)],[],o_spec_l05Simplex,[(false,1)],[],[]⟩
@[reducible] def o_spec_l05Before:Ty := (.cons .bool .nil)
noncomputable def sg_spec_l05Before:Sig := ⟨[(false,1),(false,1)],[],o_spec_l05Before,[(false,1)],[],[]⟩
@[reducible] def o_spec_l02Prime:Ty := (.cons .bool .nil)
noncomputable def sg_spec_l02Prime:Sig := ⟨[(false,1)],[],o_spec_l02Prime,[(false,1)],[],[]⟩
@[reducible] def o_impl_ValidSimplex:Ty := (.cons .bool .nil)
noncomputable def sg_impl_ValidSimplex:Sig := ⟨[(false,1)],[],o_impl_ValidSimplex,[(false,1)],[],[]⟩
@[reducible] def o_impl_compareSimplices:Ty := (.cons yI .nil)
noncomputable def sg_impl_compareSimplices:Sig := ⟨[(false,1),(false,1)],[],o_impl_compareSimplices,[(false,1)],[],[]⟩
@[reducible] def o_slices_ContainsFunc_SSint64_Sint64:Ty := (.cons .bool .nil)
noncomputable def sg_slices_ContainsFunc_SSint64_Sint64:Sig := ⟨[(false,1),(false,1)],[],o_slices_ContainsFunc_SSint64_Sint64,[(false,1)],[],[]⟩
@[reducible] def o_impl_ValidComplex_1:Ty := (.cons .bool .nil)
noncomputable def sg_impl_ValidComplex_1:Sig := ⟨[(false,1),(false,1),(false,1)],[],o_impl_ValidComplex_1,[(false,1)],[],[.nil,(.ptr (.cons yK .nil)),(.ptr (.cons yI .nil))]⟩
@[reducible] def o_spec_l03Ok:Ty := (.cons .bool .nil)
noncomputable def sg_spec_l03Ok:Sig := ⟨[(false,1)],[],o_spec_l03Ok,[(false,1)],[],[(.ptr yM)]⟩
@[reducible] def o_spec_l00Same:Ty := (.cons .bool .nil)
noncomputable def sg_spec_l00Same:Sig := ⟨[(false,1),(false,1)],[],o_spec_l00Same,[(false,1)],[],[]⟩
@[reducible] def o_impl_areElements_1:Ty := (.cons .bool .nil)
noncomputable def sg_impl_areElements_1:Sig := ⟨[(false,1),(false,1)],[],o_impl_areElements_1,[(false,1)],[],[.nil,(.ptr (.cons yI .nil))]⟩
@[reducible] def o_impl_isElement:Ty := (.cons .bool .nil)
noncomputable def sg_impl_isElement:Sig := ⟨[(false,1),(false,1)],[],o_impl_isElement,[(false,1)],[],[]⟩
@[reducible] def o_impl_powerOf:Ty := (.cons yI .nil)
noncomputable def sg_impl_powerOf:Sig := ⟨[(false,1),(false,1),(false,1)],[],o_impl_powerOf,[(false,1)],[],[]⟩
@[reducible] def o_slices_BinarySearchFunc_SSint64_Sint64_Sint64:Ty := (.cons yI (.cons .bool .nil))
noncomputable def sg_slices_BinarySearchFunc_SSint64_Sint64_Sint64:Sig := ⟨[(false,1),(false,1),(false,1)],[],o_slices_BinarySearchFunc_SSint64_Sint64_Sint64,[(false,1),(false,1)],[],[]⟩
@[reducible] def o_impl_areStalks_1:Ty := (.cons .bool .nil)
noncomputable def sg_impl_areStalks_1:Sig := ⟨[(false,1)],[],o_impl_areStalks_1,[(false,1)],[],[]⟩
@[reducible] def o_impl_ValidMatrix:Ty := (.cons .bool .nil)
noncomputable def sg_impl_ValidMatrix:Sig := ⟨[(true,4)],[],o_impl_ValidMatrix,[(false,1)],[],[]⟩
@[reducible] def o_slices_Equal_Sint64_int64:Ty := (.cons .bool .nil)
noncomputable def sg_slices_Equal_Sint64_int64:Sig := ⟨[(false,1),(false,1)],[],o_slices_Equal_Sint64_int64,[(false,1)],[],[]⟩
@[reducible] def o_impl_transpose:Ty := yM
noncomputable def sg_impl_transpose:Sig := ⟨[(true,4)],[],o_impl_transpose,[(true,4)],[.imm,.imm,.imm,.deep],[]⟩
@[reducible] def o_impl_ValidSimplex_1:Ty := (.cons .bool .nil)
noncomputable def sg_impl_ValidSimplex_1:Sig := ⟨[(false,1)],[],o_impl_ValidSimplex_1,[(false,1)],[],[]⟩
@[reducible] def o_impl_isVertex:Ty := (.cons .bool .nil)
noncomputable def sg_impl_isVertex:Sig := ⟨[(false,1)],[],o_impl_isVertex,[(false,1)],[],[]⟩
@[reducible] def o_cmp_Or_int:Ty := (.cons yI .nil)
noncomputable def sg_cmp_Or_int:Sig := ⟨[(false,1)],[],o_cmp_Or_int,[(false,1)],[],[]⟩
@[reducible] def o_cmp_Compare_int:Ty := (.cons yI .nil)
noncomputable def sg_cmp_Compare_int:Sig := ⟨[(false,1),(false,1)],[],o_cmp_Compare_int,[(false,1)],[],[]⟩
@[reducible] def o_slices_Compare_Sint64_int64:Ty := (.cons yI .nil)
noncomputable def sg_slices_Compare_Sint64_int64:Sig := ⟨[(false,1),(false,1)],[],o_slices_Compare_Sint64_int64,[(false,1)],[],[]⟩
@[reducible] def o_impl_isSide:Ty := (.cons .bool .nil)
noncomputable def sg_impl_isSide:Sig := ⟨[(false,1)],[],o_impl_isSide,[(false,1)],[],[]⟩
@[reducible] def o_impl_transpose_1:Ty := (.cons yI .nil)
noncomputable def sg_impl_transpose_1:Sig := ⟨[(false,1),(false,1),(false,1)],[],o_impl_transpose_1,[(false,1)],[],[.nil,.nil,(.ptr yM)]⟩
@[reducible] def o_cmp_isNaN_int:Ty := (.cons .bool .nil)
noncomputable def sg_cmp_isNaN_int:Sig := ⟨[(false,1)],[],o_cmp_isNaN_int,[(false,1)],[],[]⟩
@[reducible] def o_cmp_Compare_int64:Ty := (.cons yI .nil)
noncomputable def sg_cmp_Compare_int64:Sig := ⟨[(false,1),(false,1)],[],o_cmp_Compare_int64,[(false,1)],[],[]⟩
@[reducible] def o_cmp_isNaN_int64:Ty := (.cons .bool .nil)
noncomputable def sg_cmp_isNaN_int64:Sig := ⟨[(false,1)],[],o_cmp_isNaN_int64,[(false,1)],[],[]⟩
noncomputable def pol_laws_FnExactExtendSection:Pol := ⟨150,[(42,[some 144,none,some 145,some 146]),(44,[some 147]),(46,[some 148]),(51,[some 149])],[],[],[(1000062,⟨[1,2,3,8,9,10,11,12,13,14,62],[3,10,144,145,146,147,148,149],[],[],[],[],[]⟩),(1000099,⟨[1,2,3,8,9,13,99],[3,149],[],[],[],[],[]⟩),(1000129,⟨[13,16,129],[149],[],[],[],[],[]⟩)],[]⟩
noncomputable def pol_laws_szSheaf:Pol := ⟨29,[],[],[],[],[]⟩
noncomputable def pol_laws_toSheaf:Pol := ⟨27,[(6,[some 24]),(13,[some 25]),(17,[some 26])],[],[],[],[]⟩
noncomputable def pol_laws_toInt64S:Pol := ⟨23,[],[(3,⟨[0,3,4],[7],[],[],[],[],[]⟩)],[],[],[]⟩
noncomputable def pol_laws_eqInt64S:Pol := ⟨28,[],[(4,⟨[0,1,5],[],[],[],[],[],[]⟩)],[],[],[]⟩
noncomputable def pol_laws_eqSheaf:Pol := ⟨36,[],[],[],[],[]⟩
noncomputable def pol_laws_markSheaf:Pol := ⟨23,[],[],[],[],[]⟩
noncomputable def pol_laws_markInt64S:Pol := ⟨21,[],[(2,⟨[0,1,5],[19],[],[],[],[],[]⟩)],[],[],[]⟩
noncomputable def pol_laws_heldInt64S:Pol := ⟨23,[],[(2,⟨[0,1,5],[],[],[],[],[],[]⟩)],[],[],[]⟩
noncomputable def pol_laws_eqInt64SS:Pol := ⟨29,[],[(4,⟨[0,1,5],[],[],[],[],[],[]⟩)],[],[],[]⟩
noncomputable def pol_spec_ExtendSection:Pol := ⟨52,[(44,[some 51])],[],[],[(8,⟨[10,11],[11,27],[],[],[],[],[]⟩)],[]⟩
noncomputable def pol_impl_ExtendSection:Pol := ⟨41,[(28,[some 40])],[],[],[],[]⟩
noncomputable def pol_laws_szComplex:Pol := ⟨14,[],[],[],[],[]⟩
noncomputable def pol_laws_toComplex:Pol := ⟨11,[(6,[some 10])],[],[],[],[]⟩
noncomputable def pol_laws_eqComplex:Pol := ⟨13,[],[],[],[],[]⟩
noncomputable def pol_laws_markComplex:Pol := ⟨12,[],[],[],[],[]⟩
noncomputable def pol_laws_szInt64S:Pol := ⟨14,[],[],[],[],[]⟩
noncomputable def pol_laws_szMatrixS:Pol := ⟨29,[],[(5,⟨[0,1,5],[],[],[],[],[],[]⟩)],[],[],[]⟩
noncomputable def pol_spec_l09Is:Pol := ⟨18,[],[],[],[],[]⟩
noncomputable def pol_spec_l10Places:Pol := ⟨16,[],[],[],[],[]⟩
noncomputable def pol_laws_toMatrixS:Pol := ⟨25,[(20,[none,none,none,some 24])],[(3,⟨[0,3,4],[7],[],[],[],[],[]⟩)],[],[],[]⟩
noncomputable def pol_impl_placed:Pol := ⟨19,[],[],[],[],[]⟩
noncomputable def pol_laws_eqMatrixS:Pol := ⟨29,[],[(4,⟨[0,1,5],[],[],[],[],[],[]⟩)],[],[],[]⟩
noncomputable def pol_impl_coboundaryMatrix:Pol := ⟨103,[(24,[none,none,none,some 102])],[(3,⟨[1,2,4,5,29,30,31],[2,4,5,102],[],[],[],[],[]⟩),(7,⟨[1,2,4,5,7,29,30,31,40,41,42],[2,4,5,102],[],[],[],[],[]⟩),(12,⟨[1,2,4,5,7,8,10,11,12,29,30,31,40,41,42,58,59],[2,4,5,10,102],[],[],[],[],[]⟩),(15,⟨[1,2,4,5,7,8,10,11,12,13,29,30,31,40,41,42,58,59,63,64],[2,4,5,10,102],[],[],[],[],[]⟩)],[],[(2,⟨[1,2,4,5],[2,4,5,102],[],[],[],[],[]⟩),(22,⟨[4,5],[4,5,102],[],[],[],[],[]⟩)],[]⟩
noncomputable def pol_spec_l10All:Pol := ⟨12,[],[],[],[],[]⟩
noncomputable def pol_spec_l10Conditions:Pol := ⟨74,[(69,[some 73])],[(5,⟨[0,3,4,5,6],[10],[],[],[],[],[]⟩)],[],[],[]⟩
noncomputable def pol_impl_IsSheaf:Pol := ⟨21,[],[],[],[],[]⟩
noncomputable def pol_impl_addTimes:Pol := ⟨38,[],[(3,⟨[0,1,2,3,9,12,13],[31],[(9,31,yI,true)],[],[],[],[]⟩)],[],[],[]⟩
noncomputable def pol_spec_l10Many:Pol := ⟨28,[],[(3,⟨[0,1,5,6],[],[],[],[],[],[]⟩)],[],[],[]⟩
noncomputable def pol_spec_l09Restrict:Pol := ⟨69,[(24,[none,none,none,some 67]),(63,[none,none,none,some 68])],[(5,⟨[0,1,2,6,7,8],[6],[],[],[],[],[]⟩)],[],[],[]⟩
noncomputable def pol_spec_l03Unit:Pol := ⟨28,[(10,[none,none,none,some 27])],[(3,⟨[1,4,5,6],[4,5,27],[],[],[],[],[]⟩)],[],[],[]⟩
noncomputable def pol_spec_l10Rows:Pol := ⟨67,[],[(3,⟨[0,1,2,3,9,10],[13],[],[],[],[],[]⟩),(7,⟨[0,1,2,3,9,10,11,12],[13,23],[],[],[],[],[]⟩)],[],[],[]⟩
noncomputable def pol_spec_l10Sum:Pol := ⟨34,[(26,[some 33])],[(3,⟨[0,1,2,7,8],[9],[],[],[],[],[]⟩)],[],[],[]⟩
noncomputable def pol_impl_offsets:Pol := ⟨35,[],[(4,⟨[2,6,7,10,11,12],[2,19],[(6,19,yI,true)],[],[],[],[]⟩)],[],[],[]⟩
noncomputable def pol_impl_rowsOf:Pol := ⟨24,[(14,[some 23])],[(3,⟨[1,3,6,7],[1,16],[(3,16,yL,true)],[],[],[],[]⟩)],[],[],[]⟩
noncomputable def pol_impl_restriction:Pol := ⟨59,[(20,[none,none,none,some 57]),(50,[none,none,none,some 58])],[],[],[],[]⟩
noncomputable def pol_impl_matrixOf:Pol := ⟨18,[(12,[some 17])],[],[],[],[]⟩
noncomputable def pol_spec_l10Ask:Pol := ⟨22,[],[],[],[],[]⟩
noncomputable def pol_spec_l10Given:Pol := ⟨45,[(13,[some 44]),(38,[some 43])],[(4,⟨[0,1,5,6,7],[44],[],[],[],[],[]⟩)],[],[],[]⟩
noncomputable def pol_spec_l04Rows:Pol := ⟨33,[],[(3,⟨[2,6,7,8],[6,7,13],[],[],[],[],[]⟩)],[],[],[]⟩
noncomputable def pol_spec_l03Solve:Pol := ⟨72,[],[(6,⟨[0,7,8,9,11,12],[7,8,34],[],[],[],[],[]⟩)],[],[],[]⟩
noncomputable def pol_spec_l00Own:Pol := ⟨7,[],[],[],[],[]⟩
noncomputable def pol_impl_localized:Pol := ⟨34,[],[],[],[],[]⟩
noncomputable def pol_impl_solve:Pol := ⟨78,[(14,[some 76]),(25,[some 77])],[(3,⟨[1,2,6,16,17],[2,76],[],[],[],[],[]⟩),(10,⟨[2,6,10,47,48,49],[2,46,76],[],[],[],[],[]⟩)],[],[],[]⟩
noncomputable def pol_impl_conditions:Pol := ⟨64,[(17,[some 62]),(56,[none,none,none,some 63])],[(4,⟨[2,4,5,6,18,19,20],[2,4,62],[],[],[],[],[]⟩),(8,⟨[2,4,5,6,9,18,19,20,31,32,33],[2,4,62],[],[],[],[],[]⟩)],[],[],[]⟩
noncomputable def pol_slices_Concat_Sint64_int64:Pol := ⟨38,[(24,[some 37])],[(3,⟨[0,3,9,10,11],[],[],[],[],[],[]⟩),(11,⟨[6,25,26,27],[37],[],[],[],[],[]⟩)],[],[],[]⟩
noncomputable def pol_impl_stalkSum:Pol := ⟨31,[],[(3,⟨[2,5,11,12,13],[2],[],[],[],[],[]⟩)],[],[],[]⟩
noncomputable def pol_spec_l00In:Pol := ⟨18,[],[],[],[],[]⟩
noncomputable def pol_spec_l05Of:Pol := ⟨35,[],[(3,⟨[0,1,5,6],[7],[],[],[],[],[]⟩)],[],[],[]⟩
noncomputable def pol_impl_size_int64:Pol := ⟨6,[],[],[],[],[]⟩
noncomputable def pol_laws_szInt64SS:Pol := ⟨29,[],[(5,⟨[0,1,5],[],[],[],[],[],[]⟩)],[],[],[]⟩
noncomputable def pol_laws_toInt64SS:Pol := ⟨25,[(20,[some 24])],[(3,⟨[0,3,4],[7],[],[],[],[],[]⟩)],[],[],[]⟩
noncomputable def pol_laws_szMatrix:Pol := ⟨17,[],[],[],[],[]⟩
noncomputable def pol_spec_l09Ok:Pol := ⟨93,[],[(4,⟨[0,3],[],[],[],[],[],[]⟩),(7,⟨[0,3,4],[],[],[],[],[],[]⟩)],[],[(1000040,⟨[0,40],[],[],[],[],[],[]⟩),(1000073,⟨[0,3,4,73],[],[],[],[],[],[]⟩)],[]⟩
noncomputable def pol_spec_l09Wrong:Pol := ⟨62,[],[(2,⟨[0,5],[],[],[],[],[],[]⟩),(6,⟨[0,5,6,7],[],[],[],[],[],[]⟩),(9,⟨[0,5,6,7,8],[],[],[],[],[],[]⟩)],[],[(1000036,⟨[0,5,6,7,36],[],[],[],[],[],[]⟩)],[]⟩
noncomputable def pol_spec_l00Rises:Pol := ⟨41,[],[(2,⟨[0,1,2,7],[],[],[],[],[],[]⟩)],[],[(1000037,⟨[0,1,2,7,37],[],[],[],[],[],[]⟩)],[]⟩
noncomputable def pol_spec_l10First:Pol := ⟨20,[],[],[],[],[]⟩
noncomputable def pol_spec_l10Start:Pol := ⟨24,[],[(3,⟨[0,1,5,6],[],[],[],[],[],[]⟩)],[],[],[]⟩
noncomputable def pol_laws_toMatrix:Pol := ⟨23,[(15,[some 22])],[],[],[],[]⟩
noncomputable def pol_impl_arePlaces:Pol := ⟨20,[],[],[],[],[]⟩
noncomputable def pol_impl_isVector:Pol := ⟨19,[],[],[],[],[]⟩
noncomputable def pol_laws_eqMatrix:Pol := ⟨34,[],[],[],[],[]⟩
noncomputable def pol_spec_l03Zero:Pol := ⟨18,[],[],[],[],[]⟩
noncomputable def pol_spec_l09Sum:Pol := ⟨32,[],[(4,⟨[1,7,8,9],[],[],[],[],[],[]⟩)],[],[],[]⟩
noncomputable def pol_spec_l05Faces:Pol := ⟨38,[],[(4,⟨[0,5,6,7],[15],[],[],[],[],[]⟩)],[],[(1000024,⟨[0,5,6,7,24],[15],[],[],[],[],[]⟩)],[]⟩
noncomputable def pol_spec_l09Get:Pol := ⟨21,[],[],[],[],[]⟩
noncomputable def pol_spec_l03Reduced:Pol := ⟨248,[(37,[some 247])],[(8,⟨[0,2,5,6,7,8,9,10,11],[2,5,47,247],[],[],[],[],[]⟩),(11,⟨[0,2,5,6,7,8,9,10,11,12],[2,5,47,247],[],[],[],[],[]⟩),(17,⟨[0,2,5,6,7,8,9,10,11,12,13],[2,5,47,247],[],[],[],[],[]⟩),(26,⟨[0,2,5,6,7,8,9,10,11,16,17],[2,5,47,247],[],[],[],[],[]⟩),(30,⟨[0,2,5,6,7,8,9,10,11,18],[2,5,47,247],[],[],[],[],[]⟩),(35,⟨[0,2,5,6,7,8,9,10,11,18,19,20],[2,5,47,247],[],[],[],[],[]⟩)],[],[(2,⟨[0,2,5],[2,5,247],[],[],[],[],[]⟩),(22,⟨[0,2,5,6,7,8,9,10,11],[2,5,47,247],[],[],[],[],[]⟩),(1000058,⟨[0,2,5,6,7,8,9,10,11,58],[2,5,47,247],[],[],[],[],[]⟩),(1000079,⟨[0,2,5,6,7,8,9,10,11,12,79],[2,5,47,247],[],[],[],[],[]⟩),(1000200,⟨[0,2,5,6,7,8,9,10,11,18,19,200],[2,5,47,247],[],[],[],[],[]⟩)],[]⟩
noncomputable def pol_spec_l00Has:Pol := ⟨20,[],[(2,⟨[0,1,5],[],[],[],[],[],[]⟩)],[],[],[]⟩
noncomputable def pol_spec_l03Mod:Pol := ⟨14,[],[],[],[],[]⟩
noncomputable def pol_impl_eliminate:Pol := ⟨125,[(77,[some 123]),(110,[some 124])],[(4,⟨[0,1,2,8,9,16,17],[116,120],[(8,116,yI,true)],[],[],[],[]⟩),(17,⟨[0,1,2,8,9,10,11,16,17,79,80,81],[10,116,120],[],[],[],[],[]⟩)],[],[(13,⟨[0,1,2,8,9,10,11,16,17],[10,116,120],[],[],[],[],[]⟩),(16,⟨[0,1,2,8,9,10,11,16,17],[10,116,120],[],[],[],[],[]⟩),(1000095,⟨[0,1,2,8,9,10,11,14,15,16,17,79,80,81,95],[10,116,120],[],[],[],[],[]⟩)],[]⟩
noncomputable def pol_slices_Contains_Sint64_int64:Pol := ⟨11,[],[],[],[],[]⟩
noncomputable def pol_impl_reduce:Pol := ⟨14,[],[],[],[],[]⟩
noncomputable def pol_impl_zero:Pol := ⟨15,[(10,[none,none,none,some 14])],[],[],[],[]⟩
noncomputable def pol_impl_simplicesOf:Pol := ⟨29,[],[(3,⟨[1,5,9,10,11],[24],[(5,24,yI,true)],[],[],[],[]⟩)],[],[],[]⟩
noncomputable def pol_impl_faceIndices:Pol := ⟨29,[],[(3,⟨[2,5,13,14,15],[2,24],[(5,24,yI,true)],[],[],[],[]⟩)],[],[],[]⟩
noncomputable def pol_impl_direct:Pol := ⟨22,[],[],[],[],[]⟩
noncomputable def pol_impl_firstColumn:Pol := ⟨41,[],[(3,⟨[1,2,5,18,19,20],[2],[],[],[],[],[]⟩)],[],[],[]⟩
noncomputable def pol_impl_Matrix_at:Pol := ⟨23,[],[],[],[],[]⟩
noncomputable def pol_impl_alternating:Pol := ⟨12,[],[],[],[],[]⟩
noncomputable def pol_impl_ValidSheaf:Pol := ⟨73,[],[(5,⟨[1,3,27,28,29],[1],[],[],[],[],[]⟩)],[],[(1000023,⟨[1,23],[1],[],[],[],[],[]⟩),(1000061,⟨[1,3,27,28,29,61],[1],[],[],[],[],[]⟩)],[]⟩
noncomputable def pol_impl_wrongSquare:Pol := ⟨90,[],[(2,⟨[1,15,16,17],[1],[],[],[],[],[]⟩),(8,⟨[1,6,7,8,15,16,17,31,32],[1],[],[],[],[],[]⟩),(11,⟨[1,6,7,8,9,10,15,16,17,31,32],[1],[],[],[],[],[]⟩)],[],[(14,⟨[1,6,7,8,9,10,11,15,16,17,31,32],[1,11],[],[],[],[],[]⟩),(15,⟨[1,6,7,8,9,10,11,12,15,16,17,31,32],[1,11,12],[],[],[],[],[]⟩)],[]⟩
noncomputable def pol_spec_l03Column:Pol := ⟨29,[],[(2,⟨[0,1,2,7],[],[],[],[],[],[]⟩)],[],[],[]⟩
noncomputable def pol_impl_size_Sint64:Pol := ⟨6,[],[],[],[],[]⟩
noncomputable def pol_spec_l03Times:Pol := ⟨99,[(22,[none,none,none,some 98])],[(3,⟨[0,1,4,5,6],[4,5,98],[],[],[],[],[]⟩),(6,⟨[0,1,4,5,6,7],[4,5,98],[],[],[],[],[]⟩),(10,⟨[0,1,4,5,6,7,8,9],[4,5,98],[],[],[],[],[]⟩)],[],[(2,⟨[0,1,4,5],[4,5,98],[],[],[],[],[]⟩)],[]⟩
noncomputable def pol_spec_l02Add:Pol := ⟨39,[],[(3,⟨[0,1,2,3,9,10],[11],[],[],[],[],[]⟩)],[],[],[]⟩
noncomputable def pol_slices_ContainsFunc_Sint64_int64:Pol := ⟨11,[],[],[],[],[]⟩
noncomputable def pol_slices_Clone_Sint64_int64:Pol := ⟨9,[],[],[],[(1000004,⟨[0,4],[],[],[],[],[],[]⟩)],[]⟩
noncomputable def pol_impl_Matrix_row:Pol := ⟨22,[],[],[],[],[]⟩
noncomputable def pol_impl_unit:Pol := ⟨12,[(8,[none,none,none,some 11])],[],[],[],[]⟩
noncomputable def pol_slices_IndexFunc_Sint64_int64:Pol := ⟨21,[],[(2,⟨[0,1,7,8],[],[],[],[],[],[]⟩)],[],[],[]⟩
noncomputable def pol_impl_restriction_1:Pol := ⟨10,[],[],[],[],[]⟩
noncomputable def pol_impl_product:Pol := ⟨25,[(15,[none,none,none,some 24])],[],[],[],[]⟩
noncomputable def pol_spec_l10Data:Pol := ⟨34,[],[(2,⟨[0,1,2,7],[],[],[],[],[],[]⟩)],[],[],[]⟩
noncomputable def pol_spec_l03Join:Pol := ⟨81,[],[(3,⟨[0,1,4,5,6],[4,5,24],[],[],[],[],[]⟩)],[],[(2,⟨[0,1,4,5],[4,5,24],[],[],[],[],[]⟩)],[]⟩
noncomputable def pol_impl_firstVertex:Pol := ⟨20,[],[],[],[],[]⟩
noncomputable def pol_impl_within:Pol := ⟨18,[],[],[],[],[]⟩
noncomputable def pol_spec_l05Ok:Pol := ⟨66,[],[(4,⟨[0,3],[],[],[],[],[],[]⟩),(10,⟨[0,3,4,5],[],[],[],[],[],[]⟩)],[],[(1000047,⟨[0,3,4,47],[],[],[],[],[],[]⟩),(1000056,⟨[0,3,4,5,56],[],[],[],[],[],[]⟩)],[]⟩
noncomputable def pol_spec_ValidPrime:Pol := ⟨6,[],[],[],[],[]⟩
noncomputable def pol_impl_ValidComplex:Pol := ⟨41,[],[(2,⟨[1,6,7,8],[1],[],[],[1],[],[]⟩)],[],[(1000030,⟨[1,3,4,6,7,8,30],[1,3],[],[],[],[],[]⟩)],[]⟩
noncomputable def pol_impl_ValidPrime:Pol := ⟨19,[],[(4,⟨[0,3],[],[],[],[],[],[]⟩)],[],[],[]⟩
noncomputable def pol_spec_l09Stalks:Pol := ⟨25,[],[(4,⟨[0,1,5],[],[],[],[],[],[]⟩)],[],[],[]⟩
noncomputable def pol_spec_l09Count:Pol := ⟨11,[],[],[],[],[]⟩
noncomputable def pol_spec_l09Map:Pol := ⟨63,[],[],[],[],[]⟩
noncomputable def pol_spec_l09Place:Pol := ⟨39,[],[(3,⟨[0,1,2,7,8],[],[],[],[],[],[]⟩)],[],[],[]⟩
noncomputable def pol_spec_l09Two:Pol := ⟨37,[(31,[none,none,none,some 36])],[],[],[(4,⟨[0,1,2,3,8,9],[8],[],[],[],[],[]⟩)],[]⟩
noncomputable def pol_spec_l03Same:Pol := ⟨76,[],[(4,⟨[0,1,5],[],[],[],[],[],[]⟩)],[],[(1000049,⟨[0,1,49],[],[],[],[],[],[]⟩)],[]⟩
noncomputable def pol_spec_l05Find:Pol := ⟨27,[],[(2,⟨[0,1,5],[],[],[],[],[],[]⟩)],[],[],[]⟩
noncomputable def pol_impl_isRising:Pol := ⟨21,[],[(2,⟨[0,3],[],[],[],[],[],[]⟩)],[],[],[]⟩
noncomputable def pol_impl_areElements:Pol := ⟨11,[],[],[],[],[]⟩
noncomputable def pol_impl_dot:Pol := ⟨32,[],[(3,⟨[0,1,2,7,10,11],[],[],[],[],[],[]⟩)],[],[],[]⟩
noncomputable def pol_spec_l05Drop:Pol := ⟨19,[(9,[some 18])],[],[],[],[]⟩
noncomputable def pol_spec_l03Inverse:Pol := ⟨21,[],[(3,⟨[0,1,5,6],[],[],[],[],[],[]⟩)],[],[],[]⟩
noncomputable def pol_slices_IndexFunc_SSint64_Sint64:Pol := ⟨21,[],[(2,⟨[0,1,7,8],[],[],[],[],[],[]⟩)],[],[],[]⟩
noncomputable def pol_impl_eliminate_1:Pol := ⟨11,[],[],[],[],[]⟩
noncomputable def pol_impl_inverseOf:Pol := ⟨12,[],[],[],[],[]⟩
noncomputable def pol_slices_Index_Sint64_int64:Pol := ⟨21,[],[(2,⟨[0,1,7,8],[],[],[],[],[],[]⟩)],[],[],[]⟩
noncomputable def pol_impl_filled:Pol := ⟨40,[],[(3,⟨[2,3,8,9,16,17],[8,9,31],[],[(9,3,31,yI,true)],[],[],[]⟩),(6,⟨[2,3,8,9,10,16,17,20,21],[8,9,31],[],[(9,3,31,yI,true)],[],[],[]⟩)],[],[],[]⟩
noncomputable def pol_impl_zero_1:Pol := ⟨7,[],[],[],[],[]⟩
noncomputable def pol_impl_facesOf:Pol := ⟨29,[(22,[some 28])],[(3,⟨[0,3,6,7],[24],[(3,24,yL,true)],[],[],[],[]⟩)],[],[],[]⟩
noncomputable def pol_impl_indexOf:Pol := ⟨19,[],[],[],[],[]⟩
noncomputable def pol_impl_firstMap:Pol := ⟨32,[],[(3,⟨[5,12,13,14],[],[],[],[],[],[]⟩)],[],[],[]⟩
noncomputable def pol_impl_areStalks:Pol := ⟨28,[],[(4,⟨[1,2,16],[2],[],[],[],[],[]⟩)],[],[(1000015,⟨[1,2,15],[2],[],[],[],[],[]⟩)],[]⟩
noncomputable def pol_impl_arrows:Pol := ⟨33,[],[(3,⟨[1,3,9,10],[1,28],[(3,28,(.st (.cons yI (.cons yI (.cons yI .nil)))),true)],[],[],[],[]⟩),(6,⟨[1,3,4,9,10,15,16,17],[1,28],[(3,28,(.st (.cons yI (.cons yI (.cons yI .nil)))),true)],[],[],[],[]⟩)],[],[],[]⟩
noncomputable def pol_impl_isBetween:Pol := ⟨36,[],[],[],[],[]⟩
noncomputable def pol_impl_SameMatrix:Pol := ⟨39,[],[],[],[],[]⟩
noncomputable def pol_impl_unit_1:Pol := ⟨10,[],[],[],[],[]⟩
noncomputable def pol_impl_columnsOf:Pol := ⟨11,[(5,[some 10])],[],[],[],[]⟩
noncomputable def pol_impl_product_1:Pol := ⟨21,[],[],[],[],[]⟩
noncomputable def pol_spec_l05Simplex:Pol := ⟨11,[],[],[],[],[]⟩
noncomputable def pol_spec_l05Before:Pol := ⟨42,[],[(4,⟨[0,1,5],[],[],[],[],[],[]⟩)],[],[],[]⟩
noncomputable def pol_spec_l02Prime:Pol := ⟨19,[],[(4,⟨[0,3],[],[],[],[],[],[]⟩)],[],[],[]⟩
noncomputable def pol_impl_ValidSimplex:Pol := ⟨21,[],[],[],[],[]⟩
noncomputable def pol_impl_compareSimplices:Pol := ⟨17,[],[],[],[],[]⟩
noncomputable def pol_slices_ContainsFunc_SSint64_Sint64:Pol := ⟨11,[],[],[],[],[]⟩
noncomputable def pol_impl_ValidComplex_1:Pol := ⟨16,[],[],[],[],[]⟩
noncomputable def pol_spec_l03Ok:Pol := ⟨43,[],[],[],[],[]⟩
noncomputable def pol_spec_l00Same:Pol := ⟨28,[],[(4,⟨[0,1,5],[],[],[],[],[],[]⟩)],[],[],[]⟩
noncomputable def pol_impl_areElements_1:Pol := ⟨10,[],[],[],[],[]⟩
noncomputable def pol_impl_isElement:Pol := ⟨11,[],[],[],[],[]⟩
noncomputable def pol_impl_powerOf:Pol := ⟨29,[],[(2,⟨[0,1,2,7],[],[],[],[],[],[]⟩)],[],[],[]⟩
noncomputable def pol_slices_BinarySearchFunc_SSint64_Sint64_Sint64:Pol := ⟨52,[],[(3,⟨[0,1,2,8,9,10],[],[],[],[],[],[]⟩)],[],[],[]⟩
noncomputable def pol_impl_areStalks_1:Pol := ⟨7,[],[],[],[],[]⟩
noncomputable def pol_impl_ValidMatrix:Pol := ⟨38,[],[],[],[],[]⟩
noncomputable def pol_slices_Equal_Sint64_int64:Pol := ⟨28,[],[(4,⟨[0,1,12,13],[],[],[],[],[],[]⟩)],[],[],[]⟩
noncomputable def pol_impl_transpose:Pol := ⟨16,[(10,[none,none,none,some 15])],[],[],[],[]⟩
noncomputable def pol_impl_ValidSimplex_1:Pol := ⟨7,[],[],[],[],[]⟩
noncomputable def pol_impl_isVertex:Pol := ⟨6,[],[],[],[],[]⟩
noncomputable def pol_cmp_Or_int:Pol := ⟨19,[],[(3,⟨[3,6,7,8],[],[],[],[],[],[]⟩)],[],[],[]⟩
noncomputable def pol_cmp_Compare_int:Pol := ⟨22,[],[],[],[],[]⟩
noncomputable def pol_slices_Compare_Sint64_int64:Pol := ⟨38,[],[(2,⟨[0,1,9,10,11],[],[],[],[],[],[]⟩)],[],[],[]⟩
noncomputable def pol_impl_isSide:Pol := ⟨6,[],[],[],[],[]⟩
noncomputable def pol_impl_transpose_1:Pol := ⟨13,[],[],[],[],[]⟩
noncomputable def pol_cmp_isNaN_int:Pol := ⟨7,[],[],[],[],[]⟩
noncomputable def pol_cmp_Compare_int64:Pol := ⟨22,[],[],[],[],[]⟩
noncomputable def pol_cmp_isNaN_int64:Pol := ⟨7,[],[],[],[],[]⟩
noncomputable def sigL:List (Option Sig) := [none,none,none,none,none,none,none,none,none,none,none,some sg_laws_FnExactExtendSection,none,none,none,some sg_laws_szSheaf,none,some sg_laws_toSheaf,some sg_laws_toInt64S,none,some sg_laws_eqInt64S,some sg_laws_eqSheaf,some sg_laws_markSheaf,some sg_laws_markInt64S,some sg_laws_heldInt64S,none,none,some sg_laws_eqInt64SS,some sg_laws_markInt64SS,none,none,none,none,none,none,none,none,none,none,none,none,none,some sg_spec_ExtendSection,some sg_impl_ExtendSection,none,none,none,none,some sg_laws_szComplex,none,some sg_laws_toComplex,none,some sg_laws_eqComplex,some sg_laws_markComplex,some sg_laws_szInt64S,some sg_laws_szMatrixS,some sg_spec_l09Is,some sg_spec_l10Places,none,none,some sg_laws_toMatrixS,some sg_impl_placed,none,none,some sg_laws_eqMatrixS,some sg_laws_markMatrixS,none,none,none,none,none,some sg_impl_coboundaryMatrix,none,some sg_spec_l10All,some sg_spec_l10Conditions,some sg_impl_IsSheaf,none,none,none,none,none,none,none,some sg_impl_addTimes,none,none,some sg_spec_l10Many,none,some sg_spec_l09Restrict,some sg_spec_l03Unit,some sg_spec_l10Rows,some sg_spec_l10Sum,some sg_impl_offsets,none,some sg_impl_rowsOf,some sg_impl_restriction,some sg_impl_matrixOf,some sg_spec_l10Ask,some sg_spec_l10Given,some sg_spec_l04Rows,some sg_spec_l03Solve,some sg_spec_l00Own,some sg_impl_localized,some sg_impl_solve,some sg_impl_conditions,some sg_slices_Concat_Sint64_int64,some sg_impl_stalkSum,some sg_spec_l00In,some sg_spec_l05Of,none,none,some sg_impl_size_int64,none,none,none,none,none,none,some sg_laws_szInt64SS,none,none,some sg_laws_toInt64SS,none,none,some sg_laws_szMatrix,some sg_spec_l09Ok,some sg_spec_l09Wrong,some sg_spec_l00Rises,none,none,some sg_spec_l10First,some sg_spec_l10Start,none,some sg_laws_toMatrix,some sg_impl_arePlaces,some sg_impl_isVector,none,none,none,some sg_laws_eqMatrix,none,some sg_spec_l03Zero,some sg_spec_l09Sum,some sg_spec_l05Faces,none,some sg_spec_l09Get,none,some sg_spec_l03Reduced,some sg_spec_l00Has,some sg_spec_l03Mod,none,some sg_impl_eliminate,some sg_slices_Contains_Sint64_int64,some sg_impl_reduce,some sg_impl_zero,some sg_impl_simplicesOf,some sg_impl_faceIndices,some sg_impl_direct,some sg_impl_firstColumn,some sg_impl_Matrix_at,some sg_impl_alternating,some sg_impl_ValidSheaf,some sg_impl_wrongSquare,some sg_spec_l03Column,none,some sg_impl_size_Sint64,some sg_spec_l03Times,some sg_spec_l02Add,some sg_slices_ContainsFunc_Sint64_int64,none,some sg_slices_Clone_Sint64_int64,some sg_impl_Matrix_row,some sg_impl_unit,some sg_slices_IndexFunc_Sint64_int64,some sg_impl_restriction_1,some sg_impl_product,some sg_spec_l10Data,some sg_spec_l03Join,some sg_impl_firstVertex,some sg_slices_Grow_Sint64_int64,some sg_impl_within,none,none,none,some sg_spec_l05Ok,some sg_spec_ValidPrime,none,some sg_impl_ValidComplex,some sg_impl_ValidPrime,none,none,some sg_spec_l09Stalks,some sg_spec_l09Count,some sg_spec_l09Map,some sg_spec_l09Place,some sg_spec_l09Two,some sg_spec_l03Same,none,some sg_spec_l05Find,some sg_impl_isRising,some sg_impl_areElements,none,some sg_impl_dot,none,some sg_spec_l05Drop,some sg_spec_l03Inverse,some sg_slices_IndexFunc_SSint64_Sint64,some sg_impl_eliminate_1,some sg_impl_inverseOf,some sg_slices_Index_Sint64_int64,some sg_impl_filled,some sg_impl_zero_1,some sg_impl_facesOf,some sg_impl_indexOf,some sg_impl_firstMap,some sg_impl_areStalks,some sg_impl_arrows,some sg_impl_isBetween,some sg_impl_SameMatrix,some sg_impl_unit_1,some sg_impl_columnsOf,some sg_impl_product_1,none,none,none,none,none,some sg_spec_l05Simplex,some sg_spec_l05Before,some sg_spec_l02Prime,some sg_impl_ValidSimplex,some sg_impl_compareSimplices,some sg_slices_ContainsFunc_SSint64_Sint64,some sg_impl_ValidComplex_1,some sg_spec_l03Ok,some sg_spec_l00Same,some sg_impl_areElements_1,some sg_impl_isElement,some sg_impl_powerOf,some sg_slices_BinarySearchFunc_SSint64_Sint64_Sint64,some sg_impl_areStalks_1,some sg_impl_ValidMatrix,some sg_slices_Equal_Sint64_int64,some sg_impl_transpose,none,some sg_impl_ValidSimplex_1,some sg_impl_isVertex,some sg_cmp_Or_int,some sg_cmp_Compare_int,some sg_slices_Compare_Sint64_int64,some sg_impl_isSide,some sg_impl_transpose_1,none,some sg_cmp_isNaN_int,some sg_cmp_Compare_int64,none,some sg_cmp_isNaN_int64,none,none,none,none,none,none,none,none,none,none,none,none,none,none,none,none]
noncomputable def fnL:List (Option (Func × Pol)) := [none,none,none,none,none,none,none,none,none,none,none,some (F_laws_FnExactExtendSection,pol_laws_FnExactExtendSection),none,none,none,some (F_laws_szSheaf,pol_laws_szSheaf),none,some (F_laws_toSheaf,pol_laws_toSheaf),some (F_laws_toInt64S,pol_laws_toInt64S),none,some (F_laws_eqInt64S,pol_laws_eqInt64S),some (F_laws_eqSheaf,pol_laws_eqSheaf),some (F_laws_markSheaf,pol_laws_markSheaf),some (F_laws_markInt64S,pol_laws_markInt64S),some (F_laws_heldInt64S,pol_laws_heldInt64S),none,none,some (F_laws_eqInt64SS,pol_laws_eqInt64SS),none,none,none,none,none,none,none,none,none,none,none,none,none,none,some (F_spec_ExtendSection,pol_spec_ExtendSection),some (F_impl_ExtendSection,pol_impl_ExtendSection),none,none,none,none,some (F_laws_szComplex,pol_laws_szComplex),none,some (F_laws_toComplex,pol_laws_toComplex),none,some (F_laws_eqComplex,pol_laws_eqComplex),some (F_laws_markComplex,pol_laws_markComplex),some (F_laws_szInt64S,pol_laws_szInt64S),some (F_laws_szMatrixS,pol_laws_szMatrixS),some (F_spec_l09Is,pol_spec_l09Is),some (F_spec_l10Places,pol_spec_l10Places),none,none,some (F_laws_toMatrixS,pol_laws_toMatrixS),some (F_impl_placed,pol_impl_placed),none,none,some (F_laws_eqMatrixS,pol_laws_eqMatrixS),none,none,none,none,none,none,some (F_impl_coboundaryMatrix,pol_impl_coboundaryMatrix),none,some (F_spec_l10All,pol_spec_l10All),some (F_spec_l10Conditions,pol_spec_l10Conditions),some (F_impl_IsSheaf,pol_impl_IsSheaf),none,none,none,none,none,none,none,some (F_impl_addTimes,pol_impl_addTimes),none,none,some (F_spec_l10Many,pol_spec_l10Many),none,some (F_spec_l09Restrict,pol_spec_l09Restrict),some (F_spec_l03Unit,pol_spec_l03Unit),some (F_spec_l10Rows,pol_spec_l10Rows),some (F_spec_l10Sum,pol_spec_l10Sum),some (F_impl_offsets,pol_impl_offsets),none,some (F_impl_rowsOf,pol_impl_rowsOf),some (F_impl_restriction,pol_impl_restriction),some (F_impl_matrixOf,pol_impl_matrixOf),some (F_spec_l10Ask,pol_spec_l10Ask),some (F_spec_l10Given,pol_spec_l10Given),some (F_spec_l04Rows,pol_spec_l04Rows),some (F_spec_l03Solve,pol_spec_l03Solve),some (F_spec_l00Own,pol_spec_l00Own),some (F_impl_localized,pol_impl_localized),some (F_impl_solve,pol_impl_solve),some (F_impl_conditions,pol_impl_conditions),some (F_slices_Concat_Sint64_int64,pol_slices_Concat_Sint64_int64),some (F_impl_stalkSum,pol_impl_stalkSum),some (F_spec_l00In,pol_spec_l00In),some (F_spec_l05Of,pol_spec_l05Of),none,none,some (F_impl_size_int64,pol_impl_size_int64),none,none,none,none,none,none,some (F_laws_szInt64SS,pol_laws_szInt64SS),none,none,some (F_laws_toInt64SS,pol_laws_toInt64SS),none,none,some (F_laws_szMatrix,pol_laws_szMatrix),some (F_spec_l09Ok,pol_spec_l09Ok),some (F_spec_l09Wrong,pol_spec_l09Wrong),some (F_spec_l00Rises,pol_spec_l00Rises),none,none,some (F_spec_l10First,pol_spec_l10First),some (F_spec_l10Start,pol_spec_l10Start),none,some (F_laws_toMatrix,pol_laws_toMatrix),some (F_impl_arePlaces,pol_impl_arePlaces),some (F_impl_isVector,pol_impl_isVector),none,none,none,some (F_laws_eqMatrix,pol_laws_eqMatrix),none,some (F_spec_l03Zero,pol_spec_l03Zero),some (F_spec_l09Sum,pol_spec_l09Sum),some (F_spec_l05Faces,pol_spec_l05Faces),none,some (F_spec_l09Get,pol_spec_l09Get),none,some (F_spec_l03Reduced,pol_spec_l03Reduced),some (F_spec_l00Has,pol_spec_l00Has),some (F_spec_l03Mod,pol_spec_l03Mod),none,some (F_impl_eliminate,pol_impl_eliminate),some (F_slices_Contains_Sint64_int64,pol_slices_Contains_Sint64_int64),some (F_impl_reduce,pol_impl_reduce),some (F_impl_zero,pol_impl_zero),some (F_impl_simplicesOf,pol_impl_simplicesOf),some (F_impl_faceIndices,pol_impl_faceIndices),some (F_impl_direct,pol_impl_direct),some (F_impl_firstColumn,pol_impl_firstColumn),some (F_impl_Matrix_at,pol_impl_Matrix_at),some (F_impl_alternating,pol_impl_alternating),some (F_impl_ValidSheaf,pol_impl_ValidSheaf),some (F_impl_wrongSquare,pol_impl_wrongSquare),some (F_spec_l03Column,pol_spec_l03Column),none,some (F_impl_size_Sint64,pol_impl_size_Sint64),some (F_spec_l03Times,pol_spec_l03Times),some (F_spec_l02Add,pol_spec_l02Add),some (F_slices_ContainsFunc_Sint64_int64,pol_slices_ContainsFunc_Sint64_int64),none,some (F_slices_Clone_Sint64_int64,pol_slices_Clone_Sint64_int64),some (F_impl_Matrix_row,pol_impl_Matrix_row),some (F_impl_unit,pol_impl_unit),some (F_slices_IndexFunc_Sint64_int64,pol_slices_IndexFunc_Sint64_int64),some (F_impl_restriction_1,pol_impl_restriction_1),some (F_impl_product,pol_impl_product),some (F_spec_l10Data,pol_spec_l10Data),some (F_spec_l03Join,pol_spec_l03Join),some (F_impl_firstVertex,pol_impl_firstVertex),none,some (F_impl_within,pol_impl_within),none,none,none,some (F_spec_l05Ok,pol_spec_l05Ok),some (F_spec_ValidPrime,pol_spec_ValidPrime),none,some (F_impl_ValidComplex,pol_impl_ValidComplex),some (F_impl_ValidPrime,pol_impl_ValidPrime),none,none,some (F_spec_l09Stalks,pol_spec_l09Stalks),some (F_spec_l09Count,pol_spec_l09Count),some (F_spec_l09Map,pol_spec_l09Map),some (F_spec_l09Place,pol_spec_l09Place),some (F_spec_l09Two,pol_spec_l09Two),some (F_spec_l03Same,pol_spec_l03Same),none,some (F_spec_l05Find,pol_spec_l05Find),some (F_impl_isRising,pol_impl_isRising),some (F_impl_areElements,pol_impl_areElements),none,some (F_impl_dot,pol_impl_dot),none,some (F_spec_l05Drop,pol_spec_l05Drop),some (F_spec_l03Inverse,pol_spec_l03Inverse),some (F_slices_IndexFunc_SSint64_Sint64,pol_slices_IndexFunc_SSint64_Sint64),some (F_impl_eliminate_1,pol_impl_eliminate_1),some (F_impl_inverseOf,pol_impl_inverseOf),some (F_slices_Index_Sint64_int64,pol_slices_Index_Sint64_int64),some (F_impl_filled,pol_impl_filled),some (F_impl_zero_1,pol_impl_zero_1),some (F_impl_facesOf,pol_impl_facesOf),some (F_impl_indexOf,pol_impl_indexOf),some (F_impl_firstMap,pol_impl_firstMap),some (F_impl_areStalks,pol_impl_areStalks),some (F_impl_arrows,pol_impl_arrows),some (F_impl_isBetween,pol_impl_isBetween),some (F_impl_SameMatrix,pol_impl_SameMatrix),some (F_impl_unit_1,pol_impl_unit_1),some (F_impl_columnsOf,pol_impl_columnsOf),some (F_impl_product_1,pol_impl_product_1),none,none,none,none,none,some (F_spec_l05Simplex,pol_spec_l05Simplex),some (F_spec_l05Before,pol_spec_l05Before),some (F_spec_l02Prime,pol_spec_l02Prime),some (F_impl_ValidSimplex,pol_impl_ValidSimplex),some (F_impl_compareSimplices,pol_impl_compareSimplices),some (F_slices_ContainsFunc_SSint64_Sint64,pol_slices_ContainsFunc_SSint64_Sint64),some (F_impl_ValidComplex_1,pol_impl_ValidComplex_1),some (F_spec_l03Ok,pol_spec_l03Ok),some (F_spec_l00Same,pol_spec_l00Same),some (F_impl_areElements_1,pol_impl_areElements_1),some (F_impl_isElement,pol_impl_isElement),some (F_impl_powerOf,pol_impl_powerOf),some (F_slices_BinarySearchFunc_SSint64_Sint64_Sint64,pol_slices_BinarySearchFunc_SSint64_Sint64_Sint64),some (F_impl_areStalks_1,pol_impl_areStalks_1),some (F_impl_ValidMatrix,pol_impl_ValidMatrix),some (F_slices_Equal_Sint64_int64,pol_slices_Equal_Sint64_int64),some (F_impl_transpose,pol_impl_transpose),none,some (F_impl_ValidSimplex_1,pol_impl_ValidSimplex_1),some (F_impl_isVertex,pol_impl_isVertex),some (F_cmp_Or_int,pol_cmp_Or_int),some (F_cmp_Compare_int,pol_cmp_Compare_int),some (F_slices_Compare_Sint64_int64,pol_slices_Compare_Sint64_int64),some (F_impl_isSide,pol_impl_isSide),some (F_impl_transpose_1,pol_impl_transpose_1),none,some (F_cmp_isNaN_int,pol_cmp_isNaN_int),some (F_cmp_Compare_int64,pol_cmp_Compare_int64),none,some (F_cmp_isNaN_int64,pol_cmp_isNaN_int64),none,none,none,none,none,none,none,none,none,none,none,none,none,none,none,none]
noncomputable def primL:List (Option (Run → List Dv → Option Dv)) := [none,none,none,none,none,none,none,none,none,none,none,none,none,none,none,none,none,none,none,none,none,none,none,none,none,none,none,none,some (pMarkSS n_laws_markInt64S),none,none,none,none,none,none,none,none,none,none,none,none,none,none,none,none,none,none,none,none,none,none,none,none,none,none,none,none,none,none,none,none,none,none,none,none,some (pMarkMS n_laws_markInt64S),none,none,none,none,none,none,none,none,none,none,none,none,none,none,none,none,none,none,none,none,none,none,none,none,none,none,none,none,none,none,none,none,none,none,none,none,none,none,none,none,none,none,none,none,none,none,none,none,none,none,none,none,none,none,none,none,none,none,none,none,none,none,none,none,none,none,none,none,none,none,none,none,none,none,none,none,none,none,none,none,none,none,none,none,none,none,none,none,none,none,none,none,none,none,none,none,none,none,none,none,none,none,none,none,none,none,none,none,none,none,none,none,none,some (pGrow yI),none,none,none,none,none,none,none,none,none,none,none,none,none,none,none,none,none,none,none,none,none,none,none,none,none,none,none,none,none,none,none,none,none,none,none,none,none,none,none,none,none,none,none,none,none,none,none,none,none,none,none,none,none,none,none,none,none,none,none,none,none,none,none,none,none,none,none,none,none,none,none,none,none,none,none,none,none,none,none,none,none,none,none,none,none,none,none,none,none,none,none,none,none]
noncomputable def E:Env := { P := Tryz.prog,fn := fun f => fnL.getD f none,prim := fun f => primL.getD f none,sig := fun f => sigL.getD f none }
theorem sig_laws_FnExactExtendSection_eq:E.sig n_laws_FnExactExtendSection = some sg_laws_FnExactExtendSection := rfl
theorem run_laws_FnExactExtendSection (n:Nat) (args:List Dv):run E (n + 1) n_laws_FnExactExtendSection args = evFn E (mkR (run E n)) sg_laws_FnExactExtendSection pol_laws_FnExactExtendSection F_laws_FnExactExtendSection n args := rfl
theorem sig_laws_szSheaf_eq:E.sig n_laws_szSheaf = some sg_laws_szSheaf := rfl
theorem run_laws_szSheaf (n:Nat) (args:List Dv):run E (n + 1) n_laws_szSheaf args = evFn E (mkR (run E n)) sg_laws_szSheaf pol_laws_szSheaf F_laws_szSheaf n args := rfl
theorem sig_laws_toSheaf_eq:E.sig n_laws_toSheaf = some sg_laws_toSheaf := rfl
theorem run_laws_toSheaf (n:Nat) (args:List Dv):run E (n + 1) n_laws_toSheaf args = evFn E (mkR (run E n)) sg_laws_toSheaf pol_laws_toSheaf F_laws_toSheaf n args := rfl
theorem sig_laws_toInt64S_eq:E.sig n_laws_toInt64S = some sg_laws_toInt64S := rfl
theorem run_laws_toInt64S (n:Nat) (args:List Dv):run E (n + 1) n_laws_toInt64S args = evFn E (mkR (run E n)) sg_laws_toInt64S pol_laws_toInt64S F_laws_toInt64S n args := rfl
theorem sig_laws_eqInt64S_eq:E.sig n_laws_eqInt64S = some sg_laws_eqInt64S := rfl
theorem run_laws_eqInt64S (n:Nat) (args:List Dv):run E (n + 1) n_laws_eqInt64S args = evFn E (mkR (run E n)) sg_laws_eqInt64S pol_laws_eqInt64S F_laws_eqInt64S n args := rfl
theorem sig_laws_eqSheaf_eq:E.sig n_laws_eqSheaf = some sg_laws_eqSheaf := rfl
theorem run_laws_eqSheaf (n:Nat) (args:List Dv):run E (n + 1) n_laws_eqSheaf args = evFn E (mkR (run E n)) sg_laws_eqSheaf pol_laws_eqSheaf F_laws_eqSheaf n args := rfl
theorem sig_laws_markSheaf_eq:E.sig n_laws_markSheaf = some sg_laws_markSheaf := rfl
theorem run_laws_markSheaf (n:Nat) (args:List Dv):run E (n + 1) n_laws_markSheaf args = evFn E (mkR (run E n)) sg_laws_markSheaf pol_laws_markSheaf F_laws_markSheaf n args := rfl
theorem sig_laws_markInt64S_eq:E.sig n_laws_markInt64S = some sg_laws_markInt64S := rfl
theorem run_laws_markInt64S (n:Nat) (args:List Dv):run E (n + 1) n_laws_markInt64S args = evFn E (mkR (run E n)) sg_laws_markInt64S pol_laws_markInt64S F_laws_markInt64S n args := rfl
theorem sig_laws_heldInt64S_eq:E.sig n_laws_heldInt64S = some sg_laws_heldInt64S := rfl
theorem run_laws_heldInt64S (n:Nat) (args:List Dv):run E (n + 1) n_laws_heldInt64S args = evFn E (mkR (run E n)) sg_laws_heldInt64S pol_laws_heldInt64S F_laws_heldInt64S n args := rfl
theorem sig_laws_eqInt64SS_eq:E.sig n_laws_eqInt64SS = some sg_laws_eqInt64SS := rfl
theorem run_laws_eqInt64SS (n:Nat) (args:List Dv):run E (n + 1) n_laws_eqInt64SS args = evFn E (mkR (run E n)) sg_laws_eqInt64SS pol_laws_eqInt64SS F_laws_eqInt64SS n args := rfl
theorem sig_laws_markInt64SS_eq:E.sig n_laws_markInt64SS = some sg_laws_markInt64SS := rfl
theorem sig_spec_ExtendSection_eq:E.sig n_spec_ExtendSection = some sg_spec_ExtendSection := rfl
theorem run_spec_ExtendSection (n:Nat) (args:List Dv):run E (n + 1) n_spec_ExtendSection args = evFn E (mkR (run E n)) sg_spec_ExtendSection pol_spec_ExtendSection F_spec_ExtendSection n args := rfl
theorem sig_impl_ExtendSection_eq:E.sig n_impl_ExtendSection = some sg_impl_ExtendSection := rfl
theorem run_impl_ExtendSection (n:Nat) (args:List Dv):run E (n + 1) n_impl_ExtendSection args = evFn E (mkR (run E n)) sg_impl_ExtendSection pol_impl_ExtendSection F_impl_ExtendSection n args := rfl
theorem sig_laws_szComplex_eq:E.sig n_laws_szComplex = some sg_laws_szComplex := rfl
theorem run_laws_szComplex (n:Nat) (args:List Dv):run E (n + 1) n_laws_szComplex args = evFn E (mkR (run E n)) sg_laws_szComplex pol_laws_szComplex F_laws_szComplex n args := rfl
theorem sig_laws_toComplex_eq:E.sig n_laws_toComplex = some sg_laws_toComplex := rfl
theorem run_laws_toComplex (n:Nat) (args:List Dv):run E (n + 1) n_laws_toComplex args = evFn E (mkR (run E n)) sg_laws_toComplex pol_laws_toComplex F_laws_toComplex n args := rfl
theorem sig_laws_eqComplex_eq:E.sig n_laws_eqComplex = some sg_laws_eqComplex := rfl
theorem run_laws_eqComplex (n:Nat) (args:List Dv):run E (n + 1) n_laws_eqComplex args = evFn E (mkR (run E n)) sg_laws_eqComplex pol_laws_eqComplex F_laws_eqComplex n args := rfl
theorem sig_laws_markComplex_eq:E.sig n_laws_markComplex = some sg_laws_markComplex := rfl
theorem run_laws_markComplex (n:Nat) (args:List Dv):run E (n + 1) n_laws_markComplex args = evFn E (mkR (run E n)) sg_laws_markComplex pol_laws_markComplex F_laws_markComplex n args := rfl
theorem sig_laws_szInt64S_eq:E.sig n_laws_szInt64S = some sg_laws_szInt64S := rfl
theorem run_laws_szInt64S (n:Nat) (args:List Dv):run E (n + 1) n_laws_szInt64S args = evFn E (mkR (run E n)) sg_laws_szInt64S pol_laws_szInt64S F_laws_szInt64S n args := rfl
theorem sig_laws_szMatrixS_eq:E.sig n_laws_szMatrixS = some sg_laws_szMatrixS := rfl
theorem run_laws_szMatrixS (n:Nat) (args:List Dv):run E (n + 1) n_laws_szMatrixS args = evFn E (mkR (run E n)) sg_laws_szMatrixS pol_laws_szMatrixS F_laws_szMatrixS n args := rfl
theorem sig_spec_l09Is_eq:E.sig n_spec_l09Is = some sg_spec_l09Is := rfl
theorem run_spec_l09Is (n:Nat) (args:List Dv):run E (n + 1) n_spec_l09Is args = evFn E (mkR (run E n)) sg_spec_l09Is pol_spec_l09Is F_spec_l09Is n args := rfl
theorem sig_spec_l10Places_eq:E.sig n_spec_l10Places = some sg_spec_l10Places := rfl
theorem run_spec_l10Places (n:Nat) (args:List Dv):run E (n + 1) n_spec_l10Places args = evFn E (mkR (run E n)) sg_spec_l10Places pol_spec_l10Places F_spec_l10Places n args := rfl
theorem sig_laws_toMatrixS_eq:E.sig n_laws_toMatrixS = some sg_laws_toMatrixS := rfl
theorem run_laws_toMatrixS (n:Nat) (args:List Dv):run E (n + 1) n_laws_toMatrixS args = evFn E (mkR (run E n)) sg_laws_toMatrixS pol_laws_toMatrixS F_laws_toMatrixS n args := rfl
theorem sig_impl_placed_eq:E.sig n_impl_placed = some sg_impl_placed := rfl
theorem run_impl_placed (n:Nat) (args:List Dv):run E (n + 1) n_impl_placed args = evFn E (mkR (run E n)) sg_impl_placed pol_impl_placed F_impl_placed n args := rfl
theorem sig_laws_eqMatrixS_eq:E.sig n_laws_eqMatrixS = some sg_laws_eqMatrixS := rfl
theorem run_laws_eqMatrixS (n:Nat) (args:List Dv):run E (n + 1) n_laws_eqMatrixS args = evFn E (mkR (run E n)) sg_laws_eqMatrixS pol_laws_eqMatrixS F_laws_eqMatrixS n args := rfl
theorem sig_laws_markMatrixS_eq:E.sig n_laws_markMatrixS = some sg_laws_markMatrixS := rfl
theorem sig_impl_coboundaryMatrix_eq:E.sig n_impl_coboundaryMatrix = some sg_impl_coboundaryMatrix := rfl
theorem run_impl_coboundaryMatrix (n:Nat) (args:List Dv):run E (n + 1) n_impl_coboundaryMatrix args = evFn E (mkR (run E n)) sg_impl_coboundaryMatrix pol_impl_coboundaryMatrix F_impl_coboundaryMatrix n args := rfl
theorem sig_spec_l10All_eq:E.sig n_spec_l10All = some sg_spec_l10All := rfl
theorem run_spec_l10All (n:Nat) (args:List Dv):run E (n + 1) n_spec_l10All args = evFn E (mkR (run E n)) sg_spec_l10All pol_spec_l10All F_spec_l10All n args := rfl
theorem sig_spec_l10Conditions_eq:E.sig n_spec_l10Conditions = some sg_spec_l10Conditions := rfl
theorem run_spec_l10Conditions (n:Nat) (args:List Dv):run E (n + 1) n_spec_l10Conditions args = evFn E (mkR (run E n)) sg_spec_l10Conditions pol_spec_l10Conditions F_spec_l10Conditions n args := rfl
theorem sig_impl_IsSheaf_eq:E.sig n_impl_IsSheaf = some sg_impl_IsSheaf := rfl
theorem run_impl_IsSheaf (n:Nat) (args:List Dv):run E (n + 1) n_impl_IsSheaf args = evFn E (mkR (run E n)) sg_impl_IsSheaf pol_impl_IsSheaf F_impl_IsSheaf n args := rfl
theorem sig_impl_addTimes_eq:E.sig n_impl_addTimes = some sg_impl_addTimes := rfl
theorem run_impl_addTimes (n:Nat) (args:List Dv):run E (n + 1) n_impl_addTimes args = evFn E (mkR (run E n)) sg_impl_addTimes pol_impl_addTimes F_impl_addTimes n args := rfl
theorem sig_spec_l10Many_eq:E.sig n_spec_l10Many = some sg_spec_l10Many := rfl
theorem run_spec_l10Many (n:Nat) (args:List Dv):run E (n + 1) n_spec_l10Many args = evFn E (mkR (run E n)) sg_spec_l10Many pol_spec_l10Many F_spec_l10Many n args := rfl
theorem sig_spec_l09Restrict_eq:E.sig n_spec_l09Restrict = some sg_spec_l09Restrict := rfl
theorem run_spec_l09Restrict (n:Nat) (args:List Dv):run E (n + 1) n_spec_l09Restrict args = evFn E (mkR (run E n)) sg_spec_l09Restrict pol_spec_l09Restrict F_spec_l09Restrict n args := rfl
theorem sig_spec_l03Unit_eq:E.sig n_spec_l03Unit = some sg_spec_l03Unit := rfl
theorem run_spec_l03Unit (n:Nat) (args:List Dv):run E (n + 1) n_spec_l03Unit args = evFn E (mkR (run E n)) sg_spec_l03Unit pol_spec_l03Unit F_spec_l03Unit n args := rfl
theorem sig_spec_l10Rows_eq:E.sig n_spec_l10Rows = some sg_spec_l10Rows := rfl
theorem run_spec_l10Rows (n:Nat) (args:List Dv):run E (n + 1) n_spec_l10Rows args = evFn E (mkR (run E n)) sg_spec_l10Rows pol_spec_l10Rows F_spec_l10Rows n args := rfl
theorem sig_spec_l10Sum_eq:E.sig n_spec_l10Sum = some sg_spec_l10Sum := rfl
theorem run_spec_l10Sum (n:Nat) (args:List Dv):run E (n + 1) n_spec_l10Sum args = evFn E (mkR (run E n)) sg_spec_l10Sum pol_spec_l10Sum F_spec_l10Sum n args := rfl
theorem sig_impl_offsets_eq:E.sig n_impl_offsets = some sg_impl_offsets := rfl
theorem run_impl_offsets (n:Nat) (args:List Dv):run E (n + 1) n_impl_offsets args = evFn E (mkR (run E n)) sg_impl_offsets pol_impl_offsets F_impl_offsets n args := rfl
theorem sig_impl_rowsOf_eq:E.sig n_impl_rowsOf = some sg_impl_rowsOf := rfl
theorem run_impl_rowsOf (n:Nat) (args:List Dv):run E (n + 1) n_impl_rowsOf args = evFn E (mkR (run E n)) sg_impl_rowsOf pol_impl_rowsOf F_impl_rowsOf n args := rfl
theorem sig_impl_restriction_eq:E.sig n_impl_restriction = some sg_impl_restriction := rfl
theorem run_impl_restriction (n:Nat) (args:List Dv):run E (n + 1) n_impl_restriction args = evFn E (mkR (run E n)) sg_impl_restriction pol_impl_restriction F_impl_restriction n args := rfl
theorem sig_impl_matrixOf_eq:E.sig n_impl_matrixOf = some sg_impl_matrixOf := rfl
theorem run_impl_matrixOf (n:Nat) (args:List Dv):run E (n + 1) n_impl_matrixOf args = evFn E (mkR (run E n)) sg_impl_matrixOf pol_impl_matrixOf F_impl_matrixOf n args := rfl
theorem sig_spec_l10Ask_eq:E.sig n_spec_l10Ask = some sg_spec_l10Ask := rfl
theorem run_spec_l10Ask (n:Nat) (args:List Dv):run E (n + 1) n_spec_l10Ask args = evFn E (mkR (run E n)) sg_spec_l10Ask pol_spec_l10Ask F_spec_l10Ask n args := rfl
theorem sig_spec_l10Given_eq:E.sig n_spec_l10Given = some sg_spec_l10Given := rfl
theorem run_spec_l10Given (n:Nat) (args:List Dv):run E (n + 1) n_spec_l10Given args = evFn E (mkR (run E n)) sg_spec_l10Given pol_spec_l10Given F_spec_l10Given n args := rfl
theorem sig_spec_l04Rows_eq:E.sig n_spec_l04Rows = some sg_spec_l04Rows := rfl
theorem run_spec_l04Rows (n:Nat) (args:List Dv):run E (n + 1) n_spec_l04Rows args = evFn E (mkR (run E n)) sg_spec_l04Rows pol_spec_l04Rows F_spec_l04Rows n args := rfl
theorem sig_spec_l03Solve_eq:E.sig n_spec_l03Solve = some sg_spec_l03Solve := rfl
theorem run_spec_l03Solve (n:Nat) (args:List Dv):run E (n + 1) n_spec_l03Solve args = evFn E (mkR (run E n)) sg_spec_l03Solve pol_spec_l03Solve F_spec_l03Solve n args := rfl
theorem sig_spec_l00Own_eq:E.sig n_spec_l00Own = some sg_spec_l00Own := rfl
theorem run_spec_l00Own (n:Nat) (args:List Dv):run E (n + 1) n_spec_l00Own args = evFn E (mkR (run E n)) sg_spec_l00Own pol_spec_l00Own F_spec_l00Own n args := rfl
theorem sig_impl_localized_eq:E.sig n_impl_localized = some sg_impl_localized := rfl
theorem run_impl_localized (n:Nat) (args:List Dv):run E (n + 1) n_impl_localized args = evFn E (mkR (run E n)) sg_impl_localized pol_impl_localized F_impl_localized n args := rfl
theorem sig_impl_solve_eq:E.sig n_impl_solve = some sg_impl_solve := rfl
theorem run_impl_solve (n:Nat) (args:List Dv):run E (n + 1) n_impl_solve args = evFn E (mkR (run E n)) sg_impl_solve pol_impl_solve F_impl_solve n args := rfl
theorem sig_impl_conditions_eq:E.sig n_impl_conditions = some sg_impl_conditions := rfl
theorem run_impl_conditions (n:Nat) (args:List Dv):run E (n + 1) n_impl_conditions args = evFn E (mkR (run E n)) sg_impl_conditions pol_impl_conditions F_impl_conditions n args := rfl
theorem sig_slices_Concat_Sint64_int64_eq:E.sig n_slices_Concat_Sint64_int64 = some sg_slices_Concat_Sint64_int64 := rfl
theorem run_slices_Concat_Sint64_int64 (n:Nat) (args:List Dv):run E (n + 1) n_slices_Concat_Sint64_int64 args = evFn E (mkR (run E n)) sg_slices_Concat_Sint64_int64 pol_slices_Concat_Sint64_int64 F_slices_Concat_Sint64_int64 n args := rfl
theorem sig_impl_stalkSum_eq:E.sig n_impl_stalkSum = some sg_impl_stalkSum := rfl
theorem run_impl_stalkSum (n:Nat) (args:List Dv):run E (n + 1) n_impl_stalkSum args = evFn E (mkR (run E n)) sg_impl_stalkSum pol_impl_stalkSum F_impl_stalkSum n args := rfl
theorem sig_spec_l00In_eq:E.sig n_spec_l00In = some sg_spec_l00In := rfl
theorem run_spec_l00In (n:Nat) (args:List Dv):run E (n + 1) n_spec_l00In args = evFn E (mkR (run E n)) sg_spec_l00In pol_spec_l00In F_spec_l00In n args := rfl
theorem sig_spec_l05Of_eq:E.sig n_spec_l05Of = some sg_spec_l05Of := rfl
theorem run_spec_l05Of (n:Nat) (args:List Dv):run E (n + 1) n_spec_l05Of args = evFn E (mkR (run E n)) sg_spec_l05Of pol_spec_l05Of F_spec_l05Of n args := rfl
theorem sig_impl_size_int64_eq:E.sig n_impl_size_int64 = some sg_impl_size_int64 := rfl
theorem run_impl_size_int64 (n:Nat) (args:List Dv):run E (n + 1) n_impl_size_int64 args = evFn E (mkR (run E n)) sg_impl_size_int64 pol_impl_size_int64 F_impl_size_int64 n args := rfl
theorem sig_laws_szInt64SS_eq:E.sig n_laws_szInt64SS = some sg_laws_szInt64SS := rfl
theorem run_laws_szInt64SS (n:Nat) (args:List Dv):run E (n + 1) n_laws_szInt64SS args = evFn E (mkR (run E n)) sg_laws_szInt64SS pol_laws_szInt64SS F_laws_szInt64SS n args := rfl
theorem sig_laws_toInt64SS_eq:E.sig n_laws_toInt64SS = some sg_laws_toInt64SS := rfl
theorem run_laws_toInt64SS (n:Nat) (args:List Dv):run E (n + 1) n_laws_toInt64SS args = evFn E (mkR (run E n)) sg_laws_toInt64SS pol_laws_toInt64SS F_laws_toInt64SS n args := rfl
theorem sig_laws_szMatrix_eq:E.sig n_laws_szMatrix = some sg_laws_szMatrix := rfl
theorem run_laws_szMatrix (n:Nat) (args:List Dv):run E (n + 1) n_laws_szMatrix args = evFn E (mkR (run E n)) sg_laws_szMatrix pol_laws_szMatrix F_laws_szMatrix n args := rfl
theorem sig_spec_l09Ok_eq:E.sig n_spec_l09Ok = some sg_spec_l09Ok := rfl
theorem run_spec_l09Ok (n:Nat) (args:List Dv):run E (n + 1) n_spec_l09Ok args = evFn E (mkR (run E n)) sg_spec_l09Ok pol_spec_l09Ok F_spec_l09Ok n args := rfl
theorem sig_spec_l09Wrong_eq:E.sig n_spec_l09Wrong = some sg_spec_l09Wrong := rfl
theorem run_spec_l09Wrong (n:Nat) (args:List Dv):run E (n + 1) n_spec_l09Wrong args = evFn E (mkR (run E n)) sg_spec_l09Wrong pol_spec_l09Wrong F_spec_l09Wrong n args := rfl
theorem sig_spec_l00Rises_eq:E.sig n_spec_l00Rises = some sg_spec_l00Rises := rfl
theorem run_spec_l00Rises (n:Nat) (args:List Dv):run E (n + 1) n_spec_l00Rises args = evFn E (mkR (run E n)) sg_spec_l00Rises pol_spec_l00Rises F_spec_l00Rises n args := rfl
theorem sig_spec_l10First_eq:E.sig n_spec_l10First = some sg_spec_l10First := rfl
theorem run_spec_l10First (n:Nat) (args:List Dv):run E (n + 1) n_spec_l10First args = evFn E (mkR (run E n)) sg_spec_l10First pol_spec_l10First F_spec_l10First n args := rfl
theorem sig_spec_l10Start_eq:E.sig n_spec_l10Start = some sg_spec_l10Start := rfl
theorem run_spec_l10Start (n:Nat) (args:List Dv):run E (n + 1) n_spec_l10Start args = evFn E (mkR (run E n)) sg_spec_l10Start pol_spec_l10Start F_spec_l10Start n args := rfl
theorem sig_laws_toMatrix_eq:E.sig n_laws_toMatrix = some sg_laws_toMatrix := rfl
theorem run_laws_toMatrix (n:Nat) (args:List Dv):run E (n + 1) n_laws_toMatrix args = evFn E (mkR (run E n)) sg_laws_toMatrix pol_laws_toMatrix F_laws_toMatrix n args := rfl
theorem sig_impl_arePlaces_eq:E.sig n_impl_arePlaces = some sg_impl_arePlaces := rfl
theorem run_impl_arePlaces (n:Nat) (args:List Dv):run E (n + 1) n_impl_arePlaces args = evFn E (mkR (run E n)) sg_impl_arePlaces pol_impl_arePlaces F_impl_arePlaces n args := rfl
theorem sig_impl_isVector_eq:E.sig n_impl_isVector = some sg_impl_isVector := rfl
theorem run_impl_isVector (n:Nat) (args:List Dv):run E (n + 1) n_impl_isVector args = evFn E (mkR (run E n)) sg_impl_isVector pol_impl_isVector F_impl_isVector n args := rfl
theorem sig_laws_eqMatrix_eq:E.sig n_laws_eqMatrix = some sg_laws_eqMatrix := rfl
theorem run_laws_eqMatrix (n:Nat) (args:List Dv):run E (n + 1) n_laws_eqMatrix args = evFn E (mkR (run E n)) sg_laws_eqMatrix pol_laws_eqMatrix F_laws_eqMatrix n args := rfl
theorem sig_spec_l03Zero_eq:E.sig n_spec_l03Zero = some sg_spec_l03Zero := rfl
theorem run_spec_l03Zero (n:Nat) (args:List Dv):run E (n + 1) n_spec_l03Zero args = evFn E (mkR (run E n)) sg_spec_l03Zero pol_spec_l03Zero F_spec_l03Zero n args := rfl
theorem sig_spec_l09Sum_eq:E.sig n_spec_l09Sum = some sg_spec_l09Sum := rfl
theorem run_spec_l09Sum (n:Nat) (args:List Dv):run E (n + 1) n_spec_l09Sum args = evFn E (mkR (run E n)) sg_spec_l09Sum pol_spec_l09Sum F_spec_l09Sum n args := rfl
theorem sig_spec_l05Faces_eq:E.sig n_spec_l05Faces = some sg_spec_l05Faces := rfl
theorem run_spec_l05Faces (n:Nat) (args:List Dv):run E (n + 1) n_spec_l05Faces args = evFn E (mkR (run E n)) sg_spec_l05Faces pol_spec_l05Faces F_spec_l05Faces n args := rfl
theorem sig_spec_l09Get_eq:E.sig n_spec_l09Get = some sg_spec_l09Get := rfl
theorem run_spec_l09Get (n:Nat) (args:List Dv):run E (n + 1) n_spec_l09Get args = evFn E (mkR (run E n)) sg_spec_l09Get pol_spec_l09Get F_spec_l09Get n args := rfl
theorem sig_spec_l03Reduced_eq:E.sig n_spec_l03Reduced = some sg_spec_l03Reduced := rfl
theorem run_spec_l03Reduced (n:Nat) (args:List Dv):run E (n + 1) n_spec_l03Reduced args = evFn E (mkR (run E n)) sg_spec_l03Reduced pol_spec_l03Reduced F_spec_l03Reduced n args := rfl
theorem sig_spec_l00Has_eq:E.sig n_spec_l00Has = some sg_spec_l00Has := rfl
theorem run_spec_l00Has (n:Nat) (args:List Dv):run E (n + 1) n_spec_l00Has args = evFn E (mkR (run E n)) sg_spec_l00Has pol_spec_l00Has F_spec_l00Has n args := rfl
theorem sig_spec_l03Mod_eq:E.sig n_spec_l03Mod = some sg_spec_l03Mod := rfl
theorem run_spec_l03Mod (n:Nat) (args:List Dv):run E (n + 1) n_spec_l03Mod args = evFn E (mkR (run E n)) sg_spec_l03Mod pol_spec_l03Mod F_spec_l03Mod n args := rfl
theorem sig_impl_eliminate_eq:E.sig n_impl_eliminate = some sg_impl_eliminate := rfl
theorem run_impl_eliminate (n:Nat) (args:List Dv):run E (n + 1) n_impl_eliminate args = evFn E (mkR (run E n)) sg_impl_eliminate pol_impl_eliminate F_impl_eliminate n args := rfl
theorem sig_slices_Contains_Sint64_int64_eq:E.sig n_slices_Contains_Sint64_int64 = some sg_slices_Contains_Sint64_int64 := rfl
theorem run_slices_Contains_Sint64_int64 (n:Nat) (args:List Dv):run E (n + 1) n_slices_Contains_Sint64_int64 args = evFn E (mkR (run E n)) sg_slices_Contains_Sint64_int64 pol_slices_Contains_Sint64_int64 F_slices_Contains_Sint64_int64 n args := rfl
theorem sig_impl_reduce_eq:E.sig n_impl_reduce = some sg_impl_reduce := rfl
theorem run_impl_reduce (n:Nat) (args:List Dv):run E (n + 1) n_impl_reduce args = evFn E (mkR (run E n)) sg_impl_reduce pol_impl_reduce F_impl_reduce n args := rfl
theorem sig_impl_zero_eq:E.sig n_impl_zero = some sg_impl_zero := rfl
theorem run_impl_zero (n:Nat) (args:List Dv):run E (n + 1) n_impl_zero args = evFn E (mkR (run E n)) sg_impl_zero pol_impl_zero F_impl_zero n args := rfl
theorem sig_impl_simplicesOf_eq:E.sig n_impl_simplicesOf = some sg_impl_simplicesOf := rfl
theorem run_impl_simplicesOf (n:Nat) (args:List Dv):run E (n + 1) n_impl_simplicesOf args = evFn E (mkR (run E n)) sg_impl_simplicesOf pol_impl_simplicesOf F_impl_simplicesOf n args := rfl
theorem sig_impl_faceIndices_eq:E.sig n_impl_faceIndices = some sg_impl_faceIndices := rfl
theorem run_impl_faceIndices (n:Nat) (args:List Dv):run E (n + 1) n_impl_faceIndices args = evFn E (mkR (run E n)) sg_impl_faceIndices pol_impl_faceIndices F_impl_faceIndices n args := rfl
theorem sig_impl_direct_eq:E.sig n_impl_direct = some sg_impl_direct := rfl
theorem run_impl_direct (n:Nat) (args:List Dv):run E (n + 1) n_impl_direct args = evFn E (mkR (run E n)) sg_impl_direct pol_impl_direct F_impl_direct n args := rfl
theorem sig_impl_firstColumn_eq:E.sig n_impl_firstColumn = some sg_impl_firstColumn := rfl
theorem run_impl_firstColumn (n:Nat) (args:List Dv):run E (n + 1) n_impl_firstColumn args = evFn E (mkR (run E n)) sg_impl_firstColumn pol_impl_firstColumn F_impl_firstColumn n args := rfl
theorem sig_impl_Matrix_at_eq:E.sig n_impl_Matrix_at = some sg_impl_Matrix_at := rfl
theorem run_impl_Matrix_at (n:Nat) (args:List Dv):run E (n + 1) n_impl_Matrix_at args = evFn E (mkR (run E n)) sg_impl_Matrix_at pol_impl_Matrix_at F_impl_Matrix_at n args := rfl
theorem sig_impl_alternating_eq:E.sig n_impl_alternating = some sg_impl_alternating := rfl
theorem run_impl_alternating (n:Nat) (args:List Dv):run E (n + 1) n_impl_alternating args = evFn E (mkR (run E n)) sg_impl_alternating pol_impl_alternating F_impl_alternating n args := rfl
theorem sig_impl_ValidSheaf_eq:E.sig n_impl_ValidSheaf = some sg_impl_ValidSheaf := rfl
theorem run_impl_ValidSheaf (n:Nat) (args:List Dv):run E (n + 1) n_impl_ValidSheaf args = evFn E (mkR (run E n)) sg_impl_ValidSheaf pol_impl_ValidSheaf F_impl_ValidSheaf n args := rfl
theorem sig_impl_wrongSquare_eq:E.sig n_impl_wrongSquare = some sg_impl_wrongSquare := rfl
theorem run_impl_wrongSquare (n:Nat) (args:List Dv):run E (n + 1) n_impl_wrongSquare args = evFn E (mkR (run E n)) sg_impl_wrongSquare pol_impl_wrongSquare F_impl_wrongSquare n args := rfl
theorem sig_spec_l03Column_eq:E.sig n_spec_l03Column = some sg_spec_l03Column := rfl
theorem run_spec_l03Column (n:Nat) (args:List Dv):run E (n + 1) n_spec_l03Column args = evFn E (mkR (run E n)) sg_spec_l03Column pol_spec_l03Column F_spec_l03Column n args := rfl
theorem sig_impl_size_Sint64_eq:E.sig n_impl_size_Sint64 = some sg_impl_size_Sint64 := rfl
theorem run_impl_size_Sint64 (n:Nat) (args:List Dv):run E (n + 1) n_impl_size_Sint64 args = evFn E (mkR (run E n)) sg_impl_size_Sint64 pol_impl_size_Sint64 F_impl_size_Sint64 n args := rfl
theorem sig_spec_l03Times_eq:E.sig n_spec_l03Times = some sg_spec_l03Times := rfl
theorem run_spec_l03Times (n:Nat) (args:List Dv):run E (n + 1) n_spec_l03Times args = evFn E (mkR (run E n)) sg_spec_l03Times pol_spec_l03Times F_spec_l03Times n args := rfl
theorem sig_spec_l02Add_eq:E.sig n_spec_l02Add = some sg_spec_l02Add := rfl
theorem run_spec_l02Add (n:Nat) (args:List Dv):run E (n + 1) n_spec_l02Add args = evFn E (mkR (run E n)) sg_spec_l02Add pol_spec_l02Add F_spec_l02Add n args := rfl
theorem sig_slices_ContainsFunc_Sint64_int64_eq:E.sig n_slices_ContainsFunc_Sint64_int64 = some sg_slices_ContainsFunc_Sint64_int64 := rfl
theorem run_slices_ContainsFunc_Sint64_int64 (n:Nat) (args:List Dv):run E (n + 1) n_slices_ContainsFunc_Sint64_int64 args = evFn E (mkR (run E n)) sg_slices_ContainsFunc_Sint64_int64 pol_slices_ContainsFunc_Sint64_int64 F_slices_ContainsFunc_Sint64_int64 n args := rfl
theorem sig_slices_Clone_Sint64_int64_eq:E.sig n_slices_Clone_Sint64_int64 = some sg_slices_Clone_Sint64_int64 := rfl
theorem run_slices_Clone_Sint64_int64 (n:Nat) (args:List Dv):run E (n + 1) n_slices_Clone_Sint64_int64 args = evFn E (mkR (run E n)) sg_slices_Clone_Sint64_int64 pol_slices_Clone_Sint64_int64 F_slices_Clone_Sint64_int64 n args := rfl
theorem sig_impl_Matrix_row_eq:E.sig n_impl_Matrix_row = some sg_impl_Matrix_row := rfl
theorem run_impl_Matrix_row (n:Nat) (args:List Dv):run E (n + 1) n_impl_Matrix_row args = evFn E (mkR (run E n)) sg_impl_Matrix_row pol_impl_Matrix_row F_impl_Matrix_row n args := rfl
theorem sig_impl_unit_eq:E.sig n_impl_unit = some sg_impl_unit := rfl
theorem run_impl_unit (n:Nat) (args:List Dv):run E (n + 1) n_impl_unit args = evFn E (mkR (run E n)) sg_impl_unit pol_impl_unit F_impl_unit n args := rfl
theorem sig_slices_IndexFunc_Sint64_int64_eq:E.sig n_slices_IndexFunc_Sint64_int64 = some sg_slices_IndexFunc_Sint64_int64 := rfl
theorem run_slices_IndexFunc_Sint64_int64 (n:Nat) (args:List Dv):run E (n + 1) n_slices_IndexFunc_Sint64_int64 args = evFn E (mkR (run E n)) sg_slices_IndexFunc_Sint64_int64 pol_slices_IndexFunc_Sint64_int64 F_slices_IndexFunc_Sint64_int64 n args := rfl
theorem sig_impl_restriction_1_eq:E.sig n_impl_restriction_1 = some sg_impl_restriction_1 := rfl
theorem run_impl_restriction_1 (n:Nat) (args:List Dv):run E (n + 1) n_impl_restriction_1 args = evFn E (mkR (run E n)) sg_impl_restriction_1 pol_impl_restriction_1 F_impl_restriction_1 n args := rfl
theorem sig_impl_product_eq:E.sig n_impl_product = some sg_impl_product := rfl
theorem run_impl_product (n:Nat) (args:List Dv):run E (n + 1) n_impl_product args = evFn E (mkR (run E n)) sg_impl_product pol_impl_product F_impl_product n args := rfl
theorem sig_spec_l10Data_eq:E.sig n_spec_l10Data = some sg_spec_l10Data := rfl
theorem run_spec_l10Data (n:Nat) (args:List Dv):run E (n + 1) n_spec_l10Data args = evFn E (mkR (run E n)) sg_spec_l10Data pol_spec_l10Data F_spec_l10Data n args := rfl
theorem sig_spec_l03Join_eq:E.sig n_spec_l03Join = some sg_spec_l03Join := rfl
theorem run_spec_l03Join (n:Nat) (args:List Dv):run E (n + 1) n_spec_l03Join args = evFn E (mkR (run E n)) sg_spec_l03Join pol_spec_l03Join F_spec_l03Join n args := rfl
theorem sig_impl_firstVertex_eq:E.sig n_impl_firstVertex = some sg_impl_firstVertex := rfl
theorem run_impl_firstVertex (n:Nat) (args:List Dv):run E (n + 1) n_impl_firstVertex args = evFn E (mkR (run E n)) sg_impl_firstVertex pol_impl_firstVertex F_impl_firstVertex n args := rfl
theorem sig_slices_Grow_Sint64_int64_eq:E.sig n_slices_Grow_Sint64_int64 = some sg_slices_Grow_Sint64_int64 := rfl
theorem sig_impl_within_eq:E.sig n_impl_within = some sg_impl_within := rfl
theorem run_impl_within (n:Nat) (args:List Dv):run E (n + 1) n_impl_within args = evFn E (mkR (run E n)) sg_impl_within pol_impl_within F_impl_within n args := rfl
theorem sig_spec_l05Ok_eq:E.sig n_spec_l05Ok = some sg_spec_l05Ok := rfl
theorem run_spec_l05Ok (n:Nat) (args:List Dv):run E (n + 1) n_spec_l05Ok args = evFn E (mkR (run E n)) sg_spec_l05Ok pol_spec_l05Ok F_spec_l05Ok n args := rfl
theorem sig_spec_ValidPrime_eq:E.sig n_spec_ValidPrime = some sg_spec_ValidPrime := rfl
theorem run_spec_ValidPrime (n:Nat) (args:List Dv):run E (n + 1) n_spec_ValidPrime args = evFn E (mkR (run E n)) sg_spec_ValidPrime pol_spec_ValidPrime F_spec_ValidPrime n args := rfl
theorem sig_impl_ValidComplex_eq:E.sig n_impl_ValidComplex = some sg_impl_ValidComplex := rfl
theorem run_impl_ValidComplex (n:Nat) (args:List Dv):run E (n + 1) n_impl_ValidComplex args = evFn E (mkR (run E n)) sg_impl_ValidComplex pol_impl_ValidComplex F_impl_ValidComplex n args := rfl
theorem sig_impl_ValidPrime_eq:E.sig n_impl_ValidPrime = some sg_impl_ValidPrime := rfl
theorem run_impl_ValidPrime (n:Nat) (args:List Dv):run E (n + 1) n_impl_ValidPrime args = evFn E (mkR (run E n)) sg_impl_ValidPrime pol_impl_ValidPrime F_impl_ValidPrime n args := rfl
theorem sig_spec_l09Stalks_eq:E.sig n_spec_l09Stalks = some sg_spec_l09Stalks := rfl
theorem run_spec_l09Stalks (n:Nat) (args:List Dv):run E (n + 1) n_spec_l09Stalks args = evFn E (mkR (run E n)) sg_spec_l09Stalks pol_spec_l09Stalks F_spec_l09Stalks n args := rfl
theorem sig_spec_l09Count_eq:E.sig n_spec_l09Count = some sg_spec_l09Count := rfl
theorem run_spec_l09Count (n:Nat) (args:List Dv):run E (n + 1) n_spec_l09Count args = evFn E (mkR (run E n)) sg_spec_l09Count pol_spec_l09Count F_spec_l09Count n args := rfl
theorem sig_spec_l09Map_eq:E.sig n_spec_l09Map = some sg_spec_l09Map := rfl
theorem run_spec_l09Map (n:Nat) (args:List Dv):run E (n + 1) n_spec_l09Map args = evFn E (mkR (run E n)) sg_spec_l09Map pol_spec_l09Map F_spec_l09Map n args := rfl
theorem sig_spec_l09Place_eq:E.sig n_spec_l09Place = some sg_spec_l09Place := rfl
theorem run_spec_l09Place (n:Nat) (args:List Dv):run E (n + 1) n_spec_l09Place args = evFn E (mkR (run E n)) sg_spec_l09Place pol_spec_l09Place F_spec_l09Place n args := rfl
theorem sig_spec_l09Two_eq:E.sig n_spec_l09Two = some sg_spec_l09Two := rfl
theorem run_spec_l09Two (n:Nat) (args:List Dv):run E (n + 1) n_spec_l09Two args = evFn E (mkR (run E n)) sg_spec_l09Two pol_spec_l09Two F_spec_l09Two n args := rfl
theorem sig_spec_l03Same_eq:E.sig n_spec_l03Same = some sg_spec_l03Same := rfl
theorem run_spec_l03Same (n:Nat) (args:List Dv):run E (n + 1) n_spec_l03Same args = evFn E (mkR (run E n)) sg_spec_l03Same pol_spec_l03Same F_spec_l03Same n args := rfl
theorem sig_spec_l05Find_eq:E.sig n_spec_l05Find = some sg_spec_l05Find := rfl
theorem run_spec_l05Find (n:Nat) (args:List Dv):run E (n + 1) n_spec_l05Find args = evFn E (mkR (run E n)) sg_spec_l05Find pol_spec_l05Find F_spec_l05Find n args := rfl
theorem sig_impl_isRising_eq:E.sig n_impl_isRising = some sg_impl_isRising := rfl
theorem run_impl_isRising (n:Nat) (args:List Dv):run E (n + 1) n_impl_isRising args = evFn E (mkR (run E n)) sg_impl_isRising pol_impl_isRising F_impl_isRising n args := rfl
theorem sig_impl_areElements_eq:E.sig n_impl_areElements = some sg_impl_areElements := rfl
theorem run_impl_areElements (n:Nat) (args:List Dv):run E (n + 1) n_impl_areElements args = evFn E (mkR (run E n)) sg_impl_areElements pol_impl_areElements F_impl_areElements n args := rfl
theorem sig_impl_dot_eq:E.sig n_impl_dot = some sg_impl_dot := rfl
theorem run_impl_dot (n:Nat) (args:List Dv):run E (n + 1) n_impl_dot args = evFn E (mkR (run E n)) sg_impl_dot pol_impl_dot F_impl_dot n args := rfl
theorem sig_spec_l05Drop_eq:E.sig n_spec_l05Drop = some sg_spec_l05Drop := rfl
theorem run_spec_l05Drop (n:Nat) (args:List Dv):run E (n + 1) n_spec_l05Drop args = evFn E (mkR (run E n)) sg_spec_l05Drop pol_spec_l05Drop F_spec_l05Drop n args := rfl
theorem sig_spec_l03Inverse_eq:E.sig n_spec_l03Inverse = some sg_spec_l03Inverse := rfl
theorem run_spec_l03Inverse (n:Nat) (args:List Dv):run E (n + 1) n_spec_l03Inverse args = evFn E (mkR (run E n)) sg_spec_l03Inverse pol_spec_l03Inverse F_spec_l03Inverse n args := rfl
theorem sig_slices_IndexFunc_SSint64_Sint64_eq:E.sig n_slices_IndexFunc_SSint64_Sint64 = some sg_slices_IndexFunc_SSint64_Sint64 := rfl
theorem run_slices_IndexFunc_SSint64_Sint64 (n:Nat) (args:List Dv):run E (n + 1) n_slices_IndexFunc_SSint64_Sint64 args = evFn E (mkR (run E n)) sg_slices_IndexFunc_SSint64_Sint64 pol_slices_IndexFunc_SSint64_Sint64 F_slices_IndexFunc_SSint64_Sint64 n args := rfl
theorem sig_impl_eliminate_1_eq:E.sig n_impl_eliminate_1 = some sg_impl_eliminate_1 := rfl
theorem run_impl_eliminate_1 (n:Nat) (args:List Dv):run E (n + 1) n_impl_eliminate_1 args = evFn E (mkR (run E n)) sg_impl_eliminate_1 pol_impl_eliminate_1 F_impl_eliminate_1 n args := rfl
theorem sig_impl_inverseOf_eq:E.sig n_impl_inverseOf = some sg_impl_inverseOf := rfl
theorem run_impl_inverseOf (n:Nat) (args:List Dv):run E (n + 1) n_impl_inverseOf args = evFn E (mkR (run E n)) sg_impl_inverseOf pol_impl_inverseOf F_impl_inverseOf n args := rfl
theorem sig_slices_Index_Sint64_int64_eq:E.sig n_slices_Index_Sint64_int64 = some sg_slices_Index_Sint64_int64 := rfl
theorem run_slices_Index_Sint64_int64 (n:Nat) (args:List Dv):run E (n + 1) n_slices_Index_Sint64_int64 args = evFn E (mkR (run E n)) sg_slices_Index_Sint64_int64 pol_slices_Index_Sint64_int64 F_slices_Index_Sint64_int64 n args := rfl
theorem sig_impl_filled_eq:E.sig n_impl_filled = some sg_impl_filled := rfl
theorem run_impl_filled (n:Nat) (args:List Dv):run E (n + 1) n_impl_filled args = evFn E (mkR (run E n)) sg_impl_filled pol_impl_filled F_impl_filled n args := rfl
theorem sig_impl_zero_1_eq:E.sig n_impl_zero_1 = some sg_impl_zero_1 := rfl
theorem run_impl_zero_1 (n:Nat) (args:List Dv):run E (n + 1) n_impl_zero_1 args = evFn E (mkR (run E n)) sg_impl_zero_1 pol_impl_zero_1 F_impl_zero_1 n args := rfl
theorem sig_impl_facesOf_eq:E.sig n_impl_facesOf = some sg_impl_facesOf := rfl
theorem run_impl_facesOf (n:Nat) (args:List Dv):run E (n + 1) n_impl_facesOf args = evFn E (mkR (run E n)) sg_impl_facesOf pol_impl_facesOf F_impl_facesOf n args := rfl
theorem sig_impl_indexOf_eq:E.sig n_impl_indexOf = some sg_impl_indexOf := rfl
theorem run_impl_indexOf (n:Nat) (args:List Dv):run E (n + 1) n_impl_indexOf args = evFn E (mkR (run E n)) sg_impl_indexOf pol_impl_indexOf F_impl_indexOf n args := rfl
theorem sig_impl_firstMap_eq:E.sig n_impl_firstMap = some sg_impl_firstMap := rfl
theorem run_impl_firstMap (n:Nat) (args:List Dv):run E (n + 1) n_impl_firstMap args = evFn E (mkR (run E n)) sg_impl_firstMap pol_impl_firstMap F_impl_firstMap n args := rfl
theorem sig_impl_areStalks_eq:E.sig n_impl_areStalks = some sg_impl_areStalks := rfl
theorem run_impl_areStalks (n:Nat) (args:List Dv):run E (n + 1) n_impl_areStalks args = evFn E (mkR (run E n)) sg_impl_areStalks pol_impl_areStalks F_impl_areStalks n args := rfl
theorem sig_impl_arrows_eq:E.sig n_impl_arrows = some sg_impl_arrows := rfl
theorem run_impl_arrows (n:Nat) (args:List Dv):run E (n + 1) n_impl_arrows args = evFn E (mkR (run E n)) sg_impl_arrows pol_impl_arrows F_impl_arrows n args := rfl
theorem sig_impl_isBetween_eq:E.sig n_impl_isBetween = some sg_impl_isBetween := rfl
theorem run_impl_isBetween (n:Nat) (args:List Dv):run E (n + 1) n_impl_isBetween args = evFn E (mkR (run E n)) sg_impl_isBetween pol_impl_isBetween F_impl_isBetween n args := rfl
theorem sig_impl_SameMatrix_eq:E.sig n_impl_SameMatrix = some sg_impl_SameMatrix := rfl
theorem run_impl_SameMatrix (n:Nat) (args:List Dv):run E (n + 1) n_impl_SameMatrix args = evFn E (mkR (run E n)) sg_impl_SameMatrix pol_impl_SameMatrix F_impl_SameMatrix n args := rfl
theorem sig_impl_unit_1_eq:E.sig n_impl_unit_1 = some sg_impl_unit_1 := rfl
theorem run_impl_unit_1 (n:Nat) (args:List Dv):run E (n + 1) n_impl_unit_1 args = evFn E (mkR (run E n)) sg_impl_unit_1 pol_impl_unit_1 F_impl_unit_1 n args := rfl
theorem sig_impl_columnsOf_eq:E.sig n_impl_columnsOf = some sg_impl_columnsOf := rfl
theorem run_impl_columnsOf (n:Nat) (args:List Dv):run E (n + 1) n_impl_columnsOf args = evFn E (mkR (run E n)) sg_impl_columnsOf pol_impl_columnsOf F_impl_columnsOf n args := rfl
theorem sig_impl_product_1_eq:E.sig n_impl_product_1 = some sg_impl_product_1 := rfl
theorem run_impl_product_1 (n:Nat) (args:List Dv):run E (n + 1) n_impl_product_1 args = evFn E (mkR (run E n)) sg_impl_product_1 pol_impl_product_1 F_impl_product_1 n args := rfl
theorem sig_spec_l05Simplex_eq:E.sig n_spec_l05Simplex = some sg_spec_l05Simplex := rfl
theorem run_spec_l05Simplex (n:Nat) (args:List Dv):run E (n + 1) n_spec_l05Simplex args = evFn E (mkR (run E n)) sg_spec_l05Simplex pol_spec_l05Simplex F_spec_l05Simplex n args := rfl
theorem sig_spec_l05Before_eq:E.sig n_spec_l05Before = some sg_spec_l05Before := rfl
theorem run_spec_l05Before (n:Nat) (args:List Dv):run E (n + 1) n_spec_l05Before args = evFn E (mkR (run E n)) sg_spec_l05Before pol_spec_l05Before F_spec_l05Before n args := rfl
theorem sig_spec_l02Prime_eq:E.sig n_spec_l02Prime = some sg_spec_l02Prime := rfl
theorem run_spec_l02Prime (n:Nat) (args:List Dv):run E (n + 1) n_spec_l02Prime args = evFn E (mkR (run E n)) sg_spec_l02Prime pol_spec_l02Prime F_spec_l02Prime n args := rfl
theorem sig_impl_ValidSimplex_eq:E.sig n_impl_ValidSimplex = some sg_impl_ValidSimplex := rfl
theorem run_impl_ValidSimplex (n:Nat) (args:List Dv):run E (n + 1) n_impl_ValidSimplex args = evFn E (mkR (run E n)) sg_impl_ValidSimplex pol_impl_ValidSimplex F_impl_ValidSimplex n args := rfl
theorem sig_impl_compareSimplices_eq:E.sig n_impl_compareSimplices = some sg_impl_compareSimplices := rfl
theorem run_impl_compareSimplices (n:Nat) (args:List Dv):run E (n + 1) n_impl_compareSimplices args = evFn E (mkR (run E n)) sg_impl_compareSimplices pol_impl_compareSimplices F_impl_compareSimplices n args := rfl
theorem sig_slices_ContainsFunc_SSint64_Sint64_eq:E.sig n_slices_ContainsFunc_SSint64_Sint64 = some sg_slices_ContainsFunc_SSint64_Sint64 := rfl
theorem run_slices_ContainsFunc_SSint64_Sint64 (n:Nat) (args:List Dv):run E (n + 1) n_slices_ContainsFunc_SSint64_Sint64 args = evFn E (mkR (run E n)) sg_slices_ContainsFunc_SSint64_Sint64 pol_slices_ContainsFunc_SSint64_Sint64 F_slices_ContainsFunc_SSint64_Sint64 n args := rfl
theorem sig_impl_ValidComplex_1_eq:E.sig n_impl_ValidComplex_1 = some sg_impl_ValidComplex_1 := rfl
theorem run_impl_ValidComplex_1 (n:Nat) (args:List Dv):run E (n + 1) n_impl_ValidComplex_1 args = evFn E (mkR (run E n)) sg_impl_ValidComplex_1 pol_impl_ValidComplex_1 F_impl_ValidComplex_1 n args := rfl
theorem sig_spec_l03Ok_eq:E.sig n_spec_l03Ok = some sg_spec_l03Ok := rfl
theorem run_spec_l03Ok (n:Nat) (args:List Dv):run E (n + 1) n_spec_l03Ok args = evFn E (mkR (run E n)) sg_spec_l03Ok pol_spec_l03Ok F_spec_l03Ok n args := rfl
theorem sig_spec_l00Same_eq:E.sig n_spec_l00Same = some sg_spec_l00Same := rfl
theorem run_spec_l00Same (n:Nat) (args:List Dv):run E (n + 1) n_spec_l00Same args = evFn E (mkR (run E n)) sg_spec_l00Same pol_spec_l00Same F_spec_l00Same n args := rfl
theorem sig_impl_areElements_1_eq:E.sig n_impl_areElements_1 = some sg_impl_areElements_1 := rfl
theorem run_impl_areElements_1 (n:Nat) (args:List Dv):run E (n + 1) n_impl_areElements_1 args = evFn E (mkR (run E n)) sg_impl_areElements_1 pol_impl_areElements_1 F_impl_areElements_1 n args := rfl
theorem sig_impl_isElement_eq:E.sig n_impl_isElement = some sg_impl_isElement := rfl
theorem run_impl_isElement (n:Nat) (args:List Dv):run E (n + 1) n_impl_isElement args = evFn E (mkR (run E n)) sg_impl_isElement pol_impl_isElement F_impl_isElement n args := rfl
theorem sig_impl_powerOf_eq:E.sig n_impl_powerOf = some sg_impl_powerOf := rfl
theorem run_impl_powerOf (n:Nat) (args:List Dv):run E (n + 1) n_impl_powerOf args = evFn E (mkR (run E n)) sg_impl_powerOf pol_impl_powerOf F_impl_powerOf n args := rfl
theorem sig_slices_BinarySearchFunc_SSint64_Sint64_Sint64_eq:E.sig n_slices_BinarySearchFunc_SSint64_Sint64_Sint64 = some sg_slices_BinarySearchFunc_SSint64_Sint64_Sint64 := rfl
theorem run_slices_BinarySearchFunc_SSint64_Sint64_Sint64 (n:Nat) (args:List Dv):run E (n + 1) n_slices_BinarySearchFunc_SSint64_Sint64_Sint64 args = evFn E (mkR (run E n)) sg_slices_BinarySearchFunc_SSint64_Sint64_Sint64 pol_slices_BinarySearchFunc_SSint64_Sint64_Sint64 F_slices_BinarySearchFunc_SSint64_Sint64_Sint64 n args := rfl
theorem sig_impl_areStalks_1_eq:E.sig n_impl_areStalks_1 = some sg_impl_areStalks_1 := rfl
theorem run_impl_areStalks_1 (n:Nat) (args:List Dv):run E (n + 1) n_impl_areStalks_1 args = evFn E (mkR (run E n)) sg_impl_areStalks_1 pol_impl_areStalks_1 F_impl_areStalks_1 n args := rfl
theorem sig_impl_ValidMatrix_eq:E.sig n_impl_ValidMatrix = some sg_impl_ValidMatrix := rfl
theorem run_impl_ValidMatrix (n:Nat) (args:List Dv):run E (n + 1) n_impl_ValidMatrix args = evFn E (mkR (run E n)) sg_impl_ValidMatrix pol_impl_ValidMatrix F_impl_ValidMatrix n args := rfl
theorem sig_slices_Equal_Sint64_int64_eq:E.sig n_slices_Equal_Sint64_int64 = some sg_slices_Equal_Sint64_int64 := rfl
theorem run_slices_Equal_Sint64_int64 (n:Nat) (args:List Dv):run E (n + 1) n_slices_Equal_Sint64_int64 args = evFn E (mkR (run E n)) sg_slices_Equal_Sint64_int64 pol_slices_Equal_Sint64_int64 F_slices_Equal_Sint64_int64 n args := rfl
theorem sig_impl_transpose_eq:E.sig n_impl_transpose = some sg_impl_transpose := rfl
theorem run_impl_transpose (n:Nat) (args:List Dv):run E (n + 1) n_impl_transpose args = evFn E (mkR (run E n)) sg_impl_transpose pol_impl_transpose F_impl_transpose n args := rfl
theorem sig_impl_ValidSimplex_1_eq:E.sig n_impl_ValidSimplex_1 = some sg_impl_ValidSimplex_1 := rfl
theorem run_impl_ValidSimplex_1 (n:Nat) (args:List Dv):run E (n + 1) n_impl_ValidSimplex_1 args = evFn E (mkR (run E n)) sg_impl_ValidSimplex_1 pol_impl_ValidSimplex_1 F_impl_ValidSimplex_1 n args := rfl
theorem sig_impl_isVertex_eq:E.sig n_impl_isVertex = some sg_impl_isVertex := rfl
theorem run_impl_isVertex (n:Nat) (args:List Dv):run E (n + 1) n_impl_isVertex args = evFn E (mkR (run E n)) sg_impl_isVertex pol_impl_isVertex F_impl_isVertex n args := rfl
theorem sig_cmp_Or_int_eq:E.sig n_cmp_Or_int = some sg_cmp_Or_int := rfl
theorem run_cmp_Or_int (n:Nat) (args:List Dv):run E (n + 1) n_cmp_Or_int args = evFn E (mkR (run E n)) sg_cmp_Or_int pol_cmp_Or_int F_cmp_Or_int n args := rfl
theorem sig_cmp_Compare_int_eq:E.sig n_cmp_Compare_int = some sg_cmp_Compare_int := rfl
theorem run_cmp_Compare_int (n:Nat) (args:List Dv):run E (n + 1) n_cmp_Compare_int args = evFn E (mkR (run E n)) sg_cmp_Compare_int pol_cmp_Compare_int F_cmp_Compare_int n args := rfl
theorem sig_slices_Compare_Sint64_int64_eq:E.sig n_slices_Compare_Sint64_int64 = some sg_slices_Compare_Sint64_int64 := rfl
theorem run_slices_Compare_Sint64_int64 (n:Nat) (args:List Dv):run E (n + 1) n_slices_Compare_Sint64_int64 args = evFn E (mkR (run E n)) sg_slices_Compare_Sint64_int64 pol_slices_Compare_Sint64_int64 F_slices_Compare_Sint64_int64 n args := rfl
theorem sig_impl_isSide_eq:E.sig n_impl_isSide = some sg_impl_isSide := rfl
theorem run_impl_isSide (n:Nat) (args:List Dv):run E (n + 1) n_impl_isSide args = evFn E (mkR (run E n)) sg_impl_isSide pol_impl_isSide F_impl_isSide n args := rfl
theorem sig_impl_transpose_1_eq:E.sig n_impl_transpose_1 = some sg_impl_transpose_1 := rfl
theorem run_impl_transpose_1 (n:Nat) (args:List Dv):run E (n + 1) n_impl_transpose_1 args = evFn E (mkR (run E n)) sg_impl_transpose_1 pol_impl_transpose_1 F_impl_transpose_1 n args := rfl
theorem sig_cmp_isNaN_int_eq:E.sig n_cmp_isNaN_int = some sg_cmp_isNaN_int := rfl
theorem run_cmp_isNaN_int (n:Nat) (args:List Dv):run E (n + 1) n_cmp_isNaN_int args = evFn E (mkR (run E n)) sg_cmp_isNaN_int pol_cmp_isNaN_int F_cmp_isNaN_int n args := rfl
theorem sig_cmp_Compare_int64_eq:E.sig n_cmp_Compare_int64 = some sg_cmp_Compare_int64 := rfl
theorem run_cmp_Compare_int64 (n:Nat) (args:List Dv):run E (n + 1) n_cmp_Compare_int64 args = evFn E (mkR (run E n)) sg_cmp_Compare_int64 pol_cmp_Compare_int64 F_cmp_Compare_int64 n args := rfl
theorem sig_cmp_isNaN_int64_eq:E.sig n_cmp_isNaN_int64 = some sg_cmp_isNaN_int64 := rfl
theorem run_cmp_isNaN_int64 (n:Nat) (args:List Dv):run E (n + 1) n_cmp_isNaN_int64 args = evFn E (mkR (run E n)) sg_cmp_isNaN_int64 pol_cmp_isNaN_int64 F_cmp_isNaN_int64 n args := rfl
@[reducible] noncomputable def eC (R:Run) (q:Pol) (N:Nat) (l:List Nat) (F:Func) := evCode E R q N (sub l (bodyOf F))
@[reducible] noncomputable def kB (R:Run) (q:Pol) (k:Nat) (K:Kt) := kBlk (maskAt R q.blkM k) k K
@[reducible] noncomputable def kS (R:Run) (q:Pol) (k N:Nat) (l:List Nat) (F:Func) (K:Kt) := kSeq (maskAt R q.seqM k) (evCode E R q N (sub l (bodyOf F))) K
@[reducible] noncomputable def kL (R:Run) (q:Pol) (k N:Nat) (l:List Nat) (F:Func) (n:Nat) (K:Kt) := kLoop (evCode E R q N (sub l (bodyOf F))) (maskAt R q.loopM k) n K
@[reducible] noncomputable def lC (R:Run) (q:Pol) (k N:Nat) (l:List Nat) (F:Func) (n:Nat) (s:Ve.St) (K:Kt) := loopC (evCode E R q N (sub l (bodyOf F))) (maskAt R q.loopM k) n s K
end VeT

open Go Go.Proofs Ve
set_option linter.unusedVariables false
set_option maxRecDepth 100000
namespace VeT
/-! loop.example/g01005/laws.szInt64S -/
theorem laws_szInt64S.ev (R:Run) (N:Nat) (a0:(List Int)) (a1:Int):evFn E R sg_laws_szInt64S pol_laws_szInt64S F_laws_szInt64S N [⟨yL,a0⟩,⟨yI,a1⟩] = (bif (decide ((w64 (a1 - (List.length a0:Int))) < (0:Int))) then some ⟨o_laws_szInt64S,((-1:Int),())⟩ else some ⟨o_laws_szInt64S,((w64 (a1 - (List.length a0:Int))),())⟩) := by kernel_rfl
/-! loop.example/g01005/laws.szInt64SS -/
noncomputable def laws_szInt64SS.l0 (R:Run) (N:Nat) (n:Nat) (a_1:vK) (left_2:Int) (i_3:Int):Option Dv := R.w (some ⟨(.c (.d yK a_1)::(.c (.d yI left_2)::(zd 3 (.c (.d yI i_3)::(zd 21 []))))),(zo 29 [])⟩) fun st => lC R pol_laws_szInt64SS 5 N [1,1,1,0,1,0,0] F_laws_szInt64SS n st (kB R pol_laws_szInt64SS 0 (kS R pol_laws_szInt64SS 10 N [1,1,1,1] F_laws_szInt64SS (kTop E sg_laws_szInt64SS F_laws_szInt64SS)))
theorem laws_szInt64SS.l0_succ (R:Run) (hw:R.ok) (N:Nat) (n:Nat) (a_1:vK) (left_2:Int) (i_3:Int):laws_szInt64SS.l0 R N (n + 1) a_1 left_2 i_3 = (bif (decide (i_3 < (List.length a_1:Int))) then ((idx? a_1 i_3).bind fun y4 => ((callT R n_laws_szInt64S o_laws_szInt64S [⟨yL,(y4,()).1⟩,⟨yI,left_2⟩]).bind fun r5 => (bif (decide (r5.1 < (0:Int))) then some ⟨o_laws_szInt64SS,((-1:Int),())⟩ else (laws_szInt64SS.l0 R N n a_1 r5.1 (w64 (i_3 + (1:Int))))))) else some ⟨o_laws_szInt64SS,(left_2,())⟩) := (hw _ _).trans (by kernel_rfl)
theorem laws_szInt64SS.ev (R:Run) (N:Nat) (a0:vK) (a1:Int):evFn E R sg_laws_szInt64SS pol_laws_szInt64SS F_laws_szInt64SS N [⟨yK,a0⟩,⟨yI,a1⟩] = (bif (decide ((w64 (a1 - (List.length a0:Int))) < (0:Int))) then some ⟨o_laws_szInt64SS,((-1:Int),())⟩ else (laws_szInt64SS.l0 R N N a0 (w64 (a1 - (List.length a0:Int))) (0:Int))) := by kernel_rfl
/-! loop.example/g01005/laws.szComplex -/
theorem laws_szComplex.ev (R:Run) (N:Nat) (a0:vK) (a1:Int):evFn E R sg_laws_szComplex pol_laws_szComplex F_laws_szComplex N [⟨yK,a0⟩,⟨yI,a1⟩] = ((callT R n_laws_szInt64SS o_laws_szInt64SS [⟨yK,a0⟩,⟨yI,a1⟩]).bind fun r1 => (bif (decide (r1.1 < (0:Int))) then some ⟨o_laws_szComplex,((-1:Int),())⟩ else some ⟨o_laws_szComplex,(r1.1,())⟩)) := by kernel_rfl
/-! loop.example/g01005/laws.szMatrix -/
theorem laws_szMatrix.ev (R:Run) (N:Nat) (a0:Int) (a1:Int) (a2:Int) (a3:(List Int)) (a4:Int):evFn E R sg_laws_szMatrix pol_laws_szMatrix F_laws_szMatrix N [⟨yI,a0⟩,⟨yI,a1⟩,⟨yI,a2⟩,⟨yL,a3⟩,⟨yI,a4⟩] = ((callT R n_laws_szInt64S o_laws_szInt64S [⟨yL,a3⟩,⟨yI,a4⟩]).bind fun r1 => (bif (decide (r1.1 < (0:Int))) then some ⟨o_laws_szMatrix,((-1:Int),())⟩ else some ⟨o_laws_szMatrix,(r1.1,())⟩)) := by kernel_rfl
/-! loop.example/g01005/laws.szMatrixS -/
noncomputable def laws_szMatrixS.l0 (R:Run) (N:Nat) (n:Nat) (a_1:vN) (left_2:Int) (i_3:Int):Option Dv := R.w (some ⟨(.c (.d yN a_1)::(.c (.d yI left_2)::(zd 3 (.c (.d yI i_3)::(zd 21 []))))),(zo 29 [])⟩) fun st => lC R pol_laws_szMatrixS 5 N [1,1,1,0,1,0,0] F_laws_szMatrixS n st (kB R pol_laws_szMatrixS 0 (kS R pol_laws_szMatrixS 10 N [1,1,1,1] F_laws_szMatrixS (kTop E sg_laws_szMatrixS F_laws_szMatrixS)))
theorem laws_szMatrixS.l0_succ (R:Run) (hw:R.ok) (N:Nat) (n:Nat) (a_1:vN) (left_2:Int) (i_3:Int):laws_szMatrixS.l0 R N (n + 1) a_1 left_2 i_3 = (bif (decide (i_3 < (List.length a_1:Int))) then ((idx? a_1 i_3).bind fun y4 => ((callT R n_laws_szMatrix o_laws_szMatrix [⟨yI,y4.1⟩,⟨yI,y4.2.1⟩,⟨yI,y4.2.2.1⟩,⟨yL,y4.2.2.2.1⟩,⟨yI,left_2⟩]).bind fun r5 => (bif (decide (r5.1 < (0:Int))) then some ⟨o_laws_szMatrixS,((-1:Int),())⟩ else (laws_szMatrixS.l0 R N n a_1 r5.1 (w64 (i_3 + (1:Int))))))) else some ⟨o_laws_szMatrixS,(left_2,())⟩) := (hw _ _).trans (by kernel_rfl)
theorem laws_szMatrixS.ev (R:Run) (N:Nat) (a0:vN) (a1:Int):evFn E R sg_laws_szMatrixS pol_laws_szMatrixS F_laws_szMatrixS N [⟨yN,a0⟩,⟨yI,a1⟩] = (bif (decide ((w64 (a1 - (List.length a0:Int))) < (0:Int))) then some ⟨o_laws_szMatrixS,((-1:Int),())⟩ else (laws_szMatrixS.l0 R N N a0 (w64 (a1 - (List.length a0:Int))) (0:Int))) := by kernel_rfl
/-! loop.example/g01005/laws.szSheaf -/
theorem laws_szSheaf.ev (R:Run) (N:Nat) (a0:vK) (a1:Int) (a2:(List Int)) (a3:vN) (a4:Int):evFn E R sg_laws_szSheaf pol_laws_szSheaf F_laws_szSheaf N [⟨yK,a0⟩,⟨yI,a1⟩,⟨yL,a2⟩,⟨yN,a3⟩,⟨yI,a4⟩] = ((callT R n_laws_szComplex o_laws_szComplex [⟨yK,a0⟩,⟨yI,a4⟩]).bind fun r1 => (bif (decide (r1.1 < (0:Int))) then some ⟨o_laws_szSheaf,((-1:Int),())⟩ else ((callT R n_laws_szInt64S o_laws_szInt64S [⟨yL,a2⟩,⟨yI,r1.1⟩]).bind fun r2 => (bif (decide (r2.1 < (0:Int))) then some ⟨o_laws_szSheaf,((-1:Int),())⟩ else ((callT R n_laws_szMatrixS o_laws_szMatrixS [⟨yN,a3⟩,⟨yI,r2.1⟩]).bind fun r3 => (bif (decide (r3.1 < (0:Int))) then some ⟨o_laws_szSheaf,((-1:Int),())⟩ else some ⟨o_laws_szSheaf,(r3.1,())⟩)))))) := by kernel_rfl
/-! loop.example/g01005/laws.toInt64S -/
noncomputable def laws_toInt64S.l0 (R:Run) (N:Nat) (n:Nat) (a_1:(List Int)) (i_2:Int) (o7_3:(List Int)):Option Dv := R.w (some ⟨(.c (.d yL a_1)::(V.dead::(V.dead::(.c (.arr 7)::(.c (.d yI i_2)::(zd 17 [])))))),(zo 7 (some (.arr yI o7_3 true false false)::(zo 15 [])))⟩) fun st => lC R pol_laws_toInt64S 3 N [1,1,0,1,0,0] F_laws_toInt64S n st (kB R pol_laws_toInt64S 0 (kS R pol_laws_toInt64S 6 N [1,1,1] F_laws_toInt64S (kTop E sg_laws_toInt64S F_laws_toInt64S)))
theorem laws_toInt64S.l0_succ (R:Run) (hw:R.ok) (N:Nat) (n:Nat) (a_1:(List Int)) (i_2:Int) (o7_3:(List Int)):laws_toInt64S.l0 R N (n + 1) a_1 i_2 o7_3 = (bif (decide (i_2 < (List.length a_1:Int))) then ((idx? a_1 i_2).bind fun y4 => ((chk (decide (0 ≤ i_2) && decide (i_2 < (List.length o7_3:Int)))).bind fun _ => (laws_toInt64S.l0 R N n a_1 (w64 (i_2 + (1:Int))) (List.set o7_3 (Int.toNat i_2) (y4,()).1)))) else some ⟨o_laws_toInt64S,(o7_3,())⟩) := (hw _ _).trans (by kernel_rfl)
theorem laws_toInt64S.ev (R:Run) (N:Nat) (a0:(List Int)):evFn E R sg_laws_toInt64S pol_laws_toInt64S F_laws_toInt64S N [⟨yL,a0⟩] = ((chk (decide (0 ≤ (List.length a0:Int)) && decide ((List.length a0:Int) * 8 ≤ 70368744177664))).bind fun _ => (laws_toInt64S.l0 R N N a0 (0:Int) (List.replicate (Int.toNat (List.length a0:Int)) (0:Int)))) := by kernel_rfl
/-! loop.example/g01005/laws.toInt64SS -/
noncomputable def laws_toInt64SS.l0 (R:Run) (N:Nat) (n:Nat) (a_1:vK) (i_2:Int) (o7_3:vK):Option Dv := R.w (some ⟨(.c (.d yK a_1)::(V.dead::(V.dead::(.c (.arr 7)::(.c (.d yI i_2)::(zd 18 [])))))),(zo 7 (some (.arr yL o7_3 true false false)::(zo 17 [])))⟩) fun st => lC R pol_laws_toInt64SS 3 N [1,1,0,1,0,0] F_laws_toInt64SS n st (kB R pol_laws_toInt64SS 0 (kS R pol_laws_toInt64SS 6 N [1,1,1] F_laws_toInt64SS (kTop E sg_laws_toInt64SS F_laws_toInt64SS)))
theorem laws_toInt64SS.l0_succ (R:Run) (hw:R.ok) (N:Nat) (n:Nat) (a_1:vK) (i_2:Int) (o7_3:vK):laws_toInt64SS.l0 R N (n + 1) a_1 i_2 o7_3 = (bif (decide (i_2 < (List.length a_1:Int))) then ((idx? a_1 i_2).bind fun y4 => ((callT R n_laws_toInt64S o_laws_toInt64S [⟨yL,(y4,()).1⟩]).bind fun r5 => ((chk (decide (0 ≤ i_2) && decide (i_2 < (List.length o7_3:Int)))).bind fun _ => (laws_toInt64SS.l0 R N n a_1 (w64 (i_2 + (1:Int))) (List.set o7_3 (Int.toNat i_2) r5.1))))) else some ⟨o_laws_toInt64SS,(o7_3,())⟩) := (hw _ _).trans (by kernel_rfl)
theorem laws_toInt64SS.ev (R:Run) (N:Nat) (a0:vK):evFn E R sg_laws_toInt64SS pol_laws_toInt64SS F_laws_toInt64SS N [⟨yK,a0⟩] = ((chk (decide (0 ≤ (List.length a0:Int)) && decide ((List.length a0:Int) * 24 ≤ 70368744177664))).bind fun _ => (laws_toInt64SS.l0 R N N a0 (0:Int) (List.replicate (Int.toNat (List.length a0:Int)) ([]:List Int)))) := by kernel_rfl
/-! loop.example/g01005/laws.toComplex -/
theorem laws_toComplex.ev (R:Run) (N:Nat) (a0:vK):evFn E R sg_laws_toComplex pol_laws_toComplex F_laws_toComplex N [⟨yK,a0⟩] = ((callT R n_laws_toInt64SS o_laws_toInt64SS [⟨yK,a0⟩]).bind fun r1 => some ⟨o_laws_toComplex,(r1.1,())⟩) := by kernel_rfl
/-! loop.example/g01005/laws.toMatrix -/
theorem laws_toMatrix.ev (R:Run) (N:Nat) (a0:Int) (a1:Int) (a2:Int) (a3:(List Int)):evFn E R sg_laws_toMatrix pol_laws_toMatrix F_laws_toMatrix N [⟨yI,a0⟩,⟨yI,a1⟩,⟨yI,a2⟩,⟨yL,a3⟩] = ((callT R n_laws_toInt64S o_laws_toInt64S [⟨yL,a3⟩]).bind fun r1 => some ⟨o_laws_toMatrix,(a0,a1,a2,r1.1,())⟩) := by kernel_rfl
/-! loop.example/g01005/laws.toMatrixS -/
noncomputable def laws_toMatrixS.l0 (R:Run) (N:Nat) (n:Nat) (a_1:vN) (i_2:Int) (o7_3:vN):Option Dv := R.w (some ⟨(.c (.d yN a_1)::(V.dead::(V.dead::(.c (.arr 7)::(.c (.d yI i_2)::(zd 18 [])))))),(zo 7 (some (.arr (.st yM) o7_3 true false false)::(zo 17 [])))⟩) fun st => lC R pol_laws_toMatrixS 3 N [1,1,0,1,0,0] F_laws_toMatrixS n st (kB R pol_laws_toMatrixS 0 (kS R pol_laws_toMatrixS 6 N [1,1,1] F_laws_toMatrixS (kTop E sg_laws_toMatrixS F_laws_toMatrixS)))
theorem laws_toMatrixS.l0_succ (R:Run) (hw:R.ok) (N:Nat) (n:Nat) (a_1:vN) (i_2:Int) (o7_3:vN):laws_toMatrixS.l0 R N (n + 1) a_1 i_2 o7_3 = (bif (decide (i_2 < (List.length a_1:Int))) then ((idx? a_1 i_2).bind fun y4 => ((callT R n_laws_toMatrix o_laws_toMatrix [⟨yI,y4.1⟩,⟨yI,y4.2.1⟩,⟨yI,y4.2.2.1⟩,⟨yL,y4.2.2.2.1⟩]).bind fun r5 => ((chk (decide (0 ≤ i_2) && decide (i_2 < (List.length o7_3:Int)))).bind fun _ => (laws_toMatrixS.l0 R N n a_1 (w64 (i_2 + (1:Int))) (List.set o7_3 (Int.toNat i_2) (r5.1,r5.2.1,r5.2.2.1,r5.2.2.2.1,())))))) else some ⟨o_laws_toMatrixS,(o7_3,())⟩) := (hw _ _).trans (by kernel_rfl)
theorem laws_toMatrixS.ev (R:Run) (N:Nat) (a0:vN):evFn E R sg_laws_toMatrixS pol_laws_toMatrixS F_laws_toMatrixS N [⟨yN,a0⟩] = ((chk (decide (0 ≤ (List.length a0:Int)) && decide ((List.length a0:Int) * 48 ≤ 70368744177664))).bind fun _ => (laws_toMatrixS.l0 R N N a0 (0:Int) (List.replicate (Int.toNat (List.length a0:Int)) ((0:Int),(0:Int),(0:Int),([]:List Int),())))) := by kernel_rfl
/-! loop.example/g01005/laws.toSheaf -/
theorem laws_toSheaf.ev (R:Run) (N:Nat) (a0:vK) (a1:Int) (a2:(List Int)) (a3:vN):evFn E R sg_laws_toSheaf pol_laws_toSheaf F_laws_toSheaf N [⟨yK,a0⟩,⟨yI,a1⟩,⟨yL,a2⟩,⟨yN,a3⟩] = ((callT R n_laws_toComplex o_laws_toComplex [⟨yK,a0⟩]).bind fun r1 => ((callT R n_laws_toInt64S o_laws_toInt64S [⟨yL,a2⟩]).bind fun r2 => ((callT R n_laws_toMatrixS o_laws_toMatrixS [⟨yN,a3⟩]).bind fun r3 => some ⟨o_laws_toSheaf,(r1.1,a1,r2.1,r3.1,())⟩))) := by kernel_rfl
/-! loop.example/g01005/spec.l00In -/
theorem spec_l00In.ev (R:Run) (N:Nat) (a0:Int) (a1:Int) (a2:Int):evFn E R sg_spec_l00In pol_spec_l00In F_spec_l00In N [⟨yI,a0⟩,⟨yI,a1⟩,⟨yI,a2⟩] = (bif (decide (a0 ≥ a1)) then some ⟨o_spec_l00In,((decide (a0 ≤ a2)),())⟩ else some ⟨o_spec_l00In,(false,())⟩) := by kernel_rfl
/-! loop.example/g01005/spec.l00Rises -/
noncomputable def spec_l00Rises.j1 (R:Run) (N:Nat) (n00_:Nat) (list_7:(List Int)) (low_8:Int) (high_9:Int) (i_10:Int) (t37__11:Bool):Option Dv := R.w (some ⟨(.c (.d yL list_7)::(.c (.d yI low_8)::(.c (.d yI high_9)::(zd 4 (.c (.d yI i_10)::(zd 29 (.c (.d .bool t37__11)::[]))))))),(zo 41 [])⟩) fun st => eC R pol_spec_l00Rises N [1,0,1,0,0,1,0,0,1] F_spec_l00Rises st (kB R pol_spec_l00Rises 1 (kS R pol_spec_l00Rises 3 N [1,0,1,0,0,1,1] F_spec_l00Rises (kL R pol_spec_l00Rises 2 N [1,0,1,0,0] F_spec_l00Rises n00_ (kB R pol_spec_l00Rises 0 (kS R pol_spec_l00Rises 6 N [1,1] F_spec_l00Rises (kTop E sg_spec_l00Rises F_spec_l00Rises))))))
noncomputable def spec_l00Rises.l0 (R:Run) (N:Nat) (n:Nat) (list_1:(List Int)) (low_2:Int) (high_3:Int) (i_4:Int):Option Dv := R.w (some ⟨(.c (.d yL list_1)::(.c (.d yI low_2)::(.c (.d yI high_3)::(zd 4 (.c (.d yI i_4)::(zd 30 [])))))),(zo 41 [])⟩) fun st => lC R pol_spec_l00Rises 2 N [1,0,1,0,0] F_spec_l00Rises n st (kB R pol_spec_l00Rises 0 (kS R pol_spec_l00Rises 6 N [1,1] F_spec_l00Rises (kTop E sg_spec_l00Rises F_spec_l00Rises)))
theorem spec_l00Rises.j1_eq (R:Run) (hw:R.ok) (N:Nat) (n00_:Nat) (list_7:(List Int)) (low_8:Int) (high_9:Int) (i_10:Int) (t37__11:Bool):spec_l00Rises.j1 R N n00_ list_7 low_8 high_9 i_10 t37__11 = (bif t37__11 then some ⟨o_spec_l00Rises,(false,())⟩ else (spec_l00Rises.l0 R N n00_ list_7 low_8 high_9 (w64 (i_10 + (1:Int))))) := (hw _ _).trans (by kernel_rfl)
theorem spec_l00Rises.l0_succ (R:Run) (hw:R.ok) (N:Nat) (n:Nat) (list_1:(List Int)) (low_2:Int) (high_3:Int) (i_4:Int):spec_l00Rises.l0 R N (n + 1) list_1 low_2 high_3 i_4 = (bif (decide (i_4 < (List.length list_1:Int))) then ((idx? list_1 i_4).bind fun y5 => ((callT R n_spec_l00In o_spec_l00In [⟨yI,(y5,()).1⟩,⟨yI,low_2⟩,⟨yI,high_3⟩]).bind fun r6 => (bif (!r6.1) then (spec_l00Rises.j1 R N n list_1 low_2 high_3 i_4 true) else (bif (decide (i_4 > (0:Int))) then ((idx? list_1 (w64 (i_4 - (1:Int)))).bind fun y16 => ((idx? list_1 i_4).bind fun y17 => (spec_l00Rises.j1 R N n list_1 low_2 high_3 i_4 (decide ((y16,()).1 ≥ (y17,()).1))))) else (spec_l00Rises.j1 R N n list_1 low_2 high_3 i_4 false))))) else some ⟨o_spec_l00Rises,(true,())⟩) := (hw _ _).trans (by kernel_rfl)
theorem spec_l00Rises.ev (R:Run) (N:Nat) (a0:(List Int)) (a1:Int) (a2:Int):evFn E R sg_spec_l00Rises pol_spec_l00Rises F_spec_l00Rises N [⟨yL,a0⟩,⟨yI,a1⟩,⟨yI,a2⟩] = (spec_l00Rises.l0 R N N a0 a1 a2 (0:Int)) := by kernel_rfl
/-! loop.example/g01005/spec.l05Simplex -/
theorem spec_l05Simplex.ev (R:Run) (N:Nat) (a0:(List Int)):evFn E R sg_spec_l05Simplex pol_spec_l05Simplex F_spec_l05Simplex N [⟨yL,a0⟩] = ((callT R n_spec_l00In o_spec_l00In [⟨yI,(List.length a0:Int)⟩,⟨yI,(1:Int)⟩,⟨yI,(4:Int)⟩]).bind fun r1 => (bif r1.1 then ((callT R n_spec_l00Rises o_spec_l00Rises [⟨yL,a0⟩,⟨yI,(0:Int)⟩,⟨yI,(9:Int)⟩]).bind fun r2 => some ⟨o_spec_l05Simplex,(r2.1,())⟩) else some ⟨o_spec_l05Simplex,(false,())⟩)) := by kernel_rfl
/-! loop.example/g01005/spec.l05Before -/
noncomputable def spec_l05Before.l0 (R:Run) (N:Nat) (n:Nat) (a_1:(List Int)) (b_2:(List Int)) (i_3:Int):Option Dv := R.w (some ⟨(.c (.d yL a_1)::(.c (.d yL b_2)::(zd 3 (.c (.d yI i_3)::(zd 34 []))))),(zo 42 [])⟩) fun st => lC R pol_spec_l05Before 4 N [1,1,0,1,0,0] F_spec_l05Before n st (kB R pol_spec_l05Before 0 (kS R pol_spec_l05Before 8 N [1,1,1] F_spec_l05Before (kTop E sg_spec_l05Before F_spec_l05Before)))
theorem spec_l05Before.l0_succ (R:Run) (hw:R.ok) (N:Nat) (n:Nat) (a_1:(List Int)) (b_2:(List Int)) (i_3:Int):spec_l05Before.l0 R N (n + 1) a_1 b_2 i_3 = (bif (decide (i_3 < (List.length a_1:Int))) then ((idx? a_1 i_3).bind fun y4 => ((idx? b_2 i_3).bind fun y5 => (bif ((y4,()).1 != (y5,()).1) then ((idx? a_1 i_3).bind fun y6 => ((idx? b_2 i_3).bind fun y7 => some ⟨o_spec_l05Before,((decide ((y6,()).1 < (y7,()).1)),())⟩)) else (spec_l05Before.l0 R N n a_1 b_2 (w64 (i_3 + (1:Int))))))) else some ⟨o_spec_l05Before,(false,())⟩) := (hw _ _).trans (by kernel_rfl)
theorem spec_l05Before.ev (R:Run) (N:Nat) (a0:(List Int)) (a1:(List Int)):evFn E R sg_spec_l05Before pol_spec_l05Before F_spec_l05Before N [⟨yL,a0⟩,⟨yL,a1⟩] = (bif ((List.length a0:Int) != (List.length a1:Int)) then some ⟨o_spec_l05Before,((decide ((List.length a0:Int) < (List.length a1:Int))),())⟩ else (spec_l05Before.l0 R N N a0 a1 (0:Int))) := by kernel_rfl
/-! loop.example/g01005/spec.l00Own -/
theorem spec_l00Own.ev (R:Run) (N:Nat) (a0:(List Int)):evFn E R sg_spec_l00Own pol_spec_l00Own F_spec_l00Own N [⟨yL,a0⟩] = ((chk (decide ((List.length ([]:List Int) + List.length a0) * 8 ≤ 70368744177664))).bind fun _ => some ⟨o_spec_l00Own,((([]:List Int) ++ a0),())⟩) := by kernel_rfl
/-! loop.example/g01005/spec.l05Drop -/
theorem spec_l05Drop.ev (R:Run) (N:Nat) (a0:(List Int)) (a1:Int):evFn E R sg_spec_l05Drop pol_spec_l05Drop F_spec_l05Drop N [⟨yL,a0⟩,⟨yI,a1⟩] = ((chk (decide (0 ≤ a1) && decide (a1 ≤ (List.length a0:Int)))).bind fun _ => ((callT R n_spec_l00Own o_spec_l00Own [⟨yL,(List.take (Int.toNat a1) a0)⟩]).bind fun r1 => ((chk (decide (0 ≤ (w64 (a1 + (1:Int)))) && decide ((w64 (a1 + (1:Int))) ≤ (List.length a0:Int)))).bind fun _ => ((chk (decide ((List.length r1.1 + List.length (List.drop (Int.toNat (w64 (a1 + (1:Int)))) a0)) * 8 ≤ 70368744177664))).bind fun _ => some ⟨o_spec_l05Drop,((r1.1 ++ (List.drop (Int.toNat (w64 (a1 + (1:Int)))) a0)),())⟩)))) := by kernel_rfl
/-! loop.example/g01005/spec.l00Same -/
noncomputable def spec_l00Same.l0 (R:Run) (N:Nat) (n:Nat) (a_1:(List Int)) (b_2:(List Int)) (i_3:Int):Option Dv := R.w (some ⟨(.c (.d yL a_1)::(.c (.d yL b_2)::(zd 3 (.c (.d yI i_3)::(zd 20 []))))),(zo 28 [])⟩) fun st => lC R pol_spec_l00Same 4 N [1,1,0,1,0,0] F_spec_l00Same n st (kB R pol_spec_l00Same 0 (kS R pol_spec_l00Same 8 N [1,1,1] F_spec_l00Same (kTop E sg_spec_l00Same F_spec_l00Same)))
theorem spec_l00Same.l0_succ (R:Run) (hw:R.ok) (N:Nat) (n:Nat) (a_1:(List Int)) (b_2:(List Int)) (i_3:Int):spec_l00Same.l0 R N (n + 1) a_1 b_2 i_3 = (bif (decide (i_3 < (List.length a_1:Int))) then ((idx? a_1 i_3).bind fun y4 => ((idx? b_2 i_3).bind fun y5 => (bif ((y4,()).1 != (y5,()).1) then some ⟨o_spec_l00Same,(false,())⟩ else (spec_l00Same.l0 R N n a_1 b_2 (w64 (i_3 + (1:Int))))))) else some ⟨o_spec_l00Same,(true,())⟩) := (hw _ _).trans (by kernel_rfl)
theorem spec_l00Same.ev (R:Run) (N:Nat) (a0:(List Int)) (a1:(List Int)):evFn E R sg_spec_l00Same pol_spec_l00Same F_spec_l00Same N [⟨yL,a0⟩,⟨yL,a1⟩] = (bif ((List.length a0:Int) != (List.length a1:Int)) then some ⟨o_spec_l00Same,(false,())⟩ else (spec_l00Same.l0 R N N a0 a1 (0:Int))) := by kernel_rfl
/-! loop.example/g01005/spec.l05Find -/
noncomputable def spec_l05Find.l0 (R:Run) (N:Nat) (n:Nat) (c_1:(vK × Unit)) (s_2:(List Int)) (i_3:Int):Option Dv := R.w (some ⟨(.c (.ip (.cons yK .nil) c_1 0)::(.c (.d yL s_2)::(zd 3 (.c (.d yI i_3)::(zd 19 []))))),(zo 27 [])⟩) fun st => lC R pol_spec_l05Find 2 N [1,0,1,0,0] F_spec_l05Find n st (kB R pol_spec_l05Find 0 (kS R pol_spec_l05Find 6 N [1,1] F_spec_l05Find (kTop E sg_spec_l05Find F_spec_l05Find)))
theorem spec_l05Find.l0_succ (R:Run) (hw:R.ok) (N:Nat) (n:Nat) (c_1:(vK × Unit)) (s_2:(List Int)) (i_3:Int):spec_l05Find.l0 R N (n + 1) c_1 s_2 i_3 = (bif (decide (i_3 < (List.length c_1.1:Int))) then ((idx? c_1.1 i_3).bind fun y4 => ((callT R n_spec_l00Same o_spec_l00Same [⟨yL,(y4,()).1⟩,⟨yL,s_2⟩]).bind fun r5 => (bif r5.1 then some ⟨o_spec_l05Find,(i_3,())⟩ else (spec_l05Find.l0 R N n c_1 s_2 (w64 (i_3 + (1:Int))))))) else some ⟨o_spec_l05Find,((-1:Int),())⟩) := (hw _ _).trans (by kernel_rfl)
theorem spec_l05Find.ev (R:Run) (N:Nat) (a0:(vK × Unit)) (a1:(List Int)):evFn E R sg_spec_l05Find pol_spec_l05Find F_spec_l05Find N [⟨(.ptr (.cons yK .nil)),a0⟩,⟨yL,a1⟩] = (spec_l05Find.l0 R N N a0 a1 (0:Int)) := by kernel_rfl
/-! loop.example/g01005/spec.l05Ok -/
noncomputable def spec_l05Ok.j3 (R:Run) (N:Nat) (n01_:Nat) (n02_:Nat) (t0__13:(vK × Unit)) (t3__14:Int) (t4__15:(List Int)) (t5__16:Int) (t56__17:Bool):Option Dv := R.w (some ⟨(.c (.ip (.cons yK .nil) t0__13 0)::(V.dead::(V.dead::(.c (.d yI t3__14)::(.c (.d yL t4__15)::(.c (.d yI t5__16)::(zd 50 (.c (.d .bool t56__17)::(zd 8 []))))))))),(zo 66 [])⟩) fun st => eC R pol_spec_l05Ok N [1,1,0,1,0,0,1,0,0,1,1,1,0,0,0,1] F_spec_l05Ok st (kS R pol_spec_l05Ok 12 N [1,1,0,1,0,0,1,0,0,1,1,1,0,0,1] F_spec_l05Ok (kL R pol_spec_l05Ok 10 N [1,1,0,1,0,0,1,0,0,1,1,1,0,0] F_spec_l05Ok n02_ (kB R pol_spec_l05Ok 2 (kB R pol_spec_l05Ok 1 (kS R pol_spec_l05Ok 5 N [1,1,0,1,0,0,1,1] F_spec_l05Ok (kL R pol_spec_l05Ok 4 N [1,1,0,1,0,0] F_spec_l05Ok n01_ (kB R pol_spec_l05Ok 0 (kS R pol_spec_l05Ok 14 N [1,1,1] F_spec_l05Ok (kTop E sg_spec_l05Ok F_spec_l05Ok)))))))))
noncomputable def spec_l05Ok.l2 (R:Run) (N:Nat) (n01_:Nat) (n:Nat) (t0__9:(vK × Unit)) (t3__10:Int) (t4__11:(List Int)) (t5__12:Int):Option Dv := R.w (some ⟨(.c (.ip (.cons yK .nil) t0__9 0)::(V.dead::(V.dead::(.c (.d yI t3__10)::(.c (.d yL t4__11)::(.c (.d yI t5__12)::(zd 59 []))))))),(zo 66 [])⟩) fun st => lC R pol_spec_l05Ok 10 N [1,1,0,1,0,0,1,0,0,1,1,1,0,0] F_spec_l05Ok n st (kB R pol_spec_l05Ok 2 (kB R pol_spec_l05Ok 1 (kS R pol_spec_l05Ok 5 N [1,1,0,1,0,0,1,1] F_spec_l05Ok (kL R pol_spec_l05Ok 4 N [1,1,0,1,0,0] F_spec_l05Ok n01_ (kB R pol_spec_l05Ok 0 (kS R pol_spec_l05Ok 14 N [1,1,1] F_spec_l05Ok (kTop E sg_spec_l05Ok F_spec_l05Ok)))))))
noncomputable def spec_l05Ok.j1 (R:Run) (N:Nat) (n01_:Nat) (t0__5:(vK × Unit)) (t3__6:Int) (t4__7:(List Int)) (t47__8:Bool):Option Dv := R.w (some ⟨(.c (.ip (.cons yK .nil) t0__5 0)::(V.dead::(V.dead::(.c (.d yI t3__6)::(.c (.d yL t4__7)::(zd 42 (.c (.d .bool t47__8)::(zd 17 [])))))))),(zo 66 [])⟩) fun st => eC R pol_spec_l05Ok N [1,1,0,1,0,0,1,0,0,1,0,1] F_spec_l05Ok st (kS R pol_spec_l05Ok 9 N [1,1,0,1,0,0,1,0,0,1,1] F_spec_l05Ok (kB R pol_spec_l05Ok 1 (kS R pol_spec_l05Ok 5 N [1,1,0,1,0,0,1,1] F_spec_l05Ok (kL R pol_spec_l05Ok 4 N [1,1,0,1,0,0] F_spec_l05Ok n01_ (kB R pol_spec_l05Ok 0 (kS R pol_spec_l05Ok 14 N [1,1,1] F_spec_l05Ok (kTop E sg_spec_l05Ok F_spec_l05Ok)))))))
noncomputable def spec_l05Ok.l0 (R:Run) (N:Nat) (n:Nat) (t0__1:(vK × Unit)) (t3__2:Int):Option Dv := R.w (some ⟨(.c (.ip (.cons yK .nil) t0__1 0)::(V.dead::(V.dead::(.c (.d yI t3__2)::(zd 61 []))))),(zo 66 [])⟩) fun st => lC R pol_spec_l05Ok 4 N [1,1,0,1,0,0] F_spec_l05Ok n st (kB R pol_spec_l05Ok 0 (kS R pol_spec_l05Ok 14 N [1,1,1] F_spec_l05Ok (kTop E sg_spec_l05Ok F_spec_l05Ok)))
theorem spec_l05Ok.j3_eq (R:Run) (hw:R.ok) (N:Nat) (n01_:Nat) (n02_:Nat) (t0__13:(vK × Unit)) (t3__14:Int) (t4__15:(List Int)) (t5__16:Int) (t56__17:Bool):spec_l05Ok.j3 R N n01_ n02_ t0__13 t3__14 t4__15 t5__16 t56__17 = (bif t56__17 then ((callT R n_spec_l05Drop o_spec_l05Drop [⟨yL,t4__15⟩,⟨yI,t5__16⟩]).bind fun r18 => ((callT R n_spec_l05Find o_spec_l05Find [⟨(.ptr (.cons yK .nil)),t0__13⟩,⟨yL,r18.1⟩]).bind fun r19 => (bif (decide (r19.1 < (0:Int))) then some ⟨o_spec_l05Ok,(false,())⟩ else (spec_l05Ok.l2 R N n01_ n02_ t0__13 t3__14 t4__15 (w64 (t5__16 + (1:Int))))))) else (spec_l05Ok.l0 R N n01_ t0__13 (w64 (t3__14 + (1:Int))))) := (hw _ _).trans (by kernel_rfl)
theorem spec_l05Ok.l2_succ (R:Run) (hw:R.ok) (N:Nat) (n01_:Nat) (n:Nat) (t0__9:(vK × Unit)) (t3__10:Int) (t4__11:(List Int)) (t5__12:Int):spec_l05Ok.l2 R N n01_ (n + 1) t0__9 t3__10 t4__11 t5__12 = (bif (decide (t5__12 < (List.length t4__11:Int))) then (spec_l05Ok.j3 R N n01_ n t0__9 t3__10 t4__11 t5__12 (decide ((List.length t4__11:Int) > (1:Int)))) else (spec_l05Ok.j3 R N n01_ n t0__9 t3__10 t4__11 t5__12 false)) := (hw _ _).trans (by kernel_rfl)
theorem spec_l05Ok.j1_eq (R:Run) (hw:R.ok) (N:Nat) (n01_:Nat) (t0__5:(vK × Unit)) (t3__6:Int) (t4__7:(List Int)) (t47__8:Bool):spec_l05Ok.j1 R N n01_ t0__5 t3__6 t4__7 t47__8 = (bif t47__8 then some ⟨o_spec_l05Ok,(false,())⟩ else (spec_l05Ok.l2 R N n01_ N t0__5 t3__6 t4__7 (0:Int))) := (hw _ _).trans (by kernel_rfl)
theorem spec_l05Ok.l0_succ (R:Run) (hw:R.ok) (N:Nat) (n:Nat) (t0__1:(vK × Unit)) (t3__2:Int):spec_l05Ok.l0 R N (n + 1) t0__1 t3__2 = (bif (decide (t3__2 < (List.length t0__1.1:Int))) then ((idx? t0__1.1 t3__2).bind fun y3 => ((callT R n_spec_l05Simplex o_spec_l05Simplex [⟨yL,(y3,()).1⟩]).bind fun r4 => (bif (!r4.1) then (spec_l05Ok.j1 R N n t0__1 t3__2 ((y3,()).1) true) else (bif (decide (t3__2 > (0:Int))) then ((idx? t0__1.1 (w64 (t3__2 - (1:Int)))).bind fun y31 => ((callT R n_spec_l05Before o_spec_l05Before [⟨yL,(y31,()).1⟩,⟨yL,(y3,()).1⟩]).bind fun r32 => (spec_l05Ok.j1 R N n t0__1 t3__2 ((y3,()).1) (!r32.1)))) else (spec_l05Ok.j1 R N n t0__1 t3__2 ((y3,()).1) false))))) else some ⟨o_spec_l05Ok,(true,())⟩) := (hw _ _).trans (by kernel_rfl)
theorem spec_l05Ok.ev (R:Run) (N:Nat) (a0:(vK × Unit)):evFn E R sg_spec_l05Ok pol_spec_l05Ok F_spec_l05Ok N [⟨(.ptr (.cons yK .nil)),a0⟩] = (bif (decide ((List.length a0.1:Int) > (48:Int))) then some ⟨o_spec_l05Ok,(false,())⟩ else (spec_l05Ok.l0 R N N a0 (0:Int))) := by kernel_rfl
/-! loop.example/g01005/spec.l02Prime -/
noncomputable def spec_l02Prime.l0 (R:Run) (N:Nat) (n:Nat) (p_2:Int) (k_3:Int):Option Dv := R.w (some ⟨(.c (.d yI p_2)::(V.dead::(V.dead::(.c (.d yI k_3)::(zd 14 []))))),(zo 19 [])⟩) fun st => lC R pol_spec_l02Prime 4 N [1,1,0,1,0,0] F_spec_l02Prime n st (kB R pol_spec_l02Prime 0 (kS R pol_spec_l02Prime 8 N [1,1,1] F_spec_l02Prime (kTop E sg_spec_l02Prime F_spec_l02Prime)))
theorem spec_l02Prime.l0_succ (R:Run) (hw:R.ok) (N:Nat) (n:Nat) (p_2:Int) (k_3:Int):spec_l02Prime.l0 R N (n + 1) p_2 k_3 = (bif (decide ((w64 (k_3 * k_3)) ≤ p_2)) then ((chk (k_3 != 0)).bind fun _ => (bif ((Int.tmod p_2 k_3) == (0:Int)) then some ⟨o_spec_l02Prime,(false,())⟩ else (spec_l02Prime.l0 R N n p_2 (w64 (k_3 + (1:Int)))))) else some ⟨o_spec_l02Prime,(true,())⟩) := (hw _ _).trans (by kernel_rfl)
theorem spec_l02Prime.ev (R:Run) (N:Nat) (a0:Int):evFn E R sg_spec_l02Prime pol_spec_l02Prime F_spec_l02Prime N [⟨yI,a0⟩] = ((callT R n_spec_l00In o_spec_l00In [⟨yI,a0⟩,⟨yI,(2:Int)⟩,⟨yI,(251:Int)⟩]).bind fun r1 => (bif (!r1.1) then some ⟨o_spec_l02Prime,(false,())⟩ else (spec_l02Prime.l0 R N N a0 (2:Int)))) := by kernel_rfl
/-! loop.example/g01005/spec.ValidPrime -/
theorem spec_ValidPrime.ev (R:Run) (N:Nat) (a0:Int):evFn E R sg_spec_ValidPrime pol_spec_ValidPrime F_spec_ValidPrime N [⟨yI,a0⟩] = ((callT R n_spec_l02Prime o_spec_l02Prime [⟨yI,a0⟩]).bind fun r1 => some ⟨o_spec_ValidPrime,(r1.1,())⟩) := by kernel_rfl
/-! loop.example/g01005/spec.l09Place -/
noncomputable def spec_l09Place.l0 (R:Run) (N:Nat) (n:Nat) (c_1:(vK × Unit)) (simplex_2:Int) (i_3:Int) (at_4:Int) (k_5:Int):Option Dv := R.w (some ⟨(.c (.ip (.cons yK .nil) c_1 0)::(.c (.d yI simplex_2)::(.c (.d yI i_3)::(zd 4 (.c (.d yI at_4)::(.c (.d yI k_5)::(zd 27 []))))))),(zo 39 [])⟩) fun st => lC R pol_spec_l09Place 3 N [1,1,0,1,0,0] F_spec_l09Place n st (kB R pol_spec_l09Place 0 (kS R pol_spec_l09Place 7 N [1,1,1] F_spec_l09Place (kTop E sg_spec_l09Place F_spec_l09Place)))
theorem spec_l09Place.l0_succ (R:Run) (hw:R.ok) (N:Nat) (n:Nat) (c_1:(vK × Unit)) (simplex_2:Int) (i_3:Int) (at_4:Int) (k_5:Int):spec_l09Place.l0 R N (n + 1) c_1 simplex_2 i_3 at_4 k_5 = (bif (decide (k_5 < simplex_2)) then ((idx? c_1.1 k_5).bind fun y6 => (bif (decide ((List.length (y6,()).1:Int) > (1:Int))) then ((idx? c_1.1 k_5).bind fun y7 => (spec_l09Place.l0 R N n c_1 simplex_2 i_3 (w64 (at_4 + (List.length (y7,()).1:Int))) (w64 (k_5 + (1:Int))))) else (spec_l09Place.l0 R N n c_1 simplex_2 i_3 at_4 (w64 (k_5 + (1:Int)))))) else some ⟨o_spec_l09Place,((w64 (at_4 + i_3)),())⟩) := (hw _ _).trans (by kernel_rfl)
theorem spec_l09Place.ev (R:Run) (N:Nat) (a0:(vK × Unit)) (a1:Int) (a2:Int):evFn E R sg_spec_l09Place pol_spec_l09Place F_spec_l09Place N [⟨(.ptr (.cons yK .nil)),a0⟩,⟨yI,a1⟩,⟨yI,a2⟩] = (spec_l09Place.l0 R N N a0 a1 a2 (0:Int) (0:Int)) := by kernel_rfl
/-! loop.example/g01005/spec.l05Faces -/
noncomputable def spec_l05Faces.j1 (R:Run) (N:Nat) (n03_:Nat) (c_6:(vK × Unit)) (s_7:(List Int)) (i_8:Int) (t24__9:Bool) (o15_10:(List Int)):Option Dv := R.w (some ⟨(.c (.ip (.cons yK .nil) c_6 0)::(zd 4 (.c (.d yL s_7)::(.c (.arr 15)::(.c (.d yI i_8)::(zd 16 (.c (.d .bool t24__9)::(zd 11 [])))))))),(zo 15 (some (.arr yI o15_10 true false false)::(zo 22 [])))⟩) fun st => eC R pol_spec_l05Faces N [1,1,1,0,1,0,0,0,1] F_spec_l05Faces st (kS R pol_spec_l05Faces 6 N [1,1,1,0,1,0,0,1] F_spec_l05Faces (kL R pol_spec_l05Faces 4 N [1,1,1,0,1,0,0] F_spec_l05Faces n03_ (kB R pol_spec_l05Faces 0 (kS R pol_spec_l05Faces 7 N [1,1,1,1] F_spec_l05Faces (kTop E sg_spec_l05Faces F_spec_l05Faces)))))
noncomputable def spec_l05Faces.l0 (R:Run) (N:Nat) (n:Nat) (c_2:(vK × Unit)) (s_3:(List Int)) (i_4:Int) (o15_5:(List Int)):Option Dv := R.w (some ⟨(.c (.ip (.cons yK .nil) c_2 0)::(zd 4 (.c (.d yL s_3)::(.c (.arr 15)::(.c (.d yI i_4)::(zd 28 [])))))),(zo 15 (some (.arr yI o15_5 true false false)::(zo 22 [])))⟩) fun st => lC R pol_spec_l05Faces 4 N [1,1,1,0,1,0,0] F_spec_l05Faces n st (kB R pol_spec_l05Faces 0 (kS R pol_spec_l05Faces 7 N [1,1,1,1] F_spec_l05Faces (kTop E sg_spec_l05Faces F_spec_l05Faces)))
theorem spec_l05Faces.j1_eq (R:Run) (hw:R.ok) (N:Nat) (n03_:Nat) (c_6:(vK × Unit)) (s_7:(List Int)) (i_8:Int) (t24__9:Bool) (o15_10:(List Int)):spec_l05Faces.j1 R N n03_ c_6 s_7 i_8 t24__9 o15_10 = (bif t24__9 then ((callT R n_spec_l05Drop o_spec_l05Drop [⟨yL,s_7⟩,⟨yI,i_8⟩]).bind fun r11 => ((callT R n_spec_l05Find o_spec_l05Find [⟨(.ptr (.cons yK .nil)),c_6⟩,⟨yL,r11.1⟩]).bind fun r12 => ((chk (decide ((List.length o15_10 + List.length [r12.1]) * 8 ≤ 70368744177664))).bind fun _ => (spec_l05Faces.l0 R N n03_ c_6 s_7 (w64 (i_8 + (1:Int))) (o15_10 ++ [r12.1]))))) else some ⟨o_spec_l05Faces,(o15_10,())⟩) := (hw _ _).trans (by kernel_rfl)
theorem spec_l05Faces.l0_succ (R:Run) (hw:R.ok) (N:Nat) (n:Nat) (c_2:(vK × Unit)) (s_3:(List Int)) (i_4:Int) (o15_5:(List Int)):spec_l05Faces.l0 R N (n + 1) c_2 s_3 i_4 o15_5 = (bif (decide (i_4 < (List.length s_3:Int))) then (spec_l05Faces.j1 R N n c_2 s_3 i_4 (decide ((List.length s_3:Int) > (1:Int))) o15_5) else (spec_l05Faces.j1 R N n c_2 s_3 i_4 false o15_5)) := (hw _ _).trans (by kernel_rfl)
theorem spec_l05Faces.ev (R:Run) (N:Nat) (a0:(vK × Unit)) (a1:Int):evFn E R sg_spec_l05Faces pol_spec_l05Faces F_spec_l05Faces N [⟨(.ptr (.cons yK .nil)),a0⟩,⟨yI,a1⟩] = ((idx? a0.1 a1).bind fun y1 => (spec_l05Faces.l0 R N N a0 ((y1,()).1) (0:Int) ([]:List Int))) := by kernel_rfl
/-! loop.example/g01005/spec.l03Column -/
noncomputable def spec_l03Column.l0 (R:Run) (N:Nat) (n:Nat) (v_1:(List Int)) (n_2:Int) (p_3:Int) (i_4:Int):Option Dv := R.w (some ⟨(.c (.d yL v_1)::(.c (.d yI n_2)::(.c (.d yI p_3)::(zd 4 (.c (.d yI i_4)::(zd 18 [])))))),(zo 29 [])⟩) fun st => lC R pol_spec_l03Column 2 N [1,0,1,0,0] F_spec_l03Column n st (kB R pol_spec_l03Column 0 (kS R pol_spec_l03Column 6 N [1,1] F_spec_l03Column (kTop E sg_spec_l03Column F_spec_l03Column)))
theorem spec_l03Column.l0_succ (R:Run) (hw:R.ok) (N:Nat) (n:Nat) (v_1:(List Int)) (n_2:Int) (p_3:Int) (i_4:Int):spec_l03Column.l0 R N (n + 1) v_1 n_2 p_3 i_4 = (bif (decide (i_4 < (List.length v_1:Int))) then ((idx? v_1 i_4).bind fun y5 => ((callT R n_spec_l00In o_spec_l00In [⟨yI,(y5,()).1⟩,⟨yI,(0:Int)⟩,⟨yI,(w64 (p_3 - (1:Int)))⟩]).bind fun r6 => (bif (!r6.1) then some ⟨o_spec_l03Column,(false,())⟩ else (spec_l03Column.l0 R N n v_1 n_2 p_3 (w64 (i_4 + (1:Int))))))) else some ⟨o_spec_l03Column,(((List.length v_1:Int) == n_2),())⟩) := (hw _ _).trans (by kernel_rfl)
theorem spec_l03Column.ev (R:Run) (N:Nat) (a0:(List Int)) (a1:Int) (a2:Int):evFn E R sg_spec_l03Column pol_spec_l03Column F_spec_l03Column N [⟨yL,a0⟩,⟨yI,a1⟩,⟨yI,a2⟩] = (spec_l03Column.l0 R N N a0 a1 a2 (0:Int)) := by kernel_rfl
/-! loop.example/g01005/spec.l03Ok -/
theorem spec_l03Ok.ev (R:Run) (N:Nat) (a0:vM):evFn E R sg_spec_l03Ok pol_spec_l03Ok F_spec_l03Ok N [⟨(.ptr yM),a0⟩] = ((callT R n_spec_ValidPrime o_spec_ValidPrime [⟨yI,a0.1⟩]).bind fun r1 => (bif r1.1 then ((callT R n_spec_l00In o_spec_l00In [⟨yI,a0.2.1⟩,⟨yI,(0:Int)⟩,⟨yI,(32:Int)⟩]).bind fun r2 => (bif r2.1 then ((callT R n_spec_l00In o_spec_l00In [⟨yI,a0.2.2.1⟩,⟨yI,(0:Int)⟩,⟨yI,(32:Int)⟩]).bind fun r3 => (bif r3.1 then ((callT R n_spec_l03Column o_spec_l03Column [⟨yL,a0.2.2.2.1⟩,⟨yI,(w64 (a0.2.1 * a0.2.2.1))⟩,⟨yI,a0.1⟩]).bind fun r4 => some ⟨o_spec_l03Ok,(r4.1,())⟩) else some ⟨o_spec_l03Ok,(false,())⟩)) else some ⟨o_spec_l03Ok,(false,())⟩)) else some ⟨o_spec_l03Ok,(false,())⟩)) := by kernel_rfl
/-! loop.example/g01005/spec.l09Map -/
theorem spec_l09Map.ev (R:Run) (N:Nat) (a0:vS) (a1:Int) (a2:Int) (a3:vM):evFn E R sg_spec_l09Map pol_spec_l09Map F_spec_l09Map N [⟨(.ptr yS),a0⟩,⟨yI,a1⟩,⟨yI,a2⟩,⟨(.ptr yM),a3⟩] = ((callT R n_spec_l05Faces o_spec_l05Faces [⟨(.ptr (.cons yK .nil)),(a0.1,())⟩,⟨yI,a1⟩]).bind fun r1 => ((idx? r1.1 a2).bind fun y2 => ((callT R n_spec_l03Ok o_spec_l03Ok [⟨(.ptr yM),a3⟩]).bind fun r3 => (bif r3.1 then (bif (a3.1 == a0.2.1) then ((idx? a0.2.2.1 a1).bind fun y4 => (bif (a3.2.1 == (y4,()).1) then ((idx? a0.2.2.1 (y2,()).1).bind fun y5 => some ⟨o_spec_l09Map,((a3.2.2.1 == (y5,()).1),())⟩) else some ⟨o_spec_l09Map,(false,())⟩)) else some ⟨o_spec_l09Map,(false,())⟩) else some ⟨o_spec_l09Map,(false,())⟩)))) := by kernel_rfl
/-! loop.example/g01005/spec.l05Of -/
noncomputable def spec_l05Of.l0 (R:Run) (N:Nat) (n:Nat) (c_1:(vK × Unit)) (dimension_2:Int) (i_3:Int) (o7_4:(List Int)):Option Dv := R.w (some ⟨(.c (.ip (.cons yK .nil) c_1 0)::(.c (.d yI dimension_2)::(zd 3 (.c (.arr 7)::(.c (.d yI i_3)::(zd 26 [])))))),(zo 7 (some (.arr yI o7_4 true false false)::(zo 27 [])))⟩) fun st => lC R pol_spec_l05Of 3 N [1,1,0,1,0,0] F_spec_l05Of n st (kB R pol_spec_l05Of 0 (kS R pol_spec_l05Of 7 N [1,1,1] F_spec_l05Of (kTop E sg_spec_l05Of F_spec_l05Of)))
theorem spec_l05Of.l0_succ (R:Run) (hw:R.ok) (N:Nat) (n:Nat) (c_1:(vK × Unit)) (dimension_2:Int) (i_3:Int) (o7_4:(List Int)):spec_l05Of.l0 R N (n + 1) c_1 dimension_2 i_3 o7_4 = (bif (decide (i_3 < (List.length c_1.1:Int))) then ((idx? c_1.1 i_3).bind fun y5 => (bif ((List.length (y5,()).1:Int) == (w64 (dimension_2 + (1:Int)))) then ((chk (decide ((List.length o7_4 + List.length [i_3]) * 8 ≤ 70368744177664))).bind fun _ => (spec_l05Of.l0 R N n c_1 dimension_2 (w64 (i_3 + (1:Int))) (o7_4 ++ [i_3]))) else (spec_l05Of.l0 R N n c_1 dimension_2 (w64 (i_3 + (1:Int))) o7_4))) else some ⟨o_spec_l05Of,(o7_4,())⟩) := (hw _ _).trans (by kernel_rfl)
theorem spec_l05Of.ev (R:Run) (N:Nat) (a0:(vK × Unit)) (a1:Int):evFn E R sg_spec_l05Of pol_spec_l05Of F_spec_l05Of N [⟨(.ptr (.cons yK .nil)),a0⟩,⟨yI,a1⟩] = (spec_l05Of.l0 R N N a0 a1 (0:Int) ([]:List Int)) := by kernel_rfl
/-! loop.example/g01005/spec.l09Sum -/
noncomputable def spec_l09Sum.l0 (R:Run) (N:Nat) (n:Nat) (stalks_2:(List Int)) (list_3:(List Int)) (sum_4:Int) (i_5:Int):Option Dv := R.w (some ⟨(V.dead::(.c (.d yL stalks_2)::(zd 5 (.c (.d yL list_3)::(.c (.d yI sum_4)::(.c (.d yI i_5)::(zd 19 []))))))),(zo 32 [])⟩) fun st => lC R pol_spec_l09Sum 4 N [1,1,1,0,1,0,0] F_spec_l09Sum n st (kB R pol_spec_l09Sum 0 (kS R pol_spec_l09Sum 7 N [1,1,1,1] F_spec_l09Sum (kTop E sg_spec_l09Sum F_spec_l09Sum)))
theorem spec_l09Sum.l0_succ (R:Run) (hw:R.ok) (N:Nat) (n:Nat) (stalks_2:(List Int)) (list_3:(List Int)) (sum_4:Int) (i_5:Int):spec_l09Sum.l0 R N (n + 1) stalks_2 list_3 sum_4 i_5 = (bif (decide (i_5 < (List.length list_3:Int))) then ((idx? list_3 i_5).bind fun y6 => ((idx? stalks_2 (y6,()).1).bind fun y7 => (spec_l09Sum.l0 R N n stalks_2 list_3 (w64 (sum_4 + (y7,()).1)) (w64 (i_5 + (1:Int)))))) else some ⟨o_spec_l09Sum,(sum_4,())⟩) := (hw _ _).trans (by kernel_rfl)
theorem spec_l09Sum.ev (R:Run) (N:Nat) (a0:(vK × Unit)) (a1:(List Int)) (a2:Int):evFn E R sg_spec_l09Sum pol_spec_l09Sum F_spec_l09Sum N [⟨(.ptr (.cons yK .nil)),a0⟩,⟨yL,a1⟩,⟨yI,a2⟩] = ((callT R n_spec_l05Of o_spec_l05Of [⟨(.ptr (.cons yK .nil)),a0⟩,⟨yI,a2⟩]).bind fun r1 => (spec_l09Sum.l0 R N N a1 r1.1 (0:Int) (0:Int))) := by kernel_rfl
/-! loop.example/g01005/spec.l09Stalks -/
noncomputable def spec_l09Stalks.l0 (R:Run) (N:Nat) (n:Nat) (c_2:(vK × Unit)) (stalks_3:(List Int)) (k_4:Int):Option Dv := R.w (some ⟨(.c (.ip (.cons yK .nil) c_2 0)::(.c (.d yL stalks_3)::(zd 3 (.c (.d yI k_4)::(zd 17 []))))),(zo 25 [])⟩) fun st => lC R pol_spec_l09Stalks 4 N [1,1,0,1,0,0] F_spec_l09Stalks n st (kB R pol_spec_l09Stalks 0 (kS R pol_spec_l09Stalks 8 N [1,1,1] F_spec_l09Stalks (kTop E sg_spec_l09Stalks F_spec_l09Stalks)))
theorem spec_l09Stalks.l0_succ (R:Run) (hw:R.ok) (N:Nat) (n:Nat) (c_2:(vK × Unit)) (stalks_3:(List Int)) (k_4:Int):spec_l09Stalks.l0 R N (n + 1) c_2 stalks_3 k_4 = (bif (decide (k_4 ≤ (3:Int))) then ((callT R n_spec_l09Sum o_spec_l09Sum [⟨(.ptr (.cons yK .nil)),c_2⟩,⟨yL,stalks_3⟩,⟨yI,k_4⟩]).bind fun r5 => (bif (decide (r5.1 > (32:Int))) then some ⟨o_spec_l09Stalks,(false,())⟩ else (spec_l09Stalks.l0 R N n c_2 stalks_3 (w64 (k_4 + (1:Int)))))) else some ⟨o_spec_l09Stalks,(true,())⟩) := (hw _ _).trans (by kernel_rfl)
theorem spec_l09Stalks.ev (R:Run) (N:Nat) (a0:(vK × Unit)) (a1:(List Int)):evFn E R sg_spec_l09Stalks pol_spec_l09Stalks F_spec_l09Stalks N [⟨(.ptr (.cons yK .nil)),a0⟩,⟨yL,a1⟩] = ((callT R n_spec_l03Column o_spec_l03Column [⟨yL,a1⟩,⟨yI,(List.length a0.1:Int)⟩,⟨yI,(4:Int)⟩]).bind fun r1 => (bif (!r1.1) then some ⟨o_spec_l09Stalks,(false,())⟩ else (spec_l09Stalks.l0 R N N a0 a1 (0:Int)))) := by kernel_rfl
/-! loop.example/g01005/spec.l09Count -/
theorem spec_l09Count.ev (R:Run) (N:Nat) (a0:(vK × Unit)):evFn E R sg_spec_l09Count pol_spec_l09Count F_spec_l09Count N [⟨(.ptr (.cons yK .nil)),a0⟩] = ((callT R n_spec_l09Place o_spec_l09Place [⟨(.ptr (.cons yK .nil)),a0⟩,⟨yI,(List.length a0.1:Int)⟩,⟨yI,(0:Int)⟩]).bind fun r1 => some ⟨o_spec_l09Count,(r1.1,())⟩) := by kernel_rfl
/-! loop.example/g01005/spec.l09Ok -/
noncomputable def spec_l09Ok.j3 (R:Run) (N:Nat) (n01_:Nat) (n04_:Nat) (t0__11:vS) (t3__12:Int) (t4__13:Int) (t73__14:Bool):Option Dv := R.w (some ⟨(.c (.ip yS t0__11 0)::(V.dead::(V.dead::(.c (.d yI t3__12)::(.c (.d yI t4__13)::(zd 68 (.c (.d .bool t73__14)::(zd 18 [])))))))),(zo 93 [])⟩) fun st => eC R pol_spec_l09Ok N [1,1,0,1,0,0,1,0,0,1,0,0,0,1] F_spec_l09Ok st (kS R pol_spec_l09Ok 9 N [1,1,0,1,0,0,1,0,0,1,0,0,1] F_spec_l09Ok (kL R pol_spec_l09Ok 7 N [1,1,0,1,0,0,1,0,0,1,0,0] F_spec_l09Ok n04_ (kB R pol_spec_l09Ok 2 (kB R pol_spec_l09Ok 1 (kS R pol_spec_l09Ok 5 N [1,1,0,1,0,0,1,1] F_spec_l09Ok (kL R pol_spec_l09Ok 4 N [1,1,0,1,0,0] F_spec_l09Ok n01_ (kB R pol_spec_l09Ok 0 (kS R pol_spec_l09Ok 11 N [1,1,1] F_spec_l09Ok (kTop E sg_spec_l09Ok F_spec_l09Ok)))))))))
noncomputable def spec_l09Ok.l2 (R:Run) (N:Nat) (n01_:Nat) (n:Nat) (t0__6:vS) (t3__7:Int) (t4__8:Int):Option Dv := R.w (some ⟨(.c (.ip yS t0__6 0)::(V.dead::(V.dead::(.c (.d yI t3__7)::(.c (.d yI t4__8)::(zd 87 [])))))),(zo 93 [])⟩) fun st => lC R pol_spec_l09Ok 7 N [1,1,0,1,0,0,1,0,0,1,0,0] F_spec_l09Ok n st (kB R pol_spec_l09Ok 2 (kB R pol_spec_l09Ok 1 (kS R pol_spec_l09Ok 5 N [1,1,0,1,0,0,1,1] F_spec_l09Ok (kL R pol_spec_l09Ok 4 N [1,1,0,1,0,0] F_spec_l09Ok n01_ (kB R pol_spec_l09Ok 0 (kS R pol_spec_l09Ok 11 N [1,1,1] F_spec_l09Ok (kTop E sg_spec_l09Ok F_spec_l09Ok)))))))
noncomputable def spec_l09Ok.l1 (R:Run) (N:Nat) (n:Nat) (t0__4:vS) (t3__5:Int):Option Dv := R.w (some ⟨(.c (.ip yS t0__4 0)::(V.dead::(V.dead::(.c (.d yI t3__5)::(zd 88 []))))),(zo 93 [])⟩) fun st => lC R pol_spec_l09Ok 4 N [1,1,0,1,0,0] F_spec_l09Ok n st (kB R pol_spec_l09Ok 0 (kS R pol_spec_l09Ok 11 N [1,1,1] F_spec_l09Ok (kTop E sg_spec_l09Ok F_spec_l09Ok)))
noncomputable def spec_l09Ok.j0 (R:Run) (N:Nat) (t0__2:vS) (t40__3:Bool):Option Dv := R.w (some ⟨(.c (.ip yS t0__2 0)::(zd 39 (.c (.d .bool t40__3)::(zd 51 [])))),(zo 93 [])⟩) fun st => eC R pol_spec_l09Ok N [1,0,1] F_spec_l09Ok st (kS R pol_spec_l09Ok 3 N [1,1] F_spec_l09Ok (kTop E sg_spec_l09Ok F_spec_l09Ok))
theorem spec_l09Ok.j3_eq (R:Run) (hw:R.ok) (N:Nat) (n01_:Nat) (n04_:Nat) (t0__11:vS) (t3__12:Int) (t4__13:Int) (t73__14:Bool):spec_l09Ok.j3 R N n01_ n04_ t0__11 t3__12 t4__13 t73__14 = (bif t73__14 then ((callT R n_spec_l09Place o_spec_l09Place [⟨(.ptr (.cons yK .nil)),(t0__11.1,())⟩,⟨yI,t3__12⟩,⟨yI,t4__13⟩]).bind fun r15 => ((idx? t0__11.2.2.2.1 r15.1).bind fun y16 => ((callT R n_spec_l09Map o_spec_l09Map [⟨(.ptr yS),t0__11⟩,⟨yI,t3__12⟩,⟨yI,t4__13⟩,⟨(.ptr yM),y16⟩]).bind fun r17 => (bif (!r17.1) then some ⟨o_spec_l09Ok,(false,())⟩ else (spec_l09Ok.l2 R N n01_ n04_ t0__11 t3__12 (w64 (t4__13 + (1:Int)))))))) else (spec_l09Ok.l1 R N n01_ t0__11 (w64 (t3__12 + (1:Int))))) := (hw _ _).trans (by kernel_rfl)
theorem spec_l09Ok.l2_succ (R:Run) (hw:R.ok) (N:Nat) (n01_:Nat) (n:Nat) (t0__6:vS) (t3__7:Int) (t4__8:Int):spec_l09Ok.l2 R N n01_ (n + 1) t0__6 t3__7 t4__8 = ((idx? t0__6.1 t3__7).bind fun y9 => (bif (decide (t4__8 < (List.length (y9,()).1:Int))) then ((idx? t0__6.1 t3__7).bind fun y10 => (spec_l09Ok.j3 R N n01_ n t0__6 t3__7 t4__8 (decide ((List.length (y10,()).1:Int) > (1:Int))))) else (spec_l09Ok.j3 R N n01_ n t0__6 t3__7 t4__8 false))) := (hw _ _).trans (by kernel_rfl)
theorem spec_l09Ok.l1_succ (R:Run) (hw:R.ok) (N:Nat) (n:Nat) (t0__4:vS) (t3__5:Int):spec_l09Ok.l1 R N (n + 1) t0__4 t3__5 = (bif (decide (t3__5 < (List.length t0__4.1:Int))) then (spec_l09Ok.l2 R N n N t0__4 t3__5 (0:Int)) else some ⟨o_spec_l09Ok,(true,())⟩) := (hw _ _).trans (by kernel_rfl)
theorem spec_l09Ok.j0_eq (R:Run) (hw:R.ok) (N:Nat) (t0__2:vS) (t40__3:Bool):spec_l09Ok.j0 R N t0__2 t40__3 = (bif t40__3 then some ⟨o_spec_l09Ok,(false,())⟩ else (spec_l09Ok.l1 R N N t0__2 (0:Int))) := (hw _ _).trans (by kernel_rfl)
theorem spec_l09Ok.ev (R:Run) (N:Nat) (a0:vS):evFn E R sg_spec_l09Ok pol_spec_l09Ok F_spec_l09Ok N [⟨(.ptr yS),a0⟩] = ((callT R n_spec_l05Ok o_spec_l05Ok [⟨(.ptr (.cons yK .nil)),(a0.1,())⟩]).bind fun r1 => (bif (!r1.1) then (spec_l09Ok.j0 R N a0 true) else ((callT R n_spec_ValidPrime o_spec_ValidPrime [⟨yI,a0.2.1⟩]).bind fun r27 => (bif (!r27.1) then (spec_l09Ok.j0 R N a0 true) else ((callT R n_spec_l09Stalks o_spec_l09Stalks [⟨(.ptr (.cons yK .nil)),(a0.1,())⟩,⟨yL,a0.2.2.1⟩]).bind fun r30 => (bif (!r30.1) then (spec_l09Ok.j0 R N a0 true) else ((callT R n_spec_l09Count o_spec_l09Count [⟨(.ptr (.cons yK .nil)),(a0.1,())⟩]).bind fun r33 => (spec_l09Ok.j0 R N a0 ((List.length a0.2.2.2.1:Int) != r33.1))))))))) := by kernel_rfl
/-! loop.example/g01005/spec.l09Get -/
theorem spec_l09Get.ev (R:Run) (N:Nat) (a0:vS) (a1:Int) (a2:Int):evFn E R sg_spec_l09Get pol_spec_l09Get F_spec_l09Get N [⟨(.ptr yS),a0⟩,⟨yI,a1⟩,⟨yI,a2⟩] = ((callT R n_spec_l09Place o_spec_l09Place [⟨(.ptr (.cons yK .nil)),(a0.1,())⟩,⟨yI,a1⟩,⟨yI,a2⟩]).bind fun r1 => ((idx? a0.2.2.2.1 r1.1).bind fun y2 => some ⟨o_spec_l09Get,(y2,())⟩)) := by kernel_rfl
/-! loop.example/g01005/spec.l03Zero -/
theorem spec_l03Zero.ev (R:Run) (N:Nat) (a0:Int) (a1:Int) (a2:Int):evFn E R sg_spec_l03Zero pol_spec_l03Zero F_spec_l03Zero N [⟨yI,a0⟩,⟨yI,a1⟩,⟨yI,a2⟩] = ((chk (decide (0 ≤ (w64 (a1 * a2))) && decide ((w64 (a1 * a2)) * 8 ≤ 70368744177664))).bind fun _ => some ⟨o_spec_l03Zero,(a0,a1,a2,(List.replicate (Int.toNat (w64 (a1 * a2))) (0:Int)),())⟩) := by kernel_rfl
/-! loop.example/g01005/spec.l03Times -/
noncomputable def spec_l03Times.l3 (R:Run) (N:Nat) (n01_:Nat) (n04_:Nat) (n:Nat) (t0__32:vM) (t1__33:vM) (t6__34:Int) (t7__35:Int) (t8__36:Int) (t9__37:Int) (o4_38:Int) (o4_39:Int) (o4_40:Int) (o5_41:Int) (o5_42:Int) (o5_43:Int) (o98_44:(List Int)):Option Dv := R.w (some ⟨(.c (.ip yM t0__32 0)::(.c (.ip yM t1__33 0)::(V.dead::(V.dead::(.c (.box 4 0)::(.c (.box 5 0)::(.c (.d yI t6__34)::(.c (.d yI t7__35)::(.c (.d yI t8__36)::(.c (.d yI t9__37)::(zd 86 []))))))))))),(zo 4 (some (.box [.d yI o4_38,.d yI o4_39,.d yI o4_40,.nils yI] false false)::(some (.box [.d yI o5_41,.d yI o5_42,.d yI o5_43,.arr 98] false false)::(zo 92 (some (.arr yI o98_44 true false false)::[])))))⟩) fun st => lC R pol_spec_l03Times 10 N [1,1,0,1,0,0,1,0,0,1,0,0,1,0,0,1,0,1,0,0] F_spec_l03Times n st (kB R pol_spec_l03Times 4 (kS R pol_spec_l03Times 13 N [1,1,0,1,0,0,1,0,0,1,0,0,1,0,0,1,1] F_spec_l03Times (kB R pol_spec_l03Times 3 (kS R pol_spec_l03Times 7 N [1,1,0,1,0,0,1,0,0,1,0,0,1,1] F_spec_l03Times (kL R pol_spec_l03Times 6 N [1,1,0,1,0,0,1,0,0,1,0,0] F_spec_l03Times n04_ (kB R pol_spec_l03Times 2 (kB R pol_spec_l03Times 1 (kS R pol_spec_l03Times 4 N [1,1,0,1,0,0,1,1] F_spec_l03Times (kL R pol_spec_l03Times 3 N [1,1,0,1,0,0] F_spec_l03Times n01_ (kB R pol_spec_l03Times 0 (kS R pol_spec_l03Times 14 N [1,1,1] F_spec_l03Times (kTop E sg_spec_l03Times F_spec_l03Times))))))))))))
noncomputable def spec_l03Times.l2 (R:Run) (N:Nat) (n01_:Nat) (n:Nat) (t0__21:vM) (t1__22:vM) (t6__23:Int) (t7__24:Int) (o4_25:Int) (o4_26:Int) (o4_27:Int) (o5_28:Int) (o5_29:Int) (o5_30:Int) (o98_31:(List Int)):Option Dv := R.w (some ⟨(.c (.ip yM t0__21 0)::(.c (.ip yM t1__22 0)::(V.dead::(V.dead::(.c (.box 4 0)::(.c (.box 5 0)::(.c (.d yI t6__23)::(.c (.d yI t7__24)::(zd 88 []))))))))),(zo 4 (some (.box [.d yI o4_25,.d yI o4_26,.d yI o4_27,.nils yI] false false)::(some (.box [.d yI o5_28,.d yI o5_29,.d yI o5_30,.arr 98] false false)::(zo 92 (some (.arr yI o98_31 true false false)::[])))))⟩) fun st => lC R pol_spec_l03Times 6 N [1,1,0,1,0,0,1,0,0,1,0,0] F_spec_l03Times n st (kB R pol_spec_l03Times 2 (kB R pol_spec_l03Times 1 (kS R pol_spec_l03Times 4 N [1,1,0,1,0,0,1,1] F_spec_l03Times (kL R pol_spec_l03Times 3 N [1,1,0,1,0,0] F_spec_l03Times n01_ (kB R pol_spec_l03Times 0 (kS R pol_spec_l03Times 14 N [1,1,1] F_spec_l03Times (kTop E sg_spec_l03Times F_spec_l03Times)))))))
noncomputable def spec_l03Times.l1 (R:Run) (N:Nat) (n:Nat) (t0__11:vM) (t1__12:vM) (t6__13:Int) (o4_14:Int) (o4_15:Int) (o4_16:Int) (o5_17:Int) (o5_18:Int) (o5_19:Int) (o98_20:(List Int)):Option Dv := R.w (some ⟨(.c (.ip yM t0__11 0)::(.c (.ip yM t1__12 0)::(V.dead::(V.dead::(.c (.box 4 0)::(.c (.box 5 0)::(.c (.d yI t6__13)::(zd 89 [])))))))),(zo 4 (some (.box [.d yI o4_14,.d yI o4_15,.d yI o4_16,.nils yI] false false)::(some (.box [.d yI o5_17,.d yI o5_18,.d yI o5_19,.arr 98] false false)::(zo 92 (some (.arr yI o98_20 true false false)::[])))))⟩) fun st => lC R pol_spec_l03Times 3 N [1,1,0,1,0,0] F_spec_l03Times n st (kB R pol_spec_l03Times 0 (kS R pol_spec_l03Times 14 N [1,1,1] F_spec_l03Times (kTop E sg_spec_l03Times F_spec_l03Times)))
noncomputable def spec_l03Times.j0 (R:Run) (N:Nat) (t0__2:vM) (t1__3:vM) (o4_4:Int) (o4_5:Int) (o4_6:Int) (o5_7:Int) (o5_8:Int) (o5_9:Int) (o98_10:(List Int)):Option Dv := R.w (some ⟨(.c (.ip yM t0__2 0)::(.c (.ip yM t1__3 0)::(V.dead::(V.dead::(.c (.box 4 0)::(.c (.box 5 0)::(zd 90 []))))))),(zo 4 (some (.box [.d yI o4_4,.d yI o4_5,.d yI o4_6,.nils yI] false false)::(some (.box [.d yI o5_7,.d yI o5_8,.d yI o5_9,.arr 98] false false)::(zo 92 (some (.arr yI o98_10 true false false)::[])))))⟩) fun st => eC R pol_spec_l03Times N [1,1] F_spec_l03Times st (kTop E sg_spec_l03Times F_spec_l03Times)
theorem spec_l03Times.l3_succ (R:Run) (hw:R.ok) (N:Nat) (n01_:Nat) (n04_:Nat) (n:Nat) (t0__32:vM) (t1__33:vM) (t6__34:Int) (t7__35:Int) (t8__36:Int) (t9__37:Int) (o4_38:Int) (o4_39:Int) (o4_40:Int) (o5_41:Int) (o5_42:Int) (o5_43:Int) (o98_44:(List Int)):spec_l03Times.l3 R N n01_ n04_ (n + 1) t0__32 t1__33 t6__34 t7__35 t8__36 t9__37 o4_38 o4_39 o4_40 o5_41 o5_42 o5_43 o98_44 = (bif (decide (t9__37 < t0__32.2.2.1)) then ((idx? t0__32.2.2.2.1 (w64 ((w64 (t6__34 * t0__32.2.2.1)) + t9__37))).bind fun y45 => ((idx? t1__33.2.2.2.1 (w64 ((w64 (t9__37 * t1__33.2.2.1)) + t7__35))).bind fun y46 => (spec_l03Times.l3 R N n01_ n04_ n t0__32 t1__33 t6__34 t7__35 (w64 (t8__36 + (w64 ((y45,()).1 * (y46,()).1)))) (w64 (t9__37 + (1:Int))) o4_38 o4_39 o4_40 o5_41 o5_42 o5_43 o98_44))) else ((chk (t0__32.1 != 0)).bind fun _ => ((chk (decide (0 ≤ (w64 ((w64 (t6__34 * t1__33.2.2.1)) + t7__35))) && decide ((w64 ((w64 (t6__34 * t1__33.2.2.1)) + t7__35)) < (List.length o98_44:Int)))).bind fun _ => (spec_l03Times.l2 R N n01_ n04_ t0__32 t1__33 t6__34 (w64 (t7__35 + (1:Int))) o4_38 o4_39 o4_40 o5_41 o5_42 o5_43 (List.set o98_44 (Int.toNat (w64 ((w64 (t6__34 * t1__33.2.2.1)) + t7__35))) (Int.tmod t8__36 t0__32.1)))))) := (hw _ _).trans (by kernel_rfl)
theorem spec_l03Times.l2_succ (R:Run) (hw:R.ok) (N:Nat) (n01_:Nat) (n:Nat) (t0__21:vM) (t1__22:vM) (t6__23:Int) (t7__24:Int) (o4_25:Int) (o4_26:Int) (o4_27:Int) (o5_28:Int) (o5_29:Int) (o5_30:Int) (o98_31:(List Int)):spec_l03Times.l2 R N n01_ (n + 1) t0__21 t1__22 t6__23 t7__24 o4_25 o4_26 o4_27 o5_28 o5_29 o5_30 o98_31 = (bif (decide (t7__24 < t1__22.2.2.1)) then (spec_l03Times.l3 R N n01_ n N t0__21 t1__22 t6__23 t7__24 (0:Int) (0:Int) o4_25 o4_26 o4_27 o5_28 o5_29 o5_30 o98_31) else (spec_l03Times.l1 R N n01_ t0__21 t1__22 (w64 (t6__23 + (1:Int))) o4_25 o4_26 o4_27 o5_28 o5_29 o5_30 o98_31)) := (hw _ _).trans (by kernel_rfl)
theorem spec_l03Times.l1_succ (R:Run) (hw:R.ok) (N:Nat) (n:Nat) (t0__11:vM) (t1__12:vM) (t6__13:Int) (o4_14:Int) (o4_15:Int) (o4_16:Int) (o5_17:Int) (o5_18:Int) (o5_19:Int) (o98_20:(List Int)):spec_l03Times.l1 R N (n + 1) t0__11 t1__12 t6__13 o4_14 o4_15 o4_16 o5_17 o5_18 o5_19 o98_20 = (bif (decide (t6__13 < t0__11.2.1)) then (spec_l03Times.l2 R N n N t0__11 t1__12 t6__13 (0:Int) o4_14 o4_15 o4_16 o5_17 o5_18 o5_19 o98_20) else some ⟨o_spec_l03Times,(o5_17,o5_18,o5_19,o98_20,())⟩) := (hw _ _).trans (by kernel_rfl)
theorem spec_l03Times.j0_eq (R:Run) (hw:R.ok) (N:Nat) (t0__2:vM) (t1__3:vM) (o4_4:Int) (o4_5:Int) (o4_6:Int) (o5_7:Int) (o5_8:Int) (o5_9:Int) (o98_10:(List Int)):spec_l03Times.j0 R N t0__2 t1__3 o4_4 o4_5 o4_6 o5_7 o5_8 o5_9 o98_10 = (spec_l03Times.l1 R N N t0__2 t1__3 (0:Int) o4_4 o4_5 o4_6 o5_7 o5_8 o5_9 o98_10) := (hw _ _).trans (by kernel_rfl)
theorem spec_l03Times.ev (R:Run) (N:Nat) (a0:vM) (a1:vM):evFn E R sg_spec_l03Times pol_spec_l03Times F_spec_l03Times N [⟨(.ptr yM),a0⟩,⟨(.ptr yM),a1⟩] = (both ((callT R n_spec_l03Zero o_spec_l03Zero [⟨yI,a0.1⟩,⟨yI,a0.2.1⟩,⟨yI,a1.2.2.1⟩]).bind fun r1 => (spec_l03Times.j0 R N a0 a1 (0:Int) (0:Int) (0:Int) r1.1 r1.2.1 r1.2.2.1 r1.2.2.2.1)) ((callT R n_spec_l03Zero o_spec_l03Zero [⟨yI,a0.1⟩,⟨yI,a0.2.1⟩,⟨yI,a1.2.2.1⟩]).bind fun r81 => (spec_l03Times.j0 R N a0 a1 (0:Int) (0:Int) (0:Int) r81.1 r81.2.1 r81.2.2.1 r81.2.2.2.1))) := by kernel_rfl
/-! loop.example/g01005/spec.l09Two -/
noncomputable def spec_l09Two.j0 (R:Run) (N:Nat) (s_3:vS) (simplex_4:Int) (i_5:Int) (j_6:Int) (face_7:Int) (o8_8:Int) (o8_9:Int) (o8_10:Int):Option Dv := R.w (some ⟨(.c (.ip yS s_3 0)::(.c (.d yI simplex_4)::(.c (.d yI i_5)::(.c (.d yI j_6)::(zd 4 (.c (.box 8 0)::(.c (.d yI face_7)::(zd 22 [])))))))),(zo 8 (some (.box [.d yI o8_8,.d yI o8_9,.d yI o8_10,.nils yI] false false)::(zo 28 [])))⟩) fun st => eC R pol_spec_l09Two N [1,1,1] F_spec_l09Two st (kTop E sg_spec_l09Two F_spec_l09Two)
theorem spec_l09Two.j0_eq (R:Run) (hw:R.ok) (N:Nat) (s_3:vS) (simplex_4:Int) (i_5:Int) (j_6:Int) (face_7:Int) (o8_8:Int) (o8_9:Int) (o8_10:Int):spec_l09Two.j0 R N s_3 simplex_4 i_5 j_6 face_7 o8_8 o8_9 o8_10 = ((callT R n_spec_l09Get o_spec_l09Get [⟨(.ptr yS),s_3⟩,⟨yI,simplex_4⟩,⟨yI,i_5⟩]).bind fun r11 => ((callT R n_spec_l09Get o_spec_l09Get [⟨(.ptr yS),s_3⟩,⟨yI,face_7⟩,⟨yI,j_6⟩]).bind fun r12 => ((callT R n_spec_l03Times o_spec_l03Times [⟨(.ptr yM),r11.1⟩,⟨(.ptr yM),r12.1⟩]).bind fun r13 => some ⟨o_spec_l09Two,(r13.1,r13.2.1,r13.2.2.1,r13.2.2.2.1,())⟩))) := (hw _ _).trans (by kernel_rfl)
theorem spec_l09Two.ev (R:Run) (N:Nat) (a0:vS) (a1:Int) (a2:Int) (a3:Int):evFn E R sg_spec_l09Two pol_spec_l09Two F_spec_l09Two N [⟨(.ptr yS),a0⟩,⟨yI,a1⟩,⟨yI,a2⟩,⟨yI,a3⟩] = ((callT R n_spec_l05Faces o_spec_l05Faces [⟨(.ptr (.cons yK .nil)),(a0.1,())⟩,⟨yI,a1⟩]).bind fun r1 => ((idx? r1.1 a2).bind fun y2 => (bif (decide (a3 > a2)) then (spec_l09Two.j0 R N a0 a1 a2 (w64 (a3 - (1:Int))) ((y2,()).1) (0:Int) (0:Int) (0:Int)) else (spec_l09Two.j0 R N a0 a1 a2 a3 ((y2,()).1) (0:Int) (0:Int) (0:Int))))) := by kernel_rfl
/-! loop.example/g01005/spec.l03Same -/
noncomputable def spec_l03Same.l1 (R:Run) (N:Nat) (n:Nat) (t0__4:vM) (t1__5:vM) (t5__6:Int):Option Dv := R.w (some ⟨(.c (.ip yM t0__4 0)::(.c (.ip yM t1__5 0)::(zd 3 (.c (.d yI t5__6)::(zd 68 []))))),(zo 76 [])⟩) fun st => lC R pol_spec_l03Same 4 N [1,1,0,1,0,0] F_spec_l03Same n st (kB R pol_spec_l03Same 0 (kS R pol_spec_l03Same 8 N [1,1,1] F_spec_l03Same (kTop E sg_spec_l03Same F_spec_l03Same)))
noncomputable def spec_l03Same.j0 (R:Run) (N:Nat) (t0__1:vM) (t1__2:vM) (t49__3:Bool):Option Dv := R.w (some ⟨(.c (.ip yM t0__1 0)::(.c (.ip yM t1__2 0)::(zd 47 (.c (.d .bool t49__3)::(zd 24 []))))),(zo 76 [])⟩) fun st => eC R pol_spec_l03Same N [1,0,1] F_spec_l03Same st (kS R pol_spec_l03Same 3 N [1,1] F_spec_l03Same (kTop E sg_spec_l03Same F_spec_l03Same))
theorem spec_l03Same.l1_succ (R:Run) (hw:R.ok) (N:Nat) (n:Nat) (t0__4:vM) (t1__5:vM) (t5__6:Int):spec_l03Same.l1 R N (n + 1) t0__4 t1__5 t5__6 = (bif (decide (t5__6 < (List.length t0__4.2.2.2.1:Int))) then ((idx? t0__4.2.2.2.1 t5__6).bind fun y7 => ((idx? t1__5.2.2.2.1 t5__6).bind fun y8 => (bif ((y7,()).1 != (y8,()).1) then some ⟨o_spec_l03Same,(false,())⟩ else (spec_l03Same.l1 R N n t0__4 t1__5 (w64 (t5__6 + (1:Int))))))) else some ⟨o_spec_l03Same,(true,())⟩) := (hw _ _).trans (by kernel_rfl)
theorem spec_l03Same.j0_eq (R:Run) (hw:R.ok) (N:Nat) (t0__1:vM) (t1__2:vM) (t49__3:Bool):spec_l03Same.j0 R N t0__1 t1__2 t49__3 = (bif t49__3 then some ⟨o_spec_l03Same,(false,())⟩ else (spec_l03Same.l1 R N N t0__1 t1__2 (0:Int))) := (hw _ _).trans (by kernel_rfl)
theorem spec_l03Same.ev (R:Run) (N:Nat) (a0:vM) (a1:vM):evFn E R sg_spec_l03Same pol_spec_l03Same F_spec_l03Same N [⟨(.ptr yM),a0⟩,⟨(.ptr yM),a1⟩] = (bif (a0.1 != a1.1) then (spec_l03Same.j0 R N a0 a1 true) else (bif (a0.2.1 != a1.2.1) then (spec_l03Same.j0 R N a0 a1 true) else (bif (a0.2.2.1 != a1.2.2.1) then (spec_l03Same.j0 R N a0 a1 true) else (spec_l03Same.j0 R N a0 a1 ((List.length a0.2.2.2.1:Int) != (List.length a1.2.2.2.1:Int)))))) := by kernel_rfl
/-! loop.example/g01005/spec.l09Wrong -/
noncomputable def spec_l09Wrong.l3 (R:Run) (N:Nat) (n00_:Nat) (n05_:Nat) (n:Nat) (s_13:vS) (k_14:Int) (n_15:Int) (i_16:Int) (j_17:Int):Option Dv := R.w (some ⟨(.c (.ip yS s_13 0)::(zd 4 (.c (.d yI k_14)::(.c (.d yI n_15)::(.c (.d yI i_16)::(.c (.d yI j_17)::(zd 52 []))))))),(zo 62 [])⟩) fun st => lC R pol_spec_l09Wrong 9 N [1,0,1,0,0,1,0,0,1,1,0,0,1,0,0,1,0,0] F_spec_l09Wrong n st (kB R pol_spec_l09Wrong 4 (kB R pol_spec_l09Wrong 3 (kS R pol_spec_l09Wrong 7 N [1,0,1,0,0,1,0,0,1,1,0,0,1,1] F_spec_l09Wrong (kL R pol_spec_l09Wrong 6 N [1,0,1,0,0,1,0,0,1,1,0,0] F_spec_l09Wrong n05_ (kB R pol_spec_l09Wrong 2 (kB R pol_spec_l09Wrong 1 (kS R pol_spec_l09Wrong 3 N [1,0,1,0,0,1,1] F_spec_l09Wrong (kL R pol_spec_l09Wrong 2 N [1,0,1,0,0] F_spec_l09Wrong n00_ (kB R pol_spec_l09Wrong 0 (kS R pol_spec_l09Wrong 15 N [1,1] F_spec_l09Wrong (kTop E sg_spec_l09Wrong F_spec_l09Wrong)))))))))))
noncomputable def spec_l09Wrong.j2 (R:Run) (N:Nat) (n00_:Nat) (n05_:Nat) (s_8:vS) (k_9:Int) (n_10:Int) (i_11:Int) (t36__12:Bool):Option Dv := R.w (some ⟨(.c (.ip yS s_8 0)::(zd 4 (.c (.d yI k_9)::(.c (.d yI n_10)::(.c (.d yI i_11)::(zd 28 (.c (.d .bool t36__12)::(zd 24 [])))))))),(zo 62 [])⟩) fun st => eC R pol_spec_l09Wrong N [1,0,1,0,0,1,0,0,1,1,0,0,0,1] F_spec_l09Wrong st (kS R pol_spec_l09Wrong 8 N [1,0,1,0,0,1,0,0,1,1,0,0,1] F_spec_l09Wrong (kL R pol_spec_l09Wrong 6 N [1,0,1,0,0,1,0,0,1,1,0,0] F_spec_l09Wrong n05_ (kB R pol_spec_l09Wrong 2 (kB R pol_spec_l09Wrong 1 (kS R pol_spec_l09Wrong 3 N [1,0,1,0,0,1,1] F_spec_l09Wrong (kL R pol_spec_l09Wrong 2 N [1,0,1,0,0] F_spec_l09Wrong n00_ (kB R pol_spec_l09Wrong 0 (kS R pol_spec_l09Wrong 15 N [1,1] F_spec_l09Wrong (kTop E sg_spec_l09Wrong F_spec_l09Wrong)))))))))
noncomputable def spec_l09Wrong.l1 (R:Run) (N:Nat) (n00_:Nat) (n:Nat) (s_4:vS) (k_5:Int) (n_6:Int) (i_7:Int):Option Dv := R.w (some ⟨(.c (.ip yS s_4 0)::(zd 4 (.c (.d yI k_5)::(.c (.d yI n_6)::(.c (.d yI i_7)::(zd 53 [])))))),(zo 62 [])⟩) fun st => lC R pol_spec_l09Wrong 6 N [1,0,1,0,0,1,0,0,1,1,0,0] F_spec_l09Wrong n st (kB R pol_spec_l09Wrong 2 (kB R pol_spec_l09Wrong 1 (kS R pol_spec_l09Wrong 3 N [1,0,1,0,0,1,1] F_spec_l09Wrong (kL R pol_spec_l09Wrong 2 N [1,0,1,0,0] F_spec_l09Wrong n00_ (kB R pol_spec_l09Wrong 0 (kS R pol_spec_l09Wrong 15 N [1,1] F_spec_l09Wrong (kTop E sg_spec_l09Wrong F_spec_l09Wrong)))))))
noncomputable def spec_l09Wrong.l0 (R:Run) (N:Nat) (n:Nat) (s_1:vS) (k_2:Int):Option Dv := R.w (some ⟨(.c (.ip yS s_1 0)::(zd 4 (.c (.d yI k_2)::(zd 55 [])))),(zo 62 [])⟩) fun st => lC R pol_spec_l09Wrong 2 N [1,0,1,0,0] F_spec_l09Wrong n st (kB R pol_spec_l09Wrong 0 (kS R pol_spec_l09Wrong 15 N [1,1] F_spec_l09Wrong (kTop E sg_spec_l09Wrong F_spec_l09Wrong)))
theorem spec_l09Wrong.l3_succ (R:Run) (hw:R.ok) (N:Nat) (n00_:Nat) (n05_:Nat) (n:Nat) (s_13:vS) (k_14:Int) (n_15:Int) (i_16:Int) (j_17:Int):spec_l09Wrong.l3 R N n00_ n05_ (n + 1) s_13 k_14 n_15 i_16 j_17 = (bif (decide (j_17 < n_15)) then ((callT R n_spec_l09Two o_spec_l09Two [⟨(.ptr yS),s_13⟩,⟨yI,k_14⟩,⟨yI,i_16⟩,⟨yI,j_17⟩]).bind fun r18 => ((callT R n_spec_l09Two o_spec_l09Two [⟨(.ptr yS),s_13⟩,⟨yI,k_14⟩,⟨yI,j_17⟩,⟨yI,i_16⟩]).bind fun r19 => ((callT R n_spec_l03Same o_spec_l03Same [⟨(.ptr yM),(r18.1,r18.2.1,r18.2.2.1,r18.2.2.2.1,())⟩,⟨(.ptr yM),(r19.1,r19.2.1,r19.2.2.1,r19.2.2.2.1,())⟩]).bind fun r20 => (bif (!r20.1) then some ⟨o_spec_l09Wrong,(k_14,i_16,j_17,())⟩ else (spec_l09Wrong.l3 R N n00_ n05_ n s_13 k_14 n_15 i_16 (w64 (j_17 + (1:Int)))))))) else (spec_l09Wrong.l1 R N n00_ n05_ s_13 k_14 n_15 (w64 (i_16 + (1:Int))))) := (hw _ _).trans (by kernel_rfl)
theorem spec_l09Wrong.j2_eq (R:Run) (hw:R.ok) (N:Nat) (n00_:Nat) (n05_:Nat) (s_8:vS) (k_9:Int) (n_10:Int) (i_11:Int) (t36__12:Bool):spec_l09Wrong.j2 R N n00_ n05_ s_8 k_9 n_10 i_11 t36__12 = (bif t36__12 then (spec_l09Wrong.l3 R N n00_ n05_ N s_8 k_9 n_10 i_11 (w64 (i_11 + (1:Int)))) else (spec_l09Wrong.l0 R N n00_ s_8 (w64 (k_9 + (1:Int))))) := (hw _ _).trans (by kernel_rfl)
theorem spec_l09Wrong.l1_succ (R:Run) (hw:R.ok) (N:Nat) (n00_:Nat) (n:Nat) (s_4:vS) (k_5:Int) (n_6:Int) (i_7:Int):spec_l09Wrong.l1 R N n00_ (n + 1) s_4 k_5 n_6 i_7 = (bif (decide (i_7 < n_6)) then (spec_l09Wrong.j2 R N n00_ n s_4 k_5 n_6 i_7 (decide (n_6 > (2:Int)))) else (spec_l09Wrong.j2 R N n00_ n s_4 k_5 n_6 i_7 false)) := (hw _ _).trans (by kernel_rfl)
theorem spec_l09Wrong.l0_succ (R:Run) (hw:R.ok) (N:Nat) (n:Nat) (s_1:vS) (k_2:Int):spec_l09Wrong.l0 R N (n + 1) s_1 k_2 = (bif (decide (k_2 < (List.length s_1.1:Int))) then ((idx? s_1.1 k_2).bind fun y3 => (spec_l09Wrong.l1 R N n N s_1 k_2 (List.length (y3,()).1:Int) (0:Int))) else some ⟨o_spec_l09Wrong,((-1:Int),(0:Int),(0:Int),())⟩) := (hw _ _).trans (by kernel_rfl)
theorem spec_l09Wrong.ev (R:Run) (N:Nat) (a0:vS):evFn E R sg_spec_l09Wrong pol_spec_l09Wrong F_spec_l09Wrong N [⟨(.ptr yS),a0⟩] = (spec_l09Wrong.l0 R N N a0 (0:Int)) := by kernel_rfl
/-! loop.example/g01005/spec.l09Is -/
theorem spec_l09Is.ev (R:Run) (N:Nat) (a0:vS):evFn E R sg_spec_l09Is pol_spec_l09Is F_spec_l09Is N [⟨(.ptr yS),a0⟩] = ((callT R n_spec_l09Ok o_spec_l09Ok [⟨(.ptr yS),a0⟩]).bind fun r1 => (bif (!r1.1) then some ⟨o_spec_l09Is,(false,())⟩ else ((callT R n_spec_l09Wrong o_spec_l09Wrong [⟨(.ptr yS),a0⟩]).bind fun r2 => some ⟨o_spec_l09Is,((decide (r2.1 < (0:Int))),())⟩))) := by kernel_rfl
/-! loop.example/g01005/spec.l10Places -/
theorem spec_l10Places.ev (R:Run) (N:Nat) (a0:vS) (a1:(List Int)):evFn E R sg_spec_l10Places pol_spec_l10Places F_spec_l10Places N [⟨(.ptr yS),a0⟩,⟨yL,a1⟩] = ((callT R n_spec_l00Rises o_spec_l00Rises [⟨yL,a1⟩,⟨yI,(0:Int)⟩,⟨yI,(w64 ((List.length a0.1:Int) - (1:Int)))⟩]).bind fun r1 => some ⟨o_spec_l10Places,(r1.1,())⟩) := by kernel_rfl
/-! loop.example/g01005/spec.l10Many -/
noncomputable def spec_l10Many.l0 (R:Run) (N:Nat) (n:Nat) (s_1:vS) (where_2:(List Int)) (sum_3:Int) (i_4:Int):Option Dv := R.w (some ⟨(.c (.ip yS s_1 0)::(.c (.d yL where_2)::(zd 3 (.c (.d yI sum_3)::(.c (.d yI i_4)::(zd 19 [])))))),(zo 28 [])⟩) fun st => lC R pol_spec_l10Many 3 N [1,1,0,1,0,0] F_spec_l10Many n st (kB R pol_spec_l10Many 0 (kS R pol_spec_l10Many 6 N [1,1,1] F_spec_l10Many (kTop E sg_spec_l10Many F_spec_l10Many)))
theorem spec_l10Many.l0_succ (R:Run) (hw:R.ok) (N:Nat) (n:Nat) (s_1:vS) (where_2:(List Int)) (sum_3:Int) (i_4:Int):spec_l10Many.l0 R N (n + 1) s_1 where_2 sum_3 i_4 = (bif (decide (i_4 < (List.length where_2:Int))) then ((idx? where_2 i_4).bind fun y5 => ((idx? s_1.2.2.1 (y5,()).1).bind fun y6 => (spec_l10Many.l0 R N n s_1 where_2 (w64 (sum_3 + (y6,()).1)) (w64 (i_4 + (1:Int)))))) else some ⟨o_spec_l10Many,(sum_3,())⟩) := (hw _ _).trans (by kernel_rfl)
theorem spec_l10Many.ev (R:Run) (N:Nat) (a0:vS) (a1:(List Int)):evFn E R sg_spec_l10Many pol_spec_l10Many F_spec_l10Many N [⟨(.ptr yS),a0⟩,⟨yL,a1⟩] = (spec_l10Many.l0 R N N a0 a1 (0:Int) (0:Int)) := by kernel_rfl
/-! loop.example/g01005/spec.l10Data -/
noncomputable def spec_l10Data.l0 (R:Run) (N:Nat) (n:Nat) (s_1:vS) (where_2:(List Int)) (values_3:(List Int)) (i_4:Int):Option Dv := R.w (some ⟨(.c (.ip yS s_1 0)::(.c (.d yL where_2)::(.c (.d yL values_3)::(zd 4 (.c (.d yI i_4)::(zd 23 [])))))),(zo 34 [])⟩) fun st => lC R pol_spec_l10Data 2 N [1,0,1,0,0] F_spec_l10Data n st (kB R pol_spec_l10Data 0 (kS R pol_spec_l10Data 6 N [1,1] F_spec_l10Data (kTop E sg_spec_l10Data F_spec_l10Data)))
theorem spec_l10Data.l0_succ (R:Run) (hw:R.ok) (N:Nat) (n:Nat) (s_1:vS) (where_2:(List Int)) (values_3:(List Int)) (i_4:Int):spec_l10Data.l0 R N (n + 1) s_1 where_2 values_3 i_4 = (bif (decide (i_4 < (List.length values_3:Int))) then ((idx? values_3 i_4).bind fun y5 => ((callT R n_spec_l00In o_spec_l00In [⟨yI,(y5,()).1⟩,⟨yI,(0:Int)⟩,⟨yI,(w64 (s_1.2.1 - (1:Int)))⟩]).bind fun r6 => (bif (!r6.1) then some ⟨o_spec_l10Data,(false,())⟩ else (spec_l10Data.l0 R N n s_1 where_2 values_3 (w64 (i_4 + (1:Int))))))) else ((callT R n_spec_l10Many o_spec_l10Many [⟨(.ptr yS),s_1⟩,⟨yL,where_2⟩]).bind fun r11 => some ⟨o_spec_l10Data,(((List.length values_3:Int) == r11.1),())⟩)) := (hw _ _).trans (by kernel_rfl)
theorem spec_l10Data.ev (R:Run) (N:Nat) (a0:vS) (a1:(List Int)) (a2:(List Int)):evFn E R sg_spec_l10Data pol_spec_l10Data F_spec_l10Data N [⟨(.ptr yS),a0⟩,⟨yL,a1⟩,⟨yL,a2⟩] = (spec_l10Data.l0 R N N a0 a1 a2 (0:Int)) := by kernel_rfl
/-! loop.example/g01005/spec.l10Ask -/
theorem spec_l10Ask.ev (R:Run) (N:Nat) (a0:vS) (a1:(List Int)) (a2:(List Int)):evFn E R sg_spec_l10Ask pol_spec_l10Ask F_spec_l10Ask N [⟨(.ptr yS),a0⟩,⟨yL,a1⟩,⟨yL,a2⟩] = ((callT R n_spec_l09Is o_spec_l09Is [⟨(.ptr yS),a0⟩]).bind fun r1 => (bif (!r1.1) then some ⟨o_spec_l10Ask,((1:Int),())⟩ else ((callT R n_spec_l10Places o_spec_l10Places [⟨(.ptr yS),a0⟩,⟨yL,a1⟩]).bind fun r2 => (bif (!r2.1) then some ⟨o_spec_l10Ask,((2:Int),())⟩ else ((callT R n_spec_l10Data o_spec_l10Data [⟨(.ptr yS),a0⟩,⟨yL,a1⟩,⟨yL,a2⟩]).bind fun r3 => (bif (!r3.1) then some ⟨o_spec_l10Ask,((7:Int),())⟩ else some ⟨o_spec_l10Ask,((0:Int),())⟩)))))) := by kernel_rfl
/-! loop.example/g01005/spec.l10All -/
theorem spec_l10All.ev (R:Run) (N:Nat) (a0:vS):evFn E R sg_spec_l10All pol_spec_l10All F_spec_l10All N [⟨(.ptr yS),a0⟩] = ((callT R n_spec_l09Sum o_spec_l09Sum [⟨(.ptr (.cons yK .nil)),(a0.1,())⟩,⟨yL,a0.2.2.1⟩,⟨yI,(0:Int)⟩]).bind fun r1 => some ⟨o_spec_l10All,(r1.1,())⟩) := by kernel_rfl
/-! loop.example/g01005/spec.l10Start -/
noncomputable def spec_l10Start.l0 (R:Run) (N:Nat) (n:Nat) (s_1:vS) (vertex_2:Int) (at_3:Int) (k_4:Int):Option Dv := R.w (some ⟨(.c (.ip yS s_1 0)::(.c (.d yI vertex_2)::(zd 3 (.c (.d yI at_3)::(.c (.d yI k_4)::(zd 15 [])))))),(zo 24 [])⟩) fun st => lC R pol_spec_l10Start 3 N [1,1,0,1,0,0] F_spec_l10Start n st (kB R pol_spec_l10Start 0 (kS R pol_spec_l10Start 6 N [1,1,1] F_spec_l10Start (kTop E sg_spec_l10Start F_spec_l10Start)))
theorem spec_l10Start.l0_succ (R:Run) (hw:R.ok) (N:Nat) (n:Nat) (s_1:vS) (vertex_2:Int) (at_3:Int) (k_4:Int):spec_l10Start.l0 R N (n + 1) s_1 vertex_2 at_3 k_4 = (bif (decide (k_4 < vertex_2)) then ((idx? s_1.2.2.1 k_4).bind fun y5 => (spec_l10Start.l0 R N n s_1 vertex_2 (w64 (at_3 + (y5,()).1)) (w64 (k_4 + (1:Int))))) else some ⟨o_spec_l10Start,(at_3,())⟩) := (hw _ _).trans (by kernel_rfl)
theorem spec_l10Start.ev (R:Run) (N:Nat) (a0:vS) (a1:Int):evFn E R sg_spec_l10Start pol_spec_l10Start F_spec_l10Start N [⟨(.ptr yS),a0⟩,⟨yI,a1⟩] = (spec_l10Start.l0 R N N a0 a1 (0:Int) (0:Int)) := by kernel_rfl
/-! loop.example/g01005/spec.l10Rows -/
noncomputable def spec_l10Rows.l1 (R:Run) (N:Nat) (n01_:Nat) (n:Nat) (m_7:vM) (at_8:Int) (columns_9:Int) (times_10:Int) (i_11:Int) (k_12:Int) (o13_13:vK) (o23_14:(List Int)):Option Dv := R.w (some ⟨(.c (.ip yM m_7 0)::(.c (.d yI at_8)::(.c (.d yI columns_9)::(.c (.d yI times_10)::(zd 5 (.c (.arr 13)::(.c (.d yI i_11)::(.c (.arr 23)::(.c (.d yI k_12)::(zd 50 [])))))))))),(zo 13 (some (.arr yL o13_13 true false false)::(zo 9 (some (.arr yI o23_14 true false false)::(zo 43 [])))))⟩) fun st => lC R pol_spec_l10Rows 7 N [1,1,0,1,0,0,1,0,0,1,0,1,0,0] F_spec_l10Rows n st (kB R pol_spec_l10Rows 2 (kS R pol_spec_l10Rows 10 N [1,1,0,1,0,0,1,0,0,1,1] F_spec_l10Rows (kB R pol_spec_l10Rows 1 (kS R pol_spec_l10Rows 4 N [1,1,0,1,0,0,1,1] F_spec_l10Rows (kL R pol_spec_l10Rows 3 N [1,1,0,1,0,0] F_spec_l10Rows n01_ (kB R pol_spec_l10Rows 0 (kS R pol_spec_l10Rows 11 N [1,1,1] F_spec_l10Rows (kTop E sg_spec_l10Rows F_spec_l10Rows))))))))
noncomputable def spec_l10Rows.l0 (R:Run) (N:Nat) (n:Nat) (m_1:vM) (at_2:Int) (columns_3:Int) (times_4:Int) (i_5:Int) (o13_6:vK):Option Dv := R.w (some ⟨(.c (.ip yM m_1 0)::(.c (.d yI at_2)::(.c (.d yI columns_3)::(.c (.d yI times_4)::(zd 5 (.c (.arr 13)::(.c (.d yI i_5)::(zd 52 [])))))))),(zo 13 (some (.arr yL o13_6 true false false)::(zo 53 [])))⟩) fun st => lC R pol_spec_l10Rows 3 N [1,1,0,1,0,0] F_spec_l10Rows n st (kB R pol_spec_l10Rows 0 (kS R pol_spec_l10Rows 11 N [1,1,1] F_spec_l10Rows (kTop E sg_spec_l10Rows F_spec_l10Rows)))
theorem spec_l10Rows.l1_succ (R:Run) (hw:R.ok) (N:Nat) (n01_:Nat) (n:Nat) (m_7:vM) (at_8:Int) (columns_9:Int) (times_10:Int) (i_11:Int) (k_12:Int) (o13_13:vK) (o23_14:(List Int)):spec_l10Rows.l1 R N n01_ (n + 1) m_7 at_8 columns_9 times_10 i_11 k_12 o13_13 o23_14 = (bif (decide (k_12 < m_7.2.2.1)) then ((idx? m_7.2.2.2.1 (w64 ((w64 (i_11 * m_7.2.2.1)) + k_12))).bind fun y15 => ((chk (m_7.1 != 0)).bind fun _ => ((chk (decide (0 ≤ (w64 (at_8 + k_12))) && decide ((w64 (at_8 + k_12)) < (List.length o23_14:Int)))).bind fun _ => (spec_l10Rows.l1 R N n01_ n m_7 at_8 columns_9 times_10 i_11 (w64 (k_12 + (1:Int))) o13_13 (List.set o23_14 (Int.toNat (w64 (at_8 + k_12))) (Int.tmod (w64 ((y15,()).1 * times_10)) m_7.1)))))) else ((chk (decide ((List.length o13_13 + List.length [o23_14]) * 24 ≤ 70368744177664))).bind fun _ => (spec_l10Rows.l0 R N n01_ m_7 at_8 columns_9 times_10 (w64 (i_11 + (1:Int))) (o13_13 ++ [o23_14])))) := (hw _ _).trans (by kernel_rfl)
theorem spec_l10Rows.l0_succ (R:Run) (hw:R.ok) (N:Nat) (n:Nat) (m_1:vM) (at_2:Int) (columns_3:Int) (times_4:Int) (i_5:Int) (o13_6:vK):spec_l10Rows.l0 R N (n + 1) m_1 at_2 columns_3 times_4 i_5 o13_6 = (bif (decide (i_5 < m_1.2.1)) then ((chk (decide (0 ≤ columns_3) && decide (columns_3 * 8 ≤ 70368744177664))).bind fun _ => (spec_l10Rows.l1 R N n N m_1 at_2 columns_3 times_4 i_5 (0:Int) o13_6 (List.replicate (Int.toNat columns_3) (0:Int)))) else some ⟨o_spec_l10Rows,(o13_6,())⟩) := (hw _ _).trans (by kernel_rfl)
theorem spec_l10Rows.ev (R:Run) (N:Nat) (a0:vM) (a1:Int) (a2:Int) (a3:Int):evFn E R sg_spec_l10Rows pol_spec_l10Rows F_spec_l10Rows N [⟨(.ptr yM),a0⟩,⟨yI,a1⟩,⟨yI,a2⟩,⟨yI,a3⟩] = (spec_l10Rows.l0 R N N a0 a1 a2 a3 (0:Int) ([]:List (List Int))) := by kernel_rfl
/-! loop.example/g01005/spec.l02Add -/
noncomputable def spec_l02Add.l0 (R:Run) (N:Nat) (n:Nat) (a_1:(List Int)) (b_2:(List Int)) (c_3:Int) (p_4:Int) (i_5:Int) (o11_6:(List Int)):Option Dv := R.w (some ⟨(.c (.d yL a_1)::(.c (.d yL b_2)::(.c (.d yI c_3)::(.c (.d yI p_4)::(zd 5 (.c (.arr 11)::(.c (.d yI i_5)::(zd 24 [])))))))),(zo 11 (some (.arr yI o11_6 true false false)::(zo 27 [])))⟩) fun st => lC R pol_spec_l02Add 3 N [1,1,0,1,0,0] F_spec_l02Add n st (kB R pol_spec_l02Add 0 (kS R pol_spec_l02Add 6 N [1,1,1] F_spec_l02Add (kTop E sg_spec_l02Add F_spec_l02Add)))
theorem spec_l02Add.l0_succ (R:Run) (hw:R.ok) (N:Nat) (n:Nat) (a_1:(List Int)) (b_2:(List Int)) (c_3:Int) (p_4:Int) (i_5:Int) (o11_6:(List Int)):spec_l02Add.l0 R N (n + 1) a_1 b_2 c_3 p_4 i_5 o11_6 = (bif (decide (i_5 < (List.length a_1:Int))) then ((idx? a_1 i_5).bind fun y7 => ((idx? b_2 i_5).bind fun y8 => ((chk (p_4 != 0)).bind fun _ => ((chk (decide ((List.length o11_6 + List.length [(Int.tmod (w64 ((y7,()).1 + (w64 (c_3 * (y8,()).1)))) p_4)]) * 8 ≤ 70368744177664))).bind fun _ => (spec_l02Add.l0 R N n a_1 b_2 c_3 p_4 (w64 (i_5 + (1:Int))) (o11_6 ++ [(Int.tmod (w64 ((y7,()).1 + (w64 (c_3 * (y8,()).1)))) p_4)])))))) else some ⟨o_spec_l02Add,(o11_6,())⟩) := (hw _ _).trans (by kernel_rfl)
theorem spec_l02Add.ev (R:Run) (N:Nat) (a0:(List Int)) (a1:(List Int)) (a2:Int) (a3:Int):evFn E R sg_spec_l02Add pol_spec_l02Add F_spec_l02Add N [⟨yL,a0⟩,⟨yL,a1⟩,⟨yI,a2⟩,⟨yI,a3⟩] = (spec_l02Add.l0 R N N a0 a1 a2 a3 (0:Int) ([]:List Int)) := by kernel_rfl
/-! loop.example/g01005/spec.l10Sum -/
noncomputable def spec_l10Sum.l0 (R:Run) (N:Nat) (n:Nat) (a_1:vK) (b_2:vK) (p_3:Int) (i_4:Int) (o9_5:vK):Option Dv := R.w (some ⟨(.c (.d yK a_1)::(.c (.d yK b_2)::(.c (.d yI p_3)::(zd 4 (.c (.arr 9)::(.c (.d yI i_4)::(zd 21 []))))))),(zo 9 (some (.arr yL o9_5 true false false)::(zo 24 [])))⟩) fun st => lC R pol_spec_l10Sum 3 N [1,1,0,1,0,0] F_spec_l10Sum n st (kB R pol_spec_l10Sum 0 (kS R pol_spec_l10Sum 6 N [1,1,1] F_spec_l10Sum (kTop E sg_spec_l10Sum F_spec_l10Sum)))
theorem spec_l10Sum.l0_succ (R:Run) (hw:R.ok) (N:Nat) (n:Nat) (a_1:vK) (b_2:vK) (p_3:Int) (i_4:Int) (o9_5:vK):spec_l10Sum.l0 R N (n + 1) a_1 b_2 p_3 i_4 o9_5 = (bif (decide (i_4 < (List.length a_1:Int))) then ((idx? a_1 i_4).bind fun y6 => ((idx? b_2 i_4).bind fun y7 => ((callT R n_spec_l02Add o_spec_l02Add [⟨yL,(y6,()).1⟩,⟨yL,(y7,()).1⟩,⟨yI,(1:Int)⟩,⟨yI,p_3⟩]).bind fun r8 => ((chk (decide ((List.length o9_5 + List.length [r8.1]) * 24 ≤ 70368744177664))).bind fun _ => (spec_l10Sum.l0 R N n a_1 b_2 p_3 (w64 (i_4 + (1:Int))) (o9_5 ++ [r8.1])))))) else some ⟨o_spec_l10Sum,(o9_5,())⟩) := (hw _ _).trans (by kernel_rfl)
theorem spec_l10Sum.ev (R:Run) (N:Nat) (a0:vK) (a1:vK) (a2:Int):evFn E R sg_spec_l10Sum pol_spec_l10Sum F_spec_l10Sum N [⟨yK,a0⟩,⟨yK,a1⟩,⟨yI,a2⟩] = (spec_l10Sum.l0 R N N a0 a1 a2 (0:Int) ([]:List (List Int))) := by kernel_rfl
/-! loop.example/g01005/spec.l10Conditions -/
noncomputable def spec_l10Conditions.l0 (R:Run) (N:Nat) (n:Nat) (t0__3:vS) (t4__4:Int) (t5__5:(List Int)) (t6__6:Int) (o10_7:vK):Option Dv := R.w (some ⟨(.c (.ip yS t0__3 0)::(V.dead::(V.dead::(.c (.arr 10)::(.c (.d yI t4__4)::(.c (.d yL t5__5)::(.c (.d yI t6__6)::(zd 65 [])))))))),(zo 10 (some (.arr yL o10_7 true false false)::(zo 63 [])))⟩) fun st => lC R pol_spec_l10Conditions 5 N [1,1,1,1,0,1,0,0] F_spec_l10Conditions n st (kB R pol_spec_l10Conditions 0 (kS R pol_spec_l10Conditions 11 N [1,1,1,1,1] F_spec_l10Conditions (kTop E sg_spec_l10Conditions F_spec_l10Conditions)))
theorem spec_l10Conditions.l0_succ (R:Run) (hw:R.ok) (N:Nat) (n:Nat) (t0__3:vS) (t4__4:Int) (t5__5:(List Int)) (t6__6:Int) (o10_7:vK):spec_l10Conditions.l0 R N (n + 1) t0__3 t4__4 t5__5 t6__6 o10_7 = (bif (decide (t6__6 < (List.length t5__5:Int))) then ((idx? t5__5 t6__6).bind fun y8 => ((callT R n_spec_l05Faces o_spec_l05Faces [⟨(.ptr (.cons yK .nil)),(t0__3.1,())⟩,⟨yI,(y8,()).1⟩]).bind fun r9 => ((idx? t5__5 t6__6).bind fun y10 => ((idx? r9.1 (0:Int)).bind fun y11 => ((callT R n_spec_l09Get o_spec_l09Get [⟨(.ptr yS),t0__3⟩,⟨yI,(y10,()).1⟩,⟨yI,(0:Int)⟩]).bind fun r12 => ((callT R n_spec_l10Start o_spec_l10Start [⟨(.ptr yS),t0__3⟩,⟨yI,(y11,()).1⟩]).bind fun r13 => ((callT R n_spec_l10Rows o_spec_l10Rows [⟨(.ptr yM),r12.1⟩,⟨yI,r13.1⟩,⟨yI,t4__4⟩,⟨yI,(1:Int)⟩]).bind fun r14 => ((idx? t5__5 t6__6).bind fun y15 => ((idx? r9.1 (1:Int)).bind fun y16 => ((callT R n_spec_l09Get o_spec_l09Get [⟨(.ptr yS),t0__3⟩,⟨yI,(y15,()).1⟩,⟨yI,(1:Int)⟩]).bind fun r17 => ((callT R n_spec_l10Start o_spec_l10Start [⟨(.ptr yS),t0__3⟩,⟨yI,(y16,()).1⟩]).bind fun r18 => ((callT R n_spec_l10Rows o_spec_l10Rows [⟨(.ptr yM),r17.1⟩,⟨yI,r18.1⟩,⟨yI,t4__4⟩,⟨yI,(w64 (t0__3.2.1 - (1:Int)))⟩]).bind fun r19 => ((callT R n_spec_l10Sum o_spec_l10Sum [⟨yK,r14.1⟩,⟨yK,r19.1⟩,⟨yI,t0__3.2.1⟩]).bind fun r20 => ((chk (decide ((List.length o10_7 + List.length r20.1) * 24 ≤ 70368744177664))).bind fun _ => (spec_l10Conditions.l0 R N n t0__3 t4__4 t5__5 (w64 (t6__6 + (1:Int))) (o10_7 ++ r20.1)))))))))))))))) else some ⟨o_spec_l10Conditions,(o10_7,())⟩) := (hw _ _).trans (by kernel_rfl)
theorem spec_l10Conditions.ev (R:Run) (N:Nat) (a0:vS):evFn E R sg_spec_l10Conditions pol_spec_l10Conditions F_spec_l10Conditions N [⟨(.ptr yS),a0⟩] = ((callT R n_spec_l10All o_spec_l10All [⟨(.ptr yS),a0⟩]).bind fun r1 => ((callT R n_spec_l05Of o_spec_l05Of [⟨(.ptr (.cons yK .nil)),(a0.1,())⟩,⟨yI,(1:Int)⟩]).bind fun r2 => (spec_l10Conditions.l0 R N N a0 r1.1 r2.1 (0:Int) ([]:List (List Int))))) := by kernel_rfl
/-! loop.example/g01005/spec.l10First -/
theorem spec_l10First.ev (R:Run) (N:Nat) (a0:vS) (a1:Int):evFn E R sg_spec_l10First pol_spec_l10First F_spec_l10First N [⟨(.ptr yS),a0⟩,⟨yI,a1⟩] = ((idx? a0.1 a1).bind fun y1 => ((chk (decide (0 ≤ (1:Int)) && decide ((1:Int) ≤ (List.length (y1,()).1:Int)))).bind fun _ => ((callT R n_spec_l05Find o_spec_l05Find [⟨(.ptr (.cons yK .nil)),(a0.1,())⟩,⟨yL,(List.take (Int.toNat (1:Int)) (y1,()).1)⟩]).bind fun r2 => some ⟨o_spec_l10First,(r2.1,())⟩))) := by kernel_rfl
/-! loop.example/g01005/spec.l03Unit -/
noncomputable def spec_l03Unit.l0 (R:Run) (N:Nat) (n:Nat) (n_2:Int) (i_3:Int) (o4_4:Int) (o4_5:Int) (o4_6:Int) (m_7:Int) (m_8:Int) (m_9:Int) (o27_10:(List Int)):Option Dv := R.w (some ⟨(V.dead::(.c (.d yI n_2)::(V.dead::(V.dead::(.c (.box 4 0)::(.c (.box 5 0)::(.c (.d yI i_3)::(zd 18 [])))))))),(zo 4 (some (.box [.d yI o4_4,.d yI o4_5,.d yI o4_6,.nils yI] false false)::(some (.box [.d yI m_7,.d yI m_8,.d yI m_9,.arr 27] false false)::(zo 21 (some (.arr yI o27_10 true false false)::[])))))⟩) fun st => lC R pol_spec_l03Unit 3 N [1,1,0,1,0,0] F_spec_l03Unit n st (kB R pol_spec_l03Unit 0 (kS R pol_spec_l03Unit 6 N [1,1,1] F_spec_l03Unit (kTop E sg_spec_l03Unit F_spec_l03Unit)))
theorem spec_l03Unit.l0_succ (R:Run) (hw:R.ok) (N:Nat) (n:Nat) (n_2:Int) (i_3:Int) (o4_4:Int) (o4_5:Int) (o4_6:Int) (m_7:Int) (m_8:Int) (m_9:Int) (o27_10:(List Int)):spec_l03Unit.l0 R N (n + 1) n_2 i_3 o4_4 o4_5 o4_6 m_7 m_8 m_9 o27_10 = (bif (decide (i_3 < n_2)) then ((chk (decide (0 ≤ (w64 ((w64 (i_3 * n_2)) + i_3))) && decide ((w64 ((w64 (i_3 * n_2)) + i_3)) < (List.length o27_10:Int)))).bind fun _ => (spec_l03Unit.l0 R N n n_2 (w64 (i_3 + (1:Int))) o4_4 o4_5 o4_6 m_7 m_8 m_9 (List.set o27_10 (Int.toNat (w64 ((w64 (i_3 * n_2)) + i_3))) (1:Int)))) else some ⟨o_spec_l03Unit,(m_7,m_8,m_9,o27_10,())⟩) := (hw _ _).trans (by kernel_rfl)
theorem spec_l03Unit.ev (R:Run) (N:Nat) (a0:Int) (a1:Int):evFn E R sg_spec_l03Unit pol_spec_l03Unit F_spec_l03Unit N [⟨yI,a0⟩,⟨yI,a1⟩] = ((callT R n_spec_l03Zero o_spec_l03Zero [⟨yI,a0⟩,⟨yI,a1⟩,⟨yI,a1⟩]).bind fun r1 => (spec_l03Unit.l0 R N N a1 (0:Int) (0:Int) (0:Int) (0:Int) r1.1 r1.2.1 r1.2.2.1 r1.2.2.2.1)) := by kernel_rfl
/-! loop.example/g01005/spec.l00Has -/
noncomputable def spec_l00Has.l0 (R:Run) (N:Nat) (n:Nat) (list_1:(List Int)) (n_2:Int) (i_3:Int):Option Dv := R.w (some ⟨(.c (.d yL list_1)::(.c (.d yI n_2)::(zd 3 (.c (.d yI i_3)::(zd 12 []))))),(zo 20 [])⟩) fun st => lC R pol_spec_l00Has 2 N [1,0,1,0,0] F_spec_l00Has n st (kB R pol_spec_l00Has 0 (kS R pol_spec_l00Has 6 N [1,1] F_spec_l00Has (kTop E sg_spec_l00Has F_spec_l00Has)))
theorem spec_l00Has.l0_succ (R:Run) (hw:R.ok) (N:Nat) (n:Nat) (list_1:(List Int)) (n_2:Int) (i_3:Int):spec_l00Has.l0 R N (n + 1) list_1 n_2 i_3 = (bif (decide (i_3 < (List.length list_1:Int))) then ((idx? list_1 i_3).bind fun y4 => (bif ((y4,()).1 == n_2) then some ⟨o_spec_l00Has,(true,())⟩ else (spec_l00Has.l0 R N n list_1 n_2 (w64 (i_3 + (1:Int)))))) else some ⟨o_spec_l00Has,(false,())⟩) := (hw _ _).trans (by kernel_rfl)
theorem spec_l00Has.ev (R:Run) (N:Nat) (a0:(List Int)) (a1:Int):evFn E R sg_spec_l00Has pol_spec_l00Has F_spec_l00Has N [⟨yL,a0⟩,⟨yI,a1⟩] = (spec_l00Has.l0 R N N a0 a1 (0:Int)) := by kernel_rfl
/-! loop.example/g01005/spec.l09Restrict -/
noncomputable def spec_l09Restrict.l0 (R:Run) (N:Nat) (n:Nat) (s_4:vS) (face_5:Int) (simplex_6:Int) (t_7:(List Int)) (i_8:Int) (o6_9:Int) (o6_10:Int) (o6_11:Int):Option Dv := R.w (some ⟨(.c (.ip yS s_4 0)::(.c (.d yI face_5)::(.c (.d yI simplex_6)::(zd 3 (.c (.box 6 0)::(.c (.d yL t_7)::(.c (.d yI i_8)::(zd 55 [])))))))),(zo 6 (some (.box [.d yI o6_9,.d yI o6_10,.d yI o6_11,.nils yI] false false)::(zo 62 [])))⟩) fun st => lC R pol_spec_l09Restrict 5 N [1,1,1,1,0,0,0] F_spec_l09Restrict n st (kB R pol_spec_l09Restrict 0 (kS R pol_spec_l09Restrict 7 N [1,1,1,1,1] F_spec_l09Restrict (kTop E sg_spec_l09Restrict F_spec_l09Restrict)))
theorem spec_l09Restrict.l0_succ (R:Run) (hw:R.ok) (N:Nat) (n:Nat) (s_4:vS) (face_5:Int) (simplex_6:Int) (t_7:(List Int)) (i_8:Int) (o6_9:Int) (o6_10:Int) (o6_11:Int):spec_l09Restrict.l0 R N (n + 1) s_4 face_5 simplex_6 t_7 i_8 o6_9 o6_10 o6_11 = ((idx? s_4.1 face_5).bind fun y12 => ((idx? t_7 i_8).bind fun y13 => ((callT R n_spec_l00Has o_spec_l00Has [⟨yL,(y12,()).1⟩,⟨yI,(y13,()).1⟩]).bind fun r14 => (bif r14.1 then (spec_l09Restrict.l0 R N n s_4 face_5 simplex_6 t_7 (w64 (i_8 + (1:Int))) o6_9 o6_10 o6_11) else ((callT R n_spec_l05Faces o_spec_l05Faces [⟨(.ptr (.cons yK .nil)),(s_4.1,())⟩,⟨yI,simplex_6⟩]).bind fun r23 => ((idx? r23.1 i_8).bind fun y24 => ((callT R n_spec_l09Restrict o_spec_l09Restrict [⟨(.ptr yS),s_4⟩,⟨yI,face_5⟩,⟨yI,(y24,()).1⟩]).bind fun r25 => ((callT R n_spec_l09Get o_spec_l09Get [⟨(.ptr yS),s_4⟩,⟨yI,simplex_6⟩,⟨yI,i_8⟩]).bind fun r26 => ((callT R n_spec_l03Times o_spec_l03Times [⟨(.ptr yM),r26.1⟩,⟨(.ptr yM),(r25.1,r25.2.1,r25.2.2.1,r25.2.2.2.1,())⟩]).bind fun r27 => some ⟨o_spec_l09Restrict,(r27.1,r27.2.1,r27.2.2.1,r27.2.2.2.1,())⟩))))))))) := (hw _ _).trans (by kernel_rfl)
theorem spec_l09Restrict.ev (R:Run) (N:Nat) (a0:vS) (a1:Int) (a2:Int):evFn E R sg_spec_l09Restrict pol_spec_l09Restrict F_spec_l09Restrict N [⟨(.ptr yS),a0⟩,⟨yI,a1⟩,⟨yI,a2⟩] = (bif (a1 == a2) then ((idx? a0.2.2.1 a1).bind fun y1 => ((callT R n_spec_l03Unit o_spec_l03Unit [⟨yI,a0.2.1⟩,⟨yI,(y1,()).1⟩]).bind fun r2 => some ⟨o_spec_l09Restrict,(r2.1,r2.2.1,r2.2.2.1,r2.2.2.2.1,())⟩)) else ((idx? a0.1 a2).bind fun y3 => (spec_l09Restrict.l0 R N N a0 a1 a2 ((y3,()).1) (0:Int) (0:Int) (0:Int) (0:Int)))) := by kernel_rfl
end VeT
