import Derived.Test.YtmedfcilbiogmaaGreatV2
import Derived.Test.YtmedfcilbiogmaaGreatProg
import Derived.KernelRfl
set_option linter.unusedVariables false
set_option linter.unusedSimpArgs false
open Go Go.Proofs Ve
set_option linter.unusedVariables false
set_option maxRecDepth 100000
namespace VeT
abbrev yM : Ty := .cons (.int .i64) (.cons (.int .i64) (.cons (.int .i64) (.cons (.sl (.int .i64)) .nil)))
abbrev yI : Ty := .int .i64
abbrev yL : Ty := .sl yI
abbrev yK : Ty := .sl yL
abbrev yN : Ty := .sl (.st yM)
abbrev yS : Ty := .cons yK (.cons yI (.cons yL (.cons yN .nil)))
abbrev vM := Int × Int × Int × List Int × Unit
abbrev vK := List (List Int)
abbrev vN := List vM
abbrev vS := vK × Int × List Int × vN × Unit
noncomputable def bodyOf (f:Func):Code := f.body.getD .skip
def zd:Nat → List Ve.V → List Ve.V
  | 0,t => t
  | n + 1,t => V.dead::zd n t
def zo:Nat → List (Option Ve.Obj) → List (Option Ve.Obj)
  | 0,t => t
  | n + 1,t => none::zo n t
@[reducible] def n_laws_FnExactPrimitiveOf:Nat := 6
@[reducible] def n_laws_FnExactIsCoboundary:Nat := 7
@[reducible] def n_laws_FnExactSameClass:Nat := 8
@[reducible] def n_laws_szSheaf:Nat := 15
@[reducible] def n_laws_toSheaf:Nat := 17
@[reducible] def n_laws_toInt64S:Nat := 18
@[reducible] def n_laws_eqInt64S:Nat := 20
@[reducible] def n_laws_eqSheaf:Nat := 21
@[reducible] def n_laws_markSheaf:Nat := 22
@[reducible] def n_laws_markInt64S:Nat := 23
@[reducible] def n_laws_heldInt64S:Nat := 24
@[reducible] def n_laws_eqInt64SS:Nat := 27
@[reducible] def n_laws_markInt64SS:Nat := 28
@[reducible] def n_spec_PrimitiveOf:Nat := 32
@[reducible] def n_impl_PrimitiveOf:Nat := 33
@[reducible] def n_spec_IsCoboundary:Nat := 34
@[reducible] def n_impl_IsCoboundary:Nat := 35
@[reducible] def n_spec_SameClass:Nat := 36
@[reducible] def n_impl_SameClass:Nat := 37
@[reducible] def n_laws_szComplex:Nat := 48
@[reducible] def n_laws_toComplex:Nat := 50
@[reducible] def n_laws_eqComplex:Nat := 52
@[reducible] def n_laws_markComplex:Nat := 53
@[reducible] def n_laws_szInt64S:Nat := 54
@[reducible] def n_laws_szMatrixS:Nat := 55
@[reducible] def n_spec_l09Is:Nat := 56
@[reducible] def n_laws_toMatrixS:Nat := 60
@[reducible] def n_laws_eqMatrixS:Nat := 64
@[reducible] def n_laws_markMatrixS:Nat := 65
@[reducible] def n_spec_l11Ask:Nat := 66
@[reducible] def n_spec_l11Matrix:Nat := 67
@[reducible] def n_impl_graded:Nat := 69
@[reducible] def n_impl_coboundaryMatrix:Nat := 71
@[reducible] def n_impl_IsSheaf:Nat := 75
@[reducible] def n_spec_l11Cochain:Nat := 76
@[reducible] def n_spec_l11Primitive:Nat := 77
@[reducible] def n_impl_withCochain:Nat := 78
@[reducible] def n_impl_primitive:Nat := 79
@[reducible] def n_spec_l11Cocycle:Nat := 80
@[reducible] def n_spec_l07Less:Nat := 81
@[reducible] def n_impl_isCocycle:Nat := 82
@[reducible] def n_impl_addTimes:Nat := 83
@[reducible] def n_impl_rowsOf:Nat := 94
@[reducible] def n_spec_l03Solve:Nat := 100
@[reducible] def n_spec_l00Own:Nat := 101
@[reducible] def n_impl_solve:Nat := 103
@[reducible] def n_slices_Concat_Sint64_int64:Nat := 105
@[reducible] def n_impl_stalkSum:Nat := 106
@[reducible] def n_spec_l00In:Nat := 107
@[reducible] def n_spec_l05Of:Nat := 108
@[reducible] def n_impl_size_int64:Nat := 111
@[reducible] def n_laws_szInt64SS:Nat := 118
@[reducible] def n_laws_toInt64SS:Nat := 121
@[reducible] def n_laws_szMatrix:Nat := 124
@[reducible] def n_spec_l09Ok:Nat := 125
@[reducible] def n_spec_l09Wrong:Nat := 126
@[reducible] def n_spec_l00Rises:Nat := 127
@[reducible] def n_spec_l03Apply:Nat := 132
@[reducible] def n_laws_toMatrix:Nat := 133
@[reducible] def n_impl_isVector:Nat := 135
@[reducible] def n_impl_isZero:Nat := 136
@[reducible] def n_impl_apply:Nat := 137
@[reducible] def n_laws_eqMatrix:Nat := 139
@[reducible] def n_spec_l05Dimension:Nat := 140
@[reducible] def n_spec_l03Zero:Nat := 141
@[reducible] def n_spec_l09Sum:Nat := 142
@[reducible] def n_spec_l05Faces:Nat := 143
@[reducible] def n_spec_l11At:Nat := 144
@[reducible] def n_spec_l09Get:Nat := 145
@[reducible] def n_spec_l07Sign:Nat := 146
@[reducible] def n_spec_l03Reduced:Nat := 147
@[reducible] def n_spec_l03Mod:Nat := 149
@[reducible] def n_impl_isDimension:Nat := 150
@[reducible] def n_impl_eliminate:Nat := 151
@[reducible] def n_impl_reduce:Nat := 153
@[reducible] def n_impl_zero:Nat := 154
@[reducible] def n_impl_simplicesOf:Nat := 155
@[reducible] def n_impl_faceIndices:Nat := 156
@[reducible] def n_impl_direct:Nat := 157
@[reducible] def n_impl_firstColumn:Nat := 158
@[reducible] def n_impl_Matrix_at:Nat := 159
@[reducible] def n_impl_alternating:Nat := 160
@[reducible] def n_impl_ValidSheaf:Nat := 161
@[reducible] def n_impl_wrongSquare:Nat := 162
@[reducible] def n_spec_l03Column:Nat := 163
@[reducible] def n_spec_l07Null:Nat := 164
@[reducible] def n_impl_size_Sint64:Nat := 165
@[reducible] def n_spec_l03Times:Nat := 166
@[reducible] def n_slices_ContainsFunc_Sint64_int64:Nat := 168
@[reducible] def n_slices_Clone_Sint64_int64:Nat := 170
@[reducible] def n_impl_Matrix_row:Nat := 171
@[reducible] def n_slices_IndexFunc_Sint64_int64:Nat := 173
@[reducible] def n_impl_product:Nat := 175
@[reducible] def n_spec_l03Join:Nat := 177
@[reducible] def n_slices_Grow_Sint64_int64:Nat := 179
@[reducible] def n_impl_within:Nat := 180
@[reducible] def n_spec_l05Ok:Nat := 184
@[reducible] def n_spec_ValidPrime:Nat := 185
@[reducible] def n_impl_ValidComplex:Nat := 187
@[reducible] def n_impl_ValidPrime:Nat := 188
@[reducible] def n_spec_l09Stalks:Nat := 191
@[reducible] def n_spec_l09Count:Nat := 192
@[reducible] def n_spec_l09Map:Nat := 193
@[reducible] def n_spec_l09Place:Nat := 194
@[reducible] def n_spec_l09Two:Nat := 195
@[reducible] def n_spec_l03Same:Nat := 196
@[reducible] def n_spec_l05Find:Nat := 198
@[reducible] def n_impl_isRising:Nat := 199
@[reducible] def n_impl_areElements:Nat := 200
@[reducible] def n_impl_isZero_1:Nat := 201
@[reducible] def n_impl_dot:Nat := 202
@[reducible] def n_spec_l05Drop:Nat := 204
@[reducible] def n_spec_l03Inverse:Nat := 205
@[reducible] def n_slices_IndexFunc_SSint64_Sint64:Nat := 206
@[reducible] def n_impl_eliminate_1:Nat := 207
@[reducible] def n_impl_inverseOf:Nat := 208
@[reducible] def n_impl_filled:Nat := 210
@[reducible] def n_impl_zero_1:Nat := 211
@[reducible] def n_impl_facesOf:Nat := 212
@[reducible] def n_impl_indexOf:Nat := 213
@[reducible] def n_impl_firstMap:Nat := 214
@[reducible] def n_impl_areStalks:Nat := 215
@[reducible] def n_impl_arrows:Nat := 216
@[reducible] def n_impl_isBetween:Nat := 217
@[reducible] def n_impl_SameMatrix:Nat := 218
@[reducible] def n_impl_columnsOf:Nat := 220
@[reducible] def n_impl_product_1:Nat := 221
@[reducible] def n_spec_l05Simplex:Nat := 227
@[reducible] def n_spec_l05Before:Nat := 228
@[reducible] def n_spec_l02Prime:Nat := 229
@[reducible] def n_impl_ValidSimplex:Nat := 230
@[reducible] def n_impl_compareSimplices:Nat := 231
@[reducible] def n_slices_ContainsFunc_SSint64_Sint64:Nat := 232
@[reducible] def n_impl_ValidComplex_1:Nat := 233
@[reducible] def n_spec_l03Ok:Nat := 234
@[reducible] def n_spec_l00Same:Nat := 235
@[reducible] def n_impl_areElements_1:Nat := 236
@[reducible] def n_impl_isElement:Nat := 237
@[reducible] def n_impl_powerOf:Nat := 238
@[reducible] def n_slices_BinarySearchFunc_SSint64_Sint64_Sint64:Nat := 239
@[reducible] def n_impl_areStalks_1:Nat := 240
@[reducible] def n_impl_ValidMatrix:Nat := 241
@[reducible] def n_slices_Equal_Sint64_int64:Nat := 242
@[reducible] def n_impl_transpose:Nat := 243
@[reducible] def n_impl_ValidSimplex_1:Nat := 245
@[reducible] def n_impl_isVertex:Nat := 246
@[reducible] def n_cmp_Or_int:Nat := 247
@[reducible] def n_cmp_Compare_int:Nat := 248
@[reducible] def n_slices_Compare_Sint64_int64:Nat := 249
@[reducible] def n_impl_isSide:Nat := 250
@[reducible] def n_impl_transpose_1:Nat := 251
@[reducible] def n_cmp_isNaN_int:Nat := 253
@[reducible] def n_cmp_Compare_int64:Nat := 254
@[reducible] def n_cmp_isNaN_int64:Nat := 256
@[reducible] noncomputable def F_laws_FnExactPrimitiveOf:Func := Tryz.f6
@[reducible] noncomputable def F_laws_FnExactIsCoboundary:Func := Tryz.f7
@[reducible] noncomputable def F_laws_FnExactSameClass:Func := Tryz.f8
@[reducible] noncomputable def F_laws_szSheaf:Func := Tryz.f15
@[reducible] noncomputable def F_laws_toSheaf:Func := Tryz.f17
@[reducible] noncomputable def F_laws_toInt64S:Func := Tryz.f18
@[reducible] noncomputable def F_laws_eqInt64S:Func := Tryz.f20
@[reducible] noncomputable def F_laws_eqSheaf:Func := Tryz.f21
@[reducible] noncomputable def F_laws_markSheaf:Func := Tryz.f22
@[reducible] noncomputable def F_laws_markInt64S:Func := Tryz.f23
@[reducible] noncomputable def F_laws_heldInt64S:Func := Tryz.f24
@[reducible] noncomputable def F_laws_eqInt64SS:Func := Tryz.f27
@[reducible] noncomputable def F_laws_markInt64SS:Func := Tryz.f28
@[reducible] noncomputable def F_spec_PrimitiveOf:Func := Tryz.f32
@[reducible] noncomputable def F_impl_PrimitiveOf:Func := Tryz.f33
@[reducible] noncomputable def F_spec_IsCoboundary:Func := Tryz.f34
@[reducible] noncomputable def F_impl_IsCoboundary:Func := Tryz.f35
@[reducible] noncomputable def F_spec_SameClass:Func := Tryz.f36
@[reducible] noncomputable def F_impl_SameClass:Func := Tryz.f37
@[reducible] noncomputable def F_laws_szComplex:Func := Tryz.f48
@[reducible] noncomputable def F_laws_toComplex:Func := Tryz.f50
@[reducible] noncomputable def F_laws_eqComplex:Func := Tryz.f52
@[reducible] noncomputable def F_laws_markComplex:Func := Tryz.f53
@[reducible] noncomputable def F_laws_szInt64S:Func := Tryz.f54
@[reducible] noncomputable def F_laws_szMatrixS:Func := Tryz.f55
@[reducible] noncomputable def F_spec_l09Is:Func := Tryz.f56
@[reducible] noncomputable def F_laws_toMatrixS:Func := Tryz.f60
@[reducible] noncomputable def F_laws_eqMatrixS:Func := Tryz.f64
@[reducible] noncomputable def F_laws_markMatrixS:Func := Tryz.f65
@[reducible] noncomputable def F_spec_l11Ask:Func := Tryz.f66
@[reducible] noncomputable def F_spec_l11Matrix:Func := Tryz.f67
@[reducible] noncomputable def F_impl_graded:Func := Tryz.f69
@[reducible] noncomputable def F_impl_coboundaryMatrix:Func := Tryz.f71
@[reducible] noncomputable def F_impl_IsSheaf:Func := Tryz.f75
@[reducible] noncomputable def F_spec_l11Cochain:Func := Tryz.f76
@[reducible] noncomputable def F_spec_l11Primitive:Func := Tryz.f77
@[reducible] noncomputable def F_impl_withCochain:Func := Tryz.f78
@[reducible] noncomputable def F_impl_primitive:Func := Tryz.f79
@[reducible] noncomputable def F_spec_l11Cocycle:Func := Tryz.f80
@[reducible] noncomputable def F_spec_l07Less:Func := Tryz.f81
@[reducible] noncomputable def F_impl_isCocycle:Func := Tryz.f82
@[reducible] noncomputable def F_impl_addTimes:Func := Tryz.f83
@[reducible] noncomputable def F_impl_rowsOf:Func := Tryz.f94
@[reducible] noncomputable def F_spec_l03Solve:Func := Tryz.f100
@[reducible] noncomputable def F_spec_l00Own:Func := Tryz.f101
@[reducible] noncomputable def F_impl_solve:Func := Tryz.f103
@[reducible] noncomputable def F_slices_Concat_Sint64_int64:Func := Tryz.f105
@[reducible] noncomputable def F_impl_stalkSum:Func := Tryz.f106
@[reducible] noncomputable def F_spec_l00In:Func := Tryz.f107
@[reducible] noncomputable def F_spec_l05Of:Func := Tryz.f108
@[reducible] noncomputable def F_impl_size_int64:Func := Tryz.f111
@[reducible] noncomputable def F_laws_szInt64SS:Func := Tryz.f118
@[reducible] noncomputable def F_laws_toInt64SS:Func := Tryz.f121
@[reducible] noncomputable def F_laws_szMatrix:Func := Tryz.f124
@[reducible] noncomputable def F_spec_l09Ok:Func := Tryz.f125
@[reducible] noncomputable def F_spec_l09Wrong:Func := Tryz.f126
@[reducible] noncomputable def F_spec_l00Rises:Func := Tryz.f127
@[reducible] noncomputable def F_spec_l03Apply:Func := Tryz.f132
@[reducible] noncomputable def F_laws_toMatrix:Func := Tryz.f133
@[reducible] noncomputable def F_impl_isVector:Func := Tryz.f135
@[reducible] noncomputable def F_impl_isZero:Func := Tryz.f136
@[reducible] noncomputable def F_impl_apply:Func := Tryz.f137
@[reducible] noncomputable def F_laws_eqMatrix:Func := Tryz.f139
@[reducible] noncomputable def F_spec_l05Dimension:Func := Tryz.f140
@[reducible] noncomputable def F_spec_l03Zero:Func := Tryz.f141
@[reducible] noncomputable def F_spec_l09Sum:Func := Tryz.f142
@[reducible] noncomputable def F_spec_l05Faces:Func := Tryz.f143
@[reducible] noncomputable def F_spec_l11At:Func := Tryz.f144
@[reducible] noncomputable def F_spec_l09Get:Func := Tryz.f145
@[reducible] noncomputable def F_spec_l07Sign:Func := Tryz.f146
@[reducible] noncomputable def F_spec_l03Reduced:Func := Tryz.f147
@[reducible] noncomputable def F_spec_l03Mod:Func := Tryz.f149
@[reducible] noncomputable def F_impl_isDimension:Func := Tryz.f150
@[reducible] noncomputable def F_impl_eliminate:Func := Tryz.f151
@[reducible] noncomputable def F_impl_reduce:Func := Tryz.f153
@[reducible] noncomputable def F_impl_zero:Func := Tryz.f154
@[reducible] noncomputable def F_impl_simplicesOf:Func := Tryz.f155
@[reducible] noncomputable def F_impl_faceIndices:Func := Tryz.f156
@[reducible] noncomputable def F_impl_direct:Func := Tryz.f157
@[reducible] noncomputable def F_impl_firstColumn:Func := Tryz.f158
@[reducible] noncomputable def F_impl_Matrix_at:Func := Tryz.f159
@[reducible] noncomputable def F_impl_alternating:Func := Tryz.f160
@[reducible] noncomputable def F_impl_ValidSheaf:Func := Tryz.f161
@[reducible] noncomputable def F_impl_wrongSquare:Func := Tryz.f162
@[reducible] noncomputable def F_spec_l03Column:Func := Tryz.f163
@[reducible] noncomputable def F_spec_l07Null:Func := Tryz.f164
@[reducible] noncomputable def F_impl_size_Sint64:Func := Tryz.f165
@[reducible] noncomputable def F_spec_l03Times:Func := Tryz.f166
@[reducible] noncomputable def F_slices_ContainsFunc_Sint64_int64:Func := Tryz.f168
@[reducible] noncomputable def F_slices_Clone_Sint64_int64:Func := Tryz.f170
@[reducible] noncomputable def F_impl_Matrix_row:Func := Tryz.f171
@[reducible] noncomputable def F_slices_IndexFunc_Sint64_int64:Func := Tryz.f173
@[reducible] noncomputable def F_impl_product:Func := Tryz.f175
@[reducible] noncomputable def F_spec_l03Join:Func := Tryz.f177
@[reducible] noncomputable def F_slices_Grow_Sint64_int64:Func := Tryz.f179
@[reducible] noncomputable def F_impl_within:Func := Tryz.f180
@[reducible] noncomputable def F_spec_l05Ok:Func := Tryz.f184
@[reducible] noncomputable def F_spec_ValidPrime:Func := Tryz.f185
@[reducible] noncomputable def F_impl_ValidComplex:Func := Tryz.f187
@[reducible] noncomputable def F_impl_ValidPrime:Func := Tryz.f188
@[reducible] noncomputable def F_spec_l09Stalks:Func := Tryz.f191
@[reducible] noncomputable def F_spec_l09Count:Func := Tryz.f192
@[reducible] noncomputable def F_spec_l09Map:Func := Tryz.f193
@[reducible] noncomputable def F_spec_l09Place:Func := Tryz.f194
@[reducible] noncomputable def F_spec_l09Two:Func := Tryz.f195
@[reducible] noncomputable def F_spec_l03Same:Func := Tryz.f196
@[reducible] noncomputable def F_spec_l05Find:Func := Tryz.f198
@[reducible] noncomputable def F_impl_isRising:Func := Tryz.f199
@[reducible] noncomputable def F_impl_areElements:Func := Tryz.f200
@[reducible] noncomputable def F_impl_isZero_1:Func := Tryz.f201
@[reducible] noncomputable def F_impl_dot:Func := Tryz.f202
@[reducible] noncomputable def F_spec_l05Drop:Func := Tryz.f204
@[reducible] noncomputable def F_spec_l03Inverse:Func := Tryz.f205
@[reducible] noncomputable def F_slices_IndexFunc_SSint64_Sint64:Func := Tryz.f206
@[reducible] noncomputable def F_impl_eliminate_1:Func := Tryz.f207
@[reducible] noncomputable def F_impl_inverseOf:Func := Tryz.f208
@[reducible] noncomputable def F_impl_filled:Func := Tryz.f210
@[reducible] noncomputable def F_impl_zero_1:Func := Tryz.f211
@[reducible] noncomputable def F_impl_facesOf:Func := Tryz.f212
@[reducible] noncomputable def F_impl_indexOf:Func := Tryz.f213
@[reducible] noncomputable def F_impl_firstMap:Func := Tryz.f214
@[reducible] noncomputable def F_impl_areStalks:Func := Tryz.f215
@[reducible] noncomputable def F_impl_arrows:Func := Tryz.f216
@[reducible] noncomputable def F_impl_isBetween:Func := Tryz.f217
@[reducible] noncomputable def F_impl_SameMatrix:Func := Tryz.f218
@[reducible] noncomputable def F_impl_columnsOf:Func := Tryz.f220
@[reducible] noncomputable def F_impl_product_1:Func := Tryz.f221
@[reducible] noncomputable def F_spec_l05Simplex:Func := Tryz.f227
@[reducible] noncomputable def F_spec_l05Before:Func := Tryz.f228
@[reducible] noncomputable def F_spec_l02Prime:Func := Tryz.f229
@[reducible] noncomputable def F_impl_ValidSimplex:Func := Tryz.f230
@[reducible] noncomputable def F_impl_compareSimplices:Func := Tryz.f231
@[reducible] noncomputable def F_slices_ContainsFunc_SSint64_Sint64:Func := Tryz.f232
@[reducible] noncomputable def F_impl_ValidComplex_1:Func := Tryz.f233
@[reducible] noncomputable def F_spec_l03Ok:Func := Tryz.f234
@[reducible] noncomputable def F_spec_l00Same:Func := Tryz.f235
@[reducible] noncomputable def F_impl_areElements_1:Func := Tryz.f236
@[reducible] noncomputable def F_impl_isElement:Func := Tryz.f237
@[reducible] noncomputable def F_impl_powerOf:Func := Tryz.f238
@[reducible] noncomputable def F_slices_BinarySearchFunc_SSint64_Sint64_Sint64:Func := Tryz.f239
@[reducible] noncomputable def F_impl_areStalks_1:Func := Tryz.f240
@[reducible] noncomputable def F_impl_ValidMatrix:Func := Tryz.f241
@[reducible] noncomputable def F_slices_Equal_Sint64_int64:Func := Tryz.f242
@[reducible] noncomputable def F_impl_transpose:Func := Tryz.f243
@[reducible] noncomputable def F_impl_ValidSimplex_1:Func := Tryz.f245
@[reducible] noncomputable def F_impl_isVertex:Func := Tryz.f246
@[reducible] noncomputable def F_cmp_Or_int:Func := Tryz.f247
@[reducible] noncomputable def F_cmp_Compare_int:Func := Tryz.f248
@[reducible] noncomputable def F_slices_Compare_Sint64_int64:Func := Tryz.f249
@[reducible] noncomputable def F_impl_isSide:Func := Tryz.f250
@[reducible] noncomputable def F_impl_transpose_1:Func := Tryz.f251
@[reducible] noncomputable def F_cmp_isNaN_int:Func := Tryz.f253
@[reducible] noncomputable def F_cmp_Compare_int64:Func := Tryz.f254
@[reducible] noncomputable def F_cmp_isNaN_int64:Func := Tryz.f256
@[reducible] def o_laws_FnExactPrimitiveOf:Ty := (.cons .bool .nil)
noncomputable def sg_laws_FnExactPrimitiveOf:Sig := ⟨[(true,4),(false,1),(false,1)],[],o_laws_FnExactPrimitiveOf,[(false,1)],[],[]⟩
@[reducible] def o_laws_FnExactIsCoboundary:Ty := (.cons .bool .nil)
noncomputable def sg_laws_FnExactIsCoboundary:Sig := ⟨[(true,4),(false,1),(false,1)],[],o_laws_FnExactIsCoboundary,[(false,1)],[],[]⟩
@[reducible] def o_laws_FnExactSameClass:Ty := (.cons .bool .nil)
noncomputable def sg_laws_FnExactSameClass:Sig := ⟨[(true,4),(false,1),(false,1),(false,1)],[],o_laws_FnExactSameClass,[(false,1)],[],[]⟩
@[reducible] def o_laws_szSheaf:Ty := (.cons yI .nil)
noncomputable def sg_laws_szSheaf:Sig := ⟨[(true,4),(false,1)],[],o_laws_szSheaf,[(false,1)],[],[]⟩
@[reducible] def o_laws_toSheaf:Ty := yS
noncomputable def sg_laws_toSheaf:Sig := ⟨[(true,4)],[],o_laws_toSheaf,[(true,4)],[.deep,.imm,.deep,.deep],[]⟩
@[reducible] def o_laws_toInt64S:Ty := (.cons yL .nil)
noncomputable def sg_laws_toInt64S:Sig := ⟨[(false,1)],[],o_laws_toInt64S,[(false,1)],[.deep],[]⟩
@[reducible] def o_laws_eqInt64S:Ty := (.cons .bool .nil)
noncomputable def sg_laws_eqInt64S:Sig := ⟨[(false,1),(false,1)],[],o_laws_eqInt64S,[(false,1)],[],[]⟩
@[reducible] def o_laws_eqSheaf:Ty := (.cons .bool .nil)
noncomputable def sg_laws_eqSheaf:Sig := ⟨[(true,4),(true,4)],[],o_laws_eqSheaf,[(false,1)],[],[]⟩
@[reducible] def o_laws_markSheaf:Ty := (.cons yI (.cons yK (.cons yL (.cons yN .nil))))
noncomputable def sg_laws_markSheaf:Sig := ⟨[(true,4),(false,1)],[.io true,.imm,.io true,.io true,.imm],o_laws_markSheaf,[(false,1)],[],[]⟩
@[reducible] def o_laws_markInt64S:Ty := (.cons yI (.cons yL .nil))
noncomputable def sg_laws_markInt64S:Sig := ⟨[(false,1),(false,1)],[.io true,.imm],o_laws_markInt64S,[(false,1)],[],[]⟩
@[reducible] def o_laws_heldInt64S:Ty := (.cons yI .nil)
noncomputable def sg_laws_heldInt64S:Sig := ⟨[(false,1),(false,1)],[],o_laws_heldInt64S,[(false,1)],[],[]⟩
@[reducible] def o_laws_eqInt64SS:Ty := (.cons .bool .nil)
noncomputable def sg_laws_eqInt64SS:Sig := ⟨[(false,1),(false,1)],[],o_laws_eqInt64SS,[(false,1)],[],[]⟩
@[reducible] def o_laws_markInt64SS:Ty := (.cons yI (.cons yK .nil))
noncomputable def sg_laws_markInt64SS:Sig := ⟨[(false,1),(false,1)],[.io true,.imm],o_laws_markInt64SS,[(false,1)],[],[]⟩
@[reducible] def o_spec_PrimitiveOf:Ty := (.cons yL (.cons yI .nil))
noncomputable def sg_spec_PrimitiveOf:Sig := ⟨[(true,4),(false,1),(false,1)],[],o_spec_PrimitiveOf,[(false,1),(false,1)],[.deep,.imm],[]⟩
@[reducible] def o_impl_PrimitiveOf:Ty := (.cons yL (.cons yI .nil))
noncomputable def sg_impl_PrimitiveOf:Sig := ⟨[(true,4),(false,1),(false,1)],[],o_impl_PrimitiveOf,[(false,1),(false,1)],[.deep,.imm],[]⟩
@[reducible] def o_spec_IsCoboundary:Ty := (.cons .bool .nil)
noncomputable def sg_spec_IsCoboundary:Sig := ⟨[(true,4),(false,1),(false,1)],[],o_spec_IsCoboundary,[(false,1)],[],[]⟩
@[reducible] def o_impl_IsCoboundary:Ty := (.cons .bool .nil)
noncomputable def sg_impl_IsCoboundary:Sig := ⟨[(true,4),(false,1),(false,1)],[],o_impl_IsCoboundary,[(false,1)],[],[]⟩
@[reducible] def o_spec_SameClass:Ty := (.cons .bool .nil)
noncomputable def sg_spec_SameClass:Sig := ⟨[(true,4),(false,1),(false,1),(false,1)],[],o_spec_SameClass,[(false,1)],[],[]⟩
@[reducible] def o_impl_SameClass:Ty := (.cons .bool .nil)
noncomputable def sg_impl_SameClass:Sig := ⟨[(true,4),(false,1),(false,1),(false,1)],[],o_impl_SameClass,[(false,1)],[],[]⟩
@[reducible] def o_laws_szComplex:Ty := (.cons yI .nil)
noncomputable def sg_laws_szComplex:Sig := ⟨[(true,1),(false,1)],[],o_laws_szComplex,[(false,1)],[],[]⟩
@[reducible] def o_laws_toComplex:Ty := (.cons yK .nil)
noncomputable def sg_laws_toComplex:Sig := ⟨[(true,1)],[],o_laws_toComplex,[(true,1)],[.deep],[]⟩
@[reducible] def o_laws_eqComplex:Ty := (.cons .bool .nil)
noncomputable def sg_laws_eqComplex:Sig := ⟨[(true,1),(true,1)],[],o_laws_eqComplex,[(false,1)],[],[]⟩
@[reducible] def o_laws_markComplex:Ty := (.cons yI (.cons yK .nil))
noncomputable def sg_laws_markComplex:Sig := ⟨[(true,1),(false,1)],[.io true,.imm],o_laws_markComplex,[(false,1)],[],[]⟩
@[reducible] def o_laws_szInt64S:Ty := (.cons yI .nil)
noncomputable def sg_laws_szInt64S:Sig := ⟨[(false,1),(false,1)],[],o_laws_szInt64S,[(false,1)],[],[]⟩
@[reducible] def o_laws_szMatrixS:Ty := (.cons yI .nil)
noncomputable def sg_laws_szMatrixS:Sig := ⟨[(false,1),(false,1)],[],o_laws_szMatrixS,[(false,1)],[],[]⟩
@[reducible] def o_spec_l09Is:Ty := (.cons .bool .nil)
noncomputable def sg_spec_l09Is:Sig := ⟨[(false,1)],[],o_spec_l09Is,[(false,1)],[],[(.ptr yS)]⟩
@[reducible] def o_laws_toMatrixS:Ty := (.cons yN .nil)
noncomputable def sg_laws_toMatrixS:Sig := ⟨[(false,1)],[],o_laws_toMatrixS,[(false,1)],[.deep],[]⟩
@[reducible] def o_laws_eqMatrixS:Ty := (.cons .bool .nil)
noncomputable def sg_laws_eqMatrixS:Sig := ⟨[(false,1),(false,1)],[],o_laws_eqMatrixS,[(false,1)],[],[]⟩
@[reducible] def o_laws_markMatrixS:Ty := (.cons yI (.cons yN .nil))
noncomputable def sg_laws_markMatrixS:Sig := ⟨[(false,1),(false,1)],[.io true,.imm],o_laws_markMatrixS,[(false,1)],[],[]⟩
@[reducible] def o_spec_l11Ask:Ty := (.cons yI .nil)
noncomputable def sg_spec_l11Ask:Sig := ⟨[(false,1),(false,1)],[],o_spec_l11Ask,[(false,1)],[],[(.ptr yS)]⟩
@[reducible] def o_spec_l11Matrix:Ty := yM
noncomputable def sg_spec_l11Matrix:Sig := ⟨[(false,1),(false,1)],[],o_spec_l11Matrix,[(true,4)],[.imm,.imm,.imm,.deep],[(.ptr yS)]⟩
@[reducible] def o_impl_graded:Ty := (.cons yI .nil)
noncomputable def sg_impl_graded:Sig := ⟨[(true,4),(false,1)],[],o_impl_graded,[(false,1)],[],[]⟩
@[reducible] def o_impl_coboundaryMatrix:Ty := yM
noncomputable def sg_impl_coboundaryMatrix:Sig := ⟨[(true,4),(false,1)],[],o_impl_coboundaryMatrix,[(true,4)],[.imm,.imm,.imm,.deep],[]⟩
@[reducible] def o_impl_IsSheaf:Ty := (.cons .bool .nil)
noncomputable def sg_impl_IsSheaf:Sig := ⟨[(true,4)],[],o_impl_IsSheaf,[(false,1)],[],[]⟩
@[reducible] def o_spec_l11Cochain:Ty := (.cons yI .nil)
noncomputable def sg_spec_l11Cochain:Sig := ⟨[(false,1),(false,1),(false,1)],[],o_spec_l11Cochain,[(false,1)],[],[(.ptr yS)]⟩
@[reducible] def o_spec_l11Primitive:Ty := (.cons yL (.cons .bool .nil))
noncomputable def sg_spec_l11Primitive:Sig := ⟨[(false,1),(false,1),(false,1)],[],o_spec_l11Primitive,[(false,1),(false,1)],[.deep,.imm],[(.ptr yS)]⟩
@[reducible] def o_impl_withCochain:Ty := (.cons yI .nil)
noncomputable def sg_impl_withCochain:Sig := ⟨[(true,4),(false,1),(false,1)],[],o_impl_withCochain,[(false,1)],[],[]⟩
@[reducible] def o_impl_primitive:Ty := (.cons yL (.cons .bool .nil))
noncomputable def sg_impl_primitive:Sig := ⟨[(true,4),(false,1),(false,1)],[],o_impl_primitive,[(false,1),(false,1)],[.deep,.imm],[]⟩
@[reducible] def o_spec_l11Cocycle:Ty := (.cons .bool .nil)
noncomputable def sg_spec_l11Cocycle:Sig := ⟨[(false,1),(false,1),(false,1)],[],o_spec_l11Cocycle,[(false,1)],[],[(.ptr yS)]⟩
@[reducible] def o_spec_l07Less:Ty := (.cons yL .nil)
noncomputable def sg_spec_l07Less:Sig := ⟨[(false,1),(false,1),(false,1)],[],o_spec_l07Less,[(false,1)],[.deep],[]⟩
@[reducible] def o_impl_isCocycle:Ty := (.cons .bool .nil)
noncomputable def sg_impl_isCocycle:Sig := ⟨[(true,4),(false,1),(false,1)],[],o_impl_isCocycle,[(false,1)],[],[]⟩
@[reducible] def o_impl_addTimes:Ty := (.cons yL .nil)
noncomputable def sg_impl_addTimes:Sig := ⟨[(false,1),(false,1),(false,1),(false,1)],[],o_impl_addTimes,[(false,1)],[.deep],[]⟩
@[reducible] def o_impl_rowsOf:Ty := (.cons yK .nil)
noncomputable def sg_impl_rowsOf:Sig := ⟨[(true,4)],[],o_impl_rowsOf,[(false,1)],[.deep],[]⟩
@[reducible] def o_spec_l03Solve:Ty := (.cons yL (.cons .bool .nil))
noncomputable def sg_spec_l03Solve:Sig := ⟨[(false,1),(false,1)],[],o_spec_l03Solve,[(false,1),(false,1)],[.deep,.imm],[(.ptr yM)]⟩
@[reducible] def o_spec_l00Own:Ty := (.cons yL .nil)
noncomputable def sg_spec_l00Own:Sig := ⟨[(false,1)],[],o_spec_l00Own,[(false,1)],[.deep],[]⟩
@[reducible] def o_impl_solve:Ty := (.cons yL (.cons .bool .nil))
noncomputable def sg_impl_solve:Sig := ⟨[(true,4),(false,1)],[],o_impl_solve,[(false,1),(false,1)],[.deep,.imm],[]⟩
@[reducible] def o_slices_Concat_Sint64_int64:Ty := (.cons yL .nil)
noncomputable def sg_slices_Concat_Sint64_int64:Sig := ⟨[(false,1)],[],o_slices_Concat_Sint64_int64,[(false,1)],[.deep],[]⟩
@[reducible] def o_impl_stalkSum:Ty := (.cons yI .nil)
noncomputable def sg_impl_stalkSum:Sig := ⟨[(true,4),(false,1)],[],o_impl_stalkSum,[(false,1)],[],[]⟩
@[reducible] def o_spec_l00In:Ty := (.cons .bool .nil)
noncomputable def sg_spec_l00In:Sig := ⟨[(false,1),(false,1),(false,1)],[],o_spec_l00In,[(false,1)],[],[]⟩
@[reducible] def o_spec_l05Of:Ty := (.cons yL .nil)
noncomputable def sg_spec_l05Of:Sig := ⟨[(false,1),(false,1)],[],o_spec_l05Of,[(false,1)],[.deep],[(.ptr (.cons yK .nil))]⟩
@[reducible] def o_impl_size_int64:Ty := (.cons yI .nil)
noncomputable def sg_impl_size_int64:Sig := ⟨[(false,1)],[],o_impl_size_int64,[(false,1)],[],[]⟩
@[reducible] def o_laws_szInt64SS:Ty := (.cons yI .nil)
noncomputable def sg_laws_szInt64SS:Sig := ⟨[(false,1),(false,1)],[],o_laws_szInt64SS,[(false,1)],[],[]⟩
@[reducible] def o_laws_toInt64SS:Ty := (.cons yK .nil)
noncomputable def sg_laws_toInt64SS:Sig := ⟨[(false,1)],[],o_laws_toInt64SS,[(false,1)],[.deep],[]⟩
@[reducible] def o_laws_szMatrix:Ty := (.cons yI .nil)
noncomputable def sg_laws_szMatrix:Sig := ⟨[(true,4),(false,1)],[],o_laws_szMatrix,[(false,1)],[],[]⟩
@[reducible] def o_spec_l09Ok:Ty := (.cons .bool .nil)
noncomputable def sg_spec_l09Ok:Sig := ⟨[(false,1)],[],o_spec_l09Ok,[(false,1)],[],[(.ptr yS)]⟩
@[reducible] def o_spec_l09Wrong:Ty := (.cons yI (.cons yI (.cons yI .nil)))
noncomputable def sg_spec_l09Wrong:Sig := ⟨[(false,1)],[],o_spec_l09Wrong,[(false,1),(false,1),(false,1)],[],[(.ptr yS)]⟩
@[reducible] def o_spec_l00Rises:Ty := (.cons .bool .nil)
noncomputable def sg_spec_l00Rises:Sig := ⟨[(false,1),(false,1),(false,1)],[],o_spec_l00Rises,[(false,1)],[],[]⟩
@[reducible] def o_spec_l03Apply:Ty := (.cons yL .nil)
noncomputable def sg_spec_l03Apply:Sig := ⟨[(false,1),(false,1)],[],o_spec_l03Apply,[(false,1)],[.deep],[(.ptr yM)]⟩
@[reducible] def o_laws_toMatrix:Ty := yM
noncomputable def sg_laws_toMatrix:Sig := ⟨[(true,4)],[],o_laws_toMatrix,[(true,4)],[.imm,.imm,.imm,.deep],[]⟩
@[reducible] def o_impl_isVector:Ty := (.cons .bool .nil)
noncomputable def sg_impl_isVector:Sig := ⟨[(false,1),(false,1),(false,1)],[],o_impl_isVector,[(false,1)],[],[]⟩
@[reducible] def o_impl_isZero:Ty := (.cons .bool .nil)
noncomputable def sg_impl_isZero:Sig := ⟨[(false,1)],[],o_impl_isZero,[(false,1)],[],[]⟩
@[reducible] def o_impl_apply:Ty := (.cons yL .nil)
noncomputable def sg_impl_apply:Sig := ⟨[(true,4),(false,1)],[],o_impl_apply,[(false,1)],[.deep],[]⟩
@[reducible] def o_laws_eqMatrix:Ty := (.cons .bool .nil)
noncomputable def sg_laws_eqMatrix:Sig := ⟨[(true,4),(true,4)],[],o_laws_eqMatrix,[(false,1)],[],[]⟩
@[reducible] def o_spec_l05Dimension:Ty := (.cons .bool .nil)
noncomputable def sg_spec_l05Dimension:Sig := ⟨[(false,1)],[],o_spec_l05Dimension,[(false,1)],[],[]⟩
@[reducible] def o_spec_l03Zero:Ty := yM
noncomputable def sg_spec_l03Zero:Sig := ⟨[(false,1),(false,1),(false,1)],[],o_spec_l03Zero,[(true,4)],[.imm,.imm,.imm,.deep],[]⟩
@[reducible] def o_spec_l09Sum:Ty := (.cons yI .nil)
noncomputable def sg_spec_l09Sum:Sig := ⟨[(false,1),(false,1),(false,1)],[],o_spec_l09Sum,[(false,1)],[],[(.ptr (.cons yK .nil))]⟩
@[reducible] def o_spec_l05Faces:Ty := (.cons yL .nil)
noncomputable def sg_spec_l05Faces:Sig := ⟨[(false,1),(false,1)],[],o_spec_l05Faces,[(false,1)],[.deep],[(.ptr (.cons yK .nil))]⟩
@[reducible] def o_spec_l11At:Ty := (.cons yI .nil)
noncomputable def sg_spec_l11At:Sig := ⟨[(false,1),(false,1)],[],o_spec_l11At,[(false,1)],[],[(.ptr yS)]⟩
@[reducible] def o_spec_l09Get:Ty := (.cons (.ptr yM) .nil)
noncomputable def sg_spec_l09Get:Sig := ⟨[(false,1),(false,1),(false,1)],[],o_spec_l09Get,[(false,1)],[],[(.ptr yS)]⟩
@[reducible] def o_spec_l07Sign:Ty := (.cons yI .nil)
noncomputable def sg_spec_l07Sign:Sig := ⟨[(false,1),(false,1)],[],o_spec_l07Sign,[(false,1)],[],[]⟩
@[reducible] def o_spec_l03Reduced:Ty := (.cons yI (.cons yI (.cons yI (.cons yL (.cons yL (.cons yI .nil))))))
noncomputable def sg_spec_l03Reduced:Sig := ⟨[(false,1)],[],o_spec_l03Reduced,[(true,4),(false,1),(false,1)],[.imm,.imm,.imm,.deep,.deep,.imm],[(.ptr yM)]⟩
@[reducible] def o_spec_l03Mod:Ty := (.cons yI .nil)
noncomputable def sg_spec_l03Mod:Sig := ⟨[(false,1),(false,1)],[],o_spec_l03Mod,[(false,1)],[],[]⟩
@[reducible] def o_impl_isDimension:Ty := (.cons .bool .nil)
noncomputable def sg_impl_isDimension:Sig := ⟨[(false,1)],[],o_impl_isDimension,[(false,1)],[],[]⟩
@[reducible] def o_impl_eliminate:Ty := (.cons yL (.cons yI (.cons yK .nil)))
noncomputable def sg_impl_eliminate:Sig := ⟨[(false,1),(false,1),(false,1)],[.io false,.imm,.imm],o_impl_eliminate,[(false,1),(false,1)],[.deep,.imm],[]⟩
@[reducible] def o_impl_reduce:Ty := (.cons yI .nil)
noncomputable def sg_impl_reduce:Sig := ⟨[(false,1),(false,1)],[],o_impl_reduce,[(false,1)],[],[]⟩
@[reducible] def o_impl_zero:Ty := yM
noncomputable def sg_impl_zero:Sig := ⟨[(false,1),(false,1),(false,1)],[],o_impl_zero,[(true,4)],[.imm,.imm,.imm,.deep],[]⟩
@[reducible] def o_impl_simplicesOf:Ty := (.cons yL .nil)
noncomputable def sg_impl_simplicesOf:Sig := ⟨[(true,1),(false,1)],[],o_impl_simplicesOf,[(false,1)],[.deep],[]⟩
@[reducible] def o_impl_faceIndices:Ty := (.cons yL .nil)
noncomputable def sg_impl_faceIndices:Sig := ⟨[(true,1),(false,1)],[],o_impl_faceIndices,[(false,1)],[.deep],[]⟩
@[reducible] def o_impl_direct:Ty := yM
noncomputable def sg_impl_direct:Sig := ⟨[(true,4),(false,1),(false,1)],[],o_impl_direct,[(true,4)],[],[]⟩
@[reducible] def o_impl_firstColumn:Ty := (.cons yI .nil)
noncomputable def sg_impl_firstColumn:Sig := ⟨[(true,4),(false,1)],[],o_impl_firstColumn,[(false,1)],[],[]⟩
@[reducible] def o_impl_Matrix_at:Ty := (.cons yI .nil)
noncomputable def sg_impl_Matrix_at:Sig := ⟨[(true,4),(false,1),(false,1)],[],o_impl_Matrix_at,[(false,1)],[],[]⟩
@[reducible] def o_impl_alternating:Ty := (.cons yI .nil)
noncomputable def sg_impl_alternating:Sig := ⟨[(false,1),(false,1)],[],o_impl_alternating,[(false,1)],[],[]⟩
@[reducible] def o_impl_ValidSheaf:Ty := (.cons .bool .nil)
noncomputable def sg_impl_ValidSheaf:Sig := ⟨[(true,4)],[],o_impl_ValidSheaf,[(false,1)],[],[]⟩
@[reducible] def o_impl_wrongSquare:Ty := (.cons yI (.cons yI (.cons .bool .nil)))
noncomputable def sg_impl_wrongSquare:Sig := ⟨[(true,4)],[],o_impl_wrongSquare,[(false,1),(false,1),(false,1)],[],[]⟩
@[reducible] def o_spec_l03Column:Ty := (.cons .bool .nil)
noncomputable def sg_spec_l03Column:Sig := ⟨[(false,1),(false,1),(false,1)],[],o_spec_l03Column,[(false,1)],[],[]⟩
@[reducible] def o_spec_l07Null:Ty := (.cons .bool .nil)
noncomputable def sg_spec_l07Null:Sig := ⟨[(false,1)],[],o_spec_l07Null,[(false,1)],[],[]⟩
@[reducible] def o_impl_size_Sint64:Ty := (.cons yI .nil)
noncomputable def sg_impl_size_Sint64:Sig := ⟨[(false,1)],[],o_impl_size_Sint64,[(false,1)],[],[]⟩
@[reducible] def o_spec_l03Times:Ty := yM
noncomputable def sg_spec_l03Times:Sig := ⟨[(false,1),(false,1)],[],o_spec_l03Times,[(true,4)],[.imm,.imm,.imm,.deep],[(.ptr yM),(.ptr yM)]⟩
@[reducible] def o_slices_ContainsFunc_Sint64_int64:Ty := (.cons .bool .nil)
noncomputable def sg_slices_ContainsFunc_Sint64_int64:Sig := ⟨[(false,1),(false,1)],[],o_slices_ContainsFunc_Sint64_int64,[(false,1)],[],[]⟩
@[reducible] def o_slices_Clone_Sint64_int64:Ty := (.cons yL .nil)
noncomputable def sg_slices_Clone_Sint64_int64:Sig := ⟨[(false,1)],[],o_slices_Clone_Sint64_int64,[(false,1)],[.deep],[]⟩
@[reducible] def o_impl_Matrix_row:Ty := (.cons yL .nil)
noncomputable def sg_impl_Matrix_row:Sig := ⟨[(true,4),(false,1)],[],o_impl_Matrix_row,[(false,1)],[],[]⟩
@[reducible] def o_slices_IndexFunc_Sint64_int64:Ty := (.cons yI .nil)
noncomputable def sg_slices_IndexFunc_Sint64_int64:Sig := ⟨[(false,1),(false,1)],[],o_slices_IndexFunc_Sint64_int64,[(false,1)],[],[]⟩
@[reducible] def o_impl_product:Ty := yM
noncomputable def sg_impl_product:Sig := ⟨[(true,4),(true,4)],[],o_impl_product,[(true,4)],[.imm,.imm,.imm,.deep],[]⟩
@[reducible] def o_spec_l03Join:Ty := yM
noncomputable def sg_spec_l03Join:Sig := ⟨[(false,1),(false,1)],[],o_spec_l03Join,[(true,4)],[.imm,.imm,.imm,.deep],[(.ptr yM),(.ptr yM)]⟩
@[reducible] def o_slices_Grow_Sint64_int64:Ty := (.cons yL .nil)
noncomputable def sg_slices_Grow_Sint64_int64:Sig := ⟨[(false,1),(false,1)],[.take true,.imm],o_slices_Grow_Sint64_int64,[(false,1)],[.deep],[]⟩
@[reducible] def o_impl_within:Ty := (.cons .bool .nil)
noncomputable def sg_impl_within:Sig := ⟨[(false,1),(false,1),(false,1)],[],o_impl_within,[(false,1)],[],[]⟩
@[reducible] def o_spec_l05Ok:Ty := (.cons .bool .nil)
noncomputable def sg_spec_l05Ok:Sig := ⟨[(false,1)],[],o_spec_l05Ok,[(false,1)],[],[(.ptr (.cons yK .nil))]⟩
@[reducible] def o_spec_ValidPrime:Ty := (.cons .bool .nil)
noncomputable def sg_spec_ValidPrime:Sig := ⟨[(false,1)],[],o_spec_ValidPrime,[(false,1)],[],[]⟩
@[reducible] def o_impl_ValidComplex:Ty := (.cons .bool .nil)
noncomputable def sg_impl_ValidComplex:Sig := ⟨[(true,1)],[],o_impl_ValidComplex,[(false,1)],[],[]⟩
@[reducible] def o_impl_ValidPrime:Ty := (.cons .bool .nil)
noncomputable def sg_impl_ValidPrime:Sig := ⟨[(false,1)],[],o_impl_ValidPrime,[(false,1)],[],[]⟩
@[reducible] def o_spec_l09Stalks:Ty := (.cons .bool .nil)
noncomputable def sg_spec_l09Stalks:Sig := ⟨[(false,1),(false,1)],[],o_spec_l09Stalks,[(false,1)],[],[(.ptr (.cons yK .nil))]⟩
@[reducible] def o_spec_l09Count:Ty := (.cons yI .nil)
noncomputable def sg_spec_l09Count:Sig := ⟨[(false,1)],[],o_spec_l09Count,[(false,1)],[],[(.ptr (.cons yK .nil))]⟩
@[reducible] def o_spec_l09Map:Ty := (.cons .bool .nil)
noncomputable def sg_spec_l09Map:Sig := ⟨[(false,1),(false,1),(false,1),(false,1)],[],o_spec_l09Map,[(false,1)],[],[(.ptr yS),.nil,.nil,(.ptr yM)]⟩
@[reducible] def o_spec_l09Place:Ty := (.cons yI .nil)
noncomputable def sg_spec_l09Place:Sig := ⟨[(false,1),(false,1),(false,1)],[],o_spec_l09Place,[(false,1)],[],[(.ptr (.cons yK .nil))]⟩
@[reducible] def o_spec_l09Two:Ty := yM
noncomputable def sg_spec_l09Two:Sig := ⟨[(false,1),(false,1),(false,1),(false,1)],[],o_spec_l09Two,[(true,4)],[.imm,.imm,.imm,.deep],[(.ptr yS)]⟩
@[reducible] def o_spec_l03Same:Ty := (.cons .bool .nil)
noncomputable def sg_spec_l03Same:Sig := ⟨[(false,1),(false,1)],[],o_spec_l03Same,[(false,1)],[],[(.ptr yM),(.ptr yM)]⟩
@[reducible] def o_spec_l05Find:Ty := (.cons yI .nil)
noncomputable def sg_spec_l05Find:Sig := ⟨[(false,1),(false,1)],[],o_spec_l05Find,[(false,1)],[],[(.ptr (.cons yK .nil))]⟩
@[reducible] def o_impl_isRising:Ty := (.cons .bool .nil)
noncomputable def sg_impl_isRising:Sig := ⟨[(false,1)],[],o_impl_isRising,[(false,1)],[],[]⟩
@[reducible] def o_impl_areElements:Ty := (.cons .bool .nil)
noncomputable def sg_impl_areElements:Sig := ⟨[(false,1),(false,1)],[],o_impl_areElements,[(false,1)],[],[]⟩
@[reducible] def o_impl_isZero_1:Ty := (.cons .bool .nil)
noncomputable def sg_impl_isZero_1:Sig := ⟨[(false,1)],[],o_impl_isZero_1,[(false,1)],[],[]⟩
@[reducible] def o_impl_dot:Ty := (.cons yI .nil)
noncomputable def sg_impl_dot:Sig := ⟨[(false,1),(false,1),(false,1)],[],o_impl_dot,[(false,1)],[],[]⟩
@[reducible] def o_spec_l05Drop:Ty := (.cons yL .nil)
noncomputable def sg_spec_l05Drop:Sig := ⟨[(false,1),(false,1)],[],o_spec_l05Drop,[(false,1)],[.deep],[]⟩
@[reducible] def o_spec_l03Inverse:Ty := (.cons yI .nil)
noncomputable def sg_spec_l03Inverse:Sig := ⟨[(false,1),(false,1)],[],o_spec_l03Inverse,[(false,1)],[],[]⟩
@[reducible] def o_slices_IndexFunc_SSint64_Sint64:Ty := (.cons yI .nil)
noncomputable def sg_slices_IndexFunc_SSint64_Sint64:Sig := ⟨[(false,1),(false,1)],[],o_slices_IndexFunc_SSint64_Sint64,[(false,1)],[],[]⟩
@[reducible] def o_impl_eliminate_1:Ty := (.cons .bool .nil)
noncomputable def sg_impl_eliminate_1:Sig := ⟨[(false,1),(false,1)],[],o_impl_eliminate_1,[(false,1)],[],[.nil,(.ptr (.cons yI .nil))]⟩
@[reducible] def o_impl_inverseOf:Ty := (.cons yI .nil)
noncomputable def sg_impl_inverseOf:Sig := ⟨[(false,1),(false,1)],[],o_impl_inverseOf,[(false,1)],[],[]⟩
@[reducible] def o_impl_filled:Ty := yM
noncomputable def sg_impl_filled:Sig := ⟨[(false,1),(false,1),(false,1),(false,1)],[],o_impl_filled,[(true,4)],[.imm,.imm,.imm,.deep],[]⟩
@[reducible] def o_impl_zero_1:Ty := (.cons yI .nil)
noncomputable def sg_impl_zero_1:Sig := ⟨[(false,1),(false,1)],[],o_impl_zero_1,[(false,1)],[],[]⟩
@[reducible] def o_impl_facesOf:Ty := (.cons yK .nil)
noncomputable def sg_impl_facesOf:Sig := ⟨[(false,1)],[],o_impl_facesOf,[(false,1)],[.deep],[]⟩
@[reducible] def o_impl_indexOf:Ty := (.cons yI .nil)
noncomputable def sg_impl_indexOf:Sig := ⟨[(true,1),(false,1)],[],o_impl_indexOf,[(false,1)],[],[]⟩
@[reducible] def o_impl_firstMap:Ty := (.cons yI .nil)
noncomputable def sg_impl_firstMap:Sig := ⟨[(true,4),(false,1)],[],o_impl_firstMap,[(false,1)],[],[]⟩
@[reducible] def o_impl_areStalks:Ty := (.cons .bool .nil)
noncomputable def sg_impl_areStalks:Sig := ⟨[(true,1),(false,1)],[],o_impl_areStalks,[(false,1)],[],[]⟩
@[reducible] def o_impl_arrows:Ty := (.cons (.sl (.st (.cons yI (.cons yI (.cons yI .nil))))) .nil)
noncomputable def sg_impl_arrows:Sig := ⟨[(true,1)],[],o_impl_arrows,[(false,1)],[.deep],[]⟩
@[reducible] def o_impl_isBetween:Ty := (.cons .bool .nil)
noncomputable def sg_impl_isBetween:Sig := ⟨[(true,4),(false,1),(false,1),(false,1)],[],o_impl_isBetween,[(false,1)],[],[]⟩
@[reducible] def o_impl_SameMatrix:Ty := (.cons .bool .nil)
noncomputable def sg_impl_SameMatrix:Sig := ⟨[(true,4),(true,4)],[],o_impl_SameMatrix,[(false,1)],[],[]⟩
@[reducible] def o_impl_columnsOf:Ty := (.cons yK .nil)
noncomputable def sg_impl_columnsOf:Sig := ⟨[(true,4)],[],o_impl_columnsOf,[(false,1)],[.deep],[]⟩
@[reducible] def o_impl_product_1:Ty := (.cons yI .nil)
noncomputable def sg_impl_product_1:Sig := ⟨[(false,1),(false,1),(false,1),(false,1)],[],o_impl_product_1,[(false,1)],[],[.nil,.nil,(.ptr yM),(.ptr (.cons yK .nil))]⟩
@[reducible] def o_spec_l05Simplex:Ty := (.cons .bool .nil)
noncomputable def sg_spec_l05Simplex:Sig := ⟨[(false,1)],[],o_spec_l05Simplex,[(false,1)],[],[]⟩
@[reducible] def o_spec_l05Before:Ty := (.cons .bool .nil)
noncomputable def sg_spec_l05Before:Sig := ⟨[(false,1),(false,1)],[],o_spec_l05Before,[(false,1)],[],[]⟩
@[reducible] def o_spec_l02Prime:Ty := (.cons .bool .nil)
noncomputable def sg_spec_l02Prime:Sig := ⟨[(false,1)],[],o_spec_l02Prime,[(false,1)],[],[]⟩
@[reducible] def o_impl_ValidSimplex:Ty := (.cons .bool .nil)
noncomputable def sg_impl_ValidSimplex:Sig := ⟨[(false,1)],[],o_impl_ValidSimplex,[(false,1)],[],[]⟩
@[reducible] def o_impl_compareSimplices:Ty := (.cons yI .nil)
noncomputable def sg_impl_compareSimplices:Sig := ⟨[(false,1),(false,1)],[],o_impl_compareSimplices,[(false,1)],[],[]⟩
@[reducible] def o_slices_ContainsFunc_SSint64_Sint64:Ty := (.cons .bool .nil)
noncomputable def sg_slices_ContainsFunc_SSint64_Sint64:Sig := ⟨[(false,1),(false,1)],[],o_slices_ContainsFunc_SSint64_Sint64,[(false,1)],[],[]⟩
@[reducible] def o_impl_ValidComplex_1:Ty := (.cons .bool .nil)
noncomputable def sg_impl_ValidComplex_1:Sig := ⟨[(false,1),(false,1),(false,1)],[],o_impl_ValidComplex_1,[(false,1)],[],[.nil,(.ptr (.cons yK .nil)),(.ptr (.cons yI .nil))]⟩
@[reducible] def o_spec_l03Ok:Ty := (.cons .bool .nil)
noncomputable def sg_spec_l03Ok:Sig := ⟨[(false,1)],[],o_spec_l03Ok,[(false,1)],[],[(.ptr yM)]⟩
@[reducible] def o_spec_l00Same:Ty := (.cons .bool .nil)
noncomputable def sg_spec_l00Same:Sig := ⟨[(false,1),(false,1)],[],o_spec_l00Same,[(false,1)],[],[]⟩
@[reducible] def o_impl_areElements_1:Ty := (.cons .bool .nil)
noncomputable def sg_impl_areElements_1:Sig := ⟨[(false,1),(false,1)],[],o_impl_areElements_1,[(false,1)],[],[.nil,(.ptr (.cons yI .nil))]⟩
@[reducible] def o_impl_isElement:Ty := (.cons .bool .nil)
noncomputable def sg_impl_isElement:Sig := ⟨[(false,1),(false,1)],[],o_impl_isElement,[(false,1)],[],[]⟩
@[reducible] def o_impl_powerOf:Ty := (.cons yI .nil)
noncomputable def sg_impl_powerOf:Sig := ⟨[(false,1),(false,1),(false,1)],[],o_impl_powerOf,[(false,1)],[],[]⟩
@[reducible] def o_slices_BinarySearchFunc_SSint64_Sint64_Sint64:Ty := (.cons yI (.cons .bool .nil))
noncomputable def sg_slices_BinarySearchFunc_SSint64_Sint64_Sint64:Sig := ⟨[(false,1),(false,1),(false,1)],[],o_slices_BinarySearchFunc_SSint64_Sint64_Sint64,[(false,1),(false,1)],[],[]⟩
@[reducible] def o_impl_areStalks_1:Ty := (.cons .bool .nil)
noncomputable def sg_impl_areStalks_1:Sig := ⟨[(false,1)],[],o_impl_areStalks_1,[(false,1)],[],[]⟩
@[reducible] def o_impl_ValidMatrix:Ty := (.cons .bool .nil)
noncomputable def sg_impl_ValidMatrix:Sig := ⟨[(true,4)],[],o_impl_ValidMatrix,[(false,1)],[],[]⟩
@[reducible] def o_slices_Equal_Sint64_int64:Ty := (.cons .bool .nil)
noncomputable def sg_slices_Equal_Sint64_int64:Sig := ⟨[(false,1),(false,1)],[],o_slices_Equal_Sint64_int64,[(false,1)],[],[]⟩
@[reducible] def o_impl_transpose:Ty := yM
noncomputable def sg_impl_transpose:Sig := ⟨[(true,4)],[],o_impl_transpose,[(true,4)],[.imm,.imm,.imm,.deep],[]⟩
@[reducible] def o_impl_ValidSimplex_1:Ty := (.cons .bool .nil)
noncomputable def sg_impl_ValidSimplex_1:Sig := ⟨[(false,1)],[],o_impl_ValidSimplex_1,[(false,1)],[],[]⟩
@[reducible] def o_impl_isVertex:Ty := (.cons .bool .nil)
noncomputable def sg_impl_isVertex:Sig := ⟨[(false,1)],[],o_impl_isVertex,[(false,1)],[],[]⟩
@[reducible] def o_cmp_Or_int:Ty := (.cons yI .nil)
noncomputable def sg_cmp_Or_int:Sig := ⟨[(false,1)],[],o_cmp_Or_int,[(false,1)],[],[]⟩
@[reducible] def o_cmp_Compare_int:Ty := (.cons yI .nil)
noncomputable def sg_cmp_Compare_int:Sig := ⟨[(false,1),(false,1)],[],o_cmp_Compare_int,[(false,1)],[],[]⟩
@[reducible] def o_slices_Compare_Sint64_int64:Ty := (.cons yI .nil)
noncomputable def sg_slices_Compare_Sint64_int64:Sig := ⟨[(false,1),(false,1)],[],o_slices_Compare_Sint64_int64,[(false,1)],[],[]⟩
@[reducible] def o_impl_isSide:Ty := (.cons .bool .nil)
noncomputable def sg_impl_isSide:Sig := ⟨[(false,1)],[],o_impl_isSide,[(false,1)],[],[]⟩
@[reducible] def o_impl_transpose_1:Ty := (.cons yI .nil)
noncomputable def sg_impl_transpose_1:Sig := ⟨[(false,1),(false,1),(false,1)],[],o_impl_transpose_1,[(false,1)],[],[.nil,.nil,(.ptr yM)]⟩
@[reducible] def o_cmp_isNaN_int:Ty := (.cons .bool .nil)
noncomputable def sg_cmp_isNaN_int:Sig := ⟨[(false,1)],[],o_cmp_isNaN_int,[(false,1)],[],[]⟩
@[reducible] def o_cmp_Compare_int64:Ty := (.cons yI .nil)
noncomputable def sg_cmp_Compare_int64:Sig := ⟨[(false,1),(false,1)],[],o_cmp_Compare_int64,[(false,1)],[],[]⟩
@[reducible] def o_cmp_isNaN_int64:Ty := (.cons .bool .nil)
noncomputable def sg_cmp_isNaN_int64:Sig := ⟨[(false,1)],[],o_cmp_isNaN_int64,[(false,1)],[],[]⟩
noncomputable def pol_laws_FnExactPrimitiveOf:Pol := ⟨133,[(37,[some 128,none,some 129,some 130]),(39,[some 131]),(44,[some 132])],[],[],[(1000055,⟨[1,2,3,8,9,10,11,12,13,55],[3,10,128,129,130,131,132],[],[],[],[],[]⟩),(1000084,⟨[1,2,3,8,9,12,84],[3,132],[],[],[],[],[]⟩),(1000113,⟨[12,15,113],[132],[],[],[],[],[]⟩)],[]⟩
noncomputable def pol_laws_FnExactIsCoboundary:Pol := ⟨53,[],[],[],[],[]⟩
noncomputable def pol_laws_FnExactSameClass:Pol := ⟨70,[],[],[],[],[]⟩
noncomputable def pol_laws_szSheaf:Pol := ⟨29,[],[],[],[],[]⟩
noncomputable def pol_laws_toSheaf:Pol := ⟨27,[(6,[some 24]),(13,[some 25]),(17,[some 26])],[],[],[],[]⟩
noncomputable def pol_laws_toInt64S:Pol := ⟨23,[],[(3,⟨[0,3,4],[7],[],[],[],[],[]⟩)],[],[],[]⟩
noncomputable def pol_laws_eqInt64S:Pol := ⟨28,[],[(4,⟨[0,1,5],[],[],[],[],[],[]⟩)],[],[],[]⟩
noncomputable def pol_laws_eqSheaf:Pol := ⟨36,[],[],[],[],[]⟩
noncomputable def pol_laws_markSheaf:Pol := ⟨23,[],[],[],[],[]⟩
noncomputable def pol_laws_markInt64S:Pol := ⟨21,[],[(2,⟨[0,1,5],[19],[],[],[],[],[]⟩)],[],[],[]⟩
noncomputable def pol_laws_heldInt64S:Pol := ⟨23,[],[(2,⟨[0,1,5],[],[],[],[],[],[]⟩)],[],[],[]⟩
noncomputable def pol_laws_eqInt64SS:Pol := ⟨29,[],[(4,⟨[0,1,5],[],[],[],[],[],[]⟩)],[],[],[]⟩
noncomputable def pol_spec_PrimitiveOf:Pol := ⟨33,[(20,[some 32])],[],[],[],[]⟩
noncomputable def pol_impl_PrimitiveOf:Pol := ⟨35,[(22,[some 34])],[],[],[],[]⟩
noncomputable def pol_spec_IsCoboundary:Pol := ⟨26,[],[],[],[],[]⟩
noncomputable def pol_impl_IsCoboundary:Pol := ⟨24,[],[],[],[],[]⟩
noncomputable def pol_spec_SameClass:Pol := ⟨51,[],[],[],[(1000032,⟨[1,2,3,4,32],[4],[],[],[],[],[]⟩)],[]⟩
noncomputable def pol_impl_SameClass:Pol := ⟨59,[],[],[],[(1000036,⟨[1,2,3,4,36],[4],[],[],[],[],[]⟩)],[]⟩
noncomputable def pol_laws_szComplex:Pol := ⟨14,[],[],[],[],[]⟩
noncomputable def pol_laws_toComplex:Pol := ⟨11,[(6,[some 10])],[],[],[],[]⟩
noncomputable def pol_laws_eqComplex:Pol := ⟨13,[],[],[],[],[]⟩
noncomputable def pol_laws_markComplex:Pol := ⟨12,[],[],[],[],[]⟩
noncomputable def pol_laws_szInt64S:Pol := ⟨14,[],[],[],[],[]⟩
noncomputable def pol_laws_szMatrixS:Pol := ⟨29,[],[(5,⟨[0,1,5],[],[],[],[],[],[]⟩)],[],[],[]⟩
noncomputable def pol_spec_l09Is:Pol := ⟨18,[],[],[],[],[]⟩
noncomputable def pol_laws_toMatrixS:Pol := ⟨25,[(20,[none,none,none,some 24])],[(3,⟨[0,3,4],[7],[],[],[],[],[]⟩)],[],[],[]⟩
noncomputable def pol_laws_eqMatrixS:Pol := ⟨29,[],[(4,⟨[0,1,5],[],[],[],[],[],[]⟩)],[],[],[]⟩
noncomputable def pol_spec_l11Ask:Pol := ⟨13,[],[],[],[],[]⟩
noncomputable def pol_spec_l11Matrix:Pol := ⟨149,[(39,[none,none,none,some 148])],[(4,⟨[0,1,4,5,6,7],[4,5,148],[],[],[],[],[]⟩),(9,⟨[0,1,4,5,6,7,8,9,10],[4,5,148],[],[],[],[],[]⟩),(15,⟨[0,1,4,5,6,7,8,9,10,11,12,13,14],[4,5,148],[],[],[],[],[]⟩),(18,⟨[0,1,4,5,6,7,8,9,10,11,12,13,14,15],[4,5,148],[],[],[],[],[]⟩)],[],[(2,⟨[0,1,4,5],[4,5,148],[],[],[],[],[]⟩),(1000053,⟨[0,1,4,5,6,7,53],[4,5,148],[],[],[],[],[]⟩)],[]⟩
noncomputable def pol_impl_graded:Pol := ⟨18,[],[],[],[],[]⟩
noncomputable def pol_impl_coboundaryMatrix:Pol := ⟨103,[(24,[none,none,none,some 102])],[(3,⟨[1,2,4,5,29,30,31],[2,4,5,102],[],[],[],[],[]⟩),(7,⟨[1,2,4,5,7,29,30,31,40,41,42],[2,4,5,102],[],[],[],[],[]⟩),(12,⟨[1,2,4,5,7,8,10,11,12,29,30,31,40,41,42,58,59],[2,4,5,10,102],[],[],[],[],[]⟩),(15,⟨[1,2,4,5,7,8,10,11,12,13,29,30,31,40,41,42,58,59,63,64],[2,4,5,10,102],[],[],[],[],[]⟩)],[],[(2,⟨[1,2,4,5],[2,4,5,102],[],[],[],[],[]⟩),(22,⟨[4,5],[4,5,102],[],[],[],[],[]⟩)],[]⟩
noncomputable def pol_impl_IsSheaf:Pol := ⟨21,[],[],[],[],[]⟩
noncomputable def pol_spec_l11Cochain:Pol := ⟨33,[],[],[],[],[]⟩
noncomputable def pol_spec_l11Primitive:Pol := ⟨21,[(14,[some 20])],[],[],[],[]⟩
noncomputable def pol_impl_withCochain:Pol := ⟨28,[],[],[],[],[]⟩
noncomputable def pol_impl_primitive:Pol := ⟨23,[(13,[some 22])],[],[],[],[]⟩
noncomputable def pol_spec_l11Cocycle:Pol := ⟨17,[],[],[],[],[]⟩
noncomputable def pol_spec_l07Less:Pol := ⟨34,[],[(3,⟨[0,1,2,7,8],[9],[],[],[],[],[]⟩)],[],[],[]⟩
noncomputable def pol_impl_isCocycle:Pol := ⟨19,[],[],[],[],[]⟩
noncomputable def pol_impl_addTimes:Pol := ⟨38,[],[(3,⟨[0,1,2,3,9,12,13],[31],[(9,31,yI,true)],[],[],[],[]⟩)],[],[],[]⟩
noncomputable def pol_impl_rowsOf:Pol := ⟨24,[(14,[some 23])],[(3,⟨[1,3,6,7],[1,16],[(3,16,yL,true)],[],[],[],[]⟩)],[],[],[]⟩
noncomputable def pol_spec_l03Solve:Pol := ⟨72,[],[(6,⟨[0,7,8,9,11,12],[7,8,34],[],[],[],[],[]⟩)],[],[],[]⟩
noncomputable def pol_spec_l00Own:Pol := ⟨7,[],[],[],[],[]⟩
noncomputable def pol_impl_solve:Pol := ⟨78,[(14,[some 76]),(25,[some 77])],[(3,⟨[1,2,6,16,17],[2,76],[],[],[],[],[]⟩),(10,⟨[2,6,10,47,48,49],[2,46,76],[],[],[],[],[]⟩)],[],[],[]⟩
noncomputable def pol_slices_Concat_Sint64_int64:Pol := ⟨38,[(24,[some 37])],[(3,⟨[0,3,9,10,11],[],[],[],[],[],[]⟩),(11,⟨[6,25,26,27],[37],[],[],[],[],[]⟩)],[],[],[]⟩
noncomputable def pol_impl_stalkSum:Pol := ⟨31,[],[(3,⟨[2,5,11,12,13],[2],[],[],[],[],[]⟩)],[],[],[]⟩
noncomputable def pol_spec_l00In:Pol := ⟨18,[],[],[],[],[]⟩
noncomputable def pol_spec_l05Of:Pol := ⟨35,[],[(3,⟨[0,1,5,6],[7],[],[],[],[],[]⟩)],[],[],[]⟩
noncomputable def pol_impl_size_int64:Pol := ⟨6,[],[],[],[],[]⟩
noncomputable def pol_laws_szInt64SS:Pol := ⟨29,[],[(5,⟨[0,1,5],[],[],[],[],[],[]⟩)],[],[],[]⟩
noncomputable def pol_laws_toInt64SS:Pol := ⟨25,[(20,[some 24])],[(3,⟨[0,3,4],[7],[],[],[],[],[]⟩)],[],[],[]⟩
noncomputable def pol_laws_szMatrix:Pol := ⟨17,[],[],[],[],[]⟩
noncomputable def pol_spec_l09Ok:Pol := ⟨93,[],[(4,⟨[0,3],[],[],[],[],[],[]⟩),(7,⟨[0,3,4],[],[],[],[],[],[]⟩)],[],[(1000040,⟨[0,40],[],[],[],[],[],[]⟩),(1000073,⟨[0,3,4,73],[],[],[],[],[],[]⟩)],[]⟩
noncomputable def pol_spec_l09Wrong:Pol := ⟨62,[],[(2,⟨[0,5],[],[],[],[],[],[]⟩),(6,⟨[0,5,6,7],[],[],[],[],[],[]⟩),(9,⟨[0,5,6,7,8],[],[],[],[],[],[]⟩)],[],[(1000036,⟨[0,5,6,7,36],[],[],[],[],[],[]⟩)],[]⟩
noncomputable def pol_spec_l00Rises:Pol := ⟨41,[],[(2,⟨[0,1,2,7],[],[],[],[],[],[]⟩)],[],[(1000037,⟨[0,1,2,7,37],[],[],[],[],[],[]⟩)],[]⟩
noncomputable def pol_spec_l03Apply:Pol := ⟨59,[],[(3,⟨[0,1,5,6],[9],[],[],[],[],[]⟩),(7,⟨[0,1,5,6,7,8],[9],[],[],[],[],[]⟩)],[],[],[]⟩
noncomputable def pol_laws_toMatrix:Pol := ⟨23,[(15,[some 22])],[],[],[],[]⟩
noncomputable def pol_impl_isVector:Pol := ⟨19,[],[],[],[],[]⟩
noncomputable def pol_impl_isZero:Pol := ⟨7,[],[],[],[],[]⟩
noncomputable def pol_impl_apply:Pol := ⟨29,[],[(3,⟨[1,2,5,8,9],[2,21],[(5,21,yI,true)],[],[],[],[]⟩)],[],[],[]⟩
noncomputable def pol_laws_eqMatrix:Pol := ⟨34,[],[],[],[],[]⟩
noncomputable def pol_spec_l05Dimension:Pol := ⟨6,[],[],[],[],[]⟩
noncomputable def pol_spec_l03Zero:Pol := ⟨18,[],[],[],[],[]⟩
noncomputable def pol_spec_l09Sum:Pol := ⟨32,[],[(4,⟨[1,7,8,9],[],[],[],[],[],[]⟩)],[],[],[]⟩
noncomputable def pol_spec_l05Faces:Pol := ⟨38,[],[(4,⟨[0,5,6,7],[15],[],[],[],[],[]⟩)],[],[(1000024,⟨[0,5,6,7,24],[15],[],[],[],[],[]⟩)],[]⟩
noncomputable def pol_spec_l11At:Pol := ⟨43,[],[(3,⟨[0,1,5,6],[],[],[],[],[],[]⟩)],[],[],[]⟩
noncomputable def pol_spec_l09Get:Pol := ⟨21,[],[],[],[],[]⟩
noncomputable def pol_spec_l07Sign:Pol := ⟨14,[],[],[],[],[]⟩
noncomputable def pol_spec_l03Reduced:Pol := ⟨248,[(37,[some 247])],[(8,⟨[0,2,5,6,7,8,9,10,11],[2,5,47,247],[],[],[],[],[]⟩),(11,⟨[0,2,5,6,7,8,9,10,11,12],[2,5,47,247],[],[],[],[],[]⟩),(17,⟨[0,2,5,6,7,8,9,10,11,12,13],[2,5,47,247],[],[],[],[],[]⟩),(26,⟨[0,2,5,6,7,8,9,10,11,16,17],[2,5,47,247],[],[],[],[],[]⟩),(30,⟨[0,2,5,6,7,8,9,10,11,18],[2,5,47,247],[],[],[],[],[]⟩),(35,⟨[0,2,5,6,7,8,9,10,11,18,19,20],[2,5,47,247],[],[],[],[],[]⟩)],[],[(2,⟨[0,2,5],[2,5,247],[],[],[],[],[]⟩),(22,⟨[0,2,5,6,7,8,9,10,11],[2,5,47,247],[],[],[],[],[]⟩),(1000058,⟨[0,2,5,6,7,8,9,10,11,58],[2,5,47,247],[],[],[],[],[]⟩),(1000079,⟨[0,2,5,6,7,8,9,10,11,12,79],[2,5,47,247],[],[],[],[],[]⟩),(1000200,⟨[0,2,5,6,7,8,9,10,11,18,19,200],[2,5,47,247],[],[],[],[],[]⟩)],[]⟩
noncomputable def pol_spec_l03Mod:Pol := ⟨14,[],[],[],[],[]⟩
noncomputable def pol_impl_isDimension:Pol := ⟨6,[],[],[],[],[]⟩
noncomputable def pol_impl_eliminate:Pol := ⟨125,[(77,[some 123]),(110,[some 124])],[(4,⟨[0,1,2,8,9,16,17],[116,120],[(8,116,yI,true)],[],[],[],[]⟩),(17,⟨[0,1,2,8,9,10,11,16,17,79,80,81],[10,116,120],[],[],[],[],[]⟩)],[],[(13,⟨[0,1,2,8,9,10,11,16,17],[10,116,120],[],[],[],[],[]⟩),(16,⟨[0,1,2,8,9,10,11,16,17],[10,116,120],[],[],[],[],[]⟩),(1000095,⟨[0,1,2,8,9,10,11,14,15,16,17,79,80,81,95],[10,116,120],[],[],[],[],[]⟩)],[]⟩
noncomputable def pol_impl_reduce:Pol := ⟨14,[],[],[],[],[]⟩
noncomputable def pol_impl_zero:Pol := ⟨15,[(10,[none,none,none,some 14])],[],[],[],[]⟩
noncomputable def pol_impl_simplicesOf:Pol := ⟨29,[],[(3,⟨[1,5,9,10,11],[24],[(5,24,yI,true)],[],[],[],[]⟩)],[],[],[]⟩
noncomputable def pol_impl_faceIndices:Pol := ⟨29,[],[(3,⟨[2,5,13,14,15],[2,24],[(5,24,yI,true)],[],[],[],[]⟩)],[],[],[]⟩
noncomputable def pol_impl_direct:Pol := ⟨22,[],[],[],[],[]⟩
noncomputable def pol_impl_firstColumn:Pol := ⟨41,[],[(3,⟨[1,2,5,18,19,20],[2],[],[],[],[],[]⟩)],[],[],[]⟩
noncomputable def pol_impl_Matrix_at:Pol := ⟨23,[],[],[],[],[]⟩
noncomputable def pol_impl_alternating:Pol := ⟨12,[],[],[],[],[]⟩
noncomputable def pol_impl_ValidSheaf:Pol := ⟨73,[],[(5,⟨[1,3,27,28,29],[1],[],[],[],[],[]⟩)],[],[(1000023,⟨[1,23],[1],[],[],[],[],[]⟩),(1000061,⟨[1,3,27,28,29,61],[1],[],[],[],[],[]⟩)],[]⟩
noncomputable def pol_impl_wrongSquare:Pol := ⟨90,[],[(2,⟨[1,15,16,17],[1],[],[],[],[],[]⟩),(8,⟨[1,6,7,8,15,16,17,31,32],[1],[],[],[],[],[]⟩),(11,⟨[1,6,7,8,9,10,15,16,17,31,32],[1],[],[],[],[],[]⟩)],[],[(14,⟨[1,6,7,8,9,10,11,15,16,17,31,32],[1,11],[],[],[],[],[]⟩),(15,⟨[1,6,7,8,9,10,11,12,15,16,17,31,32],[1,11,12],[],[],[],[],[]⟩)],[]⟩
noncomputable def pol_spec_l03Column:Pol := ⟨29,[],[(2,⟨[0,1,2,7],[],[],[],[],[],[]⟩)],[],[],[]⟩
noncomputable def pol_spec_l07Null:Pol := ⟨16,[],[(2,⟨[0,3],[],[],[],[],[],[]⟩)],[],[],[]⟩
noncomputable def pol_impl_size_Sint64:Pol := ⟨6,[],[],[],[],[]⟩
noncomputable def pol_spec_l03Times:Pol := ⟨99,[(22,[none,none,none,some 98])],[(3,⟨[0,1,4,5,6],[4,5,98],[],[],[],[],[]⟩),(6,⟨[0,1,4,5,6,7],[4,5,98],[],[],[],[],[]⟩),(10,⟨[0,1,4,5,6,7,8,9],[4,5,98],[],[],[],[],[]⟩)],[],[(2,⟨[0,1,4,5],[4,5,98],[],[],[],[],[]⟩)],[]⟩
noncomputable def pol_slices_ContainsFunc_Sint64_int64:Pol := ⟨11,[],[],[],[],[]⟩
noncomputable def pol_slices_Clone_Sint64_int64:Pol := ⟨9,[],[],[],[(1000004,⟨[0,4],[],[],[],[],[],[]⟩)],[]⟩
noncomputable def pol_impl_Matrix_row:Pol := ⟨22,[],[],[],[],[]⟩
noncomputable def pol_slices_IndexFunc_Sint64_int64:Pol := ⟨21,[],[(2,⟨[0,1,7,8],[],[],[],[],[],[]⟩)],[],[],[]⟩
noncomputable def pol_impl_product:Pol := ⟨25,[(15,[none,none,none,some 24])],[],[],[],[]⟩
noncomputable def pol_spec_l03Join:Pol := ⟨81,[],[(3,⟨[0,1,4,5,6],[4,5,24],[],[],[],[],[]⟩)],[],[(2,⟨[0,1,4,5],[4,5,24],[],[],[],[],[]⟩)],[]⟩
noncomputable def pol_impl_within:Pol := ⟨18,[],[],[],[],[]⟩
noncomputable def pol_spec_l05Ok:Pol := ⟨66,[],[(4,⟨[0,3],[],[],[],[],[],[]⟩),(10,⟨[0,3,4,5],[],[],[],[],[],[]⟩)],[],[(1000047,⟨[0,3,4,47],[],[],[],[],[],[]⟩),(1000056,⟨[0,3,4,5,56],[],[],[],[],[],[]⟩)],[]⟩
noncomputable def pol_spec_ValidPrime:Pol := ⟨6,[],[],[],[],[]⟩
noncomputable def pol_impl_ValidComplex:Pol := ⟨41,[],[(2,⟨[1,6,7,8],[1],[],[],[1],[],[]⟩)],[],[(1000030,⟨[1,3,4,6,7,8,30],[1,3],[],[],[],[],[]⟩)],[]⟩
noncomputable def pol_impl_ValidPrime:Pol := ⟨19,[],[(4,⟨[0,3],[],[],[],[],[],[]⟩)],[],[],[]⟩
noncomputable def pol_spec_l09Stalks:Pol := ⟨25,[],[(4,⟨[0,1,5],[],[],[],[],[],[]⟩)],[],[],[]⟩
noncomputable def pol_spec_l09Count:Pol := ⟨11,[],[],[],[],[]⟩
noncomputable def pol_spec_l09Map:Pol := ⟨63,[],[],[],[],[]⟩
noncomputable def pol_spec_l09Place:Pol := ⟨39,[],[(3,⟨[0,1,2,7,8],[],[],[],[],[],[]⟩)],[],[],[]⟩
noncomputable def pol_spec_l09Two:Pol := ⟨37,[(31,[none,none,none,some 36])],[],[],[(4,⟨[0,1,2,3,8,9],[8],[],[],[],[],[]⟩)],[]⟩
noncomputable def pol_spec_l03Same:Pol := ⟨76,[],[(4,⟨[0,1,5],[],[],[],[],[],[]⟩)],[],[(1000049,⟨[0,1,49],[],[],[],[],[],[]⟩)],[]⟩
noncomputable def pol_spec_l05Find:Pol := ⟨27,[],[(2,⟨[0,1,5],[],[],[],[],[],[]⟩)],[],[],[]⟩
noncomputable def pol_impl_isRising:Pol := ⟨21,[],[(2,⟨[0,3],[],[],[],[],[],[]⟩)],[],[],[]⟩
noncomputable def pol_impl_areElements:Pol := ⟨11,[],[],[],[],[]⟩
noncomputable def pol_impl_isZero_1:Pol := ⟨6,[],[],[],[],[]⟩
noncomputable def pol_impl_dot:Pol := ⟨32,[],[(3,⟨[0,1,2,7,10,11],[],[],[],[],[],[]⟩)],[],[],[]⟩
noncomputable def pol_spec_l05Drop:Pol := ⟨19,[(9,[some 18])],[],[],[],[]⟩
noncomputable def pol_spec_l03Inverse:Pol := ⟨21,[],[(3,⟨[0,1,5,6],[],[],[],[],[],[]⟩)],[],[],[]⟩
noncomputable def pol_slices_IndexFunc_SSint64_Sint64:Pol := ⟨21,[],[(2,⟨[0,1,7,8],[],[],[],[],[],[]⟩)],[],[],[]⟩
noncomputable def pol_impl_eliminate_1:Pol := ⟨11,[],[],[],[],[]⟩
noncomputable def pol_impl_inverseOf:Pol := ⟨12,[],[],[],[],[]⟩
noncomputable def pol_impl_filled:Pol := ⟨40,[],[(3,⟨[2,3,8,9,16,17],[8,9,31],[],[(9,3,31,yI,true)],[],[],[]⟩),(6,⟨[2,3,8,9,10,16,17,20,21],[8,9,31],[],[(9,3,31,yI,true)],[],[],[]⟩)],[],[],[]⟩
noncomputable def pol_impl_zero_1:Pol := ⟨7,[],[],[],[],[]⟩
noncomputable def pol_impl_facesOf:Pol := ⟨29,[(22,[some 28])],[(3,⟨[0,3,6,7],[24],[(3,24,yL,true)],[],[],[],[]⟩)],[],[],[]⟩
noncomputable def pol_impl_indexOf:Pol := ⟨19,[],[],[],[],[]⟩
noncomputable def pol_impl_firstMap:Pol := ⟨32,[],[(3,⟨[5,12,13,14],[],[],[],[],[],[]⟩)],[],[],[]⟩
noncomputable def pol_impl_areStalks:Pol := ⟨28,[],[(4,⟨[1,2,16],[2],[],[],[],[],[]⟩)],[],[(1000015,⟨[1,2,15],[2],[],[],[],[],[]⟩)],[]⟩
noncomputable def pol_impl_arrows:Pol := ⟨33,[],[(3,⟨[1,3,9,10],[1,28],[(3,28,(.st (.cons yI (.cons yI (.cons yI .nil)))),true)],[],[],[],[]⟩),(6,⟨[1,3,4,9,10,15,16,17],[1,28],[(3,28,(.st (.cons yI (.cons yI (.cons yI .nil)))),true)],[],[],[],[]⟩)],[],[],[]⟩
noncomputable def pol_impl_isBetween:Pol := ⟨36,[],[],[],[],[]⟩
noncomputable def pol_impl_SameMatrix:Pol := ⟨39,[],[],[],[],[]⟩
noncomputable def pol_impl_columnsOf:Pol := ⟨11,[(5,[some 10])],[],[],[],[]⟩
noncomputable def pol_impl_product_1:Pol := ⟨21,[],[],[],[],[]⟩
noncomputable def pol_spec_l05Simplex:Pol := ⟨11,[],[],[],[],[]⟩
noncomputable def pol_spec_l05Before:Pol := ⟨42,[],[(4,⟨[0,1,5],[],[],[],[],[],[]⟩)],[],[],[]⟩
noncomputable def pol_spec_l02Prime:Pol := ⟨19,[],[(4,⟨[0,3],[],[],[],[],[],[]⟩)],[],[],[]⟩
noncomputable def pol_impl_ValidSimplex:Pol := ⟨21,[],[],[],[],[]⟩
noncomputable def pol_impl_compareSimplices:Pol := ⟨17,[],[],[],[],[]⟩
noncomputable def pol_slices_ContainsFunc_SSint64_Sint64:Pol := ⟨11,[],[],[],[],[]⟩
noncomputable def pol_impl_ValidComplex_1:Pol := ⟨16,[],[],[],[],[]⟩
noncomputable def pol_spec_l03Ok:Pol := ⟨43,[],[],[],[],[]⟩
noncomputable def pol_spec_l00Same:Pol := ⟨28,[],[(4,⟨[0,1,5],[],[],[],[],[],[]⟩)],[],[],[]⟩
noncomputable def pol_impl_areElements_1:Pol := ⟨10,[],[],[],[],[]⟩
noncomputable def pol_impl_isElement:Pol := ⟨11,[],[],[],[],[]⟩
noncomputable def pol_impl_powerOf:Pol := ⟨29,[],[(2,⟨[0,1,2,7],[],[],[],[],[],[]⟩)],[],[],[]⟩
noncomputable def pol_slices_BinarySearchFunc_SSint64_Sint64_Sint64:Pol := ⟨52,[],[(3,⟨[0,1,2,8,9,10],[],[],[],[],[],[]⟩)],[],[],[]⟩
noncomputable def pol_impl_areStalks_1:Pol := ⟨7,[],[],[],[],[]⟩
noncomputable def pol_impl_ValidMatrix:Pol := ⟨38,[],[],[],[],[]⟩
noncomputable def pol_slices_Equal_Sint64_int64:Pol := ⟨28,[],[(4,⟨[0,1,12,13],[],[],[],[],[],[]⟩)],[],[],[]⟩
noncomputable def pol_impl_transpose:Pol := ⟨16,[(10,[none,none,none,some 15])],[],[],[],[]⟩
noncomputable def pol_impl_ValidSimplex_1:Pol := ⟨7,[],[],[],[],[]⟩
noncomputable def pol_impl_isVertex:Pol := ⟨6,[],[],[],[],[]⟩
noncomputable def pol_cmp_Or_int:Pol := ⟨19,[],[(3,⟨[3,6,7,8],[],[],[],[],[],[]⟩)],[],[],[]⟩
noncomputable def pol_cmp_Compare_int:Pol := ⟨22,[],[],[],[],[]⟩
noncomputable def pol_slices_Compare_Sint64_int64:Pol := ⟨38,[],[(2,⟨[0,1,9,10,11],[],[],[],[],[],[]⟩)],[],[],[]⟩
noncomputable def pol_impl_isSide:Pol := ⟨6,[],[],[],[],[]⟩
noncomputable def pol_impl_transpose_1:Pol := ⟨13,[],[],[],[],[]⟩
noncomputable def pol_cmp_isNaN_int:Pol := ⟨7,[],[],[],[],[]⟩
noncomputable def pol_cmp_Compare_int64:Pol := ⟨22,[],[],[],[],[]⟩
noncomputable def pol_cmp_isNaN_int64:Pol := ⟨7,[],[],[],[],[]⟩
noncomputable def sigL:List (Option Sig) := [none,none,none,none,none,none,some sg_laws_FnExactPrimitiveOf,some sg_laws_FnExactIsCoboundary,some sg_laws_FnExactSameClass,none,none,none,none,none,none,some sg_laws_szSheaf,none,some sg_laws_toSheaf,some sg_laws_toInt64S,none,some sg_laws_eqInt64S,some sg_laws_eqSheaf,some sg_laws_markSheaf,some sg_laws_markInt64S,some sg_laws_heldInt64S,none,none,some sg_laws_eqInt64SS,some sg_laws_markInt64SS,none,none,none,some sg_spec_PrimitiveOf,some sg_impl_PrimitiveOf,some sg_spec_IsCoboundary,some sg_impl_IsCoboundary,some sg_spec_SameClass,some sg_impl_SameClass,none,none,none,none,none,none,none,none,none,none,some sg_laws_szComplex,none,some sg_laws_toComplex,none,some sg_laws_eqComplex,some sg_laws_markComplex,some sg_laws_szInt64S,some sg_laws_szMatrixS,some sg_spec_l09Is,none,none,none,some sg_laws_toMatrixS,none,none,none,some sg_laws_eqMatrixS,some sg_laws_markMatrixS,some sg_spec_l11Ask,some sg_spec_l11Matrix,none,some sg_impl_graded,none,some sg_impl_coboundaryMatrix,none,none,none,some sg_impl_IsSheaf,some sg_spec_l11Cochain,some sg_spec_l11Primitive,some sg_impl_withCochain,some sg_impl_primitive,some sg_spec_l11Cocycle,some sg_spec_l07Less,some sg_impl_isCocycle,some sg_impl_addTimes,none,none,none,none,none,none,none,none,none,none,some sg_impl_rowsOf,none,none,none,none,none,some sg_spec_l03Solve,some sg_spec_l00Own,none,some sg_impl_solve,none,some sg_slices_Concat_Sint64_int64,some sg_impl_stalkSum,some sg_spec_l00In,some sg_spec_l05Of,none,none,some sg_impl_size_int64,none,none,none,none,none,none,some sg_laws_szInt64SS,none,none,some sg_laws_toInt64SS,none,none,some sg_laws_szMatrix,some sg_spec_l09Ok,some sg_spec_l09Wrong,some sg_spec_l00Rises,none,none,none,none,some sg_spec_l03Apply,some sg_laws_toMatrix,none,some sg_impl_isVector,some sg_impl_isZero,some sg_impl_apply,none,some sg_laws_eqMatrix,some sg_spec_l05Dimension,some sg_spec_l03Zero,some sg_spec_l09Sum,some sg_spec_l05Faces,some sg_spec_l11At,some sg_spec_l09Get,some sg_spec_l07Sign,some sg_spec_l03Reduced,none,some sg_spec_l03Mod,some sg_impl_isDimension,some sg_impl_eliminate,none,some sg_impl_reduce,some sg_impl_zero,some sg_impl_simplicesOf,some sg_impl_faceIndices,some sg_impl_direct,some sg_impl_firstColumn,some sg_impl_Matrix_at,some sg_impl_alternating,some sg_impl_ValidSheaf,some sg_impl_wrongSquare,some sg_spec_l03Column,some sg_spec_l07Null,some sg_impl_size_Sint64,some sg_spec_l03Times,none,some sg_slices_ContainsFunc_Sint64_int64,none,some sg_slices_Clone_Sint64_int64,some sg_impl_Matrix_row,none,some sg_slices_IndexFunc_Sint64_int64,none,some sg_impl_product,none,some sg_spec_l03Join,none,some sg_slices_Grow_Sint64_int64,some sg_impl_within,none,none,none,some sg_spec_l05Ok,some sg_spec_ValidPrime,none,some sg_impl_ValidComplex,some sg_impl_ValidPrime,none,none,some sg_spec_l09Stalks,some sg_spec_l09Count,some sg_spec_l09Map,some sg_spec_l09Place,some sg_spec_l09Two,some sg_spec_l03Same,none,some sg_spec_l05Find,some sg_impl_isRising,some sg_impl_areElements,some sg_impl_isZero_1,some sg_impl_dot,none,some sg_spec_l05Drop,some sg_spec_l03Inverse,some sg_slices_IndexFunc_SSint64_Sint64,some sg_impl_eliminate_1,some sg_impl_inverseOf,none,some sg_impl_filled,some sg_impl_zero_1,some sg_impl_facesOf,some sg_impl_indexOf,some sg_impl_firstMap,some sg_impl_areStalks,some sg_impl_arrows,some sg_impl_isBetween,some sg_impl_SameMatrix,none,some sg_impl_columnsOf,some sg_impl_product_1,none,none,none,none,none,some sg_spec_l05Simplex,some sg_spec_l05Before,some sg_spec_l02Prime,some sg_impl_ValidSimplex,some sg_impl_compareSimplices,some sg_slices_ContainsFunc_SSint64_Sint64,some sg_impl_ValidComplex_1,some sg_spec_l03Ok,some sg_spec_l00Same,some sg_impl_areElements_1,some sg_impl_isElement,some sg_impl_powerOf,some sg_slices_BinarySearchFunc_SSint64_Sint64_Sint64,some sg_impl_areStalks_1,some sg_impl_ValidMatrix,some sg_slices_Equal_Sint64_int64,some sg_impl_transpose,none,some sg_impl_ValidSimplex_1,some sg_impl_isVertex,some sg_cmp_Or_int,some sg_cmp_Compare_int,some sg_slices_Compare_Sint64_int64,some sg_impl_isSide,some sg_impl_transpose_1,none,some sg_cmp_isNaN_int,some sg_cmp_Compare_int64,none,some sg_cmp_isNaN_int64,none,none,none,none,none,none,none,none,none,none,none,none,none,none,none,none]
noncomputable def fnL:List (Option (Func × Pol)) := [none,none,none,none,none,none,some (F_laws_FnExactPrimitiveOf,pol_laws_FnExactPrimitiveOf),some (F_laws_FnExactIsCoboundary,pol_laws_FnExactIsCoboundary),some (F_laws_FnExactSameClass,pol_laws_FnExactSameClass),none,none,none,none,none,none,some (F_laws_szSheaf,pol_laws_szSheaf),none,some (F_laws_toSheaf,pol_laws_toSheaf),some (F_laws_toInt64S,pol_laws_toInt64S),none,some (F_laws_eqInt64S,pol_laws_eqInt64S),some (F_laws_eqSheaf,pol_laws_eqSheaf),some (F_laws_markSheaf,pol_laws_markSheaf),some (F_laws_markInt64S,pol_laws_markInt64S),some (F_laws_heldInt64S,pol_laws_heldInt64S),none,none,some (F_laws_eqInt64SS,pol_laws_eqInt64SS),none,none,none,none,some (F_spec_PrimitiveOf,pol_spec_PrimitiveOf),some (F_impl_PrimitiveOf,pol_impl_PrimitiveOf),some (F_spec_IsCoboundary,pol_spec_IsCoboundary),some (F_impl_IsCoboundary,pol_impl_IsCoboundary),some (F_spec_SameClass,pol_spec_SameClass),some (F_impl_SameClass,pol_impl_SameClass),none,none,none,none,none,none,none,none,none,none,some (F_laws_szComplex,pol_laws_szComplex),none,some (F_laws_toComplex,pol_laws_toComplex),none,some (F_laws_eqComplex,pol_laws_eqComplex),some (F_laws_markComplex,pol_laws_markComplex),some (F_laws_szInt64S,pol_laws_szInt64S),some (F_laws_szMatrixS,pol_laws_szMatrixS),some (F_spec_l09Is,pol_spec_l09Is),none,none,none,some (F_laws_toMatrixS,pol_laws_toMatrixS),none,none,none,some (F_laws_eqMatrixS,pol_laws_eqMatrixS),none,some (F_spec_l11Ask,pol_spec_l11Ask),some (F_spec_l11Matrix,pol_spec_l11Matrix),none,some (F_impl_graded,pol_impl_graded),none,some (F_impl_coboundaryMatrix,pol_impl_coboundaryMatrix),none,none,none,some (F_impl_IsSheaf,pol_impl_IsSheaf),some (F_spec_l11Cochain,pol_spec_l11Cochain),some (F_spec_l11Primitive,pol_spec_l11Primitive),some (F_impl_withCochain,pol_impl_withCochain),some (F_impl_primitive,pol_impl_primitive),some (F_spec_l11Cocycle,pol_spec_l11Cocycle),some (F_spec_l07Less,pol_spec_l07Less),some (F_impl_isCocycle,pol_impl_isCocycle),some (F_impl_addTimes,pol_impl_addTimes),none,none,none,none,none,none,none,none,none,none,some (F_impl_rowsOf,pol_impl_rowsOf),none,none,none,none,none,some (F_spec_l03Solve,pol_spec_l03Solve),some (F_spec_l00Own,pol_spec_l00Own),none,some (F_impl_solve,pol_impl_solve),none,some (F_slices_Concat_Sint64_int64,pol_slices_Concat_Sint64_int64),some (F_impl_stalkSum,pol_impl_stalkSum),some (F_spec_l00In,pol_spec_l00In),some (F_spec_l05Of,pol_spec_l05Of),none,none,some (F_impl_size_int64,pol_impl_size_int64),none,none,none,none,none,none,some (F_laws_szInt64SS,pol_laws_szInt64SS),none,none,some (F_laws_toInt64SS,pol_laws_toInt64SS),none,none,some (F_laws_szMatrix,pol_laws_szMatrix),some (F_spec_l09Ok,pol_spec_l09Ok),some (F_spec_l09Wrong,pol_spec_l09Wrong),some (F_spec_l00Rises,pol_spec_l00Rises),none,none,none,none,some (F_spec_l03Apply,pol_spec_l03Apply),some (F_laws_toMatrix,pol_laws_toMatrix),none,some (F_impl_isVector,pol_impl_isVector),some (F_impl_isZero,pol_impl_isZero),some (F_impl_apply,pol_impl_apply),none,some (F_laws_eqMatrix,pol_laws_eqMatrix),some (F_spec_l05Dimension,pol_spec_l05Dimension),some (F_spec_l03Zero,pol_spec_l03Zero),some (F_spec_l09Sum,pol_spec_l09Sum),some (F_spec_l05Faces,pol_spec_l05Faces),some (F_spec_l11At,pol_spec_l11At),some (F_spec_l09Get,pol_spec_l09Get),some (F_spec_l07Sign,pol_spec_l07Sign),some (F_spec_l03Reduced,pol_spec_l03Reduced),none,some (F_spec_l03Mod,pol_spec_l03Mod),some (F_impl_isDimension,pol_impl_isDimension),some (F_impl_eliminate,pol_impl_eliminate),none,some (F_impl_reduce,pol_impl_reduce),some (F_impl_zero,pol_impl_zero),some (F_impl_simplicesOf,pol_impl_simplicesOf),some (F_impl_faceIndices,pol_impl_faceIndices),some (F_impl_direct,pol_impl_direct),some (F_impl_firstColumn,pol_impl_firstColumn),some (F_impl_Matrix_at,pol_impl_Matrix_at),some (F_impl_alternating,pol_impl_alternating),some (F_impl_ValidSheaf,pol_impl_ValidSheaf),some (F_impl_wrongSquare,pol_impl_wrongSquare),some (F_spec_l03Column,pol_spec_l03Column),some (F_spec_l07Null,pol_spec_l07Null),some (F_impl_size_Sint64,pol_impl_size_Sint64),some (F_spec_l03Times,pol_spec_l03Times),none,some (F_slices_ContainsFunc_Sint64_int64,pol_slices_ContainsFunc_Sint64_int64),none,some (F_slices_Clone_Sint64_int64,pol_slices_Clone_Sint64_int64),some (F_impl_Matrix_row,pol_impl_Matrix_row),none,some (F_slices_IndexFunc_Sint64_int64,pol_slices_IndexFunc_Sint64_int64),none,some (F_impl_product,pol_impl_product),none,some (F_spec_l03Join,pol_spec_l03Join),none,none,some (F_impl_within,pol_impl_within),none,none,none,some (F_spec_l05Ok,pol_spec_l05Ok),some (F_spec_ValidPrime,pol_spec_ValidPrime),none,some (F_impl_ValidComplex,pol_impl_ValidComplex),some (F_impl_ValidPrime,pol_impl_ValidPrime),none,none,some (F_spec_l09Stalks,pol_spec_l09Stalks),some (F_spec_l09Count,pol_spec_l09Count),some (F_spec_l09Map,pol_spec_l09Map),some (F_spec_l09Place,pol_spec_l09Place),some (F_spec_l09Two,pol_spec_l09Two),some (F_spec_l03Same,pol_spec_l03Same),none,some (F_spec_l05Find,pol_spec_l05Find),some (F_impl_isRising,pol_impl_isRising),some (F_impl_areElements,pol_impl_areElements),some (F_impl_isZero_1,pol_impl_isZero_1),some (F_impl_dot,pol_impl_dot),none,some (F_spec_l05Drop,pol_spec_l05Drop),some (F_spec_l03Inverse,pol_spec_l03Inverse),some (F_slices_IndexFunc_SSint64_Sint64,pol_slices_IndexFunc_SSint64_Sint64),some (F_impl_eliminate_1,pol_impl_eliminate_1),some (F_impl_inverseOf,pol_impl_inverseOf),none,some (F_impl_filled,pol_impl_filled),some (F_impl_zero_1,pol_impl_zero_1),some (F_impl_facesOf,pol_impl_facesOf),some (F_impl_indexOf,pol_impl_indexOf),some (F_impl_firstMap,pol_impl_firstMap),some (F_impl_areStalks,pol_impl_areStalks),some (F_impl_arrows,pol_impl_arrows),some (F_impl_isBetween,pol_impl_isBetween),some (F_impl_SameMatrix,pol_impl_SameMatrix),none,some (F_impl_columnsOf,pol_impl_columnsOf),some (F_impl_product_1,pol_impl_product_1),none,none,none,none,none,some (F_spec_l05Simplex,pol_spec_l05Simplex),some (F_spec_l05Before,pol_spec_l05Before),some (F_spec_l02Prime,pol_spec_l02Prime),some (F_impl_ValidSimplex,pol_impl_ValidSimplex),some (F_impl_compareSimplices,pol_impl_compareSimplices),some (F_slices_ContainsFunc_SSint64_Sint64,pol_slices_ContainsFunc_SSint64_Sint64),some (F_impl_ValidComplex_1,pol_impl_ValidComplex_1),some (F_spec_l03Ok,pol_spec_l03Ok),some (F_spec_l00Same,pol_spec_l00Same),some (F_impl_areElements_1,pol_impl_areElements_1),some (F_impl_isElement,pol_impl_isElement),some (F_impl_powerOf,pol_impl_powerOf),some (F_slices_BinarySearchFunc_SSint64_Sint64_Sint64,pol_slices_BinarySearchFunc_SSint64_Sint64_Sint64),some (F_impl_areStalks_1,pol_impl_areStalks_1),some (F_impl_ValidMatrix,pol_impl_ValidMatrix),some (F_slices_Equal_Sint64_int64,pol_slices_Equal_Sint64_int64),some (F_impl_transpose,pol_impl_transpose),none,some (F_impl_ValidSimplex_1,pol_impl_ValidSimplex_1),some (F_impl_isVertex,pol_impl_isVertex),some (F_cmp_Or_int,pol_cmp_Or_int),some (F_cmp_Compare_int,pol_cmp_Compare_int),some (F_slices_Compare_Sint64_int64,pol_slices_Compare_Sint64_int64),some (F_impl_isSide,pol_impl_isSide),some (F_impl_transpose_1,pol_impl_transpose_1),none,some (F_cmp_isNaN_int,pol_cmp_isNaN_int),some (F_cmp_Compare_int64,pol_cmp_Compare_int64),none,some (F_cmp_isNaN_int64,pol_cmp_isNaN_int64),none,none,none,none,none,none,none,none,none,none,none,none,none,none,none,none]
noncomputable def primL:List (Option (Run → List Dv → Option Dv)) := [none,none,none,none,none,none,none,none,none,none,none,none,none,none,none,none,none,none,none,none,none,none,none,none,none,none,none,none,some (pMarkSS n_laws_markInt64S),none,none,none,none,none,none,none,none,none,none,none,none,none,none,none,none,none,none,none,none,none,none,none,none,none,none,none,none,none,none,none,none,none,none,none,none,some (pMarkMS n_laws_markInt64S),none,none,none,none,none,none,none,none,none,none,none,none,none,none,none,none,none,none,none,none,none,none,none,none,none,none,none,none,none,none,none,none,none,none,none,none,none,none,none,none,none,none,none,none,none,none,none,none,none,none,none,none,none,none,none,none,none,none,none,none,none,none,none,none,none,none,none,none,none,none,none,none,none,none,none,none,none,none,none,none,none,none,none,none,none,none,none,none,none,none,none,none,none,none,none,none,none,none,none,none,none,none,none,none,none,none,none,none,none,none,none,none,none,some (pGrow yI),none,none,none,none,none,none,none,none,none,none,none,none,none,none,none,none,none,none,none,none,none,none,none,none,none,none,none,none,none,none,none,none,none,none,none,none,none,none,none,none,none,none,none,none,none,none,none,none,none,none,none,none,none,none,none,none,none,none,none,none,none,none,none,none,none,none,none,none,none,none,none,none,none,none,none,none,none,none,none,none,none,none,none,none,none,none,none,none,none,none,none,none,none]
noncomputable def E:Env := { P := Tryz.prog,fn := fun f => fnL.getD f none,prim := fun f => primL.getD f none,sig := fun f => sigL.getD f none }
theorem sig_laws_FnExactPrimitiveOf_eq:E.sig n_laws_FnExactPrimitiveOf = some sg_laws_FnExactPrimitiveOf := rfl
theorem run_laws_FnExactPrimitiveOf (n:Nat) (args:List Dv):run E (n + 1) n_laws_FnExactPrimitiveOf args = evFn E (mkR (run E n)) sg_laws_FnExactPrimitiveOf pol_laws_FnExactPrimitiveOf F_laws_FnExactPrimitiveOf n args := rfl
theorem sig_laws_FnExactIsCoboundary_eq:E.sig n_laws_FnExactIsCoboundary = some sg_laws_FnExactIsCoboundary := rfl
theorem run_laws_FnExactIsCoboundary (n:Nat) (args:List Dv):run E (n + 1) n_laws_FnExactIsCoboundary args = evFn E (mkR (run E n)) sg_laws_FnExactIsCoboundary pol_laws_FnExactIsCoboundary F_laws_FnExactIsCoboundary n args := rfl
theorem sig_laws_FnExactSameClass_eq:E.sig n_laws_FnExactSameClass = some sg_laws_FnExactSameClass := rfl
theorem run_laws_FnExactSameClass (n:Nat) (args:List Dv):run E (n + 1) n_laws_FnExactSameClass args = evFn E (mkR (run E n)) sg_laws_FnExactSameClass pol_laws_FnExactSameClass F_laws_FnExactSameClass n args := rfl
theorem sig_laws_szSheaf_eq:E.sig n_laws_szSheaf = some sg_laws_szSheaf := rfl
theorem run_laws_szSheaf (n:Nat) (args:List Dv):run E (n + 1) n_laws_szSheaf args = evFn E (mkR (run E n)) sg_laws_szSheaf pol_laws_szSheaf F_laws_szSheaf n args := rfl
theorem sig_laws_toSheaf_eq:E.sig n_laws_toSheaf = some sg_laws_toSheaf := rfl
theorem run_laws_toSheaf (n:Nat) (args:List Dv):run E (n + 1) n_laws_toSheaf args = evFn E (mkR (run E n)) sg_laws_toSheaf pol_laws_toSheaf F_laws_toSheaf n args := rfl
theorem sig_laws_toInt64S_eq:E.sig n_laws_toInt64S = some sg_laws_toInt64S := rfl
theorem run_laws_toInt64S (n:Nat) (args:List Dv):run E (n + 1) n_laws_toInt64S args = evFn E (mkR (run E n)) sg_laws_toInt64S pol_laws_toInt64S F_laws_toInt64S n args := rfl
theorem sig_laws_eqInt64S_eq:E.sig n_laws_eqInt64S = some sg_laws_eqInt64S := rfl
theorem run_laws_eqInt64S (n:Nat) (args:List Dv):run E (n + 1) n_laws_eqInt64S args = evFn E (mkR (run E n)) sg_laws_eqInt64S pol_laws_eqInt64S F_laws_eqInt64S n args := rfl
theorem sig_laws_eqSheaf_eq:E.sig n_laws_eqSheaf = some sg_laws_eqSheaf := rfl
theorem run_laws_eqSheaf (n:Nat) (args:List Dv):run E (n + 1) n_laws_eqSheaf args = evFn E (mkR (run E n)) sg_laws_eqSheaf pol_laws_eqSheaf F_laws_eqSheaf n args := rfl
theorem sig_laws_markSheaf_eq:E.sig n_laws_markSheaf = some sg_laws_markSheaf := rfl
theorem run_laws_markSheaf (n:Nat) (args:List Dv):run E (n + 1) n_laws_markSheaf args = evFn E (mkR (run E n)) sg_laws_markSheaf pol_laws_markSheaf F_laws_markSheaf n args := rfl
theorem sig_laws_markInt64S_eq:E.sig n_laws_markInt64S = some sg_laws_markInt64S := rfl
theorem run_laws_markInt64S (n:Nat) (args:List Dv):run E (n + 1) n_laws_markInt64S args = evFn E (mkR (run E n)) sg_laws_markInt64S pol_laws_markInt64S F_laws_markInt64S n args := rfl
theorem sig_laws_heldInt64S_eq:E.sig n_laws_heldInt64S = some sg_laws_heldInt64S := rfl
theorem run_laws_heldInt64S (n:Nat) (args:List Dv):run E (n + 1) n_laws_heldInt64S args = evFn E (mkR (run E n)) sg_laws_heldInt64S pol_laws_heldInt64S F_laws_heldInt64S n args := rfl
theorem sig_laws_eqInt64SS_eq:E.sig n_laws_eqInt64SS = some sg_laws_eqInt64SS := rfl
theorem run_laws_eqInt64SS (n:Nat) (args:List Dv):run E (n + 1) n_laws_eqInt64SS args = evFn E (mkR (run E n)) sg_laws_eqInt64SS pol_laws_eqInt64SS F_laws_eqInt64SS n args := rfl
theorem sig_laws_markInt64SS_eq:E.sig n_laws_markInt64SS = some sg_laws_markInt64SS := rfl
theorem sig_spec_PrimitiveOf_eq:E.sig n_spec_PrimitiveOf = some sg_spec_PrimitiveOf := rfl
theorem run_spec_PrimitiveOf (n:Nat) (args:List Dv):run E (n + 1) n_spec_PrimitiveOf args = evFn E (mkR (run E n)) sg_spec_PrimitiveOf pol_spec_PrimitiveOf F_spec_PrimitiveOf n args := rfl
theorem sig_impl_PrimitiveOf_eq:E.sig n_impl_PrimitiveOf = some sg_impl_PrimitiveOf := rfl
theorem run_impl_PrimitiveOf (n:Nat) (args:List Dv):run E (n + 1) n_impl_PrimitiveOf args = evFn E (mkR (run E n)) sg_impl_PrimitiveOf pol_impl_PrimitiveOf F_impl_PrimitiveOf n args := rfl
theorem sig_spec_IsCoboundary_eq:E.sig n_spec_IsCoboundary = some sg_spec_IsCoboundary := rfl
theorem run_spec_IsCoboundary (n:Nat) (args:List Dv):run E (n + 1) n_spec_IsCoboundary args = evFn E (mkR (run E n)) sg_spec_IsCoboundary pol_spec_IsCoboundary F_spec_IsCoboundary n args := rfl
theorem sig_impl_IsCoboundary_eq:E.sig n_impl_IsCoboundary = some sg_impl_IsCoboundary := rfl
theorem run_impl_IsCoboundary (n:Nat) (args:List Dv):run E (n + 1) n_impl_IsCoboundary args = evFn E (mkR (run E n)) sg_impl_IsCoboundary pol_impl_IsCoboundary F_impl_IsCoboundary n args := rfl
theorem sig_spec_SameClass_eq:E.sig n_spec_SameClass = some sg_spec_SameClass := rfl
theorem run_spec_SameClass (n:Nat) (args:List Dv):run E (n + 1) n_spec_SameClass args = evFn E (mkR (run E n)) sg_spec_SameClass pol_spec_SameClass F_spec_SameClass n args := rfl
theorem sig_impl_SameClass_eq:E.sig n_impl_SameClass = some sg_impl_SameClass := rfl
theorem run_impl_SameClass (n:Nat) (args:List Dv):run E (n + 1) n_impl_SameClass args = evFn E (mkR (run E n)) sg_impl_SameClass pol_impl_SameClass F_impl_SameClass n args := rfl
theorem sig_laws_szComplex_eq:E.sig n_laws_szComplex = some sg_laws_szComplex := rfl
theorem run_laws_szComplex (n:Nat) (args:List Dv):run E (n + 1) n_laws_szComplex args = evFn E (mkR (run E n)) sg_laws_szComplex pol_laws_szComplex F_laws_szComplex n args := rfl
theorem sig_laws_toComplex_eq:E.sig n_laws_toComplex = some sg_laws_toComplex := rfl
theorem run_laws_toComplex (n:Nat) (args:List Dv):run E (n + 1) n_laws_toComplex args = evFn E (mkR (run E n)) sg_laws_toComplex pol_laws_toComplex F_laws_toComplex n args := rfl
theorem sig_laws_eqComplex_eq:E.sig n_laws_eqComplex = some sg_laws_eqComplex := rfl
theorem run_laws_eqComplex (n:Nat) (args:List Dv):run E (n + 1) n_laws_eqComplex args = evFn E (mkR (run E n)) sg_laws_eqComplex pol_laws_eqComplex F_laws_eqComplex n args := rfl
theorem sig_laws_markComplex_eq:E.sig n_laws_markComplex = some sg_laws_markComplex := rfl
theorem run_laws_markComplex (n:Nat) (args:List Dv):run E (n + 1) n_laws_markComplex args = evFn E (mkR (run E n)) sg_laws_markComplex pol_laws_markComplex F_laws_markComplex n args := rfl
theorem sig_laws_szInt64S_eq:E.sig n_laws_szInt64S = some sg_laws_szInt64S := rfl
theorem run_laws_szInt64S (n:Nat) (args:List Dv):run E (n + 1) n_laws_szInt64S args = evFn E (mkR (run E n)) sg_laws_szInt64S pol_laws_szInt64S F_laws_szInt64S n args := rfl
theorem sig_laws_szMatrixS_eq:E.sig n_laws_szMatrixS = some sg_laws_szMatrixS := rfl
theorem run_laws_szMatrixS (n:Nat) (args:List Dv):run E (n + 1) n_laws_szMatrixS args = evFn E (mkR (run E n)) sg_laws_szMatrixS pol_laws_szMatrixS F_laws_szMatrixS n args := rfl
theorem sig_spec_l09Is_eq:E.sig n_spec_l09Is = some sg_spec_l09Is := rfl
theorem run_spec_l09Is (n:Nat) (args:List Dv):run E (n + 1) n_spec_l09Is args = evFn E (mkR (run E n)) sg_spec_l09Is pol_spec_l09Is F_spec_l09Is n args := rfl
theorem sig_laws_toMatrixS_eq:E.sig n_laws_toMatrixS = some sg_laws_toMatrixS := rfl
theorem run_laws_toMatrixS (n:Nat) (args:List Dv):run E (n + 1) n_laws_toMatrixS args = evFn E (mkR (run E n)) sg_laws_toMatrixS pol_laws_toMatrixS F_laws_toMatrixS n args := rfl
theorem sig_laws_eqMatrixS_eq:E.sig n_laws_eqMatrixS = some sg_laws_eqMatrixS := rfl
theorem run_laws_eqMatrixS (n:Nat) (args:List Dv):run E (n + 1) n_laws_eqMatrixS args = evFn E (mkR (run E n)) sg_laws_eqMatrixS pol_laws_eqMatrixS F_laws_eqMatrixS n args := rfl
theorem sig_laws_markMatrixS_eq:E.sig n_laws_markMatrixS = some sg_laws_markMatrixS := rfl
theorem sig_spec_l11Ask_eq:E.sig n_spec_l11Ask = some sg_spec_l11Ask := rfl
theorem run_spec_l11Ask (n:Nat) (args:List Dv):run E (n + 1) n_spec_l11Ask args = evFn E (mkR (run E n)) sg_spec_l11Ask pol_spec_l11Ask F_spec_l11Ask n args := rfl
theorem sig_spec_l11Matrix_eq:E.sig n_spec_l11Matrix = some sg_spec_l11Matrix := rfl
theorem run_spec_l11Matrix (n:Nat) (args:List Dv):run E (n + 1) n_spec_l11Matrix args = evFn E (mkR (run E n)) sg_spec_l11Matrix pol_spec_l11Matrix F_spec_l11Matrix n args := rfl
theorem sig_impl_graded_eq:E.sig n_impl_graded = some sg_impl_graded := rfl
theorem run_impl_graded (n:Nat) (args:List Dv):run E (n + 1) n_impl_graded args = evFn E (mkR (run E n)) sg_impl_graded pol_impl_graded F_impl_graded n args := rfl
theorem sig_impl_coboundaryMatrix_eq:E.sig n_impl_coboundaryMatrix = some sg_impl_coboundaryMatrix := rfl
theorem run_impl_coboundaryMatrix (n:Nat) (args:List Dv):run E (n + 1) n_impl_coboundaryMatrix args = evFn E (mkR (run E n)) sg_impl_coboundaryMatrix pol_impl_coboundaryMatrix F_impl_coboundaryMatrix n args := rfl
theorem sig_impl_IsSheaf_eq:E.sig n_impl_IsSheaf = some sg_impl_IsSheaf := rfl
theorem run_impl_IsSheaf (n:Nat) (args:List Dv):run E (n + 1) n_impl_IsSheaf args = evFn E (mkR (run E n)) sg_impl_IsSheaf pol_impl_IsSheaf F_impl_IsSheaf n args := rfl
theorem sig_spec_l11Cochain_eq:E.sig n_spec_l11Cochain = some sg_spec_l11Cochain := rfl
theorem run_spec_l11Cochain (n:Nat) (args:List Dv):run E (n + 1) n_spec_l11Cochain args = evFn E (mkR (run E n)) sg_spec_l11Cochain pol_spec_l11Cochain F_spec_l11Cochain n args := rfl
theorem sig_spec_l11Primitive_eq:E.sig n_spec_l11Primitive = some sg_spec_l11Primitive := rfl
theorem run_spec_l11Primitive (n:Nat) (args:List Dv):run E (n + 1) n_spec_l11Primitive args = evFn E (mkR (run E n)) sg_spec_l11Primitive pol_spec_l11Primitive F_spec_l11Primitive n args := rfl
theorem sig_impl_withCochain_eq:E.sig n_impl_withCochain = some sg_impl_withCochain := rfl
theorem run_impl_withCochain (n:Nat) (args:List Dv):run E (n + 1) n_impl_withCochain args = evFn E (mkR (run E n)) sg_impl_withCochain pol_impl_withCochain F_impl_withCochain n args := rfl
theorem sig_impl_primitive_eq:E.sig n_impl_primitive = some sg_impl_primitive := rfl
theorem run_impl_primitive (n:Nat) (args:List Dv):run E (n + 1) n_impl_primitive args = evFn E (mkR (run E n)) sg_impl_primitive pol_impl_primitive F_impl_primitive n args := rfl
theorem sig_spec_l11Cocycle_eq:E.sig n_spec_l11Cocycle = some sg_spec_l11Cocycle := rfl
theorem run_spec_l11Cocycle (n:Nat) (args:List Dv):run E (n + 1) n_spec_l11Cocycle args = evFn E (mkR (run E n)) sg_spec_l11Cocycle pol_spec_l11Cocycle F_spec_l11Cocycle n args := rfl
theorem sig_spec_l07Less_eq:E.sig n_spec_l07Less = some sg_spec_l07Less := rfl
theorem run_spec_l07Less (n:Nat) (args:List Dv):run E (n + 1) n_spec_l07Less args = evFn E (mkR (run E n)) sg_spec_l07Less pol_spec_l07Less F_spec_l07Less n args := rfl
theorem sig_impl_isCocycle_eq:E.sig n_impl_isCocycle = some sg_impl_isCocycle := rfl
theorem run_impl_isCocycle (n:Nat) (args:List Dv):run E (n + 1) n_impl_isCocycle args = evFn E (mkR (run E n)) sg_impl_isCocycle pol_impl_isCocycle F_impl_isCocycle n args := rfl
theorem sig_impl_addTimes_eq:E.sig n_impl_addTimes = some sg_impl_addTimes := rfl
theorem run_impl_addTimes (n:Nat) (args:List Dv):run E (n + 1) n_impl_addTimes args = evFn E (mkR (run E n)) sg_impl_addTimes pol_impl_addTimes F_impl_addTimes n args := rfl
theorem sig_impl_rowsOf_eq:E.sig n_impl_rowsOf = some sg_impl_rowsOf := rfl
theorem run_impl_rowsOf (n:Nat) (args:List Dv):run E (n + 1) n_impl_rowsOf args = evFn E (mkR (run E n)) sg_impl_rowsOf pol_impl_rowsOf F_impl_rowsOf n args := rfl
theorem sig_spec_l03Solve_eq:E.sig n_spec_l03Solve = some sg_spec_l03Solve := rfl
theorem run_spec_l03Solve (n:Nat) (args:List Dv):run E (n + 1) n_spec_l03Solve args = evFn E (mkR (run E n)) sg_spec_l03Solve pol_spec_l03Solve F_spec_l03Solve n args := rfl
theorem sig_spec_l00Own_eq:E.sig n_spec_l00Own = some sg_spec_l00Own := rfl
theorem run_spec_l00Own (n:Nat) (args:List Dv):run E (n + 1) n_spec_l00Own args = evFn E (mkR (run E n)) sg_spec_l00Own pol_spec_l00Own F_spec_l00Own n args := rfl
theorem sig_impl_solve_eq:E.sig n_impl_solve = some sg_impl_solve := rfl
theorem run_impl_solve (n:Nat) (args:List Dv):run E (n + 1) n_impl_solve args = evFn E (mkR (run E n)) sg_impl_solve pol_impl_solve F_impl_solve n args := rfl
theorem sig_slices_Concat_Sint64_int64_eq:E.sig n_slices_Concat_Sint64_int64 = some sg_slices_Concat_Sint64_int64 := rfl
theorem run_slices_Concat_Sint64_int64 (n:Nat) (args:List Dv):run E (n + 1) n_slices_Concat_Sint64_int64 args = evFn E (mkR (run E n)) sg_slices_Concat_Sint64_int64 pol_slices_Concat_Sint64_int64 F_slices_Concat_Sint64_int64 n args := rfl
theorem sig_impl_stalkSum_eq:E.sig n_impl_stalkSum = some sg_impl_stalkSum := rfl
theorem run_impl_stalkSum (n:Nat) (args:List Dv):run E (n + 1) n_impl_stalkSum args = evFn E (mkR (run E n)) sg_impl_stalkSum pol_impl_stalkSum F_impl_stalkSum n args := rfl
theorem sig_spec_l00In_eq:E.sig n_spec_l00In = some sg_spec_l00In := rfl
theorem run_spec_l00In (n:Nat) (args:List Dv):run E (n + 1) n_spec_l00In args = evFn E (mkR (run E n)) sg_spec_l00In pol_spec_l00In F_spec_l00In n args := rfl
theorem sig_spec_l05Of_eq:E.sig n_spec_l05Of = some sg_spec_l05Of := rfl
theorem run_spec_l05Of (n:Nat) (args:List Dv):run E (n + 1) n_spec_l05Of args = evFn E (mkR (run E n)) sg_spec_l05Of pol_spec_l05Of F_spec_l05Of n args := rfl
theorem sig_impl_size_int64_eq:E.sig n_impl_size_int64 = some sg_impl_size_int64 := rfl
theorem run_impl_size_int64 (n:Nat) (args:List Dv):run E (n + 1) n_impl_size_int64 args = evFn E (mkR (run E n)) sg_impl_size_int64 pol_impl_size_int64 F_impl_size_int64 n args := rfl
theorem sig_laws_szInt64SS_eq:E.sig n_laws_szInt64SS = some sg_laws_szInt64SS := rfl
theorem run_laws_szInt64SS (n:Nat) (args:List Dv):run E (n + 1) n_laws_szInt64SS args = evFn E (mkR (run E n)) sg_laws_szInt64SS pol_laws_szInt64SS F_laws_szInt64SS n args := rfl
theorem sig_laws_toInt64SS_eq:E.sig n_laws_toInt64SS = some sg_laws_toInt64SS := rfl
theorem run_laws_toInt64SS (n:Nat) (args:List Dv):run E (n + 1) n_laws_toInt64SS args = evFn E (mkR (run E n)) sg_laws_toInt64SS pol_laws_toInt64SS F_laws_toInt64SS n args := rfl
theorem sig_laws_szMatrix_eq:E.sig n_laws_szMatrix = some sg_laws_szMatrix := rfl
theorem run_laws_szMatrix (n:Nat) (args:List Dv):run E (n + 1) n_laws_szMatrix args = evFn E (mkR (run E n)) sg_laws_szMatrix pol_laws_szMatrix F_laws_szMatrix n args := rfl
theorem sig_spec_l09Ok_eq:E.sig n_spec_l09Ok = some sg_spec_l09Ok := rfl
theorem run_spec_l09Ok (n:Nat) (args:List Dv):run E (n + 1) n_spec_l09Ok args = evFn E (mkR (run E n)) sg_spec_l09Ok pol_spec_l09Ok F_spec_l09Ok n args := rfl
theorem sig_spec_l09Wrong_eq:E.sig n_spec_l09Wrong = some sg_spec_l09Wrong := rfl
theorem run_spec_l09Wrong (n:Nat) (args:List Dv):run E (n + 1) n_spec_l09Wrong args = evFn E (mkR (run E n)) sg_spec_l09Wrong pol_spec_l09Wrong F_spec_l09Wrong n args := rfl
theorem sig_spec_l00Rises_eq:E.sig n_spec_l00Rises = some sg_spec_l00Rises := rfl
theorem run_spec_l00Rises (n:Nat) (args:List Dv):run E (n + 1) n_spec_l00Rises args = evFn E (mkR (run E n)) sg_spec_l00Rises pol_spec_l00Rises F_spec_l00Rises n args := rfl
theorem sig_spec_l03Apply_eq:E.sig n_spec_l03Apply = some sg_spec_l03Apply := rfl
theorem run_spec_l03Apply (n:Nat) (args:List Dv):run E (n + 1) n_spec_l03Apply args = evFn E (mkR (run E n)) sg_spec_l03Apply pol_spec_l03Apply F_spec_l03Apply n args := rfl
theorem sig_laws_toMatrix_eq:E.sig n_laws_toMatrix = some sg_laws_toMatrix := rfl
theorem run_laws_toMatrix (n:Nat) (args:List Dv):run E (n + 1) n_laws_toMatrix args = evFn E (mkR (run E n)) sg_laws_toMatrix pol_laws_toMatrix F_laws_toMatrix n args := rfl
theorem sig_impl_isVector_eq:E.sig n_impl_isVector = some sg_impl_isVector := rfl
theorem run_impl_isVector (n:Nat) (args:List Dv):run E (n + 1) n_impl_isVector args = evFn E (mkR (run E n)) sg_impl_isVector pol_impl_isVector F_impl_isVector n args := rfl
theorem sig_impl_isZero_eq:E.sig n_impl_isZero = some sg_impl_isZero := rfl
theorem run_impl_isZero (n:Nat) (args:List Dv):run E (n + 1) n_impl_isZero args = evFn E (mkR (run E n)) sg_impl_isZero pol_impl_isZero F_impl_isZero n args := rfl
theorem sig_impl_apply_eq:E.sig n_impl_apply = some sg_impl_apply := rfl
theorem run_impl_apply (n:Nat) (args:List Dv):run E (n + 1) n_impl_apply args = evFn E (mkR (run E n)) sg_impl_apply pol_impl_apply F_impl_apply n args := rfl
theorem sig_laws_eqMatrix_eq:E.sig n_laws_eqMatrix = some sg_laws_eqMatrix := rfl
theorem run_laws_eqMatrix (n:Nat) (args:List Dv):run E (n + 1) n_laws_eqMatrix args = evFn E (mkR (run E n)) sg_laws_eqMatrix pol_laws_eqMatrix F_laws_eqMatrix n args := rfl
theorem sig_spec_l05Dimension_eq:E.sig n_spec_l05Dimension = some sg_spec_l05Dimension := rfl
theorem run_spec_l05Dimension (n:Nat) (args:List Dv):run E (n + 1) n_spec_l05Dimension args = evFn E (mkR (run E n)) sg_spec_l05Dimension pol_spec_l05Dimension F_spec_l05Dimension n args := rfl
theorem sig_spec_l03Zero_eq:E.sig n_spec_l03Zero = some sg_spec_l03Zero := rfl
theorem run_spec_l03Zero (n:Nat) (args:List Dv):run E (n + 1) n_spec_l03Zero args = evFn E (mkR (run E n)) sg_spec_l03Zero pol_spec_l03Zero F_spec_l03Zero n args := rfl
theorem sig_spec_l09Sum_eq:E.sig n_spec_l09Sum = some sg_spec_l09Sum := rfl
theorem run_spec_l09Sum (n:Nat) (args:List Dv):run E (n + 1) n_spec_l09Sum args = evFn E (mkR (run E n)) sg_spec_l09Sum pol_spec_l09Sum F_spec_l09Sum n args := rfl
theorem sig_spec_l05Faces_eq:E.sig n_spec_l05Faces = some sg_spec_l05Faces := rfl
theorem run_spec_l05Faces (n:Nat) (args:List Dv):run E (n + 1) n_spec_l05Faces args = evFn E (mkR (run E n)) sg_spec_l05Faces pol_spec_l05Faces F_spec_l05Faces n args := rfl
theorem sig_spec_l11At_eq:E.sig n_spec_l11At = some sg_spec_l11At := rfl
theorem run_spec_l11At (n:Nat) (args:List Dv):run E (n + 1) n_spec_l11At args = evFn E (mkR (run E n)) sg_spec_l11At pol_spec_l11At F_spec_l11At n args := rfl
theorem sig_spec_l09Get_eq:E.sig n_spec_l09Get = some sg_spec_l09Get := rfl
theorem run_spec_l09Get (n:Nat) (args:List Dv):run E (n + 1) n_spec_l09Get args = evFn E (mkR (run E n)) sg_spec_l09Get pol_spec_l09Get F_spec_l09Get n args := rfl
theorem sig_spec_l07Sign_eq:E.sig n_spec_l07Sign = some sg_spec_l07Sign := rfl
theorem run_spec_l07Sign (n:Nat) (args:List Dv):run E (n + 1) n_spec_l07Sign args = evFn E (mkR (run E n)) sg_spec_l07Sign pol_spec_l07Sign F_spec_l07Sign n args := rfl
theorem sig_spec_l03Reduced_eq:E.sig n_spec_l03Reduced = some sg_spec_l03Reduced := rfl
theorem run_spec_l03Reduced (n:Nat) (args:List Dv):run E (n + 1) n_spec_l03Reduced args = evFn E (mkR (run E n)) sg_spec_l03Reduced pol_spec_l03Reduced F_spec_l03Reduced n args := rfl
theorem sig_spec_l03Mod_eq:E.sig n_spec_l03Mod = some sg_spec_l03Mod := rfl
theorem run_spec_l03Mod (n:Nat) (args:List Dv):run E (n + 1) n_spec_l03Mod args = evFn E (mkR (run E n)) sg_spec_l03Mod pol_spec_l03Mod F_spec_l03Mod n args := rfl
theorem sig_impl_isDimension_eq:E.sig n_impl_isDimension = some sg_impl_isDimension := rfl
theorem run_impl_isDimension (n:Nat) (args:List Dv):run E (n + 1) n_impl_isDimension args = evFn E (mkR (run E n)) sg_impl_isDimension pol_impl_isDimension F_impl_isDimension n args := rfl
theorem sig_impl_eliminate_eq:E.sig n_impl_eliminate = some sg_impl_eliminate := rfl
theorem run_impl_eliminate (n:Nat) (args:List Dv):run E (n + 1) n_impl_eliminate args = evFn E (mkR (run E n)) sg_impl_eliminate pol_impl_eliminate F_impl_eliminate n args := rfl
theorem sig_impl_reduce_eq:E.sig n_impl_reduce = some sg_impl_reduce := rfl
theorem run_impl_reduce (n:Nat) (args:List Dv):run E (n + 1) n_impl_reduce args = evFn E (mkR (run E n)) sg_impl_reduce pol_impl_reduce F_impl_reduce n args := rfl
theorem sig_impl_zero_eq:E.sig n_impl_zero = some sg_impl_zero := rfl
theorem run_impl_zero (n:Nat) (args:List Dv):run E (n + 1) n_impl_zero args = evFn E (mkR (run E n)) sg_impl_zero pol_impl_zero F_impl_zero n args := rfl
theorem sig_impl_simplicesOf_eq:E.sig n_impl_simplicesOf = some sg_impl_simplicesOf := rfl
theorem run_impl_simplicesOf (n:Nat) (args:List Dv):run E (n + 1) n_impl_simplicesOf args = evFn E (mkR (run E n)) sg_impl_simplicesOf pol_impl_simplicesOf F_impl_simplicesOf n args := rfl
theorem sig_impl_faceIndices_eq:E.sig n_impl_faceIndices = some sg_impl_faceIndices := rfl
theorem run_impl_faceIndices (n:Nat) (args:List Dv):run E (n + 1) n_impl_faceIndices args = evFn E (mkR (run E n)) sg_impl_faceIndices pol_impl_faceIndices F_impl_faceIndices n args := rfl
theorem sig_impl_direct_eq:E.sig n_impl_direct = some sg_impl_direct := rfl
theorem run_impl_direct (n:Nat) (args:List Dv):run E (n + 1) n_impl_direct args = evFn E (mkR (run E n)) sg_impl_direct pol_impl_direct F_impl_direct n args := rfl
theorem sig_impl_firstColumn_eq:E.sig n_impl_firstColumn = some sg_impl_firstColumn := rfl
theorem run_impl_firstColumn (n:Nat) (args:List Dv):run E (n + 1) n_impl_firstColumn args = evFn E (mkR (run E n)) sg_impl_firstColumn pol_impl_firstColumn F_impl_firstColumn n args := rfl
theorem sig_impl_Matrix_at_eq:E.sig n_impl_Matrix_at = some sg_impl_Matrix_at := rfl
theorem run_impl_Matrix_at (n:Nat) (args:List Dv):run E (n + 1) n_impl_Matrix_at args = evFn E (mkR (run E n)) sg_impl_Matrix_at pol_impl_Matrix_at F_impl_Matrix_at n args := rfl
theorem sig_impl_alternating_eq:E.sig n_impl_alternating = some sg_impl_alternating := rfl
theorem run_impl_alternating (n:Nat) (args:List Dv):run E (n + 1) n_impl_alternating args = evFn E (mkR (run E n)) sg_impl_alternating pol_impl_alternating F_impl_alternating n args := rfl
theorem sig_impl_ValidSheaf_eq:E.sig n_impl_ValidSheaf = some sg_impl_ValidSheaf := rfl
theorem run_impl_ValidSheaf (n:Nat) (args:List Dv):run E (n + 1) n_impl_ValidSheaf args = evFn E (mkR (run E n)) sg_impl_ValidSheaf pol_impl_ValidSheaf F_impl_ValidSheaf n args := rfl
theorem sig_impl_wrongSquare_eq:E.sig n_impl_wrongSquare = some sg_impl_wrongSquare := rfl
theorem run_impl_wrongSquare (n:Nat) (args:List Dv):run E (n + 1) n_impl_wrongSquare args = evFn E (mkR (run E n)) sg_impl_wrongSquare pol_impl_wrongSquare F_impl_wrongSquare n args := rfl
theorem sig_spec_l03Column_eq:E.sig n_spec_l03Column = some sg_spec_l03Column := rfl
theorem run_spec_l03Column (n:Nat) (args:List Dv):run E (n + 1) n_spec_l03Column args = evFn E (mkR (run E n)) sg_spec_l03Column pol_spec_l03Column F_spec_l03Column n args := rfl
theorem sig_spec_l07Null_eq:E.sig n_spec_l07Null = some sg_spec_l07Null := rfl
theorem run_spec_l07Null (n:Nat) (args:List Dv):run E (n + 1) n_spec_l07Null args = evFn E (mkR (run E n)) sg_spec_l07Null pol_spec_l07Null F_spec_l07Null n args := rfl
theorem sig_impl_size_Sint64_eq:E.sig n_impl_size_Sint64 = some sg_impl_size_Sint64 := rfl
theorem run_impl_size_Sint64 (n:Nat) (args:List Dv):run E (n + 1) n_impl_size_Sint64 args = evFn E (mkR (run E n)) sg_impl_size_Sint64 pol_impl_size_Sint64 F_impl_size_Sint64 n args := rfl
theorem sig_spec_l03Times_eq:E.sig n_spec_l03Times = some sg_spec_l03Times := rfl
theorem run_spec_l03Times (n:Nat) (args:List Dv):run E (n + 1) n_spec_l03Times args = evFn E (mkR (run E n)) sg_spec_l03Times pol_spec_l03Times F_spec_l03Times n args := rfl
theorem sig_slices_ContainsFunc_Sint64_int64_eq:E.sig n_slices_ContainsFunc_Sint64_int64 = some sg_slices_ContainsFunc_Sint64_int64 := rfl
theorem run_slices_ContainsFunc_Sint64_int64 (n:Nat) (args:List Dv):run E (n + 1) n_slices_ContainsFunc_Sint64_int64 args = evFn E (mkR (run E n)) sg_slices_ContainsFunc_Sint64_int64 pol_slices_ContainsFunc_Sint64_int64 F_slices_ContainsFunc_Sint64_int64 n args := rfl
theorem sig_slices_Clone_Sint64_int64_eq:E.sig n_slices_Clone_Sint64_int64 = some sg_slices_Clone_Sint64_int64 := rfl
theorem run_slices_Clone_Sint64_int64 (n:Nat) (args:List Dv):run E (n + 1) n_slices_Clone_Sint64_int64 args = evFn E (mkR (run E n)) sg_slices_Clone_Sint64_int64 pol_slices_Clone_Sint64_int64 F_slices_Clone_Sint64_int64 n args := rfl
theorem sig_impl_Matrix_row_eq:E.sig n_impl_Matrix_row = some sg_impl_Matrix_row := rfl
theorem run_impl_Matrix_row (n:Nat) (args:List Dv):run E (n + 1) n_impl_Matrix_row args = evFn E (mkR (run E n)) sg_impl_Matrix_row pol_impl_Matrix_row F_impl_Matrix_row n args := rfl
theorem sig_slices_IndexFunc_Sint64_int64_eq:E.sig n_slices_IndexFunc_Sint64_int64 = some sg_slices_IndexFunc_Sint64_int64 := rfl
theorem run_slices_IndexFunc_Sint64_int64 (n:Nat) (args:List Dv):run E (n + 1) n_slices_IndexFunc_Sint64_int64 args = evFn E (mkR (run E n)) sg_slices_IndexFunc_Sint64_int64 pol_slices_IndexFunc_Sint64_int64 F_slices_IndexFunc_Sint64_int64 n args := rfl
theorem sig_impl_product_eq:E.sig n_impl_product = some sg_impl_product := rfl
theorem run_impl_product (n:Nat) (args:List Dv):run E (n + 1) n_impl_product args = evFn E (mkR (run E n)) sg_impl_product pol_impl_product F_impl_product n args := rfl
theorem sig_spec_l03Join_eq:E.sig n_spec_l03Join = some sg_spec_l03Join := rfl
theorem run_spec_l03Join (n:Nat) (args:List Dv):run E (n + 1) n_spec_l03Join args = evFn E (mkR (run E n)) sg_spec_l03Join pol_spec_l03Join F_spec_l03Join n args := rfl
theorem sig_slices_Grow_Sint64_int64_eq:E.sig n_slices_Grow_Sint64_int64 = some sg_slices_Grow_Sint64_int64 := rfl
theorem sig_impl_within_eq:E.sig n_impl_within = some sg_impl_within := rfl
theorem run_impl_within (n:Nat) (args:List Dv):run E (n + 1) n_impl_within args = evFn E (mkR (run E n)) sg_impl_within pol_impl_within F_impl_within n args := rfl
theorem sig_spec_l05Ok_eq:E.sig n_spec_l05Ok = some sg_spec_l05Ok := rfl
theorem run_spec_l05Ok (n:Nat) (args:List Dv):run E (n + 1) n_spec_l05Ok args = evFn E (mkR (run E n)) sg_spec_l05Ok pol_spec_l05Ok F_spec_l05Ok n args := rfl
theorem sig_spec_ValidPrime_eq:E.sig n_spec_ValidPrime = some sg_spec_ValidPrime := rfl
theorem run_spec_ValidPrime (n:Nat) (args:List Dv):run E (n + 1) n_spec_ValidPrime args = evFn E (mkR (run E n)) sg_spec_ValidPrime pol_spec_ValidPrime F_spec_ValidPrime n args := rfl
theorem sig_impl_ValidComplex_eq:E.sig n_impl_ValidComplex = some sg_impl_ValidComplex := rfl
theorem run_impl_ValidComplex (n:Nat) (args:List Dv):run E (n + 1) n_impl_ValidComplex args = evFn E (mkR (run E n)) sg_impl_ValidComplex pol_impl_ValidComplex F_impl_ValidComplex n args := rfl
theorem sig_impl_ValidPrime_eq:E.sig n_impl_ValidPrime = some sg_impl_ValidPrime := rfl
theorem run_impl_ValidPrime (n:Nat) (args:List Dv):run E (n + 1) n_impl_ValidPrime args = evFn E (mkR (run E n)) sg_impl_ValidPrime pol_impl_ValidPrime F_impl_ValidPrime n args := rfl
theorem sig_spec_l09Stalks_eq:E.sig n_spec_l09Stalks = some sg_spec_l09Stalks := rfl
theorem run_spec_l09Stalks (n:Nat) (args:List Dv):run E (n + 1) n_spec_l09Stalks args = evFn E (mkR (run E n)) sg_spec_l09Stalks pol_spec_l09Stalks F_spec_l09Stalks n args := rfl
theorem sig_spec_l09Count_eq:E.sig n_spec_l09Count = some sg_spec_l09Count := rfl
theorem run_spec_l09Count (n:Nat) (args:List Dv):run E (n + 1) n_spec_l09Count args = evFn E (mkR (run E n)) sg_spec_l09Count pol_spec_l09Count F_spec_l09Count n args := rfl
theorem sig_spec_l09Map_eq:E.sig n_spec_l09Map = some sg_spec_l09Map := rfl
theorem run_spec_l09Map (n:Nat) (args:List Dv):run E (n + 1) n_spec_l09Map args = evFn E (mkR (run E n)) sg_spec_l09Map pol_spec_l09Map F_spec_l09Map n args := rfl
theorem sig_spec_l09Place_eq:E.sig n_spec_l09Place = some sg_spec_l09Place := rfl
theorem run_spec_l09Place (n:Nat) (args:List Dv):run E (n + 1) n_spec_l09Place args = evFn E (mkR (run E n)) sg_spec_l09Place pol_spec_l09Place F_spec_l09Place n args := rfl
theorem sig_spec_l09Two_eq:E.sig n_spec_l09Two = some sg_spec_l09Two := rfl
theorem run_spec_l09Two (n:Nat) (args:List Dv):run E (n + 1) n_spec_l09Two args = evFn E (mkR (run E n)) sg_spec_l09Two pol_spec_l09Two F_spec_l09Two n args := rfl
theorem sig_spec_l03Same_eq:E.sig n_spec_l03Same = some sg_spec_l03Same := rfl
theorem run_spec_l03Same (n:Nat) (args:List Dv):run E (n + 1) n_spec_l03Same args = evFn E (mkR (run E n)) sg_spec_l03Same pol_spec_l03Same F_spec_l03Same n args := rfl
theorem sig_spec_l05Find_eq:E.sig n_spec_l05Find = some sg_spec_l05Find := rfl
theorem run_spec_l05Find (n:Nat) (args:List Dv):run E (n + 1) n_spec_l05Find args = evFn E (mkR (run E n)) sg_spec_l05Find pol_spec_l05Find F_spec_l05Find n args := rfl
theorem sig_impl_isRising_eq:E.sig n_impl_isRising = some sg_impl_isRising := rfl
theorem run_impl_isRising (n:Nat) (args:List Dv):run E (n + 1) n_impl_isRising args = evFn E (mkR (run E n)) sg_impl_isRising pol_impl_isRising F_impl_isRising n args := rfl
theorem sig_impl_areElements_eq:E.sig n_impl_areElements = some sg_impl_areElements := rfl
theorem run_impl_areElements (n:Nat) (args:List Dv):run E (n + 1) n_impl_areElements args = evFn E (mkR (run E n)) sg_impl_areElements pol_impl_areElements F_impl_areElements n args := rfl
theorem sig_impl_isZero_1_eq:E.sig n_impl_isZero_1 = some sg_impl_isZero_1 := rfl
theorem run_impl_isZero_1 (n:Nat) (args:List Dv):run E (n + 1) n_impl_isZero_1 args = evFn E (mkR (run E n)) sg_impl_isZero_1 pol_impl_isZero_1 F_impl_isZero_1 n args := rfl
theorem sig_impl_dot_eq:E.sig n_impl_dot = some sg_impl_dot := rfl
theorem run_impl_dot (n:Nat) (args:List Dv):run E (n + 1) n_impl_dot args = evFn E (mkR (run E n)) sg_impl_dot pol_impl_dot F_impl_dot n args := rfl
theorem sig_spec_l05Drop_eq:E.sig n_spec_l05Drop = some sg_spec_l05Drop := rfl
theorem run_spec_l05Drop (n:Nat) (args:List Dv):run E (n + 1) n_spec_l05Drop args = evFn E (mkR (run E n)) sg_spec_l05Drop pol_spec_l05Drop F_spec_l05Drop n args := rfl
theorem sig_spec_l03Inverse_eq:E.sig n_spec_l03Inverse = some sg_spec_l03Inverse := rfl
theorem run_spec_l03Inverse (n:Nat) (args:List Dv):run E (n + 1) n_spec_l03Inverse args = evFn E (mkR (run E n)) sg_spec_l03Inverse pol_spec_l03Inverse F_spec_l03Inverse n args := rfl
theorem sig_slices_IndexFunc_SSint64_Sint64_eq:E.sig n_slices_IndexFunc_SSint64_Sint64 = some sg_slices_IndexFunc_SSint64_Sint64 := rfl
theorem run_slices_IndexFunc_SSint64_Sint64 (n:Nat) (args:List Dv):run E (n + 1) n_slices_IndexFunc_SSint64_Sint64 args = evFn E (mkR (run E n)) sg_slices_IndexFunc_SSint64_Sint64 pol_slices_IndexFunc_SSint64_Sint64 F_slices_IndexFunc_SSint64_Sint64 n args := rfl
theorem sig_impl_eliminate_1_eq:E.sig n_impl_eliminate_1 = some sg_impl_eliminate_1 := rfl
theorem run_impl_eliminate_1 (n:Nat) (args:List Dv):run E (n + 1) n_impl_eliminate_1 args = evFn E (mkR (run E n)) sg_impl_eliminate_1 pol_impl_eliminate_1 F_impl_eliminate_1 n args := rfl
theorem sig_impl_inverseOf_eq:E.sig n_impl_inverseOf = some sg_impl_inverseOf := rfl
theorem run_impl_inverseOf (n:Nat) (args:List Dv):run E (n + 1) n_impl_inverseOf args = evFn E (mkR (run E n)) sg_impl_inverseOf pol_impl_inverseOf F_impl_inverseOf n args := rfl
theorem sig_impl_filled_eq:E.sig n_impl_filled = some sg_impl_filled := rfl
theorem run_impl_filled (n:Nat) (args:List Dv):run E (n + 1) n_impl_filled args = evFn E (mkR (run E n)) sg_impl_filled pol_impl_filled F_impl_filled n args := rfl
theorem sig_impl_zero_1_eq:E.sig n_impl_zero_1 = some sg_impl_zero_1 := rfl
theorem run_impl_zero_1 (n:Nat) (args:List Dv):run E (n + 1) n_impl_zero_1 args = evFn E (mkR (run E n)) sg_impl_zero_1 pol_impl_zero_1 F_impl_zero_1 n args := rfl
theorem sig_impl_facesOf_eq:E.sig n_impl_facesOf = some sg_impl_facesOf := rfl
theorem run_impl_facesOf (n:Nat) (args:List Dv):run E (n + 1) n_impl_facesOf args = evFn E (mkR (run E n)) sg_impl_facesOf pol_impl_facesOf F_impl_facesOf n args := rfl
theorem sig_impl_indexOf_eq:E.sig n_impl_indexOf = some sg_impl_indexOf := rfl
theorem run_impl_indexOf (n:Nat) (args:List Dv):run E (n + 1) n_impl_indexOf args = evFn E (mkR (run E n)) sg_impl_indexOf pol_impl_indexOf F_impl_indexOf n args := rfl
theorem sig_impl_firstMap_eq:E.sig n_impl_firstMap = some sg_impl_firstMap := rfl
theorem run_impl_firstMap (n:Nat) (args:List Dv):run E (n + 1) n_impl_firstMap args = evFn E (mkR (run E n)) sg_impl_firstMap pol_impl_firstMap F_impl_firstMap n args := rfl
theorem sig_impl_areStalks_eq:E.sig n_impl_areStalks = some sg_impl_areStalks := rfl
theorem run_impl_areStalks (n:Nat) (args:List Dv):run E (n + 1) n_impl_areStalks args = evFn E (mkR (run E n)) sg_impl_areStalks pol_impl_areStalks F_impl_areStalks n args := rfl
theorem sig_impl_arrows_eq:E.sig n_impl_arrows = some sg_impl_arrows := rfl
theorem run_impl_arrows (n:Nat) (args:List Dv):run E (n + 1) n_impl_arrows args = evFn E (mkR (run E n)) sg_impl_arrows pol_impl_arrows F_impl_arrows n args := rfl
theorem sig_impl_isBetween_eq:E.sig n_impl_isBetween = some sg_impl_isBetween := rfl
theorem run_impl_isBetween (n:Nat) (args:List Dv):run E (n + 1) n_impl_isBetween args = evFn E (mkR (run E n)) sg_impl_isBetween pol_impl_isBetween F_impl_isBetween n args := rfl
theorem sig_impl_SameMatrix_eq:E.sig n_impl_SameMatrix = some sg_impl_SameMatrix := rfl
theorem run_impl_SameMatrix (n:Nat) (args:List Dv):run E (n + 1) n_impl_SameMatrix args = evFn E (mkR (run E n)) sg_impl_SameMatrix pol_impl_SameMatrix F_impl_SameMatrix n args := rfl
theorem sig_impl_columnsOf_eq:E.sig n_impl_columnsOf = some sg_impl_columnsOf := rfl
theorem run_impl_columnsOf (n:Nat) (args:List Dv):run E (n + 1) n_impl_columnsOf args = evFn E (mkR (run E n)) sg_impl_columnsOf pol_impl_columnsOf F_impl_columnsOf n args := rfl
theorem sig_impl_product_1_eq:E.sig n_impl_product_1 = some sg_impl_product_1 := rfl
theorem run_impl_product_1 (n:Nat) (args:List Dv):run E (n + 1) n_impl_product_1 args = evFn E (mkR (run E n)) sg_impl_product_1 pol_impl_product_1 F_impl_product_1 n args := rfl
theorem sig_spec_l05Simplex_eq:E.sig n_spec_l05Simplex = some sg_spec_l05Simplex := rfl
theorem run_spec_l05Simplex (n:Nat) (args:List Dv):run E (n + 1) n_spec_l05Simplex args = evFn E (mkR (run E n)) sg_spec_l05Simplex pol_spec_l05Simplex F_spec_l05Simplex n args := rfl
theorem sig_spec_l05Before_eq:E.sig n_spec_l05Before = some sg_spec_l05Before := rfl
theorem run_spec_l05Before (n:Nat) (args:List Dv):run E (n + 1) n_spec_l05Before args = evFn E (mkR (run E n)) sg_spec_l05Before pol_spec_l05Before F_spec_l05Before n args := rfl
theorem sig_spec_l02Prime_eq:E.sig n_spec_l02Prime = some sg_spec_l02Prime := rfl
theorem run_spec_l02Prime (n:Nat) (args:List Dv):run E (n + 1) n_spec_l02Prime args = evFn E (mkR (run E n)) sg_spec_l02Prime pol_spec_l02Prime F_spec_l02Prime n args := rfl
theorem sig_impl_ValidSimplex_eq:E.sig n_impl_ValidSimplex = some sg_impl_ValidSimplex := rfl
theorem run_impl_ValidSimplex (n:Nat) (args:List Dv):run E (n + 1) n_impl_ValidSimplex args = evFn E (mkR (run E n)) sg_impl_ValidSimplex pol_impl_ValidSimplex F_impl_ValidSimplex n args := rfl
theorem sig_impl_compareSimplices_eq:E.sig n_impl_compareSimplices = some sg_impl_compareSimplices := rfl
theorem run_impl_compareSimplices (n:Nat) (args:List Dv):run E (n + 1) n_impl_compareSimplices args = evFn E (mkR (run E n)) sg_impl_compareSimplices pol_impl_compareSimplices F_impl_compareSimplices n args := rfl
theorem sig_slices_ContainsFunc_SSint64_Sint64_eq:E.sig n_slices_ContainsFunc_SSint64_Sint64 = some sg_slices_ContainsFunc_SSint64_Sint64 := rfl
theorem run_slices_ContainsFunc_SSint64_Sint64 (n:Nat) (args:List Dv):run E (n + 1) n_slices_ContainsFunc_SSint64_Sint64 args = evFn E (mkR (run E n)) sg_slices_ContainsFunc_SSint64_Sint64 pol_slices_ContainsFunc_SSint64_Sint64 F_slices_ContainsFunc_SSint64_Sint64 n args := rfl
theorem sig_impl_ValidComplex_1_eq:E.sig n_impl_ValidComplex_1 = some sg_impl_ValidComplex_1 := rfl
theorem run_impl_ValidComplex_1 (n:Nat) (args:List Dv):run E (n + 1) n_impl_ValidComplex_1 args = evFn E (mkR (run E n)) sg_impl_ValidComplex_1 pol_impl_ValidComplex_1 F_impl_ValidComplex_1 n args := rfl
theorem sig_spec_l03Ok_eq:E.sig n_spec_l03Ok = some sg_spec_l03Ok := rfl
theorem run_spec_l03Ok (n:Nat) (args:List Dv):run E (n + 1) n_spec_l03Ok args = evFn E (mkR (run E n)) sg_spec_l03Ok pol_spec_l03Ok F_spec_l03Ok n args := rfl
theorem sig_spec_l00Same_eq:E.sig n_spec_l00Same = some sg_spec_l00Same := rfl
theorem run_spec_l00Same (n:Nat) (args:List Dv):run E (n + 1) n_spec_l00Same args = evFn E (mkR (run E n)) sg_spec_l00Same pol_spec_l00Same F_spec_l00Same n args := rfl
theorem sig_impl_areElements_1_eq:E.sig n_impl_areElements_1 = some sg_impl_areElements_1 := rfl
theorem run_impl_areElements_1 (n:Nat) (args:List Dv):run E (n + 1) n_impl_areElements_1 args = evFn E (mkR (run E n)) sg_impl_areElements_1 pol_impl_areElements_1 F_impl_areElements_1 n args := rfl
theorem sig_impl_isElement_eq:E.sig n_impl_isElement = some sg_impl_isElement := rfl
theorem run_impl_isElement (n:Nat) (args:List Dv):run E (n + 1) n_impl_isElement args = evFn E (mkR (run E n)) sg_impl_isElement pol_impl_isElement F_impl_isElement n args := rfl
theorem sig_impl_powerOf_eq:E.sig n_impl_powerOf = some sg_impl_powerOf := rfl
theorem run_impl_powerOf (n:Nat) (args:List Dv):run E (n + 1) n_impl_powerOf args = evFn E (mkR (run E n)) sg_impl_powerOf pol_impl_powerOf F_impl_powerOf n args := rfl
theorem sig_slices_BinarySearchFunc_SSint64_Sint64_Sint64_eq:E.sig n_slices_BinarySearchFunc_SSint64_Sint64_Sint64 = some sg_slices_BinarySearchFunc_SSint64_Sint64_Sint64 := rfl
theorem run_slices_BinarySearchFunc_SSint64_Sint64_Sint64 (n:Nat) (args:List Dv):run E (n + 1) n_slices_BinarySearchFunc_SSint64_Sint64_Sint64 args = evFn E (mkR (run E n)) sg_slices_BinarySearchFunc_SSint64_Sint64_Sint64 pol_slices_BinarySearchFunc_SSint64_Sint64_Sint64 F_slices_BinarySearchFunc_SSint64_Sint64_Sint64 n args := rfl
theorem sig_impl_areStalks_1_eq:E.sig n_impl_areStalks_1 = some sg_impl_areStalks_1 := rfl
theorem run_impl_areStalks_1 (n:Nat) (args:List Dv):run E (n + 1) n_impl_areStalks_1 args = evFn E (mkR (run E n)) sg_impl_areStalks_1 pol_impl_areStalks_1 F_impl_areStalks_1 n args := rfl
theorem sig_impl_ValidMatrix_eq:E.sig n_impl_ValidMatrix = some sg_impl_ValidMatrix := rfl
theorem run_impl_ValidMatrix (n:Nat) (args:List Dv):run E (n + 1) n_impl_ValidMatrix args = evFn E (mkR (run E n)) sg_impl_ValidMatrix pol_impl_ValidMatrix F_impl_ValidMatrix n args := rfl
theorem sig_slices_Equal_Sint64_int64_eq:E.sig n_slices_Equal_Sint64_int64 = some sg_slices_Equal_Sint64_int64 := rfl
theorem run_slices_Equal_Sint64_int64 (n:Nat) (args:List Dv):run E (n + 1) n_slices_Equal_Sint64_int64 args = evFn E (mkR (run E n)) sg_slices_Equal_Sint64_int64 pol_slices_Equal_Sint64_int64 F_slices_Equal_Sint64_int64 n args := rfl
theorem sig_impl_transpose_eq:E.sig n_impl_transpose = some sg_impl_transpose := rfl
theorem run_impl_transpose (n:Nat) (args:List Dv):run E (n + 1) n_impl_transpose args = evFn E (mkR (run E n)) sg_impl_transpose pol_impl_transpose F_impl_transpose n args := rfl
theorem sig_impl_ValidSimplex_1_eq:E.sig n_impl_ValidSimplex_1 = some sg_impl_ValidSimplex_1 := rfl
theorem run_impl_ValidSimplex_1 (n:Nat) (args:List Dv):run E (n + 1) n_impl_ValidSimplex_1 args = evFn E (mkR (run E n)) sg_impl_ValidSimplex_1 pol_impl_ValidSimplex_1 F_impl_ValidSimplex_1 n args := rfl
theorem sig_impl_isVertex_eq:E.sig n_impl_isVertex = some sg_impl_isVertex := rfl
theorem run_impl_isVertex (n:Nat) (args:List Dv):run E (n + 1) n_impl_isVertex args = evFn E (mkR (run E n)) sg_impl_isVertex pol_impl_isVertex F_impl_isVertex n args := rfl
theorem sig_cmp_Or_int_eq:E.sig n_cmp_Or_int = some sg_cmp_Or_int := rfl
theorem run_cmp_Or_int (n:Nat) (args:List Dv):run E (n + 1) n_cmp_Or_int args = evFn E (mkR (run E n)) sg_cmp_Or_int pol_cmp_Or_int F_cmp_Or_int n args := rfl
theorem sig_cmp_Compare_int_eq:E.sig n_cmp_Compare_int = some sg_cmp_Compare_int := rfl
theorem run_cmp_Compare_int (n:Nat) (args:List Dv):run E (n + 1) n_cmp_Compare_int args = evFn E (mkR (run E n)) sg_cmp_Compare_int pol_cmp_Compare_int F_cmp_Compare_int n args := rfl
theorem sig_slices_Compare_Sint64_int64_eq:E.sig n_slices_Compare_Sint64_int64 = some sg_slices_Compare_Sint64_int64 := rfl
theorem run_slices_Compare_Sint64_int64 (n:Nat) (args:List Dv):run E (n + 1) n_slices_Compare_Sint64_int64 args = evFn E (mkR (run E n)) sg_slices_Compare_Sint64_int64 pol_slices_Compare_Sint64_int64 F_slices_Compare_Sint64_int64 n args := rfl
theorem sig_impl_isSide_eq:E.sig n_impl_isSide = some sg_impl_isSide := rfl
theorem run_impl_isSide (n:Nat) (args:List Dv):run E (n + 1) n_impl_isSide args = evFn E (mkR (run E n)) sg_impl_isSide pol_impl_isSide F_impl_isSide n args := rfl
theorem sig_impl_transpose_1_eq:E.sig n_impl_transpose_1 = some sg_impl_transpose_1 := rfl
theorem run_impl_transpose_1 (n:Nat) (args:List Dv):run E (n + 1) n_impl_transpose_1 args = evFn E (mkR (run E n)) sg_impl_transpose_1 pol_impl_transpose_1 F_impl_transpose_1 n args := rfl
theorem sig_cmp_isNaN_int_eq:E.sig n_cmp_isNaN_int = some sg_cmp_isNaN_int := rfl
theorem run_cmp_isNaN_int (n:Nat) (args:List Dv):run E (n + 1) n_cmp_isNaN_int args = evFn E (mkR (run E n)) sg_cmp_isNaN_int pol_cmp_isNaN_int F_cmp_isNaN_int n args := rfl
theorem sig_cmp_Compare_int64_eq:E.sig n_cmp_Compare_int64 = some sg_cmp_Compare_int64 := rfl
theorem run_cmp_Compare_int64 (n:Nat) (args:List Dv):run E (n + 1) n_cmp_Compare_int64 args = evFn E (mkR (run E n)) sg_cmp_Compare_int64 pol_cmp_Compare_int64 F_cmp_Compare_int64 n args := rfl
theorem sig_cmp_isNaN_int64_eq:E.sig n_cmp_isNaN_int64 = some sg_cmp_isNaN_int64 := rfl
theorem run_cmp_isNaN_int64 (n:Nat) (args:List Dv):run E (n + 1) n_cmp_isNaN_int64 args = evFn E (mkR (run E n)) sg_cmp_isNaN_int64 pol_cmp_isNaN_int64 F_cmp_isNaN_int64 n args := rfl
end VeT

open Go Go.Proofs Ve
set_option linter.unusedVariables false
set_option maxRecDepth 100000
namespace VeT
/-! loop.example/g01005/laws.szInt64S -/
theorem laws_szInt64S.ev (R:Run) (N:Nat) (a0:(List Int)) (a1:Int):evFn E R sg_laws_szInt64S pol_laws_szInt64S F_laws_szInt64S N [⟨yL,a0⟩,⟨yI,a1⟩] = (bif (decide ((w64 (a1 - (List.length a0:Int))) < (0:Int))) then some ⟨o_laws_szInt64S,((-1:Int),())⟩ else some ⟨o_laws_szInt64S,((w64 (a1 - (List.length a0:Int))),())⟩) := by kernel_rfl
/-! loop.example/g01005/laws.szInt64SS -/
noncomputable def laws_szInt64SS.l0 (R:Run) (N:Nat) (n:Nat) (a_1:vK) (left_2:Int) (i_3:Int):Option Dv := R.w (some ⟨(.c (.d yK a_1)::(.c (.d yI left_2)::(zd 3 (.c (.d yI i_3)::(zd 21 []))))),(zo 29 [])⟩) fun st => loopC (evCode E R pol_laws_szInt64SS N (sub [1,1,1,0,1,0,0] (bodyOf F_laws_szInt64SS))) (maskAt R pol_laws_szInt64SS.loopM 5) n st (kBlk (maskAt R pol_laws_szInt64SS.blkM 0) 0 (kSeq (maskAt R pol_laws_szInt64SS.seqM 10) (evCode E R pol_laws_szInt64SS N (sub [1,1,1,1] (bodyOf F_laws_szInt64SS))) (kTop E sg_laws_szInt64SS F_laws_szInt64SS)))
theorem laws_szInt64SS.l0_succ (R:Run) (hw:R.ok) (N:Nat) (n:Nat) (a_1:vK) (left_2:Int) (i_3:Int):laws_szInt64SS.l0 R N (n + 1) a_1 left_2 i_3 = (bif (decide (i_3 < (List.length a_1:Int))) then (Option.bind (idx? a_1 i_3) fun y4 => (Option.bind (callT R n_laws_szInt64S o_laws_szInt64S [⟨yL,(y4,()).1⟩,⟨yI,left_2⟩]) fun r5 => (bif (decide (r5.1 < (0:Int))) then some ⟨o_laws_szInt64SS,((-1:Int),())⟩ else (laws_szInt64SS.l0 R N n a_1 r5.1 (w64 (i_3 + (1:Int))))))) else some ⟨o_laws_szInt64SS,(left_2,())⟩) := (hw _ _).trans (by kernel_rfl)
theorem laws_szInt64SS.ev (R:Run) (N:Nat) (a0:vK) (a1:Int):evFn E R sg_laws_szInt64SS pol_laws_szInt64SS F_laws_szInt64SS N [⟨yK,a0⟩,⟨yI,a1⟩] = (bif (decide ((w64 (a1 - (List.length a0:Int))) < (0:Int))) then some ⟨o_laws_szInt64SS,((-1:Int),())⟩ else (laws_szInt64SS.l0 R N N a0 (w64 (a1 - (List.length a0:Int))) (0:Int))) := by kernel_rfl
/-! loop.example/g01005/laws.szComplex -/
theorem laws_szComplex.ev (R:Run) (N:Nat) (a0:vK) (a1:Int):evFn E R sg_laws_szComplex pol_laws_szComplex F_laws_szComplex N [⟨yK,a0⟩,⟨yI,a1⟩] = (Option.bind (callT R n_laws_szInt64SS o_laws_szInt64SS [⟨yK,a0⟩,⟨yI,a1⟩]) fun r1 => (bif (decide (r1.1 < (0:Int))) then some ⟨o_laws_szComplex,((-1:Int),())⟩ else some ⟨o_laws_szComplex,(r1.1,())⟩)) := by kernel_rfl
/-! loop.example/g01005/laws.szMatrix -/
theorem laws_szMatrix.ev (R:Run) (N:Nat) (a0:Int) (a1:Int) (a2:Int) (a3:(List Int)) (a4:Int):evFn E R sg_laws_szMatrix pol_laws_szMatrix F_laws_szMatrix N [⟨yI,a0⟩,⟨yI,a1⟩,⟨yI,a2⟩,⟨yL,a3⟩,⟨yI,a4⟩] = (Option.bind (callT R n_laws_szInt64S o_laws_szInt64S [⟨yL,a3⟩,⟨yI,a4⟩]) fun r1 => (bif (decide (r1.1 < (0:Int))) then some ⟨o_laws_szMatrix,((-1:Int),())⟩ else some ⟨o_laws_szMatrix,(r1.1,())⟩)) := by kernel_rfl
/-! loop.example/g01005/laws.szMatrixS -/
noncomputable def laws_szMatrixS.l0 (R:Run) (N:Nat) (n:Nat) (a_1:vN) (left_2:Int) (i_3:Int):Option Dv := R.w (some ⟨(.c (.d yN a_1)::(.c (.d yI left_2)::(zd 3 (.c (.d yI i_3)::(zd 21 []))))),(zo 29 [])⟩) fun st => loopC (evCode E R pol_laws_szMatrixS N (sub [1,1,1,0,1,0,0] (bodyOf F_laws_szMatrixS))) (maskAt R pol_laws_szMatrixS.loopM 5) n st (kBlk (maskAt R pol_laws_szMatrixS.blkM 0) 0 (kSeq (maskAt R pol_laws_szMatrixS.seqM 10) (evCode E R pol_laws_szMatrixS N (sub [1,1,1,1] (bodyOf F_laws_szMatrixS))) (kTop E sg_laws_szMatrixS F_laws_szMatrixS)))
theorem laws_szMatrixS.l0_succ (R:Run) (hw:R.ok) (N:Nat) (n:Nat) (a_1:vN) (left_2:Int) (i_3:Int):laws_szMatrixS.l0 R N (n + 1) a_1 left_2 i_3 = (bif (decide (i_3 < (List.length a_1:Int))) then (Option.bind (idx? a_1 i_3) fun y4 => (Option.bind (callT R n_laws_szMatrix o_laws_szMatrix [⟨yI,y4.1⟩,⟨yI,y4.2.1⟩,⟨yI,y4.2.2.1⟩,⟨yL,y4.2.2.2.1⟩,⟨yI,left_2⟩]) fun r5 => (bif (decide (r5.1 < (0:Int))) then some ⟨o_laws_szMatrixS,((-1:Int),())⟩ else (laws_szMatrixS.l0 R N n a_1 r5.1 (w64 (i_3 + (1:Int))))))) else some ⟨o_laws_szMatrixS,(left_2,())⟩) := (hw _ _).trans (by kernel_rfl)
theorem laws_szMatrixS.ev (R:Run) (N:Nat) (a0:vN) (a1:Int):evFn E R sg_laws_szMatrixS pol_laws_szMatrixS F_laws_szMatrixS N [⟨yN,a0⟩,⟨yI,a1⟩] = (bif (decide ((w64 (a1 - (List.length a0:Int))) < (0:Int))) then some ⟨o_laws_szMatrixS,((-1:Int),())⟩ else (laws_szMatrixS.l0 R N N a0 (w64 (a1 - (List.length a0:Int))) (0:Int))) := by kernel_rfl
/-! loop.example/g01005/laws.szSheaf -/
theorem laws_szSheaf.ev (R:Run) (N:Nat) (a0:vK) (a1:Int) (a2:(List Int)) (a3:vN) (a4:Int):evFn E R sg_laws_szSheaf pol_laws_szSheaf F_laws_szSheaf N [⟨yK,a0⟩,⟨yI,a1⟩,⟨yL,a2⟩,⟨yN,a3⟩,⟨yI,a4⟩] = (Option.bind (callT R n_laws_szComplex o_laws_szComplex [⟨yK,a0⟩,⟨yI,a4⟩]) fun r1 => (bif (decide (r1.1 < (0:Int))) then some ⟨o_laws_szSheaf,((-1:Int),())⟩ else (Option.bind (callT R n_laws_szInt64S o_laws_szInt64S [⟨yL,a2⟩,⟨yI,r1.1⟩]) fun r2 => (bif (decide (r2.1 < (0:Int))) then some ⟨o_laws_szSheaf,((-1:Int),())⟩ else (Option.bind (callT R n_laws_szMatrixS o_laws_szMatrixS [⟨yN,a3⟩,⟨yI,r2.1⟩]) fun r3 => (bif (decide (r3.1 < (0:Int))) then some ⟨o_laws_szSheaf,((-1:Int),())⟩ else some ⟨o_laws_szSheaf,(r3.1,())⟩)))))) := by kernel_rfl
/-! loop.example/g01005/laws.toInt64S -/
noncomputable def laws_toInt64S.l0 (R:Run) (N:Nat) (n:Nat) (a_1:(List Int)) (i_2:Int) (o7_3:(List Int)):Option Dv := R.w (some ⟨(.c (.d yL a_1)::(V.dead::(V.dead::(.c (.arr 7)::(.c (.d yI i_2)::(zd 17 [])))))),(zo 7 (some (.arr yI o7_3 true false false)::(zo 15 [])))⟩) fun st => loopC (evCode E R pol_laws_toInt64S N (sub [1,1,0,1,0,0] (bodyOf F_laws_toInt64S))) (maskAt R pol_laws_toInt64S.loopM 3) n st (kBlk (maskAt R pol_laws_toInt64S.blkM 0) 0 (kSeq (maskAt R pol_laws_toInt64S.seqM 6) (evCode E R pol_laws_toInt64S N (sub [1,1,1] (bodyOf F_laws_toInt64S))) (kTop E sg_laws_toInt64S F_laws_toInt64S)))
theorem laws_toInt64S.l0_succ (R:Run) (hw:R.ok) (N:Nat) (n:Nat) (a_1:(List Int)) (i_2:Int) (o7_3:(List Int)):laws_toInt64S.l0 R N (n + 1) a_1 i_2 o7_3 = (bif (decide (i_2 < (List.length a_1:Int))) then (Option.bind (idx? a_1 i_2) fun y4 => (Option.bind (chk (decide (0 ≤ i_2) && decide (i_2 < (List.length o7_3:Int)))) fun _ => (laws_toInt64S.l0 R N n a_1 (w64 (i_2 + (1:Int))) (List.set o7_3 (Int.toNat i_2) (y4,()).1)))) else some ⟨o_laws_toInt64S,(o7_3,())⟩) := (hw _ _).trans (by kernel_rfl)
theorem laws_toInt64S.ev (R:Run) (N:Nat) (a0:(List Int)):evFn E R sg_laws_toInt64S pol_laws_toInt64S F_laws_toInt64S N [⟨yL,a0⟩] = (Option.bind (chk (decide (0 ≤ (List.length a0:Int)) && decide ((List.length a0:Int) * 8 ≤ 70368744177664))) fun _ => (laws_toInt64S.l0 R N N a0 (0:Int) (List.replicate (Int.toNat (List.length a0:Int)) (0:Int)))) := by kernel_rfl
/-! loop.example/g01005/laws.toInt64SS -/
noncomputable def laws_toInt64SS.l0 (R:Run) (N:Nat) (n:Nat) (a_1:vK) (i_2:Int) (o7_3:vK):Option Dv := R.w (some ⟨(.c (.d yK a_1)::(V.dead::(V.dead::(.c (.arr 7)::(.c (.d yI i_2)::(zd 18 [])))))),(zo 7 (some (.arr yL o7_3 true false false)::(zo 17 [])))⟩) fun st => loopC (evCode E R pol_laws_toInt64SS N (sub [1,1,0,1,0,0] (bodyOf F_laws_toInt64SS))) (maskAt R pol_laws_toInt64SS.loopM 3) n st (kBlk (maskAt R pol_laws_toInt64SS.blkM 0) 0 (kSeq (maskAt R pol_laws_toInt64SS.seqM 6) (evCode E R pol_laws_toInt64SS N (sub [1,1,1] (bodyOf F_laws_toInt64SS))) (kTop E sg_laws_toInt64SS F_laws_toInt64SS)))
theorem laws_toInt64SS.l0_succ (R:Run) (hw:R.ok) (N:Nat) (n:Nat) (a_1:vK) (i_2:Int) (o7_3:vK):laws_toInt64SS.l0 R N (n + 1) a_1 i_2 o7_3 = (bif (decide (i_2 < (List.length a_1:Int))) then (Option.bind (idx? a_1 i_2) fun y4 => (Option.bind (callT R n_laws_toInt64S o_laws_toInt64S [⟨yL,(y4,()).1⟩]) fun r5 => (Option.bind (chk (decide (0 ≤ i_2) && decide (i_2 < (List.length o7_3:Int)))) fun _ => (laws_toInt64SS.l0 R N n a_1 (w64 (i_2 + (1:Int))) (List.set o7_3 (Int.toNat i_2) r5.1))))) else some ⟨o_laws_toInt64SS,(o7_3,())⟩) := (hw _ _).trans (by kernel_rfl)
theorem laws_toInt64SS.ev (R:Run) (N:Nat) (a0:vK):evFn E R sg_laws_toInt64SS pol_laws_toInt64SS F_laws_toInt64SS N [⟨yK,a0⟩] = (Option.bind (chk (decide (0 ≤ (List.length a0:Int)) && decide ((List.length a0:Int) * 24 ≤ 70368744177664))) fun _ => (laws_toInt64SS.l0 R N N a0 (0:Int) (List.replicate (Int.toNat (List.length a0:Int)) ([]:List Int)))) := by kernel_rfl
/-! loop.example/g01005/laws.toComplex -/
theorem laws_toComplex.ev (R:Run) (N:Nat) (a0:vK):evFn E R sg_laws_toComplex pol_laws_toComplex F_laws_toComplex N [⟨yK,a0⟩] = (Option.bind (callT R n_laws_toInt64SS o_laws_toInt64SS [⟨yK,a0⟩]) fun r1 => some ⟨o_laws_toComplex,(r1.1,())⟩) := by kernel_rfl
/-! loop.example/g01005/laws.toMatrix -/
theorem laws_toMatrix.ev (R:Run) (N:Nat) (a0:Int) (a1:Int) (a2:Int) (a3:(List Int)):evFn E R sg_laws_toMatrix pol_laws_toMatrix F_laws_toMatrix N [⟨yI,a0⟩,⟨yI,a1⟩,⟨yI,a2⟩,⟨yL,a3⟩] = (Option.bind (callT R n_laws_toInt64S o_laws_toInt64S [⟨yL,a3⟩]) fun r1 => some ⟨o_laws_toMatrix,(a0,a1,a2,r1.1,())⟩) := by kernel_rfl
/-! loop.example/g01005/laws.toMatrixS -/
noncomputable def laws_toMatrixS.l0 (R:Run) (N:Nat) (n:Nat) (a_1:vN) (i_2:Int) (o7_3:vN):Option Dv := R.w (some ⟨(.c (.d yN a_1)::(V.dead::(V.dead::(.c (.arr 7)::(.c (.d yI i_2)::(zd 18 [])))))),(zo 7 (some (.arr (.st yM) o7_3 true false false)::(zo 17 [])))⟩) fun st => loopC (evCode E R pol_laws_toMatrixS N (sub [1,1,0,1,0,0] (bodyOf F_laws_toMatrixS))) (maskAt R pol_laws_toMatrixS.loopM 3) n st (kBlk (maskAt R pol_laws_toMatrixS.blkM 0) 0 (kSeq (maskAt R pol_laws_toMatrixS.seqM 6) (evCode E R pol_laws_toMatrixS N (sub [1,1,1] (bodyOf F_laws_toMatrixS))) (kTop E sg_laws_toMatrixS F_laws_toMatrixS)))
theorem laws_toMatrixS.l0_succ (R:Run) (hw:R.ok) (N:Nat) (n:Nat) (a_1:vN) (i_2:Int) (o7_3:vN):laws_toMatrixS.l0 R N (n + 1) a_1 i_2 o7_3 = (bif (decide (i_2 < (List.length a_1:Int))) then (Option.bind (idx? a_1 i_2) fun y4 => (Option.bind (callT R n_laws_toMatrix o_laws_toMatrix [⟨yI,y4.1⟩,⟨yI,y4.2.1⟩,⟨yI,y4.2.2.1⟩,⟨yL,y4.2.2.2.1⟩]) fun r5 => (Option.bind (chk (decide (0 ≤ i_2) && decide (i_2 < (List.length o7_3:Int)))) fun _ => (laws_toMatrixS.l0 R N n a_1 (w64 (i_2 + (1:Int))) (List.set o7_3 (Int.toNat i_2) (r5.1,r5.2.1,r5.2.2.1,r5.2.2.2.1,())))))) else some ⟨o_laws_toMatrixS,(o7_3,())⟩) := (hw _ _).trans (by kernel_rfl)
theorem laws_toMatrixS.ev (R:Run) (N:Nat) (a0:vN):evFn E R sg_laws_toMatrixS pol_laws_toMatrixS F_laws_toMatrixS N [⟨yN,a0⟩] = (Option.bind (chk (decide (0 ≤ (List.length a0:Int)) && decide ((List.length a0:Int) * 48 ≤ 70368744177664))) fun _ => (laws_toMatrixS.l0 R N N a0 (0:Int) (List.replicate (Int.toNat (List.length a0:Int)) ((0:Int),(0:Int),(0:Int),([]:List Int),())))) := by kernel_rfl
/-! loop.example/g01005/laws.toSheaf -/
theorem laws_toSheaf.ev (R:Run) (N:Nat) (a0:vK) (a1:Int) (a2:(List Int)) (a3:vN):evFn E R sg_laws_toSheaf pol_laws_toSheaf F_laws_toSheaf N [⟨yK,a0⟩,⟨yI,a1⟩,⟨yL,a2⟩,⟨yN,a3⟩] = (Option.bind (callT R n_laws_toComplex o_laws_toComplex [⟨yK,a0⟩]) fun r1 => (Option.bind (callT R n_laws_toInt64S o_laws_toInt64S [⟨yL,a2⟩]) fun r2 => (Option.bind (callT R n_laws_toMatrixS o_laws_toMatrixS [⟨yN,a3⟩]) fun r3 => some ⟨o_laws_toSheaf,(r1.1,a1,r2.1,r3.1,())⟩))) := by kernel_rfl
/-! loop.example/g01005/spec.l00In -/
theorem spec_l00In.ev (R:Run) (N:Nat) (a0:Int) (a1:Int) (a2:Int):evFn E R sg_spec_l00In pol_spec_l00In F_spec_l00In N [⟨yI,a0⟩,⟨yI,a1⟩,⟨yI,a2⟩] = (bif (decide (a0 ≥ a1)) then some ⟨o_spec_l00In,((decide (a0 ≤ a2)),())⟩ else some ⟨o_spec_l00In,(false,())⟩) := by kernel_rfl
/-! loop.example/g01005/spec.l00Rises -/
noncomputable def spec_l00Rises.j1 (R:Run) (N:Nat) (n00_:Nat) (list_7:(List Int)) (low_8:Int) (high_9:Int) (i_10:Int) (t37__11:Bool):Option Dv := R.w (some ⟨(.c (.d yL list_7)::(.c (.d yI low_8)::(.c (.d yI high_9)::(zd 4 (.c (.d yI i_10)::(zd 29 (.c (.d .bool t37__11)::[]))))))),(zo 41 [])⟩) fun st => evCode E R pol_spec_l00Rises N (sub [1,0,1,0,0,1,0,0,1] (bodyOf F_spec_l00Rises)) st (kBlk (maskAt R pol_spec_l00Rises.blkM 1) 1 (kSeq (maskAt R pol_spec_l00Rises.seqM 3) (evCode E R pol_spec_l00Rises N (sub [1,0,1,0,0,1,1] (bodyOf F_spec_l00Rises))) (kLoop (evCode E R pol_spec_l00Rises N (sub [1,0,1,0,0] (bodyOf F_spec_l00Rises))) (maskAt R pol_spec_l00Rises.loopM 2) n00_ (kBlk (maskAt R pol_spec_l00Rises.blkM 0) 0 (kSeq (maskAt R pol_spec_l00Rises.seqM 6) (evCode E R pol_spec_l00Rises N (sub [1,1] (bodyOf F_spec_l00Rises))) (kTop E sg_spec_l00Rises F_spec_l00Rises))))))
noncomputable def spec_l00Rises.l0 (R:Run) (N:Nat) (n:Nat) (list_1:(List Int)) (low_2:Int) (high_3:Int) (i_4:Int):Option Dv := R.w (some ⟨(.c (.d yL list_1)::(.c (.d yI low_2)::(.c (.d yI high_3)::(zd 4 (.c (.d yI i_4)::(zd 30 [])))))),(zo 41 [])⟩) fun st => loopC (evCode E R pol_spec_l00Rises N (sub [1,0,1,0,0] (bodyOf F_spec_l00Rises))) (maskAt R pol_spec_l00Rises.loopM 2) n st (kBlk (maskAt R pol_spec_l00Rises.blkM 0) 0 (kSeq (maskAt R pol_spec_l00Rises.seqM 6) (evCode E R pol_spec_l00Rises N (sub [1,1] (bodyOf F_spec_l00Rises))) (kTop E sg_spec_l00Rises F_spec_l00Rises)))
theorem spec_l00Rises.j1_eq (R:Run) (hw:R.ok) (N:Nat) (n00_:Nat) (list_7:(List Int)) (low_8:Int) (high_9:Int) (i_10:Int) (t37__11:Bool):spec_l00Rises.j1 R N n00_ list_7 low_8 high_9 i_10 t37__11 = (bif t37__11 then some ⟨o_spec_l00Rises,(false,())⟩ else (spec_l00Rises.l0 R N n00_ list_7 low_8 high_9 (w64 (i_10 + (1:Int))))) := (hw _ _).trans (by kernel_rfl)
theorem spec_l00Rises.l0_succ (R:Run) (hw:R.ok) (N:Nat) (n:Nat) (list_1:(List Int)) (low_2:Int) (high_3:Int) (i_4:Int):spec_l00Rises.l0 R N (n + 1) list_1 low_2 high_3 i_4 = (bif (decide (i_4 < (List.length list_1:Int))) then (Option.bind (idx? list_1 i_4) fun y5 => (Option.bind (callT R n_spec_l00In o_spec_l00In [⟨yI,(y5,()).1⟩,⟨yI,low_2⟩,⟨yI,high_3⟩]) fun r6 => (bif (!r6.1) then (spec_l00Rises.j1 R N n list_1 low_2 high_3 i_4 true) else (bif (decide (i_4 > (0:Int))) then (Option.bind (idx? list_1 (w64 (i_4 - (1:Int)))) fun y16 => (Option.bind (idx? list_1 i_4) fun y17 => (spec_l00Rises.j1 R N n list_1 low_2 high_3 i_4 (decide ((y16,()).1 ≥ (y17,()).1))))) else (spec_l00Rises.j1 R N n list_1 low_2 high_3 i_4 false))))) else some ⟨o_spec_l00Rises,(true,())⟩) := (hw _ _).trans (by kernel_rfl)
theorem spec_l00Rises.ev (R:Run) (N:Nat) (a0:(List Int)) (a1:Int) (a2:Int):evFn E R sg_spec_l00Rises pol_spec_l00Rises F_spec_l00Rises N [⟨yL,a0⟩,⟨yI,a1⟩,⟨yI,a2⟩] = (spec_l00Rises.l0 R N N a0 a1 a2 (0:Int)) := by kernel_rfl
/-! loop.example/g01005/spec.l05Simplex -/
theorem spec_l05Simplex.ev (R:Run) (N:Nat) (a0:(List Int)):evFn E R sg_spec_l05Simplex pol_spec_l05Simplex F_spec_l05Simplex N [⟨yL,a0⟩] = (Option.bind (callT R n_spec_l00In o_spec_l00In [⟨yI,(List.length a0:Int)⟩,⟨yI,(1:Int)⟩,⟨yI,(4:Int)⟩]) fun r1 => (bif r1.1 then (Option.bind (callT R n_spec_l00Rises o_spec_l00Rises [⟨yL,a0⟩,⟨yI,(0:Int)⟩,⟨yI,(9:Int)⟩]) fun r2 => some ⟨o_spec_l05Simplex,(r2.1,())⟩) else some ⟨o_spec_l05Simplex,(false,())⟩)) := by kernel_rfl
/-! loop.example/g01005/spec.l05Before -/
noncomputable def spec_l05Before.l0 (R:Run) (N:Nat) (n:Nat) (a_1:(List Int)) (b_2:(List Int)) (i_3:Int):Option Dv := R.w (some ⟨(.c (.d yL a_1)::(.c (.d yL b_2)::(zd 3 (.c (.d yI i_3)::(zd 34 []))))),(zo 42 [])⟩) fun st => loopC (evCode E R pol_spec_l05Before N (sub [1,1,0,1,0,0] (bodyOf F_spec_l05Before))) (maskAt R pol_spec_l05Before.loopM 4) n st (kBlk (maskAt R pol_spec_l05Before.blkM 0) 0 (kSeq (maskAt R pol_spec_l05Before.seqM 8) (evCode E R pol_spec_l05Before N (sub [1,1,1] (bodyOf F_spec_l05Before))) (kTop E sg_spec_l05Before F_spec_l05Before)))
theorem spec_l05Before.l0_succ (R:Run) (hw:R.ok) (N:Nat) (n:Nat) (a_1:(List Int)) (b_2:(List Int)) (i_3:Int):spec_l05Before.l0 R N (n + 1) a_1 b_2 i_3 = (bif (decide (i_3 < (List.length a_1:Int))) then (Option.bind (idx? a_1 i_3) fun y4 => (Option.bind (idx? b_2 i_3) fun y5 => (bif ((y4,()).1 != (y5,()).1) then (Option.bind (idx? a_1 i_3) fun y6 => (Option.bind (idx? b_2 i_3) fun y7 => some ⟨o_spec_l05Before,((decide ((y6,()).1 < (y7,()).1)),())⟩)) else (spec_l05Before.l0 R N n a_1 b_2 (w64 (i_3 + (1:Int))))))) else some ⟨o_spec_l05Before,(false,())⟩) := (hw _ _).trans (by kernel_rfl)
theorem spec_l05Before.ev (R:Run) (N:Nat) (a0:(List Int)) (a1:(List Int)):evFn E R sg_spec_l05Before pol_spec_l05Before F_spec_l05Before N [⟨yL,a0⟩,⟨yL,a1⟩] = (bif ((List.length a0:Int) != (List.length a1:Int)) then some ⟨o_spec_l05Before,((decide ((List.length a0:Int) < (List.length a1:Int))),())⟩ else (spec_l05Before.l0 R N N a0 a1 (0:Int))) := by kernel_rfl
/-! loop.example/g01005/spec.l00Own -/
theorem spec_l00Own.ev (R:Run) (N:Nat) (a0:(List Int)):evFn E R sg_spec_l00Own pol_spec_l00Own F_spec_l00Own N [⟨yL,a0⟩] = (Option.bind (chk (decide ((List.length ([]:List Int) + List.length a0) * 8 ≤ 70368744177664))) fun _ => some ⟨o_spec_l00Own,((([]:List Int) ++ a0),())⟩) := by kernel_rfl
/-! loop.example/g01005/spec.l05Drop -/
theorem spec_l05Drop.ev (R:Run) (N:Nat) (a0:(List Int)) (a1:Int):evFn E R sg_spec_l05Drop pol_spec_l05Drop F_spec_l05Drop N [⟨yL,a0⟩,⟨yI,a1⟩] = (Option.bind (chk (decide (0 ≤ a1) && decide (a1 ≤ (List.length a0:Int)))) fun _ => (Option.bind (callT R n_spec_l00Own o_spec_l00Own [⟨yL,(List.take (Int.toNat a1) a0)⟩]) fun r1 => (Option.bind (chk (decide (0 ≤ (w64 (a1 + (1:Int)))) && decide ((w64 (a1 + (1:Int))) ≤ (List.length a0:Int)))) fun _ => (Option.bind (chk (decide ((List.length r1.1 + List.length (List.drop (Int.toNat (w64 (a1 + (1:Int)))) a0)) * 8 ≤ 70368744177664))) fun _ => some ⟨o_spec_l05Drop,((r1.1 ++ (List.drop (Int.toNat (w64 (a1 + (1:Int)))) a0)),())⟩)))) := by kernel_rfl
/-! loop.example/g01005/spec.l00Same -/
noncomputable def spec_l00Same.l0 (R:Run) (N:Nat) (n:Nat) (a_1:(List Int)) (b_2:(List Int)) (i_3:Int):Option Dv := R.w (some ⟨(.c (.d yL a_1)::(.c (.d yL b_2)::(zd 3 (.c (.d yI i_3)::(zd 20 []))))),(zo 28 [])⟩) fun st => loopC (evCode E R pol_spec_l00Same N (sub [1,1,0,1,0,0] (bodyOf F_spec_l00Same))) (maskAt R pol_spec_l00Same.loopM 4) n st (kBlk (maskAt R pol_spec_l00Same.blkM 0) 0 (kSeq (maskAt R pol_spec_l00Same.seqM 8) (evCode E R pol_spec_l00Same N (sub [1,1,1] (bodyOf F_spec_l00Same))) (kTop E sg_spec_l00Same F_spec_l00Same)))
theorem spec_l00Same.l0_succ (R:Run) (hw:R.ok) (N:Nat) (n:Nat) (a_1:(List Int)) (b_2:(List Int)) (i_3:Int):spec_l00Same.l0 R N (n + 1) a_1 b_2 i_3 = (bif (decide (i_3 < (List.length a_1:Int))) then (Option.bind (idx? a_1 i_3) fun y4 => (Option.bind (idx? b_2 i_3) fun y5 => (bif ((y4,()).1 != (y5,()).1) then some ⟨o_spec_l00Same,(false,())⟩ else (spec_l00Same.l0 R N n a_1 b_2 (w64 (i_3 + (1:Int))))))) else some ⟨o_spec_l00Same,(true,())⟩) := (hw _ _).trans (by kernel_rfl)
theorem spec_l00Same.ev (R:Run) (N:Nat) (a0:(List Int)) (a1:(List Int)):evFn E R sg_spec_l00Same pol_spec_l00Same F_spec_l00Same N [⟨yL,a0⟩,⟨yL,a1⟩] = (bif ((List.length a0:Int) != (List.length a1:Int)) then some ⟨o_spec_l00Same,(false,())⟩ else (spec_l00Same.l0 R N N a0 a1 (0:Int))) := by kernel_rfl
/-! loop.example/g01005/spec.l05Find -/
noncomputable def spec_l05Find.l0 (R:Run) (N:Nat) (n:Nat) (c_1:(vK × Unit)) (s_2:(List Int)) (i_3:Int):Option Dv := R.w (some ⟨(.c (.ip (.cons yK .nil) c_1 0)::(.c (.d yL s_2)::(zd 3 (.c (.d yI i_3)::(zd 19 []))))),(zo 27 [])⟩) fun st => loopC (evCode E R pol_spec_l05Find N (sub [1,0,1,0,0] (bodyOf F_spec_l05Find))) (maskAt R pol_spec_l05Find.loopM 2) n st (kBlk (maskAt R pol_spec_l05Find.blkM 0) 0 (kSeq (maskAt R pol_spec_l05Find.seqM 6) (evCode E R pol_spec_l05Find N (sub [1,1] (bodyOf F_spec_l05Find))) (kTop E sg_spec_l05Find F_spec_l05Find)))
theorem spec_l05Find.l0_succ (R:Run) (hw:R.ok) (N:Nat) (n:Nat) (c_1:(vK × Unit)) (s_2:(List Int)) (i_3:Int):spec_l05Find.l0 R N (n + 1) c_1 s_2 i_3 = (bif (decide (i_3 < (List.length c_1.1:Int))) then (Option.bind (idx? c_1.1 i_3) fun y4 => (Option.bind (callT R n_spec_l00Same o_spec_l00Same [⟨yL,(y4,()).1⟩,⟨yL,s_2⟩]) fun r5 => (bif r5.1 then some ⟨o_spec_l05Find,(i_3,())⟩ else (spec_l05Find.l0 R N n c_1 s_2 (w64 (i_3 + (1:Int))))))) else some ⟨o_spec_l05Find,((-1:Int),())⟩) := (hw _ _).trans (by kernel_rfl)
theorem spec_l05Find.ev (R:Run) (N:Nat) (a0:(vK × Unit)) (a1:(List Int)):evFn E R sg_spec_l05Find pol_spec_l05Find F_spec_l05Find N [⟨(.ptr (.cons yK .nil)),a0⟩,⟨yL,a1⟩] = (spec_l05Find.l0 R N N a0 a1 (0:Int)) := by kernel_rfl
/-! loop.example/g01005/spec.l05Ok -/
noncomputable def spec_l05Ok.j3 (R:Run) (N:Nat) (n01_:Nat) (n02_:Nat) (t0__13:(vK × Unit)) (t3__14:Int) (t4__15:(List Int)) (t5__16:Int) (t56__17:Bool):Option Dv := R.w (some ⟨(.c (.ip (.cons yK .nil) t0__13 0)::(V.dead::(V.dead::(.c (.d yI t3__14)::(.c (.d yL t4__15)::(.c (.d yI t5__16)::(zd 50 (.c (.d .bool t56__17)::(zd 8 []))))))))),(zo 66 [])⟩) fun st => evCode E R pol_spec_l05Ok N (sub [1,1,0,1,0,0,1,0,0,1,1,1,0,0,0,1] (bodyOf F_spec_l05Ok)) st (kSeq (maskAt R pol_spec_l05Ok.seqM 12) (evCode E R pol_spec_l05Ok N (sub [1,1,0,1,0,0,1,0,0,1,1,1,0,0,1] (bodyOf F_spec_l05Ok))) (kLoop (evCode E R pol_spec_l05Ok N (sub [1,1,0,1,0,0,1,0,0,1,1,1,0,0] (bodyOf F_spec_l05Ok))) (maskAt R pol_spec_l05Ok.loopM 10) n02_ (kBlk (maskAt R pol_spec_l05Ok.blkM 2) 2 (kBlk (maskAt R pol_spec_l05Ok.blkM 1) 1 (kSeq (maskAt R pol_spec_l05Ok.seqM 5) (evCode E R pol_spec_l05Ok N (sub [1,1,0,1,0,0,1,1] (bodyOf F_spec_l05Ok))) (kLoop (evCode E R pol_spec_l05Ok N (sub [1,1,0,1,0,0] (bodyOf F_spec_l05Ok))) (maskAt R pol_spec_l05Ok.loopM 4) n01_ (kBlk (maskAt R pol_spec_l05Ok.blkM 0) 0 (kSeq (maskAt R pol_spec_l05Ok.seqM 14) (evCode E R pol_spec_l05Ok N (sub [1,1,1] (bodyOf F_spec_l05Ok))) (kTop E sg_spec_l05Ok F_spec_l05Ok)))))))))
noncomputable def spec_l05Ok.l2 (R:Run) (N:Nat) (n01_:Nat) (n:Nat) (t0__9:(vK × Unit)) (t3__10:Int) (t4__11:(List Int)) (t5__12:Int):Option Dv := R.w (some ⟨(.c (.ip (.cons yK .nil) t0__9 0)::(V.dead::(V.dead::(.c (.d yI t3__10)::(.c (.d yL t4__11)::(.c (.d yI t5__12)::(zd 59 []))))))),(zo 66 [])⟩) fun st => loopC (evCode E R pol_spec_l05Ok N (sub [1,1,0,1,0,0,1,0,0,1,1,1,0,0] (bodyOf F_spec_l05Ok))) (maskAt R pol_spec_l05Ok.loopM 10) n st (kBlk (maskAt R pol_spec_l05Ok.blkM 2) 2 (kBlk (maskAt R pol_spec_l05Ok.blkM 1) 1 (kSeq (maskAt R pol_spec_l05Ok.seqM 5) (evCode E R pol_spec_l05Ok N (sub [1,1,0,1,0,0,1,1] (bodyOf F_spec_l05Ok))) (kLoop (evCode E R pol_spec_l05Ok N (sub [1,1,0,1,0,0] (bodyOf F_spec_l05Ok))) (maskAt R pol_spec_l05Ok.loopM 4) n01_ (kBlk (maskAt R pol_spec_l05Ok.blkM 0) 0 (kSeq (maskAt R pol_spec_l05Ok.seqM 14) (evCode E R pol_spec_l05Ok N (sub [1,1,1] (bodyOf F_spec_l05Ok))) (kTop E sg_spec_l05Ok F_spec_l05Ok)))))))
noncomputable def spec_l05Ok.j1 (R:Run) (N:Nat) (n01_:Nat) (t0__5:(vK × Unit)) (t3__6:Int) (t4__7:(List Int)) (t47__8:Bool):Option Dv := R.w (some ⟨(.c (.ip (.cons yK .nil) t0__5 0)::(V.dead::(V.dead::(.c (.d yI t3__6)::(.c (.d yL t4__7)::(zd 42 (.c (.d .bool t47__8)::(zd 17 [])))))))),(zo 66 [])⟩) fun st => evCode E R pol_spec_l05Ok N (sub [1,1,0,1,0,0,1,0,0,1,0,1] (bodyOf F_spec_l05Ok)) st (kSeq (maskAt R pol_spec_l05Ok.seqM 9) (evCode E R pol_spec_l05Ok N (sub [1,1,0,1,0,0,1,0,0,1,1] (bodyOf F_spec_l05Ok))) (kBlk (maskAt R pol_spec_l05Ok.blkM 1) 1 (kSeq (maskAt R pol_spec_l05Ok.seqM 5) (evCode E R pol_spec_l05Ok N (sub [1,1,0,1,0,0,1,1] (bodyOf F_spec_l05Ok))) (kLoop (evCode E R pol_spec_l05Ok N (sub [1,1,0,1,0,0] (bodyOf F_spec_l05Ok))) (maskAt R pol_spec_l05Ok.loopM 4) n01_ (kBlk (maskAt R pol_spec_l05Ok.blkM 0) 0 (kSeq (maskAt R pol_spec_l05Ok.seqM 14) (evCode E R pol_spec_l05Ok N (sub [1,1,1] (bodyOf F_spec_l05Ok))) (kTop E sg_spec_l05Ok F_spec_l05Ok)))))))
noncomputable def spec_l05Ok.l0 (R:Run) (N:Nat) (n:Nat) (t0__1:(vK × Unit)) (t3__2:Int):Option Dv := R.w (some ⟨(.c (.ip (.cons yK .nil) t0__1 0)::(V.dead::(V.dead::(.c (.d yI t3__2)::(zd 61 []))))),(zo 66 [])⟩) fun st => loopC (evCode E R pol_spec_l05Ok N (sub [1,1,0,1,0,0] (bodyOf F_spec_l05Ok))) (maskAt R pol_spec_l05Ok.loopM 4) n st (kBlk (maskAt R pol_spec_l05Ok.blkM 0) 0 (kSeq (maskAt R pol_spec_l05Ok.seqM 14) (evCode E R pol_spec_l05Ok N (sub [1,1,1] (bodyOf F_spec_l05Ok))) (kTop E sg_spec_l05Ok F_spec_l05Ok)))
theorem spec_l05Ok.j3_eq (R:Run) (hw:R.ok) (N:Nat) (n01_:Nat) (n02_:Nat) (t0__13:(vK × Unit)) (t3__14:Int) (t4__15:(List Int)) (t5__16:Int) (t56__17:Bool):spec_l05Ok.j3 R N n01_ n02_ t0__13 t3__14 t4__15 t5__16 t56__17 = (bif t56__17 then (Option.bind (callT R n_spec_l05Drop o_spec_l05Drop [⟨yL,t4__15⟩,⟨yI,t5__16⟩]) fun r18 => (Option.bind (callT R n_spec_l05Find o_spec_l05Find [⟨(.ptr (.cons yK .nil)),t0__13⟩,⟨yL,r18.1⟩]) fun r19 => (bif (decide (r19.1 < (0:Int))) then some ⟨o_spec_l05Ok,(false,())⟩ else (spec_l05Ok.l2 R N n01_ n02_ t0__13 t3__14 t4__15 (w64 (t5__16 + (1:Int))))))) else (spec_l05Ok.l0 R N n01_ t0__13 (w64 (t3__14 + (1:Int))))) := (hw _ _).trans (by kernel_rfl)
theorem spec_l05Ok.l2_succ (R:Run) (hw:R.ok) (N:Nat) (n01_:Nat) (n:Nat) (t0__9:(vK × Unit)) (t3__10:Int) (t4__11:(List Int)) (t5__12:Int):spec_l05Ok.l2 R N n01_ (n + 1) t0__9 t3__10 t4__11 t5__12 = (bif (decide (t5__12 < (List.length t4__11:Int))) then (spec_l05Ok.j3 R N n01_ n t0__9 t3__10 t4__11 t5__12 (decide ((List.length t4__11:Int) > (1:Int)))) else (spec_l05Ok.j3 R N n01_ n t0__9 t3__10 t4__11 t5__12 false)) := (hw _ _).trans (by kernel_rfl)
theorem spec_l05Ok.j1_eq (R:Run) (hw:R.ok) (N:Nat) (n01_:Nat) (t0__5:(vK × Unit)) (t3__6:Int) (t4__7:(List Int)) (t47__8:Bool):spec_l05Ok.j1 R N n01_ t0__5 t3__6 t4__7 t47__8 = (bif t47__8 then some ⟨o_spec_l05Ok,(false,())⟩ else (spec_l05Ok.l2 R N n01_ N t0__5 t3__6 t4__7 (0:Int))) := (hw _ _).trans (by kernel_rfl)
theorem spec_l05Ok.l0_succ (R:Run) (hw:R.ok) (N:Nat) (n:Nat) (t0__1:(vK × Unit)) (t3__2:Int):spec_l05Ok.l0 R N (n + 1) t0__1 t3__2 = (bif (decide (t3__2 < (List.length t0__1.1:Int))) then (Option.bind (idx? t0__1.1 t3__2) fun y3 => (Option.bind (callT R n_spec_l05Simplex o_spec_l05Simplex [⟨yL,(y3,()).1⟩]) fun r4 => (bif (!r4.1) then (spec_l05Ok.j1 R N n t0__1 t3__2 ((y3,()).1) true) else (bif (decide (t3__2 > (0:Int))) then (Option.bind (idx? t0__1.1 (w64 (t3__2 - (1:Int)))) fun y31 => (Option.bind (callT R n_spec_l05Before o_spec_l05Before [⟨yL,(y31,()).1⟩,⟨yL,(y3,()).1⟩]) fun r32 => (spec_l05Ok.j1 R N n t0__1 t3__2 ((y3,()).1) (!r32.1)))) else (spec_l05Ok.j1 R N n t0__1 t3__2 ((y3,()).1) false))))) else some ⟨o_spec_l05Ok,(true,())⟩) := (hw _ _).trans (by kernel_rfl)
theorem spec_l05Ok.ev (R:Run) (N:Nat) (a0:(vK × Unit)):evFn E R sg_spec_l05Ok pol_spec_l05Ok F_spec_l05Ok N [⟨(.ptr (.cons yK .nil)),a0⟩] = (bif (decide ((List.length a0.1:Int) > (48:Int))) then some ⟨o_spec_l05Ok,(false,())⟩ else (spec_l05Ok.l0 R N N a0 (0:Int))) := by kernel_rfl
/-! loop.example/g01005/spec.l02Prime -/
noncomputable def spec_l02Prime.l0 (R:Run) (N:Nat) (n:Nat) (p_2:Int) (k_3:Int):Option Dv := R.w (some ⟨(.c (.d yI p_2)::(V.dead::(V.dead::(.c (.d yI k_3)::(zd 14 []))))),(zo 19 [])⟩) fun st => loopC (evCode E R pol_spec_l02Prime N (sub [1,1,0,1,0,0] (bodyOf F_spec_l02Prime))) (maskAt R pol_spec_l02Prime.loopM 4) n st (kBlk (maskAt R pol_spec_l02Prime.blkM 0) 0 (kSeq (maskAt R pol_spec_l02Prime.seqM 8) (evCode E R pol_spec_l02Prime N (sub [1,1,1] (bodyOf F_spec_l02Prime))) (kTop E sg_spec_l02Prime F_spec_l02Prime)))
theorem spec_l02Prime.l0_succ (R:Run) (hw:R.ok) (N:Nat) (n:Nat) (p_2:Int) (k_3:Int):spec_l02Prime.l0 R N (n + 1) p_2 k_3 = (bif (decide ((w64 (k_3 * k_3)) ≤ p_2)) then (Option.bind (chk (k_3 != 0)) fun _ => (bif ((Int.tmod p_2 k_3) == (0:Int)) then some ⟨o_spec_l02Prime,(false,())⟩ else (spec_l02Prime.l0 R N n p_2 (w64 (k_3 + (1:Int)))))) else some ⟨o_spec_l02Prime,(true,())⟩) := (hw _ _).trans (by kernel_rfl)
theorem spec_l02Prime.ev (R:Run) (N:Nat) (a0:Int):evFn E R sg_spec_l02Prime pol_spec_l02Prime F_spec_l02Prime N [⟨yI,a0⟩] = (Option.bind (callT R n_spec_l00In o_spec_l00In [⟨yI,a0⟩,⟨yI,(2:Int)⟩,⟨yI,(251:Int)⟩]) fun r1 => (bif (!r1.1) then some ⟨o_spec_l02Prime,(false,())⟩ else (spec_l02Prime.l0 R N N a0 (2:Int)))) := by kernel_rfl
/-! loop.example/g01005/spec.ValidPrime -/
theorem spec_ValidPrime.ev (R:Run) (N:Nat) (a0:Int):evFn E R sg_spec_ValidPrime pol_spec_ValidPrime F_spec_ValidPrime N [⟨yI,a0⟩] = (Option.bind (callT R n_spec_l02Prime o_spec_l02Prime [⟨yI,a0⟩]) fun r1 => some ⟨o_spec_ValidPrime,(r1.1,())⟩) := by kernel_rfl
/-! loop.example/g01005/spec.l09Place -/
noncomputable def spec_l09Place.l0 (R:Run) (N:Nat) (n:Nat) (c_1:(vK × Unit)) (simplex_2:Int) (i_3:Int) (at_4:Int) (k_5:Int):Option Dv := R.w (some ⟨(.c (.ip (.cons yK .nil) c_1 0)::(.c (.d yI simplex_2)::(.c (.d yI i_3)::(zd 4 (.c (.d yI at_4)::(.c (.d yI k_5)::(zd 27 []))))))),(zo 39 [])⟩) fun st => loopC (evCode E R pol_spec_l09Place N (sub [1,1,0,1,0,0] (bodyOf F_spec_l09Place))) (maskAt R pol_spec_l09Place.loopM 3) n st (kBlk (maskAt R pol_spec_l09Place.blkM 0) 0 (kSeq (maskAt R pol_spec_l09Place.seqM 7) (evCode E R pol_spec_l09Place N (sub [1,1,1] (bodyOf F_spec_l09Place))) (kTop E sg_spec_l09Place F_spec_l09Place)))
theorem spec_l09Place.l0_succ (R:Run) (hw:R.ok) (N:Nat) (n:Nat) (c_1:(vK × Unit)) (simplex_2:Int) (i_3:Int) (at_4:Int) (k_5:Int):spec_l09Place.l0 R N (n + 1) c_1 simplex_2 i_3 at_4 k_5 = (bif (decide (k_5 < simplex_2)) then (Option.bind (idx? c_1.1 k_5) fun y6 => (bif (decide ((List.length (y6,()).1:Int) > (1:Int))) then (Option.bind (idx? c_1.1 k_5) fun y7 => (spec_l09Place.l0 R N n c_1 simplex_2 i_3 (w64 (at_4 + (List.length (y7,()).1:Int))) (w64 (k_5 + (1:Int))))) else (spec_l09Place.l0 R N n c_1 simplex_2 i_3 at_4 (w64 (k_5 + (1:Int)))))) else some ⟨o_spec_l09Place,((w64 (at_4 + i_3)),())⟩) := (hw _ _).trans (by kernel_rfl)
theorem spec_l09Place.ev (R:Run) (N:Nat) (a0:(vK × Unit)) (a1:Int) (a2:Int):evFn E R sg_spec_l09Place pol_spec_l09Place F_spec_l09Place N [⟨(.ptr (.cons yK .nil)),a0⟩,⟨yI,a1⟩,⟨yI,a2⟩] = (spec_l09Place.l0 R N N a0 a1 a2 (0:Int) (0:Int)) := by kernel_rfl
/-! loop.example/g01005/spec.l05Faces -/
noncomputable def spec_l05Faces.j1 (R:Run) (N:Nat) (n03_:Nat) (c_6:(vK × Unit)) (s_7:(List Int)) (i_8:Int) (t24__9:Bool) (o15_10:(List Int)):Option Dv := R.w (some ⟨(.c (.ip (.cons yK .nil) c_6 0)::(zd 4 (.c (.d yL s_7)::(.c (.arr 15)::(.c (.d yI i_8)::(zd 16 (.c (.d .bool t24__9)::(zd 11 [])))))))),(zo 15 (some (.arr yI o15_10 true false false)::(zo 22 [])))⟩) fun st => evCode E R pol_spec_l05Faces N (sub [1,1,1,0,1,0,0,0,1] (bodyOf F_spec_l05Faces)) st (kSeq (maskAt R pol_spec_l05Faces.seqM 6) (evCode E R pol_spec_l05Faces N (sub [1,1,1,0,1,0,0,1] (bodyOf F_spec_l05Faces))) (kLoop (evCode E R pol_spec_l05Faces N (sub [1,1,1,0,1,0,0] (bodyOf F_spec_l05Faces))) (maskAt R pol_spec_l05Faces.loopM 4) n03_ (kBlk (maskAt R pol_spec_l05Faces.blkM 0) 0 (kSeq (maskAt R pol_spec_l05Faces.seqM 7) (evCode E R pol_spec_l05Faces N (sub [1,1,1,1] (bodyOf F_spec_l05Faces))) (kTop E sg_spec_l05Faces F_spec_l05Faces)))))
noncomputable def spec_l05Faces.l0 (R:Run) (N:Nat) (n:Nat) (c_2:(vK × Unit)) (s_3:(List Int)) (i_4:Int) (o15_5:(List Int)):Option Dv := R.w (some ⟨(.c (.ip (.cons yK .nil) c_2 0)::(zd 4 (.c (.d yL s_3)::(.c (.arr 15)::(.c (.d yI i_4)::(zd 28 [])))))),(zo 15 (some (.arr yI o15_5 true false false)::(zo 22 [])))⟩) fun st => loopC (evCode E R pol_spec_l05Faces N (sub [1,1,1,0,1,0,0] (bodyOf F_spec_l05Faces))) (maskAt R pol_spec_l05Faces.loopM 4) n st (kBlk (maskAt R pol_spec_l05Faces.blkM 0) 0 (kSeq (maskAt R pol_spec_l05Faces.seqM 7) (evCode E R pol_spec_l05Faces N (sub [1,1,1,1] (bodyOf F_spec_l05Faces))) (kTop E sg_spec_l05Faces F_spec_l05Faces)))
theorem spec_l05Faces.j1_eq (R:Run) (hw:R.ok) (N:Nat) (n03_:Nat) (c_6:(vK × Unit)) (s_7:(List Int)) (i_8:Int) (t24__9:Bool) (o15_10:(List Int)):spec_l05Faces.j1 R N n03_ c_6 s_7 i_8 t24__9 o15_10 = (bif t24__9 then (Option.bind (callT R n_spec_l05Drop o_spec_l05Drop [⟨yL,s_7⟩,⟨yI,i_8⟩]) fun r11 => (Option.bind (callT R n_spec_l05Find o_spec_l05Find [⟨(.ptr (.cons yK .nil)),c_6⟩,⟨yL,r11.1⟩]) fun r12 => (Option.bind (chk (decide ((List.length o15_10 + List.length [r12.1]) * 8 ≤ 70368744177664))) fun _ => (spec_l05Faces.l0 R N n03_ c_6 s_7 (w64 (i_8 + (1:Int))) (o15_10 ++ [r12.1]))))) else some ⟨o_spec_l05Faces,(o15_10,())⟩) := (hw _ _).trans (by kernel_rfl)
theorem spec_l05Faces.l0_succ (R:Run) (hw:R.ok) (N:Nat) (n:Nat) (c_2:(vK × Unit)) (s_3:(List Int)) (i_4:Int) (o15_5:(List Int)):spec_l05Faces.l0 R N (n + 1) c_2 s_3 i_4 o15_5 = (bif (decide (i_4 < (List.length s_3:Int))) then (spec_l05Faces.j1 R N n c_2 s_3 i_4 (decide ((List.length s_3:Int) > (1:Int))) o15_5) else (spec_l05Faces.j1 R N n c_2 s_3 i_4 false o15_5)) := (hw _ _).trans (by kernel_rfl)
theorem spec_l05Faces.ev (R:Run) (N:Nat) (a0:(vK × Unit)) (a1:Int):evFn E R sg_spec_l05Faces pol_spec_l05Faces F_spec_l05Faces N [⟨(.ptr (.cons yK .nil)),a0⟩,⟨yI,a1⟩] = (Option.bind (idx? a0.1 a1) fun y1 => (spec_l05Faces.l0 R N N a0 ((y1,()).1) (0:Int) ([]:List Int))) := by kernel_rfl
/-! loop.example/g01005/spec.l03Column -/
noncomputable def spec_l03Column.l0 (R:Run) (N:Nat) (n:Nat) (v_1:(List Int)) (n_2:Int) (p_3:Int) (i_4:Int):Option Dv := R.w (some ⟨(.c (.d yL v_1)::(.c (.d yI n_2)::(.c (.d yI p_3)::(zd 4 (.c (.d yI i_4)::(zd 18 [])))))),(zo 29 [])⟩) fun st => loopC (evCode E R pol_spec_l03Column N (sub [1,0,1,0,0] (bodyOf F_spec_l03Column))) (maskAt R pol_spec_l03Column.loopM 2) n st (kBlk (maskAt R pol_spec_l03Column.blkM 0) 0 (kSeq (maskAt R pol_spec_l03Column.seqM 6) (evCode E R pol_spec_l03Column N (sub [1,1] (bodyOf F_spec_l03Column))) (kTop E sg_spec_l03Column F_spec_l03Column)))
theorem spec_l03Column.l0_succ (R:Run) (hw:R.ok) (N:Nat) (n:Nat) (v_1:(List Int)) (n_2:Int) (p_3:Int) (i_4:Int):spec_l03Column.l0 R N (n + 1) v_1 n_2 p_3 i_4 = (bif (decide (i_4 < (List.length v_1:Int))) then (Option.bind (idx? v_1 i_4) fun y5 => (Option.bind (callT R n_spec_l00In o_spec_l00In [⟨yI,(y5,()).1⟩,⟨yI,(0:Int)⟩,⟨yI,(w64 (p_3 - (1:Int)))⟩]) fun r6 => (bif (!r6.1) then some ⟨o_spec_l03Column,(false,())⟩ else (spec_l03Column.l0 R N n v_1 n_2 p_3 (w64 (i_4 + (1:Int))))))) else some ⟨o_spec_l03Column,(((List.length v_1:Int) == n_2),())⟩) := (hw _ _).trans (by kernel_rfl)
theorem spec_l03Column.ev (R:Run) (N:Nat) (a0:(List Int)) (a1:Int) (a2:Int):evFn E R sg_spec_l03Column pol_spec_l03Column F_spec_l03Column N [⟨yL,a0⟩,⟨yI,a1⟩,⟨yI,a2⟩] = (spec_l03Column.l0 R N N a0 a1 a2 (0:Int)) := by kernel_rfl
/-! loop.example/g01005/spec.l03Ok -/
theorem spec_l03Ok.ev (R:Run) (N:Nat) (a0:vM):evFn E R sg_spec_l03Ok pol_spec_l03Ok F_spec_l03Ok N [⟨(.ptr yM),a0⟩] = (Option.bind (callT R n_spec_ValidPrime o_spec_ValidPrime [⟨yI,a0.1⟩]) fun r1 => (bif r1.1 then (Option.bind (callT R n_spec_l00In o_spec_l00In [⟨yI,a0.2.1⟩,⟨yI,(0:Int)⟩,⟨yI,(32:Int)⟩]) fun r2 => (bif r2.1 then (Option.bind (callT R n_spec_l00In o_spec_l00In [⟨yI,a0.2.2.1⟩,⟨yI,(0:Int)⟩,⟨yI,(32:Int)⟩]) fun r3 => (bif r3.1 then (Option.bind (callT R n_spec_l03Column o_spec_l03Column [⟨yL,a0.2.2.2.1⟩,⟨yI,(w64 (a0.2.1 * a0.2.2.1))⟩,⟨yI,a0.1⟩]) fun r4 => some ⟨o_spec_l03Ok,(r4.1,())⟩) else some ⟨o_spec_l03Ok,(false,())⟩)) else some ⟨o_spec_l03Ok,(false,())⟩)) else some ⟨o_spec_l03Ok,(false,())⟩)) := by kernel_rfl
/-! loop.example/g01005/spec.l09Map -/
theorem spec_l09Map.ev (R:Run) (N:Nat) (a0:vS) (a1:Int) (a2:Int) (a3:vM):evFn E R sg_spec_l09Map pol_spec_l09Map F_spec_l09Map N [⟨(.ptr yS),a0⟩,⟨yI,a1⟩,⟨yI,a2⟩,⟨(.ptr yM),a3⟩] = (Option.bind (callT R n_spec_l05Faces o_spec_l05Faces [⟨(.ptr (.cons yK .nil)),(a0.1,())⟩,⟨yI,a1⟩]) fun r1 => (Option.bind (idx? r1.1 a2) fun y2 => (Option.bind (callT R n_spec_l03Ok o_spec_l03Ok [⟨(.ptr yM),a3⟩]) fun r3 => (bif r3.1 then (bif (a3.1 == a0.2.1) then (Option.bind (idx? a0.2.2.1 a1) fun y4 => (bif (a3.2.1 == (y4,()).1) then (Option.bind (idx? a0.2.2.1 (y2,()).1) fun y5 => some ⟨o_spec_l09Map,((a3.2.2.1 == (y5,()).1),())⟩) else some ⟨o_spec_l09Map,(false,())⟩)) else some ⟨o_spec_l09Map,(false,())⟩) else some ⟨o_spec_l09Map,(false,())⟩)))) := by kernel_rfl
/-! loop.example/g01005/spec.l05Of -/
noncomputable def spec_l05Of.l0 (R:Run) (N:Nat) (n:Nat) (c_1:(vK × Unit)) (dimension_2:Int) (i_3:Int) (o7_4:(List Int)):Option Dv := R.w (some ⟨(.c (.ip (.cons yK .nil) c_1 0)::(.c (.d yI dimension_2)::(zd 3 (.c (.arr 7)::(.c (.d yI i_3)::(zd 26 [])))))),(zo 7 (some (.arr yI o7_4 true false false)::(zo 27 [])))⟩) fun st => loopC (evCode E R pol_spec_l05Of N (sub [1,1,0,1,0,0] (bodyOf F_spec_l05Of))) (maskAt R pol_spec_l05Of.loopM 3) n st (kBlk (maskAt R pol_spec_l05Of.blkM 0) 0 (kSeq (maskAt R pol_spec_l05Of.seqM 7) (evCode E R pol_spec_l05Of N (sub [1,1,1] (bodyOf F_spec_l05Of))) (kTop E sg_spec_l05Of F_spec_l05Of)))
theorem spec_l05Of.l0_succ (R:Run) (hw:R.ok) (N:Nat) (n:Nat) (c_1:(vK × Unit)) (dimension_2:Int) (i_3:Int) (o7_4:(List Int)):spec_l05Of.l0 R N (n + 1) c_1 dimension_2 i_3 o7_4 = (bif (decide (i_3 < (List.length c_1.1:Int))) then (Option.bind (idx? c_1.1 i_3) fun y5 => (bif ((List.length (y5,()).1:Int) == (w64 (dimension_2 + (1:Int)))) then (Option.bind (chk (decide ((List.length o7_4 + List.length [i_3]) * 8 ≤ 70368744177664))) fun _ => (spec_l05Of.l0 R N n c_1 dimension_2 (w64 (i_3 + (1:Int))) (o7_4 ++ [i_3]))) else (spec_l05Of.l0 R N n c_1 dimension_2 (w64 (i_3 + (1:Int))) o7_4))) else some ⟨o_spec_l05Of,(o7_4,())⟩) := (hw _ _).trans (by kernel_rfl)
theorem spec_l05Of.ev (R:Run) (N:Nat) (a0:(vK × Unit)) (a1:Int):evFn E R sg_spec_l05Of pol_spec_l05Of F_spec_l05Of N [⟨(.ptr (.cons yK .nil)),a0⟩,⟨yI,a1⟩] = (spec_l05Of.l0 R N N a0 a1 (0:Int) ([]:List Int)) := by kernel_rfl
/-! loop.example/g01005/spec.l09Sum -/
noncomputable def spec_l09Sum.l0 (R:Run) (N:Nat) (n:Nat) (stalks_2:(List Int)) (list_3:(List Int)) (sum_4:Int) (i_5:Int):Option Dv := R.w (some ⟨(V.dead::(.c (.d yL stalks_2)::(zd 5 (.c (.d yL list_3)::(.c (.d yI sum_4)::(.c (.d yI i_5)::(zd 19 []))))))),(zo 32 [])⟩) fun st => loopC (evCode E R pol_spec_l09Sum N (sub [1,1,1,0,1,0,0] (bodyOf F_spec_l09Sum))) (maskAt R pol_spec_l09Sum.loopM 4) n st (kBlk (maskAt R pol_spec_l09Sum.blkM 0) 0 (kSeq (maskAt R pol_spec_l09Sum.seqM 7) (evCode E R pol_spec_l09Sum N (sub [1,1,1,1] (bodyOf F_spec_l09Sum))) (kTop E sg_spec_l09Sum F_spec_l09Sum)))
theorem spec_l09Sum.l0_succ (R:Run) (hw:R.ok) (N:Nat) (n:Nat) (stalks_2:(List Int)) (list_3:(List Int)) (sum_4:Int) (i_5:Int):spec_l09Sum.l0 R N (n + 1) stalks_2 list_3 sum_4 i_5 = (bif (decide (i_5 < (List.length list_3:Int))) then (Option.bind (idx? list_3 i_5) fun y6 => (Option.bind (idx? stalks_2 (y6,()).1) fun y7 => (spec_l09Sum.l0 R N n stalks_2 list_3 (w64 (sum_4 + (y7,()).1)) (w64 (i_5 + (1:Int)))))) else some ⟨o_spec_l09Sum,(sum_4,())⟩) := (hw _ _).trans (by kernel_rfl)
theorem spec_l09Sum.ev (R:Run) (N:Nat) (a0:(vK × Unit)) (a1:(List Int)) (a2:Int):evFn E R sg_spec_l09Sum pol_spec_l09Sum F_spec_l09Sum N [⟨(.ptr (.cons yK .nil)),a0⟩,⟨yL,a1⟩,⟨yI,a2⟩] = (Option.bind (callT R n_spec_l05Of o_spec_l05Of [⟨(.ptr (.cons yK .nil)),a0⟩,⟨yI,a2⟩]) fun r1 => (spec_l09Sum.l0 R N N a1 r1.1 (0:Int) (0:Int))) := by kernel_rfl
/-! loop.example/g01005/spec.l09Stalks -/
noncomputable def spec_l09Stalks.l0 (R:Run) (N:Nat) (n:Nat) (c_2:(vK × Unit)) (stalks_3:(List Int)) (k_4:Int):Option Dv := R.w (some ⟨(.c (.ip (.cons yK .nil) c_2 0)::(.c (.d yL stalks_3)::(zd 3 (.c (.d yI k_4)::(zd 17 []))))),(zo 25 [])⟩) fun st => loopC (evCode E R pol_spec_l09Stalks N (sub [1,1,0,1,0,0] (bodyOf F_spec_l09Stalks))) (maskAt R pol_spec_l09Stalks.loopM 4) n st (kBlk (maskAt R pol_spec_l09Stalks.blkM 0) 0 (kSeq (maskAt R pol_spec_l09Stalks.seqM 8) (evCode E R pol_spec_l09Stalks N (sub [1,1,1] (bodyOf F_spec_l09Stalks))) (kTop E sg_spec_l09Stalks F_spec_l09Stalks)))
theorem spec_l09Stalks.l0_succ (R:Run) (hw:R.ok) (N:Nat) (n:Nat) (c_2:(vK × Unit)) (stalks_3:(List Int)) (k_4:Int):spec_l09Stalks.l0 R N (n + 1) c_2 stalks_3 k_4 = (bif (decide (k_4 ≤ (3:Int))) then (Option.bind (callT R n_spec_l09Sum o_spec_l09Sum [⟨(.ptr (.cons yK .nil)),c_2⟩,⟨yL,stalks_3⟩,⟨yI,k_4⟩]) fun r5 => (bif (decide (r5.1 > (32:Int))) then some ⟨o_spec_l09Stalks,(false,())⟩ else (spec_l09Stalks.l0 R N n c_2 stalks_3 (w64 (k_4 + (1:Int)))))) else some ⟨o_spec_l09Stalks,(true,())⟩) := (hw _ _).trans (by kernel_rfl)
theorem spec_l09Stalks.ev (R:Run) (N:Nat) (a0:(vK × Unit)) (a1:(List Int)):evFn E R sg_spec_l09Stalks pol_spec_l09Stalks F_spec_l09Stalks N [⟨(.ptr (.cons yK .nil)),a0⟩,⟨yL,a1⟩] = (Option.bind (callT R n_spec_l03Column o_spec_l03Column [⟨yL,a1⟩,⟨yI,(List.length a0.1:Int)⟩,⟨yI,(4:Int)⟩]) fun r1 => (bif (!r1.1) then some ⟨o_spec_l09Stalks,(false,())⟩ else (spec_l09Stalks.l0 R N N a0 a1 (0:Int)))) := by kernel_rfl
/-! loop.example/g01005/spec.l09Count -/
theorem spec_l09Count.ev (R:Run) (N:Nat) (a0:(vK × Unit)):evFn E R sg_spec_l09Count pol_spec_l09Count F_spec_l09Count N [⟨(.ptr (.cons yK .nil)),a0⟩] = (Option.bind (callT R n_spec_l09Place o_spec_l09Place [⟨(.ptr (.cons yK .nil)),a0⟩,⟨yI,(List.length a0.1:Int)⟩,⟨yI,(0:Int)⟩]) fun r1 => some ⟨o_spec_l09Count,(r1.1,())⟩) := by kernel_rfl
/-! loop.example/g01005/spec.l09Ok -/
noncomputable def spec_l09Ok.j3 (R:Run) (N:Nat) (n01_:Nat) (n04_:Nat) (t0__11:vS) (t3__12:Int) (t4__13:Int) (t73__14:Bool):Option Dv := R.w (some ⟨(.c (.ip yS t0__11 0)::(V.dead::(V.dead::(.c (.d yI t3__12)::(.c (.d yI t4__13)::(zd 68 (.c (.d .bool t73__14)::(zd 18 [])))))))),(zo 93 [])⟩) fun st => evCode E R pol_spec_l09Ok N (sub [1,1,0,1,0,0,1,0,0,1,0,0,0,1] (bodyOf F_spec_l09Ok)) st (kSeq (maskAt R pol_spec_l09Ok.seqM 9) (evCode E R pol_spec_l09Ok N (sub [1,1,0,1,0,0,1,0,0,1,0,0,1] (bodyOf F_spec_l09Ok))) (kLoop (evCode E R pol_spec_l09Ok N (sub [1,1,0,1,0,0,1,0,0,1,0,0] (bodyOf F_spec_l09Ok))) (maskAt R pol_spec_l09Ok.loopM 7) n04_ (kBlk (maskAt R pol_spec_l09Ok.blkM 2) 2 (kBlk (maskAt R pol_spec_l09Ok.blkM 1) 1 (kSeq (maskAt R pol_spec_l09Ok.seqM 5) (evCode E R pol_spec_l09Ok N (sub [1,1,0,1,0,0,1,1] (bodyOf F_spec_l09Ok))) (kLoop (evCode E R pol_spec_l09Ok N (sub [1,1,0,1,0,0] (bodyOf F_spec_l09Ok))) (maskAt R pol_spec_l09Ok.loopM 4) n01_ (kBlk (maskAt R pol_spec_l09Ok.blkM 0) 0 (kSeq (maskAt R pol_spec_l09Ok.seqM 11) (evCode E R pol_spec_l09Ok N (sub [1,1,1] (bodyOf F_spec_l09Ok))) (kTop E sg_spec_l09Ok F_spec_l09Ok)))))))))
noncomputable def spec_l09Ok.l2 (R:Run) (N:Nat) (n01_:Nat) (n:Nat) (t0__6:vS) (t3__7:Int) (t4__8:Int):Option Dv := R.w (some ⟨(.c (.ip yS t0__6 0)::(V.dead::(V.dead::(.c (.d yI t3__7)::(.c (.d yI t4__8)::(zd 87 [])))))),(zo 93 [])⟩) fun st => loopC (evCode E R pol_spec_l09Ok N (sub [1,1,0,1,0,0,1,0,0,1,0,0] (bodyOf F_spec_l09Ok))) (maskAt R pol_spec_l09Ok.loopM 7) n st (kBlk (maskAt R pol_spec_l09Ok.blkM 2) 2 (kBlk (maskAt R pol_spec_l09Ok.blkM 1) 1 (kSeq (maskAt R pol_spec_l09Ok.seqM 5) (evCode E R pol_spec_l09Ok N (sub [1,1,0,1,0,0,1,1] (bodyOf F_spec_l09Ok))) (kLoop (evCode E R pol_spec_l09Ok N (sub [1,1,0,1,0,0] (bodyOf F_spec_l09Ok))) (maskAt R pol_spec_l09Ok.loopM 4) n01_ (kBlk (maskAt R pol_spec_l09Ok.blkM 0) 0 (kSeq (maskAt R pol_spec_l09Ok.seqM 11) (evCode E R pol_spec_l09Ok N (sub [1,1,1] (bodyOf F_spec_l09Ok))) (kTop E sg_spec_l09Ok F_spec_l09Ok)))))))
noncomputable def spec_l09Ok.l1 (R:Run) (N:Nat) (n:Nat) (t0__4:vS) (t3__5:Int):Option Dv := R.w (some ⟨(.c (.ip yS t0__4 0)::(V.dead::(V.dead::(.c (.d yI t3__5)::(zd 88 []))))),(zo 93 [])⟩) fun st => loopC (evCode E R pol_spec_l09Ok N (sub [1,1,0,1,0,0] (bodyOf F_spec_l09Ok))) (maskAt R pol_spec_l09Ok.loopM 4) n st (kBlk (maskAt R pol_spec_l09Ok.blkM 0) 0 (kSeq (maskAt R pol_spec_l09Ok.seqM 11) (evCode E R pol_spec_l09Ok N (sub [1,1,1] (bodyOf F_spec_l09Ok))) (kTop E sg_spec_l09Ok F_spec_l09Ok)))
noncomputable def spec_l09Ok.j0 (R:Run) (N:Nat) (t0__2:vS) (t40__3:Bool):Option Dv := R.w (some ⟨(.c (.ip yS t0__2 0)::(zd 39 (.c (.d .bool t40__3)::(zd 51 [])))),(zo 93 [])⟩) fun st => evCode E R pol_spec_l09Ok N (sub [1,0,1] (bodyOf F_spec_l09Ok)) st (kSeq (maskAt R pol_spec_l09Ok.seqM 3) (evCode E R pol_spec_l09Ok N (sub [1,1] (bodyOf F_spec_l09Ok))) (kTop E sg_spec_l09Ok F_spec_l09Ok))
theorem spec_l09Ok.j3_eq (R:Run) (hw:R.ok) (N:Nat) (n01_:Nat) (n04_:Nat) (t0__11:vS) (t3__12:Int) (t4__13:Int) (t73__14:Bool):spec_l09Ok.j3 R N n01_ n04_ t0__11 t3__12 t4__13 t73__14 = (bif t73__14 then (Option.bind (callT R n_spec_l09Place o_spec_l09Place [⟨(.ptr (.cons yK .nil)),(t0__11.1,())⟩,⟨yI,t3__12⟩,⟨yI,t4__13⟩]) fun r15 => (Option.bind (idx? t0__11.2.2.2.1 r15.1) fun y16 => (Option.bind (callT R n_spec_l09Map o_spec_l09Map [⟨(.ptr yS),t0__11⟩,⟨yI,t3__12⟩,⟨yI,t4__13⟩,⟨(.ptr yM),y16⟩]) fun r17 => (bif (!r17.1) then some ⟨o_spec_l09Ok,(false,())⟩ else (spec_l09Ok.l2 R N n01_ n04_ t0__11 t3__12 (w64 (t4__13 + (1:Int)))))))) else (spec_l09Ok.l1 R N n01_ t0__11 (w64 (t3__12 + (1:Int))))) := (hw _ _).trans (by kernel_rfl)
theorem spec_l09Ok.l2_succ (R:Run) (hw:R.ok) (N:Nat) (n01_:Nat) (n:Nat) (t0__6:vS) (t3__7:Int) (t4__8:Int):spec_l09Ok.l2 R N n01_ (n + 1) t0__6 t3__7 t4__8 = (Option.bind (idx? t0__6.1 t3__7) fun y9 => (bif (decide (t4__8 < (List.length (y9,()).1:Int))) then (Option.bind (idx? t0__6.1 t3__7) fun y10 => (spec_l09Ok.j3 R N n01_ n t0__6 t3__7 t4__8 (decide ((List.length (y10,()).1:Int) > (1:Int))))) else (spec_l09Ok.j3 R N n01_ n t0__6 t3__7 t4__8 false))) := (hw _ _).trans (by kernel_rfl)
theorem spec_l09Ok.l1_succ (R:Run) (hw:R.ok) (N:Nat) (n:Nat) (t0__4:vS) (t3__5:Int):spec_l09Ok.l1 R N (n + 1) t0__4 t3__5 = (bif (decide (t3__5 < (List.length t0__4.1:Int))) then (spec_l09Ok.l2 R N n N t0__4 t3__5 (0:Int)) else some ⟨o_spec_l09Ok,(true,())⟩) := (hw _ _).trans (by kernel_rfl)
theorem spec_l09Ok.j0_eq (R:Run) (hw:R.ok) (N:Nat) (t0__2:vS) (t40__3:Bool):spec_l09Ok.j0 R N t0__2 t40__3 = (bif t40__3 then some ⟨o_spec_l09Ok,(false,())⟩ else (spec_l09Ok.l1 R N N t0__2 (0:Int))) := (hw _ _).trans (by kernel_rfl)
theorem spec_l09Ok.ev (R:Run) (N:Nat) (a0:vS):evFn E R sg_spec_l09Ok pol_spec_l09Ok F_spec_l09Ok N [⟨(.ptr yS),a0⟩] = (Option.bind (callT R n_spec_l05Ok o_spec_l05Ok [⟨(.ptr (.cons yK .nil)),(a0.1,())⟩]) fun r1 => (bif (!r1.1) then (spec_l09Ok.j0 R N a0 true) else (Option.bind (callT R n_spec_ValidPrime o_spec_ValidPrime [⟨yI,a0.2.1⟩]) fun r27 => (bif (!r27.1) then (spec_l09Ok.j0 R N a0 true) else (Option.bind (callT R n_spec_l09Stalks o_spec_l09Stalks [⟨(.ptr (.cons yK .nil)),(a0.1,())⟩,⟨yL,a0.2.2.1⟩]) fun r30 => (bif (!r30.1) then (spec_l09Ok.j0 R N a0 true) else (Option.bind (callT R n_spec_l09Count o_spec_l09Count [⟨(.ptr (.cons yK .nil)),(a0.1,())⟩]) fun r33 => (spec_l09Ok.j0 R N a0 ((List.length a0.2.2.2.1:Int) != r33.1))))))))) := by kernel_rfl
/-! loop.example/g01005/spec.l09Get -/
theorem spec_l09Get.ev (R:Run) (N:Nat) (a0:vS) (a1:Int) (a2:Int):evFn E R sg_spec_l09Get pol_spec_l09Get F_spec_l09Get N [⟨(.ptr yS),a0⟩,⟨yI,a1⟩,⟨yI,a2⟩] = (Option.bind (callT R n_spec_l09Place o_spec_l09Place [⟨(.ptr (.cons yK .nil)),(a0.1,())⟩,⟨yI,a1⟩,⟨yI,a2⟩]) fun r1 => (Option.bind (idx? a0.2.2.2.1 r1.1) fun y2 => some ⟨o_spec_l09Get,(y2,())⟩)) := by kernel_rfl
/-! loop.example/g01005/spec.l03Zero -/
theorem spec_l03Zero.ev (R:Run) (N:Nat) (a0:Int) (a1:Int) (a2:Int):evFn E R sg_spec_l03Zero pol_spec_l03Zero F_spec_l03Zero N [⟨yI,a0⟩,⟨yI,a1⟩,⟨yI,a2⟩] = (Option.bind (chk (decide (0 ≤ (w64 (a1 * a2))) && decide ((w64 (a1 * a2)) * 8 ≤ 70368744177664))) fun _ => some ⟨o_spec_l03Zero,(a0,a1,a2,(List.replicate (Int.toNat (w64 (a1 * a2))) (0:Int)),())⟩) := by kernel_rfl
/-! loop.example/g01005/spec.l03Times -/
noncomputable def spec_l03Times.l3 (R:Run) (N:Nat) (n01_:Nat) (n04_:Nat) (n:Nat) (t0__32:vM) (t1__33:vM) (t6__34:Int) (t7__35:Int) (t8__36:Int) (t9__37:Int) (o4_38:Int) (o4_39:Int) (o4_40:Int) (o5_41:Int) (o5_42:Int) (o5_43:Int) (o98_44:(List Int)):Option Dv := R.w (some ⟨(.c (.ip yM t0__32 0)::(.c (.ip yM t1__33 0)::(V.dead::(V.dead::(.c (.box 4 0)::(.c (.box 5 0)::(.c (.d yI t6__34)::(.c (.d yI t7__35)::(.c (.d yI t8__36)::(.c (.d yI t9__37)::(zd 86 []))))))))))),(zo 4 (some (.box [.d yI o4_38,.d yI o4_39,.d yI o4_40,.nils yI] false false)::(some (.box [.d yI o5_41,.d yI o5_42,.d yI o5_43,.arr 98] false false)::(zo 92 (some (.arr yI o98_44 true false false)::[])))))⟩) fun st => loopC (evCode E R pol_spec_l03Times N (sub [1,1,0,1,0,0,1,0,0,1,0,0,1,0,0,1,0,1,0,0] (bodyOf F_spec_l03Times))) (maskAt R pol_spec_l03Times.loopM 10) n st (kBlk (maskAt R pol_spec_l03Times.blkM 4) 4 (kSeq (maskAt R pol_spec_l03Times.seqM 13) (evCode E R pol_spec_l03Times N (sub [1,1,0,1,0,0,1,0,0,1,0,0,1,0,0,1,1] (bodyOf F_spec_l03Times))) (kBlk (maskAt R pol_spec_l03Times.blkM 3) 3 (kSeq (maskAt R pol_spec_l03Times.seqM 7) (evCode E R pol_spec_l03Times N (sub [1,1,0,1,0,0,1,0,0,1,0,0,1,1] (bodyOf F_spec_l03Times))) (kLoop (evCode E R pol_spec_l03Times N (sub [1,1,0,1,0,0,1,0,0,1,0,0] (bodyOf F_spec_l03Times))) (maskAt R pol_spec_l03Times.loopM 6) n04_ (kBlk (maskAt R pol_spec_l03Times.blkM 2) 2 (kBlk (maskAt R pol_spec_l03Times.blkM 1) 1 (kSeq (maskAt R pol_spec_l03Times.seqM 4) (evCode E R pol_spec_l03Times N (sub [1,1,0,1,0,0,1,1] (bodyOf F_spec_l03Times))) (kLoop (evCode E R pol_spec_l03Times N (sub [1,1,0,1,0,0] (bodyOf F_spec_l03Times))) (maskAt R pol_spec_l03Times.loopM 3) n01_ (kBlk (maskAt R pol_spec_l03Times.blkM 0) 0 (kSeq (maskAt R pol_spec_l03Times.seqM 14) (evCode E R pol_spec_l03Times N (sub [1,1,1] (bodyOf F_spec_l03Times))) (kTop E sg_spec_l03Times F_spec_l03Times))))))))))))
noncomputable def spec_l03Times.l2 (R:Run) (N:Nat) (n01_:Nat) (n:Nat) (t0__21:vM) (t1__22:vM) (t6__23:Int) (t7__24:Int) (o4_25:Int) (o4_26:Int) (o4_27:Int) (o5_28:Int) (o5_29:Int) (o5_30:Int) (o98_31:(List Int)):Option Dv := R.w (some ⟨(.c (.ip yM t0__21 0)::(.c (.ip yM t1__22 0)::(V.dead::(V.dead::(.c (.box 4 0)::(.c (.box 5 0)::(.c (.d yI t6__23)::(.c (.d yI t7__24)::(zd 88 []))))))))),(zo 4 (some (.box [.d yI o4_25,.d yI o4_26,.d yI o4_27,.nils yI] false false)::(some (.box [.d yI o5_28,.d yI o5_29,.d yI o5_30,.arr 98] false false)::(zo 92 (some (.arr yI o98_31 true false false)::[])))))⟩) fun st => loopC (evCode E R pol_spec_l03Times N (sub [1,1,0,1,0,0,1,0,0,1,0,0] (bodyOf F_spec_l03Times))) (maskAt R pol_spec_l03Times.loopM 6) n st (kBlk (maskAt R pol_spec_l03Times.blkM 2) 2 (kBlk (maskAt R pol_spec_l03Times.blkM 1) 1 (kSeq (maskAt R pol_spec_l03Times.seqM 4) (evCode E R pol_spec_l03Times N (sub [1,1,0,1,0,0,1,1] (bodyOf F_spec_l03Times))) (kLoop (evCode E R pol_spec_l03Times N (sub [1,1,0,1,0,0] (bodyOf F_spec_l03Times))) (maskAt R pol_spec_l03Times.loopM 3) n01_ (kBlk (maskAt R pol_spec_l03Times.blkM 0) 0 (kSeq (maskAt R pol_spec_l03Times.seqM 14) (evCode E R pol_spec_l03Times N (sub [1,1,1] (bodyOf F_spec_l03Times))) (kTop E sg_spec_l03Times F_spec_l03Times)))))))
noncomputable def spec_l03Times.l1 (R:Run) (N:Nat) (n:Nat) (t0__11:vM) (t1__12:vM) (t6__13:Int) (o4_14:Int) (o4_15:Int) (o4_16:Int) (o5_17:Int) (o5_18:Int) (o5_19:Int) (o98_20:(List Int)):Option Dv := R.w (some ⟨(.c (.ip yM t0__11 0)::(.c (.ip yM t1__12 0)::(V.dead::(V.dead::(.c (.box 4 0)::(.c (.box 5 0)::(.c (.d yI t6__13)::(zd 89 [])))))))),(zo 4 (some (.box [.d yI o4_14,.d yI o4_15,.d yI o4_16,.nils yI] false false)::(some (.box [.d yI o5_17,.d yI o5_18,.d yI o5_19,.arr 98] false false)::(zo 92 (some (.arr yI o98_20 true false false)::[])))))⟩) fun st => loopC (evCode E R pol_spec_l03Times N (sub [1,1,0,1,0,0] (bodyOf F_spec_l03Times))) (maskAt R pol_spec_l03Times.loopM 3) n st (kBlk (maskAt R pol_spec_l03Times.blkM 0) 0 (kSeq (maskAt R pol_spec_l03Times.seqM 14) (evCode E R pol_spec_l03Times N (sub [1,1,1] (bodyOf F_spec_l03Times))) (kTop E sg_spec_l03Times F_spec_l03Times)))
noncomputable def spec_l03Times.j0 (R:Run) (N:Nat) (t0__2:vM) (t1__3:vM) (o4_4:Int) (o4_5:Int) (o4_6:Int) (o5_7:Int) (o5_8:Int) (o5_9:Int) (o98_10:(List Int)):Option Dv := R.w (some ⟨(.c (.ip yM t0__2 0)::(.c (.ip yM t1__3 0)::(V.dead::(V.dead::(.c (.box 4 0)::(.c (.box 5 0)::(zd 90 []))))))),(zo 4 (some (.box [.d yI o4_4,.d yI o4_5,.d yI o4_6,.nils yI] false false)::(some (.box [.d yI o5_7,.d yI o5_8,.d yI o5_9,.arr 98] false false)::(zo 92 (some (.arr yI o98_10 true false false)::[])))))⟩) fun st => evCode E R pol_spec_l03Times N (sub [1,1] (bodyOf F_spec_l03Times)) st (kTop E sg_spec_l03Times F_spec_l03Times)
theorem spec_l03Times.l3_succ (R:Run) (hw:R.ok) (N:Nat) (n01_:Nat) (n04_:Nat) (n:Nat) (t0__32:vM) (t1__33:vM) (t6__34:Int) (t7__35:Int) (t8__36:Int) (t9__37:Int) (o4_38:Int) (o4_39:Int) (o4_40:Int) (o5_41:Int) (o5_42:Int) (o5_43:Int) (o98_44:(List Int)):spec_l03Times.l3 R N n01_ n04_ (n + 1) t0__32 t1__33 t6__34 t7__35 t8__36 t9__37 o4_38 o4_39 o4_40 o5_41 o5_42 o5_43 o98_44 = (bif (decide (t9__37 < t0__32.2.2.1)) then (Option.bind (idx? t0__32.2.2.2.1 (w64 ((w64 (t6__34 * t0__32.2.2.1)) + t9__37))) fun y45 => (Option.bind (idx? t1__33.2.2.2.1 (w64 ((w64 (t9__37 * t1__33.2.2.1)) + t7__35))) fun y46 => (spec_l03Times.l3 R N n01_ n04_ n t0__32 t1__33 t6__34 t7__35 (w64 (t8__36 + (w64 ((y45,()).1 * (y46,()).1)))) (w64 (t9__37 + (1:Int))) o4_38 o4_39 o4_40 o5_41 o5_42 o5_43 o98_44))) else (Option.bind (chk (t0__32.1 != 0)) fun _ => (Option.bind (chk (decide (0 ≤ (w64 ((w64 (t6__34 * t1__33.2.2.1)) + t7__35))) && decide ((w64 ((w64 (t6__34 * t1__33.2.2.1)) + t7__35)) < (List.length o98_44:Int)))) fun _ => (spec_l03Times.l2 R N n01_ n04_ t0__32 t1__33 t6__34 (w64 (t7__35 + (1:Int))) o4_38 o4_39 o4_40 o5_41 o5_42 o5_43 (List.set o98_44 (Int.toNat (w64 ((w64 (t6__34 * t1__33.2.2.1)) + t7__35))) (Int.tmod t8__36 t0__32.1)))))) := (hw _ _).trans (by kernel_rfl)
theorem spec_l03Times.l2_succ (R:Run) (hw:R.ok) (N:Nat) (n01_:Nat) (n:Nat) (t0__21:vM) (t1__22:vM) (t6__23:Int) (t7__24:Int) (o4_25:Int) (o4_26:Int) (o4_27:Int) (o5_28:Int) (o5_29:Int) (o5_30:Int) (o98_31:(List Int)):spec_l03Times.l2 R N n01_ (n + 1) t0__21 t1__22 t6__23 t7__24 o4_25 o4_26 o4_27 o5_28 o5_29 o5_30 o98_31 = (bif (decide (t7__24 < t1__22.2.2.1)) then (spec_l03Times.l3 R N n01_ n N t0__21 t1__22 t6__23 t7__24 (0:Int) (0:Int) o4_25 o4_26 o4_27 o5_28 o5_29 o5_30 o98_31) else (spec_l03Times.l1 R N n01_ t0__21 t1__22 (w64 (t6__23 + (1:Int))) o4_25 o4_26 o4_27 o5_28 o5_29 o5_30 o98_31)) := (hw _ _).trans (by kernel_rfl)
theorem spec_l03Times.l1_succ (R:Run) (hw:R.ok) (N:Nat) (n:Nat) (t0__11:vM) (t1__12:vM) (t6__13:Int) (o4_14:Int) (o4_15:Int) (o4_16:Int) (o5_17:Int) (o5_18:Int) (o5_19:Int) (o98_20:(List Int)):spec_l03Times.l1 R N (n + 1) t0__11 t1__12 t6__13 o4_14 o4_15 o4_16 o5_17 o5_18 o5_19 o98_20 = (bif (decide (t6__13 < t0__11.2.1)) then (spec_l03Times.l2 R N n N t0__11 t1__12 t6__13 (0:Int) o4_14 o4_15 o4_16 o5_17 o5_18 o5_19 o98_20) else some ⟨o_spec_l03Times,(o5_17,o5_18,o5_19,o98_20,())⟩) := (hw _ _).trans (by kernel_rfl)
theorem spec_l03Times.j0_eq (R:Run) (hw:R.ok) (N:Nat) (t0__2:vM) (t1__3:vM) (o4_4:Int) (o4_5:Int) (o4_6:Int) (o5_7:Int) (o5_8:Int) (o5_9:Int) (o98_10:(List Int)):spec_l03Times.j0 R N t0__2 t1__3 o4_4 o4_5 o4_6 o5_7 o5_8 o5_9 o98_10 = (spec_l03Times.l1 R N N t0__2 t1__3 (0:Int) o4_4 o4_5 o4_6 o5_7 o5_8 o5_9 o98_10) := (hw _ _).trans (by kernel_rfl)
theorem spec_l03Times.ev (R:Run) (N:Nat) (a0:vM) (a1:vM):evFn E R sg_spec_l03Times pol_spec_l03Times F_spec_l03Times N [⟨(.ptr yM),a0⟩,⟨(.ptr yM),a1⟩] = (both (Option.bind (callT R n_spec_l03Zero o_spec_l03Zero [⟨yI,a0.1⟩,⟨yI,a0.2.1⟩,⟨yI,a1.2.2.1⟩]) fun r1 => (spec_l03Times.j0 R N a0 a1 (0:Int) (0:Int) (0:Int) r1.1 r1.2.1 r1.2.2.1 r1.2.2.2.1)) (Option.bind (callT R n_spec_l03Zero o_spec_l03Zero [⟨yI,a0.1⟩,⟨yI,a0.2.1⟩,⟨yI,a1.2.2.1⟩]) fun r81 => (spec_l03Times.j0 R N a0 a1 (0:Int) (0:Int) (0:Int) r81.1 r81.2.1 r81.2.2.1 r81.2.2.2.1))) := by kernel_rfl
/-! loop.example/g01005/spec.l09Two -/
noncomputable def spec_l09Two.j0 (R:Run) (N:Nat) (s_3:vS) (simplex_4:Int) (i_5:Int) (j_6:Int) (face_7:Int) (o8_8:Int) (o8_9:Int) (o8_10:Int):Option Dv := R.w (some ⟨(.c (.ip yS s_3 0)::(.c (.d yI simplex_4)::(.c (.d yI i_5)::(.c (.d yI j_6)::(zd 4 (.c (.box 8 0)::(.c (.d yI face_7)::(zd 22 [])))))))),(zo 8 (some (.box [.d yI o8_8,.d yI o8_9,.d yI o8_10,.nils yI] false false)::(zo 28 [])))⟩) fun st => evCode E R pol_spec_l09Two N (sub [1,1,1] (bodyOf F_spec_l09Two)) st (kTop E sg_spec_l09Two F_spec_l09Two)
theorem spec_l09Two.j0_eq (R:Run) (hw:R.ok) (N:Nat) (s_3:vS) (simplex_4:Int) (i_5:Int) (j_6:Int) (face_7:Int) (o8_8:Int) (o8_9:Int) (o8_10:Int):spec_l09Two.j0 R N s_3 simplex_4 i_5 j_6 face_7 o8_8 o8_9 o8_10 = (Option.bind (callT R n_spec_l09Get o_spec_l09Get [⟨(.ptr yS),s_3⟩,⟨yI,simplex_4⟩,⟨yI,i_5⟩]) fun r11 => (Option.bind (callT R n_spec_l09Get o_spec_l09Get [⟨(.ptr yS),s_3⟩,⟨yI,face_7⟩,⟨yI,j_6⟩]) fun r12 => (Option.bind (callT R n_spec_l03Times o_spec_l03Times [⟨(.ptr yM),r11.1⟩,⟨(.ptr yM),r12.1⟩]) fun r13 => some ⟨o_spec_l09Two,(r13.1,r13.2.1,r13.2.2.1,r13.2.2.2.1,())⟩))) := (hw _ _).trans (by kernel_rfl)
theorem spec_l09Two.ev (R:Run) (N:Nat) (a0:vS) (a1:Int) (a2:Int) (a3:Int):evFn E R sg_spec_l09Two pol_spec_l09Two F_spec_l09Two N [⟨(.ptr yS),a0⟩,⟨yI,a1⟩,⟨yI,a2⟩,⟨yI,a3⟩] = (Option.bind (callT R n_spec_l05Faces o_spec_l05Faces [⟨(.ptr (.cons yK .nil)),(a0.1,())⟩,⟨yI,a1⟩]) fun r1 => (Option.bind (idx? r1.1 a2) fun y2 => (bif (decide (a3 > a2)) then (spec_l09Two.j0 R N a0 a1 a2 (w64 (a3 - (1:Int))) ((y2,()).1) (0:Int) (0:Int) (0:Int)) else (spec_l09Two.j0 R N a0 a1 a2 a3 ((y2,()).1) (0:Int) (0:Int) (0:Int))))) := by kernel_rfl
/-! loop.example/g01005/spec.l03Same -/
noncomputable def spec_l03Same.l1 (R:Run) (N:Nat) (n:Nat) (t0__4:vM) (t1__5:vM) (t5__6:Int):Option Dv := R.w (some ⟨(.c (.ip yM t0__4 0)::(.c (.ip yM t1__5 0)::(zd 3 (.c (.d yI t5__6)::(zd 68 []))))),(zo 76 [])⟩) fun st => loopC (evCode E R pol_spec_l03Same N (sub [1,1,0,1,0,0] (bodyOf F_spec_l03Same))) (maskAt R pol_spec_l03Same.loopM 4) n st (kBlk (maskAt R pol_spec_l03Same.blkM 0) 0 (kSeq (maskAt R pol_spec_l03Same.seqM 8) (evCode E R pol_spec_l03Same N (sub [1,1,1] (bodyOf F_spec_l03Same))) (kTop E sg_spec_l03Same F_spec_l03Same)))
noncomputable def spec_l03Same.j0 (R:Run) (N:Nat) (t0__1:vM) (t1__2:vM) (t49__3:Bool):Option Dv := R.w (some ⟨(.c (.ip yM t0__1 0)::(.c (.ip yM t1__2 0)::(zd 47 (.c (.d .bool t49__3)::(zd 24 []))))),(zo 76 [])⟩) fun st => evCode E R pol_spec_l03Same N (sub [1,0,1] (bodyOf F_spec_l03Same)) st (kSeq (maskAt R pol_spec_l03Same.seqM 3) (evCode E R pol_spec_l03Same N (sub [1,1] (bodyOf F_spec_l03Same))) (kTop E sg_spec_l03Same F_spec_l03Same))
theorem spec_l03Same.l1_succ (R:Run) (hw:R.ok) (N:Nat) (n:Nat) (t0__4:vM) (t1__5:vM) (t5__6:Int):spec_l03Same.l1 R N (n + 1) t0__4 t1__5 t5__6 = (bif (decide (t5__6 < (List.length t0__4.2.2.2.1:Int))) then (Option.bind (idx? t0__4.2.2.2.1 t5__6) fun y7 => (Option.bind (idx? t1__5.2.2.2.1 t5__6) fun y8 => (bif ((y7,()).1 != (y8,()).1) then some ⟨o_spec_l03Same,(false,())⟩ else (spec_l03Same.l1 R N n t0__4 t1__5 (w64 (t5__6 + (1:Int))))))) else some ⟨o_spec_l03Same,(true,())⟩) := (hw _ _).trans (by kernel_rfl)
theorem spec_l03Same.j0_eq (R:Run) (hw:R.ok) (N:Nat) (t0__1:vM) (t1__2:vM) (t49__3:Bool):spec_l03Same.j0 R N t0__1 t1__2 t49__3 = (bif t49__3 then some ⟨o_spec_l03Same,(false,())⟩ else (spec_l03Same.l1 R N N t0__1 t1__2 (0:Int))) := (hw _ _).trans (by kernel_rfl)
theorem spec_l03Same.ev (R:Run) (N:Nat) (a0:vM) (a1:vM):evFn E R sg_spec_l03Same pol_spec_l03Same F_spec_l03Same N [⟨(.ptr yM),a0⟩,⟨(.ptr yM),a1⟩] = (bif (a0.1 != a1.1) then (spec_l03Same.j0 R N a0 a1 true) else (bif (a0.2.1 != a1.2.1) then (spec_l03Same.j0 R N a0 a1 true) else (bif (a0.2.2.1 != a1.2.2.1) then (spec_l03Same.j0 R N a0 a1 true) else (spec_l03Same.j0 R N a0 a1 ((List.length a0.2.2.2.1:Int) != (List.length a1.2.2.2.1:Int)))))) := by kernel_rfl
/-! loop.example/g01005/spec.l09Wrong -/
noncomputable def spec_l09Wrong.l3 (R:Run) (N:Nat) (n00_:Nat) (n05_:Nat) (n:Nat) (s_13:vS) (k_14:Int) (n_15:Int) (i_16:Int) (j_17:Int):Option Dv := R.w (some ⟨(.c (.ip yS s_13 0)::(zd 4 (.c (.d yI k_14)::(.c (.d yI n_15)::(.c (.d yI i_16)::(.c (.d yI j_17)::(zd 52 []))))))),(zo 62 [])⟩) fun st => loopC (evCode E R pol_spec_l09Wrong N (sub [1,0,1,0,0,1,0,0,1,1,0,0,1,0,0,1,0,0] (bodyOf F_spec_l09Wrong))) (maskAt R pol_spec_l09Wrong.loopM 9) n st (kBlk (maskAt R pol_spec_l09Wrong.blkM 4) 4 (kBlk (maskAt R pol_spec_l09Wrong.blkM 3) 3 (kSeq (maskAt R pol_spec_l09Wrong.seqM 7) (evCode E R pol_spec_l09Wrong N (sub [1,0,1,0,0,1,0,0,1,1,0,0,1,1] (bodyOf F_spec_l09Wrong))) (kLoop (evCode E R pol_spec_l09Wrong N (sub [1,0,1,0,0,1,0,0,1,1,0,0] (bodyOf F_spec_l09Wrong))) (maskAt R pol_spec_l09Wrong.loopM 6) n05_ (kBlk (maskAt R pol_spec_l09Wrong.blkM 2) 2 (kBlk (maskAt R pol_spec_l09Wrong.blkM 1) 1 (kSeq (maskAt R pol_spec_l09Wrong.seqM 3) (evCode E R pol_spec_l09Wrong N (sub [1,0,1,0,0,1,1] (bodyOf F_spec_l09Wrong))) (kLoop (evCode E R pol_spec_l09Wrong N (sub [1,0,1,0,0] (bodyOf F_spec_l09Wrong))) (maskAt R pol_spec_l09Wrong.loopM 2) n00_ (kBlk (maskAt R pol_spec_l09Wrong.blkM 0) 0 (kSeq (maskAt R pol_spec_l09Wrong.seqM 15) (evCode E R pol_spec_l09Wrong N (sub [1,1] (bodyOf F_spec_l09Wrong))) (kTop E sg_spec_l09Wrong F_spec_l09Wrong)))))))))))
noncomputable def spec_l09Wrong.j2 (R:Run) (N:Nat) (n00_:Nat) (n05_:Nat) (s_8:vS) (k_9:Int) (n_10:Int) (i_11:Int) (t36__12:Bool):Option Dv := R.w (some ⟨(.c (.ip yS s_8 0)::(zd 4 (.c (.d yI k_9)::(.c (.d yI n_10)::(.c (.d yI i_11)::(zd 28 (.c (.d .bool t36__12)::(zd 24 [])))))))),(zo 62 [])⟩) fun st => evCode E R pol_spec_l09Wrong N (sub [1,0,1,0,0,1,0,0,1,1,0,0,0,1] (bodyOf F_spec_l09Wrong)) st (kSeq (maskAt R pol_spec_l09Wrong.seqM 8) (evCode E R pol_spec_l09Wrong N (sub [1,0,1,0,0,1,0,0,1,1,0,0,1] (bodyOf F_spec_l09Wrong))) (kLoop (evCode E R pol_spec_l09Wrong N (sub [1,0,1,0,0,1,0,0,1,1,0,0] (bodyOf F_spec_l09Wrong))) (maskAt R pol_spec_l09Wrong.loopM 6) n05_ (kBlk (maskAt R pol_spec_l09Wrong.blkM 2) 2 (kBlk (maskAt R pol_spec_l09Wrong.blkM 1) 1 (kSeq (maskAt R pol_spec_l09Wrong.seqM 3) (evCode E R pol_spec_l09Wrong N (sub [1,0,1,0,0,1,1] (bodyOf F_spec_l09Wrong))) (kLoop (evCode E R pol_spec_l09Wrong N (sub [1,0,1,0,0] (bodyOf F_spec_l09Wrong))) (maskAt R pol_spec_l09Wrong.loopM 2) n00_ (kBlk (maskAt R pol_spec_l09Wrong.blkM 0) 0 (kSeq (maskAt R pol_spec_l09Wrong.seqM 15) (evCode E R pol_spec_l09Wrong N (sub [1,1] (bodyOf F_spec_l09Wrong))) (kTop E sg_spec_l09Wrong F_spec_l09Wrong)))))))))
noncomputable def spec_l09Wrong.l1 (R:Run) (N:Nat) (n00_:Nat) (n:Nat) (s_4:vS) (k_5:Int) (n_6:Int) (i_7:Int):Option Dv := R.w (some ⟨(.c (.ip yS s_4 0)::(zd 4 (.c (.d yI k_5)::(.c (.d yI n_6)::(.c (.d yI i_7)::(zd 53 [])))))),(zo 62 [])⟩) fun st => loopC (evCode E R pol_spec_l09Wrong N (sub [1,0,1,0,0,1,0,0,1,1,0,0] (bodyOf F_spec_l09Wrong))) (maskAt R pol_spec_l09Wrong.loopM 6) n st (kBlk (maskAt R pol_spec_l09Wrong.blkM 2) 2 (kBlk (maskAt R pol_spec_l09Wrong.blkM 1) 1 (kSeq (maskAt R pol_spec_l09Wrong.seqM 3) (evCode E R pol_spec_l09Wrong N (sub [1,0,1,0,0,1,1] (bodyOf F_spec_l09Wrong))) (kLoop (evCode E R pol_spec_l09Wrong N (sub [1,0,1,0,0] (bodyOf F_spec_l09Wrong))) (maskAt R pol_spec_l09Wrong.loopM 2) n00_ (kBlk (maskAt R pol_spec_l09Wrong.blkM 0) 0 (kSeq (maskAt R pol_spec_l09Wrong.seqM 15) (evCode E R pol_spec_l09Wrong N (sub [1,1] (bodyOf F_spec_l09Wrong))) (kTop E sg_spec_l09Wrong F_spec_l09Wrong)))))))
noncomputable def spec_l09Wrong.l0 (R:Run) (N:Nat) (n:Nat) (s_1:vS) (k_2:Int):Option Dv := R.w (some ⟨(.c (.ip yS s_1 0)::(zd 4 (.c (.d yI k_2)::(zd 55 [])))),(zo 62 [])⟩) fun st => loopC (evCode E R pol_spec_l09Wrong N (sub [1,0,1,0,0] (bodyOf F_spec_l09Wrong))) (maskAt R pol_spec_l09Wrong.loopM 2) n st (kBlk (maskAt R pol_spec_l09Wrong.blkM 0) 0 (kSeq (maskAt R pol_spec_l09Wrong.seqM 15) (evCode E R pol_spec_l09Wrong N (sub [1,1] (bodyOf F_spec_l09Wrong))) (kTop E sg_spec_l09Wrong F_spec_l09Wrong)))
theorem spec_l09Wrong.l3_succ (R:Run) (hw:R.ok) (N:Nat) (n00_:Nat) (n05_:Nat) (n:Nat) (s_13:vS) (k_14:Int) (n_15:Int) (i_16:Int) (j_17:Int):spec_l09Wrong.l3 R N n00_ n05_ (n + 1) s_13 k_14 n_15 i_16 j_17 = (bif (decide (j_17 < n_15)) then (Option.bind (callT R n_spec_l09Two o_spec_l09Two [⟨(.ptr yS),s_13⟩,⟨yI,k_14⟩,⟨yI,i_16⟩,⟨yI,j_17⟩]) fun r18 => (Option.bind (callT R n_spec_l09Two o_spec_l09Two [⟨(.ptr yS),s_13⟩,⟨yI,k_14⟩,⟨yI,j_17⟩,⟨yI,i_16⟩]) fun r19 => (Option.bind (callT R n_spec_l03Same o_spec_l03Same [⟨(.ptr yM),(r18.1,r18.2.1,r18.2.2.1,r18.2.2.2.1,())⟩,⟨(.ptr yM),(r19.1,r19.2.1,r19.2.2.1,r19.2.2.2.1,())⟩]) fun r20 => (bif (!r20.1) then some ⟨o_spec_l09Wrong,(k_14,i_16,j_17,())⟩ else (spec_l09Wrong.l3 R N n00_ n05_ n s_13 k_14 n_15 i_16 (w64 (j_17 + (1:Int)))))))) else (spec_l09Wrong.l1 R N n00_ n05_ s_13 k_14 n_15 (w64 (i_16 + (1:Int))))) := (hw _ _).trans (by kernel_rfl)
theorem spec_l09Wrong.j2_eq (R:Run) (hw:R.ok) (N:Nat) (n00_:Nat) (n05_:Nat) (s_8:vS) (k_9:Int) (n_10:Int) (i_11:Int) (t36__12:Bool):spec_l09Wrong.j2 R N n00_ n05_ s_8 k_9 n_10 i_11 t36__12 = (bif t36__12 then (spec_l09Wrong.l3 R N n00_ n05_ N s_8 k_9 n_10 i_11 (w64 (i_11 + (1:Int)))) else (spec_l09Wrong.l0 R N n00_ s_8 (w64 (k_9 + (1:Int))))) := (hw _ _).trans (by kernel_rfl)
theorem spec_l09Wrong.l1_succ (R:Run) (hw:R.ok) (N:Nat) (n00_:Nat) (n:Nat) (s_4:vS) (k_5:Int) (n_6:Int) (i_7:Int):spec_l09Wrong.l1 R N n00_ (n + 1) s_4 k_5 n_6 i_7 = (bif (decide (i_7 < n_6)) then (spec_l09Wrong.j2 R N n00_ n s_4 k_5 n_6 i_7 (decide (n_6 > (2:Int)))) else (spec_l09Wrong.j2 R N n00_ n s_4 k_5 n_6 i_7 false)) := (hw _ _).trans (by kernel_rfl)
theorem spec_l09Wrong.l0_succ (R:Run) (hw:R.ok) (N:Nat) (n:Nat) (s_1:vS) (k_2:Int):spec_l09Wrong.l0 R N (n + 1) s_1 k_2 = (bif (decide (k_2 < (List.length s_1.1:Int))) then (Option.bind (idx? s_1.1 k_2) fun y3 => (spec_l09Wrong.l1 R N n N s_1 k_2 (List.length (y3,()).1:Int) (0:Int))) else some ⟨o_spec_l09Wrong,((-1:Int),(0:Int),(0:Int),())⟩) := (hw _ _).trans (by kernel_rfl)
theorem spec_l09Wrong.ev (R:Run) (N:Nat) (a0:vS):evFn E R sg_spec_l09Wrong pol_spec_l09Wrong F_spec_l09Wrong N [⟨(.ptr yS),a0⟩] = (spec_l09Wrong.l0 R N N a0 (0:Int)) := by kernel_rfl
/-! loop.example/g01005/spec.l09Is -/
theorem spec_l09Is.ev (R:Run) (N:Nat) (a0:vS):evFn E R sg_spec_l09Is pol_spec_l09Is F_spec_l09Is N [⟨(.ptr yS),a0⟩] = (Option.bind (callT R n_spec_l09Ok o_spec_l09Ok [⟨(.ptr yS),a0⟩]) fun r1 => (bif (!r1.1) then some ⟨o_spec_l09Is,(false,())⟩ else (Option.bind (callT R n_spec_l09Wrong o_spec_l09Wrong [⟨(.ptr yS),a0⟩]) fun r2 => some ⟨o_spec_l09Is,((decide (r2.1 < (0:Int))),())⟩))) := by kernel_rfl
/-! loop.example/g01005/spec.l05Dimension -/
theorem spec_l05Dimension.ev (R:Run) (N:Nat) (a0:Int):evFn E R sg_spec_l05Dimension pol_spec_l05Dimension F_spec_l05Dimension N [⟨yI,a0⟩] = (Option.bind (callT R n_spec_l00In o_spec_l00In [⟨yI,a0⟩,⟨yI,(0:Int)⟩,⟨yI,(3:Int)⟩]) fun r1 => some ⟨o_spec_l05Dimension,(r1.1,())⟩) := by kernel_rfl
/-! loop.example/g01005/spec.l11Ask -/
theorem spec_l11Ask.ev (R:Run) (N:Nat) (a0:vS) (a1:Int):evFn E R sg_spec_l11Ask pol_spec_l11Ask F_spec_l11Ask N [⟨(.ptr yS),a0⟩,⟨yI,a1⟩] = (Option.bind (callT R n_spec_l09Is o_spec_l09Is [⟨(.ptr yS),a0⟩]) fun r1 => (bif (!r1.1) then some ⟨o_spec_l11Ask,((1:Int),())⟩ else (Option.bind (callT R n_spec_l05Dimension o_spec_l05Dimension [⟨yI,a1⟩]) fun r2 => (bif (!r2.1) then some ⟨o_spec_l11Ask,((2:Int),())⟩ else some ⟨o_spec_l11Ask,((0:Int),())⟩)))) := by kernel_rfl
/-! loop.example/g01005/spec.l11Cochain -/
theorem spec_l11Cochain.ev (R:Run) (N:Nat) (a0:vS) (a1:Int) (a2:(List Int)):evFn E R sg_spec_l11Cochain pol_spec_l11Cochain F_spec_l11Cochain N [⟨(.ptr yS),a0⟩,⟨yI,a1⟩,⟨yL,a2⟩] = (Option.bind (callT R n_spec_l11Ask o_spec_l11Ask [⟨(.ptr yS),a0⟩,⟨yI,a1⟩]) fun r1 => (bif (r1.1 != (0:Int)) then some ⟨o_spec_l11Cochain,(r1.1,())⟩ else (Option.bind (callT R n_spec_l09Sum o_spec_l09Sum [⟨(.ptr (.cons yK .nil)),(a0.1,())⟩,⟨yL,a0.2.2.1⟩,⟨yI,a1⟩]) fun r2 => (Option.bind (callT R n_spec_l03Column o_spec_l03Column [⟨yL,a2⟩,⟨yI,r2.1⟩,⟨yI,a0.2.1⟩]) fun r3 => (bif (!r3.1) then some ⟨o_spec_l11Cochain,((7:Int),())⟩ else some ⟨o_spec_l11Cochain,((0:Int),())⟩))))) := by kernel_rfl
/-! loop.example/g01005/spec.l11At -/
noncomputable def spec_l11At.l0 (R:Run) (N:Nat) (n:Nat) (s_1:vS) (simplex_2:Int) (at_3:Int) (k_4:Int):Option Dv := R.w (some ⟨(.c (.ip yS s_1 0)::(.c (.d yI simplex_2)::(zd 3 (.c (.d yI at_3)::(.c (.d yI k_4)::(zd 34 [])))))),(zo 43 [])⟩) fun st => loopC (evCode E R pol_spec_l11At N (sub [1,1,0,1,0,0] (bodyOf F_spec_l11At))) (maskAt R pol_spec_l11At.loopM 3) n st (kBlk (maskAt R pol_spec_l11At.blkM 0) 0 (kSeq (maskAt R pol_spec_l11At.seqM 7) (evCode E R pol_spec_l11At N (sub [1,1,1] (bodyOf F_spec_l11At))) (kTop E sg_spec_l11At F_spec_l11At)))
theorem spec_l11At.l0_succ (R:Run) (hw:R.ok) (N:Nat) (n:Nat) (s_1:vS) (simplex_2:Int) (at_3:Int) (k_4:Int):spec_l11At.l0 R N (n + 1) s_1 simplex_2 at_3 k_4 = (bif (decide (k_4 < simplex_2)) then (Option.bind (idx? s_1.1 k_4) fun y5 => (Option.bind (idx? s_1.1 simplex_2) fun y6 => (bif ((List.length (y5,()).1:Int) == (List.length (y6,()).1:Int)) then (Option.bind (idx? s_1.2.2.1 k_4) fun y7 => (spec_l11At.l0 R N n s_1 simplex_2 (w64 (at_3 + (y7,()).1)) (w64 (k_4 + (1:Int))))) else (spec_l11At.l0 R N n s_1 simplex_2 at_3 (w64 (k_4 + (1:Int))))))) else some ⟨o_spec_l11At,(at_3,())⟩) := (hw _ _).trans (by kernel_rfl)
theorem spec_l11At.ev (R:Run) (N:Nat) (a0:vS) (a1:Int):evFn E R sg_spec_l11At pol_spec_l11At F_spec_l11At N [⟨(.ptr yS),a0⟩,⟨yI,a1⟩] = (spec_l11At.l0 R N N a0 a1 (0:Int) (0:Int)) := by kernel_rfl
/-! loop.example/g01005/spec.l07Sign -/
theorem spec_l07Sign.ev (R:Run) (N:Nat) (a0:Int) (a1:Int):evFn E R sg_spec_l07Sign pol_spec_l07Sign F_spec_l07Sign N [⟨yI,a0⟩,⟨yI,a1⟩] = (bif ((Int.tmod a0 (2:Int)) == (0:Int)) then (Option.bind (chk (a1 != 0)) fun _ => some ⟨o_spec_l07Sign,((Int.tmod (1:Int) a1),())⟩) else some ⟨o_spec_l07Sign,((w64 (a1 - (1:Int))),())⟩) := by kernel_rfl
/-! loop.example/g01005/spec.l11Matrix -/
noncomputable def spec_l11Matrix.l5 (R:Run) (N:Nat) (n03_:Nat) (n06_:Nat) (n07_:Nat) (n:Nat) (t0__78:vS) (t1__79:Int) (t6__80:(List Int)) (t7__81:Int) (t8__82:(List Int)) (t9__83:Int) (t10__84:Int) (t11__85:vM) (t12__86:Int) (t13__87:Int) (t14__88:Int) (t15__89:Int) (o4_90:Int) (o4_91:Int) (o4_92:Int) (o5_93:Int) (o5_94:Int) (o5_95:Int) (o148_96:(List Int)):Option Dv := R.w (some ⟨(.c (.ip yS t0__78 0)::(.c (.d yI t1__79)::(V.dead::(V.dead::(.c (.box 4 0)::(.c (.box 5 0)::(.c (.d yL t6__80)::(.c (.d yI t7__81)::(.c (.d yL t8__82)::(.c (.d yI t9__83)::(.c (.d yI t10__84)::(.c (.ip yM t11__85 0)::(.c (.d yI t12__86)::(.c (.d yI t13__87)::(.c (.d yI t14__88)::(.c (.d yI t15__89)::(zd 130 []))))))))))))))))),(zo 4 (some (.box [.d yI o4_90,.d yI o4_91,.d yI o4_92,.nils yI] false false)::(some (.box [.d yI o5_93,.d yI o5_94,.d yI o5_95,.arr 148] false false)::(zo 142 (some (.arr yI o148_96 true false false)::[])))))⟩) fun st => loopC (evCode E R pol_spec_l11Matrix N (sub [1,1,1,0,1,0,0,1,0,0,1,1,1,0,0,1,0,0,1,1,1,1,0,0,1,0,0,1,0,0] (bodyOf F_spec_l11Matrix))) (maskAt R pol_spec_l11Matrix.loopM 18) n st (kBlk (maskAt R pol_spec_l11Matrix.blkM 6) 6 (kBlk (maskAt R pol_spec_l11Matrix.blkM 5) 5 (kSeq (maskAt R pol_spec_l11Matrix.seqM 16) (evCode E R pol_spec_l11Matrix N (sub [1,1,1,0,1,0,0,1,0,0,1,1,1,0,0,1,0,0,1,1,1,1,0,0,1,1] (bodyOf F_spec_l11Matrix))) (kLoop (evCode E R pol_spec_l11Matrix N (sub [1,1,1,0,1,0,0,1,0,0,1,1,1,0,0,1,0,0,1,1,1,1,0,0] (bodyOf F_spec_l11Matrix))) (maskAt R pol_spec_l11Matrix.loopM 15) n07_ (kBlk (maskAt R pol_spec_l11Matrix.blkM 4) 4 (kBlk (maskAt R pol_spec_l11Matrix.blkM 3) 3 (kSeq (maskAt R pol_spec_l11Matrix.seqM 10) (evCode E R pol_spec_l11Matrix N (sub [1,1,1,0,1,0,0,1,0,0,1,1,1,0,0,1,1] (bodyOf F_spec_l11Matrix))) (kLoop (evCode E R pol_spec_l11Matrix N (sub [1,1,1,0,1,0,0,1,0,0,1,1,1,0,0] (bodyOf F_spec_l11Matrix))) (maskAt R pol_spec_l11Matrix.loopM 9) n06_ (kBlk (maskAt R pol_spec_l11Matrix.blkM 2) 2 (kBlk (maskAt R pol_spec_l11Matrix.blkM 1) 1 (kSeq (maskAt R pol_spec_l11Matrix.seqM 5) (evCode E R pol_spec_l11Matrix N (sub [1,1,1,0,1,0,0,1,1] (bodyOf F_spec_l11Matrix))) (kLoop (evCode E R pol_spec_l11Matrix N (sub [1,1,1,0,1,0,0] (bodyOf F_spec_l11Matrix))) (maskAt R pol_spec_l11Matrix.loopM 4) n03_ (kBlk (maskAt R pol_spec_l11Matrix.blkM 0) 0 (kSeq (maskAt R pol_spec_l11Matrix.seqM 21) (evCode E R pol_spec_l11Matrix N (sub [1,1,1,1] (bodyOf F_spec_l11Matrix))) (kTop E sg_spec_l11Matrix F_spec_l11Matrix)))))))))))))))
noncomputable def spec_l11Matrix.l4 (R:Run) (N:Nat) (n03_:Nat) (n06_:Nat) (n:Nat) (t0__60:vS) (t1__61:Int) (t6__62:(List Int)) (t7__63:Int) (t8__64:(List Int)) (t9__65:Int) (t10__66:Int) (t11__67:vM) (t12__68:Int) (t13__69:Int) (t14__70:Int) (o4_71:Int) (o4_72:Int) (o4_73:Int) (o5_74:Int) (o5_75:Int) (o5_76:Int) (o148_77:(List Int)):Option Dv := R.w (some ⟨(.c (.ip yS t0__60 0)::(.c (.d yI t1__61)::(V.dead::(V.dead::(.c (.box 4 0)::(.c (.box 5 0)::(.c (.d yL t6__62)::(.c (.d yI t7__63)::(.c (.d yL t8__64)::(.c (.d yI t9__65)::(.c (.d yI t10__66)::(.c (.ip yM t11__67 0)::(.c (.d yI t12__68)::(.c (.d yI t13__69)::(.c (.d yI t14__70)::(zd 131 [])))))))))))))))),(zo 4 (some (.box [.d yI o4_71,.d yI o4_72,.d yI o4_73,.nils yI] false false)::(some (.box [.d yI o5_74,.d yI o5_75,.d yI o5_76,.arr 148] false false)::(zo 142 (some (.arr yI o148_77 true false false)::[])))))⟩) fun st => loopC (evCode E R pol_spec_l11Matrix N (sub [1,1,1,0,1,0,0,1,0,0,1,1,1,0,0,1,0,0,1,1,1,1,0,0] (bodyOf F_spec_l11Matrix))) (maskAt R pol_spec_l11Matrix.loopM 15) n st (kBlk (maskAt R pol_spec_l11Matrix.blkM 4) 4 (kBlk (maskAt R pol_spec_l11Matrix.blkM 3) 3 (kSeq (maskAt R pol_spec_l11Matrix.seqM 10) (evCode E R pol_spec_l11Matrix N (sub [1,1,1,0,1,0,0,1,0,0,1,1,1,0,0,1,1] (bodyOf F_spec_l11Matrix))) (kLoop (evCode E R pol_spec_l11Matrix N (sub [1,1,1,0,1,0,0,1,0,0,1,1,1,0,0] (bodyOf F_spec_l11Matrix))) (maskAt R pol_spec_l11Matrix.loopM 9) n06_ (kBlk (maskAt R pol_spec_l11Matrix.blkM 2) 2 (kBlk (maskAt R pol_spec_l11Matrix.blkM 1) 1 (kSeq (maskAt R pol_spec_l11Matrix.seqM 5) (evCode E R pol_spec_l11Matrix N (sub [1,1,1,0,1,0,0,1,1] (bodyOf F_spec_l11Matrix))) (kLoop (evCode E R pol_spec_l11Matrix N (sub [1,1,1,0,1,0,0] (bodyOf F_spec_l11Matrix))) (maskAt R pol_spec_l11Matrix.loopM 4) n03_ (kBlk (maskAt R pol_spec_l11Matrix.blkM 0) 0 (kSeq (maskAt R pol_spec_l11Matrix.seqM 21) (evCode E R pol_spec_l11Matrix N (sub [1,1,1,1] (bodyOf F_spec_l11Matrix))) (kTop E sg_spec_l11Matrix F_spec_l11Matrix)))))))))))
noncomputable def spec_l11Matrix.l3 (R:Run) (N:Nat) (n03_:Nat) (n:Nat) (t0__41:vS) (t1__42:Int) (t6__43:(List Int)) (t7__44:Int) (t8__45:(List Int)) (t9__46:Int) (t10__47:Int) (o4_48:Int) (o4_49:Int) (o4_50:Int) (o5_51:Int) (o5_52:Int) (o5_53:Int) (o148_54:(List Int)):Option Dv := R.w (some ⟨(.c (.ip yS t0__41 0)::(.c (.d yI t1__42)::(V.dead::(V.dead::(.c (.box 4 0)::(.c (.box 5 0)::(.c (.d yL t6__43)::(.c (.d yI t7__44)::(.c (.d yL t8__45)::(.c (.d yI t9__46)::(.c (.d yI t10__47)::(zd 135 [])))))))))))),(zo 4 (some (.box [.d yI o4_48,.d yI o4_49,.d yI o4_50,.nils yI] false false)::(some (.box [.d yI o5_51,.d yI o5_52,.d yI o5_53,.arr 148] false false)::(zo 142 (some (.arr yI o148_54 true false false)::[])))))⟩) fun st => loopC (evCode E R pol_spec_l11Matrix N (sub [1,1,1,0,1,0,0,1,0,0,1,1,1,0,0] (bodyOf F_spec_l11Matrix))) (maskAt R pol_spec_l11Matrix.loopM 9) n st (kBlk (maskAt R pol_spec_l11Matrix.blkM 2) 2 (kBlk (maskAt R pol_spec_l11Matrix.blkM 1) 1 (kSeq (maskAt R pol_spec_l11Matrix.seqM 5) (evCode E R pol_spec_l11Matrix N (sub [1,1,1,0,1,0,0,1,1] (bodyOf F_spec_l11Matrix))) (kLoop (evCode E R pol_spec_l11Matrix N (sub [1,1,1,0,1,0,0] (bodyOf F_spec_l11Matrix))) (maskAt R pol_spec_l11Matrix.loopM 4) n03_ (kBlk (maskAt R pol_spec_l11Matrix.blkM 0) 0 (kSeq (maskAt R pol_spec_l11Matrix.seqM 21) (evCode E R pol_spec_l11Matrix N (sub [1,1,1,1] (bodyOf F_spec_l11Matrix))) (kTop E sg_spec_l11Matrix F_spec_l11Matrix)))))))
noncomputable def spec_l11Matrix.j2 (R:Run) (N:Nat) (n03_:Nat) (t0__25:vS) (t1__26:Int) (t6__27:(List Int)) (t7__28:Int) (t53__29:Bool) (o4_30:Int) (o4_31:Int) (o4_32:Int) (o5_33:Int) (o5_34:Int) (o5_35:Int) (o148_36:(List Int)):Option Dv := R.w (some ⟨(.c (.ip yS t0__25 0)::(.c (.d yI t1__26)::(V.dead::(V.dead::(.c (.box 4 0)::(.c (.box 5 0)::(.c (.d yL t6__27)::(.c (.d yI t7__28)::(zd 45 (.c (.d .bool t53__29)::(zd 92 []))))))))))),(zo 4 (some (.box [.d yI o4_30,.d yI o4_31,.d yI o4_32,.nils yI] false false)::(some (.box [.d yI o5_33,.d yI o5_34,.d yI o5_35,.arr 148] false false)::(zo 142 (some (.arr yI o148_36 true false false)::[])))))⟩) fun st => evCode E R pol_spec_l11Matrix N (sub [1,1,1,0,1,0,0,0,1] (bodyOf F_spec_l11Matrix)) st (kSeq (maskAt R pol_spec_l11Matrix.seqM 6) (evCode E R pol_spec_l11Matrix N (sub [1,1,1,0,1,0,0,1] (bodyOf F_spec_l11Matrix))) (kLoop (evCode E R pol_spec_l11Matrix N (sub [1,1,1,0,1,0,0] (bodyOf F_spec_l11Matrix))) (maskAt R pol_spec_l11Matrix.loopM 4) n03_ (kBlk (maskAt R pol_spec_l11Matrix.blkM 0) 0 (kSeq (maskAt R pol_spec_l11Matrix.seqM 21) (evCode E R pol_spec_l11Matrix N (sub [1,1,1,1] (bodyOf F_spec_l11Matrix))) (kTop E sg_spec_l11Matrix F_spec_l11Matrix)))))
noncomputable def spec_l11Matrix.l1 (R:Run) (N:Nat) (n:Nat) (t0__14:vS) (t1__15:Int) (t6__16:(List Int)) (t7__17:Int) (o4_18:Int) (o4_19:Int) (o4_20:Int) (o5_21:Int) (o5_22:Int) (o5_23:Int) (o148_24:(List Int)):Option Dv := R.w (some ⟨(.c (.ip yS t0__14 0)::(.c (.d yI t1__15)::(V.dead::(V.dead::(.c (.box 4 0)::(.c (.box 5 0)::(.c (.d yL t6__16)::(.c (.d yI t7__17)::(zd 138 []))))))))),(zo 4 (some (.box [.d yI o4_18,.d yI o4_19,.d yI o4_20,.nils yI] false false)::(some (.box [.d yI o5_21,.d yI o5_22,.d yI o5_23,.arr 148] false false)::(zo 142 (some (.arr yI o148_24 true false false)::[])))))⟩) fun st => loopC (evCode E R pol_spec_l11Matrix N (sub [1,1,1,0,1,0,0] (bodyOf F_spec_l11Matrix))) (maskAt R pol_spec_l11Matrix.loopM 4) n st (kBlk (maskAt R pol_spec_l11Matrix.blkM 0) 0 (kSeq (maskAt R pol_spec_l11Matrix.seqM 21) (evCode E R pol_spec_l11Matrix N (sub [1,1,1,1] (bodyOf F_spec_l11Matrix))) (kTop E sg_spec_l11Matrix F_spec_l11Matrix)))
noncomputable def spec_l11Matrix.j0 (R:Run) (N:Nat) (t0__4:vS) (t1__5:Int) (o4_6:Int) (o4_7:Int) (o4_8:Int) (o5_9:Int) (o5_10:Int) (o5_11:Int) (o148_12:(List Int)):Option Dv := R.w (some ⟨(.c (.ip yS t0__4 0)::(.c (.d yI t1__5)::(V.dead::(V.dead::(.c (.box 4 0)::(.c (.box 5 0)::(zd 140 []))))))),(zo 4 (some (.box [.d yI o4_6,.d yI o4_7,.d yI o4_8,.nils yI] false false)::(some (.box [.d yI o5_9,.d yI o5_10,.d yI o5_11,.arr 148] false false)::(zo 142 (some (.arr yI o148_12 true false false)::[])))))⟩) fun st => evCode E R pol_spec_l11Matrix N (sub [1,1] (bodyOf F_spec_l11Matrix)) st (kTop E sg_spec_l11Matrix F_spec_l11Matrix)
theorem spec_l11Matrix.l5_succ (R:Run) (hw:R.ok) (N:Nat) (n03_:Nat) (n06_:Nat) (n07_:Nat) (n:Nat) (t0__78:vS) (t1__79:Int) (t6__80:(List Int)) (t7__81:Int) (t8__82:(List Int)) (t9__83:Int) (t10__84:Int) (t11__85:vM) (t12__86:Int) (t13__87:Int) (t14__88:Int) (t15__89:Int) (o4_90:Int) (o4_91:Int) (o4_92:Int) (o5_93:Int) (o5_94:Int) (o5_95:Int) (o148_96:(List Int)):spec_l11Matrix.l5 R N n03_ n06_ n07_ (n + 1) t0__78 t1__79 t6__80 t7__81 t8__82 t9__83 t10__84 t11__85 t12__86 t13__87 t14__88 t15__89 o4_90 o4_91 o4_92 o5_93 o5_94 o5_95 o148_96 = (bif (decide (t15__89 < t11__85.2.2.1)) then (Option.bind (idx? t11__85.2.2.2.1 (w64 ((w64 (t14__88 * t11__85.2.2.1)) + t15__89))) fun y97 => (Option.bind (chk (t0__78.2.1 != 0)) fun _ => (Option.bind (chk (decide (0 ≤ (w64 ((w64 ((w64 ((w64 (t9__83 + t14__88)) * o5_95)) + t12__86)) + t15__89))) && decide ((w64 ((w64 ((w64 ((w64 (t9__83 + t14__88)) * o5_95)) + t12__86)) + t15__89)) < (List.length o148_96:Int)))) fun _ => (spec_l11Matrix.l5 R N n03_ n06_ n07_ n t0__78 t1__79 t6__80 t7__81 t8__82 t9__83 t10__84 t11__85 t12__86 t13__87 t14__88 (w64 (t15__89 + (1:Int))) o4_90 o4_91 o4_92 o5_93 o5_94 o5_95 (List.set o148_96 (Int.toNat (w64 ((w64 ((w64 ((w64 (t9__83 + t14__88)) * o5_95)) + t12__86)) + t15__89))) (Int.tmod (w64 ((y97,()).1 * t13__87)) t0__78.2.1)))))) else (spec_l11Matrix.l4 R N n03_ n06_ n07_ t0__78 t1__79 t6__80 t7__81 t8__82 t9__83 t10__84 t11__85 t12__86 t13__87 (w64 (t14__88 + (1:Int))) o4_90 o4_91 o4_92 o5_93 o5_94 o5_95 o148_96)) := (hw _ _).trans (by kernel_rfl)
theorem spec_l11Matrix.l4_succ (R:Run) (hw:R.ok) (N:Nat) (n03_:Nat) (n06_:Nat) (n:Nat) (t0__60:vS) (t1__61:Int) (t6__62:(List Int)) (t7__63:Int) (t8__64:(List Int)) (t9__65:Int) (t10__66:Int) (t11__67:vM) (t12__68:Int) (t13__69:Int) (t14__70:Int) (o4_71:Int) (o4_72:Int) (o4_73:Int) (o5_74:Int) (o5_75:Int) (o5_76:Int) (o148_77:(List Int)):spec_l11Matrix.l4 R N n03_ n06_ (n + 1) t0__60 t1__61 t6__62 t7__63 t8__64 t9__65 t10__66 t11__67 t12__68 t13__69 t14__70 o4_71 o4_72 o4_73 o5_74 o5_75 o5_76 o148_77 = (bif (decide (t14__70 < t11__67.2.1)) then (spec_l11Matrix.l5 R N n03_ n06_ n N t0__60 t1__61 t6__62 t7__63 t8__64 t9__65 t10__66 t11__67 t12__68 t13__69 t14__70 (0:Int) o4_71 o4_72 o4_73 o5_74 o5_75 o5_76 o148_77) else (spec_l11Matrix.l3 R N n03_ n06_ t0__60 t1__61 t6__62 t7__63 t8__64 t9__65 (w64 (t10__66 + (1:Int))) o4_71 o4_72 o4_73 o5_74 o5_75 o5_76 o148_77)) := (hw _ _).trans (by kernel_rfl)
theorem spec_l11Matrix.l3_succ (R:Run) (hw:R.ok) (N:Nat) (n03_:Nat) (n:Nat) (t0__41:vS) (t1__42:Int) (t6__43:(List Int)) (t7__44:Int) (t8__45:(List Int)) (t9__46:Int) (t10__47:Int) (o4_48:Int) (o4_49:Int) (o4_50:Int) (o5_51:Int) (o5_52:Int) (o5_53:Int) (o148_54:(List Int)):spec_l11Matrix.l3 R N n03_ (n + 1) t0__41 t1__42 t6__43 t7__44 t8__45 t9__46 t10__47 o4_48 o4_49 o4_50 o5_51 o5_52 o5_53 o148_54 = (bif (decide (t10__47 < (List.length t8__45:Int))) then (Option.bind (idx? t6__43 t7__44) fun y55 => (Option.bind (callT R n_spec_l09Get o_spec_l09Get [⟨(.ptr yS),t0__41⟩,⟨yI,(y55,()).1⟩,⟨yI,t10__47⟩]) fun r56 => (Option.bind (idx? t8__45 t10__47) fun y57 => (Option.bind (callT R n_spec_l11At o_spec_l11At [⟨(.ptr yS),t0__41⟩,⟨yI,(y57,()).1⟩]) fun r58 => (Option.bind (callT R n_spec_l07Sign o_spec_l07Sign [⟨yI,t10__47⟩,⟨yI,t0__41.2.1⟩]) fun r59 => (spec_l11Matrix.l4 R N n03_ n N t0__41 t1__42 t6__43 t7__44 t8__45 t9__46 t10__47 r56.1 r58.1 r59.1 (0:Int) o4_48 o4_49 o4_50 o5_51 o5_52 o5_53 o148_54)))))) else (spec_l11Matrix.l1 R N n03_ t0__41 t1__42 t6__43 (w64 (t7__44 + (1:Int))) o4_48 o4_49 o4_50 o5_51 o5_52 o5_53 o148_54)) := (hw _ _).trans (by kernel_rfl)
theorem spec_l11Matrix.j2_eq (R:Run) (hw:R.ok) (N:Nat) (n03_:Nat) (t0__25:vS) (t1__26:Int) (t6__27:(List Int)) (t7__28:Int) (t53__29:Bool) (o4_30:Int) (o4_31:Int) (o4_32:Int) (o5_33:Int) (o5_34:Int) (o5_35:Int) (o148_36:(List Int)):spec_l11Matrix.j2 R N n03_ t0__25 t1__26 t6__27 t7__28 t53__29 o4_30 o4_31 o4_32 o5_33 o5_34 o5_35 o148_36 = (bif t53__29 then (Option.bind (idx? t6__27 t7__28) fun y37 => (Option.bind (callT R n_spec_l05Faces o_spec_l05Faces [⟨(.ptr (.cons yK .nil)),(t0__25.1,())⟩,⟨yI,(y37,()).1⟩]) fun r38 => (Option.bind (idx? t6__27 t7__28) fun y39 => (Option.bind (callT R n_spec_l11At o_spec_l11At [⟨(.ptr yS),t0__25⟩,⟨yI,(y39,()).1⟩]) fun r40 => (spec_l11Matrix.l3 R N n03_ N t0__25 t1__26 t6__27 t7__28 r38.1 r40.1 (0:Int) o4_30 o4_31 o4_32 o5_33 o5_34 o5_35 o148_36))))) else some ⟨o_spec_l11Matrix,(o5_33,o5_34,o5_35,o148_36,())⟩) := (hw _ _).trans (by kernel_rfl)
theorem spec_l11Matrix.l1_succ (R:Run) (hw:R.ok) (N:Nat) (n:Nat) (t0__14:vS) (t1__15:Int) (t6__16:(List Int)) (t7__17:Int) (o4_18:Int) (o4_19:Int) (o4_20:Int) (o5_21:Int) (o5_22:Int) (o5_23:Int) (o148_24:(List Int)):spec_l11Matrix.l1 R N (n + 1) t0__14 t1__15 t6__16 t7__17 o4_18 o4_19 o4_20 o5_21 o5_22 o5_23 o148_24 = (bif (decide (t7__17 < (List.length t6__16:Int))) then (spec_l11Matrix.j2 R N n t0__14 t1__15 t6__16 t7__17 (decide (t1__15 ≥ (0:Int))) o4_18 o4_19 o4_20 o5_21 o5_22 o5_23 o148_24) else (spec_l11Matrix.j2 R N n t0__14 t1__15 t6__16 t7__17 false o4_18 o4_19 o4_20 o5_21 o5_22 o5_23 o148_24)) := (hw _ _).trans (by kernel_rfl)
theorem spec_l11Matrix.j0_eq (R:Run) (hw:R.ok) (N:Nat) (t0__4:vS) (t1__5:Int) (o4_6:Int) (o4_7:Int) (o4_8:Int) (o5_9:Int) (o5_10:Int) (o5_11:Int) (o148_12:(List Int)):spec_l11Matrix.j0 R N t0__4 t1__5 o4_6 o4_7 o4_8 o5_9 o5_10 o5_11 o148_12 = (Option.bind (callT R n_spec_l05Of o_spec_l05Of [⟨(.ptr (.cons yK .nil)),(t0__4.1,())⟩,⟨yI,(w64 (t1__5 + (1:Int)))⟩]) fun r13 => (spec_l11Matrix.l1 R N N t0__4 t1__5 r13.1 (0:Int) o4_6 o4_7 o4_8 o5_9 o5_10 o5_11 o148_12)) := (hw _ _).trans (by kernel_rfl)
theorem spec_l11Matrix.ev (R:Run) (N:Nat) (a0:vS) (a1:Int):evFn E R sg_spec_l11Matrix pol_spec_l11Matrix F_spec_l11Matrix N [⟨(.ptr yS),a0⟩,⟨yI,a1⟩] = (both (Option.bind (callT R n_spec_l09Sum o_spec_l09Sum [⟨(.ptr (.cons yK .nil)),(a0.1,())⟩,⟨yL,a0.2.2.1⟩,⟨yI,(w64 (a1 + (1:Int)))⟩]) fun r1 => (both (Option.bind (callT R n_spec_l09Sum o_spec_l09Sum [⟨(.ptr (.cons yK .nil)),(a0.1,())⟩,⟨yL,a0.2.2.1⟩,⟨yI,a1⟩]) fun r2 => (both (Option.bind (callT R n_spec_l03Zero o_spec_l03Zero [⟨yI,a0.2.1⟩,⟨yI,r1.1⟩,⟨yI,r2.1⟩]) fun r3 => (spec_l11Matrix.j0 R N a0 a1 (0:Int) (0:Int) (0:Int) r3.1 r3.2.1 r3.2.2.1 r3.2.2.2.1)) (Option.bind (callT R n_spec_l03Zero o_spec_l03Zero [⟨yI,a0.2.1⟩,⟨yI,r1.1⟩,⟨yI,r2.1⟩]) fun r172 => (spec_l11Matrix.j0 R N a0 a1 (0:Int) (0:Int) (0:Int) r172.1 r172.2.1 r172.2.2.1 r172.2.2.2.1)))) (Option.bind (callT R n_spec_l09Sum o_spec_l09Sum [⟨(.ptr (.cons yK .nil)),(a0.1,())⟩,⟨yL,a0.2.2.1⟩,⟨yI,a1⟩]) fun r182 => (Option.bind (callT R n_spec_l03Zero o_spec_l03Zero [⟨yI,a0.2.1⟩,⟨yI,r1.1⟩,⟨yI,r182.1⟩]) fun r183 => (spec_l11Matrix.j0 R N a0 a1 (0:Int) (0:Int) (0:Int) r183.1 r183.2.1 r183.2.2.1 r183.2.2.2.1))))) (Option.bind (callT R n_spec_l09Sum o_spec_l09Sum [⟨(.ptr (.cons yK .nil)),(a0.1,())⟩,⟨yL,a0.2.2.1⟩,⟨yI,(w64 (a1 + (1:Int)))⟩]) fun r193 => (Option.bind (callT R n_spec_l09Sum o_spec_l09Sum [⟨(.ptr (.cons yK .nil)),(a0.1,())⟩,⟨yL,a0.2.2.1⟩,⟨yI,a1⟩]) fun r194 => (Option.bind (callT R n_spec_l03Zero o_spec_l03Zero [⟨yI,a0.2.1⟩,⟨yI,r193.1⟩,⟨yI,r194.1⟩]) fun r195 => (spec_l11Matrix.j0 R N a0 a1 (0:Int) (0:Int) (0:Int) r195.1 r195.2.1 r195.2.2.1 r195.2.2.2.1))))) := by kernel_rfl
/-! loop.example/g01005/spec.l03Join -/
noncomputable def spec_l03Join.l1 (R:Run) (N:Nat) (n:Nat) (t0__10:vM) (t1__11:vM) (t6__12:Int) (o4_13:Int) (o4_14:Int) (o4_15:Int) (o5_16:Int) (o5_17:Int) (o5_18:Int) (o24_19:(List Int)):Option Dv := R.w (some ⟨(.c (.ip yM t0__10 0)::(.c (.ip yM t1__11 0)::(V.dead::(V.dead::(.c (.box 4 0)::(.c (.box 5 0)::(.c (.d yI t6__12)::(zd 72 [])))))))),(zo 4 (some (.box [.d yI o4_13,.d yI o4_14,.d yI o4_15,.nils yI] false false)::(some (.box [.d yI o5_16,.d yI o5_17,.d yI o5_18,.arr 24] false false)::(zo 18 (some (.arr yI o24_19 true false false)::(zo 56 []))))))⟩) fun st => loopC (evCode E R pol_spec_l03Join N (sub [1,1,0,1,0,0] (bodyOf F_spec_l03Join))) (maskAt R pol_spec_l03Join.loopM 3) n st (kBlk (maskAt R pol_spec_l03Join.blkM 0) 0 (kSeq (maskAt R pol_spec_l03Join.seqM 7) (evCode E R pol_spec_l03Join N (sub [1,1,1] (bodyOf F_spec_l03Join))) (kTop E sg_spec_l03Join F_spec_l03Join)))
noncomputable def spec_l03Join.j0 (R:Run) (N:Nat) (t0__1:vM) (t1__2:vM) (o4_3:Int) (o4_4:Int) (o4_5:Int) (o5_6:Int) (o5_7:Int) (o5_8:Int) (o24_9:(List Int)):Option Dv := R.w (some ⟨(.c (.ip yM t0__1 0)::(.c (.ip yM t1__2 0)::(V.dead::(V.dead::(.c (.box 4 0)::(.c (.box 5 0)::(zd 73 []))))))),(zo 4 (some (.box [.d yI o4_3,.d yI o4_4,.d yI o4_5,.nils yI] false false)::(some (.box [.d yI o5_6,.d yI o5_7,.d yI o5_8,.arr 24] false false)::(zo 18 (some (.arr yI o24_9 true false false)::(zo 56 []))))))⟩) fun st => evCode E R pol_spec_l03Join N (sub [1,1] (bodyOf F_spec_l03Join)) st (kTop E sg_spec_l03Join F_spec_l03Join)
theorem spec_l03Join.l1_succ (R:Run) (hw:R.ok) (N:Nat) (n:Nat) (t0__10:vM) (t1__11:vM) (t6__12:Int) (o4_13:Int) (o4_14:Int) (o4_15:Int) (o5_16:Int) (o5_17:Int) (o5_18:Int) (o24_19:(List Int)):spec_l03Join.l1 R N (n + 1) t0__10 t1__11 t6__12 o4_13 o4_14 o4_15 o5_16 o5_17 o5_18 o24_19 = (bif (decide (t6__12 < t0__10.2.1)) then (Option.bind (chk (decide (0 ≤ (w64 (t6__12 * t0__10.2.2.1))) && decide ((w64 (t6__12 * t0__10.2.2.1)) ≤ (w64 ((w64 (t6__12 + (1:Int))) * t0__10.2.2.1))) && decide ((w64 ((w64 (t6__12 + (1:Int))) * t0__10.2.2.1)) ≤ (List.length t0__10.2.2.2.1:Int)))) fun _ => (Option.bind (chk (decide ((List.length o24_19 + List.length (List.drop (Int.toNat (w64 (t6__12 * t0__10.2.2.1))) (List.take (Int.toNat (w64 ((w64 (t6__12 + (1:Int))) * t0__10.2.2.1))) t0__10.2.2.2.1))) * 8 ≤ 70368744177664))) fun _ => (Option.bind (chk (decide (0 ≤ (w64 (t6__12 * t1__11.2.2.1))) && decide ((w64 (t6__12 * t1__11.2.2.1)) ≤ (w64 ((w64 (t6__12 + (1:Int))) * t1__11.2.2.1))) && decide ((w64 ((w64 (t6__12 + (1:Int))) * t1__11.2.2.1)) ≤ (List.length t1__11.2.2.2.1:Int)))) fun _ => (Option.bind (chk (decide ((List.length (o24_19 ++ (List.drop (Int.toNat (w64 (t6__12 * t0__10.2.2.1))) (List.take (Int.toNat (w64 ((w64 (t6__12 + (1:Int))) * t0__10.2.2.1))) t0__10.2.2.2.1))) + List.length (List.drop (Int.toNat (w64 (t6__12 * t1__11.2.2.1))) (List.take (Int.toNat (w64 ((w64 (t6__12 + (1:Int))) * t1__11.2.2.1))) t1__11.2.2.2.1))) * 8 ≤ 70368744177664))) fun _ => (spec_l03Join.l1 R N n t0__10 t1__11 (w64 (t6__12 + (1:Int))) o4_13 o4_14 o4_15 o5_16 o5_17 o5_18 ((o24_19 ++ (List.drop (Int.toNat (w64 (t6__12 * t0__10.2.2.1))) (List.take (Int.toNat (w64 ((w64 (t6__12 + (1:Int))) * t0__10.2.2.1))) t0__10.2.2.2.1))) ++ (List.drop (Int.toNat (w64 (t6__12 * t1__11.2.2.1))) (List.take (Int.toNat (w64 ((w64 (t6__12 + (1:Int))) * t1__11.2.2.1))) t1__11.2.2.2.1)))))))) else some ⟨o_spec_l03Join,(o5_16,o5_17,o5_18,o24_19,())⟩) := (hw _ _).trans (by kernel_rfl)
theorem spec_l03Join.j0_eq (R:Run) (hw:R.ok) (N:Nat) (t0__1:vM) (t1__2:vM) (o4_3:Int) (o4_4:Int) (o4_5:Int) (o5_6:Int) (o5_7:Int) (o5_8:Int) (o24_9:(List Int)):spec_l03Join.j0 R N t0__1 t1__2 o4_3 o4_4 o4_5 o5_6 o5_7 o5_8 o24_9 = (spec_l03Join.l1 R N N t0__1 t1__2 (0:Int) o4_3 o4_4 o4_5 o5_6 o5_7 o5_8 o24_9) := (hw _ _).trans (by kernel_rfl)
theorem spec_l03Join.ev (R:Run) (N:Nat) (a0:vM) (a1:vM):evFn E R sg_spec_l03Join pol_spec_l03Join F_spec_l03Join N [⟨(.ptr yM),a0⟩,⟨(.ptr yM),a1⟩] = (both (spec_l03Join.j0 R N a0 a1 (0:Int) (0:Int) (0:Int) a0.1 a0.2.1 (w64 (a0.2.2.1 + a1.2.2.1)) ([]:List Int)) (spec_l03Join.j0 R N a0 a1 (0:Int) (0:Int) (0:Int) a0.1 a0.2.1 (w64 (a0.2.2.1 + a1.2.2.1)) ([]:List Int))) := by kernel_rfl
/-! loop.example/g01005/spec.l03Inverse -/
noncomputable def spec_l03Inverse.l0 (R:Run) (N:Nat) (n:Nat) (a_1:Int) (p_2:Int) (out_3:Int) (n_4:Int):Option Dv := R.w (some ⟨(.c (.d yI a_1)::(.c (.d yI p_2)::(zd 3 (.c (.d yI out_3)::(.c (.d yI n_4)::(zd 12 [])))))),(zo 21 [])⟩) fun st => loopC (evCode E R pol_spec_l03Inverse N (sub [1,1,0,1,0,0] (bodyOf F_spec_l03Inverse))) (maskAt R pol_spec_l03Inverse.loopM 3) n st (kBlk (maskAt R pol_spec_l03Inverse.blkM 0) 0 (kSeq (maskAt R pol_spec_l03Inverse.seqM 6) (evCode E R pol_spec_l03Inverse N (sub [1,1,1] (bodyOf F_spec_l03Inverse))) (kTop E sg_spec_l03Inverse F_spec_l03Inverse)))
theorem spec_l03Inverse.l0_succ (R:Run) (hw:R.ok) (N:Nat) (n:Nat) (a_1:Int) (p_2:Int) (out_3:Int) (n_4:Int):spec_l03Inverse.l0 R N (n + 1) a_1 p_2 out_3 n_4 = (bif (decide (n_4 > (0:Int))) then (Option.bind (chk (p_2 != 0)) fun _ => (spec_l03Inverse.l0 R N n a_1 p_2 (Int.tmod (w64 (out_3 * a_1)) p_2) (w64 (n_4 - (1:Int))))) else some ⟨o_spec_l03Inverse,(out_3,())⟩) := (hw _ _).trans (by kernel_rfl)
theorem spec_l03Inverse.ev (R:Run) (N:Nat) (a0:Int) (a1:Int):evFn E R sg_spec_l03Inverse pol_spec_l03Inverse F_spec_l03Inverse N [⟨yI,a0⟩,⟨yI,a1⟩] = (spec_l03Inverse.l0 R N N a0 a1 (1:Int) (w64 (a1 - (2:Int)))) := by kernel_rfl
/-! loop.example/g01005/spec.l03Mod -/
theorem spec_l03Mod.ev (R:Run) (N:Nat) (a0:Int) (a1:Int):evFn E R sg_spec_l03Mod pol_spec_l03Mod F_spec_l03Mod N [⟨yI,a0⟩,⟨yI,a1⟩] = (Option.bind (chk (a1 != 0)) fun _ => (Option.bind (chk (a1 != 0)) fun _ => some ⟨o_spec_l03Mod,((Int.tmod (w64 ((Int.tmod a0 a1) + a1)) a1),())⟩)) := by kernel_rfl
end VeT
