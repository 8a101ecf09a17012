import Derived.Test.YtonfceapakgcjaaGreatV2
import Derived.Test.YtonfceapakgcjaaGreatProg
import Derived.KernelRfl
import Derived.Shelf.SlicesG.CompactI
import Derived.Ground.SlgnProg
import Derived.Shelf.SortG.Plain
import Derived.Shelf.SortG.SortNone
import Derived.WalkKit
import Derived.Lib.Walk
import Derived.Lib.SliceRun
import Derived.Lib.AppendZerosOnto
set_option linter.unusedVariables false
set_option linter.unusedSimpArgs false
open Go Go.Proofs Ve
set_option linter.unusedVariables false
set_option maxRecDepth 100000
namespace VeT
abbrev yM : Ty := .cons (.int .i64) (.cons (.int .i64) (.cons (.int .i64) (.cons (.sl (.int .i64)) .nil)))
abbrev yI : Ty := .int .i64
abbrev yL : Ty := .sl yI
abbrev yK : Ty := .sl yL
abbrev yN : Ty := .sl (.st yM)
abbrev yS : Ty := .cons yK (.cons yI (.cons yL (.cons yN .nil)))
abbrev vM := Int × Int × Int × List Int × Unit
abbrev vK := List (List Int)
abbrev vN := List vM
abbrev vS := vK × Int × List Int × vN × Unit
noncomputable def bodyOf (f:Func):Code := f.body.getD .skip
def zd:Nat → List Ve.V → List Ve.V
  | 0,t => t
  | n + 1,t => V.dead::zd n t
def zo:Nat → List (Option Ve.Obj) → List (Option Ve.Obj)
  | 0,t => t
  | n + 1,t => none::zo n t
@[reducible] def n_laws_FnExactChainMap:Nat := 5
@[reducible] def n_laws_szComplex:Nat := 11
@[reducible] def n_laws_toComplex:Nat := 13
@[reducible] def n_laws_eqInt64SS:Nat := 15
@[reducible] def n_laws_eqComplex:Nat := 16
@[reducible] def n_laws_markComplex:Nat := 17
@[reducible] def n_laws_markInt64SS:Nat := 18
@[reducible] def n_laws_toInt64S:Nat := 21
@[reducible] def n_laws_eqInt64S:Nat := 23
@[reducible] def n_laws_markInt64S:Nat := 24
@[reducible] def n_laws_heldInt64S:Nat := 25
@[reducible] def n_spec_ChainMap:Nat := 26
@[reducible] def n_impl_ChainMap:Nat := 27
@[reducible] def n_laws_eqMatrix:Nat := 28
@[reducible] def n_laws_markMatrix:Nat := 29
@[reducible] def n_laws_heldMatrix:Nat := 30
@[reducible] def n_laws_szInt64SS:Nat := 46
@[reducible] def n_laws_toInt64SS:Nat := 49
@[reducible] def n_spec_l02Prime:Nat := 60
@[reducible] def n_spec_l08Ask:Nat := 61
@[reducible] def n_spec_l05Dimension:Nat := 62
@[reducible] def n_spec_l05Of:Nat := 63
@[reducible] def n_spec_l08Chain:Nat := 64
@[reducible] def n_impl_chainMapped:Nat := 65
@[reducible] def n_impl_chainMap:Nat := 66
@[reducible] def n_laws_szInt64S:Nat := 67
@[reducible] def n_spec_l00Own:Nat := 80
@[reducible] def n_spec_l08At:Nat := 81
@[reducible] def n_impl_mapped:Nat := 83
@[reducible] def n_impl_imageOf:Nat := 84
@[reducible] def n_spec_l05Ok:Nat := 97
@[reducible] def n_impl_ValidComplex:Nat := 101
@[reducible] def n_impl_ValidPrime:Nat := 102
@[reducible] def n_impl_isDimension:Nat := 103
@[reducible] def n_impl_simplicesOf:Nat := 104
@[reducible] def n_spec_l03Zero:Nat := 111
@[reducible] def n_spec_l07Sign:Nat := 113
@[reducible] def n_spec_l00In:Nat := 122
@[reducible] def n_spec_l08Map:Nat := 123
@[reducible] def n_spec_l08Vertices:Nat := 124
@[reducible] def n_spec_l08Told:Nat := 125
@[reducible] def n_impl_zero:Nat := 126
@[reducible] def n_impl_size_int64:Nat := 127
@[reducible] def n_slices_Index_Sint64_int64:Nat := 128
@[reducible] def n_impl_indexOf:Nat := 129
@[reducible] def n_impl_alternating:Nat := 130
@[reducible] def n_impl_inversions:Nat := 131
@[reducible] def n_spec_l08Image:Nat := 140
@[reducible] def n_spec_l05Find:Nat := 141
@[reducible] def n_impl_isMap:Nat := 143
@[reducible] def n_impl_verticesOf:Nat := 144
@[reducible] def n_slices_Sort_Sint64_int64:Nat := 145
@[reducible] def n_slices_Compact_Sint64_int64:Nat := 146
@[reducible] def n_impl_compareSimplices:Nat := 149
@[reducible] def n_spec_l05Simplex:Nat := 161
@[reducible] def n_spec_l05Before:Nat := 162
@[reducible] def n_spec_l05Drop:Nat := 163
@[reducible] def n_impl_ValidSimplex:Nat := 168
@[reducible] def n_slices_ContainsFunc_SSint64_Sint64:Nat := 169
@[reducible] def n_impl_facesOf:Nat := 170
@[reducible] def n_impl_ValidComplex_1:Nat := 171
@[reducible] def n_impl_within:Nat := 172
@[reducible] def n_slices_ContainsFunc_Sint64_int64:Nat := 179
@[reducible] def n_impl_filled:Nat := 182
@[reducible] def n_slices_Concat_Sint64_int64:Nat := 185
@[reducible] def n_spec_l08Fits:Nat := 186
@[reducible] def n_impl_zero_1:Nat := 187
@[reducible] def n_slices_BinarySearchFunc_SSint64_Sint64_Sint64:Nat := 188
@[reducible] def n_spec_l00Put:Nat := 202
@[reducible] def n_spec_l00Same:Nat := 203
@[reducible] def n_impl_isMap_1:Nat := 204
@[reducible] def n_cmp_Or_int:Nat := 209
@[reducible] def n_cmp_Compare_int:Nat := 210
@[reducible] def n_slices_Compare_Sint64_int64:Nat := 211
@[reducible] def n_spec_l00Rises:Nat := 215
@[reducible] def n_impl_isRising:Nat := 217
@[reducible] def n_impl_ValidSimplex_1:Nat := 218
@[reducible] def n_impl_isVertex:Nat := 219
@[reducible] def n_slices_IndexFunc_SSint64_Sint64:Nat := 220
@[reducible] def n_slices_IndexFunc_Sint64_int64:Nat := 224
@[reducible] def n_slices_Grow_Sint64_int64:Nat := 225
@[reducible] def n_cmp_isNaN_int:Nat := 251
@[reducible] def n_cmp_Compare_int64:Nat := 252
@[reducible] def n_cmp_isNaN_int64:Nat := 263
@[reducible] noncomputable def F_laws_FnExactChainMap:Func := Tryz.f5
@[reducible] noncomputable def F_laws_szComplex:Func := Tryz.f11
@[reducible] noncomputable def F_laws_toComplex:Func := Tryz.f13
@[reducible] noncomputable def F_laws_eqInt64SS:Func := Tryz.f15
@[reducible] noncomputable def F_laws_eqComplex:Func := Tryz.f16
@[reducible] noncomputable def F_laws_markComplex:Func := Tryz.f17
@[reducible] noncomputable def F_laws_markInt64SS:Func := Tryz.f18
@[reducible] noncomputable def F_laws_toInt64S:Func := Tryz.f21
@[reducible] noncomputable def F_laws_eqInt64S:Func := Tryz.f23
@[reducible] noncomputable def F_laws_markInt64S:Func := Tryz.f24
@[reducible] noncomputable def F_laws_heldInt64S:Func := Tryz.f25
@[reducible] noncomputable def F_spec_ChainMap:Func := Tryz.f26
@[reducible] noncomputable def F_impl_ChainMap:Func := Tryz.f27
@[reducible] noncomputable def F_laws_eqMatrix:Func := Tryz.f28
@[reducible] noncomputable def F_laws_markMatrix:Func := Tryz.f29
@[reducible] noncomputable def F_laws_heldMatrix:Func := Tryz.f30
@[reducible] noncomputable def F_laws_szInt64SS:Func := Tryz.f46
@[reducible] noncomputable def F_laws_toInt64SS:Func := Tryz.f49
@[reducible] noncomputable def F_spec_l02Prime:Func := Tryz.f60
@[reducible] noncomputable def F_spec_l08Ask:Func := Tryz.f61
@[reducible] noncomputable def F_spec_l05Dimension:Func := Tryz.f62
@[reducible] noncomputable def F_spec_l05Of:Func := Tryz.f63
@[reducible] noncomputable def F_spec_l08Chain:Func := Tryz.f64
@[reducible] noncomputable def F_impl_chainMapped:Func := Tryz.f65
@[reducible] noncomputable def F_impl_chainMap:Func := Tryz.f66
@[reducible] noncomputable def F_laws_szInt64S:Func := Tryz.f67
@[reducible] noncomputable def F_spec_l00Own:Func := Tryz.f80
@[reducible] noncomputable def F_spec_l08At:Func := Tryz.f81
@[reducible] noncomputable def F_impl_mapped:Func := Tryz.f83
@[reducible] noncomputable def F_impl_imageOf:Func := Tryz.f84
@[reducible] noncomputable def F_spec_l05Ok:Func := Tryz.f97
@[reducible] noncomputable def F_impl_ValidComplex:Func := Tryz.f101
@[reducible] noncomputable def F_impl_ValidPrime:Func := Tryz.f102
@[reducible] noncomputable def F_impl_isDimension:Func := Tryz.f103
@[reducible] noncomputable def F_impl_simplicesOf:Func := Tryz.f104
@[reducible] noncomputable def F_spec_l03Zero:Func := Tryz.f111
@[reducible] noncomputable def F_spec_l07Sign:Func := Tryz.f113
@[reducible] noncomputable def F_spec_l00In:Func := Tryz.f122
@[reducible] noncomputable def F_spec_l08Map:Func := Tryz.f123
@[reducible] noncomputable def F_spec_l08Vertices:Func := Tryz.f124
@[reducible] noncomputable def F_spec_l08Told:Func := Tryz.f125
@[reducible] noncomputable def F_impl_zero:Func := Tryz.f126
@[reducible] noncomputable def F_impl_size_int64:Func := Tryz.f127
@[reducible] noncomputable def F_slices_Index_Sint64_int64:Func := Tryz.f128
@[reducible] noncomputable def F_impl_indexOf:Func := Tryz.f129
@[reducible] noncomputable def F_impl_alternating:Func := Tryz.f130
@[reducible] noncomputable def F_impl_inversions:Func := Tryz.f131
@[reducible] noncomputable def F_spec_l08Image:Func := Tryz.f140
@[reducible] noncomputable def F_spec_l05Find:Func := Tryz.f141
@[reducible] noncomputable def F_impl_isMap:Func := Tryz.f143
@[reducible] noncomputable def F_impl_verticesOf:Func := Tryz.f144
@[reducible] noncomputable def F_slices_Sort_Sint64_int64:Func := Tryz.f145
@[reducible] noncomputable def F_slices_Compact_Sint64_int64:Func := Tryz.f146
@[reducible] noncomputable def F_impl_compareSimplices:Func := Tryz.f149
@[reducible] noncomputable def F_spec_l05Simplex:Func := Tryz.f161
@[reducible] noncomputable def F_spec_l05Before:Func := Tryz.f162
@[reducible] noncomputable def F_spec_l05Drop:Func := Tryz.f163
@[reducible] noncomputable def F_impl_ValidSimplex:Func := Tryz.f168
@[reducible] noncomputable def F_slices_ContainsFunc_SSint64_Sint64:Func := Tryz.f169
@[reducible] noncomputable def F_impl_facesOf:Func := Tryz.f170
@[reducible] noncomputable def F_impl_ValidComplex_1:Func := Tryz.f171
@[reducible] noncomputable def F_impl_within:Func := Tryz.f172
@[reducible] noncomputable def F_slices_ContainsFunc_Sint64_int64:Func := Tryz.f179
@[reducible] noncomputable def F_impl_filled:Func := Tryz.f182
@[reducible] noncomputable def F_slices_Concat_Sint64_int64:Func := Tryz.f185
@[reducible] noncomputable def F_spec_l08Fits:Func := Tryz.f186
@[reducible] noncomputable def F_impl_zero_1:Func := Tryz.f187
@[reducible] noncomputable def F_slices_BinarySearchFunc_SSint64_Sint64_Sint64:Func := Tryz.f188
@[reducible] noncomputable def F_spec_l00Put:Func := Tryz.f202
@[reducible] noncomputable def F_spec_l00Same:Func := Tryz.f203
@[reducible] noncomputable def F_impl_isMap_1:Func := Tryz.f204
@[reducible] noncomputable def F_cmp_Or_int:Func := Tryz.f209
@[reducible] noncomputable def F_cmp_Compare_int:Func := Tryz.f210
@[reducible] noncomputable def F_slices_Compare_Sint64_int64:Func := Tryz.f211
@[reducible] noncomputable def F_spec_l00Rises:Func := Tryz.f215
@[reducible] noncomputable def F_impl_isRising:Func := Tryz.f217
@[reducible] noncomputable def F_impl_ValidSimplex_1:Func := Tryz.f218
@[reducible] noncomputable def F_impl_isVertex:Func := Tryz.f219
@[reducible] noncomputable def F_slices_IndexFunc_SSint64_Sint64:Func := Tryz.f220
@[reducible] noncomputable def F_slices_IndexFunc_Sint64_int64:Func := Tryz.f224
@[reducible] noncomputable def F_slices_Grow_Sint64_int64:Func := Tryz.f225
@[reducible] noncomputable def F_cmp_isNaN_int:Func := Tryz.f251
@[reducible] noncomputable def F_cmp_Compare_int64:Func := Tryz.f252
@[reducible] noncomputable def F_cmp_isNaN_int64:Func := Tryz.f263
@[reducible] def o_laws_FnExactChainMap:Ty := (.cons .bool .nil)
noncomputable def sg_laws_FnExactChainMap:Sig := ⟨[(true,1),(true,1),(false,1),(false,1),(false,1)],[],o_laws_FnExactChainMap,[(false,1)],[],[]⟩
@[reducible] def o_laws_szComplex:Ty := (.cons yI .nil)
noncomputable def sg_laws_szComplex:Sig := ⟨[(true,1),(false,1)],[],o_laws_szComplex,[(false,1)],[],[]⟩
@[reducible] def o_laws_toComplex:Ty := (.cons yK .nil)
noncomputable def sg_laws_toComplex:Sig := ⟨[(true,1)],[],o_laws_toComplex,[(true,1)],[.deep],[]⟩
@[reducible] def o_laws_eqInt64SS:Ty := (.cons .bool .nil)
noncomputable def sg_laws_eqInt64SS:Sig := ⟨[(false,1),(false,1)],[],o_laws_eqInt64SS,[(false,1)],[],[]⟩
@[reducible] def o_laws_eqComplex:Ty := (.cons .bool .nil)
noncomputable def sg_laws_eqComplex:Sig := ⟨[(true,1),(true,1)],[],o_laws_eqComplex,[(false,1)],[],[]⟩
@[reducible] def o_laws_markComplex:Ty := (.cons yI (.cons yK .nil))
noncomputable def sg_laws_markComplex:Sig := ⟨[(true,1),(false,1)],[.io true,.imm],o_laws_markComplex,[(false,1)],[],[]⟩
@[reducible] def o_laws_markInt64SS:Ty := (.cons yI (.cons yK .nil))
noncomputable def sg_laws_markInt64SS:Sig := ⟨[(false,1),(false,1)],[.io true,.imm],o_laws_markInt64SS,[(false,1)],[],[]⟩
@[reducible] def o_laws_toInt64S:Ty := (.cons yL .nil)
noncomputable def sg_laws_toInt64S:Sig := ⟨[(false,1)],[],o_laws_toInt64S,[(false,1)],[.deep],[]⟩
@[reducible] def o_laws_eqInt64S:Ty := (.cons .bool .nil)
noncomputable def sg_laws_eqInt64S:Sig := ⟨[(false,1),(false,1)],[],o_laws_eqInt64S,[(false,1)],[],[]⟩
@[reducible] def o_laws_markInt64S:Ty := (.cons yI (.cons yL .nil))
noncomputable def sg_laws_markInt64S:Sig := ⟨[(false,1),(false,1)],[.io true,.imm],o_laws_markInt64S,[(false,1)],[],[]⟩
@[reducible] def o_laws_heldInt64S:Ty := (.cons yI .nil)
noncomputable def sg_laws_heldInt64S:Sig := ⟨[(false,1),(false,1)],[],o_laws_heldInt64S,[(false,1)],[],[]⟩
@[reducible] def o_spec_ChainMap:Ty := (.cons yI (.cons yI (.cons yI (.cons yL (.cons yI .nil)))))
noncomputable def sg_spec_ChainMap:Sig := ⟨[(true,1),(true,1),(false,1),(false,1),(false,1)],[],o_spec_ChainMap,[(true,4),(false,1)],[.imm,.imm,.imm,.deep,.imm],[]⟩
@[reducible] def o_impl_ChainMap:Ty := (.cons yI (.cons yI (.cons yI (.cons yL (.cons yI .nil)))))
noncomputable def sg_impl_ChainMap:Sig := ⟨[(true,1),(true,1),(false,1),(false,1),(false,1)],[],o_impl_ChainMap,[(true,4),(false,1)],[.imm,.imm,.imm,.deep,.imm],[]⟩
@[reducible] def o_laws_eqMatrix:Ty := (.cons .bool .nil)
noncomputable def sg_laws_eqMatrix:Sig := ⟨[(true,4),(true,4)],[],o_laws_eqMatrix,[(false,1)],[],[]⟩
@[reducible] def o_laws_markMatrix:Ty := (.cons yI (.cons yL .nil))
noncomputable def sg_laws_markMatrix:Sig := ⟨[(true,4),(false,1)],[.imm,.imm,.imm,.io true,.imm],o_laws_markMatrix,[(false,1)],[],[]⟩
@[reducible] def o_laws_heldMatrix:Ty := (.cons yI .nil)
noncomputable def sg_laws_heldMatrix:Sig := ⟨[(true,4),(false,1)],[],o_laws_heldMatrix,[(false,1)],[],[]⟩
@[reducible] def o_laws_szInt64SS:Ty := (.cons yI .nil)
noncomputable def sg_laws_szInt64SS:Sig := ⟨[(false,1),(false,1)],[],o_laws_szInt64SS,[(false,1)],[],[]⟩
@[reducible] def o_laws_toInt64SS:Ty := (.cons yK .nil)
noncomputable def sg_laws_toInt64SS:Sig := ⟨[(false,1)],[],o_laws_toInt64SS,[(false,1)],[.deep],[]⟩
@[reducible] def o_spec_l02Prime:Ty := (.cons .bool .nil)
noncomputable def sg_spec_l02Prime:Sig := ⟨[(false,1)],[],o_spec_l02Prime,[(false,1)],[],[]⟩
@[reducible] def o_spec_l08Ask:Ty := (.cons yI .nil)
noncomputable def sg_spec_l08Ask:Sig := ⟨[(false,1),(false,1),(false,1)],[],o_spec_l08Ask,[(false,1)],[],[(.ptr (.cons yK .nil)),(.ptr (.cons yK .nil))]⟩
@[reducible] def o_spec_l05Dimension:Ty := (.cons .bool .nil)
noncomputable def sg_spec_l05Dimension:Sig := ⟨[(false,1)],[],o_spec_l05Dimension,[(false,1)],[],[]⟩
@[reducible] def o_spec_l05Of:Ty := (.cons yL .nil)
noncomputable def sg_spec_l05Of:Sig := ⟨[(false,1),(false,1)],[],o_spec_l05Of,[(false,1)],[.deep],[(.ptr (.cons yK .nil))]⟩
@[reducible] def o_spec_l08Chain:Ty := yM
noncomputable def sg_spec_l08Chain:Sig := ⟨[(false,1),(false,1),(false,1),(false,1),(false,1)],[],o_spec_l08Chain,[(true,4)],[.imm,.imm,.imm,.deep],[(.ptr (.cons yK .nil)),(.ptr (.cons yK .nil))]⟩
@[reducible] def o_impl_chainMapped:Ty := (.cons yI .nil)
noncomputable def sg_impl_chainMapped:Sig := ⟨[(true,1),(true,1),(false,1),(false,1),(false,1),(false,1)],[],o_impl_chainMapped,[(false,1)],[],[]⟩
@[reducible] def o_impl_chainMap:Ty := yM
noncomputable def sg_impl_chainMap:Sig := ⟨[(true,1),(true,1),(false,1),(false,1),(false,1)],[],o_impl_chainMap,[(true,4)],[.imm,.imm,.imm,.deep],[]⟩
@[reducible] def o_laws_szInt64S:Ty := (.cons yI .nil)
noncomputable def sg_laws_szInt64S:Sig := ⟨[(false,1),(false,1)],[],o_laws_szInt64S,[(false,1)],[],[]⟩
@[reducible] def o_spec_l00Own:Ty := (.cons yL .nil)
noncomputable def sg_spec_l00Own:Sig := ⟨[(false,1)],[],o_spec_l00Own,[(false,1)],[.deep],[]⟩
@[reducible] def o_spec_l08At:Ty := (.cons yI .nil)
noncomputable def sg_spec_l08At:Sig := ⟨[(false,1),(false,1),(false,1),(false,1)],[],o_spec_l08At,[(false,1)],[],[(.ptr (.cons yK .nil)),(.ptr (.cons yK .nil))]⟩
@[reducible] def o_impl_mapped:Ty := (.cons yI .nil)
noncomputable def sg_impl_mapped:Sig := ⟨[(true,1),(true,1),(false,1)],[],o_impl_mapped,[(false,1)],[],[]⟩
@[reducible] def o_impl_imageOf:Ty := (.cons yL .nil)
noncomputable def sg_impl_imageOf:Sig := ⟨[(true,1),(false,1),(false,1)],[],o_impl_imageOf,[(false,1)],[.deep],[]⟩
@[reducible] def o_spec_l05Ok:Ty := (.cons .bool .nil)
noncomputable def sg_spec_l05Ok:Sig := ⟨[(false,1)],[],o_spec_l05Ok,[(false,1)],[],[(.ptr (.cons yK .nil))]⟩
@[reducible] def o_impl_ValidComplex:Ty := (.cons .bool .nil)
noncomputable def sg_impl_ValidComplex:Sig := ⟨[(true,1)],[],o_impl_ValidComplex,[(false,1)],[],[]⟩
@[reducible] def o_impl_ValidPrime:Ty := (.cons .bool .nil)
noncomputable def sg_impl_ValidPrime:Sig := ⟨[(false,1)],[],o_impl_ValidPrime,[(false,1)],[],[]⟩
@[reducible] def o_impl_isDimension:Ty := (.cons .bool .nil)
noncomputable def sg_impl_isDimension:Sig := ⟨[(false,1)],[],o_impl_isDimension,[(false,1)],[],[]⟩
@[reducible] def o_impl_simplicesOf:Ty := (.cons yL .nil)
noncomputable def sg_impl_simplicesOf:Sig := ⟨[(true,1),(false,1)],[],o_impl_simplicesOf,[(false,1)],[.deep],[]⟩
@[reducible] def o_spec_l03Zero:Ty := yM
noncomputable def sg_spec_l03Zero:Sig := ⟨[(false,1),(false,1),(false,1)],[],o_spec_l03Zero,[(true,4)],[.imm,.imm,.imm,.deep],[]⟩
@[reducible] def o_spec_l07Sign:Ty := (.cons yI .nil)
noncomputable def sg_spec_l07Sign:Sig := ⟨[(false,1),(false,1)],[],o_spec_l07Sign,[(false,1)],[],[]⟩
@[reducible] def o_spec_l00In:Ty := (.cons .bool .nil)
noncomputable def sg_spec_l00In:Sig := ⟨[(false,1),(false,1),(false,1)],[],o_spec_l00In,[(false,1)],[],[]⟩
@[reducible] def o_spec_l08Map:Ty := (.cons .bool .nil)
noncomputable def sg_spec_l08Map:Sig := ⟨[(false,1),(false,1),(false,1)],[],o_spec_l08Map,[(false,1)],[],[(.ptr (.cons yK .nil)),(.ptr (.cons yK .nil))]⟩
@[reducible] def o_spec_l08Vertices:Ty := (.cons yL .nil)
noncomputable def sg_spec_l08Vertices:Sig := ⟨[(false,1)],[],o_spec_l08Vertices,[(false,1)],[.deep],[(.ptr (.cons yK .nil))]⟩
@[reducible] def o_spec_l08Told:Ty := (.cons yI .nil)
noncomputable def sg_spec_l08Told:Sig := ⟨[(false,1),(false,1),(false,1)],[],o_spec_l08Told,[(false,1)],[],[]⟩
@[reducible] def o_impl_zero:Ty := yM
noncomputable def sg_impl_zero:Sig := ⟨[(false,1),(false,1),(false,1)],[],o_impl_zero,[(true,4)],[.imm,.imm,.imm,.deep],[]⟩
@[reducible] def o_impl_size_int64:Ty := (.cons yI .nil)
noncomputable def sg_impl_size_int64:Sig := ⟨[(false,1)],[],o_impl_size_int64,[(false,1)],[],[]⟩
@[reducible] def o_slices_Index_Sint64_int64:Ty := (.cons yI .nil)
noncomputable def sg_slices_Index_Sint64_int64:Sig := ⟨[(false,1),(false,1)],[],o_slices_Index_Sint64_int64,[(false,1)],[],[]⟩
@[reducible] def o_impl_indexOf:Ty := (.cons yI .nil)
noncomputable def sg_impl_indexOf:Sig := ⟨[(true,1),(false,1)],[],o_impl_indexOf,[(false,1)],[],[]⟩
@[reducible] def o_impl_alternating:Ty := (.cons yI .nil)
noncomputable def sg_impl_alternating:Sig := ⟨[(false,1),(false,1)],[],o_impl_alternating,[(false,1)],[],[]⟩
@[reducible] def o_impl_inversions:Ty := (.cons yI .nil)
noncomputable def sg_impl_inversions:Sig := ⟨[(true,1),(false,1),(false,1)],[],o_impl_inversions,[(false,1)],[],[]⟩
@[reducible] def o_spec_l08Image:Ty := (.cons yL (.cons .bool .nil))
noncomputable def sg_spec_l08Image:Sig := ⟨[(false,1),(false,1),(false,1)],[],o_spec_l08Image,[(false,1),(false,1)],[],[]⟩
@[reducible] def o_spec_l05Find:Ty := (.cons yI .nil)
noncomputable def sg_spec_l05Find:Sig := ⟨[(false,1),(false,1)],[],o_spec_l05Find,[(false,1)],[],[(.ptr (.cons yK .nil))]⟩
@[reducible] def o_impl_isMap:Ty := (.cons .bool .nil)
noncomputable def sg_impl_isMap:Sig := ⟨[(true,1),(true,1),(false,1)],[],o_impl_isMap,[(false,1)],[],[]⟩
@[reducible] def o_impl_verticesOf:Ty := (.cons yL .nil)
noncomputable def sg_impl_verticesOf:Sig := ⟨[(true,1)],[],o_impl_verticesOf,[(false,1)],[.deep],[]⟩
@[reducible] def o_slices_Sort_Sint64_int64:Ty := (.cons yL .nil)
noncomputable def sg_slices_Sort_Sint64_int64:Sig := ⟨[(false,1)],[.io true],o_slices_Sort_Sint64_int64,[],[],[]⟩
@[reducible] def o_slices_Compact_Sint64_int64:Ty := (.cons yL .nil)
noncomputable def sg_slices_Compact_Sint64_int64:Sig := ⟨[(false,1)],[.take true],o_slices_Compact_Sint64_int64,[(false,1)],[.deep],[]⟩
@[reducible] def o_impl_compareSimplices:Ty := (.cons yI .nil)
noncomputable def sg_impl_compareSimplices:Sig := ⟨[(false,1),(false,1)],[],o_impl_compareSimplices,[(false,1)],[],[]⟩
@[reducible] def o_spec_l05Simplex:Ty := (.cons .bool .nil)
noncomputable def sg_spec_l05Simplex:Sig := ⟨[(false,1)],[],o_spec_l05Simplex,[(false,1)],[],[]⟩
@[reducible] def o_spec_l05Before:Ty := (.cons .bool .nil)
noncomputable def sg_spec_l05Before:Sig := ⟨[(false,1),(false,1)],[],o_spec_l05Before,[(false,1)],[],[]⟩
@[reducible] def o_spec_l05Drop:Ty := (.cons yL .nil)
noncomputable def sg_spec_l05Drop:Sig := ⟨[(false,1),(false,1)],[],o_spec_l05Drop,[(false,1)],[.deep],[]⟩
@[reducible] def o_impl_ValidSimplex:Ty := (.cons .bool .nil)
noncomputable def sg_impl_ValidSimplex:Sig := ⟨[(false,1)],[],o_impl_ValidSimplex,[(false,1)],[],[]⟩
@[reducible] def o_slices_ContainsFunc_SSint64_Sint64:Ty := (.cons .bool .nil)
noncomputable def sg_slices_ContainsFunc_SSint64_Sint64:Sig := ⟨[(false,1),(false,1)],[],o_slices_ContainsFunc_SSint64_Sint64,[(false,1)],[],[]⟩
@[reducible] def o_impl_facesOf:Ty := (.cons yK .nil)
noncomputable def sg_impl_facesOf:Sig := ⟨[(false,1)],[],o_impl_facesOf,[(false,1)],[.deep],[]⟩
@[reducible] def o_impl_ValidComplex_1:Ty := (.cons .bool .nil)
noncomputable def sg_impl_ValidComplex_1:Sig := ⟨[(false,1),(false,1),(false,1)],[],o_impl_ValidComplex_1,[(false,1)],[],[.nil,(.ptr (.cons yK .nil)),(.ptr (.cons yI .nil))]⟩
@[reducible] def o_impl_within:Ty := (.cons .bool .nil)
noncomputable def sg_impl_within:Sig := ⟨[(false,1),(false,1),(false,1)],[],o_impl_within,[(false,1)],[],[]⟩
@[reducible] def o_slices_ContainsFunc_Sint64_int64:Ty := (.cons .bool .nil)
noncomputable def sg_slices_ContainsFunc_Sint64_int64:Sig := ⟨[(false,1),(false,1)],[],o_slices_ContainsFunc_Sint64_int64,[(false,1)],[],[]⟩
@[reducible] def o_impl_filled:Ty := yM
noncomputable def sg_impl_filled:Sig := ⟨[(false,1),(false,1),(false,1),(false,1)],[],o_impl_filled,[(true,4)],[.imm,.imm,.imm,.deep],[]⟩
@[reducible] def o_slices_Concat_Sint64_int64:Ty := (.cons yL .nil)
noncomputable def sg_slices_Concat_Sint64_int64:Sig := ⟨[(false,1)],[],o_slices_Concat_Sint64_int64,[(false,1)],[.deep],[]⟩
@[reducible] def o_spec_l08Fits:Ty := (.cons .bool .nil)
noncomputable def sg_spec_l08Fits:Sig := ⟨[(false,1),(false,1),(false,1),(false,1)],[],o_spec_l08Fits,[(false,1)],[],[(.ptr (.cons yK .nil)),(.ptr (.cons yK .nil))]⟩
@[reducible] def o_impl_zero_1:Ty := (.cons yI .nil)
noncomputable def sg_impl_zero_1:Sig := ⟨[(false,1),(false,1)],[],o_impl_zero_1,[(false,1)],[],[]⟩
@[reducible] def o_slices_BinarySearchFunc_SSint64_Sint64_Sint64:Ty := (.cons yI (.cons .bool .nil))
noncomputable def sg_slices_BinarySearchFunc_SSint64_Sint64_Sint64:Sig := ⟨[(false,1),(false,1),(false,1)],[],o_slices_BinarySearchFunc_SSint64_Sint64_Sint64,[(false,1),(false,1)],[],[]⟩
@[reducible] def o_spec_l00Put:Ty := (.cons yL .nil)
noncomputable def sg_spec_l00Put:Sig := ⟨[(false,1),(false,1)],[],o_spec_l00Put,[(false,1)],[.deep],[]⟩
@[reducible] def o_spec_l00Same:Ty := (.cons .bool .nil)
noncomputable def sg_spec_l00Same:Sig := ⟨[(false,1),(false,1)],[],o_spec_l00Same,[(false,1)],[],[]⟩
@[reducible] def o_impl_isMap_1:Ty := (.cons .bool .nil)
noncomputable def sg_impl_isMap_1:Sig := ⟨[(false,1),(false,1),(false,1),(false,1)],[],o_impl_isMap_1,[(false,1)],[],[.nil,(.ptr (.cons yK .nil)),(.ptr (.cons yK .nil)),(.ptr (.cons yL .nil))]⟩
@[reducible] def o_cmp_Or_int:Ty := (.cons yI .nil)
noncomputable def sg_cmp_Or_int:Sig := ⟨[(false,1)],[],o_cmp_Or_int,[(false,1)],[],[]⟩
@[reducible] def o_cmp_Compare_int:Ty := (.cons yI .nil)
noncomputable def sg_cmp_Compare_int:Sig := ⟨[(false,1),(false,1)],[],o_cmp_Compare_int,[(false,1)],[],[]⟩
@[reducible] def o_slices_Compare_Sint64_int64:Ty := (.cons yI .nil)
noncomputable def sg_slices_Compare_Sint64_int64:Sig := ⟨[(false,1),(false,1)],[],o_slices_Compare_Sint64_int64,[(false,1)],[],[]⟩
@[reducible] def o_spec_l00Rises:Ty := (.cons .bool .nil)
noncomputable def sg_spec_l00Rises:Sig := ⟨[(false,1),(false,1),(false,1)],[],o_spec_l00Rises,[(false,1)],[],[]⟩
@[reducible] def o_impl_isRising:Ty := (.cons .bool .nil)
noncomputable def sg_impl_isRising:Sig := ⟨[(false,1)],[],o_impl_isRising,[(false,1)],[],[]⟩
@[reducible] def o_impl_ValidSimplex_1:Ty := (.cons .bool .nil)
noncomputable def sg_impl_ValidSimplex_1:Sig := ⟨[(false,1)],[],o_impl_ValidSimplex_1,[(false,1)],[],[]⟩
@[reducible] def o_impl_isVertex:Ty := (.cons .bool .nil)
noncomputable def sg_impl_isVertex:Sig := ⟨[(false,1)],[],o_impl_isVertex,[(false,1)],[],[]⟩
@[reducible] def o_slices_IndexFunc_SSint64_Sint64:Ty := (.cons yI .nil)
noncomputable def sg_slices_IndexFunc_SSint64_Sint64:Sig := ⟨[(false,1),(false,1)],[],o_slices_IndexFunc_SSint64_Sint64,[(false,1)],[],[]⟩
@[reducible] def o_slices_IndexFunc_Sint64_int64:Ty := (.cons yI .nil)
noncomputable def sg_slices_IndexFunc_Sint64_int64:Sig := ⟨[(false,1),(false,1)],[],o_slices_IndexFunc_Sint64_int64,[(false,1)],[],[]⟩
@[reducible] def o_slices_Grow_Sint64_int64:Ty := (.cons yL .nil)
noncomputable def sg_slices_Grow_Sint64_int64:Sig := ⟨[(false,1),(false,1)],[.take true,.imm],o_slices_Grow_Sint64_int64,[(false,1)],[.deep],[]⟩
@[reducible] def o_cmp_isNaN_int:Ty := (.cons .bool .nil)
noncomputable def sg_cmp_isNaN_int:Sig := ⟨[(false,1)],[],o_cmp_isNaN_int,[(false,1)],[],[]⟩
@[reducible] def o_cmp_Compare_int64:Ty := (.cons yI .nil)
noncomputable def sg_cmp_Compare_int64:Sig := ⟨[(false,1),(false,1)],[],o_cmp_Compare_int64,[(false,1)],[],[]⟩
@[reducible] def o_cmp_isNaN_int64:Ty := (.cons .bool .nil)
noncomputable def sg_cmp_isNaN_int64:Sig := ⟨[(false,1)],[],o_cmp_isNaN_int64,[(false,1)],[],[]⟩
noncomputable def pol_laws_FnExactChainMap:Pol := ⟨159,[(50,[some 155]),(52,[some 156]),(54,[some 157]),(61,[none,none,none,some 158])],[],[],[(11,⟨[2,3,4,5,6,12,13],[5,6,12],[],[],[],[],[]⟩),(38,⟨[12,13,17,20,22,23],[12,17,22,158],[],[],[],[],[]⟩),(1000072,⟨[2,3,4,5,6,12,13,14,15,16,17,18,72],[5,6,12,14,15,17,155,156,157,158],[],[],[],[],[]⟩),(1000109,⟨[2,3,4,5,6,12,13,17,109],[5,6,12,17,158],[],[],[],[],[]⟩),(1000141,⟨[17,20,141],[17,158],[],[],[],[],[]⟩)],[]⟩
noncomputable def pol_laws_szComplex:Pol := ⟨14,[],[],[],[],[]⟩
noncomputable def pol_laws_toComplex:Pol := ⟨11,[(6,[some 10])],[],[],[],[]⟩
noncomputable def pol_laws_eqInt64SS:Pol := ⟨29,[],[(4,⟨[0,1,5],[],[],[],[],[],[]⟩)],[],[],[]⟩
noncomputable def pol_laws_eqComplex:Pol := ⟨13,[],[],[],[],[]⟩
noncomputable def pol_laws_markComplex:Pol := ⟨12,[],[],[],[],[]⟩
noncomputable def pol_laws_toInt64S:Pol := ⟨23,[],[(3,⟨[0,3,4],[7],[],[],[],[],[]⟩)],[],[],[]⟩
noncomputable def pol_laws_eqInt64S:Pol := ⟨28,[],[(4,⟨[0,1,5],[],[],[],[],[],[]⟩)],[],[],[]⟩
noncomputable def pol_laws_markInt64S:Pol := ⟨21,[],[(2,⟨[0,1,5],[19],[],[],[],[],[]⟩)],[],[],[]⟩
noncomputable def pol_laws_heldInt64S:Pol := ⟨23,[],[(2,⟨[0,1,5],[],[],[],[],[],[]⟩)],[],[],[]⟩
noncomputable def pol_spec_ChainMap:Pol := ⟨54,[(47,[none,none,none,some 53])],[],[],[(6,⟨[2,3,4,5,6,10,12],[5,6,10],[],[],[],[],[]⟩),(8,⟨[2,3,4,5,6,10,12],[5,6,10],[],[],[],[],[]⟩),(1000025,⟨[2,3,4,5,6,10,12,25],[5,6,10],[],[],[],[],[]⟩),(1000039,⟨[2,3,4,5,6,10,12,39],[5,6,10],[],[],[],[],[]⟩)],[]⟩
noncomputable def pol_impl_ChainMap:Pol := ⟨35,[(28,[none,none,none,some 34])],[],[],[],[]⟩
noncomputable def pol_laws_eqMatrix:Pol := ⟨34,[],[],[],[],[]⟩
noncomputable def pol_laws_markMatrix:Pol := ⟨15,[],[],[],[],[]⟩
noncomputable def pol_laws_heldMatrix:Pol := ⟨17,[],[],[],[],[]⟩
noncomputable def pol_laws_szInt64SS:Pol := ⟨29,[],[(5,⟨[0,1,5],[],[],[],[],[],[]⟩)],[],[],[]⟩
noncomputable def pol_laws_toInt64SS:Pol := ⟨25,[(20,[some 24])],[(3,⟨[0,3,4],[7],[],[],[],[],[]⟩)],[],[],[]⟩
noncomputable def pol_spec_l02Prime:Pol := ⟨19,[],[(4,⟨[0,3],[],[],[],[],[],[]⟩)],[],[],[]⟩
noncomputable def pol_spec_l08Ask:Pol := ⟨23,[],[],[],[(1000014,⟨[0,1,2,14],[],[],[],[],[],[]⟩)],[]⟩
noncomputable def pol_spec_l05Dimension:Pol := ⟨6,[],[],[],[],[]⟩
noncomputable def pol_spec_l05Of:Pol := ⟨35,[],[(3,⟨[0,1,5,6],[7],[],[],[],[],[]⟩)],[],[],[]⟩
noncomputable def pol_spec_l08Chain:Pol := ⟨127,[(36,[none,none,none,some 126])],[(6,⟨[0,1,2,4,10,11,12,13,14,15],[10,14,126],[],[],[],[],[]⟩),(12,⟨[0,1,2,4,10,11,12,13,14,15,16,17,18,19],[10,14,53,126],[],[],[],[],[]⟩),(16,⟨[0,1,2,4,10,11,12,13,14,15,16,17,18,19,20,21],[10,14,53,126],[],[],[],[],[]⟩)],[],[],[]⟩
noncomputable def pol_impl_chainMapped:Pol := ⟨56,[],[(9,⟨[3,5,6,7,14],[6,7],[],[],[],[],[]⟩)],[],[(1000049,⟨[3,5,6,7,14,49],[6,7],[],[],[],[],[]⟩)],[]⟩
noncomputable def pol_impl_chainMap:Pol := ⟨80,[(30,[none,none,none,some 79])],[(4,⟨[2,4,5,6,10,11,12,13,31,32,33],[5,6,10,13,79],[],[],[],[],[]⟩)],[],[],[]⟩
noncomputable def pol_laws_szInt64S:Pol := ⟨14,[],[],[],[],[]⟩
noncomputable def pol_spec_l00Own:Pol := ⟨7,[],[],[],[],[]⟩
noncomputable def pol_spec_l08At:Pol := ⟨32,[],[],[],[],[]⟩
noncomputable def pol_impl_mapped:Pol := ⟨25,[],[],[],[(1000007,⟨[2,3,4,7],[3,4],[],[],[],[],[]⟩)],[]⟩
noncomputable def pol_impl_imageOf:Pol := ⟨37,[(32,[some 36])],[(4,⟨[1,7,8,13,14,15],[27],[(8,27,yI,true)],[],[],[],[]⟩)],[],[],[]⟩
noncomputable def pol_spec_l05Ok:Pol := ⟨66,[],[(4,⟨[0,3],[],[],[],[],[],[]⟩),(10,⟨[0,3,4,5],[],[],[],[],[],[]⟩)],[],[(1000047,⟨[0,3,4,47],[],[],[],[],[],[]⟩),(1000056,⟨[0,3,4,5,56],[],[],[],[],[],[]⟩)],[]⟩
noncomputable def pol_impl_ValidComplex:Pol := ⟨41,[],[(2,⟨[1,6,7,8],[1],[],[],[1],[],[]⟩)],[],[(1000030,⟨[1,3,4,6,7,8,30],[1,3],[],[],[],[],[]⟩)],[]⟩
noncomputable def pol_impl_ValidPrime:Pol := ⟨19,[],[(4,⟨[0,3],[],[],[],[],[],[]⟩)],[],[],[]⟩
noncomputable def pol_impl_isDimension:Pol := ⟨6,[],[],[],[],[]⟩
noncomputable def pol_impl_simplicesOf:Pol := ⟨29,[],[(3,⟨[1,5,9,10,11],[24],[(5,24,yI,true)],[],[],[],[]⟩)],[],[],[]⟩
noncomputable def pol_spec_l03Zero:Pol := ⟨18,[],[],[],[],[]⟩
noncomputable def pol_spec_l07Sign:Pol := ⟨14,[],[],[],[],[]⟩
noncomputable def pol_spec_l00In:Pol := ⟨18,[],[],[],[],[]⟩
noncomputable def pol_spec_l08Map:Pol := ⟨38,[],[(3,⟨[0,1,2,7,8],[],[],[],[],[],[]⟩)],[],[],[]⟩
noncomputable def pol_spec_l08Vertices:Pol := ⟨38,[],[(3,⟨[0,3,4],[5],[],[],[],[],[]⟩)],[],[],[]⟩
noncomputable def pol_spec_l08Told:Pol := ⟨27,[],[(2,⟨[0,1,2,7],[],[],[],[],[],[]⟩)],[],[],[]⟩
noncomputable def pol_impl_zero:Pol := ⟨15,[(10,[none,none,none,some 14])],[],[],[],[]⟩
noncomputable def pol_impl_size_int64:Pol := ⟨6,[],[],[],[],[]⟩
noncomputable def pol_slices_Index_Sint64_int64:Pol := ⟨21,[],[(2,⟨[0,1,7,8],[],[],[],[],[],[]⟩)],[],[],[]⟩
noncomputable def pol_impl_indexOf:Pol := ⟨19,[],[],[],[],[]⟩
noncomputable def pol_impl_alternating:Pol := ⟨12,[],[],[],[],[]⟩
noncomputable def pol_impl_inversions:Pol := ⟨50,[],[(3,⟨[1,2,3,7,12,13,14],[3],[],[],[],[],[]⟩),(6,⟨[1,2,3,7,9,12,13,14,21,22,23],[3],[],[],[],[],[]⟩)],[],[(1000041,⟨[1,2,3,7,9,12,13,14,21,22,23,41],[3],[],[],[],[],[]⟩)],[]⟩
noncomputable def pol_spec_l08Image:Pol := ⟨34,[],[(3,⟨[0,1,2,8,9],[],[],[],[],[],[(1000008,0)]⟩)],[],[],[]⟩
noncomputable def pol_spec_l05Find:Pol := ⟨27,[],[(2,⟨[0,1,5],[],[],[],[],[],[]⟩)],[],[],[]⟩
noncomputable def pol_impl_isMap:Pol := ⟨21,[],[],[],[],[]⟩
noncomputable def pol_impl_verticesOf:Pol := ⟨25,[],[(3,⟨[3,7,8,9],[21],[(3,21,yI,true)],[],[],[],[]⟩)],[],[],[]⟩
noncomputable def pol_impl_compareSimplices:Pol := ⟨17,[],[],[],[],[]⟩
noncomputable def pol_spec_l05Simplex:Pol := ⟨11,[],[],[],[],[]⟩
noncomputable def pol_spec_l05Before:Pol := ⟨42,[],[(4,⟨[0,1,5],[],[],[],[],[],[]⟩)],[],[],[]⟩
noncomputable def pol_spec_l05Drop:Pol := ⟨19,[(9,[some 18])],[],[],[],[]⟩
noncomputable def pol_impl_ValidSimplex:Pol := ⟨21,[],[],[],[],[]⟩
noncomputable def pol_slices_ContainsFunc_SSint64_Sint64:Pol := ⟨11,[],[],[],[],[]⟩
noncomputable def pol_impl_facesOf:Pol := ⟨29,[(22,[some 28])],[(3,⟨[0,3,6,7],[24],[(3,24,yL,true)],[],[],[],[]⟩)],[],[],[]⟩
noncomputable def pol_impl_ValidComplex_1:Pol := ⟨16,[],[],[],[],[]⟩
noncomputable def pol_impl_within:Pol := ⟨18,[],[],[],[],[]⟩
noncomputable def pol_slices_ContainsFunc_Sint64_int64:Pol := ⟨11,[],[],[],[],[]⟩
noncomputable def pol_impl_filled:Pol := ⟨40,[],[(3,⟨[2,3,8,9,16,17],[8,9,31],[],[(9,3,31,yI,true)],[],[],[]⟩),(6,⟨[2,3,8,9,10,16,17,20,21],[8,9,31],[],[(9,3,31,yI,true)],[],[],[]⟩)],[],[],[]⟩
noncomputable def pol_slices_Concat_Sint64_int64:Pol := ⟨38,[(24,[some 37])],[(3,⟨[0,3,9,10,11],[],[],[],[],[],[]⟩),(11,⟨[6,25,26,27],[37],[],[],[],[],[]⟩)],[],[],[]⟩
noncomputable def pol_spec_l08Fits:Pol := ⟨45,[],[(2,⟨[0,1,2,3,9],[],[],[],[],[],[]⟩)],[],[(1000040,⟨[0,1,2,3,9,40],[],[],[],[],[],[]⟩)],[]⟩
noncomputable def pol_impl_zero_1:Pol := ⟨7,[],[],[],[],[]⟩
noncomputable def pol_slices_BinarySearchFunc_SSint64_Sint64_Sint64:Pol := ⟨52,[],[(3,⟨[0,1,2,8,9,10],[],[],[],[],[],[]⟩)],[],[],[]⟩
noncomputable def pol_spec_l00Put:Pol := ⟨51,[],[(4,⟨[0,1,5,6,7],[8],[],[],[],[],[]⟩)],[],[(10,⟨[0,1,5,6,7],[8],[],[],[],[],[]⟩),(1000024,⟨[0,1,5,6,7,24],[8],[],[],[],[],[]⟩)],[]⟩
noncomputable def pol_spec_l00Same:Pol := ⟨28,[],[(4,⟨[0,1,5],[],[],[],[],[],[]⟩)],[],[],[]⟩
noncomputable def pol_impl_isMap_1:Pol := ⟨17,[],[],[],[],[]⟩
noncomputable def pol_cmp_Or_int:Pol := ⟨19,[],[(3,⟨[3,6,7,8],[],[],[],[],[],[]⟩)],[],[],[]⟩
noncomputable def pol_cmp_Compare_int:Pol := ⟨22,[],[],[],[],[]⟩
noncomputable def pol_slices_Compare_Sint64_int64:Pol := ⟨38,[],[(2,⟨[0,1,9,10,11],[],[],[],[],[],[]⟩)],[],[],[]⟩
noncomputable def pol_spec_l00Rises:Pol := ⟨41,[],[(2,⟨[0,1,2,7],[],[],[],[],[],[]⟩)],[],[(1000037,⟨[0,1,2,7,37],[],[],[],[],[],[]⟩)],[]⟩
noncomputable def pol_impl_isRising:Pol := ⟨21,[],[(2,⟨[0,3],[],[],[],[],[],[]⟩)],[],[],[]⟩
noncomputable def pol_impl_ValidSimplex_1:Pol := ⟨7,[],[],[],[],[]⟩
noncomputable def pol_impl_isVertex:Pol := ⟨6,[],[],[],[],[]⟩
noncomputable def pol_slices_IndexFunc_SSint64_Sint64:Pol := ⟨21,[],[(2,⟨[0,1,7,8],[],[],[],[],[],[]⟩)],[],[],[]⟩
noncomputable def pol_slices_IndexFunc_Sint64_int64:Pol := ⟨21,[],[(2,⟨[0,1,7,8],[],[],[],[],[],[]⟩)],[],[],[]⟩
noncomputable def pol_cmp_isNaN_int:Pol := ⟨7,[],[],[],[],[]⟩
noncomputable def pol_cmp_Compare_int64:Pol := ⟨22,[],[],[],[],[]⟩
noncomputable def pol_cmp_isNaN_int64:Pol := ⟨7,[],[],[],[],[]⟩
noncomputable def sigL:List (Option Sig) := [none,none,none,none,none,some sg_laws_FnExactChainMap,none,none,none,none,none,some sg_laws_szComplex,none,some sg_laws_toComplex,none,some sg_laws_eqInt64SS,some sg_laws_eqComplex,some sg_laws_markComplex,some sg_laws_markInt64SS,none,none,some sg_laws_toInt64S,none,some sg_laws_eqInt64S,some sg_laws_markInt64S,some sg_laws_heldInt64S,some sg_spec_ChainMap,some sg_impl_ChainMap,some sg_laws_eqMatrix,some sg_laws_markMatrix,some sg_laws_heldMatrix,none,none,none,none,none,none,none,none,none,none,none,none,none,none,none,some sg_laws_szInt64SS,none,none,some sg_laws_toInt64SS,none,none,none,none,none,none,none,none,none,none,some sg_spec_l02Prime,some sg_spec_l08Ask,some sg_spec_l05Dimension,some sg_spec_l05Of,some sg_spec_l08Chain,some sg_impl_chainMapped,some sg_impl_chainMap,some sg_laws_szInt64S,none,none,none,none,none,none,none,none,none,none,none,none,some sg_spec_l00Own,some sg_spec_l08At,none,some sg_impl_mapped,some sg_impl_imageOf,none,none,none,none,none,none,none,none,none,none,none,none,some sg_spec_l05Ok,none,none,none,some sg_impl_ValidComplex,some sg_impl_ValidPrime,some sg_impl_isDimension,some sg_impl_simplicesOf,none,none,none,none,none,none,some sg_spec_l03Zero,none,some sg_spec_l07Sign,none,none,none,none,none,none,none,none,some sg_spec_l00In,some sg_spec_l08Map,some sg_spec_l08Vertices,some sg_spec_l08Told,some sg_impl_zero,some sg_impl_size_int64,some sg_slices_Index_Sint64_int64,some sg_impl_indexOf,some sg_impl_alternating,some sg_impl_inversions,none,none,none,none,none,none,none,none,some sg_spec_l08Image,some sg_spec_l05Find,none,some sg_impl_isMap,some sg_impl_verticesOf,some sg_slices_Sort_Sint64_int64,some sg_slices_Compact_Sint64_int64,none,none,some sg_impl_compareSimplices,none,none,none,none,none,none,none,none,none,none,none,some sg_spec_l05Simplex,some sg_spec_l05Before,some sg_spec_l05Drop,none,none,none,none,some sg_impl_ValidSimplex,some sg_slices_ContainsFunc_SSint64_Sint64,some sg_impl_facesOf,some sg_impl_ValidComplex_1,some sg_impl_within,none,none,none,none,none,none,some sg_slices_ContainsFunc_Sint64_int64,none,none,some sg_impl_filled,none,none,some sg_slices_Concat_Sint64_int64,some sg_spec_l08Fits,some sg_impl_zero_1,some sg_slices_BinarySearchFunc_SSint64_Sint64_Sint64,none,none,none,none,none,none,none,none,none,none,none,none,none,some sg_spec_l00Put,some sg_spec_l00Same,some sg_impl_isMap_1,none,none,none,none,some sg_cmp_Or_int,some sg_cmp_Compare_int,some sg_slices_Compare_Sint64_int64,none,none,none,some sg_spec_l00Rises,none,some sg_impl_isRising,some sg_impl_ValidSimplex_1,some sg_impl_isVertex,some sg_slices_IndexFunc_SSint64_Sint64,none,none,none,some sg_slices_IndexFunc_Sint64_int64,some sg_slices_Grow_Sint64_int64,none,none,none,none,none,none,none,none,none,none,none,none,none,none,none,none,none,none,none,none,none,none,none,none,none,some sg_cmp_isNaN_int,some sg_cmp_Compare_int64,none,none,none,none,none,none,none,none,none,none,some sg_cmp_isNaN_int64,none,none,none,none,none,none,none,none,none,none,none,none,none,none,none,none,none,none,none,none,none,none]
noncomputable def fnL:List (Option (Func × Pol)) := [none,none,none,none,none,some (F_laws_FnExactChainMap,pol_laws_FnExactChainMap),none,none,none,none,none,some (F_laws_szComplex,pol_laws_szComplex),none,some (F_laws_toComplex,pol_laws_toComplex),none,some (F_laws_eqInt64SS,pol_laws_eqInt64SS),some (F_laws_eqComplex,pol_laws_eqComplex),some (F_laws_markComplex,pol_laws_markComplex),none,none,none,some (F_laws_toInt64S,pol_laws_toInt64S),none,some (F_laws_eqInt64S,pol_laws_eqInt64S),some (F_laws_markInt64S,pol_laws_markInt64S),some (F_laws_heldInt64S,pol_laws_heldInt64S),some (F_spec_ChainMap,pol_spec_ChainMap),some (F_impl_ChainMap,pol_impl_ChainMap),some (F_laws_eqMatrix,pol_laws_eqMatrix),some (F_laws_markMatrix,pol_laws_markMatrix),some (F_laws_heldMatrix,pol_laws_heldMatrix),none,none,none,none,none,none,none,none,none,none,none,none,none,none,none,some (F_laws_szInt64SS,pol_laws_szInt64SS),none,none,some (F_laws_toInt64SS,pol_laws_toInt64SS),none,none,none,none,none,none,none,none,none,none,some (F_spec_l02Prime,pol_spec_l02Prime),some (F_spec_l08Ask,pol_spec_l08Ask),some (F_spec_l05Dimension,pol_spec_l05Dimension),some (F_spec_l05Of,pol_spec_l05Of),some (F_spec_l08Chain,pol_spec_l08Chain),some (F_impl_chainMapped,pol_impl_chainMapped),some (F_impl_chainMap,pol_impl_chainMap),some (F_laws_szInt64S,pol_laws_szInt64S),none,none,none,none,none,none,none,none,none,none,none,none,some (F_spec_l00Own,pol_spec_l00Own),some (F_spec_l08At,pol_spec_l08At),none,some (F_impl_mapped,pol_impl_mapped),some (F_impl_imageOf,pol_impl_imageOf),none,none,none,none,none,none,none,none,none,none,none,none,some (F_spec_l05Ok,pol_spec_l05Ok),none,none,none,some (F_impl_ValidComplex,pol_impl_ValidComplex),some (F_impl_ValidPrime,pol_impl_ValidPrime),some (F_impl_isDimension,pol_impl_isDimension),some (F_impl_simplicesOf,pol_impl_simplicesOf),none,none,none,none,none,none,some (F_spec_l03Zero,pol_spec_l03Zero),none,some (F_spec_l07Sign,pol_spec_l07Sign),none,none,none,none,none,none,none,none,some (F_spec_l00In,pol_spec_l00In),some (F_spec_l08Map,pol_spec_l08Map),some (F_spec_l08Vertices,pol_spec_l08Vertices),some (F_spec_l08Told,pol_spec_l08Told),some (F_impl_zero,pol_impl_zero),some (F_impl_size_int64,pol_impl_size_int64),some (F_slices_Index_Sint64_int64,pol_slices_Index_Sint64_int64),some (F_impl_indexOf,pol_impl_indexOf),some (F_impl_alternating,pol_impl_alternating),some (F_impl_inversions,pol_impl_inversions),none,none,none,none,none,none,none,none,some (F_spec_l08Image,pol_spec_l08Image),some (F_spec_l05Find,pol_spec_l05Find),none,some (F_impl_isMap,pol_impl_isMap),some (F_impl_verticesOf,pol_impl_verticesOf),none,none,none,none,some (F_impl_compareSimplices,pol_impl_compareSimplices),none,none,none,none,none,none,none,none,none,none,none,some (F_spec_l05Simplex,pol_spec_l05Simplex),some (F_spec_l05Before,pol_spec_l05Before),some (F_spec_l05Drop,pol_spec_l05Drop),none,none,none,none,some (F_impl_ValidSimplex,pol_impl_ValidSimplex),some (F_slices_ContainsFunc_SSint64_Sint64,pol_slices_ContainsFunc_SSint64_Sint64),some (F_impl_facesOf,pol_impl_facesOf),some (F_impl_ValidComplex_1,pol_impl_ValidComplex_1),some (F_impl_within,pol_impl_within),none,none,none,none,none,none,some (F_slices_ContainsFunc_Sint64_int64,pol_slices_ContainsFunc_Sint64_int64),none,none,some (F_impl_filled,pol_impl_filled),none,none,some (F_slices_Concat_Sint64_int64,pol_slices_Concat_Sint64_int64),some (F_spec_l08Fits,pol_spec_l08Fits),some (F_impl_zero_1,pol_impl_zero_1),some (F_slices_BinarySearchFunc_SSint64_Sint64_Sint64,pol_slices_BinarySearchFunc_SSint64_Sint64_Sint64),none,none,none,none,none,none,none,none,none,none,none,none,none,some (F_spec_l00Put,pol_spec_l00Put),some (F_spec_l00Same,pol_spec_l00Same),some (F_impl_isMap_1,pol_impl_isMap_1),none,none,none,none,some (F_cmp_Or_int,pol_cmp_Or_int),some (F_cmp_Compare_int,pol_cmp_Compare_int),some (F_slices_Compare_Sint64_int64,pol_slices_Compare_Sint64_int64),none,none,none,some (F_spec_l00Rises,pol_spec_l00Rises),none,some (F_impl_isRising,pol_impl_isRising),some (F_impl_ValidSimplex_1,pol_impl_ValidSimplex_1),some (F_impl_isVertex,pol_impl_isVertex),some (F_slices_IndexFunc_SSint64_Sint64,pol_slices_IndexFunc_SSint64_Sint64),none,none,none,some (F_slices_IndexFunc_Sint64_int64,pol_slices_IndexFunc_Sint64_int64),none,none,none,none,none,none,none,none,none,none,none,none,none,none,none,none,none,none,none,none,none,none,none,none,none,none,some (F_cmp_isNaN_int,pol_cmp_isNaN_int),some (F_cmp_Compare_int64,pol_cmp_Compare_int64),none,none,none,none,none,none,none,none,none,none,some (F_cmp_isNaN_int64,pol_cmp_isNaN_int64),none,none,none,none,none,none,none,none,none,none,none,none,none,none,none,none,none,none,none,none,none,none]
noncomputable def primL:List (Option (Run → List Dv → Option Dv)) := [none,none,none,none,none,none,none,none,none,none,none,none,none,none,none,none,none,none,some (pMarkSS n_laws_markInt64S),none,none,none,none,none,none,none,none,none,none,none,none,none,none,none,none,none,none,none,none,none,none,none,none,none,none,none,none,none,none,none,none,none,none,none,none,none,none,none,none,none,none,none,none,none,none,none,none,none,none,none,none,none,none,none,none,none,none,none,none,none,none,none,none,none,none,none,none,none,none,none,none,none,none,none,none,none,none,none,none,none,none,none,none,none,none,none,none,none,none,none,none,none,none,none,none,none,none,none,none,none,none,none,none,none,none,none,none,none,none,none,none,none,none,none,none,none,none,none,none,none,none,none,none,none,none,some pSortI,some pCompI,none,none,none,none,none,none,none,none,none,none,none,none,none,none,none,none,none,none,none,none,none,none,none,none,none,none,none,none,none,none,none,none,none,none,none,none,none,none,none,none,none,none,none,none,none,none,none,none,none,none,none,none,none,none,none,none,none,none,none,none,none,none,none,none,none,none,none,none,none,none,none,none,none,none,none,none,none,none,some (pGrow yI),none,none,none,none,none,none,none,none,none,none,none,none,none,none,none,none,none,none,none,none,none,none,none,none,none,none,none,none,none,none,none,none,none,none,none,none,none,none,none,none,none,none,none,none,none,none,none,none,none,none,none,none,none,none,none,none,none,none,none,none]
noncomputable def E:Env := { P := Tryz.prog,fn := fun f => fnL.getD f none,prim := fun f => primL.getD f none,sig := fun f => sigL.getD f none }
theorem sig_laws_FnExactChainMap_eq:E.sig n_laws_FnExactChainMap = some sg_laws_FnExactChainMap := rfl
theorem run_laws_FnExactChainMap (n:Nat) (args:List Dv):run E (n + 1) n_laws_FnExactChainMap args = evFn E (mkR (run E n)) sg_laws_FnExactChainMap pol_laws_FnExactChainMap F_laws_FnExactChainMap n args := rfl
theorem sig_laws_szComplex_eq:E.sig n_laws_szComplex = some sg_laws_szComplex := rfl
theorem run_laws_szComplex (n:Nat) (args:List Dv):run E (n + 1) n_laws_szComplex args = evFn E (mkR (run E n)) sg_laws_szComplex pol_laws_szComplex F_laws_szComplex n args := rfl
theorem sig_laws_toComplex_eq:E.sig n_laws_toComplex = some sg_laws_toComplex := rfl
theorem run_laws_toComplex (n:Nat) (args:List Dv):run E (n + 1) n_laws_toComplex args = evFn E (mkR (run E n)) sg_laws_toComplex pol_laws_toComplex F_laws_toComplex n args := rfl
theorem sig_laws_eqInt64SS_eq:E.sig n_laws_eqInt64SS = some sg_laws_eqInt64SS := rfl
theorem run_laws_eqInt64SS (n:Nat) (args:List Dv):run E (n + 1) n_laws_eqInt64SS args = evFn E (mkR (run E n)) sg_laws_eqInt64SS pol_laws_eqInt64SS F_laws_eqInt64SS n args := rfl
theorem sig_laws_eqComplex_eq:E.sig n_laws_eqComplex = some sg_laws_eqComplex := rfl
theorem run_laws_eqComplex (n:Nat) (args:List Dv):run E (n + 1) n_laws_eqComplex args = evFn E (mkR (run E n)) sg_laws_eqComplex pol_laws_eqComplex F_laws_eqComplex n args := rfl
theorem sig_laws_markComplex_eq:E.sig n_laws_markComplex = some sg_laws_markComplex := rfl
theorem run_laws_markComplex (n:Nat) (args:List Dv):run E (n + 1) n_laws_markComplex args = evFn E (mkR (run E n)) sg_laws_markComplex pol_laws_markComplex F_laws_markComplex n args := rfl
theorem sig_laws_markInt64SS_eq:E.sig n_laws_markInt64SS = some sg_laws_markInt64SS := rfl
theorem sig_laws_toInt64S_eq:E.sig n_laws_toInt64S = some sg_laws_toInt64S := rfl
theorem run_laws_toInt64S (n:Nat) (args:List Dv):run E (n + 1) n_laws_toInt64S args = evFn E (mkR (run E n)) sg_laws_toInt64S pol_laws_toInt64S F_laws_toInt64S n args := rfl
theorem sig_laws_eqInt64S_eq:E.sig n_laws_eqInt64S = some sg_laws_eqInt64S := rfl
theorem run_laws_eqInt64S (n:Nat) (args:List Dv):run E (n + 1) n_laws_eqInt64S args = evFn E (mkR (run E n)) sg_laws_eqInt64S pol_laws_eqInt64S F_laws_eqInt64S n args := rfl
theorem sig_laws_markInt64S_eq:E.sig n_laws_markInt64S = some sg_laws_markInt64S := rfl
theorem run_laws_markInt64S (n:Nat) (args:List Dv):run E (n + 1) n_laws_markInt64S args = evFn E (mkR (run E n)) sg_laws_markInt64S pol_laws_markInt64S F_laws_markInt64S n args := rfl
theorem sig_laws_heldInt64S_eq:E.sig n_laws_heldInt64S = some sg_laws_heldInt64S := rfl
theorem run_laws_heldInt64S (n:Nat) (args:List Dv):run E (n + 1) n_laws_heldInt64S args = evFn E (mkR (run E n)) sg_laws_heldInt64S pol_laws_heldInt64S F_laws_heldInt64S n args := rfl
theorem sig_spec_ChainMap_eq:E.sig n_spec_ChainMap = some sg_spec_ChainMap := rfl
theorem run_spec_ChainMap (n:Nat) (args:List Dv):run E (n + 1) n_spec_ChainMap args = evFn E (mkR (run E n)) sg_spec_ChainMap pol_spec_ChainMap F_spec_ChainMap n args := rfl
theorem sig_impl_ChainMap_eq:E.sig n_impl_ChainMap = some sg_impl_ChainMap := rfl
theorem run_impl_ChainMap (n:Nat) (args:List Dv):run E (n + 1) n_impl_ChainMap args = evFn E (mkR (run E n)) sg_impl_ChainMap pol_impl_ChainMap F_impl_ChainMap n args := rfl
theorem sig_laws_eqMatrix_eq:E.sig n_laws_eqMatrix = some sg_laws_eqMatrix := rfl
theorem run_laws_eqMatrix (n:Nat) (args:List Dv):run E (n + 1) n_laws_eqMatrix args = evFn E (mkR (run E n)) sg_laws_eqMatrix pol_laws_eqMatrix F_laws_eqMatrix n args := rfl
theorem sig_laws_markMatrix_eq:E.sig n_laws_markMatrix = some sg_laws_markMatrix := rfl
theorem run_laws_markMatrix (n:Nat) (args:List Dv):run E (n + 1) n_laws_markMatrix args = evFn E (mkR (run E n)) sg_laws_markMatrix pol_laws_markMatrix F_laws_markMatrix n args := rfl
theorem sig_laws_heldMatrix_eq:E.sig n_laws_heldMatrix = some sg_laws_heldMatrix := rfl
theorem run_laws_heldMatrix (n:Nat) (args:List Dv):run E (n + 1) n_laws_heldMatrix args = evFn E (mkR (run E n)) sg_laws_heldMatrix pol_laws_heldMatrix F_laws_heldMatrix n args := rfl
theorem sig_laws_szInt64SS_eq:E.sig n_laws_szInt64SS = some sg_laws_szInt64SS := rfl
theorem run_laws_szInt64SS (n:Nat) (args:List Dv):run E (n + 1) n_laws_szInt64SS args = evFn E (mkR (run E n)) sg_laws_szInt64SS pol_laws_szInt64SS F_laws_szInt64SS n args := rfl
theorem sig_laws_toInt64SS_eq:E.sig n_laws_toInt64SS = some sg_laws_toInt64SS := rfl
theorem run_laws_toInt64SS (n:Nat) (args:List Dv):run E (n + 1) n_laws_toInt64SS args = evFn E (mkR (run E n)) sg_laws_toInt64SS pol_laws_toInt64SS F_laws_toInt64SS n args := rfl
theorem sig_spec_l02Prime_eq:E.sig n_spec_l02Prime = some sg_spec_l02Prime := rfl
theorem run_spec_l02Prime (n:Nat) (args:List Dv):run E (n + 1) n_spec_l02Prime args = evFn E (mkR (run E n)) sg_spec_l02Prime pol_spec_l02Prime F_spec_l02Prime n args := rfl
theorem sig_spec_l08Ask_eq:E.sig n_spec_l08Ask = some sg_spec_l08Ask := rfl
theorem run_spec_l08Ask (n:Nat) (args:List Dv):run E (n + 1) n_spec_l08Ask args = evFn E (mkR (run E n)) sg_spec_l08Ask pol_spec_l08Ask F_spec_l08Ask n args := rfl
theorem sig_spec_l05Dimension_eq:E.sig n_spec_l05Dimension = some sg_spec_l05Dimension := rfl
theorem run_spec_l05Dimension (n:Nat) (args:List Dv):run E (n + 1) n_spec_l05Dimension args = evFn E (mkR (run E n)) sg_spec_l05Dimension pol_spec_l05Dimension F_spec_l05Dimension n args := rfl
theorem sig_spec_l05Of_eq:E.sig n_spec_l05Of = some sg_spec_l05Of := rfl
theorem run_spec_l05Of (n:Nat) (args:List Dv):run E (n + 1) n_spec_l05Of args = evFn E (mkR (run E n)) sg_spec_l05Of pol_spec_l05Of F_spec_l05Of n args := rfl
theorem sig_spec_l08Chain_eq:E.sig n_spec_l08Chain = some sg_spec_l08Chain := rfl
theorem run_spec_l08Chain (n:Nat) (args:List Dv):run E (n + 1) n_spec_l08Chain args = evFn E (mkR (run E n)) sg_spec_l08Chain pol_spec_l08Chain F_spec_l08Chain n args := rfl
theorem sig_impl_chainMapped_eq:E.sig n_impl_chainMapped = some sg_impl_chainMapped := rfl
theorem run_impl_chainMapped (n:Nat) (args:List Dv):run E (n + 1) n_impl_chainMapped args = evFn E (mkR (run E n)) sg_impl_chainMapped pol_impl_chainMapped F_impl_chainMapped n args := rfl
theorem sig_impl_chainMap_eq:E.sig n_impl_chainMap = some sg_impl_chainMap := rfl
theorem run_impl_chainMap (n:Nat) (args:List Dv):run E (n + 1) n_impl_chainMap args = evFn E (mkR (run E n)) sg_impl_chainMap pol_impl_chainMap F_impl_chainMap n args := rfl
theorem sig_laws_szInt64S_eq:E.sig n_laws_szInt64S = some sg_laws_szInt64S := rfl
theorem run_laws_szInt64S (n:Nat) (args:List Dv):run E (n + 1) n_laws_szInt64S args = evFn E (mkR (run E n)) sg_laws_szInt64S pol_laws_szInt64S F_laws_szInt64S n args := rfl
theorem sig_spec_l00Own_eq:E.sig n_spec_l00Own = some sg_spec_l00Own := rfl
theorem run_spec_l00Own (n:Nat) (args:List Dv):run E (n + 1) n_spec_l00Own args = evFn E (mkR (run E n)) sg_spec_l00Own pol_spec_l00Own F_spec_l00Own n args := rfl
theorem sig_spec_l08At_eq:E.sig n_spec_l08At = some sg_spec_l08At := rfl
theorem run_spec_l08At (n:Nat) (args:List Dv):run E (n + 1) n_spec_l08At args = evFn E (mkR (run E n)) sg_spec_l08At pol_spec_l08At F_spec_l08At n args := rfl
theorem sig_impl_mapped_eq:E.sig n_impl_mapped = some sg_impl_mapped := rfl
theorem run_impl_mapped (n:Nat) (args:List Dv):run E (n + 1) n_impl_mapped args = evFn E (mkR (run E n)) sg_impl_mapped pol_impl_mapped F_impl_mapped n args := rfl
theorem sig_impl_imageOf_eq:E.sig n_impl_imageOf = some sg_impl_imageOf := rfl
theorem run_impl_imageOf (n:Nat) (args:List Dv):run E (n + 1) n_impl_imageOf args = evFn E (mkR (run E n)) sg_impl_imageOf pol_impl_imageOf F_impl_imageOf n args := rfl
theorem sig_spec_l05Ok_eq:E.sig n_spec_l05Ok = some sg_spec_l05Ok := rfl
theorem run_spec_l05Ok (n:Nat) (args:List Dv):run E (n + 1) n_spec_l05Ok args = evFn E (mkR (run E n)) sg_spec_l05Ok pol_spec_l05Ok F_spec_l05Ok n args := rfl
theorem sig_impl_ValidComplex_eq:E.sig n_impl_ValidComplex = some sg_impl_ValidComplex := rfl
theorem run_impl_ValidComplex (n:Nat) (args:List Dv):run E (n + 1) n_impl_ValidComplex args = evFn E (mkR (run E n)) sg_impl_ValidComplex pol_impl_ValidComplex F_impl_ValidComplex n args := rfl
theorem sig_impl_ValidPrime_eq:E.sig n_impl_ValidPrime = some sg_impl_ValidPrime := rfl
theorem run_impl_ValidPrime (n:Nat) (args:List Dv):run E (n + 1) n_impl_ValidPrime args = evFn E (mkR (run E n)) sg_impl_ValidPrime pol_impl_ValidPrime F_impl_ValidPrime n args := rfl
theorem sig_impl_isDimension_eq:E.sig n_impl_isDimension = some sg_impl_isDimension := rfl
theorem run_impl_isDimension (n:Nat) (args:List Dv):run E (n + 1) n_impl_isDimension args = evFn E (mkR (run E n)) sg_impl_isDimension pol_impl_isDimension F_impl_isDimension n args := rfl
theorem sig_impl_simplicesOf_eq:E.sig n_impl_simplicesOf = some sg_impl_simplicesOf := rfl
theorem run_impl_simplicesOf (n:Nat) (args:List Dv):run E (n + 1) n_impl_simplicesOf args = evFn E (mkR (run E n)) sg_impl_simplicesOf pol_impl_simplicesOf F_impl_simplicesOf n args := rfl
theorem sig_spec_l03Zero_eq:E.sig n_spec_l03Zero = some sg_spec_l03Zero := rfl
theorem run_spec_l03Zero (n:Nat) (args:List Dv):run E (n + 1) n_spec_l03Zero args = evFn E (mkR (run E n)) sg_spec_l03Zero pol_spec_l03Zero F_spec_l03Zero n args := rfl
theorem sig_spec_l07Sign_eq:E.sig n_spec_l07Sign = some sg_spec_l07Sign := rfl
theorem run_spec_l07Sign (n:Nat) (args:List Dv):run E (n + 1) n_spec_l07Sign args = evFn E (mkR (run E n)) sg_spec_l07Sign pol_spec_l07Sign F_spec_l07Sign n args := rfl
theorem sig_spec_l00In_eq:E.sig n_spec_l00In = some sg_spec_l00In := rfl
theorem run_spec_l00In (n:Nat) (args:List Dv):run E (n + 1) n_spec_l00In args = evFn E (mkR (run E n)) sg_spec_l00In pol_spec_l00In F_spec_l00In n args := rfl
theorem sig_spec_l08Map_eq:E.sig n_spec_l08Map = some sg_spec_l08Map := rfl
theorem run_spec_l08Map (n:Nat) (args:List Dv):run E (n + 1) n_spec_l08Map args = evFn E (mkR (run E n)) sg_spec_l08Map pol_spec_l08Map F_spec_l08Map n args := rfl
theorem sig_spec_l08Vertices_eq:E.sig n_spec_l08Vertices = some sg_spec_l08Vertices := rfl
theorem run_spec_l08Vertices (n:Nat) (args:List Dv):run E (n + 1) n_spec_l08Vertices args = evFn E (mkR (run E n)) sg_spec_l08Vertices pol_spec_l08Vertices F_spec_l08Vertices n args := rfl
theorem sig_spec_l08Told_eq:E.sig n_spec_l08Told = some sg_spec_l08Told := rfl
theorem run_spec_l08Told (n:Nat) (args:List Dv):run E (n + 1) n_spec_l08Told args = evFn E (mkR (run E n)) sg_spec_l08Told pol_spec_l08Told F_spec_l08Told n args := rfl
theorem sig_impl_zero_eq:E.sig n_impl_zero = some sg_impl_zero := rfl
theorem run_impl_zero (n:Nat) (args:List Dv):run E (n + 1) n_impl_zero args = evFn E (mkR (run E n)) sg_impl_zero pol_impl_zero F_impl_zero n args := rfl
theorem sig_impl_size_int64_eq:E.sig n_impl_size_int64 = some sg_impl_size_int64 := rfl
theorem run_impl_size_int64 (n:Nat) (args:List Dv):run E (n + 1) n_impl_size_int64 args = evFn E (mkR (run E n)) sg_impl_size_int64 pol_impl_size_int64 F_impl_size_int64 n args := rfl
theorem sig_slices_Index_Sint64_int64_eq:E.sig n_slices_Index_Sint64_int64 = some sg_slices_Index_Sint64_int64 := rfl
theorem run_slices_Index_Sint64_int64 (n:Nat) (args:List Dv):run E (n + 1) n_slices_Index_Sint64_int64 args = evFn E (mkR (run E n)) sg_slices_Index_Sint64_int64 pol_slices_Index_Sint64_int64 F_slices_Index_Sint64_int64 n args := rfl
theorem sig_impl_indexOf_eq:E.sig n_impl_indexOf = some sg_impl_indexOf := rfl
theorem run_impl_indexOf (n:Nat) (args:List Dv):run E (n + 1) n_impl_indexOf args = evFn E (mkR (run E n)) sg_impl_indexOf pol_impl_indexOf F_impl_indexOf n args := rfl
theorem sig_impl_alternating_eq:E.sig n_impl_alternating = some sg_impl_alternating := rfl
theorem run_impl_alternating (n:Nat) (args:List Dv):run E (n + 1) n_impl_alternating args = evFn E (mkR (run E n)) sg_impl_alternating pol_impl_alternating F_impl_alternating n args := rfl
theorem sig_impl_inversions_eq:E.sig n_impl_inversions = some sg_impl_inversions := rfl
theorem run_impl_inversions (n:Nat) (args:List Dv):run E (n + 1) n_impl_inversions args = evFn E (mkR (run E n)) sg_impl_inversions pol_impl_inversions F_impl_inversions n args := rfl
theorem sig_spec_l08Image_eq:E.sig n_spec_l08Image = some sg_spec_l08Image := rfl
theorem run_spec_l08Image (n:Nat) (args:List Dv):run E (n + 1) n_spec_l08Image args = evFn E (mkR (run E n)) sg_spec_l08Image pol_spec_l08Image F_spec_l08Image n args := rfl
theorem sig_spec_l05Find_eq:E.sig n_spec_l05Find = some sg_spec_l05Find := rfl
theorem run_spec_l05Find (n:Nat) (args:List Dv):run E (n + 1) n_spec_l05Find args = evFn E (mkR (run E n)) sg_spec_l05Find pol_spec_l05Find F_spec_l05Find n args := rfl
theorem sig_impl_isMap_eq:E.sig n_impl_isMap = some sg_impl_isMap := rfl
theorem run_impl_isMap (n:Nat) (args:List Dv):run E (n + 1) n_impl_isMap args = evFn E (mkR (run E n)) sg_impl_isMap pol_impl_isMap F_impl_isMap n args := rfl
theorem sig_impl_verticesOf_eq:E.sig n_impl_verticesOf = some sg_impl_verticesOf := rfl
theorem run_impl_verticesOf (n:Nat) (args:List Dv):run E (n + 1) n_impl_verticesOf args = evFn E (mkR (run E n)) sg_impl_verticesOf pol_impl_verticesOf F_impl_verticesOf n args := rfl
theorem sig_slices_Sort_Sint64_int64_eq:E.sig n_slices_Sort_Sint64_int64 = some sg_slices_Sort_Sint64_int64 := rfl
theorem sig_slices_Compact_Sint64_int64_eq:E.sig n_slices_Compact_Sint64_int64 = some sg_slices_Compact_Sint64_int64 := rfl
theorem sig_impl_compareSimplices_eq:E.sig n_impl_compareSimplices = some sg_impl_compareSimplices := rfl
theorem run_impl_compareSimplices (n:Nat) (args:List Dv):run E (n + 1) n_impl_compareSimplices args = evFn E (mkR (run E n)) sg_impl_compareSimplices pol_impl_compareSimplices F_impl_compareSimplices n args := rfl
theorem sig_spec_l05Simplex_eq:E.sig n_spec_l05Simplex = some sg_spec_l05Simplex := rfl
theorem run_spec_l05Simplex (n:Nat) (args:List Dv):run E (n + 1) n_spec_l05Simplex args = evFn E (mkR (run E n)) sg_spec_l05Simplex pol_spec_l05Simplex F_spec_l05Simplex n args := rfl
theorem sig_spec_l05Before_eq:E.sig n_spec_l05Before = some sg_spec_l05Before := rfl
theorem run_spec_l05Before (n:Nat) (args:List Dv):run E (n + 1) n_spec_l05Before args = evFn E (mkR (run E n)) sg_spec_l05Before pol_spec_l05Before F_spec_l05Before n args := rfl
theorem sig_spec_l05Drop_eq:E.sig n_spec_l05Drop = some sg_spec_l05Drop := rfl
theorem run_spec_l05Drop (n:Nat) (args:List Dv):run E (n + 1) n_spec_l05Drop args = evFn E (mkR (run E n)) sg_spec_l05Drop pol_spec_l05Drop F_spec_l05Drop n args := rfl
theorem sig_impl_ValidSimplex_eq:E.sig n_impl_ValidSimplex = some sg_impl_ValidSimplex := rfl
theorem run_impl_ValidSimplex (n:Nat) (args:List Dv):run E (n + 1) n_impl_ValidSimplex args = evFn E (mkR (run E n)) sg_impl_ValidSimplex pol_impl_ValidSimplex F_impl_ValidSimplex n args := rfl
theorem sig_slices_ContainsFunc_SSint64_Sint64_eq:E.sig n_slices_ContainsFunc_SSint64_Sint64 = some sg_slices_ContainsFunc_SSint64_Sint64 := rfl
theorem run_slices_ContainsFunc_SSint64_Sint64 (n:Nat) (args:List Dv):run E (n + 1) n_slices_ContainsFunc_SSint64_Sint64 args = evFn E (mkR (run E n)) sg_slices_ContainsFunc_SSint64_Sint64 pol_slices_ContainsFunc_SSint64_Sint64 F_slices_ContainsFunc_SSint64_Sint64 n args := rfl
theorem sig_impl_facesOf_eq:E.sig n_impl_facesOf = some sg_impl_facesOf := rfl
theorem run_impl_facesOf (n:Nat) (args:List Dv):run E (n + 1) n_impl_facesOf args = evFn E (mkR (run E n)) sg_impl_facesOf pol_impl_facesOf F_impl_facesOf n args := rfl
theorem sig_impl_ValidComplex_1_eq:E.sig n_impl_ValidComplex_1 = some sg_impl_ValidComplex_1 := rfl
theorem run_impl_ValidComplex_1 (n:Nat) (args:List Dv):run E (n + 1) n_impl_ValidComplex_1 args = evFn E (mkR (run E n)) sg_impl_ValidComplex_1 pol_impl_ValidComplex_1 F_impl_ValidComplex_1 n args := rfl
theorem sig_impl_within_eq:E.sig n_impl_within = some sg_impl_within := rfl
theorem run_impl_within (n:Nat) (args:List Dv):run E (n + 1) n_impl_within args = evFn E (mkR (run E n)) sg_impl_within pol_impl_within F_impl_within n args := rfl
theorem sig_slices_ContainsFunc_Sint64_int64_eq:E.sig n_slices_ContainsFunc_Sint64_int64 = some sg_slices_ContainsFunc_Sint64_int64 := rfl
theorem run_slices_ContainsFunc_Sint64_int64 (n:Nat) (args:List Dv):run E (n + 1) n_slices_ContainsFunc_Sint64_int64 args = evFn E (mkR (run E n)) sg_slices_ContainsFunc_Sint64_int64 pol_slices_ContainsFunc_Sint64_int64 F_slices_ContainsFunc_Sint64_int64 n args := rfl
theorem sig_impl_filled_eq:E.sig n_impl_filled = some sg_impl_filled := rfl
theorem run_impl_filled (n:Nat) (args:List Dv):run E (n + 1) n_impl_filled args = evFn E (mkR (run E n)) sg_impl_filled pol_impl_filled F_impl_filled n args := rfl
theorem sig_slices_Concat_Sint64_int64_eq:E.sig n_slices_Concat_Sint64_int64 = some sg_slices_Concat_Sint64_int64 := rfl
theorem run_slices_Concat_Sint64_int64 (n:Nat) (args:List Dv):run E (n + 1) n_slices_Concat_Sint64_int64 args = evFn E (mkR (run E n)) sg_slices_Concat_Sint64_int64 pol_slices_Concat_Sint64_int64 F_slices_Concat_Sint64_int64 n args := rfl
theorem sig_spec_l08Fits_eq:E.sig n_spec_l08Fits = some sg_spec_l08Fits := rfl
theorem run_spec_l08Fits (n:Nat) (args:List Dv):run E (n + 1) n_spec_l08Fits args = evFn E (mkR (run E n)) sg_spec_l08Fits pol_spec_l08Fits F_spec_l08Fits n args := rfl
theorem sig_impl_zero_1_eq:E.sig n_impl_zero_1 = some sg_impl_zero_1 := rfl
theorem run_impl_zero_1 (n:Nat) (args:List Dv):run E (n + 1) n_impl_zero_1 args = evFn E (mkR (run E n)) sg_impl_zero_1 pol_impl_zero_1 F_impl_zero_1 n args := rfl
theorem sig_slices_BinarySearchFunc_SSint64_Sint64_Sint64_eq:E.sig n_slices_BinarySearchFunc_SSint64_Sint64_Sint64 = some sg_slices_BinarySearchFunc_SSint64_Sint64_Sint64 := rfl
theorem run_slices_BinarySearchFunc_SSint64_Sint64_Sint64 (n:Nat) (args:List Dv):run E (n + 1) n_slices_BinarySearchFunc_SSint64_Sint64_Sint64 args = evFn E (mkR (run E n)) sg_slices_BinarySearchFunc_SSint64_Sint64_Sint64 pol_slices_BinarySearchFunc_SSint64_Sint64_Sint64 F_slices_BinarySearchFunc_SSint64_Sint64_Sint64 n args := rfl
theorem sig_spec_l00Put_eq:E.sig n_spec_l00Put = some sg_spec_l00Put := rfl
theorem run_spec_l00Put (n:Nat) (args:List Dv):run E (n + 1) n_spec_l00Put args = evFn E (mkR (run E n)) sg_spec_l00Put pol_spec_l00Put F_spec_l00Put n args := rfl
theorem sig_spec_l00Same_eq:E.sig n_spec_l00Same = some sg_spec_l00Same := rfl
theorem run_spec_l00Same (n:Nat) (args:List Dv):run E (n + 1) n_spec_l00Same args = evFn E (mkR (run E n)) sg_spec_l00Same pol_spec_l00Same F_spec_l00Same n args := rfl
theorem sig_impl_isMap_1_eq:E.sig n_impl_isMap_1 = some sg_impl_isMap_1 := rfl
theorem run_impl_isMap_1 (n:Nat) (args:List Dv):run E (n + 1) n_impl_isMap_1 args = evFn E (mkR (run E n)) sg_impl_isMap_1 pol_impl_isMap_1 F_impl_isMap_1 n args := rfl
theorem sig_cmp_Or_int_eq:E.sig n_cmp_Or_int = some sg_cmp_Or_int := rfl
theorem run_cmp_Or_int (n:Nat) (args:List Dv):run E (n + 1) n_cmp_Or_int args = evFn E (mkR (run E n)) sg_cmp_Or_int pol_cmp_Or_int F_cmp_Or_int n args := rfl
theorem sig_cmp_Compare_int_eq:E.sig n_cmp_Compare_int = some sg_cmp_Compare_int := rfl
theorem run_cmp_Compare_int (n:Nat) (args:List Dv):run E (n + 1) n_cmp_Compare_int args = evFn E (mkR (run E n)) sg_cmp_Compare_int pol_cmp_Compare_int F_cmp_Compare_int n args := rfl
theorem sig_slices_Compare_Sint64_int64_eq:E.sig n_slices_Compare_Sint64_int64 = some sg_slices_Compare_Sint64_int64 := rfl
theorem run_slices_Compare_Sint64_int64 (n:Nat) (args:List Dv):run E (n + 1) n_slices_Compare_Sint64_int64 args = evFn E (mkR (run E n)) sg_slices_Compare_Sint64_int64 pol_slices_Compare_Sint64_int64 F_slices_Compare_Sint64_int64 n args := rfl
theorem sig_spec_l00Rises_eq:E.sig n_spec_l00Rises = some sg_spec_l00Rises := rfl
theorem run_spec_l00Rises (n:Nat) (args:List Dv):run E (n + 1) n_spec_l00Rises args = evFn E (mkR (run E n)) sg_spec_l00Rises pol_spec_l00Rises F_spec_l00Rises n args := rfl
theorem sig_impl_isRising_eq:E.sig n_impl_isRising = some sg_impl_isRising := rfl
theorem run_impl_isRising (n:Nat) (args:List Dv):run E (n + 1) n_impl_isRising args = evFn E (mkR (run E n)) sg_impl_isRising pol_impl_isRising F_impl_isRising n args := rfl
theorem sig_impl_ValidSimplex_1_eq:E.sig n_impl_ValidSimplex_1 = some sg_impl_ValidSimplex_1 := rfl
theorem run_impl_ValidSimplex_1 (n:Nat) (args:List Dv):run E (n + 1) n_impl_ValidSimplex_1 args = evFn E (mkR (run E n)) sg_impl_ValidSimplex_1 pol_impl_ValidSimplex_1 F_impl_ValidSimplex_1 n args := rfl
theorem sig_impl_isVertex_eq:E.sig n_impl_isVertex = some sg_impl_isVertex := rfl
theorem run_impl_isVertex (n:Nat) (args:List Dv):run E (n + 1) n_impl_isVertex args = evFn E (mkR (run E n)) sg_impl_isVertex pol_impl_isVertex F_impl_isVertex n args := rfl
theorem sig_slices_IndexFunc_SSint64_Sint64_eq:E.sig n_slices_IndexFunc_SSint64_Sint64 = some sg_slices_IndexFunc_SSint64_Sint64 := rfl
theorem run_slices_IndexFunc_SSint64_Sint64 (n:Nat) (args:List Dv):run E (n + 1) n_slices_IndexFunc_SSint64_Sint64 args = evFn E (mkR (run E n)) sg_slices_IndexFunc_SSint64_Sint64 pol_slices_IndexFunc_SSint64_Sint64 F_slices_IndexFunc_SSint64_Sint64 n args := rfl
theorem sig_slices_IndexFunc_Sint64_int64_eq:E.sig n_slices_IndexFunc_Sint64_int64 = some sg_slices_IndexFunc_Sint64_int64 := rfl
theorem run_slices_IndexFunc_Sint64_int64 (n:Nat) (args:List Dv):run E (n + 1) n_slices_IndexFunc_Sint64_int64 args = evFn E (mkR (run E n)) sg_slices_IndexFunc_Sint64_int64 pol_slices_IndexFunc_Sint64_int64 F_slices_IndexFunc_Sint64_int64 n args := rfl
theorem sig_slices_Grow_Sint64_int64_eq:E.sig n_slices_Grow_Sint64_int64 = some sg_slices_Grow_Sint64_int64 := rfl
theorem sig_cmp_isNaN_int_eq:E.sig n_cmp_isNaN_int = some sg_cmp_isNaN_int := rfl
theorem run_cmp_isNaN_int (n:Nat) (args:List Dv):run E (n + 1) n_cmp_isNaN_int args = evFn E (mkR (run E n)) sg_cmp_isNaN_int pol_cmp_isNaN_int F_cmp_isNaN_int n args := rfl
theorem sig_cmp_Compare_int64_eq:E.sig n_cmp_Compare_int64 = some sg_cmp_Compare_int64 := rfl
theorem run_cmp_Compare_int64 (n:Nat) (args:List Dv):run E (n + 1) n_cmp_Compare_int64 args = evFn E (mkR (run E n)) sg_cmp_Compare_int64 pol_cmp_Compare_int64 F_cmp_Compare_int64 n args := rfl
theorem sig_cmp_isNaN_int64_eq:E.sig n_cmp_isNaN_int64 = some sg_cmp_isNaN_int64 := rfl
theorem run_cmp_isNaN_int64 (n:Nat) (args:List Dv):run E (n + 1) n_cmp_isNaN_int64 args = evFn E (mkR (run E n)) sg_cmp_isNaN_int64 pol_cmp_isNaN_int64 F_cmp_isNaN_int64 n args := rfl
@[reducible] noncomputable def eC (R:Run) (q:Pol) (N:Nat) (l:List Nat) (F:Func) := evCode E R q N (sub l (bodyOf F))
@[reducible] noncomputable def kB (R:Run) (q:Pol) (k:Nat) (K:Kt) := kBlk (maskAt R q.blkM k) k K
@[reducible] noncomputable def kS (R:Run) (q:Pol) (k N:Nat) (l:List Nat) (F:Func) (K:Kt) := kSeq (maskAt R q.seqM k) (evCode E R q N (sub l (bodyOf F))) K
@[reducible] noncomputable def kL (R:Run) (q:Pol) (k N:Nat) (l:List Nat) (F:Func) (n:Nat) (K:Kt) := kLoop (evCode E R q N (sub l (bodyOf F))) (maskAt R q.loopM k) n K
@[reducible] noncomputable def lC (R:Run) (q:Pol) (k N:Nat) (l:List Nat) (F:Func) (n:Nat) (s:Ve.St) (K:Kt) := loopC (evCode E R q N (sub l (bodyOf F))) (maskAt R q.loopM k) n s K
end VeT

open Go Go.Proofs Ve
set_option linter.unusedVariables false
set_option maxRecDepth 100000
namespace VeT
/-! loop.example/g01005/laws.szInt64S -/
theorem laws_szInt64S.ev (R:Run) (N:Nat) (a0:(List Int)) (a1:Int):evFn E R sg_laws_szInt64S pol_laws_szInt64S F_laws_szInt64S N [⟨yL,a0⟩,⟨yI,a1⟩] = (bif (decide ((w64 (a1 - (List.length a0:Int))) < (0:Int))) then some ⟨o_laws_szInt64S,((-1:Int),())⟩ else some ⟨o_laws_szInt64S,((w64 (a1 - (List.length a0:Int))),())⟩) := by kernel_rfl
/-! loop.example/g01005/laws.szInt64SS -/
noncomputable def laws_szInt64SS.l0 (R:Run) (N:Nat) (n:Nat) (a_1:vK) (left_2:Int) (i_3:Int):Option Dv := R.w (some ⟨(.c (.d yK a_1)::(.c (.d yI left_2)::(zd 3 (.c (.d yI i_3)::(zd 21 []))))),(zo 29 [])⟩) fun st => lC R pol_laws_szInt64SS 5 N [1,1,1,0,1,0,0] F_laws_szInt64SS n st (kB R pol_laws_szInt64SS 0 (kS R pol_laws_szInt64SS 10 N [1,1,1,1] F_laws_szInt64SS (kTop E sg_laws_szInt64SS F_laws_szInt64SS)))
theorem laws_szInt64SS.l0_succ (R:Run) (hw:R.ok) (N:Nat) (n:Nat) (a_1:vK) (left_2:Int) (i_3:Int):laws_szInt64SS.l0 R N (n + 1) a_1 left_2 i_3 = (bif (decide (i_3 < (List.length a_1:Int))) then ((idx? a_1 i_3).bind fun y4 => ((callT R n_laws_szInt64S o_laws_szInt64S [⟨yL,(y4,()).1⟩,⟨yI,left_2⟩]).bind fun r5 => (bif (decide (r5.1 < (0:Int))) then some ⟨o_laws_szInt64SS,((-1:Int),())⟩ else (laws_szInt64SS.l0 R N n a_1 r5.1 (w64 (i_3 + (1:Int))))))) else some ⟨o_laws_szInt64SS,(left_2,())⟩) := (hw _ _).trans (by kernel_rfl)
theorem laws_szInt64SS.ev (R:Run) (N:Nat) (a0:vK) (a1:Int):evFn E R sg_laws_szInt64SS pol_laws_szInt64SS F_laws_szInt64SS N [⟨yK,a0⟩,⟨yI,a1⟩] = (bif (decide ((w64 (a1 - (List.length a0:Int))) < (0:Int))) then some ⟨o_laws_szInt64SS,((-1:Int),())⟩ else (laws_szInt64SS.l0 R N N a0 (w64 (a1 - (List.length a0:Int))) (0:Int))) := by kernel_rfl
/-! loop.example/g01005/laws.szComplex -/
theorem laws_szComplex.ev (R:Run) (N:Nat) (a0:vK) (a1:Int):evFn E R sg_laws_szComplex pol_laws_szComplex F_laws_szComplex N [⟨yK,a0⟩,⟨yI,a1⟩] = ((callT R n_laws_szInt64SS o_laws_szInt64SS [⟨yK,a0⟩,⟨yI,a1⟩]).bind fun r1 => (bif (decide (r1.1 < (0:Int))) then some ⟨o_laws_szComplex,((-1:Int),())⟩ else some ⟨o_laws_szComplex,(r1.1,())⟩)) := by kernel_rfl
/-! loop.example/g01005/laws.toInt64S -/
noncomputable def laws_toInt64S.l0 (R:Run) (N:Nat) (n:Nat) (a_1:(List Int)) (i_2:Int) (o7_3:(List Int)):Option Dv := R.w (some ⟨(.c (.d yL a_1)::(V.dead::(V.dead::(.c (.arr 7)::(.c (.d yI i_2)::(zd 17 [])))))),(zo 7 (some (.arr yI o7_3 true false false)::(zo 15 [])))⟩) fun st => lC R pol_laws_toInt64S 3 N [1,1,0,1,0,0] F_laws_toInt64S n st (kB R pol_laws_toInt64S 0 (kS R pol_laws_toInt64S 6 N [1,1,1] F_laws_toInt64S (kTop E sg_laws_toInt64S F_laws_toInt64S)))
theorem laws_toInt64S.l0_succ (R:Run) (hw:R.ok) (N:Nat) (n:Nat) (a_1:(List Int)) (i_2:Int) (o7_3:(List Int)):laws_toInt64S.l0 R N (n + 1) a_1 i_2 o7_3 = (bif (decide (i_2 < (List.length a_1:Int))) then ((idx? a_1 i_2).bind fun y4 => ((chk (decide (0 ≤ i_2) && decide (i_2 < (List.length o7_3:Int)))).bind fun _ => (laws_toInt64S.l0 R N n a_1 (w64 (i_2 + (1:Int))) (List.set o7_3 (Int.toNat i_2) (y4,()).1)))) else some ⟨o_laws_toInt64S,(o7_3,())⟩) := (hw _ _).trans (by kernel_rfl)
theorem laws_toInt64S.ev (R:Run) (N:Nat) (a0:(List Int)):evFn E R sg_laws_toInt64S pol_laws_toInt64S F_laws_toInt64S N [⟨yL,a0⟩] = ((chk (decide (0 ≤ (List.length a0:Int)) && decide ((List.length a0:Int) * 8 ≤ 70368744177664))).bind fun _ => (laws_toInt64S.l0 R N N a0 (0:Int) (List.replicate (Int.toNat (List.length a0:Int)) (0:Int)))) := by kernel_rfl
/-! loop.example/g01005/laws.toInt64SS -/
noncomputable def laws_toInt64SS.l0 (R:Run) (N:Nat) (n:Nat) (a_1:vK) (i_2:Int) (o7_3:vK):Option Dv := R.w (some ⟨(.c (.d yK a_1)::(V.dead::(V.dead::(.c (.arr 7)::(.c (.d yI i_2)::(zd 18 [])))))),(zo 7 (some (.arr yL o7_3 true false false)::(zo 17 [])))⟩) fun st => lC R pol_laws_toInt64SS 3 N [1,1,0,1,0,0] F_laws_toInt64SS n st (kB R pol_laws_toInt64SS 0 (kS R pol_laws_toInt64SS 6 N [1,1,1] F_laws_toInt64SS (kTop E sg_laws_toInt64SS F_laws_toInt64SS)))
theorem laws_toInt64SS.l0_succ (R:Run) (hw:R.ok) (N:Nat) (n:Nat) (a_1:vK) (i_2:Int) (o7_3:vK):laws_toInt64SS.l0 R N (n + 1) a_1 i_2 o7_3 = (bif (decide (i_2 < (List.length a_1:Int))) then ((idx? a_1 i_2).bind fun y4 => ((callT R n_laws_toInt64S o_laws_toInt64S [⟨yL,(y4,()).1⟩]).bind fun r5 => ((chk (decide (0 ≤ i_2) && decide (i_2 < (List.length o7_3:Int)))).bind fun _ => (laws_toInt64SS.l0 R N n a_1 (w64 (i_2 + (1:Int))) (List.set o7_3 (Int.toNat i_2) r5.1))))) else some ⟨o_laws_toInt64SS,(o7_3,())⟩) := (hw _ _).trans (by kernel_rfl)
theorem laws_toInt64SS.ev (R:Run) (N:Nat) (a0:vK):evFn E R sg_laws_toInt64SS pol_laws_toInt64SS F_laws_toInt64SS N [⟨yK,a0⟩] = ((chk (decide (0 ≤ (List.length a0:Int)) && decide ((List.length a0:Int) * 24 ≤ 70368744177664))).bind fun _ => (laws_toInt64SS.l0 R N N a0 (0:Int) (List.replicate (Int.toNat (List.length a0:Int)) ([]:List Int)))) := by kernel_rfl
/-! loop.example/g01005/laws.toComplex -/
theorem laws_toComplex.ev (R:Run) (N:Nat) (a0:vK):evFn E R sg_laws_toComplex pol_laws_toComplex F_laws_toComplex N [⟨yK,a0⟩] = ((callT R n_laws_toInt64SS o_laws_toInt64SS [⟨yK,a0⟩]).bind fun r1 => some ⟨o_laws_toComplex,(r1.1,())⟩) := by kernel_rfl
/-! loop.example/g01005/spec.l00In -/
theorem spec_l00In.ev (R:Run) (N:Nat) (a0:Int) (a1:Int) (a2:Int):evFn E R sg_spec_l00In pol_spec_l00In F_spec_l00In N [⟨yI,a0⟩,⟨yI,a1⟩,⟨yI,a2⟩] = (bif (decide (a0 ≥ a1)) then some ⟨o_spec_l00In,((decide (a0 ≤ a2)),())⟩ else some ⟨o_spec_l00In,(false,())⟩) := by kernel_rfl
/-! loop.example/g01005/spec.l02Prime -/
noncomputable def spec_l02Prime.l0 (R:Run) (N:Nat) (n:Nat) (p_2:Int) (k_3:Int):Option Dv := R.w (some ⟨(.c (.d yI p_2)::(V.dead::(V.dead::(.c (.d yI k_3)::(zd 14 []))))),(zo 19 [])⟩) fun st => lC R pol_spec_l02Prime 4 N [1,1,0,1,0,0] F_spec_l02Prime n st (kB R pol_spec_l02Prime 0 (kS R pol_spec_l02Prime 8 N [1,1,1] F_spec_l02Prime (kTop E sg_spec_l02Prime F_spec_l02Prime)))
theorem spec_l02Prime.l0_succ (R:Run) (hw:R.ok) (N:Nat) (n:Nat) (p_2:Int) (k_3:Int):spec_l02Prime.l0 R N (n + 1) p_2 k_3 = (bif (decide ((w64 (k_3 * k_3)) ≤ p_2)) then ((chk (k_3 != 0)).bind fun _ => (bif ((Int.tmod p_2 k_3) == (0:Int)) then some ⟨o_spec_l02Prime,(false,())⟩ else (spec_l02Prime.l0 R N n p_2 (w64 (k_3 + (1:Int)))))) else some ⟨o_spec_l02Prime,(true,())⟩) := (hw _ _).trans (by kernel_rfl)
theorem spec_l02Prime.ev (R:Run) (N:Nat) (a0:Int):evFn E R sg_spec_l02Prime pol_spec_l02Prime F_spec_l02Prime N [⟨yI,a0⟩] = ((callT R n_spec_l00In o_spec_l00In [⟨yI,a0⟩,⟨yI,(2:Int)⟩,⟨yI,(251:Int)⟩]).bind fun r1 => (bif (!r1.1) then some ⟨o_spec_l02Prime,(false,())⟩ else (spec_l02Prime.l0 R N N a0 (2:Int)))) := by kernel_rfl
/-! loop.example/g01005/spec.l00Rises -/
noncomputable def spec_l00Rises.j1 (R:Run) (N:Nat) (n00_:Nat) (list_7:(List Int)) (low_8:Int) (high_9:Int) (i_10:Int) (t37__11:Bool):Option Dv := R.w (some ⟨(.c (.d yL list_7)::(.c (.d yI low_8)::(.c (.d yI high_9)::(zd 4 (.c (.d yI i_10)::(zd 29 (.c (.d .bool t37__11)::[]))))))),(zo 41 [])⟩) fun st => eC R pol_spec_l00Rises N [1,0,1,0,0,1,0,0,1] F_spec_l00Rises st (kB R pol_spec_l00Rises 1 (kS R pol_spec_l00Rises 3 N [1,0,1,0,0,1,1] F_spec_l00Rises (kL R pol_spec_l00Rises 2 N [1,0,1,0,0] F_spec_l00Rises n00_ (kB R pol_spec_l00Rises 0 (kS R pol_spec_l00Rises 6 N [1,1] F_spec_l00Rises (kTop E sg_spec_l00Rises F_spec_l00Rises))))))
noncomputable def spec_l00Rises.l0 (R:Run) (N:Nat) (n:Nat) (list_1:(List Int)) (low_2:Int) (high_3:Int) (i_4:Int):Option Dv := R.w (some ⟨(.c (.d yL list_1)::(.c (.d yI low_2)::(.c (.d yI high_3)::(zd 4 (.c (.d yI i_4)::(zd 30 [])))))),(zo 41 [])⟩) fun st => lC R pol_spec_l00Rises 2 N [1,0,1,0,0] F_spec_l00Rises n st (kB R pol_spec_l00Rises 0 (kS R pol_spec_l00Rises 6 N [1,1] F_spec_l00Rises (kTop E sg_spec_l00Rises F_spec_l00Rises)))
theorem spec_l00Rises.j1_eq (R:Run) (hw:R.ok) (N:Nat) (n00_:Nat) (list_7:(List Int)) (low_8:Int) (high_9:Int) (i_10:Int) (t37__11:Bool):spec_l00Rises.j1 R N n00_ list_7 low_8 high_9 i_10 t37__11 = (bif t37__11 then some ⟨o_spec_l00Rises,(false,())⟩ else (spec_l00Rises.l0 R N n00_ list_7 low_8 high_9 (w64 (i_10 + (1:Int))))) := (hw _ _).trans (by kernel_rfl)
theorem spec_l00Rises.l0_succ (R:Run) (hw:R.ok) (N:Nat) (n:Nat) (list_1:(List Int)) (low_2:Int) (high_3:Int) (i_4:Int):spec_l00Rises.l0 R N (n + 1) list_1 low_2 high_3 i_4 = (bif (decide (i_4 < (List.length list_1:Int))) then ((idx? list_1 i_4).bind fun y5 => ((callT R n_spec_l00In o_spec_l00In [⟨yI,(y5,()).1⟩,⟨yI,low_2⟩,⟨yI,high_3⟩]).bind fun r6 => (bif (!r6.1) then (spec_l00Rises.j1 R N n list_1 low_2 high_3 i_4 true) else (bif (decide (i_4 > (0:Int))) then ((idx? list_1 (w64 (i_4 - (1:Int)))).bind fun y16 => ((idx? list_1 i_4).bind fun y17 => (spec_l00Rises.j1 R N n list_1 low_2 high_3 i_4 (decide ((y16,()).1 ≥ (y17,()).1))))) else (spec_l00Rises.j1 R N n list_1 low_2 high_3 i_4 false))))) else some ⟨o_spec_l00Rises,(true,())⟩) := (hw _ _).trans (by kernel_rfl)
theorem spec_l00Rises.ev (R:Run) (N:Nat) (a0:(List Int)) (a1:Int) (a2:Int):evFn E R sg_spec_l00Rises pol_spec_l00Rises F_spec_l00Rises N [⟨yL,a0⟩,⟨yI,a1⟩,⟨yI,a2⟩] = (spec_l00Rises.l0 R N N a0 a1 a2 (0:Int)) := by kernel_rfl
/-! loop.example/g01005/spec.l05Simplex -/
theorem spec_l05Simplex.ev (R:Run) (N:Nat) (a0:(List Int)):evFn E R sg_spec_l05Simplex pol_spec_l05Simplex F_spec_l05Simplex N [⟨yL,a0⟩] = ((callT R n_spec_l00In o_spec_l00In [⟨yI,(List.length a0:Int)⟩,⟨yI,(1:Int)⟩,⟨yI,(4:Int)⟩]).bind fun r1 => (bif r1.1 then ((callT R n_spec_l00Rises o_spec_l00Rises [⟨yL,a0⟩,⟨yI,(0:Int)⟩,⟨yI,(9:Int)⟩]).bind fun r2 => some ⟨o_spec_l05Simplex,(r2.1,())⟩) else some ⟨o_spec_l05Simplex,(false,())⟩)) := by kernel_rfl
/-! loop.example/g01005/spec.l05Before -/
noncomputable def spec_l05Before.l0 (R:Run) (N:Nat) (n:Nat) (a_1:(List Int)) (b_2:(List Int)) (i_3:Int):Option Dv := R.w (some ⟨(.c (.d yL a_1)::(.c (.d yL b_2)::(zd 3 (.c (.d yI i_3)::(zd 34 []))))),(zo 42 [])⟩) fun st => lC R pol_spec_l05Before 4 N [1,1,0,1,0,0] F_spec_l05Before n st (kB R pol_spec_l05Before 0 (kS R pol_spec_l05Before 8 N [1,1,1] F_spec_l05Before (kTop E sg_spec_l05Before F_spec_l05Before)))
theorem spec_l05Before.l0_succ (R:Run) (hw:R.ok) (N:Nat) (n:Nat) (a_1:(List Int)) (b_2:(List Int)) (i_3:Int):spec_l05Before.l0 R N (n + 1) a_1 b_2 i_3 = (bif (decide (i_3 < (List.length a_1:Int))) then ((idx? a_1 i_3).bind fun y4 => ((idx? b_2 i_3).bind fun y5 => (bif ((y4,()).1 != (y5,()).1) then ((idx? a_1 i_3).bind fun y6 => ((idx? b_2 i_3).bind fun y7 => some ⟨o_spec_l05Before,((decide ((y6,()).1 < (y7,()).1)),())⟩)) else (spec_l05Before.l0 R N n a_1 b_2 (w64 (i_3 + (1:Int))))))) else some ⟨o_spec_l05Before,(false,())⟩) := (hw _ _).trans (by kernel_rfl)
theorem spec_l05Before.ev (R:Run) (N:Nat) (a0:(List Int)) (a1:(List Int)):evFn E R sg_spec_l05Before pol_spec_l05Before F_spec_l05Before N [⟨yL,a0⟩,⟨yL,a1⟩] = (bif ((List.length a0:Int) != (List.length a1:Int)) then some ⟨o_spec_l05Before,((decide ((List.length a0:Int) < (List.length a1:Int))),())⟩ else (spec_l05Before.l0 R N N a0 a1 (0:Int))) := by kernel_rfl
/-! loop.example/g01005/spec.l00Own -/
theorem spec_l00Own.ev (R:Run) (N:Nat) (a0:(List Int)):evFn E R sg_spec_l00Own pol_spec_l00Own F_spec_l00Own N [⟨yL,a0⟩] = ((chk (decide ((List.length ([]:List Int) + List.length a0) * 8 ≤ 70368744177664))).bind fun _ => some ⟨o_spec_l00Own,((([]:List Int) ++ a0),())⟩) := by kernel_rfl
/-! loop.example/g01005/spec.l05Drop -/
theorem spec_l05Drop.ev (R:Run) (N:Nat) (a0:(List Int)) (a1:Int):evFn E R sg_spec_l05Drop pol_spec_l05Drop F_spec_l05Drop N [⟨yL,a0⟩,⟨yI,a1⟩] = ((chk (decide (0 ≤ a1) && decide (a1 ≤ (List.length a0:Int)))).bind fun _ => ((callT R n_spec_l00Own o_spec_l00Own [⟨yL,(List.take (Int.toNat a1) a0)⟩]).bind fun r1 => ((chk (decide (0 ≤ (w64 (a1 + (1:Int)))) && decide ((w64 (a1 + (1:Int))) ≤ (List.length a0:Int)))).bind fun _ => ((chk (decide ((List.length r1.1 + List.length (List.drop (Int.toNat (w64 (a1 + (1:Int)))) a0)) * 8 ≤ 70368744177664))).bind fun _ => some ⟨o_spec_l05Drop,((r1.1 ++ (List.drop (Int.toNat (w64 (a1 + (1:Int)))) a0)),())⟩)))) := by kernel_rfl
/-! loop.example/g01005/spec.l00Same -/
noncomputable def spec_l00Same.l0 (R:Run) (N:Nat) (n:Nat) (a_1:(List Int)) (b_2:(List Int)) (i_3:Int):Option Dv := R.w (some ⟨(.c (.d yL a_1)::(.c (.d yL b_2)::(zd 3 (.c (.d yI i_3)::(zd 20 []))))),(zo 28 [])⟩) fun st => lC R pol_spec_l00Same 4 N [1,1,0,1,0,0] F_spec_l00Same n st (kB R pol_spec_l00Same 0 (kS R pol_spec_l00Same 8 N [1,1,1] F_spec_l00Same (kTop E sg_spec_l00Same F_spec_l00Same)))
theorem spec_l00Same.l0_succ (R:Run) (hw:R.ok) (N:Nat) (n:Nat) (a_1:(List Int)) (b_2:(List Int)) (i_3:Int):spec_l00Same.l0 R N (n + 1) a_1 b_2 i_3 = (bif (decide (i_3 < (List.length a_1:Int))) then ((idx? a_1 i_3).bind fun y4 => ((idx? b_2 i_3).bind fun y5 => (bif ((y4,()).1 != (y5,()).1) then some ⟨o_spec_l00Same,(false,())⟩ else (spec_l00Same.l0 R N n a_1 b_2 (w64 (i_3 + (1:Int))))))) else some ⟨o_spec_l00Same,(true,())⟩) := (hw _ _).trans (by kernel_rfl)
theorem spec_l00Same.ev (R:Run) (N:Nat) (a0:(List Int)) (a1:(List Int)):evFn E R sg_spec_l00Same pol_spec_l00Same F_spec_l00Same N [⟨yL,a0⟩,⟨yL,a1⟩] = (bif ((List.length a0:Int) != (List.length a1:Int)) then some ⟨o_spec_l00Same,(false,())⟩ else (spec_l00Same.l0 R N N a0 a1 (0:Int))) := by kernel_rfl
/-! loop.example/g01005/spec.l05Find -/
noncomputable def spec_l05Find.l0 (R:Run) (N:Nat) (n:Nat) (c_1:(vK × Unit)) (s_2:(List Int)) (i_3:Int):Option Dv := R.w (some ⟨(.c (.ip (.cons yK .nil) c_1 0)::(.c (.d yL s_2)::(zd 3 (.c (.d yI i_3)::(zd 19 []))))),(zo 27 [])⟩) fun st => lC R pol_spec_l05Find 2 N [1,0,1,0,0] F_spec_l05Find n st (kB R pol_spec_l05Find 0 (kS R pol_spec_l05Find 6 N [1,1] F_spec_l05Find (kTop E sg_spec_l05Find F_spec_l05Find)))
theorem spec_l05Find.l0_succ (R:Run) (hw:R.ok) (N:Nat) (n:Nat) (c_1:(vK × Unit)) (s_2:(List Int)) (i_3:Int):spec_l05Find.l0 R N (n + 1) c_1 s_2 i_3 = (bif (decide (i_3 < (List.length c_1.1:Int))) then ((idx? c_1.1 i_3).bind fun y4 => ((callT R n_spec_l00Same o_spec_l00Same [⟨yL,(y4,()).1⟩,⟨yL,s_2⟩]).bind fun r5 => (bif r5.1 then some ⟨o_spec_l05Find,(i_3,())⟩ else (spec_l05Find.l0 R N n c_1 s_2 (w64 (i_3 + (1:Int))))))) else some ⟨o_spec_l05Find,((-1:Int),())⟩) := (hw _ _).trans (by kernel_rfl)
theorem spec_l05Find.ev (R:Run) (N:Nat) (a0:(vK × Unit)) (a1:(List Int)):evFn E R sg_spec_l05Find pol_spec_l05Find F_spec_l05Find N [⟨(.ptr (.cons yK .nil)),a0⟩,⟨yL,a1⟩] = (spec_l05Find.l0 R N N a0 a1 (0:Int)) := by kernel_rfl
/-! loop.example/g01005/spec.l05Ok -/
noncomputable def spec_l05Ok.j3 (R:Run) (N:Nat) (n01_:Nat) (n02_:Nat) (t0__13:(vK × Unit)) (t3__14:Int) (t4__15:(List Int)) (t5__16:Int) (t56__17:Bool):Option Dv := R.w (some ⟨(.c (.ip (.cons yK .nil) t0__13 0)::(V.dead::(V.dead::(.c (.d yI t3__14)::(.c (.d yL t4__15)::(.c (.d yI t5__16)::(zd 50 (.c (.d .bool t56__17)::(zd 8 []))))))))),(zo 66 [])⟩) fun st => eC R pol_spec_l05Ok N [1,1,0,1,0,0,1,0,0,1,1,1,0,0,0,1] F_spec_l05Ok st (kS R pol_spec_l05Ok 12 N [1,1,0,1,0,0,1,0,0,1,1,1,0,0,1] F_spec_l05Ok (kL R pol_spec_l05Ok 10 N [1,1,0,1,0,0,1,0,0,1,1,1,0,0] F_spec_l05Ok n02_ (kB R pol_spec_l05Ok 2 (kB R pol_spec_l05Ok 1 (kS R pol_spec_l05Ok 5 N [1,1,0,1,0,0,1,1] F_spec_l05Ok (kL R pol_spec_l05Ok 4 N [1,1,0,1,0,0] F_spec_l05Ok n01_ (kB R pol_spec_l05Ok 0 (kS R pol_spec_l05Ok 14 N [1,1,1] F_spec_l05Ok (kTop E sg_spec_l05Ok F_spec_l05Ok)))))))))
noncomputable def spec_l05Ok.l2 (R:Run) (N:Nat) (n01_:Nat) (n:Nat) (t0__9:(vK × Unit)) (t3__10:Int) (t4__11:(List Int)) (t5__12:Int):Option Dv := R.w (some ⟨(.c (.ip (.cons yK .nil) t0__9 0)::(V.dead::(V.dead::(.c (.d yI t3__10)::(.c (.d yL t4__11)::(.c (.d yI t5__12)::(zd 59 []))))))),(zo 66 [])⟩) fun st => lC R pol_spec_l05Ok 10 N [1,1,0,1,0,0,1,0,0,1,1,1,0,0] F_spec_l05Ok n st (kB R pol_spec_l05Ok 2 (kB R pol_spec_l05Ok 1 (kS R pol_spec_l05Ok 5 N [1,1,0,1,0,0,1,1] F_spec_l05Ok (kL R pol_spec_l05Ok 4 N [1,1,0,1,0,0] F_spec_l05Ok n01_ (kB R pol_spec_l05Ok 0 (kS R pol_spec_l05Ok 14 N [1,1,1] F_spec_l05Ok (kTop E sg_spec_l05Ok F_spec_l05Ok)))))))
noncomputable def spec_l05Ok.j1 (R:Run) (N:Nat) (n01_:Nat) (t0__5:(vK × Unit)) (t3__6:Int) (t4__7:(List Int)) (t47__8:Bool):Option Dv := R.w (some ⟨(.c (.ip (.cons yK .nil) t0__5 0)::(V.dead::(V.dead::(.c (.d yI t3__6)::(.c (.d yL t4__7)::(zd 42 (.c (.d .bool t47__8)::(zd 17 [])))))))),(zo 66 [])⟩) fun st => eC R pol_spec_l05Ok N [1,1,0,1,0,0,1,0,0,1,0,1] F_spec_l05Ok st (kS R pol_spec_l05Ok 9 N [1,1,0,1,0,0,1,0,0,1,1] F_spec_l05Ok (kB R pol_spec_l05Ok 1 (kS R pol_spec_l05Ok 5 N [1,1,0,1,0,0,1,1] F_spec_l05Ok (kL R pol_spec_l05Ok 4 N [1,1,0,1,0,0] F_spec_l05Ok n01_ (kB R pol_spec_l05Ok 0 (kS R pol_spec_l05Ok 14 N [1,1,1] F_spec_l05Ok (kTop E sg_spec_l05Ok F_spec_l05Ok)))))))
noncomputable def spec_l05Ok.l0 (R:Run) (N:Nat) (n:Nat) (t0__1:(vK × Unit)) (t3__2:Int):Option Dv := R.w (some ⟨(.c (.ip (.cons yK .nil) t0__1 0)::(V.dead::(V.dead::(.c (.d yI t3__2)::(zd 61 []))))),(zo 66 [])⟩) fun st => lC R pol_spec_l05Ok 4 N [1,1,0,1,0,0] F_spec_l05Ok n st (kB R pol_spec_l05Ok 0 (kS R pol_spec_l05Ok 14 N [1,1,1] F_spec_l05Ok (kTop E sg_spec_l05Ok F_spec_l05Ok)))
theorem spec_l05Ok.j3_eq (R:Run) (hw:R.ok) (N:Nat) (n01_:Nat) (n02_:Nat) (t0__13:(vK × Unit)) (t3__14:Int) (t4__15:(List Int)) (t5__16:Int) (t56__17:Bool):spec_l05Ok.j3 R N n01_ n02_ t0__13 t3__14 t4__15 t5__16 t56__17 = (bif t56__17 then ((callT R n_spec_l05Drop o_spec_l05Drop [⟨yL,t4__15⟩,⟨yI,t5__16⟩]).bind fun r18 => ((callT R n_spec_l05Find o_spec_l05Find [⟨(.ptr (.cons yK .nil)),t0__13⟩,⟨yL,r18.1⟩]).bind fun r19 => (bif (decide (r19.1 < (0:Int))) then some ⟨o_spec_l05Ok,(false,())⟩ else (spec_l05Ok.l2 R N n01_ n02_ t0__13 t3__14 t4__15 (w64 (t5__16 + (1:Int))))))) else (spec_l05Ok.l0 R N n01_ t0__13 (w64 (t3__14 + (1:Int))))) := (hw _ _).trans (by kernel_rfl)
theorem spec_l05Ok.l2_succ (R:Run) (hw:R.ok) (N:Nat) (n01_:Nat) (n:Nat) (t0__9:(vK × Unit)) (t3__10:Int) (t4__11:(List Int)) (t5__12:Int):spec_l05Ok.l2 R N n01_ (n + 1) t0__9 t3__10 t4__11 t5__12 = (bif (decide (t5__12 < (List.length t4__11:Int))) then (spec_l05Ok.j3 R N n01_ n t0__9 t3__10 t4__11 t5__12 (decide ((List.length t4__11:Int) > (1:Int)))) else (spec_l05Ok.j3 R N n01_ n t0__9 t3__10 t4__11 t5__12 false)) := (hw _ _).trans (by kernel_rfl)
theorem spec_l05Ok.j1_eq (R:Run) (hw:R.ok) (N:Nat) (n01_:Nat) (t0__5:(vK × Unit)) (t3__6:Int) (t4__7:(List Int)) (t47__8:Bool):spec_l05Ok.j1 R N n01_ t0__5 t3__6 t4__7 t47__8 = (bif t47__8 then some ⟨o_spec_l05Ok,(false,())⟩ else (spec_l05Ok.l2 R N n01_ N t0__5 t3__6 t4__7 (0:Int))) := (hw _ _).trans (by kernel_rfl)
theorem spec_l05Ok.l0_succ (R:Run) (hw:R.ok) (N:Nat) (n:Nat) (t0__1:(vK × Unit)) (t3__2:Int):spec_l05Ok.l0 R N (n + 1) t0__1 t3__2 = (bif (decide (t3__2 < (List.length t0__1.1:Int))) then ((idx? t0__1.1 t3__2).bind fun y3 => ((callT R n_spec_l05Simplex o_spec_l05Simplex [⟨yL,(y3,()).1⟩]).bind fun r4 => (bif (!r4.1) then (spec_l05Ok.j1 R N n t0__1 t3__2 ((y3,()).1) true) else (bif (decide (t3__2 > (0:Int))) then ((idx? t0__1.1 (w64 (t3__2 - (1:Int)))).bind fun y31 => ((callT R n_spec_l05Before o_spec_l05Before [⟨yL,(y31,()).1⟩,⟨yL,(y3,()).1⟩]).bind fun r32 => (spec_l05Ok.j1 R N n t0__1 t3__2 ((y3,()).1) (!r32.1)))) else (spec_l05Ok.j1 R N n t0__1 t3__2 ((y3,()).1) false))))) else some ⟨o_spec_l05Ok,(true,())⟩) := (hw _ _).trans (by kernel_rfl)
theorem spec_l05Ok.ev (R:Run) (N:Nat) (a0:(vK × Unit)):evFn E R sg_spec_l05Ok pol_spec_l05Ok F_spec_l05Ok N [⟨(.ptr (.cons yK .nil)),a0⟩] = (bif (decide ((List.length a0.1:Int) > (48:Int))) then some ⟨o_spec_l05Ok,(false,())⟩ else (spec_l05Ok.l0 R N N a0 (0:Int))) := by kernel_rfl
/-! loop.example/g01005/spec.l08Vertices -/
noncomputable def spec_l08Vertices.l0 (R:Run) (N:Nat) (n:Nat) (c_1:(vK × Unit)) (i_2:Int) (o5_3:(List Int)):Option Dv := R.w (some ⟨(.c (.ip (.cons yK .nil) c_1 0)::(V.dead::(V.dead::(.c (.arr 5)::(.c (.d yI i_2)::(zd 32 [])))))),(zo 5 (some (.arr yI o5_3 true false false)::(zo 32 [])))⟩) fun st => lC R pol_spec_l08Vertices 3 N [1,1,0,1,0,0] F_spec_l08Vertices n st (kB R pol_spec_l08Vertices 0 (kS R pol_spec_l08Vertices 7 N [1,1,1] F_spec_l08Vertices (kTop E sg_spec_l08Vertices F_spec_l08Vertices)))
theorem spec_l08Vertices.l0_succ (R:Run) (hw:R.ok) (N:Nat) (n:Nat) (c_1:(vK × Unit)) (i_2:Int) (o5_3:(List Int)):spec_l08Vertices.l0 R N (n + 1) c_1 i_2 o5_3 = (bif (decide (i_2 < (List.length c_1.1:Int))) then ((idx? c_1.1 i_2).bind fun y4 => (bif ((List.length (y4,()).1:Int) == (1:Int)) then ((idx? c_1.1 i_2).bind fun y5 => ((idx? (y5,()).1 (0:Int)).bind fun y6 => ((chk (decide ((List.length o5_3 + List.length [(y6,()).1]) * 8 ≤ 70368744177664))).bind fun _ => (spec_l08Vertices.l0 R N n c_1 (w64 (i_2 + (1:Int))) (o5_3 ++ [(y6,()).1]))))) else (spec_l08Vertices.l0 R N n c_1 (w64 (i_2 + (1:Int))) o5_3))) else some ⟨o_spec_l08Vertices,(o5_3,())⟩) := (hw _ _).trans (by kernel_rfl)
theorem spec_l08Vertices.ev (R:Run) (N:Nat) (a0:(vK × Unit)):evFn E R sg_spec_l08Vertices pol_spec_l08Vertices F_spec_l08Vertices N [⟨(.ptr (.cons yK .nil)),a0⟩] = (spec_l08Vertices.l0 R N N a0 (0:Int) ([]:List Int)) := by kernel_rfl
/-! loop.example/g01005/spec.l08Told -/
noncomputable def spec_l08Told.l0 (R:Run) (N:Nat) (n:Nat) (vertices_1:(List Int)) (images_2:(List Int)) (v_3:Int) (i_4:Int):Option Dv := R.w (some ⟨(.c (.d yL vertices_1)::(.c (.d yL images_2)::(.c (.d yI v_3)::(zd 4 (.c (.d yI i_4)::(zd 16 [])))))),(zo 27 [])⟩) fun st => lC R pol_spec_l08Told 2 N [1,0,1,0,0] F_spec_l08Told n st (kB R pol_spec_l08Told 0 (kS R pol_spec_l08Told 6 N [1,1] F_spec_l08Told (kTop E sg_spec_l08Told F_spec_l08Told)))
theorem spec_l08Told.l0_succ (R:Run) (hw:R.ok) (N:Nat) (n:Nat) (vertices_1:(List Int)) (images_2:(List Int)) (v_3:Int) (i_4:Int):spec_l08Told.l0 R N (n + 1) vertices_1 images_2 v_3 i_4 = (bif (decide (i_4 < (List.length images_2:Int))) then ((idx? vertices_1 i_4).bind fun y5 => (bif ((y5,()).1 == v_3) then ((idx? images_2 i_4).bind fun y6 => some ⟨o_spec_l08Told,((y6,()).1,())⟩) else (spec_l08Told.l0 R N n vertices_1 images_2 v_3 (w64 (i_4 + (1:Int)))))) else some ⟨o_spec_l08Told,((-1:Int),())⟩) := (hw _ _).trans (by kernel_rfl)
theorem spec_l08Told.ev (R:Run) (N:Nat) (a0:(List Int)) (a1:(List Int)) (a2:Int):evFn E R sg_spec_l08Told pol_spec_l08Told F_spec_l08Told N [⟨yL,a0⟩,⟨yL,a1⟩,⟨yI,a2⟩] = (spec_l08Told.l0 R N N a0 a1 a2 (0:Int)) := by kernel_rfl
/-! loop.example/g01005/spec.l00Put -/
noncomputable def spec_l00Put.j2 (R:Run) (N:Nat) (n03_:Nat) (list_14:(List Int)) (n_15:Int) (done_16:Bool) (i_17:Int) (o8_18:(List Int)):Option Dv := R.w (some ⟨(.c (.d yL list_14)::(.c (.d yI n_15)::(zd 3 (.c (.arr 8)::(.c (.d .bool done_16)::(.c (.d yI i_17)::(zd 41 []))))))),(zo 8 (some (.arr yI o8_18 true false false)::(zo 42 [])))⟩) fun st => eC R pol_spec_l00Put N [1,1,1,0,1,0,0,1,0,0,1] F_spec_l00Put st (kB R pol_spec_l00Put 1 (kS R pol_spec_l00Put 5 N [1,1,1,0,1,0,0,1,1] F_spec_l00Put (kL R pol_spec_l00Put 4 N [1,1,1,0,1,0,0] F_spec_l00Put n03_ (kB R pol_spec_l00Put 0 (kS R pol_spec_l00Put 11 N [1,1,1,1] F_spec_l00Put (kTop E sg_spec_l00Put F_spec_l00Put))))))
noncomputable def spec_l00Put.j1 (R:Run) (N:Nat) (n03_:Nat) (list_7:(List Int)) (n_8:Int) (done_9:Bool) (i_10:Int) (t24__11:Bool) (o8_12:(List Int)):Option Dv := R.w (some ⟨(.c (.d yL list_7)::(.c (.d yI n_8)::(zd 3 (.c (.arr 8)::(.c (.d .bool done_9)::(.c (.d yI i_10)::(zd 16 (.c (.d .bool t24__11)::(zd 24 []))))))))),(zo 8 (some (.arr yI o8_12 true false false)::(zo 42 [])))⟩) fun st => eC R pol_spec_l00Put N [1,1,1,0,1,0,0,1,0,0,0,1] F_spec_l00Put st (kS R pol_spec_l00Put 10 N [1,1,1,0,1,0,0,1,0,0,1] F_spec_l00Put (kB R pol_spec_l00Put 1 (kS R pol_spec_l00Put 5 N [1,1,1,0,1,0,0,1,1] F_spec_l00Put (kL R pol_spec_l00Put 4 N [1,1,1,0,1,0,0] F_spec_l00Put n03_ (kB R pol_spec_l00Put 0 (kS R pol_spec_l00Put 11 N [1,1,1,1] F_spec_l00Put (kTop E sg_spec_l00Put F_spec_l00Put)))))))
noncomputable def spec_l00Put.l0 (R:Run) (N:Nat) (n:Nat) (list_1:(List Int)) (n_2:Int) (done_3:Bool) (i_4:Int) (o8_5:(List Int)):Option Dv := R.w (some ⟨(.c (.d yL list_1)::(.c (.d yI n_2)::(zd 3 (.c (.arr 8)::(.c (.d .bool done_3)::(.c (.d yI i_4)::(zd 41 []))))))),(zo 8 (some (.arr yI o8_5 true false false)::(zo 42 [])))⟩) fun st => lC R pol_spec_l00Put 4 N [1,1,1,0,1,0,0] F_spec_l00Put n st (kB R pol_spec_l00Put 0 (kS R pol_spec_l00Put 11 N [1,1,1,1] F_spec_l00Put (kTop E sg_spec_l00Put F_spec_l00Put)))
theorem spec_l00Put.j2_eq (R:Run) (hw:R.ok) (N:Nat) (n03_:Nat) (list_14:(List Int)) (n_15:Int) (done_16:Bool) (i_17:Int) (o8_18:(List Int)):spec_l00Put.j2 R N n03_ list_14 n_15 done_16 i_17 o8_18 = ((idx? list_14 i_17).bind fun y19 => ((chk (decide ((List.length o8_18 + List.length [(y19,()).1]) * 8 ≤ 70368744177664))).bind fun _ => (spec_l00Put.l0 R N n03_ list_14 n_15 done_16 (w64 (i_17 + (1:Int))) (o8_18 ++ [(y19,()).1])))) := (hw _ _).trans (by kernel_rfl)
theorem spec_l00Put.j1_eq (R:Run) (hw:R.ok) (N:Nat) (n03_:Nat) (list_7:(List Int)) (n_8:Int) (done_9:Bool) (i_10:Int) (t24__11:Bool) (o8_12:(List Int)):spec_l00Put.j1 R N n03_ list_7 n_8 done_9 i_10 t24__11 o8_12 = (bif t24__11 then ((idx? list_7 i_10).bind fun y13 => (bif (decide ((y13,()).1 > n_8)) then ((chk (decide ((List.length o8_12 + List.length [n_8]) * 8 ≤ 70368744177664))).bind fun _ => (spec_l00Put.j2 R N n03_ list_7 n_8 true i_10 (o8_12 ++ [n_8]))) else (spec_l00Put.j2 R N n03_ list_7 n_8 true i_10 o8_12))) else (spec_l00Put.j2 R N n03_ list_7 n_8 done_9 i_10 o8_12)) := (hw _ _).trans (by kernel_rfl)
theorem spec_l00Put.l0_succ (R:Run) (hw:R.ok) (N:Nat) (n:Nat) (list_1:(List Int)) (n_2:Int) (done_3:Bool) (i_4:Int) (o8_5:(List Int)):spec_l00Put.l0 R N (n + 1) list_1 n_2 done_3 i_4 o8_5 = (bif (decide (i_4 < (List.length list_1:Int))) then (bif (!done_3) then ((idx? list_1 i_4).bind fun y6 => (spec_l00Put.j1 R N n list_1 n_2 done_3 i_4 (decide ((y6,()).1 ≥ n_2)) o8_5)) else (spec_l00Put.j1 R N n list_1 n_2 done_3 i_4 false o8_5)) else (bif (!done_3) then ((chk (decide ((List.length o8_5 + List.length [n_2]) * 8 ≤ 70368744177664))).bind fun _ => some ⟨o_spec_l00Put,((o8_5 ++ [n_2]),())⟩) else some ⟨o_spec_l00Put,(o8_5,())⟩)) := (hw _ _).trans (by kernel_rfl)
theorem spec_l00Put.ev (R:Run) (N:Nat) (a0:(List Int)) (a1:Int):evFn E R sg_spec_l00Put pol_spec_l00Put F_spec_l00Put N [⟨yL,a0⟩,⟨yI,a1⟩] = (spec_l00Put.l0 R N N a0 a1 false (0:Int) ([]:List Int)) := by kernel_rfl
/-! loop.example/g01005/spec.l08Image -/
noncomputable def spec_l08Image.l0 (R:Run) (N:Nat) (n:Nat) (vertices_1:(List Int)) (images_2:(List Int)) (simplex_3:(List Int)) (out_4:(List Int)) (i_5:Int):Option Dv := R.w (some ⟨(.c (.d yL vertices_1)::(.c (.d yL images_2)::(.c (.d yL simplex_3)::(zd 5 (.c (.d yL out_4)::(.c (.d yI i_5)::(zd 21 []))))))),(zo 34 [])⟩) fun st => lC R pol_spec_l08Image 3 N [1,1,0,1,0,0] F_spec_l08Image n st (kB R pol_spec_l08Image 0 (kS R pol_spec_l08Image 9 N [1,1,1] F_spec_l08Image (kTop E sg_spec_l08Image F_spec_l08Image)))
theorem spec_l08Image.l0_succ (R:Run) (hw:R.ok) (N:Nat) (n:Nat) (vertices_1:(List Int)) (images_2:(List Int)) (simplex_3:(List Int)) (out_4:(List Int)) (i_5:Int):spec_l08Image.l0 R N (n + 1) vertices_1 images_2 simplex_3 out_4 i_5 = (bif (decide (i_5 < (List.length simplex_3:Int))) then ((idx? simplex_3 i_5).bind fun y6 => ((callT R n_spec_l08Told o_spec_l08Told [⟨yL,vertices_1⟩,⟨yL,images_2⟩,⟨yI,(y6,()).1⟩]).bind fun r7 => (bif (decide (r7.1 < (0:Int))) then some ⟨o_spec_l08Image,(([]:List Int),false,())⟩ else ((callT R n_spec_l00Put o_spec_l00Put [⟨yL,out_4⟩,⟨yI,r7.1⟩]).bind fun r8 => (spec_l08Image.l0 R N n vertices_1 images_2 simplex_3 r8.1 (w64 (i_5 + (1:Int)))))))) else some ⟨o_spec_l08Image,(out_4,true,())⟩) := (hw _ _).trans (by kernel_rfl)
theorem spec_l08Image.ev (R:Run) (N:Nat) (a0:(List Int)) (a1:(List Int)) (a2:(List Int)):evFn E R sg_spec_l08Image pol_spec_l08Image F_spec_l08Image N [⟨yL,a0⟩,⟨yL,a1⟩,⟨yL,a2⟩] = (spec_l08Image.l0 R N N a0 a1 a2 ([]:List Int) (0:Int)) := by kernel_rfl
/-! loop.example/g01005/spec.l08Fits -/
noncomputable def spec_l08Fits.j1 (R:Run) (N:Nat) (n00_:Nat) (a_9:(vK × Unit)) (b_10:(vK × Unit)) (vertices_11:(List Int)) (images_12:(List Int)) (i_13:Int) (t40__14:Bool):Option Dv := R.w (some ⟨(.c (.ip (.cons yK .nil) a_9 0)::(.c (.ip (.cons yK .nil) b_10 0)::(.c (.d yL vertices_11)::(.c (.d yL images_12)::(zd 5 (.c (.d yI i_13)::(zd 30 (.c (.d .bool t40__14)::[])))))))),(zo 45 [])⟩) fun st => eC R pol_spec_l08Fits N [1,0,1,0,0,1,0,0,1,1] F_spec_l08Fits st (kB R pol_spec_l08Fits 1 (kS R pol_spec_l08Fits 3 N [1,0,1,0,0,1,1] F_spec_l08Fits (kL R pol_spec_l08Fits 2 N [1,0,1,0,0] F_spec_l08Fits n00_ (kB R pol_spec_l08Fits 0 (kS R pol_spec_l08Fits 7 N [1,1] F_spec_l08Fits (kTop E sg_spec_l08Fits F_spec_l08Fits))))))
noncomputable def spec_l08Fits.l0 (R:Run) (N:Nat) (n:Nat) (a_1:(vK × Unit)) (b_2:(vK × Unit)) (vertices_3:(List Int)) (images_4:(List Int)) (i_5:Int):Option Dv := R.w (some ⟨(.c (.ip (.cons yK .nil) a_1 0)::(.c (.ip (.cons yK .nil) b_2 0)::(.c (.d yL vertices_3)::(.c (.d yL images_4)::(zd 5 (.c (.d yI i_5)::(zd 31 []))))))),(zo 45 [])⟩) fun st => lC R pol_spec_l08Fits 2 N [1,0,1,0,0] F_spec_l08Fits n st (kB R pol_spec_l08Fits 0 (kS R pol_spec_l08Fits 7 N [1,1] F_spec_l08Fits (kTop E sg_spec_l08Fits F_spec_l08Fits)))
theorem spec_l08Fits.j1_eq (R:Run) (hw:R.ok) (N:Nat) (n00_:Nat) (a_9:(vK × Unit)) (b_10:(vK × Unit)) (vertices_11:(List Int)) (images_12:(List Int)) (i_13:Int) (t40__14:Bool):spec_l08Fits.j1 R N n00_ a_9 b_10 vertices_11 images_12 i_13 t40__14 = (bif t40__14 then some ⟨o_spec_l08Fits,(false,())⟩ else (spec_l08Fits.l0 R N n00_ a_9 b_10 vertices_11 images_12 (w64 (i_13 + (1:Int))))) := (hw _ _).trans (by kernel_rfl)
theorem spec_l08Fits.l0_succ (R:Run) (hw:R.ok) (N:Nat) (n:Nat) (a_1:(vK × Unit)) (b_2:(vK × Unit)) (vertices_3:(List Int)) (images_4:(List Int)) (i_5:Int):spec_l08Fits.l0 R N (n + 1) a_1 b_2 vertices_3 images_4 i_5 = (bif (decide (i_5 < (List.length a_1.1:Int))) then ((idx? a_1.1 i_5).bind fun y6 => ((callT R n_spec_l08Image o_spec_l08Image [⟨yL,vertices_3⟩,⟨yL,images_4⟩,⟨yL,(y6,()).1⟩]).bind fun r7 => (bif r7.2.1 then ((callT R n_spec_l05Find o_spec_l05Find [⟨(.ptr (.cons yK .nil)),b_2⟩,⟨yL,r7.1⟩]).bind fun r8 => (spec_l08Fits.j1 R N n a_1 b_2 vertices_3 images_4 i_5 (decide (r8.1 < (0:Int))))) else (spec_l08Fits.j1 R N n a_1 b_2 vertices_3 images_4 i_5 false)))) else some ⟨o_spec_l08Fits,(true,())⟩) := (hw _ _).trans (by kernel_rfl)
theorem spec_l08Fits.ev (R:Run) (N:Nat) (a0:(vK × Unit)) (a1:(vK × Unit)) (a2:(List Int)) (a3:(List Int)):evFn E R sg_spec_l08Fits pol_spec_l08Fits F_spec_l08Fits N [⟨(.ptr (.cons yK .nil)),a0⟩,⟨(.ptr (.cons yK .nil)),a1⟩,⟨yL,a2⟩,⟨yL,a3⟩] = (spec_l08Fits.l0 R N N a0 a1 a2 a3 (0:Int)) := by kernel_rfl
/-! loop.example/g01005/spec.l08Map -/
noncomputable def spec_l08Map.l0 (R:Run) (N:Nat) (n:Nat) (a_2:(vK × Unit)) (b_3:(vK × Unit)) (images_4:(List Int)) (vertices_5:(List Int)) (i_6:Int):Option Dv := R.w (some ⟨(.c (.ip (.cons yK .nil) a_2 0)::(.c (.ip (.cons yK .nil) b_3 0)::(.c (.d yL images_4)::(zd 4 (.c (.d yL vertices_5)::(.c (.d yI i_6)::(zd 26 []))))))),(zo 38 [])⟩) fun st => lC R pol_spec_l08Map 3 N [1,1,0,1,0,0] F_spec_l08Map n st (kB R pol_spec_l08Map 0 (kS R pol_spec_l08Map 7 N [1,1,1] F_spec_l08Map (kTop E sg_spec_l08Map F_spec_l08Map)))
theorem spec_l08Map.l0_succ (R:Run) (hw:R.ok) (N:Nat) (n:Nat) (a_2:(vK × Unit)) (b_3:(vK × Unit)) (images_4:(List Int)) (vertices_5:(List Int)) (i_6:Int):spec_l08Map.l0 R N (n + 1) a_2 b_3 images_4 vertices_5 i_6 = (bif (decide (i_6 < (List.length images_4:Int))) then ((idx? images_4 i_6).bind fun y7 => ((callT R n_spec_l00In o_spec_l00In [⟨yI,(y7,()).1⟩,⟨yI,(0:Int)⟩,⟨yI,(9:Int)⟩]).bind fun r8 => (bif (!r8.1) then some ⟨o_spec_l08Map,(false,())⟩ else (spec_l08Map.l0 R N n a_2 b_3 images_4 vertices_5 (w64 (i_6 + (1:Int))))))) else (bif ((List.length images_4:Int) == (List.length vertices_5:Int)) then ((callT R n_spec_l08Fits o_spec_l08Fits [⟨(.ptr (.cons yK .nil)),a_2⟩,⟨(.ptr (.cons yK .nil)),b_3⟩,⟨yL,vertices_5⟩,⟨yL,images_4⟩]).bind fun r14 => some ⟨o_spec_l08Map,(r14.1,())⟩) else some ⟨o_spec_l08Map,(false,())⟩)) := (hw _ _).trans (by kernel_rfl)
theorem spec_l08Map.ev (R:Run) (N:Nat) (a0:(vK × Unit)) (a1:(vK × Unit)) (a2:(List Int)):evFn E R sg_spec_l08Map pol_spec_l08Map F_spec_l08Map N [⟨(.ptr (.cons yK .nil)),a0⟩,⟨(.ptr (.cons yK .nil)),a1⟩,⟨yL,a2⟩] = ((callT R n_spec_l08Vertices o_spec_l08Vertices [⟨(.ptr (.cons yK .nil)),a0⟩]).bind fun r1 => (spec_l08Map.l0 R N N a0 a1 a2 r1.1 (0:Int))) := by kernel_rfl
/-! loop.example/g01005/spec.l08Ask -/
noncomputable def spec_l08Ask.j0 (R:Run) (N:Nat) (a_2:(vK × Unit)) (b_3:(vK × Unit)) (images_4:(List Int)) (t14__5:Bool):Option Dv := R.w (some ⟨(.c (.ip (.cons yK .nil) a_2 0)::(.c (.ip (.cons yK .nil) b_3 0)::(.c (.d yL images_4)::(zd 11 (.c (.d .bool t14__5)::(zd 5 [])))))),(zo 23 [])⟩) fun st => eC R pol_spec_l08Ask N [1,0,1] F_spec_l08Ask st (kS R pol_spec_l08Ask 3 N [1,1] F_spec_l08Ask (kTop E sg_spec_l08Ask F_spec_l08Ask))
theorem spec_l08Ask.j0_eq (R:Run) (hw:R.ok) (N:Nat) (a_2:(vK × Unit)) (b_3:(vK × Unit)) (images_4:(List Int)) (t14__5:Bool):spec_l08Ask.j0 R N a_2 b_3 images_4 t14__5 = (bif t14__5 then some ⟨o_spec_l08Ask,((1:Int),())⟩ else ((callT R n_spec_l08Map o_spec_l08Map [⟨(.ptr (.cons yK .nil)),a_2⟩,⟨(.ptr (.cons yK .nil)),b_3⟩,⟨yL,images_4⟩]).bind fun r6 => (bif (!r6.1) then some ⟨o_spec_l08Ask,((7:Int),())⟩ else some ⟨o_spec_l08Ask,((0:Int),())⟩))) := (hw _ _).trans (by kernel_rfl)
theorem spec_l08Ask.ev (R:Run) (N:Nat) (a0:(vK × Unit)) (a1:(vK × Unit)) (a2:(List Int)):evFn E R sg_spec_l08Ask pol_spec_l08Ask F_spec_l08Ask N [⟨(.ptr (.cons yK .nil)),a0⟩,⟨(.ptr (.cons yK .nil)),a1⟩,⟨yL,a2⟩] = ((callT R n_spec_l05Ok o_spec_l05Ok [⟨(.ptr (.cons yK .nil)),a0⟩]).bind fun r1 => (bif (!r1.1) then (spec_l08Ask.j0 R N a0 a1 a2 true) else ((callT R n_spec_l05Ok o_spec_l05Ok [⟨(.ptr (.cons yK .nil)),a1⟩]).bind fun r7 => (spec_l08Ask.j0 R N a0 a1 a2 (!r7.1))))) := by kernel_rfl
/-! loop.example/g01005/spec.l05Dimension -/
theorem spec_l05Dimension.ev (R:Run) (N:Nat) (a0:Int):evFn E R sg_spec_l05Dimension pol_spec_l05Dimension F_spec_l05Dimension N [⟨yI,a0⟩] = ((callT R n_spec_l00In o_spec_l00In [⟨yI,a0⟩,⟨yI,(0:Int)⟩,⟨yI,(3:Int)⟩]).bind fun r1 => some ⟨o_spec_l05Dimension,(r1.1,())⟩) := by kernel_rfl
/-! loop.example/g01005/spec.l05Of -/
noncomputable def spec_l05Of.l0 (R:Run) (N:Nat) (n:Nat) (c_1:(vK × Unit)) (dimension_2:Int) (i_3:Int) (o7_4:(List Int)):Option Dv := R.w (some ⟨(.c (.ip (.cons yK .nil) c_1 0)::(.c (.d yI dimension_2)::(zd 3 (.c (.arr 7)::(.c (.d yI i_3)::(zd 26 [])))))),(zo 7 (some (.arr yI o7_4 true false false)::(zo 27 [])))⟩) fun st => lC R pol_spec_l05Of 3 N [1,1,0,1,0,0] F_spec_l05Of n st (kB R pol_spec_l05Of 0 (kS R pol_spec_l05Of 7 N [1,1,1] F_spec_l05Of (kTop E sg_spec_l05Of F_spec_l05Of)))
theorem spec_l05Of.l0_succ (R:Run) (hw:R.ok) (N:Nat) (n:Nat) (c_1:(vK × Unit)) (dimension_2:Int) (i_3:Int) (o7_4:(List Int)):spec_l05Of.l0 R N (n + 1) c_1 dimension_2 i_3 o7_4 = (bif (decide (i_3 < (List.length c_1.1:Int))) then ((idx? c_1.1 i_3).bind fun y5 => (bif ((List.length (y5,()).1:Int) == (w64 (dimension_2 + (1:Int)))) then ((chk (decide ((List.length o7_4 + List.length [i_3]) * 8 ≤ 70368744177664))).bind fun _ => (spec_l05Of.l0 R N n c_1 dimension_2 (w64 (i_3 + (1:Int))) (o7_4 ++ [i_3]))) else (spec_l05Of.l0 R N n c_1 dimension_2 (w64 (i_3 + (1:Int))) o7_4))) else some ⟨o_spec_l05Of,(o7_4,())⟩) := (hw _ _).trans (by kernel_rfl)
theorem spec_l05Of.ev (R:Run) (N:Nat) (a0:(vK × Unit)) (a1:Int):evFn E R sg_spec_l05Of pol_spec_l05Of F_spec_l05Of N [⟨(.ptr (.cons yK .nil)),a0⟩,⟨yI,a1⟩] = (spec_l05Of.l0 R N N a0 a1 (0:Int) ([]:List Int)) := by kernel_rfl
/-! loop.example/g01005/spec.l03Zero -/
theorem spec_l03Zero.ev (R:Run) (N:Nat) (a0:Int) (a1:Int) (a2:Int):evFn E R sg_spec_l03Zero pol_spec_l03Zero F_spec_l03Zero N [⟨yI,a0⟩,⟨yI,a1⟩,⟨yI,a2⟩] = ((chk (decide (0 ≤ (w64 (a1 * a2))) && decide ((w64 (a1 * a2)) * 8 ≤ 70368744177664))).bind fun _ => some ⟨o_spec_l03Zero,(a0,a1,a2,(List.replicate (Int.toNat (w64 (a1 * a2))) (0:Int)),())⟩) := by kernel_rfl
/-! loop.example/g01005/spec.l08At -/
theorem spec_l08At.ev (R:Run) (N:Nat) (a0:(vK × Unit)) (a1:(vK × Unit)) (a2:(List Int)) (a3:Int):evFn E R sg_spec_l08At pol_spec_l08At F_spec_l08At N [⟨(.ptr (.cons yK .nil)),a0⟩,⟨(.ptr (.cons yK .nil)),a1⟩,⟨yL,a2⟩,⟨yI,a3⟩] = ((idx? a0.1 a3).bind fun y1 => ((callT R n_spec_l08Vertices o_spec_l08Vertices [⟨(.ptr (.cons yK .nil)),a0⟩]).bind fun r2 => ((callT R n_spec_l08Image o_spec_l08Image [⟨yL,r2.1⟩,⟨yL,a2⟩,⟨yL,(y1,()).1⟩]).bind fun r3 => ((callT R n_spec_l05Find o_spec_l05Find [⟨(.ptr (.cons yK .nil)),a1⟩,⟨yL,r3.1⟩]).bind fun r4 => some ⟨o_spec_l08At,(r4.1,())⟩)))) := by kernel_rfl
/-! loop.example/g01005/spec.l07Sign -/
theorem spec_l07Sign.ev (R:Run) (N:Nat) (a0:Int) (a1:Int):evFn E R sg_spec_l07Sign pol_spec_l07Sign F_spec_l07Sign N [⟨yI,a0⟩,⟨yI,a1⟩] = (bif ((Int.tmod a0 (2:Int)) == (0:Int)) then ((chk (a1 != 0)).bind fun _ => some ⟨o_spec_l07Sign,((Int.tmod (1:Int) a1),())⟩) else some ⟨o_spec_l07Sign,((w64 (a1 - (1:Int))),())⟩) := by kernel_rfl
/-! loop.example/g01005/spec.l08Chain -/
noncomputable def spec_l08Chain.l2 (R:Run) (N:Nat) (n04_:Nat) (n05_:Nat) (n:Nat) (t0__43:(vK × Unit)) (t1__44:(vK × Unit)) (t2__45:(List Int)) (t4__46:Int) (t11__47:(List Int)) (t12__48:(List Int)) (t13__49:(List Int)) (t15__50:Int) (t16__51:(List Int)) (t18__52:Int) (t19__53:Int) (t20__54:Int) (t21__55:Int) (o10_56:Int) (o10_57:Int) (o10_58:Int) (o14_59:Int) (o14_60:Int) (o14_61:Int) (o53_62:(List Int)) (o126_63:(List Int)):Option Dv := R.w (some ⟨(.c (.ip (.cons yK .nil) t0__43 0)::(.c (.ip (.cons yK .nil) t1__44 0)::(.c (.d yL t2__45)::(V.dead::(.c (.d yI t4__46)::(zd 5 (.c (.box 10 0)::(.c (.d yL t11__47)::(.c (.d yL t12__48)::(.c (.d yL t13__49)::(.c (.box 14 0)::(.c (.d yI t15__50)::(.c (.d yL t16__51)::(.c (.arr 53)::(.c (.d yI t18__52)::(.c (.d yI t19__53)::(.c (.d yI t20__54)::(.c (.d yI t21__55)::(zd 99 []))))))))))))))))))),(zo 10 (some (.box [.d yI o10_56,.d yI o10_57,.d yI o10_58,.nils yI] false false)::(zo 3 (some (.box [.d yI o14_59,.d yI o14_60,.d yI o14_61,.arr 126] false false)::(zo 38 (some (.arr yI o53_62 true false false)::(zo 72 (some (.arr yI o126_63 true false false)::[]))))))))⟩) fun st => lC R pol_spec_l08Chain 16 N [1,1,1,1,1,0,1,0,0,1,0,0,1,1,1,0,1,0,0,1,0,0,1,0,1,0,0] F_spec_l08Chain n st (kB R pol_spec_l08Chain 4 (kS R pol_spec_l08Chain 20 N [1,1,1,1,1,0,1,0,0,1,0,0,1,1,1,0,1,0,0,1,0,0,1,1] F_spec_l08Chain (kB R pol_spec_l08Chain 3 (kS R pol_spec_l08Chain 13 N [1,1,1,1,1,0,1,0,0,1,0,0,1,1,1,0,1,0,0,1,1] F_spec_l08Chain (kL R pol_spec_l08Chain 12 N [1,1,1,1,1,0,1,0,0,1,0,0,1,1,1,0,1,0,0] F_spec_l08Chain n05_ (kB R pol_spec_l08Chain 2 (kS R pol_spec_l08Chain 21 N [1,1,1,1,1,0,1,0,0,1,0,0,1,1,1,1] F_spec_l08Chain (kB R pol_spec_l08Chain 1 (kS R pol_spec_l08Chain 7 N [1,1,1,1,1,0,1,0,0,1,1] F_spec_l08Chain (kL R pol_spec_l08Chain 6 N [1,1,1,1,1,0,1,0,0] F_spec_l08Chain n04_ (kB R pol_spec_l08Chain 0 (kS R pol_spec_l08Chain 24 N [1,1,1,1,1,1] F_spec_l08Chain (kTop E sg_spec_l08Chain F_spec_l08Chain)))))))))))))
noncomputable def spec_l08Chain.l1 (R:Run) (N:Nat) (n04_:Nat) (n:Nat) (t0__22:(vK × Unit)) (t1__23:(vK × Unit)) (t2__24:(List Int)) (t4__25:Int) (t11__26:(List Int)) (t12__27:(List Int)) (t13__28:(List Int)) (t15__29:Int) (t16__30:(List Int)) (t18__31:Int) (t19__32:Int) (o10_33:Int) (o10_34:Int) (o10_35:Int) (o14_36:Int) (o14_37:Int) (o14_38:Int) (o53_39:(List Int)) (o126_40:(List Int)):Option Dv := R.w (some ⟨(.c (.ip (.cons yK .nil) t0__22 0)::(.c (.ip (.cons yK .nil) t1__23 0)::(.c (.d yL t2__24)::(V.dead::(.c (.d yI t4__25)::(zd 5 (.c (.box 10 0)::(.c (.d yL t11__26)::(.c (.d yL t12__27)::(.c (.d yL t13__28)::(.c (.box 14 0)::(.c (.d yI t15__29)::(.c (.d yL t16__30)::(.c (.arr 53)::(.c (.d yI t18__31)::(.c (.d yI t19__32)::(zd 101 []))))))))))))))))),(zo 10 (some (.box [.d yI o10_33,.d yI o10_34,.d yI o10_35,.nils yI] false false)::(zo 3 (some (.box [.d yI o14_36,.d yI o14_37,.d yI o14_38,.arr 126] false false)::(zo 38 (some (.arr yI o53_39 true false false)::(zo 72 (some (.arr yI o126_40 true false false)::[]))))))))⟩) fun st => lC R pol_spec_l08Chain 12 N [1,1,1,1,1,0,1,0,0,1,0,0,1,1,1,0,1,0,0] F_spec_l08Chain n st (kB R pol_spec_l08Chain 2 (kS R pol_spec_l08Chain 21 N [1,1,1,1,1,0,1,0,0,1,0,0,1,1,1,1] F_spec_l08Chain (kB R pol_spec_l08Chain 1 (kS R pol_spec_l08Chain 7 N [1,1,1,1,1,0,1,0,0,1,1] F_spec_l08Chain (kL R pol_spec_l08Chain 6 N [1,1,1,1,1,0,1,0,0] F_spec_l08Chain n04_ (kB R pol_spec_l08Chain 0 (kS R pol_spec_l08Chain 24 N [1,1,1,1,1,1] F_spec_l08Chain (kTop E sg_spec_l08Chain F_spec_l08Chain))))))))
noncomputable def spec_l08Chain.l0 (R:Run) (N:Nat) (n:Nat) (t0__5:(vK × Unit)) (t1__6:(vK × Unit)) (t2__7:(List Int)) (t4__8:Int) (t11__9:(List Int)) (t12__10:(List Int)) (t13__11:(List Int)) (t15__12:Int) (o10_13:Int) (o10_14:Int) (o10_15:Int) (o14_16:Int) (o14_17:Int) (o14_18:Int) (o126_19:(List Int)):Option Dv := R.w (some ⟨(.c (.ip (.cons yK .nil) t0__5 0)::(.c (.ip (.cons yK .nil) t1__6 0)::(.c (.d yL t2__7)::(V.dead::(.c (.d yI t4__8)::(zd 5 (.c (.box 10 0)::(.c (.d yL t11__9)::(.c (.d yL t12__10)::(.c (.d yL t13__11)::(.c (.box 14 0)::(.c (.d yI t15__12)::(zd 105 []))))))))))))),(zo 10 (some (.box [.d yI o10_13,.d yI o10_14,.d yI o10_15,.nils yI] false false)::(zo 3 (some (.box [.d yI o14_16,.d yI o14_17,.d yI o14_18,.arr 126] false false)::(zo 111 (some (.arr yI o126_19 true false false)::[]))))))⟩) fun st => lC R pol_spec_l08Chain 6 N [1,1,1,1,1,0,1,0,0] F_spec_l08Chain n st (kB R pol_spec_l08Chain 0 (kS R pol_spec_l08Chain 24 N [1,1,1,1,1,1] F_spec_l08Chain (kTop E sg_spec_l08Chain F_spec_l08Chain)))
theorem spec_l08Chain.l2_succ (R:Run) (hw:R.ok) (N:Nat) (n04_:Nat) (n05_:Nat) (n:Nat) (t0__43:(vK × Unit)) (t1__44:(vK × Unit)) (t2__45:(List Int)) (t4__46:Int) (t11__47:(List Int)) (t12__48:(List Int)) (t13__49:(List Int)) (t15__50:Int) (t16__51:(List Int)) (t18__52:Int) (t19__53:Int) (t20__54:Int) (t21__55:Int) (o10_56:Int) (o10_57:Int) (o10_58:Int) (o14_59:Int) (o14_60:Int) (o14_61:Int) (o53_62:(List Int)) (o126_63:(List Int)):spec_l08Chain.l2 R N n04_ n05_ (n + 1) t0__43 t1__44 t2__45 t4__46 t11__47 t12__48 t13__49 t15__50 t16__51 t18__52 t19__53 t20__54 t21__55 o10_56 o10_57 o10_58 o14_59 o14_60 o14_61 o53_62 o126_63 = (bif (decide (t21__55 < (List.length o53_62:Int))) then ((chk (decide (0 ≤ t21__55) && decide (t21__55 < (List.length o53_62:Int)))).bind fun _ => (Option.bind (o53_62)[(Int.toNat t21__55)]? fun y64 => (bif (decide (y64 > t20__54)) then (spec_l08Chain.l2 R N n04_ n05_ n t0__43 t1__44 t2__45 t4__46 t11__47 t12__48 t13__49 t15__50 t16__51 (w64 (t18__52 + (1:Int))) t19__53 t20__54 (w64 (t21__55 + (1:Int))) o10_56 o10_57 o10_58 o14_59 o14_60 o14_61 o53_62 o126_63) else (spec_l08Chain.l2 R N n04_ n05_ n t0__43 t1__44 t2__45 t4__46 t11__47 t12__48 t13__49 t15__50 t16__51 t18__52 t19__53 t20__54 (w64 (t21__55 + (1:Int))) o10_56 o10_57 o10_58 o14_59 o14_60 o14_61 o53_62 o126_63)))) else ((chk (decide ((List.length o53_62 + List.length [t20__54]) * 8 ≤ 70368744177664))).bind fun _ => (spec_l08Chain.l1 R N n04_ n05_ t0__43 t1__44 t2__45 t4__46 t11__47 t12__48 t13__49 t15__50 t16__51 t18__52 (w64 (t19__53 + (1:Int))) o10_56 o10_57 o10_58 o14_59 o14_60 o14_61 (o53_62 ++ [t20__54]) o126_63))) := (hw _ _).trans (by kernel_rfl)
theorem spec_l08Chain.l1_succ (R:Run) (hw:R.ok) (N:Nat) (n04_:Nat) (n:Nat) (t0__22:(vK × Unit)) (t1__23:(vK × Unit)) (t2__24:(List Int)) (t4__25:Int) (t11__26:(List Int)) (t12__27:(List Int)) (t13__28:(List Int)) (t15__29:Int) (t16__30:(List Int)) (t18__31:Int) (t19__32:Int) (o10_33:Int) (o10_34:Int) (o10_35:Int) (o14_36:Int) (o14_37:Int) (o14_38:Int) (o53_39:(List Int)) (o126_40:(List Int)):spec_l08Chain.l1 R N n04_ (n + 1) t0__22 t1__23 t2__24 t4__25 t11__26 t12__27 t13__28 t15__29 t16__30 t18__31 t19__32 o10_33 o10_34 o10_35 o14_36 o14_37 o14_38 o53_39 o126_40 = (bif (decide (t19__32 < (List.length t16__30:Int))) then ((idx? t16__30 t19__32).bind fun y41 => ((callT R n_spec_l08Told o_spec_l08Told [⟨yL,t13__28⟩,⟨yL,t2__24⟩,⟨yI,(y41,()).1⟩]).bind fun r42 => (spec_l08Chain.l2 R N n04_ n N t0__22 t1__23 t2__24 t4__25 t11__26 t12__27 t13__28 t15__29 t16__30 t18__31 t19__32 r42.1 (0:Int) o10_33 o10_34 o10_35 o14_36 o14_37 o14_38 o53_39 o126_40))) else ((idx? t11__26 t15__29).bind fun y126 => ((callT R n_spec_l08At o_spec_l08At [⟨(.ptr (.cons yK .nil)),t0__22⟩,⟨(.ptr (.cons yK .nil)),t1__23⟩,⟨yL,t2__24⟩,⟨yI,(y126,()).1⟩]).bind fun r127 => ((idx? t1__23.1 r127.1).bind fun y128 => (bif ((List.length (y128,()).1:Int) == (List.length t16__30:Int)) then ((idx? t12__27 (0:Int)).bind fun y129 => ((callT R n_spec_l07Sign o_spec_l07Sign [⟨yI,t18__31⟩,⟨yI,t4__25⟩]).bind fun r130 => ((chk (decide (0 ≤ (w64 ((w64 ((w64 (r127.1 - (y129,()).1)) * o14_38)) + t15__29))) && decide ((w64 ((w64 ((w64 (r127.1 - (y129,()).1)) * o14_38)) + t15__29)) < (List.length o126_40:Int)))).bind fun _ => (spec_l08Chain.l0 R N n04_ t0__22 t1__23 t2__24 t4__25 t11__26 t12__27 t13__28 (w64 (t15__29 + (1:Int))) o10_33 o10_34 o10_35 o14_36 o14_37 o14_38 (List.set o126_40 (Int.toNat (w64 ((w64 ((w64 (r127.1 - (y129,()).1)) * o14_38)) + t15__29))) r130.1))))) else (spec_l08Chain.l0 R N n04_ t0__22 t1__23 t2__24 t4__25 t11__26 t12__27 t13__28 (w64 (t15__29 + (1:Int))) o10_33 o10_34 o10_35 o14_36 o14_37 o14_38 o126_40)))))) := (hw _ _).trans (by kernel_rfl)
theorem spec_l08Chain.l0_succ (R:Run) (hw:R.ok) (N:Nat) (n:Nat) (t0__5:(vK × Unit)) (t1__6:(vK × Unit)) (t2__7:(List Int)) (t4__8:Int) (t11__9:(List Int)) (t12__10:(List Int)) (t13__11:(List Int)) (t15__12:Int) (o10_13:Int) (o10_14:Int) (o10_15:Int) (o14_16:Int) (o14_17:Int) (o14_18:Int) (o126_19:(List Int)):spec_l08Chain.l0 R N (n + 1) t0__5 t1__6 t2__7 t4__8 t11__9 t12__10 t13__11 t15__12 o10_13 o10_14 o10_15 o14_16 o14_17 o14_18 o126_19 = (bif (decide (t15__12 < (List.length t11__9:Int))) then ((idx? t11__9 t15__12).bind fun y20 => ((idx? t0__5.1 (y20,()).1).bind fun y21 => (spec_l08Chain.l1 R N n N t0__5 t1__6 t2__7 t4__8 t11__9 t12__10 t13__11 t15__12 ((y21,()).1) (0:Int) (0:Int) o10_13 o10_14 o10_15 o14_16 o14_17 o14_18 ([]:List Int) o126_19))) else some ⟨o_spec_l08Chain,(o14_16,o14_17,o14_18,o126_19,())⟩) := (hw _ _).trans (by kernel_rfl)
theorem spec_l08Chain.ev (R:Run) (N:Nat) (a0:(vK × Unit)) (a1:(vK × Unit)) (a2:(List Int)) (a3:Int) (a4:Int):evFn E R sg_spec_l08Chain pol_spec_l08Chain F_spec_l08Chain N [⟨(.ptr (.cons yK .nil)),a0⟩,⟨(.ptr (.cons yK .nil)),a1⟩,⟨yL,a2⟩,⟨yI,a3⟩,⟨yI,a4⟩] = ((callT R n_spec_l05Of o_spec_l05Of [⟨(.ptr (.cons yK .nil)),a0⟩,⟨yI,a3⟩]).bind fun r1 => ((callT R n_spec_l05Of o_spec_l05Of [⟨(.ptr (.cons yK .nil)),a1⟩,⟨yI,a3⟩]).bind fun r2 => ((callT R n_spec_l08Vertices o_spec_l08Vertices [⟨(.ptr (.cons yK .nil)),a0⟩]).bind fun r3 => ((callT R n_spec_l03Zero o_spec_l03Zero [⟨yI,a4⟩,⟨yI,(List.length r2.1:Int)⟩,⟨yI,(List.length r1.1:Int)⟩]).bind fun r4 => (spec_l08Chain.l0 R N N a0 a1 a2 a4 r1.1 r2.1 r3.1 (0:Int) (0:Int) (0:Int) (0:Int) r4.1 r4.2.1 r4.2.2.1 r4.2.2.2.1))))) := by kernel_rfl
/-! loop.example/g01005/spec.ChainMap -/
noncomputable def spec_ChainMap.j3 (R:Run) (N:Nat) (images_34:(List Int)) (k_35:Int) (p_36:Int) (code_37:Int) (a_38:vK) (b_39:vK) (o10_40:Int) (o10_41:Int) (o10_42:Int):Option Dv := R.w (some ⟨(V.dead::(V.dead::(.c (.d yL images_34)::(.c (.d yI k_35)::(.c (.d yI p_36)::(.c (.box 5 0)::(.c (.box 6 0)::(zd 3 (.c (.box 10 0)::(V.dead::(.c (.d yI code_37)::(zd 35 [])))))))))))),(zo 5 (some (.box [.d yK a_38] false false)::(some (.box [.d yK b_39] false false)::(zo 3 (some (.box [.d yI o10_40,.d yI o10_41,.d yI o10_42,.nils yI] false false)::(zo 43 []))))))⟩) fun st => eC R pol_spec_ChainMap N [1,1,1,1,1] F_spec_ChainMap st (kTop E sg_spec_ChainMap F_spec_ChainMap)
noncomputable def spec_ChainMap.j2 (R:Run) (N:Nat) (images_24:(List Int)) (k_25:Int) (p_26:Int) (code_27:Int) (t39__28:Bool) (a_29:vK) (b_30:vK) (o10_31:Int) (o10_32:Int) (o10_33:Int):Option Dv := R.w (some ⟨(V.dead::(V.dead::(.c (.d yL images_24)::(.c (.d yI k_25)::(.c (.d yI p_26)::(.c (.box 5 0)::(.c (.box 6 0)::(zd 3 (.c (.box 10 0)::(V.dead::(.c (.d yI code_27)::(zd 26 (.c (.d .bool t39__28)::(zd 8 [])))))))))))))),(zo 5 (some (.box [.d yK a_29] false false)::(some (.box [.d yK b_30] false false)::(zo 3 (some (.box [.d yI o10_31,.d yI o10_32,.d yI o10_33,.nils yI] false false)::(zo 43 []))))))⟩) fun st => eC R pol_spec_ChainMap N [1,1,1,1,0,1] F_spec_ChainMap st (kS R pol_spec_ChainMap 8 N [1,1,1,1,1] F_spec_ChainMap (kTop E sg_spec_ChainMap F_spec_ChainMap))
noncomputable def spec_ChainMap.j1 (R:Run) (N:Nat) (images_14:(List Int)) (k_15:Int) (p_16:Int) (code_17:Int) (a_18:vK) (b_19:vK) (o10_20:Int) (o10_21:Int) (o10_22:Int):Option Dv := R.w (some ⟨(V.dead::(V.dead::(.c (.d yL images_14)::(.c (.d yI k_15)::(.c (.d yI p_16)::(.c (.box 5 0)::(.c (.box 6 0)::(zd 3 (.c (.box 10 0)::(V.dead::(.c (.d yI code_17)::(zd 35 [])))))))))))),(zo 5 (some (.box [.d yK a_18] false false)::(some (.box [.d yK b_19] false false)::(zo 3 (some (.box [.d yI o10_20,.d yI o10_21,.d yI o10_22,.nils yI] false false)::(zo 43 []))))))⟩) fun st => eC R pol_spec_ChainMap N [1,1,1,1] F_spec_ChainMap st (kTop E sg_spec_ChainMap F_spec_ChainMap)
noncomputable def spec_ChainMap.j0 (R:Run) (N:Nat) (images_4:(List Int)) (k_5:Int) (p_6:Int) (code_7:Int) (t25__8:Bool) (a_9:vK) (b_10:vK) (o10_11:Int) (o10_12:Int) (o10_13:Int):Option Dv := R.w (some ⟨(V.dead::(V.dead::(.c (.d yL images_4)::(.c (.d yI k_5)::(.c (.d yI p_6)::(.c (.box 5 0)::(.c (.box 6 0)::(zd 3 (.c (.box 10 0)::(V.dead::(.c (.d yI code_7)::(zd 12 (.c (.d .bool t25__8)::(zd 22 [])))))))))))))),(zo 5 (some (.box [.d yK a_9] false false)::(some (.box [.d yK b_10] false false)::(zo 3 (some (.box [.d yI o10_11,.d yI o10_12,.d yI o10_13,.nils yI] false false)::(zo 43 []))))))⟩) fun st => eC R pol_spec_ChainMap N [1,1,1,0,1] F_spec_ChainMap st (kS R pol_spec_ChainMap 6 N [1,1,1,1] F_spec_ChainMap (kTop E sg_spec_ChainMap F_spec_ChainMap))
theorem spec_ChainMap.j3_eq (R:Run) (hw:R.ok) (N:Nat) (images_34:(List Int)) (k_35:Int) (p_36:Int) (code_37:Int) (a_38:vK) (b_39:vK) (o10_40:Int) (o10_41:Int) (o10_42:Int):spec_ChainMap.j3 R N images_34 k_35 p_36 code_37 a_38 b_39 o10_40 o10_41 o10_42 = (bif (code_37 != (0:Int)) then some ⟨o_spec_ChainMap,((0:Int),(0:Int),(0:Int),([]:List Int),code_37,())⟩ else ((callT R n_spec_l08Chain o_spec_l08Chain [⟨(.ptr (.cons yK .nil)),(a_38,())⟩,⟨(.ptr (.cons yK .nil)),(b_39,())⟩,⟨yL,images_34⟩,⟨yI,k_35⟩,⟨yI,p_36⟩]).bind fun r43 => some ⟨o_spec_ChainMap,(r43.1,r43.2.1,r43.2.2.1,r43.2.2.2.1,(0:Int),())⟩)) := (hw _ _).trans (by kernel_rfl)
theorem spec_ChainMap.j2_eq (R:Run) (hw:R.ok) (N:Nat) (images_24:(List Int)) (k_25:Int) (p_26:Int) (code_27:Int) (t39__28:Bool) (a_29:vK) (b_30:vK) (o10_31:Int) (o10_32:Int) (o10_33:Int):spec_ChainMap.j2 R N images_24 k_25 p_26 code_27 t39__28 a_29 b_30 o10_31 o10_32 o10_33 = (bif t39__28 then (spec_ChainMap.j3 R N images_24 k_25 p_26 (5:Int) a_29 b_30 o10_31 o10_32 o10_33) else (spec_ChainMap.j3 R N images_24 k_25 p_26 code_27 a_29 b_30 o10_31 o10_32 o10_33)) := (hw _ _).trans (by kernel_rfl)
theorem spec_ChainMap.j1_eq (R:Run) (hw:R.ok) (N:Nat) (images_14:(List Int)) (k_15:Int) (p_16:Int) (code_17:Int) (a_18:vK) (b_19:vK) (o10_20:Int) (o10_21:Int) (o10_22:Int):spec_ChainMap.j1 R N images_14 k_15 p_16 code_17 a_18 b_19 o10_20 o10_21 o10_22 = (bif (code_17 == (0:Int)) then ((callT R n_spec_l05Of o_spec_l05Of [⟨(.ptr (.cons yK .nil)),(a_18,())⟩,⟨yI,k_15⟩]).bind fun r23 => (bif (decide ((List.length r23.1:Int) > (32:Int))) then (spec_ChainMap.j2 R N images_14 k_15 p_16 code_17 true a_18 b_19 o10_20 o10_21 o10_22) else ((callT R n_spec_l05Of o_spec_l05Of [⟨(.ptr (.cons yK .nil)),(b_19,())⟩,⟨yI,k_15⟩]).bind fun r53 => (spec_ChainMap.j2 R N images_14 k_15 p_16 code_17 (decide ((List.length r53.1:Int) > (32:Int))) a_18 b_19 o10_20 o10_21 o10_22)))) else (spec_ChainMap.j2 R N images_14 k_15 p_16 code_17 false a_18 b_19 o10_20 o10_21 o10_22)) := (hw _ _).trans (by kernel_rfl)
theorem spec_ChainMap.j0_eq (R:Run) (hw:R.ok) (N:Nat) (images_4:(List Int)) (k_5:Int) (p_6:Int) (code_7:Int) (t25__8:Bool) (a_9:vK) (b_10:vK) (o10_11:Int) (o10_12:Int) (o10_13:Int):spec_ChainMap.j0 R N images_4 k_5 p_6 code_7 t25__8 a_9 b_10 o10_11 o10_12 o10_13 = (bif t25__8 then (spec_ChainMap.j1 R N images_4 k_5 p_6 (2:Int) a_9 b_10 o10_11 o10_12 o10_13) else (spec_ChainMap.j1 R N images_4 k_5 p_6 code_7 a_9 b_10 o10_11 o10_12 o10_13)) := (hw _ _).trans (by kernel_rfl)
theorem spec_ChainMap.ev (R:Run) (N:Nat) (a0:vK) (a1:vK) (a2:(List Int)) (a3:Int) (a4:Int):evFn E R sg_spec_ChainMap pol_spec_ChainMap F_spec_ChainMap N [⟨yK,a0⟩,⟨yK,a1⟩,⟨yL,a2⟩,⟨yI,a3⟩,⟨yI,a4⟩] = ((callT R n_spec_l02Prime o_spec_l02Prime [⟨yI,a4⟩]).bind fun r1 => (bif (!r1.1) then some ⟨o_spec_ChainMap,((0:Int),(0:Int),(0:Int),([]:List Int),(1:Int),())⟩ else ((callT R n_spec_l08Ask o_spec_l08Ask [⟨(.ptr (.cons yK .nil)),(a0,())⟩,⟨(.ptr (.cons yK .nil)),(a1,())⟩,⟨yL,a2⟩]).bind fun r2 => (bif (r2.1 == (0:Int)) then ((callT R n_spec_l05Dimension o_spec_l05Dimension [⟨yI,a3⟩]).bind fun r3 => (spec_ChainMap.j0 R N a2 a3 a4 r2.1 (!r3.1) a0 a1 (0:Int) (0:Int) (0:Int))) else (spec_ChainMap.j0 R N a2 a3 a4 r2.1 false a0 a1 (0:Int) (0:Int) (0:Int)))))) := by kernel_rfl
/-! loop.example/g01005/impl.within -/
theorem impl_within.ev (R:Run) (N:Nat) (a0:Int) (a1:Int) (a2:Int):evFn E R sg_impl_within pol_impl_within F_impl_within N [⟨yI,a0⟩,⟨yI,a1⟩,⟨yI,a2⟩] = (bif (decide (a0 ≥ a1)) then some ⟨o_impl_within,((decide (a0 ≤ a2)),())⟩ else some ⟨o_impl_within,(false,())⟩) := by kernel_rfl
/-! loop.example/g01005/impl.ValidPrime -/
noncomputable def impl_ValidPrime.l0 (R:Run) (N:Nat) (n:Nat) (p_2:Int) (d_3:Int):Option Dv := R.w (some ⟨(.c (.d yI p_2)::(V.dead::(V.dead::(.c (.d yI d_3)::(zd 14 []))))),(zo 19 [])⟩) fun st => lC R pol_impl_ValidPrime 4 N [1,1,0,1,0,0] F_impl_ValidPrime n st (kB R pol_impl_ValidPrime 0 (kS R pol_impl_ValidPrime 8 N [1,1,1] F_impl_ValidPrime (kTop E sg_impl_ValidPrime F_impl_ValidPrime)))
theorem impl_ValidPrime.l0_succ (R:Run) (hw:R.ok) (N:Nat) (n:Nat) (p_2:Int) (d_3:Int):impl_ValidPrime.l0 R N (n + 1) p_2 d_3 = (bif (decide ((w64 (d_3 * d_3)) ≤ p_2)) then ((chk (d_3 != 0)).bind fun _ => (bif ((Int.tmod p_2 d_3) == (0:Int)) then some ⟨o_impl_ValidPrime,(false,())⟩ else (impl_ValidPrime.l0 R N n p_2 (w64 (d_3 + (1:Int)))))) else some ⟨o_impl_ValidPrime,(true,())⟩) := (hw _ _).trans (by kernel_rfl)
theorem impl_ValidPrime.ev (R:Run) (N:Nat) (a0:Int):evFn E R sg_impl_ValidPrime pol_impl_ValidPrime F_impl_ValidPrime N [⟨yI,a0⟩] = ((callT R n_impl_within o_impl_within [⟨yI,a0⟩,⟨yI,(2:Int)⟩,⟨yI,(251:Int)⟩]).bind fun r1 => (bif (!r1.1) then some ⟨o_impl_ValidPrime,(false,())⟩ else (impl_ValidPrime.l0 R N N a0 (2:Int)))) := by kernel_rfl
/-! loop.example/g01005/impl.isRising -/
noncomputable def impl_isRising.l0 (R:Run) (N:Nat) (n:Nat) (list_1:(List Int)) (k_2:Int):Option Dv := R.w (some ⟨(.c (.d yL list_1)::(V.dead::(V.dead::(.c (.d yI k_2)::(zd 16 []))))),(zo 21 [])⟩) fun st => lC R pol_impl_isRising 2 N [1,0,1,0,0] F_impl_isRising n st (kB R pol_impl_isRising 0 (kS R pol_impl_isRising 6 N [1,1] F_impl_isRising (kTop E sg_impl_isRising F_impl_isRising)))
theorem impl_isRising.l0_succ (R:Run) (hw:R.ok) (N:Nat) (n:Nat) (list_1:(List Int)) (k_2:Int):impl_isRising.l0 R N (n + 1) list_1 k_2 = (bif (decide (k_2 < (List.length list_1:Int))) then ((idx? list_1 (w64 (k_2 - (1:Int)))).bind fun y3 => ((idx? list_1 k_2).bind fun y4 => (bif (decide ((y3,()).1 ≥ (y4,()).1)) then some ⟨o_impl_isRising,(false,())⟩ else (impl_isRising.l0 R N n list_1 (w64 (k_2 + (1:Int))))))) else some ⟨o_impl_isRising,(true,())⟩) := (hw _ _).trans (by kernel_rfl)
theorem impl_isRising.ev (R:Run) (N:Nat) (a0:(List Int)):evFn E R sg_impl_isRising pol_impl_isRising F_impl_isRising N [⟨yL,a0⟩] = (impl_isRising.l0 R N N a0 (1:Int)) := by kernel_rfl
/-! loop.example/g01005/impl.isVertex -/
theorem impl_isVertex.ev (R:Run) (N:Nat) (a0:Int):evFn E R sg_impl_isVertex pol_impl_isVertex F_impl_isVertex N [⟨yI,a0⟩] = ((callT R n_impl_within o_impl_within [⟨yI,a0⟩,⟨yI,(0:Int)⟩,⟨yI,(9:Int)⟩]).bind fun r1 => some ⟨o_impl_isVertex,(r1.1,())⟩) := by kernel_rfl
/-! loop.example/g01005/impl.ValidSimplex$1 -/
theorem impl_ValidSimplex_1.ev (R:Run) (N:Nat) (a0:Int):evFn E R sg_impl_ValidSimplex_1 pol_impl_ValidSimplex_1 F_impl_ValidSimplex_1 N [⟨yI,a0⟩] = ((callT R n_impl_isVertex o_impl_isVertex [⟨yI,a0⟩]).bind fun r1 => some ⟨o_impl_ValidSimplex_1,((!r1.1),())⟩) := by kernel_rfl
/-! slices.IndexFunc[[]int64,int64] -/
noncomputable def slices_IndexFunc_Sint64_int64_impl_ValidSimplex_1.l0 (R:Run) (N:Nat) (n:Nat) (s_1:(List Int)) (t7__2:Int) (t8__3:Int):Option Dv := R.w (some ⟨(.c (.d yL s_1)::(.c (.d (.fn n_impl_ValidSimplex_1 .nil) ())::(zd 5 (.c (.d yI t7__2)::(.c (.d yI t8__3)::(zd 10 [])))))),(zo 21 [])⟩) fun st => lC R pol_slices_IndexFunc_Sint64_int64 2 N [1,0,1,0,0] F_slices_IndexFunc_Sint64_int64 n st (kB R pol_slices_IndexFunc_Sint64_int64 0 (kS R pol_slices_IndexFunc_Sint64_int64 7 N [1,1] F_slices_IndexFunc_Sint64_int64 (kTop E sg_slices_IndexFunc_Sint64_int64 F_slices_IndexFunc_Sint64_int64)))
theorem slices_IndexFunc_Sint64_int64_impl_ValidSimplex_1.l0_succ (R:Run) (hw:R.ok) (N:Nat) (n:Nat) (s_1:(List Int)) (t7__2:Int) (t8__3:Int):slices_IndexFunc_Sint64_int64_impl_ValidSimplex_1.l0 R N (n + 1) s_1 t7__2 t8__3 = (bif (decide (t8__3 < t7__2)) then ((idx? s_1 t8__3).bind fun y4 => ((callT R n_impl_ValidSimplex_1 o_impl_ValidSimplex_1 [⟨yI,(y4,()).1⟩]).bind fun r5 => (bif r5.1 then some ⟨o_slices_IndexFunc_Sint64_int64,(t8__3,())⟩ else (slices_IndexFunc_Sint64_int64_impl_ValidSimplex_1.l0 R N n s_1 t7__2 (w64 (t8__3 + (1:Int))))))) else some ⟨o_slices_IndexFunc_Sint64_int64,((-1:Int),())⟩) := (hw _ _).trans (by kernel_rfl)
theorem slices_IndexFunc_Sint64_int64_impl_ValidSimplex_1.ev (R:Run) (N:Nat) (a0:(List Int)):evFn E R sg_slices_IndexFunc_Sint64_int64 pol_slices_IndexFunc_Sint64_int64 F_slices_IndexFunc_Sint64_int64 N [⟨yL,a0⟩,⟨(.fn n_impl_ValidSimplex_1 .nil),()⟩] = (slices_IndexFunc_Sint64_int64_impl_ValidSimplex_1.l0 R N N a0 (List.length a0:Int) (0:Int)) := by kernel_rfl
/-! slices.ContainsFunc[[]int64,int64] -/
theorem slices_ContainsFunc_Sint64_int64_impl_ValidSimplex_1.ev (R:Run) (N:Nat) (a0:(List Int)):evFn E R sg_slices_ContainsFunc_Sint64_int64 pol_slices_ContainsFunc_Sint64_int64 F_slices_ContainsFunc_Sint64_int64 N [⟨yL,a0⟩,⟨(.fn n_impl_ValidSimplex_1 .nil),()⟩] = ((callT R n_slices_IndexFunc_Sint64_int64 o_slices_IndexFunc_Sint64_int64 [⟨yL,a0⟩,⟨(.fn n_impl_ValidSimplex_1 .nil),()⟩]).bind fun r1 => some ⟨o_slices_ContainsFunc_Sint64_int64,((decide (r1.1 ≥ (0:Int))),())⟩) := by kernel_rfl
/-! loop.example/g01005/impl.ValidSimplex -/
theorem impl_ValidSimplex.ev (R:Run) (N:Nat) (a0:(List Int)):evFn E R sg_impl_ValidSimplex pol_impl_ValidSimplex F_impl_ValidSimplex N [⟨yL,a0⟩] = (bif (decide ((List.length a0:Int) ≥ (1:Int))) then (bif (decide ((List.length a0:Int) ≤ (4:Int))) then ((callT R n_impl_isRising o_impl_isRising [⟨yL,a0⟩]).bind fun r1 => (bif r1.1 then ((callT R n_slices_ContainsFunc_Sint64_int64 o_slices_ContainsFunc_Sint64_int64 [⟨yL,a0⟩,⟨(.fn n_impl_ValidSimplex_1 .nil),()⟩]).bind fun r2 => some ⟨o_impl_ValidSimplex,((!r2.1),())⟩) else some ⟨o_impl_ValidSimplex,(false,())⟩)) else some ⟨o_impl_ValidSimplex,(false,())⟩) else some ⟨o_impl_ValidSimplex,(false,())⟩) := by kernel_rfl
/-! cmp.isNaN[int] -/
theorem cmp_isNaN_int.ev (R:Run) (N:Nat) (a0:Int):evFn E R sg_cmp_isNaN_int pol_cmp_isNaN_int F_cmp_isNaN_int N [⟨yI,a0⟩] = some ⟨o_cmp_isNaN_int,((a0 != a0),())⟩ := by kernel_rfl
/-! cmp.Compare[int] -/
theorem cmp_Compare_int.ev (R:Run) (N:Nat) (a0:Int) (a1:Int):evFn E R sg_cmp_Compare_int pol_cmp_Compare_int F_cmp_Compare_int N [⟨yI,a0⟩,⟨yI,a1⟩] = ((callT R n_cmp_isNaN_int o_cmp_isNaN_int [⟨yI,a0⟩]).bind fun r1 => ((callT R n_cmp_isNaN_int o_cmp_isNaN_int [⟨yI,a1⟩]).bind fun r2 => (bif r1.1 then (bif r2.1 then some ⟨o_cmp_Compare_int,((0:Int),())⟩ else some ⟨o_cmp_Compare_int,((-1:Int),())⟩) else (bif r2.1 then some ⟨o_cmp_Compare_int,((1:Int),())⟩ else (bif (decide (a0 < a1)) then some ⟨o_cmp_Compare_int,((-1:Int),())⟩ else (bif (decide (a0 > a1)) then some ⟨o_cmp_Compare_int,((1:Int),())⟩ else some ⟨o_cmp_Compare_int,((0:Int),())⟩)))))) := by kernel_rfl
/-! cmp.isNaN[int64] -/
theorem cmp_isNaN_int64.ev (R:Run) (N:Nat) (a0:Int):evFn E R sg_cmp_isNaN_int64 pol_cmp_isNaN_int64 F_cmp_isNaN_int64 N [⟨yI,a0⟩] = some ⟨o_cmp_isNaN_int64,((a0 != a0),())⟩ := by kernel_rfl
/-! cmp.Compare[int64] -/
theorem cmp_Compare_int64.ev (R:Run) (N:Nat) (a0:Int) (a1:Int):evFn E R sg_cmp_Compare_int64 pol_cmp_Compare_int64 F_cmp_Compare_int64 N [⟨yI,a0⟩,⟨yI,a1⟩] = ((callT R n_cmp_isNaN_int64 o_cmp_isNaN_int64 [⟨yI,a0⟩]).bind fun r1 => ((callT R n_cmp_isNaN_int64 o_cmp_isNaN_int64 [⟨yI,a1⟩]).bind fun r2 => (bif r1.1 then (bif r2.1 then some ⟨o_cmp_Compare_int64,((0:Int),())⟩ else some ⟨o_cmp_Compare_int64,((-1:Int),())⟩) else (bif r2.1 then some ⟨o_cmp_Compare_int64,((1:Int),())⟩ else (bif (decide (a0 < a1)) then some ⟨o_cmp_Compare_int64,((-1:Int),())⟩ else (bif (decide (a0 > a1)) then some ⟨o_cmp_Compare_int64,((1:Int),())⟩ else some ⟨o_cmp_Compare_int64,((0:Int),())⟩)))))) := by kernel_rfl
/-! slices.Compare[[]int64,int64] -/
noncomputable def slices_Compare_Sint64_int64.l0 (R:Run) (N:Nat) (n:Nat) (s1_1:(List Int)) (s2_2:(List Int)) (t9__3:(List Int)) (t10__4:Int) (t11__5:Int):Option Dv := R.w (some ⟨(.c (.d yL s1_1)::(.c (.d yL s2_2)::(zd 7 (.c (.d yL t9__3)::(.c (.d yI t10__4)::(.c (.d yI t11__5)::(zd 24 []))))))),(zo 38 [])⟩) fun st => lC R pol_slices_Compare_Sint64_int64 2 N [1,0,1,0,0] F_slices_Compare_Sint64_int64 n st (kB R pol_slices_Compare_Sint64_int64 0 (kS R pol_slices_Compare_Sint64_int64 11 N [1,1] F_slices_Compare_Sint64_int64 (kTop E sg_slices_Compare_Sint64_int64 F_slices_Compare_Sint64_int64)))
theorem slices_Compare_Sint64_int64.l0_succ (R:Run) (hw:R.ok) (N:Nat) (n:Nat) (s1_1:(List Int)) (s2_2:(List Int)) (t9__3:(List Int)) (t10__4:Int) (t11__5:Int):slices_Compare_Sint64_int64.l0 R N (n + 1) s1_1 s2_2 t9__3 t10__4 t11__5 = (bif (decide (t11__5 < t10__4)) then ((idx? t9__3 t11__5).bind fun y6 => (bif (decide (t11__5 ≥ (List.length s2_2:Int))) then some ⟨o_slices_Compare_Sint64_int64,((1:Int),())⟩ else ((idx? s2_2 t11__5).bind fun y7 => ((callT R n_cmp_Compare_int64 o_cmp_Compare_int64 [⟨yI,(y6,()).1⟩,⟨yI,(y7,()).1⟩]).bind fun r8 => (bif (r8.1 != (0:Int)) then some ⟨o_slices_Compare_Sint64_int64,(r8.1,())⟩ else (slices_Compare_Sint64_int64.l0 R N n s1_1 s2_2 t9__3 t10__4 (w64 (t11__5 + (1:Int))))))))) else (bif (decide ((List.length s1_1:Int) < (List.length s2_2:Int))) then some ⟨o_slices_Compare_Sint64_int64,((-1:Int),())⟩ else some ⟨o_slices_Compare_Sint64_int64,((0:Int),())⟩)) := (hw _ _).trans (by kernel_rfl)
theorem slices_Compare_Sint64_int64.ev (R:Run) (N:Nat) (a0:(List Int)) (a1:(List Int)):evFn E R sg_slices_Compare_Sint64_int64 pol_slices_Compare_Sint64_int64 F_slices_Compare_Sint64_int64 N [⟨yL,a0⟩,⟨yL,a1⟩] = (slices_Compare_Sint64_int64.l0 R N N a0 a1 a0 (List.length a0:Int) (0:Int)) := by kernel_rfl
/-! cmp.Or[int] -/
noncomputable def cmp_Or_int.l0 (R:Run) (N:Nat) (n:Nat) (zero_1:Int) (t6__2:(List Int)) (t7__3:Int) (t8__4:Int):Option Dv := R.w (some ⟨(zd 3 (.c (.d yI zero_1)::(V.dead::(V.dead::(.c (.d yL t6__2)::(.c (.d yI t7__3)::(.c (.d yI t8__4)::(zd 9 [])))))))),(zo 19 [])⟩) fun st => lC R pol_cmp_Or_int 3 N [1,1,0,1,0,0] F_cmp_Or_int n st (kB R pol_cmp_Or_int 0 (kS R pol_cmp_Or_int 8 N [1,1,1] F_cmp_Or_int (kTop E sg_cmp_Or_int F_cmp_Or_int)))
theorem cmp_Or_int.l0_succ (R:Run) (hw:R.ok) (N:Nat) (n:Nat) (zero_1:Int) (t6__2:(List Int)) (t7__3:Int) (t8__4:Int):cmp_Or_int.l0 R N (n + 1) zero_1 t6__2 t7__3 t8__4 = (bif (decide (t8__4 < t7__3)) then ((idx? t6__2 t8__4).bind fun y5 => (bif ((y5,()).1 != zero_1) then some ⟨o_cmp_Or_int,((y5,()).1,())⟩ else (cmp_Or_int.l0 R N n zero_1 t6__2 t7__3 (w64 (t8__4 + (1:Int)))))) else some ⟨o_cmp_Or_int,(zero_1,())⟩) := (hw _ _).trans (by kernel_rfl)
theorem cmp_Or_int.ev (R:Run) (N:Nat) (a0:(List Int)):evFn E R sg_cmp_Or_int pol_cmp_Or_int F_cmp_Or_int N [⟨yL,a0⟩] = (cmp_Or_int.l0 R N N (0:Int) a0 (List.length a0:Int) (0:Int)) := by kernel_rfl
/-! loop.example/g01005/impl.compareSimplices -/
theorem impl_compareSimplices.ev (R:Run) (N:Nat) (a0:(List Int)) (a1:(List Int)):evFn E R sg_impl_compareSimplices pol_impl_compareSimplices F_impl_compareSimplices N [⟨yL,a0⟩,⟨yL,a1⟩] = ((callT R n_cmp_Compare_int o_cmp_Compare_int [⟨yI,(List.length a0:Int)⟩,⟨yI,(List.length a1:Int)⟩]).bind fun r1 => ((callT R n_slices_Compare_Sint64_int64 o_slices_Compare_Sint64_int64 [⟨yL,a0⟩,⟨yL,a1⟩]).bind fun r2 => ((callT R n_cmp_Or_int o_cmp_Or_int [⟨yL,[r1.1,r2.1]⟩]).bind fun r3 => some ⟨o_impl_compareSimplices,(r3.1,())⟩))) := by kernel_rfl
/-! slices.Concat[[]int64,int64] -/
noncomputable def slices_Concat_Sint64_int64.l1 (R:Run) (N:Nat) (n:Nat) (t25__13:vK) (t26__14:Int) (t27__15:Int) (o37_16:(List Int)):Option Dv := R.w (some ⟨(zd 6 (.c (.arr 37)::(zd 18 (.c (.d yK t25__13)::(.c (.d yI t26__14)::(.c (.d yI t27__15)::(zd 8 []))))))),(zo 37 (some (.arr yI o37_16 true false false)::[]))⟩) fun st => lC R pol_slices_Concat_Sint64_int64 11 N [1,1,1,1,0,1,0,0] F_slices_Concat_Sint64_int64 n st (kB R pol_slices_Concat_Sint64_int64 2 (kS R pol_slices_Concat_Sint64_int64 15 N [1,1,1,1,1] F_slices_Concat_Sint64_int64 (kTop E sg_slices_Concat_Sint64_int64 F_slices_Concat_Sint64_int64)))
noncomputable def slices_Concat_Sint64_int64.l0 (R:Run) (N:Nat) (n:Nat) (slices_1:vK) (size_2:Int) (t9__3:vK) (t10__4:Int) (t11__5:Int):Option Dv := R.w (some ⟨(.c (.d yK slices_1)::(V.dead::(V.dead::(.c (.d yI size_2)::(zd 5 (.c (.d yK t9__3)::(.c (.d yI t10__4)::(.c (.d yI t11__5)::(zd 24 []))))))))),(zo 38 [])⟩) fun st => lC R pol_slices_Concat_Sint64_int64 3 N [1,1,0,1,0,0] F_slices_Concat_Sint64_int64 n st (kB R pol_slices_Concat_Sint64_int64 0 (kS R pol_slices_Concat_Sint64_int64 9 N [1,1,1] F_slices_Concat_Sint64_int64 (kTop E sg_slices_Concat_Sint64_int64 F_slices_Concat_Sint64_int64)))
theorem slices_Concat_Sint64_int64.l1_succ (R:Run) (hw:R.ok) (N:Nat) (n:Nat) (t25__13:vK) (t26__14:Int) (t27__15:Int) (o37_16:(List Int)):slices_Concat_Sint64_int64.l1 R N (n + 1) t25__13 t26__14 t27__15 o37_16 = (bif (decide (t27__15 < t26__14)) then ((idx? t25__13 t27__15).bind fun y17 => ((chk (decide ((List.length o37_16 + List.length (y17,()).1) * 8 ≤ 70368744177664))).bind fun _ => (slices_Concat_Sint64_int64.l1 R N n t25__13 t26__14 (w64 (t27__15 + (1:Int))) (o37_16 ++ (y17,()).1)))) else some ⟨o_slices_Concat_Sint64_int64,(o37_16,())⟩) := (hw _ _).trans (by kernel_rfl)
theorem slices_Concat_Sint64_int64.l0_succ (R:Run) (hw:R.ok) (N:Nat) (n:Nat) (slices_1:vK) (size_2:Int) (t9__3:vK) (t10__4:Int) (t11__5:Int):slices_Concat_Sint64_int64.l0 R N (n + 1) slices_1 size_2 t9__3 t10__4 t11__5 = (bif (decide (t11__5 < t10__4)) then ((idx? t9__3 t11__5).bind fun y6 => (bif (decide ((w64 (size_2 + (List.length (y6,()).1:Int))) < (0:Int))) then none else (slices_Concat_Sint64_int64.l0 R N n slices_1 (w64 (size_2 + (List.length (y6,()).1:Int))) t9__3 t10__4 (w64 (t11__5 + (1:Int)))))) else ((callT R n_slices_Grow_Sint64_int64 o_slices_Grow_Sint64_int64 [⟨yL,([]:List Int)⟩,⟨yI,size_2⟩]).bind fun r12 => (slices_Concat_Sint64_int64.l1 R N N slices_1 (List.length slices_1:Int) (0:Int) r12.1))) := (hw _ _).trans (by kernel_rfl)
theorem slices_Concat_Sint64_int64.ev (R:Run) (N:Nat) (a0:vK):evFn E R sg_slices_Concat_Sint64_int64 pol_slices_Concat_Sint64_int64 F_slices_Concat_Sint64_int64 N [⟨yK,a0⟩] = (slices_Concat_Sint64_int64.l0 R N N a0 (0:Int) a0 (List.length a0:Int) (0:Int)) := by kernel_rfl
/-! loop.example/g01005/impl.facesOf -/
noncomputable def impl_facesOf.l0 (R:Run) (N:Nat) (n:Nat) (s_1:(List Int)) (t6__2:Int) (t7__3:Int) (o24_4:vK):Option Dv := R.w (some ⟨(.c (.d yL s_1)::(V.dead::(V.dead::(.c (.arr 24)::(V.dead::(V.dead::(.c (.d yI t6__2)::(.c (.d yI t7__3)::(zd 19 []))))))))),(zo 24 (some (.arr yL o24_4 true false false)::(zo 4 [])))⟩) fun st => lC R pol_impl_facesOf 3 N [1,1,0,1,0,0] F_impl_facesOf n st (kB R pol_impl_facesOf 0 (kS R pol_impl_facesOf 8 N [1,1,1] F_impl_facesOf (kTop E sg_impl_facesOf F_impl_facesOf)))
theorem impl_facesOf.l0_succ (R:Run) (hw:R.ok) (N:Nat) (n:Nat) (s_1:(List Int)) (t6__2:Int) (t7__3:Int) (o24_4:vK):impl_facesOf.l0 R N (n + 1) s_1 t6__2 t7__3 o24_4 = (bif (decide (t7__3 < t6__2)) then (bif (decide ((List.length s_1:Int) > (1:Int))) then ((chk (decide (0 ≤ t7__3) && decide (t7__3 ≤ (List.length s_1:Int)))).bind fun _ => ((chk (decide (0 ≤ (w64 (t7__3 + (1:Int)))) && decide ((w64 (t7__3 + (1:Int))) ≤ (List.length s_1:Int)))).bind fun _ => ((callT R n_slices_Concat_Sint64_int64 o_slices_Concat_Sint64_int64 [⟨yK,[(List.take (Int.toNat t7__3) s_1),(List.drop (Int.toNat (w64 (t7__3 + (1:Int)))) s_1)]⟩]).bind fun r5 => ((chk (decide ((List.length o24_4 + List.length [r5.1]) * 24 ≤ 70368744177664))).bind fun _ => (impl_facesOf.l0 R N n s_1 t6__2 (w64 (t7__3 + (1:Int))) (o24_4 ++ [r5.1])))))) else (impl_facesOf.l0 R N n s_1 t6__2 (w64 (t7__3 + (1:Int))) o24_4)) else some ⟨o_impl_facesOf,(o24_4,())⟩) := (hw _ _).trans (by kernel_rfl)
theorem impl_facesOf.ev (R:Run) (N:Nat) (a0:(List Int)):evFn E R sg_impl_facesOf pol_impl_facesOf F_impl_facesOf N [⟨yL,a0⟩] = (impl_facesOf.l0 R N N a0 (List.length a0:Int) (0:Int) ([]:List (List Int))) := by kernel_rfl
/-! slices.BinarySearchFunc[[][]int64,[]int64,[]int64] -/
noncomputable def slices_BinarySearchFunc_SSint64_Sint64_Sint64_impl_compareSimplices.l0 (R:Run) (N:Nat) (n:Nat) (x_1:vK) (target_2:(List Int)) (n_3:Int) (i_4:Int) (j_5:Int):Option Dv := R.w (some ⟨(.c (.d yK x_1)::(.c (.d yL target_2)::(.c (.d (.fn n_impl_compareSimplices .nil) ())::(zd 5 (.c (.d yI n_3)::(.c (.d yI i_4)::(.c (.d yI j_5)::(zd 38 [])))))))),(zo 52 [])⟩) fun st => lC R pol_slices_BinarySearchFunc_SSint64_Sint64_Sint64 3 N [1,1,1,0,0,0] F_slices_BinarySearchFunc_SSint64_Sint64_Sint64 n st (kB R pol_slices_BinarySearchFunc_SSint64_Sint64_Sint64 0 (kS R pol_slices_BinarySearchFunc_SSint64_Sint64_Sint64 8 N [1,1,1,1] F_slices_BinarySearchFunc_SSint64_Sint64_Sint64 (kTop E sg_slices_BinarySearchFunc_SSint64_Sint64_Sint64 F_slices_BinarySearchFunc_SSint64_Sint64_Sint64)))
theorem slices_BinarySearchFunc_SSint64_Sint64_Sint64_impl_compareSimplices.l0_succ (R:Run) (hw:R.ok) (N:Nat) (n:Nat) (x_1:vK) (target_2:(List Int)) (n_3:Int) (i_4:Int) (j_5:Int):slices_BinarySearchFunc_SSint64_Sint64_Sint64_impl_compareSimplices.l0 R N (n + 1) x_1 target_2 n_3 i_4 j_5 = (bif (decide (i_4 < j_5)) then ((chk (decide (0 ≤ (1:Int)))).bind fun _ => ((idx? x_1 (w64 ((Int.fdiv (IntKind.wrap .u64 ((w64 (i_4 + j_5)))) (2 ^ (min (Int.toNat (1:Int)) (IntKind.bits .u64))))))).bind fun y6 => ((callT R n_impl_compareSimplices o_impl_compareSimplices [⟨yL,(y6,()).1⟩,⟨yL,target_2⟩]).bind fun r7 => (bif (decide (r7.1 < (0:Int))) then (slices_BinarySearchFunc_SSint64_Sint64_Sint64_impl_compareSimplices.l0 R N n x_1 target_2 n_3 (w64 ((w64 ((Int.fdiv (IntKind.wrap .u64 ((w64 (i_4 + j_5)))) (2 ^ (min (Int.toNat (1:Int)) (IntKind.bits .u64)))))) + (1:Int))) j_5) else (slices_BinarySearchFunc_SSint64_Sint64_Sint64_impl_compareSimplices.l0 R N n x_1 target_2 n_3 i_4 (w64 ((Int.fdiv (IntKind.wrap .u64 ((w64 (i_4 + j_5)))) (2 ^ (min (Int.toNat (1:Int)) (IntKind.bits .u64))))))))))) else (bif (decide (i_4 < n_3)) then ((idx? x_1 i_4).bind fun y18 => ((callT R n_impl_compareSimplices o_impl_compareSimplices [⟨yL,(y18,()).1⟩,⟨yL,target_2⟩]).bind fun r19 => some ⟨o_slices_BinarySearchFunc_SSint64_Sint64_Sint64,(i_4,(r19.1 == (0:Int)),())⟩)) else some ⟨o_slices_BinarySearchFunc_SSint64_Sint64_Sint64,(i_4,false,())⟩)) := (hw _ _).trans (by kernel_rfl)
theorem slices_BinarySearchFunc_SSint64_Sint64_Sint64_impl_compareSimplices.ev (R:Run) (N:Nat) (a0:vK) (a1:(List Int)):evFn E R sg_slices_BinarySearchFunc_SSint64_Sint64_Sint64 pol_slices_BinarySearchFunc_SSint64_Sint64_Sint64 F_slices_BinarySearchFunc_SSint64_Sint64_Sint64 N [⟨yK,a0⟩,⟨yL,a1⟩,⟨(.fn n_impl_compareSimplices .nil),()⟩] = (slices_BinarySearchFunc_SSint64_Sint64_Sint64_impl_compareSimplices.l0 R N N a0 a1 (List.length a0:Int) (0:Int) (List.length a0:Int)) := by kernel_rfl
/-! loop.example/g01005/impl.indexOf -/
theorem impl_indexOf.ev (R:Run) (N:Nat) (a0:vK) (a1:(List Int)):evFn E R sg_impl_indexOf pol_impl_indexOf F_impl_indexOf N [⟨yK,a0⟩,⟨yL,a1⟩] = ((callT R n_slices_BinarySearchFunc_SSint64_Sint64_Sint64 o_slices_BinarySearchFunc_SSint64_Sint64_Sint64 [⟨yK,a0⟩,⟨yL,a1⟩,⟨(.fn n_impl_compareSimplices .nil),()⟩]).bind fun r1 => (bif (!r1.2.1) then some ⟨o_impl_indexOf,((-1:Int),())⟩ else some ⟨o_impl_indexOf,(r1.1,())⟩)) := by kernel_rfl
/-! loop.example/g01005/impl.ValidComplex$1 -/
theorem impl_ValidComplex_1.ev (R:Run) (N:Nat) (a0:(List Int)) (a1:(vK × Unit)) (a2:(Int × Unit)):evFn E R sg_impl_ValidComplex_1 pol_impl_ValidComplex_1 F_impl_ValidComplex_1 N [⟨yL,a0⟩,⟨(.ptr (.cons yK .nil)),a1⟩,⟨(.ptr (.cons yI .nil)),a2⟩] = ((chk (decide (0 ≤ a2.1) && decide (a2.1 ≤ (List.length a1.1:Int)))).bind fun _ => ((callT R n_impl_indexOf o_impl_indexOf [⟨yK,(List.take (Int.toNat a2.1) a1.1)⟩,⟨yL,a0⟩]).bind fun r1 => some ⟨o_impl_ValidComplex_1,((decide (r1.1 < (0:Int))),())⟩)) := by kernel_rfl
/-! slices.IndexFunc[[][]int64,[]int64] -/
noncomputable def slices_IndexFunc_SSint64_Sint64_impl_ValidComplex_1.l0 (R:Run) (N:Nat) (n:Nat) (s_1:vK) (f_2:((vK × Unit) × (Int × Unit) × Unit)) (t7__3:Int) (t8__4:Int):Option Dv := R.w (some ⟨(.c (.d yK s_1)::(.c (.d (.fn n_impl_ValidComplex_1 (.cons (.ptr (.cons yK .nil)) (.cons (.ptr (.cons yI .nil)) .nil))) f_2)::(zd 5 (.c (.d yI t7__3)::(.c (.d yI t8__4)::(zd 10 [])))))),(zo 21 [])⟩) fun st => lC R pol_slices_IndexFunc_SSint64_Sint64 2 N [1,0,1,0,0] F_slices_IndexFunc_SSint64_Sint64 n st (kB R pol_slices_IndexFunc_SSint64_Sint64 0 (kS R pol_slices_IndexFunc_SSint64_Sint64 7 N [1,1] F_slices_IndexFunc_SSint64_Sint64 (kTop E sg_slices_IndexFunc_SSint64_Sint64 F_slices_IndexFunc_SSint64_Sint64)))
theorem slices_IndexFunc_SSint64_Sint64_impl_ValidComplex_1.l0_succ (R:Run) (hw:R.ok) (N:Nat) (n:Nat) (s_1:vK) (f_2:((vK × Unit) × (Int × Unit) × Unit)) (t7__3:Int) (t8__4:Int):slices_IndexFunc_SSint64_Sint64_impl_ValidComplex_1.l0 R N (n + 1) s_1 f_2 t7__3 t8__4 = (bif (decide (t8__4 < t7__3)) then ((idx? s_1 t8__4).bind fun y5 => ((callT R n_impl_ValidComplex_1 o_impl_ValidComplex_1 [⟨yL,(y5,()).1⟩,⟨(.ptr (.cons yK .nil)),f_2.1⟩,⟨(.ptr (.cons yI .nil)),f_2.2.1⟩]).bind fun r6 => (bif r6.1 then some ⟨o_slices_IndexFunc_SSint64_Sint64,(t8__4,())⟩ else (slices_IndexFunc_SSint64_Sint64_impl_ValidComplex_1.l0 R N n s_1 f_2 t7__3 (w64 (t8__4 + (1:Int))))))) else some ⟨o_slices_IndexFunc_SSint64_Sint64,((-1:Int),())⟩) := (hw _ _).trans (by kernel_rfl)
theorem slices_IndexFunc_SSint64_Sint64_impl_ValidComplex_1.ev (R:Run) (N:Nat) (a0:vK) (a1:((vK × Unit) × (Int × Unit) × Unit)):evFn E R sg_slices_IndexFunc_SSint64_Sint64 pol_slices_IndexFunc_SSint64_Sint64 F_slices_IndexFunc_SSint64_Sint64 N [⟨yK,a0⟩,⟨(.fn n_impl_ValidComplex_1 (.cons (.ptr (.cons yK .nil)) (.cons (.ptr (.cons yI .nil)) .nil))),a1⟩] = (slices_IndexFunc_SSint64_Sint64_impl_ValidComplex_1.l0 R N N a0 a1 (List.length a0:Int) (0:Int)) := by kernel_rfl
/-! slices.ContainsFunc[[][]int64,[]int64] -/
theorem slices_ContainsFunc_SSint64_Sint64_impl_ValidComplex_1.ev (R:Run) (N:Nat) (a0:vK) (a1:((vK × Unit) × (Int × Unit) × Unit)):evFn E R sg_slices_ContainsFunc_SSint64_Sint64 pol_slices_ContainsFunc_SSint64_Sint64 F_slices_ContainsFunc_SSint64_Sint64 N [⟨yK,a0⟩,⟨(.fn n_impl_ValidComplex_1 (.cons (.ptr (.cons yK .nil)) (.cons (.ptr (.cons yI .nil)) .nil))),a1⟩] = ((callT R n_slices_IndexFunc_SSint64_Sint64 o_slices_IndexFunc_SSint64_Sint64 [⟨yK,a0⟩,⟨(.fn n_impl_ValidComplex_1 (.cons (.ptr (.cons yK .nil)) (.cons (.ptr (.cons yI .nil)) .nil))),a1⟩]).bind fun r1 => some ⟨o_slices_ContainsFunc_SSint64_Sint64,((decide (r1.1 ≥ (0:Int))),())⟩) := by kernel_rfl
/-! loop.example/g01005/impl.ValidComplex -/
noncomputable def impl_ValidComplex.j1 (R:Run) (N:Nat) (n00_:Nat) (s_7:(List Int)) (t6__8:vK) (t7__9:Int) (t8__10:Int) (t30__11:Bool) (c_12:vK) (k_13:Int):Option Dv := R.w (some ⟨(V.dead::(.c (.box 1 0)::(V.dead::(.c (.box 3 0)::(.c (.d yL s_7)::(V.dead::(.c (.d yK t6__8)::(.c (.d yI t7__9)::(.c (.d yI t8__10)::(zd 21 (.c (.d .bool t30__11)::(zd 9 [])))))))))))),(none::(some (.box [.d yK c_12] true false)::(none::(some (.box [.d yI k_13] false false)::(zo 37 [])))))⟩) fun st => eC R pol_impl_ValidComplex N [1,0,1,0,0,1,1,0,0,1,0,1] F_impl_ValidComplex st (kS R pol_impl_ValidComplex 6 N [1,0,1,0,0,1,1,0,0,1,1] F_impl_ValidComplex (kB R pol_impl_ValidComplex 1 (kS R pol_impl_ValidComplex 8 N [1,0,1,0,0,1,1,1] F_impl_ValidComplex (kL R pol_impl_ValidComplex 2 N [1,0,1,0,0] F_impl_ValidComplex n00_ (kB R pol_impl_ValidComplex 0 (kS R pol_impl_ValidComplex 9 N [1,1] F_impl_ValidComplex (kTop E sg_impl_ValidComplex F_impl_ValidComplex)))))))
noncomputable def impl_ValidComplex.l0 (R:Run) (N:Nat) (n:Nat) (t6__1:vK) (t7__2:Int) (t8__3:Int) (c_4:vK):Option Dv := R.w (some ⟨(V.dead::(.c (.box 1 0)::(zd 4 (.c (.d yK t6__1)::(.c (.d yI t7__2)::(.c (.d yI t8__3)::(zd 31 []))))))),(none::(some (.box [.d yK c_4] true false)::(zo 39 [])))⟩) fun st => lC R pol_impl_ValidComplex 2 N [1,0,1,0,0] F_impl_ValidComplex n st (kB R pol_impl_ValidComplex 0 (kS R pol_impl_ValidComplex 9 N [1,1] F_impl_ValidComplex (kTop E sg_impl_ValidComplex F_impl_ValidComplex)))
theorem impl_ValidComplex.j1_eq (R:Run) (hw:R.ok) (N:Nat) (n00_:Nat) (s_7:(List Int)) (t6__8:vK) (t7__9:Int) (t8__10:Int) (t30__11:Bool) (c_12:vK) (k_13:Int):impl_ValidComplex.j1 R N n00_ s_7 t6__8 t7__9 t8__10 t30__11 c_12 k_13 = (bif t30__11 then some ⟨o_impl_ValidComplex,(false,())⟩ else ((callT R n_impl_facesOf o_impl_facesOf [⟨yL,s_7⟩]).bind fun r14 => ((callT R n_slices_ContainsFunc_SSint64_Sint64 o_slices_ContainsFunc_SSint64_Sint64 [⟨yK,r14.1⟩,⟨(.fn n_impl_ValidComplex_1 (.cons (.ptr (.cons yK .nil)) (.cons (.ptr (.cons yI .nil)) .nil))),((c_12,()),(k_13,()),())⟩]).bind fun r15 => (bif r15.1 then some ⟨o_impl_ValidComplex,(false,())⟩ else (impl_ValidComplex.l0 R N n00_ t6__8 t7__9 (w64 (t8__10 + (1:Int))) c_12))))) := (hw _ _).trans (by kernel_rfl)
theorem impl_ValidComplex.l0_succ (R:Run) (hw:R.ok) (N:Nat) (n:Nat) (t6__1:vK) (t7__2:Int) (t8__3:Int) (c_4:vK):impl_ValidComplex.l0 R N (n + 1) t6__1 t7__2 t8__3 c_4 = (bif (decide (t8__3 < t7__2)) then ((idx? t6__1 t8__3).bind fun y5 => ((callT R n_impl_ValidSimplex o_impl_ValidSimplex [⟨yL,(y5,()).1⟩]).bind fun r6 => (bif (!r6.1) then (impl_ValidComplex.j1 R N n ((y5,()).1) t6__1 t7__2 t8__3 true c_4 t8__3) else (bif (decide (t8__3 > (0:Int))) then ((idx? c_4 (w64 (t8__3 - (1:Int)))).bind fun y20 => ((callT R n_impl_compareSimplices o_impl_compareSimplices [⟨yL,(y20,()).1⟩,⟨yL,(y5,()).1⟩]).bind fun r21 => (impl_ValidComplex.j1 R N n ((y5,()).1) t6__1 t7__2 t8__3 (decide (r21.1 ≥ (0:Int))) c_4 t8__3))) else (impl_ValidComplex.j1 R N n ((y5,()).1) t6__1 t7__2 t8__3 false c_4 t8__3))))) else some ⟨o_impl_ValidComplex,((decide ((List.length c_4:Int) ≤ (48:Int))),())⟩) := (hw _ _).trans (by kernel_rfl)
theorem impl_ValidComplex.ev (R:Run) (N:Nat) (a0:vK):evFn E R sg_impl_ValidComplex pol_impl_ValidComplex F_impl_ValidComplex N [⟨yK,a0⟩] = (impl_ValidComplex.l0 R N N a0 (List.length a0:Int) (0:Int) a0) := by kernel_rfl
/-! loop.example/g01005/impl.verticesOf -/
noncomputable def impl_verticesOf.l0 (R:Run) (N:Nat) (n:Nat) (t7__1:vK) (t8__2:Int) (t9__3:Int) (o21_4:(List Int)):Option Dv := R.w (some ⟨(zd 3 (.c (.arr 21)::(zd 3 (.c (.d yK t7__1)::(.c (.d yI t8__2)::(.c (.d yI t9__3)::(zd 14 []))))))),(zo 21 (some (.arr yI o21_4 true false false)::(zo 3 [])))⟩) fun st => lC R pol_impl_verticesOf 3 N [1,1,0,1,0,0] F_impl_verticesOf n st (kB R pol_impl_verticesOf 0 (kS R pol_impl_verticesOf 8 N [1,1,1] F_impl_verticesOf (kTop E sg_impl_verticesOf F_impl_verticesOf)))
theorem impl_verticesOf.l0_succ (R:Run) (hw:R.ok) (N:Nat) (n:Nat) (t7__1:vK) (t8__2:Int) (t9__3:Int) (o21_4:(List Int)):impl_verticesOf.l0 R N (n + 1) t7__1 t8__2 t9__3 o21_4 = (bif (decide (t9__3 < t8__2)) then ((idx? t7__1 t9__3).bind fun y5 => (bif ((List.length (y5,()).1:Int) == (1:Int)) then ((idx? (y5,()).1 (0:Int)).bind fun y6 => ((chk (decide ((List.length o21_4 + List.length [(y6,()).1]) * 8 ≤ 70368744177664))).bind fun _ => (impl_verticesOf.l0 R N n t7__1 t8__2 (w64 (t9__3 + (1:Int))) (o21_4 ++ [(y6,()).1])))) else (impl_verticesOf.l0 R N n t7__1 t8__2 (w64 (t9__3 + (1:Int))) o21_4))) else some ⟨o_impl_verticesOf,(o21_4,())⟩) := (hw _ _).trans (by kernel_rfl)
theorem impl_verticesOf.ev (R:Run) (N:Nat) (a0:vK):evFn E R sg_impl_verticesOf pol_impl_verticesOf F_impl_verticesOf N [⟨yK,a0⟩] = (impl_verticesOf.l0 R N N a0 (List.length a0:Int) (0:Int) ([]:List Int)) := by kernel_rfl
/-! slices.Index[[]int64,int64] -/
noncomputable def slices_Index_Sint64_int64.l0 (R:Run) (N:Nat) (n:Nat) (s_1:(List Int)) (v_2:Int) (t7__3:Int) (t8__4:Int):Option Dv := R.w (some ⟨(.c (.d yL s_1)::(.c (.d yI v_2)::(zd 5 (.c (.d yI t7__3)::(.c (.d yI t8__4)::(zd 10 [])))))),(zo 21 [])⟩) fun st => lC R pol_slices_Index_Sint64_int64 2 N [1,0,1,0,0] F_slices_Index_Sint64_int64 n st (kB R pol_slices_Index_Sint64_int64 0 (kS R pol_slices_Index_Sint64_int64 7 N [1,1] F_slices_Index_Sint64_int64 (kTop E sg_slices_Index_Sint64_int64 F_slices_Index_Sint64_int64)))
theorem slices_Index_Sint64_int64.l0_succ (R:Run) (hw:R.ok) (N:Nat) (n:Nat) (s_1:(List Int)) (v_2:Int) (t7__3:Int) (t8__4:Int):slices_Index_Sint64_int64.l0 R N (n + 1) s_1 v_2 t7__3 t8__4 = (bif (decide (t8__4 < t7__3)) then ((idx? s_1 t8__4).bind fun y5 => (bif (v_2 == (y5,()).1) then some ⟨o_slices_Index_Sint64_int64,(t8__4,())⟩ else (slices_Index_Sint64_int64.l0 R N n s_1 v_2 t7__3 (w64 (t8__4 + (1:Int)))))) else some ⟨o_slices_Index_Sint64_int64,((-1:Int),())⟩) := (hw _ _).trans (by kernel_rfl)
theorem slices_Index_Sint64_int64.ev (R:Run) (N:Nat) (a0:(List Int)) (a1:Int):evFn E R sg_slices_Index_Sint64_int64 pol_slices_Index_Sint64_int64 F_slices_Index_Sint64_int64 N [⟨yL,a0⟩,⟨yI,a1⟩] = (slices_Index_Sint64_int64.l0 R N N a0 a1 (List.length a0:Int) (0:Int)) := by kernel_rfl
/-! loop.example/g01005/impl.imageOf -/
noncomputable def impl_imageOf.l0 (R:Run) (N:Nat) (n:Nat) (images_2:(List Int)) (vertices_3:(List Int)) (t13__4:(List Int)) (t14__5:Int) (t15__6:Int) (o27_7:(List Int)):Option Dv := R.w (some ⟨(V.dead::(.c (.d yL images_2)::(zd 5 (.c (.d yL vertices_3)::(.c (.arr 27)::(zd 4 (.c (.d yL t13__4)::(.c (.d yI t14__5)::(.c (.d yI t15__6)::(zd 17 [])))))))))),(zo 27 (some (.arr yI o27_7 true false false)::(zo 9 [])))⟩) fun st => lC R pol_impl_imageOf 4 N [1,1,1,0,1,0,0] F_impl_imageOf n st (kB R pol_impl_imageOf 0 (kS R pol_impl_imageOf 8 N [1,1,1,1] F_impl_imageOf (kTop E sg_impl_imageOf F_impl_imageOf)))
theorem impl_imageOf.l0_succ (R:Run) (hw:R.ok) (N:Nat) (n:Nat) (images_2:(List Int)) (vertices_3:(List Int)) (t13__4:(List Int)) (t14__5:Int) (t15__6:Int) (o27_7:(List Int)):impl_imageOf.l0 R N (n + 1) images_2 vertices_3 t13__4 t14__5 t15__6 o27_7 = (bif (decide (t15__6 < t14__5)) then ((idx? t13__4 t15__6).bind fun y8 => ((callT R n_slices_Index_Sint64_int64 o_slices_Index_Sint64_int64 [⟨yL,vertices_3⟩,⟨yI,(y8,()).1⟩]).bind fun r9 => ((idx? images_2 r9.1).bind fun y10 => ((chk (decide ((List.length o27_7 + List.length [(y10,()).1]) * 8 ≤ 70368744177664))).bind fun _ => (impl_imageOf.l0 R N n images_2 vertices_3 t13__4 t14__5 (w64 (t15__6 + (1:Int))) (o27_7 ++ [(y10,()).1])))))) else ((callT R n_slices_Sort_Sint64_int64 o_slices_Sort_Sint64_int64 [⟨yL,o27_7⟩]).bind fun r17 => ((callT R n_slices_Compact_Sint64_int64 o_slices_Compact_Sint64_int64 [⟨yL,r17.1⟩]).bind fun r18 => some ⟨o_impl_imageOf,(r18.1,())⟩))) := (hw _ _).trans (by kernel_rfl)
theorem impl_imageOf.ev (R:Run) (N:Nat) (a0:vK) (a1:(List Int)) (a2:(List Int)):evFn E R sg_impl_imageOf pol_impl_imageOf F_impl_imageOf N [⟨yK,a0⟩,⟨yL,a1⟩,⟨yL,a2⟩] = ((callT R n_impl_verticesOf o_impl_verticesOf [⟨yK,a0⟩]).bind fun r1 => (impl_imageOf.l0 R N N a1 r1.1 a2 (List.length a2:Int) (0:Int) ([]:List Int))) := by kernel_rfl
/-! loop.example/g01005/impl.isMap$1 -/
theorem impl_isMap_1.ev (R:Run) (N:Nat) (a0:(List Int)) (a1:(vK × Unit)) (a2:(vK × Unit)) (a3:((List Int) × Unit)):evFn E R sg_impl_isMap_1 pol_impl_isMap_1 F_impl_isMap_1 N [⟨yL,a0⟩,⟨(.ptr (.cons yK .nil)),a1⟩,⟨(.ptr (.cons yK .nil)),a2⟩,⟨(.ptr (.cons yL .nil)),a3⟩] = ((callT R n_impl_imageOf o_impl_imageOf [⟨yK,a2.1⟩,⟨yL,a3.1⟩,⟨yL,a0⟩]).bind fun r1 => ((callT R n_impl_indexOf o_impl_indexOf [⟨yK,a1.1⟩,⟨yL,r1.1⟩]).bind fun r2 => some ⟨o_impl_isMap_1,((decide (r2.1 < (0:Int))),())⟩)) := by kernel_rfl
/-! slices.IndexFunc[[][]int64,[]int64] -/
noncomputable def slices_IndexFunc_SSint64_Sint64_impl_isMap_1.l0 (R:Run) (N:Nat) (n:Nat) (s_1:vK) (f_2:((vK × Unit) × (vK × Unit) × ((List Int) × Unit) × Unit)) (t7__3:Int) (t8__4:Int):Option Dv := R.w (some ⟨(.c (.d yK s_1)::(.c (.d (.fn n_impl_isMap_1 (.cons (.ptr (.cons yK .nil)) (.cons (.ptr (.cons yK .nil)) (.cons (.ptr (.cons yL .nil)) .nil)))) f_2)::(zd 5 (.c (.d yI t7__3)::(.c (.d yI t8__4)::(zd 10 [])))))),(zo 21 [])⟩) fun st => lC R pol_slices_IndexFunc_SSint64_Sint64 2 N [1,0,1,0,0] F_slices_IndexFunc_SSint64_Sint64 n st (kB R pol_slices_IndexFunc_SSint64_Sint64 0 (kS R pol_slices_IndexFunc_SSint64_Sint64 7 N [1,1] F_slices_IndexFunc_SSint64_Sint64 (kTop E sg_slices_IndexFunc_SSint64_Sint64 F_slices_IndexFunc_SSint64_Sint64)))
theorem slices_IndexFunc_SSint64_Sint64_impl_isMap_1.l0_succ (R:Run) (hw:R.ok) (N:Nat) (n:Nat) (s_1:vK) (f_2:((vK × Unit) × (vK × Unit) × ((List Int) × Unit) × Unit)) (t7__3:Int) (t8__4:Int):slices_IndexFunc_SSint64_Sint64_impl_isMap_1.l0 R N (n + 1) s_1 f_2 t7__3 t8__4 = (bif (decide (t8__4 < t7__3)) then ((idx? s_1 t8__4).bind fun y5 => ((callT R n_impl_isMap_1 o_impl_isMap_1 [⟨yL,(y5,()).1⟩,⟨(.ptr (.cons yK .nil)),f_2.1⟩,⟨(.ptr (.cons yK .nil)),f_2.2.1⟩,⟨(.ptr (.cons yL .nil)),f_2.2.2.1⟩]).bind fun r6 => (bif r6.1 then some ⟨o_slices_IndexFunc_SSint64_Sint64,(t8__4,())⟩ else (slices_IndexFunc_SSint64_Sint64_impl_isMap_1.l0 R N n s_1 f_2 t7__3 (w64 (t8__4 + (1:Int))))))) else some ⟨o_slices_IndexFunc_SSint64_Sint64,((-1:Int),())⟩) := (hw _ _).trans (by kernel_rfl)
theorem slices_IndexFunc_SSint64_Sint64_impl_isMap_1.ev (R:Run) (N:Nat) (a0:vK) (a1:((vK × Unit) × (vK × Unit) × ((List Int) × Unit) × Unit)):evFn E R sg_slices_IndexFunc_SSint64_Sint64 pol_slices_IndexFunc_SSint64_Sint64 F_slices_IndexFunc_SSint64_Sint64 N [⟨yK,a0⟩,⟨(.fn n_impl_isMap_1 (.cons (.ptr (.cons yK .nil)) (.cons (.ptr (.cons yK .nil)) (.cons (.ptr (.cons yL .nil)) .nil)))),a1⟩] = (slices_IndexFunc_SSint64_Sint64_impl_isMap_1.l0 R N N a0 a1 (List.length a0:Int) (0:Int)) := by kernel_rfl
/-! slices.ContainsFunc[[][]int64,[]int64] -/
theorem slices_ContainsFunc_SSint64_Sint64_impl_isMap_1.ev (R:Run) (N:Nat) (a0:vK) (a1:((vK × Unit) × (vK × Unit) × ((List Int) × Unit) × Unit)):evFn E R sg_slices_ContainsFunc_SSint64_Sint64 pol_slices_ContainsFunc_SSint64_Sint64 F_slices_ContainsFunc_SSint64_Sint64 N [⟨yK,a0⟩,⟨(.fn n_impl_isMap_1 (.cons (.ptr (.cons yK .nil)) (.cons (.ptr (.cons yK .nil)) (.cons (.ptr (.cons yL .nil)) .nil)))),a1⟩] = ((callT R n_slices_IndexFunc_SSint64_Sint64 o_slices_IndexFunc_SSint64_Sint64 [⟨yK,a0⟩,⟨(.fn n_impl_isMap_1 (.cons (.ptr (.cons yK .nil)) (.cons (.ptr (.cons yK .nil)) (.cons (.ptr (.cons yL .nil)) .nil)))),a1⟩]).bind fun r1 => some ⟨o_slices_ContainsFunc_SSint64_Sint64,((decide (r1.1 ≥ (0:Int))),())⟩) := by kernel_rfl
/-! loop.example/g01005/impl.isMap -/
theorem impl_isMap.ev (R:Run) (N:Nat) (a0:vK) (a1:vK) (a2:(List Int)):evFn E R sg_impl_isMap pol_impl_isMap F_impl_isMap N [⟨yK,a0⟩,⟨yK,a1⟩,⟨yL,a2⟩] = ((callT R n_impl_verticesOf o_impl_verticesOf [⟨yK,a0⟩]).bind fun r1 => (bif ((List.length a2:Int) != (List.length r1.1:Int)) then some ⟨o_impl_isMap,(false,())⟩ else ((callT R n_slices_ContainsFunc_SSint64_Sint64 o_slices_ContainsFunc_SSint64_Sint64 [⟨yK,a0⟩,⟨(.fn n_impl_isMap_1 (.cons (.ptr (.cons yK .nil)) (.cons (.ptr (.cons yK .nil)) (.cons (.ptr (.cons yL .nil)) .nil)))),((a1,()),(a0,()),(a2,()),())⟩]).bind fun r2 => some ⟨o_impl_isMap,((!r2.1),())⟩))) := by kernel_rfl
/-! loop.example/g01005/impl.mapped -/
noncomputable def impl_mapped.j0 (R:Run) (N:Nat) (images_2:(List Int)) (t7__3:Bool) (a_4:vK) (b_5:vK):Option Dv := R.w (some ⟨(V.dead::(V.dead::(.c (.d yL images_2)::(.c (.box 3 0)::(.c (.box 4 0)::(V.dead::(V.dead::(.c (.d .bool t7__3)::(zd 14 []))))))))),(zo 3 (some (.box [.d yK a_4] false false)::(some (.box [.d yK b_5] false false)::(zo 20 []))))⟩) fun st => eC R pol_impl_mapped N [1,0,0,1] F_impl_mapped st (kB R pol_impl_mapped 0 (kS R pol_impl_mapped 5 N [1,1] F_impl_mapped (kTop E sg_impl_mapped F_impl_mapped)))
theorem impl_mapped.j0_eq (R:Run) (hw:R.ok) (N:Nat) (images_2:(List Int)) (t7__3:Bool) (a_4:vK) (b_5:vK):impl_mapped.j0 R N images_2 t7__3 a_4 b_5 = (bif t7__3 then some ⟨o_impl_mapped,((1:Int),())⟩ else ((callT R n_impl_isMap o_impl_isMap [⟨yK,a_4⟩,⟨yK,b_5⟩,⟨yL,images_2⟩]).bind fun r6 => (bif (!r6.1) then some ⟨o_impl_mapped,((7:Int),())⟩ else some ⟨o_impl_mapped,((0:Int),())⟩))) := (hw _ _).trans (by kernel_rfl)
theorem impl_mapped.ev (R:Run) (N:Nat) (a0:vK) (a1:vK) (a2:(List Int)):evFn E R sg_impl_mapped pol_impl_mapped F_impl_mapped N [⟨yK,a0⟩,⟨yK,a1⟩,⟨yL,a2⟩] = ((callT R n_impl_ValidComplex o_impl_ValidComplex [⟨yK,a0⟩]).bind fun r1 => (bif (!r1.1) then (impl_mapped.j0 R N a2 true a0 a1) else ((callT R n_impl_ValidComplex o_impl_ValidComplex [⟨yK,a1⟩]).bind fun r7 => (impl_mapped.j0 R N a2 (!r7.1) a0 a1)))) := by kernel_rfl
/-! loop.example/g01005/impl.isDimension -/
theorem impl_isDimension.ev (R:Run) (N:Nat) (a0:Int):evFn E R sg_impl_isDimension pol_impl_isDimension F_impl_isDimension N [⟨yI,a0⟩] = ((callT R n_impl_within o_impl_within [⟨yI,a0⟩,⟨yI,(0:Int)⟩,⟨yI,(3:Int)⟩]).bind fun r1 => some ⟨o_impl_isDimension,(r1.1,())⟩) := by kernel_rfl
/-! loop.example/g01005/impl.size[int64] -/
theorem impl_size_int64.ev (R:Run) (N:Nat) (a0:(List Int)):evFn E R sg_impl_size_int64 pol_impl_size_int64 F_impl_size_int64 N [⟨yL,a0⟩] = some ⟨o_impl_size_int64,((List.length a0:Int),())⟩ := by kernel_rfl
/-! loop.example/g01005/impl.simplicesOf -/
noncomputable def impl_simplicesOf.l0 (R:Run) (N:Nat) (n:Nat) (dimension_1:Int) (t9__2:vK) (t10__3:Int) (t11__4:Int) (o24_5:(List Int)):Option Dv := R.w (some ⟨(V.dead::(.c (.d yI dimension_1)::(zd 3 (.c (.arr 24)::(zd 3 (.c (.d yK t9__2)::(.c (.d yI t10__3)::(.c (.d yI t11__4)::(zd 15 []))))))))),(zo 24 (some (.arr yI o24_5 true false false)::(zo 4 [])))⟩) fun st => lC R pol_impl_simplicesOf 3 N [1,1,0,1,0,0] F_impl_simplicesOf n st (kB R pol_impl_simplicesOf 0 (kS R pol_impl_simplicesOf 8 N [1,1,1] F_impl_simplicesOf (kTop E sg_impl_simplicesOf F_impl_simplicesOf)))
theorem impl_simplicesOf.l0_succ (R:Run) (hw:R.ok) (N:Nat) (n:Nat) (dimension_1:Int) (t9__2:vK) (t10__3:Int) (t11__4:Int) (o24_5:(List Int)):impl_simplicesOf.l0 R N (n + 1) dimension_1 t9__2 t10__3 t11__4 o24_5 = (bif (decide (t11__4 < t10__3)) then ((idx? t9__2 t11__4).bind fun y6 => ((callT R n_impl_size_int64 o_impl_size_int64 [⟨yL,(y6,()).1⟩]).bind fun r7 => (bif (r7.1 == (w64 (dimension_1 + (1:Int)))) then ((chk (decide ((List.length o24_5 + List.length [t11__4]) * 8 ≤ 70368744177664))).bind fun _ => (impl_simplicesOf.l0 R N n dimension_1 t9__2 t10__3 (w64 (t11__4 + (1:Int))) (o24_5 ++ [t11__4]))) else (impl_simplicesOf.l0 R N n dimension_1 t9__2 t10__3 (w64 (t11__4 + (1:Int))) o24_5)))) else some ⟨o_impl_simplicesOf,(o24_5,())⟩) := (hw _ _).trans (by kernel_rfl)
theorem impl_simplicesOf.ev (R:Run) (N:Nat) (a0:vK) (a1:Int):evFn E R sg_impl_simplicesOf pol_impl_simplicesOf F_impl_simplicesOf N [⟨yK,a0⟩,⟨yI,a1⟩] = (impl_simplicesOf.l0 R N N a1 a0 (List.length a0:Int) (0:Int) ([]:List Int)) := by kernel_rfl
end VeT

open Go Go.Proofs Ve
set_option linter.unusedVariables false
set_option maxRecDepth 100000
namespace VeT
/-! loop.example/g01005/impl.chainMapped -/
noncomputable def impl_chainMapped.j1 (R:Run) (N:Nat) (n00_:Nat) (k_10:Int) (around_11:Int) (d_12:Int) (t49__13:Bool) (a_14:vK) (b_15:vK):Option Dv := R.w (some ⟨(zd 3 (.c (.d yI k_10)::(V.dead::(.c (.d yI around_11)::(.c (.box 6 0)::(.c (.box 7 0)::(zd 6 (.c (.d yI d_12)::(zd 34 (.c (.d .bool t49__13)::[])))))))))),(zo 6 (some (.box [.d yK a_14] false false)::(some (.box [.d yK b_15] false false)::(zo 48 []))))⟩) fun st => eC R pol_impl_chainMapped N [1,1,1,1,0,1,0,0,1,0,0,1] F_impl_chainMapped st (kB R pol_impl_chainMapped 1 (kS R pol_impl_chainMapped 10 N [1,1,1,1,0,1,0,0,1,1] F_impl_chainMapped (kL R pol_impl_chainMapped 9 N [1,1,1,1,0,1,0,0] F_impl_chainMapped n00_ (kB R pol_impl_chainMapped 0 (kS R pol_impl_chainMapped 13 N [1,1,1,1,1] F_impl_chainMapped (kTop E sg_impl_chainMapped F_impl_chainMapped))))))
noncomputable def impl_chainMapped.l0 (R:Run) (N:Nat) (n:Nat) (k_4:Int) (around_5:Int) (d_6:Int) (a_7:vK) (b_8:vK):Option Dv := R.w (some ⟨(zd 3 (.c (.d yI k_4)::(V.dead::(.c (.d yI around_5)::(.c (.box 6 0)::(.c (.box 7 0)::(zd 6 (.c (.d yI d_6)::(zd 35 []))))))))),(zo 6 (some (.box [.d yK a_7] false false)::(some (.box [.d yK b_8] false false)::(zo 48 []))))⟩) fun st => lC R pol_impl_chainMapped 9 N [1,1,1,1,0,1,0,0] F_impl_chainMapped n st (kB R pol_impl_chainMapped 0 (kS R pol_impl_chainMapped 13 N [1,1,1,1,1] F_impl_chainMapped (kTop E sg_impl_chainMapped F_impl_chainMapped)))
theorem impl_chainMapped.j1_eq (R:Run) (hw:R.ok) (N:Nat) (n00_:Nat) (k_10:Int) (around_11:Int) (d_12:Int) (t49__13:Bool) (a_14:vK) (b_15:vK):impl_chainMapped.j1 R N n00_ k_10 around_11 d_12 t49__13 a_14 b_15 = (bif t49__13 then some ⟨o_impl_chainMapped,((5:Int),())⟩ else (impl_chainMapped.l0 R N n00_ k_10 around_11 (w64 (d_12 + (1:Int))) a_14 b_15)) := (hw _ _).trans (by kernel_rfl)
theorem impl_chainMapped.l0_succ (R:Run) (hw:R.ok) (N:Nat) (n:Nat) (k_4:Int) (around_5:Int) (d_6:Int) (a_7:vK) (b_8:vK):impl_chainMapped.l0 R N (n + 1) k_4 around_5 d_6 a_7 b_8 = (bif (decide (d_6 ≤ (w64 (k_4 + around_5)))) then ((callT R n_impl_simplicesOf o_impl_simplicesOf [⟨yK,a_7⟩,⟨yI,d_6⟩]).bind fun r9 => (bif (decide ((List.length r9.1:Int) > (32:Int))) then (impl_chainMapped.j1 R N n k_4 around_5 d_6 true a_7 b_8) else ((callT R n_impl_simplicesOf o_impl_simplicesOf [⟨yK,b_8⟩,⟨yI,d_6⟩]).bind fun r21 => (impl_chainMapped.j1 R N n k_4 around_5 d_6 (decide ((List.length r21.1:Int) > (32:Int))) a_7 b_8)))) else some ⟨o_impl_chainMapped,((0:Int),())⟩) := (hw _ _).trans (by kernel_rfl)
theorem impl_chainMapped.ev (R:Run) (N:Nat) (a0:vK) (a1:vK) (a2:(List Int)) (a3:Int) (a4:Int) (a5:Int):evFn E R sg_impl_chainMapped pol_impl_chainMapped F_impl_chainMapped N [⟨yK,a0⟩,⟨yK,a1⟩,⟨yL,a2⟩,⟨yI,a3⟩,⟨yI,a4⟩,⟨yI,a5⟩] = ((callT R n_impl_ValidPrime o_impl_ValidPrime [⟨yI,a4⟩]).bind fun r1 => (bif (!r1.1) then some ⟨o_impl_chainMapped,((1:Int),())⟩ else ((callT R n_impl_mapped o_impl_mapped [⟨yK,a0⟩,⟨yK,a1⟩,⟨yL,a2⟩]).bind fun r2 => (bif (r2.1 != (0:Int)) then some ⟨o_impl_chainMapped,(r2.1,())⟩ else ((callT R n_impl_isDimension o_impl_isDimension [⟨yI,a3⟩]).bind fun r3 => (bif (!r3.1) then some ⟨o_impl_chainMapped,((2:Int),())⟩ else (impl_chainMapped.l0 R N N a3 a5 (w64 (a3 - a5)) a0 a1))))))) := by kernel_rfl
/-! loop.example/g01005/impl.zero$1 -/
theorem impl_zero_1.ev (R:Run) (N:Nat) (a0:Int) (a1:Int):evFn E R sg_impl_zero_1 pol_impl_zero_1 F_impl_zero_1 N [⟨yI,a0⟩,⟨yI,a1⟩] = some ⟨o_impl_zero_1,((0:Int),())⟩ := by kernel_rfl
/-! loop.example/g01005/impl.filled -/
noncomputable def impl_filled_impl_zero_1.l1 (R:Run) (N:Nat) (n01_:Nat) (n:Nat) (columns_11:Int) (i_12:Int) (t16__13:Int) (t17__14:Int) (t20__15:Int) (t21__16:Int) (o8_17:Int) (o8_18:Int) (o8_19:Int) (m_20:Int) (m_21:Int) (m_22:Int) (o31_23:(List Int)):Option Dv := R.w (some ⟨(V.dead::(V.dead::(.c (.d yI columns_11)::(.c (.d (.fn n_impl_zero_1 .nil) ())::(zd 4 (.c (.box 8 0)::(.c (.box 9 0)::(.c (.d yI i_12)::(zd 5 (.c (.d yI t16__13)::(.c (.d yI t17__14)::(V.dead::(V.dead::(.c (.d yI t20__15)::(.c (.d yI t21__16)::(zd 14 [])))))))))))))))),(zo 8 (some (.box [.d yI o8_17,.d yI o8_18,.d yI o8_19,.nils yI] false false)::(some (.box [.d yI m_20,.d yI m_21,.d yI m_22,.arr 31] false false)::(zo 21 (some (.arr yI o31_23 true false false)::(zo 8 []))))))⟩) fun st => lC R pol_impl_filled 6 N [1,1,0,1,0,0,1,1,0,0,1,1,0,0] F_impl_filled n st (kB R pol_impl_filled 2 (kB R pol_impl_filled 1 (kS R pol_impl_filled 10 N [1,1,0,1,0,0,1,1,1] F_impl_filled (kL R pol_impl_filled 3 N [1,1,0,1,0,0] F_impl_filled n01_ (kB R pol_impl_filled 0 (kS R pol_impl_filled 11 N [1,1,1] F_impl_filled (kTop E sg_impl_filled F_impl_filled)))))))
noncomputable def impl_filled_impl_zero_1.l0 (R:Run) (N:Nat) (n:Nat) (columns_1:Int) (t16__2:Int) (t17__3:Int) (o8_4:Int) (o8_5:Int) (o8_6:Int) (m_7:Int) (m_8:Int) (m_9:Int) (o31_10:(List Int)):Option Dv := R.w (some ⟨(V.dead::(V.dead::(.c (.d yI columns_1)::(.c (.d (.fn n_impl_zero_1 .nil) ())::(zd 4 (.c (.box 8 0)::(.c (.box 9 0)::(zd 6 (.c (.d yI t16__2)::(.c (.d yI t17__3)::(zd 18 []))))))))))),(zo 8 (some (.box [.d yI o8_4,.d yI o8_5,.d yI o8_6,.nils yI] false false)::(some (.box [.d yI m_7,.d yI m_8,.d yI m_9,.arr 31] false false)::(zo 21 (some (.arr yI o31_10 true false false)::(zo 8 []))))))⟩) fun st => lC R pol_impl_filled 3 N [1,1,0,1,0,0] F_impl_filled n st (kB R pol_impl_filled 0 (kS R pol_impl_filled 11 N [1,1,1] F_impl_filled (kTop E sg_impl_filled F_impl_filled)))
theorem impl_filled_impl_zero_1.l1_succ (R:Run) (hw:R.ok) (N:Nat) (n01_:Nat) (n:Nat) (columns_11:Int) (i_12:Int) (t16__13:Int) (t17__14:Int) (t20__15:Int) (t21__16:Int) (o8_17:Int) (o8_18:Int) (o8_19:Int) (m_20:Int) (m_21:Int) (m_22:Int) (o31_23:(List Int)):impl_filled_impl_zero_1.l1 R N n01_ (n + 1) columns_11 i_12 t16__13 t17__14 t20__15 t21__16 o8_17 o8_18 o8_19 m_20 m_21 m_22 o31_23 = (bif (decide (t21__16 < t20__15)) then ((callT R n_impl_zero_1 o_impl_zero_1 [⟨yI,i_12⟩,⟨yI,t21__16⟩]).bind fun r24 => ((chk (decide ((List.length o31_23 + List.length [r24.1]) * 8 ≤ 70368744177664))).bind fun _ => (impl_filled_impl_zero_1.l1 R N n01_ n columns_11 i_12 t16__13 t17__14 t20__15 (w64 (t21__16 + (1:Int))) o8_17 o8_18 o8_19 m_20 m_21 m_22 (o31_23 ++ [r24.1])))) else (impl_filled_impl_zero_1.l0 R N n01_ columns_11 t16__13 (w64 (t17__14 + (1:Int))) o8_17 o8_18 o8_19 m_20 m_21 m_22 o31_23)) := (hw _ _).trans (by kernel_rfl)
theorem impl_filled_impl_zero_1.l0_succ (R:Run) (hw:R.ok) (N:Nat) (n:Nat) (columns_1:Int) (t16__2:Int) (t17__3:Int) (o8_4:Int) (o8_5:Int) (o8_6:Int) (m_7:Int) (m_8:Int) (m_9:Int) (o31_10:(List Int)):impl_filled_impl_zero_1.l0 R N (n + 1) columns_1 t16__2 t17__3 o8_4 o8_5 o8_6 m_7 m_8 m_9 o31_10 = (bif (decide (t17__3 < t16__2)) then (impl_filled_impl_zero_1.l1 R N n N columns_1 t17__3 t16__2 t17__3 columns_1 (0:Int) o8_4 o8_5 o8_6 m_7 m_8 m_9 o31_10) else some ⟨o_impl_filled,(m_7,m_8,m_9,o31_10,())⟩) := (hw _ _).trans (by kernel_rfl)
theorem impl_filled_impl_zero_1.ev (R:Run) (N:Nat) (a0:Int) (a1:Int) (a2:Int):evFn E R sg_impl_filled pol_impl_filled F_impl_filled N [⟨yI,a0⟩,⟨yI,a1⟩,⟨yI,a2⟩,⟨(.fn n_impl_zero_1 .nil),()⟩] = (impl_filled_impl_zero_1.l0 R N N a2 a1 (0:Int) (0:Int) (0:Int) (0:Int) a0 a1 a2 ([]:List Int)) := by kernel_rfl
/-! loop.example/g01005/impl.zero -/
theorem impl_zero.ev (R:Run) (N:Nat) (a0:Int) (a1:Int) (a2:Int):evFn E R sg_impl_zero pol_impl_zero F_impl_zero N [⟨yI,a0⟩,⟨yI,a1⟩,⟨yI,a2⟩] = ((callT R n_impl_filled o_impl_filled [⟨yI,a0⟩,⟨yI,a1⟩,⟨yI,a2⟩,⟨(.fn n_impl_zero_1 .nil),()⟩]).bind fun r1 => some ⟨o_impl_zero,(r1.1,r1.2.1,r1.2.2.1,r1.2.2.2.1,())⟩) := by kernel_rfl
/-! loop.example/g01005/impl.inversions -/
noncomputable def impl_inversions.j2 (R:Run) (N:Nat) (n01_:Nat) (n02_:Nat) (images_25:(List Int)) (s_26:(List Int)) (count_27:Int) (w_28:Int) (t12__29:(List Int)) (t13__30:Int) (t14__31:Int) (t21__32:(List Int)) (t22__33:Int) (t23__34:Int) (t41__35:Bool) (a_36:vK):Option Dv := R.w (some ⟨(V.dead::(.c (.d yL images_25)::(.c (.d yL s_26)::(.c (.box 3 0)::(zd 3 (.c (.d yI count_27)::(V.dead::(.c (.d yI w_28)::(V.dead::(V.dead::(.c (.d yL t12__29)::(.c (.d yI t13__30)::(.c (.d yI t14__31)::(zd 6 (.c (.d yL t21__32)::(.c (.d yI t22__33)::(.c (.d yI t23__34)::(zd 17 (.c (.d .bool t41__35)::(zd 5 [])))))))))))))))))))),(zo 3 (some (.box [.d yK a_36] false false)::(zo 46 [])))⟩) fun st => eC R pol_impl_inversions N [1,1,0,1,0,0,1,1,0,0,1,1,0,0,1,1,0,0,1,1] F_impl_inversions st (kB R pol_impl_inversions 3 (kS R pol_impl_inversions 10 N [1,1,0,1,0,0,1,1,0,0,1,1,0,0,1,1,1] F_impl_inversions (kL R pol_impl_inversions 6 N [1,1,0,1,0,0,1,1,0,0,1,1,0,0] F_impl_inversions n02_ (kB R pol_impl_inversions 2 (kB R pol_impl_inversions 1 (kS R pol_impl_inversions 11 N [1,1,0,1,0,0,1,1,1] F_impl_inversions (kL R pol_impl_inversions 3 N [1,1,0,1,0,0] F_impl_inversions n01_ (kB R pol_impl_inversions 0 (kS R pol_impl_inversions 12 N [1,1,1] F_impl_inversions (kTop E sg_impl_inversions F_impl_inversions))))))))))
noncomputable def impl_inversions.l1 (R:Run) (N:Nat) (n01_:Nat) (n:Nat) (images_9:(List Int)) (s_10:(List Int)) (count_11:Int) (w_12:Int) (t12__13:(List Int)) (t13__14:Int) (t14__15:Int) (t21__16:(List Int)) (t22__17:Int) (t23__18:Int) (a_19:vK):Option Dv := R.w (some ⟨(V.dead::(.c (.d yL images_9)::(.c (.d yL s_10)::(.c (.box 3 0)::(zd 3 (.c (.d yI count_11)::(V.dead::(.c (.d yI w_12)::(V.dead::(V.dead::(.c (.d yL t12__13)::(.c (.d yI t13__14)::(.c (.d yI t14__15)::(zd 6 (.c (.d yL t21__16)::(.c (.d yI t22__17)::(.c (.d yI t23__18)::(zd 23 [])))))))))))))))))),(zo 3 (some (.box [.d yK a_19] false false)::(zo 46 [])))⟩) fun st => lC R pol_impl_inversions 6 N [1,1,0,1,0,0,1,1,0,0,1,1,0,0] F_impl_inversions n st (kB R pol_impl_inversions 2 (kB R pol_impl_inversions 1 (kS R pol_impl_inversions 11 N [1,1,0,1,0,0,1,1,1] F_impl_inversions (kL R pol_impl_inversions 3 N [1,1,0,1,0,0] F_impl_inversions n01_ (kB R pol_impl_inversions 0 (kS R pol_impl_inversions 12 N [1,1,1] F_impl_inversions (kTop E sg_impl_inversions F_impl_inversions)))))))
noncomputable def impl_inversions.l0 (R:Run) (N:Nat) (n:Nat) (images_1:(List Int)) (s_2:(List Int)) (count_3:Int) (t12__4:(List Int)) (t13__5:Int) (t14__6:Int) (a_7:vK):Option Dv := R.w (some ⟨(V.dead::(.c (.d yL images_1)::(.c (.d yL s_2)::(.c (.box 3 0)::(zd 3 (.c (.d yI count_3)::(zd 4 (.c (.d yL t12__4)::(.c (.d yI t13__5)::(.c (.d yI t14__6)::(zd 32 []))))))))))),(zo 3 (some (.box [.d yK a_7] false false)::(zo 46 [])))⟩) fun st => lC R pol_impl_inversions 3 N [1,1,0,1,0,0] F_impl_inversions n st (kB R pol_impl_inversions 0 (kS R pol_impl_inversions 12 N [1,1,1] F_impl_inversions (kTop E sg_impl_inversions F_impl_inversions)))
theorem impl_inversions.j2_eq (R:Run) (hw:R.ok) (N:Nat) (n01_:Nat) (n02_:Nat) (images_25:(List Int)) (s_26:(List Int)) (count_27:Int) (w_28:Int) (t12__29:(List Int)) (t13__30:Int) (t14__31:Int) (t21__32:(List Int)) (t22__33:Int) (t23__34:Int) (t41__35:Bool) (a_36:vK):impl_inversions.j2 R N n01_ n02_ images_25 s_26 count_27 w_28 t12__29 t13__30 t14__31 t21__32 t22__33 t23__34 t41__35 a_36 = (bif t41__35 then (impl_inversions.l1 R N n01_ n02_ images_25 s_26 (w64 (count_27 + (1:Int))) w_28 t12__29 t13__30 t14__31 t21__32 t22__33 (w64 (t23__34 + (1:Int))) a_36) else (impl_inversions.l1 R N n01_ n02_ images_25 s_26 count_27 w_28 t12__29 t13__30 t14__31 t21__32 t22__33 (w64 (t23__34 + (1:Int))) a_36)) := (hw _ _).trans (by kernel_rfl)
theorem impl_inversions.l1_succ (R:Run) (hw:R.ok) (N:Nat) (n01_:Nat) (n:Nat) (images_9:(List Int)) (s_10:(List Int)) (count_11:Int) (w_12:Int) (t12__13:(List Int)) (t13__14:Int) (t14__15:Int) (t21__16:(List Int)) (t22__17:Int) (t23__18:Int) (a_19:vK):impl_inversions.l1 R N n01_ (n + 1) images_9 s_10 count_11 w_12 t12__13 t13__14 t14__15 t21__16 t22__17 t23__18 a_19 = (bif (decide (t23__18 < t22__17)) then ((idx? t21__16 t23__18).bind fun y20 => (both (both ((callT R n_impl_imageOf o_impl_imageOf [⟨yK,a_19⟩,⟨yL,images_9⟩,⟨yL,[w_12]⟩]).bind fun r21 => ((idx? r21.1 (0:Int)).bind fun y22 => ((callT R n_impl_imageOf o_impl_imageOf [⟨yK,a_19⟩,⟨yL,images_9⟩,⟨yL,[(y20,()).1]⟩]).bind fun r23 => ((idx? r23.1 (0:Int)).bind fun y24 => (impl_inversions.j2 R N n01_ n images_9 s_10 count_11 w_12 t12__13 t13__14 t14__15 t21__16 t22__17 t23__18 (decide ((y22,()).1 < (y24,()).1)) a_19))))) ((callT R n_impl_imageOf o_impl_imageOf [⟨yK,a_19⟩,⟨yL,images_9⟩,⟨yL,[w_12]⟩]).bind fun r59 => ((idx? r59.1 (0:Int)).bind fun y60 => ((callT R n_impl_imageOf o_impl_imageOf [⟨yK,a_19⟩,⟨yL,images_9⟩,⟨yL,[(y20,()).1]⟩]).bind fun r61 => ((idx? r61.1 (0:Int)).bind fun y62 => (impl_inversions.j2 R N n01_ n images_9 s_10 count_11 w_12 t12__13 t13__14 t14__15 t21__16 t22__17 t23__18 (decide ((y60,()).1 < (y62,()).1)) a_19)))))) ((callT R n_impl_imageOf o_impl_imageOf [⟨yK,a_19⟩,⟨yL,images_9⟩,⟨yL,[w_12]⟩]).bind fun r75 => ((idx? r75.1 (0:Int)).bind fun y76 => ((callT R n_impl_imageOf o_impl_imageOf [⟨yK,a_19⟩,⟨yL,images_9⟩,⟨yL,[(y20,()).1]⟩]).bind fun r77 => ((idx? r77.1 (0:Int)).bind fun y78 => (impl_inversions.j2 R N n01_ n images_9 s_10 count_11 w_12 t12__13 t13__14 t14__15 t21__16 t22__17 t23__18 (decide ((y76,()).1 < (y78,()).1)) a_19))))))) else (impl_inversions.l0 R N n01_ images_9 s_10 count_11 t12__13 t13__14 (w64 (t14__15 + (1:Int))) a_19)) := (hw _ _).trans (by kernel_rfl)
theorem impl_inversions.l0_succ (R:Run) (hw:R.ok) (N:Nat) (n:Nat) (images_1:(List Int)) (s_2:(List Int)) (count_3:Int) (t12__4:(List Int)) (t13__5:Int) (t14__6:Int) (a_7:vK):impl_inversions.l0 R N (n + 1) images_1 s_2 count_3 t12__4 t13__5 t14__6 a_7 = (bif (decide (t14__6 < t13__5)) then ((idx? t12__4 t14__6).bind fun y8 => ((chk (decide (0 ≤ t14__6) && decide (t14__6 ≤ (List.length s_2:Int)))).bind fun _ => (impl_inversions.l1 R N n N images_1 s_2 count_3 ((y8,()).1) t12__4 t13__5 t14__6 (List.take (Int.toNat t14__6) s_2) (List.length (List.take (Int.toNat t14__6) s_2):Int) (0:Int) a_7))) else some ⟨o_impl_inversions,(count_3,())⟩) := (hw _ _).trans (by kernel_rfl)
theorem impl_inversions.ev (R:Run) (N:Nat) (a0:vK) (a1:(List Int)) (a2:(List Int)):evFn E R sg_impl_inversions pol_impl_inversions F_impl_inversions N [⟨yK,a0⟩,⟨yL,a1⟩,⟨yL,a2⟩] = (impl_inversions.l0 R N N a1 a2 (0:Int) a2 (List.length a2:Int) (0:Int) a0) := by kernel_rfl
/-! loop.example/g01005/impl.alternating -/
theorem impl_alternating.ev (R:Run) (N:Nat) (a0:Int) (a1:Int):evFn E R sg_impl_alternating pol_impl_alternating F_impl_alternating N [⟨yI,a0⟩,⟨yI,a1⟩] = (bif ((Int.tmod a0 (2:Int)) == (0:Int)) then some ⟨o_impl_alternating,((1:Int),())⟩ else some ⟨o_impl_alternating,((w64 (a1 - (1:Int))),())⟩) := by kernel_rfl
/-! loop.example/g01005/impl.chainMap -/
noncomputable def impl_chainMap.l0 (R:Run) (N:Nat) (n:Nat) (t2__6:(List Int)) (t4__7:Int) (t11__8:(List Int)) (t12__9:(List Int)) (t31__10:(List Int)) (t32__11:Int) (t33__12:Int) (o5_13:vK) (o6_14:vK) (o10_15:Int) (o10_16:Int) (o10_17:Int) (o13_18:Int) (o13_19:Int) (o13_20:Int) (o79_21:(List Int)):Option Dv := R.w (some ⟨(V.dead::(V.dead::(.c (.d yL t2__6)::(V.dead::(.c (.d yI t4__7)::(.c (.box 5 0)::(.c (.box 6 0)::(zd 3 (.c (.box 10 0)::(.c (.d yL t11__8)::(.c (.d yL t12__9)::(.c (.box 13 0)::(zd 17 (.c (.d yL t31__10)::(.c (.d yI t32__11)::(.c (.d yI t33__12)::(zd 40 []))))))))))))))))),(zo 5 (some (.box [.d yK o5_13] false false)::(some (.box [.d yK o6_14] false false)::(zo 3 (some (.box [.d yI o10_15,.d yI o10_16,.d yI o10_17,.nils yI] false false)::(none::(none::(some (.box [.d yI o13_18,.d yI o13_19,.d yI o13_20,.arr 79] false false)::(zo 65 (some (.arr yI o79_21 true false false)::[]))))))))))⟩) fun st => lC R pol_impl_chainMap 4 N [1,1,1,0,1,0,0] F_impl_chainMap n st (kB R pol_impl_chainMap 0 (kS R pol_impl_chainMap 12 N [1,1,1,1] F_impl_chainMap (kTop E sg_impl_chainMap F_impl_chainMap)))
theorem impl_chainMap.l0_succ (R:Run) (hw:R.ok) (N:Nat) (n:Nat) (t2__6:(List Int)) (t4__7:Int) (t11__8:(List Int)) (t12__9:(List Int)) (t31__10:(List Int)) (t32__11:Int) (t33__12:Int) (o5_13:vK) (o6_14:vK) (o10_15:Int) (o10_16:Int) (o10_17:Int) (o13_18:Int) (o13_19:Int) (o13_20:Int) (o79_21:(List Int)):impl_chainMap.l0 R N (n + 1) t2__6 t4__7 t11__8 t12__9 t31__10 t32__11 t33__12 o5_13 o6_14 o10_15 o10_16 o10_17 o13_18 o13_19 o13_20 o79_21 = (bif (decide (t33__12 < t32__11)) then ((idx? t31__10 t33__12).bind fun y22 => ((idx? o5_13 (y22,()).1).bind fun y23 => ((callT R n_impl_imageOf o_impl_imageOf [⟨yK,o5_13⟩,⟨yL,t2__6⟩,⟨yL,(y23,()).1⟩]).bind fun r24 => (bif ((List.length r24.1:Int) == (List.length (y23,()).1:Int)) then ((callT R n_impl_indexOf o_impl_indexOf [⟨yK,o6_14⟩,⟨yL,r24.1⟩]).bind fun r25 => ((callT R n_slices_Index_Sint64_int64 o_slices_Index_Sint64_int64 [⟨yL,t12__9⟩,⟨yI,r25.1⟩]).bind fun r26 => ((callT R n_impl_inversions o_impl_inversions [⟨yK,o5_13⟩,⟨yL,t2__6⟩,⟨yL,(y23,()).1⟩]).bind fun r27 => ((callT R n_impl_alternating o_impl_alternating [⟨yI,r27.1⟩,⟨yI,t4__7⟩]).bind fun r28 => ((chk (decide (0 ≤ (w64 ((w64 (r26.1 * (List.length t11__8:Int))) + t33__12))) && decide ((w64 ((w64 (r26.1 * (List.length t11__8:Int))) + t33__12)) < (List.length o79_21:Int)))).bind fun _ => (impl_chainMap.l0 R N n t2__6 t4__7 t11__8 t12__9 t31__10 t32__11 (w64 (t33__12 + (1:Int))) o5_13 o6_14 o10_15 o10_16 o10_17 o13_18 o13_19 o13_20 (List.set o79_21 (Int.toNat (w64 ((w64 (r26.1 * (List.length t11__8:Int))) + t33__12))) r28.1))))))) else (impl_chainMap.l0 R N n t2__6 t4__7 t11__8 t12__9 t31__10 t32__11 (w64 (t33__12 + (1:Int))) o5_13 o6_14 o10_15 o10_16 o10_17 o13_18 o13_19 o13_20 o79_21))))) else some ⟨o_impl_chainMap,(o13_18,o13_19,o13_20,o79_21,())⟩) := (hw _ _).trans (by kernel_rfl)
theorem impl_chainMap.ev (R:Run) (N:Nat) (a0:vK) (a1:vK) (a2:(List Int)) (a3:Int) (a4:Int):evFn E R sg_impl_chainMap pol_impl_chainMap F_impl_chainMap N [⟨yK,a0⟩,⟨yK,a1⟩,⟨yL,a2⟩,⟨yI,a3⟩,⟨yI,a4⟩] = ((callT R n_impl_simplicesOf o_impl_simplicesOf [⟨yK,a0⟩,⟨yI,a3⟩]).bind fun r1 => ((callT R n_impl_simplicesOf o_impl_simplicesOf [⟨yK,a1⟩,⟨yI,a3⟩]).bind fun r2 => ((callT R n_impl_size_int64 o_impl_size_int64 [⟨yL,r2.1⟩]).bind fun r3 => ((callT R n_impl_size_int64 o_impl_size_int64 [⟨yL,r1.1⟩]).bind fun r4 => ((callT R n_impl_zero o_impl_zero [⟨yI,a4⟩,⟨yI,r3.1⟩,⟨yI,r4.1⟩]).bind fun r5 => (impl_chainMap.l0 R N N a2 a4 r1.1 r2.1 r1.1 (List.length r1.1:Int) (0:Int) a0 a1 (0:Int) (0:Int) (0:Int) r5.1 r5.2.1 r5.2.2.1 r5.2.2.2.1)))))) := by kernel_rfl
/-! loop.example/g01005/impl.ChainMap -/
theorem impl_ChainMap.ev (R:Run) (N:Nat) (a0:vK) (a1:vK) (a2:(List Int)) (a3:Int) (a4:Int):evFn E R sg_impl_ChainMap pol_impl_ChainMap F_impl_ChainMap N [⟨yK,a0⟩,⟨yK,a1⟩,⟨yL,a2⟩,⟨yI,a3⟩,⟨yI,a4⟩] = ((callT R n_impl_chainMapped o_impl_chainMapped [⟨yK,a0⟩,⟨yK,a1⟩,⟨yL,a2⟩,⟨yI,a3⟩,⟨yI,a4⟩,⟨yI,(0:Int)⟩]).bind fun r1 => (bif (r1.1 != (0:Int)) then some ⟨o_impl_ChainMap,((0:Int),(0:Int),(0:Int),([]:List Int),r1.1,())⟩ else ((callT R n_impl_chainMap o_impl_chainMap [⟨yK,a0⟩,⟨yK,a1⟩,⟨yL,a2⟩,⟨yI,a3⟩,⟨yI,a4⟩]).bind fun r2 => some ⟨o_impl_ChainMap,(r2.1,r2.2.1,r2.2.2.1,r2.2.2.2.1,(0:Int),())⟩))) := by kernel_rfl
/-! loop.example/g01005/laws.eqInt64S -/
noncomputable def laws_eqInt64S.l0 (R:Run) (N:Nat) (n:Nat) (a_1:(List Int)) (b_2:(List Int)) (i_3:Int):Option Dv := R.w (some ⟨(.c (.d yL a_1)::(.c (.d yL b_2)::(zd 3 (.c (.d yI i_3)::(zd 20 []))))),(zo 28 [])⟩) fun st => lC R pol_laws_eqInt64S 4 N [1,1,0,1,0,0] F_laws_eqInt64S n st (kB R pol_laws_eqInt64S 0 (kS R pol_laws_eqInt64S 8 N [1,1,1] F_laws_eqInt64S (kTop E sg_laws_eqInt64S F_laws_eqInt64S)))
theorem laws_eqInt64S.l0_succ (R:Run) (hw:R.ok) (N:Nat) (n:Nat) (a_1:(List Int)) (b_2:(List Int)) (i_3:Int):laws_eqInt64S.l0 R N (n + 1) a_1 b_2 i_3 = (bif (decide (i_3 < (List.length a_1:Int))) then ((idx? a_1 i_3).bind fun y4 => ((idx? b_2 i_3).bind fun y5 => (bif ((y4,()).1 != (y5,()).1) then some ⟨o_laws_eqInt64S,(false,())⟩ else (laws_eqInt64S.l0 R N n a_1 b_2 (w64 (i_3 + (1:Int))))))) else some ⟨o_laws_eqInt64S,(true,())⟩) := (hw _ _).trans (by kernel_rfl)
theorem laws_eqInt64S.ev (R:Run) (N:Nat) (a0:(List Int)) (a1:(List Int)):evFn E R sg_laws_eqInt64S pol_laws_eqInt64S F_laws_eqInt64S N [⟨yL,a0⟩,⟨yL,a1⟩] = (bif ((List.length a0:Int) != (List.length a1:Int)) then some ⟨o_laws_eqInt64S,(false,())⟩ else (laws_eqInt64S.l0 R N N a0 a1 (0:Int))) := by kernel_rfl
/-! loop.example/g01005/laws.eqMatrix -/
theorem laws_eqMatrix.ev (R:Run) (N:Nat) (a0:Int) (a1:Int) (a2:Int) (a3:(List Int)) (a4:Int) (a5:Int) (a6:Int) (a7:(List Int)):evFn E R sg_laws_eqMatrix pol_laws_eqMatrix F_laws_eqMatrix N [⟨yI,a0⟩,⟨yI,a1⟩,⟨yI,a2⟩,⟨yL,a3⟩,⟨yI,a4⟩,⟨yI,a5⟩,⟨yI,a6⟩,⟨yL,a7⟩] = (bif (a0 != a4) then some ⟨o_laws_eqMatrix,(false,())⟩ else (bif (a1 != a5) then some ⟨o_laws_eqMatrix,(false,())⟩ else (bif (a2 != a6) then some ⟨o_laws_eqMatrix,(false,())⟩ else ((callT R n_laws_eqInt64S o_laws_eqInt64S [⟨yL,a3⟩,⟨yL,a7⟩]).bind fun r1 => (bif (!r1.1) then some ⟨o_laws_eqMatrix,(false,())⟩ else some ⟨o_laws_eqMatrix,(true,())⟩))))) := by kernel_rfl
/-! loop.example/g01005/laws.eqInt64SS -/
noncomputable def laws_eqInt64SS.l0 (R:Run) (N:Nat) (n:Nat) (a_1:vK) (b_2:vK) (i_3:Int):Option Dv := R.w (some ⟨(.c (.d yK a_1)::(.c (.d yK b_2)::(zd 3 (.c (.d yI i_3)::(zd 21 []))))),(zo 29 [])⟩) fun st => lC R pol_laws_eqInt64SS 4 N [1,1,0,1,0,0] F_laws_eqInt64SS n st (kB R pol_laws_eqInt64SS 0 (kS R pol_laws_eqInt64SS 8 N [1,1,1] F_laws_eqInt64SS (kTop E sg_laws_eqInt64SS F_laws_eqInt64SS)))
theorem laws_eqInt64SS.l0_succ (R:Run) (hw:R.ok) (N:Nat) (n:Nat) (a_1:vK) (b_2:vK) (i_3:Int):laws_eqInt64SS.l0 R N (n + 1) a_1 b_2 i_3 = (bif (decide (i_3 < (List.length a_1:Int))) then ((idx? a_1 i_3).bind fun y4 => ((idx? b_2 i_3).bind fun y5 => ((callT R n_laws_eqInt64S o_laws_eqInt64S [⟨yL,(y4,()).1⟩,⟨yL,(y5,()).1⟩]).bind fun r6 => (bif (!r6.1) then some ⟨o_laws_eqInt64SS,(false,())⟩ else (laws_eqInt64SS.l0 R N n a_1 b_2 (w64 (i_3 + (1:Int)))))))) else some ⟨o_laws_eqInt64SS,(true,())⟩) := (hw _ _).trans (by kernel_rfl)
theorem laws_eqInt64SS.ev (R:Run) (N:Nat) (a0:vK) (a1:vK):evFn E R sg_laws_eqInt64SS pol_laws_eqInt64SS F_laws_eqInt64SS N [⟨yK,a0⟩,⟨yK,a1⟩] = (bif ((List.length a0:Int) != (List.length a1:Int)) then some ⟨o_laws_eqInt64SS,(false,())⟩ else (laws_eqInt64SS.l0 R N N a0 a1 (0:Int))) := by kernel_rfl
/-! loop.example/g01005/laws.eqComplex -/
theorem laws_eqComplex.ev (R:Run) (N:Nat) (a0:vK) (a1:vK):evFn E R sg_laws_eqComplex pol_laws_eqComplex F_laws_eqComplex N [⟨yK,a0⟩,⟨yK,a1⟩] = ((callT R n_laws_eqInt64SS o_laws_eqInt64SS [⟨yK,a0⟩,⟨yK,a1⟩]).bind fun r1 => (bif (!r1.1) then some ⟨o_laws_eqComplex,(false,())⟩ else some ⟨o_laws_eqComplex,(true,())⟩)) := by kernel_rfl
/-! loop.example/g01005/laws.markInt64S -/
noncomputable def laws_markInt64S.l0 (R:Run) (N:Nat) (n:Nat) (k_1:Int) (i_2:Int) (o19_3:(List Int)):Option Dv := R.w (some ⟨(.c (.arr 19)::(.c (.d yI k_1)::(zd 3 (.c (.d yI i_2)::(zd 13 []))))),(zo 19 (some (.arr yI o19_3 true false true)::(none::[])))⟩) fun st => lC R pol_laws_markInt64S 2 N [1,0,1,0,0] F_laws_markInt64S n st (kB R pol_laws_markInt64S 0 (kS R pol_laws_markInt64S 6 N [1,1] F_laws_markInt64S (kTop E sg_laws_markInt64S F_laws_markInt64S)))
theorem laws_markInt64S.l0_succ (R:Run) (hw:R.ok) (N:Nat) (n:Nat) (k_1:Int) (i_2:Int) (o19_3:(List Int)):laws_markInt64S.l0 R N (n + 1) k_1 i_2 o19_3 = (bif (decide (i_2 < (List.length o19_3:Int))) then ((chk (decide (0 ≤ i_2) && decide (i_2 < (List.length o19_3:Int)))).bind fun _ => (laws_markInt64S.l0 R N n (w64 (k_1 + (1:Int))) (w64 (i_2 + (1:Int))) (List.set o19_3 (Int.toNat i_2) k_1))) else some ⟨o_laws_markInt64S,(k_1,o19_3,())⟩) := (hw _ _).trans (by kernel_rfl)
theorem laws_markInt64S.ev (R:Run) (N:Nat) (a0:(List Int)) (a1:Int):evFn E R sg_laws_markInt64S pol_laws_markInt64S F_laws_markInt64S N [⟨yL,a0⟩,⟨yI,a1⟩] = (laws_markInt64S.l0 R N N a1 (0:Int) a0) := by kernel_rfl
/-! loop.example/g01005/laws.markComplex -/
theorem laws_markComplex.ev (R:Run) (N:Nat) (a0:vK) (a1:Int):evFn E R sg_laws_markComplex pol_laws_markComplex F_laws_markComplex N [⟨yK,a0⟩,⟨yI,a1⟩] = ((callT R n_laws_markInt64SS o_laws_markInt64SS [⟨yK,a0⟩,⟨yI,a1⟩]).bind fun r1 => some ⟨o_laws_markComplex,(r1.1,r1.2.1,())⟩) := by kernel_rfl
/-! loop.example/g01005/laws.markMatrix -/
theorem laws_markMatrix.ev (R:Run) (N:Nat) (a0:Int) (a1:Int) (a2:Int) (a3:(List Int)) (a4:Int):evFn E R sg_laws_markMatrix pol_laws_markMatrix F_laws_markMatrix N [⟨yI,a0⟩,⟨yI,a1⟩,⟨yI,a2⟩,⟨yL,a3⟩,⟨yI,a4⟩] = ((callT R n_laws_markInt64S o_laws_markInt64S [⟨yL,a3⟩,⟨yI,a4⟩]).bind fun r1 => some ⟨o_laws_markMatrix,(r1.1,r1.2.1,())⟩) := by kernel_rfl
/-! loop.example/g01005/laws.heldInt64S -/
noncomputable def laws_heldInt64S.l0 (R:Run) (N:Nat) (n:Nat) (a_1:(List Int)) (k_2:Int) (i_3:Int):Option Dv := R.w (some ⟨(.c (.d yL a_1)::(.c (.d yI k_2)::(zd 3 (.c (.d yI i_3)::(zd 15 []))))),(zo 23 [])⟩) fun st => lC R pol_laws_heldInt64S 2 N [1,0,1,0,0] F_laws_heldInt64S n st (kB R pol_laws_heldInt64S 0 (kS R pol_laws_heldInt64S 7 N [1,1] F_laws_heldInt64S (kTop E sg_laws_heldInt64S F_laws_heldInt64S)))
theorem laws_heldInt64S.l0_succ (R:Run) (hw:R.ok) (N:Nat) (n:Nat) (a_1:(List Int)) (k_2:Int) (i_3:Int):laws_heldInt64S.l0 R N (n + 1) a_1 k_2 i_3 = (bif (decide (i_3 < (List.length a_1:Int))) then ((idx? a_1 i_3).bind fun y4 => (bif ((y4,()).1 != k_2) then some ⟨o_laws_heldInt64S,((-1:Int),())⟩ else (laws_heldInt64S.l0 R N n a_1 (w64 (k_2 + (1:Int))) (w64 (i_3 + (1:Int)))))) else some ⟨o_laws_heldInt64S,(k_2,())⟩) := (hw _ _).trans (by kernel_rfl)
theorem laws_heldInt64S.ev (R:Run) (N:Nat) (a0:(List Int)) (a1:Int):evFn E R sg_laws_heldInt64S pol_laws_heldInt64S F_laws_heldInt64S N [⟨yL,a0⟩,⟨yI,a1⟩] = (laws_heldInt64S.l0 R N N a0 a1 (0:Int)) := by kernel_rfl
/-! loop.example/g01005/laws.heldMatrix -/
theorem laws_heldMatrix.ev (R:Run) (N:Nat) (a0:Int) (a1:Int) (a2:Int) (a3:(List Int)) (a4:Int):evFn E R sg_laws_heldMatrix pol_laws_heldMatrix F_laws_heldMatrix N [⟨yI,a0⟩,⟨yI,a1⟩,⟨yI,a2⟩,⟨yL,a3⟩,⟨yI,a4⟩] = ((callT R n_laws_heldInt64S o_laws_heldInt64S [⟨yL,a3⟩,⟨yI,a4⟩]).bind fun r1 => (bif (decide (r1.1 < (0:Int))) then some ⟨o_laws_heldMatrix,((-1:Int),())⟩ else some ⟨o_laws_heldMatrix,(r1.1,())⟩)) := by kernel_rfl
/-! loop.example/g01005/laws.FnExactChainMap -/
noncomputable def laws_FnExactChainMap.j4 (R:Run) (N:Nat) (t20__87:Int) (t141__88:Bool) (o17_89:Int) (o17_90:Int) (o17_91:Int) (o158_92:(List Int)):Option Dv := R.w (some ⟨(zd 17 (.c (.box 17 0)::(V.dead::(V.dead::(.c (.d yI t20__87)::(zd 120 (.c (.d .bool t141__88)::(zd 8 [])))))))),(zo 17 (some (.box [.d yI o17_89,.d yI o17_90,.d yI o17_91,.arr 158] false false)::(zo 140 (some (.arr yI o158_92 true false false)::[]))))⟩) fun st => eC R pol_laws_FnExactChainMap N [1,1,1,1,1,1,1,1,1,1,1,1,1,1,1,1,1,1,1,1,1,1,1,1,1,1,1,1,0,1] F_laws_FnExactChainMap st (kS R pol_laws_FnExactChainMap 40 N [1,1,1,1,1,1,1,1,1,1,1,1,1,1,1,1,1,1,1,1,1,1,1,1,1,1,1,1,1] F_laws_FnExactChainMap (kTop E sg_laws_FnExactChainMap F_laws_FnExactChainMap))
noncomputable def laws_FnExactChainMap.j3 (R:Run) (N:Nat) (t13__71:Int) (t20__72:Int) (t23__73:Int) (o12_74:Int) (o12_75:Int) (o12_76:Int) (o12_77:(List Int)) (o17_78:Int) (o17_79:Int) (o17_80:Int) (o22_81:Int) (o22_82:Int) (o22_83:Int) (o22_84:(List Int)) (o158_85:(List Int)):Option Dv := R.w (some ⟨(zd 12 (.c (.box 12 0)::(.c (.d yI t13__71)::(zd 3 (.c (.box 17 0)::(V.dead::(V.dead::(.c (.d yI t20__72)::(V.dead::(.c (.box 22 0)::(.c (.d yI t23__73)::(zd 126 [])))))))))))),(zo 12 (some (.box [.d yI o12_74,.d yI o12_75,.d yI o12_76,.d yL o12_77] false false)::(zo 4 (some (.box [.d yI o17_78,.d yI o17_79,.d yI o17_80,.arr 158] false false)::(zo 4 (some (.box [.d yI o22_81,.d yI o22_82,.d yI o22_83,.d yL o22_84] false false)::(zo 135 (some (.arr yI o158_85 true false false)::[]))))))))⟩) fun st => eC R pol_laws_FnExactChainMap N [1,1,1,1,1,1,1,1,1,1,1,1,1,1,1,1,1,1,1,1,1,1,1,1,1,1,1,1] F_laws_FnExactChainMap st (kTop E sg_laws_FnExactChainMap F_laws_FnExactChainMap)
noncomputable def laws_FnExactChainMap.j2 (R:Run) (N:Nat) (t2__50:(List Int)) (t3__51:Int) (t4__52:Int) (t13__53:Int) (t109__54:Bool) (o5_55:vK) (o6_56:vK) (o12_57:Int) (o12_58:Int) (o12_59:Int) (o12_60:(List Int)) (o17_61:Int) (o17_62:Int) (o17_63:Int) (o158_64:(List Int)):Option Dv := R.w (some ⟨(V.dead::(V.dead::(.c (.d yL t2__50)::(.c (.d yI t3__51)::(.c (.d yI t4__52)::(.c (.box 5 0)::(.c (.box 6 0)::(zd 5 (.c (.box 12 0)::(.c (.d yI t13__53)::(zd 3 (.c (.box 17 0)::(zd 91 (.c (.d .bool t109__54)::(zd 40 []))))))))))))))),(zo 5 (some (.box [.d yK o5_55] false false)::(some (.box [.d yK o6_56] false false)::(zo 5 (some (.box [.d yI o12_57,.d yI o12_58,.d yI o12_59,.d yL o12_60] false false)::(zo 4 (some (.box [.d yI o17_61,.d yI o17_62,.d yI o17_63,.arr 158] false false)::(zo 140 (some (.arr yI o158_64 true false false)::[])))))))))⟩) fun st => eC R pol_laws_FnExactChainMap N [1,1,1,1,1,1,1,1,1,1,1,1,1,1,1,1,1,1,1,1,0,1] F_laws_FnExactChainMap st (kS R pol_laws_FnExactChainMap 29 N [1,1,1,1,1,1,1,1,1,1,1,1,1,1,1,1,1,1,1,1,1] F_laws_FnExactChainMap (kTop E sg_laws_FnExactChainMap F_laws_FnExactChainMap))
noncomputable def laws_FnExactChainMap.j1 (R:Run) (N:Nat) (t2__22:(List Int)) (t3__23:Int) (t4__24:Int) (t13__25:Int) (t18__26:Int) (t72__27:Bool) (o5_28:vK) (o6_29:vK) (o12_30:Int) (o12_31:Int) (o12_32:Int) (o12_33:(List Int)) (o17_34:Int) (o17_35:Int) (o17_36:Int) (o155_37:vK) (o156_38:vK) (o157_39:(List Int)) (o158_40:(List Int)):Option Dv := R.w (some ⟨(V.dead::(V.dead::(.c (.d yL t2__22)::(.c (.d yI t3__23)::(.c (.d yI t4__24)::(.c (.box 5 0)::(.c (.box 6 0)::(zd 5 (.c (.box 12 0)::(.c (.d yI t13__25)::(.c (.box 14 0)::(.c (.box 15 0)::(.c (.arr 157)::(.c (.box 17 0)::(.c (.d yI t18__26)::(zd 53 (.c (.d .bool t72__27)::(zd 77 [])))))))))))))))))),(zo 5 (some (.box [.d yK o5_28] false false)::(some (.box [.d yK o6_29] false false)::(zo 5 (some (.box [.d yI o12_30,.d yI o12_31,.d yI o12_32,.d yL o12_33] false false)::(none::(some (.box [.arr 155] false false)::(some (.box [.arr 156] false false)::(none::(some (.box [.d yI o17_34,.d yI o17_35,.d yI o17_36,.arr 158] false false)::(zo 137 (some (.arr yL o155_37 true false false)::(some (.arr yL o156_38 true false false)::(some (.arr yI o157_39 true false false)::(some (.arr yI o158_40 true false false)::[])))))))))))))))⟩) fun st => eC R pol_laws_FnExactChainMap N [1,1,1,1,1,1,1,1,1,1,1,1,0,1] F_laws_FnExactChainMap st (kS R pol_laws_FnExactChainMap 17 N [1,1,1,1,1,1,1,1,1,1,1,1,1] F_laws_FnExactChainMap (kTop E sg_laws_FnExactChainMap F_laws_FnExactChainMap))
noncomputable def laws_FnExactChainMap.j0 (R:Run) (N:Nat) (t2__7:(List Int)) (t3__8:Int) (t4__9:Int) (t13__10:Int) (o5_11:vK) (o6_12:vK) (o12_13:Int) (o12_14:Int) (o12_15:Int) (o12_16:(List Int)):Option Dv := R.w (some ⟨(V.dead::(V.dead::(.c (.d yL t2__7)::(.c (.d yI t3__8)::(.c (.d yI t4__9)::(.c (.box 5 0)::(.c (.box 6 0)::(zd 5 (.c (.box 12 0)::(.c (.d yI t13__10)::(zd 136 []))))))))))),(zo 5 (some (.box [.d yK o5_11] false false)::(some (.box [.d yK o6_12] false false)::(zo 5 (some (.box [.d yI o12_13,.d yI o12_14,.d yI o12_15,.d yL o12_16] false false)::(zo 146 []))))))⟩) fun st => eC R pol_laws_FnExactChainMap N [1,1,1,1,1,1,1,1] F_laws_FnExactChainMap st (kTop E sg_laws_FnExactChainMap F_laws_FnExactChainMap)
theorem laws_FnExactChainMap.j4_eq (R:Run) (hw:R.ok) (N:Nat) (t20__87:Int) (t141__88:Bool) (o17_89:Int) (o17_90:Int) (o17_91:Int) (o158_92:(List Int)):laws_FnExactChainMap.j4 R N t20__87 t141__88 o17_89 o17_90 o17_91 o158_92 = (bif t141__88 then some ⟨o_laws_FnExactChainMap,(false,())⟩ else ((callT R n_laws_heldMatrix o_laws_heldMatrix [⟨yI,o17_89⟩,⟨yI,o17_90⟩,⟨yI,o17_91⟩,⟨yL,o158_92⟩,⟨yI,(1:Int)⟩]).bind fun r93 => (bif (decide (r93.1 < (0:Int))) then some ⟨o_laws_FnExactChainMap,(false,())⟩ else (bif (r93.1 != t20__87) then some ⟨o_laws_FnExactChainMap,(false,())⟩ else some ⟨o_laws_FnExactChainMap,(true,())⟩)))) := (hw _ _).trans (by kernel_rfl)
theorem laws_FnExactChainMap.j3_eq (R:Run) (hw:R.ok) (N:Nat) (t13__71:Int) (t20__72:Int) (t23__73:Int) (o12_74:Int) (o12_75:Int) (o12_76:Int) (o12_77:(List Int)) (o17_78:Int) (o17_79:Int) (o17_80:Int) (o22_81:Int) (o22_82:Int) (o22_83:Int) (o22_84:(List Int)) (o158_85:(List Int)):laws_FnExactChainMap.j3 R N t13__71 t20__72 t23__73 o12_74 o12_75 o12_76 o12_77 o17_78 o17_79 o17_80 o22_81 o22_82 o22_83 o22_84 o158_85 = ((callT R n_laws_eqMatrix o_laws_eqMatrix [⟨yI,o22_81⟩,⟨yI,o22_82⟩,⟨yI,o22_83⟩,⟨yL,o22_84⟩,⟨yI,o12_74⟩,⟨yI,o12_75⟩,⟨yI,o12_76⟩,⟨yL,o12_77⟩]).bind fun r86 => (bif (!r86.1) then (laws_FnExactChainMap.j4 R N t20__72 true o17_78 o17_79 o17_80 o158_85) else (laws_FnExactChainMap.j4 R N t20__72 (t23__73 != t13__71) o17_78 o17_79 o17_80 o158_85))) := (hw _ _).trans (by kernel_rfl)
theorem laws_FnExactChainMap.j2_eq (R:Run) (hw:R.ok) (N:Nat) (t2__50:(List Int)) (t3__51:Int) (t4__52:Int) (t13__53:Int) (t109__54:Bool) (o5_55:vK) (o6_56:vK) (o12_57:Int) (o12_58:Int) (o12_59:Int) (o12_60:(List Int)) (o17_61:Int) (o17_62:Int) (o17_63:Int) (o158_64:(List Int)):laws_FnExactChainMap.j2 R N t2__50 t3__51 t4__52 t13__53 t109__54 o5_55 o6_56 o12_57 o12_58 o12_59 o12_60 o17_61 o17_62 o17_63 o158_64 = (bif t109__54 then some ⟨o_laws_FnExactChainMap,(false,())⟩ else ((callT R n_laws_markMatrix o_laws_markMatrix [⟨yI,o17_61⟩,⟨yI,o17_62⟩,⟨yI,o17_63⟩,⟨yL,o158_64⟩,⟨yI,(1:Int)⟩]).bind fun r65 => ((callT R n_laws_heldMatrix o_laws_heldMatrix [⟨yI,o17_61⟩,⟨yI,o17_62⟩,⟨yI,o17_63⟩,⟨yL,r65.2.1⟩,⟨yI,(1:Int)⟩]).bind fun r66 => (bif (decide (r66.1 < (0:Int))) then some ⟨o_laws_FnExactChainMap,(false,())⟩ else (bif (r66.1 != r65.1) then some ⟨o_laws_FnExactChainMap,(false,())⟩ else (both ((callT R n_laws_toComplex o_laws_toComplex [⟨yK,o5_55⟩]).bind fun r67 => (both ((callT R n_laws_toComplex o_laws_toComplex [⟨yK,o6_56⟩]).bind fun r68 => (both ((callT R n_laws_toInt64S o_laws_toInt64S [⟨yL,t2__50⟩]).bind fun r69 => (both ((callT R n_impl_ChainMap o_impl_ChainMap [⟨yK,r67.1⟩,⟨yK,r68.1⟩,⟨yL,r69.1⟩,⟨yI,t3__51⟩,⟨yI,t4__52⟩]).bind fun r70 => (laws_FnExactChainMap.j3 R N t13__53 r65.1 r70.2.2.2.2.1 o12_57 o12_58 o12_59 o12_60 o17_61 o17_62 o17_63 r70.1 r70.2.1 r70.2.2.1 r70.2.2.2.1 r65.2.1)) ((callT R n_impl_ChainMap o_impl_ChainMap [⟨yK,r67.1⟩,⟨yK,r68.1⟩,⟨yL,r69.1⟩,⟨yI,t3__51⟩,⟨yI,t4__52⟩]).bind fun r100 => (laws_FnExactChainMap.j3 R N t13__53 r65.1 r100.2.2.2.2.1 o12_57 o12_58 o12_59 o12_60 o17_61 o17_62 o17_63 r100.1 r100.2.1 r100.2.2.1 r100.2.2.2.1 r65.2.1)))) ((callT R n_laws_toInt64S o_laws_toInt64S [⟨yL,t2__50⟩]).bind fun r116 => ((callT R n_impl_ChainMap o_impl_ChainMap [⟨yK,r67.1⟩,⟨yK,r68.1⟩,⟨yL,r116.1⟩,⟨yI,t3__51⟩,⟨yI,t4__52⟩]).bind fun r117 => (laws_FnExactChainMap.j3 R N t13__53 r65.1 r117.2.2.2.2.1 o12_57 o12_58 o12_59 o12_60 o17_61 o17_62 o17_63 r117.1 r117.2.1 r117.2.2.1 r117.2.2.2.1 r65.2.1))))) ((callT R n_laws_toComplex o_laws_toComplex [⟨yK,o6_56⟩]).bind fun r133 => ((callT R n_laws_toInt64S o_laws_toInt64S [⟨yL,t2__50⟩]).bind fun r134 => ((callT R n_impl_ChainMap o_impl_ChainMap [⟨yK,r67.1⟩,⟨yK,r133.1⟩,⟨yL,r134.1⟩,⟨yI,t3__51⟩,⟨yI,t4__52⟩]).bind fun r135 => (laws_FnExactChainMap.j3 R N t13__53 r65.1 r135.2.2.2.2.1 o12_57 o12_58 o12_59 o12_60 o17_61 o17_62 o17_63 r135.1 r135.2.1 r135.2.2.1 r135.2.2.2.1 r65.2.1)))))) ((callT R n_laws_toComplex o_laws_toComplex [⟨yK,o5_55⟩]).bind fun r151 => ((callT R n_laws_toComplex o_laws_toComplex [⟨yK,o6_56⟩]).bind fun r152 => ((callT R n_laws_toInt64S o_laws_toInt64S [⟨yL,t2__50⟩]).bind fun r153 => ((callT R n_impl_ChainMap o_impl_ChainMap [⟨yK,r151.1⟩,⟨yK,r152.1⟩,⟨yL,r153.1⟩,⟨yI,t3__51⟩,⟨yI,t4__52⟩]).bind fun r154 => (laws_FnExactChainMap.j3 R N t13__53 r65.1 r154.2.2.2.2.1 o12_57 o12_58 o12_59 o12_60 o17_61 o17_62 o17_63 r154.1 r154.2.1 r154.2.2.1 r154.2.2.2.1 r65.2.1))))))))))) := (hw _ _).trans (by kernel_rfl)
theorem laws_FnExactChainMap.j1_eq (R:Run) (hw:R.ok) (N:Nat) (t2__22:(List Int)) (t3__23:Int) (t4__24:Int) (t13__25:Int) (t18__26:Int) (t72__27:Bool) (o5_28:vK) (o6_29:vK) (o12_30:Int) (o12_31:Int) (o12_32:Int) (o12_33:(List Int)) (o17_34:Int) (o17_35:Int) (o17_36:Int) (o155_37:vK) (o156_38:vK) (o157_39:(List Int)) (o158_40:(List Int)):laws_FnExactChainMap.j1 R N t2__22 t3__23 t4__24 t13__25 t18__26 t72__27 o5_28 o6_29 o12_30 o12_31 o12_32 o12_33 o17_34 o17_35 o17_36 o155_37 o156_38 o157_39 o158_40 = (bif t72__27 then some ⟨o_laws_FnExactChainMap,(false,())⟩ else ((callT R n_laws_toComplex o_laws_toComplex [⟨yK,o5_28⟩]).bind fun r41 => ((callT R n_laws_eqComplex o_laws_eqComplex [⟨yK,o155_37⟩,⟨yK,r41.1⟩]).bind fun r42 => (bif (!r42.1) then some ⟨o_laws_FnExactChainMap,(false,())⟩ else ((callT R n_laws_toComplex o_laws_toComplex [⟨yK,o6_29⟩]).bind fun r43 => ((callT R n_laws_eqComplex o_laws_eqComplex [⟨yK,o156_38⟩,⟨yK,r43.1⟩]).bind fun r44 => (bif (!r44.1) then some ⟨o_laws_FnExactChainMap,(false,())⟩ else ((callT R n_laws_toInt64S o_laws_toInt64S [⟨yL,t2__22⟩]).bind fun r45 => ((callT R n_laws_eqInt64S o_laws_eqInt64S [⟨yL,o157_39⟩,⟨yL,r45.1⟩]).bind fun r46 => (bif (!r46.1) then some ⟨o_laws_FnExactChainMap,(false,())⟩ else ((callT R n_laws_markComplex o_laws_markComplex [⟨yK,o155_37⟩,⟨yI,(1:Int)⟩]).bind fun r47 => ((callT R n_laws_markComplex o_laws_markComplex [⟨yK,o156_38⟩,⟨yI,r47.1⟩]).bind fun r48 => ((callT R n_laws_markInt64S o_laws_markInt64S [⟨yL,o157_39⟩,⟨yI,r48.1⟩]).bind fun r49 => (bif (decide (r49.1 < (0:Int))) then (laws_FnExactChainMap.j2 R N t2__22 t3__23 t4__24 t13__25 true o5_28 o6_29 o12_30 o12_31 o12_32 o12_33 o17_34 o17_35 o17_36 o158_40) else ((callT R n_laws_eqMatrix o_laws_eqMatrix [⟨yI,o17_34⟩,⟨yI,o17_35⟩,⟨yI,o17_36⟩,⟨yL,o158_40⟩,⟨yI,o12_30⟩,⟨yI,o12_31⟩,⟨yI,o12_32⟩,⟨yL,o12_33⟩]).bind fun r170 => (bif (!r170.1) then (laws_FnExactChainMap.j2 R N t2__22 t3__23 t4__24 t13__25 true o5_28 o6_29 o12_30 o12_31 o12_32 o12_33 o17_34 o17_35 o17_36 o158_40) else (laws_FnExactChainMap.j2 R N t2__22 t3__23 t4__24 t13__25 (t18__26 != t13__25) o5_28 o6_29 o12_30 o12_31 o12_32 o12_33 o17_34 o17_35 o17_36 o158_40))))))))))))))))) := (hw _ _).trans (by kernel_rfl)
theorem laws_FnExactChainMap.j0_eq (R:Run) (hw:R.ok) (N:Nat) (t2__7:(List Int)) (t3__8:Int) (t4__9:Int) (t13__10:Int) (o5_11:vK) (o6_12:vK) (o12_13:Int) (o12_14:Int) (o12_15:Int) (o12_16:(List Int)):laws_FnExactChainMap.j0 R N t2__7 t3__8 t4__9 t13__10 o5_11 o6_12 o12_13 o12_14 o12_15 o12_16 = ((callT R n_laws_toComplex o_laws_toComplex [⟨yK,o5_11⟩]).bind fun r17 => ((callT R n_laws_toComplex o_laws_toComplex [⟨yK,o6_12⟩]).bind fun r18 => ((callT R n_laws_toInt64S o_laws_toInt64S [⟨yL,t2__7⟩]).bind fun r19 => ((callT R n_impl_ChainMap o_impl_ChainMap [⟨yK,r17.1⟩,⟨yK,r18.1⟩,⟨yL,r19.1⟩,⟨yI,t3__8⟩,⟨yI,t4__9⟩]).bind fun r20 => ((callT R n_laws_eqMatrix o_laws_eqMatrix [⟨yI,r20.1⟩,⟨yI,r20.2.1⟩,⟨yI,r20.2.2.1⟩,⟨yL,r20.2.2.2.1⟩,⟨yI,o12_13⟩,⟨yI,o12_14⟩,⟨yI,o12_15⟩,⟨yL,o12_16⟩]).bind fun r21 => (bif (!r21.1) then (laws_FnExactChainMap.j1 R N t2__7 t3__8 t4__9 t13__10 r20.2.2.2.2.1 true o5_11 o6_12 o12_13 o12_14 o12_15 o12_16 r20.1 r20.2.1 r20.2.2.1 r17.1 r18.1 r19.1 r20.2.2.2.1) else (laws_FnExactChainMap.j1 R N t2__7 t3__8 t4__9 t13__10 r20.2.2.2.2.1 (r20.2.2.2.2.1 != t13__10) o5_11 o6_12 o12_13 o12_14 o12_15 o12_16 r20.1 r20.2.1 r20.2.2.1 r17.1 r18.1 r19.1 r20.2.2.2.1))))))) := (hw _ _).trans (by kernel_rfl)
theorem laws_FnExactChainMap.ev (R:Run) (N:Nat) (a0:vK) (a1:vK) (a2:(List Int)) (a3:Int) (a4:Int):evFn E R sg_laws_FnExactChainMap pol_laws_FnExactChainMap F_laws_FnExactChainMap N [⟨yK,a0⟩,⟨yK,a1⟩,⟨yL,a2⟩,⟨yI,a3⟩,⟨yI,a4⟩] = (bif (decide ((List.length a2:Int) > (1048576:Int))) then some ⟨o_laws_FnExactChainMap,(true,())⟩ else ((callT R n_laws_szComplex o_laws_szComplex [⟨yK,a0⟩,⟨yI,(1048576:Int)⟩]).bind fun r1 => (bif (decide (r1.1 < (0:Int))) then some ⟨o_laws_FnExactChainMap,(true,())⟩ else ((callT R n_laws_szComplex o_laws_szComplex [⟨yK,a1⟩,⟨yI,r1.1⟩]).bind fun r2 => (bif (decide (r2.1 < (0:Int))) then some ⟨o_laws_FnExactChainMap,(true,())⟩ else (both ((callT R n_laws_toComplex o_laws_toComplex [⟨yK,a0⟩]).bind fun r3 => (both ((callT R n_laws_toComplex o_laws_toComplex [⟨yK,a1⟩]).bind fun r4 => (both ((callT R n_laws_toInt64S o_laws_toInt64S [⟨yL,a2⟩]).bind fun r5 => (both ((callT R n_spec_ChainMap o_spec_ChainMap [⟨yK,r3.1⟩,⟨yK,r4.1⟩,⟨yL,r5.1⟩,⟨yI,a3⟩,⟨yI,a4⟩]).bind fun r6 => (laws_FnExactChainMap.j0 R N a2 a3 a4 r6.2.2.2.2.1 a0 a1 r6.1 r6.2.1 r6.2.2.1 r6.2.2.2.1)) ((callT R n_spec_ChainMap o_spec_ChainMap [⟨yK,r3.1⟩,⟨yK,r4.1⟩,⟨yL,r5.1⟩,⟨yI,a3⟩,⟨yI,a4⟩]).bind fun r220 => (laws_FnExactChainMap.j0 R N a2 a3 a4 r220.2.2.2.2.1 a0 a1 r220.1 r220.2.1 r220.2.2.1 r220.2.2.2.1)))) ((callT R n_laws_toInt64S o_laws_toInt64S [⟨yL,a2⟩]).bind fun r231 => ((callT R n_spec_ChainMap o_spec_ChainMap [⟨yK,r3.1⟩,⟨yK,r4.1⟩,⟨yL,r231.1⟩,⟨yI,a3⟩,⟨yI,a4⟩]).bind fun r232 => (laws_FnExactChainMap.j0 R N a2 a3 a4 r232.2.2.2.2.1 a0 a1 r232.1 r232.2.1 r232.2.2.1 r232.2.2.2.1))))) ((callT R n_laws_toComplex o_laws_toComplex [⟨yK,a1⟩]).bind fun r243 => ((callT R n_laws_toInt64S o_laws_toInt64S [⟨yL,a2⟩]).bind fun r244 => ((callT R n_spec_ChainMap o_spec_ChainMap [⟨yK,r3.1⟩,⟨yK,r243.1⟩,⟨yL,r244.1⟩,⟨yI,a3⟩,⟨yI,a4⟩]).bind fun r245 => (laws_FnExactChainMap.j0 R N a2 a3 a4 r245.2.2.2.2.1 a0 a1 r245.1 r245.2.1 r245.2.2.1 r245.2.2.2.1)))))) ((callT R n_laws_toComplex o_laws_toComplex [⟨yK,a0⟩]).bind fun r256 => ((callT R n_laws_toComplex o_laws_toComplex [⟨yK,a1⟩]).bind fun r257 => ((callT R n_laws_toInt64S o_laws_toInt64S [⟨yL,a2⟩]).bind fun r258 => ((callT R n_spec_ChainMap o_spec_ChainMap [⟨yK,r256.1⟩,⟨yK,r257.1⟩,⟨yL,r258.1⟩,⟨yI,a3⟩,⟨yI,a4⟩]).bind fun r259 => (laws_FnExactChainMap.j0 R N a2 a3 a4 r259.2.2.2.2.1 a0 a1 r259.1 r259.2.1 r259.2.2.1 r259.2.2.2.1))))))))))) := by kernel_rfl
end VeT


set_option linter.unusedVariables false
set_option linter.unusedSimpArgs false
namespace Go.Proofs
open Go.Shelf
def Tryz.sort145_ren : Go.Shelf.Ren := ⟨fun | 53 => 145 | 64 => 206 | 63 => 205 | 78 => 241 | 79 => 242 | 70 => 232 | 71 => 233 | 72 => 234 | 73 => 235 | 74 => 236 | 75 => 237 | 59 => 238 | 76 => 239 | 77 => 240 | 88 => 258 | 89 => 259 | 90 => 260 | 91 => 261 | 92 => 262 | 68 => 263 | 96 => 268 | n => n, fun | 22 => 35 | 23 => 2 | 3 => 3 | 51 => 204 | 0 => 0 | 67 => 223 | 69 => 225 | 4 => 4 | 61 => 216 | 60 => 215 | 44 => 185 | 5 => 5 | 9 => 9 | 75 => 236 | 79 => 240 | 83 => 244 | 84 => 245 | n => n, fun | n => n⟩
theorem Tryz.sort145 : Go.Proofs.SlLaysN.n53 Tryz.prog Tryz.sort145_ren := {
  mixed := by kernel_rfl
  f53 := ⟨Tryz.f145.name, by decide, Tryz.func145.trans (congrArg some (by kernel_rfl))⟩
  f59 := ⟨Tryz.f238.name, by decide, Tryz.func238.trans (congrArg some (by kernel_rfl))⟩
  f63 := ⟨Tryz.f205.name, by decide, Tryz.func205.trans (congrArg some (by kernel_rfl))⟩
  f64 := Tryz.func206.trans (congrArg some (by kernel_rfl))
  f68 := ⟨Tryz.f263.name, by decide, Tryz.func263.trans (congrArg some (by kernel_rfl))⟩
  f70 := ⟨Tryz.f232.name, by decide, Tryz.func232.trans (congrArg some (by kernel_rfl))⟩
  f71 := ⟨Tryz.f233.name, by decide, Tryz.func233.trans (congrArg some (by kernel_rfl))⟩
  f72 := ⟨Tryz.f234.name, by decide, Tryz.func234.trans (congrArg some (by kernel_rfl))⟩
  f73 := ⟨Tryz.f235.name, by decide, Tryz.func235.trans (congrArg some (by kernel_rfl))⟩
  f74 := ⟨Tryz.f236.name, by decide, Tryz.func236.trans (congrArg some (by kernel_rfl))⟩
  f75 := ⟨Tryz.f237.name, by decide, Tryz.func237.trans (congrArg some (by kernel_rfl))⟩
  f76 := ⟨Tryz.f239.name, by decide, Tryz.func239.trans (congrArg some (by kernel_rfl))⟩
  f77 := ⟨Tryz.f240.name, by decide, Tryz.func240.trans (congrArg some (by kernel_rfl))⟩
  f78 := Tryz.func241.trans (congrArg some (by kernel_rfl))
  f79 := Tryz.func242.trans (congrArg some (by kernel_rfl))
  f88 := ⟨Tryz.f258.name, by decide, Tryz.func258.trans (congrArg some (by kernel_rfl))⟩
  f89 := Tryz.func259.trans (congrArg some (by kernel_rfl))
  f90 := Tryz.func260.trans (congrArg some (by kernel_rfl))
  f91 := ⟨Tryz.f261.name, by decide, Tryz.func261.trans (congrArg some (by kernel_rfl))⟩
  f92 := ⟨Tryz.f262.name, by decide, Tryz.func262.trans (congrArg some (by kernel_rfl))⟩
  f96 := ⟨Tryz.f268.name, by decide, Tryz.func268.trans (congrArg some (by kernel_rfl))⟩
  t0 := Tryz.underlying0
  a0 := Tryz.isAgg0
  z0 := Tryz.sizeOf0
  v0 := Tryz.zeroValue0
  t3 := Tryz.underlying3
  a3 := Tryz.isAgg3
  z3 := Tryz.sizeOf3
  v3 := Tryz.zeroValue3
  t4 := Tryz.underlying4
  a4 := Tryz.isAgg4
  z4 := Tryz.sizeOf4
  v4 := Tryz.zeroValue4
  t5 := Tryz.underlying5
  a5 := Tryz.isAgg5
  z5 := Tryz.sizeOf5
  v5 := Tryz.zeroValue5
  t9 := Tryz.underlying9
  a9 := Tryz.isAgg9
  z9 := Tryz.sizeOf9
  v9 := Tryz.zeroValue9
  t22 := Tryz.underlying35
  a22 := Tryz.isAgg35
  z22 := Tryz.sizeOf35
  v22 := Tryz.zeroValue35
  t23 := Tryz.underlying2
  a23 := Tryz.isAgg2
  z23 := Tryz.sizeOf2
  v23 := Tryz.zeroValue2
  t44 := Tryz.underlying185
  a44 := Tryz.isAgg185
  z44 := Tryz.sizeOf185
  v44 := Tryz.zeroValue185
  t51 := Tryz.underlying204
  a51 := Tryz.isAgg204
  z51 := Tryz.sizeOf204
  v51 := Tryz.zeroValue204
  t60 := Tryz.underlying215
  a60 := Tryz.isAgg215
  z60 := Tryz.sizeOf215
  v60 := Tryz.zeroValue215
  t61 := Tryz.underlying216
  a61 := Tryz.isAgg216
  z61 := Tryz.sizeOf216
  v61 := Tryz.zeroValue216
  t67 := Tryz.underlying223
  a67 := Tryz.isAgg223
  z67 := Tryz.sizeOf223
  v67 := Tryz.zeroValue223
  t69 := Tryz.underlying225
  a69 := Tryz.isAgg225
  z69 := Tryz.sizeOf225
  v69 := Tryz.zeroValue225
  t75 := Tryz.underlying236
  a75 := Tryz.isAgg236
  z75 := Tryz.sizeOf236
  v75 := Tryz.zeroValue236
  t79 := Tryz.underlying240
  a79 := Tryz.isAgg240
  z79 := Tryz.sizeOf240
  v79 := Tryz.zeroValue240
  t83 := Tryz.underlying244
  a83 := Tryz.isAgg244
  z83 := Tryz.sizeOf244
  v83 := Tryz.zeroValue244
  t84 := Tryz.underlying245
  a84 := Tryz.isAgg245
  z84 := Tryz.sizeOf245
  v84 := Tryz.zeroValue245 }
def Tryz.comp146_ren : Go.Shelf.Ren := ⟨fun | 43 => 146 | n => n, fun | 22 => 35 | 23 => 2 | 3 => 3 | 4 => 4 | 0 => 0 | n => n, fun | n => n⟩
theorem Tryz.comp146 : Go.Proofs.SlLaysN.n43 Tryz.prog Tryz.comp146_ren := {
  mixed := by kernel_rfl
  f43 := ⟨Tryz.f146.name, by decide, Tryz.func146.trans (congrArg some (by kernel_rfl))⟩
  t0 := Tryz.underlying0
  a0 := Tryz.isAgg0
  z0 := Tryz.sizeOf0
  v0 := Tryz.zeroValue0
  t3 := Tryz.underlying3
  a3 := Tryz.isAgg3
  z3 := Tryz.sizeOf3
  v3 := Tryz.zeroValue3
  t4 := Tryz.underlying4
  a4 := Tryz.isAgg4
  z4 := Tryz.sizeOf4
  v4 := Tryz.zeroValue4
  t22 := Tryz.underlying35
  a22 := Tryz.isAgg35
  z22 := Tryz.sizeOf35
  v22 := Tryz.zeroValue35
  t23 := Tryz.underlying2
  a23 := Tryz.isAgg2
  z23 := Tryz.sizeOf2
  v23 := Tryz.zeroValue2
  i23 := by kernel_rfl }
end Go.Proofs
namespace VeT
section
open Go Go.Proofs Go.RowKit Go.Lib
set_option maxHeartbeats 2000000 in
set_option maxRecDepth 100000 in
theorem mark18_walk (b n c : Nat) (A : Option Addr) (hA : 0 < n → A = some ⟨b, 0, none⟩) (hnc : n ≤ c) (hn : n ≤ 9223372036854775807) (Inv : Nat → Int → World → Prop) (k : Int) (w : World) (h0 : Inv 0 k w)
    (step : ∀ i k' wr, i < n → Inv i k' wr → ∃ u, wr.cell? ⟨b, i, none⟩ = some u ∧ Calls Tryz.prog 24 #[u, .int .i64 k'] wr fun e w' => ∃ k2, e = .returned (.int .i64 k2) ∧ Inv (i + 1) k2 w') :
    Calls Tryz.prog 18 #[.slice A n c, .int .i64 k] w fun e w' => ∃ k2, e = .returned (.int .i64 k2) ∧ Inv n k2 w' := by
  go_enter Tryz.func18, Tryz.ntmps18
  go_wp2
  go_loopw [1, 5] (fun kv iv wr => ∃ i : Nat, ∃ k' : Int, i ≤ n ∧ iv = .int .i64 i ∧ kv = .int .i64 k' ∧ Inv i k' wr) (fun _ iv _ => n - (RowKit.intOf iv).toNat)
  case atStart => exact ⟨0, k, Nat.zero_le _, rfl, rfl, h0⟩
  case round =>
    obtain ⟨i, k', hi, rfl, rfl, hInv⟩ := hrel
    by_cases hlt : i < n
    · obtain rfl := hA (by omega)
      obtain ⟨u, hu, hcall⟩ := step i k' _ hlt hInv
      go_wp2_with (go_at_call 24; refine hcall.mono ?_; rintro e w' ⟨k2, rfl, hI2⟩)
      go_roundw
      case rel => exact ⟨i + 1, k2, by omega, by simp, rfl, hI2⟩
      case measure => simp [RowKit.intOf]; omega
    · obtain rfl : i = n := by omega
      go_wp2
      go_ret
      exact ⟨k', rfl, hInv⟩
open Ve in
theorem mark18_contract {R : Run} (hR : ∀ args dv, R.r 24 args = some dv → Contract Tryz.prog ⟨[(false, 1), (false, 1)], [.io true, .imm], oM, [(false, 1)], [], []⟩ 24 args dv) {args : List Dv} {dv : Dv} (h : pMarkSS 24 R args = some dv) :
    Contract Tryz.prog ⟨[(false, 1), (false, 1)], [.io true, .imm], .cons tI (.cons (.sl tL) .nil), [(false, 1)], [], []⟩ 18 args dv :=
  mark_contract mark18_walk hR h

open Ve in
theorem sort145_contract (R : Run) {args : List Dv} {dv : Dv} (h : pSortI R args = some dv) : Contract Tryz.prog ⟨[(false, 1)], [.io true], .cons tL .nil, [], [], []⟩ 145 args dv :=
  sortI_contract (fun blk cap zs w a b c => AnyG.slices_Sort_int Tryz.sort145 blk 0 cap zs w a b c)
    (fun A cap w => (AnyG.slices_Sort_int_none Tryz.sort145 A cap w).mono fun e w' ⟨h, hw⟩ => ⟨h, by rw [hw], by rw [hw]; exact Kin.refl _⟩) h

open Ve in
theorem comp146_contract (R : Run) {args : List Dv} {dv : Dv} (h : pCompI R args = some dv) : Contract Tryz.prog ⟨[(false, 1)], [.take true], .cons tL .nil, [(false, 1)], [.deep], []⟩ 146 args dv :=
  compI_contract (fun blk cap zs w a b c => AnyG.slices_Compact_int Tryz.comp146 blk 0 cap zs w a b c)
    (fun A cap w => AnyG.slices_Compact_int_empty Tryz.comp146 A cap w) h

set_option maxHeartbeats 2000000 in
set_option maxRecDepth 100000 in
theorem grow225_room (base : Option Addr) (l c n : Nat) (w : World) (hlc : l ≤ c) (hc63 : c ≤ 9223372036854775807) (hn63 : n ≤ 9223372036854775807) (hroom : l + n ≤ c) :
    Calls Tryz.prog 225 #[.slice base l c, .int .i64 n] w fun e w' => e = .returned (.slice base l c) ∧ w' = w := by
  have h1 : ¬ ((n : Int) < 0) := by omega
  have h2 : wrap64 ((c : Int) - (l : Int)) = (c : Int) - (l : Int) := by unfold wrap64; omega
  have h3 : wrap64 ((n : Int) - ((c : Int) - (l : Int))) = (n : Int) - ((c : Int) - (l : Int)) := by unfold wrap64; omega
  have h4 : ¬ ((n : Int) - ((c : Int) - (l : Int)) > 0) := by omega
  go_enter Tryz.func225, Tryz.ntmps225
  go_wp2
  go_ret
  exact ⟨rfl, rfl⟩

set_option maxHeartbeats 4000000 in
set_option maxRecDepth 100000 in
theorem grow225_grow (i0 : TypeInfo) (z : Value) (hi0 : Tryz.prog.info? 2 = some i0) (hz0 : i0.zero = some z) (hs0 : 0 < i0.size)
    (base : Option Addr) (l c n : Nat) (cs : List Value) (w : World) (hlc : l ≤ c) (hroom : c < l + n) (hbig : (l + n) * i0.bytes ≤ 140737488355328) (h63 : l + n ≤ 4611686018427387904)
    (hcl : cs.length = c * i0.size) (hnil : base = none → c = 0) (hcs : ∀ a, base = some a → ∀ (j : Nat) v, cs[j]? = some v → w.cell? (a.add j) = some v) :
    Calls Tryz.prog 225 #[.slice base l c, .int .i64 n] w fun e w' =>
      e = .returned (.slice (some ⟨w.heap.size, 0, none⟩) l (grownCap w (l + n) c 2)) ∧
      w' = w.drew.alloc (.cells (cs.toArray ++ Builtin.zeroCells z.cells (l + n - c) ++ Builtin.zeroCells z.cells (grownCap w (l + n) c 2 - (l + n))) 2) := by
  have h1 : ¬ ((n : Int) < 0) := by omega
  have h2 : wrap64 ((c : Int) - (l : Int)) = (c : Int) - (l : Int) := by unfold wrap64; omega
  have h3 : wrap64 ((n : Int) - ((c : Int) - (l : Int))) = (n : Int) - ((c : Int) - (l : Int)) := by unfold wrap64; omega
  have h4 : (n : Int) - ((c : Int) - (l : Int)) > 0 := by omega
  have z25 : ∀ w, (Go.sizeOf 2).run Tryz.prog w = .ok i0.size w := fun w => by simp [Go.sizeOf, typeInfo, hi0]
  have hck : c + (l + n - c) = l + n := by omega
  have hold : (Builtin.firstCells i0.size c (.slice base c c)).run Tryz.prog w.drew = .ok cs.toArray w.drew := by
    cases base with
    | none =>
      have h0 := hnil rfl
      subst h0
      have hc0 : cs = [] := List.length_eq_zero_iff.1 (by simpa using hcl)
      rw [hc0]
      exact run_firstCells_none w.drew i0.size 0 0 0
    | some a => exact run_firstCells_some w.drew i0.size c a c c cs hcl (fun j v hj => hcs a rfl j v hj)
  have hrz : ∀ ty, (Builtin.append_ #[35, 3] ty #[.slice base c c, .int .i64 ((n : Int) - ((c : Int) - (l : Int)))]).run Tryz.prog w =
      .ok (.slice (some ⟨w.heap.size, 0, none⟩) (l + n) (grownCap w (l + n) c 2)) (w.drew.alloc (.cells (cs.toArray ++ Builtin.zeroCells z.cells (l + n - c) ++ Builtin.zeroCells z.cells (grownCap w (l + n) c 2 - (l + n))) 2)) := fun ty => by
    have h := Lib.run_append_grow_zeros w 35 3 ty 2 i0 z .i64 .i64 Tryz.underlying35 Tryz.underlying3 hi0 hz0 base c c cs hold (l + n - c) (by omega) hs0 (by omega) (by omega)
      (by have : (l + n - c) * i0.bytes ≤ (l + n) * i0.bytes := Nat.mul_le_mul_right _ (by omega)
          omega)
      (by rw [hck]; exact growslice_fits hroom hbig)
    rw [hck] at h
    rw [show (n : Int) - ((c : Int) - (l : Int)) = ((l + n - c : Nat) : Int) by omega]
    exact h
  have hGn : l + n ≤ grownCap w (l + n) c 2 := grownCap_ge w _ _ _
  obtain ⟨G, hG⟩ : ∃ G, G = grownCap w (l + n) c 2 := ⟨_, rfl⟩
  rw [← hG] at hrz hGn ⊢
  have hG63 : G ≤ 9223372036854775807 := by
    have := grownCap_le_maxLen w (l + n) c 2 (by unfold maxLen; omega)
    rw [← hG] at this
    unfold maxLen at this
    omega
  clear hold hck hG hcs hcl
  go_enter Tryz.func225, Tryz.ntmps225
  cases base with
  | none =>
    have h0 := hnil rfl
    subst h0
    obtain rfl : l = 0 := by omega
    go_wp2_with (at_builtin; refine Lib.wpList_append_run _ rfl _ _ _ _ rfl _ _ rfl rfl _ _ (hrz _) ?_)
    all_goals (go_ret; exact ⟨rfl, rfl⟩)
  | some a =>
    obtain ⟨ab, ao, asp⟩ := a
    go_wp2_with (at_builtin; refine Lib.wpList_append_run _ rfl _ _ _ _ rfl _ _ rfl rfl _ _ (hrz _) ?_)
    all_goals (go_ret; exact ⟨rfl, rfl⟩)
theorem grow225_info : (Tryz.prog.info? 2).any (fun i => i.size == Ve.Ty.size yI && i.zero.any (fun z => z.cells.size == Ve.Ty.size yI) && decide (i.bytes ≤ 64 * Ve.Ty.size yI) && decide (0 < i.bytes) && decide (0 < Ve.Ty.size yI)) = true := by kernel_rfl
open Ve in
theorem grow225_contract (R : Run) {args : List Dv} {dv : Dv} (h : pGrow yI R args = some dv) :
    Contract Tryz.prog ⟨[(false, 1), (false, 1)], [.take true, .imm], .cons yL .nil, [(false, 1)], [.deep], []⟩ 225 args dv := by
  have hi := grow225_info
  cases hi0 : Tryz.prog.info? 2 with
  | none => rw [hi0] at hi; cases hi
  | some i0 =>
    rw [hi0] at hi
    simp only [Option.any_some, Bool.and_eq_true, decide_eq_true_eq, beq_iff_eq] at hi
    obtain ⟨⟨⟨⟨h1, h2⟩, h3⟩, h4⟩, h5⟩ := hi
    cases hz : i0.zero with
    | none => rw [hz] at h2; cases h2
    | some z =>
      rw [hz] at h2
      exact grow_contract h1 (by simpa using h2) h5 h3 h4 grow225_room (fun base l c n cs w a1 a2 a3 a4 a5 a6 a7 => grow225_grow i0 z hi0 hz (by rw [h1]; exact h5) base l c n cs w a1 a2 a3 a4 a5 a6 a7) R h

end
section
open Go Ve
theorem primL_eq : primL = (List.range 286).map fun i => bif Nat.beq i 18 then some (pMarkSS n_laws_markInt64S) else bif Nat.beq i 145 then some pSortI else bif Nat.beq i 146 then some pCompI else bif Nat.beq i 225 then some (pGrow yI) else none := by kernel_rfl
theorem prims_ok : ∀ f p, E.prim f = some p → ∀ r, RunOk E (mkR r) → ∀ args dv sg, E.sig f = some sg → p (mkR r) args = some dv → Contract E.P sg f args dv := by
  intro f p hp r hr args dv sg hsg h
  have hp : primL.getD f none = some p := hp
  rw [primL_eq, List.getD_eq_getElem?_getD, List.getElem?_map] at hp
  by_cases hf : f < 286
  · rw [List.getElem?_range hf] at hp
    simp only [Option.map_some, Option.getD_some] at hp
    by_cases h18 : f = 18
    · subst h18
      obtain rfl : (pMarkSS n_laws_markInt64S) = p := Option.some.inj hp
      obtain rfl : sg_laws_markInt64SS = sg := Option.some.inj (sig_laws_markInt64SS_eq.symm.trans hsg)
      exact mark18_contract (fun args dv h => hr _ args dv _ sig_laws_markInt64S_eq h) h
    rw [show Nat.beq f 18 = false from Bool.eq_false_iff.2 fun h => h18 (Nat.eq_of_beq_eq_true h), cond_false] at hp
    by_cases h145 : f = 145
    · subst h145
      obtain rfl : pSortI = p := Option.some.inj hp
      obtain rfl : sg_slices_Sort_Sint64_int64 = sg := Option.some.inj (sig_slices_Sort_Sint64_int64_eq.symm.trans hsg)
      exact sort145_contract _ h
    rw [show Nat.beq f 145 = false from Bool.eq_false_iff.2 fun h => h145 (Nat.eq_of_beq_eq_true h), cond_false] at hp
    by_cases h146 : f = 146
    · subst h146
      obtain rfl : pCompI = p := Option.some.inj hp
      obtain rfl : sg_slices_Compact_Sint64_int64 = sg := Option.some.inj (sig_slices_Compact_Sint64_int64_eq.symm.trans hsg)
      exact comp146_contract _ h
    rw [show Nat.beq f 146 = false from Bool.eq_false_iff.2 fun h => h146 (Nat.eq_of_beq_eq_true h), cond_false] at hp
    by_cases h225 : f = 225
    · subst h225
      obtain rfl : (pGrow yI) = p := Option.some.inj hp
      obtain rfl : sg_slices_Grow_Sint64_int64 = sg := Option.some.inj (sig_slices_Grow_Sint64_int64_eq.symm.trans hsg)
      exact grow225_contract _ h
    rw [show Nat.beq f 225 = false from Bool.eq_false_iff.2 fun h => h225 (Nat.eq_of_beq_eq_true h), cond_false] at hp
    cases hp
  · rw [List.getElem?_eq_none (by simpa using hf)] at hp
    cases hp
end
end VeT
