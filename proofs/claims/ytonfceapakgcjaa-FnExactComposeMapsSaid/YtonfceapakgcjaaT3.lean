import Derived.Test.YtonfceapakgcjaaV2
import Derived.Test.YtonfceapakgcjaaProg
import Derived.KernelRfl
import Derived.Shelf.SlicesG.CompactI
import Derived.Ground.SlgnProg
import Derived.Shelf.SortG.Plain
import Derived.Shelf.SortG.SortNone
import Derived.WalkKit
import Derived.Lib.Walk
import Derived.Lib.SliceRun
import Derived.Lib.AppendZerosOnto
set_option linter.unusedVariables false
set_option linter.unusedSimpArgs false
open Go Go.Proofs Ve
set_option linter.unusedVariables false
set_option maxRecDepth 100000
namespace VeT
abbrev yM : Ty := .cons (.int .i64) (.cons (.int .i64) (.cons (.int .i64) (.cons (.sl (.int .i64)) .nil)))
abbrev yI : Ty := .int .i64
abbrev yL : Ty := .sl yI
abbrev yK : Ty := .sl yL
abbrev yN : Ty := .sl (.st yM)
abbrev yS : Ty := .cons yK (.cons yI (.cons yL (.cons yN .nil)))
abbrev vM := Int × Int × Int × List Int × Unit
abbrev vK := List (List Int)
abbrev vN := List vM
abbrev vS := vK × Int × List Int × vN × Unit
noncomputable def bodyOf (f:Func):Code := f.body.getD .skip
def zd:Nat → List Ve.V → List Ve.V
  | 0,t => t
  | n + 1,t => V.dead::zd n t
def zo:Nat → List (Option Ve.Obj) → List (Option Ve.Obj)
  | 0,t => t
  | n + 1,t => none::zo n t
@[reducible] def n_laws_FnExactIsMap:Nat := 3
@[reducible] def n_laws_FnExactSimplexImage:Nat := 4
@[reducible] def n_laws_FnExactComposeMaps:Nat := 5
@[reducible] def n_laws_FnExactFibreOf:Nat := 6
@[reducible] def n_laws_szComplex:Nat := 7
@[reducible] def n_spec_IsMap:Nat := 8
@[reducible] def n_laws_toComplex:Nat := 9
@[reducible] def n_laws_toInt64S:Nat := 10
@[reducible] def n_impl_IsMap:Nat := 11
@[reducible] def n_laws_eqComplex:Nat := 12
@[reducible] def n_laws_eqInt64S:Nat := 13
@[reducible] def n_spec_SimplexImage:Nat := 14
@[reducible] def n_impl_SimplexImage:Nat := 15
@[reducible] def n_spec_ComposeMaps:Nat := 16
@[reducible] def n_impl_ComposeMaps:Nat := 17
@[reducible] def n_laws_markComplex:Nat := 18
@[reducible] def n_laws_markInt64S:Nat := 19
@[reducible] def n_laws_heldInt64S:Nat := 20
@[reducible] def n_spec_FibreOf:Nat := 21
@[reducible] def n_impl_FibreOf:Nat := 22
@[reducible] def n_laws_szInt64SS:Nat := 23
@[reducible] def n_spec_l05Ok:Nat := 24
@[reducible] def n_spec_l08Map:Nat := 25
@[reducible] def n_laws_toInt64SS:Nat := 26
@[reducible] def n_impl_ValidComplex:Nat := 27
@[reducible] def n_impl_isMap:Nat := 28
@[reducible] def n_laws_eqInt64SS:Nat := 29
@[reducible] def n_spec_l08Ask:Nat := 30
@[reducible] def n_spec_l00In:Nat := 31
@[reducible] def n_spec_l08At:Nat := 32
@[reducible] def n_impl_mapped:Nat := 33
@[reducible] def n_impl_within:Nat := 34
@[reducible] def n_impl_size_Sint64:Nat := 35
@[reducible] def n_impl_indexOf:Nat := 36
@[reducible] def n_impl_imageOf:Nat := 37
@[reducible] def n_spec_l08Vertices:Nat := 38
@[reducible] def n_spec_l08Told:Nat := 39
@[reducible] def n_laws_markInt64SS:Nat := 40
@[reducible] def n_slices_Equal_Sint64_int64:Nat := 41
@[reducible] def n_laws_szInt64S:Nat := 42
@[reducible] def n_spec_l05Simplex:Nat := 43
@[reducible] def n_spec_l05Before:Nat := 44
@[reducible] def n_spec_l05Find:Nat := 45
@[reducible] def n_spec_l05Drop:Nat := 46
@[reducible] def n_spec_l08Fits:Nat := 47
@[reducible] def n_impl_ValidSimplex:Nat := 48
@[reducible] def n_impl_compareSimplices:Nat := 49
@[reducible] def n_slices_ContainsFunc_SSint64_Sint64:Nat := 50
@[reducible] def n_impl_facesOf:Nat := 51
@[reducible] def n_impl_ValidComplex_1:Nat := 52
@[reducible] def n_impl_verticesOf:Nat := 53
@[reducible] def n_impl_isMap_1:Nat := 54
@[reducible] def n_spec_l08Image:Nat := 55
@[reducible] def n_slices_BinarySearchFunc_SSint64_Sint64_Sint64:Nat := 56
@[reducible] def n_slices_Index_Sint64_int64:Nat := 57
@[reducible] def n_slices_Sort_Sint64_int64:Nat := 58
@[reducible] def n_slices_Compact_Sint64_int64:Nat := 59
@[reducible] def n_spec_l00Rises:Nat := 60
@[reducible] def n_spec_l00Same:Nat := 61
@[reducible] def n_spec_l00Own:Nat := 62
@[reducible] def n_impl_isRising:Nat := 63
@[reducible] def n_slices_ContainsFunc_Sint64_int64:Nat := 64
@[reducible] def n_impl_ValidSimplex_1:Nat := 65
@[reducible] def n_impl_isVertex:Nat := 66
@[reducible] def n_cmp_Or_int:Nat := 67
@[reducible] def n_cmp_Compare_int:Nat := 68
@[reducible] def n_slices_Compare_Sint64_int64:Nat := 69
@[reducible] def n_slices_IndexFunc_SSint64_Sint64:Nat := 70
@[reducible] def n_slices_Concat_Sint64_int64:Nat := 71
@[reducible] def n_spec_l00Put:Nat := 72
@[reducible] def n_slices_IndexFunc_Sint64_int64:Nat := 75
@[reducible] def n_cmp_isNaN_int:Nat := 76
@[reducible] def n_cmp_Compare_int64:Nat := 77
@[reducible] def n_slices_Grow_Sint64_int64:Nat := 78
@[reducible] def n_cmp_isNaN_int64:Nat := 90
@[reducible] noncomputable def F_laws_FnExactIsMap:Func := Try.f3
@[reducible] noncomputable def F_laws_FnExactSimplexImage:Func := Try.f4
@[reducible] noncomputable def F_laws_FnExactComposeMaps:Func := Try.f5
@[reducible] noncomputable def F_laws_FnExactFibreOf:Func := Try.f6
@[reducible] noncomputable def F_laws_szComplex:Func := Try.f7
@[reducible] noncomputable def F_spec_IsMap:Func := Try.f8
@[reducible] noncomputable def F_laws_toComplex:Func := Try.f9
@[reducible] noncomputable def F_laws_toInt64S:Func := Try.f10
@[reducible] noncomputable def F_impl_IsMap:Func := Try.f11
@[reducible] noncomputable def F_laws_eqComplex:Func := Try.f12
@[reducible] noncomputable def F_laws_eqInt64S:Func := Try.f13
@[reducible] noncomputable def F_spec_SimplexImage:Func := Try.f14
@[reducible] noncomputable def F_impl_SimplexImage:Func := Try.f15
@[reducible] noncomputable def F_spec_ComposeMaps:Func := Try.f16
@[reducible] noncomputable def F_impl_ComposeMaps:Func := Try.f17
@[reducible] noncomputable def F_laws_markComplex:Func := Try.f18
@[reducible] noncomputable def F_laws_markInt64S:Func := Try.f19
@[reducible] noncomputable def F_laws_heldInt64S:Func := Try.f20
@[reducible] noncomputable def F_spec_FibreOf:Func := Try.f21
@[reducible] noncomputable def F_impl_FibreOf:Func := Try.f22
@[reducible] noncomputable def F_laws_szInt64SS:Func := Try.f23
@[reducible] noncomputable def F_spec_l05Ok:Func := Try.f24
@[reducible] noncomputable def F_spec_l08Map:Func := Try.f25
@[reducible] noncomputable def F_laws_toInt64SS:Func := Try.f26
@[reducible] noncomputable def F_impl_ValidComplex:Func := Try.f27
@[reducible] noncomputable def F_impl_isMap:Func := Try.f28
@[reducible] noncomputable def F_laws_eqInt64SS:Func := Try.f29
@[reducible] noncomputable def F_spec_l08Ask:Func := Try.f30
@[reducible] noncomputable def F_spec_l00In:Func := Try.f31
@[reducible] noncomputable def F_spec_l08At:Func := Try.f32
@[reducible] noncomputable def F_impl_mapped:Func := Try.f33
@[reducible] noncomputable def F_impl_within:Func := Try.f34
@[reducible] noncomputable def F_impl_size_Sint64:Func := Try.f35
@[reducible] noncomputable def F_impl_indexOf:Func := Try.f36
@[reducible] noncomputable def F_impl_imageOf:Func := Try.f37
@[reducible] noncomputable def F_spec_l08Vertices:Func := Try.f38
@[reducible] noncomputable def F_spec_l08Told:Func := Try.f39
@[reducible] noncomputable def F_laws_markInt64SS:Func := Try.f40
@[reducible] noncomputable def F_slices_Equal_Sint64_int64:Func := Try.f41
@[reducible] noncomputable def F_laws_szInt64S:Func := Try.f42
@[reducible] noncomputable def F_spec_l05Simplex:Func := Try.f43
@[reducible] noncomputable def F_spec_l05Before:Func := Try.f44
@[reducible] noncomputable def F_spec_l05Find:Func := Try.f45
@[reducible] noncomputable def F_spec_l05Drop:Func := Try.f46
@[reducible] noncomputable def F_spec_l08Fits:Func := Try.f47
@[reducible] noncomputable def F_impl_ValidSimplex:Func := Try.f48
@[reducible] noncomputable def F_impl_compareSimplices:Func := Try.f49
@[reducible] noncomputable def F_slices_ContainsFunc_SSint64_Sint64:Func := Try.f50
@[reducible] noncomputable def F_impl_facesOf:Func := Try.f51
@[reducible] noncomputable def F_impl_ValidComplex_1:Func := Try.f52
@[reducible] noncomputable def F_impl_verticesOf:Func := Try.f53
@[reducible] noncomputable def F_impl_isMap_1:Func := Try.f54
@[reducible] noncomputable def F_spec_l08Image:Func := Try.f55
@[reducible] noncomputable def F_slices_BinarySearchFunc_SSint64_Sint64_Sint64:Func := Try.f56
@[reducible] noncomputable def F_slices_Index_Sint64_int64:Func := Try.f57
@[reducible] noncomputable def F_slices_Sort_Sint64_int64:Func := Try.f58
@[reducible] noncomputable def F_slices_Compact_Sint64_int64:Func := Try.f59
@[reducible] noncomputable def F_spec_l00Rises:Func := Try.f60
@[reducible] noncomputable def F_spec_l00Same:Func := Try.f61
@[reducible] noncomputable def F_spec_l00Own:Func := Try.f62
@[reducible] noncomputable def F_impl_isRising:Func := Try.f63
@[reducible] noncomputable def F_slices_ContainsFunc_Sint64_int64:Func := Try.f64
@[reducible] noncomputable def F_impl_ValidSimplex_1:Func := Try.f65
@[reducible] noncomputable def F_impl_isVertex:Func := Try.f66
@[reducible] noncomputable def F_cmp_Or_int:Func := Try.f67
@[reducible] noncomputable def F_cmp_Compare_int:Func := Try.f68
@[reducible] noncomputable def F_slices_Compare_Sint64_int64:Func := Try.f69
@[reducible] noncomputable def F_slices_IndexFunc_SSint64_Sint64:Func := Try.f70
@[reducible] noncomputable def F_slices_Concat_Sint64_int64:Func := Try.f71
@[reducible] noncomputable def F_spec_l00Put:Func := Try.f72
@[reducible] noncomputable def F_slices_IndexFunc_Sint64_int64:Func := Try.f75
@[reducible] noncomputable def F_cmp_isNaN_int:Func := Try.f76
@[reducible] noncomputable def F_cmp_Compare_int64:Func := Try.f77
@[reducible] noncomputable def F_slices_Grow_Sint64_int64:Func := Try.f78
@[reducible] noncomputable def F_cmp_isNaN_int64:Func := Try.f90
@[reducible] def o_laws_FnExactIsMap:Ty := (.cons .bool .nil)
noncomputable def sg_laws_FnExactIsMap:Sig := ⟨[(true,1),(true,1),(false,1)],[],o_laws_FnExactIsMap,[(false,1)],[],[]⟩
@[reducible] def o_laws_FnExactSimplexImage:Ty := (.cons .bool .nil)
noncomputable def sg_laws_FnExactSimplexImage:Sig := ⟨[(true,1),(true,1),(false,1),(false,1)],[],o_laws_FnExactSimplexImage,[(false,1)],[],[]⟩
@[reducible] def o_laws_FnExactComposeMaps:Ty := (.cons .bool .nil)
noncomputable def sg_laws_FnExactComposeMaps:Sig := ⟨[(true,1),(true,1),(true,1),(false,1),(false,1)],[],o_laws_FnExactComposeMaps,[(false,1)],[],[]⟩
@[reducible] def o_laws_FnExactFibreOf:Ty := (.cons .bool .nil)
noncomputable def sg_laws_FnExactFibreOf:Sig := ⟨[(true,1),(true,1),(false,1),(false,1)],[],o_laws_FnExactFibreOf,[(false,1)],[],[]⟩
@[reducible] def o_laws_szComplex:Ty := (.cons yI .nil)
noncomputable def sg_laws_szComplex:Sig := ⟨[(true,1),(false,1)],[],o_laws_szComplex,[(false,1)],[],[]⟩
@[reducible] def o_spec_IsMap:Ty := (.cons .bool .nil)
noncomputable def sg_spec_IsMap:Sig := ⟨[(true,1),(true,1),(false,1)],[],o_spec_IsMap,[(false,1)],[],[]⟩
@[reducible] def o_laws_toComplex:Ty := (.cons yK .nil)
noncomputable def sg_laws_toComplex:Sig := ⟨[(true,1)],[],o_laws_toComplex,[(true,1)],[.deep],[]⟩
@[reducible] def o_laws_toInt64S:Ty := (.cons yL .nil)
noncomputable def sg_laws_toInt64S:Sig := ⟨[(false,1)],[],o_laws_toInt64S,[(false,1)],[.deep],[]⟩
@[reducible] def o_impl_IsMap:Ty := (.cons .bool .nil)
noncomputable def sg_impl_IsMap:Sig := ⟨[(true,1),(true,1),(false,1)],[],o_impl_IsMap,[(false,1)],[],[]⟩
@[reducible] def o_laws_eqComplex:Ty := (.cons .bool .nil)
noncomputable def sg_laws_eqComplex:Sig := ⟨[(true,1),(true,1)],[],o_laws_eqComplex,[(false,1)],[],[]⟩
@[reducible] def o_laws_eqInt64S:Ty := (.cons .bool .nil)
noncomputable def sg_laws_eqInt64S:Sig := ⟨[(false,1),(false,1)],[],o_laws_eqInt64S,[(false,1)],[],[]⟩
@[reducible] def o_spec_SimplexImage:Ty := (.cons yI (.cons yI .nil))
noncomputable def sg_spec_SimplexImage:Sig := ⟨[(true,1),(true,1),(false,1),(false,1)],[],o_spec_SimplexImage,[(false,1),(false,1)],[],[]⟩
@[reducible] def o_impl_SimplexImage:Ty := (.cons yI (.cons yI .nil))
noncomputable def sg_impl_SimplexImage:Sig := ⟨[(true,1),(true,1),(false,1),(false,1)],[],o_impl_SimplexImage,[(false,1),(false,1)],[],[]⟩
@[reducible] def o_spec_ComposeMaps:Ty := (.cons yL (.cons yI .nil))
noncomputable def sg_spec_ComposeMaps:Sig := ⟨[(true,1),(true,1),(true,1),(false,1),(false,1)],[],o_spec_ComposeMaps,[(false,1),(false,1)],[.deep,.imm],[]⟩
@[reducible] def o_impl_ComposeMaps:Ty := (.cons yL (.cons yI .nil))
noncomputable def sg_impl_ComposeMaps:Sig := ⟨[(true,1),(true,1),(true,1),(false,1),(false,1)],[],o_impl_ComposeMaps,[(false,1),(false,1)],[.deep,.imm],[]⟩
@[reducible] def o_laws_markComplex:Ty := (.cons yI (.cons yK .nil))
noncomputable def sg_laws_markComplex:Sig := ⟨[(true,1),(false,1)],[.io true,.imm],o_laws_markComplex,[(false,1)],[],[]⟩
@[reducible] def o_laws_markInt64S:Ty := (.cons yI (.cons yL .nil))
noncomputable def sg_laws_markInt64S:Sig := ⟨[(false,1),(false,1)],[.io true,.imm],o_laws_markInt64S,[(false,1)],[],[]⟩
@[reducible] def o_laws_heldInt64S:Ty := (.cons yI .nil)
noncomputable def sg_laws_heldInt64S:Sig := ⟨[(false,1),(false,1)],[],o_laws_heldInt64S,[(false,1)],[],[]⟩
@[reducible] def o_spec_FibreOf:Ty := (.cons yL (.cons yI .nil))
noncomputable def sg_spec_FibreOf:Sig := ⟨[(true,1),(true,1),(false,1),(false,1)],[],o_spec_FibreOf,[(false,1),(false,1)],[.deep,.imm],[]⟩
@[reducible] def o_impl_FibreOf:Ty := (.cons yL (.cons yI .nil))
noncomputable def sg_impl_FibreOf:Sig := ⟨[(true,1),(true,1),(false,1),(false,1)],[],o_impl_FibreOf,[(false,1),(false,1)],[.deep,.imm],[]⟩
@[reducible] def o_laws_szInt64SS:Ty := (.cons yI .nil)
noncomputable def sg_laws_szInt64SS:Sig := ⟨[(false,1),(false,1)],[],o_laws_szInt64SS,[(false,1)],[],[]⟩
@[reducible] def o_spec_l05Ok:Ty := (.cons .bool .nil)
noncomputable def sg_spec_l05Ok:Sig := ⟨[(false,1)],[],o_spec_l05Ok,[(false,1)],[],[(.ptr (.cons yK .nil))]⟩
@[reducible] def o_spec_l08Map:Ty := (.cons .bool .nil)
noncomputable def sg_spec_l08Map:Sig := ⟨[(false,1),(false,1),(false,1)],[],o_spec_l08Map,[(false,1)],[],[(.ptr (.cons yK .nil)),(.ptr (.cons yK .nil))]⟩
@[reducible] def o_laws_toInt64SS:Ty := (.cons yK .nil)
noncomputable def sg_laws_toInt64SS:Sig := ⟨[(false,1)],[],o_laws_toInt64SS,[(false,1)],[.deep],[]⟩
@[reducible] def o_impl_ValidComplex:Ty := (.cons .bool .nil)
noncomputable def sg_impl_ValidComplex:Sig := ⟨[(true,1)],[],o_impl_ValidComplex,[(false,1)],[],[]⟩
@[reducible] def o_impl_isMap:Ty := (.cons .bool .nil)
noncomputable def sg_impl_isMap:Sig := ⟨[(true,1),(true,1),(false,1)],[],o_impl_isMap,[(false,1)],[],[]⟩
@[reducible] def o_laws_eqInt64SS:Ty := (.cons .bool .nil)
noncomputable def sg_laws_eqInt64SS:Sig := ⟨[(false,1),(false,1)],[],o_laws_eqInt64SS,[(false,1)],[],[]⟩
@[reducible] def o_spec_l08Ask:Ty := (.cons yI .nil)
noncomputable def sg_spec_l08Ask:Sig := ⟨[(false,1),(false,1),(false,1)],[],o_spec_l08Ask,[(false,1)],[],[(.ptr (.cons yK .nil)),(.ptr (.cons yK .nil))]⟩
@[reducible] def o_spec_l00In:Ty := (.cons .bool .nil)
noncomputable def sg_spec_l00In:Sig := ⟨[(false,1),(false,1),(false,1)],[],o_spec_l00In,[(false,1)],[],[]⟩
@[reducible] def o_spec_l08At:Ty := (.cons yI .nil)
noncomputable def sg_spec_l08At:Sig := ⟨[(false,1),(false,1),(false,1),(false,1)],[],o_spec_l08At,[(false,1)],[],[(.ptr (.cons yK .nil)),(.ptr (.cons yK .nil))]⟩
@[reducible] def o_impl_mapped:Ty := (.cons yI .nil)
noncomputable def sg_impl_mapped:Sig := ⟨[(true,1),(true,1),(false,1)],[],o_impl_mapped,[(false,1)],[],[]⟩
@[reducible] def o_impl_within:Ty := (.cons .bool .nil)
noncomputable def sg_impl_within:Sig := ⟨[(false,1),(false,1),(false,1)],[],o_impl_within,[(false,1)],[],[]⟩
@[reducible] def o_impl_size_Sint64:Ty := (.cons yI .nil)
noncomputable def sg_impl_size_Sint64:Sig := ⟨[(false,1)],[],o_impl_size_Sint64,[(false,1)],[],[]⟩
@[reducible] def o_impl_indexOf:Ty := (.cons yI .nil)
noncomputable def sg_impl_indexOf:Sig := ⟨[(true,1),(false,1)],[],o_impl_indexOf,[(false,1)],[],[]⟩
@[reducible] def o_impl_imageOf:Ty := (.cons yL .nil)
noncomputable def sg_impl_imageOf:Sig := ⟨[(true,1),(false,1),(false,1)],[],o_impl_imageOf,[(false,1)],[.deep],[]⟩
@[reducible] def o_spec_l08Vertices:Ty := (.cons yL .nil)
noncomputable def sg_spec_l08Vertices:Sig := ⟨[(false,1)],[],o_spec_l08Vertices,[(false,1)],[.deep],[(.ptr (.cons yK .nil))]⟩
@[reducible] def o_spec_l08Told:Ty := (.cons yI .nil)
noncomputable def sg_spec_l08Told:Sig := ⟨[(false,1),(false,1),(false,1)],[],o_spec_l08Told,[(false,1)],[],[]⟩
@[reducible] def o_laws_markInt64SS:Ty := (.cons yI (.cons yK .nil))
noncomputable def sg_laws_markInt64SS:Sig := ⟨[(false,1),(false,1)],[.io true,.imm],o_laws_markInt64SS,[(false,1)],[],[]⟩
@[reducible] def o_slices_Equal_Sint64_int64:Ty := (.cons .bool .nil)
noncomputable def sg_slices_Equal_Sint64_int64:Sig := ⟨[(false,1),(false,1)],[],o_slices_Equal_Sint64_int64,[(false,1)],[],[]⟩
@[reducible] def o_laws_szInt64S:Ty := (.cons yI .nil)
noncomputable def sg_laws_szInt64S:Sig := ⟨[(false,1),(false,1)],[],o_laws_szInt64S,[(false,1)],[],[]⟩
@[reducible] def o_spec_l05Simplex:Ty := (.cons .bool .nil)
noncomputable def sg_spec_l05Simplex:Sig := ⟨[(false,1)],[],o_spec_l05Simplex,[(false,1)],[],[]⟩
@[reducible] def o_spec_l05Before:Ty := (.cons .bool .nil)
noncomputable def sg_spec_l05Before:Sig := ⟨[(false,1),(false,1)],[],o_spec_l05Before,[(false,1)],[],[]⟩
@[reducible] def o_spec_l05Find:Ty := (.cons yI .nil)
noncomputable def sg_spec_l05Find:Sig := ⟨[(false,1),(false,1)],[],o_spec_l05Find,[(false,1)],[],[(.ptr (.cons yK .nil))]⟩
@[reducible] def o_spec_l05Drop:Ty := (.cons yL .nil)
noncomputable def sg_spec_l05Drop:Sig := ⟨[(false,1),(false,1)],[],o_spec_l05Drop,[(false,1)],[.deep],[]⟩
@[reducible] def o_spec_l08Fits:Ty := (.cons .bool .nil)
noncomputable def sg_spec_l08Fits:Sig := ⟨[(false,1),(false,1),(false,1),(false,1)],[],o_spec_l08Fits,[(false,1)],[],[(.ptr (.cons yK .nil)),(.ptr (.cons yK .nil))]⟩
@[reducible] def o_impl_ValidSimplex:Ty := (.cons .bool .nil)
noncomputable def sg_impl_ValidSimplex:Sig := ⟨[(false,1)],[],o_impl_ValidSimplex,[(false,1)],[],[]⟩
@[reducible] def o_impl_compareSimplices:Ty := (.cons yI .nil)
noncomputable def sg_impl_compareSimplices:Sig := ⟨[(false,1),(false,1)],[],o_impl_compareSimplices,[(false,1)],[],[]⟩
@[reducible] def o_slices_ContainsFunc_SSint64_Sint64:Ty := (.cons .bool .nil)
noncomputable def sg_slices_ContainsFunc_SSint64_Sint64:Sig := ⟨[(false,1),(false,1)],[],o_slices_ContainsFunc_SSint64_Sint64,[(false,1)],[],[]⟩
@[reducible] def o_impl_facesOf:Ty := (.cons yK .nil)
noncomputable def sg_impl_facesOf:Sig := ⟨[(false,1)],[],o_impl_facesOf,[(false,1)],[.deep],[]⟩
@[reducible] def o_impl_ValidComplex_1:Ty := (.cons .bool .nil)
noncomputable def sg_impl_ValidComplex_1:Sig := ⟨[(false,1),(false,1),(false,1)],[],o_impl_ValidComplex_1,[(false,1)],[],[.nil,(.ptr (.cons yK .nil)),(.ptr (.cons yI .nil))]⟩
@[reducible] def o_impl_verticesOf:Ty := (.cons yL .nil)
noncomputable def sg_impl_verticesOf:Sig := ⟨[(true,1)],[],o_impl_verticesOf,[(false,1)],[.deep],[]⟩
@[reducible] def o_impl_isMap_1:Ty := (.cons .bool .nil)
noncomputable def sg_impl_isMap_1:Sig := ⟨[(false,1),(false,1),(false,1),(false,1)],[],o_impl_isMap_1,[(false,1)],[],[.nil,(.ptr (.cons yK .nil)),(.ptr (.cons yK .nil)),(.ptr (.cons yL .nil))]⟩
@[reducible] def o_spec_l08Image:Ty := (.cons yL (.cons .bool .nil))
noncomputable def sg_spec_l08Image:Sig := ⟨[(false,1),(false,1),(false,1)],[],o_spec_l08Image,[(false,1),(false,1)],[],[]⟩
@[reducible] def o_slices_BinarySearchFunc_SSint64_Sint64_Sint64:Ty := (.cons yI (.cons .bool .nil))
noncomputable def sg_slices_BinarySearchFunc_SSint64_Sint64_Sint64:Sig := ⟨[(false,1),(false,1),(false,1)],[],o_slices_BinarySearchFunc_SSint64_Sint64_Sint64,[(false,1),(false,1)],[],[]⟩
@[reducible] def o_slices_Index_Sint64_int64:Ty := (.cons yI .nil)
noncomputable def sg_slices_Index_Sint64_int64:Sig := ⟨[(false,1),(false,1)],[],o_slices_Index_Sint64_int64,[(false,1)],[],[]⟩
@[reducible] def o_slices_Sort_Sint64_int64:Ty := (.cons yL .nil)
noncomputable def sg_slices_Sort_Sint64_int64:Sig := ⟨[(false,1)],[.io true],o_slices_Sort_Sint64_int64,[],[],[]⟩
@[reducible] def o_slices_Compact_Sint64_int64:Ty := (.cons yL .nil)
noncomputable def sg_slices_Compact_Sint64_int64:Sig := ⟨[(false,1)],[.take true],o_slices_Compact_Sint64_int64,[(false,1)],[.deep],[]⟩
@[reducible] def o_spec_l00Rises:Ty := (.cons .bool .nil)
noncomputable def sg_spec_l00Rises:Sig := ⟨[(false,1),(false,1),(false,1)],[],o_spec_l00Rises,[(false,1)],[],[]⟩
@[reducible] def o_spec_l00Same:Ty := (.cons .bool .nil)
noncomputable def sg_spec_l00Same:Sig := ⟨[(false,1),(false,1)],[],o_spec_l00Same,[(false,1)],[],[]⟩
@[reducible] def o_spec_l00Own:Ty := (.cons yL .nil)
noncomputable def sg_spec_l00Own:Sig := ⟨[(false,1)],[],o_spec_l00Own,[(false,1)],[.deep],[]⟩
@[reducible] def o_impl_isRising:Ty := (.cons .bool .nil)
noncomputable def sg_impl_isRising:Sig := ⟨[(false,1)],[],o_impl_isRising,[(false,1)],[],[]⟩
@[reducible] def o_slices_ContainsFunc_Sint64_int64:Ty := (.cons .bool .nil)
noncomputable def sg_slices_ContainsFunc_Sint64_int64:Sig := ⟨[(false,1),(false,1)],[],o_slices_ContainsFunc_Sint64_int64,[(false,1)],[],[]⟩
@[reducible] def o_impl_ValidSimplex_1:Ty := (.cons .bool .nil)
noncomputable def sg_impl_ValidSimplex_1:Sig := ⟨[(false,1)],[],o_impl_ValidSimplex_1,[(false,1)],[],[]⟩
@[reducible] def o_impl_isVertex:Ty := (.cons .bool .nil)
noncomputable def sg_impl_isVertex:Sig := ⟨[(false,1)],[],o_impl_isVertex,[(false,1)],[],[]⟩
@[reducible] def o_cmp_Or_int:Ty := (.cons yI .nil)
noncomputable def sg_cmp_Or_int:Sig := ⟨[(false,1)],[],o_cmp_Or_int,[(false,1)],[],[]⟩
@[reducible] def o_cmp_Compare_int:Ty := (.cons yI .nil)
noncomputable def sg_cmp_Compare_int:Sig := ⟨[(false,1),(false,1)],[],o_cmp_Compare_int,[(false,1)],[],[]⟩
@[reducible] def o_slices_Compare_Sint64_int64:Ty := (.cons yI .nil)
noncomputable def sg_slices_Compare_Sint64_int64:Sig := ⟨[(false,1),(false,1)],[],o_slices_Compare_Sint64_int64,[(false,1)],[],[]⟩
@[reducible] def o_slices_IndexFunc_SSint64_Sint64:Ty := (.cons yI .nil)
noncomputable def sg_slices_IndexFunc_SSint64_Sint64:Sig := ⟨[(false,1),(false,1)],[],o_slices_IndexFunc_SSint64_Sint64,[(false,1)],[],[]⟩
@[reducible] def o_slices_Concat_Sint64_int64:Ty := (.cons yL .nil)
noncomputable def sg_slices_Concat_Sint64_int64:Sig := ⟨[(false,1)],[],o_slices_Concat_Sint64_int64,[(false,1)],[.deep],[]⟩
@[reducible] def o_spec_l00Put:Ty := (.cons yL .nil)
noncomputable def sg_spec_l00Put:Sig := ⟨[(false,1),(false,1)],[],o_spec_l00Put,[(false,1)],[.deep],[]⟩
@[reducible] def o_slices_IndexFunc_Sint64_int64:Ty := (.cons yI .nil)
noncomputable def sg_slices_IndexFunc_Sint64_int64:Sig := ⟨[(false,1),(false,1)],[],o_slices_IndexFunc_Sint64_int64,[(false,1)],[],[]⟩
@[reducible] def o_cmp_isNaN_int:Ty := (.cons .bool .nil)
noncomputable def sg_cmp_isNaN_int:Sig := ⟨[(false,1)],[],o_cmp_isNaN_int,[(false,1)],[],[]⟩
@[reducible] def o_cmp_Compare_int64:Ty := (.cons yI .nil)
noncomputable def sg_cmp_Compare_int64:Sig := ⟨[(false,1),(false,1)],[],o_cmp_Compare_int64,[(false,1)],[],[]⟩
@[reducible] def o_slices_Grow_Sint64_int64:Ty := (.cons yL .nil)
noncomputable def sg_slices_Grow_Sint64_int64:Sig := ⟨[(false,1),(false,1)],[.take true,.imm],o_slices_Grow_Sint64_int64,[(false,1)],[.deep],[]⟩
@[reducible] def o_cmp_isNaN_int64:Ty := (.cons .bool .nil)
noncomputable def sg_cmp_isNaN_int64:Sig := ⟨[(false,1)],[],o_cmp_isNaN_int64,[(false,1)],[],[]⟩
noncomputable def pol_laws_FnExactIsMap:Pol := ⟨64,[],[],[],[],[]⟩
noncomputable def pol_laws_FnExactSimplexImage:Pol := ⟨82,[],[],[],[(1000062,⟨[2,4,5,12,13,14,62],[4,5,12,13],[],[],[],[],[]⟩)],[]⟩
noncomputable def pol_laws_FnExactComposeMaps:Pol := ⟨195,[(62,[some 189]),(64,[some 190]),(66,[some 191]),(68,[some 192]),(70,[some 193]),(77,[some 194])],[],[],[(1000088,⟨[3,4,5,6,7,12,13,14,15,16,17,18,19,20,88],[5,6,7,14,15,16,189,190,191,192,193,194],[],[],[],[],[]⟩),(1000141,⟨[3,4,5,6,7,12,13,19,141],[5,6,7,194],[],[],[],[],[]⟩),(1000175,⟨[19,22,175],[194],[],[],[],[],[]⟩)],[]⟩
noncomputable def pol_laws_FnExactFibreOf:Pol := ⟨153,[(47,[some 149]),(49,[some 150]),(51,[some 151]),(57,[some 152])],[],[],[(1000068,⟨[2,3,4,5,10,11,12,13,14,15,16,68],[4,5,12,13,149,150,151,152],[],[],[],[],[]⟩),(1000105,⟨[2,3,4,5,10,11,15,105],[4,5,152],[],[],[],[],[]⟩),(1000136,⟨[15,18,136],[152],[],[],[],[],[]⟩)],[]⟩
noncomputable def pol_laws_szComplex:Pol := ⟨14,[],[],[],[],[]⟩
noncomputable def pol_spec_IsMap:Pol := ⟨18,[],[],[],[],[]⟩
noncomputable def pol_laws_toComplex:Pol := ⟨11,[(6,[some 10])],[],[],[],[]⟩
noncomputable def pol_laws_toInt64S:Pol := ⟨23,[],[(3,⟨[0,3,4],[7],[],[],[],[],[]⟩)],[],[],[]⟩
noncomputable def pol_impl_IsMap:Pol := ⟨22,[],[],[],[],[]⟩
noncomputable def pol_laws_eqComplex:Pol := ⟨13,[],[],[],[],[]⟩
noncomputable def pol_laws_eqInt64S:Pol := ⟨28,[],[(4,⟨[0,1,5],[],[],[],[],[],[]⟩)],[],[],[]⟩
noncomputable def pol_spec_SimplexImage:Pol := ⟨34,[],[],[],[(4,⟨[2,3,4,5,10],[4,5],[],[],[],[],[]⟩),(1000023,⟨[2,3,4,5,10,23],[4,5],[],[],[],[],[]⟩)],[]⟩
noncomputable def pol_impl_SimplexImage:Pol := ⟨39,[],[],[],[],[]⟩
noncomputable def pol_spec_ComposeMaps:Pol := ⟨57,[],[(8,⟨[3,4,12,13,14],[34],[],[],[],[],[]⟩)],[],[(1000024,⟨[3,4,5,6,7,24],[5,6,7],[],[],[],[],[]⟩),(1000032,⟨[3,4,6,32],[6],[],[],[],[],[]⟩)],[]⟩
noncomputable def pol_impl_ComposeMaps:Pol := ⟨63,[],[(7,⟨[4,6,12,40,41,42],[6,55],[(12,55,yI,true)],[],[],[],[]⟩)],[],[(1000027,⟨[3,4,5,6,7,27],[5,6,7],[],[],[],[],[]⟩),(1000039,⟨[3,4,6,39],[6],[],[],[],[],[]⟩)],[]⟩
noncomputable def pol_laws_markComplex:Pol := ⟨12,[],[],[],[],[]⟩
noncomputable def pol_laws_markInt64S:Pol := ⟨21,[],[(2,⟨[0,1,5],[19],[],[],[],[],[]⟩)],[],[],[]⟩
noncomputable def pol_laws_heldInt64S:Pol := ⟨23,[],[(2,⟨[0,1,5],[],[],[],[],[],[]⟩)],[],[],[]⟩
noncomputable def pol_spec_FibreOf:Pol := ⟨51,[],[(8,⟨[2,3,4,5,11,12],[4,5,29],[],[],[],[],[]⟩)],[],[(4,⟨[2,3,4,5,10],[4,5],[],[],[],[],[]⟩),(1000025,⟨[2,3,4,5,10,25],[4,5],[],[],[],[],[]⟩)],[]⟩
noncomputable def pol_impl_FibreOf:Pol := ⟨56,[],[(8,⟨[2,3,4,5,11,29,30,31],[4,5,49],[(11,49,yI,true)],[],[],[],[]⟩)],[],[],[]⟩
noncomputable def pol_laws_szInt64SS:Pol := ⟨29,[],[(5,⟨[0,1,5],[],[],[],[],[],[]⟩)],[],[],[]⟩
noncomputable def pol_spec_l05Ok:Pol := ⟨66,[],[(4,⟨[0,3],[],[],[],[],[],[]⟩),(10,⟨[0,3,4,5],[],[],[],[],[],[]⟩)],[],[(1000047,⟨[0,3,4,47],[],[],[],[],[],[]⟩),(1000056,⟨[0,3,4,5,56],[],[],[],[],[],[]⟩)],[]⟩
noncomputable def pol_spec_l08Map:Pol := ⟨38,[],[(3,⟨[0,1,2,7,8],[],[],[],[],[],[]⟩)],[],[],[]⟩
noncomputable def pol_laws_toInt64SS:Pol := ⟨25,[(20,[some 24])],[(3,⟨[0,3,4],[7],[],[],[],[],[]⟩)],[],[],[]⟩
noncomputable def pol_impl_ValidComplex:Pol := ⟨41,[],[(2,⟨[1,6,7,8],[1],[],[],[1],[],[]⟩)],[],[(1000030,⟨[1,3,4,6,7,8,30],[1,3],[],[],[],[],[]⟩)],[]⟩
noncomputable def pol_impl_isMap:Pol := ⟨21,[],[],[],[],[]⟩
noncomputable def pol_laws_eqInt64SS:Pol := ⟨29,[],[(4,⟨[0,1,5],[],[],[],[],[],[]⟩)],[],[],[]⟩
noncomputable def pol_spec_l08Ask:Pol := ⟨23,[],[],[],[(1000014,⟨[0,1,2,14],[],[],[],[],[],[]⟩)],[]⟩
noncomputable def pol_spec_l00In:Pol := ⟨18,[],[],[],[],[]⟩
noncomputable def pol_spec_l08At:Pol := ⟨32,[],[],[],[],[]⟩
noncomputable def pol_impl_mapped:Pol := ⟨25,[],[],[],[(1000007,⟨[2,3,4,7],[3,4],[],[],[],[],[]⟩)],[]⟩
noncomputable def pol_impl_within:Pol := ⟨18,[],[],[],[],[]⟩
noncomputable def pol_impl_size_Sint64:Pol := ⟨6,[],[],[],[],[]⟩
noncomputable def pol_impl_indexOf:Pol := ⟨19,[],[],[],[],[]⟩
noncomputable def pol_impl_imageOf:Pol := ⟨37,[(32,[some 36])],[(4,⟨[1,7,8,13,14,15],[27],[(8,27,yI,true)],[],[],[],[]⟩)],[],[],[]⟩
noncomputable def pol_spec_l08Vertices:Pol := ⟨38,[],[(3,⟨[0,3,4],[5],[],[],[],[],[]⟩)],[],[],[]⟩
noncomputable def pol_spec_l08Told:Pol := ⟨27,[],[(2,⟨[0,1,2,7],[],[],[],[],[],[]⟩)],[],[],[]⟩
noncomputable def pol_slices_Equal_Sint64_int64:Pol := ⟨28,[],[(4,⟨[0,1,12,13],[],[],[],[],[],[]⟩)],[],[],[]⟩
noncomputable def pol_laws_szInt64S:Pol := ⟨14,[],[],[],[],[]⟩
noncomputable def pol_spec_l05Simplex:Pol := ⟨11,[],[],[],[],[]⟩
noncomputable def pol_spec_l05Before:Pol := ⟨42,[],[(4,⟨[0,1,5],[],[],[],[],[],[]⟩)],[],[],[]⟩
noncomputable def pol_spec_l05Find:Pol := ⟨27,[],[(2,⟨[0,1,5],[],[],[],[],[],[]⟩)],[],[],[]⟩
noncomputable def pol_spec_l05Drop:Pol := ⟨19,[(9,[some 18])],[],[],[],[]⟩
noncomputable def pol_spec_l08Fits:Pol := ⟨45,[],[(2,⟨[0,1,2,3,9],[],[],[],[],[],[]⟩)],[],[(1000040,⟨[0,1,2,3,9,40],[],[],[],[],[],[]⟩)],[]⟩
noncomputable def pol_impl_ValidSimplex:Pol := ⟨21,[],[],[],[],[]⟩
noncomputable def pol_impl_compareSimplices:Pol := ⟨17,[],[],[],[],[]⟩
noncomputable def pol_slices_ContainsFunc_SSint64_Sint64:Pol := ⟨11,[],[],[],[],[]⟩
noncomputable def pol_impl_facesOf:Pol := ⟨29,[(22,[some 28])],[(3,⟨[0,3,6,7],[24],[(3,24,yL,true)],[],[],[],[]⟩)],[],[],[]⟩
noncomputable def pol_impl_ValidComplex_1:Pol := ⟨16,[],[],[],[],[]⟩
noncomputable def pol_impl_verticesOf:Pol := ⟨25,[],[(3,⟨[3,7,8,9],[21],[(3,21,yI,true)],[],[],[],[]⟩)],[],[],[]⟩
noncomputable def pol_impl_isMap_1:Pol := ⟨17,[],[],[],[],[]⟩
noncomputable def pol_spec_l08Image:Pol := ⟨34,[],[(3,⟨[0,1,2,8,9],[],[],[],[],[],[(1000008,0)]⟩)],[],[],[]⟩
noncomputable def pol_slices_BinarySearchFunc_SSint64_Sint64_Sint64:Pol := ⟨52,[],[(3,⟨[0,1,2,8,9,10],[],[],[],[],[],[]⟩)],[],[],[]⟩
noncomputable def pol_slices_Index_Sint64_int64:Pol := ⟨21,[],[(2,⟨[0,1,7,8],[],[],[],[],[],[]⟩)],[],[],[]⟩
noncomputable def pol_spec_l00Rises:Pol := ⟨41,[],[(2,⟨[0,1,2,7],[],[],[],[],[],[]⟩)],[],[(1000037,⟨[0,1,2,7,37],[],[],[],[],[],[]⟩)],[]⟩
noncomputable def pol_spec_l00Same:Pol := ⟨28,[],[(4,⟨[0,1,5],[],[],[],[],[],[]⟩)],[],[],[]⟩
noncomputable def pol_spec_l00Own:Pol := ⟨7,[],[],[],[],[]⟩
noncomputable def pol_impl_isRising:Pol := ⟨21,[],[(2,⟨[0,3],[],[],[],[],[],[]⟩)],[],[],[]⟩
noncomputable def pol_slices_ContainsFunc_Sint64_int64:Pol := ⟨11,[],[],[],[],[]⟩
noncomputable def pol_impl_ValidSimplex_1:Pol := ⟨7,[],[],[],[],[]⟩
noncomputable def pol_impl_isVertex:Pol := ⟨6,[],[],[],[],[]⟩
noncomputable def pol_cmp_Or_int:Pol := ⟨19,[],[(3,⟨[3,6,7,8],[],[],[],[],[],[]⟩)],[],[],[]⟩
noncomputable def pol_cmp_Compare_int:Pol := ⟨22,[],[],[],[],[]⟩
noncomputable def pol_slices_Compare_Sint64_int64:Pol := ⟨38,[],[(2,⟨[0,1,9,10,11],[],[],[],[],[],[]⟩)],[],[],[]⟩
noncomputable def pol_slices_IndexFunc_SSint64_Sint64:Pol := ⟨21,[],[(2,⟨[0,1,7,8],[],[],[],[],[],[]⟩)],[],[],[]⟩
noncomputable def pol_slices_Concat_Sint64_int64:Pol := ⟨38,[(24,[some 37])],[(3,⟨[0,3,9,10,11],[],[],[],[],[],[]⟩),(11,⟨[6,25,26,27],[37],[],[],[],[],[]⟩)],[],[],[]⟩
noncomputable def pol_spec_l00Put:Pol := ⟨51,[],[(4,⟨[0,1,5,6,7],[8],[],[],[],[],[]⟩)],[],[(10,⟨[0,1,5,6,7],[8],[],[],[],[],[]⟩),(1000024,⟨[0,1,5,6,7,24],[8],[],[],[],[],[]⟩)],[]⟩
noncomputable def pol_slices_IndexFunc_Sint64_int64:Pol := ⟨21,[],[(2,⟨[0,1,7,8],[],[],[],[],[],[]⟩)],[],[],[]⟩
noncomputable def pol_cmp_isNaN_int:Pol := ⟨7,[],[],[],[],[]⟩
noncomputable def pol_cmp_Compare_int64:Pol := ⟨22,[],[],[],[],[]⟩
noncomputable def pol_cmp_isNaN_int64:Pol := ⟨7,[],[],[],[],[]⟩
noncomputable def sigL:List (Option Sig) := [none,none,none,some sg_laws_FnExactIsMap,some sg_laws_FnExactSimplexImage,some sg_laws_FnExactComposeMaps,some sg_laws_FnExactFibreOf,some sg_laws_szComplex,some sg_spec_IsMap,some sg_laws_toComplex,some sg_laws_toInt64S,some sg_impl_IsMap,some sg_laws_eqComplex,some sg_laws_eqInt64S,some sg_spec_SimplexImage,some sg_impl_SimplexImage,some sg_spec_ComposeMaps,some sg_impl_ComposeMaps,some sg_laws_markComplex,some sg_laws_markInt64S,some sg_laws_heldInt64S,some sg_spec_FibreOf,some sg_impl_FibreOf,some sg_laws_szInt64SS,some sg_spec_l05Ok,some sg_spec_l08Map,some sg_laws_toInt64SS,some sg_impl_ValidComplex,some sg_impl_isMap,some sg_laws_eqInt64SS,some sg_spec_l08Ask,some sg_spec_l00In,some sg_spec_l08At,some sg_impl_mapped,some sg_impl_within,some sg_impl_size_Sint64,some sg_impl_indexOf,some sg_impl_imageOf,some sg_spec_l08Vertices,some sg_spec_l08Told,some sg_laws_markInt64SS,some sg_slices_Equal_Sint64_int64,some sg_laws_szInt64S,some sg_spec_l05Simplex,some sg_spec_l05Before,some sg_spec_l05Find,some sg_spec_l05Drop,some sg_spec_l08Fits,some sg_impl_ValidSimplex,some sg_impl_compareSimplices,some sg_slices_ContainsFunc_SSint64_Sint64,some sg_impl_facesOf,some sg_impl_ValidComplex_1,some sg_impl_verticesOf,some sg_impl_isMap_1,some sg_spec_l08Image,some sg_slices_BinarySearchFunc_SSint64_Sint64_Sint64,some sg_slices_Index_Sint64_int64,some sg_slices_Sort_Sint64_int64,some sg_slices_Compact_Sint64_int64,some sg_spec_l00Rises,some sg_spec_l00Same,some sg_spec_l00Own,some sg_impl_isRising,some sg_slices_ContainsFunc_Sint64_int64,some sg_impl_ValidSimplex_1,some sg_impl_isVertex,some sg_cmp_Or_int,some sg_cmp_Compare_int,some sg_slices_Compare_Sint64_int64,some sg_slices_IndexFunc_SSint64_Sint64,some sg_slices_Concat_Sint64_int64,some sg_spec_l00Put,none,none,some sg_slices_IndexFunc_Sint64_int64,some sg_cmp_isNaN_int,some sg_cmp_Compare_int64,some sg_slices_Grow_Sint64_int64,none,none,none,none,none,none,none,none,none,none,none,some sg_cmp_isNaN_int64,none,none,none,none,none,none,none,none,none,none,none,none,none,none,none,none,none,none,none,none,none,none]
noncomputable def fnL:List (Option (Func × Pol)) := [none,none,none,some (F_laws_FnExactIsMap,pol_laws_FnExactIsMap),some (F_laws_FnExactSimplexImage,pol_laws_FnExactSimplexImage),some (F_laws_FnExactComposeMaps,pol_laws_FnExactComposeMaps),some (F_laws_FnExactFibreOf,pol_laws_FnExactFibreOf),some (F_laws_szComplex,pol_laws_szComplex),some (F_spec_IsMap,pol_spec_IsMap),some (F_laws_toComplex,pol_laws_toComplex),some (F_laws_toInt64S,pol_laws_toInt64S),some (F_impl_IsMap,pol_impl_IsMap),some (F_laws_eqComplex,pol_laws_eqComplex),some (F_laws_eqInt64S,pol_laws_eqInt64S),some (F_spec_SimplexImage,pol_spec_SimplexImage),some (F_impl_SimplexImage,pol_impl_SimplexImage),some (F_spec_ComposeMaps,pol_spec_ComposeMaps),some (F_impl_ComposeMaps,pol_impl_ComposeMaps),some (F_laws_markComplex,pol_laws_markComplex),some (F_laws_markInt64S,pol_laws_markInt64S),some (F_laws_heldInt64S,pol_laws_heldInt64S),some (F_spec_FibreOf,pol_spec_FibreOf),some (F_impl_FibreOf,pol_impl_FibreOf),some (F_laws_szInt64SS,pol_laws_szInt64SS),some (F_spec_l05Ok,pol_spec_l05Ok),some (F_spec_l08Map,pol_spec_l08Map),some (F_laws_toInt64SS,pol_laws_toInt64SS),some (F_impl_ValidComplex,pol_impl_ValidComplex),some (F_impl_isMap,pol_impl_isMap),some (F_laws_eqInt64SS,pol_laws_eqInt64SS),some (F_spec_l08Ask,pol_spec_l08Ask),some (F_spec_l00In,pol_spec_l00In),some (F_spec_l08At,pol_spec_l08At),some (F_impl_mapped,pol_impl_mapped),some (F_impl_within,pol_impl_within),some (F_impl_size_Sint64,pol_impl_size_Sint64),some (F_impl_indexOf,pol_impl_indexOf),some (F_impl_imageOf,pol_impl_imageOf),some (F_spec_l08Vertices,pol_spec_l08Vertices),some (F_spec_l08Told,pol_spec_l08Told),none,some (F_slices_Equal_Sint64_int64,pol_slices_Equal_Sint64_int64),some (F_laws_szInt64S,pol_laws_szInt64S),some (F_spec_l05Simplex,pol_spec_l05Simplex),some (F_spec_l05Before,pol_spec_l05Before),some (F_spec_l05Find,pol_spec_l05Find),some (F_spec_l05Drop,pol_spec_l05Drop),some (F_spec_l08Fits,pol_spec_l08Fits),some (F_impl_ValidSimplex,pol_impl_ValidSimplex),some (F_impl_compareSimplices,pol_impl_compareSimplices),some (F_slices_ContainsFunc_SSint64_Sint64,pol_slices_ContainsFunc_SSint64_Sint64),some (F_impl_facesOf,pol_impl_facesOf),some (F_impl_ValidComplex_1,pol_impl_ValidComplex_1),some (F_impl_verticesOf,pol_impl_verticesOf),some (F_impl_isMap_1,pol_impl_isMap_1),some (F_spec_l08Image,pol_spec_l08Image),some (F_slices_BinarySearchFunc_SSint64_Sint64_Sint64,pol_slices_BinarySearchFunc_SSint64_Sint64_Sint64),some (F_slices_Index_Sint64_int64,pol_slices_Index_Sint64_int64),none,none,some (F_spec_l00Rises,pol_spec_l00Rises),some (F_spec_l00Same,pol_spec_l00Same),some (F_spec_l00Own,pol_spec_l00Own),some (F_impl_isRising,pol_impl_isRising),some (F_slices_ContainsFunc_Sint64_int64,pol_slices_ContainsFunc_Sint64_int64),some (F_impl_ValidSimplex_1,pol_impl_ValidSimplex_1),some (F_impl_isVertex,pol_impl_isVertex),some (F_cmp_Or_int,pol_cmp_Or_int),some (F_cmp_Compare_int,pol_cmp_Compare_int),some (F_slices_Compare_Sint64_int64,pol_slices_Compare_Sint64_int64),some (F_slices_IndexFunc_SSint64_Sint64,pol_slices_IndexFunc_SSint64_Sint64),some (F_slices_Concat_Sint64_int64,pol_slices_Concat_Sint64_int64),some (F_spec_l00Put,pol_spec_l00Put),none,none,some (F_slices_IndexFunc_Sint64_int64,pol_slices_IndexFunc_Sint64_int64),some (F_cmp_isNaN_int,pol_cmp_isNaN_int),some (F_cmp_Compare_int64,pol_cmp_Compare_int64),none,none,none,none,none,none,none,none,none,none,none,none,some (F_cmp_isNaN_int64,pol_cmp_isNaN_int64),none,none,none,none,none,none,none,none,none,none,none,none,none,none,none,none,none,none,none,none,none,none]
noncomputable def primL:List (Option (Run → List Dv → Option Dv)) := [none,none,none,none,none,none,none,none,none,none,none,none,none,none,none,none,none,none,none,none,none,none,none,none,none,none,none,none,none,none,none,none,none,none,none,none,none,none,none,none,some (pMarkSS n_laws_markInt64S),none,none,none,none,none,none,none,none,none,none,none,none,none,none,none,none,none,some pSortI,some pCompI,none,none,none,none,none,none,none,none,none,none,none,none,none,none,none,none,none,none,some (pGrow yI),none,none,none,none,none,none,none,none,none,none,none,none,none,none,none,none,none,none,none,none,none,none,none,none,none,none,none,none,none,none,none,none,none,none]
noncomputable def E:Env := { P := Try.prog,fn := fun f => fnL.getD f none,prim := fun f => primL.getD f none,sig := fun f => sigL.getD f none }
theorem sig_laws_FnExactIsMap_eq:E.sig n_laws_FnExactIsMap = some sg_laws_FnExactIsMap := rfl
theorem run_laws_FnExactIsMap (n:Nat) (args:List Dv):run E (n + 1) n_laws_FnExactIsMap args = evFn E (mkR (run E n)) sg_laws_FnExactIsMap pol_laws_FnExactIsMap F_laws_FnExactIsMap n args := rfl
theorem sig_laws_FnExactSimplexImage_eq:E.sig n_laws_FnExactSimplexImage = some sg_laws_FnExactSimplexImage := rfl
theorem run_laws_FnExactSimplexImage (n:Nat) (args:List Dv):run E (n + 1) n_laws_FnExactSimplexImage args = evFn E (mkR (run E n)) sg_laws_FnExactSimplexImage pol_laws_FnExactSimplexImage F_laws_FnExactSimplexImage n args := rfl
theorem sig_laws_FnExactComposeMaps_eq:E.sig n_laws_FnExactComposeMaps = some sg_laws_FnExactComposeMaps := rfl
theorem run_laws_FnExactComposeMaps (n:Nat) (args:List Dv):run E (n + 1) n_laws_FnExactComposeMaps args = evFn E (mkR (run E n)) sg_laws_FnExactComposeMaps pol_laws_FnExactComposeMaps F_laws_FnExactComposeMaps n args := rfl
theorem sig_laws_FnExactFibreOf_eq:E.sig n_laws_FnExactFibreOf = some sg_laws_FnExactFibreOf := rfl
theorem run_laws_FnExactFibreOf (n:Nat) (args:List Dv):run E (n + 1) n_laws_FnExactFibreOf args = evFn E (mkR (run E n)) sg_laws_FnExactFibreOf pol_laws_FnExactFibreOf F_laws_FnExactFibreOf n args := rfl
theorem sig_laws_szComplex_eq:E.sig n_laws_szComplex = some sg_laws_szComplex := rfl
theorem run_laws_szComplex (n:Nat) (args:List Dv):run E (n + 1) n_laws_szComplex args = evFn E (mkR (run E n)) sg_laws_szComplex pol_laws_szComplex F_laws_szComplex n args := rfl
theorem sig_spec_IsMap_eq:E.sig n_spec_IsMap = some sg_spec_IsMap := rfl
theorem run_spec_IsMap (n:Nat) (args:List Dv):run E (n + 1) n_spec_IsMap args = evFn E (mkR (run E n)) sg_spec_IsMap pol_spec_IsMap F_spec_IsMap n args := rfl
theorem sig_laws_toComplex_eq:E.sig n_laws_toComplex = some sg_laws_toComplex := rfl
theorem run_laws_toComplex (n:Nat) (args:List Dv):run E (n + 1) n_laws_toComplex args = evFn E (mkR (run E n)) sg_laws_toComplex pol_laws_toComplex F_laws_toComplex n args := rfl
theorem sig_laws_toInt64S_eq:E.sig n_laws_toInt64S = some sg_laws_toInt64S := rfl
theorem run_laws_toInt64S (n:Nat) (args:List Dv):run E (n + 1) n_laws_toInt64S args = evFn E (mkR (run E n)) sg_laws_toInt64S pol_laws_toInt64S F_laws_toInt64S n args := rfl
theorem sig_impl_IsMap_eq:E.sig n_impl_IsMap = some sg_impl_IsMap := rfl
theorem run_impl_IsMap (n:Nat) (args:List Dv):run E (n + 1) n_impl_IsMap args = evFn E (mkR (run E n)) sg_impl_IsMap pol_impl_IsMap F_impl_IsMap n args := rfl
theorem sig_laws_eqComplex_eq:E.sig n_laws_eqComplex = some sg_laws_eqComplex := rfl
theorem run_laws_eqComplex (n:Nat) (args:List Dv):run E (n + 1) n_laws_eqComplex args = evFn E (mkR (run E n)) sg_laws_eqComplex pol_laws_eqComplex F_laws_eqComplex n args := rfl
theorem sig_laws_eqInt64S_eq:E.sig n_laws_eqInt64S = some sg_laws_eqInt64S := rfl
theorem run_laws_eqInt64S (n:Nat) (args:List Dv):run E (n + 1) n_laws_eqInt64S args = evFn E (mkR (run E n)) sg_laws_eqInt64S pol_laws_eqInt64S F_laws_eqInt64S n args := rfl
theorem sig_spec_SimplexImage_eq:E.sig n_spec_SimplexImage = some sg_spec_SimplexImage := rfl
theorem run_spec_SimplexImage (n:Nat) (args:List Dv):run E (n + 1) n_spec_SimplexImage args = evFn E (mkR (run E n)) sg_spec_SimplexImage pol_spec_SimplexImage F_spec_SimplexImage n args := rfl
theorem sig_impl_SimplexImage_eq:E.sig n_impl_SimplexImage = some sg_impl_SimplexImage := rfl
theorem run_impl_SimplexImage (n:Nat) (args:List Dv):run E (n + 1) n_impl_SimplexImage args = evFn E (mkR (run E n)) sg_impl_SimplexImage pol_impl_SimplexImage F_impl_SimplexImage n args := rfl
theorem sig_spec_ComposeMaps_eq:E.sig n_spec_ComposeMaps = some sg_spec_ComposeMaps := rfl
theorem run_spec_ComposeMaps (n:Nat) (args:List Dv):run E (n + 1) n_spec_ComposeMaps args = evFn E (mkR (run E n)) sg_spec_ComposeMaps pol_spec_ComposeMaps F_spec_ComposeMaps n args := rfl
theorem sig_impl_ComposeMaps_eq:E.sig n_impl_ComposeMaps = some sg_impl_ComposeMaps := rfl
theorem run_impl_ComposeMaps (n:Nat) (args:List Dv):run E (n + 1) n_impl_ComposeMaps args = evFn E (mkR (run E n)) sg_impl_ComposeMaps pol_impl_ComposeMaps F_impl_ComposeMaps n args := rfl
theorem sig_laws_markComplex_eq:E.sig n_laws_markComplex = some sg_laws_markComplex := rfl
theorem run_laws_markComplex (n:Nat) (args:List Dv):run E (n + 1) n_laws_markComplex args = evFn E (mkR (run E n)) sg_laws_markComplex pol_laws_markComplex F_laws_markComplex n args := rfl
theorem sig_laws_markInt64S_eq:E.sig n_laws_markInt64S = some sg_laws_markInt64S := rfl
theorem run_laws_markInt64S (n:Nat) (args:List Dv):run E (n + 1) n_laws_markInt64S args = evFn E (mkR (run E n)) sg_laws_markInt64S pol_laws_markInt64S F_laws_markInt64S n args := rfl
theorem sig_laws_heldInt64S_eq:E.sig n_laws_heldInt64S = some sg_laws_heldInt64S := rfl
theorem run_laws_heldInt64S (n:Nat) (args:List Dv):run E (n + 1) n_laws_heldInt64S args = evFn E (mkR (run E n)) sg_laws_heldInt64S pol_laws_heldInt64S F_laws_heldInt64S n args := rfl
theorem sig_spec_FibreOf_eq:E.sig n_spec_FibreOf = some sg_spec_FibreOf := rfl
theorem run_spec_FibreOf (n:Nat) (args:List Dv):run E (n + 1) n_spec_FibreOf args = evFn E (mkR (run E n)) sg_spec_FibreOf pol_spec_FibreOf F_spec_FibreOf n args := rfl
theorem sig_impl_FibreOf_eq:E.sig n_impl_FibreOf = some sg_impl_FibreOf := rfl
theorem run_impl_FibreOf (n:Nat) (args:List Dv):run E (n + 1) n_impl_FibreOf args = evFn E (mkR (run E n)) sg_impl_FibreOf pol_impl_FibreOf F_impl_FibreOf n args := rfl
theorem sig_laws_szInt64SS_eq:E.sig n_laws_szInt64SS = some sg_laws_szInt64SS := rfl
theorem run_laws_szInt64SS (n:Nat) (args:List Dv):run E (n + 1) n_laws_szInt64SS args = evFn E (mkR (run E n)) sg_laws_szInt64SS pol_laws_szInt64SS F_laws_szInt64SS n args := rfl
theorem sig_spec_l05Ok_eq:E.sig n_spec_l05Ok = some sg_spec_l05Ok := rfl
theorem run_spec_l05Ok (n:Nat) (args:List Dv):run E (n + 1) n_spec_l05Ok args = evFn E (mkR (run E n)) sg_spec_l05Ok pol_spec_l05Ok F_spec_l05Ok n args := rfl
theorem sig_spec_l08Map_eq:E.sig n_spec_l08Map = some sg_spec_l08Map := rfl
theorem run_spec_l08Map (n:Nat) (args:List Dv):run E (n + 1) n_spec_l08Map args = evFn E (mkR (run E n)) sg_spec_l08Map pol_spec_l08Map F_spec_l08Map n args := rfl
theorem sig_laws_toInt64SS_eq:E.sig n_laws_toInt64SS = some sg_laws_toInt64SS := rfl
theorem run_laws_toInt64SS (n:Nat) (args:List Dv):run E (n + 1) n_laws_toInt64SS args = evFn E (mkR (run E n)) sg_laws_toInt64SS pol_laws_toInt64SS F_laws_toInt64SS n args := rfl
theorem sig_impl_ValidComplex_eq:E.sig n_impl_ValidComplex = some sg_impl_ValidComplex := rfl
theorem run_impl_ValidComplex (n:Nat) (args:List Dv):run E (n + 1) n_impl_ValidComplex args = evFn E (mkR (run E n)) sg_impl_ValidComplex pol_impl_ValidComplex F_impl_ValidComplex n args := rfl
theorem sig_impl_isMap_eq:E.sig n_impl_isMap = some sg_impl_isMap := rfl
theorem run_impl_isMap (n:Nat) (args:List Dv):run E (n + 1) n_impl_isMap args = evFn E (mkR (run E n)) sg_impl_isMap pol_impl_isMap F_impl_isMap n args := rfl
theorem sig_laws_eqInt64SS_eq:E.sig n_laws_eqInt64SS = some sg_laws_eqInt64SS := rfl
theorem run_laws_eqInt64SS (n:Nat) (args:List Dv):run E (n + 1) n_laws_eqInt64SS args = evFn E (mkR (run E n)) sg_laws_eqInt64SS pol_laws_eqInt64SS F_laws_eqInt64SS n args := rfl
theorem sig_spec_l08Ask_eq:E.sig n_spec_l08Ask = some sg_spec_l08Ask := rfl
theorem run_spec_l08Ask (n:Nat) (args:List Dv):run E (n + 1) n_spec_l08Ask args = evFn E (mkR (run E n)) sg_spec_l08Ask pol_spec_l08Ask F_spec_l08Ask n args := rfl
theorem sig_spec_l00In_eq:E.sig n_spec_l00In = some sg_spec_l00In := rfl
theorem run_spec_l00In (n:Nat) (args:List Dv):run E (n + 1) n_spec_l00In args = evFn E (mkR (run E n)) sg_spec_l00In pol_spec_l00In F_spec_l00In n args := rfl
theorem sig_spec_l08At_eq:E.sig n_spec_l08At = some sg_spec_l08At := rfl
theorem run_spec_l08At (n:Nat) (args:List Dv):run E (n + 1) n_spec_l08At args = evFn E (mkR (run E n)) sg_spec_l08At pol_spec_l08At F_spec_l08At n args := rfl
theorem sig_impl_mapped_eq:E.sig n_impl_mapped = some sg_impl_mapped := rfl
theorem run_impl_mapped (n:Nat) (args:List Dv):run E (n + 1) n_impl_mapped args = evFn E (mkR (run E n)) sg_impl_mapped pol_impl_mapped F_impl_mapped n args := rfl
theorem sig_impl_within_eq:E.sig n_impl_within = some sg_impl_within := rfl
theorem run_impl_within (n:Nat) (args:List Dv):run E (n + 1) n_impl_within args = evFn E (mkR (run E n)) sg_impl_within pol_impl_within F_impl_within n args := rfl
theorem sig_impl_size_Sint64_eq:E.sig n_impl_size_Sint64 = some sg_impl_size_Sint64 := rfl
theorem run_impl_size_Sint64 (n:Nat) (args:List Dv):run E (n + 1) n_impl_size_Sint64 args = evFn E (mkR (run E n)) sg_impl_size_Sint64 pol_impl_size_Sint64 F_impl_size_Sint64 n args := rfl
theorem sig_impl_indexOf_eq:E.sig n_impl_indexOf = some sg_impl_indexOf := rfl
theorem run_impl_indexOf (n:Nat) (args:List Dv):run E (n + 1) n_impl_indexOf args = evFn E (mkR (run E n)) sg_impl_indexOf pol_impl_indexOf F_impl_indexOf n args := rfl
theorem sig_impl_imageOf_eq:E.sig n_impl_imageOf = some sg_impl_imageOf := rfl
theorem run_impl_imageOf (n:Nat) (args:List Dv):run E (n + 1) n_impl_imageOf args = evFn E (mkR (run E n)) sg_impl_imageOf pol_impl_imageOf F_impl_imageOf n args := rfl
theorem sig_spec_l08Vertices_eq:E.sig n_spec_l08Vertices = some sg_spec_l08Vertices := rfl
theorem run_spec_l08Vertices (n:Nat) (args:List Dv):run E (n + 1) n_spec_l08Vertices args = evFn E (mkR (run E n)) sg_spec_l08Vertices pol_spec_l08Vertices F_spec_l08Vertices n args := rfl
theorem sig_spec_l08Told_eq:E.sig n_spec_l08Told = some sg_spec_l08Told := rfl
theorem run_spec_l08Told (n:Nat) (args:List Dv):run E (n + 1) n_spec_l08Told args = evFn E (mkR (run E n)) sg_spec_l08Told pol_spec_l08Told F_spec_l08Told n args := rfl
theorem sig_laws_markInt64SS_eq:E.sig n_laws_markInt64SS = some sg_laws_markInt64SS := rfl
theorem sig_slices_Equal_Sint64_int64_eq:E.sig n_slices_Equal_Sint64_int64 = some sg_slices_Equal_Sint64_int64 := rfl
theorem run_slices_Equal_Sint64_int64 (n:Nat) (args:List Dv):run E (n + 1) n_slices_Equal_Sint64_int64 args = evFn E (mkR (run E n)) sg_slices_Equal_Sint64_int64 pol_slices_Equal_Sint64_int64 F_slices_Equal_Sint64_int64 n args := rfl
theorem sig_laws_szInt64S_eq:E.sig n_laws_szInt64S = some sg_laws_szInt64S := rfl
theorem run_laws_szInt64S (n:Nat) (args:List Dv):run E (n + 1) n_laws_szInt64S args = evFn E (mkR (run E n)) sg_laws_szInt64S pol_laws_szInt64S F_laws_szInt64S n args := rfl
theorem sig_spec_l05Simplex_eq:E.sig n_spec_l05Simplex = some sg_spec_l05Simplex := rfl
theorem run_spec_l05Simplex (n:Nat) (args:List Dv):run E (n + 1) n_spec_l05Simplex args = evFn E (mkR (run E n)) sg_spec_l05Simplex pol_spec_l05Simplex F_spec_l05Simplex n args := rfl
theorem sig_spec_l05Before_eq:E.sig n_spec_l05Before = some sg_spec_l05Before := rfl
theorem run_spec_l05Before (n:Nat) (args:List Dv):run E (n + 1) n_spec_l05Before args = evFn E (mkR (run E n)) sg_spec_l05Before pol_spec_l05Before F_spec_l05Before n args := rfl
theorem sig_spec_l05Find_eq:E.sig n_spec_l05Find = some sg_spec_l05Find := rfl
theorem run_spec_l05Find (n:Nat) (args:List Dv):run E (n + 1) n_spec_l05Find args = evFn E (mkR (run E n)) sg_spec_l05Find pol_spec_l05Find F_spec_l05Find n args := rfl
theorem sig_spec_l05Drop_eq:E.sig n_spec_l05Drop = some sg_spec_l05Drop := rfl
theorem run_spec_l05Drop (n:Nat) (args:List Dv):run E (n + 1) n_spec_l05Drop args = evFn E (mkR (run E n)) sg_spec_l05Drop pol_spec_l05Drop F_spec_l05Drop n args := rfl
theorem sig_spec_l08Fits_eq:E.sig n_spec_l08Fits = some sg_spec_l08Fits := rfl
theorem run_spec_l08Fits (n:Nat) (args:List Dv):run E (n + 1) n_spec_l08Fits args = evFn E (mkR (run E n)) sg_spec_l08Fits pol_spec_l08Fits F_spec_l08Fits n args := rfl
theorem sig_impl_ValidSimplex_eq:E.sig n_impl_ValidSimplex = some sg_impl_ValidSimplex := rfl
theorem run_impl_ValidSimplex (n:Nat) (args:List Dv):run E (n + 1) n_impl_ValidSimplex args = evFn E (mkR (run E n)) sg_impl_ValidSimplex pol_impl_ValidSimplex F_impl_ValidSimplex n args := rfl
theorem sig_impl_compareSimplices_eq:E.sig n_impl_compareSimplices = some sg_impl_compareSimplices := rfl
theorem run_impl_compareSimplices (n:Nat) (args:List Dv):run E (n + 1) n_impl_compareSimplices args = evFn E (mkR (run E n)) sg_impl_compareSimplices pol_impl_compareSimplices F_impl_compareSimplices n args := rfl
theorem sig_slices_ContainsFunc_SSint64_Sint64_eq:E.sig n_slices_ContainsFunc_SSint64_Sint64 = some sg_slices_ContainsFunc_SSint64_Sint64 := rfl
theorem run_slices_ContainsFunc_SSint64_Sint64 (n:Nat) (args:List Dv):run E (n + 1) n_slices_ContainsFunc_SSint64_Sint64 args = evFn E (mkR (run E n)) sg_slices_ContainsFunc_SSint64_Sint64 pol_slices_ContainsFunc_SSint64_Sint64 F_slices_ContainsFunc_SSint64_Sint64 n args := rfl
theorem sig_impl_facesOf_eq:E.sig n_impl_facesOf = some sg_impl_facesOf := rfl
theorem run_impl_facesOf (n:Nat) (args:List Dv):run E (n + 1) n_impl_facesOf args = evFn E (mkR (run E n)) sg_impl_facesOf pol_impl_facesOf F_impl_facesOf n args := rfl
theorem sig_impl_ValidComplex_1_eq:E.sig n_impl_ValidComplex_1 = some sg_impl_ValidComplex_1 := rfl
theorem run_impl_ValidComplex_1 (n:Nat) (args:List Dv):run E (n + 1) n_impl_ValidComplex_1 args = evFn E (mkR (run E n)) sg_impl_ValidComplex_1 pol_impl_ValidComplex_1 F_impl_ValidComplex_1 n args := rfl
theorem sig_impl_verticesOf_eq:E.sig n_impl_verticesOf = some sg_impl_verticesOf := rfl
theorem run_impl_verticesOf (n:Nat) (args:List Dv):run E (n + 1) n_impl_verticesOf args = evFn E (mkR (run E n)) sg_impl_verticesOf pol_impl_verticesOf F_impl_verticesOf n args := rfl
theorem sig_impl_isMap_1_eq:E.sig n_impl_isMap_1 = some sg_impl_isMap_1 := rfl
theorem run_impl_isMap_1 (n:Nat) (args:List Dv):run E (n + 1) n_impl_isMap_1 args = evFn E (mkR (run E n)) sg_impl_isMap_1 pol_impl_isMap_1 F_impl_isMap_1 n args := rfl
theorem sig_spec_l08Image_eq:E.sig n_spec_l08Image = some sg_spec_l08Image := rfl
theorem run_spec_l08Image (n:Nat) (args:List Dv):run E (n + 1) n_spec_l08Image args = evFn E (mkR (run E n)) sg_spec_l08Image pol_spec_l08Image F_spec_l08Image n args := rfl
theorem sig_slices_BinarySearchFunc_SSint64_Sint64_Sint64_eq:E.sig n_slices_BinarySearchFunc_SSint64_Sint64_Sint64 = some sg_slices_BinarySearchFunc_SSint64_Sint64_Sint64 := rfl
theorem run_slices_BinarySearchFunc_SSint64_Sint64_Sint64 (n:Nat) (args:List Dv):run E (n + 1) n_slices_BinarySearchFunc_SSint64_Sint64_Sint64 args = evFn E (mkR (run E n)) sg_slices_BinarySearchFunc_SSint64_Sint64_Sint64 pol_slices_BinarySearchFunc_SSint64_Sint64_Sint64 F_slices_BinarySearchFunc_SSint64_Sint64_Sint64 n args := rfl
theorem sig_slices_Index_Sint64_int64_eq:E.sig n_slices_Index_Sint64_int64 = some sg_slices_Index_Sint64_int64 := rfl
theorem run_slices_Index_Sint64_int64 (n:Nat) (args:List Dv):run E (n + 1) n_slices_Index_Sint64_int64 args = evFn E (mkR (run E n)) sg_slices_Index_Sint64_int64 pol_slices_Index_Sint64_int64 F_slices_Index_Sint64_int64 n args := rfl
theorem sig_slices_Sort_Sint64_int64_eq:E.sig n_slices_Sort_Sint64_int64 = some sg_slices_Sort_Sint64_int64 := rfl
theorem sig_slices_Compact_Sint64_int64_eq:E.sig n_slices_Compact_Sint64_int64 = some sg_slices_Compact_Sint64_int64 := rfl
theorem sig_spec_l00Rises_eq:E.sig n_spec_l00Rises = some sg_spec_l00Rises := rfl
theorem run_spec_l00Rises (n:Nat) (args:List Dv):run E (n + 1) n_spec_l00Rises args = evFn E (mkR (run E n)) sg_spec_l00Rises pol_spec_l00Rises F_spec_l00Rises n args := rfl
theorem sig_spec_l00Same_eq:E.sig n_spec_l00Same = some sg_spec_l00Same := rfl
theorem run_spec_l00Same (n:Nat) (args:List Dv):run E (n + 1) n_spec_l00Same args = evFn E (mkR (run E n)) sg_spec_l00Same pol_spec_l00Same F_spec_l00Same n args := rfl
theorem sig_spec_l00Own_eq:E.sig n_spec_l00Own = some sg_spec_l00Own := rfl
theorem run_spec_l00Own (n:Nat) (args:List Dv):run E (n + 1) n_spec_l00Own args = evFn E (mkR (run E n)) sg_spec_l00Own pol_spec_l00Own F_spec_l00Own n args := rfl
theorem sig_impl_isRising_eq:E.sig n_impl_isRising = some sg_impl_isRising := rfl
theorem run_impl_isRising (n:Nat) (args:List Dv):run E (n + 1) n_impl_isRising args = evFn E (mkR (run E n)) sg_impl_isRising pol_impl_isRising F_impl_isRising n args := rfl
theorem sig_slices_ContainsFunc_Sint64_int64_eq:E.sig n_slices_ContainsFunc_Sint64_int64 = some sg_slices_ContainsFunc_Sint64_int64 := rfl
theorem run_slices_ContainsFunc_Sint64_int64 (n:Nat) (args:List Dv):run E (n + 1) n_slices_ContainsFunc_Sint64_int64 args = evFn E (mkR (run E n)) sg_slices_ContainsFunc_Sint64_int64 pol_slices_ContainsFunc_Sint64_int64 F_slices_ContainsFunc_Sint64_int64 n args := rfl
theorem sig_impl_ValidSimplex_1_eq:E.sig n_impl_ValidSimplex_1 = some sg_impl_ValidSimplex_1 := rfl
theorem run_impl_ValidSimplex_1 (n:Nat) (args:List Dv):run E (n + 1) n_impl_ValidSimplex_1 args = evFn E (mkR (run E n)) sg_impl_ValidSimplex_1 pol_impl_ValidSimplex_1 F_impl_ValidSimplex_1 n args := rfl
theorem sig_impl_isVertex_eq:E.sig n_impl_isVertex = some sg_impl_isVertex := rfl
theorem run_impl_isVertex (n:Nat) (args:List Dv):run E (n + 1) n_impl_isVertex args = evFn E (mkR (run E n)) sg_impl_isVertex pol_impl_isVertex F_impl_isVertex n args := rfl
theorem sig_cmp_Or_int_eq:E.sig n_cmp_Or_int = some sg_cmp_Or_int := rfl
theorem run_cmp_Or_int (n:Nat) (args:List Dv):run E (n + 1) n_cmp_Or_int args = evFn E (mkR (run E n)) sg_cmp_Or_int pol_cmp_Or_int F_cmp_Or_int n args := rfl
theorem sig_cmp_Compare_int_eq:E.sig n_cmp_Compare_int = some sg_cmp_Compare_int := rfl
theorem run_cmp_Compare_int (n:Nat) (args:List Dv):run E (n + 1) n_cmp_Compare_int args = evFn E (mkR (run E n)) sg_cmp_Compare_int pol_cmp_Compare_int F_cmp_Compare_int n args := rfl
theorem sig_slices_Compare_Sint64_int64_eq:E.sig n_slices_Compare_Sint64_int64 = some sg_slices_Compare_Sint64_int64 := rfl
theorem run_slices_Compare_Sint64_int64 (n:Nat) (args:List Dv):run E (n + 1) n_slices_Compare_Sint64_int64 args = evFn E (mkR (run E n)) sg_slices_Compare_Sint64_int64 pol_slices_Compare_Sint64_int64 F_slices_Compare_Sint64_int64 n args := rfl
theorem sig_slices_IndexFunc_SSint64_Sint64_eq:E.sig n_slices_IndexFunc_SSint64_Sint64 = some sg_slices_IndexFunc_SSint64_Sint64 := rfl
theorem run_slices_IndexFunc_SSint64_Sint64 (n:Nat) (args:List Dv):run E (n + 1) n_slices_IndexFunc_SSint64_Sint64 args = evFn E (mkR (run E n)) sg_slices_IndexFunc_SSint64_Sint64 pol_slices_IndexFunc_SSint64_Sint64 F_slices_IndexFunc_SSint64_Sint64 n args := rfl
theorem sig_slices_Concat_Sint64_int64_eq:E.sig n_slices_Concat_Sint64_int64 = some sg_slices_Concat_Sint64_int64 := rfl
theorem run_slices_Concat_Sint64_int64 (n:Nat) (args:List Dv):run E (n + 1) n_slices_Concat_Sint64_int64 args = evFn E (mkR (run E n)) sg_slices_Concat_Sint64_int64 pol_slices_Concat_Sint64_int64 F_slices_Concat_Sint64_int64 n args := rfl
theorem sig_spec_l00Put_eq:E.sig n_spec_l00Put = some sg_spec_l00Put := rfl
theorem run_spec_l00Put (n:Nat) (args:List Dv):run E (n + 1) n_spec_l00Put args = evFn E (mkR (run E n)) sg_spec_l00Put pol_spec_l00Put F_spec_l00Put n args := rfl
theorem sig_slices_IndexFunc_Sint64_int64_eq:E.sig n_slices_IndexFunc_Sint64_int64 = some sg_slices_IndexFunc_Sint64_int64 := rfl
theorem run_slices_IndexFunc_Sint64_int64 (n:Nat) (args:List Dv):run E (n + 1) n_slices_IndexFunc_Sint64_int64 args = evFn E (mkR (run E n)) sg_slices_IndexFunc_Sint64_int64 pol_slices_IndexFunc_Sint64_int64 F_slices_IndexFunc_Sint64_int64 n args := rfl
theorem sig_cmp_isNaN_int_eq:E.sig n_cmp_isNaN_int = some sg_cmp_isNaN_int := rfl
theorem run_cmp_isNaN_int (n:Nat) (args:List Dv):run E (n + 1) n_cmp_isNaN_int args = evFn E (mkR (run E n)) sg_cmp_isNaN_int pol_cmp_isNaN_int F_cmp_isNaN_int n args := rfl
theorem sig_cmp_Compare_int64_eq:E.sig n_cmp_Compare_int64 = some sg_cmp_Compare_int64 := rfl
theorem run_cmp_Compare_int64 (n:Nat) (args:List Dv):run E (n + 1) n_cmp_Compare_int64 args = evFn E (mkR (run E n)) sg_cmp_Compare_int64 pol_cmp_Compare_int64 F_cmp_Compare_int64 n args := rfl
theorem sig_slices_Grow_Sint64_int64_eq:E.sig n_slices_Grow_Sint64_int64 = some sg_slices_Grow_Sint64_int64 := rfl
theorem sig_cmp_isNaN_int64_eq:E.sig n_cmp_isNaN_int64 = some sg_cmp_isNaN_int64 := rfl
theorem run_cmp_isNaN_int64 (n:Nat) (args:List Dv):run E (n + 1) n_cmp_isNaN_int64 args = evFn E (mkR (run E n)) sg_cmp_isNaN_int64 pol_cmp_isNaN_int64 F_cmp_isNaN_int64 n args := rfl
@[reducible] noncomputable def eC (R:Run) (q:Pol) (N:Nat) (l:List Nat) (F:Func) := evCode E R q N (sub l (bodyOf F))
@[reducible] noncomputable def kB (R:Run) (q:Pol) (k:Nat) (K:Kt) := kBlk (maskAt R q.blkM k) k K
@[reducible] noncomputable def kS (R:Run) (q:Pol) (k N:Nat) (l:List Nat) (F:Func) (K:Kt) := kSeq (maskAt R q.seqM k) (evCode E R q N (sub l (bodyOf F))) K
@[reducible] noncomputable def kL (R:Run) (q:Pol) (k N:Nat) (l:List Nat) (F:Func) (n:Nat) (K:Kt) := kLoop (evCode E R q N (sub l (bodyOf F))) (maskAt R q.loopM k) n K
@[reducible] noncomputable def lC (R:Run) (q:Pol) (k N:Nat) (l:List Nat) (F:Func) (n:Nat) (s:Ve.St) (K:Kt) := loopC (evCode E R q N (sub l (bodyOf F))) (maskAt R q.loopM k) n s K
end VeT

open Go Go.Proofs Ve
set_option linter.unusedVariables false
set_option maxRecDepth 100000
namespace VeT
/-! loop.example/g01005/laws.szInt64S -/
theorem laws_szInt64S.ev (R:Run) (N:Nat) (a0:(List Int)) (a1:Int):evFn E R sg_laws_szInt64S pol_laws_szInt64S F_laws_szInt64S N [⟨yL,a0⟩,⟨yI,a1⟩] = (bif (decide ((w64 (a1 - (List.length a0:Int))) < (0:Int))) then some ⟨o_laws_szInt64S,((-1:Int),())⟩ else some ⟨o_laws_szInt64S,((w64 (a1 - (List.length a0:Int))),())⟩) := by kernel_rfl
/-! loop.example/g01005/laws.szInt64SS -/
noncomputable def laws_szInt64SS.l0 (R:Run) (N:Nat) (n:Nat) (a_1:vK) (left_2:Int) (i_3:Int):Option Dv := R.w (some ⟨(.c (.d yK a_1)::(.c (.d yI left_2)::(zd 3 (.c (.d yI i_3)::(zd 21 []))))),(zo 29 [])⟩) fun st => lC R pol_laws_szInt64SS 5 N [1,1,1,0,1,0,0] F_laws_szInt64SS n st (kB R pol_laws_szInt64SS 0 (kS R pol_laws_szInt64SS 10 N [1,1,1,1] F_laws_szInt64SS (kTop E sg_laws_szInt64SS F_laws_szInt64SS)))
theorem laws_szInt64SS.l0_succ (R:Run) (hw:R.ok) (N:Nat) (n:Nat) (a_1:vK) (left_2:Int) (i_3:Int):laws_szInt64SS.l0 R N (n + 1) a_1 left_2 i_3 = (bif (decide (i_3 < (List.length a_1:Int))) then ((idx? a_1 i_3).bind fun y4 => ((callT R n_laws_szInt64S o_laws_szInt64S [⟨yL,(y4,()).1⟩,⟨yI,left_2⟩]).bind fun r5 => (bif (decide (r5.1 < (0:Int))) then some ⟨o_laws_szInt64SS,((-1:Int),())⟩ else (laws_szInt64SS.l0 R N n a_1 r5.1 (w64 (i_3 + (1:Int))))))) else some ⟨o_laws_szInt64SS,(left_2,())⟩) := (hw _ _).trans (by kernel_rfl)
theorem laws_szInt64SS.ev (R:Run) (N:Nat) (a0:vK) (a1:Int):evFn E R sg_laws_szInt64SS pol_laws_szInt64SS F_laws_szInt64SS N [⟨yK,a0⟩,⟨yI,a1⟩] = (bif (decide ((w64 (a1 - (List.length a0:Int))) < (0:Int))) then some ⟨o_laws_szInt64SS,((-1:Int),())⟩ else (laws_szInt64SS.l0 R N N a0 (w64 (a1 - (List.length a0:Int))) (0:Int))) := by kernel_rfl
/-! loop.example/g01005/laws.szComplex -/
theorem laws_szComplex.ev (R:Run) (N:Nat) (a0:vK) (a1:Int):evFn E R sg_laws_szComplex pol_laws_szComplex F_laws_szComplex N [⟨yK,a0⟩,⟨yI,a1⟩] = ((callT R n_laws_szInt64SS o_laws_szInt64SS [⟨yK,a0⟩,⟨yI,a1⟩]).bind fun r1 => (bif (decide (r1.1 < (0:Int))) then some ⟨o_laws_szComplex,((-1:Int),())⟩ else some ⟨o_laws_szComplex,(r1.1,())⟩)) := by kernel_rfl
/-! loop.example/g01005/laws.toInt64S -/
noncomputable def laws_toInt64S.l0 (R:Run) (N:Nat) (n:Nat) (a_1:(List Int)) (i_2:Int) (o7_3:(List Int)):Option Dv := R.w (some ⟨(.c (.d yL a_1)::(V.dead::(V.dead::(.c (.arr 7)::(.c (.d yI i_2)::(zd 17 [])))))),(zo 7 (some (.arr yI o7_3 true false false)::(zo 15 [])))⟩) fun st => lC R pol_laws_toInt64S 3 N [1,1,0,1,0,0] F_laws_toInt64S n st (kB R pol_laws_toInt64S 0 (kS R pol_laws_toInt64S 6 N [1,1,1] F_laws_toInt64S (kTop E sg_laws_toInt64S F_laws_toInt64S)))
theorem laws_toInt64S.l0_succ (R:Run) (hw:R.ok) (N:Nat) (n:Nat) (a_1:(List Int)) (i_2:Int) (o7_3:(List Int)):laws_toInt64S.l0 R N (n + 1) a_1 i_2 o7_3 = (bif (decide (i_2 < (List.length a_1:Int))) then ((idx? a_1 i_2).bind fun y4 => ((chk (decide (0 ≤ i_2) && decide (i_2 < (List.length o7_3:Int)))).bind fun _ => (laws_toInt64S.l0 R N n a_1 (w64 (i_2 + (1:Int))) (List.set o7_3 (Int.toNat i_2) (y4,()).1)))) else some ⟨o_laws_toInt64S,(o7_3,())⟩) := (hw _ _).trans (by kernel_rfl)
theorem laws_toInt64S.ev (R:Run) (N:Nat) (a0:(List Int)):evFn E R sg_laws_toInt64S pol_laws_toInt64S F_laws_toInt64S N [⟨yL,a0⟩] = ((chk (decide (0 ≤ (List.length a0:Int)) && decide ((List.length a0:Int) * 8 ≤ 70368744177664))).bind fun _ => (laws_toInt64S.l0 R N N a0 (0:Int) (List.replicate (Int.toNat (List.length a0:Int)) (0:Int)))) := by kernel_rfl
/-! loop.example/g01005/laws.toInt64SS -/
noncomputable def laws_toInt64SS.l0 (R:Run) (N:Nat) (n:Nat) (a_1:vK) (i_2:Int) (o7_3:vK):Option Dv := R.w (some ⟨(.c (.d yK a_1)::(V.dead::(V.dead::(.c (.arr 7)::(.c (.d yI i_2)::(zd 18 [])))))),(zo 7 (some (.arr yL o7_3 true false false)::(zo 17 [])))⟩) fun st => lC R pol_laws_toInt64SS 3 N [1,1,0,1,0,0] F_laws_toInt64SS n st (kB R pol_laws_toInt64SS 0 (kS R pol_laws_toInt64SS 6 N [1,1,1] F_laws_toInt64SS (kTop E sg_laws_toInt64SS F_laws_toInt64SS)))
theorem laws_toInt64SS.l0_succ (R:Run) (hw:R.ok) (N:Nat) (n:Nat) (a_1:vK) (i_2:Int) (o7_3:vK):laws_toInt64SS.l0 R N (n + 1) a_1 i_2 o7_3 = (bif (decide (i_2 < (List.length a_1:Int))) then ((idx? a_1 i_2).bind fun y4 => ((callT R n_laws_toInt64S o_laws_toInt64S [⟨yL,(y4,()).1⟩]).bind fun r5 => ((chk (decide (0 ≤ i_2) && decide (i_2 < (List.length o7_3:Int)))).bind fun _ => (laws_toInt64SS.l0 R N n a_1 (w64 (i_2 + (1:Int))) (List.set o7_3 (Int.toNat i_2) r5.1))))) else some ⟨o_laws_toInt64SS,(o7_3,())⟩) := (hw _ _).trans (by kernel_rfl)
theorem laws_toInt64SS.ev (R:Run) (N:Nat) (a0:vK):evFn E R sg_laws_toInt64SS pol_laws_toInt64SS F_laws_toInt64SS N [⟨yK,a0⟩] = ((chk (decide (0 ≤ (List.length a0:Int)) && decide ((List.length a0:Int) * 24 ≤ 70368744177664))).bind fun _ => (laws_toInt64SS.l0 R N N a0 (0:Int) (List.replicate (Int.toNat (List.length a0:Int)) ([]:List Int)))) := by kernel_rfl
/-! loop.example/g01005/laws.toComplex -/
theorem laws_toComplex.ev (R:Run) (N:Nat) (a0:vK):evFn E R sg_laws_toComplex pol_laws_toComplex F_laws_toComplex N [⟨yK,a0⟩] = ((callT R n_laws_toInt64SS o_laws_toInt64SS [⟨yK,a0⟩]).bind fun r1 => some ⟨o_laws_toComplex,(r1.1,())⟩) := by kernel_rfl
/-! loop.example/g01005/spec.l00In -/
theorem spec_l00In.ev (R:Run) (N:Nat) (a0:Int) (a1:Int) (a2:Int):evFn E R sg_spec_l00In pol_spec_l00In F_spec_l00In N [⟨yI,a0⟩,⟨yI,a1⟩,⟨yI,a2⟩] = (bif (decide (a0 ≥ a1)) then some ⟨o_spec_l00In,((decide (a0 ≤ a2)),())⟩ else some ⟨o_spec_l00In,(false,())⟩) := by kernel_rfl
/-! loop.example/g01005/spec.l00Rises -/
noncomputable def spec_l00Rises.j1 (R:Run) (N:Nat) (n00_:Nat) (list_7:(List Int)) (low_8:Int) (high_9:Int) (i_10:Int) (t37__11:Bool):Option Dv := R.w (some ⟨(.c (.d yL list_7)::(.c (.d yI low_8)::(.c (.d yI high_9)::(zd 4 (.c (.d yI i_10)::(zd 29 (.c (.d .bool t37__11)::[]))))))),(zo 41 [])⟩) fun st => eC R pol_spec_l00Rises N [1,0,1,0,0,1,0,0,1] F_spec_l00Rises st (kB R pol_spec_l00Rises 1 (kS R pol_spec_l00Rises 3 N [1,0,1,0,0,1,1] F_spec_l00Rises (kL R pol_spec_l00Rises 2 N [1,0,1,0,0] F_spec_l00Rises n00_ (kB R pol_spec_l00Rises 0 (kS R pol_spec_l00Rises 6 N [1,1] F_spec_l00Rises (kTop E sg_spec_l00Rises F_spec_l00Rises))))))
noncomputable def spec_l00Rises.l0 (R:Run) (N:Nat) (n:Nat) (list_1:(List Int)) (low_2:Int) (high_3:Int) (i_4:Int):Option Dv := R.w (some ⟨(.c (.d yL list_1)::(.c (.d yI low_2)::(.c (.d yI high_3)::(zd 4 (.c (.d yI i_4)::(zd 30 [])))))),(zo 41 [])⟩) fun st => lC R pol_spec_l00Rises 2 N [1,0,1,0,0] F_spec_l00Rises n st (kB R pol_spec_l00Rises 0 (kS R pol_spec_l00Rises 6 N [1,1] F_spec_l00Rises (kTop E sg_spec_l00Rises F_spec_l00Rises)))
theorem spec_l00Rises.j1_eq (R:Run) (hw:R.ok) (N:Nat) (n00_:Nat) (list_7:(List Int)) (low_8:Int) (high_9:Int) (i_10:Int) (t37__11:Bool):spec_l00Rises.j1 R N n00_ list_7 low_8 high_9 i_10 t37__11 = (bif t37__11 then some ⟨o_spec_l00Rises,(false,())⟩ else (spec_l00Rises.l0 R N n00_ list_7 low_8 high_9 (w64 (i_10 + (1:Int))))) := (hw _ _).trans (by kernel_rfl)
theorem spec_l00Rises.l0_succ (R:Run) (hw:R.ok) (N:Nat) (n:Nat) (list_1:(List Int)) (low_2:Int) (high_3:Int) (i_4:Int):spec_l00Rises.l0 R N (n + 1) list_1 low_2 high_3 i_4 = (bif (decide (i_4 < (List.length list_1:Int))) then ((idx? list_1 i_4).bind fun y5 => ((callT R n_spec_l00In o_spec_l00In [⟨yI,(y5,()).1⟩,⟨yI,low_2⟩,⟨yI,high_3⟩]).bind fun r6 => (bif (!r6.1) then (spec_l00Rises.j1 R N n list_1 low_2 high_3 i_4 true) else (bif (decide (i_4 > (0:Int))) then ((idx? list_1 (w64 (i_4 - (1:Int)))).bind fun y16 => ((idx? list_1 i_4).bind fun y17 => (spec_l00Rises.j1 R N n list_1 low_2 high_3 i_4 (decide ((y16,()).1 ≥ (y17,()).1))))) else (spec_l00Rises.j1 R N n list_1 low_2 high_3 i_4 false))))) else some ⟨o_spec_l00Rises,(true,())⟩) := (hw _ _).trans (by kernel_rfl)
theorem spec_l00Rises.ev (R:Run) (N:Nat) (a0:(List Int)) (a1:Int) (a2:Int):evFn E R sg_spec_l00Rises pol_spec_l00Rises F_spec_l00Rises N [⟨yL,a0⟩,⟨yI,a1⟩,⟨yI,a2⟩] = (spec_l00Rises.l0 R N N a0 a1 a2 (0:Int)) := by kernel_rfl
/-! loop.example/g01005/spec.l05Simplex -/
theorem spec_l05Simplex.ev (R:Run) (N:Nat) (a0:(List Int)):evFn E R sg_spec_l05Simplex pol_spec_l05Simplex F_spec_l05Simplex N [⟨yL,a0⟩] = ((callT R n_spec_l00In o_spec_l00In [⟨yI,(List.length a0:Int)⟩,⟨yI,(1:Int)⟩,⟨yI,(4:Int)⟩]).bind fun r1 => (bif r1.1 then ((callT R n_spec_l00Rises o_spec_l00Rises [⟨yL,a0⟩,⟨yI,(0:Int)⟩,⟨yI,(9:Int)⟩]).bind fun r2 => some ⟨o_spec_l05Simplex,(r2.1,())⟩) else some ⟨o_spec_l05Simplex,(false,())⟩)) := by kernel_rfl
/-! loop.example/g01005/spec.l05Before -/
noncomputable def spec_l05Before.l0 (R:Run) (N:Nat) (n:Nat) (a_1:(List Int)) (b_2:(List Int)) (i_3:Int):Option Dv := R.w (some ⟨(.c (.d yL a_1)::(.c (.d yL b_2)::(zd 3 (.c (.d yI i_3)::(zd 34 []))))),(zo 42 [])⟩) fun st => lC R pol_spec_l05Before 4 N [1,1,0,1,0,0] F_spec_l05Before n st (kB R pol_spec_l05Before 0 (kS R pol_spec_l05Before 8 N [1,1,1] F_spec_l05Before (kTop E sg_spec_l05Before F_spec_l05Before)))
theorem spec_l05Before.l0_succ (R:Run) (hw:R.ok) (N:Nat) (n:Nat) (a_1:(List Int)) (b_2:(List Int)) (i_3:Int):spec_l05Before.l0 R N (n + 1) a_1 b_2 i_3 = (bif (decide (i_3 < (List.length a_1:Int))) then ((idx? a_1 i_3).bind fun y4 => ((idx? b_2 i_3).bind fun y5 => (bif ((y4,()).1 != (y5,()).1) then ((idx? a_1 i_3).bind fun y6 => ((idx? b_2 i_3).bind fun y7 => some ⟨o_spec_l05Before,((decide ((y6,()).1 < (y7,()).1)),())⟩)) else (spec_l05Before.l0 R N n a_1 b_2 (w64 (i_3 + (1:Int))))))) else some ⟨o_spec_l05Before,(false,())⟩) := (hw _ _).trans (by kernel_rfl)
theorem spec_l05Before.ev (R:Run) (N:Nat) (a0:(List Int)) (a1:(List Int)):evFn E R sg_spec_l05Before pol_spec_l05Before F_spec_l05Before N [⟨yL,a0⟩,⟨yL,a1⟩] = (bif ((List.length a0:Int) != (List.length a1:Int)) then some ⟨o_spec_l05Before,((decide ((List.length a0:Int) < (List.length a1:Int))),())⟩ else (spec_l05Before.l0 R N N a0 a1 (0:Int))) := by kernel_rfl
/-! loop.example/g01005/spec.l00Own -/
theorem spec_l00Own.ev (R:Run) (N:Nat) (a0:(List Int)):evFn E R sg_spec_l00Own pol_spec_l00Own F_spec_l00Own N [⟨yL,a0⟩] = ((chk (decide ((List.length ([]:List Int) + List.length a0) * 8 ≤ 70368744177664))).bind fun _ => some ⟨o_spec_l00Own,((([]:List Int) ++ a0),())⟩) := by kernel_rfl
/-! loop.example/g01005/spec.l05Drop -/
theorem spec_l05Drop.ev (R:Run) (N:Nat) (a0:(List Int)) (a1:Int):evFn E R sg_spec_l05Drop pol_spec_l05Drop F_spec_l05Drop N [⟨yL,a0⟩,⟨yI,a1⟩] = ((chk (decide (0 ≤ a1) && decide (a1 ≤ (List.length a0:Int)))).bind fun _ => ((callT R n_spec_l00Own o_spec_l00Own [⟨yL,(List.take (Int.toNat a1) a0)⟩]).bind fun r1 => ((chk (decide (0 ≤ (w64 (a1 + (1:Int)))) && decide ((w64 (a1 + (1:Int))) ≤ (List.length a0:Int)))).bind fun _ => ((chk (decide ((List.length r1.1 + List.length (List.drop (Int.toNat (w64 (a1 + (1:Int)))) a0)) * 8 ≤ 70368744177664))).bind fun _ => some ⟨o_spec_l05Drop,((r1.1 ++ (List.drop (Int.toNat (w64 (a1 + (1:Int)))) a0)),())⟩)))) := by kernel_rfl
/-! loop.example/g01005/spec.l00Same -/
noncomputable def spec_l00Same.l0 (R:Run) (N:Nat) (n:Nat) (a_1:(List Int)) (b_2:(List Int)) (i_3:Int):Option Dv := R.w (some ⟨(.c (.d yL a_1)::(.c (.d yL b_2)::(zd 3 (.c (.d yI i_3)::(zd 20 []))))),(zo 28 [])⟩) fun st => lC R pol_spec_l00Same 4 N [1,1,0,1,0,0] F_spec_l00Same n st (kB R pol_spec_l00Same 0 (kS R pol_spec_l00Same 8 N [1,1,1] F_spec_l00Same (kTop E sg_spec_l00Same F_spec_l00Same)))
theorem spec_l00Same.l0_succ (R:Run) (hw:R.ok) (N:Nat) (n:Nat) (a_1:(List Int)) (b_2:(List Int)) (i_3:Int):spec_l00Same.l0 R N (n + 1) a_1 b_2 i_3 = (bif (decide (i_3 < (List.length a_1:Int))) then ((idx? a_1 i_3).bind fun y4 => ((idx? b_2 i_3).bind fun y5 => (bif ((y4,()).1 != (y5,()).1) then some ⟨o_spec_l00Same,(false,())⟩ else (spec_l00Same.l0 R N n a_1 b_2 (w64 (i_3 + (1:Int))))))) else some ⟨o_spec_l00Same,(true,())⟩) := (hw _ _).trans (by kernel_rfl)
theorem spec_l00Same.ev (R:Run) (N:Nat) (a0:(List Int)) (a1:(List Int)):evFn E R sg_spec_l00Same pol_spec_l00Same F_spec_l00Same N [⟨yL,a0⟩,⟨yL,a1⟩] = (bif ((List.length a0:Int) != (List.length a1:Int)) then some ⟨o_spec_l00Same,(false,())⟩ else (spec_l00Same.l0 R N N a0 a1 (0:Int))) := by kernel_rfl
/-! loop.example/g01005/spec.l05Find -/
noncomputable def spec_l05Find.l0 (R:Run) (N:Nat) (n:Nat) (c_1:(vK × Unit)) (s_2:(List Int)) (i_3:Int):Option Dv := R.w (some ⟨(.c (.ip (.cons yK .nil) c_1 0)::(.c (.d yL s_2)::(zd 3 (.c (.d yI i_3)::(zd 19 []))))),(zo 27 [])⟩) fun st => lC R pol_spec_l05Find 2 N [1,0,1,0,0] F_spec_l05Find n st (kB R pol_spec_l05Find 0 (kS R pol_spec_l05Find 6 N [1,1] F_spec_l05Find (kTop E sg_spec_l05Find F_spec_l05Find)))
theorem spec_l05Find.l0_succ (R:Run) (hw:R.ok) (N:Nat) (n:Nat) (c_1:(vK × Unit)) (s_2:(List Int)) (i_3:Int):spec_l05Find.l0 R N (n + 1) c_1 s_2 i_3 = (bif (decide (i_3 < (List.length c_1.1:Int))) then ((idx? c_1.1 i_3).bind fun y4 => ((callT R n_spec_l00Same o_spec_l00Same [⟨yL,(y4,()).1⟩,⟨yL,s_2⟩]).bind fun r5 => (bif r5.1 then some ⟨o_spec_l05Find,(i_3,())⟩ else (spec_l05Find.l0 R N n c_1 s_2 (w64 (i_3 + (1:Int))))))) else some ⟨o_spec_l05Find,((-1:Int),())⟩) := (hw _ _).trans (by kernel_rfl)
theorem spec_l05Find.ev (R:Run) (N:Nat) (a0:(vK × Unit)) (a1:(List Int)):evFn E R sg_spec_l05Find pol_spec_l05Find F_spec_l05Find N [⟨(.ptr (.cons yK .nil)),a0⟩,⟨yL,a1⟩] = (spec_l05Find.l0 R N N a0 a1 (0:Int)) := by kernel_rfl
/-! loop.example/g01005/spec.l05Ok -/
noncomputable def spec_l05Ok.j3 (R:Run) (N:Nat) (n01_:Nat) (n02_:Nat) (t0__13:(vK × Unit)) (t3__14:Int) (t4__15:(List Int)) (t5__16:Int) (t56__17:Bool):Option Dv := R.w (some ⟨(.c (.ip (.cons yK .nil) t0__13 0)::(V.dead::(V.dead::(.c (.d yI t3__14)::(.c (.d yL t4__15)::(.c (.d yI t5__16)::(zd 50 (.c (.d .bool t56__17)::(zd 8 []))))))))),(zo 66 [])⟩) fun st => eC R pol_spec_l05Ok N [1,1,0,1,0,0,1,0,0,1,1,1,0,0,0,1] F_spec_l05Ok st (kS R pol_spec_l05Ok 12 N [1,1,0,1,0,0,1,0,0,1,1,1,0,0,1] F_spec_l05Ok (kL R pol_spec_l05Ok 10 N [1,1,0,1,0,0,1,0,0,1,1,1,0,0] F_spec_l05Ok n02_ (kB R pol_spec_l05Ok 2 (kB R pol_spec_l05Ok 1 (kS R pol_spec_l05Ok 5 N [1,1,0,1,0,0,1,1] F_spec_l05Ok (kL R pol_spec_l05Ok 4 N [1,1,0,1,0,0] F_spec_l05Ok n01_ (kB R pol_spec_l05Ok 0 (kS R pol_spec_l05Ok 14 N [1,1,1] F_spec_l05Ok (kTop E sg_spec_l05Ok F_spec_l05Ok)))))))))
noncomputable def spec_l05Ok.l2 (R:Run) (N:Nat) (n01_:Nat) (n:Nat) (t0__9:(vK × Unit)) (t3__10:Int) (t4__11:(List Int)) (t5__12:Int):Option Dv := R.w (some ⟨(.c (.ip (.cons yK .nil) t0__9 0)::(V.dead::(V.dead::(.c (.d yI t3__10)::(.c (.d yL t4__11)::(.c (.d yI t5__12)::(zd 59 []))))))),(zo 66 [])⟩) fun st => lC R pol_spec_l05Ok 10 N [1,1,0,1,0,0,1,0,0,1,1,1,0,0] F_spec_l05Ok n st (kB R pol_spec_l05Ok 2 (kB R pol_spec_l05Ok 1 (kS R pol_spec_l05Ok 5 N [1,1,0,1,0,0,1,1] F_spec_l05Ok (kL R pol_spec_l05Ok 4 N [1,1,0,1,0,0] F_spec_l05Ok n01_ (kB R pol_spec_l05Ok 0 (kS R pol_spec_l05Ok 14 N [1,1,1] F_spec_l05Ok (kTop E sg_spec_l05Ok F_spec_l05Ok)))))))
noncomputable def spec_l05Ok.j1 (R:Run) (N:Nat) (n01_:Nat) (t0__5:(vK × Unit)) (t3__6:Int) (t4__7:(List Int)) (t47__8:Bool):Option Dv := R.w (some ⟨(.c (.ip (.cons yK .nil) t0__5 0)::(V.dead::(V.dead::(.c (.d yI t3__6)::(.c (.d yL t4__7)::(zd 42 (.c (.d .bool t47__8)::(zd 17 [])))))))),(zo 66 [])⟩) fun st => eC R pol_spec_l05Ok N [1,1,0,1,0,0,1,0,0,1,0,1] F_spec_l05Ok st (kS R pol_spec_l05Ok 9 N [1,1,0,1,0,0,1,0,0,1,1] F_spec_l05Ok (kB R pol_spec_l05Ok 1 (kS R pol_spec_l05Ok 5 N [1,1,0,1,0,0,1,1] F_spec_l05Ok (kL R pol_spec_l05Ok 4 N [1,1,0,1,0,0] F_spec_l05Ok n01_ (kB R pol_spec_l05Ok 0 (kS R pol_spec_l05Ok 14 N [1,1,1] F_spec_l05Ok (kTop E sg_spec_l05Ok F_spec_l05Ok)))))))
noncomputable def spec_l05Ok.l0 (R:Run) (N:Nat) (n:Nat) (t0__1:(vK × Unit)) (t3__2:Int):Option Dv := R.w (some ⟨(.c (.ip (.cons yK .nil) t0__1 0)::(V.dead::(V.dead::(.c (.d yI t3__2)::(zd 61 []))))),(zo 66 [])⟩) fun st => lC R pol_spec_l05Ok 4 N [1,1,0,1,0,0] F_spec_l05Ok n st (kB R pol_spec_l05Ok 0 (kS R pol_spec_l05Ok 14 N [1,1,1] F_spec_l05Ok (kTop E sg_spec_l05Ok F_spec_l05Ok)))
theorem spec_l05Ok.j3_eq (R:Run) (hw:R.ok) (N:Nat) (n01_:Nat) (n02_:Nat) (t0__13:(vK × Unit)) (t3__14:Int) (t4__15:(List Int)) (t5__16:Int) (t56__17:Bool):spec_l05Ok.j3 R N n01_ n02_ t0__13 t3__14 t4__15 t5__16 t56__17 = (bif t56__17 then ((callT R n_spec_l05Drop o_spec_l05Drop [⟨yL,t4__15⟩,⟨yI,t5__16⟩]).bind fun r18 => ((callT R n_spec_l05Find o_spec_l05Find [⟨(.ptr (.cons yK .nil)),t0__13⟩,⟨yL,r18.1⟩]).bind fun r19 => (bif (decide (r19.1 < (0:Int))) then some ⟨o_spec_l05Ok,(false,())⟩ else (spec_l05Ok.l2 R N n01_ n02_ t0__13 t3__14 t4__15 (w64 (t5__16 + (1:Int))))))) else (spec_l05Ok.l0 R N n01_ t0__13 (w64 (t3__14 + (1:Int))))) := (hw _ _).trans (by kernel_rfl)
theorem spec_l05Ok.l2_succ (R:Run) (hw:R.ok) (N:Nat) (n01_:Nat) (n:Nat) (t0__9:(vK × Unit)) (t3__10:Int) (t4__11:(List Int)) (t5__12:Int):spec_l05Ok.l2 R N n01_ (n + 1) t0__9 t3__10 t4__11 t5__12 = (bif (decide (t5__12 < (List.length t4__11:Int))) then (spec_l05Ok.j3 R N n01_ n t0__9 t3__10 t4__11 t5__12 (decide ((List.length t4__11:Int) > (1:Int)))) else (spec_l05Ok.j3 R N n01_ n t0__9 t3__10 t4__11 t5__12 false)) := (hw _ _).trans (by kernel_rfl)
theorem spec_l05Ok.j1_eq (R:Run) (hw:R.ok) (N:Nat) (n01_:Nat) (t0__5:(vK × Unit)) (t3__6:Int) (t4__7:(List Int)) (t47__8:Bool):spec_l05Ok.j1 R N n01_ t0__5 t3__6 t4__7 t47__8 = (bif t47__8 then some ⟨o_spec_l05Ok,(false,())⟩ else (spec_l05Ok.l2 R N n01_ N t0__5 t3__6 t4__7 (0:Int))) := (hw _ _).trans (by kernel_rfl)
theorem spec_l05Ok.l0_succ (R:Run) (hw:R.ok) (N:Nat) (n:Nat) (t0__1:(vK × Unit)) (t3__2:Int):spec_l05Ok.l0 R N (n + 1) t0__1 t3__2 = (bif (decide (t3__2 < (List.length t0__1.1:Int))) then ((idx? t0__1.1 t3__2).bind fun y3 => ((callT R n_spec_l05Simplex o_spec_l05Simplex [⟨yL,(y3,()).1⟩]).bind fun r4 => (bif (!r4.1) then (spec_l05Ok.j1 R N n t0__1 t3__2 ((y3,()).1) true) else (bif (decide (t3__2 > (0:Int))) then ((idx? t0__1.1 (w64 (t3__2 - (1:Int)))).bind fun y31 => ((callT R n_spec_l05Before o_spec_l05Before [⟨yL,(y31,()).1⟩,⟨yL,(y3,()).1⟩]).bind fun r32 => (spec_l05Ok.j1 R N n t0__1 t3__2 ((y3,()).1) (!r32.1)))) else (spec_l05Ok.j1 R N n t0__1 t3__2 ((y3,()).1) false))))) else some ⟨o_spec_l05Ok,(true,())⟩) := (hw _ _).trans (by kernel_rfl)
theorem spec_l05Ok.ev (R:Run) (N:Nat) (a0:(vK × Unit)):evFn E R sg_spec_l05Ok pol_spec_l05Ok F_spec_l05Ok N [⟨(.ptr (.cons yK .nil)),a0⟩] = (bif (decide ((List.length a0.1:Int) > (48:Int))) then some ⟨o_spec_l05Ok,(false,())⟩ else (spec_l05Ok.l0 R N N a0 (0:Int))) := by kernel_rfl
/-! loop.example/g01005/spec.l08Vertices -/
noncomputable def spec_l08Vertices.l0 (R:Run) (N:Nat) (n:Nat) (c_1:(vK × Unit)) (i_2:Int) (o5_3:(List Int)):Option Dv := R.w (some ⟨(.c (.ip (.cons yK .nil) c_1 0)::(V.dead::(V.dead::(.c (.arr 5)::(.c (.d yI i_2)::(zd 32 [])))))),(zo 5 (some (.arr yI o5_3 true false false)::(zo 32 [])))⟩) fun st => lC R pol_spec_l08Vertices 3 N [1,1,0,1,0,0] F_spec_l08Vertices n st (kB R pol_spec_l08Vertices 0 (kS R pol_spec_l08Vertices 7 N [1,1,1] F_spec_l08Vertices (kTop E sg_spec_l08Vertices F_spec_l08Vertices)))
theorem spec_l08Vertices.l0_succ (R:Run) (hw:R.ok) (N:Nat) (n:Nat) (c_1:(vK × Unit)) (i_2:Int) (o5_3:(List Int)):spec_l08Vertices.l0 R N (n + 1) c_1 i_2 o5_3 = (bif (decide (i_2 < (List.length c_1.1:Int))) then ((idx? c_1.1 i_2).bind fun y4 => (bif ((List.length (y4,()).1:Int) == (1:Int)) then ((idx? c_1.1 i_2).bind fun y5 => ((idx? (y5,()).1 (0:Int)).bind fun y6 => ((chk (decide ((List.length o5_3 + List.length [(y6,()).1]) * 8 ≤ 70368744177664))).bind fun _ => (spec_l08Vertices.l0 R N n c_1 (w64 (i_2 + (1:Int))) (o5_3 ++ [(y6,()).1]))))) else (spec_l08Vertices.l0 R N n c_1 (w64 (i_2 + (1:Int))) o5_3))) else some ⟨o_spec_l08Vertices,(o5_3,())⟩) := (hw _ _).trans (by kernel_rfl)
theorem spec_l08Vertices.ev (R:Run) (N:Nat) (a0:(vK × Unit)):evFn E R sg_spec_l08Vertices pol_spec_l08Vertices F_spec_l08Vertices N [⟨(.ptr (.cons yK .nil)),a0⟩] = (spec_l08Vertices.l0 R N N a0 (0:Int) ([]:List Int)) := by kernel_rfl
/-! loop.example/g01005/spec.l08Told -/
noncomputable def spec_l08Told.l0 (R:Run) (N:Nat) (n:Nat) (vertices_1:(List Int)) (images_2:(List Int)) (v_3:Int) (i_4:Int):Option Dv := R.w (some ⟨(.c (.d yL vertices_1)::(.c (.d yL images_2)::(.c (.d yI v_3)::(zd 4 (.c (.d yI i_4)::(zd 16 [])))))),(zo 27 [])⟩) fun st => lC R pol_spec_l08Told 2 N [1,0,1,0,0] F_spec_l08Told n st (kB R pol_spec_l08Told 0 (kS R pol_spec_l08Told 6 N [1,1] F_spec_l08Told (kTop E sg_spec_l08Told F_spec_l08Told)))
theorem spec_l08Told.l0_succ (R:Run) (hw:R.ok) (N:Nat) (n:Nat) (vertices_1:(List Int)) (images_2:(List Int)) (v_3:Int) (i_4:Int):spec_l08Told.l0 R N (n + 1) vertices_1 images_2 v_3 i_4 = (bif (decide (i_4 < (List.length images_2:Int))) then ((idx? vertices_1 i_4).bind fun y5 => (bif ((y5,()).1 == v_3) then ((idx? images_2 i_4).bind fun y6 => some ⟨o_spec_l08Told,((y6,()).1,())⟩) else (spec_l08Told.l0 R N n vertices_1 images_2 v_3 (w64 (i_4 + (1:Int)))))) else some ⟨o_spec_l08Told,((-1:Int),())⟩) := (hw _ _).trans (by kernel_rfl)
theorem spec_l08Told.ev (R:Run) (N:Nat) (a0:(List Int)) (a1:(List Int)) (a2:Int):evFn E R sg_spec_l08Told pol_spec_l08Told F_spec_l08Told N [⟨yL,a0⟩,⟨yL,a1⟩,⟨yI,a2⟩] = (spec_l08Told.l0 R N N a0 a1 a2 (0:Int)) := by kernel_rfl
/-! loop.example/g01005/spec.l00Put -/
noncomputable def spec_l00Put.j2 (R:Run) (N:Nat) (n03_:Nat) (list_14:(List Int)) (n_15:Int) (done_16:Bool) (i_17:Int) (o8_18:(List Int)):Option Dv := R.w (some ⟨(.c (.d yL list_14)::(.c (.d yI n_15)::(zd 3 (.c (.arr 8)::(.c (.d .bool done_16)::(.c (.d yI i_17)::(zd 41 []))))))),(zo 8 (some (.arr yI o8_18 true false false)::(zo 42 [])))⟩) fun st => eC R pol_spec_l00Put N [1,1,1,0,1,0,0,1,0,0,1] F_spec_l00Put st (kB R pol_spec_l00Put 1 (kS R pol_spec_l00Put 5 N [1,1,1,0,1,0,0,1,1] F_spec_l00Put (kL R pol_spec_l00Put 4 N [1,1,1,0,1,0,0] F_spec_l00Put n03_ (kB R pol_spec_l00Put 0 (kS R pol_spec_l00Put 11 N [1,1,1,1] F_spec_l00Put (kTop E sg_spec_l00Put F_spec_l00Put))))))
noncomputable def spec_l00Put.j1 (R:Run) (N:Nat) (n03_:Nat) (list_7:(List Int)) (n_8:Int) (done_9:Bool) (i_10:Int) (t24__11:Bool) (o8_12:(List Int)):Option Dv := R.w (some ⟨(.c (.d yL list_7)::(.c (.d yI n_8)::(zd 3 (.c (.arr 8)::(.c (.d .bool done_9)::(.c (.d yI i_10)::(zd 16 (.c (.d .bool t24__11)::(zd 24 []))))))))),(zo 8 (some (.arr yI o8_12 true false false)::(zo 42 [])))⟩) fun st => eC R pol_spec_l00Put N [1,1,1,0,1,0,0,1,0,0,0,1] F_spec_l00Put st (kS R pol_spec_l00Put 10 N [1,1,1,0,1,0,0,1,0,0,1] F_spec_l00Put (kB R pol_spec_l00Put 1 (kS R pol_spec_l00Put 5 N [1,1,1,0,1,0,0,1,1] F_spec_l00Put (kL R pol_spec_l00Put 4 N [1,1,1,0,1,0,0] F_spec_l00Put n03_ (kB R pol_spec_l00Put 0 (kS R pol_spec_l00Put 11 N [1,1,1,1] F_spec_l00Put (kTop E sg_spec_l00Put F_spec_l00Put)))))))
noncomputable def spec_l00Put.l0 (R:Run) (N:Nat) (n:Nat) (list_1:(List Int)) (n_2:Int) (done_3:Bool) (i_4:Int) (o8_5:(List Int)):Option Dv := R.w (some ⟨(.c (.d yL list_1)::(.c (.d yI n_2)::(zd 3 (.c (.arr 8)::(.c (.d .bool done_3)::(.c (.d yI i_4)::(zd 41 []))))))),(zo 8 (some (.arr yI o8_5 true false false)::(zo 42 [])))⟩) fun st => lC R pol_spec_l00Put 4 N [1,1,1,0,1,0,0] F_spec_l00Put n st (kB R pol_spec_l00Put 0 (kS R pol_spec_l00Put 11 N [1,1,1,1] F_spec_l00Put (kTop E sg_spec_l00Put F_spec_l00Put)))
theorem spec_l00Put.j2_eq (R:Run) (hw:R.ok) (N:Nat) (n03_:Nat) (list_14:(List Int)) (n_15:Int) (done_16:Bool) (i_17:Int) (o8_18:(List Int)):spec_l00Put.j2 R N n03_ list_14 n_15 done_16 i_17 o8_18 = ((idx? list_14 i_17).bind fun y19 => ((chk (decide ((List.length o8_18 + List.length [(y19,()).1]) * 8 ≤ 70368744177664))).bind fun _ => (spec_l00Put.l0 R N n03_ list_14 n_15 done_16 (w64 (i_17 + (1:Int))) (o8_18 ++ [(y19,()).1])))) := (hw _ _).trans (by kernel_rfl)
theorem spec_l00Put.j1_eq (R:Run) (hw:R.ok) (N:Nat) (n03_:Nat) (list_7:(List Int)) (n_8:Int) (done_9:Bool) (i_10:Int) (t24__11:Bool) (o8_12:(List Int)):spec_l00Put.j1 R N n03_ list_7 n_8 done_9 i_10 t24__11 o8_12 = (bif t24__11 then ((idx? list_7 i_10).bind fun y13 => (bif (decide ((y13,()).1 > n_8)) then ((chk (decide ((List.length o8_12 + List.length [n_8]) * 8 ≤ 70368744177664))).bind fun _ => (spec_l00Put.j2 R N n03_ list_7 n_8 true i_10 (o8_12 ++ [n_8]))) else (spec_l00Put.j2 R N n03_ list_7 n_8 true i_10 o8_12))) else (spec_l00Put.j2 R N n03_ list_7 n_8 done_9 i_10 o8_12)) := (hw _ _).trans (by kernel_rfl)
theorem spec_l00Put.l0_succ (R:Run) (hw:R.ok) (N:Nat) (n:Nat) (list_1:(List Int)) (n_2:Int) (done_3:Bool) (i_4:Int) (o8_5:(List Int)):spec_l00Put.l0 R N (n + 1) list_1 n_2 done_3 i_4 o8_5 = (bif (decide (i_4 < (List.length list_1:Int))) then (bif (!done_3) then ((idx? list_1 i_4).bind fun y6 => (spec_l00Put.j1 R N n list_1 n_2 done_3 i_4 (decide ((y6,()).1 ≥ n_2)) o8_5)) else (spec_l00Put.j1 R N n list_1 n_2 done_3 i_4 false o8_5)) else (bif (!done_3) then ((chk (decide ((List.length o8_5 + List.length [n_2]) * 8 ≤ 70368744177664))).bind fun _ => some ⟨o_spec_l00Put,((o8_5 ++ [n_2]),())⟩) else some ⟨o_spec_l00Put,(o8_5,())⟩)) := (hw _ _).trans (by kernel_rfl)
theorem spec_l00Put.ev (R:Run) (N:Nat) (a0:(List Int)) (a1:Int):evFn E R sg_spec_l00Put pol_spec_l00Put F_spec_l00Put N [⟨yL,a0⟩,⟨yI,a1⟩] = (spec_l00Put.l0 R N N a0 a1 false (0:Int) ([]:List Int)) := by kernel_rfl
/-! loop.example/g01005/spec.l08Image -/
noncomputable def spec_l08Image.l0 (R:Run) (N:Nat) (n:Nat) (vertices_1:(List Int)) (images_2:(List Int)) (simplex_3:(List Int)) (out_4:(List Int)) (i_5:Int):Option Dv := R.w (some ⟨(.c (.d yL vertices_1)::(.c (.d yL images_2)::(.c (.d yL simplex_3)::(zd 5 (.c (.d yL out_4)::(.c (.d yI i_5)::(zd 21 []))))))),(zo 34 [])⟩) fun st => lC R pol_spec_l08Image 3 N [1,1,0,1,0,0] F_spec_l08Image n st (kB R pol_spec_l08Image 0 (kS R pol_spec_l08Image 9 N [1,1,1] F_spec_l08Image (kTop E sg_spec_l08Image F_spec_l08Image)))
theorem spec_l08Image.l0_succ (R:Run) (hw:R.ok) (N:Nat) (n:Nat) (vertices_1:(List Int)) (images_2:(List Int)) (simplex_3:(List Int)) (out_4:(List Int)) (i_5:Int):spec_l08Image.l0 R N (n + 1) vertices_1 images_2 simplex_3 out_4 i_5 = (bif (decide (i_5 < (List.length simplex_3:Int))) then ((idx? simplex_3 i_5).bind fun y6 => ((callT R n_spec_l08Told o_spec_l08Told [⟨yL,vertices_1⟩,⟨yL,images_2⟩,⟨yI,(y6,()).1⟩]).bind fun r7 => (bif (decide (r7.1 < (0:Int))) then some ⟨o_spec_l08Image,(([]:List Int),false,())⟩ else ((callT R n_spec_l00Put o_spec_l00Put [⟨yL,out_4⟩,⟨yI,r7.1⟩]).bind fun r8 => (spec_l08Image.l0 R N n vertices_1 images_2 simplex_3 r8.1 (w64 (i_5 + (1:Int)))))))) else some ⟨o_spec_l08Image,(out_4,true,())⟩) := (hw _ _).trans (by kernel_rfl)
theorem spec_l08Image.ev (R:Run) (N:Nat) (a0:(List Int)) (a1:(List Int)) (a2:(List Int)):evFn E R sg_spec_l08Image pol_spec_l08Image F_spec_l08Image N [⟨yL,a0⟩,⟨yL,a1⟩,⟨yL,a2⟩] = (spec_l08Image.l0 R N N a0 a1 a2 ([]:List Int) (0:Int)) := by kernel_rfl
/-! loop.example/g01005/spec.l08Fits -/
noncomputable def spec_l08Fits.j1 (R:Run) (N:Nat) (n00_:Nat) (a_9:(vK × Unit)) (b_10:(vK × Unit)) (vertices_11:(List Int)) (images_12:(List Int)) (i_13:Int) (t40__14:Bool):Option Dv := R.w (some ⟨(.c (.ip (.cons yK .nil) a_9 0)::(.c (.ip (.cons yK .nil) b_10 0)::(.c (.d yL vertices_11)::(.c (.d yL images_12)::(zd 5 (.c (.d yI i_13)::(zd 30 (.c (.d .bool t40__14)::[])))))))),(zo 45 [])⟩) fun st => eC R pol_spec_l08Fits N [1,0,1,0,0,1,0,0,1,1] F_spec_l08Fits st (kB R pol_spec_l08Fits 1 (kS R pol_spec_l08Fits 3 N [1,0,1,0,0,1,1] F_spec_l08Fits (kL R pol_spec_l08Fits 2 N [1,0,1,0,0] F_spec_l08Fits n00_ (kB R pol_spec_l08Fits 0 (kS R pol_spec_l08Fits 7 N [1,1] F_spec_l08Fits (kTop E sg_spec_l08Fits F_spec_l08Fits))))))
noncomputable def spec_l08Fits.l0 (R:Run) (N:Nat) (n:Nat) (a_1:(vK × Unit)) (b_2:(vK × Unit)) (vertices_3:(List Int)) (images_4:(List Int)) (i_5:Int):Option Dv := R.w (some ⟨(.c (.ip (.cons yK .nil) a_1 0)::(.c (.ip (.cons yK .nil) b_2 0)::(.c (.d yL vertices_3)::(.c (.d yL images_4)::(zd 5 (.c (.d yI i_5)::(zd 31 []))))))),(zo 45 [])⟩) fun st => lC R pol_spec_l08Fits 2 N [1,0,1,0,0] F_spec_l08Fits n st (kB R pol_spec_l08Fits 0 (kS R pol_spec_l08Fits 7 N [1,1] F_spec_l08Fits (kTop E sg_spec_l08Fits F_spec_l08Fits)))
theorem spec_l08Fits.j1_eq (R:Run) (hw:R.ok) (N:Nat) (n00_:Nat) (a_9:(vK × Unit)) (b_10:(vK × Unit)) (vertices_11:(List Int)) (images_12:(List Int)) (i_13:Int) (t40__14:Bool):spec_l08Fits.j1 R N n00_ a_9 b_10 vertices_11 images_12 i_13 t40__14 = (bif t40__14 then some ⟨o_spec_l08Fits,(false,())⟩ else (spec_l08Fits.l0 R N n00_ a_9 b_10 vertices_11 images_12 (w64 (i_13 + (1:Int))))) := (hw _ _).trans (by kernel_rfl)
theorem spec_l08Fits.l0_succ (R:Run) (hw:R.ok) (N:Nat) (n:Nat) (a_1:(vK × Unit)) (b_2:(vK × Unit)) (vertices_3:(List Int)) (images_4:(List Int)) (i_5:Int):spec_l08Fits.l0 R N (n + 1) a_1 b_2 vertices_3 images_4 i_5 = (bif (decide (i_5 < (List.length a_1.1:Int))) then ((idx? a_1.1 i_5).bind fun y6 => ((callT R n_spec_l08Image o_spec_l08Image [⟨yL,vertices_3⟩,⟨yL,images_4⟩,⟨yL,(y6,()).1⟩]).bind fun r7 => (bif r7.2.1 then ((callT R n_spec_l05Find o_spec_l05Find [⟨(.ptr (.cons yK .nil)),b_2⟩,⟨yL,r7.1⟩]).bind fun r8 => (spec_l08Fits.j1 R N n a_1 b_2 vertices_3 images_4 i_5 (decide (r8.1 < (0:Int))))) else (spec_l08Fits.j1 R N n a_1 b_2 vertices_3 images_4 i_5 false)))) else some ⟨o_spec_l08Fits,(true,())⟩) := (hw _ _).trans (by kernel_rfl)
theorem spec_l08Fits.ev (R:Run) (N:Nat) (a0:(vK × Unit)) (a1:(vK × Unit)) (a2:(List Int)) (a3:(List Int)):evFn E R sg_spec_l08Fits pol_spec_l08Fits F_spec_l08Fits N [⟨(.ptr (.cons yK .nil)),a0⟩,⟨(.ptr (.cons yK .nil)),a1⟩,⟨yL,a2⟩,⟨yL,a3⟩] = (spec_l08Fits.l0 R N N a0 a1 a2 a3 (0:Int)) := by kernel_rfl
/-! loop.example/g01005/spec.l08Map -/
noncomputable def spec_l08Map.l0 (R:Run) (N:Nat) (n:Nat) (a_2:(vK × Unit)) (b_3:(vK × Unit)) (images_4:(List Int)) (vertices_5:(List Int)) (i_6:Int):Option Dv := R.w (some ⟨(.c (.ip (.cons yK .nil) a_2 0)::(.c (.ip (.cons yK .nil) b_3 0)::(.c (.d yL images_4)::(zd 4 (.c (.d yL vertices_5)::(.c (.d yI i_6)::(zd 26 []))))))),(zo 38 [])⟩) fun st => lC R pol_spec_l08Map 3 N [1,1,0,1,0,0] F_spec_l08Map n st (kB R pol_spec_l08Map 0 (kS R pol_spec_l08Map 7 N [1,1,1] F_spec_l08Map (kTop E sg_spec_l08Map F_spec_l08Map)))
theorem spec_l08Map.l0_succ (R:Run) (hw:R.ok) (N:Nat) (n:Nat) (a_2:(vK × Unit)) (b_3:(vK × Unit)) (images_4:(List Int)) (vertices_5:(List Int)) (i_6:Int):spec_l08Map.l0 R N (n + 1) a_2 b_3 images_4 vertices_5 i_6 = (bif (decide (i_6 < (List.length images_4:Int))) then ((idx? images_4 i_6).bind fun y7 => ((callT R n_spec_l00In o_spec_l00In [⟨yI,(y7,()).1⟩,⟨yI,(0:Int)⟩,⟨yI,(9:Int)⟩]).bind fun r8 => (bif (!r8.1) then some ⟨o_spec_l08Map,(false,())⟩ else (spec_l08Map.l0 R N n a_2 b_3 images_4 vertices_5 (w64 (i_6 + (1:Int))))))) else (bif ((List.length images_4:Int) == (List.length vertices_5:Int)) then ((callT R n_spec_l08Fits o_spec_l08Fits [⟨(.ptr (.cons yK .nil)),a_2⟩,⟨(.ptr (.cons yK .nil)),b_3⟩,⟨yL,vertices_5⟩,⟨yL,images_4⟩]).bind fun r14 => some ⟨o_spec_l08Map,(r14.1,())⟩) else some ⟨o_spec_l08Map,(false,())⟩)) := (hw _ _).trans (by kernel_rfl)
theorem spec_l08Map.ev (R:Run) (N:Nat) (a0:(vK × Unit)) (a1:(vK × Unit)) (a2:(List Int)):evFn E R sg_spec_l08Map pol_spec_l08Map F_spec_l08Map N [⟨(.ptr (.cons yK .nil)),a0⟩,⟨(.ptr (.cons yK .nil)),a1⟩,⟨yL,a2⟩] = ((callT R n_spec_l08Vertices o_spec_l08Vertices [⟨(.ptr (.cons yK .nil)),a0⟩]).bind fun r1 => (spec_l08Map.l0 R N N a0 a1 a2 r1.1 (0:Int))) := by kernel_rfl
/-! loop.example/g01005/spec.IsMap -/
theorem spec_IsMap.ev (R:Run) (N:Nat) (a0:vK) (a1:vK) (a2:(List Int)):evFn E R sg_spec_IsMap pol_spec_IsMap F_spec_IsMap N [⟨yK,a0⟩,⟨yK,a1⟩,⟨yL,a2⟩] = ((callT R n_spec_l05Ok o_spec_l05Ok [⟨(.ptr (.cons yK .nil)),(a0,())⟩]).bind fun r1 => (bif r1.1 then ((callT R n_spec_l05Ok o_spec_l05Ok [⟨(.ptr (.cons yK .nil)),(a1,())⟩]).bind fun r2 => (bif r2.1 then ((callT R n_spec_l08Map o_spec_l08Map [⟨(.ptr (.cons yK .nil)),(a0,())⟩,⟨(.ptr (.cons yK .nil)),(a1,())⟩,⟨yL,a2⟩]).bind fun r3 => some ⟨o_spec_IsMap,(r3.1,())⟩) else some ⟨o_spec_IsMap,(false,())⟩)) else some ⟨o_spec_IsMap,(false,())⟩)) := by kernel_rfl
/-! loop.example/g01005/impl.isRising -/
noncomputable def impl_isRising.l0 (R:Run) (N:Nat) (n:Nat) (list_1:(List Int)) (k_2:Int):Option Dv := R.w (some ⟨(.c (.d yL list_1)::(V.dead::(V.dead::(.c (.d yI k_2)::(zd 16 []))))),(zo 21 [])⟩) fun st => lC R pol_impl_isRising 2 N [1,0,1,0,0] F_impl_isRising n st (kB R pol_impl_isRising 0 (kS R pol_impl_isRising 6 N [1,1] F_impl_isRising (kTop E sg_impl_isRising F_impl_isRising)))
theorem impl_isRising.l0_succ (R:Run) (hw:R.ok) (N:Nat) (n:Nat) (list_1:(List Int)) (k_2:Int):impl_isRising.l0 R N (n + 1) list_1 k_2 = (bif (decide (k_2 < (List.length list_1:Int))) then ((idx? list_1 (w64 (k_2 - (1:Int)))).bind fun y3 => ((idx? list_1 k_2).bind fun y4 => (bif (decide ((y3,()).1 ≥ (y4,()).1)) then some ⟨o_impl_isRising,(false,())⟩ else (impl_isRising.l0 R N n list_1 (w64 (k_2 + (1:Int))))))) else some ⟨o_impl_isRising,(true,())⟩) := (hw _ _).trans (by kernel_rfl)
theorem impl_isRising.ev (R:Run) (N:Nat) (a0:(List Int)):evFn E R sg_impl_isRising pol_impl_isRising F_impl_isRising N [⟨yL,a0⟩] = (impl_isRising.l0 R N N a0 (1:Int)) := by kernel_rfl
/-! loop.example/g01005/impl.within -/
theorem impl_within.ev (R:Run) (N:Nat) (a0:Int) (a1:Int) (a2:Int):evFn E R sg_impl_within pol_impl_within F_impl_within N [⟨yI,a0⟩,⟨yI,a1⟩,⟨yI,a2⟩] = (bif (decide (a0 ≥ a1)) then some ⟨o_impl_within,((decide (a0 ≤ a2)),())⟩ else some ⟨o_impl_within,(false,())⟩) := by kernel_rfl
/-! loop.example/g01005/impl.isVertex -/
theorem impl_isVertex.ev (R:Run) (N:Nat) (a0:Int):evFn E R sg_impl_isVertex pol_impl_isVertex F_impl_isVertex N [⟨yI,a0⟩] = ((callT R n_impl_within o_impl_within [⟨yI,a0⟩,⟨yI,(0:Int)⟩,⟨yI,(9:Int)⟩]).bind fun r1 => some ⟨o_impl_isVertex,(r1.1,())⟩) := by kernel_rfl
/-! loop.example/g01005/impl.ValidSimplex$1 -/
theorem impl_ValidSimplex_1.ev (R:Run) (N:Nat) (a0:Int):evFn E R sg_impl_ValidSimplex_1 pol_impl_ValidSimplex_1 F_impl_ValidSimplex_1 N [⟨yI,a0⟩] = ((callT R n_impl_isVertex o_impl_isVertex [⟨yI,a0⟩]).bind fun r1 => some ⟨o_impl_ValidSimplex_1,((!r1.1),())⟩) := by kernel_rfl
/-! slices.IndexFunc[[]int64,int64] -/
noncomputable def slices_IndexFunc_Sint64_int64_impl_ValidSimplex_1.l0 (R:Run) (N:Nat) (n:Nat) (s_1:(List Int)) (t7__2:Int) (t8__3:Int):Option Dv := R.w (some ⟨(.c (.d yL s_1)::(.c (.d (.fn n_impl_ValidSimplex_1 .nil) ())::(zd 5 (.c (.d yI t7__2)::(.c (.d yI t8__3)::(zd 10 [])))))),(zo 21 [])⟩) fun st => lC R pol_slices_IndexFunc_Sint64_int64 2 N [1,0,1,0,0] F_slices_IndexFunc_Sint64_int64 n st (kB R pol_slices_IndexFunc_Sint64_int64 0 (kS R pol_slices_IndexFunc_Sint64_int64 7 N [1,1] F_slices_IndexFunc_Sint64_int64 (kTop E sg_slices_IndexFunc_Sint64_int64 F_slices_IndexFunc_Sint64_int64)))
theorem slices_IndexFunc_Sint64_int64_impl_ValidSimplex_1.l0_succ (R:Run) (hw:R.ok) (N:Nat) (n:Nat) (s_1:(List Int)) (t7__2:Int) (t8__3:Int):slices_IndexFunc_Sint64_int64_impl_ValidSimplex_1.l0 R N (n + 1) s_1 t7__2 t8__3 = (bif (decide (t8__3 < t7__2)) then ((idx? s_1 t8__3).bind fun y4 => ((callT R n_impl_ValidSimplex_1 o_impl_ValidSimplex_1 [⟨yI,(y4,()).1⟩]).bind fun r5 => (bif r5.1 then some ⟨o_slices_IndexFunc_Sint64_int64,(t8__3,())⟩ else (slices_IndexFunc_Sint64_int64_impl_ValidSimplex_1.l0 R N n s_1 t7__2 (w64 (t8__3 + (1:Int))))))) else some ⟨o_slices_IndexFunc_Sint64_int64,((-1:Int),())⟩) := (hw _ _).trans (by kernel_rfl)
theorem slices_IndexFunc_Sint64_int64_impl_ValidSimplex_1.ev (R:Run) (N:Nat) (a0:(List Int)):evFn E R sg_slices_IndexFunc_Sint64_int64 pol_slices_IndexFunc_Sint64_int64 F_slices_IndexFunc_Sint64_int64 N [⟨yL,a0⟩,⟨(.fn n_impl_ValidSimplex_1 .nil),()⟩] = (slices_IndexFunc_Sint64_int64_impl_ValidSimplex_1.l0 R N N a0 (List.length a0:Int) (0:Int)) := by kernel_rfl
/-! slices.ContainsFunc[[]int64,int64] -/
theorem slices_ContainsFunc_Sint64_int64_impl_ValidSimplex_1.ev (R:Run) (N:Nat) (a0:(List Int)):evFn E R sg_slices_ContainsFunc_Sint64_int64 pol_slices_ContainsFunc_Sint64_int64 F_slices_ContainsFunc_Sint64_int64 N [⟨yL,a0⟩,⟨(.fn n_impl_ValidSimplex_1 .nil),()⟩] = ((callT R n_slices_IndexFunc_Sint64_int64 o_slices_IndexFunc_Sint64_int64 [⟨yL,a0⟩,⟨(.fn n_impl_ValidSimplex_1 .nil),()⟩]).bind fun r1 => some ⟨o_slices_ContainsFunc_Sint64_int64,((decide (r1.1 ≥ (0:Int))),())⟩) := by kernel_rfl
/-! loop.example/g01005/impl.ValidSimplex -/
theorem impl_ValidSimplex.ev (R:Run) (N:Nat) (a0:(List Int)):evFn E R sg_impl_ValidSimplex pol_impl_ValidSimplex F_impl_ValidSimplex N [⟨yL,a0⟩] = (bif (decide ((List.length a0:Int) ≥ (1:Int))) then (bif (decide ((List.length a0:Int) ≤ (4:Int))) then ((callT R n_impl_isRising o_impl_isRising [⟨yL,a0⟩]).bind fun r1 => (bif r1.1 then ((callT R n_slices_ContainsFunc_Sint64_int64 o_slices_ContainsFunc_Sint64_int64 [⟨yL,a0⟩,⟨(.fn n_impl_ValidSimplex_1 .nil),()⟩]).bind fun r2 => some ⟨o_impl_ValidSimplex,((!r2.1),())⟩) else some ⟨o_impl_ValidSimplex,(false,())⟩)) else some ⟨o_impl_ValidSimplex,(false,())⟩) else some ⟨o_impl_ValidSimplex,(false,())⟩) := by kernel_rfl
/-! cmp.isNaN[int] -/
theorem cmp_isNaN_int.ev (R:Run) (N:Nat) (a0:Int):evFn E R sg_cmp_isNaN_int pol_cmp_isNaN_int F_cmp_isNaN_int N [⟨yI,a0⟩] = some ⟨o_cmp_isNaN_int,((a0 != a0),())⟩ := by kernel_rfl
/-! cmp.Compare[int] -/
theorem cmp_Compare_int.ev (R:Run) (N:Nat) (a0:Int) (a1:Int):evFn E R sg_cmp_Compare_int pol_cmp_Compare_int F_cmp_Compare_int N [⟨yI,a0⟩,⟨yI,a1⟩] = ((callT R n_cmp_isNaN_int o_cmp_isNaN_int [⟨yI,a0⟩]).bind fun r1 => ((callT R n_cmp_isNaN_int o_cmp_isNaN_int [⟨yI,a1⟩]).bind fun r2 => (bif r1.1 then (bif r2.1 then some ⟨o_cmp_Compare_int,((0:Int),())⟩ else some ⟨o_cmp_Compare_int,((-1:Int),())⟩) else (bif r2.1 then some ⟨o_cmp_Compare_int,((1:Int),())⟩ else (bif (decide (a0 < a1)) then some ⟨o_cmp_Compare_int,((-1:Int),())⟩ else (bif (decide (a0 > a1)) then some ⟨o_cmp_Compare_int,((1:Int),())⟩ else some ⟨o_cmp_Compare_int,((0:Int),())⟩)))))) := by kernel_rfl
/-! cmp.isNaN[int64] -/
theorem cmp_isNaN_int64.ev (R:Run) (N:Nat) (a0:Int):evFn E R sg_cmp_isNaN_int64 pol_cmp_isNaN_int64 F_cmp_isNaN_int64 N [⟨yI,a0⟩] = some ⟨o_cmp_isNaN_int64,((a0 != a0),())⟩ := by kernel_rfl
/-! cmp.Compare[int64] -/
theorem cmp_Compare_int64.ev (R:Run) (N:Nat) (a0:Int) (a1:Int):evFn E R sg_cmp_Compare_int64 pol_cmp_Compare_int64 F_cmp_Compare_int64 N [⟨yI,a0⟩,⟨yI,a1⟩] = ((callT R n_cmp_isNaN_int64 o_cmp_isNaN_int64 [⟨yI,a0⟩]).bind fun r1 => ((callT R n_cmp_isNaN_int64 o_cmp_isNaN_int64 [⟨yI,a1⟩]).bind fun r2 => (bif r1.1 then (bif r2.1 then some ⟨o_cmp_Compare_int64,((0:Int),())⟩ else some ⟨o_cmp_Compare_int64,((-1:Int),())⟩) else (bif r2.1 then some ⟨o_cmp_Compare_int64,((1:Int),())⟩ else (bif (decide (a0 < a1)) then some ⟨o_cmp_Compare_int64,((-1:Int),())⟩ else (bif (decide (a0 > a1)) then some ⟨o_cmp_Compare_int64,((1:Int),())⟩ else some ⟨o_cmp_Compare_int64,((0:Int),())⟩)))))) := by kernel_rfl
/-! slices.Compare[[]int64,int64] -/
noncomputable def slices_Compare_Sint64_int64.l0 (R:Run) (N:Nat) (n:Nat) (s1_1:(List Int)) (s2_2:(List Int)) (t9__3:(List Int)) (t10__4:Int) (t11__5:Int):Option Dv := R.w (some ⟨(.c (.d yL s1_1)::(.c (.d yL s2_2)::(zd 7 (.c (.d yL t9__3)::(.c (.d yI t10__4)::(.c (.d yI t11__5)::(zd 24 []))))))),(zo 38 [])⟩) fun st => lC R pol_slices_Compare_Sint64_int64 2 N [1,0,1,0,0] F_slices_Compare_Sint64_int64 n st (kB R pol_slices_Compare_Sint64_int64 0 (kS R pol_slices_Compare_Sint64_int64 11 N [1,1] F_slices_Compare_Sint64_int64 (kTop E sg_slices_Compare_Sint64_int64 F_slices_Compare_Sint64_int64)))
theorem slices_Compare_Sint64_int64.l0_succ (R:Run) (hw:R.ok) (N:Nat) (n:Nat) (s1_1:(List Int)) (s2_2:(List Int)) (t9__3:(List Int)) (t10__4:Int) (t11__5:Int):slices_Compare_Sint64_int64.l0 R N (n + 1) s1_1 s2_2 t9__3 t10__4 t11__5 = (bif (decide (t11__5 < t10__4)) then ((idx? t9__3 t11__5).bind fun y6 => (bif (decide (t11__5 ≥ (List.length s2_2:Int))) then some ⟨o_slices_Compare_Sint64_int64,((1:Int),())⟩ else ((idx? s2_2 t11__5).bind fun y7 => ((callT R n_cmp_Compare_int64 o_cmp_Compare_int64 [⟨yI,(y6,()).1⟩,⟨yI,(y7,()).1⟩]).bind fun r8 => (bif (r8.1 != (0:Int)) then some ⟨o_slices_Compare_Sint64_int64,(r8.1,())⟩ else (slices_Compare_Sint64_int64.l0 R N n s1_1 s2_2 t9__3 t10__4 (w64 (t11__5 + (1:Int))))))))) else (bif (decide ((List.length s1_1:Int) < (List.length s2_2:Int))) then some ⟨o_slices_Compare_Sint64_int64,((-1:Int),())⟩ else some ⟨o_slices_Compare_Sint64_int64,((0:Int),())⟩)) := (hw _ _).trans (by kernel_rfl)
theorem slices_Compare_Sint64_int64.ev (R:Run) (N:Nat) (a0:(List Int)) (a1:(List Int)):evFn E R sg_slices_Compare_Sint64_int64 pol_slices_Compare_Sint64_int64 F_slices_Compare_Sint64_int64 N [⟨yL,a0⟩,⟨yL,a1⟩] = (slices_Compare_Sint64_int64.l0 R N N a0 a1 a0 (List.length a0:Int) (0:Int)) := by kernel_rfl
/-! cmp.Or[int] -/
noncomputable def cmp_Or_int.l0 (R:Run) (N:Nat) (n:Nat) (zero_1:Int) (t6__2:(List Int)) (t7__3:Int) (t8__4:Int):Option Dv := R.w (some ⟨(zd 3 (.c (.d yI zero_1)::(V.dead::(V.dead::(.c (.d yL t6__2)::(.c (.d yI t7__3)::(.c (.d yI t8__4)::(zd 9 [])))))))),(zo 19 [])⟩) fun st => lC R pol_cmp_Or_int 3 N [1,1,0,1,0,0] F_cmp_Or_int n st (kB R pol_cmp_Or_int 0 (kS R pol_cmp_Or_int 8 N [1,1,1] F_cmp_Or_int (kTop E sg_cmp_Or_int F_cmp_Or_int)))
theorem cmp_Or_int.l0_succ (R:Run) (hw:R.ok) (N:Nat) (n:Nat) (zero_1:Int) (t6__2:(List Int)) (t7__3:Int) (t8__4:Int):cmp_Or_int.l0 R N (n + 1) zero_1 t6__2 t7__3 t8__4 = (bif (decide (t8__4 < t7__3)) then ((idx? t6__2 t8__4).bind fun y5 => (bif ((y5,()).1 != zero_1) then some ⟨o_cmp_Or_int,((y5,()).1,())⟩ else (cmp_Or_int.l0 R N n zero_1 t6__2 t7__3 (w64 (t8__4 + (1:Int)))))) else some ⟨o_cmp_Or_int,(zero_1,())⟩) := (hw _ _).trans (by kernel_rfl)
theorem cmp_Or_int.ev (R:Run) (N:Nat) (a0:(List Int)):evFn E R sg_cmp_Or_int pol_cmp_Or_int F_cmp_Or_int N [⟨yL,a0⟩] = (cmp_Or_int.l0 R N N (0:Int) a0 (List.length a0:Int) (0:Int)) := by kernel_rfl
/-! loop.example/g01005/impl.compareSimplices -/
theorem impl_compareSimplices.ev (R:Run) (N:Nat) (a0:(List Int)) (a1:(List Int)):evFn E R sg_impl_compareSimplices pol_impl_compareSimplices F_impl_compareSimplices N [⟨yL,a0⟩,⟨yL,a1⟩] = ((callT R n_cmp_Compare_int o_cmp_Compare_int [⟨yI,(List.length a0:Int)⟩,⟨yI,(List.length a1:Int)⟩]).bind fun r1 => ((callT R n_slices_Compare_Sint64_int64 o_slices_Compare_Sint64_int64 [⟨yL,a0⟩,⟨yL,a1⟩]).bind fun r2 => ((callT R n_cmp_Or_int o_cmp_Or_int [⟨yL,[r1.1,r2.1]⟩]).bind fun r3 => some ⟨o_impl_compareSimplices,(r3.1,())⟩))) := by kernel_rfl
/-! slices.Concat[[]int64,int64] -/
noncomputable def slices_Concat_Sint64_int64.l1 (R:Run) (N:Nat) (n:Nat) (t25__13:vK) (t26__14:Int) (t27__15:Int) (o37_16:(List Int)):Option Dv := R.w (some ⟨(zd 6 (.c (.arr 37)::(zd 18 (.c (.d yK t25__13)::(.c (.d yI t26__14)::(.c (.d yI t27__15)::(zd 8 []))))))),(zo 37 (some (.arr yI o37_16 true false false)::[]))⟩) fun st => lC R pol_slices_Concat_Sint64_int64 11 N [1,1,1,1,0,1,0,0] F_slices_Concat_Sint64_int64 n st (kB R pol_slices_Concat_Sint64_int64 2 (kS R pol_slices_Concat_Sint64_int64 15 N [1,1,1,1,1] F_slices_Concat_Sint64_int64 (kTop E sg_slices_Concat_Sint64_int64 F_slices_Concat_Sint64_int64)))
noncomputable def slices_Concat_Sint64_int64.l0 (R:Run) (N:Nat) (n:Nat) (slices_1:vK) (size_2:Int) (t9__3:vK) (t10__4:Int) (t11__5:Int):Option Dv := R.w (some ⟨(.c (.d yK slices_1)::(V.dead::(V.dead::(.c (.d yI size_2)::(zd 5 (.c (.d yK t9__3)::(.c (.d yI t10__4)::(.c (.d yI t11__5)::(zd 24 []))))))))),(zo 38 [])⟩) fun st => lC R pol_slices_Concat_Sint64_int64 3 N [1,1,0,1,0,0] F_slices_Concat_Sint64_int64 n st (kB R pol_slices_Concat_Sint64_int64 0 (kS R pol_slices_Concat_Sint64_int64 9 N [1,1,1] F_slices_Concat_Sint64_int64 (kTop E sg_slices_Concat_Sint64_int64 F_slices_Concat_Sint64_int64)))
theorem slices_Concat_Sint64_int64.l1_succ (R:Run) (hw:R.ok) (N:Nat) (n:Nat) (t25__13:vK) (t26__14:Int) (t27__15:Int) (o37_16:(List Int)):slices_Concat_Sint64_int64.l1 R N (n + 1) t25__13 t26__14 t27__15 o37_16 = (bif (decide (t27__15 < t26__14)) then ((idx? t25__13 t27__15).bind fun y17 => ((chk (decide ((List.length o37_16 + List.length (y17,()).1) * 8 ≤ 70368744177664))).bind fun _ => (slices_Concat_Sint64_int64.l1 R N n t25__13 t26__14 (w64 (t27__15 + (1:Int))) (o37_16 ++ (y17,()).1)))) else some ⟨o_slices_Concat_Sint64_int64,(o37_16,())⟩) := (hw _ _).trans (by kernel_rfl)
theorem slices_Concat_Sint64_int64.l0_succ (R:Run) (hw:R.ok) (N:Nat) (n:Nat) (slices_1:vK) (size_2:Int) (t9__3:vK) (t10__4:Int) (t11__5:Int):slices_Concat_Sint64_int64.l0 R N (n + 1) slices_1 size_2 t9__3 t10__4 t11__5 = (bif (decide (t11__5 < t10__4)) then ((idx? t9__3 t11__5).bind fun y6 => (bif (decide ((w64 (size_2 + (List.length (y6,()).1:Int))) < (0:Int))) then none else (slices_Concat_Sint64_int64.l0 R N n slices_1 (w64 (size_2 + (List.length (y6,()).1:Int))) t9__3 t10__4 (w64 (t11__5 + (1:Int)))))) else ((callT R n_slices_Grow_Sint64_int64 o_slices_Grow_Sint64_int64 [⟨yL,([]:List Int)⟩,⟨yI,size_2⟩]).bind fun r12 => (slices_Concat_Sint64_int64.l1 R N N slices_1 (List.length slices_1:Int) (0:Int) r12.1))) := (hw _ _).trans (by kernel_rfl)
theorem slices_Concat_Sint64_int64.ev (R:Run) (N:Nat) (a0:vK):evFn E R sg_slices_Concat_Sint64_int64 pol_slices_Concat_Sint64_int64 F_slices_Concat_Sint64_int64 N [⟨yK,a0⟩] = (slices_Concat_Sint64_int64.l0 R N N a0 (0:Int) a0 (List.length a0:Int) (0:Int)) := by kernel_rfl
/-! loop.example/g01005/impl.facesOf -/
noncomputable def impl_facesOf.l0 (R:Run) (N:Nat) (n:Nat) (s_1:(List Int)) (t6__2:Int) (t7__3:Int) (o24_4:vK):Option Dv := R.w (some ⟨(.c (.d yL s_1)::(V.dead::(V.dead::(.c (.arr 24)::(V.dead::(V.dead::(.c (.d yI t6__2)::(.c (.d yI t7__3)::(zd 19 []))))))))),(zo 24 (some (.arr yL o24_4 true false false)::(zo 4 [])))⟩) fun st => lC R pol_impl_facesOf 3 N [1,1,0,1,0,0] F_impl_facesOf n st (kB R pol_impl_facesOf 0 (kS R pol_impl_facesOf 8 N [1,1,1] F_impl_facesOf (kTop E sg_impl_facesOf F_impl_facesOf)))
theorem impl_facesOf.l0_succ (R:Run) (hw:R.ok) (N:Nat) (n:Nat) (s_1:(List Int)) (t6__2:Int) (t7__3:Int) (o24_4:vK):impl_facesOf.l0 R N (n + 1) s_1 t6__2 t7__3 o24_4 = (bif (decide (t7__3 < t6__2)) then (bif (decide ((List.length s_1:Int) > (1:Int))) then ((chk (decide (0 ≤ t7__3) && decide (t7__3 ≤ (List.length s_1:Int)))).bind fun _ => ((chk (decide (0 ≤ (w64 (t7__3 + (1:Int)))) && decide ((w64 (t7__3 + (1:Int))) ≤ (List.length s_1:Int)))).bind fun _ => ((callT R n_slices_Concat_Sint64_int64 o_slices_Concat_Sint64_int64 [⟨yK,[(List.take (Int.toNat t7__3) s_1),(List.drop (Int.toNat (w64 (t7__3 + (1:Int)))) s_1)]⟩]).bind fun r5 => ((chk (decide ((List.length o24_4 + List.length [r5.1]) * 24 ≤ 70368744177664))).bind fun _ => (impl_facesOf.l0 R N n s_1 t6__2 (w64 (t7__3 + (1:Int))) (o24_4 ++ [r5.1])))))) else (impl_facesOf.l0 R N n s_1 t6__2 (w64 (t7__3 + (1:Int))) o24_4)) else some ⟨o_impl_facesOf,(o24_4,())⟩) := (hw _ _).trans (by kernel_rfl)
theorem impl_facesOf.ev (R:Run) (N:Nat) (a0:(List Int)):evFn E R sg_impl_facesOf pol_impl_facesOf F_impl_facesOf N [⟨yL,a0⟩] = (impl_facesOf.l0 R N N a0 (List.length a0:Int) (0:Int) ([]:List (List Int))) := by kernel_rfl
/-! slices.BinarySearchFunc[[][]int64,[]int64,[]int64] -/
noncomputable def slices_BinarySearchFunc_SSint64_Sint64_Sint64_impl_compareSimplices.l0 (R:Run) (N:Nat) (n:Nat) (x_1:vK) (target_2:(List Int)) (n_3:Int) (i_4:Int) (j_5:Int):Option Dv := R.w (some ⟨(.c (.d yK x_1)::(.c (.d yL target_2)::(.c (.d (.fn n_impl_compareSimplices .nil) ())::(zd 5 (.c (.d yI n_3)::(.c (.d yI i_4)::(.c (.d yI j_5)::(zd 38 [])))))))),(zo 52 [])⟩) fun st => lC R pol_slices_BinarySearchFunc_SSint64_Sint64_Sint64 3 N [1,1,1,0,0,0] F_slices_BinarySearchFunc_SSint64_Sint64_Sint64 n st (kB R pol_slices_BinarySearchFunc_SSint64_Sint64_Sint64 0 (kS R pol_slices_BinarySearchFunc_SSint64_Sint64_Sint64 8 N [1,1,1,1] F_slices_BinarySearchFunc_SSint64_Sint64_Sint64 (kTop E sg_slices_BinarySearchFunc_SSint64_Sint64_Sint64 F_slices_BinarySearchFunc_SSint64_Sint64_Sint64)))
theorem slices_BinarySearchFunc_SSint64_Sint64_Sint64_impl_compareSimplices.l0_succ (R:Run) (hw:R.ok) (N:Nat) (n:Nat) (x_1:vK) (target_2:(List Int)) (n_3:Int) (i_4:Int) (j_5:Int):slices_BinarySearchFunc_SSint64_Sint64_Sint64_impl_compareSimplices.l0 R N (n + 1) x_1 target_2 n_3 i_4 j_5 = (bif (decide (i_4 < j_5)) then ((chk (decide (0 ≤ (1:Int)))).bind fun _ => ((idx? x_1 (w64 ((Int.fdiv (IntKind.wrap .u64 ((w64 (i_4 + j_5)))) (2 ^ (min (Int.toNat (1:Int)) (IntKind.bits .u64))))))).bind fun y6 => ((callT R n_impl_compareSimplices o_impl_compareSimplices [⟨yL,(y6,()).1⟩,⟨yL,target_2⟩]).bind fun r7 => (bif (decide (r7.1 < (0:Int))) then (slices_BinarySearchFunc_SSint64_Sint64_Sint64_impl_compareSimplices.l0 R N n x_1 target_2 n_3 (w64 ((w64 ((Int.fdiv (IntKind.wrap .u64 ((w64 (i_4 + j_5)))) (2 ^ (min (Int.toNat (1:Int)) (IntKind.bits .u64)))))) + (1:Int))) j_5) else (slices_BinarySearchFunc_SSint64_Sint64_Sint64_impl_compareSimplices.l0 R N n x_1 target_2 n_3 i_4 (w64 ((Int.fdiv (IntKind.wrap .u64 ((w64 (i_4 + j_5)))) (2 ^ (min (Int.toNat (1:Int)) (IntKind.bits .u64))))))))))) else (bif (decide (i_4 < n_3)) then ((idx? x_1 i_4).bind fun y18 => ((callT R n_impl_compareSimplices o_impl_compareSimplices [⟨yL,(y18,()).1⟩,⟨yL,target_2⟩]).bind fun r19 => some ⟨o_slices_BinarySearchFunc_SSint64_Sint64_Sint64,(i_4,(r19.1 == (0:Int)),())⟩)) else some ⟨o_slices_BinarySearchFunc_SSint64_Sint64_Sint64,(i_4,false,())⟩)) := (hw _ _).trans (by kernel_rfl)
theorem slices_BinarySearchFunc_SSint64_Sint64_Sint64_impl_compareSimplices.ev (R:Run) (N:Nat) (a0:vK) (a1:(List Int)):evFn E R sg_slices_BinarySearchFunc_SSint64_Sint64_Sint64 pol_slices_BinarySearchFunc_SSint64_Sint64_Sint64 F_slices_BinarySearchFunc_SSint64_Sint64_Sint64 N [⟨yK,a0⟩,⟨yL,a1⟩,⟨(.fn n_impl_compareSimplices .nil),()⟩] = (slices_BinarySearchFunc_SSint64_Sint64_Sint64_impl_compareSimplices.l0 R N N a0 a1 (List.length a0:Int) (0:Int) (List.length a0:Int)) := by kernel_rfl
/-! loop.example/g01005/impl.indexOf -/
theorem impl_indexOf.ev (R:Run) (N:Nat) (a0:vK) (a1:(List Int)):evFn E R sg_impl_indexOf pol_impl_indexOf F_impl_indexOf N [⟨yK,a0⟩,⟨yL,a1⟩] = ((callT R n_slices_BinarySearchFunc_SSint64_Sint64_Sint64 o_slices_BinarySearchFunc_SSint64_Sint64_Sint64 [⟨yK,a0⟩,⟨yL,a1⟩,⟨(.fn n_impl_compareSimplices .nil),()⟩]).bind fun r1 => (bif (!r1.2.1) then some ⟨o_impl_indexOf,((-1:Int),())⟩ else some ⟨o_impl_indexOf,(r1.1,())⟩)) := by kernel_rfl
/-! loop.example/g01005/impl.ValidComplex$1 -/
theorem impl_ValidComplex_1.ev (R:Run) (N:Nat) (a0:(List Int)) (a1:(vK × Unit)) (a2:(Int × Unit)):evFn E R sg_impl_ValidComplex_1 pol_impl_ValidComplex_1 F_impl_ValidComplex_1 N [⟨yL,a0⟩,⟨(.ptr (.cons yK .nil)),a1⟩,⟨(.ptr (.cons yI .nil)),a2⟩] = ((chk (decide (0 ≤ a2.1) && decide (a2.1 ≤ (List.length a1.1:Int)))).bind fun _ => ((callT R n_impl_indexOf o_impl_indexOf [⟨yK,(List.take (Int.toNat a2.1) a1.1)⟩,⟨yL,a0⟩]).bind fun r1 => some ⟨o_impl_ValidComplex_1,((decide (r1.1 < (0:Int))),())⟩)) := by kernel_rfl
/-! slices.IndexFunc[[][]int64,[]int64] -/
noncomputable def slices_IndexFunc_SSint64_Sint64_impl_ValidComplex_1.l0 (R:Run) (N:Nat) (n:Nat) (s_1:vK) (f_2:((vK × Unit) × (Int × Unit) × Unit)) (t7__3:Int) (t8__4:Int):Option Dv := R.w (some ⟨(.c (.d yK s_1)::(.c (.d (.fn n_impl_ValidComplex_1 (.cons (.ptr (.cons yK .nil)) (.cons (.ptr (.cons yI .nil)) .nil))) f_2)::(zd 5 (.c (.d yI t7__3)::(.c (.d yI t8__4)::(zd 10 [])))))),(zo 21 [])⟩) fun st => lC R pol_slices_IndexFunc_SSint64_Sint64 2 N [1,0,1,0,0] F_slices_IndexFunc_SSint64_Sint64 n st (kB R pol_slices_IndexFunc_SSint64_Sint64 0 (kS R pol_slices_IndexFunc_SSint64_Sint64 7 N [1,1] F_slices_IndexFunc_SSint64_Sint64 (kTop E sg_slices_IndexFunc_SSint64_Sint64 F_slices_IndexFunc_SSint64_Sint64)))
theorem slices_IndexFunc_SSint64_Sint64_impl_ValidComplex_1.l0_succ (R:Run) (hw:R.ok) (N:Nat) (n:Nat) (s_1:vK) (f_2:((vK × Unit) × (Int × Unit) × Unit)) (t7__3:Int) (t8__4:Int):slices_IndexFunc_SSint64_Sint64_impl_ValidComplex_1.l0 R N (n + 1) s_1 f_2 t7__3 t8__4 = (bif (decide (t8__4 < t7__3)) then ((idx? s_1 t8__4).bind fun y5 => ((callT R n_impl_ValidComplex_1 o_impl_ValidComplex_1 [⟨yL,(y5,()).1⟩,⟨(.ptr (.cons yK .nil)),f_2.1⟩,⟨(.ptr (.cons yI .nil)),f_2.2.1⟩]).bind fun r6 => (bif r6.1 then some ⟨o_slices_IndexFunc_SSint64_Sint64,(t8__4,())⟩ else (slices_IndexFunc_SSint64_Sint64_impl_ValidComplex_1.l0 R N n s_1 f_2 t7__3 (w64 (t8__4 + (1:Int))))))) else some ⟨o_slices_IndexFunc_SSint64_Sint64,((-1:Int),())⟩) := (hw _ _).trans (by kernel_rfl)
theorem slices_IndexFunc_SSint64_Sint64_impl_ValidComplex_1.ev (R:Run) (N:Nat) (a0:vK) (a1:((vK × Unit) × (Int × Unit) × Unit)):evFn E R sg_slices_IndexFunc_SSint64_Sint64 pol_slices_IndexFunc_SSint64_Sint64 F_slices_IndexFunc_SSint64_Sint64 N [⟨yK,a0⟩,⟨(.fn n_impl_ValidComplex_1 (.cons (.ptr (.cons yK .nil)) (.cons (.ptr (.cons yI .nil)) .nil))),a1⟩] = (slices_IndexFunc_SSint64_Sint64_impl_ValidComplex_1.l0 R N N a0 a1 (List.length a0:Int) (0:Int)) := by kernel_rfl
/-! slices.ContainsFunc[[][]int64,[]int64] -/
theorem slices_ContainsFunc_SSint64_Sint64_impl_ValidComplex_1.ev (R:Run) (N:Nat) (a0:vK) (a1:((vK × Unit) × (Int × Unit) × Unit)):evFn E R sg_slices_ContainsFunc_SSint64_Sint64 pol_slices_ContainsFunc_SSint64_Sint64 F_slices_ContainsFunc_SSint64_Sint64 N [⟨yK,a0⟩,⟨(.fn n_impl_ValidComplex_1 (.cons (.ptr (.cons yK .nil)) (.cons (.ptr (.cons yI .nil)) .nil))),a1⟩] = ((callT R n_slices_IndexFunc_SSint64_Sint64 o_slices_IndexFunc_SSint64_Sint64 [⟨yK,a0⟩,⟨(.fn n_impl_ValidComplex_1 (.cons (.ptr (.cons yK .nil)) (.cons (.ptr (.cons yI .nil)) .nil))),a1⟩]).bind fun r1 => some ⟨o_slices_ContainsFunc_SSint64_Sint64,((decide (r1.1 ≥ (0:Int))),())⟩) := by kernel_rfl
/-! loop.example/g01005/impl.ValidComplex -/
noncomputable def impl_ValidComplex.j1 (R:Run) (N:Nat) (n00_:Nat) (s_7:(List Int)) (t6__8:vK) (t7__9:Int) (t8__10:Int) (t30__11:Bool) (c_12:vK) (k_13:Int):Option Dv := R.w (some ⟨(V.dead::(.c (.box 1 0)::(V.dead::(.c (.box 3 0)::(.c (.d yL s_7)::(V.dead::(.c (.d yK t6__8)::(.c (.d yI t7__9)::(.c (.d yI t8__10)::(zd 21 (.c (.d .bool t30__11)::(zd 9 [])))))))))))),(none::(some (.box [.d yK c_12] true false)::(none::(some (.box [.d yI k_13] false false)::(zo 37 [])))))⟩) fun st => eC R pol_impl_ValidComplex N [1,0,1,0,0,1,1,0,0,1,0,1] F_impl_ValidComplex st (kS R pol_impl_ValidComplex 6 N [1,0,1,0,0,1,1,0,0,1,1] F_impl_ValidComplex (kB R pol_impl_ValidComplex 1 (kS R pol_impl_ValidComplex 8 N [1,0,1,0,0,1,1,1] F_impl_ValidComplex (kL R pol_impl_ValidComplex 2 N [1,0,1,0,0] F_impl_ValidComplex n00_ (kB R pol_impl_ValidComplex 0 (kS R pol_impl_ValidComplex 9 N [1,1] F_impl_ValidComplex (kTop E sg_impl_ValidComplex F_impl_ValidComplex)))))))
noncomputable def impl_ValidComplex.l0 (R:Run) (N:Nat) (n:Nat) (t6__1:vK) (t7__2:Int) (t8__3:Int) (c_4:vK):Option Dv := R.w (some ⟨(V.dead::(.c (.box 1 0)::(zd 4 (.c (.d yK t6__1)::(.c (.d yI t7__2)::(.c (.d yI t8__3)::(zd 31 []))))))),(none::(some (.box [.d yK c_4] true false)::(zo 39 [])))⟩) fun st => lC R pol_impl_ValidComplex 2 N [1,0,1,0,0] F_impl_ValidComplex n st (kB R pol_impl_ValidComplex 0 (kS R pol_impl_ValidComplex 9 N [1,1] F_impl_ValidComplex (kTop E sg_impl_ValidComplex F_impl_ValidComplex)))
theorem impl_ValidComplex.j1_eq (R:Run) (hw:R.ok) (N:Nat) (n00_:Nat) (s_7:(List Int)) (t6__8:vK) (t7__9:Int) (t8__10:Int) (t30__11:Bool) (c_12:vK) (k_13:Int):impl_ValidComplex.j1 R N n00_ s_7 t6__8 t7__9 t8__10 t30__11 c_12 k_13 = (bif t30__11 then some ⟨o_impl_ValidComplex,(false,())⟩ else ((callT R n_impl_facesOf o_impl_facesOf [⟨yL,s_7⟩]).bind fun r14 => ((callT R n_slices_ContainsFunc_SSint64_Sint64 o_slices_ContainsFunc_SSint64_Sint64 [⟨yK,r14.1⟩,⟨(.fn n_impl_ValidComplex_1 (.cons (.ptr (.cons yK .nil)) (.cons (.ptr (.cons yI .nil)) .nil))),((c_12,()),(k_13,()),())⟩]).bind fun r15 => (bif r15.1 then some ⟨o_impl_ValidComplex,(false,())⟩ else (impl_ValidComplex.l0 R N n00_ t6__8 t7__9 (w64 (t8__10 + (1:Int))) c_12))))) := (hw _ _).trans (by kernel_rfl)
theorem impl_ValidComplex.l0_succ (R:Run) (hw:R.ok) (N:Nat) (n:Nat) (t6__1:vK) (t7__2:Int) (t8__3:Int) (c_4:vK):impl_ValidComplex.l0 R N (n + 1) t6__1 t7__2 t8__3 c_4 = (bif (decide (t8__3 < t7__2)) then ((idx? t6__1 t8__3).bind fun y5 => ((callT R n_impl_ValidSimplex o_impl_ValidSimplex [⟨yL,(y5,()).1⟩]).bind fun r6 => (bif (!r6.1) then (impl_ValidComplex.j1 R N n ((y5,()).1) t6__1 t7__2 t8__3 true c_4 t8__3) else (bif (decide (t8__3 > (0:Int))) then ((idx? c_4 (w64 (t8__3 - (1:Int)))).bind fun y20 => ((callT R n_impl_compareSimplices o_impl_compareSimplices [⟨yL,(y20,()).1⟩,⟨yL,(y5,()).1⟩]).bind fun r21 => (impl_ValidComplex.j1 R N n ((y5,()).1) t6__1 t7__2 t8__3 (decide (r21.1 ≥ (0:Int))) c_4 t8__3))) else (impl_ValidComplex.j1 R N n ((y5,()).1) t6__1 t7__2 t8__3 false c_4 t8__3))))) else some ⟨o_impl_ValidComplex,((decide ((List.length c_4:Int) ≤ (48:Int))),())⟩) := (hw _ _).trans (by kernel_rfl)
theorem impl_ValidComplex.ev (R:Run) (N:Nat) (a0:vK):evFn E R sg_impl_ValidComplex pol_impl_ValidComplex F_impl_ValidComplex N [⟨yK,a0⟩] = (impl_ValidComplex.l0 R N N a0 (List.length a0:Int) (0:Int) a0) := by kernel_rfl
/-! loop.example/g01005/impl.verticesOf -/
noncomputable def impl_verticesOf.l0 (R:Run) (N:Nat) (n:Nat) (t7__1:vK) (t8__2:Int) (t9__3:Int) (o21_4:(List Int)):Option Dv := R.w (some ⟨(zd 3 (.c (.arr 21)::(zd 3 (.c (.d yK t7__1)::(.c (.d yI t8__2)::(.c (.d yI t9__3)::(zd 14 []))))))),(zo 21 (some (.arr yI o21_4 true false false)::(zo 3 [])))⟩) fun st => lC R pol_impl_verticesOf 3 N [1,1,0,1,0,0] F_impl_verticesOf n st (kB R pol_impl_verticesOf 0 (kS R pol_impl_verticesOf 8 N [1,1,1] F_impl_verticesOf (kTop E sg_impl_verticesOf F_impl_verticesOf)))
theorem impl_verticesOf.l0_succ (R:Run) (hw:R.ok) (N:Nat) (n:Nat) (t7__1:vK) (t8__2:Int) (t9__3:Int) (o21_4:(List Int)):impl_verticesOf.l0 R N (n + 1) t7__1 t8__2 t9__3 o21_4 = (bif (decide (t9__3 < t8__2)) then ((idx? t7__1 t9__3).bind fun y5 => (bif ((List.length (y5,()).1:Int) == (1:Int)) then ((idx? (y5,()).1 (0:Int)).bind fun y6 => ((chk (decide ((List.length o21_4 + List.length [(y6,()).1]) * 8 ≤ 70368744177664))).bind fun _ => (impl_verticesOf.l0 R N n t7__1 t8__2 (w64 (t9__3 + (1:Int))) (o21_4 ++ [(y6,()).1])))) else (impl_verticesOf.l0 R N n t7__1 t8__2 (w64 (t9__3 + (1:Int))) o21_4))) else some ⟨o_impl_verticesOf,(o21_4,())⟩) := (hw _ _).trans (by kernel_rfl)
theorem impl_verticesOf.ev (R:Run) (N:Nat) (a0:vK):evFn E R sg_impl_verticesOf pol_impl_verticesOf F_impl_verticesOf N [⟨yK,a0⟩] = (impl_verticesOf.l0 R N N a0 (List.length a0:Int) (0:Int) ([]:List Int)) := by kernel_rfl
/-! slices.Index[[]int64,int64] -/
noncomputable def slices_Index_Sint64_int64.l0 (R:Run) (N:Nat) (n:Nat) (s_1:(List Int)) (v_2:Int) (t7__3:Int) (t8__4:Int):Option Dv := R.w (some ⟨(.c (.d yL s_1)::(.c (.d yI v_2)::(zd 5 (.c (.d yI t7__3)::(.c (.d yI t8__4)::(zd 10 [])))))),(zo 21 [])⟩) fun st => lC R pol_slices_Index_Sint64_int64 2 N [1,0,1,0,0] F_slices_Index_Sint64_int64 n st (kB R pol_slices_Index_Sint64_int64 0 (kS R pol_slices_Index_Sint64_int64 7 N [1,1] F_slices_Index_Sint64_int64 (kTop E sg_slices_Index_Sint64_int64 F_slices_Index_Sint64_int64)))
theorem slices_Index_Sint64_int64.l0_succ (R:Run) (hw:R.ok) (N:Nat) (n:Nat) (s_1:(List Int)) (v_2:Int) (t7__3:Int) (t8__4:Int):slices_Index_Sint64_int64.l0 R N (n + 1) s_1 v_2 t7__3 t8__4 = (bif (decide (t8__4 < t7__3)) then ((idx? s_1 t8__4).bind fun y5 => (bif (v_2 == (y5,()).1) then some ⟨o_slices_Index_Sint64_int64,(t8__4,())⟩ else (slices_Index_Sint64_int64.l0 R N n s_1 v_2 t7__3 (w64 (t8__4 + (1:Int)))))) else some ⟨o_slices_Index_Sint64_int64,((-1:Int),())⟩) := (hw _ _).trans (by kernel_rfl)
theorem slices_Index_Sint64_int64.ev (R:Run) (N:Nat) (a0:(List Int)) (a1:Int):evFn E R sg_slices_Index_Sint64_int64 pol_slices_Index_Sint64_int64 F_slices_Index_Sint64_int64 N [⟨yL,a0⟩,⟨yI,a1⟩] = (slices_Index_Sint64_int64.l0 R N N a0 a1 (List.length a0:Int) (0:Int)) := by kernel_rfl
/-! loop.example/g01005/impl.imageOf -/
noncomputable def impl_imageOf.l0 (R:Run) (N:Nat) (n:Nat) (images_2:(List Int)) (vertices_3:(List Int)) (t13__4:(List Int)) (t14__5:Int) (t15__6:Int) (o27_7:(List Int)):Option Dv := R.w (some ⟨(V.dead::(.c (.d yL images_2)::(zd 5 (.c (.d yL vertices_3)::(.c (.arr 27)::(zd 4 (.c (.d yL t13__4)::(.c (.d yI t14__5)::(.c (.d yI t15__6)::(zd 17 [])))))))))),(zo 27 (some (.arr yI o27_7 true false false)::(zo 9 [])))⟩) fun st => lC R pol_impl_imageOf 4 N [1,1,1,0,1,0,0] F_impl_imageOf n st (kB R pol_impl_imageOf 0 (kS R pol_impl_imageOf 8 N [1,1,1,1] F_impl_imageOf (kTop E sg_impl_imageOf F_impl_imageOf)))
theorem impl_imageOf.l0_succ (R:Run) (hw:R.ok) (N:Nat) (n:Nat) (images_2:(List Int)) (vertices_3:(List Int)) (t13__4:(List Int)) (t14__5:Int) (t15__6:Int) (o27_7:(List Int)):impl_imageOf.l0 R N (n + 1) images_2 vertices_3 t13__4 t14__5 t15__6 o27_7 = (bif (decide (t15__6 < t14__5)) then ((idx? t13__4 t15__6).bind fun y8 => ((callT R n_slices_Index_Sint64_int64 o_slices_Index_Sint64_int64 [⟨yL,vertices_3⟩,⟨yI,(y8,()).1⟩]).bind fun r9 => ((idx? images_2 r9.1).bind fun y10 => ((chk (decide ((List.length o27_7 + List.length [(y10,()).1]) * 8 ≤ 70368744177664))).bind fun _ => (impl_imageOf.l0 R N n images_2 vertices_3 t13__4 t14__5 (w64 (t15__6 + (1:Int))) (o27_7 ++ [(y10,()).1])))))) else ((callT R n_slices_Sort_Sint64_int64 o_slices_Sort_Sint64_int64 [⟨yL,o27_7⟩]).bind fun r17 => ((callT R n_slices_Compact_Sint64_int64 o_slices_Compact_Sint64_int64 [⟨yL,r17.1⟩]).bind fun r18 => some ⟨o_impl_imageOf,(r18.1,())⟩))) := (hw _ _).trans (by kernel_rfl)
theorem impl_imageOf.ev (R:Run) (N:Nat) (a0:vK) (a1:(List Int)) (a2:(List Int)):evFn E R sg_impl_imageOf pol_impl_imageOf F_impl_imageOf N [⟨yK,a0⟩,⟨yL,a1⟩,⟨yL,a2⟩] = ((callT R n_impl_verticesOf o_impl_verticesOf [⟨yK,a0⟩]).bind fun r1 => (impl_imageOf.l0 R N N a1 r1.1 a2 (List.length a2:Int) (0:Int) ([]:List Int))) := by kernel_rfl
/-! loop.example/g01005/impl.isMap$1 -/
theorem impl_isMap_1.ev (R:Run) (N:Nat) (a0:(List Int)) (a1:(vK × Unit)) (a2:(vK × Unit)) (a3:((List Int) × Unit)):evFn E R sg_impl_isMap_1 pol_impl_isMap_1 F_impl_isMap_1 N [⟨yL,a0⟩,⟨(.ptr (.cons yK .nil)),a1⟩,⟨(.ptr (.cons yK .nil)),a2⟩,⟨(.ptr (.cons yL .nil)),a3⟩] = ((callT R n_impl_imageOf o_impl_imageOf [⟨yK,a2.1⟩,⟨yL,a3.1⟩,⟨yL,a0⟩]).bind fun r1 => ((callT R n_impl_indexOf o_impl_indexOf [⟨yK,a1.1⟩,⟨yL,r1.1⟩]).bind fun r2 => some ⟨o_impl_isMap_1,((decide (r2.1 < (0:Int))),())⟩)) := by kernel_rfl
/-! slices.IndexFunc[[][]int64,[]int64] -/
noncomputable def slices_IndexFunc_SSint64_Sint64_impl_isMap_1.l0 (R:Run) (N:Nat) (n:Nat) (s_1:vK) (f_2:((vK × Unit) × (vK × Unit) × ((List Int) × Unit) × Unit)) (t7__3:Int) (t8__4:Int):Option Dv := R.w (some ⟨(.c (.d yK s_1)::(.c (.d (.fn n_impl_isMap_1 (.cons (.ptr (.cons yK .nil)) (.cons (.ptr (.cons yK .nil)) (.cons (.ptr (.cons yL .nil)) .nil)))) f_2)::(zd 5 (.c (.d yI t7__3)::(.c (.d yI t8__4)::(zd 10 [])))))),(zo 21 [])⟩) fun st => lC R pol_slices_IndexFunc_SSint64_Sint64 2 N [1,0,1,0,0] F_slices_IndexFunc_SSint64_Sint64 n st (kB R pol_slices_IndexFunc_SSint64_Sint64 0 (kS R pol_slices_IndexFunc_SSint64_Sint64 7 N [1,1] F_slices_IndexFunc_SSint64_Sint64 (kTop E sg_slices_IndexFunc_SSint64_Sint64 F_slices_IndexFunc_SSint64_Sint64)))
theorem slices_IndexFunc_SSint64_Sint64_impl_isMap_1.l0_succ (R:Run) (hw:R.ok) (N:Nat) (n:Nat) (s_1:vK) (f_2:((vK × Unit) × (vK × Unit) × ((List Int) × Unit) × Unit)) (t7__3:Int) (t8__4:Int):slices_IndexFunc_SSint64_Sint64_impl_isMap_1.l0 R N (n + 1) s_1 f_2 t7__3 t8__4 = (bif (decide (t8__4 < t7__3)) then ((idx? s_1 t8__4).bind fun y5 => ((callT R n_impl_isMap_1 o_impl_isMap_1 [⟨yL,(y5,()).1⟩,⟨(.ptr (.cons yK .nil)),f_2.1⟩,⟨(.ptr (.cons yK .nil)),f_2.2.1⟩,⟨(.ptr (.cons yL .nil)),f_2.2.2.1⟩]).bind fun r6 => (bif r6.1 then some ⟨o_slices_IndexFunc_SSint64_Sint64,(t8__4,())⟩ else (slices_IndexFunc_SSint64_Sint64_impl_isMap_1.l0 R N n s_1 f_2 t7__3 (w64 (t8__4 + (1:Int))))))) else some ⟨o_slices_IndexFunc_SSint64_Sint64,((-1:Int),())⟩) := (hw _ _).trans (by kernel_rfl)
theorem slices_IndexFunc_SSint64_Sint64_impl_isMap_1.ev (R:Run) (N:Nat) (a0:vK) (a1:((vK × Unit) × (vK × Unit) × ((List Int) × Unit) × Unit)):evFn E R sg_slices_IndexFunc_SSint64_Sint64 pol_slices_IndexFunc_SSint64_Sint64 F_slices_IndexFunc_SSint64_Sint64 N [⟨yK,a0⟩,⟨(.fn n_impl_isMap_1 (.cons (.ptr (.cons yK .nil)) (.cons (.ptr (.cons yK .nil)) (.cons (.ptr (.cons yL .nil)) .nil)))),a1⟩] = (slices_IndexFunc_SSint64_Sint64_impl_isMap_1.l0 R N N a0 a1 (List.length a0:Int) (0:Int)) := by kernel_rfl
/-! slices.ContainsFunc[[][]int64,[]int64] -/
theorem slices_ContainsFunc_SSint64_Sint64_impl_isMap_1.ev (R:Run) (N:Nat) (a0:vK) (a1:((vK × Unit) × (vK × Unit) × ((List Int) × Unit) × Unit)):evFn E R sg_slices_ContainsFunc_SSint64_Sint64 pol_slices_ContainsFunc_SSint64_Sint64 F_slices_ContainsFunc_SSint64_Sint64 N [⟨yK,a0⟩,⟨(.fn n_impl_isMap_1 (.cons (.ptr (.cons yK .nil)) (.cons (.ptr (.cons yK .nil)) (.cons (.ptr (.cons yL .nil)) .nil)))),a1⟩] = ((callT R n_slices_IndexFunc_SSint64_Sint64 o_slices_IndexFunc_SSint64_Sint64 [⟨yK,a0⟩,⟨(.fn n_impl_isMap_1 (.cons (.ptr (.cons yK .nil)) (.cons (.ptr (.cons yK .nil)) (.cons (.ptr (.cons yL .nil)) .nil)))),a1⟩]).bind fun r1 => some ⟨o_slices_ContainsFunc_SSint64_Sint64,((decide (r1.1 ≥ (0:Int))),())⟩) := by kernel_rfl
/-! loop.example/g01005/impl.isMap -/
theorem impl_isMap.ev (R:Run) (N:Nat) (a0:vK) (a1:vK) (a2:(List Int)):evFn E R sg_impl_isMap pol_impl_isMap F_impl_isMap N [⟨yK,a0⟩,⟨yK,a1⟩,⟨yL,a2⟩] = ((callT R n_impl_verticesOf o_impl_verticesOf [⟨yK,a0⟩]).bind fun r1 => (bif ((List.length a2:Int) != (List.length r1.1:Int)) then some ⟨o_impl_isMap,(false,())⟩ else ((callT R n_slices_ContainsFunc_SSint64_Sint64 o_slices_ContainsFunc_SSint64_Sint64 [⟨yK,a0⟩,⟨(.fn n_impl_isMap_1 (.cons (.ptr (.cons yK .nil)) (.cons (.ptr (.cons yK .nil)) (.cons (.ptr (.cons yL .nil)) .nil)))),((a1,()),(a0,()),(a2,()),())⟩]).bind fun r2 => some ⟨o_impl_isMap,((!r2.1),())⟩))) := by kernel_rfl
/-! loop.example/g01005/impl.IsMap -/
theorem impl_IsMap.ev (R:Run) (N:Nat) (a0:vK) (a1:vK) (a2:(List Int)):evFn E R sg_impl_IsMap pol_impl_IsMap F_impl_IsMap N [⟨yK,a0⟩,⟨yK,a1⟩,⟨yL,a2⟩] = ((callT R n_impl_ValidComplex o_impl_ValidComplex [⟨yK,a0⟩]).bind fun r1 => (bif r1.1 then ((callT R n_impl_ValidComplex o_impl_ValidComplex [⟨yK,a1⟩]).bind fun r2 => (bif r2.1 then ((callT R n_impl_isMap o_impl_isMap [⟨yK,a0⟩,⟨yK,a1⟩,⟨yL,a2⟩]).bind fun r3 => some ⟨o_impl_IsMap,(r3.1,())⟩) else some ⟨o_impl_IsMap,(false,())⟩)) else some ⟨o_impl_IsMap,(false,())⟩)) := by kernel_rfl
/-! loop.example/g01005/laws.eqInt64S -/
noncomputable def laws_eqInt64S.l0 (R:Run) (N:Nat) (n:Nat) (a_1:(List Int)) (b_2:(List Int)) (i_3:Int):Option Dv := R.w (some ⟨(.c (.d yL a_1)::(.c (.d yL b_2)::(zd 3 (.c (.d yI i_3)::(zd 20 []))))),(zo 28 [])⟩) fun st => lC R pol_laws_eqInt64S 4 N [1,1,0,1,0,0] F_laws_eqInt64S n st (kB R pol_laws_eqInt64S 0 (kS R pol_laws_eqInt64S 8 N [1,1,1] F_laws_eqInt64S (kTop E sg_laws_eqInt64S F_laws_eqInt64S)))
theorem laws_eqInt64S.l0_succ (R:Run) (hw:R.ok) (N:Nat) (n:Nat) (a_1:(List Int)) (b_2:(List Int)) (i_3:Int):laws_eqInt64S.l0 R N (n + 1) a_1 b_2 i_3 = (bif (decide (i_3 < (List.length a_1:Int))) then ((idx? a_1 i_3).bind fun y4 => ((idx? b_2 i_3).bind fun y5 => (bif ((y4,()).1 != (y5,()).1) then some ⟨o_laws_eqInt64S,(false,())⟩ else (laws_eqInt64S.l0 R N n a_1 b_2 (w64 (i_3 + (1:Int))))))) else some ⟨o_laws_eqInt64S,(true,())⟩) := (hw _ _).trans (by kernel_rfl)
theorem laws_eqInt64S.ev (R:Run) (N:Nat) (a0:(List Int)) (a1:(List Int)):evFn E R sg_laws_eqInt64S pol_laws_eqInt64S F_laws_eqInt64S N [⟨yL,a0⟩,⟨yL,a1⟩] = (bif ((List.length a0:Int) != (List.length a1:Int)) then some ⟨o_laws_eqInt64S,(false,())⟩ else (laws_eqInt64S.l0 R N N a0 a1 (0:Int))) := by kernel_rfl
/-! loop.example/g01005/laws.eqInt64SS -/
noncomputable def laws_eqInt64SS.l0 (R:Run) (N:Nat) (n:Nat) (a_1:vK) (b_2:vK) (i_3:Int):Option Dv := R.w (some ⟨(.c (.d yK a_1)::(.c (.d yK b_2)::(zd 3 (.c (.d yI i_3)::(zd 21 []))))),(zo 29 [])⟩) fun st => lC R pol_laws_eqInt64SS 4 N [1,1,0,1,0,0] F_laws_eqInt64SS n st (kB R pol_laws_eqInt64SS 0 (kS R pol_laws_eqInt64SS 8 N [1,1,1] F_laws_eqInt64SS (kTop E sg_laws_eqInt64SS F_laws_eqInt64SS)))
theorem laws_eqInt64SS.l0_succ (R:Run) (hw:R.ok) (N:Nat) (n:Nat) (a_1:vK) (b_2:vK) (i_3:Int):laws_eqInt64SS.l0 R N (n + 1) a_1 b_2 i_3 = (bif (decide (i_3 < (List.length a_1:Int))) then ((idx? a_1 i_3).bind fun y4 => ((idx? b_2 i_3).bind fun y5 => ((callT R n_laws_eqInt64S o_laws_eqInt64S [⟨yL,(y4,()).1⟩,⟨yL,(y5,()).1⟩]).bind fun r6 => (bif (!r6.1) then some ⟨o_laws_eqInt64SS,(false,())⟩ else (laws_eqInt64SS.l0 R N n a_1 b_2 (w64 (i_3 + (1:Int)))))))) else some ⟨o_laws_eqInt64SS,(true,())⟩) := (hw _ _).trans (by kernel_rfl)
theorem laws_eqInt64SS.ev (R:Run) (N:Nat) (a0:vK) (a1:vK):evFn E R sg_laws_eqInt64SS pol_laws_eqInt64SS F_laws_eqInt64SS N [⟨yK,a0⟩,⟨yK,a1⟩] = (bif ((List.length a0:Int) != (List.length a1:Int)) then some ⟨o_laws_eqInt64SS,(false,())⟩ else (laws_eqInt64SS.l0 R N N a0 a1 (0:Int))) := by kernel_rfl
/-! loop.example/g01005/laws.eqComplex -/
theorem laws_eqComplex.ev (R:Run) (N:Nat) (a0:vK) (a1:vK):evFn E R sg_laws_eqComplex pol_laws_eqComplex F_laws_eqComplex N [⟨yK,a0⟩,⟨yK,a1⟩] = ((callT R n_laws_eqInt64SS o_laws_eqInt64SS [⟨yK,a0⟩,⟨yK,a1⟩]).bind fun r1 => (bif (!r1.1) then some ⟨o_laws_eqComplex,(false,())⟩ else some ⟨o_laws_eqComplex,(true,())⟩)) := by kernel_rfl
/-! loop.example/g01005/laws.FnExactIsMap -/
theorem laws_FnExactIsMap.ev (R:Run) (N:Nat) (a0:vK) (a1:vK) (a2:(List Int)):evFn E R sg_laws_FnExactIsMap pol_laws_FnExactIsMap F_laws_FnExactIsMap N [⟨yK,a0⟩,⟨yK,a1⟩,⟨yL,a2⟩] = (bif (decide ((List.length a2:Int) > (1048576:Int))) then some ⟨o_laws_FnExactIsMap,(true,())⟩ else ((callT R n_laws_szComplex o_laws_szComplex [⟨yK,a0⟩,⟨yI,(1048576:Int)⟩]).bind fun r1 => (bif (decide (r1.1 < (0:Int))) then some ⟨o_laws_FnExactIsMap,(true,())⟩ else ((callT R n_laws_szComplex o_laws_szComplex [⟨yK,a1⟩,⟨yI,r1.1⟩]).bind fun r2 => (bif (decide (r2.1 < (0:Int))) then some ⟨o_laws_FnExactIsMap,(true,())⟩ else ((callT R n_laws_toComplex o_laws_toComplex [⟨yK,a0⟩]).bind fun r3 => ((callT R n_laws_toComplex o_laws_toComplex [⟨yK,a1⟩]).bind fun r4 => ((callT R n_laws_toInt64S o_laws_toInt64S [⟨yL,a2⟩]).bind fun r5 => ((callT R n_spec_IsMap o_spec_IsMap [⟨yK,r3.1⟩,⟨yK,r4.1⟩,⟨yL,r5.1⟩]).bind fun r6 => ((callT R n_laws_toComplex o_laws_toComplex [⟨yK,a0⟩]).bind fun r7 => ((callT R n_laws_toComplex o_laws_toComplex [⟨yK,a1⟩]).bind fun r8 => ((callT R n_laws_toInt64S o_laws_toInt64S [⟨yL,a2⟩]).bind fun r9 => ((callT R n_impl_IsMap o_impl_IsMap [⟨yK,r7.1⟩,⟨yK,r8.1⟩,⟨yL,r9.1⟩]).bind fun r10 => (bif (r10.1 != r6.1) then some ⟨o_laws_FnExactIsMap,(false,())⟩ else ((callT R n_laws_toComplex o_laws_toComplex [⟨yK,a0⟩]).bind fun r11 => ((callT R n_laws_eqComplex o_laws_eqComplex [⟨yK,r7.1⟩,⟨yK,r11.1⟩]).bind fun r12 => (bif (!r12.1) then some ⟨o_laws_FnExactIsMap,(false,())⟩ else ((callT R n_laws_toComplex o_laws_toComplex [⟨yK,a1⟩]).bind fun r13 => ((callT R n_laws_eqComplex o_laws_eqComplex [⟨yK,r8.1⟩,⟨yK,r13.1⟩]).bind fun r14 => (bif (!r14.1) then some ⟨o_laws_FnExactIsMap,(false,())⟩ else ((callT R n_laws_toInt64S o_laws_toInt64S [⟨yL,a2⟩]).bind fun r15 => ((callT R n_laws_eqInt64S o_laws_eqInt64S [⟨yL,r9.1⟩,⟨yL,r15.1⟩]).bind fun r16 => (bif (!r16.1) then some ⟨o_laws_FnExactIsMap,(false,())⟩ else some ⟨o_laws_FnExactIsMap,(true,())⟩))))))))))))))))))))))) := by kernel_rfl
/-! loop.example/g01005/spec.l08Ask -/
noncomputable def spec_l08Ask.j0 (R:Run) (N:Nat) (a_2:(vK × Unit)) (b_3:(vK × Unit)) (images_4:(List Int)) (t14__5:Bool):Option Dv := R.w (some ⟨(.c (.ip (.cons yK .nil) a_2 0)::(.c (.ip (.cons yK .nil) b_3 0)::(.c (.d yL images_4)::(zd 11 (.c (.d .bool t14__5)::(zd 5 [])))))),(zo 23 [])⟩) fun st => eC R pol_spec_l08Ask N [1,0,1] F_spec_l08Ask st (kS R pol_spec_l08Ask 3 N [1,1] F_spec_l08Ask (kTop E sg_spec_l08Ask F_spec_l08Ask))
theorem spec_l08Ask.j0_eq (R:Run) (hw:R.ok) (N:Nat) (a_2:(vK × Unit)) (b_3:(vK × Unit)) (images_4:(List Int)) (t14__5:Bool):spec_l08Ask.j0 R N a_2 b_3 images_4 t14__5 = (bif t14__5 then some ⟨o_spec_l08Ask,((1:Int),())⟩ else ((callT R n_spec_l08Map o_spec_l08Map [⟨(.ptr (.cons yK .nil)),a_2⟩,⟨(.ptr (.cons yK .nil)),b_3⟩,⟨yL,images_4⟩]).bind fun r6 => (bif (!r6.1) then some ⟨o_spec_l08Ask,((7:Int),())⟩ else some ⟨o_spec_l08Ask,((0:Int),())⟩))) := (hw _ _).trans (by kernel_rfl)
theorem spec_l08Ask.ev (R:Run) (N:Nat) (a0:(vK × Unit)) (a1:(vK × Unit)) (a2:(List Int)):evFn E R sg_spec_l08Ask pol_spec_l08Ask F_spec_l08Ask N [⟨(.ptr (.cons yK .nil)),a0⟩,⟨(.ptr (.cons yK .nil)),a1⟩,⟨yL,a2⟩] = ((callT R n_spec_l05Ok o_spec_l05Ok [⟨(.ptr (.cons yK .nil)),a0⟩]).bind fun r1 => (bif (!r1.1) then (spec_l08Ask.j0 R N a0 a1 a2 true) else ((callT R n_spec_l05Ok o_spec_l05Ok [⟨(.ptr (.cons yK .nil)),a1⟩]).bind fun r7 => (spec_l08Ask.j0 R N a0 a1 a2 (!r7.1))))) := by kernel_rfl
/-! loop.example/g01005/spec.l08At -/
theorem spec_l08At.ev (R:Run) (N:Nat) (a0:(vK × Unit)) (a1:(vK × Unit)) (a2:(List Int)) (a3:Int):evFn E R sg_spec_l08At pol_spec_l08At F_spec_l08At N [⟨(.ptr (.cons yK .nil)),a0⟩,⟨(.ptr (.cons yK .nil)),a1⟩,⟨yL,a2⟩,⟨yI,a3⟩] = ((idx? a0.1 a3).bind fun y1 => ((callT R n_spec_l08Vertices o_spec_l08Vertices [⟨(.ptr (.cons yK .nil)),a0⟩]).bind fun r2 => ((callT R n_spec_l08Image o_spec_l08Image [⟨yL,r2.1⟩,⟨yL,a2⟩,⟨yL,(y1,()).1⟩]).bind fun r3 => ((callT R n_spec_l05Find o_spec_l05Find [⟨(.ptr (.cons yK .nil)),a1⟩,⟨yL,r3.1⟩]).bind fun r4 => some ⟨o_spec_l08At,(r4.1,())⟩)))) := by kernel_rfl
/-! loop.example/g01005/spec.SimplexImage -/
noncomputable def spec_SimplexImage.j1 (R:Run) (N:Nat) (images_9:(List Int)) (k_10:Int) (code_11:Int) (a_12:vK) (b_13:vK):Option Dv := R.w (some ⟨(V.dead::(V.dead::(.c (.d yL images_9)::(.c (.d yI k_10)::(.c (.box 4 0)::(.c (.box 5 0)::(zd 4 (.c (.d yI code_11)::(zd 19 []))))))))),(zo 4 (some (.box [.d yK a_12] false false)::(some (.box [.d yK b_13] false false)::(zo 28 []))))⟩) fun st => eC R pol_spec_SimplexImage N [1,1,1] F_spec_SimplexImage st (kTop E sg_spec_SimplexImage F_spec_SimplexImage)
noncomputable def spec_SimplexImage.j0 (R:Run) (N:Nat) (images_3:(List Int)) (k_4:Int) (code_5:Int) (t23__6:Bool) (a_7:vK) (b_8:vK):Option Dv := R.w (some ⟨(V.dead::(V.dead::(.c (.d yL images_3)::(.c (.d yI k_4)::(.c (.box 4 0)::(.c (.box 5 0)::(zd 4 (.c (.d yI code_5)::(zd 12 (.c (.d .bool t23__6)::(zd 6 []))))))))))),(zo 4 (some (.box [.d yK a_7] false false)::(some (.box [.d yK b_8] false false)::(zo 28 []))))⟩) fun st => eC R pol_spec_SimplexImage N [1,1,0,1] F_spec_SimplexImage st (kS R pol_spec_SimplexImage 4 N [1,1,1] F_spec_SimplexImage (kTop E sg_spec_SimplexImage F_spec_SimplexImage))
theorem spec_SimplexImage.j1_eq (R:Run) (hw:R.ok) (N:Nat) (images_9:(List Int)) (k_10:Int) (code_11:Int) (a_12:vK) (b_13:vK):spec_SimplexImage.j1 R N images_9 k_10 code_11 a_12 b_13 = (bif (code_11 != (0:Int)) then some ⟨o_spec_SimplexImage,((0:Int),code_11,())⟩ else ((callT R n_spec_l08At o_spec_l08At [⟨(.ptr (.cons yK .nil)),(a_12,())⟩,⟨(.ptr (.cons yK .nil)),(b_13,())⟩,⟨yL,images_9⟩,⟨yI,k_10⟩]).bind fun r14 => some ⟨o_spec_SimplexImage,(r14.1,(0:Int),())⟩)) := (hw _ _).trans (by kernel_rfl)
theorem spec_SimplexImage.j0_eq (R:Run) (hw:R.ok) (N:Nat) (images_3:(List Int)) (k_4:Int) (code_5:Int) (t23__6:Bool) (a_7:vK) (b_8:vK):spec_SimplexImage.j0 R N images_3 k_4 code_5 t23__6 a_7 b_8 = (bif t23__6 then (spec_SimplexImage.j1 R N images_3 k_4 (2:Int) a_7 b_8) else (spec_SimplexImage.j1 R N images_3 k_4 code_5 a_7 b_8)) := (hw _ _).trans (by kernel_rfl)
theorem spec_SimplexImage.ev (R:Run) (N:Nat) (a0:vK) (a1:vK) (a2:(List Int)) (a3:Int):evFn E R sg_spec_SimplexImage pol_spec_SimplexImage F_spec_SimplexImage N [⟨yK,a0⟩,⟨yK,a1⟩,⟨yL,a2⟩,⟨yI,a3⟩] = ((callT R n_spec_l08Ask o_spec_l08Ask [⟨(.ptr (.cons yK .nil)),(a0,())⟩,⟨(.ptr (.cons yK .nil)),(a1,())⟩,⟨yL,a2⟩]).bind fun r1 => (bif (r1.1 == (0:Int)) then ((callT R n_spec_l00In o_spec_l00In [⟨yI,a3⟩,⟨yI,(0:Int)⟩,⟨yI,(w64 ((List.length a0:Int) - (1:Int)))⟩]).bind fun r2 => (spec_SimplexImage.j0 R N a2 a3 r1.1 (!r2.1) a0 a1)) else (spec_SimplexImage.j0 R N a2 a3 r1.1 false a0 a1))) := by kernel_rfl
/-! loop.example/g01005/impl.mapped -/
noncomputable def impl_mapped.j0 (R:Run) (N:Nat) (images_2:(List Int)) (t7__3:Bool) (a_4:vK) (b_5:vK):Option Dv := R.w (some ⟨(V.dead::(V.dead::(.c (.d yL images_2)::(.c (.box 3 0)::(.c (.box 4 0)::(V.dead::(V.dead::(.c (.d .bool t7__3)::(zd 14 []))))))))),(zo 3 (some (.box [.d yK a_4] false false)::(some (.box [.d yK b_5] false false)::(zo 20 []))))⟩) fun st => eC R pol_impl_mapped N [1,0,0,1] F_impl_mapped st (kB R pol_impl_mapped 0 (kS R pol_impl_mapped 5 N [1,1] F_impl_mapped (kTop E sg_impl_mapped F_impl_mapped)))
theorem impl_mapped.j0_eq (R:Run) (hw:R.ok) (N:Nat) (images_2:(List Int)) (t7__3:Bool) (a_4:vK) (b_5:vK):impl_mapped.j0 R N images_2 t7__3 a_4 b_5 = (bif t7__3 then some ⟨o_impl_mapped,((1:Int),())⟩ else ((callT R n_impl_isMap o_impl_isMap [⟨yK,a_4⟩,⟨yK,b_5⟩,⟨yL,images_2⟩]).bind fun r6 => (bif (!r6.1) then some ⟨o_impl_mapped,((7:Int),())⟩ else some ⟨o_impl_mapped,((0:Int),())⟩))) := (hw _ _).trans (by kernel_rfl)
theorem impl_mapped.ev (R:Run) (N:Nat) (a0:vK) (a1:vK) (a2:(List Int)):evFn E R sg_impl_mapped pol_impl_mapped F_impl_mapped N [⟨yK,a0⟩,⟨yK,a1⟩,⟨yL,a2⟩] = ((callT R n_impl_ValidComplex o_impl_ValidComplex [⟨yK,a0⟩]).bind fun r1 => (bif (!r1.1) then (impl_mapped.j0 R N a2 true a0 a1) else ((callT R n_impl_ValidComplex o_impl_ValidComplex [⟨yK,a1⟩]).bind fun r7 => (impl_mapped.j0 R N a2 (!r7.1) a0 a1)))) := by kernel_rfl
/-! loop.example/g01005/impl.size[[]int64] -/
theorem impl_size_Sint64.ev (R:Run) (N:Nat) (a0:vK):evFn E R sg_impl_size_Sint64 pol_impl_size_Sint64 F_impl_size_Sint64 N [⟨yK,a0⟩] = some ⟨o_impl_size_Sint64,((List.length a0:Int),())⟩ := by kernel_rfl
/-! loop.example/g01005/impl.SimplexImage -/
theorem impl_SimplexImage.ev (R:Run) (N:Nat) (a0:vK) (a1:vK) (a2:(List Int)) (a3:Int):evFn E R sg_impl_SimplexImage pol_impl_SimplexImage F_impl_SimplexImage N [⟨yK,a0⟩,⟨yK,a1⟩,⟨yL,a2⟩,⟨yI,a3⟩] = ((callT R n_impl_mapped o_impl_mapped [⟨yK,a0⟩,⟨yK,a1⟩,⟨yL,a2⟩]).bind fun r1 => (bif (r1.1 != (0:Int)) then some ⟨o_impl_SimplexImage,((0:Int),r1.1,())⟩ else ((callT R n_impl_size_Sint64 o_impl_size_Sint64 [⟨yK,a0⟩]).bind fun r2 => ((callT R n_impl_within o_impl_within [⟨yI,a3⟩,⟨yI,(0:Int)⟩,⟨yI,(w64 (r2.1 - (1:Int)))⟩]).bind fun r3 => (bif (!r3.1) then some ⟨o_impl_SimplexImage,((0:Int),(2:Int),())⟩ else ((idx? a0 a3).bind fun y4 => ((callT R n_impl_imageOf o_impl_imageOf [⟨yK,a0⟩,⟨yL,a2⟩,⟨yL,(y4,()).1⟩]).bind fun r5 => ((callT R n_impl_indexOf o_impl_indexOf [⟨yK,a1⟩,⟨yL,r5.1⟩]).bind fun r6 => some ⟨o_impl_SimplexImage,(r6.1,(0:Int),())⟩)))))))) := by kernel_rfl
/-! loop.example/g01005/laws.FnExactSimplexImage -/
noncomputable def laws_FnExactSimplexImage.j0 (R:Run) (N:Nat) (t2__11:(List Int)) (t14__12:(List Int)) (t62__13:Bool) (o4_14:vK) (o5_15:vK) (o12_16:vK) (o13_17:vK):Option Dv := R.w (some ⟨(V.dead::(V.dead::(.c (.d yL t2__11)::(V.dead::(.c (.box 4 0)::(.c (.box 5 0)::(zd 6 (.c (.box 12 0)::(.c (.box 13 0)::(.c (.d yL t14__12)::(zd 47 (.c (.d .bool t62__13)::(zd 15 []))))))))))))),(zo 4 (some (.box [.d yK o4_14] false false)::(some (.box [.d yK o5_15] false false)::(zo 6 (some (.box [.d yK o12_16] false false)::(some (.box [.d yK o13_17] false false)::(zo 68 [])))))))⟩) fun st => eC R pol_laws_FnExactSimplexImage N [1,1,1,1,1,1,1,1,1,1,1,1,0,1] F_laws_FnExactSimplexImage st (kS R pol_laws_FnExactSimplexImage 17 N [1,1,1,1,1,1,1,1,1,1,1,1,1] F_laws_FnExactSimplexImage (kTop E sg_laws_FnExactSimplexImage F_laws_FnExactSimplexImage))
theorem laws_FnExactSimplexImage.j0_eq (R:Run) (hw:R.ok) (N:Nat) (t2__11:(List Int)) (t14__12:(List Int)) (t62__13:Bool) (o4_14:vK) (o5_15:vK) (o12_16:vK) (o13_17:vK):laws_FnExactSimplexImage.j0 R N t2__11 t14__12 t62__13 o4_14 o5_15 o12_16 o13_17 = (bif t62__13 then some ⟨o_laws_FnExactSimplexImage,(false,())⟩ else ((callT R n_laws_toComplex o_laws_toComplex [⟨yK,o4_14⟩]).bind fun r18 => ((callT R n_laws_eqComplex o_laws_eqComplex [⟨yK,o12_16⟩,⟨yK,r18.1⟩]).bind fun r19 => (bif (!r19.1) then some ⟨o_laws_FnExactSimplexImage,(false,())⟩ else ((callT R n_laws_toComplex o_laws_toComplex [⟨yK,o5_15⟩]).bind fun r20 => ((callT R n_laws_eqComplex o_laws_eqComplex [⟨yK,o13_17⟩,⟨yK,r20.1⟩]).bind fun r21 => (bif (!r21.1) then some ⟨o_laws_FnExactSimplexImage,(false,())⟩ else ((callT R n_laws_toInt64S o_laws_toInt64S [⟨yL,t2__11⟩]).bind fun r22 => ((callT R n_laws_eqInt64S o_laws_eqInt64S [⟨yL,t14__12⟩,⟨yL,r22.1⟩]).bind fun r23 => (bif (!r23.1) then some ⟨o_laws_FnExactSimplexImage,(false,())⟩ else some ⟨o_laws_FnExactSimplexImage,(true,())⟩)))))))))) := (hw _ _).trans (by kernel_rfl)
theorem laws_FnExactSimplexImage.ev (R:Run) (N:Nat) (a0:vK) (a1:vK) (a2:(List Int)) (a3:Int):evFn E R sg_laws_FnExactSimplexImage pol_laws_FnExactSimplexImage F_laws_FnExactSimplexImage N [⟨yK,a0⟩,⟨yK,a1⟩,⟨yL,a2⟩,⟨yI,a3⟩] = (bif (decide ((List.length a2:Int) > (1048576:Int))) then some ⟨o_laws_FnExactSimplexImage,(true,())⟩ else ((callT R n_laws_szComplex o_laws_szComplex [⟨yK,a0⟩,⟨yI,(1048576:Int)⟩]).bind fun r1 => (bif (decide (r1.1 < (0:Int))) then some ⟨o_laws_FnExactSimplexImage,(true,())⟩ else ((callT R n_laws_szComplex o_laws_szComplex [⟨yK,a1⟩,⟨yI,r1.1⟩]).bind fun r2 => (bif (decide (r2.1 < (0:Int))) then some ⟨o_laws_FnExactSimplexImage,(true,())⟩ else ((callT R n_laws_toComplex o_laws_toComplex [⟨yK,a0⟩]).bind fun r3 => ((callT R n_laws_toComplex o_laws_toComplex [⟨yK,a1⟩]).bind fun r4 => ((callT R n_laws_toInt64S o_laws_toInt64S [⟨yL,a2⟩]).bind fun r5 => ((callT R n_spec_SimplexImage o_spec_SimplexImage [⟨yK,r3.1⟩,⟨yK,r4.1⟩,⟨yL,r5.1⟩,⟨yI,a3⟩]).bind fun r6 => ((callT R n_laws_toComplex o_laws_toComplex [⟨yK,a0⟩]).bind fun r7 => ((callT R n_laws_toComplex o_laws_toComplex [⟨yK,a1⟩]).bind fun r8 => ((callT R n_laws_toInt64S o_laws_toInt64S [⟨yL,a2⟩]).bind fun r9 => ((callT R n_impl_SimplexImage o_impl_SimplexImage [⟨yK,r7.1⟩,⟨yK,r8.1⟩,⟨yL,r9.1⟩,⟨yI,a3⟩]).bind fun r10 => (bif (r10.1 != r6.1) then (laws_FnExactSimplexImage.j0 R N a2 r9.1 true a0 a1 r7.1 r8.1) else (laws_FnExactSimplexImage.j0 R N a2 r9.1 (r10.2.1 != r6.2.1) a0 a1 r7.1 r8.1))))))))))))))) := by kernel_rfl
/-! loop.example/g01005/spec.FibreOf -/
noncomputable def spec_FibreOf.l2 (R:Run) (N:Nat) (n:Nat) (images_14:(List Int)) (m_15:Int) (k_16:Int) (a_17:vK) (b_18:vK) (o29_19:(List Int)):Option Dv := R.w (some ⟨(V.dead::(V.dead::(.c (.d yL images_14)::(.c (.d yI m_15)::(.c (.box 4 0)::(.c (.box 5 0)::(zd 5 (.c (.arr 29)::(.c (.d yI k_16)::(zd 34 [])))))))))),(zo 4 (some (.box [.d yK a_17] false false)::(some (.box [.d yK b_18] false false)::(zo 23 (some (.arr yI o29_19 true false false)::(zo 21 []))))))⟩) fun st => lC R pol_spec_FibreOf 8 N [1,1,1,1,1,0,1,0,0] F_spec_FibreOf n st (kB R pol_spec_FibreOf 0 (kS R pol_spec_FibreOf 12 N [1,1,1,1,1,1] F_spec_FibreOf (kTop E sg_spec_FibreOf F_spec_FibreOf)))
noncomputable def spec_FibreOf.j1 (R:Run) (N:Nat) (images_9:(List Int)) (m_10:Int) (code_11:Int) (a_12:vK) (b_13:vK):Option Dv := R.w (some ⟨(V.dead::(V.dead::(.c (.d yL images_9)::(.c (.d yI m_10)::(.c (.box 4 0)::(.c (.box 5 0)::(zd 4 (.c (.d yI code_11)::(zd 36 []))))))))),(zo 4 (some (.box [.d yK a_12] false false)::(some (.box [.d yK b_13] false false)::(zo 45 []))))⟩) fun st => eC R pol_spec_FibreOf N [1,1,1] F_spec_FibreOf st (kTop E sg_spec_FibreOf F_spec_FibreOf)
noncomputable def spec_FibreOf.j0 (R:Run) (N:Nat) (images_3:(List Int)) (m_4:Int) (code_5:Int) (t25__6:Bool) (a_7:vK) (b_8:vK):Option Dv := R.w (some ⟨(V.dead::(V.dead::(.c (.d yL images_3)::(.c (.d yI m_4)::(.c (.box 4 0)::(.c (.box 5 0)::(zd 4 (.c (.d yI code_5)::(zd 14 (.c (.d .bool t25__6)::(zd 21 []))))))))))),(zo 4 (some (.box [.d yK a_7] false false)::(some (.box [.d yK b_8] false false)::(zo 45 []))))⟩) fun st => eC R pol_spec_FibreOf N [1,1,0,1] F_spec_FibreOf st (kS R pol_spec_FibreOf 4 N [1,1,1] F_spec_FibreOf (kTop E sg_spec_FibreOf F_spec_FibreOf))
theorem spec_FibreOf.l2_succ (R:Run) (hw:R.ok) (N:Nat) (n:Nat) (images_14:(List Int)) (m_15:Int) (k_16:Int) (a_17:vK) (b_18:vK) (o29_19:(List Int)):spec_FibreOf.l2 R N (n + 1) images_14 m_15 k_16 a_17 b_18 o29_19 = (bif (decide (k_16 < (List.length a_17:Int))) then ((callT R n_spec_l08At o_spec_l08At [⟨(.ptr (.cons yK .nil)),(a_17,())⟩,⟨(.ptr (.cons yK .nil)),(b_18,())⟩,⟨yL,images_14⟩,⟨yI,k_16⟩]).bind fun r20 => (bif (r20.1 == m_15) then ((chk (decide ((List.length o29_19 + List.length [k_16]) * 8 ≤ 70368744177664))).bind fun _ => (spec_FibreOf.l2 R N n images_14 m_15 (w64 (k_16 + (1:Int))) a_17 b_18 (o29_19 ++ [k_16]))) else (spec_FibreOf.l2 R N n images_14 m_15 (w64 (k_16 + (1:Int))) a_17 b_18 o29_19))) else some ⟨o_spec_FibreOf,(o29_19,(0:Int),())⟩) := (hw _ _).trans (by kernel_rfl)
theorem spec_FibreOf.j1_eq (R:Run) (hw:R.ok) (N:Nat) (images_9:(List Int)) (m_10:Int) (code_11:Int) (a_12:vK) (b_13:vK):spec_FibreOf.j1 R N images_9 m_10 code_11 a_12 b_13 = (bif (code_11 != (0:Int)) then some ⟨o_spec_FibreOf,(([]:List Int),code_11,())⟩ else (spec_FibreOf.l2 R N N images_9 m_10 (0:Int) a_12 b_13 ([]:List Int))) := (hw _ _).trans (by kernel_rfl)
theorem spec_FibreOf.j0_eq (R:Run) (hw:R.ok) (N:Nat) (images_3:(List Int)) (m_4:Int) (code_5:Int) (t25__6:Bool) (a_7:vK) (b_8:vK):spec_FibreOf.j0 R N images_3 m_4 code_5 t25__6 a_7 b_8 = (bif t25__6 then (spec_FibreOf.j1 R N images_3 m_4 (2:Int) a_7 b_8) else (spec_FibreOf.j1 R N images_3 m_4 code_5 a_7 b_8)) := (hw _ _).trans (by kernel_rfl)
theorem spec_FibreOf.ev (R:Run) (N:Nat) (a0:vK) (a1:vK) (a2:(List Int)) (a3:Int):evFn E R sg_spec_FibreOf pol_spec_FibreOf F_spec_FibreOf N [⟨yK,a0⟩,⟨yK,a1⟩,⟨yL,a2⟩,⟨yI,a3⟩] = ((callT R n_spec_l08Ask o_spec_l08Ask [⟨(.ptr (.cons yK .nil)),(a0,())⟩,⟨(.ptr (.cons yK .nil)),(a1,())⟩,⟨yL,a2⟩]).bind fun r1 => (bif (r1.1 == (0:Int)) then ((callT R n_spec_l00In o_spec_l00In [⟨yI,a3⟩,⟨yI,(0:Int)⟩,⟨yI,(w64 ((List.length a1:Int) - (1:Int)))⟩]).bind fun r2 => (spec_FibreOf.j0 R N a2 a3 r1.1 (!r2.1) a0 a1)) else (spec_FibreOf.j0 R N a2 a3 r1.1 false a0 a1))) := by kernel_rfl
/-! slices.Equal[[]int64,int64] -/
noncomputable def slices_Equal_Sint64_int64.l0 (R:Run) (N:Nat) (n:Nat) (s1_1:(List Int)) (s2_2:(List Int)) (t12__3:Int) (t13__4:Int):Option Dv := R.w (some ⟨(.c (.d yL s1_1)::(.c (.d yL s2_2)::(zd 10 (.c (.d yI t12__3)::(.c (.d yI t13__4)::(zd 12 [])))))),(zo 28 [])⟩) fun st => lC R pol_slices_Equal_Sint64_int64 4 N [1,1,0,1,0,0] F_slices_Equal_Sint64_int64 n st (kB R pol_slices_Equal_Sint64_int64 0 (kS R pol_slices_Equal_Sint64_int64 9 N [1,1,1] F_slices_Equal_Sint64_int64 (kTop E sg_slices_Equal_Sint64_int64 F_slices_Equal_Sint64_int64)))
theorem slices_Equal_Sint64_int64.l0_succ (R:Run) (hw:R.ok) (N:Nat) (n:Nat) (s1_1:(List Int)) (s2_2:(List Int)) (t12__3:Int) (t13__4:Int):slices_Equal_Sint64_int64.l0 R N (n + 1) s1_1 s2_2 t12__3 t13__4 = (bif (decide (t13__4 < t12__3)) then ((idx? s1_1 t13__4).bind fun y5 => ((idx? s2_2 t13__4).bind fun y6 => (bif ((y5,()).1 != (y6,()).1) then some ⟨o_slices_Equal_Sint64_int64,(false,())⟩ else (slices_Equal_Sint64_int64.l0 R N n s1_1 s2_2 t12__3 (w64 (t13__4 + (1:Int))))))) else some ⟨o_slices_Equal_Sint64_int64,(true,())⟩) := (hw _ _).trans (by kernel_rfl)
theorem slices_Equal_Sint64_int64.ev (R:Run) (N:Nat) (a0:(List Int)) (a1:(List Int)):evFn E R sg_slices_Equal_Sint64_int64 pol_slices_Equal_Sint64_int64 F_slices_Equal_Sint64_int64 N [⟨yL,a0⟩,⟨yL,a1⟩] = (bif ((List.length a0:Int) != (List.length a1:Int)) then some ⟨o_slices_Equal_Sint64_int64,(false,())⟩ else (slices_Equal_Sint64_int64.l0 R N N a0 a1 (List.length a0:Int) (0:Int))) := by kernel_rfl
/-! loop.example/g01005/impl.FibreOf -/
noncomputable def impl_FibreOf.l0 (R:Run) (N:Nat) (n:Nat) (images_4:(List Int)) (m_5:Int) (t29__6:vK) (t30__7:Int) (t31__8:Int) (a_9:vK) (b_10:vK) (o49_11:(List Int)):Option Dv := R.w (some ⟨(V.dead::(V.dead::(.c (.d yL images_4)::(.c (.d yI m_5)::(.c (.box 4 0)::(.c (.box 5 0)::(zd 5 (.c (.arr 49)::(zd 17 (.c (.d yK t29__6)::(.c (.d yI t30__7)::(.c (.d yI t31__8)::(zd 20 []))))))))))))),(zo 4 (some (.box [.d yK a_9] false false)::(some (.box [.d yK b_10] false false)::(zo 43 (some (.arr yI o49_11 true false false)::(zo 6 []))))))⟩) fun st => lC R pol_impl_FibreOf 8 N [1,1,1,1,0,1,0,0] F_impl_FibreOf n st (kB R pol_impl_FibreOf 0 (kS R pol_impl_FibreOf 13 N [1,1,1,1,1] F_impl_FibreOf (kTop E sg_impl_FibreOf F_impl_FibreOf)))
theorem impl_FibreOf.l0_succ (R:Run) (hw:R.ok) (N:Nat) (n:Nat) (images_4:(List Int)) (m_5:Int) (t29__6:vK) (t30__7:Int) (t31__8:Int) (a_9:vK) (b_10:vK) (o49_11:(List Int)):impl_FibreOf.l0 R N (n + 1) images_4 m_5 t29__6 t30__7 t31__8 a_9 b_10 o49_11 = (bif (decide (t31__8 < t30__7)) then ((idx? t29__6 t31__8).bind fun y12 => ((idx? b_10 m_5).bind fun y13 => ((callT R n_impl_imageOf o_impl_imageOf [⟨yK,a_9⟩,⟨yL,images_4⟩,⟨yL,(y12,()).1⟩]).bind fun r14 => ((callT R n_slices_Equal_Sint64_int64 o_slices_Equal_Sint64_int64 [⟨yL,r14.1⟩,⟨yL,(y13,()).1⟩]).bind fun r15 => (bif r15.1 then ((chk (decide ((List.length o49_11 + List.length [t31__8]) * 8 ≤ 70368744177664))).bind fun _ => (impl_FibreOf.l0 R N n images_4 m_5 t29__6 t30__7 (w64 (t31__8 + (1:Int))) a_9 b_10 (o49_11 ++ [t31__8]))) else (impl_FibreOf.l0 R N n images_4 m_5 t29__6 t30__7 (w64 (t31__8 + (1:Int))) a_9 b_10 o49_11)))))) else some ⟨o_impl_FibreOf,(o49_11,(0:Int),())⟩) := (hw _ _).trans (by kernel_rfl)
theorem impl_FibreOf.ev (R:Run) (N:Nat) (a0:vK) (a1:vK) (a2:(List Int)) (a3:Int):evFn E R sg_impl_FibreOf pol_impl_FibreOf F_impl_FibreOf N [⟨yK,a0⟩,⟨yK,a1⟩,⟨yL,a2⟩,⟨yI,a3⟩] = ((callT R n_impl_mapped o_impl_mapped [⟨yK,a0⟩,⟨yK,a1⟩,⟨yL,a2⟩]).bind fun r1 => (bif (r1.1 != (0:Int)) then some ⟨o_impl_FibreOf,(([]:List Int),r1.1,())⟩ else ((callT R n_impl_size_Sint64 o_impl_size_Sint64 [⟨yK,a1⟩]).bind fun r2 => ((callT R n_impl_within o_impl_within [⟨yI,a3⟩,⟨yI,(0:Int)⟩,⟨yI,(w64 (r2.1 - (1:Int)))⟩]).bind fun r3 => (bif (!r3.1) then some ⟨o_impl_FibreOf,(([]:List Int),(2:Int),())⟩ else (impl_FibreOf.l0 R N N a2 a3 a0 (List.length a0:Int) (0:Int) a0 a1 ([]:List Int))))))) := by kernel_rfl
/-! loop.example/g01005/laws.markInt64S -/
noncomputable def laws_markInt64S.l0 (R:Run) (N:Nat) (n:Nat) (k_1:Int) (i_2:Int) (o19_3:(List Int)):Option Dv := R.w (some ⟨(.c (.arr 19)::(.c (.d yI k_1)::(zd 3 (.c (.d yI i_2)::(zd 13 []))))),(zo 19 (some (.arr yI o19_3 true false true)::(none::[])))⟩) fun st => lC R pol_laws_markInt64S 2 N [1,0,1,0,0] F_laws_markInt64S n st (kB R pol_laws_markInt64S 0 (kS R pol_laws_markInt64S 6 N [1,1] F_laws_markInt64S (kTop E sg_laws_markInt64S F_laws_markInt64S)))
theorem laws_markInt64S.l0_succ (R:Run) (hw:R.ok) (N:Nat) (n:Nat) (k_1:Int) (i_2:Int) (o19_3:(List Int)):laws_markInt64S.l0 R N (n + 1) k_1 i_2 o19_3 = (bif (decide (i_2 < (List.length o19_3:Int))) then ((chk (decide (0 ≤ i_2) && decide (i_2 < (List.length o19_3:Int)))).bind fun _ => (laws_markInt64S.l0 R N n (w64 (k_1 + (1:Int))) (w64 (i_2 + (1:Int))) (List.set o19_3 (Int.toNat i_2) k_1))) else some ⟨o_laws_markInt64S,(k_1,o19_3,())⟩) := (hw _ _).trans (by kernel_rfl)
theorem laws_markInt64S.ev (R:Run) (N:Nat) (a0:(List Int)) (a1:Int):evFn E R sg_laws_markInt64S pol_laws_markInt64S F_laws_markInt64S N [⟨yL,a0⟩,⟨yI,a1⟩] = (laws_markInt64S.l0 R N N a1 (0:Int) a0) := by kernel_rfl
/-! loop.example/g01005/laws.markComplex -/
theorem laws_markComplex.ev (R:Run) (N:Nat) (a0:vK) (a1:Int):evFn E R sg_laws_markComplex pol_laws_markComplex F_laws_markComplex N [⟨yK,a0⟩,⟨yI,a1⟩] = ((callT R n_laws_markInt64SS o_laws_markInt64SS [⟨yK,a0⟩,⟨yI,a1⟩]).bind fun r1 => some ⟨o_laws_markComplex,(r1.1,r1.2.1,())⟩) := by kernel_rfl
/-! loop.example/g01005/laws.heldInt64S -/
noncomputable def laws_heldInt64S.l0 (R:Run) (N:Nat) (n:Nat) (a_1:(List Int)) (k_2:Int) (i_3:Int):Option Dv := R.w (some ⟨(.c (.d yL a_1)::(.c (.d yI k_2)::(zd 3 (.c (.d yI i_3)::(zd 15 []))))),(zo 23 [])⟩) fun st => lC R pol_laws_heldInt64S 2 N [1,0,1,0,0] F_laws_heldInt64S n st (kB R pol_laws_heldInt64S 0 (kS R pol_laws_heldInt64S 7 N [1,1] F_laws_heldInt64S (kTop E sg_laws_heldInt64S F_laws_heldInt64S)))
theorem laws_heldInt64S.l0_succ (R:Run) (hw:R.ok) (N:Nat) (n:Nat) (a_1:(List Int)) (k_2:Int) (i_3:Int):laws_heldInt64S.l0 R N (n + 1) a_1 k_2 i_3 = (bif (decide (i_3 < (List.length a_1:Int))) then ((idx? a_1 i_3).bind fun y4 => (bif ((y4,()).1 != k_2) then some ⟨o_laws_heldInt64S,((-1:Int),())⟩ else (laws_heldInt64S.l0 R N n a_1 (w64 (k_2 + (1:Int))) (w64 (i_3 + (1:Int)))))) else some ⟨o_laws_heldInt64S,(k_2,())⟩) := (hw _ _).trans (by kernel_rfl)
theorem laws_heldInt64S.ev (R:Run) (N:Nat) (a0:(List Int)) (a1:Int):evFn E R sg_laws_heldInt64S pol_laws_heldInt64S F_laws_heldInt64S N [⟨yL,a0⟩,⟨yI,a1⟩] = (laws_heldInt64S.l0 R N N a0 a1 (0:Int)) := by kernel_rfl
end VeT

open Go Go.Proofs Ve
set_option linter.unusedVariables false
set_option maxRecDepth 100000
namespace VeT
/-! loop.example/g01005/laws.FnExactFibreOf -/
noncomputable def laws_FnExactFibreOf.j2 (R:Run) (N:Nat) (t18__48:Int) (t136__49:Bool) (o152_50:(List Int)):Option Dv := R.w (some ⟨(zd 15 (.c (.arr 152)::(V.dead::(V.dead::(.c (.d yI t18__48)::(zd 117 (.c (.d .bool t136__49)::(zd 8 [])))))))),(zo 152 (some (.arr yI o152_50 true false false)::[]))⟩) fun st => eC R pol_laws_FnExactFibreOf N [1,1,1,1,1,1,1,1,1,1,1,1,1,1,1,1,1,1,1,1,1,1,1,1,1,1,1,1,0,1] F_laws_FnExactFibreOf st (kS R pol_laws_FnExactFibreOf 40 N [1,1,1,1,1,1,1,1,1,1,1,1,1,1,1,1,1,1,1,1,1,1,1,1,1,1,1,1,1] F_laws_FnExactFibreOf (kTop E sg_laws_FnExactFibreOf F_laws_FnExactFibreOf))
noncomputable def laws_FnExactFibreOf.j1 (R:Run) (N:Nat) (t2__33:(List Int)) (t3__34:Int) (t10__35:(List Int)) (t11__36:Int) (t105__37:Bool) (o4_38:vK) (o5_39:vK) (o152_40:(List Int)):Option Dv := R.w (some ⟨(V.dead::(V.dead::(.c (.d yL t2__33)::(.c (.d yI t3__34)::(.c (.box 4 0)::(.c (.box 5 0)::(zd 4 (.c (.d yL t10__35)::(.c (.d yI t11__36)::(zd 3 (.c (.arr 152)::(zd 89 (.c (.d .bool t105__37)::(zd 39 [])))))))))))))),(zo 4 (some (.box [.d yK o4_38] false false)::(some (.box [.d yK o5_39] false false)::(zo 146 (some (.arr yI o152_40 true false false)::[])))))⟩) fun st => eC R pol_laws_FnExactFibreOf N [1,1,1,1,1,1,1,1,1,1,1,1,1,1,1,1,1,1,1,1,0,1] F_laws_FnExactFibreOf st (kS R pol_laws_FnExactFibreOf 29 N [1,1,1,1,1,1,1,1,1,1,1,1,1,1,1,1,1,1,1,1,1] F_laws_FnExactFibreOf (kTop E sg_laws_FnExactFibreOf F_laws_FnExactFibreOf))
noncomputable def laws_FnExactFibreOf.j0 (R:Run) (N:Nat) (t2__12:(List Int)) (t3__13:Int) (t10__14:(List Int)) (t11__15:Int) (t16__16:Int) (t68__17:Bool) (o4_18:vK) (o5_19:vK) (o149_20:vK) (o150_21:vK) (o151_22:(List Int)) (o152_23:(List Int)):Option Dv := R.w (some ⟨(V.dead::(V.dead::(.c (.d yL t2__12)::(.c (.d yI t3__13)::(.c (.box 4 0)::(.c (.box 5 0)::(zd 4 (.c (.d yL t10__14)::(.c (.d yI t11__15)::(.c (.box 12 0)::(.c (.box 13 0)::(.c (.arr 151)::(.c (.arr 152)::(.c (.d yI t16__16)::(zd 51 (.c (.d .bool t68__17)::(zd 76 []))))))))))))))))),(zo 4 (some (.box [.d yK o4_18] false false)::(some (.box [.d yK o5_19] false false)::(zo 6 (some (.box [.arr 149] false false)::(some (.box [.arr 150] false false)::(zo 135 (some (.arr yL o149_20 true false false)::(some (.arr yL o150_21 true false false)::(some (.arr yI o151_22 true false false)::(some (.arr yI o152_23 true false false)::[])))))))))))⟩) fun st => eC R pol_laws_FnExactFibreOf N [1,1,1,1,1,1,1,1,1,1,1,1,0,1] F_laws_FnExactFibreOf st (kS R pol_laws_FnExactFibreOf 17 N [1,1,1,1,1,1,1,1,1,1,1,1,1] F_laws_FnExactFibreOf (kTop E sg_laws_FnExactFibreOf F_laws_FnExactFibreOf))
theorem laws_FnExactFibreOf.j2_eq (R:Run) (hw:R.ok) (N:Nat) (t18__48:Int) (t136__49:Bool) (o152_50:(List Int)):laws_FnExactFibreOf.j2 R N t18__48 t136__49 o152_50 = (bif t136__49 then some ⟨o_laws_FnExactFibreOf,(false,())⟩ else ((callT R n_laws_heldInt64S o_laws_heldInt64S [⟨yL,o152_50⟩,⟨yI,(1:Int)⟩]).bind fun r51 => (bif (decide (r51.1 < (0:Int))) then some ⟨o_laws_FnExactFibreOf,(false,())⟩ else (bif (r51.1 != t18__48) then some ⟨o_laws_FnExactFibreOf,(false,())⟩ else some ⟨o_laws_FnExactFibreOf,(true,())⟩)))) := (hw _ _).trans (by kernel_rfl)
theorem laws_FnExactFibreOf.j1_eq (R:Run) (hw:R.ok) (N:Nat) (t2__33:(List Int)) (t3__34:Int) (t10__35:(List Int)) (t11__36:Int) (t105__37:Bool) (o4_38:vK) (o5_39:vK) (o152_40:(List Int)):laws_FnExactFibreOf.j1 R N t2__33 t3__34 t10__35 t11__36 t105__37 o4_38 o5_39 o152_40 = (bif t105__37 then some ⟨o_laws_FnExactFibreOf,(false,())⟩ else ((callT R n_laws_markInt64S o_laws_markInt64S [⟨yL,o152_40⟩,⟨yI,(1:Int)⟩]).bind fun r41 => ((callT R n_laws_heldInt64S o_laws_heldInt64S [⟨yL,r41.2.1⟩,⟨yI,(1:Int)⟩]).bind fun r42 => (bif (decide (r42.1 < (0:Int))) then some ⟨o_laws_FnExactFibreOf,(false,())⟩ else (bif (r42.1 != r41.1) then some ⟨o_laws_FnExactFibreOf,(false,())⟩ else ((callT R n_laws_toComplex o_laws_toComplex [⟨yK,o4_38⟩]).bind fun r43 => ((callT R n_laws_toComplex o_laws_toComplex [⟨yK,o5_39⟩]).bind fun r44 => ((callT R n_laws_toInt64S o_laws_toInt64S [⟨yL,t2__33⟩]).bind fun r45 => ((callT R n_impl_FibreOf o_impl_FibreOf [⟨yK,r43.1⟩,⟨yK,r44.1⟩,⟨yL,r45.1⟩,⟨yI,t3__34⟩]).bind fun r46 => ((callT R n_laws_eqInt64S o_laws_eqInt64S [⟨yL,r46.1⟩,⟨yL,t10__35⟩]).bind fun r47 => (bif (!r47.1) then (laws_FnExactFibreOf.j2 R N r41.1 true r41.2.1) else (laws_FnExactFibreOf.j2 R N r41.1 (r46.2.1 != t11__36) r41.2.1)))))))))))) := (hw _ _).trans (by kernel_rfl)
theorem laws_FnExactFibreOf.j0_eq (R:Run) (hw:R.ok) (N:Nat) (t2__12:(List Int)) (t3__13:Int) (t10__14:(List Int)) (t11__15:Int) (t16__16:Int) (t68__17:Bool) (o4_18:vK) (o5_19:vK) (o149_20:vK) (o150_21:vK) (o151_22:(List Int)) (o152_23:(List Int)):laws_FnExactFibreOf.j0 R N t2__12 t3__13 t10__14 t11__15 t16__16 t68__17 o4_18 o5_19 o149_20 o150_21 o151_22 o152_23 = (bif t68__17 then some ⟨o_laws_FnExactFibreOf,(false,())⟩ else ((callT R n_laws_toComplex o_laws_toComplex [⟨yK,o4_18⟩]).bind fun r24 => ((callT R n_laws_eqComplex o_laws_eqComplex [⟨yK,o149_20⟩,⟨yK,r24.1⟩]).bind fun r25 => (bif (!r25.1) then some ⟨o_laws_FnExactFibreOf,(false,())⟩ else ((callT R n_laws_toComplex o_laws_toComplex [⟨yK,o5_19⟩]).bind fun r26 => ((callT R n_laws_eqComplex o_laws_eqComplex [⟨yK,o150_21⟩,⟨yK,r26.1⟩]).bind fun r27 => (bif (!r27.1) then some ⟨o_laws_FnExactFibreOf,(false,())⟩ else ((callT R n_laws_toInt64S o_laws_toInt64S [⟨yL,t2__12⟩]).bind fun r28 => ((callT R n_laws_eqInt64S o_laws_eqInt64S [⟨yL,o151_22⟩,⟨yL,r28.1⟩]).bind fun r29 => (bif (!r29.1) then some ⟨o_laws_FnExactFibreOf,(false,())⟩ else ((callT R n_laws_markComplex o_laws_markComplex [⟨yK,o149_20⟩,⟨yI,(1:Int)⟩]).bind fun r30 => ((callT R n_laws_markComplex o_laws_markComplex [⟨yK,o150_21⟩,⟨yI,r30.1⟩]).bind fun r31 => ((callT R n_laws_markInt64S o_laws_markInt64S [⟨yL,o151_22⟩,⟨yI,r31.1⟩]).bind fun r32 => (bif (decide (r32.1 < (0:Int))) then (laws_FnExactFibreOf.j1 R N t2__12 t3__13 t10__14 t11__15 true o4_18 o5_19 o152_23) else ((callT R n_laws_eqInt64S o_laws_eqInt64S [⟨yL,o152_23⟩,⟨yL,t10__14⟩]).bind fun r55 => (bif (!r55.1) then (laws_FnExactFibreOf.j1 R N t2__12 t3__13 t10__14 t11__15 true o4_18 o5_19 o152_23) else (laws_FnExactFibreOf.j1 R N t2__12 t3__13 t10__14 t11__15 (t16__16 != t11__15) o4_18 o5_19 o152_23))))))))))))))))) := (hw _ _).trans (by kernel_rfl)
theorem laws_FnExactFibreOf.ev (R:Run) (N:Nat) (a0:vK) (a1:vK) (a2:(List Int)) (a3:Int):evFn E R sg_laws_FnExactFibreOf pol_laws_FnExactFibreOf F_laws_FnExactFibreOf N [⟨yK,a0⟩,⟨yK,a1⟩,⟨yL,a2⟩,⟨yI,a3⟩] = (bif (decide ((List.length a2:Int) > (1048576:Int))) then some ⟨o_laws_FnExactFibreOf,(true,())⟩ else ((callT R n_laws_szComplex o_laws_szComplex [⟨yK,a0⟩,⟨yI,(1048576:Int)⟩]).bind fun r1 => (bif (decide (r1.1 < (0:Int))) then some ⟨o_laws_FnExactFibreOf,(true,())⟩ else ((callT R n_laws_szComplex o_laws_szComplex [⟨yK,a1⟩,⟨yI,r1.1⟩]).bind fun r2 => (bif (decide (r2.1 < (0:Int))) then some ⟨o_laws_FnExactFibreOf,(true,())⟩ else ((callT R n_laws_toComplex o_laws_toComplex [⟨yK,a0⟩]).bind fun r3 => ((callT R n_laws_toComplex o_laws_toComplex [⟨yK,a1⟩]).bind fun r4 => ((callT R n_laws_toInt64S o_laws_toInt64S [⟨yL,a2⟩]).bind fun r5 => ((callT R n_spec_FibreOf o_spec_FibreOf [⟨yK,r3.1⟩,⟨yK,r4.1⟩,⟨yL,r5.1⟩,⟨yI,a3⟩]).bind fun r6 => ((callT R n_laws_toComplex o_laws_toComplex [⟨yK,a0⟩]).bind fun r7 => ((callT R n_laws_toComplex o_laws_toComplex [⟨yK,a1⟩]).bind fun r8 => ((callT R n_laws_toInt64S o_laws_toInt64S [⟨yL,a2⟩]).bind fun r9 => ((callT R n_impl_FibreOf o_impl_FibreOf [⟨yK,r7.1⟩,⟨yK,r8.1⟩,⟨yL,r9.1⟩,⟨yI,a3⟩]).bind fun r10 => ((callT R n_laws_eqInt64S o_laws_eqInt64S [⟨yL,r10.1⟩,⟨yL,r6.1⟩]).bind fun r11 => (bif (!r11.1) then (laws_FnExactFibreOf.j0 R N a2 a3 r6.1 r6.2.1 r10.2.1 true a0 a1 r7.1 r8.1 r9.1 r10.1) else (laws_FnExactFibreOf.j0 R N a2 a3 r6.1 r6.2.1 r10.2.1 (r10.2.1 != r6.2.1) a0 a1 r7.1 r8.1 r9.1 r10.1)))))))))))))))) := by kernel_rfl
/-! loop.example/g01005/spec.ComposeMaps -/
noncomputable def spec_ComposeMaps.l2 (R:Run) (N:Nat) (n:Nat) (f_14:(List Int)) (g_15:(List Int)) (vertices_16:(List Int)) (i_17:Int) (o34_18:(List Int)):Option Dv := R.w (some ⟨(zd 3 (.c (.d yL f_14)::(.c (.d yL g_15)::(zd 7 (.c (.d yL vertices_16)::(.c (.arr 34)::(.c (.d yI i_17)::(zd 37 [])))))))),(zo 34 (some (.arr yI o34_18 true false false)::(zo 22 [])))⟩) fun st => lC R pol_spec_ComposeMaps 8 N [1,1,1,1,1,0,1,0,0] F_spec_ComposeMaps n st (kB R pol_spec_ComposeMaps 0 (kS R pol_spec_ComposeMaps 11 N [1,1,1,1,1,1] F_spec_ComposeMaps (kTop E sg_spec_ComposeMaps F_spec_ComposeMaps)))
noncomputable def spec_ComposeMaps.j1 (R:Run) (N:Nat) (f_9:(List Int)) (g_10:(List Int)) (t32__11:Bool) (b_12:vK):Option Dv := R.w (some ⟨(zd 3 (.c (.d yL f_9)::(.c (.d yL g_10)::(V.dead::(.c (.box 6 0)::(zd 25 (.c (.d .bool t32__11)::(zd 19 [])))))))),(zo 6 (some (.box [.d yK b_12] false false)::(zo 50 [])))⟩) fun st => eC R pol_spec_ComposeMaps N [1,1,0,1] F_spec_ComposeMaps st (kS R pol_spec_ComposeMaps 5 N [1,1,1] F_spec_ComposeMaps (kTop E sg_spec_ComposeMaps F_spec_ComposeMaps))
noncomputable def spec_ComposeMaps.j0 (R:Run) (N:Nat) (f_2:(List Int)) (g_3:(List Int)) (t24__4:Bool) (a_5:vK) (b_6:vK) (c_7:vK):Option Dv := R.w (some ⟨(zd 3 (.c (.d yL f_2)::(.c (.d yL g_3)::(.c (.box 5 0)::(.c (.box 6 0)::(.c (.box 7 0)::(zd 16 (.c (.d .bool t24__4)::(zd 27 []))))))))),(zo 5 (some (.box [.d yK a_5] false false)::(some (.box [.d yK b_6] false false)::(some (.box [.d yK c_7] false false)::(zo 49 [])))))⟩) fun st => eC R pol_spec_ComposeMaps N [1,0,1] F_spec_ComposeMaps st (kS R pol_spec_ComposeMaps 3 N [1,1] F_spec_ComposeMaps (kTop E sg_spec_ComposeMaps F_spec_ComposeMaps))
theorem spec_ComposeMaps.l2_succ (R:Run) (hw:R.ok) (N:Nat) (n:Nat) (f_14:(List Int)) (g_15:(List Int)) (vertices_16:(List Int)) (i_17:Int) (o34_18:(List Int)):spec_ComposeMaps.l2 R N (n + 1) f_14 g_15 vertices_16 i_17 o34_18 = (bif (decide (i_17 < (List.length f_14:Int))) then ((idx? f_14 i_17).bind fun y19 => ((callT R n_spec_l08Told o_spec_l08Told [⟨yL,vertices_16⟩,⟨yL,g_15⟩,⟨yI,(y19,()).1⟩]).bind fun r20 => ((chk (decide ((List.length o34_18 + List.length [r20.1]) * 8 ≤ 70368744177664))).bind fun _ => (spec_ComposeMaps.l2 R N n f_14 g_15 vertices_16 (w64 (i_17 + (1:Int))) (o34_18 ++ [r20.1]))))) else some ⟨o_spec_ComposeMaps,(o34_18,(0:Int),())⟩) := (hw _ _).trans (by kernel_rfl)
theorem spec_ComposeMaps.j1_eq (R:Run) (hw:R.ok) (N:Nat) (f_9:(List Int)) (g_10:(List Int)) (t32__11:Bool) (b_12:vK):spec_ComposeMaps.j1 R N f_9 g_10 t32__11 b_12 = (bif t32__11 then some ⟨o_spec_ComposeMaps,(([]:List Int),(7:Int),())⟩ else ((callT R n_spec_l08Vertices o_spec_l08Vertices [⟨(.ptr (.cons yK .nil)),(b_12,())⟩]).bind fun r13 => (spec_ComposeMaps.l2 R N N f_9 g_10 r13.1 (0:Int) ([]:List Int)))) := (hw _ _).trans (by kernel_rfl)
theorem spec_ComposeMaps.j0_eq (R:Run) (hw:R.ok) (N:Nat) (f_2:(List Int)) (g_3:(List Int)) (t24__4:Bool) (a_5:vK) (b_6:vK) (c_7:vK):spec_ComposeMaps.j0 R N f_2 g_3 t24__4 a_5 b_6 c_7 = (bif t24__4 then some ⟨o_spec_ComposeMaps,(([]:List Int),(1:Int),())⟩ else ((callT R n_spec_l08Map o_spec_l08Map [⟨(.ptr (.cons yK .nil)),(a_5,())⟩,⟨(.ptr (.cons yK .nil)),(b_6,())⟩,⟨yL,f_2⟩]).bind fun r8 => (bif (!r8.1) then (spec_ComposeMaps.j1 R N f_2 g_3 true b_6) else ((callT R n_spec_l08Map o_spec_l08Map [⟨(.ptr (.cons yK .nil)),(b_6,())⟩,⟨(.ptr (.cons yK .nil)),(c_7,())⟩,⟨yL,g_3⟩]).bind fun r26 => (spec_ComposeMaps.j1 R N f_2 g_3 (!r26.1) b_6))))) := (hw _ _).trans (by kernel_rfl)
theorem spec_ComposeMaps.ev (R:Run) (N:Nat) (a0:vK) (a1:vK) (a2:vK) (a3:(List Int)) (a4:(List Int)):evFn E R sg_spec_ComposeMaps pol_spec_ComposeMaps F_spec_ComposeMaps N [⟨yK,a0⟩,⟨yK,a1⟩,⟨yK,a2⟩,⟨yL,a3⟩,⟨yL,a4⟩] = ((callT R n_spec_l05Ok o_spec_l05Ok [⟨(.ptr (.cons yK .nil)),(a0,())⟩]).bind fun r1 => (bif (!r1.1) then (spec_ComposeMaps.j0 R N a3 a4 true a0 a1 a2) else ((callT R n_spec_l05Ok o_spec_l05Ok [⟨(.ptr (.cons yK .nil)),(a1,())⟩]).bind fun r31 => (bif (!r31.1) then (spec_ComposeMaps.j0 R N a3 a4 true a0 a1 a2) else ((callT R n_spec_l05Ok o_spec_l05Ok [⟨(.ptr (.cons yK .nil)),(a2,())⟩]).bind fun r38 => (spec_ComposeMaps.j0 R N a3 a4 (!r38.1) a0 a1 a2)))))) := by kernel_rfl
/-! loop.example/g01005/impl.ComposeMaps -/
noncomputable def impl_ComposeMaps.l2 (R:Run) (N:Nat) (n:Nat) (g_13:(List Int)) (t40__14:(List Int)) (t41__15:Int) (t42__16:Int) (b_17:vK) (o55_18:(List Int)):Option Dv := R.w (some ⟨(zd 4 (.c (.d yL g_13)::(V.dead::(.c (.box 6 0)::(zd 5 (.c (.arr 55)::(zd 27 (.c (.d yL t40__14)::(.c (.d yI t41__15)::(.c (.d yI t42__16)::(zd 15 []))))))))))),(zo 6 (some (.box [.d yK b_17] false false)::(zo 48 (some (.arr yI o55_18 true false false)::(zo 7 [])))))⟩) fun st => lC R pol_impl_ComposeMaps 7 N [1,1,1,1,0,1,0,0] F_impl_ComposeMaps n st (kB R pol_impl_ComposeMaps 0 (kS R pol_impl_ComposeMaps 11 N [1,1,1,1,1] F_impl_ComposeMaps (kTop E sg_impl_ComposeMaps F_impl_ComposeMaps)))
noncomputable def impl_ComposeMaps.j1 (R:Run) (N:Nat) (f_9:(List Int)) (g_10:(List Int)) (t39__11:Bool) (b_12:vK):Option Dv := R.w (some ⟨(zd 3 (.c (.d yL f_9)::(.c (.d yL g_10)::(V.dead::(.c (.box 6 0)::(zd 32 (.c (.d .bool t39__11)::(zd 18 [])))))))),(zo 6 (some (.box [.d yK b_12] false false)::(zo 56 [])))⟩) fun st => eC R pol_impl_ComposeMaps N [1,1,0,1] F_impl_ComposeMaps st (kS R pol_impl_ComposeMaps 5 N [1,1,1] F_impl_ComposeMaps (kTop E sg_impl_ComposeMaps F_impl_ComposeMaps))
noncomputable def impl_ComposeMaps.j0 (R:Run) (N:Nat) (f_2:(List Int)) (g_3:(List Int)) (t27__4:Bool) (a_5:vK) (b_6:vK) (c_7:vK):Option Dv := R.w (some ⟨(zd 3 (.c (.d yL f_2)::(.c (.d yL g_3)::(.c (.box 5 0)::(.c (.box 6 0)::(.c (.box 7 0)::(zd 19 (.c (.d .bool t27__4)::(zd 30 []))))))))),(zo 5 (some (.box [.d yK a_5] false false)::(some (.box [.d yK b_6] false false)::(some (.box [.d yK c_7] false false)::(zo 55 [])))))⟩) fun st => eC R pol_impl_ComposeMaps N [1,0,1] F_impl_ComposeMaps st (kS R pol_impl_ComposeMaps 3 N [1,1] F_impl_ComposeMaps (kTop E sg_impl_ComposeMaps F_impl_ComposeMaps))
theorem impl_ComposeMaps.l2_succ (R:Run) (hw:R.ok) (N:Nat) (n:Nat) (g_13:(List Int)) (t40__14:(List Int)) (t41__15:Int) (t42__16:Int) (b_17:vK) (o55_18:(List Int)):impl_ComposeMaps.l2 R N (n + 1) g_13 t40__14 t41__15 t42__16 b_17 o55_18 = (bif (decide (t42__16 < t41__15)) then ((idx? t40__14 t42__16).bind fun y19 => ((callT R n_impl_imageOf o_impl_imageOf [⟨yK,b_17⟩,⟨yL,g_13⟩,⟨yL,[(y19,()).1]⟩]).bind fun r20 => ((idx? r20.1 (0:Int)).bind fun y21 => ((chk (decide ((List.length o55_18 + List.length [(y21,()).1]) * 8 ≤ 70368744177664))).bind fun _ => (impl_ComposeMaps.l2 R N n g_13 t40__14 t41__15 (w64 (t42__16 + (1:Int))) b_17 (o55_18 ++ [(y21,()).1])))))) else some ⟨o_impl_ComposeMaps,(o55_18,(0:Int),())⟩) := (hw _ _).trans (by kernel_rfl)
theorem impl_ComposeMaps.j1_eq (R:Run) (hw:R.ok) (N:Nat) (f_9:(List Int)) (g_10:(List Int)) (t39__11:Bool) (b_12:vK):impl_ComposeMaps.j1 R N f_9 g_10 t39__11 b_12 = (bif t39__11 then some ⟨o_impl_ComposeMaps,(([]:List Int),(7:Int),())⟩ else (impl_ComposeMaps.l2 R N N g_10 f_9 (List.length f_9:Int) (0:Int) b_12 ([]:List Int))) := (hw _ _).trans (by kernel_rfl)
theorem impl_ComposeMaps.j0_eq (R:Run) (hw:R.ok) (N:Nat) (f_2:(List Int)) (g_3:(List Int)) (t27__4:Bool) (a_5:vK) (b_6:vK) (c_7:vK):impl_ComposeMaps.j0 R N f_2 g_3 t27__4 a_5 b_6 c_7 = (bif t27__4 then some ⟨o_impl_ComposeMaps,(([]:List Int),(1:Int),())⟩ else ((callT R n_impl_isMap o_impl_isMap [⟨yK,a_5⟩,⟨yK,b_6⟩,⟨yL,f_2⟩]).bind fun r8 => (bif (!r8.1) then (impl_ComposeMaps.j1 R N f_2 g_3 true b_6) else ((callT R n_impl_isMap o_impl_isMap [⟨yK,b_6⟩,⟨yK,c_7⟩,⟨yL,g_3⟩]).bind fun r28 => (impl_ComposeMaps.j1 R N f_2 g_3 (!r28.1) b_6))))) := (hw _ _).trans (by kernel_rfl)
theorem impl_ComposeMaps.ev (R:Run) (N:Nat) (a0:vK) (a1:vK) (a2:vK) (a3:(List Int)) (a4:(List Int)):evFn E R sg_impl_ComposeMaps pol_impl_ComposeMaps F_impl_ComposeMaps N [⟨yK,a0⟩,⟨yK,a1⟩,⟨yK,a2⟩,⟨yL,a3⟩,⟨yL,a4⟩] = ((callT R n_impl_ValidComplex o_impl_ValidComplex [⟨yK,a0⟩]).bind fun r1 => (bif (!r1.1) then (impl_ComposeMaps.j0 R N a3 a4 true a0 a1 a2) else ((callT R n_impl_ValidComplex o_impl_ValidComplex [⟨yK,a1⟩]).bind fun r33 => (bif (!r33.1) then (impl_ComposeMaps.j0 R N a3 a4 true a0 a1 a2) else ((callT R n_impl_ValidComplex o_impl_ValidComplex [⟨yK,a2⟩]).bind fun r40 => (impl_ComposeMaps.j0 R N a3 a4 (!r40.1) a0 a1 a2)))))) := by kernel_rfl
/-! loop.example/g01005/laws.FnExactComposeMaps -/
noncomputable def laws_FnExactComposeMaps.j2 (R:Run) (N:Nat) (t22__65:Int) (t175__66:Bool) (o194_67:(List Int)):Option Dv := R.w (some ⟨(zd 19 (.c (.arr 194)::(V.dead::(V.dead::(.c (.d yI t22__65)::(zd 152 (.c (.d .bool t175__66)::(zd 8 [])))))))),(zo 194 (some (.arr yI o194_67 true false false)::[]))⟩) fun st => eC R pol_laws_FnExactComposeMaps N [1,1,1,1,1,1,1,1,1,1,1,1,1,1,1,1,1,1,1,1,1,1,1,1,1,1,1,1,1,1,1,1,1,1,1,1,1,0,1] F_laws_FnExactComposeMaps st (kS R pol_laws_FnExactComposeMaps 53 N [1,1,1,1,1,1,1,1,1,1,1,1,1,1,1,1,1,1,1,1,1,1,1,1,1,1,1,1,1,1,1,1,1,1,1,1,1,1] F_laws_FnExactComposeMaps (kTop E sg_laws_FnExactComposeMaps F_laws_FnExactComposeMaps))
noncomputable def laws_FnExactComposeMaps.j1 (R:Run) (N:Nat) (t3__47:(List Int)) (t4__48:(List Int)) (t12__49:(List Int)) (t13__50:Int) (t141__51:Bool) (o5_52:vK) (o6_53:vK) (o7_54:vK) (o194_55:(List Int)):Option Dv := R.w (some ⟨(zd 3 (.c (.d yL t3__47)::(.c (.d yL t4__48)::(.c (.box 5 0)::(.c (.box 6 0)::(.c (.box 7 0)::(zd 4 (.c (.d yL t12__49)::(.c (.d yI t13__50)::(zd 5 (.c (.arr 194)::(zd 121 (.c (.d .bool t141__51)::(zd 42 [])))))))))))))),(zo 5 (some (.box [.d yK o5_52] false false)::(some (.box [.d yK o6_53] false false)::(some (.box [.d yK o7_54] false false)::(zo 186 (some (.arr yI o194_55 true false false)::[]))))))⟩) fun st => eC R pol_laws_FnExactComposeMaps N [1,1,1,1,1,1,1,1,1,1,1,1,1,1,1,1,1,1,1,1,1,1,1,1,1,1,1,1,1,0,1] F_laws_FnExactComposeMaps st (kS R pol_laws_FnExactComposeMaps 42 N [1,1,1,1,1,1,1,1,1,1,1,1,1,1,1,1,1,1,1,1,1,1,1,1,1,1,1,1,1,1] F_laws_FnExactComposeMaps (kTop E sg_laws_FnExactComposeMaps F_laws_FnExactComposeMaps))
noncomputable def laws_FnExactComposeMaps.j0 (R:Run) (N:Nat) (t3__17:(List Int)) (t4__18:(List Int)) (t12__19:(List Int)) (t13__20:Int) (t20__21:Int) (t88__22:Bool) (o5_23:vK) (o6_24:vK) (o7_25:vK) (o189_26:vK) (o190_27:vK) (o191_28:vK) (o192_29:(List Int)) (o193_30:(List Int)) (o194_31:(List Int)):Option Dv := R.w (some ⟨(zd 3 (.c (.d yL t3__17)::(.c (.d yL t4__18)::(.c (.box 5 0)::(.c (.box 6 0)::(.c (.box 7 0)::(zd 4 (.c (.d yL t12__19)::(.c (.d yI t13__20)::(.c (.box 14 0)::(.c (.box 15 0)::(.c (.box 16 0)::(.c (.arr 192)::(.c (.arr 193)::(.c (.arr 194)::(.c (.d yI t20__21)::(zd 67 (.c (.d .bool t88__22)::(zd 95 []))))))))))))))))))),(zo 5 (some (.box [.d yK o5_23] false false)::(some (.box [.d yK o6_24] false false)::(some (.box [.d yK o7_25] false false)::(zo 6 (some (.box [.arr 189] false false)::(some (.box [.arr 190] false false)::(some (.box [.arr 191] false false)::(zo 172 (some (.arr yL o189_26 true false false)::(some (.arr yL o190_27 true false false)::(some (.arr yL o191_28 true false false)::(some (.arr yI o192_29 true false false)::(some (.arr yI o193_30 true false false)::(some (.arr yI o194_31 true false false)::[])))))))))))))))⟩) fun st => eC R pol_laws_FnExactComposeMaps N [1,1,1,1,1,1,1,1,1,1,1,1,1,1,1,1,1,0,1] F_laws_FnExactComposeMaps st (kS R pol_laws_FnExactComposeMaps 24 N [1,1,1,1,1,1,1,1,1,1,1,1,1,1,1,1,1,1] F_laws_FnExactComposeMaps (kTop E sg_laws_FnExactComposeMaps F_laws_FnExactComposeMaps))
theorem laws_FnExactComposeMaps.j2_eq (R:Run) (hw:R.ok) (N:Nat) (t22__65:Int) (t175__66:Bool) (o194_67:(List Int)):laws_FnExactComposeMaps.j2 R N t22__65 t175__66 o194_67 = (bif t175__66 then some ⟨o_laws_FnExactComposeMaps,(false,())⟩ else ((callT R n_laws_heldInt64S o_laws_heldInt64S [⟨yL,o194_67⟩,⟨yI,(1:Int)⟩]).bind fun r68 => (bif (decide (r68.1 < (0:Int))) then some ⟨o_laws_FnExactComposeMaps,(false,())⟩ else (bif (r68.1 != t22__65) then some ⟨o_laws_FnExactComposeMaps,(false,())⟩ else some ⟨o_laws_FnExactComposeMaps,(true,())⟩)))) := (hw _ _).trans (by kernel_rfl)
theorem laws_FnExactComposeMaps.j1_eq (R:Run) (hw:R.ok) (N:Nat) (t3__47:(List Int)) (t4__48:(List Int)) (t12__49:(List Int)) (t13__50:Int) (t141__51:Bool) (o5_52:vK) (o6_53:vK) (o7_54:vK) (o194_55:(List Int)):laws_FnExactComposeMaps.j1 R N t3__47 t4__48 t12__49 t13__50 t141__51 o5_52 o6_53 o7_54 o194_55 = (bif t141__51 then some ⟨o_laws_FnExactComposeMaps,(false,())⟩ else ((callT R n_laws_markInt64S o_laws_markInt64S [⟨yL,o194_55⟩,⟨yI,(1:Int)⟩]).bind fun r56 => ((callT R n_laws_heldInt64S o_laws_heldInt64S [⟨yL,r56.2.1⟩,⟨yI,(1:Int)⟩]).bind fun r57 => (bif (decide (r57.1 < (0:Int))) then some ⟨o_laws_FnExactComposeMaps,(false,())⟩ else (bif (r57.1 != r56.1) then some ⟨o_laws_FnExactComposeMaps,(false,())⟩ else ((callT R n_laws_toComplex o_laws_toComplex [⟨yK,o5_52⟩]).bind fun r58 => ((callT R n_laws_toComplex o_laws_toComplex [⟨yK,o6_53⟩]).bind fun r59 => ((callT R n_laws_toComplex o_laws_toComplex [⟨yK,o7_54⟩]).bind fun r60 => ((callT R n_laws_toInt64S o_laws_toInt64S [⟨yL,t3__47⟩]).bind fun r61 => ((callT R n_laws_toInt64S o_laws_toInt64S [⟨yL,t4__48⟩]).bind fun r62 => ((callT R n_impl_ComposeMaps o_impl_ComposeMaps [⟨yK,r58.1⟩,⟨yK,r59.1⟩,⟨yK,r60.1⟩,⟨yL,r61.1⟩,⟨yL,r62.1⟩]).bind fun r63 => ((callT R n_laws_eqInt64S o_laws_eqInt64S [⟨yL,r63.1⟩,⟨yL,t12__49⟩]).bind fun r64 => (bif (!r64.1) then (laws_FnExactComposeMaps.j2 R N r56.1 true r56.2.1) else (laws_FnExactComposeMaps.j2 R N r56.1 (r63.2.1 != t13__50) r56.2.1)))))))))))))) := (hw _ _).trans (by kernel_rfl)
theorem laws_FnExactComposeMaps.j0_eq (R:Run) (hw:R.ok) (N:Nat) (t3__17:(List Int)) (t4__18:(List Int)) (t12__19:(List Int)) (t13__20:Int) (t20__21:Int) (t88__22:Bool) (o5_23:vK) (o6_24:vK) (o7_25:vK) (o189_26:vK) (o190_27:vK) (o191_28:vK) (o192_29:(List Int)) (o193_30:(List Int)) (o194_31:(List Int)):laws_FnExactComposeMaps.j0 R N t3__17 t4__18 t12__19 t13__20 t20__21 t88__22 o5_23 o6_24 o7_25 o189_26 o190_27 o191_28 o192_29 o193_30 o194_31 = (bif t88__22 then some ⟨o_laws_FnExactComposeMaps,(false,())⟩ else ((callT R n_laws_toComplex o_laws_toComplex [⟨yK,o5_23⟩]).bind fun r32 => ((callT R n_laws_eqComplex o_laws_eqComplex [⟨yK,o189_26⟩,⟨yK,r32.1⟩]).bind fun r33 => (bif (!r33.1) then some ⟨o_laws_FnExactComposeMaps,(false,())⟩ else ((callT R n_laws_toComplex o_laws_toComplex [⟨yK,o6_24⟩]).bind fun r34 => ((callT R n_laws_eqComplex o_laws_eqComplex [⟨yK,o190_27⟩,⟨yK,r34.1⟩]).bind fun r35 => (bif (!r35.1) then some ⟨o_laws_FnExactComposeMaps,(false,())⟩ else ((callT R n_laws_toComplex o_laws_toComplex [⟨yK,o7_25⟩]).bind fun r36 => ((callT R n_laws_eqComplex o_laws_eqComplex [⟨yK,o191_28⟩,⟨yK,r36.1⟩]).bind fun r37 => (bif (!r37.1) then some ⟨o_laws_FnExactComposeMaps,(false,())⟩ else ((callT R n_laws_toInt64S o_laws_toInt64S [⟨yL,t3__17⟩]).bind fun r38 => ((callT R n_laws_eqInt64S o_laws_eqInt64S [⟨yL,o192_29⟩,⟨yL,r38.1⟩]).bind fun r39 => (bif (!r39.1) then some ⟨o_laws_FnExactComposeMaps,(false,())⟩ else ((callT R n_laws_toInt64S o_laws_toInt64S [⟨yL,t4__18⟩]).bind fun r40 => ((callT R n_laws_eqInt64S o_laws_eqInt64S [⟨yL,o193_30⟩,⟨yL,r40.1⟩]).bind fun r41 => (bif (!r41.1) then some ⟨o_laws_FnExactComposeMaps,(false,())⟩ else ((callT R n_laws_markComplex o_laws_markComplex [⟨yK,o189_26⟩,⟨yI,(1:Int)⟩]).bind fun r42 => ((callT R n_laws_markComplex o_laws_markComplex [⟨yK,o190_27⟩,⟨yI,r42.1⟩]).bind fun r43 => ((callT R n_laws_markComplex o_laws_markComplex [⟨yK,o191_28⟩,⟨yI,r43.1⟩]).bind fun r44 => ((callT R n_laws_markInt64S o_laws_markInt64S [⟨yL,o192_29⟩,⟨yI,r44.1⟩]).bind fun r45 => ((callT R n_laws_markInt64S o_laws_markInt64S [⟨yL,o193_30⟩,⟨yI,r45.1⟩]).bind fun r46 => (bif (decide (r46.1 < (0:Int))) then (laws_FnExactComposeMaps.j1 R N t3__17 t4__18 t12__19 t13__20 true o5_23 o6_24 o7_25 o194_31) else ((callT R n_laws_eqInt64S o_laws_eqInt64S [⟨yL,o194_31⟩,⟨yL,t12__19⟩]).bind fun r72 => (bif (!r72.1) then (laws_FnExactComposeMaps.j1 R N t3__17 t4__18 t12__19 t13__20 true o5_23 o6_24 o7_25 o194_31) else (laws_FnExactComposeMaps.j1 R N t3__17 t4__18 t12__19 t13__20 (t20__21 != t13__20) o5_23 o6_24 o7_25 o194_31))))))))))))))))))))))))) := (hw _ _).trans (by kernel_rfl)
theorem laws_FnExactComposeMaps.ev (R:Run) (N:Nat) (a0:vK) (a1:vK) (a2:vK) (a3:(List Int)) (a4:(List Int)):evFn E R sg_laws_FnExactComposeMaps pol_laws_FnExactComposeMaps F_laws_FnExactComposeMaps N [⟨yK,a0⟩,⟨yK,a1⟩,⟨yK,a2⟩,⟨yL,a3⟩,⟨yL,a4⟩] = (bif (decide ((List.length a3:Int) > (1048576:Int))) then some ⟨o_laws_FnExactComposeMaps,(true,())⟩ else (bif (decide ((List.length a4:Int) > (1048576:Int))) then some ⟨o_laws_FnExactComposeMaps,(true,())⟩ else ((callT R n_laws_szComplex o_laws_szComplex [⟨yK,a0⟩,⟨yI,(1048576:Int)⟩]).bind fun r1 => (bif (decide (r1.1 < (0:Int))) then some ⟨o_laws_FnExactComposeMaps,(true,())⟩ else ((callT R n_laws_szComplex o_laws_szComplex [⟨yK,a1⟩,⟨yI,r1.1⟩]).bind fun r2 => (bif (decide (r2.1 < (0:Int))) then some ⟨o_laws_FnExactComposeMaps,(true,())⟩ else ((callT R n_laws_szComplex o_laws_szComplex [⟨yK,a2⟩,⟨yI,r2.1⟩]).bind fun r3 => (bif (decide (r3.1 < (0:Int))) then some ⟨o_laws_FnExactComposeMaps,(true,())⟩ else ((callT R n_laws_toComplex o_laws_toComplex [⟨yK,a0⟩]).bind fun r4 => ((callT R n_laws_toComplex o_laws_toComplex [⟨yK,a1⟩]).bind fun r5 => ((callT R n_laws_toComplex o_laws_toComplex [⟨yK,a2⟩]).bind fun r6 => ((callT R n_laws_toInt64S o_laws_toInt64S [⟨yL,a3⟩]).bind fun r7 => ((callT R n_laws_toInt64S o_laws_toInt64S [⟨yL,a4⟩]).bind fun r8 => ((callT R n_spec_ComposeMaps o_spec_ComposeMaps [⟨yK,r4.1⟩,⟨yK,r5.1⟩,⟨yK,r6.1⟩,⟨yL,r7.1⟩,⟨yL,r8.1⟩]).bind fun r9 => ((callT R n_laws_toComplex o_laws_toComplex [⟨yK,a0⟩]).bind fun r10 => ((callT R n_laws_toComplex o_laws_toComplex [⟨yK,a1⟩]).bind fun r11 => ((callT R n_laws_toComplex o_laws_toComplex [⟨yK,a2⟩]).bind fun r12 => ((callT R n_laws_toInt64S o_laws_toInt64S [⟨yL,a3⟩]).bind fun r13 => ((callT R n_laws_toInt64S o_laws_toInt64S [⟨yL,a4⟩]).bind fun r14 => ((callT R n_impl_ComposeMaps o_impl_ComposeMaps [⟨yK,r10.1⟩,⟨yK,r11.1⟩,⟨yK,r12.1⟩,⟨yL,r13.1⟩,⟨yL,r14.1⟩]).bind fun r15 => ((callT R n_laws_eqInt64S o_laws_eqInt64S [⟨yL,r15.1⟩,⟨yL,r9.1⟩]).bind fun r16 => (bif (!r16.1) then (laws_FnExactComposeMaps.j0 R N a3 a4 r9.1 r9.2.1 r15.2.1 true a0 a1 a2 r10.1 r11.1 r12.1 r13.1 r14.1 r15.1) else (laws_FnExactComposeMaps.j0 R N a3 a4 r9.1 r9.2.1 r15.2.1 (r15.2.1 != r9.2.1) a0 a1 a2 r10.1 r11.1 r12.1 r13.1 r14.1 r15.1))))))))))))))))))))))) := by kernel_rfl
end VeT


set_option linter.unusedVariables false
set_option linter.unusedSimpArgs false
namespace Go.Proofs
open Go.Shelf
def Try.sort58_ren : Go.Shelf.Ren := ⟨fun | 53 => 58 | 64 => 74 | 63 => 73 | 78 => 88 | 79 => 89 | 70 => 79 | 71 => 80 | 72 => 81 | 73 => 82 | 74 => 83 | 75 => 84 | 59 => 85 | 76 => 86 | 77 => 87 | 88 => 91 | 89 => 92 | 90 => 93 | 91 => 94 | 92 => 95 | 68 => 90 | 96 => 96 | n => n, fun | 22 => 25 | 23 => 2 | 3 => 3 | 51 => 81 | 0 => 0 | 67 => 97 | 69 => 99 | 4 => 4 | 61 => 90 | 60 => 89 | 44 => 69 | 5 => 5 | 9 => 9 | 75 => 100 | 79 => 104 | 83 => 106 | 84 => 107 | n => n, fun | n => n⟩
theorem Try.sort58 : Go.Proofs.SlLaysN.n53 Try.prog Try.sort58_ren := {
  mixed := by kernel_rfl
  f53 := ⟨Try.f58.name, by decide, Try.func58.trans (congrArg some (by kernel_rfl))⟩
  f59 := ⟨Try.f85.name, by decide, Try.func85.trans (congrArg some (by kernel_rfl))⟩
  f63 := ⟨Try.f73.name, by decide, Try.func73.trans (congrArg some (by kernel_rfl))⟩
  f64 := Try.func74.trans (congrArg some (by kernel_rfl))
  f68 := ⟨Try.f90.name, by decide, Try.func90.trans (congrArg some (by kernel_rfl))⟩
  f70 := ⟨Try.f79.name, by decide, Try.func79.trans (congrArg some (by kernel_rfl))⟩
  f71 := ⟨Try.f80.name, by decide, Try.func80.trans (congrArg some (by kernel_rfl))⟩
  f72 := ⟨Try.f81.name, by decide, Try.func81.trans (congrArg some (by kernel_rfl))⟩
  f73 := ⟨Try.f82.name, by decide, Try.func82.trans (congrArg some (by kernel_rfl))⟩
  f74 := ⟨Try.f83.name, by decide, Try.func83.trans (congrArg some (by kernel_rfl))⟩
  f75 := ⟨Try.f84.name, by decide, Try.func84.trans (congrArg some (by kernel_rfl))⟩
  f76 := ⟨Try.f86.name, by decide, Try.func86.trans (congrArg some (by kernel_rfl))⟩
  f77 := ⟨Try.f87.name, by decide, Try.func87.trans (congrArg some (by kernel_rfl))⟩
  f78 := Try.func88.trans (congrArg some (by kernel_rfl))
  f79 := Try.func89.trans (congrArg some (by kernel_rfl))
  f88 := ⟨Try.f91.name, by decide, Try.func91.trans (congrArg some (by kernel_rfl))⟩
  f89 := Try.func92.trans (congrArg some (by kernel_rfl))
  f90 := Try.func93.trans (congrArg some (by kernel_rfl))
  f91 := ⟨Try.f94.name, by decide, Try.func94.trans (congrArg some (by kernel_rfl))⟩
  f92 := ⟨Try.f95.name, by decide, Try.func95.trans (congrArg some (by kernel_rfl))⟩
  f96 := ⟨Try.f96.name, by decide, Try.func96.trans (congrArg some (by kernel_rfl))⟩
  t0 := Try.underlying0
  a0 := Try.isAgg0
  z0 := Try.sizeOf0
  v0 := Try.zeroValue0
  t3 := Try.underlying3
  a3 := Try.isAgg3
  z3 := Try.sizeOf3
  v3 := Try.zeroValue3
  t4 := Try.underlying4
  a4 := Try.isAgg4
  z4 := Try.sizeOf4
  v4 := Try.zeroValue4
  t5 := Try.underlying5
  a5 := Try.isAgg5
  z5 := Try.sizeOf5
  v5 := Try.zeroValue5
  t9 := Try.underlying9
  a9 := Try.isAgg9
  z9 := Try.sizeOf9
  v9 := Try.zeroValue9
  t22 := Try.underlying25
  a22 := Try.isAgg25
  z22 := Try.sizeOf25
  v22 := Try.zeroValue25
  t23 := Try.underlying2
  a23 := Try.isAgg2
  z23 := Try.sizeOf2
  v23 := Try.zeroValue2
  t44 := Try.underlying69
  a44 := Try.isAgg69
  z44 := Try.sizeOf69
  v44 := Try.zeroValue69
  t51 := Try.underlying81
  a51 := Try.isAgg81
  z51 := Try.sizeOf81
  v51 := Try.zeroValue81
  t60 := Try.underlying89
  a60 := Try.isAgg89
  z60 := Try.sizeOf89
  v60 := Try.zeroValue89
  t61 := Try.underlying90
  a61 := Try.isAgg90
  z61 := Try.sizeOf90
  v61 := Try.zeroValue90
  t67 := Try.underlying97
  a67 := Try.isAgg97
  z67 := Try.sizeOf97
  v67 := Try.zeroValue97
  t69 := Try.underlying99
  a69 := Try.isAgg99
  z69 := Try.sizeOf99
  v69 := Try.zeroValue99
  t75 := Try.underlying100
  a75 := Try.isAgg100
  z75 := Try.sizeOf100
  v75 := Try.zeroValue100
  t79 := Try.underlying104
  a79 := Try.isAgg104
  z79 := Try.sizeOf104
  v79 := Try.zeroValue104
  t83 := Try.underlying106
  a83 := Try.isAgg106
  z83 := Try.sizeOf106
  v83 := Try.zeroValue106
  t84 := Try.underlying107
  a84 := Try.isAgg107
  z84 := Try.sizeOf107
  v84 := Try.zeroValue107 }
def Try.comp59_ren : Go.Shelf.Ren := ⟨fun | 43 => 59 | n => n, fun | 22 => 25 | 23 => 2 | 3 => 3 | 4 => 4 | 0 => 0 | n => n, fun | n => n⟩
theorem Try.comp59 : Go.Proofs.SlLaysN.n43 Try.prog Try.comp59_ren := {
  mixed := by kernel_rfl
  f43 := ⟨Try.f59.name, by decide, Try.func59.trans (congrArg some (by kernel_rfl))⟩
  t0 := Try.underlying0
  a0 := Try.isAgg0
  z0 := Try.sizeOf0
  v0 := Try.zeroValue0
  t3 := Try.underlying3
  a3 := Try.isAgg3
  z3 := Try.sizeOf3
  v3 := Try.zeroValue3
  t4 := Try.underlying4
  a4 := Try.isAgg4
  z4 := Try.sizeOf4
  v4 := Try.zeroValue4
  t22 := Try.underlying25
  a22 := Try.isAgg25
  z22 := Try.sizeOf25
  v22 := Try.zeroValue25
  t23 := Try.underlying2
  a23 := Try.isAgg2
  z23 := Try.sizeOf2
  v23 := Try.zeroValue2
  i23 := by kernel_rfl }
end Go.Proofs
namespace VeT
section
open Go Go.Proofs Go.RowKit Go.Lib
set_option maxHeartbeats 2000000 in
set_option maxRecDepth 100000 in
theorem mark40_walk (b n c : Nat) (A : Option Addr) (hA : 0 < n → A = some ⟨b, 0, none⟩) (hnc : n ≤ c) (hn : n ≤ 9223372036854775807) (Inv : Nat → Int → World → Prop) (k : Int) (w : World) (h0 : Inv 0 k w)
    (step : ∀ i k' wr, i < n → Inv i k' wr → ∃ u, wr.cell? ⟨b, i, none⟩ = some u ∧ Calls Try.prog 19 #[u, .int .i64 k'] wr fun e w' => ∃ k2, e = .returned (.int .i64 k2) ∧ Inv (i + 1) k2 w') :
    Calls Try.prog 40 #[.slice A n c, .int .i64 k] w fun e w' => ∃ k2, e = .returned (.int .i64 k2) ∧ Inv n k2 w' := by
  go_enter Try.func40, Try.ntmps40
  go_wp2
  go_loopw [1, 5] (fun kv iv wr => ∃ i : Nat, ∃ k' : Int, i ≤ n ∧ iv = .int .i64 i ∧ kv = .int .i64 k' ∧ Inv i k' wr) (fun _ iv _ => n - (RowKit.intOf iv).toNat)
  case atStart => exact ⟨0, k, Nat.zero_le _, rfl, rfl, h0⟩
  case round =>
    obtain ⟨i, k', hi, rfl, rfl, hInv⟩ := hrel
    by_cases hlt : i < n
    · obtain rfl := hA (by omega)
      obtain ⟨u, hu, hcall⟩ := step i k' _ hlt hInv
      go_wp2_with (go_at_call 19; refine hcall.mono ?_; rintro e w' ⟨k2, rfl, hI2⟩)
      go_roundw
      case rel => exact ⟨i + 1, k2, by omega, by simp, rfl, hI2⟩
      case measure => simp [RowKit.intOf]; omega
    · obtain rfl : i = n := by omega
      go_wp2
      go_ret
      exact ⟨k', rfl, hInv⟩
open Ve in
theorem mark40_contract {R : Run} (hR : ∀ args dv, R.r 19 args = some dv → Contract Try.prog ⟨[(false, 1), (false, 1)], [.io true, .imm], oM, [(false, 1)], [], []⟩ 19 args dv) {args : List Dv} {dv : Dv} (h : pMarkSS 19 R args = some dv) :
    Contract Try.prog ⟨[(false, 1), (false, 1)], [.io true, .imm], .cons tI (.cons (.sl tL) .nil), [(false, 1)], [], []⟩ 40 args dv :=
  mark_contract mark40_walk hR h

open Ve in
theorem sort58_contract (R : Run) {args : List Dv} {dv : Dv} (h : pSortI R args = some dv) : Contract Try.prog ⟨[(false, 1)], [.io true], .cons tL .nil, [], [], []⟩ 58 args dv :=
  sortI_contract (fun blk cap zs w a b c => AnyG.slices_Sort_int Try.sort58 blk 0 cap zs w a b c)
    (fun A cap w => (AnyG.slices_Sort_int_none Try.sort58 A cap w).mono fun e w' ⟨h, hw⟩ => ⟨h, by rw [hw], by rw [hw]; exact Kin.refl _⟩) h

open Ve in
theorem comp59_contract (R : Run) {args : List Dv} {dv : Dv} (h : pCompI R args = some dv) : Contract Try.prog ⟨[(false, 1)], [.take true], .cons tL .nil, [(false, 1)], [.deep], []⟩ 59 args dv :=
  compI_contract (fun blk cap zs w a b c => AnyG.slices_Compact_int Try.comp59 blk 0 cap zs w a b c)
    (fun A cap w => AnyG.slices_Compact_int_empty Try.comp59 A cap w) h

set_option maxHeartbeats 2000000 in
set_option maxRecDepth 100000 in
theorem grow78_room (base : Option Addr) (l c n : Nat) (w : World) (hlc : l ≤ c) (hc63 : c ≤ 9223372036854775807) (hn63 : n ≤ 9223372036854775807) (hroom : l + n ≤ c) :
    Calls Try.prog 78 #[.slice base l c, .int .i64 n] w fun e w' => e = .returned (.slice base l c) ∧ w' = w := by
  have h1 : ¬ ((n : Int) < 0) := by omega
  have h2 : wrap64 ((c : Int) - (l : Int)) = (c : Int) - (l : Int) := by unfold wrap64; omega
  have h3 : wrap64 ((n : Int) - ((c : Int) - (l : Int))) = (n : Int) - ((c : Int) - (l : Int)) := by unfold wrap64; omega
  have h4 : ¬ ((n : Int) - ((c : Int) - (l : Int)) > 0) := by omega
  go_enter Try.func78, Try.ntmps78
  go_wp2
  go_ret
  exact ⟨rfl, rfl⟩

set_option maxHeartbeats 4000000 in
set_option maxRecDepth 100000 in
theorem grow78_grow (i0 : TypeInfo) (z : Value) (hi0 : Try.prog.info? 2 = some i0) (hz0 : i0.zero = some z) (hs0 : 0 < i0.size)
    (base : Option Addr) (l c n : Nat) (cs : List Value) (w : World) (hlc : l ≤ c) (hroom : c < l + n) (hbig : (l + n) * i0.bytes ≤ 140737488355328) (h63 : l + n ≤ 4611686018427387904)
    (hcl : cs.length = c * i0.size) (hnil : base = none → c = 0) (hcs : ∀ a, base = some a → ∀ (j : Nat) v, cs[j]? = some v → w.cell? (a.add j) = some v) :
    Calls Try.prog 78 #[.slice base l c, .int .i64 n] w fun e w' =>
      e = .returned (.slice (some ⟨w.heap.size, 0, none⟩) l (grownCap w (l + n) c 2)) ∧
      w' = w.drew.alloc (.cells (cs.toArray ++ Builtin.zeroCells z.cells (l + n - c) ++ Builtin.zeroCells z.cells (grownCap w (l + n) c 2 - (l + n))) 2) := by
  have h1 : ¬ ((n : Int) < 0) := by omega
  have h2 : wrap64 ((c : Int) - (l : Int)) = (c : Int) - (l : Int) := by unfold wrap64; omega
  have h3 : wrap64 ((n : Int) - ((c : Int) - (l : Int))) = (n : Int) - ((c : Int) - (l : Int)) := by unfold wrap64; omega
  have h4 : (n : Int) - ((c : Int) - (l : Int)) > 0 := by omega
  have z25 : ∀ w, (Go.sizeOf 2).run Try.prog w = .ok i0.size w := fun w => by simp [Go.sizeOf, typeInfo, hi0]
  have hck : c + (l + n - c) = l + n := by omega
  have hold : (Builtin.firstCells i0.size c (.slice base c c)).run Try.prog w.drew = .ok cs.toArray w.drew := by
    cases base with
    | none =>
      have h0 := hnil rfl
      subst h0
      have hc0 : cs = [] := List.length_eq_zero_iff.1 (by simpa using hcl)
      rw [hc0]
      exact run_firstCells_none w.drew i0.size 0 0 0
    | some a => exact run_firstCells_some w.drew i0.size c a c c cs hcl (fun j v hj => hcs a rfl j v hj)
  have hrz : ∀ ty, (Builtin.append_ #[25, 3] ty #[.slice base c c, .int .i64 ((n : Int) - ((c : Int) - (l : Int)))]).run Try.prog w =
      .ok (.slice (some ⟨w.heap.size, 0, none⟩) (l + n) (grownCap w (l + n) c 2)) (w.drew.alloc (.cells (cs.toArray ++ Builtin.zeroCells z.cells (l + n - c) ++ Builtin.zeroCells z.cells (grownCap w (l + n) c 2 - (l + n))) 2)) := fun ty => by
    have h := Lib.run_append_grow_zeros w 25 3 ty 2 i0 z .i64 .i64 Try.underlying25 Try.underlying3 hi0 hz0 base c c cs hold (l + n - c) (by omega) hs0 (by omega) (by omega)
      (by have : (l + n - c) * i0.bytes ≤ (l + n) * i0.bytes := Nat.mul_le_mul_right _ (by omega)
          omega)
      (by rw [hck]; exact growslice_fits hroom hbig)
    rw [hck] at h
    rw [show (n : Int) - ((c : Int) - (l : Int)) = ((l + n - c : Nat) : Int) by omega]
    exact h
  have hGn : l + n ≤ grownCap w (l + n) c 2 := grownCap_ge w _ _ _
  obtain ⟨G, hG⟩ : ∃ G, G = grownCap w (l + n) c 2 := ⟨_, rfl⟩
  rw [← hG] at hrz hGn ⊢
  have hG63 : G ≤ 9223372036854775807 := by
    have := grownCap_le_maxLen w (l + n) c 2 (by unfold maxLen; omega)
    rw [← hG] at this
    unfold maxLen at this
    omega
  clear hold hck hG hcs hcl
  go_enter Try.func78, Try.ntmps78
  cases base with
  | none =>
    have h0 := hnil rfl
    subst h0
    obtain rfl : l = 0 := by omega
    go_wp2_with (at_builtin; refine Lib.wpList_append_run _ rfl _ _ _ _ rfl _ _ rfl rfl _ _ (hrz _) ?_)
    all_goals (go_ret; exact ⟨rfl, rfl⟩)
  | some a =>
    obtain ⟨ab, ao, asp⟩ := a
    go_wp2_with (at_builtin; refine Lib.wpList_append_run _ rfl _ _ _ _ rfl _ _ rfl rfl _ _ (hrz _) ?_)
    all_goals (go_ret; exact ⟨rfl, rfl⟩)
theorem grow78_info : (Try.prog.info? 2).any (fun i => i.size == Ve.Ty.size yI && i.zero.any (fun z => z.cells.size == Ve.Ty.size yI) && decide (i.bytes ≤ 64 * Ve.Ty.size yI) && decide (0 < i.bytes) && decide (0 < Ve.Ty.size yI)) = true := by kernel_rfl
open Ve in
theorem grow78_contract (R : Run) {args : List Dv} {dv : Dv} (h : pGrow yI R args = some dv) :
    Contract Try.prog ⟨[(false, 1), (false, 1)], [.take true, .imm], .cons yL .nil, [(false, 1)], [.deep], []⟩ 78 args dv := by
  have hi := grow78_info
  cases hi0 : Try.prog.info? 2 with
  | none => rw [hi0] at hi; cases hi
  | some i0 =>
    rw [hi0] at hi
    simp only [Option.any_some, Bool.and_eq_true, decide_eq_true_eq, beq_iff_eq] at hi
    obtain ⟨⟨⟨⟨h1, h2⟩, h3⟩, h4⟩, h5⟩ := hi
    cases hz : i0.zero with
    | none => rw [hz] at h2; cases h2
    | some z =>
      rw [hz] at h2
      exact grow_contract h1 (by simpa using h2) h5 h3 h4 grow78_room (fun base l c n cs w a1 a2 a3 a4 a5 a6 a7 => grow78_grow i0 z hi0 hz (by rw [h1]; exact h5) base l c n cs w a1 a2 a3 a4 a5 a6 a7) R h

end
section
open Go Ve
theorem primL_eq : primL = (List.range 113).map fun i => bif Nat.beq i 40 then some (pMarkSS n_laws_markInt64S) else bif Nat.beq i 58 then some pSortI else bif Nat.beq i 59 then some pCompI else bif Nat.beq i 78 then some (pGrow yI) else none := by kernel_rfl
theorem prims_ok : ∀ f p, E.prim f = some p → ∀ r, RunOk E (mkR r) → ∀ args dv sg, E.sig f = some sg → p (mkR r) args = some dv → Contract E.P sg f args dv := by
  intro f p hp r hr args dv sg hsg h
  have hp : primL.getD f none = some p := hp
  rw [primL_eq, List.getD_eq_getElem?_getD, List.getElem?_map] at hp
  by_cases hf : f < 113
  · rw [List.getElem?_range hf] at hp
    simp only [Option.map_some, Option.getD_some] at hp
    by_cases h40 : f = 40
    · subst h40
      obtain rfl : (pMarkSS n_laws_markInt64S) = p := Option.some.inj hp
      obtain rfl : sg_laws_markInt64SS = sg := Option.some.inj (sig_laws_markInt64SS_eq.symm.trans hsg)
      exact mark40_contract (fun args dv h => hr _ args dv _ sig_laws_markInt64S_eq h) h
    rw [show Nat.beq f 40 = false from Bool.eq_false_iff.2 fun h => h40 (Nat.eq_of_beq_eq_true h), cond_false] at hp
    by_cases h58 : f = 58
    · subst h58
      obtain rfl : pSortI = p := Option.some.inj hp
      obtain rfl : sg_slices_Sort_Sint64_int64 = sg := Option.some.inj (sig_slices_Sort_Sint64_int64_eq.symm.trans hsg)
      exact sort58_contract _ h
    rw [show Nat.beq f 58 = false from Bool.eq_false_iff.2 fun h => h58 (Nat.eq_of_beq_eq_true h), cond_false] at hp
    by_cases h59 : f = 59
    · subst h59
      obtain rfl : pCompI = p := Option.some.inj hp
      obtain rfl : sg_slices_Compact_Sint64_int64 = sg := Option.some.inj (sig_slices_Compact_Sint64_int64_eq.symm.trans hsg)
      exact comp59_contract _ h
    rw [show Nat.beq f 59 = false from Bool.eq_false_iff.2 fun h => h59 (Nat.eq_of_beq_eq_true h), cond_false] at hp
    by_cases h78 : f = 78
    · subst h78
      obtain rfl : (pGrow yI) = p := Option.some.inj hp
      obtain rfl : sg_slices_Grow_Sint64_int64 = sg := Option.some.inj (sig_slices_Grow_Sint64_int64_eq.symm.trans hsg)
      exact grow78_contract _ h
    rw [show Nat.beq f 78 = false from Bool.eq_false_iff.2 fun h => h78 (Nat.eq_of_beq_eq_true h), cond_false] at hp
    cases hp
  · rw [List.getElem?_eq_none (by simpa using hf)] at hp
    cases hp
end
end VeT

open Go Go.Proofs Ve
set_option linter.unusedVariables false
set_option linter.unusedSimpArgs false
namespace VeT

theorem szInt64S_ret (x : (List Int)) (l : Int) (hx : Wf yL x) (h0 : 0 ≤ l) (h1 : l ≤ 1048576) :
    ∃ r : Int, Ret E n_laws_szInt64S [⟨yL, x⟩, ⟨.int .i64, l⟩] ⟨o_laws_szInt64S, (r, ())⟩ ∧ (0 ≤ r → r ≤ l ∧ Sm yL x) := by
  have hx1 : x.length ≤ maxLen := hx.1
  rw [maxLen_eq] at hx1
  have hw : w64 (l - x.length) = l - x.length := w64_small (by omega) (by omega)
  by_cases hc : l - (x.length : Int) < 0
  · refine ⟨-1, Evt.succ (Evt.of fun n => ?_), fun h => by omega⟩
    rw [run_laws_szInt64S, laws_szInt64S.ev, hw, decide_eq_true hc]; rfl
  · refine ⟨l - x.length, Evt.succ (Evt.of fun n => ?_), fun h => ⟨by omega, by omega, fun x _ => trivial⟩⟩
    rw [run_laws_szInt64S, laws_szInt64S.ev, hw, decide_eq_false hc]; rfl

theorem toInt64S_ret (x : (List Int)) (hx : Sm yL x) : Ret E n_laws_toInt64S [⟨yL, x⟩] ⟨o_laws_toInt64S, (x, ())⟩ := by
  have hx1 : x.length ≤ 1048576 := hx.1
  have hl := fill_loop (a := x) (L := fun m n i o => laws_toInt64S.l0 (mkR (run E m)) m n x i o) (z := List.replicate (Int.toNat (List.length x : Int)) (0 : Int)) (r := some ⟨o_laws_toInt64S, (x, ())⟩) (by simp) (fun k o hk ho => by
      refine Evt.of fun m n => ?_
      show laws_toInt64S.l0 _ _ _ _ _ _ = _
      rw [laws_toInt64S.l0_succ _ mk_ok, decide_eq_true (show (k : Int) < x.length by omega), cond_true, idx_lt hk]
      simp only [Option.bind_some]
      rw [chk_true (by simp; omega), w64_succ (by omega), Int.toNat_natCast]) (Evt.of fun m n => by
      show laws_toInt64S.l0 _ _ _ _ _ _ = _
      rw [laws_toInt64S.l0_succ _ mk_ok, decide_eq_false (by omega), cond_false])
  refine Evt.succ (hl.mono fun n h => ?_)
  rw [run_laws_toInt64S, laws_toInt64S.ev, chk_true (by simp; omega)]
  exact h

theorem eqInt64S_ret (x y : (List Int)) (hx : Sm yL x) : ∃ b : Bool, Ret E n_laws_eqInt64S [⟨yL, x⟩, ⟨yL, y⟩] ⟨o_laws_eqInt64S, (b, ())⟩ ∧ (b = true ↔ x = y) := by
  have hx1 : x.length ≤ 1048576 := hx.1
  by_cases hl : x.length = y.length
  · have hd : ((x.length : Int) != (y.length : Int)) = false := by simp [hl]
    obtain ⟨h1, h2⟩ := same_loop (a := x) (b := y) (L := fun m n i (_ : Unit) => laws_eqInt64S.l0 (mkR (run E m)) m n x y i) (fun u v => u = v) (rt := some ⟨o_laws_eqInt64S, (true, ())⟩) (rf := some ⟨o_laws_eqInt64S, (false, ())⟩) hl.symm
      (fun k h h' hne => Evt.of fun m n => by
      show laws_eqInt64S.l0 _ _ _ _ _ _ = _
      rw [laws_eqInt64S.l0_succ _ mk_ok, decide_eq_true (show (k : Int) < x.length by omega), cond_true, idx_lt h, idx_lt h']
      have : (x[k] != y[k]) = true := by simpa using hne
      simp only [Option.bind_some, this, cond_true])
      (fun k h h' he => Evt.of fun m n => by
      show laws_eqInt64S.l0 _ _ _ _ _ _ = _
      rw [laws_eqInt64S.l0_succ _ mk_ok, decide_eq_true (show (k : Int) < x.length by omega), cond_true, idx_lt h, idx_lt h']
      have : (x[k] != y[k]) = false := by simpa using he
      simp only [Option.bind_some, this, cond_false]
      rw [w64_succ (by omega)])
      (Evt.of fun m n => by
      show laws_eqInt64S.l0 _ _ _ _ _ _ = _
      rw [laws_eqInt64S.l0_succ _ mk_ok, decide_eq_false (by omega), cond_false])
    by_cases he : x = y
    · refine ⟨true, Evt.succ ((h1 (by subst he; intros; rfl)).mono fun n h => ?_), by simp [he]⟩
      rw [run_laws_eqInt64S, laws_eqInt64S.ev, hd, cond_false]
      exact h
    · refine ⟨false, Evt.succ ((h2 fun hh => he (List.ext_getElem hl hh)).mono fun n h => ?_), by simp [he]⟩
      rw [run_laws_eqInt64S, laws_eqInt64S.ev, hd, cond_false]
      exact h
  · have hd : ((x.length : Int) != (y.length : Int)) = true := by simp; omega
    refine ⟨false, Evt.succ (Evt.of fun n => ?_), ⟨fun h => (nomatch h), fun h => absurd (congrArg List.length h) hl⟩⟩
    rw [run_laws_eqInt64S, laws_eqInt64S.ev, hd, cond_true]

theorem szInt64SS_ret (x : vK) (l : Int) (hx : Wf yK x) (h0 : 0 ≤ l) (h1 : l ≤ 1048576) :
    ∃ r : Int, Ret E n_laws_szInt64SS [⟨yK, x⟩, ⟨.int .i64, l⟩] ⟨o_laws_szInt64SS, (r, ())⟩ ∧ (0 ≤ r → r ≤ l ∧ Sm yK x) := by
  have hx1 : x.length ≤ maxLen := hx.1
  rw [maxLen_eq] at hx1
  have hw : w64 (l - x.length) = l - x.length := w64_small (by omega) (by omega)
  by_cases hc : l - (x.length : Int) < 0
  · refine ⟨-1, Evt.succ (Evt.of fun n => ?_), fun h => by omega⟩
    rw [run_laws_szInt64SS, laws_szInt64SS.ev, hw, decide_eq_true hc]; rfl
  · obtain ⟨r, hr, hs⟩ := sz_loop (xs := x) (L := fun m n i left => laws_szInt64SS.l0 (mkR (run E m)) m n x left i) (ret := fun r => some ⟨o_laws_szInt64SS, (r, ())⟩) (fun x => Sm yL x) (fun k left hk hl0 hl1 => by
      obtain ⟨r, hr, hs⟩ := szInt64S_ret x[k] left (hx.2 _ (List.getElem_mem hk)) hl0 hl1
      refine ⟨r, hs, hr.mono fun m h n => ?_⟩
      show laws_szInt64SS.l0 _ _ _ _ _ _ = _
      rw [laws_szInt64SS.l0_succ _ mk_ok, decide_eq_true (show (k : Int) < x.length by omega), cond_true, idx_lt hk]
      simp only [Option.bind_some, callT_of h]
      rw [w64_succ (by omega)]) (fun left => Evt.of fun m n => by
      show laws_szInt64SS.l0 _ _ _ _ _ _ = _
      rw [laws_szInt64SS.l0_succ _ mk_ok, decide_eq_false (by omega), cond_false]) (l - x.length) (by omega) (by omega)
    refine ⟨r, Evt.succ (hr.mono fun n h => ?_), fun h => ⟨by have := (hs h).1; omega, by omega, (hs h).2⟩⟩
    rw [run_laws_szInt64SS, laws_szInt64SS.ev, hw, decide_eq_false hc]
    exact h

theorem toInt64SS_ret (x : vK) (hx : Sm yK x) : Ret E n_laws_toInt64SS [⟨yK, x⟩] ⟨o_laws_toInt64SS, (x, ())⟩ := by
  have hx1 : x.length ≤ 1048576 := hx.1
  have hl := fill_loop (a := x) (L := fun m n i o => laws_toInt64SS.l0 (mkR (run E m)) m n x i o) (z := List.replicate (Int.toNat (List.length x : Int)) ([] : List Int)) (r := some ⟨o_laws_toInt64SS, (x, ())⟩) (by simp) (fun k o hk ho => by
      have hr := toInt64S_ret x[k] (hx.2 _ (List.getElem_mem hk))
      refine hr.mono fun m h n => ?_
      show laws_toInt64SS.l0 _ _ _ _ _ _ = _
      rw [laws_toInt64SS.l0_succ _ mk_ok, decide_eq_true (show (k : Int) < x.length by omega), cond_true, idx_lt hk]
      simp only [Option.bind_some, callT_of h]
      rw [chk_true (by simp; omega), w64_succ (by omega), Int.toNat_natCast]) (Evt.of fun m n => by
      show laws_toInt64SS.l0 _ _ _ _ _ _ = _
      rw [laws_toInt64SS.l0_succ _ mk_ok, decide_eq_false (by omega), cond_false])
  refine Evt.succ (hl.mono fun n h => ?_)
  rw [run_laws_toInt64SS, laws_toInt64SS.ev, chk_true (by simp; omega)]
  exact h

theorem eqInt64SS_ret (x y : vK) (hx : Sm yK x) : ∃ b : Bool, Ret E n_laws_eqInt64SS [⟨yK, x⟩, ⟨yK, y⟩] ⟨o_laws_eqInt64SS, (b, ())⟩ ∧ (b = true ↔ x = y) := by
  have hx1 : x.length ≤ 1048576 := hx.1
  by_cases hl : x.length = y.length
  · have hd : ((x.length : Int) != (y.length : Int)) = false := by simp [hl]
    obtain ⟨h1, h2⟩ := same_loop (a := x) (b := y) (L := fun m n i (_ : Unit) => laws_eqInt64SS.l0 (mkR (run E m)) m n x y i) (fun u v => u = v) (rt := some ⟨o_laws_eqInt64SS, (true, ())⟩) (rf := some ⟨o_laws_eqInt64SS, (false, ())⟩) hl.symm
      (fun k h h' hne => by
      obtain ⟨b, hb, hbe⟩ := eqInt64S_ret x[k] y[k] (hx.2 _ (List.getElem_mem h))
      have hb0 : b = false := by cases b <;> simp_all
      subst hb0
      refine hb.mono fun m hm n => ?_
      show laws_eqInt64SS.l0 _ _ _ _ _ _ = _
      rw [laws_eqInt64SS.l0_succ _ mk_ok, decide_eq_true (show (k : Int) < x.length by omega), cond_true, idx_lt h, idx_lt h']
      simp only [Option.bind_some, callT_of hm, Bool.not_false, Bool.not_true, cond_true, cond_false])
      (fun k h h' he => by
      obtain ⟨b, hb, hbe⟩ := eqInt64S_ret x[k] y[k] (hx.2 _ (List.getElem_mem h))
      have hb0 : b = true := by cases b <;> simp_all
      subst hb0
      refine hb.mono fun m hm n => ?_
      show laws_eqInt64SS.l0 _ _ _ _ _ _ = _
      rw [laws_eqInt64SS.l0_succ _ mk_ok, decide_eq_true (show (k : Int) < x.length by omega), cond_true, idx_lt h, idx_lt h']
      simp only [Option.bind_some, callT_of hm, Bool.not_false, Bool.not_true, cond_true, cond_false]
      rw [w64_succ (by omega)])
      (Evt.of fun m n => by
      show laws_eqInt64SS.l0 _ _ _ _ _ _ = _
      rw [laws_eqInt64SS.l0_succ _ mk_ok, decide_eq_false (by omega), cond_false])
    by_cases he : x = y
    · refine ⟨true, Evt.succ ((h1 (by subst he; intros; rfl)).mono fun n h => ?_), by simp [he]⟩
      rw [run_laws_eqInt64SS, laws_eqInt64SS.ev, hd, cond_false]
      exact h
    · refine ⟨false, Evt.succ ((h2 fun hh => he (List.ext_getElem hl hh)).mono fun n h => ?_), by simp [he]⟩
      rw [run_laws_eqInt64SS, laws_eqInt64SS.ev, hd, cond_false]
      exact h
  · have hd : ((x.length : Int) != (y.length : Int)) = true := by simp; omega
    refine ⟨false, Evt.succ (Evt.of fun n => ?_), ⟨fun h => (nomatch h), fun h => absurd (congrArg List.length h) hl⟩⟩
    rw [run_laws_eqInt64SS, laws_eqInt64SS.ev, hd, cond_true]

theorem szComplex_ret (x : (vK × Unit)) (l : Int) (hx : Wf (.st (.cons yK .nil)) x) (h0 : 0 ≤ l) (h1 : l ≤ 1048576) :
    ∃ r : Int, Ret E n_laws_szComplex [⟨yK, x.1⟩, ⟨.int .i64, l⟩] ⟨o_laws_szComplex, (r, ())⟩ ∧ (0 ≤ r → r ≤ l ∧ Sm (.st (.cons yK .nil)) x) := by
  obtain ⟨r0, hr0, hs0⟩ := szInt64SS_ret x.1 l hx.1 (by omega) (by omega)
  by_cases hc0 : r0 < 0
  · refine ⟨-1, Evt.succ (hr0.mono fun n e0 => ?_), fun h => by omega⟩
    rw [run_laws_szComplex, laws_szComplex.ev]
    simp only [Option.bind_some, cond_true, cond_false, callT_of e0, decide_eq_true hc0]
  have hb0 := hs0 (by omega)
  refine ⟨r0, Evt.succ (hr0.mono fun n e0 => ?_), fun h => ⟨by omega, ?_⟩⟩
  · skip
    rw [run_laws_szComplex, laws_szComplex.ev]
    simp only [Option.bind_some, cond_true, cond_false, callT_of e0, decide_eq_false hc0]
  · exact ⟨hb0.2, trivial⟩

theorem toComplex_ret (x : (vK × Unit)) (hx : Sm (.st (.cons yK .nil)) x) : Ret E n_laws_toComplex [⟨yK, x.1⟩] ⟨o_laws_toComplex, x⟩ := by
  have hr0 := toInt64SS_ret x.1 hx.1
  refine Evt.succ (hr0.mono fun n e0 => ?_)
  rw [run_laws_toComplex, laws_toComplex.ev]
  simp only [Option.bind_some, callT_of e0]

theorem eqComplex_ret (x y : (vK × Unit)) (hx : Sm (.st (.cons yK .nil)) x) : ∃ b : Bool, Ret E n_laws_eqComplex [⟨yK, x.1⟩, ⟨yK, y.1⟩] ⟨o_laws_eqComplex, (b, ())⟩ ∧ (b = true ↔ x = y) := by
  obtain ⟨b0, hr0, hb0⟩ := eqInt64SS_ret x.1 y.1 hx.1
  refine ⟨b0, Evt.succ (hr0.mono fun n e0 => ?_), ?_⟩
  · skip
    rw [run_laws_eqComplex, laws_eqComplex.ev]
    simp only [Option.bind_some, callT_of e0]
    clear hx hr0 e0 hb0
    cases b0 <;> rfl
  · obtain ⟨x0, _⟩ := x
    obtain ⟨y0, _⟩ := y
    simp only [Bool.and_eq_true, decide_eq_true_eq, hb0, Prod.mk.injEq, and_true]
    try simp only [and_assoc]

end VeT

open Go Go.Proofs Ve
set_option linter.unusedVariables false
set_option linter.unusedSimpArgs false
namespace VeT

theorem IndexFunc_SSint64_Sint64_impl_ValidComplex_1_ret (s : List (List Int)) (c : ((vK × Unit) × (Int × Unit) × Unit)) (p : (List Int) → Bool) (hs : s.length ≤ 1048576) (hp : ∀ x ∈ s, Ret E n_impl_ValidComplex_1 [⟨yL, x⟩, ⟨(.ptr (.cons yK .nil)), c.1⟩, ⟨(.ptr (.cons yI .nil)), c.2.1⟩] ⟨o_impl_ValidComplex_1, (p x, ())⟩) :
    Ret E n_slices_IndexFunc_SSint64_Sint64 [⟨yK, s⟩, ⟨(.fn n_impl_ValidComplex_1 (.cons (.ptr (.cons yK .nil)) (.cons (.ptr (.cons yI .nil)) .nil))), c⟩] ⟨o_slices_IndexFunc_SSint64_Sint64, (idxf p s, ())⟩ := by
  obtain ⟨o, h1, h2, h3⟩ := find_loop 1 (L := fun φ n k => slices_IndexFunc_SSint64_Sint64_impl_ValidComplex_1.l0 (mkR (run E (φ 0))) (φ 0) n s c (s.length : Int) k) (len := s.length) (fun k => ∃ h : k < s.length, p s[k] = true) (fun o => some ⟨o_slices_IndexFunc_SSint64_Sint64, (o2i o, ())⟩) (fun _ _ _ _ => rfl) (fun k hk hP => by
      obtain ⟨_, hP⟩ := hP
      simp only [slices_IndexFunc_SSint64_Sint64_impl_ValidComplex_1.l0_succ _ mk_ok]
      refine ev_t (decide_eq_true (by omega)) (ev_bind (idx_lt hk) (ev_call (hp _ (List.getElem_mem hk)) (ev_t hP ev_rfl)))) (fun k q hk hP ih => by
      simp only [slices_IndexFunc_SSint64_Sint64_impl_ValidComplex_1.l0_succ _ mk_ok]
      refine ev_t (decide_eq_true (by omega)) (ev_bind (idx_lt hk) (ev_call (hp _ (List.getElem_mem hk)) (ev_f (Bool.eq_false_iff.2 fun h => hP ⟨hk, h⟩) ?_)))
      rw [w64_succ (by omega)]; exact ih) (by
      simp only [slices_IndexFunc_SSint64_Sint64_impl_ValidComplex_1.l0_succ _ mk_ok]
      exact ev_f (decide_eq_false (by omega)) ev_rfl)
  rw [idxf_of h1 h2] at h3
  refine ret_of ?_
  simp only [run_slices_IndexFunc_SSint64_Sint64, slices_IndexFunc_SSint64_Sint64_impl_ValidComplex_1.ev]
  exact Ev.start (p := fun φ n => slices_IndexFunc_SSint64_Sint64_impl_ValidComplex_1.l0 (mkR (run E (φ 0))) (φ 0) n s c (s.length : Int) 0 = _) 1 h3 (fun _ _ _ h => h)

theorem IndexFunc_SSint64_Sint64_impl_isMap_1_ret (s : List (List Int)) (c : ((vK × Unit) × (vK × Unit) × ((List Int) × Unit) × Unit)) (p : (List Int) → Bool) (hs : s.length ≤ 1048576) (hp : ∀ x ∈ s, Ret E n_impl_isMap_1 [⟨yL, x⟩, ⟨(.ptr (.cons yK .nil)), c.1⟩, ⟨(.ptr (.cons yK .nil)), c.2.1⟩, ⟨(.ptr (.cons yL .nil)), c.2.2.1⟩] ⟨o_impl_isMap_1, (p x, ())⟩) :
    Ret E n_slices_IndexFunc_SSint64_Sint64 [⟨yK, s⟩, ⟨(.fn n_impl_isMap_1 (.cons (.ptr (.cons yK .nil)) (.cons (.ptr (.cons yK .nil)) (.cons (.ptr (.cons yL .nil)) .nil)))), c⟩] ⟨o_slices_IndexFunc_SSint64_Sint64, (idxf p s, ())⟩ := by
  obtain ⟨o, h1, h2, h3⟩ := find_loop 1 (L := fun φ n k => slices_IndexFunc_SSint64_Sint64_impl_isMap_1.l0 (mkR (run E (φ 0))) (φ 0) n s c (s.length : Int) k) (len := s.length) (fun k => ∃ h : k < s.length, p s[k] = true) (fun o => some ⟨o_slices_IndexFunc_SSint64_Sint64, (o2i o, ())⟩) (fun _ _ _ _ => rfl) (fun k hk hP => by
      obtain ⟨_, hP⟩ := hP
      simp only [slices_IndexFunc_SSint64_Sint64_impl_isMap_1.l0_succ _ mk_ok]
      refine ev_t (decide_eq_true (by omega)) (ev_bind (idx_lt hk) (ev_call (hp _ (List.getElem_mem hk)) (ev_t hP ev_rfl)))) (fun k q hk hP ih => by
      simp only [slices_IndexFunc_SSint64_Sint64_impl_isMap_1.l0_succ _ mk_ok]
      refine ev_t (decide_eq_true (by omega)) (ev_bind (idx_lt hk) (ev_call (hp _ (List.getElem_mem hk)) (ev_f (Bool.eq_false_iff.2 fun h => hP ⟨hk, h⟩) ?_)))
      rw [w64_succ (by omega)]; exact ih) (by
      simp only [slices_IndexFunc_SSint64_Sint64_impl_isMap_1.l0_succ _ mk_ok]
      exact ev_f (decide_eq_false (by omega)) ev_rfl)
  rw [idxf_of h1 h2] at h3
  refine ret_of ?_
  simp only [run_slices_IndexFunc_SSint64_Sint64, slices_IndexFunc_SSint64_Sint64_impl_isMap_1.ev]
  exact Ev.start (p := fun φ n => slices_IndexFunc_SSint64_Sint64_impl_isMap_1.l0 (mkR (run E (φ 0))) (φ 0) n s c (s.length : Int) 0 = _) 1 h3 (fun _ _ _ h => h)

theorem IndexFunc_Sint64_int64_impl_ValidSimplex_1_ret (s : List Int) (p : Int → Bool) (hs : s.length ≤ 1048576) (hp : ∀ x ∈ s, Ret E n_impl_ValidSimplex_1 [⟨yI, x⟩] ⟨o_impl_ValidSimplex_1, (p x, ())⟩) :
    Ret E n_slices_IndexFunc_Sint64_int64 [⟨yL, s⟩, ⟨(.fn n_impl_ValidSimplex_1 .nil), ()⟩] ⟨o_slices_IndexFunc_Sint64_int64, (idxf p s, ())⟩ := by
  obtain ⟨o, h1, h2, h3⟩ := find_loop 1 (L := fun φ n k => slices_IndexFunc_Sint64_int64_impl_ValidSimplex_1.l0 (mkR (run E (φ 0))) (φ 0) n s (s.length : Int) k) (len := s.length) (fun k => ∃ h : k < s.length, p s[k] = true) (fun o => some ⟨o_slices_IndexFunc_Sint64_int64, (o2i o, ())⟩) (fun _ _ _ _ => rfl) (fun k hk hP => by
      obtain ⟨_, hP⟩ := hP
      simp only [slices_IndexFunc_Sint64_int64_impl_ValidSimplex_1.l0_succ _ mk_ok]
      refine ev_t (decide_eq_true (by omega)) (ev_bind (idx_lt hk) (ev_call (hp _ (List.getElem_mem hk)) (ev_t hP ev_rfl)))) (fun k q hk hP ih => by
      simp only [slices_IndexFunc_Sint64_int64_impl_ValidSimplex_1.l0_succ _ mk_ok]
      refine ev_t (decide_eq_true (by omega)) (ev_bind (idx_lt hk) (ev_call (hp _ (List.getElem_mem hk)) (ev_f (Bool.eq_false_iff.2 fun h => hP ⟨hk, h⟩) ?_)))
      rw [w64_succ (by omega)]; exact ih) (by
      simp only [slices_IndexFunc_Sint64_int64_impl_ValidSimplex_1.l0_succ _ mk_ok]
      exact ev_f (decide_eq_false (by omega)) ev_rfl)
  rw [idxf_of h1 h2] at h3
  refine ret_of ?_
  simp only [run_slices_IndexFunc_Sint64_int64, slices_IndexFunc_Sint64_int64_impl_ValidSimplex_1.ev]
  exact Ev.start (p := fun φ n => slices_IndexFunc_Sint64_int64_impl_ValidSimplex_1.l0 (mkR (run E (φ 0))) (φ 0) n s (s.length : Int) 0 = _) 1 h3 (fun _ _ _ h => h)

theorem ContainsFunc_SSint64_Sint64_impl_ValidComplex_1_ret (s : List (List Int)) (c : ((vK × Unit) × (Int × Unit) × Unit)) (p : (List Int) → Bool) (hs : s.length ≤ 1048576) (hp : ∀ x ∈ s, Ret E n_impl_ValidComplex_1 [⟨yL, x⟩, ⟨(.ptr (.cons yK .nil)), c.1⟩, ⟨(.ptr (.cons yI .nil)), c.2.1⟩] ⟨o_impl_ValidComplex_1, (p x, ())⟩) :
    Ret E n_slices_ContainsFunc_SSint64_Sint64 [⟨yK, s⟩, ⟨(.fn n_impl_ValidComplex_1 (.cons (.ptr (.cons yK .nil)) (.cons (.ptr (.cons yI .nil)) .nil))), c⟩] ⟨o_slices_ContainsFunc_SSint64_Sint64, (pb (∃ x ∈ s, p x = true), ())⟩ := by
  refine ret_of ?_
  simp only [run_slices_ContainsFunc_SSint64_Sint64, slices_ContainsFunc_SSint64_Sint64_impl_ValidComplex_1.ev]
  refine ev_call (IndexFunc_SSint64_Sint64_impl_ValidComplex_1_ret s c p hs hp) (ev_some ?_)
  simp only [ge_iff_le, pb_dec, pb_congr idxf_nonneg]

theorem ContainsFunc_SSint64_Sint64_impl_isMap_1_ret (s : List (List Int)) (c : ((vK × Unit) × (vK × Unit) × ((List Int) × Unit) × Unit)) (p : (List Int) → Bool) (hs : s.length ≤ 1048576) (hp : ∀ x ∈ s, Ret E n_impl_isMap_1 [⟨yL, x⟩, ⟨(.ptr (.cons yK .nil)), c.1⟩, ⟨(.ptr (.cons yK .nil)), c.2.1⟩, ⟨(.ptr (.cons yL .nil)), c.2.2.1⟩] ⟨o_impl_isMap_1, (p x, ())⟩) :
    Ret E n_slices_ContainsFunc_SSint64_Sint64 [⟨yK, s⟩, ⟨(.fn n_impl_isMap_1 (.cons (.ptr (.cons yK .nil)) (.cons (.ptr (.cons yK .nil)) (.cons (.ptr (.cons yL .nil)) .nil)))), c⟩] ⟨o_slices_ContainsFunc_SSint64_Sint64, (pb (∃ x ∈ s, p x = true), ())⟩ := by
  refine ret_of ?_
  simp only [run_slices_ContainsFunc_SSint64_Sint64, slices_ContainsFunc_SSint64_Sint64_impl_isMap_1.ev]
  refine ev_call (IndexFunc_SSint64_Sint64_impl_isMap_1_ret s c p hs hp) (ev_some ?_)
  simp only [ge_iff_le, pb_dec, pb_congr idxf_nonneg]

theorem ContainsFunc_Sint64_int64_impl_ValidSimplex_1_ret (s : List Int) (p : Int → Bool) (hs : s.length ≤ 1048576) (hp : ∀ x ∈ s, Ret E n_impl_ValidSimplex_1 [⟨yI, x⟩] ⟨o_impl_ValidSimplex_1, (p x, ())⟩) :
    Ret E n_slices_ContainsFunc_Sint64_int64 [⟨yL, s⟩, ⟨(.fn n_impl_ValidSimplex_1 .nil), ()⟩] ⟨o_slices_ContainsFunc_Sint64_int64, (pb (∃ x ∈ s, p x = true), ())⟩ := by
  refine ret_of ?_
  simp only [run_slices_ContainsFunc_Sint64_int64, slices_ContainsFunc_Sint64_int64_impl_ValidSimplex_1.ev]
  refine ev_call (IndexFunc_Sint64_int64_impl_ValidSimplex_1_ret s p hs hp) (ev_some ?_)
  simp only [ge_iff_le, pb_dec, pb_congr idxf_nonneg]

end VeT

open Go Go.Proofs Ve
set_option linter.unusedVariables false
set_option linter.unusedSimpArgs false
namespace VeT

abbrev cM : Ty := .cons yI (.cons yI (.cons yI (.cons yL .nil)))
abbrev cC : Ty := .cons yK .nil
abbrev cS : Ty := .cons yK (.cons yI (.cons yL (.cons (.sl (.st cM)) .nil)))
abbrev Mat := Int × Int × Int × List Int × Unit
abbrev Cpx := List (List Int) × Unit
abbrev Shf := List (List Int) × Int × List Int × List Mat × Unit
abbrev Sim := List Int
abbrev dI (x : Int) : Dv := ⟨.int .i64,x⟩
abbrev dL (x : List Int) : Dv := ⟨.sl yI,x⟩
abbrev dLL (x : List (List Int)) : Dv := ⟨.sl yL,x⟩
abbrev dC (x : Cpx) : Dv := ⟨.ptr cC,x⟩
abbrev dM (x : Mat) : Dv := ⟨.ptr cM,x⟩
abbrev dS (x : Shf) : Dv := ⟨.ptr cS,x⟩
abbrev dMs (x : List Mat) : Dv := ⟨.sl (.st cM),x⟩

theorem within_ret (n lo hi : Int) : Ret E n_impl_within [dI n,dI lo,dI hi] ⟨o_impl_within,(pb (lo ≤ n ∧ n ≤ hi),())⟩ := by
  refine ret_of ?_
  simp only [run_impl_within,impl_within.ev]
  refine ev_d (fun h => ev_some ?_) fun h => ev_some ?_
  · rw [pb_dec,pb_congr (show n ≤ hi ↔ lo ≤ n ∧ n ≤ hi by omega)]
  · rw [pb_false (by omega)]

theorem l00In_ret (n lo hi : Int) : Ret E n_spec_l00In [dI n,dI lo,dI hi] ⟨o_spec_l00In,(pb (lo ≤ n ∧ n ≤ hi),())⟩ := by
  refine ret_of ?_
  simp only [run_spec_l00In,spec_l00In.ev]
  refine ev_d (fun h => ev_some ?_) fun h => ev_some ?_
  · rw [pb_dec,pb_congr (show n ≤ hi ↔ lo ≤ n ∧ n ≤ hi by omega)]
  · rw [pb_false (by omega)]

theorem isVertex_ret (n : Int) : Ret E n_impl_isVertex [dI n] ⟨o_impl_isVertex,(pb (0 ≤ n ∧ n ≤ 9),())⟩ := by
  refine ret_of ?_
  simp only [run_impl_isVertex,impl_isVertex.ev]
  exact ev_call (within_ret _ _ _) ev_rfl

theorem ValidSimplex_1_ret (n : Int) : Ret E n_impl_ValidSimplex_1 [dI n] ⟨o_impl_ValidSimplex_1,(!pb (0 ≤ n ∧ n ≤ 9),())⟩ := by
  refine ret_of ?_
  simp only [run_impl_ValidSimplex_1,impl_ValidSimplex_1.ev]
  exact ev_call (isVertex_ret _) ev_rfl

/-- the list rises -/
def Rises (s : Sim) : Prop := ∀ j,1 ≤ j → j < s.length → s.getD (j - 1) 0 < s.getD j 0

theorem isRising_ret (s : Sim) (hs : Sm yL s) : Ret E n_impl_isRising [dL s] ⟨o_impl_isRising,(pb (Rises s),())⟩ := by
  have hs1 : s.length ≤ 1048576 := hs.1
  refine ret_of ?_
  simp only [run_impl_isRising,impl_isRising.ev]
  by_cases h0 : s.length = 0
  · refine Ev.start (p := fun φ n => impl_isRising.l0 (mkR (run E (φ 0))) (φ 0) n s 1 = _) 1 ?_ (fun _ _ _ h => h)
    refine loopR 1 (σ := Unit) (L := fun φ n _ => impl_isRising.l0 (mkR (run E (φ 0))) (φ 0) n s 1) (fun _ _ _ _ => rfl) (fun _ => True) (fun _ => _) (fun _ => 0) (fun _ _ _ => ?_) () trivial
    simp only [impl_isRising.l0_succ _ mk_ok]
    refine ev_f (decide_eq_false (by omega)) (ev_some ?_)
    rw [pb_true]
    intro j h1 h2; omega
  · refine Ev.start (p := fun φ n => impl_isRising.l0 (mkR (run E (φ 0))) (φ 0) n s 1 = _) 1 ?_ (fun _ _ _ h => h)
    refine all_pb 1 (L := fun φ n k => impl_isRising.l0 (mkR (run E (φ 0))) (φ 0) n s k) (len := s.length) 1 (by omega) (fun j => s.getD (j - 1) 0 < s.getD j 0) (fun b => some ⟨o_impl_isRising,(b,())⟩) (fun _ _ _ _ => rfl) (fun k h1 h2 hP _ => ?_) (fun k r h1 h2 hP _ ih => ?_) (fun _ => ?_)
    · simp only [impl_isRising.l0_succ _ mk_ok]
      refine ev_t (decide_eq_true (by omega)) ?_
      rw [w64_small (by omega) (by omega),show ((k : Int) - 1) = ((k - 1 : Nat) : Int) by omega]
      refine ev_bind (idx_lt (by omega)) (ev_bind (idx_lt h2) (ev_t (decide_eq_true ?_) ev_rfl))
      simpa [List.getD_eq_getElem?_getD,h2,show k - 1 < s.length by omega] using hP
    · simp only [impl_isRising.l0_succ _ mk_ok]
      refine ev_t (decide_eq_true (by omega)) ?_
      rw [w64_small (by omega) (by omega),show ((k : Int) - 1) = ((k - 1 : Nat) : Int) by omega]
      refine ev_bind (idx_lt (by omega)) (ev_bind (idx_lt h2) (ev_f (decide_eq_false ?_) ?_))
      · simpa [List.getD_eq_getElem?_getD,h2,show k - 1 < s.length by omega] using hP
      · rw [w64_succ (by omega)]; exact ih
    · simp only [impl_isRising.l0_succ _ mk_ok]
      exact ev_f (decide_eq_false (by omega)) ev_rfl

end VeT
