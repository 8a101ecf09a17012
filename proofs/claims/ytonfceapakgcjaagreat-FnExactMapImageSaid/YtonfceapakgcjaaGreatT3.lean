import Derived.Test.YtonfceapakgcjaaGreatV2
import Derived.Test.YtonfceapakgcjaaGreatProg
import Derived.KernelRfl
import Derived.Shelf.SlicesG.CompactI
import Derived.Ground.SlgnProg
import Derived.Shelf.SlSortCmp.Whole1
import Derived.Shelf.SlSortCmp.NoneTotal
import Derived.Ground.SlsfProg
import Derived.Shelf.SortG.Plain
import Derived.Shelf.SortG.SortNone
import Derived.WalkKit
import Derived.Lib.Walk
import Derived.Lib.SliceRun
import Derived.Lib.AppendZerosOnto
set_option linter.unusedVariables false
set_option linter.unusedSimpArgs false
open Go Go.Proofs Ve
set_option linter.unusedVariables false
set_option maxRecDepth 100000
namespace VeT
abbrev yM : Ty := .cons (.int .i64) (.cons (.int .i64) (.cons (.int .i64) (.cons (.sl (.int .i64)) .nil)))
abbrev yI : Ty := .int .i64
abbrev yL : Ty := .sl yI
abbrev yK : Ty := .sl yL
abbrev yN : Ty := .sl (.st yM)
abbrev yS : Ty := .cons yK (.cons yI (.cons yL (.cons yN .nil)))
abbrev vM := Int × Int × Int × List Int × Unit
abbrev vK := List (List Int)
abbrev vN := List vM
abbrev vS := vK × Int × List Int × vN × Unit
noncomputable def bodyOf (f:Func):Code := f.body.getD .skip
def zd:Nat → List Ve.V → List Ve.V
  | 0,t => t
  | n + 1,t => V.dead::zd n t
def zo:Nat → List (Option Ve.Obj) → List (Option Ve.Obj)
  | 0,t => t
  | n + 1,t => none::zo n t
@[reducible] def n_Z23:Nat := 8
@[reducible] def n_Z33:Nat := 11
@[reducible] def n_Z36:Nat := 13
@[reducible] def n_Z26:Nat := 15
@[reducible] def n_Z24:Nat := 16
@[reducible] def n_Z30:Nat := 17
@[reducible] def n_Z32:Nat := 18
@[reducible] def n_Z29:Nat := 19
@[reducible] def n_Z37:Nat := 21
@[reducible] def n_Z25:Nat := 23
@[reducible] def n_Z31:Nat := 24
@[reducible] def n_Z28:Nat := 25
@[reducible] def n_Z61:Nat := 39
@[reducible] def n_Z5:Nat := 40
@[reducible] def n_Z27:Nat := 41
@[reducible] def n_Z35:Nat := 46
@[reducible] def n_Z38:Nat := 49
@[reducible] def n_Z74:Nat := 61
@[reducible] def n_Z34:Nat := 67
@[reducible] def n_Z63:Nat := 80
@[reducible] def n_Z75:Nat := 81
@[reducible] def n_Z68:Nat := 82
@[reducible] def n_Z20:Nat := 83
@[reducible] def n_Z13:Nat := 84
@[reducible] def n_Z14:Nat := 85
@[reducible] def n_Z71:Nat := 97
@[reducible] def n_Z6:Nat := 101
@[reducible] def n_Z62:Nat := 122
@[reducible] def n_Z78:Nat := 123
@[reducible] def n_Z80:Nat := 124
@[reducible] def n_Z79:Nat := 125
@[reducible] def n_Z58:Nat := 128
@[reducible] def n_Z15:Nat := 129
@[reducible] def n_Z77:Nat := 140
@[reducible] def n_Z70:Nat := 141
@[reducible] def n_Z72:Nat := 142
@[reducible] def n_Z16:Nat := 143
@[reducible] def n_Z21:Nat := 144
@[reducible] def n_Z60:Nat := 145
@[reducible] def n_Z43:Nat := 146
@[reducible] def n_Z11:Nat := 147
@[reducible] def n_Z59:Nat := 148
@[reducible] def n_Z10:Nat := 149
@[reducible] def n_Z42:Nat := 150
@[reducible] def n_Z51:Nat := 151
@[reducible] def n_Z73:Nat := 161
@[reducible] def n_Z67:Nat := 162
@[reducible] def n_Z69:Nat := 163
@[reducible] def n_Z8:Nat := 168
@[reducible] def n_Z46:Nat := 169
@[reducible] def n_Z12:Nat := 170
@[reducible] def n_Z7:Nat := 171
@[reducible] def n_Z22:Nat := 172
@[reducible] def n_Z49:Nat := 179
@[reducible] def n_Z45:Nat := 185
@[reducible] def n_Z76:Nat := 186
@[reducible] def n_Z39:Nat := 188
@[reducible] def n_Z64:Nat := 202
@[reducible] def n_Z66:Nat := 203
@[reducible] def n_Z17:Nat := 204
@[reducible] def n_Z41:Nat := 207
@[reducible] def n_Z2:Nat := 209
@[reducible] def n_Z0:Nat := 210
@[reducible] def n_Z44:Nat := 211
@[reducible] def n_Z65:Nat := 215
@[reducible] def n_Z18:Nat := 217
@[reducible] def n_Z9:Nat := 218
@[reducible] def n_Z19:Nat := 219
@[reducible] def n_Z53:Nat := 220
@[reducible] def n_Z56:Nat := 224
@[reducible] def n_Z52:Nat := 225
@[reducible] def n_Z3:Nat := 251
@[reducible] def n_Z1:Nat := 252
@[reducible] def n_Z4:Nat := 263
@[reducible] noncomputable def F_Z23:Func := Tryz.f8
@[reducible] noncomputable def F_Z33:Func := Tryz.f11
@[reducible] noncomputable def F_Z36:Func := Tryz.f13
@[reducible] noncomputable def F_Z26:Func := Tryz.f15
@[reducible] noncomputable def F_Z24:Func := Tryz.f16
@[reducible] noncomputable def F_Z30:Func := Tryz.f17
@[reducible] noncomputable def F_Z32:Func := Tryz.f18
@[reducible] noncomputable def F_Z29:Func := Tryz.f19
@[reducible] noncomputable def F_Z37:Func := Tryz.f21
@[reducible] noncomputable def F_Z25:Func := Tryz.f23
@[reducible] noncomputable def F_Z31:Func := Tryz.f24
@[reducible] noncomputable def F_Z28:Func := Tryz.f25
@[reducible] noncomputable def F_Z61:Func := Tryz.f39
@[reducible] noncomputable def F_Z5:Func := Tryz.f40
@[reducible] noncomputable def F_Z27:Func := Tryz.f41
@[reducible] noncomputable def F_Z35:Func := Tryz.f46
@[reducible] noncomputable def F_Z38:Func := Tryz.f49
@[reducible] noncomputable def F_Z74:Func := Tryz.f61
@[reducible] noncomputable def F_Z34:Func := Tryz.f67
@[reducible] noncomputable def F_Z63:Func := Tryz.f80
@[reducible] noncomputable def F_Z75:Func := Tryz.f81
@[reducible] noncomputable def F_Z68:Func := Tryz.f82
@[reducible] noncomputable def F_Z20:Func := Tryz.f83
@[reducible] noncomputable def F_Z13:Func := Tryz.f84
@[reducible] noncomputable def F_Z14:Func := Tryz.f85
@[reducible] noncomputable def F_Z71:Func := Tryz.f97
@[reducible] noncomputable def F_Z6:Func := Tryz.f101
@[reducible] noncomputable def F_Z62:Func := Tryz.f122
@[reducible] noncomputable def F_Z78:Func := Tryz.f123
@[reducible] noncomputable def F_Z80:Func := Tryz.f124
@[reducible] noncomputable def F_Z79:Func := Tryz.f125
@[reducible] noncomputable def F_Z58:Func := Tryz.f128
@[reducible] noncomputable def F_Z15:Func := Tryz.f129
@[reducible] noncomputable def F_Z77:Func := Tryz.f140
@[reducible] noncomputable def F_Z70:Func := Tryz.f141
@[reducible] noncomputable def F_Z72:Func := Tryz.f142
@[reducible] noncomputable def F_Z16:Func := Tryz.f143
@[reducible] noncomputable def F_Z21:Func := Tryz.f144
@[reducible] noncomputable def F_Z60:Func := Tryz.f145
@[reducible] noncomputable def F_Z43:Func := Tryz.f146
@[reducible] noncomputable def F_Z11:Func := Tryz.f147
@[reducible] noncomputable def F_Z59:Func := Tryz.f148
@[reducible] noncomputable def F_Z10:Func := Tryz.f149
@[reducible] noncomputable def F_Z42:Func := Tryz.f150
@[reducible] noncomputable def F_Z51:Func := Tryz.f151
@[reducible] noncomputable def F_Z73:Func := Tryz.f161
@[reducible] noncomputable def F_Z67:Func := Tryz.f162
@[reducible] noncomputable def F_Z69:Func := Tryz.f163
@[reducible] noncomputable def F_Z8:Func := Tryz.f168
@[reducible] noncomputable def F_Z46:Func := Tryz.f169
@[reducible] noncomputable def F_Z12:Func := Tryz.f170
@[reducible] noncomputable def F_Z7:Func := Tryz.f171
@[reducible] noncomputable def F_Z22:Func := Tryz.f172
@[reducible] noncomputable def F_Z49:Func := Tryz.f179
@[reducible] noncomputable def F_Z45:Func := Tryz.f185
@[reducible] noncomputable def F_Z76:Func := Tryz.f186
@[reducible] noncomputable def F_Z39:Func := Tryz.f188
@[reducible] noncomputable def F_Z64:Func := Tryz.f202
@[reducible] noncomputable def F_Z66:Func := Tryz.f203
@[reducible] noncomputable def F_Z17:Func := Tryz.f204
@[reducible] noncomputable def F_Z41:Func := Tryz.f207
@[reducible] noncomputable def F_Z2:Func := Tryz.f209
@[reducible] noncomputable def F_Z0:Func := Tryz.f210
@[reducible] noncomputable def F_Z44:Func := Tryz.f211
@[reducible] noncomputable def F_Z65:Func := Tryz.f215
@[reducible] noncomputable def F_Z18:Func := Tryz.f217
@[reducible] noncomputable def F_Z9:Func := Tryz.f218
@[reducible] noncomputable def F_Z19:Func := Tryz.f219
@[reducible] noncomputable def F_Z53:Func := Tryz.f220
@[reducible] noncomputable def F_Z56:Func := Tryz.f224
@[reducible] noncomputable def F_Z52:Func := Tryz.f225
@[reducible] noncomputable def F_Z3:Func := Tryz.f251
@[reducible] noncomputable def F_Z1:Func := Tryz.f252
@[reducible] noncomputable def F_Z4:Func := Tryz.f263
@[reducible] def o_Z23:Ty := (.cons .bool .nil)
noncomputable def sg_Z23:Sig := ⟨[(true,1),(true,1),(false,1)],[],o_Z23,[(false,1)],[],[]⟩
@[reducible] def o_Z33:Ty := (.cons yI .nil)
noncomputable def sg_Z33:Sig := ⟨[(true,1),(false,1)],[],o_Z33,[(false,1)],[],[]⟩
@[reducible] def o_Z36:Ty := (.cons yK .nil)
noncomputable def sg_Z36:Sig := ⟨[(true,1)],[],o_Z36,[(true,1)],[.deep],[]⟩
@[reducible] def o_Z26:Ty := (.cons .bool .nil)
noncomputable def sg_Z26:Sig := ⟨[(false,1),(false,1)],[],o_Z26,[(false,1)],[],[]⟩
@[reducible] def o_Z24:Ty := (.cons .bool .nil)
noncomputable def sg_Z24:Sig := ⟨[(true,1),(true,1)],[],o_Z24,[(false,1)],[],[]⟩
@[reducible] def o_Z30:Ty := (.cons yI (.cons yK .nil))
noncomputable def sg_Z30:Sig := ⟨[(true,1),(false,1)],[.io true,.imm],o_Z30,[(false,1)],[],[]⟩
@[reducible] def o_Z32:Ty := (.cons yI (.cons yK .nil))
noncomputable def sg_Z32:Sig := ⟨[(false,1),(false,1)],[.io true,.imm],o_Z32,[(false,1)],[],[]⟩
@[reducible] def o_Z29:Ty := (.cons yI .nil)
noncomputable def sg_Z29:Sig := ⟨[(false,1),(false,1)],[],o_Z29,[(false,1)],[],[]⟩
@[reducible] def o_Z37:Ty := (.cons yL .nil)
noncomputable def sg_Z37:Sig := ⟨[(false,1)],[],o_Z37,[(false,1)],[.deep],[]⟩
@[reducible] def o_Z25:Ty := (.cons .bool .nil)
noncomputable def sg_Z25:Sig := ⟨[(false,1),(false,1)],[],o_Z25,[(false,1)],[],[]⟩
@[reducible] def o_Z31:Ty := (.cons yI (.cons yL .nil))
noncomputable def sg_Z31:Sig := ⟨[(false,1),(false,1)],[.io true,.imm],o_Z31,[(false,1)],[],[]⟩
@[reducible] def o_Z28:Ty := (.cons yI .nil)
noncomputable def sg_Z28:Sig := ⟨[(false,1),(false,1)],[],o_Z28,[(false,1)],[],[]⟩
@[reducible] def o_Z61:Ty := (.cons yK (.cons yI .nil))
noncomputable def sg_Z61:Sig := ⟨[(true,1),(true,1),(false,1)],[],o_Z61,[(true,1),(false,1)],[],[]⟩
@[reducible] def o_Z5:Ty := (.cons yK (.cons yI .nil))
noncomputable def sg_Z5:Sig := ⟨[(true,1),(true,1),(false,1)],[],o_Z5,[(true,1),(false,1)],[.deep,.imm],[]⟩
@[reducible] def o_Z27:Ty := (.cons yI .nil)
noncomputable def sg_Z27:Sig := ⟨[(true,1),(false,1)],[],o_Z27,[(false,1)],[],[]⟩
@[reducible] def o_Z35:Ty := (.cons yI .nil)
noncomputable def sg_Z35:Sig := ⟨[(false,1),(false,1)],[],o_Z35,[(false,1)],[],[]⟩
@[reducible] def o_Z38:Ty := (.cons yK .nil)
noncomputable def sg_Z38:Sig := ⟨[(false,1)],[],o_Z38,[(false,1)],[.deep],[]⟩
@[reducible] def o_Z74:Ty := (.cons yI .nil)
noncomputable def sg_Z74:Sig := ⟨[(false,1),(false,1),(false,1)],[],o_Z74,[(false,1)],[],[(.ptr (.cons yK .nil)),(.ptr (.cons yK .nil))]⟩
@[reducible] def o_Z34:Ty := (.cons yI .nil)
noncomputable def sg_Z34:Sig := ⟨[(false,1),(false,1)],[],o_Z34,[(false,1)],[],[]⟩
@[reducible] def o_Z63:Ty := (.cons yL .nil)
noncomputable def sg_Z63:Sig := ⟨[(false,1)],[],o_Z63,[(false,1)],[.deep],[]⟩
@[reducible] def o_Z75:Ty := (.cons yI .nil)
noncomputable def sg_Z75:Sig := ⟨[(false,1),(false,1),(false,1),(false,1)],[],o_Z75,[(false,1)],[],[(.ptr (.cons yK .nil)),(.ptr (.cons yK .nil))]⟩
@[reducible] def o_Z68:Ty := (.cons yK .nil)
noncomputable def sg_Z68:Sig := ⟨[(false,1)],[],o_Z68,[(true,1)],[],[]⟩
@[reducible] def o_Z20:Ty := (.cons yI .nil)
noncomputable def sg_Z20:Sig := ⟨[(true,1),(true,1),(false,1)],[],o_Z20,[(false,1)],[],[]⟩
@[reducible] def o_Z13:Ty := (.cons yL .nil)
noncomputable def sg_Z13:Sig := ⟨[(true,1),(false,1),(false,1)],[],o_Z13,[(false,1)],[.deep],[]⟩
@[reducible] def o_Z14:Ty := (.cons yK .nil)
noncomputable def sg_Z14:Sig := ⟨[(false,1)],[],o_Z14,[(true,1)],[.deep],[]⟩
@[reducible] def o_Z71:Ty := (.cons .bool .nil)
noncomputable def sg_Z71:Sig := ⟨[(false,1)],[],o_Z71,[(false,1)],[],[(.ptr (.cons yK .nil))]⟩
@[reducible] def o_Z6:Ty := (.cons .bool .nil)
noncomputable def sg_Z6:Sig := ⟨[(true,1)],[],o_Z6,[(false,1)],[],[]⟩
@[reducible] def o_Z62:Ty := (.cons .bool .nil)
noncomputable def sg_Z62:Sig := ⟨[(false,1),(false,1),(false,1)],[],o_Z62,[(false,1)],[],[]⟩
@[reducible] def o_Z78:Ty := (.cons .bool .nil)
noncomputable def sg_Z78:Sig := ⟨[(false,1),(false,1),(false,1)],[],o_Z78,[(false,1)],[],[(.ptr (.cons yK .nil)),(.ptr (.cons yK .nil))]⟩
@[reducible] def o_Z80:Ty := (.cons yL .nil)
noncomputable def sg_Z80:Sig := ⟨[(false,1)],[],o_Z80,[(false,1)],[.deep],[(.ptr (.cons yK .nil))]⟩
@[reducible] def o_Z79:Ty := (.cons yI .nil)
noncomputable def sg_Z79:Sig := ⟨[(false,1),(false,1),(false,1)],[],o_Z79,[(false,1)],[],[]⟩
@[reducible] def o_Z58:Ty := (.cons yI .nil)
noncomputable def sg_Z58:Sig := ⟨[(false,1),(false,1)],[],o_Z58,[(false,1)],[],[]⟩
@[reducible] def o_Z15:Ty := (.cons yI .nil)
noncomputable def sg_Z15:Sig := ⟨[(true,1),(false,1)],[],o_Z15,[(false,1)],[],[]⟩
@[reducible] def o_Z77:Ty := (.cons yL (.cons .bool .nil))
noncomputable def sg_Z77:Sig := ⟨[(false,1),(false,1),(false,1)],[],o_Z77,[(false,1),(false,1)],[],[]⟩
@[reducible] def o_Z70:Ty := (.cons yI .nil)
noncomputable def sg_Z70:Sig := ⟨[(false,1),(false,1)],[],o_Z70,[(false,1)],[],[(.ptr (.cons yK .nil))]⟩
@[reducible] def o_Z72:Ty := (.cons (.ptr (.cons yK .nil)) .nil)
noncomputable def sg_Z72:Sig := ⟨[(false,1),(false,1)],[.iob,.imm],o_Z72,[],[],[(.ptr (.cons yK .nil))]⟩
@[reducible] def o_Z16:Ty := (.cons .bool .nil)
noncomputable def sg_Z16:Sig := ⟨[(true,1),(true,1),(false,1)],[],o_Z16,[(false,1)],[],[]⟩
@[reducible] def o_Z21:Ty := (.cons yL .nil)
noncomputable def sg_Z21:Sig := ⟨[(true,1)],[],o_Z21,[(false,1)],[.deep],[]⟩
@[reducible] def o_Z60:Ty := (.cons yL .nil)
noncomputable def sg_Z60:Sig := ⟨[(false,1)],[.io true],o_Z60,[],[],[]⟩
@[reducible] def o_Z43:Ty := (.cons yL .nil)
noncomputable def sg_Z43:Sig := ⟨[(false,1)],[.take true],o_Z43,[(false,1)],[.deep],[]⟩
@[reducible] def o_Z11:Ty := (.cons yK .nil)
noncomputable def sg_Z11:Sig := ⟨[(false,1)],[],o_Z11,[(false,1)],[.deep],[]⟩
@[reducible] def o_Z59:Ty := (.cons yK .nil)
noncomputable def sg_Z59:Sig := ⟨[(false,1),(false,1)],[.io true,.imm],o_Z59,[],[],[]⟩
@[reducible] def o_Z10:Ty := (.cons yI .nil)
noncomputable def sg_Z10:Sig := ⟨[(false,1),(false,1)],[],o_Z10,[(false,1)],[],[]⟩
@[reducible] def o_Z42:Ty := (.cons yK .nil)
noncomputable def sg_Z42:Sig := ⟨[(false,1),(false,1)],[.take true,.imm],o_Z42,[(false,1)],[.deep],[]⟩
@[reducible] def o_Z51:Ty := (.cons .bool .nil)
noncomputable def sg_Z51:Sig := ⟨[(false,1),(false,1)],[],o_Z51,[(false,1)],[],[]⟩
@[reducible] def o_Z73:Ty := (.cons .bool .nil)
noncomputable def sg_Z73:Sig := ⟨[(false,1)],[],o_Z73,[(false,1)],[],[]⟩
@[reducible] def o_Z67:Ty := (.cons .bool .nil)
noncomputable def sg_Z67:Sig := ⟨[(false,1),(false,1)],[],o_Z67,[(false,1)],[],[]⟩
@[reducible] def o_Z69:Ty := (.cons yL .nil)
noncomputable def sg_Z69:Sig := ⟨[(false,1),(false,1)],[],o_Z69,[(false,1)],[.deep],[]⟩
@[reducible] def o_Z8:Ty := (.cons .bool .nil)
noncomputable def sg_Z8:Sig := ⟨[(false,1)],[],o_Z8,[(false,1)],[],[]⟩
@[reducible] def o_Z46:Ty := (.cons .bool .nil)
noncomputable def sg_Z46:Sig := ⟨[(false,1),(false,1)],[],o_Z46,[(false,1)],[],[]⟩
@[reducible] def o_Z12:Ty := (.cons yK .nil)
noncomputable def sg_Z12:Sig := ⟨[(false,1)],[],o_Z12,[(false,1)],[.deep],[]⟩
@[reducible] def o_Z7:Ty := (.cons .bool .nil)
noncomputable def sg_Z7:Sig := ⟨[(false,1),(false,1),(false,1)],[],o_Z7,[(false,1)],[],[.nil,(.ptr (.cons yK .nil)),(.ptr (.cons yI .nil))]⟩
@[reducible] def o_Z22:Ty := (.cons .bool .nil)
noncomputable def sg_Z22:Sig := ⟨[(false,1),(false,1),(false,1)],[],o_Z22,[(false,1)],[],[]⟩
@[reducible] def o_Z49:Ty := (.cons .bool .nil)
noncomputable def sg_Z49:Sig := ⟨[(false,1),(false,1)],[],o_Z49,[(false,1)],[],[]⟩
@[reducible] def o_Z45:Ty := (.cons yL .nil)
noncomputable def sg_Z45:Sig := ⟨[(false,1)],[],o_Z45,[(false,1)],[.deep],[]⟩
@[reducible] def o_Z76:Ty := (.cons .bool .nil)
noncomputable def sg_Z76:Sig := ⟨[(false,1),(false,1),(false,1),(false,1)],[],o_Z76,[(false,1)],[],[(.ptr (.cons yK .nil)),(.ptr (.cons yK .nil))]⟩
@[reducible] def o_Z39:Ty := (.cons yI (.cons .bool .nil))
noncomputable def sg_Z39:Sig := ⟨[(false,1),(false,1),(false,1)],[],o_Z39,[(false,1),(false,1)],[],[]⟩
@[reducible] def o_Z64:Ty := (.cons yL .nil)
noncomputable def sg_Z64:Sig := ⟨[(false,1),(false,1)],[],o_Z64,[(false,1)],[.deep],[]⟩
@[reducible] def o_Z66:Ty := (.cons .bool .nil)
noncomputable def sg_Z66:Sig := ⟨[(false,1),(false,1)],[],o_Z66,[(false,1)],[],[]⟩
@[reducible] def o_Z17:Ty := (.cons .bool .nil)
noncomputable def sg_Z17:Sig := ⟨[(false,1),(false,1),(false,1),(false,1)],[],o_Z17,[(false,1)],[],[.nil,(.ptr (.cons yK .nil)),(.ptr (.cons yK .nil)),(.ptr (.cons yL .nil))]⟩
@[reducible] def o_Z41:Ty := (.cons yL .nil)
noncomputable def sg_Z41:Sig := ⟨[(false,1)],[],o_Z41,[(false,1)],[.deep],[]⟩
@[reducible] def o_Z2:Ty := (.cons yI .nil)
noncomputable def sg_Z2:Sig := ⟨[(false,1)],[],o_Z2,[(false,1)],[],[]⟩
@[reducible] def o_Z0:Ty := (.cons yI .nil)
noncomputable def sg_Z0:Sig := ⟨[(false,1),(false,1)],[],o_Z0,[(false,1)],[],[]⟩
@[reducible] def o_Z44:Ty := (.cons yI .nil)
noncomputable def sg_Z44:Sig := ⟨[(false,1),(false,1)],[],o_Z44,[(false,1)],[],[]⟩
@[reducible] def o_Z65:Ty := (.cons .bool .nil)
noncomputable def sg_Z65:Sig := ⟨[(false,1),(false,1),(false,1)],[],o_Z65,[(false,1)],[],[]⟩
@[reducible] def o_Z18:Ty := (.cons .bool .nil)
noncomputable def sg_Z18:Sig := ⟨[(false,1)],[],o_Z18,[(false,1)],[],[]⟩
@[reducible] def o_Z9:Ty := (.cons .bool .nil)
noncomputable def sg_Z9:Sig := ⟨[(false,1)],[],o_Z9,[(false,1)],[],[]⟩
@[reducible] def o_Z19:Ty := (.cons .bool .nil)
noncomputable def sg_Z19:Sig := ⟨[(false,1)],[],o_Z19,[(false,1)],[],[]⟩
@[reducible] def o_Z53:Ty := (.cons yI .nil)
noncomputable def sg_Z53:Sig := ⟨[(false,1),(false,1)],[],o_Z53,[(false,1)],[],[]⟩
@[reducible] def o_Z56:Ty := (.cons yI .nil)
noncomputable def sg_Z56:Sig := ⟨[(false,1),(false,1)],[],o_Z56,[(false,1)],[],[]⟩
@[reducible] def o_Z52:Ty := (.cons yL .nil)
noncomputable def sg_Z52:Sig := ⟨[(false,1),(false,1)],[.take true,.imm],o_Z52,[(false,1)],[.deep],[]⟩
@[reducible] def o_Z3:Ty := (.cons .bool .nil)
noncomputable def sg_Z3:Sig := ⟨[(false,1)],[],o_Z3,[(false,1)],[],[]⟩
@[reducible] def o_Z1:Ty := (.cons yI .nil)
noncomputable def sg_Z1:Sig := ⟨[(false,1),(false,1)],[],o_Z1,[(false,1)],[],[]⟩
@[reducible] def o_Z4:Ty := (.cons .bool .nil)
noncomputable def sg_Z4:Sig := ⟨[(false,1)],[],o_Z4,[(false,1)],[],[]⟩
noncomputable def pol_Z23:Pol := ⟨147,[(44,[some 143]),(46,[some 144]),(48,[some 145]),(53,[some 146])],[],[],[(11,⟨[2,3,4,8,9],[3,4,8],[],[],[],[],[]⟩),(38,⟨[8,9,13,16,18,19],[8,13,18,146],[],[],[],[],[]⟩),(1000064,⟨[2,3,4,8,9,10,11,12,13,14,64],[3,4,8,10,11,13,143,144,145,146],[],[],[],[],[]⟩),(1000101,⟨[2,3,4,8,9,13,101],[3,4,8,13,146],[],[],[],[],[]⟩),(1000131,⟨[13,16,131],[13,146],[],[],[],[],[]⟩)],[]⟩
noncomputable def pol_Z33:Pol := ⟨14,[],[],[],[],[]⟩
noncomputable def pol_Z36:Pol := ⟨11,[(6,[some 10])],[],[],[],[]⟩
noncomputable def pol_Z26:Pol := ⟨29,[],[(4,⟨[0,1,5],[],[],[],[],[],[]⟩)],[],[],[]⟩
noncomputable def pol_Z24:Pol := ⟨13,[],[],[],[],[]⟩
noncomputable def pol_Z30:Pol := ⟨12,[],[],[],[],[]⟩
noncomputable def pol_Z29:Pol := ⟨23,[],[(2,⟨[0,1,5],[],[],[],[],[],[]⟩)],[],[],[]⟩
noncomputable def pol_Z37:Pol := ⟨23,[],[(3,⟨[0,3,4],[7],[],[],[],[],[]⟩)],[],[],[]⟩
noncomputable def pol_Z25:Pol := ⟨28,[],[(4,⟨[0,1,5],[],[],[],[],[],[]⟩)],[],[],[]⟩
noncomputable def pol_Z31:Pol := ⟨21,[],[(2,⟨[0,1,5],[19],[],[],[],[],[]⟩)],[],[],[]⟩
noncomputable def pol_Z28:Pol := ⟨23,[],[(2,⟨[0,1,5],[],[],[],[],[],[]⟩)],[],[],[]⟩
noncomputable def pol_Z61:Pol := ⟨42,[(33,[some 41])],[(6,⟨[2,3,4,6,9,10],[3,4,6,17],[],[],[],[],[]⟩)],[],[],[]⟩
noncomputable def pol_Z5:Pol := ⟨42,[(31,[some 40]),(36,[some 41])],[(6,⟨[2,3,6,9,21,22,23],[3,6,33],[(9,33,yL,true)],[],[],[],[]⟩)],[],[],[]⟩
noncomputable def pol_Z27:Pol := ⟨14,[],[],[],[],[]⟩
noncomputable def pol_Z35:Pol := ⟨29,[],[(5,⟨[0,1,5],[],[],[],[],[],[]⟩)],[],[],[]⟩
noncomputable def pol_Z38:Pol := ⟨25,[(20,[some 24])],[(3,⟨[0,3,4],[7],[],[],[],[],[]⟩)],[],[],[]⟩
noncomputable def pol_Z74:Pol := ⟨23,[],[],[],[(1000014,⟨[0,1,2,14],[],[],[],[],[],[]⟩)],[]⟩
noncomputable def pol_Z34:Pol := ⟨14,[],[],[],[],[]⟩
noncomputable def pol_Z63:Pol := ⟨7,[],[],[],[],[]⟩
noncomputable def pol_Z75:Pol := ⟨32,[],[],[],[],[]⟩
noncomputable def pol_Z68:Pol := ⟨20,[],[(3,⟨[0,2,3,4],[2,3],[],[],[],[],[(3,0)]⟩)],[],[],[]⟩
noncomputable def pol_Z20:Pol := ⟨25,[],[],[],[(1000007,⟨[2,3,4,7],[3,4],[],[],[],[],[]⟩)],[]⟩
noncomputable def pol_Z13:Pol := ⟨37,[(32,[some 36])],[(4,⟨[1,7,8,13,14,15],[27],[(8,27,yI,true)],[],[],[],[]⟩)],[],[],[]⟩
noncomputable def pol_Z14:Pol := ⟨14,[(5,[some 12]),(9,[some 13])],[],[],[],[]⟩
noncomputable def pol_Z71:Pol := ⟨66,[],[(4,⟨[0,3],[],[],[],[],[],[]⟩),(10,⟨[0,3,4,5],[],[],[],[],[],[]⟩)],[],[(1000047,⟨[0,3,4,47],[],[],[],[],[],[]⟩),(1000056,⟨[0,3,4,5,56],[],[],[],[],[],[]⟩)],[]⟩
noncomputable def pol_Z6:Pol := ⟨41,[],[(2,⟨[1,6,7,8],[1],[],[],[1],[],[]⟩)],[],[(1000030,⟨[1,3,4,6,7,8,30],[1,3],[],[],[],[],[]⟩)],[]⟩
noncomputable def pol_Z62:Pol := ⟨18,[],[],[],[],[]⟩
noncomputable def pol_Z78:Pol := ⟨38,[],[(3,⟨[0,1,2,7,8],[],[],[],[],[],[]⟩)],[],[],[]⟩
noncomputable def pol_Z80:Pol := ⟨38,[],[(3,⟨[0,3,4],[5],[],[],[],[],[]⟩)],[],[],[]⟩
noncomputable def pol_Z79:Pol := ⟨27,[],[(2,⟨[0,1,2,7],[],[],[],[],[],[]⟩)],[],[],[]⟩
noncomputable def pol_Z58:Pol := ⟨21,[],[(2,⟨[0,1,7,8],[],[],[],[],[],[]⟩)],[],[],[]⟩
noncomputable def pol_Z15:Pol := ⟨19,[],[],[],[],[]⟩
noncomputable def pol_Z77:Pol := ⟨34,[],[(3,⟨[0,1,2,8,9],[],[],[],[],[],[(1000008,0)]⟩)],[],[],[]⟩
noncomputable def pol_Z70:Pol := ⟨27,[],[(2,⟨[0,1,5],[],[],[],[],[],[]⟩)],[],[],[]⟩
noncomputable def pol_Z72:Pol := ⟨74,[(57,[some 73])],[(2,⟨[0,1,4],[71],[],[],[],[],[]⟩),(6,⟨[0,1,5],[71],[],[],[],[],[]⟩)],[],[(1000019,⟨[0,1,4,19],[71],[],[],[],[],[]⟩),(1000044,⟨[0,1,5,44],[71],[],[],[],[],[]⟩)],[]⟩
noncomputable def pol_Z16:Pol := ⟨21,[],[],[],[],[]⟩
noncomputable def pol_Z21:Pol := ⟨25,[],[(3,⟨[3,7,8,9],[21],[(3,21,yI,true)],[],[],[],[]⟩)],[],[],[]⟩
noncomputable def pol_Z11:Pol := ⟨21,[(14,[some 20])],[(3,⟨[3,6,7,8],[16],[(3,16,yL,true)],[],[],[],[]⟩)],[],[],[]⟩
noncomputable def pol_Z10:Pol := ⟨17,[],[],[],[],[]⟩
noncomputable def pol_Z51:Pol := ⟨28,[],[(4,⟨[0,1,12,13],[],[],[],[],[],[]⟩)],[],[],[]⟩
noncomputable def pol_Z73:Pol := ⟨11,[],[],[],[],[]⟩
noncomputable def pol_Z67:Pol := ⟨42,[],[(4,⟨[0,1,5],[],[],[],[],[],[]⟩)],[],[],[]⟩
noncomputable def pol_Z69:Pol := ⟨19,[(9,[some 18])],[],[],[],[]⟩
noncomputable def pol_Z8:Pol := ⟨21,[],[],[],[],[]⟩
noncomputable def pol_Z46:Pol := ⟨11,[],[],[],[],[]⟩
noncomputable def pol_Z12:Pol := ⟨29,[(22,[some 28])],[(3,⟨[0,3,6,7],[24],[(3,24,yL,true)],[],[],[],[]⟩)],[],[],[]⟩
noncomputable def pol_Z7:Pol := ⟨16,[],[],[],[],[]⟩
noncomputable def pol_Z22:Pol := ⟨18,[],[],[],[],[]⟩
noncomputable def pol_Z49:Pol := ⟨11,[],[],[],[],[]⟩
noncomputable def pol_Z45:Pol := ⟨38,[(24,[some 37])],[(3,⟨[0,3,9,10,11],[],[],[],[],[],[]⟩),(11,⟨[6,25,26,27],[37],[],[],[],[],[]⟩)],[],[],[]⟩
noncomputable def pol_Z76:Pol := ⟨45,[],[(2,⟨[0,1,2,3,9],[],[],[],[],[],[]⟩)],[],[(1000040,⟨[0,1,2,3,9,40],[],[],[],[],[],[]⟩)],[]⟩
noncomputable def pol_Z39:Pol := ⟨52,[],[(3,⟨[0,1,2,8,9,10],[],[],[],[],[],[]⟩)],[],[],[]⟩
noncomputable def pol_Z64:Pol := ⟨51,[],[(4,⟨[0,1,5,6,7],[8],[],[],[],[],[]⟩)],[],[(10,⟨[0,1,5,6,7],[8],[],[],[],[],[]⟩),(1000024,⟨[0,1,5,6,7,24],[8],[],[],[],[],[]⟩)],[]⟩
noncomputable def pol_Z66:Pol := ⟨28,[],[(4,⟨[0,1,5],[],[],[],[],[],[]⟩)],[],[],[]⟩
noncomputable def pol_Z17:Pol := ⟨17,[],[],[],[],[]⟩
noncomputable def pol_Z41:Pol := ⟨9,[],[],[],[(1000004,⟨[0,4],[],[],[],[],[],[]⟩)],[]⟩
noncomputable def pol_Z2:Pol := ⟨19,[],[(3,⟨[3,6,7,8],[],[],[],[],[],[]⟩)],[],[],[]⟩
noncomputable def pol_Z0:Pol := ⟨22,[],[],[],[],[]⟩
noncomputable def pol_Z44:Pol := ⟨38,[],[(2,⟨[0,1,9,10,11],[],[],[],[],[],[]⟩)],[],[],[]⟩
noncomputable def pol_Z65:Pol := ⟨41,[],[(2,⟨[0,1,2,7],[],[],[],[],[],[]⟩)],[],[(1000037,⟨[0,1,2,7,37],[],[],[],[],[],[]⟩)],[]⟩
noncomputable def pol_Z18:Pol := ⟨21,[],[(2,⟨[0,3],[],[],[],[],[],[]⟩)],[],[],[]⟩
noncomputable def pol_Z9:Pol := ⟨7,[],[],[],[],[]⟩
noncomputable def pol_Z19:Pol := ⟨6,[],[],[],[],[]⟩
noncomputable def pol_Z53:Pol := ⟨21,[],[(2,⟨[0,1,7,8],[],[],[],[],[],[]⟩)],[],[],[]⟩
noncomputable def pol_Z56:Pol := ⟨21,[],[(2,⟨[0,1,7,8],[],[],[],[],[],[]⟩)],[],[],[]⟩
noncomputable def pol_Z3:Pol := ⟨7,[],[],[],[],[]⟩
noncomputable def pol_Z1:Pol := ⟨22,[],[],[],[],[]⟩
noncomputable def pol_Z4:Pol := ⟨7,[],[],[],[],[]⟩
noncomputable def sigL:List (Option Sig) := [none,none,none,none,none,none,none,none,some sg_Z23,none,none,some sg_Z33,none,some sg_Z36,none,some sg_Z26,some sg_Z24,some sg_Z30,some sg_Z32,some sg_Z29,none,some sg_Z37,none,some sg_Z25,some sg_Z31,some sg_Z28,none,none,none,none,none,none,none,none,none,none,none,none,none,some sg_Z61,some sg_Z5,some sg_Z27,none,none,none,none,some sg_Z35,none,none,some sg_Z38,none,none,none,none,none,none,none,none,none,none,none,some sg_Z74,none,none,none,none,none,some sg_Z34,none,none,none,none,none,none,none,none,none,none,none,none,some sg_Z63,some sg_Z75,some sg_Z68,some sg_Z20,some sg_Z13,some sg_Z14,none,none,none,none,none,none,none,none,none,none,none,some sg_Z71,none,none,none,some sg_Z6,none,none,none,none,none,none,none,none,none,none,none,none,none,none,none,none,none,none,none,none,some sg_Z62,some sg_Z78,some sg_Z80,some sg_Z79,none,none,some sg_Z58,some sg_Z15,none,none,none,none,none,none,none,none,none,none,some sg_Z77,some sg_Z70,some sg_Z72,some sg_Z16,some sg_Z21,some sg_Z60,some sg_Z43,some sg_Z11,some sg_Z59,some sg_Z10,some sg_Z42,some sg_Z51,none,none,none,none,none,none,none,none,none,some sg_Z73,some sg_Z67,some sg_Z69,none,none,none,none,some sg_Z8,some sg_Z46,some sg_Z12,some sg_Z7,some sg_Z22,none,none,none,none,none,none,some sg_Z49,none,none,none,none,none,some sg_Z45,some sg_Z76,none,some sg_Z39,none,none,none,none,none,none,none,none,none,none,none,none,none,some sg_Z64,some sg_Z66,some sg_Z17,none,none,some sg_Z41,none,some sg_Z2,some sg_Z0,some sg_Z44,none,none,none,some sg_Z65,none,some sg_Z18,some sg_Z9,some sg_Z19,some sg_Z53,none,none,none,some sg_Z56,some sg_Z52,none,none,none,none,none,none,none,none,none,none,none,none,none,none,none,none,none,none,none,none,none,none,none,none,none,some sg_Z3,some sg_Z1,none,none,none,none,none,none,none,none,none,none,some sg_Z4,none,none,none,none,none,none,none,none,none,none,none,none,none,none,none,none,none,none,none,none,none,none]
noncomputable def fnL:List (Option (Func × Pol)) := [none,none,none,none,none,none,none,none,some (F_Z23,pol_Z23),none,none,some (F_Z33,pol_Z33),none,some (F_Z36,pol_Z36),none,some (F_Z26,pol_Z26),some (F_Z24,pol_Z24),some (F_Z30,pol_Z30),none,some (F_Z29,pol_Z29),none,some (F_Z37,pol_Z37),none,some (F_Z25,pol_Z25),some (F_Z31,pol_Z31),some (F_Z28,pol_Z28),none,none,none,none,none,none,none,none,none,none,none,none,none,some (F_Z61,pol_Z61),some (F_Z5,pol_Z5),some (F_Z27,pol_Z27),none,none,none,none,some (F_Z35,pol_Z35),none,none,some (F_Z38,pol_Z38),none,none,none,none,none,none,none,none,none,none,none,some (F_Z74,pol_Z74),none,none,none,none,none,some (F_Z34,pol_Z34),none,none,none,none,none,none,none,none,none,none,none,none,some (F_Z63,pol_Z63),some (F_Z75,pol_Z75),some (F_Z68,pol_Z68),some (F_Z20,pol_Z20),some (F_Z13,pol_Z13),some (F_Z14,pol_Z14),none,none,none,none,none,none,none,none,none,none,none,some (F_Z71,pol_Z71),none,none,none,some (F_Z6,pol_Z6),none,none,none,none,none,none,none,none,none,none,none,none,none,none,none,none,none,none,none,none,some (F_Z62,pol_Z62),some (F_Z78,pol_Z78),some (F_Z80,pol_Z80),some (F_Z79,pol_Z79),none,none,some (F_Z58,pol_Z58),some (F_Z15,pol_Z15),none,none,none,none,none,none,none,none,none,none,some (F_Z77,pol_Z77),some (F_Z70,pol_Z70),some (F_Z72,pol_Z72),some (F_Z16,pol_Z16),some (F_Z21,pol_Z21),none,none,some (F_Z11,pol_Z11),none,some (F_Z10,pol_Z10),none,some (F_Z51,pol_Z51),none,none,none,none,none,none,none,none,none,some (F_Z73,pol_Z73),some (F_Z67,pol_Z67),some (F_Z69,pol_Z69),none,none,none,none,some (F_Z8,pol_Z8),some (F_Z46,pol_Z46),some (F_Z12,pol_Z12),some (F_Z7,pol_Z7),some (F_Z22,pol_Z22),none,none,none,none,none,none,some (F_Z49,pol_Z49),none,none,none,none,none,some (F_Z45,pol_Z45),some (F_Z76,pol_Z76),none,some (F_Z39,pol_Z39),none,none,none,none,none,none,none,none,none,none,none,none,none,some (F_Z64,pol_Z64),some (F_Z66,pol_Z66),some (F_Z17,pol_Z17),none,none,some (F_Z41,pol_Z41),none,some (F_Z2,pol_Z2),some (F_Z0,pol_Z0),some (F_Z44,pol_Z44),none,none,none,some (F_Z65,pol_Z65),none,some (F_Z18,pol_Z18),some (F_Z9,pol_Z9),some (F_Z19,pol_Z19),some (F_Z53,pol_Z53),none,none,none,some (F_Z56,pol_Z56),none,none,none,none,none,none,none,none,none,none,none,none,none,none,none,none,none,none,none,none,none,none,none,none,none,none,some (F_Z3,pol_Z3),some (F_Z1,pol_Z1),none,none,none,none,none,none,none,none,none,none,some (F_Z4,pol_Z4),none,none,none,none,none,none,none,none,none,none,none,none,none,none,none,none,none,none,none,none,none,none]
noncomputable def primL:List (Option (Run → List Dv → Option Dv)) := [none,none,none,none,none,none,none,none,none,none,none,none,none,none,none,none,none,none,some (pMarkSS n_Z31),none,none,none,none,none,none,none,none,none,none,none,none,none,none,none,none,none,none,none,none,none,none,none,none,none,none,none,none,none,none,none,none,none,none,none,none,none,none,none,none,none,none,none,none,none,none,none,none,none,none,none,none,none,none,none,none,none,none,none,none,none,none,none,none,none,none,none,none,none,none,none,none,none,none,none,none,none,none,none,none,none,none,none,none,none,none,none,none,none,none,none,none,none,none,none,none,none,none,none,none,none,none,none,none,none,none,none,none,none,none,none,none,none,none,none,none,none,none,none,none,none,none,none,none,none,none,some pSortI,some pCompI,none,some (pSortF n_Z10),none,some (pCompG n_Z51),none,none,none,none,none,none,none,none,none,none,none,none,none,none,none,none,none,none,none,none,none,none,none,none,none,none,none,none,none,none,none,none,none,none,none,none,none,none,none,none,none,none,none,none,none,none,none,none,none,none,none,none,none,none,none,none,none,none,none,none,none,none,none,none,none,none,none,none,none,none,none,none,none,none,some (pGrow yI),none,none,none,none,none,none,none,none,none,none,none,none,none,none,none,none,none,none,none,none,none,none,none,none,none,none,none,none,none,none,none,none,none,none,none,none,none,none,none,none,none,none,none,none,none,none,none,none,none,none,none,none,none,none,none,none,none,none,none,none]
noncomputable def E:Env := { P := Tryz.prog,fn := fun f => fnL.getD f none,prim := fun f => primL.getD f none,sig := fun f => sigL.getD f none }
theorem sig_laws_FnExactMapImage_eq:E.sig n_Z23 = some sg_Z23 := rfl
theorem run_Z23 (n:Nat) (args:List Dv):run E (n + 1) n_Z23 args = evFn E (mkR (run E n)) sg_Z23 pol_Z23 F_Z23 n args := rfl
theorem sig_laws_szComplex_eq:E.sig n_Z33 = some sg_Z33 := rfl
theorem run_Z33 (n:Nat) (args:List Dv):run E (n + 1) n_Z33 args = evFn E (mkR (run E n)) sg_Z33 pol_Z33 F_Z33 n args := rfl
theorem sig_laws_toComplex_eq:E.sig n_Z36 = some sg_Z36 := rfl
theorem run_Z36 (n:Nat) (args:List Dv):run E (n + 1) n_Z36 args = evFn E (mkR (run E n)) sg_Z36 pol_Z36 F_Z36 n args := rfl
theorem sig_laws_eqInt64SS_eq:E.sig n_Z26 = some sg_Z26 := rfl
theorem run_Z26 (n:Nat) (args:List Dv):run E (n + 1) n_Z26 args = evFn E (mkR (run E n)) sg_Z26 pol_Z26 F_Z26 n args := rfl
theorem sig_laws_eqComplex_eq:E.sig n_Z24 = some sg_Z24 := rfl
theorem run_Z24 (n:Nat) (args:List Dv):run E (n + 1) n_Z24 args = evFn E (mkR (run E n)) sg_Z24 pol_Z24 F_Z24 n args := rfl
theorem sig_laws_markComplex_eq:E.sig n_Z30 = some sg_Z30 := rfl
theorem run_Z30 (n:Nat) (args:List Dv):run E (n + 1) n_Z30 args = evFn E (mkR (run E n)) sg_Z30 pol_Z30 F_Z30 n args := rfl
theorem sig_laws_markInt64SS_eq:E.sig n_Z32 = some sg_Z32 := rfl
theorem sig_laws_heldInt64SS_eq:E.sig n_Z29 = some sg_Z29 := rfl
theorem run_Z29 (n:Nat) (args:List Dv):run E (n + 1) n_Z29 args = evFn E (mkR (run E n)) sg_Z29 pol_Z29 F_Z29 n args := rfl
theorem sig_laws_toInt64S_eq:E.sig n_Z37 = some sg_Z37 := rfl
theorem run_Z37 (n:Nat) (args:List Dv):run E (n + 1) n_Z37 args = evFn E (mkR (run E n)) sg_Z37 pol_Z37 F_Z37 n args := rfl
theorem sig_laws_eqInt64S_eq:E.sig n_Z25 = some sg_Z25 := rfl
theorem run_Z25 (n:Nat) (args:List Dv):run E (n + 1) n_Z25 args = evFn E (mkR (run E n)) sg_Z25 pol_Z25 F_Z25 n args := rfl
theorem sig_laws_markInt64S_eq:E.sig n_Z31 = some sg_Z31 := rfl
theorem run_Z31 (n:Nat) (args:List Dv):run E (n + 1) n_Z31 args = evFn E (mkR (run E n)) sg_Z31 pol_Z31 F_Z31 n args := rfl
theorem sig_laws_heldInt64S_eq:E.sig n_Z28 = some sg_Z28 := rfl
theorem run_Z28 (n:Nat) (args:List Dv):run E (n + 1) n_Z28 args = evFn E (mkR (run E n)) sg_Z28 pol_Z28 F_Z28 n args := rfl
theorem sig_spec_MapImage_eq:E.sig n_Z61 = some sg_Z61 := rfl
theorem run_Z61 (n:Nat) (args:List Dv):run E (n + 1) n_Z61 args = evFn E (mkR (run E n)) sg_Z61 pol_Z61 F_Z61 n args := rfl
theorem sig_impl_MapImage_eq:E.sig n_Z5 = some sg_Z5 := rfl
theorem run_Z5 (n:Nat) (args:List Dv):run E (n + 1) n_Z5 args = evFn E (mkR (run E n)) sg_Z5 pol_Z5 F_Z5 n args := rfl
theorem sig_laws_heldComplex_eq:E.sig n_Z27 = some sg_Z27 := rfl
theorem run_Z27 (n:Nat) (args:List Dv):run E (n + 1) n_Z27 args = evFn E (mkR (run E n)) sg_Z27 pol_Z27 F_Z27 n args := rfl
theorem sig_laws_szInt64SS_eq:E.sig n_Z35 = some sg_Z35 := rfl
theorem run_Z35 (n:Nat) (args:List Dv):run E (n + 1) n_Z35 args = evFn E (mkR (run E n)) sg_Z35 pol_Z35 F_Z35 n args := rfl
theorem sig_laws_toInt64SS_eq:E.sig n_Z38 = some sg_Z38 := rfl
theorem run_Z38 (n:Nat) (args:List Dv):run E (n + 1) n_Z38 args = evFn E (mkR (run E n)) sg_Z38 pol_Z38 F_Z38 n args := rfl
theorem sig_spec_l08Ask_eq:E.sig n_Z74 = some sg_Z74 := rfl
theorem run_Z74 (n:Nat) (args:List Dv):run E (n + 1) n_Z74 args = evFn E (mkR (run E n)) sg_Z74 pol_Z74 F_Z74 n args := rfl
theorem sig_laws_szInt64S_eq:E.sig n_Z34 = some sg_Z34 := rfl
theorem run_Z34 (n:Nat) (args:List Dv):run E (n + 1) n_Z34 args = evFn E (mkR (run E n)) sg_Z34 pol_Z34 F_Z34 n args := rfl
theorem sig_spec_l00Own_eq:E.sig n_Z63 = some sg_Z63 := rfl
theorem run_Z63 (n:Nat) (args:List Dv):run E (n + 1) n_Z63 args = evFn E (mkR (run E n)) sg_Z63 pol_Z63 F_Z63 n args := rfl
theorem sig_spec_l08At_eq:E.sig n_Z75 = some sg_Z75 := rfl
theorem run_Z75 (n:Nat) (args:List Dv):run E (n + 1) n_Z75 args = evFn E (mkR (run E n)) sg_Z75 pol_Z75 F_Z75 n args := rfl
theorem sig_spec_l05Closure_eq:E.sig n_Z68 = some sg_Z68 := rfl
theorem run_Z68 (n:Nat) (args:List Dv):run E (n + 1) n_Z68 args = evFn E (mkR (run E n)) sg_Z68 pol_Z68 F_Z68 n args := rfl
theorem sig_impl_mapped_eq:E.sig n_Z20 = some sg_Z20 := rfl
theorem run_Z20 (n:Nat) (args:List Dv):run E (n + 1) n_Z20 args = evFn E (mkR (run E n)) sg_Z20 pol_Z20 F_Z20 n args := rfl
theorem sig_impl_imageOf_eq:E.sig n_Z13 = some sg_Z13 := rfl
theorem run_Z13 (n:Nat) (args:List Dv):run E (n + 1) n_Z13 args = evFn E (mkR (run E n)) sg_Z13 pol_Z13 F_Z13 n args := rfl
theorem sig_impl_inOrder_eq:E.sig n_Z14 = some sg_Z14 := rfl
theorem run_Z14 (n:Nat) (args:List Dv):run E (n + 1) n_Z14 args = evFn E (mkR (run E n)) sg_Z14 pol_Z14 F_Z14 n args := rfl
theorem sig_spec_l05Ok_eq:E.sig n_Z71 = some sg_Z71 := rfl
theorem run_Z71 (n:Nat) (args:List Dv):run E (n + 1) n_Z71 args = evFn E (mkR (run E n)) sg_Z71 pol_Z71 F_Z71 n args := rfl
theorem sig_impl_ValidComplex_eq:E.sig n_Z6 = some sg_Z6 := rfl
theorem run_Z6 (n:Nat) (args:List Dv):run E (n + 1) n_Z6 args = evFn E (mkR (run E n)) sg_Z6 pol_Z6 F_Z6 n args := rfl
theorem sig_spec_l00In_eq:E.sig n_Z62 = some sg_Z62 := rfl
theorem run_Z62 (n:Nat) (args:List Dv):run E (n + 1) n_Z62 args = evFn E (mkR (run E n)) sg_Z62 pol_Z62 F_Z62 n args := rfl
theorem sig_spec_l08Map_eq:E.sig n_Z78 = some sg_Z78 := rfl
theorem run_Z78 (n:Nat) (args:List Dv):run E (n + 1) n_Z78 args = evFn E (mkR (run E n)) sg_Z78 pol_Z78 F_Z78 n args := rfl
theorem sig_spec_l08Vertices_eq:E.sig n_Z80 = some sg_Z80 := rfl
theorem run_Z80 (n:Nat) (args:List Dv):run E (n + 1) n_Z80 args = evFn E (mkR (run E n)) sg_Z80 pol_Z80 F_Z80 n args := rfl
theorem sig_spec_l08Told_eq:E.sig n_Z79 = some sg_Z79 := rfl
theorem run_Z79 (n:Nat) (args:List Dv):run E (n + 1) n_Z79 args = evFn E (mkR (run E n)) sg_Z79 pol_Z79 F_Z79 n args := rfl
theorem sig_slices_Index_Sint64_int64_eq:E.sig n_Z58 = some sg_Z58 := rfl
theorem run_Z58 (n:Nat) (args:List Dv):run E (n + 1) n_Z58 args = evFn E (mkR (run E n)) sg_Z58 pol_Z58 F_Z58 n args := rfl
theorem sig_impl_indexOf_eq:E.sig n_Z15 = some sg_Z15 := rfl
theorem run_Z15 (n:Nat) (args:List Dv):run E (n + 1) n_Z15 args = evFn E (mkR (run E n)) sg_Z15 pol_Z15 F_Z15 n args := rfl
theorem sig_spec_l08Image_eq:E.sig n_Z77 = some sg_Z77 := rfl
theorem run_Z77 (n:Nat) (args:List Dv):run E (n + 1) n_Z77 args = evFn E (mkR (run E n)) sg_Z77 pol_Z77 F_Z77 n args := rfl
theorem sig_spec_l05Find_eq:E.sig n_Z70 = some sg_Z70 := rfl
theorem run_Z70 (n:Nat) (args:List Dv):run E (n + 1) n_Z70 args = evFn E (mkR (run E n)) sg_Z70 pol_Z70 F_Z70 n args := rfl
theorem sig_spec_l05Put_eq:E.sig n_Z72 = some sg_Z72 := rfl
theorem run_Z72 (n:Nat) (args:List Dv):run E (n + 1) n_Z72 args = evFn E (mkR (run E n)) sg_Z72 pol_Z72 F_Z72 n args := rfl
theorem sig_impl_isMap_eq:E.sig n_Z16 = some sg_Z16 := rfl
theorem run_Z16 (n:Nat) (args:List Dv):run E (n + 1) n_Z16 args = evFn E (mkR (run E n)) sg_Z16 pol_Z16 F_Z16 n args := rfl
theorem sig_impl_verticesOf_eq:E.sig n_Z21 = some sg_Z21 := rfl
theorem run_Z21 (n:Nat) (args:List Dv):run E (n + 1) n_Z21 args = evFn E (mkR (run E n)) sg_Z21 pol_Z21 F_Z21 n args := rfl
theorem sig_slices_Sort_Sint64_int64_eq:E.sig n_Z60 = some sg_Z60 := rfl
theorem sig_slices_Compact_Sint64_int64_eq:E.sig n_Z43 = some sg_Z43 := rfl
theorem sig_impl_copyLists_eq:E.sig n_Z11 = some sg_Z11 := rfl
theorem run_Z11 (n:Nat) (args:List Dv):run E (n + 1) n_Z11 args = evFn E (mkR (run E n)) sg_Z11 pol_Z11 F_Z11 n args := rfl
theorem sig_slices_SortFunc_SSint64_Sint64_eq:E.sig n_Z59 = some sg_Z59 := rfl
theorem sig_impl_compareSimplices_eq:E.sig n_Z10 = some sg_Z10 := rfl
theorem run_Z10 (n:Nat) (args:List Dv):run E (n + 1) n_Z10 args = evFn E (mkR (run E n)) sg_Z10 pol_Z10 F_Z10 n args := rfl
theorem sig_slices_CompactFunc_SSint64_Sint64_eq:E.sig n_Z42 = some sg_Z42 := rfl
theorem sig_slices_Equal_Sint64_int64_eq:E.sig n_Z51 = some sg_Z51 := rfl
theorem run_Z51 (n:Nat) (args:List Dv):run E (n + 1) n_Z51 args = evFn E (mkR (run E n)) sg_Z51 pol_Z51 F_Z51 n args := rfl
theorem sig_spec_l05Simplex_eq:E.sig n_Z73 = some sg_Z73 := rfl
theorem run_Z73 (n:Nat) (args:List Dv):run E (n + 1) n_Z73 args = evFn E (mkR (run E n)) sg_Z73 pol_Z73 F_Z73 n args := rfl
theorem sig_spec_l05Before_eq:E.sig n_Z67 = some sg_Z67 := rfl
theorem run_Z67 (n:Nat) (args:List Dv):run E (n + 1) n_Z67 args = evFn E (mkR (run E n)) sg_Z67 pol_Z67 F_Z67 n args := rfl
theorem sig_spec_l05Drop_eq:E.sig n_Z69 = some sg_Z69 := rfl
theorem run_Z69 (n:Nat) (args:List Dv):run E (n + 1) n_Z69 args = evFn E (mkR (run E n)) sg_Z69 pol_Z69 F_Z69 n args := rfl
theorem sig_impl_ValidSimplex_eq:E.sig n_Z8 = some sg_Z8 := rfl
theorem run_Z8 (n:Nat) (args:List Dv):run E (n + 1) n_Z8 args = evFn E (mkR (run E n)) sg_Z8 pol_Z8 F_Z8 n args := rfl
theorem sig_slices_ContainsFunc_SSint64_Sint64_eq:E.sig n_Z46 = some sg_Z46 := rfl
theorem run_Z46 (n:Nat) (args:List Dv):run E (n + 1) n_Z46 args = evFn E (mkR (run E n)) sg_Z46 pol_Z46 F_Z46 n args := rfl
theorem sig_impl_facesOf_eq:E.sig n_Z12 = some sg_Z12 := rfl
theorem run_Z12 (n:Nat) (args:List Dv):run E (n + 1) n_Z12 args = evFn E (mkR (run E n)) sg_Z12 pol_Z12 F_Z12 n args := rfl
theorem sig_impl_ValidComplex_1_eq:E.sig n_Z7 = some sg_Z7 := rfl
theorem run_Z7 (n:Nat) (args:List Dv):run E (n + 1) n_Z7 args = evFn E (mkR (run E n)) sg_Z7 pol_Z7 F_Z7 n args := rfl
theorem sig_impl_within_eq:E.sig n_Z22 = some sg_Z22 := rfl
theorem run_Z22 (n:Nat) (args:List Dv):run E (n + 1) n_Z22 args = evFn E (mkR (run E n)) sg_Z22 pol_Z22 F_Z22 n args := rfl
theorem sig_slices_ContainsFunc_Sint64_int64_eq:E.sig n_Z49 = some sg_Z49 := rfl
theorem run_Z49 (n:Nat) (args:List Dv):run E (n + 1) n_Z49 args = evFn E (mkR (run E n)) sg_Z49 pol_Z49 F_Z49 n args := rfl
theorem sig_slices_Concat_Sint64_int64_eq:E.sig n_Z45 = some sg_Z45 := rfl
theorem run_Z45 (n:Nat) (args:List Dv):run E (n + 1) n_Z45 args = evFn E (mkR (run E n)) sg_Z45 pol_Z45 F_Z45 n args := rfl
theorem sig_spec_l08Fits_eq:E.sig n_Z76 = some sg_Z76 := rfl
theorem run_Z76 (n:Nat) (args:List Dv):run E (n + 1) n_Z76 args = evFn E (mkR (run E n)) sg_Z76 pol_Z76 F_Z76 n args := rfl
theorem sig_slices_BinarySearchFunc_SSint64_Sint64_Sint64_eq:E.sig n_Z39 = some sg_Z39 := rfl
theorem run_Z39 (n:Nat) (args:List Dv):run E (n + 1) n_Z39 args = evFn E (mkR (run E n)) sg_Z39 pol_Z39 F_Z39 n args := rfl
theorem sig_spec_l00Put_eq:E.sig n_Z64 = some sg_Z64 := rfl
theorem run_Z64 (n:Nat) (args:List Dv):run E (n + 1) n_Z64 args = evFn E (mkR (run E n)) sg_Z64 pol_Z64 F_Z64 n args := rfl
theorem sig_spec_l00Same_eq:E.sig n_Z66 = some sg_Z66 := rfl
theorem run_Z66 (n:Nat) (args:List Dv):run E (n + 1) n_Z66 args = evFn E (mkR (run E n)) sg_Z66 pol_Z66 F_Z66 n args := rfl
theorem sig_impl_isMap_1_eq:E.sig n_Z17 = some sg_Z17 := rfl
theorem run_Z17 (n:Nat) (args:List Dv):run E (n + 1) n_Z17 args = evFn E (mkR (run E n)) sg_Z17 pol_Z17 F_Z17 n args := rfl
theorem sig_slices_Clone_Sint64_int64_eq:E.sig n_Z41 = some sg_Z41 := rfl
theorem run_Z41 (n:Nat) (args:List Dv):run E (n + 1) n_Z41 args = evFn E (mkR (run E n)) sg_Z41 pol_Z41 F_Z41 n args := rfl
theorem sig_cmp_Or_int_eq:E.sig n_Z2 = some sg_Z2 := rfl
theorem run_Z2 (n:Nat) (args:List Dv):run E (n + 1) n_Z2 args = evFn E (mkR (run E n)) sg_Z2 pol_Z2 F_Z2 n args := rfl
theorem sig_cmp_Compare_int_eq:E.sig n_Z0 = some sg_Z0 := rfl
theorem run_Z0 (n:Nat) (args:List Dv):run E (n + 1) n_Z0 args = evFn E (mkR (run E n)) sg_Z0 pol_Z0 F_Z0 n args := rfl
theorem sig_slices_Compare_Sint64_int64_eq:E.sig n_Z44 = some sg_Z44 := rfl
theorem run_Z44 (n:Nat) (args:List Dv):run E (n + 1) n_Z44 args = evFn E (mkR (run E n)) sg_Z44 pol_Z44 F_Z44 n args := rfl
theorem sig_spec_l00Rises_eq:E.sig n_Z65 = some sg_Z65 := rfl
theorem run_Z65 (n:Nat) (args:List Dv):run E (n + 1) n_Z65 args = evFn E (mkR (run E n)) sg_Z65 pol_Z65 F_Z65 n args := rfl
theorem sig_impl_isRising_eq:E.sig n_Z18 = some sg_Z18 := rfl
theorem run_Z18 (n:Nat) (args:List Dv):run E (n + 1) n_Z18 args = evFn E (mkR (run E n)) sg_Z18 pol_Z18 F_Z18 n args := rfl
theorem sig_impl_ValidSimplex_1_eq:E.sig n_Z9 = some sg_Z9 := rfl
theorem run_Z9 (n:Nat) (args:List Dv):run E (n + 1) n_Z9 args = evFn E (mkR (run E n)) sg_Z9 pol_Z9 F_Z9 n args := rfl
theorem sig_impl_isVertex_eq:E.sig n_Z19 = some sg_Z19 := rfl
theorem run_Z19 (n:Nat) (args:List Dv):run E (n + 1) n_Z19 args = evFn E (mkR (run E n)) sg_Z19 pol_Z19 F_Z19 n args := rfl
theorem sig_slices_IndexFunc_SSint64_Sint64_eq:E.sig n_Z53 = some sg_Z53 := rfl
theorem run_Z53 (n:Nat) (args:List Dv):run E (n + 1) n_Z53 args = evFn E (mkR (run E n)) sg_Z53 pol_Z53 F_Z53 n args := rfl
theorem sig_slices_IndexFunc_Sint64_int64_eq:E.sig n_Z56 = some sg_Z56 := rfl
theorem run_Z56 (n:Nat) (args:List Dv):run E (n + 1) n_Z56 args = evFn E (mkR (run E n)) sg_Z56 pol_Z56 F_Z56 n args := rfl
theorem sig_slices_Grow_Sint64_int64_eq:E.sig n_Z52 = some sg_Z52 := rfl
theorem sig_cmp_isNaN_int_eq:E.sig n_Z3 = some sg_Z3 := rfl
theorem run_Z3 (n:Nat) (args:List Dv):run E (n + 1) n_Z3 args = evFn E (mkR (run E n)) sg_Z3 pol_Z3 F_Z3 n args := rfl
theorem sig_cmp_Compare_int64_eq:E.sig n_Z1 = some sg_Z1 := rfl
theorem run_Z1 (n:Nat) (args:List Dv):run E (n + 1) n_Z1 args = evFn E (mkR (run E n)) sg_Z1 pol_Z1 F_Z1 n args := rfl
theorem sig_cmp_isNaN_int64_eq:E.sig n_Z4 = some sg_Z4 := rfl
theorem run_Z4 (n:Nat) (args:List Dv):run E (n + 1) n_Z4 args = evFn E (mkR (run E n)) sg_Z4 pol_Z4 F_Z4 n args := rfl
@[reducible] noncomputable def eC (R:Run) (q:Pol) (N:Nat) (l:List Nat) (F:Func) := evCode E R q N (sub l (bodyOf F))
@[reducible] noncomputable def kB (R:Run) (q:Pol) (k:Nat) (K:Kt) := kBlk (maskAt R q.blkM k) k K
@[reducible] noncomputable def kS (R:Run) (q:Pol) (k N:Nat) (l:List Nat) (F:Func) (K:Kt) := kSeq (maskAt R q.seqM k) (evCode E R q N (sub l (bodyOf F))) K
@[reducible] noncomputable def kL (R:Run) (q:Pol) (k N:Nat) (l:List Nat) (F:Func) (n:Nat) (K:Kt) := kLoop (evCode E R q N (sub l (bodyOf F))) (maskAt R q.loopM k) n K
@[reducible] noncomputable def lC (R:Run) (q:Pol) (k N:Nat) (l:List Nat) (F:Func) (n:Nat) (s:Ve.St) (K:Kt) := loopC (evCode E R q N (sub l (bodyOf F))) (maskAt R q.loopM k) n s K
end VeT

open Go Go.Proofs Ve
set_option linter.unusedVariables false
set_option maxRecDepth 100000
namespace VeT
@[reducible] noncomputable def q0_0 (R:Run) (N:Nat):=kS R pol_Z71 5 N [1,1,0,1,0,0,1,1] F_Z71
@[reducible] noncomputable def q0_1 (R:Run) (N:Nat):=kS R pol_Z71 14 N [1,1,1] F_Z71
@[reducible] noncomputable def q0_2 (R:Run) (N:Nat):=kS R pol_Z64 11 N [1,1,1,1] F_Z64
@[reducible] noncomputable def q0_3 (R:Run) (N:Nat):=kS R pol_Z53 7 N [1,1] F_Z53
@[reducible] noncomputable def q0_4 (R:Run) (N:Nat):=kL R pol_Z71 4 N [1,1,0,1,0,0] F_Z71
@[reducible] noncomputable def q0_5 (R:Run) (N:Nat):=lC R pol_Z53 2 N [1,0,1,0,0] F_Z53
theorem Z34.ev (R:Run) (N:Nat) (a0:(List Int)) (a1:Int):evFn E R sg_Z34 pol_Z34 F_Z34 N [⟨yL,a0⟩,⟨yI,a1⟩] = (bif (decide ((w64 (a1 - (List.length a0:Int))) < (0:Int))) then some ⟨o_Z34,((-1:Int),())⟩ else some ⟨o_Z34,((w64 (a1 - (List.length a0:Int))),())⟩) := by kernel_rfl
noncomputable def Z35.l0 (R:Run) (N n:Nat) (a:vK) (b e:Int):Option Dv := R.w (some ⟨(.c (.d yK a)::(.c (.d yI b)::(zd 3 (.c (.d yI e)::(zd 21 []))))),(zo 29 [])⟩) fun st => lC R pol_Z35 5 N [1,1,1,0,1,0,0] F_Z35 n st (kB R pol_Z35 0 (kS R pol_Z35 10 N [1,1,1,1] F_Z35 (kTop E sg_Z35 F_Z35)))
theorem Z35.l0_succ (R:Run) (hw:R.ok) (N n:Nat) (a:vK) (b c:Int):Z35.l0 R N (n + 1) a b c = (bif (decide (c < (List.length a:Int))) then ((idx? a c).bind fun y4 => ((callT R n_Z34 o_Z34 [⟨yL,(y4,()).1⟩,⟨yI,b⟩]).bind fun r5 => (bif (decide (r5.1 < (0:Int))) then some ⟨o_Z35,((-1:Int),())⟩ else (Z35.l0 R N n a r5.1 (w64 (c + (1:Int))))))) else some ⟨o_Z35,(b,())⟩) := (hw _ _).trans (by kernel_rfl)
theorem Z35.ev (R:Run) (N:Nat) (a0:vK) (a1:Int):evFn E R sg_Z35 pol_Z35 F_Z35 N [⟨yK,a0⟩,⟨yI,a1⟩] = (bif (decide ((w64 (a1 - (List.length a0:Int))) < (0:Int))) then some ⟨o_Z35,((-1:Int),())⟩ else (Z35.l0 R N N a0 (w64 (a1 - (List.length a0:Int))) (0:Int))) := by kernel_rfl
theorem Z33.ev (R:Run) (N:Nat) (a0:vK) (a1:Int):evFn E R sg_Z33 pol_Z33 F_Z33 N [⟨yK,a0⟩,⟨yI,a1⟩] = ((callT R n_Z35 o_Z35 [⟨yK,a0⟩,⟨yI,a1⟩]).bind fun r1 => (bif (decide (r1.1 < (0:Int))) then some ⟨o_Z33,((-1:Int),())⟩ else some ⟨o_Z33,(r1.1,())⟩)) := by kernel_rfl
noncomputable def Z37.l0 (R:Run) (N n:Nat) (a:(List Int)) (b:Int) (e:(List Int)):Option Dv := R.w (some ⟨(.c (.d yL a)::(V.dead::(V.dead::(.c (.arr 7)::(.c (.d yI b)::(zd 17 [])))))),(zo 7 (some (.arr yI e true false false)::(zo 15 [])))⟩) fun st => lC R pol_Z37 3 N [1,1,0,1,0,0] F_Z37 n st (kB R pol_Z37 0 (kS R pol_Z37 6 N [1,1,1] F_Z37 (kTop E sg_Z37 F_Z37)))
theorem Z37.l0_succ (R:Run) (hw:R.ok) (N n:Nat) (a:(List Int)) (b:Int) (c:(List Int)):Z37.l0 R N (n + 1) a b c = (bif (decide (b < (List.length a:Int))) then ((idx? a b).bind fun y4 => ((chk (decide (0 ≤ b) && decide (b < (List.length c:Int)))).bind fun _ => (Z37.l0 R N n a (w64 (b + (1:Int))) (List.set c (Int.toNat b) (y4,()).1)))) else some ⟨o_Z37,(c,())⟩) := (hw _ _).trans (by kernel_rfl)
theorem Z37.ev (R:Run) (N:Nat) (a0:(List Int)):evFn E R sg_Z37 pol_Z37 F_Z37 N [⟨yL,a0⟩] = ((chk (decide (0 ≤ (List.length a0:Int)) && decide ((List.length a0:Int) * 8 ≤ 70368744177664))).bind fun _ => (Z37.l0 R N N a0 (0:Int) (List.replicate (Int.toNat (List.length a0:Int)) (0:Int)))) := by kernel_rfl
noncomputable def Z38.l0 (R:Run) (N n:Nat) (a:vK) (b:Int) (e:vK):Option Dv := R.w (some ⟨(.c (.d yK a)::(V.dead::(V.dead::(.c (.arr 7)::(.c (.d yI b)::(zd 18 [])))))),(zo 7 (some (.arr yL e true false false)::(zo 17 [])))⟩) fun st => lC R pol_Z38 3 N [1,1,0,1,0,0] F_Z38 n st (kB R pol_Z38 0 (kS R pol_Z38 6 N [1,1,1] F_Z38 (kTop E sg_Z38 F_Z38)))
theorem Z38.l0_succ (R:Run) (hw:R.ok) (N n:Nat) (a:vK) (b:Int) (c:vK):Z38.l0 R N (n + 1) a b c = (bif (decide (b < (List.length a:Int))) then ((idx? a b).bind fun y4 => ((callT R n_Z37 o_Z37 [⟨yL,(y4,()).1⟩]).bind fun r5 => ((chk (decide (0 ≤ b) && decide (b < (List.length c:Int)))).bind fun _ => (Z38.l0 R N n a (w64 (b + (1:Int))) (List.set c (Int.toNat b) r5.1))))) else some ⟨o_Z38,(c,())⟩) := (hw _ _).trans (by kernel_rfl)
theorem Z38.ev (R:Run) (N:Nat) (a0:vK):evFn E R sg_Z38 pol_Z38 F_Z38 N [⟨yK,a0⟩] = ((chk (decide (0 ≤ (List.length a0:Int)) && decide ((List.length a0:Int) * 24 ≤ 70368744177664))).bind fun _ => (Z38.l0 R N N a0 (0:Int) (List.replicate (Int.toNat (List.length a0:Int)) ([]:List Int)))) := by kernel_rfl
theorem Z36.ev (R:Run) (N:Nat) (a0:vK):evFn E R sg_Z36 pol_Z36 F_Z36 N [⟨yK,a0⟩] = ((callT R n_Z38 o_Z38 [⟨yK,a0⟩]).bind fun r1 => some ⟨o_Z36,(r1.1,())⟩) := by kernel_rfl
theorem Z62.ev (R:Run) (N:Nat) (a0 a1 a2:Int):evFn E R sg_Z62 pol_Z62 F_Z62 N [⟨yI,a0⟩,⟨yI,a1⟩,⟨yI,a2⟩] = (bif (decide (a0 ≥ a1)) then some ⟨o_Z62,((decide (a0 ≤ a2)),())⟩ else some ⟨o_Z62,(false,())⟩) := by kernel_rfl
noncomputable def Z65.j1 (R:Run) (N a:Nat) (b:(List Int)) (e f g:Int) (h:Bool):Option Dv := R.w (some ⟨(.c (.d yL b)::(.c (.d yI e)::(.c (.d yI f)::(zd 4 (.c (.d yI g)::(zd 29 (.c (.d .bool h)::[]))))))),(zo 41 [])⟩) fun st => eC R pol_Z65 N [1,0,1,0,0,1,0,0,1] F_Z65 st (kB R pol_Z65 1 (kS R pol_Z65 3 N [1,0,1,0,0,1,1] F_Z65 (kL R pol_Z65 2 N [1,0,1,0,0] F_Z65 a (kB R pol_Z65 0 (kS R pol_Z65 6 N [1,1] F_Z65 (kTop E sg_Z65 F_Z65))))))
noncomputable def Z65.l0 (R:Run) (N n:Nat) (a:(List Int)) (b e f:Int):Option Dv := R.w (some ⟨(.c (.d yL a)::(.c (.d yI b)::(.c (.d yI e)::(zd 4 (.c (.d yI f)::(zd 30 [])))))),(zo 41 [])⟩) fun st => lC R pol_Z65 2 N [1,0,1,0,0] F_Z65 n st (kB R pol_Z65 0 (kS R pol_Z65 6 N [1,1] F_Z65 (kTop E sg_Z65 F_Z65)))
theorem Z65.j1_eq (R:Run) (hw:R.ok) (N a:Nat) (b:(List Int)) (c d e:Int) (f:Bool):Z65.j1 R N a b c d e f = (bif f then some ⟨o_Z65,(false,())⟩ else (Z65.l0 R N a b c d (w64 (e + (1:Int))))) := (hw _ _).trans (by kernel_rfl)
theorem Z65.l0_succ (R:Run) (hw:R.ok) (N n:Nat) (a:(List Int)) (b c d:Int):Z65.l0 R N (n + 1) a b c d = (bif (decide (d < (List.length a:Int))) then ((idx? a d).bind fun y5 => ((callT R n_Z62 o_Z62 [⟨yI,(y5,()).1⟩,⟨yI,b⟩,⟨yI,c⟩]).bind fun r6 => (bif (!r6.1) then (Z65.j1 R N n a b c d true) else (bif (decide (d > (0:Int))) then ((idx? a (w64 (d - (1:Int)))).bind fun y16 => ((idx? a d).bind fun y17 => (Z65.j1 R N n a b c d (decide ((y16,()).1 ≥ (y17,()).1))))) else (Z65.j1 R N n a b c d false))))) else some ⟨o_Z65,(true,())⟩) := (hw _ _).trans (by kernel_rfl)
theorem Z65.ev (R:Run) (N:Nat) (a0:(List Int)) (a1 a2:Int):evFn E R sg_Z65 pol_Z65 F_Z65 N [⟨yL,a0⟩,⟨yI,a1⟩,⟨yI,a2⟩] = (Z65.l0 R N N a0 a1 a2 (0:Int)) := by kernel_rfl
theorem Z73.ev (R:Run) (N:Nat) (a0:(List Int)):evFn E R sg_Z73 pol_Z73 F_Z73 N [⟨yL,a0⟩] = ((callT R n_Z62 o_Z62 [⟨yI,(List.length a0:Int)⟩,⟨yI,(1:Int)⟩,⟨yI,(4:Int)⟩]).bind fun r1 => (bif r1.1 then ((callT R n_Z65 o_Z65 [⟨yL,a0⟩,⟨yI,(0:Int)⟩,⟨yI,(9:Int)⟩]).bind fun r2 => some ⟨o_Z73,(r2.1,())⟩) else some ⟨o_Z73,(false,())⟩)) := by kernel_rfl
noncomputable def Z67.l0 (R:Run) (N n:Nat) (a b:(List Int)) (e:Int):Option Dv := R.w (some ⟨(.c (.d yL a)::(.c (.d yL b)::(zd 3 (.c (.d yI e)::(zd 34 []))))),(zo 42 [])⟩) fun st => lC R pol_Z67 4 N [1,1,0,1,0,0] F_Z67 n st (kB R pol_Z67 0 (kS R pol_Z67 8 N [1,1,1] F_Z67 (kTop E sg_Z67 F_Z67)))
theorem Z67.l0_succ (R:Run) (hw:R.ok) (N n:Nat) (a b:(List Int)) (c:Int):Z67.l0 R N (n + 1) a b c = (bif (decide (c < (List.length a:Int))) then ((idx? a c).bind fun y4 => ((idx? b c).bind fun y5 => (bif ((y4,()).1 != (y5,()).1) then ((idx? a c).bind fun y6 => ((idx? b c).bind fun y7 => some ⟨o_Z67,((decide ((y6,()).1 < (y7,()).1)),())⟩)) else (Z67.l0 R N n a b (w64 (c + (1:Int))))))) else some ⟨o_Z67,(false,())⟩) := (hw _ _).trans (by kernel_rfl)
theorem Z67.ev (R:Run) (N:Nat) (a0 a1:(List Int)):evFn E R sg_Z67 pol_Z67 F_Z67 N [⟨yL,a0⟩,⟨yL,a1⟩] = (bif ((List.length a0:Int) != (List.length a1:Int)) then some ⟨o_Z67,((decide ((List.length a0:Int) < (List.length a1:Int))),())⟩ else (Z67.l0 R N N a0 a1 (0:Int))) := by kernel_rfl
theorem Z63.ev (R:Run) (N:Nat) (a0:(List Int)):evFn E R sg_Z63 pol_Z63 F_Z63 N [⟨yL,a0⟩] = ((chk (decide ((List.length ([]:List Int) + List.length a0) * 8 ≤ 70368744177664))).bind fun _ => some ⟨o_Z63,((([]:List Int) ++ a0),())⟩) := by kernel_rfl
theorem Z69.ev (R:Run) (N:Nat) (a0:(List Int)) (a1:Int):evFn E R sg_Z69 pol_Z69 F_Z69 N [⟨yL,a0⟩,⟨yI,a1⟩] = ((chk (decide (0 ≤ a1) && decide (a1 ≤ (List.length a0:Int)))).bind fun _ => ((callT R n_Z63 o_Z63 [⟨yL,(List.take (Int.toNat a1) a0)⟩]).bind fun r1 => ((chk (decide (0 ≤ (w64 (a1 + (1:Int)))) && decide ((w64 (a1 + (1:Int))) ≤ (List.length a0:Int)))).bind fun _ => ((chk (decide ((List.length r1.1 + List.length (List.drop (Int.toNat (w64 (a1 + (1:Int)))) a0)) * 8 ≤ 70368744177664))).bind fun _ => some ⟨o_Z69,((r1.1 ++ (List.drop (Int.toNat (w64 (a1 + (1:Int)))) a0)),())⟩)))) := by kernel_rfl
noncomputable def Z66.l0 (R:Run) (N n:Nat) (a b:(List Int)) (e:Int):Option Dv := R.w (some ⟨(.c (.d yL a)::(.c (.d yL b)::(zd 3 (.c (.d yI e)::(zd 20 []))))),(zo 28 [])⟩) fun st => lC R pol_Z66 4 N [1,1,0,1,0,0] F_Z66 n st (kB R pol_Z66 0 (kS R pol_Z66 8 N [1,1,1] F_Z66 (kTop E sg_Z66 F_Z66)))
theorem Z66.l0_succ (R:Run) (hw:R.ok) (N n:Nat) (a b:(List Int)) (c:Int):Z66.l0 R N (n + 1) a b c = (bif (decide (c < (List.length a:Int))) then ((idx? a c).bind fun y4 => ((idx? b c).bind fun y5 => (bif ((y4,()).1 != (y5,()).1) then some ⟨o_Z66,(false,())⟩ else (Z66.l0 R N n a b (w64 (c + (1:Int))))))) else some ⟨o_Z66,(true,())⟩) := (hw _ _).trans (by kernel_rfl)
theorem Z66.ev (R:Run) (N:Nat) (a0 a1:(List Int)):evFn E R sg_Z66 pol_Z66 F_Z66 N [⟨yL,a0⟩,⟨yL,a1⟩] = (bif ((List.length a0:Int) != (List.length a1:Int)) then some ⟨o_Z66,(false,())⟩ else (Z66.l0 R N N a0 a1 (0:Int))) := by kernel_rfl
noncomputable def Z70.l0 (R:Run) (N n:Nat) (a:(vK × Unit)) (b:(List Int)) (e:Int):Option Dv := R.w (some ⟨(.c (.ip (.cons yK .nil) a 0)::(.c (.d yL b)::(zd 3 (.c (.d yI e)::(zd 19 []))))),(zo 27 [])⟩) fun st => lC R pol_Z70 2 N [1,0,1,0,0] F_Z70 n st (kB R pol_Z70 0 (kS R pol_Z70 6 N [1,1] F_Z70 (kTop E sg_Z70 F_Z70)))
theorem Z70.l0_succ (R:Run) (hw:R.ok) (N n:Nat) (a:(vK × Unit)) (b:(List Int)) (c:Int):Z70.l0 R N (n + 1) a b c = (bif (decide (c < (List.length a.1:Int))) then ((idx? a.1 c).bind fun y4 => ((callT R n_Z66 o_Z66 [⟨yL,(y4,()).1⟩,⟨yL,b⟩]).bind fun r5 => (bif r5.1 then some ⟨o_Z70,(c,())⟩ else (Z70.l0 R N n a b (w64 (c + (1:Int))))))) else some ⟨o_Z70,((-1:Int),())⟩) := (hw _ _).trans (by kernel_rfl)
theorem Z70.ev (R:Run) (N:Nat) (a0:(vK × Unit)) (a1:(List Int)):evFn E R sg_Z70 pol_Z70 F_Z70 N [⟨(.ptr (.cons yK .nil)),a0⟩,⟨yL,a1⟩] = (Z70.l0 R N N a0 a1 (0:Int)) := by kernel_rfl
noncomputable def Z71.j3 (R:Run) (N a b:Nat) (e:(vK × Unit)) (f:Int) (g:(List Int)) (h:Int) (i:Bool):Option Dv := R.w (some ⟨(.c (.ip (.cons yK .nil) e 0)::(V.dead::(V.dead::(.c (.d yI f)::(.c (.d yL g)::(.c (.d yI h)::(zd 50 (.c (.d .bool i)::(zd 8 []))))))))),(zo 66 [])⟩) fun st => eC R pol_Z71 N [1,1,0,1,0,0,1,0,0,1,1,1,0,0,0,1] F_Z71 st (kS R pol_Z71 12 N [1,1,0,1,0,0,1,0,0,1,1,1,0,0,1] F_Z71 (kL R pol_Z71 10 N [1,1,0,1,0,0,1,0,0,1,1,1,0,0] F_Z71 b (kB R pol_Z71 2 (kB R pol_Z71 1 (q0_0 R N (q0_4 R N a (kB R pol_Z71 0 (q0_1 R N (kTop E sg_Z71 F_Z71)))))))))
noncomputable def Z71.l2 (R:Run) (N a n:Nat) (b:(vK × Unit)) (e:Int) (f:(List Int)) (g:Int):Option Dv := R.w (some ⟨(.c (.ip (.cons yK .nil) b 0)::(V.dead::(V.dead::(.c (.d yI e)::(.c (.d yL f)::(.c (.d yI g)::(zd 59 []))))))),(zo 66 [])⟩) fun st => lC R pol_Z71 10 N [1,1,0,1,0,0,1,0,0,1,1,1,0,0] F_Z71 n st (kB R pol_Z71 2 (kB R pol_Z71 1 (q0_0 R N (q0_4 R N a (kB R pol_Z71 0 (q0_1 R N (kTop E sg_Z71 F_Z71)))))))
noncomputable def Z71.j1 (R:Run) (N a:Nat) (b:(vK × Unit)) (e:Int) (f:(List Int)) (g:Bool):Option Dv := R.w (some ⟨(.c (.ip (.cons yK .nil) b 0)::(V.dead::(V.dead::(.c (.d yI e)::(.c (.d yL f)::(zd 42 (.c (.d .bool g)::(zd 17 [])))))))),(zo 66 [])⟩) fun st => eC R pol_Z71 N [1,1,0,1,0,0,1,0,0,1,0,1] F_Z71 st (kS R pol_Z71 9 N [1,1,0,1,0,0,1,0,0,1,1] F_Z71 (kB R pol_Z71 1 (q0_0 R N (q0_4 R N a (kB R pol_Z71 0 (q0_1 R N (kTop E sg_Z71 F_Z71)))))))
noncomputable def Z71.l0 (R:Run) (N n:Nat) (a:(vK × Unit)) (b:Int):Option Dv := R.w (some ⟨(.c (.ip (.cons yK .nil) a 0)::(V.dead::(V.dead::(.c (.d yI b)::(zd 61 []))))),(zo 66 [])⟩) fun st => lC R pol_Z71 4 N [1,1,0,1,0,0] F_Z71 n st (kB R pol_Z71 0 (q0_1 R N (kTop E sg_Z71 F_Z71)))
theorem Z71.j3_eq (R:Run) (hw:R.ok) (N a b:Nat) (c:(vK × Unit)) (d:Int) (e:(List Int)) (f:Int) (g:Bool):Z71.j3 R N a b c d e f g = (bif g then ((callT R n_Z69 o_Z69 [⟨yL,e⟩,⟨yI,f⟩]).bind fun r18 => ((callT R n_Z70 o_Z70 [⟨(.ptr (.cons yK .nil)),c⟩,⟨yL,r18.1⟩]).bind fun r19 => (bif (decide (r19.1 < (0:Int))) then some ⟨o_Z71,(false,())⟩ else (Z71.l2 R N a b c d e (w64 (f + (1:Int))))))) else (Z71.l0 R N a c (w64 (d + (1:Int))))) := (hw _ _).trans (by kernel_rfl)
theorem Z71.l2_succ (R:Run) (hw:R.ok) (N a n:Nat) (b:(vK × Unit)) (c:Int) (d:(List Int)) (e:Int):Z71.l2 R N a (n + 1) b c d e = (bif (decide (e < (List.length d:Int))) then (Z71.j3 R N a n b c d e (decide ((List.length d:Int) > (1:Int)))) else (Z71.j3 R N a n b c d e false)) := (hw _ _).trans (by kernel_rfl)
theorem Z71.j1_eq (R:Run) (hw:R.ok) (N a:Nat) (b:(vK × Unit)) (c:Int) (d:(List Int)) (e:Bool):Z71.j1 R N a b c d e = (bif e then some ⟨o_Z71,(false,())⟩ else (Z71.l2 R N a N b c d (0:Int))) := (hw _ _).trans (by kernel_rfl)
theorem Z71.l0_succ (R:Run) (hw:R.ok) (N n:Nat) (a:(vK × Unit)) (b:Int):Z71.l0 R N (n + 1) a b = (bif (decide (b < (List.length a.1:Int))) then ((idx? a.1 b).bind fun y3 => ((callT R n_Z73 o_Z73 [⟨yL,(y3,()).1⟩]).bind fun r4 => (bif (!r4.1) then (Z71.j1 R N n a b ((y3,()).1) true) else (bif (decide (b > (0:Int))) then ((idx? a.1 (w64 (b - (1:Int)))).bind fun y31 => ((callT R n_Z67 o_Z67 [⟨yL,(y31,()).1⟩,⟨yL,(y3,()).1⟩]).bind fun r32 => (Z71.j1 R N n a b ((y3,()).1) (!r32.1)))) else (Z71.j1 R N n a b ((y3,()).1) false))))) else some ⟨o_Z71,(true,())⟩) := (hw _ _).trans (by kernel_rfl)
theorem Z71.ev (R:Run) (N:Nat) (a0:(vK × Unit)):evFn E R sg_Z71 pol_Z71 F_Z71 N [⟨(.ptr (.cons yK .nil)),a0⟩] = (bif (decide ((List.length a0.1:Int) > (48:Int))) then some ⟨o_Z71,(false,())⟩ else (Z71.l0 R N N a0 (0:Int))) := by kernel_rfl
noncomputable def Z80.l0 (R:Run) (N n:Nat) (a:(vK × Unit)) (b:Int) (e:(List Int)):Option Dv := R.w (some ⟨(.c (.ip (.cons yK .nil) a 0)::(V.dead::(V.dead::(.c (.arr 5)::(.c (.d yI b)::(zd 32 [])))))),(zo 5 (some (.arr yI e true false false)::(zo 32 [])))⟩) fun st => lC R pol_Z80 3 N [1,1,0,1,0,0] F_Z80 n st (kB R pol_Z80 0 (kS R pol_Z80 7 N [1,1,1] F_Z80 (kTop E sg_Z80 F_Z80)))
theorem Z80.l0_succ (R:Run) (hw:R.ok) (N n:Nat) (a:(vK × Unit)) (b:Int) (c:(List Int)):Z80.l0 R N (n + 1) a b c = (bif (decide (b < (List.length a.1:Int))) then ((idx? a.1 b).bind fun y4 => (bif ((List.length (y4,()).1:Int) == (1:Int)) then ((idx? a.1 b).bind fun y5 => ((idx? (y5,()).1 (0:Int)).bind fun y6 => ((chk (decide ((List.length c + List.length [(y6,()).1]) * 8 ≤ 70368744177664))).bind fun _ => (Z80.l0 R N n a (w64 (b + (1:Int))) (c ++ [(y6,()).1]))))) else (Z80.l0 R N n a (w64 (b + (1:Int))) c))) else some ⟨o_Z80,(c,())⟩) := (hw _ _).trans (by kernel_rfl)
theorem Z80.ev (R:Run) (N:Nat) (a0:(vK × Unit)):evFn E R sg_Z80 pol_Z80 F_Z80 N [⟨(.ptr (.cons yK .nil)),a0⟩] = (Z80.l0 R N N a0 (0:Int) ([]:List Int)) := by kernel_rfl
noncomputable def Z79.l0 (R:Run) (N n:Nat) (a b:(List Int)) (e f:Int):Option Dv := R.w (some ⟨(.c (.d yL a)::(.c (.d yL b)::(.c (.d yI e)::(zd 4 (.c (.d yI f)::(zd 16 [])))))),(zo 27 [])⟩) fun st => lC R pol_Z79 2 N [1,0,1,0,0] F_Z79 n st (kB R pol_Z79 0 (kS R pol_Z79 6 N [1,1] F_Z79 (kTop E sg_Z79 F_Z79)))
theorem Z79.l0_succ (R:Run) (hw:R.ok) (N n:Nat) (a b:(List Int)) (c d:Int):Z79.l0 R N (n + 1) a b c d = (bif (decide (d < (List.length b:Int))) then ((idx? a d).bind fun y5 => (bif ((y5,()).1 == c) then ((idx? b d).bind fun y6 => some ⟨o_Z79,((y6,()).1,())⟩) else (Z79.l0 R N n a b c (w64 (d + (1:Int)))))) else some ⟨o_Z79,((-1:Int),())⟩) := (hw _ _).trans (by kernel_rfl)
theorem Z79.ev (R:Run) (N:Nat) (a0 a1:(List Int)) (a2:Int):evFn E R sg_Z79 pol_Z79 F_Z79 N [⟨yL,a0⟩,⟨yL,a1⟩,⟨yI,a2⟩] = (Z79.l0 R N N a0 a1 a2 (0:Int)) := by kernel_rfl
noncomputable def Z64.j2 (R:Run) (N a:Nat) (b:(List Int)) (e:Int) (f:Bool) (g:Int) (h:(List Int)):Option Dv := R.w (some ⟨(.c (.d yL b)::(.c (.d yI e)::(zd 3 (.c (.arr 8)::(.c (.d .bool f)::(.c (.d yI g)::(zd 41 []))))))),(zo 8 (some (.arr yI h true false false)::(zo 42 [])))⟩) fun st => eC R pol_Z64 N [1,1,1,0,1,0,0,1,0,0,1] F_Z64 st (kB R pol_Z64 1 (kS R pol_Z64 5 N [1,1,1,0,1,0,0,1,1] F_Z64 (kL R pol_Z64 4 N [1,1,1,0,1,0,0] F_Z64 a (kB R pol_Z64 0 (q0_2 R N (kTop E sg_Z64 F_Z64))))))
noncomputable def Z64.j1 (R:Run) (N a:Nat) (b:(List Int)) (e:Int) (f:Bool) (g:Int) (h:Bool) (i:(List Int)):Option Dv := R.w (some ⟨(.c (.d yL b)::(.c (.d yI e)::(zd 3 (.c (.arr 8)::(.c (.d .bool f)::(.c (.d yI g)::(zd 16 (.c (.d .bool h)::(zd 24 []))))))))),(zo 8 (some (.arr yI i true false false)::(zo 42 [])))⟩) fun st => eC R pol_Z64 N [1,1,1,0,1,0,0,1,0,0,0,1] F_Z64 st (kS R pol_Z64 10 N [1,1,1,0,1,0,0,1,0,0,1] F_Z64 (kB R pol_Z64 1 (kS R pol_Z64 5 N [1,1,1,0,1,0,0,1,1] F_Z64 (kL R pol_Z64 4 N [1,1,1,0,1,0,0] F_Z64 a (kB R pol_Z64 0 (q0_2 R N (kTop E sg_Z64 F_Z64)))))))
noncomputable def Z64.l0 (R:Run) (N n:Nat) (a:(List Int)) (b:Int) (e:Bool) (f:Int) (g:(List Int)):Option Dv := R.w (some ⟨(.c (.d yL a)::(.c (.d yI b)::(zd 3 (.c (.arr 8)::(.c (.d .bool e)::(.c (.d yI f)::(zd 41 []))))))),(zo 8 (some (.arr yI g true false false)::(zo 42 [])))⟩) fun st => lC R pol_Z64 4 N [1,1,1,0,1,0,0] F_Z64 n st (kB R pol_Z64 0 (q0_2 R N (kTop E sg_Z64 F_Z64)))
theorem Z64.j2_eq (R:Run) (hw:R.ok) (N a:Nat) (b:(List Int)) (c:Int) (d:Bool) (e:Int) (f:(List Int)):Z64.j2 R N a b c d e f = ((idx? b e).bind fun y19 => ((chk (decide ((List.length f + List.length [(y19,()).1]) * 8 ≤ 70368744177664))).bind fun _ => (Z64.l0 R N a b c d (w64 (e + (1:Int))) (f ++ [(y19,()).1])))) := (hw _ _).trans (by kernel_rfl)
theorem Z64.j1_eq (R:Run) (hw:R.ok) (N a:Nat) (b:(List Int)) (c:Int) (d:Bool) (e:Int) (f:Bool) (g:(List Int)):Z64.j1 R N a b c d e f g = (bif f then ((idx? b e).bind fun y13 => (bif (decide ((y13,()).1 > c)) then ((chk (decide ((List.length g + List.length [c]) * 8 ≤ 70368744177664))).bind fun _ => (Z64.j2 R N a b c true e (g ++ [c]))) else (Z64.j2 R N a b c true e g))) else (Z64.j2 R N a b c d e g)) := (hw _ _).trans (by kernel_rfl)
theorem Z64.l0_succ (R:Run) (hw:R.ok) (N n:Nat) (a:(List Int)) (b:Int) (c:Bool) (d:Int) (e:(List Int)):Z64.l0 R N (n + 1) a b c d e = (bif (decide (d < (List.length a:Int))) then (bif (!c) then ((idx? a d).bind fun y6 => (Z64.j1 R N n a b c d (decide ((y6,()).1 ≥ b)) e)) else (Z64.j1 R N n a b c d false e)) else (bif (!c) then ((chk (decide ((List.length e + List.length [b]) * 8 ≤ 70368744177664))).bind fun _ => some ⟨o_Z64,((e ++ [b]),())⟩) else some ⟨o_Z64,(e,())⟩)) := (hw _ _).trans (by kernel_rfl)
theorem Z64.ev (R:Run) (N:Nat) (a0:(List Int)) (a1:Int):evFn E R sg_Z64 pol_Z64 F_Z64 N [⟨yL,a0⟩,⟨yI,a1⟩] = (Z64.l0 R N N a0 a1 false (0:Int) ([]:List Int)) := by kernel_rfl
noncomputable def Z77.l0 (R:Run) (N n:Nat) (a b e f:(List Int)) (g:Int):Option Dv := R.w (some ⟨(.c (.d yL a)::(.c (.d yL b)::(.c (.d yL e)::(zd 5 (.c (.d yL f)::(.c (.d yI g)::(zd 21 []))))))),(zo 34 [])⟩) fun st => lC R pol_Z77 3 N [1,1,0,1,0,0] F_Z77 n st (kB R pol_Z77 0 (kS R pol_Z77 9 N [1,1,1] F_Z77 (kTop E sg_Z77 F_Z77)))
theorem Z77.l0_succ (R:Run) (hw:R.ok) (N n:Nat) (a b c d:(List Int)) (e:Int):Z77.l0 R N (n + 1) a b c d e = (bif (decide (e < (List.length c:Int))) then ((idx? c e).bind fun y6 => ((callT R n_Z79 o_Z79 [⟨yL,a⟩,⟨yL,b⟩,⟨yI,(y6,()).1⟩]).bind fun r7 => (bif (decide (r7.1 < (0:Int))) then some ⟨o_Z77,(([]:List Int),false,())⟩ else ((callT R n_Z64 o_Z64 [⟨yL,d⟩,⟨yI,r7.1⟩]).bind fun r8 => (Z77.l0 R N n a b c r8.1 (w64 (e + (1:Int)))))))) else some ⟨o_Z77,(d,true,())⟩) := (hw _ _).trans (by kernel_rfl)
theorem Z77.ev (R:Run) (N:Nat) (a0 a1 a2:(List Int)):evFn E R sg_Z77 pol_Z77 F_Z77 N [⟨yL,a0⟩,⟨yL,a1⟩,⟨yL,a2⟩] = (Z77.l0 R N N a0 a1 a2 ([]:List Int) (0:Int)) := by kernel_rfl
noncomputable def Z76.j1 (R:Run) (N a:Nat) (b e:(vK × Unit)) (f g:(List Int)) (h:Int) (i:Bool):Option Dv := R.w (some ⟨(.c (.ip (.cons yK .nil) b 0)::(.c (.ip (.cons yK .nil) e 0)::(.c (.d yL f)::(.c (.d yL g)::(zd 5 (.c (.d yI h)::(zd 30 (.c (.d .bool i)::[])))))))),(zo 45 [])⟩) fun st => eC R pol_Z76 N [1,0,1,0,0,1,0,0,1,1] F_Z76 st (kB R pol_Z76 1 (kS R pol_Z76 3 N [1,0,1,0,0,1,1] F_Z76 (kL R pol_Z76 2 N [1,0,1,0,0] F_Z76 a (kB R pol_Z76 0 (kS R pol_Z76 7 N [1,1] F_Z76 (kTop E sg_Z76 F_Z76))))))
noncomputable def Z76.l0 (R:Run) (N n:Nat) (a b:(vK × Unit)) (e f:(List Int)) (g:Int):Option Dv := R.w (some ⟨(.c (.ip (.cons yK .nil) a 0)::(.c (.ip (.cons yK .nil) b 0)::(.c (.d yL e)::(.c (.d yL f)::(zd 5 (.c (.d yI g)::(zd 31 []))))))),(zo 45 [])⟩) fun st => lC R pol_Z76 2 N [1,0,1,0,0] F_Z76 n st (kB R pol_Z76 0 (kS R pol_Z76 7 N [1,1] F_Z76 (kTop E sg_Z76 F_Z76)))
theorem Z76.j1_eq (R:Run) (hw:R.ok) (N a:Nat) (b c:(vK × Unit)) (d e:(List Int)) (f:Int) (g:Bool):Z76.j1 R N a b c d e f g = (bif g then some ⟨o_Z76,(false,())⟩ else (Z76.l0 R N a b c d e (w64 (f + (1:Int))))) := (hw _ _).trans (by kernel_rfl)
theorem Z76.l0_succ (R:Run) (hw:R.ok) (N n:Nat) (a b:(vK × Unit)) (c d:(List Int)) (e:Int):Z76.l0 R N (n + 1) a b c d e = (bif (decide (e < (List.length a.1:Int))) then ((idx? a.1 e).bind fun y6 => ((callT R n_Z77 o_Z77 [⟨yL,c⟩,⟨yL,d⟩,⟨yL,(y6,()).1⟩]).bind fun r7 => (bif r7.2.1 then ((callT R n_Z70 o_Z70 [⟨(.ptr (.cons yK .nil)),b⟩,⟨yL,r7.1⟩]).bind fun r8 => (Z76.j1 R N n a b c d e (decide (r8.1 < (0:Int))))) else (Z76.j1 R N n a b c d e false)))) else some ⟨o_Z76,(true,())⟩) := (hw _ _).trans (by kernel_rfl)
theorem Z76.ev (R:Run) (N:Nat) (a0 a1:(vK × Unit)) (a2 a3:(List Int)):evFn E R sg_Z76 pol_Z76 F_Z76 N [⟨(.ptr (.cons yK .nil)),a0⟩,⟨(.ptr (.cons yK .nil)),a1⟩,⟨yL,a2⟩,⟨yL,a3⟩] = (Z76.l0 R N N a0 a1 a2 a3 (0:Int)) := by kernel_rfl
noncomputable def Z78.l0 (R:Run) (N n:Nat) (a b:(vK × Unit)) (e f:(List Int)) (g:Int):Option Dv := R.w (some ⟨(.c (.ip (.cons yK .nil) a 0)::(.c (.ip (.cons yK .nil) b 0)::(.c (.d yL e)::(zd 4 (.c (.d yL f)::(.c (.d yI g)::(zd 26 []))))))),(zo 38 [])⟩) fun st => lC R pol_Z78 3 N [1,1,0,1,0,0] F_Z78 n st (kB R pol_Z78 0 (kS R pol_Z78 7 N [1,1,1] F_Z78 (kTop E sg_Z78 F_Z78)))
theorem Z78.l0_succ (R:Run) (hw:R.ok) (N n:Nat) (a b:(vK × Unit)) (c d:(List Int)) (e:Int):Z78.l0 R N (n + 1) a b c d e = (bif (decide (e < (List.length c:Int))) then ((idx? c e).bind fun y7 => ((callT R n_Z62 o_Z62 [⟨yI,(y7,()).1⟩,⟨yI,(0:Int)⟩,⟨yI,(9:Int)⟩]).bind fun r8 => (bif (!r8.1) then some ⟨o_Z78,(false,())⟩ else (Z78.l0 R N n a b c d (w64 (e + (1:Int))))))) else (bif ((List.length c:Int) == (List.length d:Int)) then ((callT R n_Z76 o_Z76 [⟨(.ptr (.cons yK .nil)),a⟩,⟨(.ptr (.cons yK .nil)),b⟩,⟨yL,d⟩,⟨yL,c⟩]).bind fun r14 => some ⟨o_Z78,(r14.1,())⟩) else some ⟨o_Z78,(false,())⟩)) := (hw _ _).trans (by kernel_rfl)
theorem Z78.ev (R:Run) (N:Nat) (a0 a1:(vK × Unit)) (a2:(List Int)):evFn E R sg_Z78 pol_Z78 F_Z78 N [⟨(.ptr (.cons yK .nil)),a0⟩,⟨(.ptr (.cons yK .nil)),a1⟩,⟨yL,a2⟩] = ((callT R n_Z80 o_Z80 [⟨(.ptr (.cons yK .nil)),a0⟩]).bind fun r1 => (Z78.l0 R N N a0 a1 a2 r1.1 (0:Int))) := by kernel_rfl
noncomputable def Z74.j0 (R:Run) (N:Nat) (a b:(vK × Unit)) (e:(List Int)) (f:Bool):Option Dv := R.w (some ⟨(.c (.ip (.cons yK .nil) a 0)::(.c (.ip (.cons yK .nil) b 0)::(.c (.d yL e)::(zd 11 (.c (.d .bool f)::(zd 5 [])))))),(zo 23 [])⟩) fun st => eC R pol_Z74 N [1,0,1] F_Z74 st (kS R pol_Z74 3 N [1,1] F_Z74 (kTop E sg_Z74 F_Z74))
theorem Z74.j0_eq (R:Run) (hw:R.ok) (N:Nat) (a b:(vK × Unit)) (c:(List Int)) (d:Bool):Z74.j0 R N a b c d = (bif d then some ⟨o_Z74,((1:Int),())⟩ else ((callT R n_Z78 o_Z78 [⟨(.ptr (.cons yK .nil)),a⟩,⟨(.ptr (.cons yK .nil)),b⟩,⟨yL,c⟩]).bind fun r6 => (bif (!r6.1) then some ⟨o_Z74,((7:Int),())⟩ else some ⟨o_Z74,((0:Int),())⟩))) := (hw _ _).trans (by kernel_rfl)
theorem Z74.ev (R:Run) (N:Nat) (a0 a1:(vK × Unit)) (a2:(List Int)):evFn E R sg_Z74 pol_Z74 F_Z74 N [⟨(.ptr (.cons yK .nil)),a0⟩,⟨(.ptr (.cons yK .nil)),a1⟩,⟨yL,a2⟩] = ((callT R n_Z71 o_Z71 [⟨(.ptr (.cons yK .nil)),a0⟩]).bind fun r1 => (bif (!r1.1) then (Z74.j0 R N a0 a1 a2 true) else ((callT R n_Z71 o_Z71 [⟨(.ptr (.cons yK .nil)),a1⟩]).bind fun r7 => (Z74.j0 R N a0 a1 a2 (!r7.1))))) := by kernel_rfl
theorem Z75.ev (R:Run) (N:Nat) (a0 a1:(vK × Unit)) (a2:(List Int)) (a3:Int):evFn E R sg_Z75 pol_Z75 F_Z75 N [⟨(.ptr (.cons yK .nil)),a0⟩,⟨(.ptr (.cons yK .nil)),a1⟩,⟨yL,a2⟩,⟨yI,a3⟩] = ((idx? a0.1 a3).bind fun y1 => ((callT R n_Z80 o_Z80 [⟨(.ptr (.cons yK .nil)),a0⟩]).bind fun r2 => ((callT R n_Z77 o_Z77 [⟨yL,r2.1⟩,⟨yL,a2⟩,⟨yL,(y1,()).1⟩]).bind fun r3 => ((callT R n_Z70 o_Z70 [⟨(.ptr (.cons yK .nil)),a1⟩,⟨yL,r3.1⟩]).bind fun r4 => some ⟨o_Z75,(r4.1,())⟩)))) := by kernel_rfl
noncomputable def Z72.j3 (R:Run) (N a:Nat) (b:(List Int)) (e:Int) (f:Bool) (g:vK):Option Dv := R.w (some ⟨(.c (.box 71 0)::(.c (.d yL b)::(zd 3 (.c (.d yI e)::(zd 38 (.c (.d .bool f)::(zd 26 []))))))),(zo 71 (some (.box [.d yK g] false true)::(none::(none::[]))))⟩) fun st => eC R pol_Z72 N [1,1,1,0,0,0,0,1] F_Z72 st (kS R pol_Z72 7 N [1,1,1,0,0,0,1] F_Z72 (kL R pol_Z72 6 N [1,1,1,0,0,0] F_Z72 a (kB R pol_Z72 2 (kS R pol_Z72 8 N [1,1,1,1] F_Z72 (kTop E sg_Z72 F_Z72)))))
noncomputable def Z72.l2 (R:Run) (N n:Nat) (a:(List Int)) (b:Int) (e:vK):Option Dv := R.w (some ⟨(.c (.box 71 0)::(.c (.d yL a)::(zd 3 (.c (.d yI b)::(zd 65 []))))),(zo 71 (some (.box [.d yK e] false true)::(none::(none::[]))))⟩) fun st => lC R pol_Z72 6 N [1,1,1,0,0,0] F_Z72 n st (kB R pol_Z72 2 (kS R pol_Z72 8 N [1,1,1,1] F_Z72 (kTop E sg_Z72 F_Z72)))
noncomputable def Z72.j1 (R:Run) (N a:Nat) (b:(List Int)) (e:Int) (f:Bool) (g:vK):Option Dv := R.w (some ⟨(.c (.box 71 0)::(.c (.d yL b)::(V.dead::(V.dead::(.c (.d yI e)::(zd 14 (.c (.d .bool f)::(zd 51 [])))))))),(zo 71 (some (.box [.d yK g] false true)::(none::(none::[]))))⟩) fun st => eC R pol_Z72 N [1,0,1,0,0,0,1] F_Z72 st (kS R pol_Z72 4 N [1,0,1,0,0,1] F_Z72 (kL R pol_Z72 2 N [1,0,1,0,0] F_Z72 a (kB R pol_Z72 0 (kS R pol_Z72 5 N [1,1] F_Z72 (kTop E sg_Z72 F_Z72)))))
noncomputable def Z72.l0 (R:Run) (N n:Nat) (a:(List Int)) (b:Int) (e:vK):Option Dv := R.w (some ⟨(.c (.box 71 0)::(.c (.d yL a)::(V.dead::(V.dead::(.c (.d yI b)::(zd 66 [])))))),(zo 71 (some (.box [.d yK e] false true)::(none::(none::[]))))⟩) fun st => lC R pol_Z72 2 N [1,0,1,0,0] F_Z72 n st (kB R pol_Z72 0 (kS R pol_Z72 5 N [1,1] F_Z72 (kTop E sg_Z72 F_Z72)))
theorem Z72.j3_eq (R:Run) (hw:R.ok) (N a:Nat) (b:(List Int)) (c:Int) (d:Bool) (e:vK):Z72.j3 R N a b c d e = (bif d then (Z72.l2 R N a b (w64 (c + (1:Int))) e) else ((chk (decide (0 ≤ c) && decide (c ≤ (List.length e:Int)))).bind fun _ => ((chk (decide ((List.length ([]:List (List Int)) + List.length (List.take (Int.toNat c) e)) * 24 ≤ 70368744177664))).bind fun _ => ((callT R n_Z63 o_Z63 [⟨yL,b⟩]).bind fun r26 => ((chk (decide ((List.length (([]:List (List Int)) ++ (List.take (Int.toNat c) e)) + List.length [r26.1]) * 24 ≤ 70368744177664))).bind fun _ => ((chk (decide (0 ≤ c) && decide (c ≤ (List.length e:Int)))).bind fun _ => ((chk (decide ((List.length ((([]:List (List Int)) ++ (List.take (Int.toNat c) e)) ++ [r26.1]) + List.length (List.drop (Int.toNat c) e)) * 24 ≤ 70368744177664))).bind fun _ => some ⟨o_Z72,(((((([]:List (List Int)) ++ (List.take (Int.toNat c) e)) ++ [r26.1]) ++ (List.drop (Int.toNat c) e)),()),())⟩))))))) := (hw _ _).trans (by kernel_rfl)
theorem Z72.l2_succ (R:Run) (hw:R.ok) (N n:Nat) (a:(List Int)) (b:Int) (c:vK):Z72.l2 R N (n + 1) a b c = (bif (decide (b < (List.length c:Int))) then ((idx? c b).bind fun y17 => ((callT R n_Z67 o_Z67 [⟨yL,(y17,()).1⟩,⟨yL,a⟩]).bind fun r18 => (Z72.j3 R N n a b r18.1 c))) else (Z72.j3 R N n a b false c)) := (hw _ _).trans (by kernel_rfl)
theorem Z72.j1_eq (R:Run) (hw:R.ok) (N a:Nat) (b:(List Int)) (c:Int) (d:Bool) (e:vK):Z72.j1 R N a b c d e = (bif d then ((callT R n_Z69 o_Z69 [⟨yL,b⟩,⟨yI,c⟩]).bind fun r9 => ((callT R n_Z72 o_Z72 [⟨(.ptr (.cons yK .nil)),(e,())⟩,⟨yL,r9.1⟩]).bind fun r10 => (Z72.l0 R N a b (w64 (c + (1:Int))) r10.1.1))) else (Z72.l2 R N N b (0:Int) e)) := (hw _ _).trans (by kernel_rfl)
theorem Z72.l0_succ (R:Run) (hw:R.ok) (N n:Nat) (a:(List Int)) (b:Int) (c:vK):Z72.l0 R N (n + 1) a b c = (bif (decide (b < (List.length a:Int))) then (Z72.j1 R N n a b (decide ((List.length a:Int) > (1:Int))) c) else (Z72.j1 R N n a b false c)) := (hw _ _).trans (by kernel_rfl)
theorem Z72.ev (R:Run) (N:Nat) (a0:(vK × Unit)) (a1:(List Int)):evFn E R sg_Z72 pol_Z72 F_Z72 N [⟨(.ptr (.cons yK .nil)),a0⟩,⟨yL,a1⟩] = ((callT R n_Z70 o_Z70 [⟨(.ptr (.cons yK .nil)),(a0.1,())⟩,⟨yL,a1⟩]).bind fun r1 => (bif (decide (r1.1 ≥ (0:Int))) then some ⟨o_Z72,((a0.1,()),())⟩ else (Z72.l0 R N N a1 (0:Int) a0.1))) := by kernel_rfl
noncomputable def Z68.l0 (R:Run) (N n:Nat) (a:vK) (b:Int) (e:vK):Option Dv := R.w (some ⟨(.c (.d yK a)::(V.dead::(.c (.box 2 0)::(.c (.box 3 0)::(.c (.d yI b)::(zd 14 [])))))),(none::(none::(some (.box [.nils yL] false false)::(some (.box [.d yK e] false false)::(zo 16 [])))))⟩) fun st => lC R pol_Z68 3 N [1,1,0,1,0,0] F_Z68 n st (kB R pol_Z68 0 (kS R pol_Z68 6 N [1,1,1] F_Z68 (kTop E sg_Z68 F_Z68)))
theorem Z68.l0_succ (R:Run) (hw:R.ok) (N n:Nat) (a:vK) (b:Int) (c:vK):Z68.l0 R N (n + 1) a b c = (bif (decide (b < (List.length a:Int))) then ((idx? a b).bind fun y4 => ((callT R n_Z72 o_Z72 [⟨(.ptr (.cons yK .nil)),(c,())⟩,⟨yL,(y4,()).1⟩]).bind fun r5 => (Z68.l0 R N n a (w64 (b + (1:Int))) r5.1.1))) else some ⟨o_Z68,(c,())⟩) := (hw _ _).trans (by kernel_rfl)
theorem Z68.ev (R:Run) (N:Nat) (a0:vK):evFn E R sg_Z68 pol_Z68 F_Z68 N [⟨yK,a0⟩] = (Z68.l0 R N N a0 (0:Int) ([]:List (List Int))) := by kernel_rfl
noncomputable def Z61.l0 (R:Run) (N n:Nat) (a:(List Int)) (b:Int) (e f g:vK):Option Dv := R.w (some ⟨(V.dead::(V.dead::(.c (.d yL a)::(.c (.box 3 0)::(.c (.box 4 0)::(V.dead::(.c (.box 6 0)::(V.dead::(V.dead::(.c (.arr 17)::(.c (.d yI b)::(zd 27 [])))))))))))),(zo 3 (some (.box [.d yK e] false false)::(some (.box [.d yK f] false false)::(none::(some (.box [.nils yL] false false)::(zo 10 (some (.arr yL g true false false)::(zo 24 []))))))))⟩) fun st => lC R pol_Z61 6 N [1,1,1,1,0,1,0,0] F_Z61 n st (kB R pol_Z61 0 (kS R pol_Z61 9 N [1,1,1,1,1] F_Z61 (kTop E sg_Z61 F_Z61)))
theorem Z61.l0_succ (R:Run) (hw:R.ok) (N n:Nat) (a:(List Int)) (b:Int) (c d e:vK):Z61.l0 R N (n + 1) a b c d e = (bif (decide (b < (List.length c:Int))) then ((callT R n_Z75 o_Z75 [⟨(.ptr (.cons yK .nil)),(c,())⟩,⟨(.ptr (.cons yK .nil)),(d,())⟩,⟨yL,a⟩,⟨yI,b⟩]).bind fun r7 => ((idx? d r7.1).bind fun y8 => ((callT R n_Z63 o_Z63 [⟨yL,(y8,()).1⟩]).bind fun r9 => ((chk (decide ((List.length e + List.length [r9.1]) * 24 ≤ 70368744177664))).bind fun _ => (Z61.l0 R N n a (w64 (b + (1:Int))) c d (e ++ [r9.1])))))) else ((callT R n_Z68 o_Z68 [⟨yK,e⟩]).bind fun r15 => some ⟨o_Z61,(r15.1,(0:Int),())⟩)) := (hw _ _).trans (by kernel_rfl)
theorem Z61.ev (R:Run) (N:Nat) (a0 a1:vK) (a2:(List Int)):evFn E R sg_Z61 pol_Z61 F_Z61 N [⟨yK,a0⟩,⟨yK,a1⟩,⟨yL,a2⟩] = ((callT R n_Z74 o_Z74 [⟨(.ptr (.cons yK .nil)),(a0,())⟩,⟨(.ptr (.cons yK .nil)),(a1,())⟩,⟨yL,a2⟩]).bind fun r1 => (bif (r1.1 != (0:Int)) then some ⟨o_Z61,(([]:List (List Int)),r1.1,())⟩ else (Z61.l0 R N N a2 (0:Int) a0 a1 ([]:List (List Int))))) := by kernel_rfl
noncomputable def Z18.l0 (R:Run) (N n:Nat) (a:(List Int)) (b:Int):Option Dv := R.w (some ⟨(.c (.d yL a)::(V.dead::(V.dead::(.c (.d yI b)::(zd 16 []))))),(zo 21 [])⟩) fun st => lC R pol_Z18 2 N [1,0,1,0,0] F_Z18 n st (kB R pol_Z18 0 (kS R pol_Z18 6 N [1,1] F_Z18 (kTop E sg_Z18 F_Z18)))
theorem Z18.l0_succ (R:Run) (hw:R.ok) (N n:Nat) (a:(List Int)) (b:Int):Z18.l0 R N (n + 1) a b = (bif (decide (b < (List.length a:Int))) then ((idx? a (w64 (b - (1:Int)))).bind fun y3 => ((idx? a b).bind fun y4 => (bif (decide ((y3,()).1 ≥ (y4,()).1)) then some ⟨o_Z18,(false,())⟩ else (Z18.l0 R N n a (w64 (b + (1:Int))))))) else some ⟨o_Z18,(true,())⟩) := (hw _ _).trans (by kernel_rfl)
theorem Z18.ev (R:Run) (N:Nat) (a0:(List Int)):evFn E R sg_Z18 pol_Z18 F_Z18 N [⟨yL,a0⟩] = (Z18.l0 R N N a0 (1:Int)) := by kernel_rfl
theorem Z22.ev (R:Run) (N:Nat) (a0 a1 a2:Int):evFn E R sg_Z22 pol_Z22 F_Z22 N [⟨yI,a0⟩,⟨yI,a1⟩,⟨yI,a2⟩] = (bif (decide (a0 ≥ a1)) then some ⟨o_Z22,((decide (a0 ≤ a2)),())⟩ else some ⟨o_Z22,(false,())⟩) := by kernel_rfl
theorem Z19.ev (R:Run) (N:Nat) (a0:Int):evFn E R sg_Z19 pol_Z19 F_Z19 N [⟨yI,a0⟩] = ((callT R n_Z22 o_Z22 [⟨yI,a0⟩,⟨yI,(0:Int)⟩,⟨yI,(9:Int)⟩]).bind fun r1 => some ⟨o_Z19,(r1.1,())⟩) := by kernel_rfl
theorem Z9.ev (R:Run) (N:Nat) (a0:Int):evFn E R sg_Z9 pol_Z9 F_Z9 N [⟨yI,a0⟩] = ((callT R n_Z19 o_Z19 [⟨yI,a0⟩]).bind fun r1 => some ⟨o_Z9,((!r1.1),())⟩) := by kernel_rfl
noncomputable def Z57.l0 (R:Run) (N n:Nat) (a:(List Int)) (b e:Int):Option Dv := R.w (some ⟨(.c (.d yL a)::(.c (.d (.fn n_Z9 .nil) ())::(zd 5 (.c (.d yI b)::(.c (.d yI e)::(zd 10 [])))))),(zo 21 [])⟩) fun st => lC R pol_Z56 2 N [1,0,1,0,0] F_Z56 n st (kB R pol_Z56 0 (kS R pol_Z56 7 N [1,1] F_Z56 (kTop E sg_Z56 F_Z56)))
theorem Z57.l0_succ (R:Run) (hw:R.ok) (N n:Nat) (a:(List Int)) (b c:Int):Z57.l0 R N (n + 1) a b c = (bif (decide (c < b)) then ((idx? a c).bind fun y4 => ((callT R n_Z9 o_Z9 [⟨yI,(y4,()).1⟩]).bind fun r5 => (bif r5.1 then some ⟨o_Z56,(c,())⟩ else (Z57.l0 R N n a b (w64 (c + (1:Int))))))) else some ⟨o_Z56,((-1:Int),())⟩) := (hw _ _).trans (by kernel_rfl)
theorem Z57.ev (R:Run) (N:Nat) (a0:(List Int)):evFn E R sg_Z56 pol_Z56 F_Z56 N [⟨yL,a0⟩,⟨(.fn n_Z9 .nil),()⟩] = (Z57.l0 R N N a0 (List.length a0:Int) (0:Int)) := by kernel_rfl
theorem Z50.ev (R:Run) (N:Nat) (a0:(List Int)):evFn E R sg_Z49 pol_Z49 F_Z49 N [⟨yL,a0⟩,⟨(.fn n_Z9 .nil),()⟩] = ((callT R n_Z56 o_Z56 [⟨yL,a0⟩,⟨(.fn n_Z9 .nil),()⟩]).bind fun r1 => some ⟨o_Z49,((decide (r1.1 ≥ (0:Int))),())⟩) := by kernel_rfl
theorem Z8.ev (R:Run) (N:Nat) (a0:(List Int)):evFn E R sg_Z8 pol_Z8 F_Z8 N [⟨yL,a0⟩] = (bif (decide ((List.length a0:Int) ≥ (1:Int))) then (bif (decide ((List.length a0:Int) ≤ (4:Int))) then ((callT R n_Z18 o_Z18 [⟨yL,a0⟩]).bind fun r1 => (bif r1.1 then ((callT R n_Z49 o_Z49 [⟨yL,a0⟩,⟨(.fn n_Z9 .nil),()⟩]).bind fun r2 => some ⟨o_Z8,((!r2.1),())⟩) else some ⟨o_Z8,(false,())⟩)) else some ⟨o_Z8,(false,())⟩) else some ⟨o_Z8,(false,())⟩) := by kernel_rfl
theorem Z3.ev (R:Run) (N:Nat) (a0:Int):evFn E R sg_Z3 pol_Z3 F_Z3 N [⟨yI,a0⟩] = some ⟨o_Z3,((a0 != a0),())⟩ := by kernel_rfl
theorem Z0.ev (R:Run) (N:Nat) (a0 a1:Int):evFn E R sg_Z0 pol_Z0 F_Z0 N [⟨yI,a0⟩,⟨yI,a1⟩] = ((callT R n_Z3 o_Z3 [⟨yI,a0⟩]).bind fun r1 => ((callT R n_Z3 o_Z3 [⟨yI,a1⟩]).bind fun r2 => (bif r1.1 then (bif r2.1 then some ⟨o_Z0,((0:Int),())⟩ else some ⟨o_Z0,((-1:Int),())⟩) else (bif r2.1 then some ⟨o_Z0,((1:Int),())⟩ else (bif (decide (a0 < a1)) then some ⟨o_Z0,((-1:Int),())⟩ else (bif (decide (a0 > a1)) then some ⟨o_Z0,((1:Int),())⟩ else some ⟨o_Z0,((0:Int),())⟩)))))) := by kernel_rfl
theorem Z4.ev (R:Run) (N:Nat) (a0:Int):evFn E R sg_Z4 pol_Z4 F_Z4 N [⟨yI,a0⟩] = some ⟨o_Z4,((a0 != a0),())⟩ := by kernel_rfl
theorem Z1.ev (R:Run) (N:Nat) (a0 a1:Int):evFn E R sg_Z1 pol_Z1 F_Z1 N [⟨yI,a0⟩,⟨yI,a1⟩] = ((callT R n_Z4 o_Z4 [⟨yI,a0⟩]).bind fun r1 => ((callT R n_Z4 o_Z4 [⟨yI,a1⟩]).bind fun r2 => (bif r1.1 then (bif r2.1 then some ⟨o_Z1,((0:Int),())⟩ else some ⟨o_Z1,((-1:Int),())⟩) else (bif r2.1 then some ⟨o_Z1,((1:Int),())⟩ else (bif (decide (a0 < a1)) then some ⟨o_Z1,((-1:Int),())⟩ else (bif (decide (a0 > a1)) then some ⟨o_Z1,((1:Int),())⟩ else some ⟨o_Z1,((0:Int),())⟩)))))) := by kernel_rfl
noncomputable def Z44.l0 (R:Run) (N n:Nat) (a b e:(List Int)) (f g:Int):Option Dv := R.w (some ⟨(.c (.d yL a)::(.c (.d yL b)::(zd 7 (.c (.d yL e)::(.c (.d yI f)::(.c (.d yI g)::(zd 24 []))))))),(zo 38 [])⟩) fun st => lC R pol_Z44 2 N [1,0,1,0,0] F_Z44 n st (kB R pol_Z44 0 (kS R pol_Z44 11 N [1,1] F_Z44 (kTop E sg_Z44 F_Z44)))
theorem Z44.l0_succ (R:Run) (hw:R.ok) (N n:Nat) (a b c:(List Int)) (d e:Int):Z44.l0 R N (n + 1) a b c d e = (bif (decide (e < d)) then ((idx? c e).bind fun y6 => (bif (decide (e ≥ (List.length b:Int))) then some ⟨o_Z44,((1:Int),())⟩ else ((idx? b e).bind fun y7 => ((callT R n_Z1 o_Z1 [⟨yI,(y6,()).1⟩,⟨yI,(y7,()).1⟩]).bind fun r8 => (bif (r8.1 != (0:Int)) then some ⟨o_Z44,(r8.1,())⟩ else (Z44.l0 R N n a b c d (w64 (e + (1:Int))))))))) else (bif (decide ((List.length a:Int) < (List.length b:Int))) then some ⟨o_Z44,((-1:Int),())⟩ else some ⟨o_Z44,((0:Int),())⟩)) := (hw _ _).trans (by kernel_rfl)
theorem Z44.ev (R:Run) (N:Nat) (a0 a1:(List Int)):evFn E R sg_Z44 pol_Z44 F_Z44 N [⟨yL,a0⟩,⟨yL,a1⟩] = (Z44.l0 R N N a0 a1 a0 (List.length a0:Int) (0:Int)) := by kernel_rfl
noncomputable def Z2.l0 (R:Run) (N n:Nat) (a:Int) (b:(List Int)) (e f:Int):Option Dv := R.w (some ⟨(zd 3 (.c (.d yI a)::(V.dead::(V.dead::(.c (.d yL b)::(.c (.d yI e)::(.c (.d yI f)::(zd 9 [])))))))),(zo 19 [])⟩) fun st => lC R pol_Z2 3 N [1,1,0,1,0,0] F_Z2 n st (kB R pol_Z2 0 (kS R pol_Z2 8 N [1,1,1] F_Z2 (kTop E sg_Z2 F_Z2)))
theorem Z2.l0_succ (R:Run) (hw:R.ok) (N n:Nat) (a:Int) (b:(List Int)) (c d:Int):Z2.l0 R N (n + 1) a b c d = (bif (decide (d < c)) then ((idx? b d).bind fun y5 => (bif ((y5,()).1 != a) then some ⟨o_Z2,((y5,()).1,())⟩ else (Z2.l0 R N n a b c (w64 (d + (1:Int)))))) else some ⟨o_Z2,(a,())⟩) := (hw _ _).trans (by kernel_rfl)
theorem Z2.ev (R:Run) (N:Nat) (a0:(List Int)):evFn E R sg_Z2 pol_Z2 F_Z2 N [⟨yL,a0⟩] = (Z2.l0 R N N (0:Int) a0 (List.length a0:Int) (0:Int)) := by kernel_rfl
theorem Z10.ev (R:Run) (N:Nat) (a0 a1:(List Int)):evFn E R sg_Z10 pol_Z10 F_Z10 N [⟨yL,a0⟩,⟨yL,a1⟩] = ((callT R n_Z0 o_Z0 [⟨yI,(List.length a0:Int)⟩,⟨yI,(List.length a1:Int)⟩]).bind fun r1 => ((callT R n_Z44 o_Z44 [⟨yL,a0⟩,⟨yL,a1⟩]).bind fun r2 => ((callT R n_Z2 o_Z2 [⟨yL,[r1.1,r2.1]⟩]).bind fun r3 => some ⟨o_Z10,(r3.1,())⟩))) := by kernel_rfl
noncomputable def Z45.l1 (R:Run) (N n:Nat) (a:vK) (b e:Int) (f:(List Int)):Option Dv := R.w (some ⟨(zd 6 (.c (.arr 37)::(zd 18 (.c (.d yK a)::(.c (.d yI b)::(.c (.d yI e)::(zd 8 []))))))),(zo 37 (some (.arr yI f true false false)::[]))⟩) fun st => lC R pol_Z45 11 N [1,1,1,1,0,1,0,0] F_Z45 n st (kB R pol_Z45 2 (kS R pol_Z45 15 N [1,1,1,1,1] F_Z45 (kTop E sg_Z45 F_Z45)))
noncomputable def Z45.l0 (R:Run) (N n:Nat) (a:vK) (b:Int) (e:vK) (f g:Int):Option Dv := R.w (some ⟨(.c (.d yK a)::(V.dead::(V.dead::(.c (.d yI b)::(zd 5 (.c (.d yK e)::(.c (.d yI f)::(.c (.d yI g)::(zd 24 []))))))))),(zo 38 [])⟩) fun st => lC R pol_Z45 3 N [1,1,0,1,0,0] F_Z45 n st (kB R pol_Z45 0 (kS R pol_Z45 9 N [1,1,1] F_Z45 (kTop E sg_Z45 F_Z45)))
theorem Z45.l1_succ (R:Run) (hw:R.ok) (N n:Nat) (a:vK) (b c:Int) (d:(List Int)):Z45.l1 R N (n + 1) a b c d = (bif (decide (c < b)) then ((idx? a c).bind fun y17 => ((chk (decide ((List.length d + List.length (y17,()).1) * 8 ≤ 70368744177664))).bind fun _ => (Z45.l1 R N n a b (w64 (c + (1:Int))) (d ++ (y17,()).1)))) else some ⟨o_Z45,(d,())⟩) := (hw _ _).trans (by kernel_rfl)
theorem Z45.l0_succ (R:Run) (hw:R.ok) (N n:Nat) (a:vK) (b:Int) (c:vK) (d e:Int):Z45.l0 R N (n + 1) a b c d e = (bif (decide (e < d)) then ((idx? c e).bind fun y6 => (bif (decide ((w64 (b + (List.length (y6,()).1:Int))) < (0:Int))) then none else (Z45.l0 R N n a (w64 (b + (List.length (y6,()).1:Int))) c d (w64 (e + (1:Int)))))) else ((callT R n_Z52 o_Z52 [⟨yL,([]:List Int)⟩,⟨yI,b⟩]).bind fun r12 => (Z45.l1 R N N a (List.length a:Int) (0:Int) r12.1))) := (hw _ _).trans (by kernel_rfl)
theorem Z45.ev (R:Run) (N:Nat) (a0:vK):evFn E R sg_Z45 pol_Z45 F_Z45 N [⟨yK,a0⟩] = (Z45.l0 R N N a0 (0:Int) a0 (List.length a0:Int) (0:Int)) := by kernel_rfl
noncomputable def Z12.l0 (R:Run) (N n:Nat) (a:(List Int)) (b e:Int) (f:vK):Option Dv := R.w (some ⟨(.c (.d yL a)::(V.dead::(V.dead::(.c (.arr 24)::(V.dead::(V.dead::(.c (.d yI b)::(.c (.d yI e)::(zd 19 []))))))))),(zo 24 (some (.arr yL f true false false)::(zo 4 [])))⟩) fun st => lC R pol_Z12 3 N [1,1,0,1,0,0] F_Z12 n st (kB R pol_Z12 0 (kS R pol_Z12 8 N [1,1,1] F_Z12 (kTop E sg_Z12 F_Z12)))
theorem Z12.l0_succ (R:Run) (hw:R.ok) (N n:Nat) (a:(List Int)) (b c:Int) (d:vK):Z12.l0 R N (n + 1) a b c d = (bif (decide (c < b)) then (bif (decide ((List.length a:Int) > (1:Int))) then ((chk (decide (0 ≤ c) && decide (c ≤ (List.length a:Int)))).bind fun _ => ((chk (decide (0 ≤ (w64 (c + (1:Int)))) && decide ((w64 (c + (1:Int))) ≤ (List.length a:Int)))).bind fun _ => ((callT R n_Z45 o_Z45 [⟨yK,[(List.take (Int.toNat c) a),(List.drop (Int.toNat (w64 (c + (1:Int)))) a)]⟩]).bind fun r5 => ((chk (decide ((List.length d + List.length [r5.1]) * 24 ≤ 70368744177664))).bind fun _ => (Z12.l0 R N n a b (w64 (c + (1:Int))) (d ++ [r5.1])))))) else (Z12.l0 R N n a b (w64 (c + (1:Int))) d)) else some ⟨o_Z12,(d,())⟩) := (hw _ _).trans (by kernel_rfl)
theorem Z12.ev (R:Run) (N:Nat) (a0:(List Int)):evFn E R sg_Z12 pol_Z12 F_Z12 N [⟨yL,a0⟩] = (Z12.l0 R N N a0 (List.length a0:Int) (0:Int) ([]:List (List Int))) := by kernel_rfl
noncomputable def Z40.l0 (R:Run) (N n:Nat) (a:vK) (b:(List Int)) (e f g:Int):Option Dv := R.w (some ⟨(.c (.d yK a)::(.c (.d yL b)::(.c (.d (.fn n_Z10 .nil) ())::(zd 5 (.c (.d yI e)::(.c (.d yI f)::(.c (.d yI g)::(zd 38 [])))))))),(zo 52 [])⟩) fun st => lC R pol_Z39 3 N [1,1,1,0,0,0] F_Z39 n st (kB R pol_Z39 0 (kS R pol_Z39 8 N [1,1,1,1] F_Z39 (kTop E sg_Z39 F_Z39)))
theorem Z40.l0_succ (R:Run) (hw:R.ok) (N n:Nat) (a:vK) (b:(List Int)) (c d e:Int):Z40.l0 R N (n + 1) a b c d e = (bif (decide (d < e)) then ((chk (decide (0 ≤ (1:Int)))).bind fun _ => ((idx? a (w64 ((Int.fdiv (IntKind.wrap .u64 ((w64 (d + e)))) (2 ^ (min (Int.toNat (1:Int)) (IntKind.bits .u64))))))).bind fun y6 => ((callT R n_Z10 o_Z10 [⟨yL,(y6,()).1⟩,⟨yL,b⟩]).bind fun r7 => (bif (decide (r7.1 < (0:Int))) then (Z40.l0 R N n a b c (w64 ((w64 ((Int.fdiv (IntKind.wrap .u64 ((w64 (d + e)))) (2 ^ (min (Int.toNat (1:Int)) (IntKind.bits .u64)))))) + (1:Int))) e) else (Z40.l0 R N n a b c d (w64 ((Int.fdiv (IntKind.wrap .u64 ((w64 (d + e)))) (2 ^ (min (Int.toNat (1:Int)) (IntKind.bits .u64))))))))))) else (bif (decide (d < c)) then ((idx? a d).bind fun y18 => ((callT R n_Z10 o_Z10 [⟨yL,(y18,()).1⟩,⟨yL,b⟩]).bind fun r19 => some ⟨o_Z39,(d,(r19.1 == (0:Int)),())⟩)) else some ⟨o_Z39,(d,false,())⟩)) := (hw _ _).trans (by kernel_rfl)
theorem Z40.ev (R:Run) (N:Nat) (a0:vK) (a1:(List Int)):evFn E R sg_Z39 pol_Z39 F_Z39 N [⟨yK,a0⟩,⟨yL,a1⟩,⟨(.fn n_Z10 .nil),()⟩] = (Z40.l0 R N N a0 a1 (List.length a0:Int) (0:Int) (List.length a0:Int)) := by kernel_rfl
theorem Z15.ev (R:Run) (N:Nat) (a0:vK) (a1:(List Int)):evFn E R sg_Z15 pol_Z15 F_Z15 N [⟨yK,a0⟩,⟨yL,a1⟩] = ((callT R n_Z39 o_Z39 [⟨yK,a0⟩,⟨yL,a1⟩,⟨(.fn n_Z10 .nil),()⟩]).bind fun r1 => (bif (!r1.2.1) then some ⟨o_Z15,((-1:Int),())⟩ else some ⟨o_Z15,(r1.1,())⟩)) := by kernel_rfl
theorem Z7.ev (R:Run) (N:Nat) (a0:(List Int)) (a1:(vK × Unit)) (a2:(Int × Unit)):evFn E R sg_Z7 pol_Z7 F_Z7 N [⟨yL,a0⟩,⟨(.ptr (.cons yK .nil)),a1⟩,⟨(.ptr (.cons yI .nil)),a2⟩] = ((chk (decide (0 ≤ a2.1) && decide (a2.1 ≤ (List.length a1.1:Int)))).bind fun _ => ((callT R n_Z15 o_Z15 [⟨yK,(List.take (Int.toNat a2.1) a1.1)⟩,⟨yL,a0⟩]).bind fun r1 => some ⟨o_Z7,((decide (r1.1 < (0:Int))),())⟩)) := by kernel_rfl
noncomputable def Z54.l0 (R:Run) (N n:Nat) (a:vK) (b:((vK × Unit) × (Int × Unit) × Unit)) (e f:Int):Option Dv := R.w (some ⟨(.c (.d yK a)::(.c (.d (.fn n_Z7 (.cons (.ptr (.cons yK .nil)) (.cons (.ptr (.cons yI .nil)) .nil))) b)::(zd 5 (.c (.d yI e)::(.c (.d yI f)::(zd 10 [])))))),(zo 21 [])⟩) fun st => q0_5 R N n st (kB R pol_Z53 0 (q0_3 R N (kTop E sg_Z53 F_Z53)))
theorem Z54.l0_succ (R:Run) (hw:R.ok) (N n:Nat) (a:vK) (b:((vK × Unit) × (Int × Unit) × Unit)) (c d:Int):Z54.l0 R N (n + 1) a b c d = (bif (decide (d < c)) then ((idx? a d).bind fun y5 => ((callT R n_Z7 o_Z7 [⟨yL,(y5,()).1⟩,⟨(.ptr (.cons yK .nil)),b.1⟩,⟨(.ptr (.cons yI .nil)),b.2.1⟩]).bind fun r6 => (bif r6.1 then some ⟨o_Z53,(d,())⟩ else (Z54.l0 R N n a b c (w64 (d + (1:Int))))))) else some ⟨o_Z53,((-1:Int),())⟩) := (hw _ _).trans (by kernel_rfl)
theorem Z54.ev (R:Run) (N:Nat) (a0:vK) (a1:((vK × Unit) × (Int × Unit) × Unit)):evFn E R sg_Z53 pol_Z53 F_Z53 N [⟨yK,a0⟩,⟨(.fn n_Z7 (.cons (.ptr (.cons yK .nil)) (.cons (.ptr (.cons yI .nil)) .nil))),a1⟩] = (Z54.l0 R N N a0 a1 (List.length a0:Int) (0:Int)) := by kernel_rfl
theorem Z47.ev (R:Run) (N:Nat) (a0:vK) (a1:((vK × Unit) × (Int × Unit) × Unit)):evFn E R sg_Z46 pol_Z46 F_Z46 N [⟨yK,a0⟩,⟨(.fn n_Z7 (.cons (.ptr (.cons yK .nil)) (.cons (.ptr (.cons yI .nil)) .nil))),a1⟩] = ((callT R n_Z53 o_Z53 [⟨yK,a0⟩,⟨(.fn n_Z7 (.cons (.ptr (.cons yK .nil)) (.cons (.ptr (.cons yI .nil)) .nil))),a1⟩]).bind fun r1 => some ⟨o_Z46,((decide (r1.1 ≥ (0:Int))),())⟩) := by kernel_rfl
noncomputable def Z6.j1 (R:Run) (N a:Nat) (b:(List Int)) (e:vK) (f g:Int) (h:Bool) (i:vK) (j:Int):Option Dv := R.w (some ⟨(V.dead::(.c (.box 1 0)::(V.dead::(.c (.box 3 0)::(.c (.d yL b)::(V.dead::(.c (.d yK e)::(.c (.d yI f)::(.c (.d yI g)::(zd 21 (.c (.d .bool h)::(zd 9 [])))))))))))),(none::(some (.box [.d yK i] true false)::(none::(some (.box [.d yI j] false false)::(zo 37 [])))))⟩) fun st => eC R pol_Z6 N [1,0,1,0,0,1,1,0,0,1,0,1] F_Z6 st (kS R pol_Z6 6 N [1,0,1,0,0,1,1,0,0,1,1] F_Z6 (kB R pol_Z6 1 (kS R pol_Z6 8 N [1,0,1,0,0,1,1,1] F_Z6 (kL R pol_Z6 2 N [1,0,1,0,0] F_Z6 a (kB R pol_Z6 0 (kS R pol_Z6 9 N [1,1] F_Z6 (kTop E sg_Z6 F_Z6)))))))
noncomputable def Z6.l0 (R:Run) (N n:Nat) (a:vK) (b e:Int) (f:vK):Option Dv := R.w (some ⟨(V.dead::(.c (.box 1 0)::(zd 4 (.c (.d yK a)::(.c (.d yI b)::(.c (.d yI e)::(zd 31 []))))))),(none::(some (.box [.d yK f] true false)::(zo 39 [])))⟩) fun st => lC R pol_Z6 2 N [1,0,1,0,0] F_Z6 n st (kB R pol_Z6 0 (kS R pol_Z6 9 N [1,1] F_Z6 (kTop E sg_Z6 F_Z6)))
theorem Z6.j1_eq (R:Run) (hw:R.ok) (N a:Nat) (b:(List Int)) (c:vK) (d e:Int) (f:Bool) (g:vK) (h:Int):Z6.j1 R N a b c d e f g h = (bif f then some ⟨o_Z6,(false,())⟩ else ((callT R n_Z12 o_Z12 [⟨yL,b⟩]).bind fun r14 => ((callT R n_Z46 o_Z46 [⟨yK,r14.1⟩,⟨(.fn n_Z7 (.cons (.ptr (.cons yK .nil)) (.cons (.ptr (.cons yI .nil)) .nil))),((g,()),(h,()),())⟩]).bind fun r15 => (bif r15.1 then some ⟨o_Z6,(false,())⟩ else (Z6.l0 R N a c d (w64 (e + (1:Int))) g))))) := (hw _ _).trans (by kernel_rfl)
theorem Z6.l0_succ (R:Run) (hw:R.ok) (N n:Nat) (a:vK) (b c:Int) (d:vK):Z6.l0 R N (n + 1) a b c d = (bif (decide (c < b)) then ((idx? a c).bind fun y5 => ((callT R n_Z8 o_Z8 [⟨yL,(y5,()).1⟩]).bind fun r6 => (bif (!r6.1) then (Z6.j1 R N n ((y5,()).1) a b c true d c) else (bif (decide (c > (0:Int))) then ((idx? d (w64 (c - (1:Int)))).bind fun y20 => ((callT R n_Z10 o_Z10 [⟨yL,(y20,()).1⟩,⟨yL,(y5,()).1⟩]).bind fun r21 => (Z6.j1 R N n ((y5,()).1) a b c (decide (r21.1 ≥ (0:Int))) d c))) else (Z6.j1 R N n ((y5,()).1) a b c false d c))))) else some ⟨o_Z6,((decide ((List.length d:Int) ≤ (48:Int))),())⟩) := (hw _ _).trans (by kernel_rfl)
theorem Z6.ev (R:Run) (N:Nat) (a0:vK):evFn E R sg_Z6 pol_Z6 F_Z6 N [⟨yK,a0⟩] = (Z6.l0 R N N a0 (List.length a0:Int) (0:Int) a0) := by kernel_rfl
noncomputable def Z21.l0 (R:Run) (N n:Nat) (a:vK) (b e:Int) (f:(List Int)):Option Dv := R.w (some ⟨(zd 3 (.c (.arr 21)::(zd 3 (.c (.d yK a)::(.c (.d yI b)::(.c (.d yI e)::(zd 14 []))))))),(zo 21 (some (.arr yI f true false false)::(zo 3 [])))⟩) fun st => lC R pol_Z21 3 N [1,1,0,1,0,0] F_Z21 n st (kB R pol_Z21 0 (kS R pol_Z21 8 N [1,1,1] F_Z21 (kTop E sg_Z21 F_Z21)))
theorem Z21.l0_succ (R:Run) (hw:R.ok) (N n:Nat) (a:vK) (b c:Int) (d:(List Int)):Z21.l0 R N (n + 1) a b c d = (bif (decide (c < b)) then ((idx? a c).bind fun y5 => (bif ((List.length (y5,()).1:Int) == (1:Int)) then ((idx? (y5,()).1 (0:Int)).bind fun y6 => ((chk (decide ((List.length d + List.length [(y6,()).1]) * 8 ≤ 70368744177664))).bind fun _ => (Z21.l0 R N n a b (w64 (c + (1:Int))) (d ++ [(y6,()).1])))) else (Z21.l0 R N n a b (w64 (c + (1:Int))) d))) else some ⟨o_Z21,(d,())⟩) := (hw _ _).trans (by kernel_rfl)
theorem Z21.ev (R:Run) (N:Nat) (a0:vK):evFn E R sg_Z21 pol_Z21 F_Z21 N [⟨yK,a0⟩] = (Z21.l0 R N N a0 (List.length a0:Int) (0:Int) ([]:List Int)) := by kernel_rfl
noncomputable def Z58.l0 (R:Run) (N n:Nat) (a:(List Int)) (b e f:Int):Option Dv := R.w (some ⟨(.c (.d yL a)::(.c (.d yI b)::(zd 5 (.c (.d yI e)::(.c (.d yI f)::(zd 10 [])))))),(zo 21 [])⟩) fun st => lC R pol_Z58 2 N [1,0,1,0,0] F_Z58 n st (kB R pol_Z58 0 (kS R pol_Z58 7 N [1,1] F_Z58 (kTop E sg_Z58 F_Z58)))
theorem Z58.l0_succ (R:Run) (hw:R.ok) (N n:Nat) (a:(List Int)) (b c d:Int):Z58.l0 R N (n + 1) a b c d = (bif (decide (d < c)) then ((idx? a d).bind fun y5 => (bif (b == (y5,()).1) then some ⟨o_Z58,(d,())⟩ else (Z58.l0 R N n a b c (w64 (d + (1:Int)))))) else some ⟨o_Z58,((-1:Int),())⟩) := (hw _ _).trans (by kernel_rfl)
theorem Z58.ev (R:Run) (N:Nat) (a0:(List Int)) (a1:Int):evFn E R sg_Z58 pol_Z58 F_Z58 N [⟨yL,a0⟩,⟨yI,a1⟩] = (Z58.l0 R N N a0 a1 (List.length a0:Int) (0:Int)) := by kernel_rfl
noncomputable def Z13.l0 (R:Run) (N n:Nat) (a b e:(List Int)) (f g:Int) (h:(List Int)):Option Dv := R.w (some ⟨(V.dead::(.c (.d yL a)::(zd 5 (.c (.d yL b)::(.c (.arr 27)::(zd 4 (.c (.d yL e)::(.c (.d yI f)::(.c (.d yI g)::(zd 17 [])))))))))),(zo 27 (some (.arr yI h true false false)::(zo 9 [])))⟩) fun st => lC R pol_Z13 4 N [1,1,1,0,1,0,0] F_Z13 n st (kB R pol_Z13 0 (kS R pol_Z13 8 N [1,1,1,1] F_Z13 (kTop E sg_Z13 F_Z13)))
theorem Z13.l0_succ (R:Run) (hw:R.ok) (N n:Nat) (a b c:(List Int)) (d e:Int) (f:(List Int)):Z13.l0 R N (n + 1) a b c d e f = (bif (decide (e < d)) then ((idx? c e).bind fun y8 => ((callT R n_Z58 o_Z58 [⟨yL,b⟩,⟨yI,(y8,()).1⟩]).bind fun r9 => ((idx? a r9.1).bind fun y10 => ((chk (decide ((List.length f + List.length [(y10,()).1]) * 8 ≤ 70368744177664))).bind fun _ => (Z13.l0 R N n a b c d (w64 (e + (1:Int))) (f ++ [(y10,()).1])))))) else ((callT R n_Z60 o_Z60 [⟨yL,f⟩]).bind fun r17 => ((callT R n_Z43 o_Z43 [⟨yL,r17.1⟩]).bind fun r18 => some ⟨o_Z13,(r18.1,())⟩))) := (hw _ _).trans (by kernel_rfl)
theorem Z13.ev (R:Run) (N:Nat) (a0:vK) (a1 a2:(List Int)):evFn E R sg_Z13 pol_Z13 F_Z13 N [⟨yK,a0⟩,⟨yL,a1⟩,⟨yL,a2⟩] = ((callT R n_Z21 o_Z21 [⟨yK,a0⟩]).bind fun r1 => (Z13.l0 R N N a1 r1.1 a2 (List.length a2:Int) (0:Int) ([]:List Int))) := by kernel_rfl
theorem Z17.ev (R:Run) (N:Nat) (a0:(List Int)) (a1 a2:(vK × Unit)) (a3:((List Int) × Unit)):evFn E R sg_Z17 pol_Z17 F_Z17 N [⟨yL,a0⟩,⟨(.ptr (.cons yK .nil)),a1⟩,⟨(.ptr (.cons yK .nil)),a2⟩,⟨(.ptr (.cons yL .nil)),a3⟩] = ((callT R n_Z13 o_Z13 [⟨yK,a2.1⟩,⟨yL,a3.1⟩,⟨yL,a0⟩]).bind fun r1 => ((callT R n_Z15 o_Z15 [⟨yK,a1.1⟩,⟨yL,r1.1⟩]).bind fun r2 => some ⟨o_Z17,((decide (r2.1 < (0:Int))),())⟩)) := by kernel_rfl
noncomputable def Z55.l0 (R:Run) (N n:Nat) (a:vK) (b:((vK × Unit) × (vK × Unit) × ((List Int) × Unit) × Unit)) (e f:Int):Option Dv := R.w (some ⟨(.c (.d yK a)::(.c (.d (.fn n_Z17 (.cons (.ptr (.cons yK .nil)) (.cons (.ptr (.cons yK .nil)) (.cons (.ptr (.cons yL .nil)) .nil)))) b)::(zd 5 (.c (.d yI e)::(.c (.d yI f)::(zd 10 [])))))),(zo 21 [])⟩) fun st => q0_5 R N n st (kB R pol_Z53 0 (q0_3 R N (kTop E sg_Z53 F_Z53)))
theorem Z55.l0_succ (R:Run) (hw:R.ok) (N n:Nat) (a:vK) (b:((vK × Unit) × (vK × Unit) × ((List Int) × Unit) × Unit)) (c d:Int):Z55.l0 R N (n + 1) a b c d = (bif (decide (d < c)) then ((idx? a d).bind fun y5 => ((callT R n_Z17 o_Z17 [⟨yL,(y5,()).1⟩,⟨(.ptr (.cons yK .nil)),b.1⟩,⟨(.ptr (.cons yK .nil)),b.2.1⟩,⟨(.ptr (.cons yL .nil)),b.2.2.1⟩]).bind fun r6 => (bif r6.1 then some ⟨o_Z53,(d,())⟩ else (Z55.l0 R N n a b c (w64 (d + (1:Int))))))) else some ⟨o_Z53,((-1:Int),())⟩) := (hw _ _).trans (by kernel_rfl)
theorem Z55.ev (R:Run) (N:Nat) (a0:vK) (a1:((vK × Unit) × (vK × Unit) × ((List Int) × Unit) × Unit)):evFn E R sg_Z53 pol_Z53 F_Z53 N [⟨yK,a0⟩,⟨(.fn n_Z17 (.cons (.ptr (.cons yK .nil)) (.cons (.ptr (.cons yK .nil)) (.cons (.ptr (.cons yL .nil)) .nil)))),a1⟩] = (Z55.l0 R N N a0 a1 (List.length a0:Int) (0:Int)) := by kernel_rfl
theorem Z48.ev (R:Run) (N:Nat) (a0:vK) (a1:((vK × Unit) × (vK × Unit) × ((List Int) × Unit) × Unit)):evFn E R sg_Z46 pol_Z46 F_Z46 N [⟨yK,a0⟩,⟨(.fn n_Z17 (.cons (.ptr (.cons yK .nil)) (.cons (.ptr (.cons yK .nil)) (.cons (.ptr (.cons yL .nil)) .nil)))),a1⟩] = ((callT R n_Z53 o_Z53 [⟨yK,a0⟩,⟨(.fn n_Z17 (.cons (.ptr (.cons yK .nil)) (.cons (.ptr (.cons yK .nil)) (.cons (.ptr (.cons yL .nil)) .nil)))),a1⟩]).bind fun r1 => some ⟨o_Z46,((decide (r1.1 ≥ (0:Int))),())⟩) := by kernel_rfl
theorem Z16.ev (R:Run) (N:Nat) (a0 a1:vK) (a2:(List Int)):evFn E R sg_Z16 pol_Z16 F_Z16 N [⟨yK,a0⟩,⟨yK,a1⟩,⟨yL,a2⟩] = ((callT R n_Z21 o_Z21 [⟨yK,a0⟩]).bind fun r1 => (bif ((List.length a2:Int) != (List.length r1.1:Int)) then some ⟨o_Z16,(false,())⟩ else ((callT R n_Z46 o_Z46 [⟨yK,a0⟩,⟨(.fn n_Z17 (.cons (.ptr (.cons yK .nil)) (.cons (.ptr (.cons yK .nil)) (.cons (.ptr (.cons yL .nil)) .nil)))),((a1,()),(a0,()),(a2,()),())⟩]).bind fun r2 => some ⟨o_Z16,((!r2.1),())⟩))) := by kernel_rfl
noncomputable def Z20.j0 (R:Run) (N:Nat) (a:(List Int)) (b:Bool) (e f:vK):Option Dv := R.w (some ⟨(V.dead::(V.dead::(.c (.d yL a)::(.c (.box 3 0)::(.c (.box 4 0)::(V.dead::(V.dead::(.c (.d .bool b)::(zd 14 []))))))))),(zo 3 (some (.box [.d yK e] false false)::(some (.box [.d yK f] false false)::(zo 20 []))))⟩) fun st => eC R pol_Z20 N [1,0,0,1] F_Z20 st (kB R pol_Z20 0 (kS R pol_Z20 5 N [1,1] F_Z20 (kTop E sg_Z20 F_Z20)))
theorem Z20.j0_eq (R:Run) (hw:R.ok) (N:Nat) (a:(List Int)) (b:Bool) (c d:vK):Z20.j0 R N a b c d = (bif b then some ⟨o_Z20,((1:Int),())⟩ else ((callT R n_Z16 o_Z16 [⟨yK,c⟩,⟨yK,d⟩,⟨yL,a⟩]).bind fun r6 => (bif (!r6.1) then some ⟨o_Z20,((7:Int),())⟩ else some ⟨o_Z20,((0:Int),())⟩))) := (hw _ _).trans (by kernel_rfl)
theorem Z20.ev (R:Run) (N:Nat) (a0 a1:vK) (a2:(List Int)):evFn E R sg_Z20 pol_Z20 F_Z20 N [⟨yK,a0⟩,⟨yK,a1⟩,⟨yL,a2⟩] = ((callT R n_Z6 o_Z6 [⟨yK,a0⟩]).bind fun r1 => (bif (!r1.1) then (Z20.j0 R N a2 true a0 a1) else ((callT R n_Z6 o_Z6 [⟨yK,a1⟩]).bind fun r7 => (Z20.j0 R N a2 (!r7.1) a0 a1)))) := by kernel_rfl
noncomputable def Z41.j0 (R:Run) (N:Nat) (a:(List Int)) (b:Bool):Option Dv := R.w (some ⟨(.c (.d yL a)::(zd 3 (.c (.d .bool b)::(zd 3 [])))),(zo 9 [])⟩) fun st => eC R pol_Z41 N [1,0,1] F_Z41 st (kS R pol_Z41 3 N [1,1] F_Z41 (kTop E sg_Z41 F_Z41))
theorem Z41.j0_eq (R:Run) (hw:R.ok) (N:Nat) (a:(List Int)) (b:Bool):Z41.j0 R N a b = (bif b then some ⟨o_Z41,(([]:List Int),())⟩ else ((chk (decide ((List.length ([]:List Int) + List.length a) * 8 ≤ 70368744177664))).bind fun _ => some ⟨o_Z41,((([]:List Int) ++ a),())⟩)) := (hw _ _).trans (by kernel_rfl)
theorem Z41.ev (R:Run) (N:Nat) (a0:(List Int)):evFn E R sg_Z41 pol_Z41 F_Z41 N [⟨yL,a0⟩] = (bif (List.isEmpty a0) then (both (Z41.j0 R N a0 true) (Z41.j0 R N a0 false)) else (Z41.j0 R N a0 false)) := by kernel_rfl
noncomputable def Z11.l0 (R:Run) (N n:Nat) (a:vK) (b e:Int) (f:vK):Option Dv := R.w (some ⟨(zd 3 (.c (.arr 16)::(V.dead::(V.dead::(.c (.d yK a)::(.c (.d yI b)::(.c (.d yI e)::(zd 10 [])))))))),(zo 16 (some (.arr yL f true false false)::(zo 4 [])))⟩) fun st => lC R pol_Z11 3 N [1,1,0,1,0,0] F_Z11 n st (kB R pol_Z11 0 (kS R pol_Z11 7 N [1,1,1] F_Z11 (kTop E sg_Z11 F_Z11)))
theorem Z11.l0_succ (R:Run) (hw:R.ok) (N n:Nat) (a:vK) (b c:Int) (d:vK):Z11.l0 R N (n + 1) a b c d = (bif (decide (c < b)) then ((idx? a c).bind fun y5 => ((callT R n_Z41 o_Z41 [⟨yL,(y5,()).1⟩]).bind fun r6 => ((chk (decide ((List.length d + List.length [r6.1]) * 24 ≤ 70368744177664))).bind fun _ => (Z11.l0 R N n a b (w64 (c + (1:Int))) (d ++ [r6.1]))))) else some ⟨o_Z11,(d,())⟩) := (hw _ _).trans (by kernel_rfl)
theorem Z11.ev (R:Run) (N:Nat) (a0:vK):evFn E R sg_Z11 pol_Z11 F_Z11 N [⟨yK,a0⟩] = (Z11.l0 R N N a0 (List.length a0:Int) (0:Int) ([]:List (List Int))) := by kernel_rfl
noncomputable def Z51.l0 (R:Run) (N n:Nat) (a b:(List Int)) (e f:Int):Option Dv := R.w (some ⟨(.c (.d yL a)::(.c (.d yL b)::(zd 10 (.c (.d yI e)::(.c (.d yI f)::(zd 12 [])))))),(zo 28 [])⟩) fun st => lC R pol_Z51 4 N [1,1,0,1,0,0] F_Z51 n st (kB R pol_Z51 0 (kS R pol_Z51 9 N [1,1,1] F_Z51 (kTop E sg_Z51 F_Z51)))
theorem Z51.l0_succ (R:Run) (hw:R.ok) (N n:Nat) (a b:(List Int)) (c d:Int):Z51.l0 R N (n + 1) a b c d = (bif (decide (d < c)) then ((idx? a d).bind fun y5 => ((idx? b d).bind fun y6 => (bif ((y5,()).1 != (y6,()).1) then some ⟨o_Z51,(false,())⟩ else (Z51.l0 R N n a b c (w64 (d + (1:Int))))))) else some ⟨o_Z51,(true,())⟩) := (hw _ _).trans (by kernel_rfl)
theorem Z51.ev (R:Run) (N:Nat) (a0 a1:(List Int)):evFn E R sg_Z51 pol_Z51 F_Z51 N [⟨yL,a0⟩,⟨yL,a1⟩] = (bif ((List.length a0:Int) != (List.length a1:Int)) then some ⟨o_Z51,(false,())⟩ else (Z51.l0 R N N a0 a1 (List.length a0:Int) (0:Int))) := by kernel_rfl
theorem Z14.ev (R:Run) (N:Nat) (a0:vK):evFn E R sg_Z14 pol_Z14 F_Z14 N [⟨yK,a0⟩] = ((callT R n_Z11 o_Z11 [⟨yK,a0⟩]).bind fun r1 => ((callT R n_Z59 o_Z59 [⟨yK,r1.1⟩,⟨(.fn n_Z10 .nil),()⟩]).bind fun r2 => ((callT R n_Z42 o_Z42 [⟨yK,r2.1⟩,⟨(.fn n_Z51 .nil),()⟩]).bind fun r3 => some ⟨o_Z14,(r3.1,())⟩))) := by kernel_rfl
noncomputable def Z5.l0 (R:Run) (N n:Nat) (a:(List Int)) (b:vK) (e f:Int) (g h:vK):Option Dv := R.w (some ⟨(V.dead::(V.dead::(.c (.d yL a)::(.c (.box 3 0)::(V.dead::(V.dead::(.c (.box 6 0)::(V.dead::(V.dead::(.c (.arr 33)::(zd 11 (.c (.d yK b)::(.c (.d yI e)::(.c (.d yI f)::(zd 13 []))))))))))))))),(zo 3 (some (.box [.d yK g] false false)::(none::(none::(some (.box [.nils yL] false false)::(zo 26 (some (.arr yL h true false false)::(zo 8 []))))))))⟩) fun st => lC R pol_Z5 6 N [1,1,1,0,1,0,0] F_Z5 n st (kB R pol_Z5 0 (kS R pol_Z5 10 N [1,1,1,1] F_Z5 (kTop E sg_Z5 F_Z5)))
theorem Z5.l0_succ (R:Run) (hw:R.ok) (N n:Nat) (a:(List Int)) (b:vK) (c d:Int) (e f:vK):Z5.l0 R N (n + 1) a b c d e f = (bif (decide (d < c)) then ((idx? b d).bind fun y8 => ((callT R n_Z13 o_Z13 [⟨yK,e⟩,⟨yL,a⟩,⟨yL,(y8,()).1⟩]).bind fun r9 => ((chk (decide ((List.length f + List.length [r9.1]) * 24 ≤ 70368744177664))).bind fun _ => (Z5.l0 R N n a b c (w64 (d + (1:Int))) e (f ++ [r9.1]))))) else ((callT R n_Z14 o_Z14 [⟨yK,f⟩]).bind fun r16 => some ⟨o_Z5,(r16.1,(0:Int),())⟩)) := (hw _ _).trans (by kernel_rfl)
theorem Z5.ev (R:Run) (N:Nat) (a0 a1:vK) (a2:(List Int)):evFn E R sg_Z5 pol_Z5 F_Z5 N [⟨yK,a0⟩,⟨yK,a1⟩,⟨yL,a2⟩] = ((callT R n_Z20 o_Z20 [⟨yK,a0⟩,⟨yK,a1⟩,⟨yL,a2⟩]).bind fun r1 => (bif (r1.1 != (0:Int)) then some ⟨o_Z5,(([]:List (List Int)),r1.1,())⟩ else (Z5.l0 R N N a2 a0 (List.length a0:Int) (0:Int) a0 ([]:List (List Int))))) := by kernel_rfl
noncomputable def Z25.l0 (R:Run) (N n:Nat) (a b:(List Int)) (e:Int):Option Dv := R.w (some ⟨(.c (.d yL a)::(.c (.d yL b)::(zd 3 (.c (.d yI e)::(zd 20 []))))),(zo 28 [])⟩) fun st => lC R pol_Z25 4 N [1,1,0,1,0,0] F_Z25 n st (kB R pol_Z25 0 (kS R pol_Z25 8 N [1,1,1] F_Z25 (kTop E sg_Z25 F_Z25)))
theorem Z25.l0_succ (R:Run) (hw:R.ok) (N n:Nat) (a b:(List Int)) (c:Int):Z25.l0 R N (n + 1) a b c = (bif (decide (c < (List.length a:Int))) then ((idx? a c).bind fun y4 => ((idx? b c).bind fun y5 => (bif ((y4,()).1 != (y5,()).1) then some ⟨o_Z25,(false,())⟩ else (Z25.l0 R N n a b (w64 (c + (1:Int))))))) else some ⟨o_Z25,(true,())⟩) := (hw _ _).trans (by kernel_rfl)
theorem Z25.ev (R:Run) (N:Nat) (a0 a1:(List Int)):evFn E R sg_Z25 pol_Z25 F_Z25 N [⟨yL,a0⟩,⟨yL,a1⟩] = (bif ((List.length a0:Int) != (List.length a1:Int)) then some ⟨o_Z25,(false,())⟩ else (Z25.l0 R N N a0 a1 (0:Int))) := by kernel_rfl
noncomputable def Z26.l0 (R:Run) (N n:Nat) (a b:vK) (e:Int):Option Dv := R.w (some ⟨(.c (.d yK a)::(.c (.d yK b)::(zd 3 (.c (.d yI e)::(zd 21 []))))),(zo 29 [])⟩) fun st => lC R pol_Z26 4 N [1,1,0,1,0,0] F_Z26 n st (kB R pol_Z26 0 (kS R pol_Z26 8 N [1,1,1] F_Z26 (kTop E sg_Z26 F_Z26)))
theorem Z26.l0_succ (R:Run) (hw:R.ok) (N n:Nat) (a b:vK) (c:Int):Z26.l0 R N (n + 1) a b c = (bif (decide (c < (List.length a:Int))) then ((idx? a c).bind fun y4 => ((idx? b c).bind fun y5 => ((callT R n_Z25 o_Z25 [⟨yL,(y4,()).1⟩,⟨yL,(y5,()).1⟩]).bind fun r6 => (bif (!r6.1) then some ⟨o_Z26,(false,())⟩ else (Z26.l0 R N n a b (w64 (c + (1:Int)))))))) else some ⟨o_Z26,(true,())⟩) := (hw _ _).trans (by kernel_rfl)
theorem Z26.ev (R:Run) (N:Nat) (a0 a1:vK):evFn E R sg_Z26 pol_Z26 F_Z26 N [⟨yK,a0⟩,⟨yK,a1⟩] = (bif ((List.length a0:Int) != (List.length a1:Int)) then some ⟨o_Z26,(false,())⟩ else (Z26.l0 R N N a0 a1 (0:Int))) := by kernel_rfl
theorem Z24.ev (R:Run) (N:Nat) (a0 a1:vK):evFn E R sg_Z24 pol_Z24 F_Z24 N [⟨yK,a0⟩,⟨yK,a1⟩] = ((callT R n_Z26 o_Z26 [⟨yK,a0⟩,⟨yK,a1⟩]).bind fun r1 => (bif (!r1.1) then some ⟨o_Z24,(false,())⟩ else some ⟨o_Z24,(true,())⟩)) := by kernel_rfl
noncomputable def Z31.l0 (R:Run) (N n:Nat) (a b:Int) (e:(List Int)):Option Dv := R.w (some ⟨(.c (.arr 19)::(.c (.d yI a)::(zd 3 (.c (.d yI b)::(zd 13 []))))),(zo 19 (some (.arr yI e true false true)::(none::[])))⟩) fun st => lC R pol_Z31 2 N [1,0,1,0,0] F_Z31 n st (kB R pol_Z31 0 (kS R pol_Z31 6 N [1,1] F_Z31 (kTop E sg_Z31 F_Z31)))
theorem Z31.l0_succ (R:Run) (hw:R.ok) (N n:Nat) (a b:Int) (c:(List Int)):Z31.l0 R N (n + 1) a b c = (bif (decide (b < (List.length c:Int))) then ((chk (decide (0 ≤ b) && decide (b < (List.length c:Int)))).bind fun _ => (Z31.l0 R N n (w64 (a + (1:Int))) (w64 (b + (1:Int))) (List.set c (Int.toNat b) a))) else some ⟨o_Z31,(a,c,())⟩) := (hw _ _).trans (by kernel_rfl)
theorem Z31.ev (R:Run) (N:Nat) (a0:(List Int)) (a1:Int):evFn E R sg_Z31 pol_Z31 F_Z31 N [⟨yL,a0⟩,⟨yI,a1⟩] = (Z31.l0 R N N a1 (0:Int) a0) := by kernel_rfl
theorem Z30.ev (R:Run) (N:Nat) (a0:vK) (a1:Int):evFn E R sg_Z30 pol_Z30 F_Z30 N [⟨yK,a0⟩,⟨yI,a1⟩] = ((callT R n_Z32 o_Z32 [⟨yK,a0⟩,⟨yI,a1⟩]).bind fun r1 => some ⟨o_Z30,(r1.1,r1.2.1,())⟩) := by kernel_rfl
noncomputable def Z28.l0 (R:Run) (N n:Nat) (a:(List Int)) (b e:Int):Option Dv := R.w (some ⟨(.c (.d yL a)::(.c (.d yI b)::(zd 3 (.c (.d yI e)::(zd 15 []))))),(zo 23 [])⟩) fun st => lC R pol_Z28 2 N [1,0,1,0,0] F_Z28 n st (kB R pol_Z28 0 (kS R pol_Z28 7 N [1,1] F_Z28 (kTop E sg_Z28 F_Z28)))
theorem Z28.l0_succ (R:Run) (hw:R.ok) (N n:Nat) (a:(List Int)) (b c:Int):Z28.l0 R N (n + 1) a b c = (bif (decide (c < (List.length a:Int))) then ((idx? a c).bind fun y4 => (bif ((y4,()).1 != b) then some ⟨o_Z28,((-1:Int),())⟩ else (Z28.l0 R N n a (w64 (b + (1:Int))) (w64 (c + (1:Int)))))) else some ⟨o_Z28,(b,())⟩) := (hw _ _).trans (by kernel_rfl)
theorem Z28.ev (R:Run) (N:Nat) (a0:(List Int)) (a1:Int):evFn E R sg_Z28 pol_Z28 F_Z28 N [⟨yL,a0⟩,⟨yI,a1⟩] = (Z28.l0 R N N a0 a1 (0:Int)) := by kernel_rfl
noncomputable def Z29.l0 (R:Run) (N n:Nat) (a:vK) (b e:Int):Option Dv := R.w (some ⟨(.c (.d yK a)::(.c (.d yI b)::(zd 3 (.c (.d yI e)::(zd 15 []))))),(zo 23 [])⟩) fun st => lC R pol_Z29 2 N [1,0,1,0,0] F_Z29 n st (kB R pol_Z29 0 (kS R pol_Z29 7 N [1,1] F_Z29 (kTop E sg_Z29 F_Z29)))
theorem Z29.l0_succ (R:Run) (hw:R.ok) (N n:Nat) (a:vK) (b c:Int):Z29.l0 R N (n + 1) a b c = (bif (decide (c < (List.length a:Int))) then ((idx? a c).bind fun y4 => ((callT R n_Z28 o_Z28 [⟨yL,(y4,()).1⟩,⟨yI,b⟩]).bind fun r5 => (bif (decide (r5.1 < (0:Int))) then some ⟨o_Z29,((-1:Int),())⟩ else (Z29.l0 R N n a r5.1 (w64 (c + (1:Int))))))) else some ⟨o_Z29,(b,())⟩) := (hw _ _).trans (by kernel_rfl)
theorem Z29.ev (R:Run) (N:Nat) (a0:vK) (a1:Int):evFn E R sg_Z29 pol_Z29 F_Z29 N [⟨yK,a0⟩,⟨yI,a1⟩] = (Z29.l0 R N N a0 a1 (0:Int)) := by kernel_rfl
theorem Z27.ev (R:Run) (N:Nat) (a0:vK) (a1:Int):evFn E R sg_Z27 pol_Z27 F_Z27 N [⟨yK,a0⟩,⟨yI,a1⟩] = ((callT R n_Z29 o_Z29 [⟨yK,a0⟩,⟨yI,a1⟩]).bind fun r1 => (bif (decide (r1.1 < (0:Int))) then some ⟨o_Z27,((-1:Int),())⟩ else some ⟨o_Z27,(r1.1,())⟩)) := by kernel_rfl
end VeT

open Go Go.Proofs Ve
set_option linter.unusedVariables false
set_option maxRecDepth 100000
namespace VeT
noncomputable def Z23.j4 (R:Run) (N:Nat) (a:Int) (b:Bool) (e:vK):Option Dv := R.w (some ⟨(zd 13 (.c (.box 13 0)::(V.dead::(V.dead::(.c (.d yI a)::(zd 114 (.c (.d .bool b)::(zd 8 [])))))))),(zo 13 (some (.box [.arr 146] false false)::(zo 132 (some (.arr yL e true false false)::[]))))⟩) fun st => eC R pol_Z23 N [1,1,1,1,1,1,1,1,1,1,1,1,1,1,1,1,1,1,1,1,1,1,1,1,1,1,1,1,0,1] F_Z23 st (kS R pol_Z23 40 N [1,1,1,1,1,1,1,1,1,1,1,1,1,1,1,1,1,1,1,1,1,1,1,1,1,1,1,1,1] F_Z23 (kTop E sg_Z23 F_Z23))
noncomputable def Z23.j3 (R:Run) (N:Nat) (a b e:Int) (f g h:vK):Option Dv := R.w (some ⟨(zd 8 (.c (.box 8 0)::(.c (.d yI a)::(zd 3 (.c (.box 13 0)::(V.dead::(V.dead::(.c (.d yI b)::(V.dead::(.c (.box 18 0)::(.c (.d yI e)::(zd 120 [])))))))))))),(zo 8 (some (.box [.d yK f] false false)::(zo 4 (some (.box [.arr 146] false false)::(zo 4 (some (.box [.d yK g] false false)::(zo 127 (some (.arr yL h true false false)::[]))))))))⟩) fun st => eC R pol_Z23 N [1,1,1,1,1,1,1,1,1,1,1,1,1,1,1,1,1,1,1,1,1,1,1,1,1,1,1,1] F_Z23 st (kTop E sg_Z23 F_Z23)
noncomputable def Z23.j2 (R:Run) (N:Nat) (a:(List Int)) (b:Int) (e:Bool) (f g h i:vK):Option Dv := R.w (some ⟨(V.dead::(V.dead::(.c (.d yL a)::(.c (.box 3 0)::(.c (.box 4 0)::(zd 3 (.c (.box 8 0)::(.c (.d yI b)::(zd 3 (.c (.box 13 0)::(zd 87 (.c (.d .bool e)::(zd 38 []))))))))))))),(zo 3 (some (.box [.d yK f] false false)::(some (.box [.d yK g] false false)::(zo 3 (some (.box [.d yK h] false false)::(zo 4 (some (.box [.arr 146] false false)::(zo 132 (some (.arr yL i true false false)::[])))))))))⟩) fun st => eC R pol_Z23 N [1,1,1,1,1,1,1,1,1,1,1,1,1,1,1,1,1,1,1,1,0,1] F_Z23 st (kS R pol_Z23 29 N [1,1,1,1,1,1,1,1,1,1,1,1,1,1,1,1,1,1,1,1,1] F_Z23 (kTop E sg_Z23 F_Z23))
noncomputable def Z23.j1 (R:Run) (N:Nat) (a:(List Int)) (b e:Int) (f:Bool) (g h i j k:vK) (l:(List Int)) (m:vK):Option Dv := R.w (some ⟨(V.dead::(V.dead::(.c (.d yL a)::(.c (.box 3 0)::(.c (.box 4 0)::(zd 3 (.c (.box 8 0)::(.c (.d yI b)::(.c (.box 10 0)::(.c (.box 11 0)::(.c (.arr 145)::(.c (.box 13 0)::(.c (.d yI e)::(zd 49 (.c (.d .bool f)::(zd 75 [])))))))))))))))),(zo 3 (some (.box [.d yK g] false false)::(some (.box [.d yK h] false false)::(zo 3 (some (.box [.d yK i] false false)::(none::(some (.box [.arr 143] false false)::(some (.box [.arr 144] false false)::(none::(some (.box [.arr 146] false false)::(zo 129 (some (.arr yL j true false false)::(some (.arr yL k true false false)::(some (.arr yI l true false false)::(some (.arr yL m true false false)::[])))))))))))))))⟩) fun st => eC R pol_Z23 N [1,1,1,1,1,1,1,1,1,1,1,1,0,1] F_Z23 st (kS R pol_Z23 17 N [1,1,1,1,1,1,1,1,1,1,1,1,1] F_Z23 (kTop E sg_Z23 F_Z23))
noncomputable def Z23.j0 (R:Run) (N:Nat) (a:(List Int)) (b:Int) (e f g:vK):Option Dv := R.w (some ⟨(V.dead::(V.dead::(.c (.d yL a)::(.c (.box 3 0)::(.c (.box 4 0)::(zd 3 (.c (.box 8 0)::(.c (.d yI b)::(zd 130 []))))))))),(zo 3 (some (.box [.d yK e] false false)::(some (.box [.d yK f] false false)::(zo 3 (some (.box [.d yK g] false false)::(zo 138 []))))))⟩) fun st => eC R pol_Z23 N [1,1,1,1,1,1,1,1] F_Z23 st (kTop E sg_Z23 F_Z23)
theorem Z23.j4_eq (R:Run) (hw:R.ok) (N:Nat) (a:Int) (b:Bool) (c:vK):Z23.j4 R N a b c = (bif b then some ⟨o_Z23,(false,())⟩ else ((callT R n_Z27 o_Z27 [⟨yK,c⟩,⟨yI,(1:Int)⟩]).bind fun r60 => (bif (decide (r60.1 < (0:Int))) then some ⟨o_Z23,(false,())⟩ else (bif (r60.1 != a) then some ⟨o_Z23,(false,())⟩ else some ⟨o_Z23,(true,())⟩)))) := (hw _ _).trans (by kernel_rfl)
theorem Z23.j3_eq (R:Run) (hw:R.ok) (N:Nat) (a b c:Int) (d e f:vK):Z23.j3 R N a b c d e f = ((callT R n_Z24 o_Z24 [⟨yK,e⟩,⟨yK,d⟩]).bind fun r56 => (bif (!r56.1) then (Z23.j4 R N b true f) else (Z23.j4 R N b (c != a) f))) := (hw _ _).trans (by kernel_rfl)
theorem Z23.j2_eq (R:Run) (hw:R.ok) (N:Nat) (a:(List Int)) (b:Int) (c:Bool) (d e f g:vK):Z23.j2 R N a b c d e f g = (bif c then some ⟨o_Z23,(false,())⟩ else ((callT R n_Z30 o_Z30 [⟨yK,g⟩,⟨yI,(1:Int)⟩]).bind fun r44 => ((callT R n_Z27 o_Z27 [⟨yK,r44.2.1⟩,⟨yI,(1:Int)⟩]).bind fun r45 => (bif (decide (r45.1 < (0:Int))) then some ⟨o_Z23,(false,())⟩ else (bif (r45.1 != r44.1) then some ⟨o_Z23,(false,())⟩ else (both ((callT R n_Z36 o_Z36 [⟨yK,d⟩]).bind fun r46 => (both ((callT R n_Z36 o_Z36 [⟨yK,e⟩]).bind fun r47 => (both ((callT R n_Z37 o_Z37 [⟨yL,a⟩]).bind fun r48 => (both ((callT R n_Z5 o_Z5 [⟨yK,r46.1⟩,⟨yK,r47.1⟩,⟨yL,r48.1⟩]).bind fun r49 => (Z23.j3 R N b r44.1 r49.2.1 f r49.1 r44.2.1)) ((callT R n_Z5 o_Z5 [⟨yK,r46.1⟩,⟨yK,r47.1⟩,⟨yL,r48.1⟩]).bind fun r64 => (Z23.j3 R N b r44.1 r64.2.1 f r64.1 r44.2.1)))) ((callT R n_Z37 o_Z37 [⟨yL,a⟩]).bind fun r71 => ((callT R n_Z5 o_Z5 [⟨yK,r46.1⟩,⟨yK,r47.1⟩,⟨yL,r71.1⟩]).bind fun r72 => (Z23.j3 R N b r44.1 r72.2.1 f r72.1 r44.2.1))))) ((callT R n_Z36 o_Z36 [⟨yK,e⟩]).bind fun r79 => ((callT R n_Z37 o_Z37 [⟨yL,a⟩]).bind fun r80 => ((callT R n_Z5 o_Z5 [⟨yK,r46.1⟩,⟨yK,r79.1⟩,⟨yL,r80.1⟩]).bind fun r81 => (Z23.j3 R N b r44.1 r81.2.1 f r81.1 r44.2.1)))))) ((callT R n_Z36 o_Z36 [⟨yK,d⟩]).bind fun r88 => ((callT R n_Z36 o_Z36 [⟨yK,e⟩]).bind fun r89 => ((callT R n_Z37 o_Z37 [⟨yL,a⟩]).bind fun r90 => ((callT R n_Z5 o_Z5 [⟨yK,r88.1⟩,⟨yK,r89.1⟩,⟨yL,r90.1⟩]).bind fun r91 => (Z23.j3 R N b r44.1 r91.2.1 f r91.1 r44.2.1))))))))))) := (hw _ _).trans (by kernel_rfl)
theorem Z23.j1_eq (R:Run) (hw:R.ok) (N:Nat) (a:(List Int)) (b c:Int) (d:Bool) (e f g h i:vK) (j:(List Int)) (k:vK):Z23.j1 R N a b c d e f g h i j k = (bif d then some ⟨o_Z23,(false,())⟩ else ((callT R n_Z36 o_Z36 [⟨yK,e⟩]).bind fun r28 => ((callT R n_Z24 o_Z24 [⟨yK,h⟩,⟨yK,r28.1⟩]).bind fun r29 => (bif (!r29.1) then some ⟨o_Z23,(false,())⟩ else ((callT R n_Z36 o_Z36 [⟨yK,f⟩]).bind fun r30 => ((callT R n_Z24 o_Z24 [⟨yK,i⟩,⟨yK,r30.1⟩]).bind fun r31 => (bif (!r31.1) then some ⟨o_Z23,(false,())⟩ else ((callT R n_Z37 o_Z37 [⟨yL,a⟩]).bind fun r32 => ((callT R n_Z25 o_Z25 [⟨yL,j⟩,⟨yL,r32.1⟩]).bind fun r33 => (bif (!r33.1) then some ⟨o_Z23,(false,())⟩ else ((callT R n_Z30 o_Z30 [⟨yK,h⟩,⟨yI,(1:Int)⟩]).bind fun r34 => ((callT R n_Z30 o_Z30 [⟨yK,i⟩,⟨yI,r34.1⟩]).bind fun r35 => ((callT R n_Z31 o_Z31 [⟨yL,j⟩,⟨yI,r35.1⟩]).bind fun r36 => (bif (decide (r36.1 < (0:Int))) then (Z23.j2 R N a b true e f g k) else ((callT R n_Z24 o_Z24 [⟨yK,k⟩,⟨yK,g⟩]).bind fun r98 => (bif (!r98.1) then (Z23.j2 R N a b true e f g k) else (Z23.j2 R N a b (c != b) e f g k))))))))))))))))) := (hw _ _).trans (by kernel_rfl)
theorem Z23.j0_eq (R:Run) (hw:R.ok) (N:Nat) (a:(List Int)) (b:Int) (c d e:vK):Z23.j0 R N a b c d e = ((callT R n_Z36 o_Z36 [⟨yK,c⟩]).bind fun r12 => ((callT R n_Z36 o_Z36 [⟨yK,d⟩]).bind fun r13 => ((callT R n_Z37 o_Z37 [⟨yL,a⟩]).bind fun r14 => ((callT R n_Z5 o_Z5 [⟨yK,r12.1⟩,⟨yK,r13.1⟩,⟨yL,r14.1⟩]).bind fun r15 => ((callT R n_Z24 o_Z24 [⟨yK,r15.1⟩,⟨yK,e⟩]).bind fun r16 => (bif (!r16.1) then (Z23.j1 R N a b r15.2.1 true c d e r12.1 r13.1 r14.1 r15.1) else (Z23.j1 R N a b r15.2.1 (r15.2.1 != b) c d e r12.1 r13.1 r14.1 r15.1))))))) := (hw _ _).trans (by kernel_rfl)
theorem Z23.ev (R:Run) (N:Nat) (a0 a1:vK) (a2:(List Int)):evFn E R sg_Z23 pol_Z23 F_Z23 N [⟨yK,a0⟩,⟨yK,a1⟩,⟨yL,a2⟩] = (bif (decide ((List.length a2:Int) > (1048576:Int))) then some ⟨o_Z23,(true,())⟩ else ((callT R n_Z33 o_Z33 [⟨yK,a0⟩,⟨yI,(1048576:Int)⟩]).bind fun r1 => (bif (decide (r1.1 < (0:Int))) then some ⟨o_Z23,(true,())⟩ else ((callT R n_Z33 o_Z33 [⟨yK,a1⟩,⟨yI,r1.1⟩]).bind fun r2 => (bif (decide (r2.1 < (0:Int))) then some ⟨o_Z23,(true,())⟩ else (both ((callT R n_Z36 o_Z36 [⟨yK,a0⟩]).bind fun r3 => (both ((callT R n_Z36 o_Z36 [⟨yK,a1⟩]).bind fun r4 => (both ((callT R n_Z37 o_Z37 [⟨yL,a2⟩]).bind fun r5 => (both ((callT R n_Z61 o_Z61 [⟨yK,r3.1⟩,⟨yK,r4.1⟩,⟨yL,r5.1⟩]).bind fun r6 => (Z23.j0 R N a2 r6.2.1 a0 a1 r6.1)) ((callT R n_Z61 o_Z61 [⟨yK,r3.1⟩,⟨yK,r4.1⟩,⟨yL,r5.1⟩]).bind fun r124 => (Z23.j0 R N a2 r124.2.1 a0 a1 r124.1)))) ((callT R n_Z37 o_Z37 [⟨yL,a2⟩]).bind fun r130 => ((callT R n_Z61 o_Z61 [⟨yK,r3.1⟩,⟨yK,r4.1⟩,⟨yL,r130.1⟩]).bind fun r131 => (Z23.j0 R N a2 r131.2.1 a0 a1 r131.1))))) ((callT R n_Z36 o_Z36 [⟨yK,a1⟩]).bind fun r137 => ((callT R n_Z37 o_Z37 [⟨yL,a2⟩]).bind fun r138 => ((callT R n_Z61 o_Z61 [⟨yK,r3.1⟩,⟨yK,r137.1⟩,⟨yL,r138.1⟩]).bind fun r139 => (Z23.j0 R N a2 r139.2.1 a0 a1 r139.1)))))) ((callT R n_Z36 o_Z36 [⟨yK,a0⟩]).bind fun r145 => ((callT R n_Z36 o_Z36 [⟨yK,a1⟩]).bind fun r146 => ((callT R n_Z37 o_Z37 [⟨yL,a2⟩]).bind fun r147 => ((callT R n_Z61 o_Z61 [⟨yK,r145.1⟩,⟨yK,r146.1⟩,⟨yL,r147.1⟩]).bind fun r148 => (Z23.j0 R N a2 r148.2.1 a0 a1 r148.1))))))))))) := by kernel_rfl
end VeT


open Go Go.Proofs Ve
set_option linter.unusedVariables false
set_option maxRecDepth 100000
namespace VeT
@[reducible] noncomputable def F_slices_CompactFunc_SSint64_Sint64_L : Func := Tryz.f150
@[reducible] def o_slices_CompactFunc_SSint64_Sint64_L : Ty := (.cons (.sl (.lab yL)) .nil)
noncomputable def sg_slices_CompactFunc_SSint64_Sint64_L : Sig := ⟨[(false, 1), (false, 1)], [.take false, .imm], o_slices_CompactFunc_SSint64_Sint64_L, [(false, 1)], [.own], []⟩
noncomputable def pol_slices_CompactFunc_SSint64_Sint64_L : Pol := ⟨68, [], [(4, ⟨[0, 1, 5], [66], [], [], [], [], []⟩), (9, ⟨[0, 1, 5, 6, 7], [66], [], [], [], [], []⟩)], [], [], []⟩
/-! slices.CompactFunc[[][]int64,[]int64] -/
noncomputable def slices_CompactFunc_SSint64_Sint64_L.l1 (R : Run) (N : Nat) (n110100 : Nat) (n : Nat) (t5__6 : Int) (t6__7 : Nat) (t6__8 : Nat) (t7__9 : Int) (o66_10 : (List (Value × (List Int)))) : Option Dv := R.w (some ⟨(.c (.arr 66) :: (.c (.d (.fn n_Z51 .nil) ()) :: (zd 3 (.c (.d yI t5__6) :: (.c (.sub 66 t6__7 t6__8 1) :: (.c (.d yI t7__9) :: (zd 58 []))))))), (zo 66 (some (.arr (.lab yL) o66_10 false false false) :: (none :: [])))⟩) fun st => loopC (evCode E R pol_slices_CompactFunc_SSint64_Sint64_L N (sub [1, 1, 0, 1, 0, 0, 1, 0, 0, 1, 0, 1, 0, 1, 0, 0] (bodyOf F_slices_CompactFunc_SSint64_Sint64_L))) (maskAt R pol_slices_CompactFunc_SSint64_Sint64_L.loopM 9) n st (kBlk (maskAt R pol_slices_CompactFunc_SSint64_Sint64_L.blkM 2) 2 (kSeq (maskAt R pol_slices_CompactFunc_SSint64_Sint64_L.seqM 14) (evCode E R pol_slices_CompactFunc_SSint64_Sint64_L N (sub [1, 1, 0, 1, 0, 0, 1, 0, 0, 1, 0, 1, 1] (bodyOf F_slices_CompactFunc_SSint64_Sint64_L))) (kBlk (maskAt R pol_slices_CompactFunc_SSint64_Sint64_L.blkM 1) 1 (kSeq (maskAt R pol_slices_CompactFunc_SSint64_Sint64_L.seqM 5) (evCode E R pol_slices_CompactFunc_SSint64_Sint64_L N (sub [1, 1, 0, 1, 0, 0, 1, 1] (bodyOf F_slices_CompactFunc_SSint64_Sint64_L))) (kLoop (evCode E R pol_slices_CompactFunc_SSint64_Sint64_L N (sub [1, 1, 0, 1, 0, 0] (bodyOf F_slices_CompactFunc_SSint64_Sint64_L))) (maskAt R pol_slices_CompactFunc_SSint64_Sint64_L.loopM 4) n110100 (kBlk (maskAt R pol_slices_CompactFunc_SSint64_Sint64_L.blkM 0) 0 (kSeq (maskAt R pol_slices_CompactFunc_SSint64_Sint64_L.seqM 16) (evCode E R pol_slices_CompactFunc_SSint64_Sint64_L N (sub [1, 1, 1] (bodyOf F_slices_CompactFunc_SSint64_Sint64_L))) (kTop E sg_slices_CompactFunc_SSint64_Sint64_L F_slices_CompactFunc_SSint64_Sint64_L))))))))
noncomputable def slices_CompactFunc_SSint64_Sint64_L.l0 (R : Run) (N : Nat) (n : Nat) (t5__1 : Int) (o66_2 : (List (Value × (List Int)))) : Option Dv := R.w (some ⟨(.c (.arr 66) :: (.c (.d (.fn n_Z51 .nil) ()) :: (zd 3 (.c (.d yI t5__1) :: (zd 60 []))))), (zo 66 (some (.arr (.lab yL) o66_2 false false false) :: (none :: [])))⟩) fun st => loopC (evCode E R pol_slices_CompactFunc_SSint64_Sint64_L N (sub [1, 1, 0, 1, 0, 0] (bodyOf F_slices_CompactFunc_SSint64_Sint64_L))) (maskAt R pol_slices_CompactFunc_SSint64_Sint64_L.loopM 4) n st (kBlk (maskAt R pol_slices_CompactFunc_SSint64_Sint64_L.blkM 0) 0 (kSeq (maskAt R pol_slices_CompactFunc_SSint64_Sint64_L.seqM 16) (evCode E R pol_slices_CompactFunc_SSint64_Sint64_L N (sub [1, 1, 1] (bodyOf F_slices_CompactFunc_SSint64_Sint64_L))) (kTop E sg_slices_CompactFunc_SSint64_Sint64_L F_slices_CompactFunc_SSint64_Sint64_L)))
theorem slices_CompactFunc_SSint64_Sint64_L.l1_succ (R : Run) (hw : R.ok) (N : Nat) (n110100 : Nat) (n : Nat) (t5__6 : Int) (t6__7 : Nat) (t6__8 : Nat) (t7__9 : Int) (o66_10 : (List (Value × (List Int)))) : slices_CompactFunc_SSint64_Sint64_L.l1 R N n110100 (n + 1) t5__6 t6__7 t6__8 t7__9 o66_10 = (Option.bind (chk (decide (t6__7 ≤ t6__8) && decide (t6__8 ≤ List.length o66_10))) fun _ => (bif (decide (t7__9 < ((t6__8 - t6__7 : Nat) : Int))) then (Option.bind (chk (decide (0 ≤ t7__9) && decide ((t6__7 : Nat) + t7__9 < ((t6__8 : Nat) : Int)) && decide (t6__8 ≤ List.length o66_10))) fun _ => (Option.bind (o66_10)[(t6__7 + Int.toNat t7__9)]? fun y11 => (Option.bind (chk (decide (0 ≤ (w64 (t7__9 - (1 : Int)))) && decide ((t6__7 : Nat) + (w64 (t7__9 - (1 : Int))) < ((t6__8 : Nat) : Int)) && decide (t6__8 ≤ List.length o66_10))) fun _ => (Option.bind (o66_10)[(t6__7 + Int.toNat (w64 (t7__9 - (1 : Int))))]? fun y12 => (Option.bind (callT R n_Z51 o_Z51 [⟨yL, y11.2⟩, ⟨yL, y12.2⟩]) fun r13 => (bif (!r13.1) then (Option.bind (chk (decide (0 ≤ t7__9) && decide ((t6__7 : Nat) + t7__9 < ((t6__8 : Nat) : Int)) && decide (t6__8 ≤ List.length o66_10))) fun _ => (Option.bind (o66_10)[(t6__7 + Int.toNat t7__9)]? fun y14 => (Option.bind (chk (decide (0 ≤ t5__6) && decide (t5__6 < (List.length o66_10 : Int)))) fun _ => (slices_CompactFunc_SSint64_Sint64_L.l1 R N n110100 n (w64 (t5__6 + (1 : Int))) t6__7 t6__8 (w64 (t7__9 + (1 : Int))) (List.set o66_10 (Int.toNat t5__6) y14))))) else (slices_CompactFunc_SSint64_Sint64_L.l1 R N n110100 n t5__6 t6__7 t6__8 (w64 (t7__9 + (1 : Int))) o66_10))))))) else (Option.bind (chk (decide (0 ≤ t5__6) && decide (t5__6 ≤ (List.length o66_10 : Int)))) fun _ => (Option.bind (chk (decide ((Int.toNat t5__6) ≤ (List.length o66_10)) && decide ((List.length o66_10) ≤ List.length o66_10))) fun _ => (Option.bind (chk (decide (0 ≤ t5__6) && decide (t5__6 ≤ (List.length (List.take (Int.toNat t5__6) o66_10 ++ List.replicate ((List.length o66_10) - (Int.toNat t5__6)) (Value.slice none 0 0, ([] : (List Int))) ++ List.drop (List.length o66_10) o66_10) : Int)))) fun _ => some ⟨o_slices_CompactFunc_SSint64_Sint64_L, ((List.drop 0 (List.take (Int.toNat t5__6) (List.take (Int.toNat t5__6) o66_10 ++ List.replicate ((List.length o66_10) - (Int.toNat t5__6)) (Value.slice none 0 0, ([] : (List Int))) ++ List.drop (List.length o66_10) o66_10))), ())⟩))))) := (hw _ _).trans (by kernel_rfl)
theorem slices_CompactFunc_SSint64_Sint64_L.l0_succ (R : Run) (hw : R.ok) (N : Nat) (n : Nat) (t5__1 : Int) (o66_2 : (List (Value × (List Int)))) : slices_CompactFunc_SSint64_Sint64_L.l0 R N (n + 1) t5__1 o66_2 = (bif (decide (t5__1 < (List.length o66_2 : Int))) then (Option.bind (chk (decide (0 ≤ t5__1) && decide (t5__1 < (List.length o66_2 : Int)))) fun _ => (Option.bind (o66_2)[(Int.toNat t5__1)]? fun y3 => (Option.bind (chk (decide (0 ≤ (w64 (t5__1 - (1 : Int)))) && decide ((w64 (t5__1 - (1 : Int))) < (List.length o66_2 : Int)))) fun _ => (Option.bind (o66_2)[(Int.toNat (w64 (t5__1 - (1 : Int))))]? fun y4 => (Option.bind (callT R n_Z51 o_Z51 [⟨yL, y3.2⟩, ⟨yL, y4.2⟩]) fun r5 => (bif r5.1 then (Option.bind (chk (decide (0 ≤ t5__1) && decide (t5__1 ≤ (List.length o66_2 : Int)))) fun _ => (slices_CompactFunc_SSint64_Sint64_L.l1 R N n N t5__1 (Int.toNat t5__1) (List.length o66_2) (1 : Int) o66_2)) else (slices_CompactFunc_SSint64_Sint64_L.l0 R N n (w64 (t5__1 + (1 : Int))) o66_2))))))) else some ⟨o_slices_CompactFunc_SSint64_Sint64_L, (o66_2, ())⟩) := (hw _ _).trans (by kernel_rfl)
theorem slices_CompactFunc_SSint64_Sint64_L.ev (R : Run) (N : Nat) (a0 : (List (Value × (List Int)))) : evFn E R sg_slices_CompactFunc_SSint64_Sint64_L pol_slices_CompactFunc_SSint64_Sint64_L F_slices_CompactFunc_SSint64_Sint64_L N [⟨(.sl (.lab yL)), a0⟩, ⟨(.fn n_Z51 .nil), ()⟩] = (bif (decide ((List.length a0 : Int) < (2 : Int))) then some ⟨o_slices_CompactFunc_SSint64_Sint64_L, (a0, ())⟩ else (slices_CompactFunc_SSint64_Sint64_L.l0 R N N (1 : Int) a0)) := by kernel_rfl
end VeT

set_option linter.unusedVariables false
set_option linter.unusedSimpArgs false
namespace Go.Proofs
open Go.Shelf
def Tryz.sort145_ren : Go.Shelf.Ren := ⟨fun | 53 => 145 | 64 => 206 | 63 => 205 | 78 => 241 | 79 => 242 | 70 => 232 | 71 => 233 | 72 => 234 | 73 => 235 | 74 => 236 | 75 => 237 | 59 => 238 | 76 => 239 | 77 => 240 | 88 => 258 | 89 => 259 | 90 => 260 | 91 => 261 | 92 => 262 | 68 => 263 | 96 => 268 | n => n, fun | 22 => 35 | 23 => 2 | 3 => 3 | 51 => 204 | 0 => 0 | 67 => 223 | 69 => 225 | 4 => 4 | 61 => 216 | 60 => 215 | 44 => 185 | 5 => 5 | 9 => 9 | 75 => 236 | 79 => 240 | 83 => 244 | 84 => 245 | n => n, fun | n => n⟩
theorem Tryz.sort145 : Go.Proofs.SlLaysN.n53 Tryz.prog Tryz.sort145_ren := {
  mixed := by kernel_rfl
  f53 := ⟨Tryz.f145.name, by decide, Tryz.func145.trans (congrArg some (by kernel_rfl))⟩
  f59 := ⟨Tryz.f238.name, by decide, Tryz.func238.trans (congrArg some (by kernel_rfl))⟩
  f63 := ⟨Tryz.f205.name, by decide, Tryz.func205.trans (congrArg some (by kernel_rfl))⟩
  f64 := Tryz.func206.trans (congrArg some (by kernel_rfl))
  f68 := ⟨Tryz.f263.name, by decide, Tryz.func263.trans (congrArg some (by kernel_rfl))⟩
  f70 := ⟨Tryz.f232.name, by decide, Tryz.func232.trans (congrArg some (by kernel_rfl))⟩
  f71 := ⟨Tryz.f233.name, by decide, Tryz.func233.trans (congrArg some (by kernel_rfl))⟩
  f72 := ⟨Tryz.f234.name, by decide, Tryz.func234.trans (congrArg some (by kernel_rfl))⟩
  f73 := ⟨Tryz.f235.name, by decide, Tryz.func235.trans (congrArg some (by kernel_rfl))⟩
  f74 := ⟨Tryz.f236.name, by decide, Tryz.func236.trans (congrArg some (by kernel_rfl))⟩
  f75 := ⟨Tryz.f237.name, by decide, Tryz.func237.trans (congrArg some (by kernel_rfl))⟩
  f76 := ⟨Tryz.f239.name, by decide, Tryz.func239.trans (congrArg some (by kernel_rfl))⟩
  f77 := ⟨Tryz.f240.name, by decide, Tryz.func240.trans (congrArg some (by kernel_rfl))⟩
  f78 := Tryz.func241.trans (congrArg some (by kernel_rfl))
  f79 := Tryz.func242.trans (congrArg some (by kernel_rfl))
  f88 := ⟨Tryz.f258.name, by decide, Tryz.func258.trans (congrArg some (by kernel_rfl))⟩
  f89 := Tryz.func259.trans (congrArg some (by kernel_rfl))
  f90 := Tryz.func260.trans (congrArg some (by kernel_rfl))
  f91 := ⟨Tryz.f261.name, by decide, Tryz.func261.trans (congrArg some (by kernel_rfl))⟩
  f92 := ⟨Tryz.f262.name, by decide, Tryz.func262.trans (congrArg some (by kernel_rfl))⟩
  f96 := ⟨Tryz.f268.name, by decide, Tryz.func268.trans (congrArg some (by kernel_rfl))⟩
  t0 := Tryz.underlying0
  a0 := Tryz.isAgg0
  z0 := Tryz.sizeOf0
  v0 := Tryz.zeroValue0
  t3 := Tryz.underlying3
  a3 := Tryz.isAgg3
  z3 := Tryz.sizeOf3
  v3 := Tryz.zeroValue3
  t4 := Tryz.underlying4
  a4 := Tryz.isAgg4
  z4 := Tryz.sizeOf4
  v4 := Tryz.zeroValue4
  t5 := Tryz.underlying5
  a5 := Tryz.isAgg5
  z5 := Tryz.sizeOf5
  v5 := Tryz.zeroValue5
  t9 := Tryz.underlying9
  a9 := Tryz.isAgg9
  z9 := Tryz.sizeOf9
  v9 := Tryz.zeroValue9
  t22 := Tryz.underlying35
  a22 := Tryz.isAgg35
  z22 := Tryz.sizeOf35
  v22 := Tryz.zeroValue35
  t23 := Tryz.underlying2
  a23 := Tryz.isAgg2
  z23 := Tryz.sizeOf2
  v23 := Tryz.zeroValue2
  t44 := Tryz.underlying185
  a44 := Tryz.isAgg185
  z44 := Tryz.sizeOf185
  v44 := Tryz.zeroValue185
  t51 := Tryz.underlying204
  a51 := Tryz.isAgg204
  z51 := Tryz.sizeOf204
  v51 := Tryz.zeroValue204
  t60 := Tryz.underlying215
  a60 := Tryz.isAgg215
  z60 := Tryz.sizeOf215
  v60 := Tryz.zeroValue215
  t61 := Tryz.underlying216
  a61 := Tryz.isAgg216
  z61 := Tryz.sizeOf216
  v61 := Tryz.zeroValue216
  t67 := Tryz.underlying223
  a67 := Tryz.isAgg223
  z67 := Tryz.sizeOf223
  v67 := Tryz.zeroValue223
  t69 := Tryz.underlying225
  a69 := Tryz.isAgg225
  z69 := Tryz.sizeOf225
  v69 := Tryz.zeroValue225
  t75 := Tryz.underlying236
  a75 := Tryz.isAgg236
  z75 := Tryz.sizeOf236
  v75 := Tryz.zeroValue236
  t79 := Tryz.underlying240
  a79 := Tryz.isAgg240
  z79 := Tryz.sizeOf240
  v79 := Tryz.zeroValue240
  t83 := Tryz.underlying244
  a83 := Tryz.isAgg244
  z83 := Tryz.sizeOf244
  v83 := Tryz.zeroValue244
  t84 := Tryz.underlying245
  a84 := Tryz.isAgg245
  z84 := Tryz.sizeOf245
  v84 := Tryz.zeroValue245 }
def Tryz.comp146_ren : Go.Shelf.Ren := ⟨fun | 43 => 146 | n => n, fun | 22 => 35 | 23 => 2 | 3 => 3 | 4 => 4 | 0 => 0 | n => n, fun | n => n⟩
theorem Tryz.comp146 : Go.Proofs.SlLaysN.n43 Tryz.prog Tryz.comp146_ren := {
  mixed := by kernel_rfl
  f43 := ⟨Tryz.f146.name, by decide, Tryz.func146.trans (congrArg some (by kernel_rfl))⟩
  t0 := Tryz.underlying0
  a0 := Tryz.isAgg0
  z0 := Tryz.sizeOf0
  v0 := Tryz.zeroValue0
  t3 := Tryz.underlying3
  a3 := Tryz.isAgg3
  z3 := Tryz.sizeOf3
  v3 := Tryz.zeroValue3
  t4 := Tryz.underlying4
  a4 := Tryz.isAgg4
  z4 := Tryz.sizeOf4
  v4 := Tryz.zeroValue4
  t22 := Tryz.underlying35
  a22 := Tryz.isAgg35
  z22 := Tryz.sizeOf35
  v22 := Tryz.zeroValue35
  t23 := Tryz.underlying2
  a23 := Tryz.isAgg2
  z23 := Tryz.sizeOf2
  v23 := Tryz.zeroValue2
  i23 := by kernel_rfl }
def Tryz.sortf148_ren : Go.Shelf.Ren := ⟨fun | 6 => 148 | 15 => 206 | 14 => 208 | 28 => 241 | 29 => 242 | 20 => 243 | 21 => 244 | 22 => 245 | 23 => 246 | 24 => 247 | 25 => 248 | 26 => 249 | 27 => 250 | 46 => 264 | 47 => 259 | 48 => 260 | 49 => 265 | 50 => 266 | 57 => 269 | n => n, fun | 22 => 22 | 24 => 35 | 25 => 163 | 3 => 3 | 39 => 204 | 0 => 0 | 53 => 223 | 55 => 225 | 4 => 4 | 46 => 216 | 45 => 215 | 50 => 185 | 5 => 5 | 9 => 9 | 66 => 236 | 70 => 240 | 76 => 244 | 77 => 245 | n => n, fun | n => n⟩
theorem Tryz.sortf148 : Go.Proofs.SlLaysF.n6 Tryz.prog Tryz.sortf148_ren := {
  mixed := by kernel_rfl
  f6 := ⟨Tryz.f148.name, by decide, Tryz.func148.trans (congrArg some (by kernel_rfl))⟩
  f14 := ⟨Tryz.f208.name, by decide, Tryz.func208.trans (congrArg some (by kernel_rfl))⟩
  f15 := Tryz.func206.trans (congrArg some (by kernel_rfl))
  f20 := ⟨Tryz.f243.name, by decide, Tryz.func243.trans (congrArg some (by kernel_rfl))⟩
  f21 := ⟨Tryz.f244.name, by decide, Tryz.func244.trans (congrArg some (by kernel_rfl))⟩
  f22 := ⟨Tryz.f245.name, by decide, Tryz.func245.trans (congrArg some (by kernel_rfl))⟩
  f23 := ⟨Tryz.f246.name, by decide, Tryz.func246.trans (congrArg some (by kernel_rfl))⟩
  f24 := ⟨Tryz.f247.name, by decide, Tryz.func247.trans (congrArg some (by kernel_rfl))⟩
  f25 := ⟨Tryz.f248.name, by decide, Tryz.func248.trans (congrArg some (by kernel_rfl))⟩
  f26 := ⟨Tryz.f249.name, by decide, Tryz.func249.trans (congrArg some (by kernel_rfl))⟩
  f27 := ⟨Tryz.f250.name, by decide, Tryz.func250.trans (congrArg some (by kernel_rfl))⟩
  f28 := Tryz.func241.trans (congrArg some (by kernel_rfl))
  f29 := Tryz.func242.trans (congrArg some (by kernel_rfl))
  f46 := ⟨Tryz.f264.name, by decide, Tryz.func264.trans (congrArg some (by kernel_rfl))⟩
  f47 := Tryz.func259.trans (congrArg some (by kernel_rfl))
  f48 := Tryz.func260.trans (congrArg some (by kernel_rfl))
  f49 := ⟨Tryz.f265.name, by decide, Tryz.func265.trans (congrArg some (by kernel_rfl))⟩
  f50 := ⟨Tryz.f266.name, by decide, Tryz.func266.trans (congrArg some (by kernel_rfl))⟩
  f57 := ⟨Tryz.f269.name, by decide, Tryz.func269.trans (congrArg some (by kernel_rfl))⟩
  t0 := Tryz.underlying0
  a0 := Tryz.isAgg0
  z0 := Tryz.sizeOf0
  v0 := Tryz.zeroValue0
  t3 := Tryz.underlying3
  a3 := Tryz.isAgg3
  z3 := Tryz.sizeOf3
  v3 := Tryz.zeroValue3
  t4 := Tryz.underlying4
  a4 := Tryz.isAgg4
  z4 := Tryz.sizeOf4
  v4 := Tryz.zeroValue4
  t5 := Tryz.underlying5
  a5 := Tryz.isAgg5
  z5 := Tryz.sizeOf5
  v5 := Tryz.zeroValue5
  t9 := Tryz.underlying9
  a9 := Tryz.isAgg9
  z9 := Tryz.sizeOf9
  v9 := Tryz.zeroValue9
  t22 := Tryz.underlying22
  a22 := Tryz.isAgg22
  z22 := Tryz.sizeOf22
  v22 := Tryz.zeroValue22
  a24 := Tryz.isAgg35
  z24 := Tryz.sizeOf35
  t25 := Tryz.underlying163
  a25 := Tryz.isAgg163
  z25 := Tryz.sizeOf163
  v25 := Tryz.zeroValue163
  t39 := Tryz.underlying204
  a39 := Tryz.isAgg204
  z39 := Tryz.sizeOf204
  v39 := Tryz.zeroValue204
  t45 := Tryz.underlying215
  a45 := Tryz.isAgg215
  z45 := Tryz.sizeOf215
  v45 := Tryz.zeroValue215
  t46 := Tryz.underlying216
  a46 := Tryz.isAgg216
  z46 := Tryz.sizeOf216
  v46 := Tryz.zeroValue216
  t50 := Tryz.underlying185
  a50 := Tryz.isAgg185
  z50 := Tryz.sizeOf185
  v50 := Tryz.zeroValue185
  t53 := Tryz.underlying223
  a53 := Tryz.isAgg223
  z53 := Tryz.sizeOf223
  v53 := Tryz.zeroValue223
  t55 := Tryz.underlying225
  a55 := Tryz.isAgg225
  z55 := Tryz.sizeOf225
  v55 := Tryz.zeroValue225
  t66 := Tryz.underlying236
  a66 := Tryz.isAgg236
  z66 := Tryz.sizeOf236
  v66 := Tryz.zeroValue236
  t70 := Tryz.underlying240
  a70 := Tryz.isAgg240
  z70 := Tryz.sizeOf240
  v70 := Tryz.zeroValue240
  t76 := Tryz.underlying244
  a76 := Tryz.isAgg244
  z76 := Tryz.sizeOf244
  v76 := Tryz.zeroValue244
  t77 := Tryz.underlying245
  a77 := Tryz.isAgg245
  z77 := Tryz.sizeOf245
  v77 := Tryz.zeroValue245 }
end Go.Proofs
namespace VeT
section
open Go Go.Proofs Go.RowKit Go.Lib
set_option maxHeartbeats 2000000 in
set_option maxRecDepth 100000 in
theorem mark18_walk (b n c : Nat) (A : Option Addr) (hA : 0 < n → A = some ⟨b, 0, none⟩) (hnc : n ≤ c) (hn : n ≤ 9223372036854775807) (Inv : Nat → Int → World → Prop) (k : Int) (w : World) (h0 : Inv 0 k w)
    (step : ∀ i k' wr, i < n → Inv i k' wr → ∃ u, wr.cell? ⟨b, i, none⟩ = some u ∧ Calls Tryz.prog 24 #[u, .int .i64 k'] wr fun e w' => ∃ k2, e = .returned (.int .i64 k2) ∧ Inv (i + 1) k2 w') :
    Calls Tryz.prog 18 #[.slice A n c, .int .i64 k] w fun e w' => ∃ k2, e = .returned (.int .i64 k2) ∧ Inv n k2 w' := by
  go_enter Tryz.func18, Tryz.ntmps18
  go_wp2
  go_loopw [1, 5] (fun kv iv wr => ∃ i : Nat, ∃ k' : Int, i ≤ n ∧ iv = .int .i64 i ∧ kv = .int .i64 k' ∧ Inv i k' wr) (fun _ iv _ => n - (RowKit.intOf iv).toNat)
  case atStart => exact ⟨0, k, Nat.zero_le _, rfl, rfl, h0⟩
  case round =>
    obtain ⟨i, k', hi, rfl, rfl, hInv⟩ := hrel
    by_cases hlt : i < n
    · obtain rfl := hA (by omega)
      obtain ⟨u, hu, hcall⟩ := step i k' _ hlt hInv
      go_wp2_with (go_at_call 24; refine hcall.mono ?_; rintro e w' ⟨k2, rfl, hI2⟩)
      go_roundw
      case rel => exact ⟨i + 1, k2, by omega, by simp, rfl, hI2⟩
      case measure => simp [RowKit.intOf]; omega
    · obtain rfl : i = n := by omega
      go_wp2
      go_ret
      exact ⟨k', rfl, hInv⟩
open Ve in
theorem mark18_contract {R : Run} (hR : ∀ args dv, R.r 24 args = some dv → Contract Tryz.prog ⟨[(false, 1), (false, 1)], [.io true, .imm], oM, [(false, 1)], [], []⟩ 24 args dv) {args : List Dv} {dv : Dv} (h : pMarkSS 24 R args = some dv) :
    Contract Tryz.prog ⟨[(false, 1), (false, 1)], [.io true, .imm], .cons tI (.cons (.sl tL) .nil), [(false, 1)], [], []⟩ 18 args dv :=
  mark_contract mark18_walk hR h

open Ve in
theorem sort145_contract (R : Run) {args : List Dv} {dv : Dv} (h : pSortI R args = some dv) : Contract Tryz.prog ⟨[(false, 1)], [.io true], .cons tL .nil, [], [], []⟩ 145 args dv :=
  sortI_contract (fun blk cap zs w a b c => AnyG.slices_Sort_int Tryz.sort145 blk 0 cap zs w a b c)
    (fun A cap w => (AnyG.slices_Sort_int_none Tryz.sort145 A cap w).mono fun e w' ⟨h, hw⟩ => ⟨h, by rw [hw], by rw [hw]; exact Kin.refl _⟩) h

open Ve in
theorem comp146_contract (R : Run) {args : List Dv} {dv : Dv} (h : pCompI R args = some dv) : Contract Tryz.prog ⟨[(false, 1)], [.take true], .cons tL .nil, [(false, 1)], [.deep], []⟩ 146 args dv :=
  compI_contract (fun blk cap zs w a b c => AnyG.slices_Compact_int Tryz.comp146 blk 0 cap zs w a b c)
    (fun A cap w => AnyG.slices_Compact_int_empty Tryz.comp146 A cap w) h

open Ve in
theorem sortf148_contract {R : Run} (hR : ∀ args dv, R.r 149 args = some dv → Contract Tryz.prog ⟨[(false, 1), (false, 1)], [], .cons tI .nil, [(false, 1)], [], []⟩ 149 args dv) {args : List Dv} {dv : Dv} (h : pSortF 149 R args = some dv) :
    Contract Tryz.prog ⟨[(false, 1), (false, 1)], [.io true, .imm], .cons tLL .nil, [], [], []⟩ 148 args dv :=
  sortF_contract (fun enc h1c cf hO blk cap d w a b c e => Any.slices_SortFunc Tryz.sortf148 enc h1c cf hO 149 #[] blk 0 cap d w (enters_of Tryz.func149 (by kernel_rfl) rfl) a b c e)
    (fun A cap fv w => (AnyF.slices_SortFunc_none { Tryz.sortf148 with } A cap fv w).mono fun e w' ⟨h, hw⟩ => ⟨h, by rw [hw], by rw [hw]; exact Kin.refl _⟩) hR h

section
open Go Ve
theorem compg150_in (R : Run) (hw : R.ok) (N n0 : Nat) (l : List (Value × List Int)) (hl : l.length ≤ 1048576)
    (heq : ∀ (i : Nat) (h : i + 1 < l.length), R.r n_Z51 [⟨tL, l[i + 1].2⟩, ⟨tL, l[i].2⟩] = some ⟨.cons .bool .nil, (l[i + 1].2 == l[i].2, ())⟩) (k0 : Nat) (hk0 : k0 < l.length) :
    ∀ (d k2 kw n : Nat) (o : List (Value × List Int)), k0 + k2 + d = l.length → 1 ≤ k2 → kw + 1 ≤ k0 + k2 → o.length = l.length → o.take kw = sel (mC (l.map Prod.snd) (k0 + k2)) l → (∀ i, k0 + k2 ≤ i + 1 → o[i]? = l[i]?) →
    slices_CompactFunc_SSint64_Sint64_L.l1 R N n0 (d + 1 + n) (kw : Int) k0 l.length (k2 : Int) o = some ⟨o_slices_CompactFunc_SSint64_Sint64_L, (sel (mC (l.map Prod.snd) l.length) l, ())⟩ := by
  intro d
  induction d with
  | zero =>
    intro k2 kw n o hd h1 hkw hol ht hsame
    have e : k0 + k2 = l.length := by omega
    rw [show 0 + 1 + n = n + 1 by omega, slices_CompactFunc_SSint64_Sint64_L.l1_succ R hw]
    have c1 : chk (decide (k0 ≤ l.length) && decide (l.length ≤ o.length)) = some () := by unfold chk; rw [decide_eq_true (by omega), decide_eq_true (by omega)]; rfl
    have c2 : decide ((k2 : Int) < ((l.length - k0 : Nat) : Int)) = false := decide_eq_false (by omega)
    have c3 : chk (decide ((0 : Int) ≤ (kw : Int)) && decide ((kw : Int) ≤ (o.length : Int))) = some () := by unfold chk; rw [decide_eq_true (by omega), decide_eq_true (by omega)]; rfl
    have c4 : chk (decide (kw ≤ o.length) && decide (o.length ≤ o.length)) = some () := by unfold chk; rw [decide_eq_true (by omega), decide_eq_true (by omega)]; rfl
    rw [c1, Option.bind_some, c2, cond_false, c3, Option.bind_some]
    simp only [Int.toNat_natCast]
    rw [c4, Option.bind_some]
    have hlen : (List.take kw o ++ List.replicate (o.length - kw) ((Value.slice none 0 0, []) : Value × List Int) ++ List.drop o.length o).length = o.length := by simp; omega
    have c6 : chk (decide ((0 : Int) ≤ (kw : Int)) && decide ((kw : Int) ≤ ((List.take kw o ++ List.replicate (o.length - kw) ((Value.slice none 0 0, []) : Value × List Int) ++ List.drop o.length o).length : Int))) = some () := by unfold chk; rw [decide_eq_true (by omega), decide_eq_true (by omega)]; rfl
    rw [c6, Option.bind_some, List.drop_zero, List.append_assoc, List.take_append_of_le_length (by simp; omega), List.take_take, Nat.min_self, ht, e]
  | succ d ih =>
    intro k2 kw n o hd h1 hkw hol ht hsame
    obtain ⟨m, hm⟩ : ∃ m, m + 1 = k0 + k2 := ⟨k0 + k2 - 1, by omega⟩
    have hml : m + 1 < l.length := by omega
    rw [show d + 1 + 1 + n = (d + 1 + n) + 1 by omega, slices_CompactFunc_SSint64_Sint64_L.l1_succ R hw]
    have c1 : chk (decide (k0 ≤ l.length) && decide (l.length ≤ o.length)) = some () := by unfold chk; rw [decide_eq_true (by omega), decide_eq_true (by omega)]; rfl
    have c2 : decide ((k2 : Int) < ((l.length - k0 : Nat) : Int)) = true := decide_eq_true (by omega)
    have c3 : chk (decide ((0 : Int) ≤ (k2 : Int)) && decide ((k0 : Int) + (k2 : Int) < ((l.length : Nat) : Int)) && decide (l.length ≤ o.length)) = some () := by unfold chk; rw [decide_eq_true (by omega), decide_eq_true (by omega), decide_eq_true (by omega)]; rfl
    have ew : w64 ((k2 : Int) - 1) = ((k2 - 1 : Nat) : Int) := by rw [w64_small (by omega) (by omega)]; omega
    have c4 : chk (decide ((0 : Int) ≤ ((k2 - 1 : Nat) : Int)) && decide ((k0 : Int) + ((k2 - 1 : Nat) : Int) < ((l.length : Nat) : Int)) && decide (l.length ≤ o.length)) = some () := by unfold chk; rw [decide_eq_true (by omega), decide_eq_true (by omega), decide_eq_true (by omega)]; rfl
    have g1 : o[k0 + k2]? = some l[m + 1] := by rw [hsame _ (by omega), ← hm, List.getElem?_eq_getElem hml]
    have g2 : o[k0 + (k2 - 1)]? = some l[m] := by rw [hsame _ (by omega), show k0 + (k2 - 1) = m by omega, List.getElem?_eq_getElem (by omega)]
    have hr : callT R n_Z51 o_Z51 [⟨yL, l[m + 1].2⟩, ⟨yL, l[m].2⟩] = some (l[m + 1].2 == l[m].2, ()) := by
      unfold callT
      exact (congrArg (Option.bind · _) (heq m hml)).trans rfl
    rw [c1, Option.bind_some, c2, cond_true, c3, Option.bind_some]
    simp only [Int.toNat_natCast, ew]
    rw [g1, Option.bind_some, c4, Option.bind_some, g2, Option.bind_some]
    refine (congrArg (Option.bind · _) hr).trans ?_
    rw [Option.bind_some]
    have e2 : w64 ((k2 : Int) + 1) = ((k2 + 1 : Nat) : Int) := w64_succ (by omega)
    have hx1 : (l.map Prod.snd)[k0 + k2]? = some l[m + 1].2 := by rw [← hm, List.getElem?_map, List.getElem?_eq_getElem hml]; rfl
    have hx2 : (l.map Prod.snd)[k0 + k2 - 1]? = some l[m].2 := by rw [show k0 + k2 - 1 = m by omega, List.getElem?_map, List.getElem?_eq_getElem (by omega)]; rfl
    have hms : mC (l.map Prod.snd) (k0 + (k2 + 1)) = mC (l.map Prod.snd) (k0 + k2) ++ [!(l[m + 1].2 == l[m].2)] := by
      show mC (l.map Prod.snd) (k0 + k2) ++ [k0 + k2 == 0 || !((l.map Prod.snd)[k0 + k2]? == (l.map Prod.snd)[k0 + k2 - 1]?)] = _
      rw [hx1, hx2, show (k0 + k2 == 0) = false from beq_false_of_ne (by omega), Bool.false_or]
      rfl
    have hsel : sel (mC (l.map Prod.snd) (k0 + (k2 + 1))) l = sel (mC (l.map Prod.snd) (k0 + k2)) l ++ (bif !(l[m + 1].2 == l[m].2) then [l[m + 1]] else []) := by
      rw [hms, sel_snoc (by rw [mC_len]; omega)]
      congr 2
      congr 1
      have : (mC (l.map Prod.snd) (k0 + k2)).length = m + 1 := by rw [mC_len, hm]
      simp only [this]
    cases hb : (l[m + 1].2 == l[m].2) with
    | true =>
      rw [hb] at hsel
      simp only [Bool.not_true, cond_false, List.append_nil] at hsel ⊢
      rw [e2]
      exact ih (k2 + 1) kw n o (by omega) (by omega) (by omega) hol (by rw [hsel]; exact ht) fun i hi => hsame i (by omega)
    | false =>
      rw [hb] at hsel
      have c5 : chk (decide ((0 : Int) ≤ (kw : Int)) && decide ((kw : Int) < (o.length : Int))) = some () := by unfold chk; rw [decide_eq_true (by omega), decide_eq_true (by omega)]; rfl
      simp only [Bool.not_false, cond_true] at hsel ⊢
      rw [Option.bind_some, Option.bind_some, c5, Option.bind_some, e2, show w64 ((kw : Int) + 1) = ((kw + 1 : Nat) : Int) from w64_succ (by omega)]
      refine ih (k2 + 1) (kw + 1) n (o.set kw l[m + 1]) (by omega) (by omega) (by omega) (by rw [List.length_set]; exact hol) ?_ fun i hi => ?_
      · rw [hsel, ← ht, List.take_succ_eq_append_getElem (by rw [List.length_set]; omega), List.getElem_set_self, List.take_set_of_le (Nat.le_refl _)]
      · rw [List.getElem?_set_ne (by omega)]; exact hsame i (by omega)

theorem compg150_out (R : Run) (hw : R.ok) (N : Nat) (l : List (Value × List Int)) (hl : l.length ≤ 1048576) (hN : l.length + 1 ≤ N)
    (heq : ∀ (i : Nat) (h : i + 1 < l.length), R.r n_Z51 [⟨tL, l[i + 1].2⟩, ⟨tL, l[i].2⟩] = some ⟨.cons .bool .nil, (l[i + 1].2 == l[i].2, ())⟩) :
    ∀ (d k n : Nat), k + d = l.length → 1 ≤ k → sel (mC (l.map Prod.snd) k) l = l.take k →
    slices_CompactFunc_SSint64_Sint64_L.l0 R N (d + 1 + n) (k : Int) l = some ⟨o_slices_CompactFunc_SSint64_Sint64_L, (sel (mC (l.map Prod.snd) l.length) l, ())⟩ := by
  intro d
  induction d with
  | zero =>
    intro k n hd h1 ht
    rw [show 0 + 1 + n = n + 1 by omega, slices_CompactFunc_SSint64_Sint64_L.l0_succ R hw]
    have c2 : decide ((k : Int) < (l.length : Int)) = false := decide_eq_false (by omega)
    rw [c2, cond_false, ← show k = l.length by omega, ht, show k = l.length by omega, List.take_length]
  | succ d ih =>
    intro k n hd h1 ht
    obtain ⟨m, rfl⟩ : ∃ m, k = m + 1 := ⟨k - 1, by omega⟩
    have hml : m + 1 < l.length := by omega
    rw [show d + 1 + 1 + n = (d + 1 + n) + 1 by omega, slices_CompactFunc_SSint64_Sint64_L.l0_succ R hw]
    have c2 : decide (((m + 1 : Nat) : Int) < (l.length : Int)) = true := decide_eq_true (by omega)
    have c3 : chk (decide ((0 : Int) ≤ ((m + 1 : Nat) : Int)) && decide (((m + 1 : Nat) : Int) < (l.length : Int))) = some () := by unfold chk; rw [decide_eq_true (by omega), decide_eq_true (by omega)]; rfl
    have ew : w64 (((m + 1 : Nat) : Int) - 1) = (m : Int) := by rw [w64_small (by omega) (by omega)]; omega
    have c4 : chk (decide ((0 : Int) ≤ (m : Int)) && decide ((m : Int) < (l.length : Int))) = some () := by unfold chk; rw [decide_eq_true (by omega), decide_eq_true (by omega)]; rfl
    have g1 : l[m + 1]? = some l[m + 1] := List.getElem?_eq_getElem hml
    have g2 : l[m]? = some l[m] := List.getElem?_eq_getElem (by omega)
    have hr : callT R n_Z51 o_Z51 [⟨yL, l[m + 1].2⟩, ⟨yL, l[m].2⟩] = some (l[m + 1].2 == l[m].2, ()) := by
      unfold callT
      exact (congrArg (Option.bind · _) (heq m hml)).trans rfl
    refine Eq.trans (b := (chk (decide ((0 : Int) ≤ ((m + 1 : Nat) : Int)) && decide (((m + 1 : Nat) : Int) < (l.length : Int)))).bind _) (by rw [c2, cond_true]) ?_
    rw [c3, Option.bind_some]
    simp only [Int.toNat_natCast, ew]
    rw [g1, Option.bind_some, c4, Option.bind_some, g2, Option.bind_some]
    refine (congrArg (Option.bind · _) hr).trans ?_
    rw [Option.bind_some]
    have hx1 : (l.map Prod.snd)[m + 1]? = some l[m + 1].2 := by rw [List.getElem?_map, g1]; rfl
    have hx2 : (l.map Prod.snd)[m + 1 - 1]? = some l[m].2 := by rw [Nat.add_sub_cancel, List.getElem?_map, g2]; rfl
    have hms : mC (l.map Prod.snd) (m + 1 + 1) = mC (l.map Prod.snd) (m + 1) ++ [!(l[m + 1].2 == l[m].2)] := by
      show mC (l.map Prod.snd) (m + 1) ++ [m + 1 == 0 || !((l.map Prod.snd)[m + 1]? == (l.map Prod.snd)[m + 1 - 1]?)] = _
      rw [hx1, hx2, show (m + 1 == 0) = false from rfl, Bool.false_or]
      rfl
    have hsel : sel (mC (l.map Prod.snd) (m + 1 + 1)) l = sel (mC (l.map Prod.snd) (m + 1)) l ++ (bif !(l[m + 1].2 == l[m].2) then [l[m + 1]] else []) := by
      rw [hms, sel_snoc (by rw [mC_len]; omega)]
      congr 2
      congr 1
      simp only [mC_len]
    cases hb : (l[m + 1].2 == l[m].2) with
    | true =>
      rw [hb] at hsel
      simp only [Bool.not_true, cond_false, List.append_nil] at hsel
      have c5 : chk (decide ((0 : Int) ≤ ((m + 1 : Nat) : Int)) && decide (((m + 1 : Nat) : Int) ≤ (l.length : Int))) = some () := by unfold chk; rw [decide_eq_true (by omega), decide_eq_true (by omega)]; rfl
      simp only [cond_true]
      rw [c5, Option.bind_some]
      have := compg150_in R hw N (d + 1 + n) l hl heq (m + 1) hml (l.length - (m + 2)) 1 (m + 1) (N - (l.length - (m + 2) + 1)) l (by omega) (Nat.le_refl _) (by omega) rfl (by rw [hsel]; exact ht.symm) fun _ _ => rfl
      rw [show l.length - (m + 2) + 1 + (N - (l.length - (m + 2) + 1)) = N by omega] at this
      exact this
    | false =>
      rw [hb] at hsel
      simp only [Bool.not_false, cond_true] at hsel
      simp only [cond_false]
      rw [w64_succ (by omega)]
      exact ih (m + 1 + 1) n (by omega) (by omega) (by rw [hsel, ht, List.take_succ_eq_append_getElem hml])

theorem compg150_all (R : Run) (hw : R.ok) (N : Nat) (l : List (Value × List Int)) (hl : l.length ≤ 1048576) (hN : l.length + 1 ≤ N)
    (heq : ∀ (i : Nat) (h : i + 1 < l.length), R.r n_Z51 [⟨tL, l[i + 1].2⟩, ⟨tL, l[i].2⟩] = some ⟨.cons .bool .nil, (l[i + 1].2 == l[i].2, ())⟩) :
    (bif (decide ((List.length l : Int) < (2 : Int))) then some ⟨o_slices_CompactFunc_SSint64_Sint64_L, (l, ())⟩ else slices_CompactFunc_SSint64_Sint64_L.l0 R N N (1 : Int) l) = some ⟨o_slices_CompactFunc_SSint64_Sint64_L, (sel (mC (l.map Prod.snd) l.length) l, ())⟩ := by
  by_cases h2 : l.length < 2
  · have c : decide ((l.length : Int) < 2) = true := decide_eq_true (by omega)
    rw [c, cond_true]
    match l, h2 with
    | [], _ => rfl
    | [y], _ => rfl
  · have c : decide ((l.length : Int) < 2) = false := decide_eq_false (by omega)
    rw [c, cond_false]
    have := compg150_out R hw N l hl hN heq (l.length - 1) 1 (N - l.length) (by omega) (Nat.le_refl _) (by
      match l, h2 with
      | y :: z :: l, _ => rfl)
    rw [show l.length - 1 + 1 + (N - l.length) = N by omega] at this
    exact this

theorem compg150_contract (hE : EnvOk E) {R : Run} (hR : RunOk E R) (hw : R.ok) (hRw : ∀ o f, R.w o f = o.bind f) {args : List Dv} {dv : Dv} (h : pCompG n_Z51 R args = some dv) :
    Contract E.P ⟨[(false, 1), (false, 1)], [.take true, .imm], .cons tLL .nil, [(false, 1)], [.deep], []⟩ 150 args dv := by
  match args, h with
  | [d0, d1], h =>
    simp only [pCompG, Option.bind_eq_some_iff] at h
    obtain ⟨xs, h0, h⟩ := h
    obtain rfl := to_some h0
    split at h
    · rename_i hc
      obtain ⟨hx, rfl, heq⟩ := hc
      obtain rfl := Option.some.inj h
      refine labA_contract fun vs hv => ?_
      have hz : (vs.zip xs).map Prod.snd = xs := zip_snd hv
      have hl : (vs.zip xs).length = xs.length := by rw [List.length_zip, hv, Nat.min_self]
      have hq : ∀ (i : Nat) (h : i + 1 < (vs.zip xs).length), R.r n_Z51 [⟨tL, (vs.zip xs)[i + 1].2⟩, ⟨tL, (vs.zip xs)[i].2⟩] = some ⟨.cons .bool .nil, ((vs.zip xs)[i + 1].2 == (vs.zip xs)[i].2, ())⟩ := fun i h => by
        have e1 : (vs.zip xs)[i + 1].2 = xs[i + 1]'(by omega) := by rw [List.getElem_zip]
        have e2 : (vs.zip xs)[i].2 = xs[i]'(by omega) := by rw [List.getElem_zip]
        rw [e1, e2]; exact heq i (by omega)
      refine fn_sound hE hR hRw (pol := pol_slices_CompactFunc_SSint64_Sint64_L) (fn := F_slices_CompactFunc_SSint64_Sint64_L) (N := xs.length + 1) (by kernel_rfl) ?_
      refine (slices_CompactFunc_SSint64_Sint64_L.ev R _ (vs.zip xs)).trans ?_
      refine (compg150_all R hw (xs.length + 1) (vs.zip xs) (by omega) (by omega) hq).trans ?_
      rw [hz, hl]
    · cases h
end

set_option maxHeartbeats 2000000 in
set_option maxRecDepth 100000 in
theorem grow225_room (base : Option Addr) (l c n : Nat) (w : World) (hlc : l ≤ c) (hc63 : c ≤ 9223372036854775807) (hn63 : n ≤ 9223372036854775807) (hroom : l + n ≤ c) :
    Calls Tryz.prog 225 #[.slice base l c, .int .i64 n] w fun e w' => e = .returned (.slice base l c) ∧ w' = w := by
  have h1 : ¬ ((n : Int) < 0) := by omega
  have h2 : wrap64 ((c : Int) - (l : Int)) = (c : Int) - (l : Int) := by unfold wrap64; omega
  have h3 : wrap64 ((n : Int) - ((c : Int) - (l : Int))) = (n : Int) - ((c : Int) - (l : Int)) := by unfold wrap64; omega
  have h4 : ¬ ((n : Int) - ((c : Int) - (l : Int)) > 0) := by omega
  go_enter Tryz.func225, Tryz.ntmps225
  go_wp2
  go_ret
  exact ⟨rfl, rfl⟩

set_option maxHeartbeats 4000000 in
set_option maxRecDepth 100000 in
theorem grow225_grow (i0 : TypeInfo) (z : Value) (hi0 : Tryz.prog.info? 2 = some i0) (hz0 : i0.zero = some z) (hs0 : 0 < i0.size)
    (base : Option Addr) (l c n : Nat) (cs : List Value) (w : World) (hlc : l ≤ c) (hroom : c < l + n) (hbig : (l + n) * i0.bytes ≤ 140737488355328) (h63 : l + n ≤ 4611686018427387904)
    (hcl : cs.length = c * i0.size) (hnil : base = none → c = 0) (hcs : ∀ a, base = some a → ∀ (j : Nat) v, cs[j]? = some v → w.cell? (a.add j) = some v) :
    Calls Tryz.prog 225 #[.slice base l c, .int .i64 n] w fun e w' =>
      e = .returned (.slice (some ⟨w.heap.size, 0, none⟩) l (grownCap w (l + n) c 2)) ∧
      w' = w.drew.alloc (.cells (cs.toArray ++ Builtin.zeroCells z.cells (l + n - c) ++ Builtin.zeroCells z.cells (grownCap w (l + n) c 2 - (l + n))) 2) := by
  have h1 : ¬ ((n : Int) < 0) := by omega
  have h2 : wrap64 ((c : Int) - (l : Int)) = (c : Int) - (l : Int) := by unfold wrap64; omega
  have h3 : wrap64 ((n : Int) - ((c : Int) - (l : Int))) = (n : Int) - ((c : Int) - (l : Int)) := by unfold wrap64; omega
  have h4 : (n : Int) - ((c : Int) - (l : Int)) > 0 := by omega
  have z25 : ∀ w, (Go.sizeOf 2).run Tryz.prog w = .ok i0.size w := fun w => by simp [Go.sizeOf, typeInfo, hi0]
  have hck : c + (l + n - c) = l + n := by omega
  have hold : (Builtin.firstCells i0.size c (.slice base c c)).run Tryz.prog w.drew = .ok cs.toArray w.drew := by
    cases base with
    | none =>
      have h0 := hnil rfl
      subst h0
      have hc0 : cs = [] := List.length_eq_zero_iff.1 (by simpa using hcl)
      rw [hc0]
      exact run_firstCells_none w.drew i0.size 0 0 0
    | some a => exact run_firstCells_some w.drew i0.size c a c c cs hcl (fun j v hj => hcs a rfl j v hj)
  have hrz : ∀ ty, (Builtin.append_ #[35, 3] ty #[.slice base c c, .int .i64 ((n : Int) - ((c : Int) - (l : Int)))]).run Tryz.prog w =
      .ok (.slice (some ⟨w.heap.size, 0, none⟩) (l + n) (grownCap w (l + n) c 2)) (w.drew.alloc (.cells (cs.toArray ++ Builtin.zeroCells z.cells (l + n - c) ++ Builtin.zeroCells z.cells (grownCap w (l + n) c 2 - (l + n))) 2)) := fun ty => by
    have h := Lib.run_append_grow_zeros w 35 3 ty 2 i0 z .i64 .i64 Tryz.underlying35 Tryz.underlying3 hi0 hz0 base c c cs hold (l + n - c) (by omega) hs0 (by omega) (by omega)
      (by have : (l + n - c) * i0.bytes ≤ (l + n) * i0.bytes := Nat.mul_le_mul_right _ (by omega)
          omega)
      (by rw [hck]; exact growslice_fits hroom hbig)
    rw [hck] at h
    rw [show (n : Int) - ((c : Int) - (l : Int)) = ((l + n - c : Nat) : Int) by omega]
    exact h
  have hGn : l + n ≤ grownCap w (l + n) c 2 := grownCap_ge w _ _ _
  obtain ⟨G, hG⟩ : ∃ G, G = grownCap w (l + n) c 2 := ⟨_, rfl⟩
  rw [← hG] at hrz hGn ⊢
  have hG63 : G ≤ 9223372036854775807 := by
    have := grownCap_le_maxLen w (l + n) c 2 (by unfold maxLen; omega)
    rw [← hG] at this
    unfold maxLen at this
    omega
  clear hold hck hG hcs hcl
  go_enter Tryz.func225, Tryz.ntmps225
  cases base with
  | none =>
    have h0 := hnil rfl
    subst h0
    obtain rfl : l = 0 := by omega
    go_wp2_with (at_builtin; refine Lib.wpList_append_run _ rfl _ _ _ _ rfl _ _ rfl rfl _ _ (hrz _) ?_)
    all_goals (go_ret; exact ⟨rfl, rfl⟩)
  | some a =>
    obtain ⟨ab, ao, asp⟩ := a
    go_wp2_with (at_builtin; refine Lib.wpList_append_run _ rfl _ _ _ _ rfl _ _ rfl rfl _ _ (hrz _) ?_)
    all_goals (go_ret; exact ⟨rfl, rfl⟩)
theorem grow225_info : (Tryz.prog.info? 2).any (fun i => i.size == Ve.Ty.size yI && i.zero.any (fun z => z.cells.size == Ve.Ty.size yI) && decide (i.bytes ≤ 64 * Ve.Ty.size yI) && decide (0 < i.bytes) && decide (0 < Ve.Ty.size yI)) = true := by kernel_rfl
open Ve in
theorem grow225_contract (R : Run) {args : List Dv} {dv : Dv} (h : pGrow yI R args = some dv) :
    Contract Tryz.prog ⟨[(false, 1), (false, 1)], [.take true, .imm], .cons yL .nil, [(false, 1)], [.deep], []⟩ 225 args dv := by
  have hi := grow225_info
  cases hi0 : Tryz.prog.info? 2 with
  | none => rw [hi0] at hi; cases hi
  | some i0 =>
    rw [hi0] at hi
    simp only [Option.any_some, Bool.and_eq_true, decide_eq_true_eq, beq_iff_eq] at hi
    obtain ⟨⟨⟨⟨h1, h2⟩, h3⟩, h4⟩, h5⟩ := hi
    cases hz : i0.zero with
    | none => rw [hz] at h2; cases h2
    | some z =>
      rw [hz] at h2
      exact grow_contract h1 (by simpa using h2) h5 h3 h4 grow225_room (fun base l c n cs w a1 a2 a3 a4 a5 a6 a7 => grow225_grow i0 z hi0 hz (by rw [h1]; exact h5) base l c n cs w a1 a2 a3 a4 a5 a6 a7) R h

end
section
open Go Ve
theorem primL_eq : primL = (List.range 286).map fun i => bif Nat.beq i 18 then some (pMarkSS n_Z31) else bif Nat.beq i 145 then some pSortI else bif Nat.beq i 146 then some pCompI else bif Nat.beq i 148 then some (pSortF n_Z10) else bif Nat.beq i 150 then some (pCompG n_Z51) else bif Nat.beq i 225 then some (pGrow yI) else none := by kernel_rfl
theorem prims_ok (hE : EnvOk E) : ∀ f p, E.prim f = some p → ∀ r, RunOk E (mkR r) → ∀ args dv sg, E.sig f = some sg → p (mkR r) args = some dv → Contract E.P sg f args dv := by
  intro f p hp r hr args dv sg hsg h
  have hp : primL.getD f none = some p := hp
  rw [primL_eq, List.getD_eq_getElem?_getD, List.getElem?_map] at hp
  by_cases hf : f < 286
  · rw [List.getElem?_range hf] at hp
    simp only [Option.map_some, Option.getD_some] at hp
    by_cases h18 : f = 18
    · subst h18
      obtain rfl : (pMarkSS n_Z31) = p := Option.some.inj hp
      obtain rfl : sg_Z32 = sg := Option.some.inj (sig_laws_markInt64SS_eq.symm.trans hsg)
      exact mark18_contract (fun args dv h => hr _ args dv _ sig_laws_markInt64S_eq h) h
    rw [show Nat.beq f 18 = false from Bool.eq_false_iff.2 fun h => h18 (Nat.eq_of_beq_eq_true h), cond_false] at hp
    by_cases h145 : f = 145
    · subst h145
      obtain rfl : pSortI = p := Option.some.inj hp
      obtain rfl : sg_Z60 = sg := Option.some.inj (sig_slices_Sort_Sint64_int64_eq.symm.trans hsg)
      exact sort145_contract _ h
    rw [show Nat.beq f 145 = false from Bool.eq_false_iff.2 fun h => h145 (Nat.eq_of_beq_eq_true h), cond_false] at hp
    by_cases h146 : f = 146
    · subst h146
      obtain rfl : pCompI = p := Option.some.inj hp
      obtain rfl : sg_Z43 = sg := Option.some.inj (sig_slices_Compact_Sint64_int64_eq.symm.trans hsg)
      exact comp146_contract _ h
    rw [show Nat.beq f 146 = false from Bool.eq_false_iff.2 fun h => h146 (Nat.eq_of_beq_eq_true h), cond_false] at hp
    by_cases h148 : f = 148
    · subst h148
      obtain rfl : (pSortF n_Z10) = p := Option.some.inj hp
      obtain rfl : sg_Z59 = sg := Option.some.inj (sig_slices_SortFunc_SSint64_Sint64_eq.symm.trans hsg)
      exact sortf148_contract (fun args dv h => hr _ args dv _ sig_impl_compareSimplices_eq h) h
    rw [show Nat.beq f 148 = false from Bool.eq_false_iff.2 fun h => h148 (Nat.eq_of_beq_eq_true h), cond_false] at hp
    by_cases h150 : f = 150
    · subst h150
      obtain rfl : (pCompG n_Z51) = p := Option.some.inj hp
      obtain rfl : sg_Z42 = sg := Option.some.inj (sig_slices_CompactFunc_SSint64_Sint64_eq.symm.trans hsg)
      exact compg150_contract hE hr (mkR_ok _) (fun _ _ => rfl) h
    rw [show Nat.beq f 150 = false from Bool.eq_false_iff.2 fun h => h150 (Nat.eq_of_beq_eq_true h), cond_false] at hp
    by_cases h225 : f = 225
    · subst h225
      obtain rfl : (pGrow yI) = p := Option.some.inj hp
      obtain rfl : sg_Z52 = sg := Option.some.inj (sig_slices_Grow_Sint64_int64_eq.symm.trans hsg)
      exact grow225_contract _ h
    rw [show Nat.beq f 225 = false from Bool.eq_false_iff.2 fun h => h225 (Nat.eq_of_beq_eq_true h), cond_false] at hp
    cases hp
  · rw [List.getElem?_eq_none (by simpa using hf)] at hp
    cases hp
end
end VeT

open Go Go.Proofs Ve
set_option linter.unusedVariables false
set_option linter.unusedSimpArgs false
namespace VeT

theorem szInt64S_ret (x : (List Int)) (l : Int) (hx : Wf yL x) (h0 : 0 ≤ l) (h1 : l ≤ 1048576) :
    ∃ r : Int, Ret E n_Z34 [⟨yL, x⟩, ⟨.int .i64, l⟩] ⟨o_Z34, (r, ())⟩ ∧ (0 ≤ r → r ≤ l ∧ Sm yL x) := by
  have hx1 : x.length ≤ maxLen := hx.1
  rw [maxLen_eq] at hx1
  have hw : w64 (l - x.length) = l - x.length := w64_small (by omega) (by omega)
  by_cases hc : l - (x.length : Int) < 0
  · refine ⟨-1, Evt.succ (Evt.of fun n => ?_), fun h => by omega⟩
    rw [run_Z34, Z34.ev, hw, decide_eq_true hc]; rfl
  · refine ⟨l - x.length, Evt.succ (Evt.of fun n => ?_), fun h => ⟨by omega, by omega, fun x _ => trivial⟩⟩
    rw [run_Z34, Z34.ev, hw, decide_eq_false hc]; rfl

theorem toInt64S_ret (x : (List Int)) (hx : Sm yL x) : Ret E n_Z37 [⟨yL, x⟩] ⟨o_Z37, (x, ())⟩ := by
  have hx1 : x.length ≤ 1048576 := hx.1
  have hl := fill_loop (a := x) (L := fun m n i o => Z37.l0 (mkR (run E m)) m n x i o) (z := List.replicate (Int.toNat (List.length x : Int)) (0 : Int)) (r := some ⟨o_Z37, (x, ())⟩) (by simp) (fun k o hk ho => by
      refine Evt.of fun m n => ?_
      show Z37.l0 _ _ _ _ _ _ = _
      rw [Z37.l0_succ _ mk_ok, decide_eq_true (show (k : Int) < x.length by omega), cond_true, idx_lt hk]
      simp only [Option.bind_some]
      rw [chk_true (by simp; omega), w64_succ (by omega), Int.toNat_natCast]) (Evt.of fun m n => by
      show Z37.l0 _ _ _ _ _ _ = _
      rw [Z37.l0_succ _ mk_ok, decide_eq_false (by omega), cond_false])
  refine Evt.succ (hl.mono fun n h => ?_)
  rw [run_Z37, Z37.ev, chk_true (by simp; omega)]
  exact h

theorem eqInt64S_ret (x y : (List Int)) (hx : Sm yL x) : ∃ b : Bool, Ret E n_Z25 [⟨yL, x⟩, ⟨yL, y⟩] ⟨o_Z25, (b, ())⟩ ∧ (b = true ↔ x = y) := by
  have hx1 : x.length ≤ 1048576 := hx.1
  by_cases hl : x.length = y.length
  · have hd : ((x.length : Int) != (y.length : Int)) = false := by simp [hl]
    obtain ⟨h1, h2⟩ := same_loop (a := x) (b := y) (L := fun m n i (_ : Unit) => Z25.l0 (mkR (run E m)) m n x y i) (fun u v => u = v) (rt := some ⟨o_Z25, (true, ())⟩) (rf := some ⟨o_Z25, (false, ())⟩) hl.symm
      (fun k h h' hne => Evt.of fun m n => by
      show Z25.l0 _ _ _ _ _ _ = _
      rw [Z25.l0_succ _ mk_ok, decide_eq_true (show (k : Int) < x.length by omega), cond_true, idx_lt h, idx_lt h']
      have : (x[k] != y[k]) = true := by simpa using hne
      simp only [Option.bind_some, this, cond_true])
      (fun k h h' he => Evt.of fun m n => by
      show Z25.l0 _ _ _ _ _ _ = _
      rw [Z25.l0_succ _ mk_ok, decide_eq_true (show (k : Int) < x.length by omega), cond_true, idx_lt h, idx_lt h']
      have : (x[k] != y[k]) = false := by simpa using he
      simp only [Option.bind_some, this, cond_false]
      rw [w64_succ (by omega)])
      (Evt.of fun m n => by
      show Z25.l0 _ _ _ _ _ _ = _
      rw [Z25.l0_succ _ mk_ok, decide_eq_false (by omega), cond_false])
    by_cases he : x = y
    · refine ⟨true, Evt.succ ((h1 (by subst he; intros; rfl)).mono fun n h => ?_), by simp [he]⟩
      rw [run_Z25, Z25.ev, hd, cond_false]
      exact h
    · refine ⟨false, Evt.succ ((h2 fun hh => he (List.ext_getElem hl hh)).mono fun n h => ?_), by simp [he]⟩
      rw [run_Z25, Z25.ev, hd, cond_false]
      exact h
  · have hd : ((x.length : Int) != (y.length : Int)) = true := by simp; omega
    refine ⟨false, Evt.succ (Evt.of fun n => ?_), ⟨fun h => (nomatch h), fun h => absurd (congrArg List.length h) hl⟩⟩
    rw [run_Z25, Z25.ev, hd, cond_true]

theorem szInt64SS_ret (x : vK) (l : Int) (hx : Wf yK x) (h0 : 0 ≤ l) (h1 : l ≤ 1048576) :
    ∃ r : Int, Ret E n_Z35 [⟨yK, x⟩, ⟨.int .i64, l⟩] ⟨o_Z35, (r, ())⟩ ∧ (0 ≤ r → r ≤ l ∧ Sm yK x) := by
  have hx1 : x.length ≤ maxLen := hx.1
  rw [maxLen_eq] at hx1
  have hw : w64 (l - x.length) = l - x.length := w64_small (by omega) (by omega)
  by_cases hc : l - (x.length : Int) < 0
  · refine ⟨-1, Evt.succ (Evt.of fun n => ?_), fun h => by omega⟩
    rw [run_Z35, Z35.ev, hw, decide_eq_true hc]; rfl
  · obtain ⟨r, hr, hs⟩ := sz_loop (xs := x) (L := fun m n i left => Z35.l0 (mkR (run E m)) m n x left i) (ret := fun r => some ⟨o_Z35, (r, ())⟩) (fun x => Sm yL x) (fun k left hk hl0 hl1 => by
      obtain ⟨r, hr, hs⟩ := szInt64S_ret x[k] left (hx.2 _ (List.getElem_mem hk)) hl0 hl1
      refine ⟨r, hs, hr.mono fun m h n => ?_⟩
      show Z35.l0 _ _ _ _ _ _ = _
      rw [Z35.l0_succ _ mk_ok, decide_eq_true (show (k : Int) < x.length by omega), cond_true, idx_lt hk]
      simp only [Option.bind_some, callT_of h]
      rw [w64_succ (by omega)]) (fun left => Evt.of fun m n => by
      show Z35.l0 _ _ _ _ _ _ = _
      rw [Z35.l0_succ _ mk_ok, decide_eq_false (by omega), cond_false]) (l - x.length) (by omega) (by omega)
    refine ⟨r, Evt.succ (hr.mono fun n h => ?_), fun h => ⟨by have := (hs h).1; omega, by omega, (hs h).2⟩⟩
    rw [run_Z35, Z35.ev, hw, decide_eq_false hc]
    exact h

theorem toInt64SS_ret (x : vK) (hx : Sm yK x) : Ret E n_Z38 [⟨yK, x⟩] ⟨o_Z38, (x, ())⟩ := by
  have hx1 : x.length ≤ 1048576 := hx.1
  have hl := fill_loop (a := x) (L := fun m n i o => Z38.l0 (mkR (run E m)) m n x i o) (z := List.replicate (Int.toNat (List.length x : Int)) ([] : List Int)) (r := some ⟨o_Z38, (x, ())⟩) (by simp) (fun k o hk ho => by
      have hr := toInt64S_ret x[k] (hx.2 _ (List.getElem_mem hk))
      refine hr.mono fun m h n => ?_
      show Z38.l0 _ _ _ _ _ _ = _
      rw [Z38.l0_succ _ mk_ok, decide_eq_true (show (k : Int) < x.length by omega), cond_true, idx_lt hk]
      simp only [Option.bind_some, callT_of h]
      rw [chk_true (by simp; omega), w64_succ (by omega), Int.toNat_natCast]) (Evt.of fun m n => by
      show Z38.l0 _ _ _ _ _ _ = _
      rw [Z38.l0_succ _ mk_ok, decide_eq_false (by omega), cond_false])
  refine Evt.succ (hl.mono fun n h => ?_)
  rw [run_Z38, Z38.ev, chk_true (by simp; omega)]
  exact h

theorem eqInt64SS_ret (x y : vK) (hx : Sm yK x) : ∃ b : Bool, Ret E n_Z26 [⟨yK, x⟩, ⟨yK, y⟩] ⟨o_Z26, (b, ())⟩ ∧ (b = true ↔ x = y) := by
  have hx1 : x.length ≤ 1048576 := hx.1
  by_cases hl : x.length = y.length
  · have hd : ((x.length : Int) != (y.length : Int)) = false := by simp [hl]
    obtain ⟨h1, h2⟩ := same_loop (a := x) (b := y) (L := fun m n i (_ : Unit) => Z26.l0 (mkR (run E m)) m n x y i) (fun u v => u = v) (rt := some ⟨o_Z26, (true, ())⟩) (rf := some ⟨o_Z26, (false, ())⟩) hl.symm
      (fun k h h' hne => by
      obtain ⟨b, hb, hbe⟩ := eqInt64S_ret x[k] y[k] (hx.2 _ (List.getElem_mem h))
      have hb0 : b = false := by cases b <;> simp_all
      subst hb0
      refine hb.mono fun m hm n => ?_
      show Z26.l0 _ _ _ _ _ _ = _
      rw [Z26.l0_succ _ mk_ok, decide_eq_true (show (k : Int) < x.length by omega), cond_true, idx_lt h, idx_lt h']
      simp only [Option.bind_some, callT_of hm, Bool.not_false, Bool.not_true, cond_true, cond_false])
      (fun k h h' he => by
      obtain ⟨b, hb, hbe⟩ := eqInt64S_ret x[k] y[k] (hx.2 _ (List.getElem_mem h))
      have hb0 : b = true := by cases b <;> simp_all
      subst hb0
      refine hb.mono fun m hm n => ?_
      show Z26.l0 _ _ _ _ _ _ = _
      rw [Z26.l0_succ _ mk_ok, decide_eq_true (show (k : Int) < x.length by omega), cond_true, idx_lt h, idx_lt h']
      simp only [Option.bind_some, callT_of hm, Bool.not_false, Bool.not_true, cond_true, cond_false]
      rw [w64_succ (by omega)])
      (Evt.of fun m n => by
      show Z26.l0 _ _ _ _ _ _ = _
      rw [Z26.l0_succ _ mk_ok, decide_eq_false (by omega), cond_false])
    by_cases he : x = y
    · refine ⟨true, Evt.succ ((h1 (by subst he; intros; rfl)).mono fun n h => ?_), by simp [he]⟩
      rw [run_Z26, Z26.ev, hd, cond_false]
      exact h
    · refine ⟨false, Evt.succ ((h2 fun hh => he (List.ext_getElem hl hh)).mono fun n h => ?_), by simp [he]⟩
      rw [run_Z26, Z26.ev, hd, cond_false]
      exact h
  · have hd : ((x.length : Int) != (y.length : Int)) = true := by simp; omega
    refine ⟨false, Evt.succ (Evt.of fun n => ?_), ⟨fun h => (nomatch h), fun h => absurd (congrArg List.length h) hl⟩⟩
    rw [run_Z26, Z26.ev, hd, cond_true]

theorem szComplex_ret (x : (vK × Unit)) (l : Int) (hx : Wf (.st (.cons yK .nil)) x) (h0 : 0 ≤ l) (h1 : l ≤ 1048576) :
    ∃ r : Int, Ret E n_Z33 [⟨yK, x.1⟩, ⟨.int .i64, l⟩] ⟨o_Z33, (r, ())⟩ ∧ (0 ≤ r → r ≤ l ∧ Sm (.st (.cons yK .nil)) x) := by
  obtain ⟨r0, hr0, hs0⟩ := szInt64SS_ret x.1 l hx.1 (by omega) (by omega)
  by_cases hc0 : r0 < 0
  · refine ⟨-1, Evt.succ (hr0.mono fun n e0 => ?_), fun h => by omega⟩
    rw [run_Z33, Z33.ev]
    simp only [Option.bind_some, cond_true, cond_false, callT_of e0, decide_eq_true hc0]
  have hb0 := hs0 (by omega)
  refine ⟨r0, Evt.succ (hr0.mono fun n e0 => ?_), fun h => ⟨by omega, ?_⟩⟩
  · skip
    rw [run_Z33, Z33.ev]
    simp only [Option.bind_some, cond_true, cond_false, callT_of e0, decide_eq_false hc0]
  · exact ⟨hb0.2, trivial⟩

theorem toComplex_ret (x : (vK × Unit)) (hx : Sm (.st (.cons yK .nil)) x) : Ret E n_Z36 [⟨yK, x.1⟩] ⟨o_Z36, x⟩ := by
  have hr0 := toInt64SS_ret x.1 hx.1
  refine Evt.succ (hr0.mono fun n e0 => ?_)
  rw [run_Z36, Z36.ev]
  simp only [Option.bind_some, callT_of e0]

theorem eqComplex_ret (x y : (vK × Unit)) (hx : Sm (.st (.cons yK .nil)) x) : ∃ b : Bool, Ret E n_Z24 [⟨yK, x.1⟩, ⟨yK, y.1⟩] ⟨o_Z24, (b, ())⟩ ∧ (b = true ↔ x = y) := by
  obtain ⟨b0, hr0, hb0⟩ := eqInt64SS_ret x.1 y.1 hx.1
  refine ⟨b0, Evt.succ (hr0.mono fun n e0 => ?_), ?_⟩
  · skip
    rw [run_Z24, Z24.ev]
    simp only [Option.bind_some, callT_of e0]
    clear hx hr0 e0 hb0
    cases b0 <;> rfl
  · obtain ⟨x0, _⟩ := x
    obtain ⟨y0, _⟩ := y
    simp only [Bool.and_eq_true, decide_eq_true_eq, hb0, Prod.mk.injEq, and_true]
    try simp only [and_assoc]

end VeT

open Go Go.Proofs Ve
set_option linter.unusedVariables false
set_option linter.unusedSimpArgs false
namespace VeT

theorem IndexFunc_SSint64_Sint64_impl_ValidComplex_1_ret (s : List (List Int)) (c : ((vK × Unit) × (Int × Unit) × Unit)) (p : (List Int) → Bool) (hs : s.length ≤ 1048576) (hp : ∀ x ∈ s, Ret E n_Z7 [⟨yL, x⟩, ⟨(.ptr (.cons yK .nil)), c.1⟩, ⟨(.ptr (.cons yI .nil)), c.2.1⟩] ⟨o_Z7, (p x, ())⟩) :
    Ret E n_Z53 [⟨yK, s⟩, ⟨(.fn n_Z7 (.cons (.ptr (.cons yK .nil)) (.cons (.ptr (.cons yI .nil)) .nil))), c⟩] ⟨o_Z53, (idxf p s, ())⟩ := by
  obtain ⟨o, h1, h2, h3⟩ := find_loop 1 (L := fun φ n k => Z54.l0 (mkR (run E (φ 0))) (φ 0) n s c (s.length : Int) k) (len := s.length) (fun k => ∃ h : k < s.length, p s[k] = true) (fun o => some ⟨o_Z53, (o2i o, ())⟩) (fun _ _ _ _ => rfl) (fun k hk hP => by
      obtain ⟨_, hP⟩ := hP
      simp only [Z54.l0_succ _ mk_ok]
      refine ev_t (decide_eq_true (by omega)) (ev_bind (idx_lt hk) (ev_call (hp _ (List.getElem_mem hk)) (ev_t hP ev_rfl)))) (fun k q hk hP ih => by
      simp only [Z54.l0_succ _ mk_ok]
      refine ev_t (decide_eq_true (by omega)) (ev_bind (idx_lt hk) (ev_call (hp _ (List.getElem_mem hk)) (ev_f (Bool.eq_false_iff.2 fun h => hP ⟨hk, h⟩) ?_)))
      rw [w64_succ (by omega)]; exact ih) (by
      simp only [Z54.l0_succ _ mk_ok]
      exact ev_f (decide_eq_false (by omega)) ev_rfl)
  rw [idxf_of h1 h2] at h3
  refine ret_of ?_
  simp only [run_Z53, Z54.ev]
  exact Ev.start (p := fun φ n => Z54.l0 (mkR (run E (φ 0))) (φ 0) n s c (s.length : Int) 0 = _) 1 h3 (fun _ _ _ h => h)

theorem IndexFunc_SSint64_Sint64_impl_isMap_1_ret (s : List (List Int)) (c : ((vK × Unit) × (vK × Unit) × ((List Int) × Unit) × Unit)) (p : (List Int) → Bool) (hs : s.length ≤ 1048576) (hp : ∀ x ∈ s, Ret E n_Z17 [⟨yL, x⟩, ⟨(.ptr (.cons yK .nil)), c.1⟩, ⟨(.ptr (.cons yK .nil)), c.2.1⟩, ⟨(.ptr (.cons yL .nil)), c.2.2.1⟩] ⟨o_Z17, (p x, ())⟩) :
    Ret E n_Z53 [⟨yK, s⟩, ⟨(.fn n_Z17 (.cons (.ptr (.cons yK .nil)) (.cons (.ptr (.cons yK .nil)) (.cons (.ptr (.cons yL .nil)) .nil)))), c⟩] ⟨o_Z53, (idxf p s, ())⟩ := by
  obtain ⟨o, h1, h2, h3⟩ := find_loop 1 (L := fun φ n k => Z55.l0 (mkR (run E (φ 0))) (φ 0) n s c (s.length : Int) k) (len := s.length) (fun k => ∃ h : k < s.length, p s[k] = true) (fun o => some ⟨o_Z53, (o2i o, ())⟩) (fun _ _ _ _ => rfl) (fun k hk hP => by
      obtain ⟨_, hP⟩ := hP
      simp only [Z55.l0_succ _ mk_ok]
      refine ev_t (decide_eq_true (by omega)) (ev_bind (idx_lt hk) (ev_call (hp _ (List.getElem_mem hk)) (ev_t hP ev_rfl)))) (fun k q hk hP ih => by
      simp only [Z55.l0_succ _ mk_ok]
      refine ev_t (decide_eq_true (by omega)) (ev_bind (idx_lt hk) (ev_call (hp _ (List.getElem_mem hk)) (ev_f (Bool.eq_false_iff.2 fun h => hP ⟨hk, h⟩) ?_)))
      rw [w64_succ (by omega)]; exact ih) (by
      simp only [Z55.l0_succ _ mk_ok]
      exact ev_f (decide_eq_false (by omega)) ev_rfl)
  rw [idxf_of h1 h2] at h3
  refine ret_of ?_
  simp only [run_Z53, Z55.ev]
  exact Ev.start (p := fun φ n => Z55.l0 (mkR (run E (φ 0))) (φ 0) n s c (s.length : Int) 0 = _) 1 h3 (fun _ _ _ h => h)

theorem IndexFunc_Sint64_int64_impl_ValidSimplex_1_ret (s : List Int) (p : Int → Bool) (hs : s.length ≤ 1048576) (hp : ∀ x ∈ s, Ret E n_Z9 [⟨yI, x⟩] ⟨o_Z9, (p x, ())⟩) :
    Ret E n_Z56 [⟨yL, s⟩, ⟨(.fn n_Z9 .nil), ()⟩] ⟨o_Z56, (idxf p s, ())⟩ := by
  obtain ⟨o, h1, h2, h3⟩ := find_loop 1 (L := fun φ n k => Z57.l0 (mkR (run E (φ 0))) (φ 0) n s (s.length : Int) k) (len := s.length) (fun k => ∃ h : k < s.length, p s[k] = true) (fun o => some ⟨o_Z56, (o2i o, ())⟩) (fun _ _ _ _ => rfl) (fun k hk hP => by
      obtain ⟨_, hP⟩ := hP
      simp only [Z57.l0_succ _ mk_ok]
      refine ev_t (decide_eq_true (by omega)) (ev_bind (idx_lt hk) (ev_call (hp _ (List.getElem_mem hk)) (ev_t hP ev_rfl)))) (fun k q hk hP ih => by
      simp only [Z57.l0_succ _ mk_ok]
      refine ev_t (decide_eq_true (by omega)) (ev_bind (idx_lt hk) (ev_call (hp _ (List.getElem_mem hk)) (ev_f (Bool.eq_false_iff.2 fun h => hP ⟨hk, h⟩) ?_)))
      rw [w64_succ (by omega)]; exact ih) (by
      simp only [Z57.l0_succ _ mk_ok]
      exact ev_f (decide_eq_false (by omega)) ev_rfl)
  rw [idxf_of h1 h2] at h3
  refine ret_of ?_
  simp only [run_Z56, Z57.ev]
  exact Ev.start (p := fun φ n => Z57.l0 (mkR (run E (φ 0))) (φ 0) n s (s.length : Int) 0 = _) 1 h3 (fun _ _ _ h => h)

theorem ContainsFunc_SSint64_Sint64_impl_ValidComplex_1_ret (s : List (List Int)) (c : ((vK × Unit) × (Int × Unit) × Unit)) (p : (List Int) → Bool) (hs : s.length ≤ 1048576) (hp : ∀ x ∈ s, Ret E n_Z7 [⟨yL, x⟩, ⟨(.ptr (.cons yK .nil)), c.1⟩, ⟨(.ptr (.cons yI .nil)), c.2.1⟩] ⟨o_Z7, (p x, ())⟩) :
    Ret E n_Z46 [⟨yK, s⟩, ⟨(.fn n_Z7 (.cons (.ptr (.cons yK .nil)) (.cons (.ptr (.cons yI .nil)) .nil))), c⟩] ⟨o_Z46, (pb (∃ x ∈ s, p x = true), ())⟩ := by
  refine ret_of ?_
  simp only [run_Z46, Z47.ev]
  refine ev_call (IndexFunc_SSint64_Sint64_impl_ValidComplex_1_ret s c p hs hp) (ev_some ?_)
  simp only [ge_iff_le, pb_dec, pb_congr idxf_nonneg]

theorem ContainsFunc_SSint64_Sint64_impl_isMap_1_ret (s : List (List Int)) (c : ((vK × Unit) × (vK × Unit) × ((List Int) × Unit) × Unit)) (p : (List Int) → Bool) (hs : s.length ≤ 1048576) (hp : ∀ x ∈ s, Ret E n_Z17 [⟨yL, x⟩, ⟨(.ptr (.cons yK .nil)), c.1⟩, ⟨(.ptr (.cons yK .nil)), c.2.1⟩, ⟨(.ptr (.cons yL .nil)), c.2.2.1⟩] ⟨o_Z17, (p x, ())⟩) :
    Ret E n_Z46 [⟨yK, s⟩, ⟨(.fn n_Z17 (.cons (.ptr (.cons yK .nil)) (.cons (.ptr (.cons yK .nil)) (.cons (.ptr (.cons yL .nil)) .nil)))), c⟩] ⟨o_Z46, (pb (∃ x ∈ s, p x = true), ())⟩ := by
  refine ret_of ?_
  simp only [run_Z46, Z48.ev]
  refine ev_call (IndexFunc_SSint64_Sint64_impl_isMap_1_ret s c p hs hp) (ev_some ?_)
  simp only [ge_iff_le, pb_dec, pb_congr idxf_nonneg]

theorem ContainsFunc_Sint64_int64_impl_ValidSimplex_1_ret (s : List Int) (p : Int → Bool) (hs : s.length ≤ 1048576) (hp : ∀ x ∈ s, Ret E n_Z9 [⟨yI, x⟩] ⟨o_Z9, (p x, ())⟩) :
    Ret E n_Z49 [⟨yL, s⟩, ⟨(.fn n_Z9 .nil), ()⟩] ⟨o_Z49, (pb (∃ x ∈ s, p x = true), ())⟩ := by
  refine ret_of ?_
  simp only [run_Z49, Z50.ev]
  refine ev_call (IndexFunc_Sint64_int64_impl_ValidSimplex_1_ret s p hs hp) (ev_some ?_)
  simp only [ge_iff_le, pb_dec, pb_congr idxf_nonneg]

end VeT

open Go Go.Proofs Ve
set_option linter.unusedVariables false
set_option linter.unusedSimpArgs false
namespace VeT

abbrev cM : Ty := .cons yI (.cons yI (.cons yI (.cons yL .nil)))
abbrev cC : Ty := .cons yK .nil
abbrev cS : Ty := .cons yK (.cons yI (.cons yL (.cons (.sl (.st cM)) .nil)))
abbrev Mat := Int × Int × Int × List Int × Unit
abbrev Cpx := List (List Int) × Unit
abbrev Shf := List (List Int) × Int × List Int × List Mat × Unit
abbrev Sim := List Int
abbrev dI (x : Int) : Dv := ⟨.int .i64,x⟩
abbrev dL (x : List Int) : Dv := ⟨.sl yI,x⟩
abbrev dLL (x : List (List Int)) : Dv := ⟨.sl yL,x⟩
abbrev dC (x : Cpx) : Dv := ⟨.ptr cC,x⟩
abbrev dM (x : Mat) : Dv := ⟨.ptr cM,x⟩
abbrev dS (x : Shf) : Dv := ⟨.ptr cS,x⟩
abbrev dMs (x : List Mat) : Dv := ⟨.sl (.st cM),x⟩

theorem within_ret (n lo hi : Int) : Ret E n_Z22 [dI n,dI lo,dI hi] ⟨o_Z22,(pb (lo ≤ n ∧ n ≤ hi),())⟩ := by
  refine ret_of ?_
  simp only [run_Z22,Z22.ev]
  refine ev_d (fun h => ev_some ?_) fun h => ev_some ?_
  · rw [pb_dec,pb_congr (show n ≤ hi ↔ lo ≤ n ∧ n ≤ hi by omega)]
  · rw [pb_false (by omega)]

theorem l00In_ret (n lo hi : Int) : Ret E n_Z62 [dI n,dI lo,dI hi] ⟨o_Z62,(pb (lo ≤ n ∧ n ≤ hi),())⟩ := by
  refine ret_of ?_
  simp only [run_Z62,Z62.ev]
  refine ev_d (fun h => ev_some ?_) fun h => ev_some ?_
  · rw [pb_dec,pb_congr (show n ≤ hi ↔ lo ≤ n ∧ n ≤ hi by omega)]
  · rw [pb_false (by omega)]

theorem isVertex_ret (n : Int) : Ret E n_Z19 [dI n] ⟨o_Z19,(pb (0 ≤ n ∧ n ≤ 9),())⟩ := by
  refine ret_of ?_
  simp only [run_Z19,Z19.ev]
  exact ev_call (within_ret _ _ _) ev_rfl

theorem ValidSimplex_1_ret (n : Int) : Ret E n_Z9 [dI n] ⟨o_Z9,(!pb (0 ≤ n ∧ n ≤ 9),())⟩ := by
  refine ret_of ?_
  simp only [run_Z9,Z9.ev]
  exact ev_call (isVertex_ret _) ev_rfl

/-- the list rises -/
def Rises (s : Sim) : Prop := ∀ j,1 ≤ j → j < s.length → s.getD (j - 1) 0 < s.getD j 0

theorem isRising_ret (s : Sim) (hs : Sm yL s) : Ret E n_Z18 [dL s] ⟨o_Z18,(pb (Rises s),())⟩ := by
  have hs1 : s.length ≤ 1048576 := hs.1
  refine ret_of ?_
  simp only [run_Z18,Z18.ev]
  by_cases h0 : s.length = 0
  · refine Ev.start (p := fun φ n => Z18.l0 (mkR (run E (φ 0))) (φ 0) n s 1 = _) 1 ?_ (fun _ _ _ h => h)
    refine loopR 1 (σ := Unit) (L := fun φ n _ => Z18.l0 (mkR (run E (φ 0))) (φ 0) n s 1) (fun _ _ _ _ => rfl) (fun _ => True) (fun _ => _) (fun _ => 0) (fun _ _ _ => ?_) () trivial
    simp only [Z18.l0_succ _ mk_ok]
    refine ev_f (decide_eq_false (by omega)) (ev_some ?_)
    rw [pb_true]
    intro j h1 h2; omega
  · refine Ev.start (p := fun φ n => Z18.l0 (mkR (run E (φ 0))) (φ 0) n s 1 = _) 1 ?_ (fun _ _ _ h => h)
    refine all_pb 1 (L := fun φ n k => Z18.l0 (mkR (run E (φ 0))) (φ 0) n s k) (len := s.length) 1 (by omega) (fun j => s.getD (j - 1) 0 < s.getD j 0) (fun b => some ⟨o_Z18,(b,())⟩) (fun _ _ _ _ => rfl) (fun k h1 h2 hP _ => ?_) (fun k r h1 h2 hP _ ih => ?_) (fun _ => ?_)
    · simp only [Z18.l0_succ _ mk_ok]
      refine ev_t (decide_eq_true (by omega)) ?_
      rw [w64_small (by omega) (by omega),show ((k : Int) - 1) = ((k - 1 : Nat) : Int) by omega]
      refine ev_bind (idx_lt (by omega)) (ev_bind (idx_lt h2) (ev_t (decide_eq_true ?_) ev_rfl))
      simpa [List.getD_eq_getElem?_getD,h2,show k - 1 < s.length by omega] using hP
    · simp only [Z18.l0_succ _ mk_ok]
      refine ev_t (decide_eq_true (by omega)) ?_
      rw [w64_small (by omega) (by omega),show ((k : Int) - 1) = ((k - 1 : Nat) : Int) by omega]
      refine ev_bind (idx_lt (by omega)) (ev_bind (idx_lt h2) (ev_f (decide_eq_false ?_) ?_))
      · simpa [List.getD_eq_getElem?_getD,h2,show k - 1 < s.length by omega] using hP
      · rw [w64_succ (by omega)]; exact ih
    · simp only [Z18.l0_succ _ mk_ok]
      exact ev_f (decide_eq_false (by omega)) ev_rfl

end VeT
