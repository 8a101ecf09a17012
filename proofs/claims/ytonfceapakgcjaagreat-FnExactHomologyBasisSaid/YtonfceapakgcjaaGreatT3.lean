import Derived.Test.YtonfceapakgcjaaGreatV2
import Derived.Test.YtonfceapakgcjaaGreatProg
import Derived.KernelRfl
set_option linter.unusedVariables false
set_option linter.unusedSimpArgs false
open Go Go.Proofs Ve
set_option linter.unusedVariables false
set_option maxRecDepth 100000
namespace VeT
abbrev yM : Ty := .cons (.int .i64) (.cons (.int .i64) (.cons (.int .i64) (.cons (.sl (.int .i64)) .nil)))
abbrev yI : Ty := .int .i64
abbrev yL : Ty := .sl yI
abbrev yK : Ty := .sl yL
abbrev yN : Ty := .sl (.st yM)
abbrev yS : Ty := .cons yK (.cons yI (.cons yL (.cons yN .nil)))
abbrev vM := Int × Int × Int × List Int × Unit
abbrev vK := List (List Int)
abbrev vN := List vM
abbrev vS := vK × Int × List Int × vN × Unit
noncomputable def bodyOf (f:Func):Code := f.body.getD .skip
def zd:Nat → List Ve.V → List Ve.V
  | 0,t => t
  | n + 1,t => V.dead::zd n t
def zo:Nat → List (Option Ve.Obj) → List (Option Ve.Obj)
  | 0,t => t
  | n + 1,t => none::zo n t
@[reducible] def n_Z53:Nat := 3
@[reducible] def n_Z62:Nat := 11
@[reducible] def n_Z88:Nat := 12
@[reducible] def n_Z65:Nat := 13
@[reducible] def n_Z5:Nat := 14
@[reducible] def n_Z56:Nat := 15
@[reducible] def n_Z54:Nat := 16
@[reducible] def n_Z59:Nat := 17
@[reducible] def n_Z61:Nat := 18
@[reducible] def n_Z58:Nat := 19
@[reducible] def n_Z66:Nat := 21
@[reducible] def n_Z55:Nat := 23
@[reducible] def n_Z60:Nat := 24
@[reducible] def n_Z57:Nat := 25
@[reducible] def n_Z64:Nat := 46
@[reducible] def n_Z111:Nat := 47
@[reducible] def n_Z112:Nat := 48
@[reducible] def n_Z67:Nat := 49
@[reducible] def n_Z17:Nat := 50
@[reducible] def n_Z30:Nat := 51
@[reducible] def n_Z113:Nat := 55
@[reducible] def n_Z15:Nat := 59
@[reducible] def n_Z95:Nat := 60
@[reducible] def n_Z104:Nat := 62
@[reducible] def n_Z108:Nat := 63
@[reducible] def n_Z63:Nat := 67
@[reducible] def n_Z92:Nat := 80
@[reducible] def n_Z31:Nat := 96
@[reducible] def n_Z109:Nat := 97
@[reducible] def n_Z89:Nat := 98
@[reducible] def n_Z114:Nat := 99
@[reducible] def n_Z98:Nat := 100
@[reducible] def n_Z8:Nat := 101
@[reducible] def n_Z10:Nat := 102
@[reducible] def n_Z34:Nat := 103
@[reducible] def n_Z45:Nat := 104
@[reducible] def n_Z39:Nat := 105
@[reducible] def n_Z16:Nat := 106
@[reducible] def n_Z117:Nat := 109
@[reducible] def n_Z101:Nat := 110
@[reducible] def n_Z102:Nat := 111
@[reducible] def n_Z106:Nat := 112
@[reducible] def n_Z115:Nat := 113
@[reducible] def n_Z37:Nat := 115
@[reducible] def n_Z48:Nat := 118
@[reducible] def n_Z47:Nat := 120
@[reducible] def n_Z18:Nat := 121
@[reducible] def n_Z91:Nat := 122
@[reducible] def n_Z51:Nat := 126
@[reducible] def n_Z46:Nat := 127
@[reducible] def n_Z87:Nat := 128
@[reducible] def n_Z32:Nat := 129
@[reducible] def n_Z14:Nat := 130
@[reducible] def n_Z107:Nat := 141
@[reducible] def n_Z22:Nat := 147
@[reducible] def n_Z19:Nat := 149
@[reducible] def n_Z7:Nat := 159
@[reducible] def n_Z20:Nat := 160
@[reducible] def n_Z110:Nat := 161
@[reducible] def n_Z103:Nat := 162
@[reducible] def n_Z105:Nat := 163
@[reducible] def n_Z116:Nat := 164
@[reducible] def n_Z100:Nat := 165
@[reducible] def n_Z90:Nat := 166
@[reducible] def n_Z99:Nat := 167
@[reducible] def n_Z11:Nat := 168
@[reducible] def n_Z73:Nat := 169
@[reducible] def n_Z26:Nat := 170
@[reducible] def n_Z9:Nat := 171
@[reducible] def n_Z50:Nat := 172
@[reducible] def n_Z44:Nat := 173
@[reducible] def n_Z23:Nat := 174
@[reducible] def n_Z78:Nat := 175
@[reducible] def n_Z43:Nat := 176
@[reducible] def n_Z25:Nat := 177
@[reducible] def n_Z97:Nat := 178
@[reducible] def n_Z75:Nat := 179
@[reducible] def n_Z38:Nat := 180
@[reducible] def n_Z27:Nat := 182
@[reducible] def n_Z49:Nat := 183
@[reducible] def n_Z6:Nat := 184
@[reducible] def n_Z72:Nat := 185
@[reducible] def n_Z52:Nat := 187
@[reducible] def n_Z68:Nat := 188
@[reducible] def n_Z94:Nat := 203
@[reducible] def n_Z70:Nat := 207
@[reducible] def n_Z2:Nat := 209
@[reducible] def n_Z0:Nat := 210
@[reducible] def n_Z71:Nat := 211
@[reducible] def n_Z21:Nat := 214
@[reducible] def n_Z93:Nat := 215
@[reducible] def n_Z96:Nat := 216
@[reducible] def n_Z35:Nat := 217
@[reducible] def n_Z12:Nat := 218
@[reducible] def n_Z36:Nat := 219
@[reducible] def n_Z80:Nat := 220
@[reducible] def n_Z24:Nat := 221
@[reducible] def n_Z13:Nat := 222
@[reducible] def n_Z33:Nat := 223
@[reducible] def n_Z83:Nat := 224
@[reducible] def n_Z79:Nat := 225
@[reducible] def n_Z3:Nat := 251
@[reducible] def n_Z1:Nat := 252
@[reducible] def n_Z40:Nat := 255
@[reducible] def n_Z42:Nat := 256
@[reducible] def n_Z4:Nat := 263
@[reducible] def n_Z41:Nat := 267
@[reducible] noncomputable def F_Z53:Func := Tryz.f3
@[reducible] noncomputable def F_Z62:Func := Tryz.f11
@[reducible] noncomputable def F_Z88:Func := Tryz.f12
@[reducible] noncomputable def F_Z65:Func := Tryz.f13
@[reducible] noncomputable def F_Z5:Func := Tryz.f14
@[reducible] noncomputable def F_Z56:Func := Tryz.f15
@[reducible] noncomputable def F_Z54:Func := Tryz.f16
@[reducible] noncomputable def F_Z59:Func := Tryz.f17
@[reducible] noncomputable def F_Z61:Func := Tryz.f18
@[reducible] noncomputable def F_Z58:Func := Tryz.f19
@[reducible] noncomputable def F_Z66:Func := Tryz.f21
@[reducible] noncomputable def F_Z55:Func := Tryz.f23
@[reducible] noncomputable def F_Z60:Func := Tryz.f24
@[reducible] noncomputable def F_Z57:Func := Tryz.f25
@[reducible] noncomputable def F_Z64:Func := Tryz.f46
@[reducible] noncomputable def F_Z111:Func := Tryz.f47
@[reducible] noncomputable def F_Z112:Func := Tryz.f48
@[reducible] noncomputable def F_Z67:Func := Tryz.f49
@[reducible] noncomputable def F_Z17:Func := Tryz.f50
@[reducible] noncomputable def F_Z30:Func := Tryz.f51
@[reducible] noncomputable def F_Z113:Func := Tryz.f55
@[reducible] noncomputable def F_Z15:Func := Tryz.f59
@[reducible] noncomputable def F_Z95:Func := Tryz.f60
@[reducible] noncomputable def F_Z104:Func := Tryz.f62
@[reducible] noncomputable def F_Z108:Func := Tryz.f63
@[reducible] noncomputable def F_Z63:Func := Tryz.f67
@[reducible] noncomputable def F_Z92:Func := Tryz.f80
@[reducible] noncomputable def F_Z31:Func := Tryz.f96
@[reducible] noncomputable def F_Z109:Func := Tryz.f97
@[reducible] noncomputable def F_Z89:Func := Tryz.f98
@[reducible] noncomputable def F_Z114:Func := Tryz.f99
@[reducible] noncomputable def F_Z98:Func := Tryz.f100
@[reducible] noncomputable def F_Z8:Func := Tryz.f101
@[reducible] noncomputable def F_Z10:Func := Tryz.f102
@[reducible] noncomputable def F_Z34:Func := Tryz.f103
@[reducible] noncomputable def F_Z45:Func := Tryz.f104
@[reducible] noncomputable def F_Z39:Func := Tryz.f105
@[reducible] noncomputable def F_Z16:Func := Tryz.f106
@[reducible] noncomputable def F_Z117:Func := Tryz.f109
@[reducible] noncomputable def F_Z101:Func := Tryz.f110
@[reducible] noncomputable def F_Z102:Func := Tryz.f111
@[reducible] noncomputable def F_Z106:Func := Tryz.f112
@[reducible] noncomputable def F_Z115:Func := Tryz.f113
@[reducible] noncomputable def F_Z37:Func := Tryz.f115
@[reducible] noncomputable def F_Z48:Func := Tryz.f118
@[reducible] noncomputable def F_Z47:Func := Tryz.f120
@[reducible] noncomputable def F_Z18:Func := Tryz.f121
@[reducible] noncomputable def F_Z91:Func := Tryz.f122
@[reducible] noncomputable def F_Z51:Func := Tryz.f126
@[reducible] noncomputable def F_Z46:Func := Tryz.f127
@[reducible] noncomputable def F_Z87:Func := Tryz.f128
@[reducible] noncomputable def F_Z32:Func := Tryz.f129
@[reducible] noncomputable def F_Z14:Func := Tryz.f130
@[reducible] noncomputable def F_Z107:Func := Tryz.f141
@[reducible] noncomputable def F_Z22:Func := Tryz.f147
@[reducible] noncomputable def F_Z19:Func := Tryz.f149
@[reducible] noncomputable def F_Z7:Func := Tryz.f159
@[reducible] noncomputable def F_Z20:Func := Tryz.f160
@[reducible] noncomputable def F_Z110:Func := Tryz.f161
@[reducible] noncomputable def F_Z103:Func := Tryz.f162
@[reducible] noncomputable def F_Z105:Func := Tryz.f163
@[reducible] noncomputable def F_Z116:Func := Tryz.f164
@[reducible] noncomputable def F_Z100:Func := Tryz.f165
@[reducible] noncomputable def F_Z90:Func := Tryz.f166
@[reducible] noncomputable def F_Z99:Func := Tryz.f167
@[reducible] noncomputable def F_Z11:Func := Tryz.f168
@[reducible] noncomputable def F_Z73:Func := Tryz.f169
@[reducible] noncomputable def F_Z26:Func := Tryz.f170
@[reducible] noncomputable def F_Z9:Func := Tryz.f171
@[reducible] noncomputable def F_Z50:Func := Tryz.f172
@[reducible] noncomputable def F_Z44:Func := Tryz.f173
@[reducible] noncomputable def F_Z23:Func := Tryz.f174
@[reducible] noncomputable def F_Z78:Func := Tryz.f175
@[reducible] noncomputable def F_Z43:Func := Tryz.f176
@[reducible] noncomputable def F_Z25:Func := Tryz.f177
@[reducible] noncomputable def F_Z97:Func := Tryz.f178
@[reducible] noncomputable def F_Z75:Func := Tryz.f179
@[reducible] noncomputable def F_Z38:Func := Tryz.f180
@[reducible] noncomputable def F_Z27:Func := Tryz.f182
@[reducible] noncomputable def F_Z49:Func := Tryz.f183
@[reducible] noncomputable def F_Z6:Func := Tryz.f184
@[reducible] noncomputable def F_Z72:Func := Tryz.f185
@[reducible] noncomputable def F_Z52:Func := Tryz.f187
@[reducible] noncomputable def F_Z68:Func := Tryz.f188
@[reducible] noncomputable def F_Z94:Func := Tryz.f203
@[reducible] noncomputable def F_Z70:Func := Tryz.f207
@[reducible] noncomputable def F_Z2:Func := Tryz.f209
@[reducible] noncomputable def F_Z0:Func := Tryz.f210
@[reducible] noncomputable def F_Z71:Func := Tryz.f211
@[reducible] noncomputable def F_Z21:Func := Tryz.f214
@[reducible] noncomputable def F_Z93:Func := Tryz.f215
@[reducible] noncomputable def F_Z96:Func := Tryz.f216
@[reducible] noncomputable def F_Z35:Func := Tryz.f217
@[reducible] noncomputable def F_Z12:Func := Tryz.f218
@[reducible] noncomputable def F_Z36:Func := Tryz.f219
@[reducible] noncomputable def F_Z80:Func := Tryz.f220
@[reducible] noncomputable def F_Z24:Func := Tryz.f221
@[reducible] noncomputable def F_Z13:Func := Tryz.f222
@[reducible] noncomputable def F_Z33:Func := Tryz.f223
@[reducible] noncomputable def F_Z83:Func := Tryz.f224
@[reducible] noncomputable def F_Z79:Func := Tryz.f225
@[reducible] noncomputable def F_Z3:Func := Tryz.f251
@[reducible] noncomputable def F_Z1:Func := Tryz.f252
@[reducible] noncomputable def F_Z40:Func := Tryz.f255
@[reducible] noncomputable def F_Z42:Func := Tryz.f256
@[reducible] noncomputable def F_Z4:Func := Tryz.f263
@[reducible] noncomputable def F_Z41:Func := Tryz.f267
@[reducible] def o_Z53:Ty := (.cons .bool .nil)
noncomputable def sg_Z53:Sig := ⟨[(true,1),(false,1),(false,1)],[],o_Z53,[(false,1)],[],[]⟩
@[reducible] def o_Z62:Ty := (.cons yI .nil)
noncomputable def sg_Z62:Sig := ⟨[(true,1),(false,1)],[],o_Z62,[(false,1)],[],[]⟩
@[reducible] def o_Z88:Ty := (.cons yK (.cons yI .nil))
noncomputable def sg_Z88:Sig := ⟨[(true,1),(false,1),(false,1)],[],o_Z88,[(false,1),(false,1)],[.deep,.imm],[]⟩
@[reducible] def o_Z65:Ty := (.cons yK .nil)
noncomputable def sg_Z65:Sig := ⟨[(true,1)],[],o_Z65,[(true,1)],[.deep],[]⟩
@[reducible] def o_Z5:Ty := (.cons yK (.cons yI .nil))
noncomputable def sg_Z5:Sig := ⟨[(true,1),(false,1),(false,1)],[],o_Z5,[(false,1),(false,1)],[.deep,.imm],[]⟩
@[reducible] def o_Z56:Ty := (.cons .bool .nil)
noncomputable def sg_Z56:Sig := ⟨[(false,1),(false,1)],[],o_Z56,[(false,1)],[],[]⟩
@[reducible] def o_Z54:Ty := (.cons .bool .nil)
noncomputable def sg_Z54:Sig := ⟨[(true,1),(true,1)],[],o_Z54,[(false,1)],[],[]⟩
@[reducible] def o_Z59:Ty := (.cons yI (.cons yK .nil))
noncomputable def sg_Z59:Sig := ⟨[(true,1),(false,1)],[.io true,.imm],o_Z59,[(false,1)],[],[]⟩
@[reducible] def o_Z61:Ty := (.cons yI (.cons yK .nil))
noncomputable def sg_Z61:Sig := ⟨[(false,1),(false,1)],[.io true,.imm],o_Z61,[(false,1)],[],[]⟩
@[reducible] def o_Z58:Ty := (.cons yI .nil)
noncomputable def sg_Z58:Sig := ⟨[(false,1),(false,1)],[],o_Z58,[(false,1)],[],[]⟩
@[reducible] def o_Z66:Ty := (.cons yL .nil)
noncomputable def sg_Z66:Sig := ⟨[(false,1)],[],o_Z66,[(false,1)],[.deep],[]⟩
@[reducible] def o_Z55:Ty := (.cons .bool .nil)
noncomputable def sg_Z55:Sig := ⟨[(false,1),(false,1)],[],o_Z55,[(false,1)],[],[]⟩
@[reducible] def o_Z60:Ty := (.cons yI (.cons yL .nil))
noncomputable def sg_Z60:Sig := ⟨[(false,1),(false,1)],[.io true,.imm],o_Z60,[(false,1)],[],[]⟩
@[reducible] def o_Z57:Ty := (.cons yI .nil)
noncomputable def sg_Z57:Sig := ⟨[(false,1),(false,1)],[],o_Z57,[(false,1)],[],[]⟩
@[reducible] def o_Z64:Ty := (.cons yI .nil)
noncomputable def sg_Z64:Sig := ⟨[(false,1),(false,1)],[],o_Z64,[(false,1)],[],[]⟩
@[reducible] def o_Z111:Ty := (.cons yI .nil)
noncomputable def sg_Z111:Sig := ⟨[(false,1),(false,1),(false,1)],[],o_Z111,[(false,1)],[],[(.ptr (.cons yK .nil))]⟩
@[reducible] def o_Z112:Ty := (.cons yK .nil)
noncomputable def sg_Z112:Sig := ⟨[(false,1),(false,1),(false,1)],[],o_Z112,[(false,1)],[.deep],[(.ptr (.cons yK .nil))]⟩
@[reducible] def o_Z67:Ty := (.cons yK .nil)
noncomputable def sg_Z67:Sig := ⟨[(false,1)],[],o_Z67,[(false,1)],[.deep],[]⟩
@[reducible] def o_Z17:Ty := (.cons yI .nil)
noncomputable def sg_Z17:Sig := ⟨[(true,1),(false,1),(false,1)],[],o_Z17,[(false,1)],[],[]⟩
@[reducible] def o_Z30:Ty := (.cons yK .nil)
noncomputable def sg_Z30:Sig := ⟨[(true,1),(false,1),(false,1)],[],o_Z30,[(false,1)],[.deep],[]⟩
@[reducible] def o_Z113:Ty := yM
noncomputable def sg_Z113:Sig := ⟨[(false,1),(false,1),(false,1)],[],o_Z113,[(true,4)],[.imm,.imm,.imm,.deep],[(.ptr (.cons yK .nil))]⟩
@[reducible] def o_Z15:Ty := (.cons yI (.cons yI (.cons yK .nil)))
noncomputable def sg_Z15:Sig := ⟨[(true,1),(false,1),(false,1)],[],o_Z15,[(true,3)],[.imm,.imm,.deep],[]⟩
@[reducible] def o_Z95:Ty := (.cons .bool .nil)
noncomputable def sg_Z95:Sig := ⟨[(false,1)],[],o_Z95,[(false,1)],[],[]⟩
@[reducible] def o_Z104:Ty := (.cons .bool .nil)
noncomputable def sg_Z104:Sig := ⟨[(false,1)],[],o_Z104,[(false,1)],[],[]⟩
@[reducible] def o_Z108:Ty := (.cons yL .nil)
noncomputable def sg_Z108:Sig := ⟨[(false,1),(false,1)],[],o_Z108,[(false,1)],[.deep],[(.ptr (.cons yK .nil))]⟩
@[reducible] def o_Z63:Ty := (.cons yI .nil)
noncomputable def sg_Z63:Sig := ⟨[(false,1),(false,1)],[],o_Z63,[(false,1)],[],[]⟩
@[reducible] def o_Z92:Ty := (.cons yL .nil)
noncomputable def sg_Z92:Sig := ⟨[(false,1)],[],o_Z92,[(false,1)],[.deep],[]⟩
@[reducible] def o_Z31:Ty := (.cons yK .nil)
noncomputable def sg_Z31:Sig := ⟨[(true,3),(false,1)],[.imm,.imm,.imm,.take true],o_Z31,[(false,1)],[.deep],[]⟩
@[reducible] def o_Z109:Ty := (.cons .bool .nil)
noncomputable def sg_Z109:Sig := ⟨[(false,1)],[],o_Z109,[(false,1)],[],[(.ptr (.cons yK .nil))]⟩
@[reducible] def o_Z89:Ty := (.cons .bool .nil)
noncomputable def sg_Z89:Sig := ⟨[(false,1)],[],o_Z89,[(false,1)],[],[]⟩
@[reducible] def o_Z114:Ty := (.cons yK .nil)
noncomputable def sg_Z114:Sig := ⟨[(true,4),(false,1)],[],o_Z114,[(false,1)],[.deep],[]⟩
@[reducible] def o_Z98:Ty := (.cons yK .nil)
noncomputable def sg_Z98:Sig := ⟨[(false,1)],[],o_Z98,[(false,1)],[.deep],[(.ptr yM)]⟩
@[reducible] def o_Z8:Ty := (.cons .bool .nil)
noncomputable def sg_Z8:Sig := ⟨[(true,1)],[],o_Z8,[(false,1)],[],[]⟩
@[reducible] def o_Z10:Ty := (.cons .bool .nil)
noncomputable def sg_Z10:Sig := ⟨[(false,1)],[],o_Z10,[(false,1)],[],[]⟩
@[reducible] def o_Z34:Ty := (.cons .bool .nil)
noncomputable def sg_Z34:Sig := ⟨[(false,1)],[],o_Z34,[(false,1)],[],[]⟩
@[reducible] def o_Z45:Ty := (.cons yL .nil)
noncomputable def sg_Z45:Sig := ⟨[(true,1),(false,1)],[],o_Z45,[(false,1)],[.deep],[]⟩
@[reducible] def o_Z39:Ty := (.cons yK .nil)
noncomputable def sg_Z39:Sig := ⟨[(true,4)],[],o_Z39,[(false,1)],[.deep],[]⟩
@[reducible] def o_Z16:Ty := yM
noncomputable def sg_Z16:Sig := ⟨[(true,1),(false,1),(false,1)],[],o_Z16,[(true,4)],[.imm,.imm,.imm,.deep],[]⟩
@[reducible] def o_Z117:Ty := yM
noncomputable def sg_Z117:Sig := ⟨[(false,1),(false,1)],[],o_Z117,[(true,4)],[.imm,.imm,.imm,.deep],[(.ptr yM)]⟩
@[reducible] def o_Z101:Ty := (.cons yL (.cons .bool .nil))
noncomputable def sg_Z101:Sig := ⟨[(false,1),(false,1)],[],o_Z101,[(false,1),(false,1)],[.deep,.imm],[(.ptr yM)]⟩
@[reducible] def o_Z102:Ty := yM
noncomputable def sg_Z102:Sig := ⟨[(false,1),(false,1),(false,1)],[],o_Z102,[(true,4)],[.imm,.imm,.imm,.deep],[]⟩
@[reducible] def o_Z106:Ty := (.cons yL .nil)
noncomputable def sg_Z106:Sig := ⟨[(false,1),(false,1)],[],o_Z106,[(false,1)],[.deep],[(.ptr (.cons yK .nil))]⟩
@[reducible] def o_Z115:Ty := (.cons yI .nil)
noncomputable def sg_Z115:Sig := ⟨[(false,1),(false,1)],[],o_Z115,[(false,1)],[],[]⟩
@[reducible] def o_Z37:Ty := (.cons .bool .nil)
noncomputable def sg_Z37:Sig := ⟨[(false,1)],[],o_Z37,[(false,1)],[],[]⟩
@[reducible] def o_Z48:Ty := yM
noncomputable def sg_Z48:Sig := ⟨[(true,4)],[],o_Z48,[(true,4)],[.imm,.imm,.imm,.deep],[]⟩
@[reducible] def o_Z47:Ty := (.cons yI (.cons yI (.cons yK .nil)))
noncomputable def sg_Z47:Sig := ⟨[(false,1),(false,1),(false,1)],[],o_Z47,[(true,3)],[.imm,.imm,.deep],[]⟩
@[reducible] def o_Z18:Ty := (.cons yK .nil)
noncomputable def sg_Z18:Sig := ⟨[(true,4)],[],o_Z18,[(false,1)],[.deep],[]⟩
@[reducible] def o_Z91:Ty := (.cons .bool .nil)
noncomputable def sg_Z91:Sig := ⟨[(false,1),(false,1),(false,1)],[],o_Z91,[(false,1)],[],[]⟩
@[reducible] def o_Z51:Ty := yM
noncomputable def sg_Z51:Sig := ⟨[(false,1),(false,1),(false,1)],[],o_Z51,[(true,4)],[.imm,.imm,.imm,.deep],[]⟩
@[reducible] def o_Z46:Ty := (.cons yI .nil)
noncomputable def sg_Z46:Sig := ⟨[(false,1)],[],o_Z46,[(false,1)],[],[]⟩
@[reducible] def o_Z87:Ty := (.cons yI .nil)
noncomputable def sg_Z87:Sig := ⟨[(false,1),(false,1)],[],o_Z87,[(false,1)],[],[]⟩
@[reducible] def o_Z32:Ty := (.cons yI .nil)
noncomputable def sg_Z32:Sig := ⟨[(true,1),(false,1)],[],o_Z32,[(false,1)],[],[]⟩
@[reducible] def o_Z14:Ty := (.cons yI .nil)
noncomputable def sg_Z14:Sig := ⟨[(false,1),(false,1)],[],o_Z14,[(false,1)],[],[]⟩
@[reducible] def o_Z107:Ty := (.cons yI .nil)
noncomputable def sg_Z107:Sig := ⟨[(false,1),(false,1)],[],o_Z107,[(false,1)],[],[(.ptr (.cons yK .nil))]⟩
@[reducible] def o_Z22:Ty := (.cons yK .nil)
noncomputable def sg_Z22:Sig := ⟨[(false,1)],[],o_Z22,[(false,1)],[.deep],[]⟩
@[reducible] def o_Z19:Ty := (.cons yI .nil)
noncomputable def sg_Z19:Sig := ⟨[(false,1),(false,1)],[],o_Z19,[(false,1)],[],[]⟩
@[reducible] def o_Z7:Ty := (.cons yL .nil)
noncomputable def sg_Z7:Sig := ⟨[(true,4),(false,1)],[],o_Z7,[(false,1)],[],[]⟩
@[reducible] def o_Z20:Ty := (.cons .bool .nil)
noncomputable def sg_Z20:Sig := ⟨[(true,3),(false,1)],[],o_Z20,[(false,1)],[],[]⟩
@[reducible] def o_Z110:Ty := (.cons .bool .nil)
noncomputable def sg_Z110:Sig := ⟨[(false,1)],[],o_Z110,[(false,1)],[],[]⟩
@[reducible] def o_Z103:Ty := (.cons .bool .nil)
noncomputable def sg_Z103:Sig := ⟨[(false,1),(false,1)],[],o_Z103,[(false,1)],[],[]⟩
@[reducible] def o_Z105:Ty := (.cons yL .nil)
noncomputable def sg_Z105:Sig := ⟨[(false,1),(false,1)],[],o_Z105,[(false,1)],[.deep],[]⟩
@[reducible] def o_Z116:Ty := (.cons .bool .nil)
noncomputable def sg_Z116:Sig := ⟨[(false,1),(false,1)],[],o_Z116,[(false,1)],[],[(.ptr yM)]⟩
@[reducible] def o_Z100:Ty := (.cons yI (.cons yI (.cons yI (.cons yL (.cons yL (.cons yI .nil))))))
noncomputable def sg_Z100:Sig := ⟨[(false,1)],[],o_Z100,[(true,4),(false,1),(false,1)],[.imm,.imm,.imm,.deep,.deep,.imm],[(.ptr yM)]⟩
@[reducible] def o_Z90:Ty := (.cons .bool .nil)
noncomputable def sg_Z90:Sig := ⟨[(false,1),(false,1)],[],o_Z90,[(false,1)],[],[]⟩
@[reducible] def o_Z99:Ty := (.cons yI .nil)
noncomputable def sg_Z99:Sig := ⟨[(false,1),(false,1)],[],o_Z99,[(false,1)],[],[]⟩
@[reducible] def o_Z11:Ty := (.cons .bool .nil)
noncomputable def sg_Z11:Sig := ⟨[(false,1)],[],o_Z11,[(false,1)],[],[]⟩
@[reducible] def o_Z73:Ty := (.cons .bool .nil)
noncomputable def sg_Z73:Sig := ⟨[(false,1),(false,1)],[],o_Z73,[(false,1)],[],[]⟩
@[reducible] def o_Z26:Ty := (.cons yK .nil)
noncomputable def sg_Z26:Sig := ⟨[(false,1)],[],o_Z26,[(false,1)],[.deep],[]⟩
@[reducible] def o_Z9:Ty := (.cons .bool .nil)
noncomputable def sg_Z9:Sig := ⟨[(false,1),(false,1),(false,1)],[],o_Z9,[(false,1)],[],[.nil,(.ptr (.cons yK .nil)),(.ptr (.cons yI .nil))]⟩
@[reducible] def o_Z50:Ty := (.cons .bool .nil)
noncomputable def sg_Z50:Sig := ⟨[(false,1),(false,1),(false,1)],[],o_Z50,[(false,1)],[],[]⟩
@[reducible] def o_Z44:Ty := (.cons yK .nil)
noncomputable def sg_Z44:Sig := ⟨[(true,4)],[],o_Z44,[(false,1)],[.deep],[]⟩
@[reducible] def o_Z23:Ty := (.cons yL (.cons yI (.cons yK .nil)))
noncomputable def sg_Z23:Sig := ⟨[(false,1),(false,1),(false,1)],[.io false,.imm,.imm],o_Z23,[(false,1),(false,1)],[.deep,.imm],[]⟩
@[reducible] def o_Z78:Ty := (.cons .bool .nil)
noncomputable def sg_Z78:Sig := ⟨[(false,1),(false,1)],[],o_Z78,[(false,1)],[],[]⟩
@[reducible] def o_Z43:Ty := (.cons yI .nil)
noncomputable def sg_Z43:Sig := ⟨[(false,1),(false,1)],[],o_Z43,[(false,1)],[],[]⟩
@[reducible] def o_Z25:Ty := (.cons yL .nil)
noncomputable def sg_Z25:Sig := ⟨[(true,1),(false,1)],[],o_Z25,[(false,1)],[.deep],[]⟩
@[reducible] def o_Z97:Ty := yM
noncomputable def sg_Z97:Sig := ⟨[(false,1),(false,1)],[],o_Z97,[(true,4)],[.imm,.imm,.imm,.deep],[(.ptr yM),(.ptr yM)]⟩
@[reducible] def o_Z75:Ty := (.cons .bool .nil)
noncomputable def sg_Z75:Sig := ⟨[(false,1),(false,1)],[],o_Z75,[(false,1)],[],[]⟩
@[reducible] def o_Z38:Ty := (.cons .bool .nil)
noncomputable def sg_Z38:Sig := ⟨[(false,1)],[],o_Z38,[(false,1)],[],[]⟩
@[reducible] def o_Z27:Ty := yM
noncomputable def sg_Z27:Sig := ⟨[(false,1),(false,1),(false,1),(false,1)],[],o_Z27,[(true,4)],[.imm,.imm,.imm,.deep],[]⟩
@[reducible] def o_Z49:Ty := (.cons yI .nil)
noncomputable def sg_Z49:Sig := ⟨[(false,1),(false,1),(false,1)],[],o_Z49,[(false,1)],[],[.nil,.nil,(.ptr yM)]⟩
@[reducible] def o_Z6:Ty := (.cons yI .nil)
noncomputable def sg_Z6:Sig := ⟨[(true,4),(false,1),(false,1)],[],o_Z6,[(false,1)],[],[]⟩
@[reducible] def o_Z72:Ty := (.cons yL .nil)
noncomputable def sg_Z72:Sig := ⟨[(false,1)],[],o_Z72,[(false,1)],[.deep],[]⟩
@[reducible] def o_Z52:Ty := (.cons yI .nil)
noncomputable def sg_Z52:Sig := ⟨[(false,1),(false,1)],[],o_Z52,[(false,1)],[],[]⟩
@[reducible] def o_Z68:Ty := (.cons yI (.cons .bool .nil))
noncomputable def sg_Z68:Sig := ⟨[(false,1),(false,1),(false,1)],[],o_Z68,[(false,1),(false,1)],[],[]⟩
@[reducible] def o_Z94:Ty := (.cons .bool .nil)
noncomputable def sg_Z94:Sig := ⟨[(false,1),(false,1)],[],o_Z94,[(false,1)],[],[]⟩
@[reducible] def o_Z70:Ty := (.cons yL .nil)
noncomputable def sg_Z70:Sig := ⟨[(false,1)],[],o_Z70,[(false,1)],[.deep],[]⟩
@[reducible] def o_Z2:Ty := (.cons yI .nil)
noncomputable def sg_Z2:Sig := ⟨[(false,1)],[],o_Z2,[(false,1)],[],[]⟩
@[reducible] def o_Z0:Ty := (.cons yI .nil)
noncomputable def sg_Z0:Sig := ⟨[(false,1),(false,1)],[],o_Z0,[(false,1)],[],[]⟩
@[reducible] def o_Z71:Ty := (.cons yI .nil)
noncomputable def sg_Z71:Sig := ⟨[(false,1),(false,1)],[],o_Z71,[(false,1)],[],[]⟩
@[reducible] def o_Z21:Ty := (.cons yL (.cons .bool .nil))
noncomputable def sg_Z21:Sig := ⟨[(true,3),(false,1)],[],o_Z21,[(false,1),(false,1)],[.deep,.imm],[]⟩
@[reducible] def o_Z93:Ty := (.cons .bool .nil)
noncomputable def sg_Z93:Sig := ⟨[(false,1),(false,1),(false,1)],[],o_Z93,[(false,1)],[],[]⟩
@[reducible] def o_Z96:Ty := (.cons yI .nil)
noncomputable def sg_Z96:Sig := ⟨[(false,1),(false,1)],[],o_Z96,[(false,1)],[],[]⟩
@[reducible] def o_Z35:Ty := (.cons .bool .nil)
noncomputable def sg_Z35:Sig := ⟨[(false,1)],[],o_Z35,[(false,1)],[],[]⟩
@[reducible] def o_Z12:Ty := (.cons .bool .nil)
noncomputable def sg_Z12:Sig := ⟨[(false,1)],[],o_Z12,[(false,1)],[],[]⟩
@[reducible] def o_Z36:Ty := (.cons .bool .nil)
noncomputable def sg_Z36:Sig := ⟨[(false,1)],[],o_Z36,[(false,1)],[],[]⟩
@[reducible] def o_Z80:Ty := (.cons yI .nil)
noncomputable def sg_Z80:Sig := ⟨[(false,1),(false,1)],[],o_Z80,[(false,1)],[],[]⟩
@[reducible] def o_Z24:Ty := (.cons .bool .nil)
noncomputable def sg_Z24:Sig := ⟨[(false,1),(false,1)],[],o_Z24,[(false,1)],[],[.nil,(.ptr (.cons yI .nil))]⟩
@[reducible] def o_Z13:Ty := (.cons yL .nil)
noncomputable def sg_Z13:Sig := ⟨[(false,1),(false,1),(false,1),(false,1)],[],o_Z13,[(false,1)],[.deep],[]⟩
@[reducible] def o_Z33:Ty := (.cons yI .nil)
noncomputable def sg_Z33:Sig := ⟨[(false,1),(false,1)],[],o_Z33,[(false,1)],[],[]⟩
@[reducible] def o_Z83:Ty := (.cons yI .nil)
noncomputable def sg_Z83:Sig := ⟨[(false,1),(false,1)],[],o_Z83,[(false,1)],[],[]⟩
@[reducible] def o_Z79:Ty := (.cons yL .nil)
noncomputable def sg_Z79:Sig := ⟨[(false,1),(false,1)],[.take true,.imm],o_Z79,[(false,1)],[.deep],[]⟩
@[reducible] def o_Z3:Ty := (.cons .bool .nil)
noncomputable def sg_Z3:Sig := ⟨[(false,1)],[],o_Z3,[(false,1)],[],[]⟩
@[reducible] def o_Z1:Ty := (.cons yI .nil)
noncomputable def sg_Z1:Sig := ⟨[(false,1),(false,1)],[],o_Z1,[(false,1)],[],[]⟩
@[reducible] def o_Z40:Ty := (.cons yL .nil)
noncomputable def sg_Z40:Sig := ⟨[(true,3)],[],o_Z40,[(false,1)],[.deep],[]⟩
@[reducible] def o_Z42:Ty := (.cons yI .nil)
noncomputable def sg_Z42:Sig := ⟨[(false,1),(false,1),(false,1)],[],o_Z42,[(false,1)],[],[]⟩
@[reducible] def o_Z4:Ty := (.cons .bool .nil)
noncomputable def sg_Z4:Sig := ⟨[(false,1)],[],o_Z4,[(false,1)],[],[]⟩
@[reducible] def o_Z41:Ty := (.cons .bool .nil)
noncomputable def sg_Z41:Sig := ⟨[(false,1)],[],o_Z41,[(false,1)],[],[]⟩
noncomputable def pol_Z53:Pol := ⟨111,[(32,[some 109]),(37,[some 110])],[],[],[(1000048,⟨[1,2,3,8,9,10,11,12,48],[3,10,109,110],[],[],[],[],[]⟩),(1000069,⟨[1,2,3,8,9,11,69],[3,110],[],[],[],[],[]⟩),(1000097,⟨[11,14,97],[110],[],[],[],[],[]⟩)],[]⟩
noncomputable def pol_Z62:Pol := ⟨14,[],[],[],[],[]⟩
noncomputable def pol_Z88:Pol := ⟨22,[(17,[some 21])],[],[],[],[]⟩
noncomputable def pol_Z65:Pol := ⟨11,[(6,[some 10])],[],[],[],[]⟩
noncomputable def pol_Z5:Pol := ⟨24,[(19,[some 23])],[],[],[],[]⟩
noncomputable def pol_Z56:Pol := ⟨29,[],[(4,⟨[0,1,5],[],[],[],[],[],[]⟩)],[],[],[]⟩
noncomputable def pol_Z54:Pol := ⟨13,[],[],[],[],[]⟩
noncomputable def pol_Z59:Pol := ⟨12,[],[],[],[],[]⟩
noncomputable def pol_Z58:Pol := ⟨23,[],[(2,⟨[0,1,5],[],[],[],[],[],[]⟩)],[],[],[]⟩
noncomputable def pol_Z66:Pol := ⟨23,[],[(3,⟨[0,3,4],[7],[],[],[],[],[]⟩)],[],[],[]⟩
noncomputable def pol_Z55:Pol := ⟨28,[],[(4,⟨[0,1,5],[],[],[],[],[],[]⟩)],[],[],[]⟩
noncomputable def pol_Z60:Pol := ⟨21,[],[(2,⟨[0,1,5],[19],[],[],[],[],[]⟩)],[],[],[]⟩
noncomputable def pol_Z57:Pol := ⟨23,[],[(2,⟨[0,1,5],[],[],[],[],[],[]⟩)],[],[],[]⟩
noncomputable def pol_Z64:Pol := ⟨29,[],[(5,⟨[0,1,5],[],[],[],[],[],[]⟩)],[],[],[]⟩
noncomputable def pol_Z111:Pol := ⟨42,[],[],[],[(1000014,⟨[0,1,14],[],[],[],[],[],[]⟩),(1000038,⟨[38],[],[],[],[],[],[]⟩)],[]⟩
noncomputable def pol_Z112:Pol := ⟨23,[(18,[some 22])],[],[],[],[]⟩
noncomputable def pol_Z67:Pol := ⟨25,[(20,[some 24])],[(3,⟨[0,3,4],[7],[],[],[],[],[]⟩)],[],[],[]⟩
noncomputable def pol_Z17:Pol := ⟨37,[],[(6,⟨[1,3,7],[3],[],[],[],[],[]⟩)],[],[(1000008,⟨[1,3,8],[3],[],[],[],[],[]⟩)],[]⟩
noncomputable def pol_Z30:Pol := ⟨22,[(15,[some 20]),(16,[some 21])],[],[],[],[]⟩
noncomputable def pol_Z113:Pol := ⟨72,[(25,[none,none,none,some 71])],[(5,⟨[0,1,2,6,7,8,9,10],[6,9,71],[],[],[],[],[]⟩),(9,⟨[0,1,2,6,7,8,9,10,11,12],[6,9,71],[],[],[],[],[]⟩)],[],[(1000033,⟨[0,1,2,6,7,8,9,10,33],[6,9,71],[],[],[],[],[]⟩)],[]⟩
noncomputable def pol_Z15:Pol := ⟨23,[(18,[none,none,some 22])],[],[],[],[]⟩
noncomputable def pol_Z95:Pol := ⟨19,[],[(4,⟨[0,3],[],[],[],[],[],[]⟩)],[],[],[]⟩
noncomputable def pol_Z104:Pol := ⟨6,[],[],[],[],[]⟩
noncomputable def pol_Z108:Pol := ⟨35,[],[(3,⟨[0,1,5,6],[7],[],[],[],[],[]⟩)],[],[],[]⟩
noncomputable def pol_Z63:Pol := ⟨14,[],[],[],[],[]⟩
noncomputable def pol_Z92:Pol := ⟨7,[],[],[],[],[]⟩
noncomputable def pol_Z109:Pol := ⟨66,[],[(4,⟨[0,3],[],[],[],[],[],[]⟩),(10,⟨[0,3,4,5],[],[],[],[],[],[]⟩)],[],[(1000047,⟨[0,3,4,47],[],[],[],[],[],[]⟩),(1000056,⟨[0,3,4,5,56],[],[],[],[],[],[]⟩)],[]⟩
noncomputable def pol_Z89:Pol := ⟨6,[],[],[],[],[]⟩
noncomputable def pol_Z114:Pol := ⟨40,[(25,[some 39])],[(3,⟨[1,2,5,6],[2,7],[],[],[],[],[]⟩)],[],[],[]⟩
noncomputable def pol_Z98:Pol := ⟨72,[],[(4,⟨[0,3,4,6,7],[3,16],[],[],[],[],[]⟩),(10,⟨[0,3,4,6,7,8,9],[3,16,32],[],[],[],[],[]⟩)],[],[],[]⟩
noncomputable def pol_Z8:Pol := ⟨41,[],[(2,⟨[1,6,7,8],[1],[],[],[1],[],[]⟩)],[],[(1000030,⟨[1,3,4,6,7,8,30],[1,3],[],[],[],[],[]⟩)],[]⟩
noncomputable def pol_Z10:Pol := ⟨19,[],[(4,⟨[0,3],[],[],[],[],[],[]⟩)],[],[],[]⟩
noncomputable def pol_Z34:Pol := ⟨6,[],[],[],[],[]⟩
noncomputable def pol_Z45:Pol := ⟨29,[],[(3,⟨[1,5,9,10,11],[24],[(5,24,yI,true)],[],[],[],[]⟩)],[],[],[]⟩
noncomputable def pol_Z39:Pol := ⟨69,[(12,[some 68])],[(5,⟨[1,3,4,6,23,24],[1,61,68],[(6,61,yL,true)],[],[],[],[]⟩),(11,⟨[1,3,4,6,7,8,23,24,36,37,38],[1,32,61,68],[],[],[],[],[]⟩)],[],[],[]⟩
noncomputable def pol_Z16:Pol := ⟨66,[(27,[none,none,none,some 65])],[(4,⟨[2,3,6,7,8,9,28,29,30],[3,6,9,65],[],[],[],[],[]⟩),(7,⟨[2,3,6,7,8,9,10,28,29,30,37,38,39],[3,6,9,65],[],[],[],[],[]⟩)],[],[],[]⟩
noncomputable def pol_Z117:Pol := ⟨21,[(17,[none,none,none,some 20])],[],[],[],[]⟩
noncomputable def pol_Z101:Pol := ⟨72,[],[(6,⟨[0,7,8,9,11,12],[7,8,34],[],[],[],[],[]⟩)],[],[],[]⟩
noncomputable def pol_Z102:Pol := ⟨18,[],[],[],[],[]⟩
noncomputable def pol_Z106:Pol := ⟨38,[],[(4,⟨[0,5,6,7],[15],[],[],[],[],[]⟩)],[],[(1000024,⟨[0,5,6,7,24],[15],[],[],[],[],[]⟩)],[]⟩
noncomputable def pol_Z115:Pol := ⟨14,[],[],[],[],[]⟩
noncomputable def pol_Z37:Pol := ⟨7,[],[],[],[],[]⟩
noncomputable def pol_Z48:Pol := ⟨16,[(10,[none,none,none,some 15])],[],[],[],[]⟩
noncomputable def pol_Z47:Pol := ⟨32,[(11,[some 30]),(25,[some 31])],[],[],[],[]⟩
noncomputable def pol_Z18:Pol := ⟨11,[(5,[some 10])],[],[],[],[]⟩
noncomputable def pol_Z91:Pol := ⟨18,[],[],[],[],[]⟩
noncomputable def pol_Z51:Pol := ⟨15,[(10,[none,none,none,some 14])],[],[],[],[]⟩
noncomputable def pol_Z46:Pol := ⟨6,[],[],[],[],[]⟩
noncomputable def pol_Z87:Pol := ⟨21,[],[(2,⟨[0,1,7,8],[],[],[],[],[],[]⟩)],[],[],[]⟩
noncomputable def pol_Z32:Pol := ⟨19,[],[],[],[],[]⟩
noncomputable def pol_Z14:Pol := ⟨12,[],[],[],[],[]⟩
noncomputable def pol_Z107:Pol := ⟨27,[],[(2,⟨[0,1,5],[],[],[],[],[],[]⟩)],[],[],[]⟩
noncomputable def pol_Z22:Pol := ⟨21,[(14,[some 20])],[(3,⟨[3,6,7,8],[16],[(3,16,yL,true)],[],[],[],[]⟩)],[],[],[]⟩
noncomputable def pol_Z19:Pol := ⟨17,[],[],[],[],[]⟩
noncomputable def pol_Z7:Pol := ⟨22,[],[],[],[],[]⟩
noncomputable def pol_Z20:Pol := ⟨18,[],[],[],[],[]⟩
noncomputable def pol_Z110:Pol := ⟨11,[],[],[],[],[]⟩
noncomputable def pol_Z103:Pol := ⟨42,[],[(4,⟨[0,1,5],[],[],[],[],[],[]⟩)],[],[],[]⟩
noncomputable def pol_Z105:Pol := ⟨19,[(9,[some 18])],[],[],[],[]⟩
noncomputable def pol_Z116:Pol := ⟨16,[],[],[],[],[]⟩
noncomputable def pol_Z100:Pol := ⟨248,[(37,[some 247])],[(8,⟨[0,2,5,6,7,8,9,10,11],[2,5,47,247],[],[],[],[],[]⟩),(11,⟨[0,2,5,6,7,8,9,10,11,12],[2,5,47,247],[],[],[],[],[]⟩),(17,⟨[0,2,5,6,7,8,9,10,11,12,13],[2,5,47,247],[],[],[],[],[]⟩),(26,⟨[0,2,5,6,7,8,9,10,11,16,17],[2,5,47,247],[],[],[],[],[]⟩),(30,⟨[0,2,5,6,7,8,9,10,11,18],[2,5,47,247],[],[],[],[],[]⟩),(35,⟨[0,2,5,6,7,8,9,10,11,18,19,20],[2,5,47,247],[],[],[],[],[]⟩)],[],[(2,⟨[0,2,5],[2,5,247],[],[],[],[],[]⟩),(22,⟨[0,2,5,6,7,8,9,10,11],[2,5,47,247],[],[],[],[],[]⟩),(1000058,⟨[0,2,5,6,7,8,9,10,11,58],[2,5,47,247],[],[],[],[],[]⟩),(1000079,⟨[0,2,5,6,7,8,9,10,11,12,79],[2,5,47,247],[],[],[],[],[]⟩),(1000200,⟨[0,2,5,6,7,8,9,10,11,18,19,200],[2,5,47,247],[],[],[],[],[]⟩)],[]⟩
noncomputable def pol_Z90:Pol := ⟨20,[],[(2,⟨[0,1,5],[],[],[],[],[],[]⟩)],[],[],[]⟩
noncomputable def pol_Z99:Pol := ⟨14,[],[],[],[],[]⟩
noncomputable def pol_Z11:Pol := ⟨21,[],[],[],[],[]⟩
noncomputable def pol_Z73:Pol := ⟨11,[],[],[],[],[]⟩
noncomputable def pol_Z26:Pol := ⟨29,[(22,[some 28])],[(3,⟨[0,3,6,7],[24],[(3,24,yL,true)],[],[],[],[]⟩)],[],[],[]⟩
noncomputable def pol_Z9:Pol := ⟨16,[],[],[],[],[]⟩
noncomputable def pol_Z50:Pol := ⟨18,[],[],[],[],[]⟩
noncomputable def pol_Z44:Pol := ⟨24,[(14,[some 23])],[(3,⟨[1,3,6,7],[1,16],[(3,16,yL,true)],[],[],[],[]⟩)],[],[],[]⟩
noncomputable def pol_Z23:Pol := ⟨125,[(77,[some 123]),(110,[some 124])],[(4,⟨[0,1,2,8,9,16,17],[116,120],[(8,116,yI,true)],[],[],[],[]⟩),(17,⟨[0,1,2,8,9,10,11,16,17,79,80,81],[10,116,120],[],[],[],[],[]⟩)],[],[(13,⟨[0,1,2,8,9,10,11,16,17],[10,116,120],[],[],[],[],[]⟩),(16,⟨[0,1,2,8,9,10,11,16,17],[10,116,120],[],[],[],[],[]⟩),(1000095,⟨[0,1,2,8,9,10,11,14,15,16,17,79,80,81,95],[10,116,120],[],[],[],[],[]⟩)],[]⟩
noncomputable def pol_Z78:Pol := ⟨11,[],[],[],[],[]⟩
noncomputable def pol_Z43:Pol := ⟨14,[],[],[],[],[]⟩
noncomputable def pol_Z25:Pol := ⟨29,[],[(3,⟨[2,5,13,14,15],[2,24],[(5,24,yI,true)],[],[],[],[]⟩)],[],[],[]⟩
noncomputable def pol_Z97:Pol := ⟨81,[],[(3,⟨[0,1,4,5,6],[4,5,24],[],[],[],[],[]⟩)],[],[(2,⟨[0,1,4,5],[4,5,24],[],[],[],[],[]⟩)],[]⟩
noncomputable def pol_Z75:Pol := ⟨11,[],[],[],[],[]⟩
noncomputable def pol_Z38:Pol := ⟨6,[],[],[],[],[]⟩
noncomputable def pol_Z27:Pol := ⟨40,[],[(3,⟨[2,3,8,9,16,17],[8,9,31],[],[(9,3,31,yI,true)],[],[],[]⟩),(6,⟨[2,3,8,9,10,16,17,20,21],[8,9,31],[],[(9,3,31,yI,true)],[],[],[]⟩)],[],[],[]⟩
noncomputable def pol_Z49:Pol := ⟨13,[],[],[],[],[]⟩
noncomputable def pol_Z6:Pol := ⟨23,[],[],[],[],[]⟩
noncomputable def pol_Z72:Pol := ⟨38,[(24,[some 37])],[(3,⟨[0,3,9,10,11],[],[],[],[],[],[]⟩),(11,⟨[6,25,26,27],[37],[],[],[],[],[]⟩)],[],[],[]⟩
noncomputable def pol_Z52:Pol := ⟨7,[],[],[],[],[]⟩
noncomputable def pol_Z68:Pol := ⟨52,[],[(3,⟨[0,1,2,8,9,10],[],[],[],[],[],[]⟩)],[],[],[]⟩
noncomputable def pol_Z94:Pol := ⟨28,[],[(4,⟨[0,1,5],[],[],[],[],[],[]⟩)],[],[],[]⟩
noncomputable def pol_Z70:Pol := ⟨9,[],[],[],[(1000004,⟨[0,4],[],[],[],[],[],[]⟩)],[]⟩
noncomputable def pol_Z2:Pol := ⟨19,[],[(3,⟨[3,6,7,8],[],[],[],[],[],[]⟩)],[],[],[]⟩
noncomputable def pol_Z0:Pol := ⟨22,[],[],[],[],[]⟩
noncomputable def pol_Z71:Pol := ⟨38,[],[(2,⟨[0,1,9,10,11],[],[],[],[],[],[]⟩)],[],[],[]⟩
noncomputable def pol_Z21:Pol := ⟨53,[],[(4,⟨[1,2,6,7,12,13,14],[2,25],[(6,25,yI,true)],[],[],[],[]⟩)],[],[],[]⟩
noncomputable def pol_Z93:Pol := ⟨41,[],[(2,⟨[0,1,2,7],[],[],[],[],[],[]⟩)],[],[(1000037,⟨[0,1,2,7,37],[],[],[],[],[],[]⟩)],[]⟩
noncomputable def pol_Z96:Pol := ⟨21,[],[(3,⟨[0,1,5,6],[],[],[],[],[],[]⟩)],[],[],[]⟩
noncomputable def pol_Z35:Pol := ⟨21,[],[(2,⟨[0,3],[],[],[],[],[],[]⟩)],[],[],[]⟩
noncomputable def pol_Z12:Pol := ⟨7,[],[],[],[],[]⟩
noncomputable def pol_Z36:Pol := ⟨6,[],[],[],[],[]⟩
noncomputable def pol_Z80:Pol := ⟨21,[],[(2,⟨[0,1,7,8],[],[],[],[],[],[]⟩)],[],[],[]⟩
noncomputable def pol_Z24:Pol := ⟨11,[],[],[],[],[]⟩
noncomputable def pol_Z13:Pol := ⟨38,[],[(3,⟨[0,1,2,3,9,12,13],[31],[(9,31,yI,true)],[],[],[],[]⟩)],[],[],[]⟩
noncomputable def pol_Z33:Pol := ⟨12,[],[],[],[],[]⟩
noncomputable def pol_Z83:Pol := ⟨21,[],[(2,⟨[0,1,7,8],[],[],[],[],[],[]⟩)],[],[],[]⟩
noncomputable def pol_Z3:Pol := ⟨7,[],[],[],[],[]⟩
noncomputable def pol_Z1:Pol := ⟨22,[],[],[],[],[]⟩
noncomputable def pol_Z40:Pol := ⟨23,[],[(3,⟨[3,7,8,9],[17],[(3,17,yI,true)],[],[],[],[]⟩)],[],[],[]⟩
noncomputable def pol_Z42:Pol := ⟨29,[],[(2,⟨[0,1,2,7],[],[],[],[],[],[]⟩)],[],[],[]⟩
noncomputable def pol_Z4:Pol := ⟨7,[],[],[],[],[]⟩
noncomputable def pol_Z41:Pol := ⟨6,[],[],[],[],[]⟩
noncomputable def sigL:List (Option Sig) := [none,none,none,some sg_Z53,none,none,none,none,none,none,none,some sg_Z62,some sg_Z88,some sg_Z65,some sg_Z5,some sg_Z56,some sg_Z54,some sg_Z59,some sg_Z61,some sg_Z58,none,some sg_Z66,none,some sg_Z55,some sg_Z60,some sg_Z57,none,none,none,none,none,none,none,none,none,none,none,none,none,none,none,none,none,none,none,none,some sg_Z64,some sg_Z111,some sg_Z112,some sg_Z67,some sg_Z17,some sg_Z30,none,none,none,some sg_Z113,none,none,none,some sg_Z15,some sg_Z95,none,some sg_Z104,some sg_Z108,none,none,none,some sg_Z63,none,none,none,none,none,none,none,none,none,none,none,none,some sg_Z92,none,none,none,none,none,none,none,none,none,none,none,none,none,none,none,some sg_Z31,some sg_Z109,some sg_Z89,some sg_Z114,some sg_Z98,some sg_Z8,some sg_Z10,some sg_Z34,some sg_Z45,some sg_Z39,some sg_Z16,none,none,some sg_Z117,some sg_Z101,some sg_Z102,some sg_Z106,some sg_Z115,none,some sg_Z37,none,none,some sg_Z48,none,some sg_Z47,some sg_Z18,some sg_Z91,none,none,none,some sg_Z51,some sg_Z46,some sg_Z87,some sg_Z32,some sg_Z14,none,none,none,none,none,none,none,none,none,none,some sg_Z107,none,none,none,none,none,some sg_Z22,none,some sg_Z19,none,none,none,none,none,none,none,none,none,some sg_Z7,some sg_Z20,some sg_Z110,some sg_Z103,some sg_Z105,some sg_Z116,some sg_Z100,some sg_Z90,some sg_Z99,some sg_Z11,some sg_Z73,some sg_Z26,some sg_Z9,some sg_Z50,some sg_Z44,some sg_Z23,some sg_Z78,some sg_Z43,some sg_Z25,some sg_Z97,some sg_Z75,some sg_Z38,none,some sg_Z27,some sg_Z49,some sg_Z6,some sg_Z72,none,some sg_Z52,some sg_Z68,none,none,none,none,none,none,none,none,none,none,none,none,none,none,some sg_Z94,none,none,none,some sg_Z70,none,some sg_Z2,some sg_Z0,some sg_Z71,none,none,some sg_Z21,some sg_Z93,some sg_Z96,some sg_Z35,some sg_Z12,some sg_Z36,some sg_Z80,some sg_Z24,some sg_Z13,some sg_Z33,some sg_Z83,some sg_Z79,none,none,none,none,none,none,none,none,none,none,none,none,none,none,none,none,none,none,none,none,none,none,none,none,none,some sg_Z3,some sg_Z1,none,none,some sg_Z40,some sg_Z42,none,none,none,none,none,none,some sg_Z4,none,none,none,some sg_Z41,none,none,none,none,none,none,none,none,none,none,none,none,none,none,none,none,none,none]
noncomputable def fnL:List (Option (Func × Pol)) := [none,none,none,some (F_Z53,pol_Z53),none,none,none,none,none,none,none,some (F_Z62,pol_Z62),some (F_Z88,pol_Z88),some (F_Z65,pol_Z65),some (F_Z5,pol_Z5),some (F_Z56,pol_Z56),some (F_Z54,pol_Z54),some (F_Z59,pol_Z59),none,some (F_Z58,pol_Z58),none,some (F_Z66,pol_Z66),none,some (F_Z55,pol_Z55),some (F_Z60,pol_Z60),some (F_Z57,pol_Z57),none,none,none,none,none,none,none,none,none,none,none,none,none,none,none,none,none,none,none,none,some (F_Z64,pol_Z64),some (F_Z111,pol_Z111),some (F_Z112,pol_Z112),some (F_Z67,pol_Z67),some (F_Z17,pol_Z17),some (F_Z30,pol_Z30),none,none,none,some (F_Z113,pol_Z113),none,none,none,some (F_Z15,pol_Z15),some (F_Z95,pol_Z95),none,some (F_Z104,pol_Z104),some (F_Z108,pol_Z108),none,none,none,some (F_Z63,pol_Z63),none,none,none,none,none,none,none,none,none,none,none,none,some (F_Z92,pol_Z92),none,none,none,none,none,none,none,none,none,none,none,none,none,none,none,none,some (F_Z109,pol_Z109),some (F_Z89,pol_Z89),some (F_Z114,pol_Z114),some (F_Z98,pol_Z98),some (F_Z8,pol_Z8),some (F_Z10,pol_Z10),some (F_Z34,pol_Z34),some (F_Z45,pol_Z45),some (F_Z39,pol_Z39),some (F_Z16,pol_Z16),none,none,some (F_Z117,pol_Z117),some (F_Z101,pol_Z101),some (F_Z102,pol_Z102),some (F_Z106,pol_Z106),some (F_Z115,pol_Z115),none,some (F_Z37,pol_Z37),none,none,some (F_Z48,pol_Z48),none,some (F_Z47,pol_Z47),some (F_Z18,pol_Z18),some (F_Z91,pol_Z91),none,none,none,some (F_Z51,pol_Z51),some (F_Z46,pol_Z46),some (F_Z87,pol_Z87),some (F_Z32,pol_Z32),some (F_Z14,pol_Z14),none,none,none,none,none,none,none,none,none,none,some (F_Z107,pol_Z107),none,none,none,none,none,some (F_Z22,pol_Z22),none,some (F_Z19,pol_Z19),none,none,none,none,none,none,none,none,none,some (F_Z7,pol_Z7),some (F_Z20,pol_Z20),some (F_Z110,pol_Z110),some (F_Z103,pol_Z103),some (F_Z105,pol_Z105),some (F_Z116,pol_Z116),some (F_Z100,pol_Z100),some (F_Z90,pol_Z90),some (F_Z99,pol_Z99),some (F_Z11,pol_Z11),some (F_Z73,pol_Z73),some (F_Z26,pol_Z26),some (F_Z9,pol_Z9),some (F_Z50,pol_Z50),some (F_Z44,pol_Z44),some (F_Z23,pol_Z23),some (F_Z78,pol_Z78),some (F_Z43,pol_Z43),some (F_Z25,pol_Z25),some (F_Z97,pol_Z97),some (F_Z75,pol_Z75),some (F_Z38,pol_Z38),none,some (F_Z27,pol_Z27),some (F_Z49,pol_Z49),some (F_Z6,pol_Z6),some (F_Z72,pol_Z72),none,some (F_Z52,pol_Z52),some (F_Z68,pol_Z68),none,none,none,none,none,none,none,none,none,none,none,none,none,none,some (F_Z94,pol_Z94),none,none,none,some (F_Z70,pol_Z70),none,some (F_Z2,pol_Z2),some (F_Z0,pol_Z0),some (F_Z71,pol_Z71),none,none,some (F_Z21,pol_Z21),some (F_Z93,pol_Z93),some (F_Z96,pol_Z96),some (F_Z35,pol_Z35),some (F_Z12,pol_Z12),some (F_Z36,pol_Z36),some (F_Z80,pol_Z80),some (F_Z24,pol_Z24),some (F_Z13,pol_Z13),some (F_Z33,pol_Z33),some (F_Z83,pol_Z83),none,none,none,none,none,none,none,none,none,none,none,none,none,none,none,none,none,none,none,none,none,none,none,none,none,none,some (F_Z3,pol_Z3),some (F_Z1,pol_Z1),none,none,some (F_Z40,pol_Z40),some (F_Z42,pol_Z42),none,none,none,none,none,none,some (F_Z4,pol_Z4),none,none,none,some (F_Z41,pol_Z41),none,none,none,none,none,none,none,none,none,none,none,none,none,none,none,none,none,none]
noncomputable def primL:List (Option (Run → List Dv → Option Dv)) := [none,none,none,none,none,none,none,none,none,none,none,none,none,none,none,none,none,none,some (pMarkSS n_Z60),none,none,none,none,none,none,none,none,none,none,none,none,none,none,none,none,none,none,none,none,none,none,none,none,none,none,none,none,none,none,none,none,none,none,none,none,none,none,none,none,none,none,none,none,none,none,none,none,none,none,none,none,none,none,none,none,none,none,none,none,none,none,none,none,none,none,none,none,none,none,none,none,none,none,none,none,none,some (pIndep n_Z20 n_Z22 n_Z47),none,none,none,none,none,none,none,none,none,none,none,none,none,none,none,none,none,none,none,none,none,none,none,none,none,none,none,none,none,none,none,none,none,none,none,none,none,none,none,none,none,none,none,none,none,none,none,none,none,none,none,none,none,none,none,none,none,none,none,none,none,none,none,none,none,none,none,none,none,none,none,none,none,none,none,none,none,none,none,none,none,none,none,none,none,none,none,none,none,none,none,none,none,none,none,none,none,none,none,none,none,none,none,none,none,none,none,none,none,none,none,none,none,none,none,none,none,none,none,none,none,none,none,none,none,none,none,none,some (pGrow yI),none,none,none,none,none,none,none,none,none,none,none,none,none,none,none,none,none,none,none,none,none,none,none,none,none,none,none,none,none,none,none,none,none,none,none,none,none,none,none,none,none,none,none,none,none,none,none,none,none,none,none,none,none,none,none,none,none,none,none,none]
noncomputable def E:Env := { P := Tryz.prog,fn := fun f => fnL.getD f none,prim := fun f => primL.getD f none,sig := fun f => sigL.getD f none }
theorem sig_laws_FnExactHomologyBasis_eq:E.sig n_Z53 = some sg_Z53 := rfl
theorem run_Z53 (n:Nat) (args:List Dv):run E (n + 1) n_Z53 args = evFn E (mkR (run E n)) sg_Z53 pol_Z53 F_Z53 n args := rfl
theorem sig_laws_szComplex_eq:E.sig n_Z62 = some sg_Z62 := rfl
theorem run_Z62 (n:Nat) (args:List Dv):run E (n + 1) n_Z62 args = evFn E (mkR (run E n)) sg_Z62 pol_Z62 F_Z62 n args := rfl
theorem sig_spec_HomologyBasis_eq:E.sig n_Z88 = some sg_Z88 := rfl
theorem run_Z88 (n:Nat) (args:List Dv):run E (n + 1) n_Z88 args = evFn E (mkR (run E n)) sg_Z88 pol_Z88 F_Z88 n args := rfl
theorem sig_laws_toComplex_eq:E.sig n_Z65 = some sg_Z65 := rfl
theorem run_Z65 (n:Nat) (args:List Dv):run E (n + 1) n_Z65 args = evFn E (mkR (run E n)) sg_Z65 pol_Z65 F_Z65 n args := rfl
theorem sig_impl_HomologyBasis_eq:E.sig n_Z5 = some sg_Z5 := rfl
theorem run_Z5 (n:Nat) (args:List Dv):run E (n + 1) n_Z5 args = evFn E (mkR (run E n)) sg_Z5 pol_Z5 F_Z5 n args := rfl
theorem sig_laws_eqInt64SS_eq:E.sig n_Z56 = some sg_Z56 := rfl
theorem run_Z56 (n:Nat) (args:List Dv):run E (n + 1) n_Z56 args = evFn E (mkR (run E n)) sg_Z56 pol_Z56 F_Z56 n args := rfl
theorem sig_laws_eqComplex_eq:E.sig n_Z54 = some sg_Z54 := rfl
theorem run_Z54 (n:Nat) (args:List Dv):run E (n + 1) n_Z54 args = evFn E (mkR (run E n)) sg_Z54 pol_Z54 F_Z54 n args := rfl
theorem sig_laws_markComplex_eq:E.sig n_Z59 = some sg_Z59 := rfl
theorem run_Z59 (n:Nat) (args:List Dv):run E (n + 1) n_Z59 args = evFn E (mkR (run E n)) sg_Z59 pol_Z59 F_Z59 n args := rfl
theorem sig_laws_markInt64SS_eq:E.sig n_Z61 = some sg_Z61 := rfl
theorem sig_laws_heldInt64SS_eq:E.sig n_Z58 = some sg_Z58 := rfl
theorem run_Z58 (n:Nat) (args:List Dv):run E (n + 1) n_Z58 args = evFn E (mkR (run E n)) sg_Z58 pol_Z58 F_Z58 n args := rfl
theorem sig_laws_toInt64S_eq:E.sig n_Z66 = some sg_Z66 := rfl
theorem run_Z66 (n:Nat) (args:List Dv):run E (n + 1) n_Z66 args = evFn E (mkR (run E n)) sg_Z66 pol_Z66 F_Z66 n args := rfl
theorem sig_laws_eqInt64S_eq:E.sig n_Z55 = some sg_Z55 := rfl
theorem run_Z55 (n:Nat) (args:List Dv):run E (n + 1) n_Z55 args = evFn E (mkR (run E n)) sg_Z55 pol_Z55 F_Z55 n args := rfl
theorem sig_laws_markInt64S_eq:E.sig n_Z60 = some sg_Z60 := rfl
theorem run_Z60 (n:Nat) (args:List Dv):run E (n + 1) n_Z60 args = evFn E (mkR (run E n)) sg_Z60 pol_Z60 F_Z60 n args := rfl
theorem sig_laws_heldInt64S_eq:E.sig n_Z57 = some sg_Z57 := rfl
theorem run_Z57 (n:Nat) (args:List Dv):run E (n + 1) n_Z57 args = evFn E (mkR (run E n)) sg_Z57 pol_Z57 F_Z57 n args := rfl
theorem sig_laws_szInt64SS_eq:E.sig n_Z64 = some sg_Z64 := rfl
theorem run_Z64 (n:Nat) (args:List Dv):run E (n + 1) n_Z64 args = evFn E (mkR (run E n)) sg_Z64 pol_Z64 F_Z64 n args := rfl
theorem sig_spec_l07Ask_eq:E.sig n_Z111 = some sg_Z111 := rfl
theorem run_Z111 (n:Nat) (args:List Dv):run E (n + 1) n_Z111 args = evFn E (mkR (run E n)) sg_Z111 pol_Z111 F_Z111 n args := rfl
theorem sig_spec_l07Basis_eq:E.sig n_Z112 = some sg_Z112 := rfl
theorem run_Z112 (n:Nat) (args:List Dv):run E (n + 1) n_Z112 args = evFn E (mkR (run E n)) sg_Z112 pol_Z112 F_Z112 n args := rfl
theorem sig_laws_toInt64SS_eq:E.sig n_Z67 = some sg_Z67 := rfl
theorem run_Z67 (n:Nat) (args:List Dv):run E (n + 1) n_Z67 args = evFn E (mkR (run E n)) sg_Z67 pol_Z67 F_Z67 n args := rfl
theorem sig_impl_chained_eq:E.sig n_Z17 = some sg_Z17 := rfl
theorem run_Z17 (n:Nat) (args:List Dv):run E (n + 1) n_Z17 args = evFn E (mkR (run E n)) sg_Z17 pol_Z17 F_Z17 n args := rfl
theorem sig_impl_homologyBasis_eq:E.sig n_Z30 = some sg_Z30 := rfl
theorem run_Z30 (n:Nat) (args:List Dv):run E (n + 1) n_Z30 args = evFn E (mkR (run E n)) sg_Z30 pol_Z30 F_Z30 n args := rfl
theorem sig_spec_l07Boundary_eq:E.sig n_Z113 = some sg_Z113 := rfl
theorem run_Z113 (n:Nat) (args:List Dv):run E (n + 1) n_Z113 args = evFn E (mkR (run E n)) sg_Z113 pol_Z113 F_Z113 n args := rfl
theorem sig_impl_boundaries_eq:E.sig n_Z15 = some sg_Z15 := rfl
theorem run_Z15 (n:Nat) (args:List Dv):run E (n + 1) n_Z15 args = evFn E (mkR (run E n)) sg_Z15 pol_Z15 F_Z15 n args := rfl
theorem sig_spec_l02Prime_eq:E.sig n_Z95 = some sg_Z95 := rfl
theorem run_Z95 (n:Nat) (args:List Dv):run E (n + 1) n_Z95 args = evFn E (mkR (run E n)) sg_Z95 pol_Z95 F_Z95 n args := rfl
theorem sig_spec_l05Dimension_eq:E.sig n_Z104 = some sg_Z104 := rfl
theorem run_Z104 (n:Nat) (args:List Dv):run E (n + 1) n_Z104 args = evFn E (mkR (run E n)) sg_Z104 pol_Z104 F_Z104 n args := rfl
theorem sig_spec_l05Of_eq:E.sig n_Z108 = some sg_Z108 := rfl
theorem run_Z108 (n:Nat) (args:List Dv):run E (n + 1) n_Z108 args = evFn E (mkR (run E n)) sg_Z108 pol_Z108 F_Z108 n args := rfl
theorem sig_laws_szInt64S_eq:E.sig n_Z63 = some sg_Z63 := rfl
theorem run_Z63 (n:Nat) (args:List Dv):run E (n + 1) n_Z63 args = evFn E (mkR (run E n)) sg_Z63 pol_Z63 F_Z63 n args := rfl
theorem sig_spec_l00Own_eq:E.sig n_Z92 = some sg_Z92 := rfl
theorem run_Z92 (n:Nat) (args:List Dv):run E (n + 1) n_Z92 args = evFn E (mkR (run E n)) sg_Z92 pol_Z92 F_Z92 n args := rfl
theorem sig_impl_independent_eq:E.sig n_Z31 = some sg_Z31 := rfl
theorem sig_spec_l05Ok_eq:E.sig n_Z109 = some sg_Z109 := rfl
theorem run_Z109 (n:Nat) (args:List Dv):run E (n + 1) n_Z109 args = evFn E (mkR (run E n)) sg_Z109 pol_Z109 F_Z109 n args := rfl
theorem sig_spec_ValidPrime_eq:E.sig n_Z89 = some sg_Z89 := rfl
theorem run_Z89 (n:Nat) (args:List Dv):run E (n + 1) n_Z89 args = evFn E (mkR (run E n)) sg_Z89 pol_Z89 F_Z89 n args := rfl
theorem sig_spec_l07Classes_eq:E.sig n_Z114 = some sg_Z114 := rfl
theorem run_Z114 (n:Nat) (args:List Dv):run E (n + 1) n_Z114 args = evFn E (mkR (run E n)) sg_Z114 pol_Z114 F_Z114 n args := rfl
theorem sig_spec_l03Kernel_eq:E.sig n_Z98 = some sg_Z98 := rfl
theorem run_Z98 (n:Nat) (args:List Dv):run E (n + 1) n_Z98 args = evFn E (mkR (run E n)) sg_Z98 pol_Z98 F_Z98 n args := rfl
theorem sig_impl_ValidComplex_eq:E.sig n_Z8 = some sg_Z8 := rfl
theorem run_Z8 (n:Nat) (args:List Dv):run E (n + 1) n_Z8 args = evFn E (mkR (run E n)) sg_Z8 pol_Z8 F_Z8 n args := rfl
theorem sig_impl_ValidPrime_eq:E.sig n_Z10 = some sg_Z10 := rfl
theorem run_Z10 (n:Nat) (args:List Dv):run E (n + 1) n_Z10 args = evFn E (mkR (run E n)) sg_Z10 pol_Z10 F_Z10 n args := rfl
theorem sig_impl_isDimension_eq:E.sig n_Z34 = some sg_Z34 := rfl
theorem run_Z34 (n:Nat) (args:List Dv):run E (n + 1) n_Z34 args = evFn E (mkR (run E n)) sg_Z34 pol_Z34 F_Z34 n args := rfl
theorem sig_impl_simplicesOf_eq:E.sig n_Z45 = some sg_Z45 := rfl
theorem run_Z45 (n:Nat) (args:List Dv):run E (n + 1) n_Z45 args = evFn E (mkR (run E n)) sg_Z45 pol_Z45 F_Z45 n args := rfl
theorem sig_impl_kernel_eq:E.sig n_Z39 = some sg_Z39 := rfl
theorem run_Z39 (n:Nat) (args:List Dv):run E (n + 1) n_Z39 args = evFn E (mkR (run E n)) sg_Z39 pol_Z39 F_Z39 n args := rfl
theorem sig_impl_boundaryMatrix_eq:E.sig n_Z16 = some sg_Z16 := rfl
theorem run_Z16 (n:Nat) (args:List Dv):run E (n + 1) n_Z16 args = evFn E (mkR (run E n)) sg_Z16 pol_Z16 F_Z16 n args := rfl
theorem sig_spec_l07With_eq:E.sig n_Z117 = some sg_Z117 := rfl
theorem run_Z117 (n:Nat) (args:List Dv):run E (n + 1) n_Z117 args = evFn E (mkR (run E n)) sg_Z117 pol_Z117 F_Z117 n args := rfl
theorem sig_spec_l03Solve_eq:E.sig n_Z101 = some sg_Z101 := rfl
theorem run_Z101 (n:Nat) (args:List Dv):run E (n + 1) n_Z101 args = evFn E (mkR (run E n)) sg_Z101 pol_Z101 F_Z101 n args := rfl
theorem sig_spec_l03Zero_eq:E.sig n_Z102 = some sg_Z102 := rfl
theorem run_Z102 (n:Nat) (args:List Dv):run E (n + 1) n_Z102 args = evFn E (mkR (run E n)) sg_Z102 pol_Z102 F_Z102 n args := rfl
theorem sig_spec_l05Faces_eq:E.sig n_Z106 = some sg_Z106 := rfl
theorem run_Z106 (n:Nat) (args:List Dv):run E (n + 1) n_Z106 args = evFn E (mkR (run E n)) sg_Z106 pol_Z106 F_Z106 n args := rfl
theorem sig_spec_l07Sign_eq:E.sig n_Z115 = some sg_Z115 := rfl
theorem run_Z115 (n:Nat) (args:List Dv):run E (n + 1) n_Z115 args = evFn E (mkR (run E n)) sg_Z115 pol_Z115 F_Z115 n args := rfl
theorem sig_impl_isZero_eq:E.sig n_Z37 = some sg_Z37 := rfl
theorem run_Z37 (n:Nat) (args:List Dv):run E (n + 1) n_Z37 args = evFn E (mkR (run E n)) sg_Z37 pol_Z37 F_Z37 n args := rfl
theorem sig_impl_transpose_eq:E.sig n_Z48 = some sg_Z48 := rfl
theorem run_Z48 (n:Nat) (args:List Dv):run E (n + 1) n_Z48 args = evFn E (mkR (run E n)) sg_Z48 pol_Z48 F_Z48 n args := rfl
theorem sig_impl_spaceOf_eq:E.sig n_Z47 = some sg_Z47 := rfl
theorem run_Z47 (n:Nat) (args:List Dv):run E (n + 1) n_Z47 args = evFn E (mkR (run E n)) sg_Z47 pol_Z47 F_Z47 n args := rfl
theorem sig_impl_columnsOf_eq:E.sig n_Z18 = some sg_Z18 := rfl
theorem run_Z18 (n:Nat) (args:List Dv):run E (n + 1) n_Z18 args = evFn E (mkR (run E n)) sg_Z18 pol_Z18 F_Z18 n args := rfl
theorem sig_spec_l00In_eq:E.sig n_Z91 = some sg_Z91 := rfl
theorem run_Z91 (n:Nat) (args:List Dv):run E (n + 1) n_Z91 args = evFn E (mkR (run E n)) sg_Z91 pol_Z91 F_Z91 n args := rfl
theorem sig_impl_zero_eq:E.sig n_Z51 = some sg_Z51 := rfl
theorem run_Z51 (n:Nat) (args:List Dv):run E (n + 1) n_Z51 args = evFn E (mkR (run E n)) sg_Z51 pol_Z51 F_Z51 n args := rfl
theorem sig_impl_size_int64_eq:E.sig n_Z46 = some sg_Z46 := rfl
theorem run_Z46 (n:Nat) (args:List Dv):run E (n + 1) n_Z46 args = evFn E (mkR (run E n)) sg_Z46 pol_Z46 F_Z46 n args := rfl
theorem sig_slices_Index_Sint64_int64_eq:E.sig n_Z87 = some sg_Z87 := rfl
theorem run_Z87 (n:Nat) (args:List Dv):run E (n + 1) n_Z87 args = evFn E (mkR (run E n)) sg_Z87 pol_Z87 F_Z87 n args := rfl
theorem sig_impl_indexOf_eq:E.sig n_Z32 = some sg_Z32 := rfl
theorem run_Z32 (n:Nat) (args:List Dv):run E (n + 1) n_Z32 args = evFn E (mkR (run E n)) sg_Z32 pol_Z32 F_Z32 n args := rfl
theorem sig_impl_alternating_eq:E.sig n_Z14 = some sg_Z14 := rfl
theorem run_Z14 (n:Nat) (args:List Dv):run E (n + 1) n_Z14 args = evFn E (mkR (run E n)) sg_Z14 pol_Z14 F_Z14 n args := rfl
theorem sig_spec_l05Find_eq:E.sig n_Z107 = some sg_Z107 := rfl
theorem run_Z107 (n:Nat) (args:List Dv):run E (n + 1) n_Z107 args = evFn E (mkR (run E n)) sg_Z107 pol_Z107 F_Z107 n args := rfl
theorem sig_impl_copyLists_eq:E.sig n_Z22 = some sg_Z22 := rfl
theorem run_Z22 (n:Nat) (args:List Dv):run E (n + 1) n_Z22 args = evFn E (mkR (run E n)) sg_Z22 pol_Z22 F_Z22 n args := rfl
theorem sig_impl_compareSimplices_eq:E.sig n_Z19 = some sg_Z19 := rfl
theorem run_Z19 (n:Nat) (args:List Dv):run E (n + 1) n_Z19 args = evFn E (mkR (run E n)) sg_Z19 pol_Z19 F_Z19 n args := rfl
theorem sig_impl_Matrix_row_eq:E.sig n_Z7 = some sg_Z7 := rfl
theorem run_Z7 (n:Nat) (args:List Dv):run E (n + 1) n_Z7 args = evFn E (mkR (run E n)) sg_Z7 pol_Z7 F_Z7 n args := rfl
theorem sig_impl_contains_eq:E.sig n_Z20 = some sg_Z20 := rfl
theorem run_Z20 (n:Nat) (args:List Dv):run E (n + 1) n_Z20 args = evFn E (mkR (run E n)) sg_Z20 pol_Z20 F_Z20 n args := rfl
theorem sig_spec_l05Simplex_eq:E.sig n_Z110 = some sg_Z110 := rfl
theorem run_Z110 (n:Nat) (args:List Dv):run E (n + 1) n_Z110 args = evFn E (mkR (run E n)) sg_Z110 pol_Z110 F_Z110 n args := rfl
theorem sig_spec_l05Before_eq:E.sig n_Z103 = some sg_Z103 := rfl
theorem run_Z103 (n:Nat) (args:List Dv):run E (n + 1) n_Z103 args = evFn E (mkR (run E n)) sg_Z103 pol_Z103 F_Z103 n args := rfl
theorem sig_spec_l05Drop_eq:E.sig n_Z105 = some sg_Z105 := rfl
theorem run_Z105 (n:Nat) (args:List Dv):run E (n + 1) n_Z105 args = evFn E (mkR (run E n)) sg_Z105 pol_Z105 F_Z105 n args := rfl
theorem sig_spec_l07Spans_eq:E.sig n_Z116 = some sg_Z116 := rfl
theorem run_Z116 (n:Nat) (args:List Dv):run E (n + 1) n_Z116 args = evFn E (mkR (run E n)) sg_Z116 pol_Z116 F_Z116 n args := rfl
theorem sig_spec_l03Reduced_eq:E.sig n_Z100 = some sg_Z100 := rfl
theorem run_Z100 (n:Nat) (args:List Dv):run E (n + 1) n_Z100 args = evFn E (mkR (run E n)) sg_Z100 pol_Z100 F_Z100 n args := rfl
theorem sig_spec_l00Has_eq:E.sig n_Z90 = some sg_Z90 := rfl
theorem run_Z90 (n:Nat) (args:List Dv):run E (n + 1) n_Z90 args = evFn E (mkR (run E n)) sg_Z90 pol_Z90 F_Z90 n args := rfl
theorem sig_spec_l03Mod_eq:E.sig n_Z99 = some sg_Z99 := rfl
theorem run_Z99 (n:Nat) (args:List Dv):run E (n + 1) n_Z99 args = evFn E (mkR (run E n)) sg_Z99 pol_Z99 F_Z99 n args := rfl
theorem sig_impl_ValidSimplex_eq:E.sig n_Z11 = some sg_Z11 := rfl
theorem run_Z11 (n:Nat) (args:List Dv):run E (n + 1) n_Z11 args = evFn E (mkR (run E n)) sg_Z11 pol_Z11 F_Z11 n args := rfl
theorem sig_slices_ContainsFunc_SSint64_Sint64_eq:E.sig n_Z73 = some sg_Z73 := rfl
theorem run_Z73 (n:Nat) (args:List Dv):run E (n + 1) n_Z73 args = evFn E (mkR (run E n)) sg_Z73 pol_Z73 F_Z73 n args := rfl
theorem sig_impl_facesOf_eq:E.sig n_Z26 = some sg_Z26 := rfl
theorem run_Z26 (n:Nat) (args:List Dv):run E (n + 1) n_Z26 args = evFn E (mkR (run E n)) sg_Z26 pol_Z26 F_Z26 n args := rfl
theorem sig_impl_ValidComplex_1_eq:E.sig n_Z9 = some sg_Z9 := rfl
theorem run_Z9 (n:Nat) (args:List Dv):run E (n + 1) n_Z9 args = evFn E (mkR (run E n)) sg_Z9 pol_Z9 F_Z9 n args := rfl
theorem sig_impl_within_eq:E.sig n_Z50 = some sg_Z50 := rfl
theorem run_Z50 (n:Nat) (args:List Dv):run E (n + 1) n_Z50 args = evFn E (mkR (run E n)) sg_Z50 pol_Z50 F_Z50 n args := rfl
theorem sig_impl_rowsOf_eq:E.sig n_Z44 = some sg_Z44 := rfl
theorem run_Z44 (n:Nat) (args:List Dv):run E (n + 1) n_Z44 args = evFn E (mkR (run E n)) sg_Z44 pol_Z44 F_Z44 n args := rfl
theorem sig_impl_eliminate_eq:E.sig n_Z23 = some sg_Z23 := rfl
theorem run_Z23 (n:Nat) (args:List Dv):run E (n + 1) n_Z23 args = evFn E (mkR (run E n)) sg_Z23 pol_Z23 F_Z23 n args := rfl
theorem sig_slices_Contains_Sint64_int64_eq:E.sig n_Z78 = some sg_Z78 := rfl
theorem run_Z78 (n:Nat) (args:List Dv):run E (n + 1) n_Z78 args = evFn E (mkR (run E n)) sg_Z78 pol_Z78 F_Z78 n args := rfl
theorem sig_impl_reduce_eq:E.sig n_Z43 = some sg_Z43 := rfl
theorem run_Z43 (n:Nat) (args:List Dv):run E (n + 1) n_Z43 args = evFn E (mkR (run E n)) sg_Z43 pol_Z43 F_Z43 n args := rfl
theorem sig_impl_faceIndices_eq:E.sig n_Z25 = some sg_Z25 := rfl
theorem run_Z25 (n:Nat) (args:List Dv):run E (n + 1) n_Z25 args = evFn E (mkR (run E n)) sg_Z25 pol_Z25 F_Z25 n args := rfl
theorem sig_spec_l03Join_eq:E.sig n_Z97 = some sg_Z97 := rfl
theorem run_Z97 (n:Nat) (args:List Dv):run E (n + 1) n_Z97 args = evFn E (mkR (run E n)) sg_Z97 pol_Z97 F_Z97 n args := rfl
theorem sig_slices_ContainsFunc_Sint64_int64_eq:E.sig n_Z75 = some sg_Z75 := rfl
theorem run_Z75 (n:Nat) (args:List Dv):run E (n + 1) n_Z75 args = evFn E (mkR (run E n)) sg_Z75 pol_Z75 F_Z75 n args := rfl
theorem sig_impl_isZero_1_eq:E.sig n_Z38 = some sg_Z38 := rfl
theorem run_Z38 (n:Nat) (args:List Dv):run E (n + 1) n_Z38 args = evFn E (mkR (run E n)) sg_Z38 pol_Z38 F_Z38 n args := rfl
theorem sig_impl_filled_eq:E.sig n_Z27 = some sg_Z27 := rfl
theorem run_Z27 (n:Nat) (args:List Dv):run E (n + 1) n_Z27 args = evFn E (mkR (run E n)) sg_Z27 pol_Z27 F_Z27 n args := rfl
theorem sig_impl_transpose_1_eq:E.sig n_Z49 = some sg_Z49 := rfl
theorem run_Z49 (n:Nat) (args:List Dv):run E (n + 1) n_Z49 args = evFn E (mkR (run E n)) sg_Z49 pol_Z49 F_Z49 n args := rfl
theorem sig_impl_Matrix_at_eq:E.sig n_Z6 = some sg_Z6 := rfl
theorem run_Z6 (n:Nat) (args:List Dv):run E (n + 1) n_Z6 args = evFn E (mkR (run E n)) sg_Z6 pol_Z6 F_Z6 n args := rfl
theorem sig_slices_Concat_Sint64_int64_eq:E.sig n_Z72 = some sg_Z72 := rfl
theorem run_Z72 (n:Nat) (args:List Dv):run E (n + 1) n_Z72 args = evFn E (mkR (run E n)) sg_Z72 pol_Z72 F_Z72 n args := rfl
theorem sig_impl_zero_1_eq:E.sig n_Z52 = some sg_Z52 := rfl
theorem run_Z52 (n:Nat) (args:List Dv):run E (n + 1) n_Z52 args = evFn E (mkR (run E n)) sg_Z52 pol_Z52 F_Z52 n args := rfl
theorem sig_slices_BinarySearchFunc_SSint64_Sint64_Sint64_eq:E.sig n_Z68 = some sg_Z68 := rfl
theorem run_Z68 (n:Nat) (args:List Dv):run E (n + 1) n_Z68 args = evFn E (mkR (run E n)) sg_Z68 pol_Z68 F_Z68 n args := rfl
theorem sig_spec_l00Same_eq:E.sig n_Z94 = some sg_Z94 := rfl
theorem run_Z94 (n:Nat) (args:List Dv):run E (n + 1) n_Z94 args = evFn E (mkR (run E n)) sg_Z94 pol_Z94 F_Z94 n args := rfl
theorem sig_slices_Clone_Sint64_int64_eq:E.sig n_Z70 = some sg_Z70 := rfl
theorem run_Z70 (n:Nat) (args:List Dv):run E (n + 1) n_Z70 args = evFn E (mkR (run E n)) sg_Z70 pol_Z70 F_Z70 n args := rfl
theorem sig_cmp_Or_int_eq:E.sig n_Z2 = some sg_Z2 := rfl
theorem run_Z2 (n:Nat) (args:List Dv):run E (n + 1) n_Z2 args = evFn E (mkR (run E n)) sg_Z2 pol_Z2 F_Z2 n args := rfl
theorem sig_cmp_Compare_int_eq:E.sig n_Z0 = some sg_Z0 := rfl
theorem run_Z0 (n:Nat) (args:List Dv):run E (n + 1) n_Z0 args = evFn E (mkR (run E n)) sg_Z0 pol_Z0 F_Z0 n args := rfl
theorem sig_slices_Compare_Sint64_int64_eq:E.sig n_Z71 = some sg_Z71 := rfl
theorem run_Z71 (n:Nat) (args:List Dv):run E (n + 1) n_Z71 args = evFn E (mkR (run E n)) sg_Z71 pol_Z71 F_Z71 n args := rfl
theorem sig_impl_coordinates_eq:E.sig n_Z21 = some sg_Z21 := rfl
theorem run_Z21 (n:Nat) (args:List Dv):run E (n + 1) n_Z21 args = evFn E (mkR (run E n)) sg_Z21 pol_Z21 F_Z21 n args := rfl
theorem sig_spec_l00Rises_eq:E.sig n_Z93 = some sg_Z93 := rfl
theorem run_Z93 (n:Nat) (args:List Dv):run E (n + 1) n_Z93 args = evFn E (mkR (run E n)) sg_Z93 pol_Z93 F_Z93 n args := rfl
theorem sig_spec_l03Inverse_eq:E.sig n_Z96 = some sg_Z96 := rfl
theorem run_Z96 (n:Nat) (args:List Dv):run E (n + 1) n_Z96 args = evFn E (mkR (run E n)) sg_Z96 pol_Z96 F_Z96 n args := rfl
theorem sig_impl_isRising_eq:E.sig n_Z35 = some sg_Z35 := rfl
theorem run_Z35 (n:Nat) (args:List Dv):run E (n + 1) n_Z35 args = evFn E (mkR (run E n)) sg_Z35 pol_Z35 F_Z35 n args := rfl
theorem sig_impl_ValidSimplex_1_eq:E.sig n_Z12 = some sg_Z12 := rfl
theorem run_Z12 (n:Nat) (args:List Dv):run E (n + 1) n_Z12 args = evFn E (mkR (run E n)) sg_Z12 pol_Z12 F_Z12 n args := rfl
theorem sig_impl_isVertex_eq:E.sig n_Z36 = some sg_Z36 := rfl
theorem run_Z36 (n:Nat) (args:List Dv):run E (n + 1) n_Z36 args = evFn E (mkR (run E n)) sg_Z36 pol_Z36 F_Z36 n args := rfl
theorem sig_slices_IndexFunc_SSint64_Sint64_eq:E.sig n_Z80 = some sg_Z80 := rfl
theorem run_Z80 (n:Nat) (args:List Dv):run E (n + 1) n_Z80 args = evFn E (mkR (run E n)) sg_Z80 pol_Z80 F_Z80 n args := rfl
theorem sig_impl_eliminate_1_eq:E.sig n_Z24 = some sg_Z24 := rfl
theorem run_Z24 (n:Nat) (args:List Dv):run E (n + 1) n_Z24 args = evFn E (mkR (run E n)) sg_Z24 pol_Z24 F_Z24 n args := rfl
theorem sig_impl_addTimes_eq:E.sig n_Z13 = some sg_Z13 := rfl
theorem run_Z13 (n:Nat) (args:List Dv):run E (n + 1) n_Z13 args = evFn E (mkR (run E n)) sg_Z13 pol_Z13 F_Z13 n args := rfl
theorem sig_impl_inverseOf_eq:E.sig n_Z33 = some sg_Z33 := rfl
theorem run_Z33 (n:Nat) (args:List Dv):run E (n + 1) n_Z33 args = evFn E (mkR (run E n)) sg_Z33 pol_Z33 F_Z33 n args := rfl
theorem sig_slices_IndexFunc_Sint64_int64_eq:E.sig n_Z83 = some sg_Z83 := rfl
theorem run_Z83 (n:Nat) (args:List Dv):run E (n + 1) n_Z83 args = evFn E (mkR (run E n)) sg_Z83 pol_Z83 F_Z83 n args := rfl
theorem sig_slices_Grow_Sint64_int64_eq:E.sig n_Z79 = some sg_Z79 := rfl
theorem sig_cmp_isNaN_int_eq:E.sig n_Z3 = some sg_Z3 := rfl
theorem run_Z3 (n:Nat) (args:List Dv):run E (n + 1) n_Z3 args = evFn E (mkR (run E n)) sg_Z3 pol_Z3 F_Z3 n args := rfl
theorem sig_cmp_Compare_int64_eq:E.sig n_Z1 = some sg_Z1 := rfl
theorem run_Z1 (n:Nat) (args:List Dv):run E (n + 1) n_Z1 args = evFn E (mkR (run E n)) sg_Z1 pol_Z1 F_Z1 n args := rfl
theorem sig_impl_placesOf_eq:E.sig n_Z40 = some sg_Z40 := rfl
theorem run_Z40 (n:Nat) (args:List Dv):run E (n + 1) n_Z40 args = evFn E (mkR (run E n)) sg_Z40 pol_Z40 F_Z40 n args := rfl
theorem sig_impl_powerOf_eq:E.sig n_Z42 = some sg_Z42 := rfl
theorem run_Z42 (n:Nat) (args:List Dv):run E (n + 1) n_Z42 args = evFn E (mkR (run E n)) sg_Z42 pol_Z42 F_Z42 n args := rfl
theorem sig_cmp_isNaN_int64_eq:E.sig n_Z4 = some sg_Z4 := rfl
theorem run_Z4 (n:Nat) (args:List Dv):run E (n + 1) n_Z4 args = evFn E (mkR (run E n)) sg_Z4 pol_Z4 F_Z4 n args := rfl
theorem sig_impl_placesOf_1_eq:E.sig n_Z41 = some sg_Z41 := rfl
theorem run_Z41 (n:Nat) (args:List Dv):run E (n + 1) n_Z41 args = evFn E (mkR (run E n)) sg_Z41 pol_Z41 F_Z41 n args := rfl
@[reducible] noncomputable def eC (R:Run) (q:Pol) (N:Nat) (l:List Nat) (F:Func) := evCode E R q N (sub l (bodyOf F))
@[reducible] noncomputable def kB (R:Run) (q:Pol) (k:Nat) (K:Kt) := kBlk (maskAt R q.blkM k) k K
@[reducible] noncomputable def kS (R:Run) (q:Pol) (k N:Nat) (l:List Nat) (F:Func) (K:Kt) := kSeq (maskAt R q.seqM k) (evCode E R q N (sub l (bodyOf F))) K
@[reducible] noncomputable def kL (R:Run) (q:Pol) (k N:Nat) (l:List Nat) (F:Func) (n:Nat) (K:Kt) := kLoop (evCode E R q N (sub l (bodyOf F))) (maskAt R q.loopM k) n K
@[reducible] noncomputable def lC (R:Run) (q:Pol) (k N:Nat) (l:List Nat) (F:Func) (n:Nat) (s:Ve.St) (K:Kt) := loopC (evCode E R q N (sub l (bodyOf F))) (maskAt R q.loopM k) n s K
end VeT

open Go Go.Proofs Ve
set_option linter.unusedVariables false
set_option maxRecDepth 100000
namespace VeT
@[reducible] noncomputable def q0_0 (R:Run) (N:Nat):=kS R pol_Z109 5 N [1,1,0,1,0,0,1,1] F_Z109
@[reducible] noncomputable def q0_1 (R:Run) (N:Nat):=kS R pol_Z109 14 N [1,1,1] F_Z109
@[reducible] noncomputable def q0_2 (R:Run) (N:Nat):=kS R pol_Z113 12 N [1,1,1,1,1] F_Z113
@[reducible] noncomputable def q0_3 (R:Run) (N:Nat):=kS R pol_Z100 31 N [1,1,1,1,1,1,1,0,1,0,0,1,0,0,1,1,1,1,1,1,1,1,0,1,0,0,1,1] F_Z100
@[reducible] noncomputable def q0_4 (R:Run) (N:Nat):=kS R pol_Z100 38 N [1,1,1,1,1,1,1,0,1,0,0,1,0,0,1,1,1,1,1,1,1,1,1] F_Z100
@[reducible] noncomputable def q0_5 (R:Run) (N:Nat):=kS R pol_Z100 9 N [1,1,1,1,1,1,1,0,1,0,0,1,1] F_Z100
@[reducible] noncomputable def q0_6 (R:Run) (N:Nat):=kS R pol_Z100 40 N [1,1,1,1,1,1,1,1] F_Z100
@[reducible] noncomputable def q0_7 (R:Run) (N:Nat):=kS R pol_Z100 13 N [1,1,1,1,1,1,1,0,1,0,0,1,0,0,1,1] F_Z100
@[reducible] noncomputable def q0_8 (R:Run) (N:Nat):=kL R pol_Z109 4 N [1,1,0,1,0,0] F_Z109
@[reducible] noncomputable def q0_9 (R:Run) (N:Nat):=kL R pol_Z100 30 N [1,1,1,1,1,1,1,0,1,0,0,1,0,0,1,1,1,1,1,1,1,1,0,1,0,0] F_Z100
@[reducible] noncomputable def q0_10 (R:Run) (N:Nat):=kL R pol_Z100 8 N [1,1,1,1,1,1,1,0,1,0,0] F_Z100
@[reducible] noncomputable def q0_11 (R:Run):=kB R pol_Z100 1
@[reducible] noncomputable def q0_12 (R:Run):=kB R pol_Z100 0
theorem Z63.ev (R:Run) (N:Nat) (a0:(List Int)) (a1:Int):evFn E R sg_Z63 pol_Z63 F_Z63 N [⟨yL,a0⟩,⟨yI,a1⟩] = (bif (decide ((w64 (a1 - (List.length a0:Int))) < (0:Int))) then some ⟨o_Z63,((-1:Int),())⟩ else some ⟨o_Z63,((w64 (a1 - (List.length a0:Int))),())⟩) := by kernel_rfl
noncomputable def Z64.l0 (R:Run) (N n:Nat) (a:vK) (b e:Int):Option Dv := R.w (some ⟨(.c (.d yK a)::(.c (.d yI b)::(zd 3 (.c (.d yI e)::(zd 21 []))))),(zo 29 [])⟩) fun st => lC R pol_Z64 5 N [1,1,1,0,1,0,0] F_Z64 n st (kB R pol_Z64 0 (kS R pol_Z64 10 N [1,1,1,1] F_Z64 (kTop E sg_Z64 F_Z64)))
theorem Z64.l0_succ (R:Run) (hw:R.ok) (N n:Nat) (a:vK) (b c:Int):Z64.l0 R N (n + 1) a b c = (bif (decide (c < (List.length a:Int))) then ((idx? a c).bind fun y4 => ((callT R n_Z63 o_Z63 [⟨yL,(y4,()).1⟩,⟨yI,b⟩]).bind fun r5 => (bif (decide (r5.1 < (0:Int))) then some ⟨o_Z64,((-1:Int),())⟩ else (Z64.l0 R N n a r5.1 (w64 (c + (1:Int))))))) else some ⟨o_Z64,(b,())⟩) := (hw _ _).trans (by kernel_rfl)
theorem Z64.ev (R:Run) (N:Nat) (a0:vK) (a1:Int):evFn E R sg_Z64 pol_Z64 F_Z64 N [⟨yK,a0⟩,⟨yI,a1⟩] = (bif (decide ((w64 (a1 - (List.length a0:Int))) < (0:Int))) then some ⟨o_Z64,((-1:Int),())⟩ else (Z64.l0 R N N a0 (w64 (a1 - (List.length a0:Int))) (0:Int))) := by kernel_rfl
theorem Z62.ev (R:Run) (N:Nat) (a0:vK) (a1:Int):evFn E R sg_Z62 pol_Z62 F_Z62 N [⟨yK,a0⟩,⟨yI,a1⟩] = ((callT R n_Z64 o_Z64 [⟨yK,a0⟩,⟨yI,a1⟩]).bind fun r1 => (bif (decide (r1.1 < (0:Int))) then some ⟨o_Z62,((-1:Int),())⟩ else some ⟨o_Z62,(r1.1,())⟩)) := by kernel_rfl
noncomputable def Z66.l0 (R:Run) (N n:Nat) (a:(List Int)) (b:Int) (e:(List Int)):Option Dv := R.w (some ⟨(.c (.d yL a)::(V.dead::(V.dead::(.c (.arr 7)::(.c (.d yI b)::(zd 17 [])))))),(zo 7 (some (.arr yI e true false false)::(zo 15 [])))⟩) fun st => lC R pol_Z66 3 N [1,1,0,1,0,0] F_Z66 n st (kB R pol_Z66 0 (kS R pol_Z66 6 N [1,1,1] F_Z66 (kTop E sg_Z66 F_Z66)))
theorem Z66.l0_succ (R:Run) (hw:R.ok) (N n:Nat) (a:(List Int)) (b:Int) (c:(List Int)):Z66.l0 R N (n + 1) a b c = (bif (decide (b < (List.length a:Int))) then ((idx? a b).bind fun y4 => ((chk (decide (0 ≤ b) && decide (b < (List.length c:Int)))).bind fun _ => (Z66.l0 R N n a (w64 (b + (1:Int))) (List.set c (Int.toNat b) (y4,()).1)))) else some ⟨o_Z66,(c,())⟩) := (hw _ _).trans (by kernel_rfl)
theorem Z66.ev (R:Run) (N:Nat) (a0:(List Int)):evFn E R sg_Z66 pol_Z66 F_Z66 N [⟨yL,a0⟩] = ((chk (decide (0 ≤ (List.length a0:Int)) && decide ((List.length a0:Int) * 8 ≤ 70368744177664))).bind fun _ => (Z66.l0 R N N a0 (0:Int) (List.replicate (Int.toNat (List.length a0:Int)) (0:Int)))) := by kernel_rfl
noncomputable def Z67.l0 (R:Run) (N n:Nat) (a:vK) (b:Int) (e:vK):Option Dv := R.w (some ⟨(.c (.d yK a)::(V.dead::(V.dead::(.c (.arr 7)::(.c (.d yI b)::(zd 18 [])))))),(zo 7 (some (.arr yL e true false false)::(zo 17 [])))⟩) fun st => lC R pol_Z67 3 N [1,1,0,1,0,0] F_Z67 n st (kB R pol_Z67 0 (kS R pol_Z67 6 N [1,1,1] F_Z67 (kTop E sg_Z67 F_Z67)))
theorem Z67.l0_succ (R:Run) (hw:R.ok) (N n:Nat) (a:vK) (b:Int) (c:vK):Z67.l0 R N (n + 1) a b c = (bif (decide (b < (List.length a:Int))) then ((idx? a b).bind fun y4 => ((callT R n_Z66 o_Z66 [⟨yL,(y4,()).1⟩]).bind fun r5 => ((chk (decide (0 ≤ b) && decide (b < (List.length c:Int)))).bind fun _ => (Z67.l0 R N n a (w64 (b + (1:Int))) (List.set c (Int.toNat b) r5.1))))) else some ⟨o_Z67,(c,())⟩) := (hw _ _).trans (by kernel_rfl)
theorem Z67.ev (R:Run) (N:Nat) (a0:vK):evFn E R sg_Z67 pol_Z67 F_Z67 N [⟨yK,a0⟩] = ((chk (decide (0 ≤ (List.length a0:Int)) && decide ((List.length a0:Int) * 24 ≤ 70368744177664))).bind fun _ => (Z67.l0 R N N a0 (0:Int) (List.replicate (Int.toNat (List.length a0:Int)) ([]:List Int)))) := by kernel_rfl
theorem Z65.ev (R:Run) (N:Nat) (a0:vK):evFn E R sg_Z65 pol_Z65 F_Z65 N [⟨yK,a0⟩] = ((callT R n_Z67 o_Z67 [⟨yK,a0⟩]).bind fun r1 => some ⟨o_Z65,(r1.1,())⟩) := by kernel_rfl
theorem Z91.ev (R:Run) (N:Nat) (a0 a1 a2:Int):evFn E R sg_Z91 pol_Z91 F_Z91 N [⟨yI,a0⟩,⟨yI,a1⟩,⟨yI,a2⟩] = (bif (decide (a0 ≥ a1)) then some ⟨o_Z91,((decide (a0 ≤ a2)),())⟩ else some ⟨o_Z91,(false,())⟩) := by kernel_rfl
noncomputable def Z93.j1 (R:Run) (N a:Nat) (b:(List Int)) (e f g:Int) (h:Bool):Option Dv := R.w (some ⟨(.c (.d yL b)::(.c (.d yI e)::(.c (.d yI f)::(zd 4 (.c (.d yI g)::(zd 29 (.c (.d .bool h)::[]))))))),(zo 41 [])⟩) fun st => eC R pol_Z93 N [1,0,1,0,0,1,0,0,1] F_Z93 st (kB R pol_Z93 1 (kS R pol_Z93 3 N [1,0,1,0,0,1,1] F_Z93 (kL R pol_Z93 2 N [1,0,1,0,0] F_Z93 a (kB R pol_Z93 0 (kS R pol_Z93 6 N [1,1] F_Z93 (kTop E sg_Z93 F_Z93))))))
noncomputable def Z93.l0 (R:Run) (N n:Nat) (a:(List Int)) (b e f:Int):Option Dv := R.w (some ⟨(.c (.d yL a)::(.c (.d yI b)::(.c (.d yI e)::(zd 4 (.c (.d yI f)::(zd 30 [])))))),(zo 41 [])⟩) fun st => lC R pol_Z93 2 N [1,0,1,0,0] F_Z93 n st (kB R pol_Z93 0 (kS R pol_Z93 6 N [1,1] F_Z93 (kTop E sg_Z93 F_Z93)))
theorem Z93.j1_eq (R:Run) (hw:R.ok) (N a:Nat) (b:(List Int)) (c d e:Int) (f:Bool):Z93.j1 R N a b c d e f = (bif f then some ⟨o_Z93,(false,())⟩ else (Z93.l0 R N a b c d (w64 (e + (1:Int))))) := (hw _ _).trans (by kernel_rfl)
theorem Z93.l0_succ (R:Run) (hw:R.ok) (N n:Nat) (a:(List Int)) (b c d:Int):Z93.l0 R N (n + 1) a b c d = (bif (decide (d < (List.length a:Int))) then ((idx? a d).bind fun y5 => ((callT R n_Z91 o_Z91 [⟨yI,(y5,()).1⟩,⟨yI,b⟩,⟨yI,c⟩]).bind fun r6 => (bif (!r6.1) then (Z93.j1 R N n a b c d true) else (bif (decide (d > (0:Int))) then ((idx? a (w64 (d - (1:Int)))).bind fun y16 => ((idx? a d).bind fun y17 => (Z93.j1 R N n a b c d (decide ((y16,()).1 ≥ (y17,()).1))))) else (Z93.j1 R N n a b c d false))))) else some ⟨o_Z93,(true,())⟩) := (hw _ _).trans (by kernel_rfl)
theorem Z93.ev (R:Run) (N:Nat) (a0:(List Int)) (a1 a2:Int):evFn E R sg_Z93 pol_Z93 F_Z93 N [⟨yL,a0⟩,⟨yI,a1⟩,⟨yI,a2⟩] = (Z93.l0 R N N a0 a1 a2 (0:Int)) := by kernel_rfl
theorem Z110.ev (R:Run) (N:Nat) (a0:(List Int)):evFn E R sg_Z110 pol_Z110 F_Z110 N [⟨yL,a0⟩] = ((callT R n_Z91 o_Z91 [⟨yI,(List.length a0:Int)⟩,⟨yI,(1:Int)⟩,⟨yI,(4:Int)⟩]).bind fun r1 => (bif r1.1 then ((callT R n_Z93 o_Z93 [⟨yL,a0⟩,⟨yI,(0:Int)⟩,⟨yI,(9:Int)⟩]).bind fun r2 => some ⟨o_Z110,(r2.1,())⟩) else some ⟨o_Z110,(false,())⟩)) := by kernel_rfl
noncomputable def Z103.l0 (R:Run) (N n:Nat) (a b:(List Int)) (e:Int):Option Dv := R.w (some ⟨(.c (.d yL a)::(.c (.d yL b)::(zd 3 (.c (.d yI e)::(zd 34 []))))),(zo 42 [])⟩) fun st => lC R pol_Z103 4 N [1,1,0,1,0,0] F_Z103 n st (kB R pol_Z103 0 (kS R pol_Z103 8 N [1,1,1] F_Z103 (kTop E sg_Z103 F_Z103)))
theorem Z103.l0_succ (R:Run) (hw:R.ok) (N n:Nat) (a b:(List Int)) (c:Int):Z103.l0 R N (n + 1) a b c = (bif (decide (c < (List.length a:Int))) then ((idx? a c).bind fun y4 => ((idx? b c).bind fun y5 => (bif ((y4,()).1 != (y5,()).1) then ((idx? a c).bind fun y6 => ((idx? b c).bind fun y7 => some ⟨o_Z103,((decide ((y6,()).1 < (y7,()).1)),())⟩)) else (Z103.l0 R N n a b (w64 (c + (1:Int))))))) else some ⟨o_Z103,(false,())⟩) := (hw _ _).trans (by kernel_rfl)
theorem Z103.ev (R:Run) (N:Nat) (a0 a1:(List Int)):evFn E R sg_Z103 pol_Z103 F_Z103 N [⟨yL,a0⟩,⟨yL,a1⟩] = (bif ((List.length a0:Int) != (List.length a1:Int)) then some ⟨o_Z103,((decide ((List.length a0:Int) < (List.length a1:Int))),())⟩ else (Z103.l0 R N N a0 a1 (0:Int))) := by kernel_rfl
theorem Z92.ev (R:Run) (N:Nat) (a0:(List Int)):evFn E R sg_Z92 pol_Z92 F_Z92 N [⟨yL,a0⟩] = ((chk (decide ((List.length ([]:List Int) + List.length a0) * 8 ≤ 70368744177664))).bind fun _ => some ⟨o_Z92,((([]:List Int) ++ a0),())⟩) := by kernel_rfl
theorem Z105.ev (R:Run) (N:Nat) (a0:(List Int)) (a1:Int):evFn E R sg_Z105 pol_Z105 F_Z105 N [⟨yL,a0⟩,⟨yI,a1⟩] = ((chk (decide (0 ≤ a1) && decide (a1 ≤ (List.length a0:Int)))).bind fun _ => ((callT R n_Z92 o_Z92 [⟨yL,(List.take (Int.toNat a1) a0)⟩]).bind fun r1 => ((chk (decide (0 ≤ (w64 (a1 + (1:Int)))) && decide ((w64 (a1 + (1:Int))) ≤ (List.length a0:Int)))).bind fun _ => ((chk (decide ((List.length r1.1 + List.length (List.drop (Int.toNat (w64 (a1 + (1:Int)))) a0)) * 8 ≤ 70368744177664))).bind fun _ => some ⟨o_Z105,((r1.1 ++ (List.drop (Int.toNat (w64 (a1 + (1:Int)))) a0)),())⟩)))) := by kernel_rfl
noncomputable def Z94.l0 (R:Run) (N n:Nat) (a b:(List Int)) (e:Int):Option Dv := R.w (some ⟨(.c (.d yL a)::(.c (.d yL b)::(zd 3 (.c (.d yI e)::(zd 20 []))))),(zo 28 [])⟩) fun st => lC R pol_Z94 4 N [1,1,0,1,0,0] F_Z94 n st (kB R pol_Z94 0 (kS R pol_Z94 8 N [1,1,1] F_Z94 (kTop E sg_Z94 F_Z94)))
theorem Z94.l0_succ (R:Run) (hw:R.ok) (N n:Nat) (a b:(List Int)) (c:Int):Z94.l0 R N (n + 1) a b c = (bif (decide (c < (List.length a:Int))) then ((idx? a c).bind fun y4 => ((idx? b c).bind fun y5 => (bif ((y4,()).1 != (y5,()).1) then some ⟨o_Z94,(false,())⟩ else (Z94.l0 R N n a b (w64 (c + (1:Int))))))) else some ⟨o_Z94,(true,())⟩) := (hw _ _).trans (by kernel_rfl)
theorem Z94.ev (R:Run) (N:Nat) (a0 a1:(List Int)):evFn E R sg_Z94 pol_Z94 F_Z94 N [⟨yL,a0⟩,⟨yL,a1⟩] = (bif ((List.length a0:Int) != (List.length a1:Int)) then some ⟨o_Z94,(false,())⟩ else (Z94.l0 R N N a0 a1 (0:Int))) := by kernel_rfl
noncomputable def Z107.l0 (R:Run) (N n:Nat) (a:(vK × Unit)) (b:(List Int)) (e:Int):Option Dv := R.w (some ⟨(.c (.ip (.cons yK .nil) a 0)::(.c (.d yL b)::(zd 3 (.c (.d yI e)::(zd 19 []))))),(zo 27 [])⟩) fun st => lC R pol_Z107 2 N [1,0,1,0,0] F_Z107 n st (kB R pol_Z107 0 (kS R pol_Z107 6 N [1,1] F_Z107 (kTop E sg_Z107 F_Z107)))
theorem Z107.l0_succ (R:Run) (hw:R.ok) (N n:Nat) (a:(vK × Unit)) (b:(List Int)) (c:Int):Z107.l0 R N (n + 1) a b c = (bif (decide (c < (List.length a.1:Int))) then ((idx? a.1 c).bind fun y4 => ((callT R n_Z94 o_Z94 [⟨yL,(y4,()).1⟩,⟨yL,b⟩]).bind fun r5 => (bif r5.1 then some ⟨o_Z107,(c,())⟩ else (Z107.l0 R N n a b (w64 (c + (1:Int))))))) else some ⟨o_Z107,((-1:Int),())⟩) := (hw _ _).trans (by kernel_rfl)
theorem Z107.ev (R:Run) (N:Nat) (a0:(vK × Unit)) (a1:(List Int)):evFn E R sg_Z107 pol_Z107 F_Z107 N [⟨(.ptr (.cons yK .nil)),a0⟩,⟨yL,a1⟩] = (Z107.l0 R N N a0 a1 (0:Int)) := by kernel_rfl
noncomputable def Z109.j3 (R:Run) (N a b:Nat) (e:(vK × Unit)) (f:Int) (g:(List Int)) (h:Int) (i:Bool):Option Dv := R.w (some ⟨(.c (.ip (.cons yK .nil) e 0)::(V.dead::(V.dead::(.c (.d yI f)::(.c (.d yL g)::(.c (.d yI h)::(zd 50 (.c (.d .bool i)::(zd 8 []))))))))),(zo 66 [])⟩) fun st => eC R pol_Z109 N [1,1,0,1,0,0,1,0,0,1,1,1,0,0,0,1] F_Z109 st (kS R pol_Z109 12 N [1,1,0,1,0,0,1,0,0,1,1,1,0,0,1] F_Z109 (kL R pol_Z109 10 N [1,1,0,1,0,0,1,0,0,1,1,1,0,0] F_Z109 b (kB R pol_Z109 2 (kB R pol_Z109 1 (q0_0 R N (q0_8 R N a (kB R pol_Z109 0 (q0_1 R N (kTop E sg_Z109 F_Z109)))))))))
noncomputable def Z109.l2 (R:Run) (N a n:Nat) (b:(vK × Unit)) (e:Int) (f:(List Int)) (g:Int):Option Dv := R.w (some ⟨(.c (.ip (.cons yK .nil) b 0)::(V.dead::(V.dead::(.c (.d yI e)::(.c (.d yL f)::(.c (.d yI g)::(zd 59 []))))))),(zo 66 [])⟩) fun st => lC R pol_Z109 10 N [1,1,0,1,0,0,1,0,0,1,1,1,0,0] F_Z109 n st (kB R pol_Z109 2 (kB R pol_Z109 1 (q0_0 R N (q0_8 R N a (kB R pol_Z109 0 (q0_1 R N (kTop E sg_Z109 F_Z109)))))))
noncomputable def Z109.j1 (R:Run) (N a:Nat) (b:(vK × Unit)) (e:Int) (f:(List Int)) (g:Bool):Option Dv := R.w (some ⟨(.c (.ip (.cons yK .nil) b 0)::(V.dead::(V.dead::(.c (.d yI e)::(.c (.d yL f)::(zd 42 (.c (.d .bool g)::(zd 17 [])))))))),(zo 66 [])⟩) fun st => eC R pol_Z109 N [1,1,0,1,0,0,1,0,0,1,0,1] F_Z109 st (kS R pol_Z109 9 N [1,1,0,1,0,0,1,0,0,1,1] F_Z109 (kB R pol_Z109 1 (q0_0 R N (q0_8 R N a (kB R pol_Z109 0 (q0_1 R N (kTop E sg_Z109 F_Z109)))))))
noncomputable def Z109.l0 (R:Run) (N n:Nat) (a:(vK × Unit)) (b:Int):Option Dv := R.w (some ⟨(.c (.ip (.cons yK .nil) a 0)::(V.dead::(V.dead::(.c (.d yI b)::(zd 61 []))))),(zo 66 [])⟩) fun st => lC R pol_Z109 4 N [1,1,0,1,0,0] F_Z109 n st (kB R pol_Z109 0 (q0_1 R N (kTop E sg_Z109 F_Z109)))
theorem Z109.j3_eq (R:Run) (hw:R.ok) (N a b:Nat) (c:(vK × Unit)) (d:Int) (e:(List Int)) (f:Int) (g:Bool):Z109.j3 R N a b c d e f g = (bif g then ((callT R n_Z105 o_Z105 [⟨yL,e⟩,⟨yI,f⟩]).bind fun r18 => ((callT R n_Z107 o_Z107 [⟨(.ptr (.cons yK .nil)),c⟩,⟨yL,r18.1⟩]).bind fun r19 => (bif (decide (r19.1 < (0:Int))) then some ⟨o_Z109,(false,())⟩ else (Z109.l2 R N a b c d e (w64 (f + (1:Int))))))) else (Z109.l0 R N a c (w64 (d + (1:Int))))) := (hw _ _).trans (by kernel_rfl)
theorem Z109.l2_succ (R:Run) (hw:R.ok) (N a n:Nat) (b:(vK × Unit)) (c:Int) (d:(List Int)) (e:Int):Z109.l2 R N a (n + 1) b c d e = (bif (decide (e < (List.length d:Int))) then (Z109.j3 R N a n b c d e (decide ((List.length d:Int) > (1:Int)))) else (Z109.j3 R N a n b c d e false)) := (hw _ _).trans (by kernel_rfl)
theorem Z109.j1_eq (R:Run) (hw:R.ok) (N a:Nat) (b:(vK × Unit)) (c:Int) (d:(List Int)) (e:Bool):Z109.j1 R N a b c d e = (bif e then some ⟨o_Z109,(false,())⟩ else (Z109.l2 R N a N b c d (0:Int))) := (hw _ _).trans (by kernel_rfl)
theorem Z109.l0_succ (R:Run) (hw:R.ok) (N n:Nat) (a:(vK × Unit)) (b:Int):Z109.l0 R N (n + 1) a b = (bif (decide (b < (List.length a.1:Int))) then ((idx? a.1 b).bind fun y3 => ((callT R n_Z110 o_Z110 [⟨yL,(y3,()).1⟩]).bind fun r4 => (bif (!r4.1) then (Z109.j1 R N n a b ((y3,()).1) true) else (bif (decide (b > (0:Int))) then ((idx? a.1 (w64 (b - (1:Int)))).bind fun y31 => ((callT R n_Z103 o_Z103 [⟨yL,(y31,()).1⟩,⟨yL,(y3,()).1⟩]).bind fun r32 => (Z109.j1 R N n a b ((y3,()).1) (!r32.1)))) else (Z109.j1 R N n a b ((y3,()).1) false))))) else some ⟨o_Z109,(true,())⟩) := (hw _ _).trans (by kernel_rfl)
theorem Z109.ev (R:Run) (N:Nat) (a0:(vK × Unit)):evFn E R sg_Z109 pol_Z109 F_Z109 N [⟨(.ptr (.cons yK .nil)),a0⟩] = (bif (decide ((List.length a0.1:Int) > (48:Int))) then some ⟨o_Z109,(false,())⟩ else (Z109.l0 R N N a0 (0:Int))) := by kernel_rfl
noncomputable def Z95.l0 (R:Run) (N n:Nat) (a b:Int):Option Dv := R.w (some ⟨(.c (.d yI a)::(V.dead::(V.dead::(.c (.d yI b)::(zd 14 []))))),(zo 19 [])⟩) fun st => lC R pol_Z95 4 N [1,1,0,1,0,0] F_Z95 n st (kB R pol_Z95 0 (kS R pol_Z95 8 N [1,1,1] F_Z95 (kTop E sg_Z95 F_Z95)))
theorem Z95.l0_succ (R:Run) (hw:R.ok) (N n:Nat) (a b:Int):Z95.l0 R N (n + 1) a b = (bif (decide ((w64 (b * b)) ≤ a)) then ((chk (b != 0)).bind fun _ => (bif ((Int.tmod a b) == (0:Int)) then some ⟨o_Z95,(false,())⟩ else (Z95.l0 R N n a (w64 (b + (1:Int)))))) else some ⟨o_Z95,(true,())⟩) := (hw _ _).trans (by kernel_rfl)
theorem Z95.ev (R:Run) (N:Nat) (a0:Int):evFn E R sg_Z95 pol_Z95 F_Z95 N [⟨yI,a0⟩] = ((callT R n_Z91 o_Z91 [⟨yI,a0⟩,⟨yI,(2:Int)⟩,⟨yI,(251:Int)⟩]).bind fun r1 => (bif (!r1.1) then some ⟨o_Z95,(false,())⟩ else (Z95.l0 R N N a0 (2:Int)))) := by kernel_rfl
theorem Z89.ev (R:Run) (N:Nat) (a0:Int):evFn E R sg_Z89 pol_Z89 F_Z89 N [⟨yI,a0⟩] = ((callT R n_Z95 o_Z95 [⟨yI,a0⟩]).bind fun r1 => some ⟨o_Z89,(r1.1,())⟩) := by kernel_rfl
theorem Z104.ev (R:Run) (N:Nat) (a0:Int):evFn E R sg_Z104 pol_Z104 F_Z104 N [⟨yI,a0⟩] = ((callT R n_Z91 o_Z91 [⟨yI,a0⟩,⟨yI,(0:Int)⟩,⟨yI,(3:Int)⟩]).bind fun r1 => some ⟨o_Z104,(r1.1,())⟩) := by kernel_rfl
noncomputable def Z108.l0 (R:Run) (N n:Nat) (a:(vK × Unit)) (b e:Int) (f:(List Int)):Option Dv := R.w (some ⟨(.c (.ip (.cons yK .nil) a 0)::(.c (.d yI b)::(zd 3 (.c (.arr 7)::(.c (.d yI e)::(zd 26 [])))))),(zo 7 (some (.arr yI f true false false)::(zo 27 [])))⟩) fun st => lC R pol_Z108 3 N [1,1,0,1,0,0] F_Z108 n st (kB R pol_Z108 0 (kS R pol_Z108 7 N [1,1,1] F_Z108 (kTop E sg_Z108 F_Z108)))
theorem Z108.l0_succ (R:Run) (hw:R.ok) (N n:Nat) (a:(vK × Unit)) (b c:Int) (d:(List Int)):Z108.l0 R N (n + 1) a b c d = (bif (decide (c < (List.length a.1:Int))) then ((idx? a.1 c).bind fun y5 => (bif ((List.length (y5,()).1:Int) == (w64 (b + (1:Int)))) then ((chk (decide ((List.length d + List.length [c]) * 8 ≤ 70368744177664))).bind fun _ => (Z108.l0 R N n a b (w64 (c + (1:Int))) (d ++ [c]))) else (Z108.l0 R N n a b (w64 (c + (1:Int))) d))) else some ⟨o_Z108,(d,())⟩) := (hw _ _).trans (by kernel_rfl)
theorem Z108.ev (R:Run) (N:Nat) (a0:(vK × Unit)) (a1:Int):evFn E R sg_Z108 pol_Z108 F_Z108 N [⟨(.ptr (.cons yK .nil)),a0⟩,⟨yI,a1⟩] = (Z108.l0 R N N a0 a1 (0:Int) ([]:List Int)) := by kernel_rfl
noncomputable def Z111.j1 (R:Run) (N:Nat) (a:Bool):Option Dv := R.w (some ⟨(zd 38 (.c (.d .bool a)::[])),(zo 42 [])⟩) fun st => eC R pol_Z111 N [1,1,1,0,1] F_Z111 st (kS R pol_Z111 7 N [1,1,1,1] F_Z111 (kTop E sg_Z111 F_Z111))
noncomputable def Z111.j0 (R:Run) (N:Nat) (a:(vK × Unit)) (b:Int) (e:Bool):Option Dv := R.w (some ⟨(.c (.ip (.cons yK .nil) a 0)::(.c (.d yI b)::(zd 12 (.c (.d .bool e)::(zd 24 []))))),(zo 42 [])⟩) fun st => eC R pol_Z111 N [1,0,1] F_Z111 st (kS R pol_Z111 3 N [1,1] F_Z111 (kTop E sg_Z111 F_Z111))
theorem Z111.j1_eq (R:Run) (hw:R.ok) (N:Nat) (a:Bool):Z111.j1 R N a = (bif a then some ⟨o_Z111,((5:Int),())⟩ else some ⟨o_Z111,((0:Int),())⟩) := (hw _ _).trans (by kernel_rfl)
theorem Z111.j0_eq (R:Run) (hw:R.ok) (N:Nat) (a:(vK × Unit)) (b:Int) (c:Bool):Z111.j0 R N a b c = (bif c then some ⟨o_Z111,((1:Int),())⟩ else ((callT R n_Z104 o_Z104 [⟨yI,b⟩]).bind fun r5 => (bif (!r5.1) then some ⟨o_Z111,((2:Int),())⟩ else ((callT R n_Z108 o_Z108 [⟨(.ptr (.cons yK .nil)),a⟩,⟨yI,b⟩]).bind fun r6 => (bif (decide ((List.length r6.1:Int) > (32:Int))) then (Z111.j1 R N true) else ((callT R n_Z108 o_Z108 [⟨(.ptr (.cons yK .nil)),a⟩,⟨yI,(w64 (b - (1:Int)))⟩]).bind fun r8 => (bif (decide ((List.length r8.1:Int) > (32:Int))) then (Z111.j1 R N true) else ((callT R n_Z108 o_Z108 [⟨(.ptr (.cons yK .nil)),a⟩,⟨yI,(w64 (b + (1:Int)))⟩]).bind fun r10 => (Z111.j1 R N (decide ((List.length r10.1:Int) > (32:Int)))))))))))) := (hw _ _).trans (by kernel_rfl)
theorem Z111.ev (R:Run) (N:Nat) (a0:(vK × Unit)) (a1 a2:Int):evFn E R sg_Z111 pol_Z111 F_Z111 N [⟨(.ptr (.cons yK .nil)),a0⟩,⟨yI,a1⟩,⟨yI,a2⟩] = ((callT R n_Z109 o_Z109 [⟨(.ptr (.cons yK .nil)),a0⟩]).bind fun r1 => (bif (!r1.1) then (Z111.j0 R N a0 a1 true) else ((callT R n_Z89 o_Z89 [⟨yI,a2⟩]).bind fun r12 => (Z111.j0 R N a0 a1 (!r12.1))))) := by kernel_rfl
theorem Z102.ev (R:Run) (N:Nat) (a0 a1 a2:Int):evFn E R sg_Z102 pol_Z102 F_Z102 N [⟨yI,a0⟩,⟨yI,a1⟩,⟨yI,a2⟩] = ((chk (decide (0 ≤ (w64 (a1 * a2))) && decide ((w64 (a1 * a2)) * 8 ≤ 70368744177664))).bind fun _ => some ⟨o_Z102,(a0,a1,a2,(List.replicate (Int.toNat (w64 (a1 * a2))) (0:Int)),())⟩) := by kernel_rfl
noncomputable def Z106.j1 (R:Run) (N a:Nat) (b:(vK × Unit)) (e:(List Int)) (f:Int) (g:Bool) (h:(List Int)):Option Dv := R.w (some ⟨(.c (.ip (.cons yK .nil) b 0)::(zd 4 (.c (.d yL e)::(.c (.arr 15)::(.c (.d yI f)::(zd 16 (.c (.d .bool g)::(zd 11 [])))))))),(zo 15 (some (.arr yI h true false false)::(zo 22 [])))⟩) fun st => eC R pol_Z106 N [1,1,1,0,1,0,0,0,1] F_Z106 st (kS R pol_Z106 6 N [1,1,1,0,1,0,0,1] F_Z106 (kL R pol_Z106 4 N [1,1,1,0,1,0,0] F_Z106 a (kB R pol_Z106 0 (kS R pol_Z106 7 N [1,1,1,1] F_Z106 (kTop E sg_Z106 F_Z106)))))
noncomputable def Z106.l0 (R:Run) (N n:Nat) (a:(vK × Unit)) (b:(List Int)) (e:Int) (f:(List Int)):Option Dv := R.w (some ⟨(.c (.ip (.cons yK .nil) a 0)::(zd 4 (.c (.d yL b)::(.c (.arr 15)::(.c (.d yI e)::(zd 28 [])))))),(zo 15 (some (.arr yI f true false false)::(zo 22 [])))⟩) fun st => lC R pol_Z106 4 N [1,1,1,0,1,0,0] F_Z106 n st (kB R pol_Z106 0 (kS R pol_Z106 7 N [1,1,1,1] F_Z106 (kTop E sg_Z106 F_Z106)))
theorem Z106.j1_eq (R:Run) (hw:R.ok) (N a:Nat) (b:(vK × Unit)) (c:(List Int)) (d:Int) (e:Bool) (f:(List Int)):Z106.j1 R N a b c d e f = (bif e then ((callT R n_Z105 o_Z105 [⟨yL,c⟩,⟨yI,d⟩]).bind fun r11 => ((callT R n_Z107 o_Z107 [⟨(.ptr (.cons yK .nil)),b⟩,⟨yL,r11.1⟩]).bind fun r12 => ((chk (decide ((List.length f + List.length [r12.1]) * 8 ≤ 70368744177664))).bind fun _ => (Z106.l0 R N a b c (w64 (d + (1:Int))) (f ++ [r12.1]))))) else some ⟨o_Z106,(f,())⟩) := (hw _ _).trans (by kernel_rfl)
theorem Z106.l0_succ (R:Run) (hw:R.ok) (N n:Nat) (a:(vK × Unit)) (b:(List Int)) (c:Int) (d:(List Int)):Z106.l0 R N (n + 1) a b c d = (bif (decide (c < (List.length b:Int))) then (Z106.j1 R N n a b c (decide ((List.length b:Int) > (1:Int))) d) else (Z106.j1 R N n a b c false d)) := (hw _ _).trans (by kernel_rfl)
theorem Z106.ev (R:Run) (N:Nat) (a0:(vK × Unit)) (a1:Int):evFn E R sg_Z106 pol_Z106 F_Z106 N [⟨(.ptr (.cons yK .nil)),a0⟩,⟨yI,a1⟩] = ((idx? a0.1 a1).bind fun y1 => (Z106.l0 R N N a0 ((y1,()).1) (0:Int) ([]:List Int))) := by kernel_rfl
theorem Z115.ev (R:Run) (N:Nat) (a0 a1:Int):evFn E R sg_Z115 pol_Z115 F_Z115 N [⟨yI,a0⟩,⟨yI,a1⟩] = (bif ((Int.tmod a0 (2:Int)) == (0:Int)) then ((chk (a1 != 0)).bind fun _ => some ⟨o_Z115,((Int.tmod (1:Int) a1),())⟩) else some ⟨o_Z115,((w64 (a1 - (1:Int))),())⟩) := by kernel_rfl
noncomputable def Z113.l2 (R:Run) (N a n:Nat) (b:(vK × Unit)) (e f:Int) (g h:(List Int)) (i:Int) (j:(List Int)) (k l m o p q r:Int) (s:(List Int)):Option Dv := R.w (some ⟨(.c (.ip (.cons yK .nil) b 0)::(.c (.d yI e)::(.c (.d yI f)::(zd 3 (.c (.box 6 0)::(.c (.d yL g)::(.c (.d yL h)::(.c (.box 9 0)::(.c (.d yI i)::(.c (.d yL j)::(.c (.d yI k)::(zd 55 [])))))))))))),(zo 6 (some (.box [.d yI l,.d yI m,.d yI o,.nils yI] false false)::(none::(none::(some (.box [.d yI p,.d yI q,.d yI r,.arr 71] false false)::(zo 61 (some (.arr yI s true false false)::[])))))))⟩) fun st => lC R pol_Z113 9 N [1,1,1,1,0,1,0,0,1,0,0,1,1,0,0] F_Z113 n st (kB R pol_Z113 2 (kB R pol_Z113 1 (kS R pol_Z113 6 N [1,1,1,1,0,1,0,0,1,1] F_Z113 (kL R pol_Z113 5 N [1,1,1,1,0,1,0,0] F_Z113 a (kB R pol_Z113 0 (q0_2 R N (kTop E sg_Z113 F_Z113)))))))
noncomputable def Z113.j1 (R:Run) (N a:Nat) (b:(vK × Unit)) (e f:Int) (g h:(List Int)) (i:Int) (j:Bool) (k l m o p q:Int) (r:(List Int)):Option Dv := R.w (some ⟨(.c (.ip (.cons yK .nil) b 0)::(.c (.d yI e)::(.c (.d yI f)::(zd 3 (.c (.box 6 0)::(.c (.d yL g)::(.c (.d yL h)::(.c (.box 9 0)::(.c (.d yI i)::(zd 22 (.c (.d .bool j)::(zd 34 [])))))))))))),(zo 6 (some (.box [.d yI k,.d yI l,.d yI m,.nils yI] false false)::(none::(none::(some (.box [.d yI o,.d yI p,.d yI q,.arr 71] false false)::(zo 61 (some (.arr yI r true false false)::[])))))))⟩) fun st => eC R pol_Z113 N [1,1,1,1,0,1,0,0,0,1] F_Z113 st (kS R pol_Z113 7 N [1,1,1,1,0,1,0,0,1] F_Z113 (kL R pol_Z113 5 N [1,1,1,1,0,1,0,0] F_Z113 a (kB R pol_Z113 0 (q0_2 R N (kTop E sg_Z113 F_Z113)))))
noncomputable def Z113.l0 (R:Run) (N n:Nat) (a:(vK × Unit)) (b e:Int) (f g:(List Int)) (h i j k l m o:Int) (p:(List Int)):Option Dv := R.w (some ⟨(.c (.ip (.cons yK .nil) a 0)::(.c (.d yI b)::(.c (.d yI e)::(zd 3 (.c (.box 6 0)::(.c (.d yL f)::(.c (.d yL g)::(.c (.box 9 0)::(.c (.d yI h)::(zd 57 [])))))))))),(zo 6 (some (.box [.d yI i,.d yI j,.d yI k,.nils yI] false false)::(none::(none::(some (.box [.d yI l,.d yI m,.d yI o,.arr 71] false false)::(zo 61 (some (.arr yI p true false false)::[])))))))⟩) fun st => lC R pol_Z113 5 N [1,1,1,1,0,1,0,0] F_Z113 n st (kB R pol_Z113 0 (q0_2 R N (kTop E sg_Z113 F_Z113)))
theorem Z113.l2_succ (R:Run) (hw:R.ok) (N a n:Nat) (b:(vK × Unit)) (c d:Int) (e f:(List Int)) (g:Int) (h:(List Int)) (i j k l m o p:Int) (q:(List Int)):Z113.l2 R N a (n + 1) b c d e f g h i j k l m o p q = (bif (decide (i < (List.length h:Int))) then ((idx? h i).bind fun y48 => ((idx? f (0:Int)).bind fun y49 => ((callT R n_Z115 o_Z115 [⟨yI,i⟩,⟨yI,d⟩]).bind fun r50 => ((chk (decide (0 ≤ (w64 ((w64 ((w64 ((y48,()).1 - (y49,()).1)) * p)) + g))) && decide ((w64 ((w64 ((w64 ((y48,()).1 - (y49,()).1)) * p)) + g)) < (List.length q:Int)))).bind fun _ => (Z113.l2 R N a n b c d e f g h (w64 (i + (1:Int))) j k l m o p (List.set q (Int.toNat (w64 ((w64 ((w64 ((y48,()).1 - (y49,()).1)) * p)) + g))) r50.1)))))) else (Z113.l0 R N a b c d e f (w64 (g + (1:Int))) j k l m o p q)) := (hw _ _).trans (by kernel_rfl)
theorem Z113.j1_eq (R:Run) (hw:R.ok) (N a:Nat) (b:(vK × Unit)) (c d:Int) (e f:(List Int)) (g:Int) (h:Bool) (i j k l m o:Int) (p:(List Int)):Z113.j1 R N a b c d e f g h i j k l m o p = (bif h then ((idx? e g).bind fun y31 => ((callT R n_Z106 o_Z106 [⟨(.ptr (.cons yK .nil)),b⟩,⟨yI,(y31,()).1⟩]).bind fun r32 => (Z113.l2 R N a N b c d e f g r32.1 (0:Int) i j k l m o p))) else some ⟨o_Z113,(l,m,o,p,())⟩) := (hw _ _).trans (by kernel_rfl)
theorem Z113.l0_succ (R:Run) (hw:R.ok) (N n:Nat) (a:(vK × Unit)) (b c:Int) (d e:(List Int)) (f g h i j k l:Int) (m:(List Int)):Z113.l0 R N (n + 1) a b c d e f g h i j k l m = (bif (decide (f < (List.length d:Int))) then (Z113.j1 R N n a b c d e f (decide (b > (0:Int))) g h i j k l m) else (Z113.j1 R N n a b c d e f false g h i j k l m)) := (hw _ _).trans (by kernel_rfl)
theorem Z113.ev (R:Run) (N:Nat) (a0:(vK × Unit)) (a1 a2:Int):evFn E R sg_Z113 pol_Z113 F_Z113 N [⟨(.ptr (.cons yK .nil)),a0⟩,⟨yI,a1⟩,⟨yI,a2⟩] = ((callT R n_Z108 o_Z108 [⟨(.ptr (.cons yK .nil)),a0⟩,⟨yI,a1⟩]).bind fun r1 => ((callT R n_Z108 o_Z108 [⟨(.ptr (.cons yK .nil)),a0⟩,⟨yI,(w64 (a1 - (1:Int)))⟩]).bind fun r2 => ((callT R n_Z102 o_Z102 [⟨yI,a2⟩,⟨yI,(List.length r2.1:Int)⟩,⟨yI,(List.length r1.1:Int)⟩]).bind fun r3 => (Z113.l0 R N N a0 a1 a2 r1.1 r2.1 (0:Int) (0:Int) (0:Int) (0:Int) r3.1 r3.2.1 r3.2.2.1 r3.2.2.2.1)))) := by kernel_rfl
noncomputable def Z96.l0 (R:Run) (N n:Nat) (a b e f:Int):Option Dv := R.w (some ⟨(.c (.d yI a)::(.c (.d yI b)::(zd 3 (.c (.d yI e)::(.c (.d yI f)::(zd 12 [])))))),(zo 21 [])⟩) fun st => lC R pol_Z96 3 N [1,1,0,1,0,0] F_Z96 n st (kB R pol_Z96 0 (kS R pol_Z96 6 N [1,1,1] F_Z96 (kTop E sg_Z96 F_Z96)))
theorem Z96.l0_succ (R:Run) (hw:R.ok) (N n:Nat) (a b c d:Int):Z96.l0 R N (n + 1) a b c d = (bif (decide (d > (0:Int))) then ((chk (b != 0)).bind fun _ => (Z96.l0 R N n a b (Int.tmod (w64 (c * a)) b) (w64 (d - (1:Int))))) else some ⟨o_Z96,(c,())⟩) := (hw _ _).trans (by kernel_rfl)
theorem Z96.ev (R:Run) (N:Nat) (a0 a1:Int):evFn E R sg_Z96 pol_Z96 F_Z96 N [⟨yI,a0⟩,⟨yI,a1⟩] = (Z96.l0 R N N a0 a1 (1:Int) (w64 (a1 - (2:Int)))) := by kernel_rfl
theorem Z99.ev (R:Run) (N:Nat) (a0 a1:Int):evFn E R sg_Z99 pol_Z99 F_Z99 N [⟨yI,a0⟩,⟨yI,a1⟩] = ((chk (a1 != 0)).bind fun _ => ((chk (a1 != 0)).bind fun _ => some ⟨o_Z99,((Int.tmod (w64 ((Int.tmod a0 a1) + a1)) a1),())⟩)) := by kernel_rfl
noncomputable def Z100.l10 (R:Run) (N a b n:Nat) (e:vM) (f g h i j k l m o p q r s t:Int) (u v:(List Int)):Option Dv := R.w (some ⟨(.c (.ip yM e 0)::(V.dead::(.c (.box 2 0)::(V.dead::(V.dead::(.c (.box 5 0)::(.c (.d yI f)::(.c (.d yI g)::(.c (.arr 47)::(.c (.d yI h)::(.c (.d yI i)::(.c (.d yI j)::(zd 6 (.c (.d yI k)::(.c (.d yI l)::(.c (.d yI m)::(zd 225 []))))))))))))))))),(none::(none::(some (.box [.d yI o,.d yI p,.d yI q,.nils yI] false false)::(none::(none::(some (.box [.d yI r,.d yI s,.d yI t,.arr 247] false false)::(zo 41 (some (.arr yI u true false false)::(zo 199 (some (.arr yI v true false false)::[]))))))))))⟩) fun st => lC R pol_Z100 35 N [1,1,1,1,1,1,1,0,1,0,0,1,0,0,1,1,1,1,1,1,1,1,0,1,0,0,1,0,0,1,1,1,0,0] F_Z100 n st (kB R pol_Z100 10 (kB R pol_Z100 9 (q0_3 R N (q0_9 R N b (kB R pol_Z100 8 (q0_4 R N (q0_11 R (q0_5 R N (q0_10 R N a (q0_12 R (q0_6 R N (kTop E sg_Z100 F_Z100))))))))))))
noncomputable def Z100.j9 (R:Run) (N a b:Nat) (e:vM) (f g h i j k l:Int) (m:Bool) (o p q r s t:Int) (u v:(List Int)):Option Dv := R.w (some ⟨(.c (.ip yM e 0)::(V.dead::(.c (.box 2 0)::(V.dead::(V.dead::(.c (.box 5 0)::(.c (.d yI f)::(.c (.d yI g)::(.c (.arr 47)::(.c (.d yI h)::(.c (.d yI i)::(.c (.d yI j)::(zd 6 (.c (.d yI k)::(.c (.d yI l)::(zd 180 (.c (.d .bool m)::(zd 45 [])))))))))))))))))),(none::(none::(some (.box [.d yI o,.d yI p,.d yI q,.nils yI] false false)::(none::(none::(some (.box [.d yI r,.d yI s,.d yI t,.arr 247] false false)::(zo 41 (some (.arr yI u true false false)::(zo 199 (some (.arr yI v true false false)::[]))))))))))⟩) fun st => eC R pol_Z100 N [1,1,1,1,1,1,1,0,1,0,0,1,0,0,1,1,1,1,1,1,1,1,0,1,0,0,1,0,0,1,0,1] F_Z100 st (kS R pol_Z100 34 N [1,1,1,1,1,1,1,0,1,0,0,1,0,0,1,1,1,1,1,1,1,1,0,1,0,0,1,0,0,1,1] F_Z100 (kB R pol_Z100 9 (q0_3 R N (q0_9 R N b (kB R pol_Z100 8 (q0_4 R N (q0_11 R (q0_5 R N (q0_10 R N a (q0_12 R (q0_6 R N (kTop E sg_Z100 F_Z100))))))))))))
noncomputable def Z100.l8 (R:Run) (N a n:Nat) (b:vM) (e f g h i j k l m o p q:Int) (r s:(List Int)):Option Dv := R.w (some ⟨(.c (.ip yM b 0)::(V.dead::(.c (.box 2 0)::(V.dead::(V.dead::(.c (.box 5 0)::(.c (.d yI e)::(.c (.d yI f)::(.c (.arr 47)::(.c (.d yI g)::(.c (.d yI h)::(.c (.d yI i)::(zd 6 (.c (.d yI j)::(zd 227 []))))))))))))))),(none::(none::(some (.box [.d yI k,.d yI l,.d yI m,.nils yI] false false)::(none::(none::(some (.box [.d yI o,.d yI p,.d yI q,.arr 247] false false)::(zo 41 (some (.arr yI r true false false)::(zo 199 (some (.arr yI s true false false)::[]))))))))))⟩) fun st => lC R pol_Z100 30 N [1,1,1,1,1,1,1,0,1,0,0,1,0,0,1,1,1,1,1,1,1,1,0,1,0,0] F_Z100 n st (kB R pol_Z100 8 (q0_4 R N (q0_11 R (q0_5 R N (q0_10 R N a (q0_12 R (q0_6 R N (kTop E sg_Z100 F_Z100))))))))
noncomputable def Z100.l7 (R:Run) (N a n:Nat) (b:vM) (e f g h i j k l m o p q r:Int) (s t:(List Int)):Option Dv := R.w (some ⟨(.c (.ip yM b 0)::(V.dead::(.c (.box 2 0)::(V.dead::(V.dead::(.c (.box 5 0)::(.c (.d yI e)::(.c (.d yI f)::(.c (.arr 47)::(.c (.d yI g)::(.c (.d yI h)::(.c (.d yI i)::(zd 4 (.c (.d yI j)::(.c (.d yI k)::(zd 228 [])))))))))))))))),(none::(none::(some (.box [.d yI l,.d yI m,.d yI o,.nils yI] false false)::(none::(none::(some (.box [.d yI p,.d yI q,.d yI r,.arr 247] false false)::(zo 41 (some (.arr yI s true false false)::(zo 199 (some (.arr yI t true false false)::[]))))))))))⟩) fun st => lC R pol_Z100 26 N [1,1,1,1,1,1,1,0,1,0,0,1,0,0,1,1,1,1,1,1,1,0,1,0,0] F_Z100 n st (kB R pol_Z100 6 (kS R pol_Z100 29 N [1,1,1,1,1,1,1,0,1,0,0,1,0,0,1,1,1,1,1,1,1,1] F_Z100 (q0_11 R (q0_5 R N (q0_10 R N a (q0_12 R (q0_6 R N (kTop E sg_Z100 F_Z100))))))))
noncomputable def Z100.j6 (R:Run) (N a:Nat) (b:vM) (e f g h i j k l m o p:Int) (q r:(List Int)):Option Dv := R.w (some ⟨(.c (.ip yM b 0)::(V.dead::(.c (.box 2 0)::(V.dead::(V.dead::(.c (.box 5 0)::(.c (.d yI e)::(.c (.d yI f)::(.c (.arr 47)::(.c (.d yI g)::(.c (.d yI h)::(.c (.d yI i)::(zd 234 []))))))))))))),(none::(none::(some (.box [.d yI j,.d yI k,.d yI l,.nils yI] false false)::(none::(none::(some (.box [.d yI m,.d yI o,.d yI p,.arr 247] false false)::(zo 41 (some (.arr yI q true false false)::(zo 199 (some (.arr yI r true false false)::[]))))))))))⟩) fun st => eC R pol_Z100 N [1,1,1,1,1,1,1,0,1,0,0,1,0,0,1,1,1,1] F_Z100 st (q0_11 R (q0_5 R N (q0_10 R N a (q0_12 R (q0_6 R N (kTop E sg_Z100 F_Z100))))))
noncomputable def Z100.l5 (R:Run) (N a n:Nat) (b:vM) (e f g h i j k l m o p q r:Int) (s t:(List Int)):Option Dv := R.w (some ⟨(.c (.ip yM b 0)::(V.dead::(.c (.box 2 0)::(V.dead::(V.dead::(.c (.box 5 0)::(.c (.d yI e)::(.c (.d yI f)::(.c (.arr 47)::(.c (.d yI g)::(.c (.d yI h)::(.c (.d yI i)::(.c (.d yI j)::(.c (.d yI k)::(zd 232 []))))))))))))))),(none::(none::(some (.box [.d yI l,.d yI m,.d yI o,.nils yI] false false)::(none::(none::(some (.box [.d yI p,.d yI q,.d yI r,.arr 247] false false)::(zo 41 (some (.arr yI s true false false)::(zo 199 (some (.arr yI t true false false)::[]))))))))))⟩) fun st => lC R pol_Z100 17 N [1,1,1,1,1,1,1,0,1,0,0,1,0,0,1,1,1,0,1,0,1,1,0,0] F_Z100 n st (kB R pol_Z100 4 (kS R pol_Z100 22 N [1,1,1,1,1,1,1,0,1,0,0,1,0,0,1,1,1,1] F_Z100 (q0_11 R (q0_5 R N (q0_10 R N a (q0_12 R (q0_6 R N (kTop E sg_Z100 F_Z100))))))))
noncomputable def Z100.j4 (R:Run) (N a b:Nat) (e:vM) (f g h i j k:Int) (l:Bool) (m o p q r s:Int) (t u:(List Int)):Option Dv := R.w (some ⟨(.c (.ip yM e 0)::(V.dead::(.c (.box 2 0)::(V.dead::(V.dead::(.c (.box 5 0)::(.c (.d yI f)::(.c (.d yI g)::(.c (.arr 47)::(.c (.d yI h)::(.c (.d yI i)::(.c (.d yI j)::(.c (.d yI k)::(zd 66 (.c (.d .bool l)::(zd 166 [])))))))))))))))),(none::(none::(some (.box [.d yI m,.d yI o,.d yI p,.nils yI] false false)::(none::(none::(some (.box [.d yI q,.d yI r,.d yI s,.arr 247] false false)::(zo 41 (some (.arr yI t true false false)::(zo 199 (some (.arr yI u true false false)::[]))))))))))⟩) fun st => eC R pol_Z100 N [1,1,1,1,1,1,1,0,1,0,0,1,0,0,1,0,0,0,0,1] F_Z100 st (kS R pol_Z100 12 N [1,1,1,1,1,1,1,0,1,0,0,1,0,0,1,0,0,0,1] F_Z100 (kL R pol_Z100 11 N [1,1,1,1,1,1,1,0,1,0,0,1,0,0,1,0,0,0] F_Z100 b (kB R pol_Z100 2 (q0_7 R N (q0_11 R (q0_5 R N (q0_10 R N a (q0_12 R (q0_6 R N (kTop E sg_Z100 F_Z100))))))))))
noncomputable def Z100.l3 (R:Run) (N a n:Nat) (b:vM) (e f g h i j k l m o p q:Int) (r s:(List Int)):Option Dv := R.w (some ⟨(.c (.ip yM b 0)::(V.dead::(.c (.box 2 0)::(V.dead::(V.dead::(.c (.box 5 0)::(.c (.d yI e)::(.c (.d yI f)::(.c (.arr 47)::(.c (.d yI g)::(.c (.d yI h)::(.c (.d yI i)::(.c (.d yI j)::(zd 233 [])))))))))))))),(none::(none::(some (.box [.d yI k,.d yI l,.d yI m,.nils yI] false false)::(none::(none::(some (.box [.d yI o,.d yI p,.d yI q,.arr 247] false false)::(zo 41 (some (.arr yI r true false false)::(zo 199 (some (.arr yI s true false false)::[]))))))))))⟩) fun st => lC R pol_Z100 11 N [1,1,1,1,1,1,1,0,1,0,0,1,0,0,1,0,0,0] F_Z100 n st (kB R pol_Z100 2 (q0_7 R N (q0_11 R (q0_5 R N (q0_10 R N a (q0_12 R (q0_6 R N (kTop E sg_Z100 F_Z100))))))))
noncomputable def Z100.j2 (R:Run) (N a:Nat) (b:vM) (e f g h i:Int) (j:Bool) (k l m o p q:Int) (r s:(List Int)):Option Dv := R.w (some ⟨(.c (.ip yM b 0)::(V.dead::(.c (.box 2 0)::(V.dead::(V.dead::(.c (.box 5 0)::(.c (.d yI e)::(.c (.d yI f)::(.c (.arr 47)::(.c (.d yI g)::(.c (.d yI h)::(.c (.d yI i)::(zd 46 (.c (.d .bool j)::(zd 187 []))))))))))))))),(none::(none::(some (.box [.d yI k,.d yI l,.d yI m,.nils yI] false false)::(none::(none::(some (.box [.d yI o,.d yI p,.d yI q,.arr 247] false false)::(zo 41 (some (.arr yI r true false false)::(zo 199 (some (.arr yI s true false false)::[]))))))))))⟩) fun st => eC R pol_Z100 N [1,1,1,1,1,1,1,0,1,0,0,0,1] F_Z100 st (kS R pol_Z100 10 N [1,1,1,1,1,1,1,0,1,0,0,1] F_Z100 (q0_10 R N a (q0_12 R (q0_6 R N (kTop E sg_Z100 F_Z100)))))
noncomputable def Z100.l1 (R:Run) (N n:Nat) (a:vM) (b e f g h i j k l m o:Int) (p q:(List Int)):Option Dv := R.w (some ⟨(.c (.ip yM a 0)::(V.dead::(.c (.box 2 0)::(V.dead::(V.dead::(.c (.box 5 0)::(.c (.d yI b)::(.c (.d yI e)::(.c (.arr 47)::(.c (.d yI f)::(.c (.d yI g)::(.c (.d yI h)::(zd 234 []))))))))))))),(none::(none::(some (.box [.d yI i,.d yI j,.d yI k,.nils yI] false false)::(none::(none::(some (.box [.d yI l,.d yI m,.d yI o,.arr 247] false false)::(zo 41 (some (.arr yI p true false false)::(zo 199 (some (.arr yI q true false false)::[]))))))))))⟩) fun st => lC R pol_Z100 8 N [1,1,1,1,1,1,1,0,1,0,0] F_Z100 n st (q0_12 R (q0_6 R N (kTop E sg_Z100 F_Z100)))
noncomputable def Z100.j0 (R:Run) (N:Nat) (a:vM) (b e f g h i:Int) (j:(List Int)):Option Dv := R.w (some ⟨(.c (.ip yM a 0)::(V.dead::(.c (.box 2 0)::(V.dead::(V.dead::(.c (.box 5 0)::(zd 240 []))))))),(none::(none::(some (.box [.d yI b,.d yI e,.d yI f,.nils yI] false false)::(none::(none::(some (.box [.d yI g,.d yI h,.d yI i,.arr 247] false false)::(zo 241 (some (.arr yI j true false false)::[]))))))))⟩) fun st => eC R pol_Z100 N [1,1] F_Z100 st (kTop E sg_Z100 F_Z100)
theorem Z100.l10_succ (R:Run) (hw:R.ok) (N a b n:Nat) (c:vM) (d e f g h i j k l m o p q r:Int) (s t:(List Int)):Z100.l10 R N a b (n + 1) c d e f g h i j k l m o p q r s t = (bif (decide (k < e)) then ((chk (decide (0 ≤ (w64 ((w64 (i * e)) + k))) && decide ((w64 ((w64 (i * e)) + k)) < (List.length t:Int)))).bind fun _ => (Option.bind (t)[(Int.toNat (w64 ((w64 (i * e)) + k)))]? fun y248 => ((chk (decide (0 ≤ (w64 ((w64 (g * e)) + k))) && decide ((w64 ((w64 (g * e)) + k)) < (List.length t:Int)))).bind fun _ => (Option.bind (t)[(Int.toNat (w64 ((w64 (g * e)) + k)))]? fun y249 => ((callT R n_Z99 o_Z99 [⟨yI,(w64 (y248 - (w64 (j * y249))))⟩,⟨yI,d⟩]).bind fun r250 => ((chk (decide (0 ≤ (w64 ((w64 (i * e)) + k))) && decide ((w64 ((w64 (i * e)) + k)) < (List.length t:Int)))).bind fun _ => (Z100.l10 R N a b n c d e f g h i j (w64 (k + (1:Int))) l m o p q r s (List.set t (Int.toNat (w64 ((w64 (i * e)) + k))) r250.1)))))))) else (Z100.l8 R N a b c d e f g h (w64 (i + (1:Int))) l m o p q r s t)) := (hw _ _).trans (by kernel_rfl)
theorem Z100.j9_eq (R:Run) (hw:R.ok) (N a b:Nat) (c:vM) (d e f g h i j:Int) (k:Bool) (l m o p q r:Int) (s t:(List Int)):Z100.j9 R N a b c d e f g h i j k l m o p q r s t = (bif k then (Z100.l8 R N a b c d e f g h (w64 (i + (1:Int))) l m o p q r s t) else (Z100.l10 R N a b N c d e f g h i j (0:Int) l m o p q r s t)) := (hw _ _).trans (by kernel_rfl)
theorem Z100.l8_succ (R:Run) (hw:R.ok) (N a n:Nat) (b:vM) (c d e f g h i j k l m o:Int) (p q:(List Int)):Z100.l8 R N a (n + 1) b c d e f g h i j k l m o p q = (bif (decide (h < b.2.1)) then ((chk (decide (0 ≤ (w64 ((w64 (h * d)) + g))) && decide ((w64 ((w64 (h * d)) + g)) < (List.length q:Int)))).bind fun _ => (Option.bind (q)[(Int.toNat (w64 ((w64 (h * d)) + g)))]? fun y198 => (bif (h == f) then (Z100.j9 R N a n b c d e f g h y198 true i j k l m o p q) else (Z100.j9 R N a n b c d e f g h y198 (y198 == (0:Int)) i j k l m o p q)))) else ((chk (decide ((List.length p + List.length [g]) * 8 ≤ 70368744177664))).bind fun _ => (Z100.l1 R N a b c d e (w64 (f + (1:Int))) (w64 (g + (1:Int))) i j k l m o (p ++ [g]) q))) := (hw _ _).trans (by kernel_rfl)
theorem Z100.l7_succ (R:Run) (hw:R.ok) (N a n:Nat) (b:vM) (c d e f g h i j k l m o p:Int) (q r:(List Int)):Z100.l7 R N a (n + 1) b c d e f g h i j k l m o p q r = (bif (decide (i < d)) then ((chk (decide (0 ≤ (w64 ((w64 (f * d)) + i))) && decide ((w64 ((w64 (f * d)) + i)) < (List.length r:Int)))).bind fun _ => (Option.bind (r)[(Int.toNat (w64 ((w64 (f * d)) + i)))]? fun y166 => ((chk (c != 0)).bind fun _ => ((chk (decide (0 ≤ (w64 ((w64 (f * d)) + i))) && decide ((w64 ((w64 (f * d)) + i)) < (List.length r:Int)))).bind fun _ => (Z100.l7 R N a n b c d e f g h (w64 (i + (1:Int))) j k l m o p q (List.set r (Int.toNat (w64 ((w64 (f * d)) + i))) (Int.tmod (w64 (y166 * h)) c))))))) else (Z100.l8 R N a N b c d e f g (0:Int) j k l m o p q r)) := (hw _ _).trans (by kernel_rfl)
theorem Z100.j6_eq (R:Run) (hw:R.ok) (N a:Nat) (b:vM) (c d e f g h i j k l m:Int) (o p:(List Int)):Z100.j6 R N a b c d e f g h i j k l m o p = ((chk (decide (0 ≤ (w64 ((w64 (f * d)) + g))) && decide ((w64 ((w64 (f * d)) + g)) < (List.length p:Int)))).bind fun _ => (Option.bind (p)[(Int.toNat (w64 ((w64 (f * d)) + g)))]? fun y148 => ((chk (c != 0)).bind fun _ => ((callT R n_Z96 o_Z96 [⟨yI,y148⟩,⟨yI,c⟩]).bind fun r149 => (Z100.l7 R N a N b c d (Int.tmod (w64 (e * y148)) c) f g r149.1 (0:Int) h i j k l m o p))))) := (hw _ _).trans (by kernel_rfl)
theorem Z100.l5_succ (R:Run) (hw:R.ok) (N a n:Nat) (b:vM) (c d e f g h i j k l m o p:Int) (q r:(List Int)):Z100.l5 R N a (n + 1) b c d e f g h i j k l m o p q r = (bif (decide (i < d)) then ((chk (decide (0 ≤ (w64 ((w64 (h * d)) + i))) && decide ((w64 ((w64 (h * d)) + i)) < (List.length r:Int)))).bind fun _ => (Option.bind (r)[(Int.toNat (w64 ((w64 (h * d)) + i)))]? fun y116 => ((chk (decide (0 ≤ (w64 ((w64 (f * d)) + i))) && decide ((w64 ((w64 (f * d)) + i)) < (List.length r:Int)))).bind fun _ => (Option.bind (r)[(Int.toNat (w64 ((w64 (f * d)) + i)))]? fun y117 => ((chk (decide (0 ≤ (w64 ((w64 (h * d)) + i))) && decide ((w64 ((w64 (h * d)) + i)) < (List.length r:Int)))).bind fun _ => ((chk (decide (0 ≤ (w64 ((w64 (f * d)) + i))) && decide ((w64 ((w64 (f * d)) + i)) < (List.length (List.set r (Int.toNat (w64 ((w64 (h * d)) + i))) y117):Int)))).bind fun _ => (Z100.l5 R N a n b c d e f g h (w64 (i + (1:Int))) j k l m o p q (List.set (List.set r (Int.toNat (w64 ((w64 (h * d)) + i))) y117) (Int.toNat (w64 ((w64 (f * d)) + i))) y116)))))))) else (Z100.j6 R N a b c d e f g j k l m o p q r)) := (hw _ _).trans (by kernel_rfl)
theorem Z100.j4_eq (R:Run) (hw:R.ok) (N a b:Nat) (c:vM) (d e f g h i:Int) (j:Bool) (k l m o p q:Int) (r s:(List Int)):Z100.j4 R N a b c d e f g h i j k l m o p q r s = (bif j then (Z100.l3 R N a b c d e f g h (w64 (i + (1:Int))) k l m o p q r s) else (bif (i == c.2.1) then (Z100.l1 R N a c d e f g (w64 (h + (1:Int))) k l m o p q r s) else (bif (i != g) then (Z100.l5 R N a N c d e (w64 (d - f)) g h i (0:Int) k l m o p q r s) else (Z100.j6 R N a c d e f g h k l m o p q r s)))) := (hw _ _).trans (by kernel_rfl)
theorem Z100.l3_succ (R:Run) (hw:R.ok) (N a n:Nat) (b:vM) (c d e f g h i j k l m o:Int) (p q:(List Int)):Z100.l3 R N a (n + 1) b c d e f g h i j k l m o p q = (bif (decide (h < b.2.1)) then ((chk (decide (0 ≤ (w64 ((w64 (h * d)) + g))) && decide ((w64 ((w64 (h * d)) + g)) < (List.length q:Int)))).bind fun _ => (Option.bind (q)[(Int.toNat (w64 ((w64 (h * d)) + g)))]? fun y54 => (Z100.j4 R N a n b c d e f g h (y54 == (0:Int)) i j k l m o p q))) else (Z100.j4 R N a n b c d e f g h false i j k l m o p q)) := (hw _ _).trans (by kernel_rfl)
theorem Z100.j2_eq (R:Run) (hw:R.ok) (N a:Nat) (b:vM) (c d e f g:Int) (h:Bool) (i j k l m o:Int) (p q:(List Int)):Z100.j2 R N a b c d e f g h i j k l m o p q = (bif h then (Z100.l3 R N a N b c d e f g f i j k l m o p q) else some ⟨o_Z100,(l,m,o,q,p,e,())⟩) := (hw _ _).trans (by kernel_rfl)
theorem Z100.l1_succ (R:Run) (hw:R.ok) (N n:Nat) (a:vM) (b c d e f g h i j k l:Int) (m o:(List Int)):Z100.l1 R N (n + 1) a b c d e f g h i j k l m o = (bif (decide (f < c)) then (Z100.j2 R N n a b c d e f (decide (e < a.2.1)) g h i j k l m o) else (Z100.j2 R N n a b c d e f false g h i j k l m o)) := (hw _ _).trans (by kernel_rfl)
theorem Z100.j0_eq (R:Run) (hw:R.ok) (N:Nat) (a:vM) (b c d e f g:Int) (h:(List Int)):Z100.j0 R N a b c d e f g h = (Z100.l1 R N N a a.1 a.2.2.1 (1:Int) (0:Int) (0:Int) b c d e f g ([]:List Int) h) := (hw _ _).trans (by kernel_rfl)
theorem Z100.ev (R:Run) (N:Nat) (a0:vM):evFn E R sg_Z100 pol_Z100 F_Z100 N [⟨(.ptr yM),a0⟩] = (both ((callT R n_Z92 o_Z92 [⟨yL,a0.2.2.2.1⟩]).bind fun r1 => (Z100.j0 R N a0 (0:Int) (0:Int) (0:Int) a0.1 a0.2.1 a0.2.2.1 r1.1)) ((callT R n_Z92 o_Z92 [⟨yL,a0.2.2.2.1⟩]).bind fun r359 => (Z100.j0 R N a0 (0:Int) (0:Int) (0:Int) a0.1 a0.2.1 a0.2.2.1 r359.1))) := by kernel_rfl
noncomputable def Z90.l0 (R:Run) (N n:Nat) (a:(List Int)) (b e:Int):Option Dv := R.w (some ⟨(.c (.d yL a)::(.c (.d yI b)::(zd 3 (.c (.d yI e)::(zd 12 []))))),(zo 20 [])⟩) fun st => lC R pol_Z90 2 N [1,0,1,0,0] F_Z90 n st (kB R pol_Z90 0 (kS R pol_Z90 6 N [1,1] F_Z90 (kTop E sg_Z90 F_Z90)))
theorem Z90.l0_succ (R:Run) (hw:R.ok) (N n:Nat) (a:(List Int)) (b c:Int):Z90.l0 R N (n + 1) a b c = (bif (decide (c < (List.length a:Int))) then ((idx? a c).bind fun y4 => (bif ((y4,()).1 == b) then some ⟨o_Z90,(true,())⟩ else (Z90.l0 R N n a b (w64 (c + (1:Int)))))) else some ⟨o_Z90,(false,())⟩) := (hw _ _).trans (by kernel_rfl)
theorem Z90.ev (R:Run) (N:Nat) (a0:(List Int)) (a1:Int):evFn E R sg_Z90 pol_Z90 F_Z90 N [⟨yL,a0⟩,⟨yI,a1⟩] = (Z90.l0 R N N a0 a1 (0:Int)) := by kernel_rfl
noncomputable def Z98.l1 (R:Run) (N a n:Nat) (b:vM) (e:(List Int)) (f g h i j:Int) (k:(List Int)) (l:vK) (m:(List Int)):Option Dv := R.w (some ⟨(.c (.ip yM b 0)::(V.dead::(V.dead::(.c (.box 3 0)::(.c (.d yL e)::(V.dead::(.c (.arr 16)::(.c (.d yI f)::(.c (.arr 32)::(.c (.d yI g)::(zd 61 []))))))))))),(zo 3 (some (.box [.d yI h,.d yI i,.d yI j,.d yL k] false false)::(zo 12 (some (.arr yL l true false false)::(zo 15 (some (.arr yI m true false false)::(zo 39 [])))))))⟩) fun st => lC R pol_Z98 10 N [1,1,1,0,1,0,0,1,0,0,1,1,1,0,1,0,0] F_Z98 n st (kB R pol_Z98 2 (kS R pol_Z98 13 N [1,1,1,0,1,0,0,1,0,0,1,1,1,1] F_Z98 (kB R pol_Z98 1 (kS R pol_Z98 5 N [1,1,1,0,1,0,0,1,1] F_Z98 (kL R pol_Z98 4 N [1,1,1,0,1,0,0] F_Z98 a (kB R pol_Z98 0 (kS R pol_Z98 14 N [1,1,1,1] F_Z98 (kTop E sg_Z98 F_Z98))))))))
noncomputable def Z98.l0 (R:Run) (N n:Nat) (a:vM) (b:(List Int)) (e f g h:Int) (i:(List Int)) (j:vK):Option Dv := R.w (some ⟨(.c (.ip yM a 0)::(V.dead::(V.dead::(.c (.box 3 0)::(.c (.d yL b)::(V.dead::(.c (.arr 16)::(.c (.d yI e)::(zd 63 []))))))))),(zo 3 (some (.box [.d yI f,.d yI g,.d yI h,.d yL i] false false)::(zo 12 (some (.arr yL j true false false)::(zo 55 [])))))⟩) fun st => lC R pol_Z98 4 N [1,1,1,0,1,0,0] F_Z98 n st (kB R pol_Z98 0 (kS R pol_Z98 14 N [1,1,1,1] F_Z98 (kTop E sg_Z98 F_Z98)))
theorem Z98.l1_succ (R:Run) (hw:R.ok) (N a n:Nat) (b:vM) (c:(List Int)) (d e f g h:Int) (i:(List Int)) (j:vK) (k:(List Int)):Z98.l1 R N a (n + 1) b c d e f g h i j k = (bif (decide (e < (List.length c:Int))) then ((idx? c e).bind fun y29 => ((idx? i (w64 ((w64 (e * b.2.2.1)) + d))).bind fun y30 => ((callT R n_Z99 o_Z99 [⟨yI,(w64 (0 - (y30,()).1))⟩,⟨yI,b.1⟩]).bind fun r31 => ((chk (decide (0 ≤ (y29,()).1) && decide ((y29,()).1 < (List.length k:Int)))).bind fun _ => (Z98.l1 R N a n b c d (w64 (e + (1:Int))) f g h i j (List.set k (Int.toNat (y29,()).1) r31.1)))))) else ((chk (decide ((List.length j + List.length [k]) * 24 ≤ 70368744177664))).bind fun _ => (Z98.l0 R N a b c (w64 (d + (1:Int))) f g h i (j ++ [k])))) := (hw _ _).trans (by kernel_rfl)
theorem Z98.l0_succ (R:Run) (hw:R.ok) (N n:Nat) (a:vM) (b:(List Int)) (c d e f:Int) (g:(List Int)) (h:vK):Z98.l0 R N (n + 1) a b c d e f g h = (bif (decide (c < a.2.2.1)) then ((callT R n_Z90 o_Z90 [⟨yL,b⟩,⟨yI,c⟩]).bind fun r10 => (bif r10.1 then (Z98.l0 R N n a b (w64 (c + (1:Int))) d e f g h) else ((chk (decide (0 ≤ a.2.2.1) && decide (a.2.2.1 * 8 ≤ 70368744177664))).bind fun _ => ((chk (decide (0 ≤ c) && decide (c < (List.length (List.replicate (Int.toNat a.2.2.1) (0:Int)):Int)))).bind fun _ => (Z98.l1 R N n N a b c (0:Int) d e f g h (List.set (List.replicate (Int.toNat a.2.2.1) (0:Int)) (Int.toNat c) (1:Int))))))) else some ⟨o_Z98,(h,())⟩) := (hw _ _).trans (by kernel_rfl)
theorem Z98.ev (R:Run) (N:Nat) (a0:vM):evFn E R sg_Z98 pol_Z98 F_Z98 N [⟨(.ptr yM),a0⟩] = ((callT R n_Z100 o_Z100 [⟨(.ptr yM),a0⟩]).bind fun r1 => (Z98.l0 R N N a0 r1.2.2.2.2.1 (0:Int) r1.1 r1.2.1 r1.2.2.1 r1.2.2.2.1 ([]:List (List Int)))) := by kernel_rfl
noncomputable def Z97.l1 (R:Run) (N n:Nat) (a b:vM) (e f g h i j k:Int) (l:(List Int)):Option Dv := R.w (some ⟨(.c (.ip yM a 0)::(.c (.ip yM b 0)::(V.dead::(V.dead::(.c (.box 4 0)::(.c (.box 5 0)::(.c (.d yI e)::(zd 72 [])))))))),(zo 4 (some (.box [.d yI f,.d yI g,.d yI h,.nils yI] false false)::(some (.box [.d yI i,.d yI j,.d yI k,.arr 24] false false)::(zo 18 (some (.arr yI l true false false)::(zo 56 []))))))⟩) fun st => lC R pol_Z97 3 N [1,1,0,1,0,0] F_Z97 n st (kB R pol_Z97 0 (kS R pol_Z97 7 N [1,1,1] F_Z97 (kTop E sg_Z97 F_Z97)))
noncomputable def Z97.j0 (R:Run) (N:Nat) (a b:vM) (e f g h i j:Int) (k:(List Int)):Option Dv := R.w (some ⟨(.c (.ip yM a 0)::(.c (.ip yM b 0)::(V.dead::(V.dead::(.c (.box 4 0)::(.c (.box 5 0)::(zd 73 []))))))),(zo 4 (some (.box [.d yI e,.d yI f,.d yI g,.nils yI] false false)::(some (.box [.d yI h,.d yI i,.d yI j,.arr 24] false false)::(zo 18 (some (.arr yI k true false false)::(zo 56 []))))))⟩) fun st => eC R pol_Z97 N [1,1] F_Z97 st (kTop E sg_Z97 F_Z97)
theorem Z97.l1_succ (R:Run) (hw:R.ok) (N n:Nat) (a b:vM) (c d e f g h i:Int) (j:(List Int)):Z97.l1 R N (n + 1) a b c d e f g h i j = (bif (decide (c < a.2.1)) then ((chk (decide (0 ≤ (w64 (c * a.2.2.1))) && decide ((w64 (c * a.2.2.1)) ≤ (w64 ((w64 (c + (1:Int))) * a.2.2.1))) && decide ((w64 ((w64 (c + (1:Int))) * a.2.2.1)) ≤ (List.length a.2.2.2.1:Int)))).bind fun _ => ((chk (decide ((List.length j + List.length (List.drop (Int.toNat (w64 (c * a.2.2.1))) (List.take (Int.toNat (w64 ((w64 (c + (1:Int))) * a.2.2.1))) a.2.2.2.1))) * 8 ≤ 70368744177664))).bind fun _ => ((chk (decide (0 ≤ (w64 (c * b.2.2.1))) && decide ((w64 (c * b.2.2.1)) ≤ (w64 ((w64 (c + (1:Int))) * b.2.2.1))) && decide ((w64 ((w64 (c + (1:Int))) * b.2.2.1)) ≤ (List.length b.2.2.2.1:Int)))).bind fun _ => ((chk (decide ((List.length (j ++ (List.drop (Int.toNat (w64 (c * a.2.2.1))) (List.take (Int.toNat (w64 ((w64 (c + (1:Int))) * a.2.2.1))) a.2.2.2.1))) + List.length (List.drop (Int.toNat (w64 (c * b.2.2.1))) (List.take (Int.toNat (w64 ((w64 (c + (1:Int))) * b.2.2.1))) b.2.2.2.1))) * 8 ≤ 70368744177664))).bind fun _ => (Z97.l1 R N n a b (w64 (c + (1:Int))) d e f g h i ((j ++ (List.drop (Int.toNat (w64 (c * a.2.2.1))) (List.take (Int.toNat (w64 ((w64 (c + (1:Int))) * a.2.2.1))) a.2.2.2.1))) ++ (List.drop (Int.toNat (w64 (c * b.2.2.1))) (List.take (Int.toNat (w64 ((w64 (c + (1:Int))) * b.2.2.1))) b.2.2.2.1)))))))) else some ⟨o_Z97,(g,h,i,j,())⟩) := (hw _ _).trans (by kernel_rfl)
theorem Z97.j0_eq (R:Run) (hw:R.ok) (N:Nat) (a b:vM) (c d e f g h:Int) (i:(List Int)):Z97.j0 R N a b c d e f g h i = (Z97.l1 R N N a b (0:Int) c d e f g h i) := (hw _ _).trans (by kernel_rfl)
theorem Z97.ev (R:Run) (N:Nat) (a0 a1:vM):evFn E R sg_Z97 pol_Z97 F_Z97 N [⟨(.ptr yM),a0⟩,⟨(.ptr yM),a1⟩] = (both (Z97.j0 R N a0 a1 (0:Int) (0:Int) (0:Int) a0.1 a0.2.1 (w64 (a0.2.2.1 + a1.2.2.1)) ([]:List Int)) (Z97.j0 R N a0 a1 (0:Int) (0:Int) (0:Int) a0.1 a0.2.1 (w64 (a0.2.2.1 + a1.2.2.1)) ([]:List Int))) := by kernel_rfl
noncomputable def Z101.l0 (R:Run) (N n:Nat) (a:vM) (b:(List Int)) (e f g h:Int) (i:(List Int)) (j k l:Int) (m o:(List Int)):Option Dv := R.w (some ⟨(.c (.ip yM a 0)::(zd 6 (.c (.box 7 0)::(.c (.box 8 0)::(.c (.d yL b)::(V.dead::(.c (.arr 34)::(.c (.d yI e)::(zd 57 []))))))))),(zo 7 (some (.box [.d yI f,.d yI g,.d yI h,.d yL i] false false)::(some (.box [.d yI j,.d yI k,.d yI l,.d yL m] false false)::(zo 25 (some (.arr yI o true false false)::(zo 37 []))))))⟩) fun st => lC R pol_Z101 6 N [1,1,1,1,1,0,1,0,0] F_Z101 n st (kB R pol_Z101 0 (kS R pol_Z101 11 N [1,1,1,1,1,1] F_Z101 (kTop E sg_Z101 F_Z101)))
theorem Z101.l0_succ (R:Run) (hw:R.ok) (N n:Nat) (a:vM) (b:(List Int)) (c d e f:Int) (g:(List Int)) (h i j:Int) (k l:(List Int)):Z101.l0 R N (n + 1) a b c d e f g h i j k l = (bif (decide (c < (List.length b:Int))) then ((idx? b c).bind fun y15 => (bif ((y15,()).1 == a.2.2.1) then some ⟨o_Z101,(([]:List Int),false,())⟩ else ((idx? b c).bind fun y16 => ((idx? k (w64 ((w64 (c * f)) + a.2.2.1))).bind fun y17 => ((chk (decide (0 ≤ (y16,()).1) && decide ((y16,()).1 < (List.length l:Int)))).bind fun _ => (Z101.l0 R N n a b (w64 (c + (1:Int))) d e f g h i j k (List.set l (Int.toNat (y16,()).1) (y17,()).1))))))) else some ⟨o_Z101,(l,true,())⟩) := (hw _ _).trans (by kernel_rfl)
theorem Z101.ev (R:Run) (N:Nat) (a0:vM) (a1:(List Int)):evFn E R sg_Z101 pol_Z101 F_Z101 N [⟨(.ptr yM),a0⟩,⟨yL,a1⟩] = ((callT R n_Z97 o_Z97 [⟨(.ptr yM),a0⟩,⟨(.ptr yM),(a0.1,a0.2.1,(1:Int),a1,())⟩]).bind fun r1 => ((callT R n_Z100 o_Z100 [⟨(.ptr yM),(r1.1,r1.2.1,r1.2.2.1,r1.2.2.2.1,())⟩]).bind fun r2 => ((chk (decide (0 ≤ a0.2.2.1) && decide (a0.2.2.1 * 8 ≤ 70368744177664))).bind fun _ => (Z101.l0 R N N a0 r2.2.2.2.2.1 (0:Int) r1.1 r1.2.1 r1.2.2.1 r1.2.2.2.1 r2.1 r2.2.1 r2.2.2.1 r2.2.2.2.1 (List.replicate (Int.toNat a0.2.2.1) (0:Int)))))) := by kernel_rfl
theorem Z116.ev (R:Run) (N:Nat) (a0:vM) (a1:(List Int)):evFn E R sg_Z116 pol_Z116 F_Z116 N [⟨(.ptr yM),a0⟩,⟨yL,a1⟩] = ((callT R n_Z101 o_Z101 [⟨(.ptr yM),a0⟩,⟨yL,a1⟩]).bind fun r1 => some ⟨o_Z116,(r1.2.1,())⟩) := by kernel_rfl
theorem Z117.ev (R:Run) (N:Nat) (a0:vM) (a1:(List Int)):evFn E R sg_Z117 pol_Z117 F_Z117 N [⟨(.ptr yM),a0⟩,⟨yL,a1⟩] = ((callT R n_Z97 o_Z97 [⟨(.ptr yM),a0⟩,⟨(.ptr yM),(a0.1,a0.2.1,(1:Int),a1,())⟩]).bind fun r1 => some ⟨o_Z117,(r1.1,r1.2.1,r1.2.2.1,r1.2.2.2.1,())⟩) := by kernel_rfl
noncomputable def Z114.l0 (R:Run) (N n:Nat) (a:vK) (b e f g:Int) (h:(List Int)) (i:vK):Option Dv := R.w (some ⟨(V.dead::(.c (.d yK a)::(.c (.box 2 0)::(V.dead::(V.dead::(.c (.arr 7)::(.c (.d yI b)::(zd 27 [])))))))),(none::(none::(some (.box [.d yI e,.d yI f,.d yI g,.d yL h] false false)::(zo 4 (some (.arr yL i true false false)::(zo 32 []))))))⟩) fun st => lC R pol_Z114 3 N [1,1,0,1,0,0] F_Z114 n st (kB R pol_Z114 0 (kS R pol_Z114 8 N [1,1,1] F_Z114 (kTop E sg_Z114 F_Z114)))
theorem Z114.l0_succ (R:Run) (hw:R.ok) (N n:Nat) (a:vK) (b c d e:Int) (f:(List Int)) (g:vK):Z114.l0 R N (n + 1) a b c d e f g = (bif (decide (b < (List.length a:Int))) then ((idx? a b).bind fun y8 => ((callT R n_Z116 o_Z116 [⟨(.ptr yM),(c,d,e,f,())⟩,⟨yL,(y8,()).1⟩]).bind fun r9 => (bif (!r9.1) then ((idx? a b).bind fun y10 => ((callT R n_Z92 o_Z92 [⟨yL,(y10,()).1⟩]).bind fun r11 => ((chk (decide ((List.length g + List.length [r11.1]) * 24 ≤ 70368744177664))).bind fun _ => ((idx? a b).bind fun y12 => ((callT R n_Z117 o_Z117 [⟨(.ptr yM),(c,d,e,f,())⟩,⟨yL,(y12,()).1⟩]).bind fun r13 => (Z114.l0 R N n a (w64 (b + (1:Int))) r13.1 r13.2.1 r13.2.2.1 r13.2.2.2.1 (g ++ [r11.1]))))))) else (Z114.l0 R N n a (w64 (b + (1:Int))) c d e f g)))) else some ⟨o_Z114,(g,())⟩) := (hw _ _).trans (by kernel_rfl)
theorem Z114.ev (R:Run) (N:Nat) (a0 a1 a2:Int) (a3:(List Int)) (a4:vK):evFn E R sg_Z114 pol_Z114 F_Z114 N [⟨yI,a0⟩,⟨yI,a1⟩,⟨yI,a2⟩,⟨yL,a3⟩,⟨yK,a4⟩] = (Z114.l0 R N N a4 (0:Int) a0 a1 a2 a3 ([]:List (List Int))) := by kernel_rfl
theorem Z112.ev (R:Run) (N:Nat) (a0:(vK × Unit)) (a1 a2:Int):evFn E R sg_Z112 pol_Z112 F_Z112 N [⟨(.ptr (.cons yK .nil)),a0⟩,⟨yI,a1⟩,⟨yI,a2⟩] = ((callT R n_Z113 o_Z113 [⟨(.ptr (.cons yK .nil)),a0⟩,⟨yI,a1⟩,⟨yI,a2⟩]).bind fun r1 => ((callT R n_Z113 o_Z113 [⟨(.ptr (.cons yK .nil)),a0⟩,⟨yI,(w64 (a1 + (1:Int)))⟩,⟨yI,a2⟩]).bind fun r2 => ((callT R n_Z98 o_Z98 [⟨(.ptr yM),(r1.1,r1.2.1,r1.2.2.1,r1.2.2.2.1,())⟩]).bind fun r3 => ((callT R n_Z114 o_Z114 [⟨yI,r2.1⟩,⟨yI,r2.2.1⟩,⟨yI,r2.2.2.1⟩,⟨yL,r2.2.2.2.1⟩,⟨yK,r3.1⟩]).bind fun r4 => some ⟨o_Z112,(r4.1,())⟩)))) := by kernel_rfl
theorem Z88.ev (R:Run) (N:Nat) (a0:vK) (a1 a2:Int):evFn E R sg_Z88 pol_Z88 F_Z88 N [⟨yK,a0⟩,⟨yI,a1⟩,⟨yI,a2⟩] = ((callT R n_Z111 o_Z111 [⟨(.ptr (.cons yK .nil)),(a0,())⟩,⟨yI,a1⟩,⟨yI,a2⟩]).bind fun r1 => (bif (r1.1 != (0:Int)) then some ⟨o_Z88,(([]:List (List Int)),r1.1,())⟩ else ((callT R n_Z112 o_Z112 [⟨(.ptr (.cons yK .nil)),(a0,())⟩,⟨yI,a1⟩,⟨yI,a2⟩]).bind fun r2 => some ⟨o_Z88,(r2.1,(0:Int),())⟩))) := by kernel_rfl
noncomputable def Z35.l0 (R:Run) (N n:Nat) (a:(List Int)) (b:Int):Option Dv := R.w (some ⟨(.c (.d yL a)::(V.dead::(V.dead::(.c (.d yI b)::(zd 16 []))))),(zo 21 [])⟩) fun st => lC R pol_Z35 2 N [1,0,1,0,0] F_Z35 n st (kB R pol_Z35 0 (kS R pol_Z35 6 N [1,1] F_Z35 (kTop E sg_Z35 F_Z35)))
theorem Z35.l0_succ (R:Run) (hw:R.ok) (N n:Nat) (a:(List Int)) (b:Int):Z35.l0 R N (n + 1) a b = (bif (decide (b < (List.length a:Int))) then ((idx? a (w64 (b - (1:Int)))).bind fun y3 => ((idx? a b).bind fun y4 => (bif (decide ((y3,()).1 ≥ (y4,()).1)) then some ⟨o_Z35,(false,())⟩ else (Z35.l0 R N n a (w64 (b + (1:Int))))))) else some ⟨o_Z35,(true,())⟩) := (hw _ _).trans (by kernel_rfl)
theorem Z35.ev (R:Run) (N:Nat) (a0:(List Int)):evFn E R sg_Z35 pol_Z35 F_Z35 N [⟨yL,a0⟩] = (Z35.l0 R N N a0 (1:Int)) := by kernel_rfl
theorem Z50.ev (R:Run) (N:Nat) (a0 a1 a2:Int):evFn E R sg_Z50 pol_Z50 F_Z50 N [⟨yI,a0⟩,⟨yI,a1⟩,⟨yI,a2⟩] = (bif (decide (a0 ≥ a1)) then some ⟨o_Z50,((decide (a0 ≤ a2)),())⟩ else some ⟨o_Z50,(false,())⟩) := by kernel_rfl
theorem Z36.ev (R:Run) (N:Nat) (a0:Int):evFn E R sg_Z36 pol_Z36 F_Z36 N [⟨yI,a0⟩] = ((callT R n_Z50 o_Z50 [⟨yI,a0⟩,⟨yI,(0:Int)⟩,⟨yI,(9:Int)⟩]).bind fun r1 => some ⟨o_Z36,(r1.1,())⟩) := by kernel_rfl
theorem Z12.ev (R:Run) (N:Nat) (a0:Int):evFn E R sg_Z12 pol_Z12 F_Z12 N [⟨yI,a0⟩] = ((callT R n_Z36 o_Z36 [⟨yI,a0⟩]).bind fun r1 => some ⟨o_Z12,((!r1.1),())⟩) := by kernel_rfl
noncomputable def Z84.l0 (R:Run) (N n:Nat) (a:(List Int)) (b e:Int):Option Dv := R.w (some ⟨(.c (.d yL a)::(.c (.d (.fn n_Z12 .nil) ())::(zd 5 (.c (.d yI b)::(.c (.d yI e)::(zd 10 [])))))),(zo 21 [])⟩) fun st => lC R pol_Z83 2 N [1,0,1,0,0] F_Z83 n st (kB R pol_Z83 0 (kS R pol_Z83 7 N [1,1] F_Z83 (kTop E sg_Z83 F_Z83)))
theorem Z84.l0_succ (R:Run) (hw:R.ok) (N n:Nat) (a:(List Int)) (b c:Int):Z84.l0 R N (n + 1) a b c = (bif (decide (c < b)) then ((idx? a c).bind fun y4 => ((callT R n_Z12 o_Z12 [⟨yI,(y4,()).1⟩]).bind fun r5 => (bif r5.1 then some ⟨o_Z83,(c,())⟩ else (Z84.l0 R N n a b (w64 (c + (1:Int))))))) else some ⟨o_Z83,((-1:Int),())⟩) := (hw _ _).trans (by kernel_rfl)
theorem Z84.ev (R:Run) (N:Nat) (a0:(List Int)):evFn E R sg_Z83 pol_Z83 F_Z83 N [⟨yL,a0⟩,⟨(.fn n_Z12 .nil),()⟩] = (Z84.l0 R N N a0 (List.length a0:Int) (0:Int)) := by kernel_rfl
theorem Z76.ev (R:Run) (N:Nat) (a0:(List Int)):evFn E R sg_Z75 pol_Z75 F_Z75 N [⟨yL,a0⟩,⟨(.fn n_Z12 .nil),()⟩] = ((callT R n_Z83 o_Z83 [⟨yL,a0⟩,⟨(.fn n_Z12 .nil),()⟩]).bind fun r1 => some ⟨o_Z75,((decide (r1.1 ≥ (0:Int))),())⟩) := by kernel_rfl
theorem Z11.ev (R:Run) (N:Nat) (a0:(List Int)):evFn E R sg_Z11 pol_Z11 F_Z11 N [⟨yL,a0⟩] = (bif (decide ((List.length a0:Int) ≥ (1:Int))) then (bif (decide ((List.length a0:Int) ≤ (4:Int))) then ((callT R n_Z35 o_Z35 [⟨yL,a0⟩]).bind fun r1 => (bif r1.1 then ((callT R n_Z75 o_Z75 [⟨yL,a0⟩,⟨(.fn n_Z12 .nil),()⟩]).bind fun r2 => some ⟨o_Z11,((!r2.1),())⟩) else some ⟨o_Z11,(false,())⟩)) else some ⟨o_Z11,(false,())⟩) else some ⟨o_Z11,(false,())⟩) := by kernel_rfl
theorem Z3.ev (R:Run) (N:Nat) (a0:Int):evFn E R sg_Z3 pol_Z3 F_Z3 N [⟨yI,a0⟩] = some ⟨o_Z3,((a0 != a0),())⟩ := by kernel_rfl
theorem Z0.ev (R:Run) (N:Nat) (a0 a1:Int):evFn E R sg_Z0 pol_Z0 F_Z0 N [⟨yI,a0⟩,⟨yI,a1⟩] = ((callT R n_Z3 o_Z3 [⟨yI,a0⟩]).bind fun r1 => ((callT R n_Z3 o_Z3 [⟨yI,a1⟩]).bind fun r2 => (bif r1.1 then (bif r2.1 then some ⟨o_Z0,((0:Int),())⟩ else some ⟨o_Z0,((-1:Int),())⟩) else (bif r2.1 then some ⟨o_Z0,((1:Int),())⟩ else (bif (decide (a0 < a1)) then some ⟨o_Z0,((-1:Int),())⟩ else (bif (decide (a0 > a1)) then some ⟨o_Z0,((1:Int),())⟩ else some ⟨o_Z0,((0:Int),())⟩)))))) := by kernel_rfl
theorem Z4.ev (R:Run) (N:Nat) (a0:Int):evFn E R sg_Z4 pol_Z4 F_Z4 N [⟨yI,a0⟩] = some ⟨o_Z4,((a0 != a0),())⟩ := by kernel_rfl
theorem Z1.ev (R:Run) (N:Nat) (a0 a1:Int):evFn E R sg_Z1 pol_Z1 F_Z1 N [⟨yI,a0⟩,⟨yI,a1⟩] = ((callT R n_Z4 o_Z4 [⟨yI,a0⟩]).bind fun r1 => ((callT R n_Z4 o_Z4 [⟨yI,a1⟩]).bind fun r2 => (bif r1.1 then (bif r2.1 then some ⟨o_Z1,((0:Int),())⟩ else some ⟨o_Z1,((-1:Int),())⟩) else (bif r2.1 then some ⟨o_Z1,((1:Int),())⟩ else (bif (decide (a0 < a1)) then some ⟨o_Z1,((-1:Int),())⟩ else (bif (decide (a0 > a1)) then some ⟨o_Z1,((1:Int),())⟩ else some ⟨o_Z1,((0:Int),())⟩)))))) := by kernel_rfl
noncomputable def Z71.l0 (R:Run) (N n:Nat) (a b e:(List Int)) (f g:Int):Option Dv := R.w (some ⟨(.c (.d yL a)::(.c (.d yL b)::(zd 7 (.c (.d yL e)::(.c (.d yI f)::(.c (.d yI g)::(zd 24 []))))))),(zo 38 [])⟩) fun st => lC R pol_Z71 2 N [1,0,1,0,0] F_Z71 n st (kB R pol_Z71 0 (kS R pol_Z71 11 N [1,1] F_Z71 (kTop E sg_Z71 F_Z71)))
theorem Z71.l0_succ (R:Run) (hw:R.ok) (N n:Nat) (a b c:(List Int)) (d e:Int):Z71.l0 R N (n + 1) a b c d e = (bif (decide (e < d)) then ((idx? c e).bind fun y6 => (bif (decide (e ≥ (List.length b:Int))) then some ⟨o_Z71,((1:Int),())⟩ else ((idx? b e).bind fun y7 => ((callT R n_Z1 o_Z1 [⟨yI,(y6,()).1⟩,⟨yI,(y7,()).1⟩]).bind fun r8 => (bif (r8.1 != (0:Int)) then some ⟨o_Z71,(r8.1,())⟩ else (Z71.l0 R N n a b c d (w64 (e + (1:Int))))))))) else (bif (decide ((List.length a:Int) < (List.length b:Int))) then some ⟨o_Z71,((-1:Int),())⟩ else some ⟨o_Z71,((0:Int),())⟩)) := (hw _ _).trans (by kernel_rfl)
theorem Z71.ev (R:Run) (N:Nat) (a0 a1:(List Int)):evFn E R sg_Z71 pol_Z71 F_Z71 N [⟨yL,a0⟩,⟨yL,a1⟩] = (Z71.l0 R N N a0 a1 a0 (List.length a0:Int) (0:Int)) := by kernel_rfl
noncomputable def Z2.l0 (R:Run) (N n:Nat) (a:Int) (b:(List Int)) (e f:Int):Option Dv := R.w (some ⟨(zd 3 (.c (.d yI a)::(V.dead::(V.dead::(.c (.d yL b)::(.c (.d yI e)::(.c (.d yI f)::(zd 9 [])))))))),(zo 19 [])⟩) fun st => lC R pol_Z2 3 N [1,1,0,1,0,0] F_Z2 n st (kB R pol_Z2 0 (kS R pol_Z2 8 N [1,1,1] F_Z2 (kTop E sg_Z2 F_Z2)))
theorem Z2.l0_succ (R:Run) (hw:R.ok) (N n:Nat) (a:Int) (b:(List Int)) (c d:Int):Z2.l0 R N (n + 1) a b c d = (bif (decide (d < c)) then ((idx? b d).bind fun y5 => (bif ((y5,()).1 != a) then some ⟨o_Z2,((y5,()).1,())⟩ else (Z2.l0 R N n a b c (w64 (d + (1:Int)))))) else some ⟨o_Z2,(a,())⟩) := (hw _ _).trans (by kernel_rfl)
theorem Z2.ev (R:Run) (N:Nat) (a0:(List Int)):evFn E R sg_Z2 pol_Z2 F_Z2 N [⟨yL,a0⟩] = (Z2.l0 R N N (0:Int) a0 (List.length a0:Int) (0:Int)) := by kernel_rfl
theorem Z19.ev (R:Run) (N:Nat) (a0 a1:(List Int)):evFn E R sg_Z19 pol_Z19 F_Z19 N [⟨yL,a0⟩,⟨yL,a1⟩] = ((callT R n_Z0 o_Z0 [⟨yI,(List.length a0:Int)⟩,⟨yI,(List.length a1:Int)⟩]).bind fun r1 => ((callT R n_Z71 o_Z71 [⟨yL,a0⟩,⟨yL,a1⟩]).bind fun r2 => ((callT R n_Z2 o_Z2 [⟨yL,[r1.1,r2.1]⟩]).bind fun r3 => some ⟨o_Z19,(r3.1,())⟩))) := by kernel_rfl
end VeT
